/- Parts of the proof of the row WatBackUpto: loops, calls and stepping rules of the abstract layer; no condition. -/
import Derived.Test.YtohfclafhegadaaGreatDoorAbsA
import Derived.LoopNIn
import Derived.OrdersIn
import Derived.TacticsIn
import Derived.RangeFuncCalls
import Derived.Below
import Derived.RangeFuncLeaves
import Derived.Recover
set_option linter.unusedSimpArgs false
set_option linter.unusedVariables false
open List renaming mem_cons→ybC,any_cons→ybD,range→ya7,foldl_cons→ybE,all_eq_true→yaM,filter_cons_of_pos→ybG,filter_cons_of_neg→ybH,append_of_mem→ybJ,mem_append→ybh,nodup_append→ybK,eq_nil_or_concat→ybL,append_inj'→ybM,filter_append→ybN,mem_filter→ybO,filter_congr→ybP,nodup_cons→ybQ,filter_eq_self→ybR,length_eq_zero_iff→ybS,filter_eq_nil_iff→ybT,eq_nil_iff_forall_not_mem→ybU,elem_eq_contains→ybV,mapM_cons→yb0,getElem?_eq_getElem→yau,getElem?_eq_none→yb2,replicate→yaj,flatMap_map→yb5,map_flatMap→yb6,getElem_map→yak,append_nil→yb7
open Nat renaming not_lt_zero→yaA,testBit_or→ybF,strongRecOn→ybI,le_refl→yah,lt_of_lt_of_le→yag
open Option renaming some→yaR,bind_eq_some_iff→ybA,map_eq_some_iff→ybB,map_some→yaG
open Array renaming getD→yby,getD_eq_getD_getElem?→ybz,getElem?_setIfInBounds_ne→yaJ,getElem?_eq_some_iff→yaU,getElem?_eq_getElem→yar,replicate→ybW,getElem?_replicate→ybX,mem_push→ybY,getElem?_setIfInBounds→ybZ,size_append→ybg,size_replicate→yb1,getElem?_append_left→ybi,getElem?_append_right→ybj,mapM_eq_mapM_toList→yb3,getElem?_push→yaS,getElem?_toList→yb8,getElem_map→ya1,getElem_toList→yal
open Go.IntKind renaming wrap→yb4
namespace Go.Abs
open Go
def zaF(r:Option Nat):Fence:={ Fence.wide with round:=r }
theorem zf8(r:Option Nat):(zaF r).depth=none:=rfl
theorem zio{r:Option Nat}{n:Nat}{P:Program}{f:FuncId}{args:Array Value}{w:World}{R:Ending→World→Prop}(h:Calls P f args w R):CallsIn (zaF r) n P f args w R:=by
 have h1:CallsIn Fence.wide n P f args w R:=callsIn_wide.2 h
 cases r with
 | none=>exact h1
 | some l=>exact CallsIn.inRound l h1
theorem ziq{r:Option Nat}{n:Nat}{P:Program}{l:Nat}{f:FuncId}{tmps:Array Value}{assign body:Code}{w:World}{R:Ending→World→Prop}(h:RoundIn Fence.wide n P l f tmps assign body w R):RoundIn (zaF r) n P l f tmps assign body w R:=h
inductive AExit where
 | normal
 | exit (id:Nat)
 | ret
 | panic (v:AV)
abbrev AQ:=AExit→(Nat→AV)→AS→Prop
def ze4:Nat→AV:=fun _=>.undef
structure AG where
 g:Option (Nat × Bool)
 t:TypeId
 x:Operand
 d:Nat
structure PO where
 dst:Option Nat
 op:Op
 guard:Option (Nat × Bool):=none
 again:List AG:=[]
def zbm(a:Nat→AV)(g:Option (Nat × Bool))(yes no:Prop):Prop :=
 match g with
 | none=>yes
 | some (d,want) =>
  match a d with
  | .bool b=>(b=want→yes)∧(b≠want→no)
  | .tuple []=>no
  | _=>False
def zbW:Op→Option Nat
 | .next (.tmp x) _=>some x
 | .insert _ (.tmp x) _ _=>some x
 | _=>none
def zsj(P:Program)(G:Env)(op:Op)(a:Nat→AV)(x:Nat)(σ:AS)(K:AV→AV→AS→Prop):Prop :=
 match op with
 | .next _ false=>zoM (a x) σ K
 | .next _ true=>zk9 (a x) σ K
 | .insert t _ k v=>zcy P t (a x) (ev G a k) (ev G a v) σ fun m σ'=>K m (.tuple []) σ'
 | _=>False
def zbD(P:Program)(G:Env)(op:Op)(dst:Option Nat)(a:Nat→AV)(σ:AS)(K:(Nat→AV)→AS→Prop)(Q:AQ):Prop :=
 match zbW op with
 | some x=>zsj P G op a x σ fun v2 v σ'=>K (put (upd a x v2) dst v) σ'
 | none =>
  if zco op then zbH P (ev G a) op fun v=>K (put a dst v) σ
  else zva P G (ev G a) σ (fun v σ'=>K (put a dst v) σ') (fun v σ'=>Q (.panic v) ze4 σ') op
def zet(P:Program)(G:Env)(a:Nat→AV)(σ:AS):List AG→Prop
 | []=>True
 | g::r=>zbm a g.g (zcF P g.t (ev G a g.x) σ fun v=>v=a g.d) True∧zet P G a σ r
def zeZ(P:Program)(G:Env)(Q:AQ):List PO→(Nat→AV)→AS→Prop
 | [],a,σ=>Q .normal a σ
 | o::rest,a,σ =>
  zbm a o.guard (zbD P G o.op o.dst a σ (fun a' σ'=>zet P G a' σ' o.again∧zeZ P G Q rest a' σ') Q) (zeZ P G Q rest (put a o.dst (.tuple [])) σ)
def zdg(l:List PO)(a:Nat→AV):Nat→AV:=fun t=>if l.any (fun o=>o.dst==some t)then .undef else a t
def zbX(pf:Nat→AV)(Q:AQ):AQ
 | .panic v,_,σ=>Q (.panic v) pf σ
 | e,a,σ=>Q e a σ
def zbd(K:(Nat→AV)→AS→Prop)(Q:AQ):AQ
 | .normal,a,σ=>K a σ
 | e,a,σ=>Q e a σ
def za2(id:Nat)(Q:AQ):AQ
 | .exit i,a,σ=>if i=id then Q .normal a σ else Q (.exit i) a σ
 | e,a,σ=>Q e a σ
def zir(n:Nat):Option Nat→Bool
 | some d=>decide (d<n)
 | none=>true
structure Fr(M:Mp)(F:Nat→FSt)(w:World)(a:Nat→AV)(ac:Act)(n:Nat):Prop where
 size:ac.tmps.size=n
 val:∀t,VR M F w (a t) (ac.tmps.getD t undef)
def zdl(M:Mp)(F:Nat→FSt)(w:World):AExit→Exit→Prop
 | .normal,.normal=>True
 | .exit i,.exit j=>i=j
 | .ret,.ret=>True
 | .panic v,.panic ch=>∃v',ch=[{ v:=v',recovered:=false }]∧VR M F w v v'
 | _,_=>False
def QC(P:Program)(G:Env)(n:Nat)(D:List Deferred)(M0:Mp)(F0:Nat→FSt)(w0:World)(Q:AQ)(e:Exit)(ac:Act)(w:World):Prop :=
 ∃e' a σ M,Q e' a σ∧zdl M σ.F w e' e∧Sim M σ w∧GOk P G M σ.F w∧Ext M0 F0 w0 M σ.F w∧Fr M σ.F w a ac n∧ac.defers=D
def AWp(P:Program)(G:Env)(n:Nat)(c:Code)(Q:AQ)(a:Nat→AV)(σ:AS):Prop :=
 ∀(ro:Option Nat) (D:List Deferred) (M0:Mp) (F0:Nat→FSt) (w0:World) (M:Mp) (w:World) (ac:Act),Sim M σ w→GOk P G M σ.F w→Ext M0 F0 w0 M σ.F w→Fr M σ.F w a ac n→ac.defers=D →
  c.wpIn (zaF ro) 0 P (QC P G n D M0 F0 w0 Q) ac w
theorem zld{P G M F w a ac n}(g:GOk P G M F w)(f:Fr M F w a ac n)(x:Operand):VR M F w (ev G a x) (ac.eval x):=by
 cases x with
 | tmp t=>exact f.val t
 | const v=>exact zbb ..
 | global i=>exact g.vars i
 | func i=>exact .fn _ _ _ _ _ rfl rfl (fun j h=>absurd h (yaA _)) (fun j h=>absurd h (yaA _))
theorem Fr.mono{M F w M' F' w' a ac n}(f:Fr M F w a ac n)(E:Ext M F w M' F' w'):Fr M' F' w' a ac n:=⟨f.size,fun t=>(f.val t).mono E⟩
theorem Fr.put{M F w a ac n v v'}(f:Fr M F w a ac n){d:Option Tmp}(hd:zir n d=true)(hv:VR M F w v v'):Fr M F w (put a d v) (ac.put d v') n:=by
 cases d with
 | none=>exact f
 | some d =>
  simp[zir]at hd
  refine⟨by simp[Act.put,f.size],fun t=>?_⟩
  simp only[Act.put,Abs.put,upd]
  by_cases h:t=d
  ·subst h
   rw[if_pos rfl]
   rw[show(ac.tmps.setIfInBounds t v').getD t undef=v' by simp[yby,f.size,hd]]
   exact hv
  ·rw[if_neg h]
   rw[show(ac.tmps.setIfInBounds d v').getD t undef=ac.tmps.getD t undef by
    simp only[ybz];rw[yaJ (Ne.symm h)]]
   exact f.val t
theorem zf9{P G a σ K Q}{op:Op}{d:Option Nat}(h:zbD P G op d a σ K Q):∀c,op≠.defer c:=by
 rintro c rfl
 simp[zbD,zbW,zco,zva]at h
theorem zle{P:Program}{G:Env}{n:Nat}{o:Oper}{a:Nat→AV}{σ:AS}{K:(Nat→AV)→AS→Prop}{Q:AQ}(hnx:zbW o.op=none)(h:zbD P G o.op o.dst a σ K Q)
  {ro:Option Nat} {D:List Deferred} {M0 F0 w0 M w} {ac:Act} (S:Sim M σ w) (g:GOk P G M σ.F w) (E:Ext M0 F0 w0 M σ.F w) (hops:∀x∈o.op.operands,VR M σ.F w (ev G a x) (ac.eval x)) (hn:ac.tmps.size=n) (hD:ac.defers=D) {Kc:Act→World→Prop}
  (hK:∀v v' σ' M' w',K (put a o.dst v) σ'→VR M' σ'.F w' v v'→Sim M' σ' w'→GOk P G M' σ'.F w'→Ext M σ.F w M' σ'.F w'→Kc (ac.put o.dst v') w') :
  o.wpIn (zaF ro) 0 P ac w Kc (QC P G n D M0 F0 w0 Q):=by
 refine⟨fun _ _=>trivial,?_⟩
 have hsem:o.semAt (zaF ro).round ac.eval=execOp ac.eval o:=o.semAt_eq _ _ (zf9 h)
 rw[hsem]
 unfold zbD at h
 rw[hnx]at h
 simp only at h
 split at h
 ·obtain⟨v,hv,hq⟩:=zha h
  obtain⟨v',M',w',h1,h2,h3,h4⟩:=hq M σ.F w ac.eval S.role hops
  rw[h1,Oper.uponIn_value]
  exact hK v v' σ M' w' hv h2 (h4 σ rfl S) (g.mono h3) h3
 ·have hl:=zoN h S g (ρ:=ac.eval) hops
  generalize (execOp ac.eval o).run P w=r at hl
  have done:∀v' w',zfF M σ.F w (fun v σ'=>K (Abs.put a o.dst v) σ') v' w'→Kc (ac.put o.dst v') w':=by
   rintro v' w' ⟨v,σ',M',hv,h1,h2,h3⟩
   exact hK v v' σ' M' w' hv h1 h2 (g.mono h3) h3
  have fell:∀v' w',zfF M σ.F w (fun v σ'=>Q (.panic v) ze4 σ') v' w'→QC P G n D M0 F0 w0 Q (.panic [{ v:=v',recovered:=false }]) ac w':=by
   rintro v' w' ⟨v,σ',M',hv,h1,h2,h3⟩
   exact⟨.panic v,ze4,σ',M',hv,⟨v',rfl,h1⟩,h2,g.mono h3,E.trans h3,⟨hn,fun _=>.undef _⟩,hD⟩
  cases r with
  | ok x w' =>
   cases x<;>simp only[zwf]at hl<;>try exact hl.elim
   ·exact done _ _ hl
   ·exact done _ _ hl
   ·obtain⟨rfl,hl⟩:=hl
    rw[Oper.uponIn_enter]
    refine⟨fun h=>by simp[zf8]at h,(zio hl).mono fun e w'' he=>?_⟩
    cases e with
    | returned v'=>exact done _ _ he
    | panicked ch =>
     obtain⟨v',rfl,hp⟩:=he
     exact fell _ _ hp
    | outgrown=>exact he.elim
   ·obtain⟨rfl,hl⟩:=hl
    rw[Oper.uponIn_round]
    refine⟨fun h=>by simp[zf8]at h,(ziq hl).mono fun e w'' he=>?_⟩
    cases e with
    | returned v'=>exact done _ _ he
    | panicked ch =>
     obtain⟨v',rfl,hp⟩:=he
     exact fell _ _ hp
    | outgrown=>exact he.elim
  | halt x w' =>
   cases x<;>simp only[zwf]at hl<;>try exact hl.elim
   exact fell _ _ hl
theorem zaI(ac:Act)(d:Option Tmp)(v:Value):(ac.put d v).defers=ac.defers:=by unfold Act.put;split<;>rfl
theorem zoO{P:Program}{G:Env}{n:Nat}{o:Oper}{a:Nat→AV}{σ:AS}{K:(Nat→AV)→AS→Prop}{Q:AQ}(h:zbD P G o.op o.dst a σ K Q)(hd:zir n o.dst=true)
  {ro:Option Nat} {D:List Deferred} {M0 F0 w0 M w} {ac:Act} (S:Sim M σ w) (g:GOk P G M σ.F w) (E:Ext M0 F0 w0 M σ.F w) (f:Fr M σ.F w a ac n) (hD:ac.defers=D) {Kc:Act→World→Prop}
  (hK:∀a' σ' M' ac' w',K a' σ'→Sim M' σ' w'→GOk P G M' σ'.F w'→Ext M0 F0 w0 M' σ'.F w'→Fr M' σ'.F w' a' ac' n→ac'.defers=D→Kc ac' w') :
  o.wpIn (zaF ro) 0 P ac w Kc (QC P G n D M0 F0 w0 Q) :=
 by
 cases hnx:zbW o.op with
 | none=>exact zle hnx h S g E (fun x _=>zld g f x) f.size hD fun _ _ σ' M' w' k hv S' g' E'=>hK _ σ' M' _ w' k S' g' (E.trans E') ((f.mono E').put hd hv) (by rw[zaI,hD])
 | some x =>
  have hop:(∃b,o.op=.next (.tmp x) b)∨∃t k v,o.op=.insert t (.tmp x) k v:=by
   unfold zbW at hnx
   split at hnx
   ·rename_i y b hy;cases hnx;exact .inl ⟨b,hy⟩
   ·rename_i t y k v hy;cases hnx;exact .inr ⟨t,k,v,hy⟩
   ·cases hnx
  refine⟨fun _ _=>trivial,?_⟩
  have hsem:o.semAt (zaF ro).round ac.eval=execOp ac.eval o:=o.semAt_eq _ _ (zf9 h)
  rw[hsem]
  unfold zbD at h
  rw[hnx]at h
  simp only at h
  have e:ac.eval (.tmp x)=ac.tmps.getD x undef:=rfl
  obtain⟨x',nx,w',hnv,hrun,v2,v,σ',M',hk,hv2,hv,S',E'⟩:∃x' nx w',(nx=.value x'∨nx=.skip∧x'=undef)∧(execOp ac.eval o).run P w=.ok nx w'∧∃v2 v σ' M',K (put (upd a x v2) o.dst v) σ'∧VR M' σ'.F w' v2 (ac.tmps.getD x undef)∧VR M' σ'.F w' v x'∧Sim M' σ' w'∧Ext M σ.F w M' σ'.F w':=by
   rcases hop with ⟨b,hop⟩|⟨t,k,v,hop⟩
   ·rw[hop]at h
    obtain⟨x',w',h1,h2⟩:∃x' w',(Instr.next (ac.tmps.getD x undef) b o.type).run P w=.ok x' w'∧∃v2 v σ' M',K (put (upd a x v2) o.dst v) σ'∧VR M' σ'.F w' v2 (ac.tmps.getD x undef)∧VR M' σ'.F w' v x'∧Sim M' σ' w'∧Ext M σ.F w M' σ'.F w':=by
     cases b with
     | false =>
      simp only[zsj]at h
      exact zmv (P:=P) (t:=o.type) h S (f.val x)
     | true =>
      simp only[zsj]at h
      exact zla (P:=P) (t:=o.type) h S (f.val x)
    refine⟨x',.value x',w',.inl rfl,?_,h2⟩
    unfold execOp;simp only[hop]
    rw[Sem.run_bind,e,h1]
    rfl
   ·rw[hop]at h
    simp only[zsj]at h
    obtain⟨w',h1,m2,σ',M',hk,hm2,S',E'⟩:=zjF (P:=P) h S (f.val x) (zld g f k) (zld g f v)
    refine⟨undef,.skip,w',.inr ⟨rfl,rfl⟩,?_,m2,.tuple [],σ',M',hk,hm2,.tuple _ _ rfl (fun j h=>absurd h (yaA _)),S',E'⟩
    unfold execOp;simp only[hop]
    rw[Sem.run_bind,e,h1]
    rfl
  rw[hrun]
  have hgo:Kc (ac.put o.dst x') w'→o.uponIn (zaF ro) 0 P ac Kc (QC P G n D M0 F0 w0 Q) (.ok nx w'):=fun q=>by
   rcases hnv with rfl|⟨rfl,rfl⟩
   ·rw[Oper.uponIn_value];exact q
   ·exact q
  refine hgo ?_
  have f2:Fr M' σ'.F w' (upd a x v2) ac n:=⟨f.size,fun t=>by
   simp only[upd]
   by_cases ht:t=x
   ·subst ht;rw[if_pos rfl];exact hv2
   ·rw[if_neg ht];exact(f.val t).mono E'⟩
  exact hK _ σ' M' _ w' hk S' (g.mono E') (E.trans E') (f2.put hd hv) (by rw[zaI,hD])
def zbt(ops:Array Oper)(o:Oper):Option (Option (Nat × Bool)) :=
 match o.guard with
 | none=>some none
 | some (j,want) =>
  match (ops[j]?).bind (·.dst)with
  | some d=>some (some (d,want))
  | none=>none
theorem zcY{ops:Array Oper}{o:Oper}{g:Option (Nat × Bool)}(hg:zbt ops o=some g){M F w}{a:Nat→AV}{ac:Act}(f:∀d want,g=some (d,want)→VR M F w (a d) (ac.tmps.getD d undef))
  {yes no:Prop} (h:zbm a g yes no):(Region.wanted o (yielded ops ac.tmps)=true∧yes)∨(Region.wanted o (yielded ops ac.tmps)=false∧no):=by
 unfold zbt at hg
 split at hg
 ·rename_i hn
  cases hg
  exact .inl ⟨by simp[Region.wanted,hn],h⟩
 ·rename_i j want hj
  split at hg
  ·rename_i d hd
   cases hg
   have hv:=f d want rfl
   have hy:yielded ops ac.tmps j=match ac.tmps[d]? with|some (.bool b)=>some b|_=>none:=by
    unfold yielded;rw[hd];rfl
   simp only[zbm]at h
   split at h
   ·rename_i b hb
    rw[hb]at hv
    have hc:=hv.bool_inv
    have he:ac.tmps[d]?=some (.bool b):=by
     rw[ybz]at hc
     cases hq:ac.tmps[d]? with
     | none=>rw[hq]at hc;cases hc
     | some x=>rw[hq]at hc;simp at hc;rw[hc]
    rw[he]at hy
    simp only at hy
    by_cases hbw:b=want
    ·exact .inl ⟨by simp[Region.wanted,hj,hy,hbw],h.1 hbw⟩
    ·exact .inr ⟨by simp[Region.wanted,hj,hy];exact hbw,h.2 hbw⟩
   ·rename_i hb
    rw[hb]at hv
    have he:∀b,ac.tmps[d]?≠some (.bool b):=by
     intro b hq
     rw[ybz,hq]at hv
     simp at hv
     cases hv
    have hy2:yielded ops ac.tmps j=none:=by
     rw[hy];split
     ·exact absurd ‹_› (he _)
     ·rfl
    exact .inr ⟨by simp[Region.wanted,hj,hy2],h⟩
   ·exact h.elim
  ·cases hg
theorem zmA{ops:Array Oper}{o:Oper}{g:Option (Nat × Bool)}(hg:zbt ops o=some g){M F w a ac n}(f:Fr M F w a ac n){yes no:Prop}(h:zbm a g yes no):
  (Region.wanted o (yielded ops ac.tmps)=true∧yes)∨(Region.wanted o (yielded ops ac.tmps)=false∧no):=zcY hg (fun d _ _=>f.val d) h
def zhl(ops:Array Oper)(o:Oper)(again:List AG):Option PO:=(zbt ops o).map fun g=>⟨o.dst,o.op,g,again⟩
def zbe(n:Nat)(ops:Array Oper):List Oper→Option (List PO)
 | []=>some []
 | o::r=>if zir n o.dst then(zhl ops o []).bind fun p=>(zbe n ops r).map fun l=>p::l else none
theorem ze5(M F w):VR M F w (.tuple []) undef:=.tuple _ _ rfl fun _ h=>absurd h (yaA _)
theorem plain_sound{P:Program}{G:Env}{n:Nat}{ops:Array Oper}{Q:AQ}{ro:Option Nat}{D:List Deferred}{M0 F0 w0}:
  ∀(l:List Oper) (pl:List PO) (a:Nat→AV) (σ:AS) (M:Mp) (w:World) (ac:Act),zbe n ops l=some pl→zeZ P G Q pl a σ→Sim M σ w→GOk P G M σ.F w→Ext M0 F0 w0 M σ.F w→Fr M σ.F w a ac n →
   ac.defers=D→wpListIn (zaF ro) 0 P ops (QC P G n D M0 F0 w0 Q) l ac w:=by
 intro l
 induction l with
 | nil =>
  intro pl a σ M w ac hp h S g E f hD
  simp only[zbe,yaR.injEq]at hp
  subst hp
  exact⟨.normal,a,σ,M,h,trivial,S,g,E,f,hD⟩
 | cons o r ih =>
  intro pl a σ M w ac hp h S g E f hD
  simp only[zbe]at hp
  split at hp
  ·rename_i hd
   simp only[zhl]at hp
   cases hg:zbt ops o with
   | none=>simp[hg]at hp
   | some gd =>
    cases hr:zbe n ops r with
    | none=>simp[hg,hr]at hp
    | some pr =>
     simp[hg,hr]at hp
     subst hp
     simp only[zeZ]at h
     unfold wpListIn
     rcases zmA hg f h with ⟨hw,hy⟩|⟨hw,hno⟩
     ·rw[if_pos hw]
      refine zoO hy hd S g E f hD (fun a' σ' M' ac' w' hK S' g' E' f' hD'=>?_)
      exact ih pr a' σ' M' w' ac' hr hK.2 S' g' E' f' hD'
     ·rw[if_neg (by rw[hw];simp)]
      refine⟨fun _ _=>trivial,?_⟩
      exact ih pr _ σ M w _ hr hno S g E (f.put hd (ze5 ..)) (by rw[zaI,hD])
  ·cases hp
def zcZ(W:Nat→Bool)(a a':Act):Prop:=∀t,W t=false→a'.tmps.getD t undef=a.tmps.getD t undef
theorem zcZ.refl(W a):zcZ W a a:=fun _ _=>rfl
theorem zcZ.trans{W a b c}(h:zcZ W a b)(k:zcZ W b c):zcZ W a c:=fun t ht=>(k t ht).trans (h t ht)
theorem zcZ.put{W:Nat→Bool}{a:Act}{d:Option Tmp}{v:Value}(h:∀t,d=some t→W t=true):zcZ W a (a.put d v):=by
 intro t ht
 cases d with
 | none=>rfl
 | some d =>
  have hne:d≠t:=by rintro rfl;rw[h d rfl]at ht;cases ht
  simp only[Act.put,ybz,yaJ hne]
def zoP(W:Nat→Bool)(a:Act)(Q:Exit→Act→World→Prop):Exit→Act→World→Prop:=fun e a' w'=>Q e a' w'∧(e≠.outgrown→zcZ W a a')
theorem LetsOut.kept{W a Q}(h:LetsOut Q):LetsOut (zoP W a Q):=let ⟨a0,w0,h⟩:=h;⟨a0,w0,h,fun e=>absurd rfl e⟩
theorem zsk(a:Act)(D:List Deferred)(d:Option Tmp)(v:Value):({ a with defers:=D }.put d v).tmps=(a.put d v).tmps:=by cases d<;>rfl
theorem zga{F:Fence}{n:Nat}{P:Program}{o:Oper}{a a0:Act}{w:World}{K K':Act→World→Prop}{Q:Exit→Act→World→Prop}{W:Nat→Bool}(h0:zcZ W a0 a)
  (h:o.wpIn F n P a w K Q) (hK:∀v a' w',a'.tmps=(a.put o.dst v).tmps→K a' w'→K' a' w'):o.wpIn F n P a w K' (zoP W a0 Q):=by
 refine⟨h.1,?_⟩
 have h2:=h.2
 generalize (o.semAt F.round a.eval).run P w=r at h2
 cases r with
 | ok x w' =>
  cases x with
  | value v=>exact hK _ _ _ rfl h2
  | skip=>exact hK _ _ _ rfl h2
  | defer d=>exact hK _ _ _ (zsk ..) h2
  | enter f args =>
   refine⟨h2.1,h2.2.mono fun e w'' he=>?_⟩
   cases e with
   | returned v=>exact hK _ _ _ rfl he
   | panicked ch=>exact⟨he,fun _=>h0⟩
   | outgrown=>exact LetsOut.kept he
  | round l f tmps assign body =>
   refine⟨h2.1,h2.2.mono fun e w'' he=>?_⟩
   cases e with
   | returned v=>exact hK _ _ _ rfl he
   | panicked ch=>exact⟨he,fun _=>h0⟩
   | outgrown=>exact LetsOut.kept he
  | row row args=>exact⟨h2.1,h2.2.mono fun v w'' he=>hK _ _ _ rfl he⟩
  | _=>exact h2.elim
 | halt x w' =>
  cases x with
  | panic v=>exact⟨h2,fun _=>h0⟩
  | _=>exact h2.elim
theorem zcZ.of_tmps{W a b c}(h:zcZ W a b)(e:c.tmps=b.tmps):zcZ W a c:=fun t ht=>by rw[e];exact h t ht
theorem zc0{F:Fence}{n:Nat}{P:Program}{ops:Array Oper}{Q:Exit→Act→World→Prop}{W:Nat→Bool}{a0:Act}:∀(l:List Oper) (a:Act) (w:World),(∀o∈l,∀t,o.dst=some t→W t=true)→zcZ W a0 a →
  wpListIn F n P ops Q l a w→wpListIn F n P ops (zoP W a0 Q) l a w
 | [],a,w,_,h0,h=>⟨h,fun _=>h0⟩
 | o::l,a,w,hd,h0,h=>by
  unfold wpListIn at h ⊢
  have hp:∀v,zcZ W a0 (a.put o.dst v):=fun v=>h0.trans (.put (hd o (by simp)))
  split at h
  ·rename_i hw
   rw[if_pos hw]
   exact zga h0 h fun v a' w' e hk=>zc0 l _ w' (fun x hx=>hd x (by simp[hx])) ((hp v).of_tmps e) hk
  ·rename_i hw
   rw[if_neg hw]
   exact⟨h.1,zc0 l _ w (fun x hx=>hd x (by simp[hx])) (hp _) h.2⟩
theorem zcp{F:Fence}{n:Nat}{P:Program}{md:Region.Mode}{ops:Array Oper}{Q:Exit→Act→World→Prop}{W:Nat→Bool}{a0:Act}(hd:∀(i:Nat) (o:Oper),ops[i]?=some o→∀t,o.dst=some t→W t=true):
  ∀(fuel:Nat) (listed:Array Bool) (a:Act) (w:World),zcZ W a0 a→wpAnyIn F n P md ops Q fuel listed a w→wpAnyIn F n P md ops (zoP W a0 Q) fuel listed a w
 | 0,listed,a,w,h0,h=>⟨h.1,h.2,fun _=>h0⟩
 | fuel+1,listed,a,w,h0,h=>by
  refine⟨fun hr=>⟨h.1 hr,fun _=>h0⟩,fun i hi=>?_⟩
  have h2:=h.2 i hi
  unfold wpOpIn at h2 ⊢
  cases ho:ops[i]? with
  | none =>
   simp only[ho]at h2 ⊢
   exact zcp hd fuel _ a w h0 h2
  | some o =>
   simp only[ho]at h2 ⊢
   have hp:∀v,zcZ W a0 (a.put o.dst v):=fun v=>h0.trans (.put (hd i o ho))
   split at h2
   ·rename_i hw
    rw[if_pos hw]
    exact zga h0 h2 fun v a' w' e hk=>zcp hd fuel _ _ w' ((hp v).of_tmps e) hk
   ·rename_i hw
    rw[if_neg hw]
    exact⟨h2.1,zcp hd fuel _ _ w (hp _) h2.2⟩
theorem zwg{P G n D M0 F0 w0}{Q:AQ}{l:List PO}{a:Nat→AV}{M:Mp}{F:Nat→FSt}{w:World}{ac:Act}(E0:Ext M0 F0 w0 M F w)(f:Fr M F w a ac n){e:Exit}{ac':Act}{w':World}
  (h:zoP (fun t=>l.any fun o=>o.dst==some t) ac (QC P G n D M F w (zbX (zdg l a) Q)) e ac' w'):QC P G n D M0 F0 w0 Q e ac' w':=by
 obtain⟨⟨e',a',σ',M',q,r,S',g',E',f',hD'⟩,hk⟩:=h
 cases e' with
 | panic v =>
  cases e<;>simp only[zdl]at r
  refine⟨.panic v,zdg l a,σ',M',q,r,S',g',E0.trans E',⟨f'.size,fun t=>?_⟩,hD'⟩
  unfold zdg
  cases hw:l.any fun o=>o.dst==some t with
  | true=>simpa using VR.undef _
  | false =>
   rw[hk (by simp) t hw]
   simpa using (f.val t).mono E'
 | normal=>exact⟨.normal,a',σ',M',q,r,S',g',E0.trans E',f',hD'⟩
 | exit i=>exact⟨.exit i,a',σ',M',q,r,S',g',E0.trans E',f',hD'⟩
 | ret=>exact⟨.ret,a',σ',M',q,r,S',g',E0.trans E',f',hD'⟩
theorem ze6{n:Nat}{ops:Array Oper}:∀(l:List Oper) (pl:List PO),zbe n ops l=some pl→∀o∈l,∀t,o.dst=some t→(pl.any fun o=>o.dst==some t)=true
 | [],_,_,o,ho,_,_=>by cases ho
 | x::l,pl,hp,o,ho,t,ht=>by
  simp only[zbe]at hp
  split at hp
  ·simp only[zhl,ybA,ybB]at hp
   obtain⟨p,⟨gd,hgd,rfl⟩,pr,hpr,rfl⟩:=hp
   rcases ybC.1 ho with rfl|ho
   ·simp[ht]
   ·have:=ze6 l pr hpr o ho t ht
    simp only[ybD,this,Bool.or_true]
  ·cases hp
theorem zlf{P:Program}{G:Env}{n id:Nat}{ops:Array Oper}{pl:List PO}(hp:zbe n ops ops.toList=some pl){Q:AQ}{a σ}(h:zeZ P G (zbX (zdg pl a) Q) pl a σ):AWp P G n (.region id ops false) Q a σ :=
 fun _ _ _ _ _ M w ac S g E f hD=>wpIn_mono (wpIn_region_list (zc0 (W:=fun t=>pl.any fun o=>o.dst==some t) (a0:=ac) _ _ _ (fun o ho t ht=>ze6 _ _ hp o ho t ht) (zcZ.refl _ _) (plain_sound ops.toList pl a σ M w ac hp h S g (.refl ..) f hD)))
  fun _ _ _ hq=>zwg E f hq
def zlg:Op→Bool
 | .load ..=>true
 | _=>false
def zbN(ops:Array Oper)(o:Oper):List Nat :=
 (o.op.operands.toList.filterMap fun|.tmp t=>some t|_=>none)++(match o.guard with|some (j,_)=>((ops[j]?).bind (·.dst)).toList|none=>[])
def zar(e:Edge):Bool:=Region.binds .any e
def zaQ(A:Array Nat)(k i:Nat):Bool:=(A.getD i 0).testBit k
def zlh(ops:Array Oper)(A:Array Nat):Bool :=
 (ya7 ops.size).all fun i =>
  match ops[i]? with
  | some o=>A.getD i 0==o.after.toList.foldl (fun s e=>if zar e then s ||| 2^e.on ||| A.getD e.on 0 else s) 0
  | none=>false
theorem zli{α:Type}(p:α→Bool)(f:α→Nat)(k:Nat):∀(l:List α) (s:Nat),
  (l.foldl (fun s e=>if p e then s ||| f e else s) s).testBit k=true↔(s.testBit k=true∨∃e∈l,p e=true∧(f e).testBit k=true):=by
 intro l
 induction l with
 | nil=>intro s;simp
 | cons e l ih =>
  intro s
  simp only[ybE,ih,ybC,exists_eq_or_imp]
  by_cases hp:p e=true
  ·simp only[hp,if_true,ybF,Bool.or_eq_true,true_and]
   constructor
   ·rintro ((h|h)|h)
    ·exact .inl h
    ·exact .inr (.inl h)
    ·exact .inr (.inr h)
   ·rintro (h|h|h)
    ·exact .inl (.inl h)
    ·exact .inl (.inr h)
    ·exact .inr h
  ·simp[hp]
theorem zlj{ops:Array Oper}{A:Array Nat}(h:zlh ops A=true){i:Nat}{o:Oper}(ho:ops[i]?=some o){k:Nat}(hk:zaQ A k i=true):
  ∃e∈o.after.toList,zar e=true∧(e.on=k∨zaQ A k e.on=true):=by
 have hi:i<ops.size:=(yaU.1 ho).1
 simp only[zlh,yaM,List.mem_range]at h
 have:=h i hi
 rw[ho]at this
 simp only[beq_iff_eq]at this
 unfold zaQ at hk
 rw[this]at hk
 have e2:(fun(s:Nat) (e:Edge)=>if zar e then s ||| 2^e.on ||| A.getD e.on 0 else s)=fun s e=>if zar e then s ||| (2^e.on ||| A.getD e.on 0)else s:=by
  funext s e;rw[Nat.or_assoc]
 rw[e2,zli]at hk
 rcases hk with h0|⟨e,he,hb,hbit⟩
 ·simp at h0
 ·refine⟨e,he,hb,?_⟩
  rw[ybF,Bool.or_eq_true]at hbit
  rcases hbit with h1|h1
  ·left
   rw[Nat.testBit_two_pow]at h1
   simpa using h1
  ·right;exact h1
def isE(o:Oper):Bool:=!(zco o.op)&&!(zlg o.op)
def zek(ops:Array Oper)(i:Nat):Option Nat:=(ops[i]?).bind fun(o:Oper)=>o.dst
structure zfH(n:Nat)(ops:Array Oper)(A:Array Nat)(π:List Nat):Prop where
 mask:zlh ops A=true
 nodup:π.Nodup
 all:∀i,i<ops.size→i∈π
 lt:∀i∈π,i<ops.size
 edges:∀d1 i d2 (o:Oper) (e:Edge),π=d1++i::d2→ops[i]?=some o→e∈o.after.toList→zar e=true→e.on∈d1
 slots:∀i j (oi oj:Oper) t,i≠j→ops[i]?=some oi→ops[j]?=some oj→oi.dst=some t→(t∈zbN ops oj∨oj.dst=some t)→zaQ A i j=true∨zaQ A j i=true
 late:∀d1 e d2 (oe:Oper) i,π=d1++e::d2→ops[e]?=some oe→isE oe=true→i∈d2→zaQ A e i=true
 dst:∀(i:Nat) (o:Oper),ops[i]?=some o→zir n o.dst=true
 nx:∀(i:Nat) (o:Oper),ops[i]?=some o→zbW o.op=none
 keep:∀d1 j d2 e d3 (oj oe:Oper) t x,π=d1++j::(d2++e::d3)→ops[j]?=some oj→oj.op=.load t x→ops[e]?=some oe→isE oe=true→zaQ A j e=false →
  ∃d,oj.dst=some d∧∀k∈j::(d2++[e]),(∀s∈zbN ops oj,zek ops k≠some s)∧(k≠j→zek ops k≠some d)
 sel:Region.noSelect ops=true
def afr(ops:Array Oper)(val:Nat→AV):List Nat→(Nat→AV)→(Nat→AV)
 | [],a=>a
 | i::l,a=>afr ops val l (put a (zek ops i) (val i))
theorem zaJ{ops val}:∀(l m:List Nat) (a:Nat→AV),afr ops val (l++m) a=afr ops val m (afr ops val l a)
 | [],_,_=>rfl
 | i::l,m,a=>by simp only[List.cons_append,afr];exact zaJ l m _
theorem ziK{a:Nat→AV}{d:Option Nat}{v:AV}{t:Nat}(h:d≠some t):put a d v t=a t:=by
 cases d with
 | none=>rfl
 | some d=>simp only[put,upd];rw[if_neg (fun e=>h (by rw[e]))]
theorem zpT{a:Nat→AV}{v:AV}{t:Nat}:put a (some t) v t=v:=by simp[put,upd]
theorem zpU{a b:Nat→AV}{d:Option Nat}{v:AV}{t:Nat}(h:a t=b t):put a d v t=put b d v t:=by
 cases d with
 | none=>exact h
 | some d=>simp only[put,upd];split<;>first|rfl|exact h
theorem zhm{ops val}:∀(l:List Nat) (a b:Nat→AV) (t:Nat),a t=b t→afr ops val l a t=afr ops val l b t
 | [],_,_,_,h=>h
 | _::l,_,_,t,h=>zhm l _ _ t (zpU h)
theorem ziL{ops val}(t:Nat)(p:Nat→Bool):∀(l:List Nat) (a:Nat→AV),(∀i∈l,p i=false→zek ops i≠some t)→afr ops val (l.filter p) a t=afr ops val l a t
 | [],_,_=>rfl
 | i::l,a,h=>by
  have ih:=fun a=>ziL (ops:=ops) (val:=val) t p l a (fun j hj=>h j (by simp[hj]))
  cases hp:p i with
  | true=>rw[ybG hp];exact ih _
  | false =>
   rw[ybH (by simp[hp]),ih]
   simp only[afr]
   exact zhm l _ _ t (ziK (h i (by simp) hp)).symm
theorem ze7{ops val}(t:Nat):∀(l:List Nat) (a:Nat→AV),(∀i∈l,zek ops i≠some t)→afr ops val l a t=a t
 | [],_,_=>rfl
 | i::l,a,h=>by
  simp only[afr]
  rw[ze7 t l _ (fun j hj=>h j (by simp[hj])),ziK (h i (by simp))]
def zdy(ops:Array Oper)(A:Array Nat)(e:Nat):List Nat→List AG
 | []=>[]
 | j::r =>
  match ops[j]? with
  | some o=>match o.op,o.dst,zbt ops o with
   | .load t x,some d,some g=>if zaQ A j e then zdy ops A e r else⟨g,t,x,d⟩::zdy ops A e r
   | _,_,_=>zdy ops A e r
  | none=>zdy ops A e r
def zaV(ops:Array Oper)(A:Array Nat):List Nat→List Nat→Option (List PO)
 | _,[]=>some []
 | done,i::r =>
  match ops[i]? with
  | some o=>(zhl ops o (if isE o then zdy ops A i done else [])).bind fun p=>(zaV ops A (done++[i]) r).map fun l=>p::l
  | none=>none
def QEv(P:Program)(G:Env)(o:Oper)(a:Nat→AV)(σ:AS)(v:AV):Prop :=
 (zco o.op=true∧zjA P o (ev G a) v)∨∃t x,o.op=.load t x∧zcF P t (ev G a x) σ fun u=>u=v
def zHE(P:Program)(G:Env)(ops:Array Oper)(o:Oper)(a:Nat→AV)(σ:AS)(v:AV):Prop :=
 ∃g,zbt ops o=some g∧((zbm a g True False∧QEv P G o a σ v)∨(zbm a g False True∧v=.tuple []))
theorem zmB{a:Nat→AV}{g:Option (Nat × Bool)}{yes no:Prop}(h:zbm a g yes no):(zbm a g True False∧yes)∨(zbm a g False True∧no):=by
 unfold zbm at *
 split at h
 ·exact .inl ⟨trivial,h⟩
 ·rename_i d want
  cases hd:a d<;>simp only[hd]at h ⊢<;>try exact h.elim
  ·rename_i b
   by_cases e:b=want
   ·exact .inl ⟨⟨fun _=>trivial,fun h'=>h' e⟩,h.1 e⟩
   ·exact .inr ⟨⟨fun h'=>e h',fun _=>trivial⟩,h.2 e⟩
  ·rename_i vs
   cases vs with
   | nil=>exact .inr ⟨trivial,h⟩
   | cons=>exact h.elim
theorem zpV{a:Nat→AV}{g:Option (Nat × Bool)}{yes no:Prop}(h:zbm a g True False)(hc:zbm a g yes no):yes:=by
 unfold zbm at *
 split at h
 ·exact hc
 ·rename_i d want
  cases hd:a d<;>simp only[hd]at h hc<;>try exact h.elim
  ·rename_i b
   by_cases e:b=want
   ·exact hc.1 e
   ·exact(h.2 e).elim
  ·rename_i vs
   cases vs with
   | nil=>exact h.elim
   | cons=>exact h.elim
theorem zmC{a b:Nat→AV}{g:Option (Nat × Bool)}{yes no:Prop}(h:∀d w,g=some (d,w)→a d=b d):zbm a g yes no=zbm b g yes no:=by
 unfold zbm
 cases g with
 | none=>rfl
 | some p=>simp only[h p.1 p.2 rfl]
theorem znH{G:Env}{a b:Nat→AV}{x:Operand}(h:∀t,x=.tmp t→a t=b t):ev G a x=ev G b x:=by
 cases x with
 | tmp t=>exact h t rfl
 | _=>rfl
theorem zsl{P:Program}{t p σ}{K:AV→Prop}(h:zcF P t p σ K):∃v,K v∧zcF P t p σ fun u=>u=v:=by
 have part:∀{g n off cs} {K:AV→Prop},zaA g n off cs K→∃v,K v∧zaA g n off cs fun u=>u=v:=by
  intro g n off cs K h
  unfold zaA at *
  split at h
  ·rename_i hg;exact⟨_,h.2,by rw[if_pos hg];exact⟨h.1,rfl⟩⟩
  ·rename_i hg;obtain⟨v,h1,h2⟩:=h;exact⟨v,h2,by rw[if_neg hg];exact⟨v,h1,rfl⟩⟩
 unfold zcF at *
 split at h
 ·obtain⟨cs,n,h1,h2,h3⟩:=h
  obtain⟨v,h4,h5⟩:=part h3
  exact⟨v,h4,cs,n,h1,h2,h5⟩
 ·obtain⟨h1,n,h2,h3⟩:=h
  split at h3
  ·rename_i hg
   obtain⟨cs,rfl,h4,h5⟩:=h3
   exact⟨_,h5,h1,n,h2,by rw[if_pos hg];exact⟨cs,rfl,h4,rfl⟩⟩
  ·rename_i hg
   exact⟨_,h3.2,h1,n,h2,by rw[if_neg hg];exact⟨h3.1,rfl⟩⟩
 ·exact h.elim
theorem zsm{P:Program}{G:Env}{o:Oper}{a:Nat→AV}{σ:AS}{K:(Nat→AV)→AS→Prop}{Q:AQ}(hq:isE o=false)(h:zbD P G o.op o.dst a σ K Q):∃v,QEv P G o a σ v∧K (put a o.dst v) σ:=by
 have hnx:zbW o.op=none:=by
  cases hn:zbW o.op with
  | none=>rfl
  | some x =>
   have hop:(∃b,o.op=.next (.tmp x) b)∨∃t k v,o.op=.insert t (.tmp x) k v:=by
    unfold zbW at hn
    split at hn
    ·rename_i y b hy;cases hn;exact .inl ⟨b,hy⟩
    ·rename_i t y k v hy;cases hn;exact .inr ⟨t,k,v,hy⟩
    ·cases hn
   rcases hop with ⟨b,hop⟩|⟨t,k,v,hop⟩<;>simp[isE,zlg,zco,hop]at hq
 unfold zbD at h
 rw[hnx]at h
 simp only at h
 split at h
 ·rename_i hp
  obtain⟨v,h1,h2⟩:=zha h
  exact⟨v,.inl ⟨hp,h2⟩,h1⟩
 ·rename_i hp
  have hp':zco o.op=false:=by simpa using hp
  simp only[isE,hp',Bool.not_false,Bool.true_and,Bool.not_eq_false']at hq
  unfold zlg at hq
  split at hq
  ·rename_i t x ho
   rw[ho]at h
   simp only[zva]at h
   obtain⟨v,h1,h2⟩:=zsl h
   exact⟨v,.inr ⟨t,x,ho,h2⟩,h1⟩
  ·cases hq
theorem QEv.run{P:Program}{G:Env}{o:Oper}{a:Nat→AV}{σ:AS}{v:AV}(h:QEv P G o a σ v){M w}{ρ:Operand→Value}(S:Sim M σ w)(hops:∀x∈o.op.operands,VR M σ.F w (ev G a x) (ρ x)):
  ∃v' M' w',(execOp ρ o).run P w=.ok (.value v') w'∧VR M' σ.F w' v v'∧Ext M σ.F w M' σ.F w'∧Sim M' σ w':=by
 rcases h with ⟨_,hq⟩|⟨t,x,ho,hl⟩
 ·obtain⟨v',M',w',h1,h2,h3,h4⟩:=hq M σ.F w ρ S.role hops
  exact⟨v',M',w',h1,h2,h3,h4 σ rfl S⟩
 ·obtain⟨u,rfl,hh⟩:=zeH hl
  obtain⟨v',h1,h2⟩:=hh M w (ρ x) S (hops x (by rw[ho];simp[Op.operands]))
  refine⟨v',M,w,?_,h2,.refl ..,S⟩
  unfold execOp;simp only[ho];rw[Sem.run_bind,h1];rfl
theorem QEv.nodefer{P:Program}{G:Env}{o:Oper}{a:Nat→AV}{σ:AS}{v:AV}(h:QEv P G o a σ v):∀c,o.op≠.defer c:=by
 intro c hc
 rcases h with ⟨h1,_⟩|⟨t,x,h1,_⟩
 ·rw[hc]at h1;cases h1
 ·rw[hc]at h1;cases h1
section
variable {P : Program} {G : Env} {n : Nat} {ops : Array Oper} {A : Array Nat} {π : List Nat} {Q : AQ} {a0 : Nat → AV}
theorem zdz(O:zfH n ops A π):∀(m:Nat) (d1:List Nat) (i:Nat) (d2:List Nat) (k:Nat),d1.length=m→π=d1++i::d2→zaQ A k i=true→k∈d1:=by
 intro m
 induction m using ybI with
 | _ m ih =>
  intro d1 i d2 k hm hπ hk
  have hi:i<ops.size:=O.lt i (by rw[hπ];simp)
  obtain⟨e,he,hb,h⟩:=zlj O.mask (yar hi) hk
  have hon:=O.edges d1 i d2 _ e hπ (yar hi) he hb
  rcases h with h|h
  ·rw[←h];exact hon
  ·obtain⟨x,y,rfl⟩:=ybJ hon
   have:=ih x.length (by rw[←hm];simp) x e.on (y++i::d2) k rfl (by rw[hπ];simp) h
   simp[this]
theorem ze8(O:zfH n ops A π){L:Nat→Bool}(hcl:∀i (o:Oper),L i=true→ops[i]?=some o→∀e∈o.after.toList,zar e=true→L e.on=true):
  ∀(m:Nat) (d1:List Nat) (i:Nat) (d2:List Nat) (k:Nat) (o:Oper),d1.length=m→π=d1++i::d2→ops[i]?=some o→(∀e∈o.after.toList,zar e=true→L e.on=true)→zaQ A k i=true→L k=true:=by
 intro m
 induction m using ybI with
 | _ m ih =>
  intro d1 i d2 k o hm hπ ho hr hk
  obtain⟨e,he,hb,h⟩:=zlj O.mask ho hk
  have hon:=O.edges d1 i d2 o e hπ ho he hb
  rcases h with h|h
  ·rw[←h];exact hr e he hb
  ·have hLe:=hr e he hb
   obtain⟨x,y,hxy⟩:=ybJ hon
   have hlt:e.on<ops.size:=O.lt e.on (by rw[hπ,hxy];simp)
   exact ih x.length (by rw[←hm,hxy];simp) x e.on (y++i::d2) k _ rfl (by rw[hπ,hxy];simp) (yar hlt) (fun e' he' hb'=>hcl e.on _ hLe (yar hlt) e' he' hb') h
theorem zdA(O:zfH n ops A π){i:Nat}(hi:i<ops.size):∃d1 d2,π=d1++i::d2:=by
 obtain⟨d1,d2,h⟩:=ybJ (O.all i hi);exact⟨d1,d2,h⟩
theorem za3{i:Nat}{o:Oper}(ho:ops[i]?=some o):zek ops i=o.dst:=by simp[zek,ho]
theorem zeK(O:zfH n ops A π){i k:Nat}{oi:Oper}(hi:ops[i]?=some oi)(hne:k≠i)(h1:zaQ A k i=false)(h2:zaQ A i k=false){t:Nat}(ht:t∈zbN ops oi∨oi.dst=some t):zek ops k≠some t:=by
 intro hk
 cases hok:ops[k]? with
 | none=>simp[zek,hok]at hk
 | some ok =>
  rw[za3 hok]at hk
  rcases O.slots k i ok oi t hne hok hi hk ht with h|h
  ·rw[h]at h1;cases h1
  ·rw[h]at h2;cases h2
theorem ziM{o:Oper}{g:Option (Nat × Bool)}(hg:zbt ops o=some g){d w}(h:g=some (d,w)):d∈zbN ops o:=by
 subst h
 unfold zbt at hg
 split at hg
 ·cases hg
 ·rename_i j want hj
  split at hg
  ·rename_i d' hd
   simp at hg
   unfold zbN
   rw[hj]
   simp only[hd]
   simp[hg.1]
  ·cases hg
theorem zgb{o:Oper}{x:Operand}(hx:x∈o.op.operands){t:Nat}(h:x=.tmp t):t∈zbN ops o:=by
 subst h
 unfold zbN
 rw[ybh,List.mem_filterMap]
 exact .inl ⟨_,by simpa using hx,rfl⟩
end
section
variable {P : Program} {G : Env} {n : Nat} {ops : Array Oper} {A : Array Nat} {π : List Nat} {Q : AQ} {a0 : Nat → AV}
theorem zdB{val val':Nat→AV}:∀(l:List Nat) (a:Nat→AV),(∀i∈l,val i=val' i)→afr ops val l a=afr ops val' l a
 | [],_,_=>rfl
 | i::l,a,h=>by
  simp only[afr]
  rw[h i (by simp)]
  exact zdB l _ fun j hj=>h j (by simp[hj])
structure zeL(P:Program)(G:Env)(n:Nat)(ops:Array Oper)(A:Array Nat)(π:List Nat)(Q:AQ)(a0:Nat→AV)(L:Nat→Bool)(done rest:List Nat)(val:Nat→AV)(σ:AS):Prop where
 split:π=done++rest
 closed:∀i (o:Oper),L i=true→ops[i]?=some o→∀e∈o.after.toList,zar e=true→L e.on=true
 sub:∀i,L i=true→i∈done
 eL:∀i∈done,∀o:Oper,ops[i]?=some o→isE o=true→L i=true
 pend:∀d1 i d2 (o:Oper),done=d1++i::d2→ops[i]?=some o→L i=false→zHE P G ops o (afr ops val d1 a0) σ (val i)
 vc:∃pl,zaV ops A done rest=some pl∧zeZ P G Q pl (afr ops val done a0) σ
def zAJ(ops:Array Oper)(rest:List Nat):Prop:=rest=[]∨∃e r,∃oe:Oper,rest=e::r∧ops[e]?=some oe∧isE oe=true
theorem zeL.norm(O:zfH n ops A π){L:Nat→Bool}:∀(rest done:List Nat) (val:Nat→AV) (σ:AS),zeL P G n ops A π Q a0 L done rest val σ →
  ∃done' rest' val',zeL P G n ops A π Q a0 L done' rest' val' σ∧zAJ ops rest'∧(∃q,done'=done++q∧∀i∈q,L i=false)∧∀i∈done,val' i=val i:=by
 intro rest
 induction rest with
 | nil=>intro done val σ h;exact⟨done,[],val,h,.inl rfl,⟨[],by simp,by simp⟩,fun _ _=>rfl⟩
 | cons i r ih =>
  intro done val σ h
  have hi:i<ops.size:=O.lt i (by rw[h.split];simp)
  have ho:ops[i]?=some ops[i]:=yar hi
  generalize ops[i]=o at ho
  cases hE:isE o with
  | true=>exact⟨done,i::r,val,h,.inr ⟨i,r,o,rfl,ho,hE⟩,⟨[],by simp,by simp⟩,fun _ _=>rfl⟩
  | false =>
   have hnd:=O.nodup
   rw[h.split]at hnd
   have hid:i∉done:=fun hm=>by
    rw[ybK]at hnd
    exact hnd.2.2 i hm i (by simp) rfl
   have hL:L i=false:=by
    cases hq:L i with
    | false=>rfl
    | true=>exact absurd (h.sub i hq) hid
   obtain⟨pl,hpl,hvc⟩:=h.vc
   simp only[zaV,ho,hE,zhl]at hpl
   cases hg:zbt ops o with
   | none=>simp[hg]at hpl
   | some g =>
    cases hr:zaV ops A (done++[i]) r with
    | none=>simp[hg,hr]at hpl
    | some pr =>
     simp[hg,hr]at hpl
     subst hpl
     simp only[zeZ]at hvc
     have key:∃v,zHE P G ops o (afr ops val done a0) σ v∧zeZ P G Q pr (put (afr ops val done a0) o.dst v) σ:=by
      rcases zmB hvc with ⟨h1,h2⟩|⟨h1,h2⟩
      ·obtain⟨v,h3,h4⟩:=zsm hE h2
       exact⟨v,⟨g,hg,.inl ⟨h1,h3⟩⟩,h4.2⟩
      ·exact⟨_,⟨g,hg,.inr ⟨h1,rfl⟩⟩,h2⟩
     obtain⟨v,hp,hv⟩:=key
     have hval:∀j∈done,val j=upd val i v j:=fun j hj=>(zf _ _ (by rintro rfl;exact hid hj)).symm
     have hst:zeL P G n ops A π Q a0 L (done++[i]) r (upd val i v) σ:=by
      refine⟨by rw[h.split];simp,h.closed,fun j hj=>by simp[h.sub j hj],fun j hj oj hoj hEj=>?_,fun d1 j d2 oj hs hoj hLj=>?_,pr,hr,?_⟩
      ·rcases ybh.1 hj with hj|hj
       ·exact h.eL j hj oj hoj hEj
       ·simp at hj;subst hj;rw[ho]at hoj;cases hoj;rw[hE]at hEj;cases hEj
      ·rcases ybL d2 with rfl|⟨d2',z,rfl⟩
       ·have:=ybM hs (by simp)
        obtain⟨rfl,h2⟩:=this
        simp at h2
        subst h2
        rw[ho]at hoj;cases hoj
        rw[ze,←zdB done a0 hval]
        exact hp
       ·have e1:done++[i]=(d1++j::d2')++[z]:=by rw[hs];simp
        have:=ybM e1 (by simp)
        obtain⟨e2,_⟩:=this
        have hj1:∀k∈d1,val k=upd val i v k:=fun k hk=>hval k (by rw[e2];simp[hk])
        rw[←zdB d1 a0 hj1,←hval j (by rw[e2];simp)]
        exact h.pend d1 j d2' oj e2 hoj hLj
      ·rw[zaJ,←zdB done a0 hval]
       simp only[afr,ze,za3 ho]
       exact hv
     obtain⟨done',rest',val',k1,k2,⟨q,k3,k4⟩,k5⟩:=ih _ _ _ hst
     refine⟨done',rest',val',k1,k2,⟨i::q,by rw[k3];simp,fun j hj=>?_⟩,fun j hj=>?_⟩
     ·rcases ybC.1 hj with rfl|hj
      ·exact hL
      ·exact k4 j hj
     ·rw[k5 j (by simp[hj]),←hval j hj]
theorem zAK(O:zfH n ops A π){L:Nat→Bool}{done rest:List Nat}{val:Nat→AV}{σ:AS}(h:zeL P G n ops A π Q a0 L done rest val σ){d1 d2:List Nat}{i:Nat}{o:Oper}(hs:π=d1++i::d2)(ho:ops[i]?=some o)
  (hLi:L i=false) (hready:∀e∈o.after.toList,zar e=true→L e.on=true) (hd:∃q,done=d1++q) {t:Nat} (ht:t∈zbN ops o) :
  afr ops val (done.filter L) a0 t=afr ops val d1 a0 t:=by
 obtain⟨q,hq⟩:=hd
 have hnd:=O.nodup
 -- none of those that are not zaQ of it writes the slot
 have hin:∀k,zaQ A k i=true→L k=true:=fun k hk=>ze8 O h.closed d1.length d1 i d2 k o rfl hs ho hready hk
 have hik:∀k,L k=true→zaQ A i k=false:=fun k hk=>by
  cases hq:zaQ A i k with
  | false=>rfl
  | true =>
   have hkd:=h.sub k hk
   have hkl:k<ops.size:=O.lt k (by rw[h.split];simp[hkd])
   obtain⟨x,y,hxy⟩:=zdA O hkl
   have:=ze8 O h.closed x.length x k y i _ rfl hxy (yar hkl) (fun e he hb=>h.closed k _ hk (yar hkl) e he hb) hq
   rw[hLi]at this;cases this
 have hd1:i∉d1:=fun hm=>by
  rw[hs,ybK]at hnd
  exact hnd.2.2 i hm i (by simp) rfl
 rw[hq,ybN,zaJ]
 rw[ze7 t (q.filter L)]
 ·refine ziL t L d1 a0 fun k hk hLk=>?_
  refine zeK O ho (fun e=>hd1 (e▸hk)) ?_ ?_ (.inl ht)
  ·cases hz:zaQ A k i with
   | false=>rfl
   | true=>rw[hin k hz]at hLk;cases hLk
  ·cases hz:zaQ A i k with
   | false=>rfl
   | true =>
    obtain⟨x,y,rfl⟩:=ybJ hk
    have:=zdz O x.length x k (y++i::d2) i rfl (by rw[hs];simp) hz
    exact absurd (by simp[this]) hd1
 ·intro k hk
  simp only[ybO]at hk
  have hki:k≠i:=fun e=>by rw[e,hLi]at hk;exact absurd hk.2 (by simp)
  refine zeK O ho hki ?_ (hik k hk.2) (.inl ht)
  cases hz:zaQ A k i with
  | false=>rfl
  | true =>
   have hkd1:=zdz O d1.length d1 i d2 k rfl hs hz
   have hkdone:k∈done:=h.sub k hk.2
   have hnd2:done.Nodup:=by have:=O.nodup;rw[h.split,ybK]at this;exact this.1
   rw[hq,ybK]at hnd2
   exact absurd rfl (hnd2.2.2 k hkd1 k hk.1)
theorem zfI{L:Nat→Bool}{i:Nat}{l:List Nat}(h:i∉l):l.filter (upd L i true)=l.filter L:=by
 apply ybP
 intro k hk
 exact zf _ _ (by rintro rfl;exact h hk)
theorem zdC{l m:List Nat}{i:Nat}(h:(l++i::m).Nodup):i∉l∧i∉m:=by
 rw[ybK]at h
 refine⟨fun hm=>h.2.2 i hm i (by simp) rfl,fun hm=>?_⟩
 have:=h.2.1
 rw[ybQ]at this
 exact this.1 hm
theorem zpW(hnd:π.Nodup){L:Nat→Bool}{i:Nat}(hi:i∈π)(hL:L i=false):(π.filter fun k=>!(upd L i true) k).length+1=(π.filter fun k=>!L k).length:=by
 obtain⟨x,y,rfl⟩:=ybJ hi
 obtain⟨h1,h2⟩:=zdC hnd
 have e:∀l:List Nat,i∉l→(l.filter fun k=>!(upd L i true) k)=l.filter fun k=>!L k:=by
  intro l hl
  apply ybP
  intro k hk
  rw[zf _ _ (by rintro rfl;exact hl hk)]
 rw[ybN,ybN,ybH (by simp[ze]),ybG (by simp[hL]),e x h1,e y h2]
 simp;omega
theorem zeL.done_all(O:zfH n ops A π){L:Nat→Bool}{done rest:List Nat}{val:Nat→AV}{σ:AS}(h:zeL P G n ops A π Q a0 L done rest val σ)(hall:∀i∈π,L i=true):
  Q .normal (afr ops val (done.filter L) a0) σ:=by
 have hr:rest=[]:=by
  cases rest with
  | nil=>rfl
  | cons e r =>
   have:=h.sub e (hall e (by rw[h.split];simp))
   have hnd:=O.nodup
   rw[h.split]at hnd
   exact absurd this (zdC hnd).1
 subst hr
 obtain⟨pl,hpl,hvc⟩:=h.vc
 simp[zaV]at hpl
 subst hpl
 have:done.filter L=done:=ybR.2 fun i hi=>hall i (by rw[h.split];simp[hi])
 rw[this]
 exact hvc
theorem zlk(O:zfH n ops A π){listed:Array Bool}(hsz:listed.size=ops.size)(hr:Region.ready .any ops listed=[]):∀i∈π,listed.getD i false=true:=by
 have key:∀(m:Nat) (d1 d2:List Nat),d1.length=m→π=d1++d2→∀k∈d1,listed.getD k false=true:=by
  intro m
  induction m with
  | zero=>intro d1 d2 hm _ k hk;rw[ybS.1 hm]at hk;simp at hk
  | succ m ih =>
   intro d1 d2 hm hs k hk
   rcases ybL d1 with rfl|⟨d,z,rfl⟩
   ·simp at hm
   ·have hd:=ih d (z::d2) (by simpa using hm) (by rw[hs];simp)
    simp only[List.concat_eq_append,ybh,List.mem_singleton]at hk
    rcases hk with hk|rfl
    ·exact hd k hk
    ·cases hq:listed.getD k false with
     | true=>rfl
     | false =>
      have hlt:k<ops.size:=O.lt k (by rw[hs];simp)
      have:k∈Region.ready .any ops listed:=by
       rw[mem_ready]
       refine⟨?_,ops[k],yar hlt,fun e he hb=>?_⟩
       ·have hk':k<listed.size:=by omega
        simp only[yby,hk']at hq ⊢
        exact hq
       ·exact hd _ (O.edges d k d2 _ e (by rw[hs];simp) (yar hlt) (by simpa using he) hb)
      rw[hr]at this;simp at this
 exact key π.length π [] rfl (by simp)
end
section
variable {P : Program} {G : Env} {n : Nat} {ops : Array Oper} {A : Array Nat} {π : List Nat} {Q : AQ} {a0 : Nat → AV} {D : List Deferred} {M0 : Mp} {F0 : Nat → FSt} {w0 : World}
theorem zhn(O:zfH n ops A π){L:Nat→Bool}{done rest:List Nat}{val:Nat→AV}{σ:AS}(h:zeL P G n ops A π Q a0 L done rest val σ){d1 d2:List Nat}{i:Nat}{o:Oper}(hs:π=d1++i::d2)(ho:ops[i]?=some o)
  (hLi:L i=false) (hready:∀e∈o.after.toList,zar e=true→L e.on=true) (hd:∃q,done=d1++q) {M:Mp} {w:World} {ac:Act} (g:GOk P G M σ.F w) (f:Fr M σ.F w (afr ops val (done.filter L) a0) ac n) :
  (∀x∈o.op.operands,VR M σ.F w (ev G (afr ops val d1 a0) x) (ac.eval x))∧∀gd,zbt ops o=some gd→∀d want,gd=some (d,want)→VR M σ.F w (afr ops val d1 a0 d) (ac.tmps.getD d undef):=by
 refine⟨fun x hx=>?_,fun gd hg d want hgd=>?_⟩
 ·rw[←znH (a:=afr ops val (done.filter L) a0) fun t ht=>zAK O h hs ho hLi hready hd (zgb hx ht)]
  exact zld g f x
 ·rw[←zAK O h hs ho hLi hready hd (ziM hg hgd)]
  exact f.val d
theorem QEv.again{o:Oper}{a:Nat→AV}{σ σ':AS}{v:AV}(h:QEv P G o a σ v)(hl:∀t x,o.op=.load t x→zcF P t (ev G a x) σ' fun u=>u=v):QEv P G o a σ' v:=by
 rcases h with h|⟨t,x,ho,_⟩
 ·exact .inl h
 ·exact .inr ⟨t,x,ho,hl t x ho⟩
theorem zpX{e:Nat}{a:Nat→AV}{σ:AS}:∀(l:List Nat),zet P G a σ (zdy ops A e l)→∀j∈l,∀(o:Oper) t x d g,ops[j]?=some o→o.op=.load t x→o.dst=some d→zbt ops o=some g→zaQ A j e=false →
  zbm a g (zcF P t (ev G a x) σ fun v=>v=a d) True:=by
 intro l
 induction l with
 | nil=>intro _ j hj;simp at hj
 | cons k r ih =>
  intro h j hj o t x d g ho hop hd hg hah
  rcases ybC.1 hj with rfl|hj
  ·simp only[zdy,ho,hop,hd,hg,hah]at h
   exact h.1
  ·refine ih ?_ j hj o t x d g ho hop hd hg hah
   simp only[zdy]at h
   split at h
   ·split at h
    ·split at h
     ·exact h
     ·exact h.2
    ·exact h
   ·exact h
theorem zpY{ro:Option Nat}(O:zfH n ops A π):∀(fuel:Nat) (listed:Array Bool) (done rest:List Nat) (val:Nat→AV) (σ:AS) (M:Mp) (w:World) (ac:Act),
  listed.size=ops.size→(π.filter fun k=>!(listed.getD k false)).length=fuel→zeL P G n ops A π Q a0 (fun k=>listed.getD k false) done rest val σ→zAJ ops rest →
  Sim M σ w→GOk P G M σ.F w→Ext M0 F0 w0 M σ.F w→Fr M σ.F w (afr ops val (done.filter fun k=>listed.getD k false) a0) ac n→ac.defers=D →
  wpAnyIn (zaF ro) 0 P .any ops (QC P G n D M0 F0 w0 Q) fuel listed ac w:=by
 intro fuel
 induction fuel with
 | zero =>
  intro listed done rest val σ M w ac hsz hfu hst hhd S g E f hD
  have hall:∀i∈π,listed.getD i false=true:=by
   intro i hi
   have:=ybS.1 hfu
   rw[ybT]at this
   simpa using this i hi
  refine⟨?_,_,_,σ,M,hst.done_all O hall,trivial,S,g,E,f,hD⟩
  rw[ybU]
  intro i hi
  rw[mem_ready]at hi
  obtain⟨h1,o,ho,_⟩:=hi
  have hlt:=(yaU.1 ho).1
  have h2:=hall i (O.all i hlt)
  have hlt':i<listed.size:=by omega
  rw[ybz,yar hlt']at h1 h2
  simp only[Option.getD_some]at h1 h2
  rw[h2]at h1;cases h1
 | succ fuel ih =>
  intro listed done rest val σ M w ac hsz hfu hst hhd S g E f hD
  refine⟨fun hr=>⟨_,_,σ,M,hst.done_all O (zlk O hsz hr),trivial,S,g,E,f,hD⟩,fun i hi=>?_⟩
  rw[mem_ready]at hi
  obtain⟨h1,o,ho,hready0⟩:=hi
  have hready:∀e∈o.after.toList,zar e=true→listed.getD e.on false=true:=fun e he hb=>hready0 e (by simpa using he) hb
  have hlt:=(yaU.1 ho).1
  have hlt':i<listed.size:=by omega
  have hLi:listed.getD i false=false:=by
   simp only[yby,hlt']at h1 ⊢
   exact h1
  have hLset:(fun k=>(listed.setIfInBounds i true).getD k false)=upd (fun k=>listed.getD k false) i true:=by
   funext k
   by_cases hk:k=i
   ·subst hk;rw[ze];simp[yby,hlt']
   ·rw[zf _ _ hk]
    simp only[ybz]
    rw[yaJ (Ne.symm hk)]
  have hsz':(listed.setIfInBounds i true).size=ops.size:=by simpa using hsz
  have hfu':(π.filter fun k=>!((listed.setIfInBounds i true).getD k false)).length=fuel:=by
   have:=zpW O.nodup (L:=fun k=>listed.getD k false) (O.all i hlt) hLi
   have e2:(fun k=>!((listed.setIfInBounds i true).getD k false))=fun k=>!(upd (fun k=>listed.getD k false) i true) k:=by funext k;rw[←hLset]
   rw[e2]
   omega
  have hclosed':∀j (oj:Oper),upd (fun k=>listed.getD k false) i true j=true→ops[j]?=some oj→∀e∈oj.after.toList,zar e=true→upd (fun k=>listed.getD k false) i true e.on=true:=by
   intro j oj hj hoj e he hb
   have key:listed.getD e.on false=true:=by
    by_cases hji:j=i
    ·subst hji;rw[ho]at hoj;cases hoj;exact hready e he hb
    ·rw[zf _ _ hji]at hj;exact hst.closed j oj hj hoj e he hb
   by_cases hei:e.on=i
   ·rw[hei,ze]
   ·rw[zf _ _ hei];exact key
  have hnd:(done++rest).Nodup:=by rw[←hst.split];exact O.nodup
  unfold wpOpIn
  rw[ho]
  simp only
  by_cases hid:i∈done
  · -- a quiet operation that has been looked at
   obtain⟨d1,d2,hdone⟩:=ybJ hid
   have hs:π=d1++i::(d2++rest):=by rw[hst.split,hdone];simp
   obtain⟨hops,hgs⟩:=zhn O hst hs ho hLi hready ⟨i::d2,hdone⟩ g f
   obtain⟨gd,hgd,hcase⟩:=hst.pend d1 i d2 o hdone ho hLi
   obtain⟨hn1,hn2⟩:=zdC (l:=d1) (m:=d2) (by rw[←hdone];exact(ybK.1 hnd).1)
   -- the frame behind it
   have hfr:∀t,afr ops val (done.filter (upd (fun k=>listed.getD k false) i true)) a0 t=put (afr ops val (done.filter fun k=>listed.getD k false) a0) o.dst (val i) t:=by
    intro t
    have e1:done.filter (upd (fun k=>listed.getD k false) i true)=d1.filter (fun k=>listed.getD k false)++i::d2.filter fun k=>listed.getD k false:=by
     rw[hdone,ybN,ybG (by rw[ze]),zfI hn1,zfI hn2]
    have e2:done.filter (fun k=>listed.getD k false)=d1.filter (fun k=>listed.getD k false)++d2.filter fun k=>listed.getD k false:=by
     rw[hdone,ybN,ybH (by rw[hLi];simp)]
    rw[e1,e2,zaJ,zaJ]
    simp only[afr,za3 ho]
    by_cases ht:o.dst=some t
    ·rw[ze7,ht,zpT,zpT]
     intro k hk
     simp only[ybO]at hk
     refine zeK O ho (fun e=>hn2 (e▸hk.1)) ?_ ?_ (.inr ht)
     ·cases hz:zaQ A k i with
      | false=>rfl
      | true =>
       have hk1:=zdz O d1.length d1 i (d2++rest) k rfl hs hz
       have:=(ybK.1 hnd).1
       rw[hdone,ybK]at this
       exact absurd rfl (this.2.2 k hk1 k (by simp[hk.1]))
     ·cases hz:zaQ A i k with
      | false=>rfl
      | true =>
       obtain⟨x,y,hxy⟩:=zdA O (O.lt k (by rw[hst.split,hdone];simp[hk.1]))
       have hkl:k<ops.size:=O.lt k (by rw[hst.split,hdone];simp[hk.1])
       have:=ze8 O hst.closed x.length x k y i _ rfl hxy (yar hkl) (fun e he hb=>hst.closed k _ hk.2 (yar hkl) e he hb) hz
       rw[hLi]at this;cases this
    ·rw[ziK ht]
     exact zhm _ _ _ t (ziK ht)
   have hstage:zeL P G n ops A π Q a0 (fun k=>(listed.setIfInBounds i true).getD k false) done rest val σ:=by
    rw[hLset]
    refine⟨hst.split,hclosed',fun j hj=>?_,fun j hj oj hoj hEj=>?_,fun e1 j e2 oj hs' hoj hLj=>?_,hst.vc⟩
    ·by_cases hji:j=i
     ·rw[hji];exact hid
     ·rw[zf _ _ hji]at hj;exact hst.sub j hj
    ·by_cases hji:j=i
     ·rw[hji,ze]
     ·rw[zf _ _ hji];exact hst.eL j hj oj hoj hEj
    ·by_cases hji:j=i
     ·rw[hji,ze]at hLj;cases hLj
     ·rw[zf _ _ hji]at hLj;exact hst.pend e1 j e2 oj hs' hoj hLj
   have hgo:∀(v':Value) (M':Mp) (w':World),VR M' σ.F w' (val i) v'→Sim M' σ w'→Ext M σ.F w M' σ.F w'→wpAnyIn (zaF ro) 0 P .any ops (QC P G n D M0 F0 w0 Q) fuel (listed.setIfInBounds i true) (ac.put o.dst v') w':=by
    intro v' M' w' hv S' E'
    refine ih _ done rest val σ M' w' _ hsz' hfu' hstage hhd S' (g.mono E') (E.trans E') ?_ (by rw[zaI,hD])
    have f':=(f.mono E').put (O.dst i o ho) hv
    rw[hLset]
    exact⟨f'.size,fun t=>by rw[hfr t];exact f'.val t⟩
   rcases hcase with ⟨hc,hq⟩|⟨hc,hv0⟩
   ·rcases zcY hgd (hgs gd hgd) hc with ⟨hw,_⟩|⟨_,hw⟩
    ·rw[if_pos hw]
     obtain⟨v',M',w',hr,hv,E',S'⟩:=hq.run S hops
     refine⟨fun _ _=>trivial,?_⟩
     rw[o.semAt_eq _ _ hq.nodefer,hr,Oper.uponIn_value]
     exact hgo v' M' w' hv S' E'
    ·exact hw.elim
   ·rcases zcY hgd (hgs gd hgd) hc with ⟨_,hw⟩|⟨hw,_⟩
    ·exact hw.elim
    ·rw[if_neg (by rw[hw];simp)]
     refine⟨fun _ _=>trivial,?_⟩
     exact hgo undef M w (by rw[hv0];exact ze5 ..) S (.refl ..)
  · -- the call or store that stands first
   have hirest:i∈rest:=by
    have:=O.all i hlt
    rw[hst.split,ybh]at this
    exact this.resolve_left hid
   obtain⟨e,r,oe,hrest,hoe,hEe⟩:∃e r,∃oe:Oper,rest=e::r∧ops[e]?=some oe∧isE oe=true:=by
    rcases hhd with h|h
    ·rw[h]at hirest;simp at hirest
    ·exact h
   have hie:i=e:=by
    rw[hrest]at hirest
    rcases ybC.1 hirest with h|h
    ·exact h
    ·exfalso
     have hah:=O.late done e r oe i (by rw[hst.split,hrest]) hoe hEe h
     obtain⟨x,y,hxy⟩:=zdA O hlt
     have hLe:=ze8 O hst.closed x.length x i y e o rfl hxy ho hready hah
     have:=hst.sub e hLe
     rw[hrest]at hnd
     exact(zdC hnd).1 this
   subst hie
   rw[ho]at hoe;cases hoe
   subst hrest
   have hs:π=done++i::r:=hst.split
   obtain⟨hops,hgs⟩:=zhn O hst hs ho hLi hready ⟨[],by simp⟩ g f
   obtain⟨pl,hpl,hvc⟩:=hst.vc
   simp only[zaV,ho,zhl]at hpl
   cases hg:zbt ops o with
   | none=>simp[hg]at hpl
   | some gd =>
    cases hr:zaV ops A (done++[i]) r with
    | none=>simp[hg,hr]at hpl
    | some pr =>
     simp[hg,hr,hEe]at hpl
     subst hpl
     simp only[zeZ]at hvc
     -- what goes on behind it
     have hgo:∀(v:AV) (v':Value) (σ':AS) (M':Mp) (w':World),zeZ P G Q pr (put (afr ops val done a0) o.dst v) σ'→VR M' σ'.F w' v v'→Sim M' σ' w'→GOk P G M' σ'.F w'→Ext M σ.F w M' σ'.F w' →
       (∀d1 j d2 (oj:Oper),done=d1++j::d2→ops[j]?=some oj→listed.getD j false=false→zHE P G ops oj (afr ops val d1 a0) σ' (val j)) →
       wpAnyIn (zaF ro) 0 P .any ops (QC P G n D M0 F0 w0 Q) fuel (listed.setIfInBounds i true) (ac.put o.dst v') w':=by
      intro v v' σ' M' w' hvc' hv S' g' E' hpend
      have hval:∀j∈done,val j=upd val i v j:=fun j hj=>(zf _ _ (by rintro rfl;exact hid hj)).symm
      have hst1:zeL P G n ops A π Q a0 (upd (fun k=>listed.getD k false) i true) (done++[i]) r (upd val i v) σ':=by
       refine⟨by rw[hs];simp,hclosed',fun j hj=>?_,fun j hj oj hoj hEj=>?_,fun e1 j e2 oj hs' hoj hLj=>?_,pr,hr,?_⟩
       ·by_cases hji:j=i
        ·rw[hji];simp
        ·rw[zf _ _ hji]at hj;simp[hst.sub j hj]
       ·rcases ybh.1 hj with hj|hj
        ·by_cases hji:j=i
         ·rw[hji,ze]
         ·rw[zf _ _ hji];exact hst.eL j hj oj hoj hEj
        ·simp at hj;rw[hj,ze]
       ·rcases ybL e2 with rfl|⟨e2',z,rfl⟩
        ·obtain⟨_,h2⟩:=ybM hs' (by simp)
         simp at h2
         rw[←h2,ze]at hLj;cases hLj
        ·have q1:done++[i]=(e1++j::e2')++[z]:=by rw[hs'];simp
         obtain⟨q2,_⟩:=ybM q1 (by simp)
         have hj1:∀k∈e1,val k=upd val i v k:=fun k hk=>hval k (by rw[q2];simp[hk])
         rw[←zdB e1 a0 hj1,←hval j (by rw[q2];simp)]
         have hji:j≠i:=by rintro rfl;exact hid (by rw[q2];simp)
         rw[zf _ _ hji]at hLj
         exact hpend e1 j e2' oj q2 hoj hLj
       ·rw[zaJ,←zdB done a0 hval]
        simp only[afr,ze,za3 ho]
        exact hvc'
      obtain⟨done',rest',val',k1,k2,⟨q,k3,k4⟩,k5⟩:=zeL.norm O r (done++[i]) (upd val i v) σ' hst1
      have hstage:zeL P G n ops A π Q a0 (fun k=>(listed.setIfInBounds i true).getD k false) done' rest' val' σ':=by rw[hLset];exact k1
      refine ih _ done' rest' val' σ' M' w' _ hsz' hfu' hstage k2 S' g' (E.trans E') ?_ (by rw[zaI,hD])
      have f':=(f.mono E').put (O.dst i o ho) hv
      rw[hLset]
      have e1:done'.filter (upd (fun k=>listed.getD k false) i true)=done.filter (fun k=>listed.getD k false)++[i]:=by
       rw[k3,ybN,ybN,zfI hid,ybG (by rw[ze])]
       rw[show q.filter (upd (fun k=>listed.getD k false) i true)=[] from by
        rw[ybT];intro j hj;rw[k4 j hj];simp]
       simp
      have e2:∀j∈done.filter (fun k=>listed.getD k false)++[i],val' j=upd val i v j:=by
       intro j hj
       refine k5 j ?_
       rcases ybh.1 hj with hj|hj
       ·exact ybh.2 (.inl ((ybO.1 hj).1))
       ·exact ybh.2 (.inr hj)
      refine⟨f'.size,fun t=>?_⟩
      rw[e1,zdB _ a0 e2,zaJ]
      simp only[afr,ze,za3 ho]
      rw[←zdB (done.filter fun k=>listed.getD k false) a0 (fun j hj=>hval j ((ybO.1 hj).1))]
      exact f'.val t
     rcases zcY hg (hgs gd hg) hvc with ⟨hw,hop⟩|⟨hw,hno⟩
     ·rw[if_pos hw]
      refine zle (O.nx i o ho) hop S g E hops f.size hD fun v v' σ' M' w' hK hv S' g' E'=>?_
      refine hgo v v' σ' M' w' hK.2 hv S' g' E' fun d1 j d2 oj hdn hoj hLj=>?_
      obtain⟨gj,hgj,hcase⟩:=hst.pend d1 j d2 oj hdn hoj hLj
      refine⟨gj,hgj,?_⟩
      rcases hcase with ⟨hc,hq⟩|hc
      ·refine .inl ⟨hc,hq.again fun t x hox=>?_⟩
       have hah:zaQ A j i=false:=by
        cases hz:zaQ A j i with
        | false=>rfl
        | true =>
         have:=ze8 O hst.closed done.length done i r j o rfl hs ho hready hz
         rw[hLj]at this;cases this
       obtain⟨d,hdj,hkeep⟩:=O.keep d1 j d2 i r oj o t x (by rw[hs,hdn];simp) hoj hox ho hEe hah
       have hmem:=zpX done hK.1 j (by rw[hdn];simp) oj t x d gj hoj hox hdj hgj hah
       -- the slots are as they were
       have hslot:∀s∈zbN ops oj,put (afr ops val done a0) o.dst v s=afr ops val d1 a0 s:=by
        intro s hs1
        rw[ziK (by have:=(hkeep i (by simp)).1 s hs1;rwa [za3 ho]at this)]
        rw[hdn,zaJ]
        exact ze7 s (j::d2) _ fun k hk=>(hkeep k (by rcases ybC.1 hk with h|h<;>simp[h])).1 s hs1
       have hji:j≠i:=by rintro rfl;exact hid (by rw[hdn];simp)
       have hdst:put (afr ops val done a0) o.dst v d=val j:=by
        rw[ziK (by have:=(hkeep i (by simp)).2 (Ne.symm hji);rwa [za3 ho]at this)]
        rw[hdn,zaJ]
        simp only[afr,za3 hoj,hdj]
        rw[ze7 d d2 _ fun k hk=>?_,zpT]
        refine(hkeep k (by simp[hk])).2 ?_
        rintro rfl
        have hn:=(ybK.1 hnd).1
        rw[hdn]at hn
        exact(zdC hn).2 hk
       have hcc:zbm (put (afr ops val done a0) o.dst v) gj True False:=by
        rw[zmC (b:=afr ops val d1 a0) fun d' w' hgw=>hslot d' (ziM hgj hgw)]
        exact hc
       have h2:=zpV hcc hmem
       rw[hdst,znH (b:=afr ops val d1 a0) fun t' ht'=>hslot t' (zgb (by rw[hox];simp[Op.operands]) ht')]at h2
       exact h2
      ·exact .inr hc
     ·rw[if_neg (by rw[hw];simp)]
      refine⟨fun _ _=>trivial,?_⟩
      exact hgo (.tuple []) undef σ M w hno (ze5 ..) S g (.refl ..) (fun d1 j d2 oj hdn hoj hLj=>hst.pend d1 j d2 oj hdn hoj hLj)
end
def znI(ops:Array Oper):List Nat→List Nat→Bool
  | _,[]=>true
  | done,i::r =>
    (match ops[i]? with
     | some o=>o.after.toList.all fun e=>!(zar e)||done.elem e.on
     | none=>true)&&znI ops (done++[i]) r
theorem zho{ops:Array Oper}:∀(rest done:List Nat),znI ops done rest=true→∀d1 i d2 (o:Oper) (e:Edge),rest=d1++i::d2→ops[i]?=some o→e∈o.after.toList→zar e=true→e.on∈done++d1
 | [],_,_,d1,i,d2,_,_,hs,_,_,_=>by simp at hs
 | x::r,done,h,d1,i,d2,o,e,hs,ho,he,hb=>by
  simp only[znI,Bool.and_eq_true]at h
  cases d1 with
  | nil =>
   simp at hs
   obtain⟨rfl,rfl⟩:=hs
   rw[ho]at h
   have:=yaM.1 h.1 e he
   rw[hb]at this
   simp at this
   simpa using this
  | cons y d1 =>
   simp at hs
   obtain⟨rfl,hs⟩:=hs
   have:=zho r (done++[x]) h.2 d1 i d2 o e hs ho he hb
   simpa using this
def zsn(ops:Array Oper)(A:Array Nat):List Nat→Bool
  | []=>true
  | e::r =>
    (match ops[e]? with
     | some o=>!(isE o)||r.all fun i=>zaQ A e i
     | none=>true)&&zsn ops A r
theorem ziN{ops:Array Oper}{A:Array Nat}:∀(l:List Nat),zsn ops A l=true→∀d1 e d2 (oe:Oper) i,l=d1++e::d2→ops[e]?=some oe→isE oe=true→i∈d2→zaQ A e i=true
 | [],_,d1,e,d2,_,_,hs,_,_,_=>by simp at hs
 | x::r,h,d1,e,d2,oe,i,hs,ho,hE,hi=>by
  simp only[zsn,Bool.and_eq_true]at h
  cases d1 with
  | nil =>
   simp at hs
   obtain⟨rfl,rfl⟩:=hs
   have h1:=h.1
   rw[ho]at h1
   simp only[hE,Bool.not_true,Bool.false_or]at h1
   exact yaM.1 h1 i hi
  | cons y d1 =>
   simp at hs
   obtain⟨rfl,hs⟩:=hs
   exact ziN r h.2 d1 e d2 oe i hs ho hE hi
def zpZ(ops:Array Oper)(A:Array Nat)(e:Nat):List Nat→Bool
  | []=>true
  | j::r =>
    (match ops[j]? with
     | some o=>!(zlg o.op)||zaQ A j e ||
        (match o.dst with
         | some d=>(j::(r++[e])).all fun k=>(match zek ops k with|some s=>!((zbN ops o).elem s)&&(k==j||!(s==d))|none=>true)
         | none=>false)
     | none=>true)&&zpZ ops A e r
theorem ziO{ops:Array Oper}{A:Array Nat}{e:Nat}:∀(l:List Nat),zpZ ops A e l=true→∀d1 j d2 (oj:Oper) t x,l=d1++j::d2→ops[j]?=some oj→oj.op=.load t x→zaQ A j e=false →
  ∃d,oj.dst=some d∧∀k∈j::(d2++[e]),(∀s∈zbN ops oj,zek ops k≠some s)∧(k≠j→zek ops k≠some d)
 | [],_,d1,j,d2,_,_,_,hs,_,_,_=>by simp at hs
 | y::r,h,d1,j,d2,oj,t,x,hs,ho,hop,hah=>by
  simp only[zpZ,Bool.and_eq_true]at h
  cases d1 with
  | nil =>
   simp at hs
   obtain⟨rfl,rfl⟩:=hs
   have h1:=h.1
   rw[ho]at h1
   simp only[hop,zlg,hah,Bool.not_true,Bool.false_or]at h1
   cases hd:oj.dst with
   | none=>rw[hd]at h1;cases h1
   | some d =>
    rw[hd]at h1
    refine⟨d,rfl,fun k hk=>?_⟩
    have:=yaM.1 h1 k hk
    cases hdk:zek ops k with
    | none=>exact⟨(fun _ _ h=>by cases h),(fun _ h=>by cases h)⟩
    | some s =>
     rw[hdk]at this
     simp only[Bool.and_eq_true,Bool.not_eq_true',Bool.or_eq_true,beq_iff_eq]at this
     refine⟨fun s' hs' h=>?_,fun hkj h=>?_⟩
     ·cases h
      rw[ybV]at this
      have:=this.1
      simp[hs']at this
     ·cases h
      rcases this.2 with h|h
      ·exact hkj h
      ·simp at h
  | cons z d1 =>
   simp at hs
   obtain⟨rfl,hs⟩:=hs
   exact ziO r h.2 d1 j d2 oj t x hs ho hop hah
def zso(ops:Array Oper)(A:Array Nat):List Nat→List Nat→Bool
  | _,[]=>true
  | done,e::r =>
    (match ops[e]? with
     | some o=>!(isE o)||zpZ ops A e done
     | none=>true)&&zso ops A (done++[e]) r
theorem ziP{ops:Array Oper}{A:Array Nat}:∀(rest done:List Nat),zso ops A done rest=true→∀d1 e d3 (oe:Oper),rest=d1++e::d3→ops[e]?=some oe→isE oe=true→zpZ ops A e (done++d1)=true
 | [],_,_,d1,e,d3,_,hs,_,_=>by simp at hs
 | x::r,done,h,d1,e,d3,oe,hs,ho,hE=>by
  simp only[zso,Bool.and_eq_true]at h
  cases d1 with
  | nil =>
   simp at hs
   obtain⟨rfl,rfl⟩:=hs
   have h1:=h.1
   rw[ho]at h1
   simpa [hE]using h1
  | cons y d1 =>
   simp at hs
   obtain⟨rfl,hs⟩:=hs
   have:=ziP r (done++[x]) h.2 d1 e d3 oe hs ho hE
   simpa using this
def zAL(ops:Array Oper)(A:Array Nat):Bool :=
 (ya7 ops.size).all fun i =>
  match zek ops i with
  | some t=>(ya7 ops.size).all fun j=>(i==j)||(match ops[j]? with|some oj=>!((zbN ops oj).elem t||oj.dst==some t)||zaQ A i j||zaQ A j i|none=>true)
  | none=>true
def znJ:List Nat→Bool
 | []=>true
 | x::r=>!(r.elem x)&&znJ r
theorem zhp:∀(l:List Nat),znJ l=true→l.Nodup
 | [],_=>List.nodup_nil
 | x::r,h=>by
  simp only[znJ,Bool.and_eq_true,Bool.not_eq_true']at h
  rw[ybQ]
  refine⟨fun hm=>?_,zhp r h.2⟩
  rw[ybV]at h
  simp[hm]at h
def zHF(n:Nat)(ops:Array Oper)(A:Array Nat)(π:List Nat):Bool :=
 zlh ops A&&znJ π&&(ya7 ops.size).all (fun i=>π.elem i)&&π.all (fun i=>decide (i<ops.size))&&znI ops [] π&&zAL ops A&&zsn ops A π&&zso ops A [] π &&
 (ops.toList.all fun o=>zir n o.dst&&(zbW o.op).isNone)&&Region.noSelect ops
theorem zll{n:Nat}{ops:Array Oper}{A:Array Nat}{π:List Nat}(h:zHF n ops A π=true):zfH n ops A π:=by
 simp only[zHF,Bool.and_eq_true]at h
 obtain⟨⟨⟨⟨⟨⟨⟨⟨⟨h1,h2⟩,h3⟩,h4⟩,h5⟩,h6⟩,h7⟩,h8⟩,h9⟩,h10⟩:=h
 refine⟨h1,zhp π h2,fun i hi=>?_,fun i hi=>?_,fun d1 i d2 o e hs ho he hb=>?_,fun i j oi oj t hne hoi hoj hd ht=>?_,ziN π h7,fun i o ho=>?_,fun i o ho=>?_,fun d1 j d2 e d3 oj oe t x hs hoj hop hoe hE hah=>?_,h10⟩
 ·have:=yaM.1 h3 i (by simpa using hi)
  simpa using this
 ·have:=yaM.1 h4 i hi
  simpa using this
 ·have:=zho π [] h5 d1 i d2 o e hs ho he hb
  simpa using this
 ·have hi:i<ops.size:=(yaU.1 hoi).1
  have hj:j<ops.size:=(yaU.1 hoj).1
  have:=yaM.1 h6 i (by simpa using hi)
  rw[show zek ops i=some t by simp[zek,hoi,hd]]at this
  have:=yaM.1 this j (by simpa using hj)
  rw[hoj]at this
  simp only[Bool.or_eq_true,Bool.not_eq_true',beq_iff_eq]at this
  rcases this with h|h
  ·exact absurd h hne
  ·rcases h with (h|h)|h
   ·exfalso
    rw[Bool.or_eq_false_iff]at h
    rcases ht with ht|ht
    ·rw[ybV]at h
     simp[ht]at h
    ·rw[ht]at h;simp at h
   ·exact .inl h
   ·exact .inr h
 ·have:=yaM.1 h9 o (by
   obtain⟨hi,he⟩:=yaU.1 ho
   rw[←he];simp)
  exact(Bool.and_eq_true _ _▸this).1
 ·have:=yaM.1 h9 o (by
   obtain⟨hi,he⟩:=yaU.1 ho
   rw[←he];simp)
  exact Option.isNone_iff_eq_none.1 (Bool.and_eq_true _ _▸this).2
 ·have:=ziP π [] h8 (d1++j::d2) e d3 oe (by rw[hs];simp) hoe hE
  exact ziO _ (by simpa using this) d1 j d2 oj t x rfl hoj hop hah
def zwh(ops:Array Oper)(A:Array Nat):List Nat :=
 let es0:=(ya7 ops.size).filter fun i=>match ops[i]? with|some o=>isE o|none=>false
 let qs:=(ya7 ops.size).filter fun i=>match ops[i]? with|some o=>!(isE o)|none=>false
 let lev (i:Nat):Nat:=(es0.filter fun e=>zaQ A e i).length
 let es:=(ya7 es0.length).flatMap fun k=>es0.filter fun e=>lev e==k
 (ya7 (es.length+1)).flatMap fun k=>(qs.filter fun i=>lev i==k)++(es[k]?).toList
def zjH(ops:Array Oper)(A:Array Nat):Array Nat:=((ya7 ops.size).map fun i=>match ops[i]? with
 | some o=>o.after.toList.foldl (fun s e=>if zar e then s ||| 2^e.on ||| A.getD e.on 0 else s) 0
 | none=>0).toArray
def zAM(ops:Array Oper):Array Nat:=if zlh ops (Region.before ops)then Region.before ops else zjH ops (zjH ops (zjH ops (Region.before ops)))
def zhq(n:Nat)(ops:Array Oper)(draw:Bool):Option (List PO) :=
 if draw then
  let A:=zAM ops
  let π:=zwh ops A
  if zHF n ops A π then zaV ops A [] π else none
 else zbe n ops ops.toList
theorem zgc{ops:Array Oper}{A:Array Nat}:∀(π done:List Nat) (pl:List PO),zaV ops A done π=some pl→∀i∈π,∀o:Oper,ops[i]?=some o→∀t,o.dst=some t→(pl.any fun o=>o.dst==some t)=true
 | [],_,_,_,i,hi,_,_,_,_=>by cases hi
 | x::π,done,pl,hp,i,hi,o,ho,t,ht=>by
  simp only[zaV]at hp
  split at hp
  ·rename_i ox hox
   simp only[zhl,ybA,ybB]at hp
   obtain⟨p,⟨gd,hgd,rfl⟩,pr,hpr,rfl⟩:=hp
   rcases ybC.1 hi with rfl|hi
   ·rw[ho]at hox;cases hox
    simp[ht]
   ·have:=zgc π _ pr hpr i hi o ho t ht
    simp only[ybD,this,Bool.or_true]
  ·cases hp
theorem zdD{P:Program}{G:Env}{n:Nat}{ops:Array Oper}(hm:P.follows .mixedOrders=true){A:Array Nat}{π:List Nat}(O:zfH n ops A π){pl:List PO}(hp:zaV ops A [] π=some pl){Q:AQ}{a σ}
  (h:zeZ P G (zbX (zdg pl a) Q) pl a σ):∀{ro:Option Nat} {D:List Deferred} {M:Mp} {w:World} {ac:Act},Sim M σ w→GOk P G M σ.F w→Fr M σ.F w a ac n→ac.defers=D →
   wpAnyIn (zaF ro) 0 P .any ops (zoP (fun t=>pl.any fun o=>o.dst==some t) ac (QC P G n D M σ.F w (zbX (zdg pl a) Q))) ops.size (ybW ops.size false) ac { w with drawn:=w.drawn+1 }:=by
 intro ro D M w ac S g f hD
 have h0:∀k,(ybW ops.size false).getD k false=false:=by
  intro k;rw[ybz,ybX];split<;>rfl
 have hst:zeL P G n ops A π (zbX (zdg pl a) Q) a (fun k=>(ybW ops.size false).getD k false) [] π (fun _=>.undef) σ:=by
  refine⟨rfl,fun i o hi=>?_,fun i hi=>?_,fun i hi=>by simp at hi,fun d1 i d2 o hs=>by simp at hs,pl,hp,h⟩
  ·rw[h0]at hi;cases hi
  ·simp only[h0]at hi;cases hi
 obtain⟨done,rest,val,k1,k2,⟨q,k3,k4⟩,k5⟩:=zeL.norm O π [] _ σ hst
 have hE:Ext M σ.F w M σ.F { w with drawn:=w.drawn+1 }:=.of_heap rfl ⟨rfl,rfl,rfl⟩
 refine zcp (W:=fun t=>pl.any fun o=>o.dst==some t) (a0:=ac) (fun i o ho t ht=>zgc _ _ _ hp i (O.all i (yaU.1 ho).1) o ho t ht) _ _ _ _ (zcZ.refl _ _) (zpY O ops.size _ done rest val σ M { w with drawn:=w.drawn+1 } ac (by simp) ?_ k1 k2 (S.of_heap rfl ⟨rfl,rfl,rfl⟩) (g.mono hE) (M0:=M) (F0:=σ.F) (w0:=w) hE ?_ hD)
 ·have:(π.filter fun k=>!((ybW ops.size false).getD k false))=π:=ybR.2 fun i _=>by rw[h0];rfl
  rw[this]
  have hp1:π.Perm (ya7 ops.size):=by
   refine(List.perm_ext_iff_of_nodup O.nodup List.nodup_range).2 fun i=>⟨fun hi=>by simpa using O.lt i hi,fun hi=>O.all i (by simpa using hi)⟩
  simpa using hp1.length_eq
 ·have:(done.filter fun k=>(ybW ops.size false).getD k false)=[]:=ybT.2 fun i _=>by rw[h0];simp
  rw[this]
  exact⟨f.size,fun t=>(f.val t).mono hE⟩
theorem zmD{P:Program}{G:Env}{n id:Nat}{ops:Array Oper}(hm:P.follows .mixedOrders=true){A:Array Nat}{π:List Nat}(O:zfH n ops A π){pl:List PO}(hp:zaV ops A [] π=some pl){Q:AQ}{a σ}
  (h:zeZ P G (zbX (zdg pl a) Q) pl a σ):AWp P G n (.region id ops true) Q a σ:=by
 intro ro D M0 F0 w0 M w ac S g E f hD
 exact wpIn_mono (wpIn_region_any hm (zdD hm O hp h S g f hD)) fun _ _ _ hq=>zwg E f hq
theorem zlm{P:Program}{G:Env}{n id:Nat}{ops:Array Oper}{draw:Bool}(hm:P.follows .mixedOrders=true){pl:List PO}(hp:zhq n ops draw=some pl){Q:AQ}{a σ}(h:zeZ P G (zbX (zdg pl a) Q) pl a σ):
  AWp P G n (.region id ops draw) Q a σ:=by
 unfold zhq at hp
 cases draw with
 | true =>
  simp only[if_true]at hp
  split at hp
  ·exact zmD hm (zll ‹_›) hp h
  ·cases hp
 | false=>exact zlf hp h
def zaY(ops:Array Oper)(c a:Nat):Array Oper:=ops.modify c fun o=>{ o with after:=o.after.push ⟨a,.chain⟩ }
theorem zgd(ops c a):(zaY ops c a).size=ops.size:=by simp[zaY]
theorem zc1(ops:Array Oper)(c a j:Nat):(zaY ops c a)[j]?=(ops[j]?).map fun o=>if j=c then { o with after:=o.after.push ⟨a,.chain⟩ }else o:=by
 unfold zaY
 rw[Array.getElem?_modify]
 by_cases h:c=j
 ·subst h;simp
 ·rw[if_neg h]
  have:¬j=c:=fun e=>h e.symm
  simp[this]
def zfJ(ops:Array Oper):Nat→Array Bool→List Nat→Prop
 | 0,_,L=>L=[]
 | f+1,listed,L=>(Region.ready .any ops listed=[]∧L=[])∨∃i rest,L=i::rest∧i∈Region.ready .any ops listed∧zfJ ops f (listed.setIfInBounds i true) rest
theorem zp0{ops:Array Oper}:∀(fuel t:Nat) (listed:Array Bool),zfJ ops fuel listed (Region.linearise.go .any ops fuel t listed [])
 | 0,t,listed=>by simp[zfJ,Region.linearise.go]
 | fuel+1,t,listed=>by
  simp only[Region.linearise.go]
  change zfJ ops (fuel+1) listed (match (Region.ready .any ops listed)[t%(Region.ready .any ops listed).length]? with
   | some i=>Region.linearise.go .any ops fuel (t/(Region.ready .any ops listed).length) (listed.setIfInBounds i true) [i]
   | none=>[].reverse)
  cases hi:(Region.ready .any ops listed)[t%(Region.ready .any ops listed).length]? with
  | none =>
   refine .inl ⟨?_,rfl⟩
   cases hr:Region.ready .any ops listed with
   | nil=>rfl
   | cons x xs =>
    rw[hr]at hi
    have hlt:t%(x::xs).length<(x::xs).length:=Nat.mod_lt _ (by simp)
    simp at hi
    simp at hlt
    omega
  | some i =>
   simp only[]
   rw[linearise_go_acc,List.reverse_singleton,List.singleton_append]
   exact .inr ⟨i,_,rfl,List.mem_of_getElem? hi,zp0 fuel _ _⟩
theorem znK{F:Fence}{n:Nat}{P:Program}{ops:Array Oper}{Q:Exit→Act→World→Prop}:∀(fuel:Nat) (listed:Array Bool) (L:List Nat) (a:Act) (w:World),wpAnyIn F n P .any ops Q fuel listed a w→zfJ ops fuel listed L→wpOpsIn F n P ops Q L a w
 | 0,listed,L,a,w,h,hp=>by
  simp only[zfJ]at hp
  subst hp
  exact h.2
 | fuel+1,listed,L,a,w,h,hp=>by
  rcases hp with ⟨h0,rfl⟩|⟨i,rest,rfl,hi,hr⟩
  ·exact h.1 h0
  ·rw[wpOpsIn_cons]
   exact wpOpIn_mono (fun a w h=>znK fuel _ rest a w h hr) (h.2 i hi)
theorem zdE{ops:Array Oper}{c a j:Nat}{listed:Array Bool}(h:j∈Region.ready .any ops listed)(hj:j=c→listed.getD a false=true):j∈Region.ready .any (zaY ops c a) listed:=by
 rw[mem_ready]at h ⊢
 obtain⟨h1,o,ho,h2⟩:=h
 refine⟨h1,if j=c then { o with after:=o.after.push ⟨a,.chain⟩ }else o,by rw[zc1,ho];rfl,?_⟩
 intro e he hb
 by_cases hc:j=c
 ·rw[if_pos hc]at he
  rcases ybY.1 he with he|he
  ·exact h2 e he hb
  ·subst he;exact hj hc
 ·rw[if_neg hc]at he
  exact h2 e he hb
theorem zp1{ops:Array Oper}{c a j:Nat}{listed:Array Bool}(h:j∈Region.ready .any (zaY ops c a) listed):j∈Region.ready .any ops listed:=by
 rw[mem_ready]at h ⊢
 obtain⟨h1,o,ho,h2⟩:=h
 rw[zc1]at ho
 obtain⟨o',ho',rfl⟩:=ybB.1 ho
 refine⟨h1,o',ho',fun e he hb=>h2 e ?_ hb⟩
 by_cases hc:j=c
 ·rw[if_pos hc];exact ybY.2 (.inl he)
 ·rw[if_neg hc];exact he
theorem zp2{ops:Array Oper}{c a:Nat}{listed:Array Bool}(h:Region.ready .any ops listed=[]):Region.ready .any (zaY ops c a) listed=[]:=by
 rw[ybU]at h ⊢
 exact fun j hj=>h j (zp1 hj)
theorem zoQ{listed:Array Bool}{i j:Nat}(h:listed.getD j false=true):(listed.setIfInBounds i true).getD j false=true:=by
 rw[ybz]at h ⊢
 rw[ybZ]
 split
 ·split
  ·rfl
  ·rename_i h1 h2
   rw[Array.getElem?_eq_none (by omega)]at h;simp at h
 ·exact h
theorem zfK{ops:Array Oper}{c a:Nat}:∀(f:Nat) (listed:Array Bool) (L:List Nat),listed.getD a false=true→zfJ ops f listed L→zfJ (zaY ops c a) f listed L
 | 0,_,_,_,h=>h
 | f+1,listed,L,ha,h=>by
  rcases h with ⟨h0,rfl⟩|⟨i,rest,rfl,hi,hr⟩
  ·exact .inl ⟨zp2 h0,rfl⟩
  ·exact .inr ⟨i,rest,rfl,zdE hi fun _=>ha,zfK f _ rest (zoQ ha) hr⟩
theorem ziQ{ops:Array Oper}{i:Nat}{listed:Array Bool}(hs:listed.size=ops.size)(h:i∈Region.ready .any ops listed):(listed.setIfInBounds i true).getD i false=true:=by
 rw[mem_ready]at h
 obtain⟨_,o,ho,_⟩:=h
 have:=(yaU.1 ho).1
 rw[ybz,ybZ,if_pos rfl,if_pos (by omega)];rfl
theorem ziR{ops:Array Oper}{c a:Nat}(hca:c≠a):∀(f:Nat) (listed:Array Bool) (L:List Nat),listed.size=ops.size→zfJ ops f listed L→zfJ (zaY ops c a) f listed L∨zfJ (zaY ops a c) f listed L
 | 0,_,_,_,h=>.inl h
 | f+1,listed,L,hs,h=>by
  rcases h with ⟨h0,rfl⟩|⟨i,rest,rfl,hi,hr⟩
  ·exact .inl (.inl ⟨zp2 h0,rfl⟩)
  ·by_cases h1:i=a
   ·subst h1
    exact .inl (.inr ⟨i,rest,rfl,zdE hi fun e=>absurd e.symm hca,zfK f _ rest (ziQ hs hi) hr⟩)
   ·by_cases h2:i=c
    ·subst h2
     exact .inr (.inr ⟨i,rest,rfl,zdE hi fun e=>absurd e hca,zfK f _ rest (ziQ hs hi) hr⟩)
    ·rcases ziR hca f _ rest (by simpa using hs) hr with k|k
     ·exact .inl (.inr ⟨i,rest,rfl,zdE hi fun e=>absurd e h2,k⟩)
     ·exact .inr (.inr ⟨i,rest,rfl,zdE hi fun e=>absurd e h1,k⟩)
theorem zmE(ops:Array Oper)(c a:Nat)(tmps:Array Value):yielded (zaY ops c a) tmps=yielded ops tmps:=by
 funext j
 unfold yielded
 have:((zaY ops c a)[j]?).bind (·.dst)=(ops[j]?).bind (·.dst):=by
  rw[zc1]
  cases ops[j]? with
  | none=>rfl
  | some o=>simp only[yaG,Option.bind_some];split<;>rfl
 rw[this]
theorem zhr{F:Fence}{n:Nat}{P:Program}{ops:Array Oper}{c a:Nat}{Q:Exit→Act→World→Prop}:∀(L:List Nat) (ac:Act) (w:World),wpOpsIn F n P (zaY ops c a) Q L ac w→wpOpsIn F n P ops Q L ac w
 | [],_,_,h=>h
 | i::L,ac,w,h=>by
  simp only[wpOpsIn]at h ⊢
  rw[zc1,zmE]at h
  cases ho:ops[i]? with
  | none=>rw[ho]at h;exact zhr L ac w h
  | some o =>
   rw[ho]at h
   simp only[yaG]at h ⊢
   have e1:∀y,Region.wanted (if i=c then { o with after:=o.after.push ⟨a,.chain⟩ }else o) y=Region.wanted o y:=fun y=>by split<;>rfl
   have e2:∀K,(if i=c then { o with after:=o.after.push ⟨a,.chain⟩ }else o:Oper).wpIn F n P ac w K Q=o.wpIn F n P ac w K Q:=fun K=>by split<;>rfl
   have e3:(if i=c then { o with after:=o.after.push ⟨a,.chain⟩ }else o:Oper).about P w ac.eval=o.about P w ac.eval:=by split<;>rfl
   have e4:(if i=c then { o with after:=o.after.push ⟨a,.chain⟩ }else o:Oper).dst=o.dst:=by split<;>rfl
   rw[e1,e2,e3,e4]at h
   split at h
   ·rename_i hw
    rw[if_pos hw]
    exact Oper.wpIn_mono (fun a w h=>zhr L a w h) h
   ·rename_i hw
    rw[if_neg hw]
    exact⟨h.1,zhr L _ w h.2⟩
theorem zgw{F:Fence}{n:Nat}{P:Program}{id:Nat}{ops:Array Oper}{Q:Exit→Act→World→Prop}{a:Act}{w:World}
  (h:∀t,∃Q':Exit→Act→World→Prop,(∀e a w,Q' e a w→Q e a w)∧wpOpsIn F n P ops Q' (Region.schedule (P.follows .mixedOrders) ops t) a { w with drawn:=w.drawn+1 }):(Code.region id ops true).wpIn F n P Q a w :=
 fun b k cs hro hb hr=>let ⟨_,hm,hq⟩:=h _;let ⟨e,a',w',q,r⟩:=wp_opsIn _ a _ hq b k cs hro hb hr;⟨e,a',w',hm _ _ _ q,.of_steps (.one (fenced_calm hb hr rfl) stepR_region_draw) r⟩
def zp3(ops:Array Oper)(A:Array Nat):Option (Nat × Nat) :=
 let es:=(ya7 ops.size).filter fun i=>match ops[i]? with|some o=>isE o|none=>false
 (es.flatMap fun i=>es.map fun j=>(i,j)).find? fun p=>decide (p.1<p.2)&&!(zaQ A p.1 p.2)&&!(zaQ A p.2 p.1)
def ziS(n:Nat):Nat→Array Oper→Option (List (List PO))
 | 0,ops=>(zhq n ops true).map fun l=>[l]
 | k+1,ops=>match zhq n ops true with
  | some l=>some [l]
  | none=>match zp3 ops (zAM ops)with
   | none=>none
   | some (i,j)=>if i=j then none else
    match ziS n k (zaY ops j i),ziS n k (zaY ops i j)with
    | some l1,some l2=>some (l1++l2)
    | _,_=>none
def zp4(n:Nat)(ops:Array Oper)(draw:Bool):Option (List (List PO)):=if draw then ziS n 4 ops else none
def zfL(P:Program)(G:Env)(Q:AQ)(a:Nat→AV)(σ:AS):List (List PO)→Prop
 | []=>True
 | l::r=>zeZ P G (zbX (zdg l a) Q) l a σ∧zfL P G Q a σ r
theorem zdF{P:Program}{G:Env}{Q:AQ}{a σ}:∀{l r:List (List PO)},zfL P G Q a σ (l++r)→zfL P G Q a σ l∧zfL P G Q a σ r
 | [],_,h=>⟨trivial,h⟩
 | _::_,_,h=>⟨⟨h.1,(zdF h.2).1⟩,(zdF h.2).2⟩
theorem zln{P:Program}{G:Env}{n:Nat}{ops:Array Oper}(hm:P.follows .mixedOrders=true){l:List PO}(hp:zhq n ops true=some l){Q:AQ}{a σ}(h:zeZ P G (zbX (zdg l a) Q) l a σ){ro:Option Nat}{D:List Deferred}{M0:Mp}{F0:Nat→FSt}{w0:World}{M:Mp}{w:World}{ac:Act}(S:Sim M σ w)(g:GOk P G M σ.F w)
  (E:Ext M0 F0 w0 M σ.F w) (f:Fr M σ.F w a ac n) (hD:ac.defers=D) {L:List Nat} (hL:zfJ ops ops.size (ybW ops.size false) L) :
  ∃Q':Exit→Act→World→Prop,(∀e a w,Q' e a w→QC P G n D M0 F0 w0 Q e a w)∧wpOpsIn (zaF ro) 0 P ops Q' L ac { w with drawn:=w.drawn+1 }:=by
 unfold zhq at hp
 simp only[if_true]at hp
 split at hp
 ·exact⟨_,fun _ _ _ hq=>zwg E f hq,znK _ _ _ _ _ (zdD hm (zll ‹_›) hp h (ro:=ro) S g f hD) hL⟩
 ·cases hp
theorem zhs{P:Program}{G:Env}{n:Nat}(hm:P.follows .mixedOrders=true){Q:AQ}{a σ}{ro:Option Nat}{D:List Deferred}{M0:Mp}{F0:Nat→FSt}{w0:World}{M:Mp}{w:World}{ac:Act}(S:Sim M σ w)(g:GOk P G M σ.F w)
  (E:Ext M0 F0 w0 M σ.F w) (f:Fr M σ.F w a ac n) (hD:ac.defers=D):∀(k:Nat) (ops:Array Oper) (ls:List (List PO)),ziS n k ops=some ls→zfL P G Q a σ ls→∀L:List Nat,zfJ ops ops.size (ybW ops.size false) L →
  ∃Q':Exit→Act→World→Prop,(∀e a w,Q' e a w→QC P G n D M0 F0 w0 Q e a w)∧wpOpsIn (zaF ro) 0 P ops Q' L ac { w with drawn:=w.drawn+1 }
 | 0,ops,ls,hp,h,L,hL=>by
  simp only[ziS,ybB]at hp
  obtain⟨l,hl,rfl⟩:=hp
  exact zln hm hl h.1 S g E f hD hL
 | k+1,ops,ls,hp,h,L,hL=>by
  simp only[ziS]at hp
  split at hp
  ·rename_i l hl
   cases hp
   exact zln hm hl h.1 S g E f hD hL
  ·split at hp
   ·cases hp
   ·rename_i i j _
    split at hp
    ·cases hp
    ·rename_i hij
     split at hp
     ·rename_i l1 l2 e1 e2
      cases hp
      obtain⟨h1,h2⟩:=zdF h
      rcases ziR (ops:=ops) (c:=j) (a:=i) (fun e=>hij e.symm) ops.size (ybW ops.size false) L (by simp) hL with q|q
      ·obtain⟨Q',q1,q2⟩:=zhs hm (ro:=ro) S g E f hD k _ _ e1 h1 L (by rw[zgd];exact q)
       exact⟨Q',q1,zhr _ _ _ q2⟩
      ·obtain⟨Q',q1,q2⟩:=zhs hm (ro:=ro) S g E f hD k _ _ e2 h2 L (by rw[zgd];exact q)
       exact⟨Q',q1,zhr _ _ _ q2⟩
     ·cases hp
theorem zoR{P:Program}{G:Env}{n id:Nat}{ops:Array Oper}{draw:Bool}(hm:P.follows .mixedOrders=true){ls:List (List PO)}(hp:zp4 n ops draw=some ls){Q:AQ}{a σ}(h:zfL P G Q a σ ls):
  AWp P G n (.region id ops draw) Q a σ:=by
 unfold zp4 at hp
 cases draw with
 | false=>simp at hp
 | true =>
  simp only[if_true]at hp
  intro ro D M0 F0 w0 M w ac S g E f hD
  refine zgw fun t=>?_
  simp only[Region.schedule,hm,Bool.true_or,if_true]
  exact zhs hm S g E f hD 4 ops ls hp h _ (zp0 ops.size t (ybW ops.size false))
inductive PC where
 | skip
 | ops (l:List PO)
 | both (ls:List (List PO))
 | seq (x y:PC)
 | cond (c:Operand) (x y:PC)
 | block (id:Nat) (c:PC)
 | loop (c:PC)
 | exit (id:Nat)
 | ret
def zcH(n:Nat):Code→Option PC
 | .skip=>some .skip
 | .region _ ops draw=>match zhq n ops draw with
  | some l=>some (.ops l)
  | none=>(zp4 n ops draw).map .both
 | .seq x y=>(zcH n x).bind fun p=>(zcH n y).map fun q=>.seq p q
 | .cond c x y=>(zcH n x).bind fun p=>(zcH n y).map fun q=>.cond c p q
 | .block id c=>(zcH n c).map (.block id)
 | .loop c=>(zcH n c).map .loop
 | .exit id=>some (.exit id)
 | .ret=>some .ret
 | _=>none
def zjI(P:Program)(G:Env)(n:Nat)(p:PC)(Q:AQ)(a:Nat→AV)(σ:AS):Prop :=
 P.follows .mixedOrders=true→∀c,zcH n c=some p→AWp P G n (.loop c) Q a σ
def avc(P:Program)(G:Env)(n:Nat):PC→AQ→(Nat→AV)→AS→Prop
 | .skip,Q,a,σ=>Q .normal a σ
 | .ops l,Q,a,σ=>zeZ P G (zbX (zdg l a) Q) l a σ
 | .both ls,Q,a,σ=>zfL P G Q a σ ls
 | .seq x y,Q,a,σ=>avc P G n x (zbd (avc P G n y Q) Q) a σ
 | .cond c x y,Q,a,σ =>
  match ev G a c with
  | .bool b=>(b=true→avc P G n x Q a σ)∧(b=false→avc P G n y Q a σ)
  | _=>False
 | .block id c,Q,a,σ=>avc P G n c (za2 id Q) a σ
 | .loop c,Q,a,σ=>zjI P G n c Q a σ
 | .exit id,Q,a,σ=>Q (.exit id) a σ
 | .ret,Q,a,σ=>Q .ret a σ
theorem zai{P:Program}{G:Env}{n:Nat}(hm:P.follows .mixedOrders=true):∀(c:Code) (p:PC),zcH n c=some p→∀(Q:AQ) a σ,avc P G n p Q a σ→AWp P G n c Q a σ:=by
 intro c
 induction c with
 | skip=>intro p hp Q a σ h;simp[zcH]at hp;subst hp;exact fun ro D M0 F0 w0 M w ac S g E f hD=>wpIn_skip ⟨.normal,a,σ,M,h,trivial,S,g,E,f,hD⟩
 | region id ops draw =>
  intro p hp Q a σ h
  simp only[zcH]at hp
  split at hp
  ·rename_i l hl
   cases hp
   exact zlm hm hl h
  ·obtain⟨ls,hl,rfl⟩:=ybB.1 hp
   exact zoR hm hl h
 | seq x y ihx ihy =>
  intro p hp Q a σ h
  simp only[zcH,ybA,ybB]at hp
  obtain⟨p1,h1,p2,h2,rfl⟩:=hp
  have hx:=ihx p1 h1 _ a σ h
  intro ro D M0 F0 w0 M w ac S g E f hD
  refine wpIn_seq (wpIn_mono (hx ro D M0 F0 w0 M w ac S g E f hD) fun e ac' w' hq=>?_)
  obtain⟨e',a',σ',M',q,r,S',g',E',f',hD'⟩:=hq
  cases e' with
  | normal=>cases e<;>simp only[zdl]at r;exact ihy p2 h2 Q a' σ' q ro D M0 F0 w0 M' w' ac' S' g' E' f' hD'
  | exit i=>cases e<;>simp only[zdl]at r;exact⟨.exit i,a',σ',M',q,r,S',g',E',f',hD'⟩
  | ret=>cases e<;>simp only[zdl]at r;exact⟨.ret,a',σ',M',q,trivial,S',g',E',f',hD'⟩
  | panic v=>cases e<;>simp only[zdl]at r;exact⟨.panic v,a',σ',M',q,r,S',g',E',f',hD'⟩
 | cond c x y ihx ihy =>
  intro p hp Q a σ h
  simp only[zcH,ybA,ybB]at hp
  obtain⟨p1,h1,p2,h2,rfl⟩:=hp
  simp only[avc]at h
  intro ro D M0 F0 w0 M w ac S g E f hD
  split at h
  ·rename_i b hb
   have hv:=zld g f c
   rw[hb]at hv
   refine wpIn_cond_split hv.bool_inv (fun hb'=>?_) (fun hb'=>?_)
   ·exact ihx p1 h1 Q a σ (h.1 hb') ro D M0 F0 w0 M w ac S g E f hD
   ·exact ihy p2 h2 Q a σ (h.2 hb') ro D M0 F0 w0 M w ac S g E f hD
  ·exact h.elim
 | block id c ih =>
  intro p hp Q a σ h
  simp only[zcH,ybB]at hp
  obtain⟨p1,h1,rfl⟩:=hp
  have hx:=ih p1 h1 _ a σ h
  intro ro D M0 F0 w0 M w ac S g E f hD
  refine wpIn_block (wpIn_mono (hx ro D M0 F0 w0 M w ac S g E f hD) fun e ac' w' hq=>?_)
  obtain⟨e',a',σ',M',q,r,S',g',E',f',hD'⟩:=hq
  cases e' with
  | normal=>cases e<;>simp only[zdl]at r;exact⟨.normal,a',σ',M',q,trivial,S',g',E',f',hD'⟩
  | exit i =>
   cases e<;>simp only[zdl]at r
   subst r
   simp only[za2]at q
   simp only[Exit.inBlock]
   split at q
   ·rename_i hi;rw[if_pos hi];exact⟨.normal,a',σ',M',q,trivial,S',g',E',f',hD'⟩
   ·rename_i hi;rw[if_neg hi];exact⟨.exit _,a',σ',M',q,rfl,S',g',E',f',hD'⟩
  | ret=>cases e<;>simp only[zdl]at r;exact⟨.ret,a',σ',M',q,trivial,S',g',E',f',hD'⟩
  | panic v=>cases e<;>simp only[zdl]at r;exact⟨.panic v,a',σ',M',q,r,S',g',E',f',hD'⟩
 | loop c ih =>
  intro p hp Q a σ h
  simp only[zcH,ybB]at hp
  obtain⟨p1,h1,rfl⟩:=hp
  exact h hm c h1
 | exit id=>intro p hp Q a σ h;simp[zcH]at hp;subst hp;exact fun ro D M0 F0 w0 M w ac S g E f hD=>wpIn_exit ⟨.exit id,a,σ,M,h,rfl,S,g,E,f,hD⟩
 | ret=>intro p hp Q a σ h;simp[zcH]at hp;subst hp;exact fun ro D M0 F0 w0 M w ac S g E f hD=>wpIn_ret ⟨.ret,a,σ,M,h,trivial,S,g,E,f,hD⟩
 | rangeFunc=>intro p hp;simp[zcH]at hp
 | scope=>intro p hp;simp[zcH]at hp
 | label=>intro p hp;simp[zcH]at hp
 | goto=>intro p hp;simp[zcH]at hp
 | refuse=>intro p hp;simp[zcH]at hp
theorem zas{P:Program}{G:Env}{n:Nat}{p:PC}{Q:AQ}{a:Nat→AV}{σ:AS}(I:(Nat→AV)→AS→Prop)(μ:(Nat→AV)→AS→Nat)(h0:I a σ)
  (round:∀a σ,I a σ→avc P G n p (zbd (fun a' σ'=>I a' σ'∧μ a' σ'<μ a σ) Q) a σ):zjI P G n p Q a σ:=by
 intro hm c hc ro D M0 F0 w0 M w ac S g E f hD
 have key:∀(m:Nat) (a:Nat→AV) (σ:AS) (M:Mp) (w:World) (ac:Act),μ a σ<m→I a σ→Sim M σ w→GOk P G M σ.F w→Ext M0 F0 w0 M σ.F w→Fr M σ.F w a ac n→ac.defers=D →
   Code.roundsIn (zaF ro) 0 P c (QC P G n D M0 F0 w0 Q) m ac w:=by
  intro m
  induction m with
  | zero=>intro a σ M w ac h;omega
  | succ m ih =>
   intro a σ M w ac hlt hI S g E f hD
   rw[roundsIn_succ]
   refine wpIn_mono (zai hm c p hc _ a σ (round a σ hI) ro D M0 F0 w0 M w ac S g E f hD) fun e ac' w' hq=>?_
   obtain⟨e',a',σ',M',q,r,S',g',E',f',hD'⟩:=hq
   cases e' with
   | normal=>cases e<;>simp only[zdl]at r;exact ih a' σ' M' w' ac' (by have:=q.2;omega) q.1 S' g' E' f' hD'
   | exit i=>cases e<;>simp only[zdl]at r;exact⟨.exit i,a',σ',M',q,r,S',g',E',f',hD'⟩
   | ret=>cases e<;>simp only[zdl]at r;exact⟨.ret,a',σ',M',q,trivial,S',g',E',f',hD'⟩
   | panic v=>cases e<;>simp only[zdl]at r;exact⟨.panic v,a',σ',M',q,r,S',g',E',f',hD'⟩
 exact wpIn_loop_rounds (μ a σ+1) (key _ a σ M w ac (by omega) h0 S g E f hD)
def zbq(args:List AV):Nat→AV:=fun t=>(args[t]?).getD (.tuple [])
def zjJ(P:Program):List ResultVar→(Nat→AV)→AS→(List AV→Prop)→Prop
 | [],_,_,K=>K []
 | .tmp t::r,a,σ,K=>zjJ P r a σ fun vs=>K (a t::vs)
 | .cell t ty::r,a,σ,K=>zcF P ty (a t) σ fun v=>zjJ P r a σ fun vs=>K (v::vs)
def tup:List AV→AV
 | [v]=>v
 | vs=>.tuple vs
def ze9(P:Program)(res:List ResultVar)(R:Out→AS→Prop):AQ
 | .normal,a,σ|.ret,a,σ=>zjJ P res a σ fun vs=>R (.ret (tup vs)) σ
 | .panic v,_,σ=>R (.panic v) σ
 | _,_,_=>False
theorem ziT{P:Program}{M:Mp}{σ:AS}{w:World}(S:Sim M σ w){a:Nat→AV}{tmps:Array Value}(f:∀t,VR M σ.F w (a t) (tmps.getD t undef)){g:ResultVar→Sem Value}
  (g1:∀t,(g (.tmp t)).run P w=.ok (tmps.getD t undef) w) (g2:∀t ty q v,tmps.getD t undef=.pointer (some q)→(loadVar ty q).run P w=.ok v w→(g (.cell t ty)).run P w=.ok v w) :
  ∀(l:List ResultVar) (K:List AV→Prop),zjJ P l a σ K→∃(vs:List AV) (cs:List Value),K vs∧(l.mapM g).run P w=.ok cs w∧Cells M σ.F w vs cs.toArray:=by
 intro l
 induction l with
 | nil=>intro K h;exact⟨[],[],h,by simp,⟨by simp,by simp⟩⟩
 | cons r l ih =>
  intro K h
  have app:∀{v c vs cs},VR M σ.F w v c→Cells M σ.F w vs (cs:List Value).toArray→Cells M σ.F w (v::vs) (c::cs).toArray:=by
   intro v c vs cs hv hc
   refine⟨by have:=hc.1;simpa using this,fun j x hj=>?_⟩
   cases j with
   | zero=>simp at hj;subst hj;exact⟨c,by simp,hv⟩
   | succ j =>
    simp at hj
    obtain⟨y,h1,h2⟩:=hc.2 j x hj
    exact⟨y,by simpa using h1,h2⟩
  cases r with
  | tmp t =>
   simp only[zjJ]at h
   obtain⟨vs,cs,hK,hr,hc⟩:=ih _ h
   exact⟨_,_,hK,by rw[yb0,Sem.run_bind,g1];simp[hr],app (f t) hc⟩
  | cell t ty =>
   simp only[zjJ]at h
   obtain⟨v,hK,hh⟩:=zeH h
   obtain⟨v',h1,h2⟩:=hh M w _ S (f t)
   obtain⟨vs,cs,hK,hr,hc⟩:=ih _ hK
   refine⟨_,v'::cs,hK,?_,app h2 hc⟩
   have h3:(g (.cell t ty)).run P w=.ok v' w:=by
    generalize hq:tmps.getD t undef=p at h1
    cases p with
    | pointer q =>
     cases q with
     | none=>simp[Instr.loadAt,Instr.sureAddr]at h1
     | some q=>exact g2 t ty q v' hq (by simpa [Instr.loadAt,Instr.sureAddr]using h1)
    | _=>simp[Instr.loadAt,Instr.sureAddr]at h1
   rw[yb0,Sem.run_bind,h3]
   simp[hr]
theorem zAN{P:Program}{G:Env}{f:FuncId}{fn:Func}{c:Code}{p:PC}{args:List AV}{σ:AS}{R:Out→AS→Prop}(hm:P.follows .mixedOrders=true)(hf:P.funcs[f]?=some fn)(hb:fn.body=some c)
  (hp:zcH fn.ntmps c=some p) (hn:args.length≤fn.ntmps) (h:avc P G fn.ntmps p (ze9 P fn.results.toList R) (zbq args) σ):ACalls P G f args σ R:=by
 intro M w cargs S g hc
 refine calls_of_wp hf hb (wpIn_wide.1 (wpIn_mono (zai hm c p hp _ _ σ h none [] M σ.F w M w _ S g (.refl ..) ⟨?_,fun t=>?_⟩ rfl) fun e ac' w' hq=>?_))
 ·have:=hc.1
  simp only[ybg,yb1];omega
 ·unfold zbq
  rw[ybz]
  by_cases ht:t<args.length
  ·obtain⟨x,h1,h2⟩:=hc.2 t _ (yau ht)
   rw[ybi (by rw[hc.1];exact ht),h1,yau ht]
   exact h2
  ·rw[ybj (show cargs.size≤t by rw[hc.1];omega),yb2 (by omega),ybX]
   split<;>exact ze5 ..
 ·obtain⟨e',a',σ',M',q,r,S',g',E',f',hD'⟩:=hq
  have fin:zjJ P fn.results.toList a' σ' (fun vs=>R (.ret (tup vs)) σ') →
    ∃v,(results fn ac'.tmps).run P w'=.ok v w'∧∃out σ' M',R out σ'∧zbV M' σ'.F w' out (.returned v)∧Sim M' σ' w'∧Ext M σ.F w M' σ'.F w':=by
   intro hq
   have key:∀g:ResultVar→Sem Value,(∀t,(g (.tmp t)).run P w'=.ok (ac'.tmps.getD t undef) w')→(∀t ty q v,ac'.tmps.getD t undef=.pointer (some q)→(loadVar ty q).run P w'=.ok v w'→(g (.cell t ty)).run P w'=.ok v w') →
     ∃v,((((List.mapM g fn.results.toList).run P w').andThen fun a w'=>.ok a.toArray w').andThen fun vs w=>(pure (if h:vs.size=1 then vs[0]else .tuple vs):Sem Value).run P w)=.ok v w' ∧
      ∃out σ' M',R out σ'∧zbV M' σ'.F w' out (.returned v)∧Sim M' σ' w'∧Ext M σ.F w M' σ'.F w':=by
    intro g g1 g2
    obtain⟨vs,cs,hK,hr,hcc⟩:=ziT S' f'.val g1 g2 _ _ hq
    rw[hr]
    simp only[Result.andThen_ok,Sem.run_pure]
    refine⟨_,rfl,.ret (tup vs),σ',M',hK,?_,S',E'⟩
    have hl:=hcc.1
    simp only[zbV]
    have hget:=hcc.get
    split
    ·rename_i h1
     cases vs with
     | nil=>rw[h1]at hl;simp at hl
     | cons v r =>
      cases r with
      | nil=>exact hget 0 (by simp) (by rw[h1];exact Nat.one_pos)
      | cons _ _=>rw[h1]at hl;simp at hl
    ·rename_i h1
     have:tup vs=.tuple vs:=by
      cases vs with
      | nil=>rfl
      | cons v r =>
       cases r with
       | nil=>exact absurd (by simpa using hl) h1
       | cons _ _=>rfl
     rw[this]
     exact .tuple _ _ hl hget
   unfold results
   rw[Sem.run_bind,yb3,Sem.run_map]
   exact key _ (fun _=>rfl) (fun t ty q v h1 h2=>by
    simp only[h1,asAddr,Sem.run_bind,Sem.run_pure,Result.andThen_ok,h2])
  cases e' with
  | normal=>cases e<;>simp only[zdl]at r;exact⟨hD',fin q⟩
  | ret=>cases e<;>simp only[zdl]at r;exact⟨hD',fin q⟩
  | exit i=>exact q.elim
  | panic v =>
   cases e<;>simp only[zdl]at r
   obtain⟨v',rfl,hv⟩:=r
   exact⟨hD',.panic v,σ',M',q,⟨v',rfl,hv⟩,S',E'⟩
theorem zb{P:Program}{G:Env}{f n:Nat}{fn:Func}{p:PC}{l:List ResultVar}{args:List AV}{σ:AS}{R:Out→AS→Prop}(hm:P.follows .mixedOrders=true)(hf:P.funcs[f]?=some fn)(hn:fn.ntmps=n)
  (hl:fn.results.toList=l) (hp:fn.body.bind (zcH fn.ntmps)=some p) (ha:args.length≤n) (h:avc P G n p (ze9 P l R) (zbq args) σ):ACalls P G f args σ R:=by
 subst hn;subst hl
 obtain⟨c,hc,hp⟩:=ybA.1 hp
 exact zAN hm hf hc hp ha h
def blk:Prop:=True
@[simp] theorem zJs:blk=True:=propext ⟨fun _=>trivial,fun _=>trivial⟩
def zU{α:Type}(o:Option α)(K:α→Prop):Prop:=∃x,o=some x∧K x
@[simp] theorem zys{α:Type}(x:α)(K:α→Prop):zU (some x) K=K x:=by simp[zU]
@[congr] theorem zwi{dd:Prop}(_:blk=dd){α:Type}{o o':Option α}{K:α→Prop}(h:o=o'):zU o K=zU o' K:=by rw[h]
def ifB(b:Bool)(yes no:Prop):Prop:=if b then yes else no
@[simp] theorem zFa(yes no:Prop):ifB true yes no=yes:=by simp[ifB]
@[simp] theorem zAO(yes no:Prop):ifB false yes no=no:=by simp[ifB]
@[congr] theorem zAP{dd:Prop}(_:blk=dd){b b':Bool}{yes no:Prop}(h:b=b'):ifB b yes no=ifB b' yes no:=by rw[h]
def zp5(v:AV)(yes no:Prop):Prop:=match v with
 | .bool b=>ifB b yes no
 | _=>False
@[simp] theorem zyt(b:Bool)(yes no:Prop):zp5 (.bool b) yes no=ifB b yes no:=Eq.trans rfl rfl
@[congr] theorem zwj{dd:Prop}(_:blk=dd){v v':AV}{yes no:Prop}(h:v=v'):zp5 v yes no=zp5 v' yes no:=by rw[h]
def zoS(v:AV)(want:Bool)(yes no:Prop):Prop:=match v with
 | .bool b=>ifB (b==want) yes no
 | .tuple []=>no
 | _=>False
@[simp] theorem zyu(b want:Bool)(yes no:Prop):zoS (.bool b) want yes no=ifB (b==want) yes no:=Eq.trans rfl rfl
@[simp] theorem zyv(want:Bool)(yes no:Prop):zoS (.tuple []) want yes no=no:=Eq.trans rfl rfl
@[congr] theorem zwk{dd:Prop}(_:blk=dd){v v':AV}{want:Bool}{yes no:Prop}(h:v=v'):zoS v want yes no=zoS v' want yes no:=by rw[h]
@[simp] theorem zyw(a:Nat→AV)(yes no:Prop):zbm a none yes no=yes:=Eq.trans rfl rfl
@[simp] theorem zyx(a:Nat→AV)(d:Nat)(want:Bool)(yes no:Prop):zbm a (some (d,want)) yes no=zoS (a d) want yes no:=by
 unfold zbm zoS
 simp only
 cases a d with
 | bool b=>cases b<;>cases want<;>simp[ifB]
 | tuple l=>cases l<;>rfl
 | _=>rfl
@[congr] theorem zvb{dd:Prop}(_:blk=dd){a a':Nat→AV}{g:Option (Nat × Bool)}{yes no:Prop}(h:a=a'):zbm a g yes no=zbm a' g yes no:=by rw[h]
section
variable {P : Program} {G : Env} {n : Nat}
@[congr] theorem zAQ{dd:Prop}(_:blk=dd){p p':PC}{Q:AQ}{a a':Nat→AV}{σ σ':AS}(h:a=a')(h2:σ=σ')(h3:p=p'):avc P G n p Q a σ=avc P G n p' Q a' σ':=by rw[h,h2,h3]
@[simp] theorem zFb(Q:AQ)(a σ):avc P G n .skip Q a σ=Q .normal a σ:=Eq.trans rfl rfl
@[simp] theorem zHG(l:List PO)(Q:AQ)(a σ):avc P G n (.ops l) Q a σ=zeZ P G (zbX (zdg l a) Q) l a σ:=Eq.trans rfl rfl
@[simp] theorem zFc(ls:List (List PO))(Q:AQ)(a σ):avc P G n (.both ls) Q a σ=zfL P G Q a σ ls:=Eq.trans rfl rfl
@[congr] theorem zwl{dd:Prop}(_:blk=dd){Q:AQ}{a a':Nat→AV}{σ σ':AS}{ls:List (List PO)}(h:a=a')(h2:σ=σ'):zfL P G Q a σ ls=zfL P G Q a' σ' ls:=by rw[h,h2]
@[simp] theorem zAR(Q:AQ)(a σ):zfL P G Q a σ []=True:=Eq.trans rfl rfl
@[simp] theorem zyy(Q:AQ)(a σ)(l:List PO)(r:List (List PO)):zfL P G Q a σ (l::r)=(zeZ P G (zbX (zdg l a) Q) l a σ∧zfL P G Q a σ r):=Eq.trans rfl rfl
@[simp] theorem zsp(pf)(Q:AQ)(a σ):zbX pf Q .normal a σ=Q .normal a σ:=Eq.trans rfl rfl
@[simp] theorem zvc(pf)(Q:AQ)(v a σ):zbX pf Q (.panic v) a σ=Q (.panic v) pf σ:=Eq.trans rfl rfl
@[congr] theorem zvd{dd:Prop}(_:blk=dd){pf:Nat→AV}{Q:AQ}{e:AExit}{a a':Nat→AV}{σ σ':AS}(h:a=a')(h2:σ=σ'):zbX pf Q e a σ=zbX pf Q e a' σ':=by rw[h,h2]
@[simp] theorem zHH(x y:PC)(Q:AQ)(a σ):avc P G n (.seq x y) Q a σ=avc P G n x (zbd (avc P G n y Q) Q) a σ:=Eq.trans rfl rfl
@[simp] theorem zFd(c:Operand)(x y:PC)(Q:AQ)(a σ):avc P G n (.cond c x y) Q a σ=zp5 (ev G a c) (avc P G n x Q a σ) (avc P G n y Q a σ):=by
 simp only[avc,zp5]
 cases ev G a c with
 | bool b=>cases b<;>simp[ifB]
 | _=>rfl
@[simp] theorem zAS(id:Nat)(c:PC)(Q:AQ)(a σ):avc P G n (.block id c) Q a σ=avc P G n c (za2 id Q) a σ:=Eq.trans rfl rfl
@[simp] theorem zFe(c:PC)(Q:AQ)(a σ):avc P G n (.loop c) Q a σ=zjI P G n c Q a σ:=Eq.trans rfl rfl
@[simp] theorem zFf(i:Nat)(Q:AQ)(a σ):avc P G n (.exit i) Q a σ=Q (.exit i) a σ:=Eq.trans rfl rfl
@[simp] theorem zHI(Q:AQ)(a σ):avc P G n .ret Q a σ=Q .ret a σ:=Eq.trans rfl rfl
@[congr] theorem zwm{dd:Prop}(_:blk=dd){p:PC}{Q:AQ}{a a':Nat→AV}{σ σ':AS}(h:a=a')(h2:σ=σ'):zjI P G n p Q a σ=zjI P G n p Q a' σ':=by rw[h,h2]
@[congr] theorem zve{dd:Prop}(_:blk=dd){f:FuncId}{l l':List AV}{σ σ':AS}{R:Out→AS→Prop}(h:l=l')(h2:σ=σ'):ACalls P G f l σ R=ACalls P G f l' σ' R:=by rw[h,h2]
@[simp] theorem zvf(K:(Nat→AV)→AS→Prop)(Q:AQ)(a σ):zbd K Q .normal a σ=K a σ:=Eq.trans rfl rfl
@[simp] theorem zyz(K:(Nat→AV)→AS→Prop)(Q:AQ)(i a σ):zbd K Q (.exit i) a σ=Q (.exit i) a σ:=Eq.trans rfl rfl
@[simp] theorem zAT(K:(Nat→AV)→AS→Prop)(Q:AQ)(a σ):zbd K Q .ret a σ=Q .ret a σ:=Eq.trans rfl rfl
@[simp] theorem zwn(K:(Nat→AV)→AS→Prop)(Q:AQ)(v a σ):zbd K Q (.panic v) a σ=Q (.panic v) a σ:=Eq.trans rfl rfl
@[congr] theorem zwo{dd:Prop}(_:blk=dd){K:(Nat→AV)→AS→Prop}{Q:AQ}{e:AExit}{a a':Nat→AV}{σ σ':AS}(h:a=a')(h2:σ=σ'):zbd K Q e a σ=zbd K Q e a' σ':=by rw[h,h2]
@[simp] theorem zsq(id:Nat)(Q:AQ)(a σ):za2 id Q .normal a σ=Q .normal a σ:=Eq.trans rfl rfl
@[simp] theorem zwp(id:Nat)(Q:AQ)(i a σ):za2 id Q (.exit i) a σ=ifB (i==id) (Q .normal a σ) (Q (.exit i) a σ):=by
 simp only[za2,ifB,beq_iff_eq]
@[simp] theorem zyA(id:Nat)(Q:AQ)(a σ):za2 id Q .ret a σ=Q .ret a σ:=Eq.trans rfl rfl
@[simp] theorem zvg(id:Nat)(Q:AQ)(v a σ):za2 id Q (.panic v) a σ=Q (.panic v) a σ:=Eq.trans rfl rfl
@[congr] theorem zvh{dd:Prop}(_:blk=dd){id:Nat}{Q:AQ}{e:AExit}{a a':Nat→AV}{σ σ':AS}(h:a=a')(h2:σ=σ'):za2 id Q e a σ=za2 id Q e a' σ':=by rw[h,h2]
@[congr] theorem zyB{dd:Prop}(_:blk=dd){Q:AQ}{l:List PO}{a a':Nat→AV}{σ σ':AS}(h:a=a')(h2:σ=σ'):zeZ P G Q l a σ=zeZ P G Q l a' σ':=by rw[h,h2]
@[simp] theorem zFg(Q:AQ)(a σ):zeZ P G Q [] a σ=Q .normal a σ:=Eq.trans rfl rfl
@[simp] theorem zAU(Q:AQ)(d op g)(l:List PO)(a σ):zeZ P G Q (⟨d,op,g,[]⟩::l) a σ =
  zbm a g (zbD P G op d a σ (zeZ P G Q l) Q) (zeZ P G Q l (put a d (.tuple [])) σ):=by
 show zbm a g (zbD P G op d a σ (fun a' σ'=>zet P G a' σ' []∧zeZ P G Q l a' σ') Q) _=_
 rw[show(fun a' σ'=>zet P G a' σ' []∧zeZ P G Q l a' σ')=zeZ P G Q l from by funext a' σ';simp[zet]]
@[simp] theorem zyC(Q:AQ)(d op g x y)(l:List PO)(a σ):zeZ P G Q (⟨d,op,g,x::y⟩::l) a σ =
  zbm a g (zbD P G op d a σ (fun a' σ'=>zet P G a' σ' (x::y)∧zeZ P G Q l a' σ') Q) (zeZ P G Q l (put a d (.tuple [])) σ):=Eq.trans rfl rfl
@[simp] theorem zyD(a σ):zet P G a σ []=True:=Eq.trans rfl rfl
@[simp] theorem zwq(a σ)(g t x d)(r:List AG):zet P G a σ (⟨g,t,x,d⟩::r)=(zbm a g (zcF P t (ev G a x) σ fun v=>v=a d) True∧zet P G a σ r):=Eq.trans rfl rfl
@[congr] theorem zyE{dd:Prop}(_:blk=dd){op:Op}{d:Option Nat}{a a':Nat→AV}{σ σ':AS}{K:(Nat→AV)→AS→Prop}{Q:AQ}(h:a=a')(h2:σ=σ'):zbD P G op d a σ K Q=zbD P G op d a' σ' K Q:=by rw[h,h2]
@[simp] theorem zFh(a:Nat→AV)(d:Nat)(v:AV):put a (some d) v=upd a d v:=Eq.trans rfl rfl
@[simp] theorem zFi(a:Nat→AV)(v:AV):put a none v=a:=Eq.trans rfl rfl
@[simp] theorem zeu{α:Type}(f:Nat→α)(i:Nat)(x:α)(j:Nat):upd f i x j=if j=i then x else f j:=Eq.trans rfl rfl
@[simp] theorem zAV(l:List AV)(t:Nat):zbq l t=(l[t]?).getD (.tuple []):=Eq.trans rfl rfl
@[simp] theorem zJt(a:Nat→AV)(t:Nat):ev G a (.tmp t)=a t:=Eq.trans rfl rfl
@[simp] theorem zHJ(a:Nat→AV)(f:Nat):ev G a (.func f)=.fn (.func f) [] []:=Eq.trans rfl rfl
@[simp] theorem zAW(a:Nat→AV)(g:Nat):ev G a (.global g)=G.g g:=Eq.trans rfl rfl
@[simp] theorem zJu(a:Nat→AV)(k n):ev G a (.const (.int k n))=.int k n:=Eq.trans rfl rfl
@[simp] theorem zHK(a:Nat→AV)(b):ev G a (.const (.bool b))=.bool b:=Eq.trans rfl rfl
@[simp] theorem zFj(a:Nat→AV):ev G a (.const (.slice none 0 0))=.nilsl:=Eq.trans rfl rfl
@[simp] theorem zFk(a:Nat→AV):ev G a (.const .nilIface)=.nilif:=Eq.trans rfl rfl
@[simp] theorem zFl(a:Nat→AV):ev G a (.const .nilFunc)=.nilfn:=Eq.trans rfl rfl
@[simp] theorem zJv(a:Nat→AV)(l):ev G a (.const (.string ⟨l⟩))=.str l.toList:=Eq.trans rfl rfl
variable {a : Nat → AV} {σ : AS} {K : (Nat → AV) → AS → Prop} {Q : AQ} {d : Option Nat}
@[simp] theorem zAX(x):zbD P G (.move x) d a σ K Q=K (put a d (ev G a x)) σ:=Eq.trans rfl rfl
@[simp] theorem zwr(x):zbD P G (.assign x) d a σ K Q=K (put a d (ev G a x)) σ:=Eq.trans rfl rfl
def zp6(v x y:AV)(K:AV→Prop):Prop:=match v with
 | .bool b=>K (if b then x else y)
 | _=>False
@[simp] theorem zyF(b x y)(K:AV→Prop):zp6 (.bool b) x y K=K (if b then x else y):=Eq.trans rfl rfl
@[congr] theorem zws{dd:Prop}(_:blk=dd){v v' x x' y y':AV}{K:AV→Prop}(h:v=v')(h1:x=x')(h2:y=y'):zp6 v x y K=zp6 v' x' y' K:=by rw[h,h1,h2]
@[simp] theorem zAY(c x y):zbD P G (.pick c x y) d a σ K Q=zp6 (ev G a c) (ev G a x) (ev G a y) fun v=>K (put a d v) σ:=by
 simp only[zbD,zbW,zco,if_pos,zbH,zp6]
 cases ev G a c with
 | bool b=>simp
 | _=>simp
def zFm(b:Bool)(t n o:Nat):AV:=if b=true then .pt t n o 0 else .ptr o 0
@[simp] theorem zyG(t):zg2 t=(t==88):=Eq.trans rfl rfl
@[simp] theorem zHL(t n o):zFm false t n o=.ptr o 0:=rfl
@[simp] theorem zFn(t n o):zFm true t n o=.pt t n o 0:=rfl
def zAZ(v:AV)(K:AV→Prop):Prop:=match v with
 | .ptr _ _|.pv _ _|.fn (.func _) _ _|.pt _ _ _ _=>K v
 | _=>False
@[simp] theorem zFo(o f)(K:AV→Prop):zAZ (.ptr o f) K=K (.ptr o f):=Eq.trans rfl rfl
@[simp] theorem zHM(t n o f)(K:AV→Prop):zAZ (.pt t n o f) K=K (.pt t n o f):=Eq.trans rfl rfl
@[congr] theorem zyH{dd:Prop}(_:blk=dd){v v':AV}{K:AV→Prop}(h:v=v'):zAZ v K=zAZ v' K:=by rw[h]
@[simp] theorem zsr(x):zbD P G (.nilCheck x) d a σ K Q=zAZ (ev G a x) fun v=>K (put a d v) σ:=Eq.trans rfl rfl
@[simp] theorem zyI(op t x y u):zbD P G (.binOp op t x y u) d a σ K Q=zdk P op t y (ev G a x) (ev G a y) fun v=>K (put a d v) σ:=Eq.trans rfl rfl
@[congr] theorem zwt{dd:Prop}(_:blk=dd){op t y}{x x' z z':AV}{K:AV→Prop}(h:x=x')(h2:z=z'):zdk P op t y x z K=zdk P op t y x' z' K:=by rw[h,h2]
section
variable {K : AV → Prop}
@[simp] theorem zA0(op t x y z):zdk P op t (.tmp x) y z K=zbk P op t y z K:=by unfold zdk;split<;>simp_all
@[simp] theorem zA1(op t k n y z):zdk P op t (.const (.int k n)) y z K=zbk P op t y z K:=by unfold zdk;split<;>simp_all
@[simp] theorem zA2(op t s y z):zdk P op t (.const (.string s)) y z K=zbk P op t y z K:=by unfold zdk;split<;>simp_all
@[simp] theorem zwu(op t b l c y z):zdk P op t (.const (.slice b l c)) y z K=zbk P op t y z K:=by unfold zdk;split<;>simp_all
@[simp] theorem zFp(op t u v z):zdk P op t (.const .nilIface) (.iface u v) z K=zbk P op t (.iface u v) z K:=by unfold zdk;split<;>simp_all
@[simp] theorem zFq(t):zdk P .eql t (.const .nilIface) .nilif .nilif K=(zap P t=some true∧K (.bool true)):=Eq.trans rfl rfl
@[simp] theorem zA3(t):zdk P .neq t (.const .nilIface) .nilif .nilif K=(zap P t=some true∧K (.bool false)):=Eq.trans rfl rfl
end
@[simp] theorem zA4(op t x):zbD P G (.unOp op t x) d a σ K Q=aun op (ev G a x) fun v=>K (put a d v) σ:=Eq.trans rfl rfl
@[simp] theorem znL(t x):zbD P G (.makeInterface t x) d a σ K Q=(zap P t=some false∧K (put a d (.iface t (ev G a x))) σ):=Eq.trans rfl rfl
@[simp] theorem zss(f u v):zbD P G (.makeFunc f u v) d a σ K Q=K (put a d (.fn f (u.toList.map (ev G a)) (v.toList.map (ev G a)))) σ:=Eq.trans rfl rfl
@[simp] theorem zrW(t x i):zbD P G (.fieldAddr t x i) d a σ K Q=zav P t (ev G a x) i fun v=>K (put a d v) σ:=Eq.trans rfl rfl
@[simp] theorem zyJ(t x i):zbD P G (.field t x i) d a σ K Q=zg1 P t (ev G a x) i fun v=>K (put a d v) σ:=Eq.trans rfl rfl
@[simp] theorem zrX(t x i):zbD P G (.indexAddr t x i) d a σ K Q=zw P t (ev G a x) (ev G a i) fun v=>K (put a d v) σ:=Eq.trans rfl rfl
@[simp] theorem zyK(t x i):zbD P G (.index t x i) d a σ K Q=zf1 P t (ev G a x) (ev G a i) fun v=>K (put a d v) σ:=Eq.trans rfl rfl
def zp7(v:AV)(i:Nat)(K:AV→Prop):Prop:=match v with
 | .tuple vs=>zU vs[i]? K
 | _=>False
@[simp] theorem zwv(vs i)(K:AV→Prop):zp7 (.tuple vs) i K=zU vs[i]? K:=Eq.trans rfl rfl
@[congr] theorem zww{dd:Prop}(_:blk=dd){v v':AV}{i:Nat}{K:AV→Prop}(h:v=v'):zp7 v i K=zp7 v' i K:=by rw[h]
@[simp] theorem zvi(x i):zbD P G (.extract x i) d a σ K Q=zp7 (ev G a x) i fun v=>K (put a d v) σ:=by
 simp only[zbD,zbW,zco,if_pos,zbH,zp7,zU]
 cases ev G a x<;>rfl
@[simp] theorem zyL(t ps):zbD P G (.build t ps) d a σ K Q=ziG P t (ev G a) ps.toList fun v=>K (put a d v) σ:=Eq.trans rfl rfl
@[simp] theorem zp8(t n ps)(ho:(ps.toList.length==108)=false):zbD P G (.buildSlice t n ps) d a σ K Q=if zf2 t ps.toList=true then zg3 P t n (ev G a) ps.toList fun v=>K (put a d v) σ else zaE P t n (ev G a) ps.toList fun v=>K (put a d v) σ:=by
 have e:zco (.buildSlice t n ps)=true:=by simp only[zco,zAG,ho];rfl
 simp only[zbD,zbW,e,zva,zbH,if_true,Bool.false_eq_true,if_false]
@[simp] theorem zFr(t x):zbD P G (.call ⟨.builtin .len,#[x],#[t]⟩) d a σ K Q=zgF P t (ev G a x) fun v=>K (put a d v) σ:=Eq.trans rfl rfl
@[simp] theorem zyM(ts x):zbD P G (.call ⟨.builtin .unsafeSliceData,#[x],ts⟩) d a σ K Q=zg4 (ev G a x) fun v=>K (put a d v) σ:=Eq.trans rfl rfl
@[congr] theorem zvj{dd:Prop}(_:blk=dd){x x':AV}{K:AV→Prop}(h:x=x'):zg4 x K=zg4 x' K:=by rw[h]
@[simp] theorem zyN(e φ sz xs)(K:AV→Prop):zg4 (.tys e (.sl φ sz xs)) K=K (.tyd e (.sl φ sz xs)):=Eq.trans rfl rfl
@[simp] theorem zFs(t x):zbD P G (.call ⟨.builtin .cap,#[x],#[t]⟩) d a σ K Q=zwd P t (ev G a x) fun v=>K (put a d v) σ:=Eq.trans rfl rfl
@[congr] theorem zyO{dd:Prop}(_:blk=dd){t}{x x':AV}{K:AV→Prop}(h:x=x'):zwd P t x K=zwd P t x' K:=by rw[h]
@[simp] theorem zyP(t)(K:AV→Prop):zwd P t .nilsl K=((zcm P t).isSome=true∧K (.int .i64 0)):=Eq.trans rfl rfl
def zjK(P:Program)(t:TypeId)(ok:Bool)(v:AV)(K:AV→Prop):Prop:=match v with
 | .iface u v=>zap P t=some false∧u=t∧K (if ok then .tuple [v,.bool true]else v)
 | _=>False
@[simp] theorem zst(t ok u v)(K:AV→Prop):zjK P t ok (.iface u v) K=(zap P t=some false∧u=t∧K (if ok then .tuple [v,.bool true]else v)):=Eq.trans rfl rfl
@[congr] theorem zsu{dd:Prop}(_:blk=dd){t ok}{v v':AV}{K:AV→Prop}(h:v=v'):zjK P t ok v K=zjK P t ok v' K:=by rw[h]
@[simp] theorem zp9(x xt t ok):zbD P G (.typeAssert x xt t ok) d a σ K Q=zjK P t ok (ev G a x) fun v=>K (put a d v) σ:=Eq.trans rfl rfl
@[simp] theorem zyQ(t x lo hi mx):zbD P G (.slice t x lo hi mx) d a σ K Q=zep P (ev G a) t (ev G a x) lo hi mx fun v=>K (put a d v) σ:=Eq.trans rfl rfl
def zJw(f:Int→Int→Int)(x y:AV)(K:AV→Prop):Prop:=match x,y with
 | .int k m,.int k' n=>k=k'∧K (.int k (f m n))
 | _,_=>False
@[congr] theorem zyR{dd:Prop}(_:blk=dd){f}{x x' y y':AV}{K:AV→Prop}(h1:x=x')(h2:y=y'):zJw f x y K=zJw f x' y' K:=by rw[h1,h2]
@[simp] theorem zA5(t x):zbD P G (.load t x) d a σ K Q=zcF P t (ev G a x) σ fun v=>K (put a d v) σ:=Eq.trans rfl rfl
@[simp] theorem zyS(t p x):zbD P G (.store t p x) d a σ K Q=zhb P t (ev G a p) (ev G a x) σ fun σ'=>K (put a d (.tuple [])) σ':=Eq.trans rfl rfl
@[simp] theorem zyT(t):zbD P G (.alloc t) d a σ K Q=zU (zH P t) fun z=>z.known=true∧K (put a d (zFm (zg2 t) t z.cells.length σ.no)) (σ.newO z.cells):=Eq.trans rfl rfl
@[simp] theorem zFt(t x):zbD P G (.box t x) d a σ K Q=((ev G a x).known=true∧K (put a d (zFm (zg2 t) t (ev G a x).cells.length σ.no)) (σ.newO (ev G a x).cells)):=Eq.trans rfl rfl
@[simp] theorem zA6(t l c):zbD P G (.makeSlice t l c) d a σ K Q=zmx P t (ev G a l) (ev G a c) σ fun v σ'=>K (put a d v) σ':=Eq.trans rfl rfl
@[simp] theorem zwx(t u s x):zbD P G (.call ⟨.builtin .append,#[s,x],#[t,u]⟩) d a σ K Q=zdv P t u (ev G a s) (ev G a x) σ fun v σ'=>K (put a d v) σ':=Eq.trans rfl rfl
@[simp] theorem zvk(t u s x):zbD P G (.call ⟨.builtin .unsafeString,#[s,x],#[t,u]⟩) d a σ K Q=zfG P t (ev G a s) (ev G a x) σ fun v σ'=>K (put a d v) σ':=Eq.trans rfl rfl
@[congr] theorem zsv{dd:Prop}(_:blk=dd){t}{x x' y y':AV}{σ σ':AS}{K:AV→AS→Prop}(h:x=x')(h1:y=y')(h2:σ=σ'):zfG P t x y σ K=zfG P t x' y' σ' K:=by rw[h,h1,h2]
@[simp] theorem zA7(f args ts):zbD P G (.call ⟨.value f,args,ts⟩) d a σ K Q =
  zlc P G (ev G a f) (args.toList.map (ev G a)) σ (fun v σ'=>K (put a d v) σ') (fun v σ'=>Q (.panic v) ze4 σ'):=Eq.trans rfl rfl
def zlo(v:AV)(K:AV→Prop):Prop:=match v with
 | .iface t v=>K (.iface t v)
 | _=>False
@[simp] theorem zvl(t v)(K:AV→Prop):zlo (.iface t v) K=K (.iface t v):=Eq.trans rfl rfl
@[congr] theorem zvm{dd:Prop}(_:blk=dd){v v':AV}{K:AV→Prop}(h:v=v'):zlo v K=zlo v' K:=by rw[h]
@[simp] theorem zyU(x):zbD P G (.panic x) d a σ K Q=zlo (ev G a x) fun v=>Q (.panic v) ze4 σ:=by
 simp only[zbD,zbW,zco,zva,zlo]
 cases ev G a x<;>simp
end
section
variable {P : Program} {K : AV → Prop}
theorem List.beq_dec(x y:List UInt8):(x==y)=decide (x=y):=by
 by_cases h:x=y<;>simp[h]
@[congr] theorem zyV{dd:Prop}(_:blk=dd){op t}{x x' y y':AV}(h:x=x')(h2:y=y'):zbk P op t x y K=zbk P op t x' y' K:=by rw[h,h2]
@[simp] theorem zFu(t k)(m n:Int):zbk P .add t (.int k m) (.int k n) K=K (.int k (k.wrap (m+n))):=by simp[zbk,zbG]
@[simp] theorem zFv(t k)(m n:Int):zbk P .sub t (.int k m) (.int k n) K=K (.int k (k.wrap (m-n))):=by simp[zbk,zbG]
@[simp] theorem zFw(t k)(m n:Int):zbk P .mul t (.int k m) (.int k n) K=K (.int k (k.wrap (m*n))):=by simp[zbk,zbG]
@[simp] theorem zFx(t k)(m n:Int):zbk P .eql t (.int k m) (.int k n) K=K (.bool (decide (m=n))):=by simp[zbk,zbG]
@[simp] theorem zFy(t k)(m n:Int):zbk P .neq t (.int k m) (.int k n) K=K (.bool (!decide (m=n))):=by simp[zbk,zbG]
@[simp] theorem zFz(t k)(m n:Int):zbk P .lss t (.int k m) (.int k n) K=K (.bool (decide (m<n))):=by simp[zbk,zbG]
@[simp] theorem zFA(t k)(m n:Int):zbk P .leq t (.int k m) (.int k n) K=K (.bool (decide (m≤n))):=by simp[zbk,zbG]
@[simp] theorem zFB(t k)(m n:Int):zbk P .gtr t (.int k m) (.int k n) K=K (.bool (decide (n<m))):=by simp[zbk,zbG]
@[simp] theorem zFC(t k)(m n:Int):zbk P .geq t (.int k m) (.int k n) K=K (.bool (decide (n≤m))):=by simp[zbk,zbG]
@[simp] theorem zvn(t)(x y):zbk P .eql t (.str x) (.str y) K=K (.bool (decide (x=y))):=by simp only[zbk,zg0,List.beq_dec]
@[simp] theorem zvo(t)(x y):zbk P .neq t (.str x) (.str y) K=K (.bool (!decide (x=y))):=by simp only[zbk,zg0,List.beq_dec]
@[simp] theorem zFD(k0 k a b):zjs (.int k0) (.int k a) (.int k b)=some (decide (a=b)):=by simp only[zjs,if_true];rfl
@[simp] theorem zFE(a b):zjs .string (.str a) (.str b)=some (decide (a=b)):=by simp only[zjs,Bool.beq_eq_decide_eq]
@[simp] theorem zwy(e a b c):zjs (.slice e) (.sl a b c) .nilsl=some false:=rfl
@[simp] theorem zvp(e a b c d):zjs (.slice e) (.slm a b c d) .nilsl=some false:=rfl
@[simp] theorem zvq(e):zjs (.slice e) .nilsl .nilsl=some true:=rfl
@[simp] theorem zvr(t)(x y):zbk P .eql t (.agg x) (.agg y) K=zU (aeq P t (.agg x) (.agg y)) fun r=>K (.bool r):=by simp[zbk,zU]
@[simp] theorem zvs(t)(y):zbk P .eql t y .nilsl K=zU (aeq P t y .nilsl) fun r=>K (.bool r):=by cases y<;>simp[zbk,zU]
@[simp] theorem zsw(t)(x y):zbk P .eql t (.bool x) (.bool y) K=zU (aeq P t (.bool x) (.bool y)) fun r=>K (.bool r):=by simp[zbk,zU]
@[congr] theorem zA8{dd:Prop}(_:blk=dd){op}{x x':AV}(h:x=x'):aun op x K=aun op x' K:=by rw[h]
@[simp] theorem zHN(b):aun .not (.bool b) K=K (.bool !b):=Eq.trans rfl rfl
@[simp] theorem zHO(k n):aun .xor (.int k n) K=K (.int k (zbl k (· ^^^ ·) (if k.signed then -1 else k.max) n)):=Eq.trans rfl rfl
@[simp] theorem zHP(k n):aun .neg (.int k n) K=K (.int k (k.wrap (-n))):=Eq.trans rfl rfl
@[simp] theorem zwz(n off cs):zaA true n off cs K=(off+n≤cs.length∧K (.agg ((cs.drop off).take n))):=Eq.trans rfl rfl
@[simp] theorem zvt(n off cs):zaA false n off cs K=zU cs[off]? K:=Eq.trans rfl rfl
@[congr] theorem zvu{dd:Prop}(_:blk=dd){g g' n off off'}{cs cs':List AV}(h:cs=cs')(h2:off=off')(h3:g=g'):zaA g n off cs K=zaA g' n off' cs' K:=by rw[h,h2,h3]
@[congr] theorem zpF{dd:Prop}(_:blk=dd){t f}{x x':AV}(h:x=x'):zav P t x f K=zav P t x' f K:=by rw[h]
@[simp] theorem zrY(t f o off):zav P t (.ptr o off) f K=zU (zba P t f) fun i=>K (.ptr o (off+i.off)):=Eq.trans rfl rfl
@[simp] theorem zrZ(t u n o off):zav P t (.pt u n o off) 0 K=zU (zba P t 0) fun i=>K (.pt u n o (off+i.off)):=Eq.trans rfl rfl
@[simp] theorem zsx(t f u n o off):zav P t (.pt u n o off) (f+1) K=zU (zba P t (f+1)) fun i=>K (.ptr o (off+i.off)):=Eq.trans rfl rfl
@[simp] theorem zsy(t f φ cs):zav P t (.pv φ (.agg cs)) f K=zU (zba P t f) fun i=>zaA i.agg i.size i.off cs fun v=>zu7 i.agg i.size v∧K (.pv φ v):=Eq.trans rfl rfl
@[simp] theorem zyW(n v):zu7 false n v=(v.cells=[v]):=Eq.trans rfl rfl
@[congr] theorem zvv{dd:Prop}(_:blk=dd){t f}{x x':AV}(h:x=x'):zg1 P t x f K=zg1 P t x' f K:=by rw[h]
@[simp] theorem zyX(t f cs):zg1 P t (.agg cs) f K=zU (zba P t f) fun i=>zaA i.agg i.size i.off cs K:=Eq.trans rfl rfl
@[congr] theorem zpG{dd:Prop}(_:blk=dd){t}{x x' i i':AV}(h:x=x')(h2:i=i'):zw P t x i K=zw P t x' i' K:=by rw[h,h2]
@[simp] theorem zsz(t φ sz xs k n):zw P t (.sl φ sz xs) (.int k n) K=(zcm P t=some sz∧0≤n∧zU xs[n.toNat]? fun v=>K (.pv φ v)):=Eq.trans rfl rfl
@[simp] theorem zr0(t o off sz len k n):zw P t (.slm o off sz len) (.int k n) K=(zcm P t=some sz∧0≤n∧n<len∧K (.ptr o (off+n.toNat * sz))):=Eq.trans rfl rfl
@[congr] theorem zvw{dd:Prop}(_:blk=dd){t}{x x' i i':AV}(h:x=x')(h2:i=i'):zf1 P t x i K=zf1 P t x' i' K:=by rw[h,h2]
@[simp] theorem zyY(t s k n):zf1 P t (.str s) (.int k n) K=(zca P t=true∧0≤n∧zU s[n.toNat]? fun b=>K (.int .u8 b.toNat)):=Eq.trans rfl rfl
@[congr] theorem zyZ{dd:Prop}(_:blk=dd){t}{x x':AV}(h:x=x'):zgF P t x K=zgF P t x' K:=by rw[h]
@[simp] theorem zFF(t s):zgF P t (.str s) K=(zca P t=true∧K (.int .i64 s.length)):=Eq.trans rfl rfl
@[simp] theorem zy0(t):zgF P t .nilsl K=((zcm P t).isSome=true∧K (.int .i64 0)):=Eq.trans rfl rfl
@[simp] theorem zHQ(t φ sz xs):zgF P t (.sl φ sz xs) K=((zcm P t).isSome=true∧K (.int .i64 xs.length)):=Eq.trans rfl rfl
@[simp] theorem zvx(t e):zgF P t (.tys e .nilsl) K=((zcm P t).isSome=true∧K (.int .i64 0)):=Eq.trans rfl rfl
@[simp] theorem zFG(t e φ sz xs):zgF P t (.tys e (.sl φ sz xs)) K=((zcm P t).isSome=true∧K (.int .i64 xs.length)):=Eq.trans rfl rfl
@[simp] theorem zFH(t o off sz len):zgF P t (.slm o off sz len) K=((zcm P t).isSome=true∧K (.int .i64 len)):=Eq.trans rfl rfl
variable {a : Operand → AV}
def znM(P:Program)(t:TypeId)(i:Nat)(v:AV)(cs:List AV)(K:List AV→Prop):Prop :=
 zU (zba P t i) fun f=>v.known=true∧v.cells.length=f.size∧f.off+f.size≤cs.length∧K (splice cs f.off v.cells)
@[congr] theorem zvy{dd:Prop}(_:blk=dd){t i}{v v':AV}{cs cs'}{K:List AV→Prop}(h:v=v')(h2:cs=cs'):znM P t i v cs K=znM P t i v' cs' K:=by rw[h,h2]
@[simp] theorem zA9(t i v cs)(K:List AV→Prop):znM P t i v cs K=zU (zba P t i) fun f=>v.known=true∧v.cells.length=f.size∧f.off+f.size≤cs.length∧K (splice cs f.off v.cells):=Eq.trans rfl rfl
@[congr] theorem zwA{dd:Prop}(_:blk=dd){t}{a a':Operand→AV}{l}{cs cs'}{K:List AV→Prop}(h2:cs=cs')(h:a=a'):zju P t a l cs K=zju P t a' l cs' K:=by rw[h,h2]
@[simp] theorem zBa(t cs)(K:List AV→Prop):zju P t a [] cs K=K cs:=Eq.trans rfl rfl
@[simp] theorem zy1(t i x r cs)(K:List AV→Prop):zju P t a ((i,x)::r) cs K=znM P t i (a x) cs fun cs=>zju P t a r cs K:=Eq.trans rfl rfl
@[congr] theorem zwB{dd:Prop}(_:blk=dd){n sz}{a a':Operand→AV}{l}{cs cs'}{K:List AV→Prop}(h2:cs=cs')(h:a=a'):zih n sz a l cs K=zih n sz a' l cs' K:=by rw[h,h2]
@[simp] theorem zBb(n sz cs)(K:List AV→Prop):zih n sz a [] cs K=K cs:=Eq.trans rfl rfl
@[simp] theorem zy2(n sz i x r cs)(K:List AV→Prop):zih n sz a ((i,x)::r) cs K=(i<n∧(a x).known=true∧(a x).cells.length=sz∧zih n sz a r (cs.set i (a x)) K):=Eq.trans rfl rfl
@[congr] theorem zvz{dd:Prop}(_:blk=dd){t}{a a':Operand→AV}{l l'}(h:a=a')(h2:l=l'):ziG P t a l K=ziG P t a' l' K:=by rw[h,h2]
@[simp] theorem zBc(t l):ziG P t a l K=((zY P t=true∧zej P t=true)∧zU (zH P t) fun z=>z.known=true∧zju P t a l z.cells fun cs=>K (.agg cs)):=Eq.trans rfl rfl
@[congr] theorem zoT{dd:Prop}(_:blk=dd){t n}{a a':Operand→AV}{l l'}(h:a=a')(h2:l=l'):zaE P t n a l K=zaE P t n a' l' K:=by rw[h,h2]
@[simp] theorem zr1(t n l):zaE P t n a l K=zU (zcm P t) fun sz=>zU (za0 P t) fun z=>z.cells.length=sz∧0<sz∧n*sz≤2^24∧zih n sz a l (yaj n z) fun xs=>K (.sl (.stat true) sz xs):=by
 simp[zaE,zU]
@[congr] theorem zqa{dd:Prop}(_:blk=dd){t n}{a a':Operand→AV}{l l'}{σ σ':AS}{K:AV→AS→Prop}(h:a=a')(h2:l=l')(h3:σ=σ'):zdw P t n a l σ K=zdw P t n a' l' σ' K:=by rw[h,h2,h3]
@[congr] theorem zvA{dd:Prop}(_:blk=dd){a a':Operand→AV}{n n' lo hi mx}{K:Nat→Nat→Nat→Prop}(h:a=a')(h2:n=n'):zcD a n lo hi mx K=zcD a' n' lo hi mx K:=by rw[h,h2]
@[simp] theorem zBd(n lo hi mx)(K:Nat→Nat→Nat→Prop):zcD a n lo hi mx K=zU (zbS a 0 lo) fun l=>zU (zbS a n hi) fun h=>zU (zbS a n mx) fun m =>
  0≤l∧l≤h∧h≤m∧m≤n∧(mx.isSome→hi.isSome)∧K l.toNat h.toNat m.toNat:=by simp[zcD,zU]
def zJx(v:AV):Option Int:=match v with
 | .int _ n=>some n
 | _=>none
@[simp] theorem zFI(k n):zJx (.int k n)=some n:=Eq.trans rfl rfl
@[simp] theorem zwC(d):zbS a d none=some d:=Eq.trans rfl rfl
@[simp] theorem zvB(d x):zbS a d (some x)=zJx (a x):=Eq.trans rfl rfl
@[congr] theorem zvC{dd:Prop}(_:blk=dd){a a':Operand→AV}{t x x' lo hi mx}(h:a=a')(h2:x=x'):zep P a t x lo hi mx K=zep P a' t x' lo hi mx K:=by rw[h,h2]
@[simp] theorem zy3(t s lo hi mx):zep P a t (.str s) lo hi mx K=(zca P t=true∧mx=none∧zcD a s.length lo hi none fun l h _=>K (.str ((s.take h).drop l))):=Eq.trans rfl rfl
@[simp] theorem zy4(t lo hi mx):zep P a t .nilsl lo hi mx K=((zcm P t).isSome=true∧zcD a 0 lo hi mx fun _ _ _=>K .nilsl):=Eq.trans rfl rfl
@[simp] theorem zBe(t φ sz xs lo hi mx):zep P a t (.sl φ sz xs) lo hi mx K=(zcm P t=some sz∧zcD a xs.length lo hi mx fun l h m=>K (.sl (cut φ (if mx.isSome then decide (m=h)else φ.full&&decide (h=xs.length))) sz ((xs.take h).drop l))):=Eq.trans rfl rfl
@[simp] theorem zy5(t o off sz len lo hi mx):zep P a t (.slm o off sz len) lo hi mx K=(zcm P t=some sz∧mx=none∧zcD a len lo hi none fun l h _=>(l<len∨l=0)∧K (.slm o (off+l*sz) sz (h-l))):=Eq.trans rfl rfl
@[simp] theorem zFJ(b f):cut (.stat b) f=.stat f:=Eq.trans rfl rfl
@[simp] theorem zHR(g b f):cut (.fam g b) f=.fam g f:=Eq.trans rfl rfl
@[simp] theorem zBf(f):Own.full (.stat f)=f:=Eq.trans rfl rfl
@[simp] theorem zFK(g f):Own.full (.fam g f)=f:=Eq.trans rfl rfl
@[simp] theorem zsA(F f):zm F (.stat f)=True:=Eq.trans rfl rfl
@[simp] theorem zvD(F g f):zm F (.fam g f)=(F g=.alive):=Eq.trans rfl rfl
@[simp] theorem zBg(l):(AV.agg l).cells=l:=Eq.trans rfl rfl
@[simp] theorem zBh(k n):(AV.int k n).cells=[.int k n]:=Eq.trans rfl rfl
@[simp] theorem zy6(b):(AV.bool b).cells=[.bool b]:=Eq.trans rfl rfl
@[simp] theorem zBi(b):(AV.str b).cells=[.str b]:=Eq.trans rfl rfl
@[simp] theorem zy7:AV.nilp.cells=[.nilp]:=Eq.trans rfl rfl
@[simp] theorem zwD:AV.nilsl.cells=[.nilsl]:=Eq.trans rfl rfl
@[simp] theorem zBj(o f):(AV.ptr o f).cells=[.ptr o f]:=Eq.trans rfl rfl
@[simp] theorem zFL(o f x):(AV.sl o f x).cells=[.sl o f x]:=Eq.trans rfl rfl
@[simp] theorem zBk(o f x y):(AV.slm o f x y).cells=[.slm o f x y]:=Eq.trans rfl rfl
@[simp] theorem zwE(t v):(AV.iface t v).cells=[.iface t v]:=Eq.trans rfl rfl
variable {σ : AS}
@[simp] theorem zBl(cs):(σ.newO cs).objs=upd σ.objs σ.no (some cs):=Eq.trans rfl rfl
@[simp] theorem zHS(cs):(σ.newO cs).no=σ.no+1:=Eq.trans rfl rfl
@[simp] theorem zJy(cs):(σ.newO cs).F=σ.F:=Eq.trans rfl rfl
@[simp] theorem zHT(cs):(σ.newO cs).nf=σ.nf:=Eq.trans rfl rfl
@[simp] theorem zBm(o cs):(σ.setO o cs).objs=upd σ.objs o (some cs):=Eq.trans rfl rfl
@[simp] theorem zHU(o cs):(σ.setO o cs).no=σ.no:=Eq.trans rfl rfl
@[simp] theorem zJz(o cs):(σ.setO o cs).F=σ.F:=Eq.trans rfl rfl
@[simp] theorem zHV(o cs):(σ.setO o cs).nf=σ.nf:=Eq.trans rfl rfl
@[simp] theorem zBn:σ.newF.objs=σ.objs:=Eq.trans rfl rfl
@[simp] theorem zHW:σ.newF.no=σ.no:=Eq.trans rfl rfl
@[simp] theorem zJA:σ.newF.F=upd σ.F σ.nf .alive:=Eq.trans rfl rfl
@[simp] theorem zHX:σ.newF.nf=σ.nf+1:=Eq.trans rfl rfl
@[simp] theorem zBo(f s):(σ.setF f s).objs=σ.objs:=Eq.trans rfl rfl
@[simp] theorem zHY(f s):(σ.setF f s).no=σ.no:=Eq.trans rfl rfl
@[simp] theorem zJB(f s):(σ.setF f s).F=upd σ.F f s:=Eq.trans rfl rfl
@[simp] theorem zHZ(f s):(σ.setF f s).nf=σ.nf:=Eq.trans rfl rfl
@[congr] theorem zwF{dd:Prop}(_:blk=dd){t}{p p':AV}{σ σ':AS}(h:p=p')(h2:σ=σ'):zcF P t p σ K=zcF P t p' σ' K:=by rw[h,h2]
@[simp] theorem zBp(t o off):zcF P t (.ptr o off) σ K=zU (σ.objs o) fun cs=>zU (za9 P t) fun n=>zaA (zaO P t) n off cs K:=by simp[zcF,zU]
def whole(g:Bool)(n:Nat)(v:AV)(K:AV→Prop):Prop:=if g then ∃cs,v=.agg cs∧cs.length=n∧K v else v.cells=[v]∧K v
@[congr] theorem zwG{dd:Prop}(_:blk=dd){g g' n}{v v':AV}(h:v=v')(h2:g=g'):whole g n v K=whole g' n v' K:=by rw[h,h2]
@[simp] theorem zBq(n cs):whole true n (.agg cs) K=(cs.length=n∧K (.agg cs)):=by simp[whole]
@[simp] theorem zBr(n v):whole false n v K=(v.cells=[v]∧K v):=by simp[whole]
@[simp] theorem zFM(t φ v):zcF P t (.pv φ v) σ K=(zm σ.F φ∧zU (za9 P t) fun n=>whole (zaO P t) n v K):=by simp[zcF,zU,whole]
@[congr] theorem zvE{dd:Prop}(_:blk=dd){t}{p p' v v':AV}{σ σ':AS}{K:AS→Prop}(h:p=p')(h1:v=v')(h2:σ=σ'):zhb P t p v σ K=zhb P t p' v' σ' K:=by rw[h,h1,h2]
@[simp] theorem zy8(t o off v)(K:AS→Prop):zhb P t (.ptr o off) v σ K=zU (σ.objs o) fun cs=>v.known=true∧za9 P t=some v.cells.length∧off+v.cells.length≤cs.length∧(∀c∈v.cells,c.one=true)∧K (σ.setO o (splice cs off v.cells)):=Eq.trans rfl rfl
@[congr] theorem zsB{dd:Prop}(_:blk=dd){t z sz}{x x':AV}{F F':Nat→FSt}{K:List AV→Prop}(h:x=x')(h2:F=F'):zcx P t z sz x F K=zcx P t z sz x' F' K:=by rw[h,h2]
variable {F : Nat → FSt}
@[simp] theorem zwH(t z sz)(K:List AV→Prop):zcx P t z sz .nilsl F K=((zcm P t).isSome=true∧K []):=Eq.trans rfl rfl
@[simp] theorem zy9(t z sz φ s ys)(K:List AV→Prop):zcx P t z sz (.sl φ s ys) F K=(zcm P t=some s∧s=sz∧zm F φ∧K ys):=Eq.trans rfl rfl
@[simp] theorem zwI(t z sz bs)(K:List AV→Prop):zcx P t z sz (.str bs) F K=(zca P t=true∧sz=1∧K (bs.map fun b=>.int .u8 b.toNat)):=Eq.trans rfl rfl
@[simp] theorem zwJ(t z sz k n)(K:List AV→Prop):zcx P t z sz (.int k n) F K=((zdd P t).isSome=true∧0≤n∧n<2^40∧K (yaj n.toNat z)):=Eq.trans rfl rfl
def zcc(el:Option TypeId)(bs sz:Nat)(s:AV)(ys:List AV)(σ:AS)(K:AV→AS→Prop):Prop :=
 match s with
 | .nilsl=>ys.length*bs≤2^47∧(ys=[]→K .nilsl σ)∧(ys≠[]→K (.sl (.fam σ.nf false) sz ys) σ.newF)
 | .sl (.stat true) s' xs=>s'=sz∧(xs.length+ys.length)*bs≤2^47∧(ys=[]→K (.sl (.stat true) s' xs) σ)∧(ys≠[]→K (.sl (.fam σ.nf false) sz (xs++ys)) σ.newF)
 | .sl (.fam f true) s' xs=>s'=sz∧(xs.length+ys.length)*bs≤2^47∧σ.F f=.alive∧(ys=[]→K (.sl (.fam f true) s' xs) σ)∧(ys≠[]→K (.sl (.fam σ.nf false) sz (xs++ys)) σ.newF)
 | .sl (.fam f false) s' xs=>s'=sz∧(xs.length+ys.length)*bs≤2^47∧σ.F f=.alive∧K (.sl (.fam σ.nf false) sz (xs++ys)) (σ.setF f .dead).newF
 | .sl (.stat false) s' xs=>ys=[]∧K (.sl (.stat false) s' xs) σ
 | .slm o off s' len=>s'=sz∧off=0∧(len+ys.length)*bs≤2^47∧∃cs,σ.objs o=some cs∧len*sz≤cs.length∧K (.slm σ.no 0 sz (len+ys.length)) (σ.moveO o (cs.take (len*sz)++zy ys))
 | .tys e .nilsl=>el=some e∧ys.length*bs≤2^47∧(ys=[]→K (.tys e .nilsl) σ)∧(ys≠[]→K (.tys e (.sl (.fam σ.nf false) sz ys)) σ.newF)
 | .tys e (.sl (.fam f false) s' xs)=>el=some e∧s'=sz∧(xs.length+ys.length)*bs≤2^47∧σ.F f=.alive∧K (.tys e (.sl (.fam σ.nf false) sz (xs++ys))) (σ.setF f .dead).newF
 | .lit bl=>1=sz∧(bl.length+ys.length)*bs≤2^47∧ys≠[]∧K (.sl (.fam σ.nf false) sz (B bl++ys)) σ.newF
 | _=>False
@[congr] theorem zwK{dd:Prop}(_:blk=dd){el bs sz}{s s':AV}{ys ys':List AV}{σ σ':AS}{K:AV→AS→Prop}(h:s=s')(h1:ys=ys')(h2:σ=σ'):zcc el bs sz s ys σ K=zcc el bs sz s' ys' σ' K:=by rw[h,h1,h2]
variable {KS : AV → AS → Prop}
def elT(P:Program)(t:TypeId):Option TypeId:=match P.underlying t with
 | some (.slice e)=>some e
 | _=>none
theorem zwL{P:Program}{t e:TypeId}:elT P t=some e↔P.underlying t=some (.slice e):=by
 unfold elT
 split
 ·rename_i h;rw[h];simp
 ·rename_i h;simp;intro q;exact h _ q
@[simp] theorem zjL(el bs sz e ys):zcc el bs sz (.tys e .nilsl) ys σ KS=(el=some e∧ys.length*bs≤2^47∧(ys=[]→KS (.tys e .nilsl) σ)∧(ys≠[]→KS (.tys e (.sl (.fam σ.nf false) sz ys)) σ.newF)):=Eq.trans rfl rfl
@[simp] theorem zjM(el bs sz e f s' xs ys):zcc el bs sz (.tys e (.sl (.fam f false) s' xs)) ys σ KS=(el=some e∧s'=sz∧(xs.length+ys.length)*bs≤2^47∧σ.F f=.alive∧KS (.tys e (.sl (.fam σ.nf false) sz (xs++ys))) (σ.setF f .dead).newF):=Eq.trans rfl rfl
@[simp] theorem zsC(el bs sz):zcc el bs sz .nilsl [] σ KS=KS .nilsl σ:=by simp[zcc]
@[simp] theorem zr2(el bs sz y ys):zcc el bs sz .nilsl (y::ys) σ KS=((y::ys).length*bs≤2^47∧KS (.sl (.fam σ.nf false) sz (y::ys)) σ.newF):=by simp[zcc]
@[simp] theorem zBs(el bs sz f s' xs ys):zcc el bs sz (.sl (.fam f false) s' xs) ys σ KS=(s'=sz∧(xs.length+ys.length)*bs≤2^47∧σ.F f=.alive∧KS (.sl (.fam σ.nf false) sz (xs++ys)) (σ.setF f .dead).newF):=Eq.trans rfl rfl
@[simp] theorem grown_full_cons(el bs sz f s' xs y ys):zcc el bs sz (.sl (.fam f true) s' xs) (y::ys) σ KS=(s'=sz∧(xs.length+(y::ys).length)*bs≤2^47∧σ.F f=.alive∧KS (.sl (.fam σ.nf false) sz (xs++y::ys)) σ.newF):=by simp[zcc]
@[simp] theorem zr3(el bs sz s' xs):zcc el bs sz (.sl (.stat true) s' xs) [] σ KS=(s'=sz∧xs.length*bs≤2^47∧KS (.sl (.stat true) s' xs) σ):=by simp[zcc]
@[simp] theorem zqb(el bs sz s' xs y ys):zcc el bs sz (.sl (.stat true) s' xs) (y::ys) σ KS=(s'=sz∧(xs.length+(y::ys).length)*bs≤2^47∧KS (.sl (.fam σ.nf false) sz (xs++y::ys)) σ.newF):=by simp[zcc]
@[congr] theorem zsD{dd:Prop}(_:blk=dd){t u}{s s' x x':AV}{σ σ':AS}{K:AV→AS→Prop}(h:s=s')(h1:x=x')(h2:σ=σ'):zdv P t u s x σ K=zdv P t u s' x' σ' K:=by rw[h,h1,h2]
@[simp] theorem zAa(t u s x):zdv P t u s x σ KS=zU (zcm P t) fun sz=>zU (zbM P t) fun bs=>0<bs∧zU (za0 P t) fun z=>z.known=true∧z.cells.length=sz∧0<sz ∧
  zcx P u z sz x σ.F fun ys=>(∀y∈ys,y.cells.length=sz∧∀c∈y.cells,c.one=true)∧zcc (elT P t) bs sz s ys σ KS:=by
 simp only[zdv,zU,zcc,zwL]
 apply propext
 constructor
 ·rintro ⟨sz,bs,z,h1,h2,h3,h4,h5,h6,h7,h8⟩
  exact⟨sz,h1,bs,h2,h3,z,h4,h5,h6,h7,h8⟩
 ·rintro ⟨sz,h1,bs,h2,h3,z,h4,h5,h6,h7,h8⟩
  exact⟨sz,bs,z,h1,h2,h3,h4,h5,h6,h7,h8⟩
def zvF(K PK:AV→AS→Prop):Out→AS→Prop:=fun o σ'=>match o with
 | .ret v=>K v σ'
 | .panic v=>PK v σ'
@[simp] theorem zFN(K PK:AV→AS→Prop)(v σ'):zvF K PK (.ret v) σ'=K v σ':=Eq.trans rfl rfl
@[simp] theorem zAb(K PK:AV→AS→Prop)(v σ'):zvF K PK (.panic v) σ'=PK v σ':=Eq.trans rfl rfl
@[congr] theorem zwM{dd:Prop}(_:blk=dd){G}{f f':AV}{l l':List AV}{σ σ':AS}{K PK:AV→AS→Prop}(h:f=f')(h1:l=l')(h2:σ=σ'):zlc P G f l σ K PK=zlc P G f' l' σ' K PK:=by rw[h,h1,h2]
@[simp] theorem zFO(G n first cap l)(K PK:AV→AS→Prop):zlc P G (.fn (.func n) first cap) l σ K PK=(za P n=true∧ACalls P G n (first++l++cap) σ (zvF K PK)):=by
 rfl
@[congr] theorem zAc{dd:Prop}(_:blk=dd){K PK:AV→AS→Prop}{o o':Out}{σ σ':AS}(h:o=o')(h1:σ=σ'):zvF K PK o σ=zvF K PK o' σ':=by rw[h,h1]
@[congr] theorem zAd{dd:Prop}(_:blk=dd){l}{a a':Nat→AV}{σ σ':AS}{K:List AV→Prop}(h:a=a')(h2:σ=σ'):zjJ P l a σ K=zjJ P l a' σ' K:=by rw[h,h2]
@[simp] theorem zFP(a σ)(K:List AV→Prop):zjJ P [] a σ K=K []:=Eq.trans rfl rfl
@[simp] theorem zFQ(t r a σ)(K:List AV→Prop):zjJ P (.tmp t::r) a σ K=zjJ P r a σ fun vs=>K (a t::vs):=Eq.trans rfl rfl
@[simp] theorem zBt(t ty r a σ)(K:List AV→Prop):zjJ P (.cell t ty::r) a σ K=zcF P ty (a t) σ fun v=>zjJ P r a σ fun vs=>K (v::vs):=Eq.trans rfl rfl
@[congr] theorem zAe{dd:Prop}(_:blk=dd){l}{R:Out→AS→Prop}{e:AExit}{a a':Nat→AV}{σ σ':AS}(h:a=a')(h2:σ=σ'):ze9 P l R e a σ=ze9 P l R e a' σ':=by rw[h,h2]
@[simp] theorem zwN(l)(R:Out→AS→Prop)(a σ):ze9 P l R .normal a σ=zjJ P l a σ fun vs=>R (.ret (tup vs)) σ:=Eq.trans rfl rfl
@[simp] theorem zFR(l)(R:Out→AS→Prop)(a σ):ze9 P l R .ret a σ=zjJ P l a σ fun vs=>R (.ret (tup vs)) σ:=Eq.trans rfl rfl
@[simp] theorem zAf(l)(R:Out→AS→Prop)(v a σ):ze9 P l R (.panic v) a σ=R (.panic v) σ:=Eq.trans rfl rfl
@[simp] theorem zH0(v):tup [v]=v:=Eq.trans rfl rfl
@[simp] theorem zH1:tup []=.tuple []:=Eq.trans rfl rfl
@[simp] theorem zH2(v w l):tup (v::w::l)=.tuple (v::w::l):=Eq.trans rfl rfl
@[simp] theorem zAg(b):(AV.bool b).known=true:=Eq.trans rfl rfl
@[simp] theorem zFS(b):(AV.bool b).one=true:=Eq.trans rfl rfl
@[simp] theorem zBu(k n):(AV.int k n).known=true:=Eq.trans rfl rfl
@[simp] theorem zH3(k n):(AV.int k n).one=true:=Eq.trans rfl rfl
@[simp] theorem zBv(s):(AV.str s).known=true:=Eq.trans rfl rfl
@[simp] theorem zH4(s):(AV.str s).one=true:=Eq.trans rfl rfl
@[simp] theorem zAh:AV.nilp.known=true:=Eq.trans rfl rfl
@[simp] theorem zBw(o i):(AV.ptr o i).known=true:=Eq.trans rfl rfl
@[simp] theorem zH5(o i):(AV.ptr o i).one=true:=Eq.trans rfl rfl
@[simp] theorem zwO:AV.nilsl.known=true:=Eq.trans rfl rfl
@[simp] theorem zBx:AV.nilsl.one=true:=Eq.trans rfl rfl
@[simp] theorem zFT(φ z l):(AV.sl φ z l).known=true:=Eq.trans rfl rfl
@[simp] theorem zJC(φ z l):(AV.sl φ z l).one=true:=Eq.trans rfl rfl
@[simp] theorem zBy(o i z l):(AV.slm o i z l).known=true:=Eq.trans rfl rfl
@[simp] theorem zBz(e v):(AV.tys e v).known=true:=Eq.trans rfl rfl
@[simp] theorem zH6(e v):(AV.tys e v).one=true:=Eq.trans rfl rfl
@[simp] theorem zBA(e v):(AV.tys e v).cells=[.tys e v]:=Eq.trans rfl rfl
@[simp] theorem zH7(o i z l):(AV.slm o i z l).one=true:=Eq.trans rfl rfl
@[simp] theorem zBB(l):(AV.agg l).known=true:=Eq.trans rfl rfl
theorem zc{n:Int}(h:-2^63≤n)(h2:n<2^63):yb4 .i64 n=n:=by
 unfold yb4
 simp[IntKind.bits,IntKind.signed]
 omega
end
mutual
def frz(f:Nat):AV→AV
 | .sl φ sz xs=>match φ with
  | .fam g b=>if g=f then .sl (.stat b) sz (zsE f xs)else .sl (.fam g b) sz (zsE f xs)
  | .stat b=>.sl (.stat b) sz (zsE f xs)
 | .agg cs=>.agg (zsE f cs)
 | .tuple vs=>.tuple (zsE f vs)
 | .iface t v=>.iface t (frz f v)
 | v=>v
def zsE(f:Nat):List AV→List AV
 | []=>[]
 | v::vs=>frz f v::zsE f vs
end
theorem zeM(f:Nat):∀l,zsE f l=l.map (frz f)
 | []=>by simp[zsE]
 | v::l=>by simp[zsE,zeM f l]
@[simp] theorem zoU(f g b sz xs):frz f (.sl (.fam g b) sz xs)=.sl (if g=f then .stat b else .fam g b) sz (xs.map (frz f)):=by
 by_cases h:g=f<;>simp[frz,zeM,h]
@[simp] theorem zht(f b sz xs):frz f (.sl (.stat b) sz xs)=.sl (.stat b) sz (xs.map (frz f)):=by simp[frz,zeM]
@[simp] theorem zwP(f cs):frz f (.agg cs)=.agg (cs.map (frz f)):=by simp[frz,zeM]
@[simp] theorem zqc(f cs):frz f (.tuple cs)=.tuple (cs.map (frz f)):=by simp[frz,zeM]
@[simp] theorem zqd(f t v):frz f (.iface t v)=.iface t (frz f v):=by simp[frz]
@[simp] theorem zH8(f k n):frz f (.int k n)=.int k n:=by simp[frz]
@[simp] theorem zFU(f b):frz f (.bool b)=.bool b:=by simp[frz]
@[simp] theorem zH9(f b):frz f (.str b)=.str b:=by simp[frz]
@[simp] theorem zBC(f):frz f .nilsl=.nilsl:=by simp[frz]
@[simp] theorem zFV(f):frz f .nilp=.nilp:=by simp[frz]
@[simp] theorem zBD(f):frz f .nilif=.nilif:=by simp[frz]
@[simp] theorem zIa(f o i):frz f (.ptr o i)=.ptr o i:=by simp[frz]
theorem zgx(f:Nat)(v:AV):(frz f v).cells.length=v.cells.length:=by
 cases v with
 | agg cs=>simp[frz,zeM]
 | sl φ sz xs=>cases φ<;>simp[frz];split<;>simp
 | _=>simp[frz,AV.cells]
theorem zqe(f:Nat)(v:AV):(frz f v).cells=v.cells.map (frz f):=by
 cases v with
 | agg cs=>simp[frz,zeM]
 | sl φ sz xs=>cases φ<;>simp[frz];split<;>simp
 | _=>simp[frz,AV.cells]
theorem zjN(f:Nat)(l:List AV):zy (l.map (frz f))=(zy l).map (frz f):=by
 simp[zy,yb5,yb6,zqe]
open Classical in
noncomputable def Mp.frz(M:Mp)(f:Nat):Mp:={ M with role:=fun B=>if M.role B=some (.fam f)then some .stat else M.role B }
def zoV(F:Nat→FSt)(f:Nat):Nat→FSt:=upd F f .dead
theorem zmF{M:Mp}{F:Nat→FSt}{w:World}{f:Nat}(h:F f=.alive):Ext M F w (M.frz f) (zoV F f) w where
 io:=.refl _
 no:=yah _
 nf:=yah _
 obj _ _:=rfl
 dead g _ hd:=by simp only[zoV,zeu];split<;>simp_all
 spoil g _ hs:=by simp only[zoV,zeu];split<;>simp_all
 size:=yah _
 shape _ _ _ _ h:=.same h rfl
 stat B _ hB:=⟨by simp[Mp.frz,hB],.inl rfl⟩
 free B _ hB:=⟨by simp[Mp.frz,hB],rfl⟩
 famr B g _ hB hd:=by
  have hg:g≠f:=by intro e;subst e;simp[zoV]at hd
  exact(if_neg (by rw[hB];simpa using hg)).trans hB
 famc _ _ _ _ _:=rfl
theorem VR.frz{M:Mp}{F:Nat→FSt}{w:World}{f:Nat}(ha:F f=.alive){v:AV}{c:Value}(h:VR M F w v c):VR (M.frz f) (zoV F f) w (frz f v) c:=by
 have E:=zmF (M:=M) (w:=w) ha
 induction h with
 | slz b sz a=>rw[zht];exact .slz b sz a
 | sl φ sz xs B off cap cs hcap hlit hsz hm hc hv ih =>
  have hrd:zm (zoV F f) φ→zm F φ:=fun h=>(hm.readable E h).1
  have hl:(xs.map (Go.Abs.frz f)).length=xs.length:=by simp
  have key:∀φ':Own,φ'.full=φ.full→Mem (M.frz f) (zoV F f) w φ' B off (cap*sz)→(zm (zoV F f) φ'→zm F φ) →
    VR (M.frz f) (zoV F f) w (.sl φ' sz (xs.map (Go.Abs.frz f))) (.slice (some ⟨B,off,none⟩) xs.length cap):=by
   intro φ' hfull hm' hr'
   have:=VR.sl (M:=M.frz f) (F:=zoV F f) (w:=w) φ' sz (xs.map (Go.Abs.frz f)) B off cap cs (by simpa using hcap) (fun h=>by rw[hl];exact hlit (by rw[←hfull];exact h))
    (fun x hx=>by simp at hx;obtain⟨y,hy,rfl⟩:=hx;rw[zgx];exact hsz y hy) hm' (fun hr j hj=>hc (hr' hr) j (by rw[zjN]at hj;simpa using hj))
    (fun hr j hj=>by
     have hj':j<(zy xs).length:=by rw[zjN]at hj;simpa using hj
     have:=ih (hr' hr) j hj'
     simp only[zjN,yak]
     exact this)
   rw[hl]at this
   exact this
  cases φ with
  | stat b=>rw[zht];exact key _ rfl (hm.mono E) hrd
  | fam g b =>
   rw[zoU]
   by_cases hg:g=f
   ·subst hg
    rw[if_pos rfl]
    refine key _ rfl ?_ (fun _=>ha)
    refine⟨false,?_⟩
    show(M.frz g).role B=some .stat
    simp[Mp.frz,(hm.2 (by rw[ha];simp)).1]
   ·rw[if_neg hg];exact key _ rfl (hm.mono E) hrd
 | agg cs A hA va ih=>rw[zwP];exact .agg _ _ (by simpa using hA) (fun j h h'=>by simpa using ih j (by simpa using h) h')
 | tuple cs A hA va ih=>rw[zqc];exact .tuple _ _ (by simpa using hA) (fun j h h'=>by simpa using ih j (by simpa using h) h')
 | iface t v c h ih=>rw[zqd];exact .iface t _ _ ih
 | undef c=>simpa [Go.Abs.frz]using VR.undef c
 | bool b=>simpa using VR.bool b
 | int k n=>simpa using VR.int k n
 | str s=>simpa using VR.str s
 | nilp=>simpa using VR.nilp
 | nilsl=>simpa using VR.nilsl
 | nilfn=>simpa [Go.Abs.frz]using VR.nilfn
 | nilif=>simpa using VR.nilif
 | ptr o off h=>simpa using (VR.ptr (M:=M) (F:=F) (w:=w) o off h).mono E
 | pv φ v B off cs hm hc hv _=>simpa [Go.Abs.frz]using (VR.pv φ v B off cs hm hc hv).mono E
 | mp ks vs b es c h1 h2 h3=>simpa [Go.Abs.frz]using (VR.mp (M:=M) (F:=F) (w:=w) ks vs b es c h1 h2 h3).mono E
 | itr g ks vs zcB B h1 h2 h3=>simpa [Go.Abs.frz]using (VR.itr (M:=M) (F:=F) (w:=w) g ks vs zcB B h1 h2 h3).mono E
 | mpo g ks vs B h1 h2 h3=>simpa [Go.Abs.frz]using (VR.mpo (M:=M) (F:=F) (w:=w) g ks vs B h1 h2 h3).mono E
 | lit bs B e z h1 h2 h3=>simpa [Go.Abs.frz]using (VR.lit (M:=M) (F:=F) (w:=w) bs B e z h1 h2 h3).mono E
 | sit g bs pos B h1 h2 h3=>simpa [Go.Abs.frz]using (VR.sit (M:=M) (F:=F) (w:=w) g bs pos B h1 h2 h3).mono E
 | tys e v c h ht _=>simpa [Go.Abs.frz]using (VR.tys e v c h ht).mono E
 | tyd e v a n cap h ht _=>simpa [Go.Abs.frz]using (VR.tyd e v a n cap h ht).mono E
 | pt t n o off h h1 h2=>simpa [Go.Abs.frz]using (VR.pt (M:=M) (F:=F) (w:=w) t n o off h h1 h2).mono E
 | slm o off sz len cap h hcap hr=>simpa [Go.Abs.frz]using (VR.slm (M:=M) (F:=F) (w:=w) o off sz len cap h hcap hr).mono E
 | fn g first cap A B ha hb va vb _ _=>simpa [Go.Abs.frz]using (VR.fn g first cap A B ha hb va vb).mono E
def AS.frz(σ:AS)(f:Nat)(p:Nat→Bool):AS :=
 { σ with F:=zoV σ.F f,objs:=fun o=>if p o then(σ.objs o).map (List.map (Go.Abs.frz f))else σ.objs o }
theorem Sim.frz{M:Mp}{σ:AS}{w:World}{f:Nat}{p:Nat→Bool}(S:Sim M σ w)(ha:σ.F f=.alive):Sim (M.frz f) (σ.frz f p) w where
 no:=S.no
 nf:=S.nf
 role B r h:=by
  simp only[Mp.frz]at h
  split at h
  ·rename_i h1;exact S.role B _ h1
  ·exact S.role B r h
 obj o cs h:=by
  have E:=zmF (M:=M) (w:=w) ha
  simp only[AS.frz]at h
  have fin:∀cs0,σ.objs o=some cs0→cs.length=cs0.length→(∀j (h:j<cs.length) (h':j<cs0.length),∀c,VR M σ.F w cs0[j] c→VR (M.frz f) (zoV σ.F f) w cs[j] c)→_:=fun cs0 h0 hl hk=>by
   obtain⟨h1,h2,h3⟩:=S.obj o cs0 h0
   refine(⟨h1,?_,fun j hj=>?_⟩:o<(σ.frz f p).no∧(M.frz f).role ((M.frz f).obj o).1=some .obj∧∀j (h:j<cs.length),∃c,w.cell? ⟨((M.frz f).obj o).1,((M.frz f).obj o).2+j,none⟩=some c∧w.frozen? ⟨((M.frz f).obj o).1,((M.frz f).obj o).2+j,none⟩=false∧VR (M.frz f) (σ.frz f p).F w cs[j] c)
   ·simp[Mp.frz,h2]
   ·obtain⟨c,a,b,d⟩:=h3 j (by omega)
    exact⟨c,a,b,hk j hj (by omega) c d⟩
  split at h
  ·cases h0:σ.objs o with
   | none=>rw[h0]at h;simp at h
   | some cs0 =>
    rw[h0]at h;simp at h;subst h
    exact fin cs0 h0 (by simp) (fun j hj hj' c hc=>by simpa using hc.frz ha)
  ·exact fin cs h rfl (fun j hj hj' c hc=>hc.mono E)
 inj o o' h h':=by
  refine S.inj o o' ?_ ?_
  ·simp only[AS.frz]at h;split at h<;>simpa using h
  ·simp only[AS.frz]at h';split at h'<;>simpa using h'
def AS.zero:AS:=⟨fun _=>none,0,fun _=>.dead,0⟩
def Mp.all(w:World):Mp:=⟨fun B=>if B<w.heap.size then some .stat else none,fun _=>(0,0),0,0⟩
theorem zwQ(w:World):Sim (Mp.all w) AS.zero w where
 no:=rfl
 nf:=rfl
 role B r h:=by
  simp only[Mp.all]at h
  split at h
  ·assumption
  ·cases h
 obj o cs h:=by simp[AS.zero]at h
 inj o o' h:=by simp[AS.zero]at h
theorem ACalls.run{P:Program}{G:Env}{f:FuncId}{args:List AV}{cargs:Array Value}{w:World}{R:Out→AS→Prop}
  (hG:GOk P G (Mp.all w) AS.zero.F w) (hc:Cells (Mp.all w) AS.zero.F w args cargs) (h:ACalls P G f args AS.zero R) :
  Calls P f cargs w fun e w'=>(∃out σ' M',R out σ'∧zbV M' σ'.F w' out e)∧RowKit.Below w.heap.size w w':=by
 refine(h _ w cargs (zwQ w) hG hc).mono fun e w' ⟨out,σ',M',h1,h2,h3,h4⟩=>⟨⟨out,σ',M',h1,h2⟩,h4.io.1,h4.io.2.1,h4.io.2.2,h4.size,fun k hk=>?_⟩
 exact(h4.stat k false (by simp[Mp.all,hk])).2.exact
theorem ACalls.law{P:Program}{G:Env}{f:FuncId}{args:List AV}{cargs:Array Value}{w:World}
  (hG:GOk P G (Mp.all w) AS.zero.F w) (hc:Cells (Mp.all w) AS.zero.F w args cargs) (h:ACalls P G f args AS.zero fun o _=>o=.ret (.bool true)) :
  Calls P f cargs w fun e w'=>e=.returned (.bool true)∧RowKit.Below w.heap.size w w':=by
 refine(ACalls.run hG hc h).mono fun e w' ⟨⟨out,σ',M',h1,h2⟩,hb⟩=>⟨?_,hb⟩
 subst h1
 cases e with
 | returned v=>simp only[zbV]at h2;cases h2;rfl
 | _=>simp[zbV]at h2
structure zcI(w w':World):Prop where
 cell:∀B i,w'.cell? ⟨B,i,none⟩=w.cell? ⟨B,i,none⟩
 froz:∀B i,w'.frozen? ⟨B,i,none⟩=w.frozen? ⟨B,i,none⟩
 size:w'.heap.size=w.heap.size
 whole:∀(B:Nat) c e z,w.heap[B]?=some (Obj.cells c e z)→w'.heap[B]?=some (Obj.cells c e z)
 map:∀(B:Nat) es c,w.heap[B]?=some (Obj.map es c)→w'.heap[B]?=some (Obj.map es c)
 sitr:∀(B:Nat) s p,w.heap[B]?=some (Obj.stringIter s p)→w'.heap[B]?=some (Obj.stringIter s p)
 itr:∀(B:Nat) m a b c,w.heap[B]?=some (Obj.mapIter m a b c)→w'.heap[B]?=some (Obj.mapIter m a b c)
theorem Mem.same{M F w w' φ B off n}(h:Mem M F w φ B off n)(s:zcI w w'):Mem M F w' φ B off n:=by
 cases φ with
 | stat b=>exact h
 | fam f b=>exact⟨h.1,fun hd=>⟨(h.2 hd).1,fun j hj=>by rw[s.cell,s.froz];exact(h.2 hd).2 j hj⟩⟩
theorem zdj.same{w w'}(s:zcI w w'){e c}(h:zdj w e c):zdj w' e c:=by
 unfold zdj at *
 split at h
 ·trivial
 ·obtain⟨h1,h2,h3,x,z,h4,h5⟩:=h
  exact⟨h1,h2,h3,x,z,s.whole _ _ _ _ h4,h5⟩
 ·exact h
theorem VR.same{M F w w'}(s:zcI w w'){v:AV}{c:Value}(h:VR M F w v c):VR M F w' v c:=by
 induction h with
 | undef c=>exact .undef c
 | bool b=>exact .bool b
 | int k n=>exact .int k n
 | str s=>exact .str s
 | nilp=>exact .nilp
 | ptr o off h=>exact .ptr o off h
 | pt t n o off h hz hb =>
  obtain⟨c,z,h1,h2⟩:=hb
  exact .pt t n o off h hz ⟨c,z,s.whole _ _ _ _ h1,h2⟩
 | pv φ v B off cs hm hc hv ih=>exact .pv φ v B off cs (hm.same s) (fun hr j hj=>by rw[s.cell];exact hc hr j hj) ih
 | nilsl=>exact .nilsl
 | slz b sz a=>exact .slz b sz a
 | sl φ sz xs B off cap cs hcap hlit hsz hm hc hv ih=>exact .sl φ sz xs B off cap cs hcap hlit hsz (hm.same s) (fun hr j hj=>by rw[s.cell];exact hc hr j hj) ih
 | slm o off sz len cap h hcap hr=>exact .slm o off sz len cap h hcap fun hn j hj=>by rw[s.cell,s.froz];exact hr hn j hj
 | fn f first cap A B ha hb va vb iha ihb=>exact .fn f first cap A B ha hb iha ihb
 | nilfn=>exact .nilfn
 | tys e v c h ht ih=>exact .tys e v c ih (ht.same s)
 | sit f bs pos B hf hm hh=>exact .sit f bs pos B hf hm fun ha=>s.sitr _ _ _ (hh ha)
 | tyd e v a n cap h ht ih=>exact .tyd e v a n cap ih (ht.same s)
 | iface t v c h ih=>exact .iface t v c ih
 | nilif=>exact .nilif
 | agg cs A ha va ih=>exact .agg cs A ha ih
 | tuple vs A ha va ih=>exact .tuple vs A ha ih
 | mp ks vs b es clock hm hh hr=>exact .mp ks vs b es clock hm (s.map _ _ _ hh) hr
 | itr f ks vs zcB B hf hm hh =>
  refine .itr f ks vs zcB B hf hm fun ha=>?_
  obtain⟨b,es,clock,sn,h1,h2,h3,h4⟩:=hh ha
  exact⟨b,es,clock,sn,s.itr _ _ _ _ _ h1,h2,s.map _ _ _ h3,h4⟩
 | mpo f ks vs B hf hm hh =>
  refine .mpo f ks vs B hf hm fun ha=>?_
  obtain⟨es,clock,h1,h2⟩:=hh ha
  exact⟨es,clock,s.map _ _ _ h1,h2⟩
 | lit bs B e z hm hh hz=>exact .lit bs B e z hm (s.whole _ _ _ _ hh) hz
theorem Sim.same{M σ w w'}(S:Sim M σ w)(s:zcI w w'):Sim M σ w' where
 no:=S.no
 nf:=S.nf
 role B r h:=by rw[s.size];exact S.role B r h
 obj o cs ho:=by
  obtain⟨a,b,c⟩:=S.obj o cs ho
  refine⟨a,b,fun j hj=>?_⟩
  obtain⟨x,h1,h2,h3⟩:=c j hj
  exact⟨x,by rw[s.cell];exact h1,by rw[s.froz];exact h2,h3.same s⟩
 inj:=S.inj
theorem Fr.same{M F w w' a ac n}(f:Fr M F w a ac n)(s:zcI w w'):Fr M F w' a ac n:=⟨f.size,fun t=>(f.val t).same s⟩
theorem zB(w:World)(l:Nat)(o:Obj)(B:Nat):(w.putObj l o).heap[B]?=if B=l∧l<w.heap.size then some o else w.heap[B]?:=by
 simp only[World.putObj,ybZ]
 by_cases h:B=l
 ·subst h
  by_cases h2:B<w.heap.size
  ·simp[h2]
  ·simp[h2]
 ·simp[h,Ne.symm h]
def Obj.odd:Obj→Bool
 | .cells ..|.map ..|.mapIter ..|.stringIter ..=>true
 | _=>false
theorem Obj.odd_cells{o:Obj}(h:Obj.odd o=false):o.isCells=false:=by cases o<;>simp_all [Obj.odd,Obj.isCells]
theorem zaK{w:World}{l:Nat}{o o':Obj}(h:w.heap[l]?=some o)(h1:Obj.odd o=false)(h2:o'.isCells=false):zcI w (w.putObj l o'):=by
 have hl:l<w.heap.size:=(yaU.1 h).1
 have keep:∀(B:Nat) x,Obj.odd x=true→w.heap[B]?=some x→(w.putObj l o').heap[B]?=some x:=fun B x hx hB=>by
  rw[zB]
  have:¬B=l:=by rintro rfl;rw[h]at hB;cases hB;rw[h1]at hx;cases hx
  rw[if_neg (fun e=>this e.1)];exact hB
 refine⟨fun B i=>?_,fun B i=>?_,by simp,fun B c e z hB=>keep B _ rfl hB,fun B es c hB=>keep B _ rfl hB,fun B s p hB=>keep B _ rfl hB,fun B m a b c hB=>keep B _ rfl hB⟩
 ·simp only[World.cell?,zB]
  by_cases hB:B=l
  ·subst hB
   rw[if_pos ⟨rfl,hl⟩,h]
   cases o<;>cases o'<;>simp_all [Obj.isCells,Obj.odd]
  ·rw[if_neg (fun e=>hB e.1)]
 ·simp only[World.frozen?,zB]
  by_cases hB:B=l
  ·subst hB
   rw[if_pos ⟨rfl,hl⟩,h]
   cases o<;>cases o'<;>simp_all [Obj.isCells,Obj.odd]
  ·rw[if_neg (fun e=>hB e.1)]
theorem zqf(w:World)(l:Nat)(o:Obj):zaM w (w.putObj l o):=⟨rfl,rfl,rfl⟩
theorem Ext.restore{M F w M' F' w'}{l:Nat}{o o1:Obj}(E:Ext M F (w.putObj l o1) M' F' w')(h:w.heap[l]?=some o)(hc:o.isCells=false):Ext M F w M' F' (w'.putObj l o):=by
 have hl:l<w.heap.size:=(yaU.1 h).1
 have hs:=E.size
 simp only[World.putObj_size]at hs
 have key:∀B:Nat,w'.heap[B]?=(w.putObj l o1).heap[B]?→(w'.putObj l o).heap[B]?=w.heap[B]?:=by
  intro B hB
  rw[zB]
  by_cases e:B=l
  ·subst e;rw[if_pos ⟨rfl,by omega⟩,h]
  ·rw[if_neg (fun q=>e q.1),hB,zB,if_neg (fun q=>e q.1)]
 have keyS:∀(B:Nat) m,zdp m (w.putObj l o1) w' B→zdp m w (w'.putObj l o) B:=by
  intro B m hB
  by_cases e:B=l
  ·subst e;exact .inl (by rw[zB,if_pos ⟨rfl,by omega⟩,h])
  ·have e1:(w'.putObj l o).heap[B]?=w'.heap[B]?:=by rw[zB,if_neg (fun q=>e q.1)]
   have e2:(w.putObj l o1).heap[B]?=w.heap[B]?:=by rw[zB,if_neg (fun q=>e q.1)]
   rcases hB with hB|⟨hm,c,t,h1,h2⟩
   ·exact .inl (by rw[e1,hB,e2])
   ·exact .inr ⟨hm,c,t,by rw[←e2];exact h1,by rw[e1];exact h2⟩
 refine⟨E.io,E.no,E.nf,E.obj,E.dead,E.spoil,by simpa using hs,fun B c e z hB=>?_,fun B m hB=>⟨(E.stat B m hB).1,keyS B m (E.stat B m hB).2⟩,fun B hB hn=>?_,E.famr,fun B f hf hr ha=>key B (E.famc B f hf hr ha)⟩
 ·have hne:B≠l:=by rintro rfl;rw[h]at hB;cases hB;cases hc
  obtain⟨c',z',h1,h2⟩:=E.shape B c e z (by rw[zB,if_neg (fun q=>hne q.1)];exact hB)
  exact⟨c',z',by rw[zB,if_neg (fun q=>hne q.1)];exact h1,h2⟩
 ·obtain⟨h1,h2⟩:=E.free B (by simpa using hB) hn
  exact⟨h1,key B h2⟩
theorem Ext.putFam{M F w}{l f:Nat}{o o1:Obj}(h:w.heap[l]?=some o)(hc:o.isCells=false)(hr:M.role l=some (.fam f))(ha:F f=.alive):Ext M F w M (upd F f .dead) (w.putObj l o1):=by
 have key:∀B:Nat,B≠l→(w.putObj l o1).heap[B]?=w.heap[B]?:=fun B e=>by rw[zB,if_neg (fun q=>e q.1)]
 refine⟨zqf _ _ _,yah _,yah _,fun _ _=>rfl,fun g _ hd=>?_,fun g _ hs=>?_,by simp,fun B c e z hB=>?_,fun B _ hB=>⟨hB,.inl (key B ?_)⟩,fun B _ hn=>⟨hn,key B ?_⟩,fun B g _ hB _=>hB,fun B g _ hB hg=>key B ?_⟩
 ·simp only[upd];split
  ·rfl
  ·exact hd
 ·simp only[upd];split
  ·simp
  ·rw[hs];simp
 ·have hne:B≠l:=by rintro rfl;rw[h]at hB;cases hB;cases hc
  exact .same (by rw[key B hne];exact hB) rfl
 ·rintro rfl;rw[hr]at hB;cases hB
 ·rintro rfl;rw[hr]at hn;cases hn
 ·rintro rfl;rw[hr]at hB;cases hB;simp[upd]at hg
theorem Ext.dead_fam{M F w}{f:Nat}(ha:F f=.alive):Ext M F w M (upd F f .dead) w:=by
 refine⟨.refl _,yah _,yah _,fun _ _=>rfl,fun g _ hd=>?_,fun g _ hs=>?_,yah _,fun B c e z hB=>.same hB rfl,fun B _ hB=>⟨hB,.inl rfl⟩,fun B _ hn=>⟨hn,rfl⟩,fun B g _ hB _=>hB,fun B g _ hB hg=>rfl⟩
 ·simp only[upd];split
  ·rfl
  ·exact hd
 ·simp only[upd];split
  ·simp
  ·rw[hs];simp
theorem Sim.ext_F{M σ w F'}(S:Sim M σ w)(E:Ext M σ.F w M F' w):Sim M { σ with F:=F' } w where
 no:=S.no
 nf:=S.nf
 role:=S.role
 obj o cs ho:=by
  obtain⟨a,b,c⟩:=S.obj o cs ho
  refine⟨a,b,fun j hj=>?_⟩
  obtain⟨x,h1,h2,h3⟩:=c j hj
  exact⟨x,h1,h2,h3.mono E⟩
 inj:=S.inj
def zIb(P:Program)(l:Nat)(R:Ending→World→Prop):Exit→Act→World→Prop
 | .normal,_,w=>∃v w',(Instr.endRound l none).run P w=.ok v w'∧R (.returned v) w'
 | .panic ch,a,w=>a.defers=[]∧R (.panicked ch) w
 | _,_,_=>False
theorem zmG{P:Program}{l:Nat}{f:FuncId}{tmps:Array Value}{assign body:Code}{w:World}{R:Ending→World→Prop}{fn:Func}(hf:P.funcs[f]?=some fn)
  (h:assign.wpIn (zaF (some l)) 0 P (Exit.then (fun a₁ w₁=>∃w₂,(Instr.beginRound l).run P w₁=.ok () w₂∧body.wpIn (zaF (some l)) 0 P (zIb P l R) a₁ w₂) (fun _ _ _=>False)) { tmps:=tmps,defers:=[] } w) :
  RoundIn Fence.wide 0 P l f tmps assign body w R:=by
 refine⟨trivial,fun c cs hr=>?_⟩
 let b:Frame:={ (default:Frame)with fn:=f,kind:=.normal,roundOf:=some l }
 have hb0:Frame.round l f tmps assign body .normal=b.atR { tmps:=tmps,defers:=[] } [.code assign,.beginRound,.code body]:=by
  simp[Frame.round,Frame.atR,b]
 have hr':(zaF (some l)).room ((c::cs).length+1+0):=hr
 have hF':(zaF (some l)).fn b.fn:=trivial
 obtain⟨e,a₁,w₁,hq,harr⟩:=h b [.beginRound,.code body] (c::cs) rfl hF' hr'
 rw[←hb0]at harr
 cases e with
 | normal =>
  obtain⟨w₂,hbr,hbody⟩:=hq
  have s1:StepsIn (Machine.fenced P (zaF (some l))) P (lone (b.atR a₁ [.beginRound,.code body]) (c::cs) w₁) (lone (b.atR a₁ [.code body]) (c::cs) w₂) :=
   .one (fenced_calm (fr:=b.atR a₁ [.beginRound,.code body]) hF' hr' rfl) (stepR_beginRound rfl hbr)
  obtain⟨e₂,a₂,w₃,hq₂,harr₂⟩:=hbody b [] (c::cs) rfl hF' hr'
  cases e₂ with
  | normal =>
   obtain⟨v,w₄,hend,hR⟩:=hq₂
   exact⟨.returned v,w₄,hR,(StepsIn.trans harr s1).trans (StepsIn.trans harr₂ (.one (fenced_calm (fr:=b.atR a₂ []) hF' hr' rfl) (stepR_round_end rfl rfl hend)))⟩
  | panic chain =>
   obtain⟨hd,hR⟩:=hq₂
   obtain⟨todo,hs⟩:=harr₂
   have hlv:({ b.atR a₂ todo with mode:=.panicking chain }:Frame).leaving P w₃ (.panicked chain):=⟨rfl,hd,fn,hf⟩
   have hend:=step_leave_panicked (c:=c) (cs:=cs) hlv
   exact⟨.panicked chain,w₃,hR,(StepsIn.trans harr s1).trans (StepsIn.trans hs (.one (fenced_wide _ _) hend))⟩
  | exit id=>exact hq₂.elim
  | goto t=>exact hq₂.elim
  | ret=>exact hq₂.elim
  | outgrown=>exact hq₂.elim
 | exit id=>exact hq.elim
 | goto t=>exact hq.elim
 | ret=>exact hq.elim
 | panic chain=>exact hq.elim
 | outgrown=>exact hq.elim
def upds(a:Nat→AV)(ps:List Nat)(args:List AV):Nat→AV:=(ps.zip args).foldl (fun a x=>upd a x.1 x.2) a
theorem Fr.upds{M F w a n}{tmps:Array Value}(h1:tmps.size=n)(h2:∀t,VR M F w (a t) (tmps.getD t undef)):
  ∀(ps:List Nat) (args:List AV) (cargs:List Value),(∀p∈ps,p<n)→args.length=cargs.length→(∀j (h:j<args.length) (h':j<cargs.length),VR M F w args[j] cargs[j]) →
   ((ps.zip cargs).foldl (fun tmps x=>tmps.setIfInBounds x.1 x.2) tmps).size=n∧∀t,VR M F w (upds a ps args t) (((ps.zip cargs).foldl (fun tmps x=>tmps.setIfInBounds x.1 x.2) tmps).getD t undef):=by
 intro ps
 induction ps generalizing a tmps with
 | nil=>intro args cargs _ _ _;exact⟨h1,h2⟩
 | cons p ps ih =>
  intro args cargs hp hl hv
  cases args with
  | nil =>
   cases cargs with
   | nil=>exact⟨h1,h2⟩
   | cons c cs=>simp at hl
  | cons x xs =>
   cases cargs with
   | nil=>simp at hl
   | cons c cs =>
    simp only[List.zip_cons_cons,ybE]
    have e:Abs.upds a (p::ps) (x::xs)=Abs.upds (upd a p x) ps xs:=rfl
    rw[e]
    refine ih (by simpa using h1) (fun t=>?_) xs cs (fun q hq=>hp q (by simp[hq])) (by simpa using hl) (fun j h h'=>hv (j+1) (by simpa using h) (by simpa using h'))
    have hpn:=hp p (by simp)
    have h0:=hv 0 (by simp) (by simp)
    simp only[List.getElem_cons_zero]at h0
    rw[ybz,ybZ]
    by_cases ht:t=p
    ·subst ht
     rw[if_pos rfl,if_pos (by omega)]
     simpa [upd]using h0
    ·rw[if_neg (Ne.symm ht)]
     have:=h2 t
     rw[ybz]at this
     simpa [upd,ht]using this
def rq(f0:Nat)(K PK:AV→AS→Prop):AQ
 | .normal,_,σ=>σ.F f0=.alive∧K (.bool true) σ
 | .panic v,_,σ=>σ.F f0=.alive∧PK v { σ with F:=upd σ.F f0 .dead }
 | _,_,_=>False
def zvG(P:Program)(G:Env)(n:Nat)(pa pb:PC)(ps:List Nat)(f0:Nat)(a:Nat→AV)(args:List AV)(σ:AS)(K PK:AV→AS→Prop):Prop :=
 args.length=ps.length∧σ.F f0=.alive∧avc P G n pa (zbd (fun a1 σ1=>σ1.F f0=.alive∧avc P G n pb (rq f0 K PK) a1 σ1) fun _ _ _=>False) (upds a ps args) σ
def Env.under(G:Env)(P:Program)(n:Nat)(pa pb:PC)(ps:List Nat)(f0:Nat)(a:Nat→AV)(l:Nat):Env :=
 { g:=G.g,has:=fun x=>x=l,y:=fun x args σ K PK=>x=l∧zvG P G n pa pb ps f0 a args σ K PK,fix:=G.fix }
theorem Ext.putBehind{M0 F0 w0 M F w}{l:Nat}{o o1:Obj}(E:Ext M0 F0 w0 M F w)(h:w.heap[l]?=some o)(hc:o.isCells=false)(hl:w0.heap.size≤l)(hv:∀B r,M0.role B=some r→B<w0.heap.size):
  Ext M0 F0 w0 M F (w.putObj l o1):=by
 have key:∀B:Nat,B<w0.heap.size→(w.putObj l o1).heap[B]?=w.heap[B]?:=fun B e=>by rw[zB,if_neg (by omega)]
 refine⟨E.io,E.no,E.nf,E.obj,E.dead,E.spoil,by simpa using E.size,fun B c e z hB=>?_,fun B m hB=>⟨(E.stat B m hB).1,(E.stat B m hB).2.trans (.inl (key B (hv B _ hB)))⟩,fun B hB hn=>⟨(E.free B hB hn).1,(key B hB).trans (E.free B hB hn).2⟩,E.famr,
  fun B f hf hr ha=>(key B (hv B _ hr)).trans (E.famc B f hf hr ha)⟩
 have hB':B<w0.heap.size:=(yaU.1 hB).1
 obtain⟨c',z',h1,h2⟩:=E.shape B c e z hB
 exact⟨c',z',by rw[key B hB'];exact h1,h2⟩
theorem Ext.both_dead{M F w M' F' w'}{f:Nat}(E:Ext M F w M' F' w'):Ext M (upd F f .dead) w M' (upd F' f .dead) w' where
 io:=E.io
 no:=E.no
 nf:=E.nf
 obj:=E.obj
 dead g hg hd:=by
  simp only[upd]at hd ⊢
  split at hd
  ·rename_i e;rw[if_pos e]
  ·rename_i e;rw[if_neg e];exact E.dead g hg hd
 spoil g hg hs:=by
  simp only[upd]at hs ⊢
  split at hs
  ·cases hs
  ·rename_i e;rw[if_neg e];exact E.spoil g hg hs
 size:=E.size
 shape:=E.shape
 stat:=E.stat
 free:=E.free
 famr B g hg hr hd:=by
  simp only[upd]at hd
  split at hd
  ·exact absurd rfl hd
  ·exact E.famr B g hg hr hd
 famc B g hg hr ha:=by
  simp only[upd]at ha
  split at ha
  ·cases ha
  ·exact E.famc B g hg hr ha
theorem GOk.detour{P G M F w M2 F2 w2}{l f0:Nat}{o o1:Obj}(g:GOk P G M F w)(E:Ext M F w M2 F2 w2)(hl:w.heap.size≤l)(hr:M2.role l=some (.fam f0))(hf0:M.nf≤f0)(h:w2.heap[l]?=some o)(hc:Obj.odd o=false)(hc1:o1.isCells=false):
  GOk P G M2 F2 (w2.putObj l o1) where
 vars x:=((g.vars x).mono E).same (zaK h hc hc1)
 yields x hx:=by
  obtain⟨r,f1,M0,F0,w0,E0,hlt,h1,h2,h3,h4⟩:=g.yields x hx
  refine⟨r,f1,M0,F0,w0,(E0.trans E).putBehind h (Obj.odd_cells hc) (Nat.le_trans E0.size hl) h3,yag hlt E.nf,fun ha=>?_,h2,h3,h4⟩
  obtain⟨h5,h6⟩:=h1 (E.alive hlt ha)
  have h7:=E.famr x f1 hlt h5 (by rw[ha];simp)
  have hne:x≠l:=by
   rintro rfl
   rw[hr]at h7;cases h7;omega
  exact⟨h7,by rw[zB,if_neg (fun e=>hne e.1),E.famc x f1 hlt h5 ha,h6]⟩
 fixed B cs hB:=by
  obtain⟨hro,t,fr,hh⟩:=g.fixed B cs hB
  obtain⟨h1,h2⟩:=E.stat B _ hro
  have hlt:=(yaU.1 hh).1
  obtain⟨z,hz⟩:=h2.cells hh
  exact⟨h1,t,z,by rw[zB,if_neg (fun e=>by omega),hz]⟩
section
variable {P : Program} {G : Env} {n : Nat} {pa pb : PC} {f : FuncId} {fn : Func} {assign body : Code}
theorem zoW(hm:P.follows .mixedOrders=true)(hf:P.funcs[f]?=some fn)(hpa:zcH n assign=some pa)(hpb:zcH n body=some pb){psA:Array Nat}(hps:∀p∈psA.toList,p<n){a:Nat→AV}
  {Me:Mp} {Fe:Nat→FSt} {we:World} (ge:GOk P G Me Fe we) {M1:Mp} {F1:Nat→FSt} {w1:World} (Ee:Ext Me Fe we M1 F1 w1) {l d:Nat} (hl:we.heap.size≤l) (hnf:Me.nf<M1.nf)
  {tmps:Array Value} (hn:tmps.size=n) (ht:∀t,VR M1 F1 w1 (a t) (tmps.getD t undef)) :
  zJr P (G.under P n pa pb psA.toList Me.nf a l) M1 F1 w1 l Me.nf { state:=.ready,pending:=none,fn:=f,tmps:=tmps,params:=psA,assign:=assign,body:=body,defers:=d }:=by
 intro args σ K PK M w cargs hy S E0 hrole hheap hcells
 obtain⟨_,hargs,hal,hround⟩:=hy
 have hsz:cargs.size=psA.size:=by rw[hcells.1,hargs];simp
 refine⟨_,_,_,_,run_yield hheap (by simpa using hsz),?_⟩
 have hfr:=Fr.upds (M:=M) (F:=σ.F) (w:=w) hn (fun t=>(ht t).mono E0) psA.toList args cargs.toList hps (by simp[hcells.1]) (fun j h h'=>by
  have:=hcells.get j h (by simpa using h')
  simpa using this)
 have efold:(psA.zip cargs).foldl (fun tmps (x:Nat × Value)=>tmps.setIfInBounds x.1 x.2) tmps=(psA.toList.zip cargs.toList).foldl (fun tmps x=>tmps.setIfInBounds x.1 x.2) tmps:=by
  rw[←Array.foldl_toList,Array.toList_zip]
 rw[←efold]at hfr
 have ge1:=Ee.trans E0
 refine zmG hf (wpIn_mono (zai hm assign pa hpa _ _ σ hround (some l) [] M σ.F w M w { tmps:=_,defers:=[] } S (ge.mono ge1) (.refl ..) ⟨hfr.1,hfr.2⟩ rfl) fun e ac1 w1' hq=>?_)
 obtain⟨e',a1,σ1,M2,q,rr,S2,g2,E2,f2,hD2⟩:=hq
 cases e' with
 | exit i=>exact q.elim
 | ret=>exact q.elim
 | panic v=>exact q.elim
 | normal =>
  cases e<;>simp only[zdl]at rr
  obtain⟨hal1,hbody⟩:=q
  have hMnf:Me.nf<M.nf:=yag hnf E0.nf
  have hrole2:=E2.famr l Me.nf hMnf hrole (by rw[hal1];simp)
  have hheap2:w1'.heap[l]?=some (.loop _):=(E2.famc l Me.nf hMnf hrole hal1).trans hheap
  refine⟨_,run_beginRound hheap2 rfl,?_⟩
  have sc:=zaK (o':=.loop { state:=.busy,pending:=none,fn:=f,tmps:=tmps,params:=psA,assign:=assign,body:=body,defers:=d }) hheap2 rfl rfl
  have g2b:=ge.detour (o1:=.loop { state:=.busy,pending:=none,fn:=f,tmps:=tmps,params:=psA,assign:=assign,body:=body,defers:=d }) (ge1.trans E2) hl hrole2 (yah _) hheap2 rfl rfl
  refine wpIn_mono (zai hm body pb hpb _ _ σ1 hbody (some l) [] M2 σ1.F _ M2 _ ac1 (S2.same sc) g2b (.refl ..) (f2.same sc) hD2) fun e2 ac2 w3 hq2=>?_
  obtain⟨e2',a2,σ2,M3,q2,rr2,S3,g3,E3,f3,hD3⟩:=hq2
  have hMnf2:Me.nf<M2.nf:=yag hMnf E2.nf
  have hput:(w1'.putObj l (.loop { state:=.busy,pending:=none,fn:=f,tmps:=tmps,params:=psA,assign:=assign,body:=body,defers:=d })).heap[l]?=some (.loop { state:=.busy,pending:=none,fn:=f,tmps:=tmps,params:=psA,assign:=assign,body:=body,defers:=d }):=by
   rw[zB,if_pos ⟨rfl,(yaU.1 hheap2).1⟩]
  cases e2' with
  | exit i=>exact q2.elim
  | ret=>exact q2.elim
  | normal =>
   cases e2<;>simp only[zdl]at rr2
   obtain⟨hal2,hK⟩:=q2
   have hheap3:w3.heap[l]?=some (.loop _):=(E3.famc l Me.nf hMnf2 hrole2 hal2).trans hput
   refine⟨_,_,run_endRound none hheap3,?_⟩
   have sc3:=zaK (o':=.loop { state:=.ready,pending:=none,fn:=f,tmps:=tmps,params:=psA,assign:=assign,body:=body,defers:=d }) hheap3 rfl rfl
   exact⟨.bool true,σ2,M3,hK,.bool true,S3.same sc3,E2.trans (E3.restore hheap2 rfl)⟩
  | panic v =>
   cases e2<;>simp only[zdl]at rr2
   obtain⟨hal2,hK⟩:=q2
   obtain⟨v',rfl,hv⟩:=rr2
   have Ed:=Ext.dead_fam (M:=M3) (w:=w3) hal2
   exact⟨hD3,v',rfl,v,_,M3,hK,hv.mono Ed,S3.ext_F Ed,(E2.trans (Ext.putFam hheap2 rfl hrole2 hal1)).trans E3.both_dead⟩
end
theorem zc2{P:Program}{fn:Func}{a':Nat→AV}{σ':AS}{M':Mp}{w':World}{tmps:Array Value}{R:Out→AS→Prop}(S':Sim M' σ' w')(f':∀t,VR M' σ'.F w' (a' t) (tmps.getD t undef))
  (hq:zjJ P fn.results.toList a' σ' fun vs=>R (.ret (tup vs)) σ'):∃v,(results fn tmps).run P w'=.ok v w'∧∃out,R out σ'∧zbV M' σ'.F w' out (.returned v):=by
 have key:∀g:ResultVar→Sem Value,(∀t,(g (.tmp t)).run P w'=.ok (tmps.getD t undef) w')→(∀t ty q v,tmps.getD t undef=.pointer (some q)→(loadVar ty q).run P w'=.ok v w'→(g (.cell t ty)).run P w'=.ok v w') →
   ∃v,((((List.mapM g fn.results.toList).run P w').andThen fun a w'=>.ok a.toArray w').andThen fun vs w=>(pure (if h:vs.size=1 then vs[0]else .tuple vs):Sem Value).run P w)=.ok v w' ∧
    ∃out,R out σ'∧zbV M' σ'.F w' out (.returned v):=by
  intro g g1 g2
  obtain⟨vs,cs,hK,hr,hcc⟩:=ziT S' f' g1 g2 _ _ hq
  rw[hr]
  simp only[Result.andThen_ok,Sem.run_pure]
  refine⟨_,rfl,.ret (tup vs),hK,?_⟩
  have hl:=hcc.1
  simp only[zbV]
  have hget:=hcc.get
  split
  ·rename_i h1
   cases vs with
   | nil=>rw[h1]at hl;simp at hl
   | cons v r =>
    cases r with
    | nil=>exact hget 0 (by simp) (by rw[h1];exact Nat.one_pos)
    | cons _ _=>rw[h1]at hl;simp at hl
  ·rename_i h1
   have:tup vs=.tuple vs:=by
    cases vs with
    | nil=>rfl
    | cons v r =>
     cases r with
     | nil=>exact absurd (by simpa using hl) h1
     | cons _ _=>rfl
   rw[this]
   exact .tuple _ _ hl hget
 unfold results
 rw[Sem.run_bind,yb3,Sem.run_map]
 exact key _ (fun _=>rfl) (fun t ty q v h1 h2=>by
  simp only[h1,asAddr,Sem.run_bind,Sem.run_pure,Result.andThen_ok,h2])
theorem zd5{M F w n}{args:List AV}{cargs:Array Value}(hc:Cells M F w args cargs)(hn:args.length≤n):
  (cargs++ybW (n-cargs.size) undef).size=n∧∀t,VR M F w (zbq args t) ((cargs++ybW (n-cargs.size) undef).getD t undef):=by
 refine⟨?_,fun t=>?_⟩
 ·have:=hc.1
  simp only[ybg,yb1];omega
 ·unfold zbq
  rw[ybz]
  by_cases ht:t<args.length
  ·obtain⟨x,h1,h2⟩:=hc.2 t _ (yau ht)
   rw[ybi (by rw[hc.1];exact ht),h1,yau ht]
   exact h2
  ·rw[ybj (show cargs.size≤t by rw[hc.1];omega),yb2 (by omega),ybX]
   split<;>exact ze5 ..
def WpB(P:Program)(b:Frame)(c:Code)(Q:Exit→Act→World→Prop)(a:Act)(w:World):Prop :=
 ∀(k:List Item) (cs:List Frame),∃e a' w',Q e a' w'∧ArrivesIn (Machine.fenced P Fence.wide) P (lone (b.atR a (.code c::k)) cs w) b k cs e a' w'
section
variable {P : Program} {b : Frame} {Q : Exit → Act → World → Prop} {a : Act} {w : World}
theorem WpB.of{n:Nat}{c:Code}(hb:b.roundOf=none)(h:c.wpIn Fence.wide n P Q a w):WpB P b c Q a w:=fun k cs=>h b k cs hb trivial (room_wide _)
theorem WpB.seq{x y:Code}(h:WpB P b x (Exit.then (WpB P b y Q) Q) a w):WpB P b (.seq x y) Q a w:=by
 intro k cs
 have h0:(lone (b.atR a (.code (.seq x y)::k)) cs w).fenced P Fence.wide:=fenced_wide _ _
 obtain⟨e,a₁,w₁,hq,harr⟩:=h (.code y::k) cs
 cases e with
 | normal =>
  obtain⟨e₂,a₂,w₂,hq₂,harr₂⟩:=hq k cs
  exact⟨e₂,a₂,w₂,hq₂,.of_steps (.head h0 stepR_seq harr) harr₂⟩
 | exit id=>exact⟨_,a₁,w₁,hq,.of_steps (.one h0 stepR_seq) (.pass (x:=.code y) rfl (fun _ _=>.inl (by simp)) harr)⟩
 | goto l=>exact⟨_,a₁,w₁,hq,.of_steps (.one h0 stepR_seq) (.pass (x:=.code y) rfl (fun _ _=>.inl (by simp)) harr)⟩
 | ret=>exact⟨_,a₁,w₁,hq,.of_steps (.one h0 stepR_seq) (.pass (x:=.code y) rfl (fun _ _=>.inl (by simp)) harr)⟩
 | panic ch=>exact⟨_,a₁,w₁,hq,.of_steps (.one h0 stepR_seq) (.pass (x:=.code y) rfl (fun _ _=>.inl (by simp)) harr)⟩
 | outgrown=>exact⟨_,a₁,w₁,hq,.of_steps (.one h0 stepR_seq) (.pass (x:=.code y) rfl (fun _ _=>.inl (by simp)) harr)⟩
theorem WpB.block{id:Nat}{c:Code}(h:WpB P b c (fun e a w=>(e=.normal∨∃ch,e=.panic ch)∧Q e a w) a w):WpB P b (.block id c) Q a w:=by
 intro k cs
 have h0:(lone (b.atR a (.code (.block id c)::k)) cs w).fenced P Fence.wide:=fenced_wide _ _
 obtain⟨e,a₁,w₁,⟨he,hq⟩,harr⟩:=h (.inBlock id::k) cs
 rcases he with rfl|⟨ch,rfl⟩
 ·exact⟨.normal,a₁,w₁,hq,.head h0 stepR_block (StepsIn.trans harr (.one (fenced_wide _ _) stepR_inBlock))⟩
 ·obtain⟨todo,hs⟩:=harr
  exact⟨.panic ch,a₁,w₁,hq,todo,.head h0 stepR_block hs⟩
theorem WpB.range{g:Operand}{ps:Array Tmp}{assign body:Code}{l:Nat}{mark:List Deferred}{w₁:World}{d:Deferred}{w₁':World}{f:FuncId}{args:Array Value}{w₂:World}
  (he:(Instr.enterLoop b.fn a.tmps ps assign body b.roundOf).run P w=.ok (l,mark) w₁) (hres:(resolve a.eval (rangeCall g l) 0).run P w₁=.ok d w₁') (hinv:(invoke d.target d.args).run P w₁'=.ok (.enter f args) w₂)
  (hcall:Calls P f args w₂ fun e w₃=>match e with
   | .returned _=>∃w₄,(Instr.endLoop l).run P w₃=.ok none w₄∧Q .normal { a with defers:=mark++a.defers } w₄
   | .panicked chain=>Q (.panic chain) { a with defers:=mark++a.defers } w₃
   | .outgrown=>False):WpB P b (.rangeFunc g ps assign body) Q a w:=by
 intro k cs
 have henter:=stepR_rangeFunc (P:=P) (b:=b) (a:=a) (k:=k) (cs:=cs) (w:=w) he hres hinv
 obtain⟨e,w₃,fr,hR,hsteps,hfn,hleave⟩:=(callsIn_wide (n:=0)).2 hcall |>.2 (b.atR { a with defers:=mark++a.defers } (.inRangeFunc l::k)::cs) (room_wide _)
 cases e with
 | outgrown=>exact hR.elim
 | returned v =>
  obtain⟨w₄,hend,hj⟩:=hR
  refine⟨.normal,_,w₄,hj,.head (fenced_wide _ _) henter (StepsIn.trans hsteps (.head (fenced_wide _ _) ?_ (.one (fenced_wide _ _) (stepR_endRangeFunc hend))))⟩
  rw[←finish_atR_inRangeFunc l v];exact step_leave_returned hleave
 | panicked chain =>
  refine⟨.panic chain,_,w₃,hR,.inRangeFunc l::k,.head (fenced_wide _ _) henter (StepsIn.trans hsteps (.one (fenced_wide _ _) ?_))⟩
  rw[←Frame.raise_atR];exact step_leave_panicked hleave
theorem zlp{f:FuncId}{fn:Func}{c:Code}{args:Array Value}{R:Ending→World→Prop}(hf:P.funcs[f]?=some fn)(hb:fn.body=some c)
  (h:∀b:Frame,b.fn=f→b.roundOf=none→WpB P b c (bodyPostM Fence.wide 0 P fn R) { tmps:=args++ybW (fn.ntmps-args.size) undef,defers:=[] } w):Calls P f args w R:=by
 refine(callsIn_wide (n:=0)).1 ⟨trivial,fun cs hr=>?_⟩
 let b:Frame:={ (default:Frame)with fn:=f,kind:=.normal,roundOf:=none }
 have henter:Frame.enter P f args .normal=b.atR { tmps:=args++ybW (fn.ntmps-args.size) undef,defers:=[] } [.code c]:=by
  simp[Frame.enter,Frame.atR,hf,hb,b]
 obtain⟨e,a',w',hq,harr⟩:=h b rfl rfl [] cs
 rw[←henter]at harr
 cases e with
 | normal =>
  obtain⟨e',w'',fr',hR,hs,hfn,hl⟩:=leaves_stepsInM (F:=Fence.wide) (n:=0) a'.defers .returning w' { b.atR a' []with mode:=.returning } cs rfl rfl rfl hf rfl trivial hr hq
  exact⟨e',w'',fr',hR,ComesIn.of_steps (StepsIn.trans harr (.one (fenced_wide _ _) (stepR_end rfl))) hs,hfn,hl⟩
 | ret =>
  obtain⟨todo,hs₀⟩:=harr.1 rfl
  obtain⟨e',w'',fr',hR,hs,hfn,hl⟩:=leaves_stepsInM (F:=Fence.wide) (n:=0) a'.defers .returning w' { b.atR a' todo with mode:=.returning } cs rfl rfl rfl hf rfl trivial hr hq
  exact⟨e',w'',fr',hR,ComesIn.of_steps hs₀ hs,hfn,hl⟩
 | panic chain =>
  obtain⟨todo,hs₀⟩:=harr
  obtain⟨e',w'',fr',hR,hs,hfn,hl⟩:=leaves_stepsInM (F:=Fence.wide) (n:=0) a'.defers (.panicking chain) w' { b.atR a' todo with mode:=.panicking chain } cs rfl rfl rfl hf rfl trivial hr hq
  exact⟨e',w'',fr',hR,ComesIn.of_steps hs₀ hs,hfn,hl⟩
 | exit id=>exact hq.elim
 | goto l=>exact hq.elim
 | outgrown=>exact⟨.outgrown,w',b,hq,harr.resolve_left (by simp[b]),rfl,trivial⟩
end
def zvH(P:Program)(G:Env)(n:Nat)(pa pb:PC)(ps:List Nat)(g:Operand)(res:List ResultVar)(R:Out→AS→Prop)(a:Nat→AV)(σ:AS):Prop :=
 ∃it cap,ev G a g=.fn (.func it) [] cap∧za P it=true∧∀l,ACalls P (G.under P n pa pb ps σ.nf a l) it (.fn (.yield l) [] []::cap) σ.newF fun o σ'=>match o with
  | .ret _=>σ'.F σ.nf=.alive∧zjJ P res a { σ' with F:=upd σ'.F σ.nf .dead } fun vs=>R (.ret (tup vs)) { σ' with F:=upd σ'.F σ.nf .dead }
  | .panic v=>R (.panic v) σ'
def zsF(R:Out→AS→Prop)(M:Mp)(F:Nat→FSt)(w:World)(e:Ending)(w':World):Prop:=∃out σ' M',R out σ'∧zbV M' σ'.F w' out e∧Sim M' σ' w'∧Ext M F w M' σ'.F w'
theorem zoX{P:Program}{ac:Act}{g:Operand}{it l:Nat}{C:Array Value}(h:ac.eval g=.func (.func it) #[] C)(w:World):
  (resolve ac.eval (rangeCall g l) 0).run P w=.ok ⟨.fn (.func it) C,#[.func (.yield l) #[] #[]]⟩ w:=by
 have e:(rangeCall g l).args.map ac.eval=#[ac.eval (.const (.func (.yield l) #[] #[]))]:=by simp[rangeCall]
 have e2:(rangeCall g l).callee=.value g:=rfl
 have e3:ac.eval (.const (.func (.yield l) #[] #[]))=.func (.yield l) #[] #[]:=rfl
 unfold resolve
 simp only[e,e2,e3,h,Deferred.ofValue,Sem.run_pure]
 rfl
theorem zhu{P:Program}{it:Nat}{C args:Array Value}(hcl:za P it=true)(w:World):(invoke (.fn (.func it) C) args).run P w=.ok (.enter it (args++C)) w:=by
 obtain ⟨fni, hfni, hbi, hname⟩ : ∃ fni, P.funcs[it]? = some fni ∧ fni.body.isSome = true ∧ (fni.name == "runtime.NumGoroutine") = false := by
  unfold za at hcl
  split at hcl
  ·simp only[Bool.and_eq_true,Bool.not_eq_true']at hcl
   exact⟨_,‹_›,hcl.1,hcl.2⟩
  ·cases hcl
 have hbn:fni.body.isNone=false:=by cases hq:fni.body<;>simp[hq]at hbi ⊢
 simp only[invoke,callFunc,Sem.run_bind,run_program,Result.andThen_ok,hfni,hname,hbn,Bool.false_eq_true,if_false,Sem.run_pure]
section
variable {P : Program} {G : Env} {f : FuncId} {fn : Func} {assign body : Code} {psA : Array Nat} {pa pb : PC} {a : Nat → AV} {σ : AS} {M : Mp} {w : World} {ac : Act}
theorem zoY(S:Sim M σ w)(d:Nat)(rec:Loop):∃M1,Sim M1 σ.newF ((w.alloc (.deferred (some []))).alloc (.loop rec))∧Ext M σ.F w M1 σ.newF.F ((w.alloc (.deferred (some []))).alloc (.loop rec))∧M1.nf=M.nf+1 ∧
  M1.role (w.heap.size+1)=some (.fam M.nf)∧M1.role w.heap.size=some .stat∧((w.alloc (.deferred (some []))).alloc (.loop rec)).heap[w.heap.size+1]?=some (.loop rec) ∧
  ((w.alloc (.deferred (some []))).alloc (.loop rec)).heap[w.heap.size]?=some (.deferred (some [])):=by
 have Sa:=zjy S (.deferred (some [])) .stat
 have Ea:=zgH (F:=σ.F) S.role (.deferred (some [])) .stat
 have hF:∀h,h<(M.newRole w.heap.size .stat).nf→(upd σ.F σ.nf .alive) h=σ.F h∨(upd σ.F σ.nf .alive) h=.dead:=by
  intro h hh
  have:h<σ.nf:=by rw[←S.nf];exact hh
  exact .inl (zf _ _ (by omega))
 have hsz:(w.alloc (.deferred (some []))).heap.size=w.heap.size+1:=by simp
 have Sb:=zbr Sa (.loop rec) (w':=(w.alloc (.deferred (some []))).alloc (.loop rec)) rfl ⟨rfl,rfl,rfl⟩ hF
 have Eb:=za1 (F:=σ.F) Sa.role (.loop rec) (w':=(w.alloc (.deferred (some []))).alloc (.loop rec)) rfl ⟨rfl,rfl,rfl⟩ hF
 have e0:({ w with heap:=w.heap.push (.deferred (some [])) }:World)=w.alloc (.deferred (some [])):=rfl
 rw[e0,hsz]at Sb Eb
 refine⟨_,Sb,Ea.trans Eb,rfl,?_,?_,?_,?_⟩
 ·simp only[Mp.newFam];rw[ze];rfl
 ·simp only[Mp.newFam];rw[zf _ _ (by omega)];simp only[Mp.newRole];rw[ze]
 ·show((w.heap.push _).push _)[w.heap.size+1]?=_
  rw[yaS,if_pos (by simp)]
 ·show((w.heap.push _).push _)[w.heap.size]?=_
  simp[yaS]
theorem zmH(hm:P.follows .mixedOrders=true)(hf:P.funcs[f]?=some fn)(hpa:zcH fn.ntmps assign=some pa)(hpb:zcH fn.ntmps body=some pb)(hps:psA.toList.all (·<fn.ntmps)=true)
  {b:Frame} (hbf:b.fn=f) (hbr:b.roundOf=none) {M0:Mp} {F0:Nat→FSt} {w0:World} (E0:Ext M0 F0 w0 M σ.F w) (S:Sim M σ w) (g0:GOk P G M σ.F w) (fr:Fr M σ.F w a ac fn.ntmps) (hD:ac.defers=[]) {g:Operand} {R:Out→AS→Prop} {id:Nat}
  (h:zvH P G fn.ntmps pa pb psA.toList g fn.results.toList R a σ):WpB P b (.block id (.rangeFunc g psA assign body)) (bodyPostM Fence.wide 0 P fn (zsF R M0 F0 w0)) ac w:=by
 subst hbf
 obtain⟨it,cap,hit,hcl,hcall⟩:=h
 have hfv:=zld g0 fr g
 rw[hit]at hfv
 obtain⟨C,hρ,hC⟩:∃C,ac.eval g=.func (.func it) #[] C∧Cells M σ.F w cap C:=by
  generalize ac.eval g=c at hfv
  cases hfv with
  | fn _ _ _ A B ha hb va vb =>
   have:A=#[]:=Array.eq_empty_of_size_eq_zero ha
   subst this
   exact⟨B,rfl,Cells.of hb vb⟩
 have henter:=run_enterLoop_outer (P:=P) (w:=w) b.fn ac.tmps psA assign body
 rw[←hbr]at henter
 obtain⟨M1,S1,E1,hnf1,hrole,hroled,hheap,hheapd⟩:=zoY S 0 { state:=.ready,pending:=none,fn:=b.fn,tmps:=ac.tmps,params:=psA,assign:=assign,body:=body,defers:=w.heap.size }
 generalize hwL:(w.alloc (.deferred (some []))).alloc (.loop { state:=.ready,pending:=none,fn:=b.fn,tmps:=ac.tmps,params:=psA,assign:=assign,body:=body,defers:=w.heap.size })=wL at henter S1 E1 hheap hheapd
 have hsnf:=S.nf
 have hgu:GOk P (G.under P fn.ntmps pa pb psA.toList σ.nf a (w.heap.size+1)) M1 σ.newF.F wL:=by
  refine⟨(g0.mono E1).vars,fun x hx=>?_,(g0.mono E1).fixed⟩
  have hx':x=w.heap.size+1:=hx
  subst hx'
  refine⟨_,M.nf,M1,_,wL,.refl ..,by rw[hnf1];omega,fun _=>⟨hrole,hheap⟩,fun args σ K PK hy=>by rw[hsnf];exact hy.2.2.1,S1.role,?_⟩
  rw[←hsnf]
  exact zoW hm hf hpa hpb (fun p hp=>of_decide_eq_true (yaM.1 hps p hp)) g0 E1 (by omega) (by rw[hnf1];omega) fr.size (fun t=>(fr.val t).mono E1)
 have hyv:VR M1 σ.newF.F wL (.fn (.yield (w.heap.size+1)) [] []) (.func (.yield (w.heap.size+1)) #[] #[]):=.fn _ _ _ _ _ rfl rfl (fun j h=>absurd h (yaA _)) (fun j h=>absurd h (yaA _))
 have hcc:Cells M1 σ.newF.F wL (.fn (.yield (w.heap.size+1)) [] []::cap) (#[.func (.yield (w.heap.size+1)) #[] #[]]++C):=by
  refine⟨by have:=hC.1;simp;omega,fun j v hj=>?_⟩
  cases j with
  | zero=>simp only[List.getElem?_cons_zero,yaR.injEq]at hj;subst hj;exact⟨_,by rw[ybi (by simp)];rfl,hyv⟩
  | succ j =>
   simp only[List.getElem?_cons_succ]at hj
   obtain⟨c,h1,h2⟩:=hC.2 j v hj
   exact⟨c,by rw[ybj (by simp)];exact h1,h2.mono E1⟩
 have hc3:=hcall (w.heap.size+1) M1 wL _ S1 hgu hcc
 refine WpB.block (WpB.range henter (zoX hρ wL) (zhu hcl wL) (hc3.mono fun e w3 he=>?_))
 obtain⟨out',σ3,M3,hR,hO,S3,E3⟩:=he
 have Efull:=E1.trans E3
 have hd3:=(E3.stat w.heap.size _ hroled).2.exact.trans hheapd
 cases out' with
 | ret v =>
  cases e with
  | panicked ch=>exact hO.elim
  | outgrown=>exact hO.elim
  | returned v' =>
   obtain⟨hal3,hares⟩:=hR
   have hal3':σ3.F M.nf=.alive:=by rw[hsnf];exact hal3
   have hheap3:=(E3.famc _ _ (by rw[hnf1];omega) hrole hal3').trans hheap
   have hrole3:=E3.famr _ _ (by rw[hnf1];omega) hrole (by rw[hal3'];simp)
   refine⟨_,run_endLoop hheap3 (by simp),.inl rfl,?_⟩
   generalize hr1:(Obj.loop { state:=.exhausted,pending:=none,fn:=b.fn,tmps:=ac.tmps,params:=psA,assign:=assign,body:=body,defers:=w.heap.size })=rec1
   have hc1:rec1.isCells=false:=by rw[←hr1];rfl
   have E4:=Ext.putFam (o1:=rec1) hheap3 rfl hrole3 hal3'
   have Ed:=Ext.dead_fam (M:=M3) (w:=w3) hal3'
   have sc4:=zaK (o':=rec1) hheap3 rfl hc1
   have hd4:(w3.putObj (w.heap.size+1) rec1).heap[w.heap.size]?=some (.deferred (some [])):=by rw[zB,if_neg (by omega)];exact hd3
   have sc5:=zaK (o':=Obj.deferred none) hd4 rfl rfl
   have S5:=((S3.ext_F Ed).same sc4).same sc5
   have E5:=(Efull.trans E4).putBehind (o1:=.deferred none) hd4 rfl (yah _) S.role
   have f5:∀t,VR M3 (upd σ3.F M.nf .dead) _ (a t) (ac.tmps.getD t undef):=fun t=>((fr.val t).mono (Efull.trans E4)).same sc5
   rw[hsnf]at S5 f5 E5
   obtain⟨v5,hr5,out5,hR5,hO5⟩:=zc2 S5 f5 hares
   simp only[bodyPostM,hD,yb7,LeavesInM]
   exact⟨by simp,.inl ⟨_,_,rfl,run_takeDeferred hd4,v5,hr5,out5,_,M3,hR5,hO5,S5,E0.trans E5⟩⟩
 | panic v =>
  cases e with
  | returned v'=>exact hO.elim
  | outgrown=>exact hO.elim
  | panicked ch =>
   obtain⟨v',rfl,hv⟩:=hO
   refine⟨.inr ⟨_,rfl⟩,?_⟩
   have sc5:=zaK (o':=Obj.deferred none) hd3 rfl rfl
   have E5:=Efull.putBehind (o1:=.deferred none) hd3 rfl (yah _) S.role
   simp only[bodyPostM,hD,yb7,LeavesInM]
   exact⟨by simp,.inl ⟨_,_,rfl,run_takeDeferred hd3,.panic v,σ3,M3,hR,⟨v',rfl,hv.same sc5⟩,S3.same sc5,E0.trans E5⟩⟩
end
theorem zlq{P:Program}{G:Env}{f:FuncId}{fn:Func}{n:Nat}{x y assign body:Code}{id:Nat}{g:Operand}{psA:Array Nat}{px py pa pb:PC}{res:List ResultVar}{args:List AV}{σ:AS}{R:Out→AS→Prop}
  (hm:P.follows .mixedOrders=true) (hf:P.funcs[f]?=some fn) (hnt:fn.ntmps=n) (hres:fn.results.toList=res) (hb:fn.body=some (.seq x (.seq y (.block id (.rangeFunc g psA assign body)))))
  (hx:zcH n x=some px) (hy:zcH n y=some py) (hpa:zcH n assign=some pa) (hpb:zcH n body=some pb) (hps:psA.toList.all (·<n)=true) (hn:args.length≤n)
  (h:avc P G n px (zbd (avc P G n py (zbd (zvH P G n pa pb psA.toList g res R) fun _ _ _=>False)) fun _ _ _=>False) (zbq args) σ):ACalls P G f args σ R:=by
 subst hnt;subst hres
 intro M w cargs S g0 hc
 refine zlp hf hb fun b hbf hbr=>?_
 obtain⟨fr1,fr2⟩:=zd5 hc hn
 refine WpB.seq (WpB.of (n:=0) hbr (wpIn_mono (zai hm x px hx _ _ σ h none [] M σ.F w M w { tmps:=_,defers:=[] } S g0 (.refl ..) ⟨fr1,fr2⟩ rfl) fun e ac' w' hq=>?_))
 obtain⟨e',a',σ',M',q,r,S',g',E',f',hD'⟩:=hq
 cases e' with
 | exit i=>exact q.elim
 | ret=>exact q.elim
 | panic v=>exact q.elim
 | normal =>
  cases e<;>simp only[zdl]at r
  refine WpB.seq (WpB.of (n:=0) hbr (wpIn_mono (zai hm y py hy _ _ σ' q none [] M σ.F w M' w' ac' S' g' E' f' hD') fun e ac2 w2 hq2=>?_))
  obtain⟨e2,a2,σ2,M2,q2,r2,S2,g2,E2,f2,hD2⟩:=hq2
  cases e2 with
  | exit i=>exact q2.elim
  | ret=>exact q2.elim
  | panic v=>exact q2.elim
  | normal =>
   cases e<;>simp only[zdl]at r2
   exact zmH hm hf hpa hpb hps hbf hbr E2 S2 g2 f2 hD2 q2
def zax(P:Program)(G:Env)(n:Nat)(py:PC)(d0 d1:Nat)(caps:List AV)(res:List ResultVar)(R:Out→AS→Prop)(pv:Option AV)(a:Nat→AV)(σ:AS):Prop :=
 avc P G n py (fun e _ σ2=>(e=.normal∨e=.ret)∧zjJ P res a σ2 fun vs=>R (.ret (tup vs)) σ2) (upd (upd (zbq caps) d0 (pv.getD .nilif)) d1 (pv.getD .nilif)) σ
def aq(H:Option AV→(Nat→AV)→AS→Prop):AQ
 | .normal,a,σ|.ret,a,σ=>H none a σ
 | .panic v,a,σ=>H (some v) a σ
 | .exit _,_,_=>False
def znN(pv:Option Value):FrameMode:=match pv with
 | none=>.returning
 | some v=>.panicking [{ v:=v,recovered:=false }]
theorem za4{P:Program}{G:Env}(hm:P.follows .mixedOrders=true){fn:Func}{k:FuncId}{fk:Func}{rid d0 d1:Nat}{ops:Array Oper}{r0 r1:Oper}{y:Code}{py:PC}(hk:P.funcs[k]?=some fk)(hbk:fk.body=some (.seq (.region rid ops false) y))(hops:ops.toList=[r0,r1])
  (h0:r0.op=.call ⟨.builtin .recover,#[],#[]⟩) (h0d:r0.dst=some d0) (h0g:r0.guard=none) (h1:r1.op=.assign (.tmp d0)) (h1d:r1.dst=some d1) (h1g:r1.guard=none) (hres:fk.results=#[]) (hpy:zcH fk.ntmps y=some py) (hd0:d0<fk.ntmps) (hd1:d1<fk.ntmps)
  {caps:List AV} {C:Array Value} {R:Out→AS→Prop} {pv:Option AV} {pw:Option Value} {a:Nat→AV} {σ:AS} {M:Mp} {w:World} {ac:Act} {n:Nat} {M0:Mp} {F0:Nat→FSt} {w0:World} (E0:Ext M0 F0 w0 M σ.F w) (S:Sim M σ w) (g:GOk P G M σ.F w) (f:Fr M σ.F w a ac n)
  (hC:Cells M σ.F w caps C) (hcl:caps.length≤fk.ntmps) (hpv:VR M σ.F w (pv.getD .nilif) (pw.getD .nilIface)) (h:zax P G fk.ntmps py d0 d1 caps fn.results.toList R pv a σ) :
  CallsD P k (#[]++C) (znN pw) w fun e u' w'=>match e with
   | .returned _=>Leaves P fn ac.tmps (zsF R M0 F0 w0) [] (settle u') w'
   | .panicked chain=>Leaves P fn ac.tmps (zsF R M0 F0 w0) [] (raised u' chain) w'
   | .outgrown=>zsF R M0 F0 w0 .outgrown w':=by
 refine callsD_of_wpS hk hbk fun c₀ cs hu=>?_
 obtain⟨fr1,fr2⟩:=zd5 hC hcl
 rw[Array.empty_append]
 generalize hac:({ tmps:=C++ybW (fk.ntmps-C.size) undef,defers:=[] }:Act)=ak
 have hf0:Fr M σ.F w (zbq caps) ak fk.ntmps:=by rw[←hac];exact⟨fr1,fr2⟩
 have hdk:ak.defers=[]:=by rw[←hac]
 have hsz:ops.size=2:=by rw[←Array.length_toList,hops];rfl
 have e0:ops[0]?=some r0:=by rw[←yb8,hops];rfl
 have e1:ops[1]?=some r1:=by rw[←yb8,hops];rfl
 -- behind the region
 have behind:∀(cs':List Frame) (u':FrameMode),cs'={ c₀ with mode:=u' }::cs→settle u'=.returning →
   y.wpS P (bodyPostS P fk c₀ cs fun e u' w'=>match e with
    | .returned _=>Leaves P fn ac.tmps (zsF R M0 F0 w0) [] (settle u') w'
    | .panicked chain=>Leaves P fn ac.tmps (zsF R M0 F0 w0) [] (raised u' chain) w'
    | .outgrown=>zsF R M0 F0 w0 .outgrown w') ((ak.put (some d0) (pw.getD .nilIface)).put (some d1) (pw.getD .nilIface)) cs' w:=by
  intro cs' u' hcs hset
  have f1:=(hf0.put (d:=some d0) (by simpa [zir]using hd0) hpv).put (d:=some d1) (by simpa [zir]using hd1) hpv
  refine wpS_of_wp ((wpIn_wide (n:=0)).1 (wpIn_mono (zai hm y py hpy _ _ σ h none [] M σ.F w M w _ S g (.refl ..) f1 (by rw[zaI,zaI,hdk])) fun e a2 w2 hq=>?_))
  obtain⟨e',a',σ',M',q,r,S',g',E',f',hD'⟩:=hq
  obtain⟨he,hares⟩:=q
  have fin:∃v,(results fk a2.tmps).run P w2=.ok v w2∧Leaves P fn ac.tmps (zsF R M0 F0 w0) [] (settle u') w2:=by
   obtain⟨v,hr,out,hR,hO⟩:=zc2 S' (fun t=>(f.val t).mono E') hares
   obtain⟨v2,hr2,_⟩:=zc2 (fn:=fk) (tmps:=a2.tmps) (R:=fun _ _=>True) S' f'.val (by rw[hres];exact trivial)
   rw[hset]
   exact⟨v2,hr2,v,hr,out,σ',M',hR,hO,S',E0.trans E'⟩
  rcases he with rfl|rfl
  ·cases e<;>simp only[zdl]at r
   obtain⟨v2,hr2,hl⟩:=fin
   exact⟨hD',u',hcs,v2,hr2,hl⟩
  ·cases e<;>simp only[zdl]at r
   obtain⟨v2,hr2,hl⟩:=fin
   exact⟨hD',u',hcs,v2,hr2,hl⟩
 have run0:∀ρ:Operand→Value,(execOp ρ r0).run P w=.ok .recover w:=by
  intro ρ
  unfold execOp;rw[h0]
  simp[resolve,invoke,builtin]
 have run1:∀(v:Value),(execOp (ak.put (some d0) v).eval r1).run P w=.ok (.value v) w:=by
  intro v
  have e:(ak.put (some d0) v).eval (.tmp d0)=v:=by
   simp only[Act.eval,Act.put]
   rw[ybz,ybZ,if_pos rfl,if_pos (by have:=hf0.size;omega)]
   rfl
  unfold execOp;rw[h1]
  simp[e]
 have want0:∀y,Region.wanted r0 y=true:=fun y=>by simp[Region.wanted,h0g]
 have want1:∀y,Region.wanted r1 y=true:=fun y=>by simp[Region.wanted,h1g]
 refine wpS_seq (wpS_region ?_)
 rw[hsz,show ya7 2=[0,1] from rfl]
 simp only[wpOpsS,e0,e1,want0,want1,if_true,run0]
 cases pw with
 | none =>
  have hrec:recoverD (c₀::cs)=none:=by simp[recoverD,hu,znN]
  rw[hrec]
  simp only[h0d,run1,Oper.upon_value,h1d]
  exact behind _ .returning (by rw[show({ c₀ with mode:=FrameMode.returning }:Frame)=c₀ by cases c₀;simp only[znN]at hu;subst hu;rfl]) rfl
 | some v =>
  have hrec:recoverD (c₀::cs)=some (v,{ c₀ with mode:=.panicking [{ v,recovered:=true }] }::cs):=by simp[recoverD,hu,znN]
  rw[hrec]
  simp only[h0d,run1,Oper.upon_value,h1d]
  exact behind _ (.panicking [{ v,recovered:=true }]) rfl (by simp[settle])
theorem Cells.mono'{M F w M' F' w' cs A}(h:Cells M F w cs A)(E:Ext M F w M' F' w'):Cells M' F' w' cs A:=⟨h.1,fun j v hj=>let ⟨c,a,b⟩:=h.2 j v hj;⟨c,a,b.mono E⟩⟩
theorem zev{P:Program}{G:Env}(hm:P.follows .mixedOrders=true){f:FuncId}{fn:Func}{n:Nat}{x z:Code}{qid t:Nat}{qops:Array Oper}{o0 o1:Oper}{capsA:Array Operand}{px pz:PC}{res:List ResultVar}{args:List AV}{σ:AS}{R:Out→AS→Prop}
  (hf:P.funcs[f]?=some fn) (hnt:fn.ntmps=n) (hres':fn.results.toList=res) (hb:fn.body=some (.seq x (.seq (.region qid qops false) z))) (hqops:qops.toList=[o0,o1]) (hx:zcH n x=some px) (hz:zcH n z=some pz) (hn:args.length≤n)
  {k:FuncId} {fk:Func} {nk rid d0 d1:Nat} {ops:Array Oper} {r0 r1:Oper} {y:Code} {py:PC}
  (m0:o0.op=.makeFunc (.func k) #[] capsA) (m0d:o0.dst=some t) (m0g:o0.guard=none) (m1:o1.op=.defer ⟨.value (.tmp t),#[],#[]⟩) (m1d:o1.dst=none) (m1g:o1.guard=none) (ht:t<n)
  (hk:P.funcs[k]?=some fk) (hnk:fk.ntmps=nk) (hck:za P k=true) (hbk:fk.body=some (.seq (.region rid ops false) y)) (hops:ops.toList=[r0,r1])
  (h0:r0.op=.call ⟨.builtin .recover,#[],#[]⟩) (h0d:r0.dst=some d0) (h0g:r0.guard=none) (h1:r1.op=.assign (.tmp d0)) (h1d:r1.dst=some d1) (h1g:r1.guard=none) (hres:fk.results=#[]) (hpy:zcH nk y=some py) (hd0:d0<nk) (hd1:d1<nk) (hcl:capsA.size≤nk)
  (h:avc P G n px (zbd (fun a σ=>avc P G n pz (aq (zax P G nk py d0 d1 (capsA.toList.map (ev G a)) res R)) (upd a t (.fn (.func k) [] (capsA.toList.map (ev G a)))) σ) fun _ _ _=>False) (zbq args) σ):ACalls P G f args σ R:=by
 subst hnt;subst hres';subst hnk
 intro M w cargs S g0 hc
 obtain⟨fr1,fr2⟩:=zd5 hc hn
 refine calls_of_wp_defers hf hb (wp_seq (wp_mono ((wpIn_wide (n:=0)).1 (zai hm x px hx _ _ σ h none [] M σ.F w M w { tmps:=_,defers:=[] } S g0 (.refl ..) ⟨fr1,fr2⟩ rfl)) fun e ac1 w1 hq=>?_))
 obtain⟨e',a1,σ1,M1,q,r,S1,g1,E1,f1,hD1⟩:=hq
 cases e' with
 | exit i=>exact q.elim
 | ret=>exact q.elim
 | panic v=>exact q.elim
 | normal =>
  cases e<;>simp only[zdl]at r
  -- the closure is made and deferred
  have hC:Cells M1 σ1.F w1 (capsA.toList.map (ev G a1)) (capsA.map ac1.eval):=by
   refine Cells.of (by simp) fun j h h'=>?_
   simp only[yak,ya1,yal]
   exact zld g1 f1 _
  have hfv:VR M1 σ1.F w1 (.fn (.func k) [] (capsA.toList.map (ev G a1))) (.func (.func k) #[] (capsA.map ac1.eval)) :=
   .fn _ _ _ _ _ rfl hC.1 (fun j h=>absurd h (yaA _)) hC.get
  have f2:=f1.put (d:=some t) (by simpa [zir]using ht) hfv
  have run0:(execOp ac1.eval o0).run P w1=.ok (.value (.func (.func k) #[] (capsA.map ac1.eval))) w1:=by
   unfold execOp;rw[m0]
   simp[Instr.makeFunc]
  have run1:(execOp (ac1.put (some t) (.func (.func k) #[] (capsA.map ac1.eval))).eval o1).run P w1=.ok (.defer ⟨.fn (.func k) (capsA.map ac1.eval),#[]⟩) w1:=by
   have e:(ac1.put (some t) (.func (.func k) #[] (capsA.map ac1.eval))).eval (.tmp t)=.func (.func k) #[] (capsA.map ac1.eval):=by
    simp only[Act.eval,Act.put]
    rw[ybz,ybZ,if_pos rfl,if_pos (by have:=f1.size;omega)]
    rfl
   unfold execOp;rw[m1]
   simp[resolve,e,Deferred.ofValue]
  have want0:∀y,Region.wanted o0 y=true:=fun y=>by simp[Region.wanted,m0g]
  have want1:∀y,Region.wanted o1 y=true:=fun y=>by simp[Region.wanted,m1g]
  have step:∀Q:Exit→Act→World→Prop,Q .normal { ac1.put (some t) (.func (.func k) #[] (capsA.map ac1.eval))with defers:=[⟨.fn (.func k) (capsA.map ac1.eval),#[]⟩] } w1→(Code.region qid qops false).wp P Q ac1 w1:=by
   intro Q hQ
   refine(wpIn_wide (n:=0)).1 (wpIn_region_list ?_)
   rw[hqops]
   unfold wpListIn
   rw[if_pos (want0 _)]
   refine⟨fun _ _=>trivial,?_⟩
   rw[show(o0.semAt Fence.wide.round ac1.eval)=execOp ac1.eval o0 from rfl,run0,Oper.uponIn_value,m0d]
   unfold wpListIn
   rw[if_pos (want1 _)]
   refine⟨fun _ _=>trivial,?_⟩
   rw[show(o1.semAt Fence.wide.round (ac1.put (some t) (.func (.func k) #[] (capsA.map ac1.eval))).eval)=execOp (ac1.put (some t) (.func (.func k) #[] (capsA.map ac1.eval))).eval o1 from rfl,run1,Oper.uponIn_defer,m1d,zaI,hD1]
   exact hQ
  refine wp_seq (step _ ?_)
  have f2':Fr M1 σ1.F w1 (upd a1 t (.fn (.func k) [] (capsA.toList.map (ev G a1)))) { ac1.put (some t) (.func (.func k) #[] (capsA.map ac1.eval))with defers:=[⟨.fn (.func k) (capsA.map ac1.eval),#[]⟩] } fn.ntmps:=⟨f2.size,f2.val⟩
  refine wp_mono ((wpIn_wide (n:=0)).1 (zai hm z pz hz _ _ σ1 q none [⟨.fn (.func k) (capsA.map ac1.eval),#[]⟩] M1 σ1.F w1 M1 w1 _ S1 g1 (.refl ..) f2' rfl)) fun e ac3 w3 hq3=>?_
  obtain⟨e3,a3,σ3,M3,q3,r3,S3,g3,E3,f3,hD3⟩:=hq3
  have hinv:∀w,(invoke (.fn (.func k) (capsA.map ac1.eval)) #[]).run P w=.ok (.enter k (#[]++capsA.map ac1.eval)) w:=fun w=>zhu hck w
  have hC3:=Cells.mono' hC E3
  have hcl':(capsA.toList.map (ev G a1)).length≤fk.ntmps:=by simpa using hcl
  cases e3 with
  | exit i=>exact q3.elim
  | normal =>
   cases e<;>simp only[zdl]at r3
   simp only[bodyPostD,hD3]
   exact leaves_cons (by simp) (hinv w3) (CallsD.mono (za4 hm hk hbk hops h0 h0d h0g h1 h1d h1g hres hpy hd0 hd1 (pw:=none) (E1.trans E3) S3 g3 f3 hC3 hcl' .nilif q3) fun e u' w' h=>by cases e<;>exact h)
  | ret =>
   cases e<;>simp only[zdl]at r3
   simp only[bodyPostD,hD3]
   exact leaves_cons (by simp) (hinv w3) (CallsD.mono (za4 hm hk hbk hops h0 h0d h0g h1 h1d h1g hres hpy hd0 hd1 (pw:=none) (E1.trans E3) S3 g3 f3 hC3 hcl' .nilif q3) fun e u' w' h=>by cases e<;>exact h)
  | panic v =>
   cases e<;>simp only[zdl]at r3
   obtain⟨v',rfl,hv⟩:=r3
   simp only[bodyPostD,hD3]
   exact leaves_cons (by simp) (hinv w3) (CallsD.mono (za4 hm hk hbk hops h0 h0d h0g h1 h1d h1g hres hpy hd0 hd1 (pv:=some v) (pw:=some v') (E1.trans E3) S3 g3 f3 hC3 hcl' hv q3) fun e u' w' h=>by cases e<;>exact h)
section
variable {P : Program} {G : Env} {a : Nat → AV} {σ : AS} {K : (Nat → AV) → AS → Prop} {Q : AQ} {dst : Option Nat} {KS : AV → AS → Prop} {KV : AV → Prop}
def orB(x y:Prop):Prop:=x∨y
@[congr] theorem zBE{dd:Prop}(_:blk=dd){x y:Prop}:orB x y=orB x y:=rfl
def zsG(P:Program)(s d:TypeId)(v:AV)(σ:AS)(K:AV→AS→Prop):Prop:=match v with
 | .int _ _=>zig P s d v fun v=>K v σ
 | .str bs=>(zca P d=true→(P.underlying s).isSome=true∧K (.str bs) σ)∧(zca P d=false→zes P s d v σ K)
 | _=>zes P s d v σ K
def zlr(P:Program)(s d:TypeId)(v:AV)(σ:AS)(K:AV→AS→Prop):Prop:=if(s==d)=true then zsb P s d v fun v=>K v σ else zsG P s d v σ K
@[congr] theorem zwR{dd:Prop}(_:blk=dd){s d:TypeId}{v v':AV}{σ σ':AS}{K:AV→AS→Prop}(h:v=v')(h2:σ=σ'):zlr P s d v σ K=zlr P s d v' σ' K:=by rw[h,h2]
theorem zjO(s d x):zbD P G (.convert s d x) dst a σ K Q=zlr P s d (ev G a x) σ fun v σ'=>K (put a dst v) σ':=by
 unfold zlr
 split
 ·rename_i h
  have e:zco (.convert s d x)=true:=h
  simp only[zbD,zbW,e,if_true,zbH]
 ·rename_i h
  have e:zco (.convert s d x)=false:=by simp only[zco];simpa using h
  simp only[zbD,zbW,e,Bool.false_eq_true,if_false,zva,zsG]
  cases ev G a x<;>rfl
@[simp] theorem zvI(s d x):zbD P G (.convert s d x) dst a σ K Q=zlr P s d (ev G a x) σ fun v σ'=>K (put a dst v) σ':=zjO s d x
theorem zhv{P:Program}{s:TypeId}(h1:zsa P s=true)(h2:zca P s=true):False:=by
 obtain⟨e,hu,_⟩:=zcE h1
 rw[zah h2]at hu
 cases hu
theorem zqg{P:Program}{s d:TypeId}{v:AV}{σ:AS}{K:AV→AS→Prop}(hv:∀bs,v≠.lit bs):zlr P s d v σ K=zsG P s d v σ K:=by
 unfold zlr
 split
 ·rename_i h
  have h:s=d:=by simpa using h
  subst h
  unfold zsG zsb
  cases v with
  | lit bs=>exact absurd rfl (hv bs)
  | int k n=>rfl
  | str bs =>
   simp only[zig,zes]
   cases hs:zca P s with
   | true=>simp
   | false=>simp
  | nilsl=>simp only[zig,zes];exact propext ⟨fun h=>h.elim,fun h=>zhv h.1 h.2.1⟩
  | sl φ sz xs=>simp only[zig,zes];exact propext ⟨fun h=>h.elim,fun h=>zhv h.1 h.2.1⟩
  | slm o off sz len=>simp only[zig,zes];exact propext ⟨fun h=>h.elim,fun h=>zhv h.1 h.2.1⟩
  | _=>rfl
 ·rfl
@[simp] theorem zBF(s d k n):zlr P s d (.int k n) σ KS=zU (zdd P d) fun k'=>(P.underlying s).isSome=true∧KS (.int k' (k'.wrap n)) σ:=by
 rw[zqg (by simp)];rfl
theorem B_inj:∀{x y:List UInt8},B x=B y→x=y
 | [],[],_=>rfl
 | [],_::_,h=>by simp[B]at h
 | _::_,[],h=>by simp[B]at h
 | a::x,b::y,h=>by
  simp only[B,List.map_cons,List.cons.injEq,AV.int.injEq,true_and]at h
  have e:a=b:=UInt8.toNat_inj.1 (by exact_mod_cast h.1)
  rw[e,B_inj h.2]
@[simp] theorem zFW(t k k' m n):zbk P .shr t (.int k m) (.int k' n) KV=(0≤n∧KV (.int k (m.fdiv (2^(min n.toNat k.bits))))):=Eq.trans rfl rfl
@[simp] theorem zFX(t k k' m n):zbk P .shl t (.int k m) (.int k' n) KV=(0≤n∧KV (.int k (k.wrap (m*2^(min n.toNat k.bits))))):=Eq.trans rfl rfl
@[simp] theorem zFY(t k m n):zbk P .quo t (.int k m) (.int k n) KV=(n≠0∧KV (.int k (k.wrap (m.tdiv n)))):=by simp[zbk,zbG]
@[simp] theorem zFZ(t k m n):zbk P .rem t (.int k m) (.int k n) KV=(n≠0∧KV (.int k (m.tmod n))):=by simp[zbk,zbG]
@[simp] theorem zF0(t k m n):zbk P .and t (.int k m) (.int k n) KV=KV (.int k (zbl k (· &&& ·) m n)):=by simp[zbk,zbG]
@[simp] theorem zIc(t k m n):zbk P .or t (.int k m) (.int k n) KV=KV (.int k (zbl k (· ||| ·) m n)):=by simp[zbk,zbG]
@[simp] theorem zF1(t k m n):zbk P .xor t (.int k m) (.int k n) KV=KV (.int k (zbl k (· ^^^ ·) m n)):=by simp[zbk,zbG]
@[simp] theorem zpH(t φ cs k n):zw P t (.pv φ (.agg cs)) (.int k n) KV=zU (zpE P t) fun p=>0≤n∧n<(p.1:Nat)∧zaA p.2.2 p.2.1 (n.toNat * p.2.1) cs fun v=>zu7 p.2.2 p.2.1 v∧KV (.pv φ v):=by
 refine propext ⟨fun⟨l,s,g,h1,h2⟩=>⟨(l,s,g),h1,h2⟩,fun⟨p,h1,h2⟩=>⟨p.1,p.2.1,p.2.2,h1,h2⟩⟩
@[simp] theorem zr4(t o off k n):zw P t (.ptr o off) (.int k n) KV=zU (zpE P t) fun p=>0≤n∧n<(p.1:Nat)∧KV (.ptr o (off+n.toNat * p.2.1)):=by
 refine propext ⟨fun⟨l,s,g,h1,h2⟩=>⟨(l,s,g),h1,h2⟩,fun⟨p,h1,h2⟩=>⟨p.1,p.2.1,p.2.2,h1,h2⟩⟩
@[simp] theorem zAi(t cs k n):zf1 P t (.agg cs) (.int k n) KV=zU (zpE P t) fun p=>0≤n∧n<(p.1:Nat)∧zaA p.2.2 p.2.1 (n.toNat * p.2.1) cs KV:=by
 refine propext ⟨fun⟨l,s,g,h1,h2⟩=>⟨(l,s,g),h1,h2⟩,fun⟨p,h1,h2⟩=>⟨p.1,p.2.1,p.2.2,h1,h2⟩⟩
theorem ACalls.of_below{f:FuncId}{args:List AV}{R:Out→AS→Prop}
  (h:∀(M:Mp) (w:World) (cargs:Array Value),Sim M σ w→GOk P G M σ.F w→Cells M σ.F w args cargs→Calls P f cargs w fun e w'=>(∃v c,e=.returned c∧(∀M F w,VR M F w v c)∧R (.ret v) σ)∧RowKit.Below w.heap.size w w'):ACalls P G f args σ R:=by
 intro M w cargs S g hc
 refine(h M w cargs S g hc).mono fun e w' ⟨⟨v,c,he,hv,hR⟩,hb⟩=>?_
 subst he
 have hlt:∀B r,M.role B=some r→B<w.heap.size:=S.role
 have E:Ext M σ.F w M σ.F w':=by
  refine⟨⟨hb.os,hb.tape,hb.output⟩,yah _,yah _,fun _ _=>rfl,fun _ _ h=>h,fun _ _ h=>by rw[h];simp,hb.size,fun B c e z h=>?_,fun B _ h=>⟨h,.inl (hb.block B (hlt B _ h))⟩,fun B hB h=>⟨h,hb.block B hB⟩,fun _ _ _ h _=>h,fun B f _ h _=>hb.block B (hlt B _ h)⟩
  exact .same (by rw[hb.block B (yaU.1 h).1];exact h) rfl
 refine⟨.ret v,σ,M,hR,hv ..,?_,E⟩
 refine⟨S.no,S.nf,fun B r h=>yag (S.role B r h) hb.size,fun o cs ho=>?_,S.inj⟩
 obtain⟨a1,a2,a3⟩:=S.obj o cs ho
 refine⟨a1,a2,fun j hj=>?_⟩
 obtain⟨c,h1,h2,h3⟩:=a3 j hj
 have hB:=hb.block _ (S.role _ _ a2)
 exact⟨c,(zp hB).trans h1,(zq hB).trans h2,h3.mono E⟩
end
def zcz(P:Program)(G:Env)(n:Nat)(p:PC)(Q:AQ):Nat→(Nat→AV)→AS→Prop
 | 0,_,_=>False
 | m+1,a,σ=>avc P G n p (zbd (zcz P G n p Q m) Q) a σ
@[simp] theorem zr{P:Program}{G:Env}{n:Nat}{p:PC}{Q:AQ}(m:Nat)(a σ):zcz P G n p Q (m+1) a σ=avc P G n p (zbd (zcz P G n p Q m) Q) a σ:=Eq.trans rfl rfl
@[congr] theorem zsH{dd:Prop}(_:blk=dd){P:Program}{G:Env}{n:Nat}{p:PC}{Q:AQ}{m:Nat}{a a':Nat→AV}{σ σ':AS}(h:a=a')(h2:σ=σ'):zcz P G n p Q m a σ=zcz P G n p Q m a' σ':=by rw[h,h2]
theorem za5{P:Program}{G:Env}{n:Nat}{p:PC}{Q:AQ}{a:Nat→AV}{σ:AS}(m:Nat)(h:zcz P G n p Q m a σ):zjI P G n p Q a σ:=by
 intro hm c hc ro D M0 F0 w0 M w ac S g E f hD
 have key:∀(m:Nat) (a:Nat→AV) (σ:AS) (M:Mp) (w:World) (ac:Act),zcz P G n p Q m a σ→Sim M σ w→GOk P G M σ.F w→Ext M0 F0 w0 M σ.F w→Fr M σ.F w a ac n→ac.defers=D →
   Code.roundsIn (zaF ro) 0 P c (QC P G n D M0 F0 w0 Q) m ac w:=by
  intro m
  induction m with
  | zero=>intro a σ M w ac h;exact h.elim
  | succ m ih =>
   intro a σ M w ac hR S g E f hD
   rw[roundsIn_succ]
   refine wpIn_mono (zai hm c p hc _ a σ hR ro D M0 F0 w0 M w ac S g E f hD) fun e ac' w' hq=>?_
   obtain⟨e',a',σ',M',q,r,S',g',E',f',hD'⟩:=hq
   cases e' with
   | normal=>cases e<;>simp only[zdl]at r;exact ih a' σ' M' w' ac' q S' g' E' f' hD'
   | exit i=>cases e<;>simp only[zdl]at r;exact⟨.exit i,a',σ',M',q,r,S',g',E',f',hD'⟩
   | ret=>cases e<;>simp only[zdl]at r;exact⟨.ret,a',σ',M',q,trivial,S',g',E',f',hD'⟩
   | panic v=>cases e<;>simp only[zdl]at r;exact⟨.panic v,a',σ',M',q,r,S',g',E',f',hD'⟩
 exact wpIn_loop_rounds m (key m a σ M w ac h S g E f hD)
def AS.own(σ:AS)(f fo:Nat)(cs xs:List AV):AS :=
 { σ with F:=upd σ.F f .dead,objs:=upd (upd σ.objs fo (some cs)) σ.no (some xs),no:=σ.no+1 }
theorem Sim.own{M:Mp}{σ:AS}{w:World}{f fo:Nat}{cs xs:List AV}{b:Bool}{sz j:Nat}(S:Sim M σ w)(ha:σ.F f=.alive)(ho:σ.objs fo=some cs)(hj:cs[j]?=some (.sl (.fam f b) sz xs)):
  ∃B off,Sim (M.own f B off) (σ.own f fo (cs.set j (.slm σ.no 0 sz xs.length)) (zy xs)) w:=by
 obtain⟨h1,h2,h3⟩:=S.obj fo cs ho
 obtain⟨hjl,hje⟩:=List.getElem?_eq_some_iff.1 hj
 obtain⟨c,hc1,hc2,hc3⟩:=h3 j hjl
 rw[hje]at hc3
 cases hc3 with
 | sl _ _ _ B off cap vs hcap hlit hsz hm hc hv =>
 have E:=zhd (M:=M) (w:=w) (B:=B) (off:=off) ha
 obtain⟨hf,hmem⟩:=hm
 obtain⟨hrole,hcell⟩:=hmem (by rw[ha];simp)
 have hno:=S.no
 have hfl:=zt sz xs hsz
 refine⟨B,off,⟨by simp[Mp.own,AS.own,S.no],S.nf,fun C r h=>?_,fun o cs' h=>?_,fun o o' h h'=>?_⟩⟩
 ·simp only[Mp.own]at h
  split at h
  ·rename_i h1;exact S.role C _ h1
  ·exact S.role C r h
 ·simp only[AS.own,zeu]at h
  split at h
  ·rename_i he
   subst he
   cases h
   refine⟨by simp[AS.own],?_,fun i hi=>?_⟩
   ·simp[Mp.own,hno,zeu,hrole]
   ·refine⟨vs i,?_,?_,?_⟩
    ·simp only[Mp.own,hno,ze];exact hc ha i hi
    ·simp only[Mp.own,hno,ze];exact(hcell i (by rw[hfl]at hi;have:=Nat.mul_le_mul_right sz hcap;omega)).2
    ·exact(hv ha i hi).mono E
  ·rename_i hne
   split at h
   ·rename_i he
    subst he
    cases h
    refine⟨by simp[AS.own];omega,?_,fun i hi=>?_⟩
    ·simp only[Mp.own];rw[zf _ _ (by omega)];simp[h2]
    ·have hi':i<cs.length:=by simpa using hi
     obtain⟨d,d1,d2,d3⟩:=h3 i hi'
     refine⟨d,?_,?_,?_⟩
     ·simp only[Mp.own];rw[zf _ _ (by omega)];exact d1
     ·simp only[Mp.own];rw[zf _ _ (by omega)];exact d2
     ·by_cases hij:j=i
      ·subst hij
       rw[hc1]at d1
       cases d1
       simp only[List.getElem_set_self]
       have:=VR.slm (M:=M.own f B off) (F:=(σ.own f o (cs.set j (.slm σ.no 0 sz xs.length)) (zy xs)).F) (w:=w) σ.no 0 sz xs.length cap (by simp[Mp.own,hno]) hcap (fun _ j hj=>by simpa [Mp.own,hno]using hcell j hj)
       simpa [Mp.own,hno]using this
      ·rw[List.getElem_set_ne hij]
       exact d3.mono E
   ·obtain⟨g1,g2,g3⟩:=S.obj o cs' h
    refine⟨by simp[AS.own];omega,?_,fun i hi=>?_⟩
    ·simp only[Mp.own];rw[zf _ _ (by omega)];simp[g2]
    ·obtain⟨d,d1,d2,d3⟩:=g3 i hi
     refine⟨d,?_,?_,d3.mono E⟩
     ·simp only[Mp.own];rw[zf _ _ (by omega)];exact d1
     ·simp only[Mp.own];rw[zf _ _ (by omega)];exact d2
 ·have key:∀p,(((σ.own f fo (cs.set j (.slm σ.no 0 sz xs.length)) (zy xs)).objs p).isSome=true)→p≠σ.no→(σ.objs p).isSome=true:=fun p hp hne=>by
   simp only[AS.own,zeu]at hp
   rw[if_neg hne]at hp
   split at hp
   ·rename_i he;subst he;simp[ho]
   ·exact hp
  have blk:∀p,p≠σ.no→((M.own f B off).obj p).1=(M.obj p).1:=fun p hp=>by simp only[Mp.own];rw[zf _ _ (by omega)]
  have blk0:((M.own f B off).obj σ.no).1=B:=by simp[Mp.own,hno]
  have no':∀p,(σ.objs p).isSome=true→(M.obj p).1≠B:=fun p hp e=>by
   obtain⟨ds,hds⟩:=Option.isSome_iff_exists.1 hp
   have:=(S.obj p ds hds).2.1
   rw[e,hrole]at this
   cases this
  by_cases e1:o=σ.no<;>by_cases e2:o'=σ.no
  ·omega
  ·intro hh;subst e1;rw[blk0,blk o' e2]at hh;exact absurd hh.symm (no' o' (key o' h' e2))
  ·intro hh;subst e2;rw[blk0,blk o e1]at hh;exact absurd hh (no' o (key o h e1))
  ·intro hh;rw[blk o e1,blk o' e2]at hh;exact S.inj o o' (key o h e1) (key o' h' e2) hh
theorem ACalls.own{P:Program}{G:Env}{k:FuncId}{args:List AV}{σ:AS}{R:Out→AS→Prop}{f fo j sz:Nat}{b:Bool}{cs xs:List AV}
  (ha:σ.F f=.alive) (ho:σ.objs fo=some cs) (hj:cs[j]?=some (.sl (.fam f b) sz xs)) (h:ACalls P G k args (σ.own f fo (cs.set j (.slm σ.no 0 sz xs.length)) (zy xs)) R):ACalls P G k args σ R:=by
 intro M w cargs S g c
 obtain⟨B,off,S'⟩:=S.own ha ho hj
 have E:=zhd (M:=M) (w:=w) (B:=B) (off:=off) ha
 refine(h _ w cargs S' (g.mono E) (c.mono' E)).mono fun e w' ⟨o,σ',M',h1,h2,h3,h4⟩=>⟨o,σ',M',h1,h2,h3,E.trans h4⟩
theorem zls{P:Program}{G:Env}(hm:P.follows .mixedOrders=true){fn:Func}{z:Code}{qid t:Nat}{qops:Array Oper}{o0 o1:Oper}{capsA:Array Operand}{pz:PC}{R:Out→AS→Prop}
  (hqops:qops.toList=[o0,o1]) (hz:zcH fn.ntmps z=some pz)
  {k:FuncId} {fk:Func} {rid d0 d1:Nat} {ops:Array Oper} {r0 r1:Oper} {y:Code} {py:PC}
  (m0:o0.op=.makeFunc (.func k) #[] capsA) (m0d:o0.dst=some t) (m0g:o0.guard=none) (m1:o1.op=.defer ⟨.value (.tmp t),#[],#[]⟩) (m1d:o1.dst=none) (m1g:o1.guard=none) (ht:t<fn.ntmps)
  (hk:P.funcs[k]?=some fk) (hck:za P k=true) (hbk:fk.body=some (.seq (.region rid ops false) y)) (hops:ops.toList=[r0,r1])
  (h0:r0.op=.call ⟨.builtin .recover,#[],#[]⟩) (h0d:r0.dst=some d0) (h0g:r0.guard=none) (h1:r1.op=.assign (.tmp d0)) (h1d:r1.dst=some d1) (h1g:r1.guard=none) (hres:fk.results=#[]) (hpy:zcH fk.ntmps y=some py) (hd0:d0<fk.ntmps) (hd1:d1<fk.ntmps) (hcl:capsA.size≤fk.ntmps)
  {M:Mp} {F:Nat→FSt} {w:World} {M1:Mp} {σ1:AS} {w1:World} {a1:Nat→AV} {ac1:Act} (S1:Sim M1 σ1 w1) (g1:GOk P G M1 σ1.F w1) (E1:Ext M F w M1 σ1.F w1) (f1:Fr M1 σ1.F w1 a1 ac1 fn.ntmps) (hD1:ac1.defers=[])
  (q:avc P G fn.ntmps pz (aq (zax P G fk.ntmps py d0 d1 (capsA.toList.map (ev G a1)) fn.results.toList R)) (upd a1 t (.fn (.func k) [] (capsA.toList.map (ev G a1)))) σ1) :
  (Code.seq (.region qid qops false) z).wp P (bodyPostD P fn (zsF R M F w)) ac1 w1:=by
 -- the closure is made and deferred
 have hC:Cells M1 σ1.F w1 (capsA.toList.map (ev G a1)) (capsA.map ac1.eval):=by
  refine Cells.of (by simp) fun j h h'=>?_
  simp only[yak,ya1,yal]
  exact zld g1 f1 _
 have hfv:VR M1 σ1.F w1 (.fn (.func k) [] (capsA.toList.map (ev G a1))) (.func (.func k) #[] (capsA.map ac1.eval)) :=
  .fn _ _ _ _ _ rfl hC.1 (fun j h=>absurd h (yaA _)) hC.get
 have f2:=f1.put (d:=some t) (by simpa [zir]using ht) hfv
 have run0:(execOp ac1.eval o0).run P w1=.ok (.value (.func (.func k) #[] (capsA.map ac1.eval))) w1:=by
  unfold execOp;rw[m0]
  simp[Instr.makeFunc]
 have run1:(execOp (ac1.put (some t) (.func (.func k) #[] (capsA.map ac1.eval))).eval o1).run P w1=.ok (.defer ⟨.fn (.func k) (capsA.map ac1.eval),#[]⟩) w1:=by
  have e:(ac1.put (some t) (.func (.func k) #[] (capsA.map ac1.eval))).eval (.tmp t)=.func (.func k) #[] (capsA.map ac1.eval):=by
   simp only[Act.eval,Act.put]
   rw[ybz,ybZ,if_pos rfl,if_pos (by have:=f1.size;omega)]
   rfl
  unfold execOp;rw[m1]
  simp[resolve,e,Deferred.ofValue]
 have want0:∀y,Region.wanted o0 y=true:=fun y=>by simp[Region.wanted,m0g]
 have want1:∀y,Region.wanted o1 y=true:=fun y=>by simp[Region.wanted,m1g]
 have step:∀Q:Exit→Act→World→Prop,Q .normal { ac1.put (some t) (.func (.func k) #[] (capsA.map ac1.eval))with defers:=[⟨.fn (.func k) (capsA.map ac1.eval),#[]⟩] } w1→(Code.region qid qops false).wp P Q ac1 w1:=by
  intro Q hQ
  refine(wpIn_wide (n:=0)).1 (wpIn_region_list ?_)
  rw[hqops]
  unfold wpListIn
  rw[if_pos (want0 _)]
  refine⟨fun _ _=>trivial,?_⟩
  rw[show(o0.semAt Fence.wide.round ac1.eval)=execOp ac1.eval o0 from rfl,run0,Oper.uponIn_value,m0d]
  unfold wpListIn
  rw[if_pos (want1 _)]
  refine⟨fun _ _=>trivial,?_⟩
  rw[show(o1.semAt Fence.wide.round (ac1.put (some t) (.func (.func k) #[] (capsA.map ac1.eval))).eval)=execOp (ac1.put (some t) (.func (.func k) #[] (capsA.map ac1.eval))).eval o1 from rfl,run1,Oper.uponIn_defer,m1d,zaI,hD1]
  exact hQ
 refine wp_seq (step _ ?_)
 have f2':Fr M1 σ1.F w1 (upd a1 t (.fn (.func k) [] (capsA.toList.map (ev G a1)))) { ac1.put (some t) (.func (.func k) #[] (capsA.map ac1.eval))with defers:=[⟨.fn (.func k) (capsA.map ac1.eval),#[]⟩] } fn.ntmps:=⟨f2.size,f2.val⟩
 refine wp_mono ((wpIn_wide (n:=0)).1 (zai hm z pz hz _ _ σ1 q none [⟨.fn (.func k) (capsA.map ac1.eval),#[]⟩] M1 σ1.F w1 M1 w1 _ S1 g1 (.refl ..) f2' rfl)) fun e ac3 w3 hq3=>?_
 obtain⟨e3,a3,σ3,M3,q3,r3,S3,g3,E3,f3,hD3⟩:=hq3
 have hinv:∀w,(invoke (.fn (.func k) (capsA.map ac1.eval)) #[]).run P w=.ok (.enter k (#[]++capsA.map ac1.eval)) w:=fun w=>zhu hck w
 have hC3:=Cells.mono' hC E3
 have hcl':(capsA.toList.map (ev G a1)).length≤fk.ntmps:=by simpa using hcl
 cases e3 with
 | exit i=>exact q3.elim
 | normal =>
  cases e<;>simp only[zdl]at r3
  simp only[bodyPostD,hD3]
  exact leaves_cons (by simp) (hinv w3) (CallsD.mono (za4 hm hk hbk hops h0 h0d h0g h1 h1d h1g hres hpy hd0 hd1 (pw:=none) (E1.trans E3) S3 g3 f3 hC3 hcl' .nilif q3) fun e u' w' h=>by cases e<;>exact h)
 | ret =>
  cases e<;>simp only[zdl]at r3
  simp only[bodyPostD,hD3]
  exact leaves_cons (by simp) (hinv w3) (CallsD.mono (za4 hm hk hbk hops h0 h0d h0g h1 h1d h1g hres hpy hd0 hd1 (pw:=none) (E1.trans E3) S3 g3 f3 hC3 hcl' .nilif q3) fun e u' w' h=>by cases e<;>exact h)
 | panic v =>
  cases e<;>simp only[zdl]at r3
  obtain⟨v',rfl,hv⟩:=r3
  simp only[bodyPostD,hD3]
  exact leaves_cons (by simp) (hinv w3) (CallsD.mono (za4 hm hk hbk hops h0 h0d h0g h1 h1d h1g hres hpy hd0 hd1 (pv:=some v) (pw:=some v') (E1.trans E3) S3 g3 f3 hC3 hcl' hv q3) fun e u' w' h=>by cases e<;>exact h)
theorem zhw{P:Program}{G:Env}(hm:P.follows .mixedOrders=true){f:FuncId}{fn:Func}{n:Nat}{x x2 z:Code}{qid t:Nat}{qops:Array Oper}{o0 o1:Oper}{capsA:Array Operand}{px px2 pz:PC}{res:List ResultVar}{args:List AV}{σ:AS}{R:Out→AS→Prop}
  (hf:P.funcs[f]?=some fn) (hnt:fn.ntmps=n) (hres':fn.results.toList=res) (hb:fn.body=some (.seq x (.seq x2 (.seq (.region qid qops false) z)))) (hqops:qops.toList=[o0,o1]) (hx:zcH n x=some px) (hx2:zcH n x2=some px2) (hz:zcH n z=some pz) (hn:args.length≤n)
  {k:FuncId} {fk:Func} {nk rid d0 d1:Nat} {ops:Array Oper} {r0 r1:Oper} {y:Code} {py:PC}
  (m0:o0.op=.makeFunc (.func k) #[] capsA) (m0d:o0.dst=some t) (m0g:o0.guard=none) (m1:o1.op=.defer ⟨.value (.tmp t),#[],#[]⟩) (m1d:o1.dst=none) (m1g:o1.guard=none) (ht:t<n)
  (hk:P.funcs[k]?=some fk) (hnk:fk.ntmps=nk) (hck:za P k=true) (hbk:fk.body=some (.seq (.region rid ops false) y)) (hops:ops.toList=[r0,r1])
  (h0:r0.op=.call ⟨.builtin .recover,#[],#[]⟩) (h0d:r0.dst=some d0) (h0g:r0.guard=none) (h1:r1.op=.assign (.tmp d0)) (h1d:r1.dst=some d1) (h1g:r1.guard=none) (hres:fk.results=#[]) (hpy:zcH nk y=some py) (hd0:d0<nk) (hd1:d1<nk) (hcl:capsA.size≤nk)
  (h:avc P G n px (zbd (avc P G n px2 (zbd (fun a σ=>avc P G n pz (aq (zax P G nk py d0 d1 (capsA.toList.map (ev G a)) res R)) (upd a t (.fn (.func k) [] (capsA.toList.map (ev G a)))) σ) fun _ _ _=>False)) fun _ _ _=>False) (zbq args) σ):ACalls P G f args σ R:=by
 subst hnt;subst hres';subst hnk
 intro M w cargs S g0 hc
 obtain⟨fr1,fr2⟩:=zd5 hc hn
 refine calls_of_wp_defers hf hb (wp_seq (wp_mono ((wpIn_wide (n:=0)).1 (zai hm x px hx _ _ σ h none [] M σ.F w M w { tmps:=_,defers:=[] } S g0 (.refl ..) ⟨fr1,fr2⟩ rfl)) fun e ac1 w1 hq=>?_))
 obtain⟨e',a1,σ1,M1,q,r,S1,g1,E1,f1,hD1⟩:=hq
 cases e' with
 | exit i=>exact q.elim
 | ret=>exact q.elim
 | panic v=>exact q.elim
 | normal =>
  cases e<;>simp only[zdl]at r
  refine wp_seq (wp_mono ((wpIn_wide (n:=0)).1 (zai hm x2 px2 hx2 _ _ σ1 q none [] M1 σ1.F w1 M1 w1 ac1 S1 g1 (.refl ..) f1 hD1)) fun e ac2 w2 hq2=>?_)
  obtain⟨e2,a2,σ2,M2,q2,r2,S2,g2,E2,f2,hD2⟩:=hq2
  cases e2 with
  | exit i=>exact q2.elim
  | ret=>exact q2.elim
  | panic v=>exact q2.elim
  | normal =>
   cases e<;>simp only[zdl]at r2
   exact zls hm hqops hz m0 m0d m0g m1 m1d m1g ht hk hck hbk hops h0 h0d h0g h1 h1d h1g hres hpy hd0 hd1 hcl S2 g2 (E1.trans E2) f2 hD2 q2
mutual
def mrg(f:Nat):AV→AV
 | .sl φ sz xs=>match φ with
  | .fam g b=>if g=f then .sl (.fam 0 b) sz (zsI f xs)else .sl (.fam g b) sz (zsI f xs)
  | .stat b=>.sl (.stat b) sz (zsI f xs)
 | .agg cs=>.agg (zsI f cs)
 | .tuple vs=>.tuple (zsI f vs)
 | .iface t v=>.iface t (mrg f v)
 | v=>v
def zsI(f:Nat):List AV→List AV
 | []=>[]
 | v::vs=>mrg f v::zsI f vs
end
theorem zeN(f:Nat):∀l,zsI f l=l.map (mrg f)
 | []=>by simp[zsI]
 | v::l=>by simp[zsI,zeN f l]
@[simp] theorem ziU(f g b sz xs):mrg f (.sl (.fam g b) sz xs)=.sl (if g=f then .fam 0 b else .fam g b) sz (xs.map (mrg f)):=by
 by_cases h:g=f<;>simp[mrg,zeN,h]
@[simp] theorem zhx(f b sz xs):mrg f (.sl (.stat b) sz xs)=.sl (.stat b) sz (xs.map (mrg f)):=by simp[mrg,zeN]
@[simp] theorem zwS(f cs):mrg f (.agg cs)=.agg (cs.map (mrg f)):=by simp[mrg,zeN]
@[simp] theorem zqh(f cs):mrg f (.tuple cs)=.tuple (cs.map (mrg f)):=by simp[mrg,zeN]
@[simp] theorem zqi(f t v):mrg f (.iface t v)=.iface t (mrg f v):=by simp[mrg]
@[simp] theorem zId(f k n):mrg f (.int k n)=.int k n:=by simp[mrg]
@[simp] theorem zF2(f b):mrg f (.bool b)=.bool b:=by simp[mrg]
@[simp] theorem zIe(f b):mrg f (.str b)=.str b:=by simp[mrg]
@[simp] theorem zBG(f):mrg f .nilsl=.nilsl:=by simp[mrg]
@[simp] theorem zF3(f):mrg f .nilp=.nilp:=by simp[mrg]
@[simp] theorem zBH(f):mrg f .nilif=.nilif:=by simp[mrg]
@[simp] theorem zIf(f o i):mrg f (.ptr o i)=.ptr o i:=by simp[mrg]
theorem zgy(f:Nat)(v:AV):(mrg f v).cells.length=v.cells.length:=by
 cases v with
 | agg cs=>simp[mrg,zeN]
 | sl φ sz xs=>cases φ<;>simp[mrg];split<;>simp
 | _=>simp[mrg,AV.cells]
theorem zqj(f:Nat)(v:AV):(mrg f v).cells=v.cells.map (mrg f):=by
 cases v with
 | agg cs=>simp[mrg,zeN]
 | sl φ sz xs=>cases φ<;>simp[mrg];split<;>simp
 | _=>simp[mrg,AV.cells]
theorem zjP(f:Nat)(l:List AV):zy (l.map (mrg f))=(zy l).map (mrg f):=by
 simp[zy,yb5,yb6,zqj]
open Classical in
noncomputable def Mp.mrg(M:Mp)(f:Nat):Mp:={ M with role:=fun B=>if M.role B=some (.fam f)then some (.fam 0)else M.role B }
def zlt(F:Nat→FSt)(f:Nat):Nat→FSt:=upd F f .dead
theorem zmI{M:Mp}{F:Nat→FSt}{w:World}{f:Nat}(h:F f=.alive):Ext M F w (M.mrg f) (zlt F f) w where
 io:=.refl _
 no:=yah _
 nf:=yah _
 obj _ _:=rfl
 dead g _ hd:=by simp only[zlt,zeu];split<;>simp_all
 spoil g _ hs:=by simp only[zlt,zeu];split<;>simp_all
 size:=yah _
 shape _ _ _ _ h:=.same h rfl
 stat B _ hB:=⟨by simp[Mp.mrg,hB],.inl rfl⟩
 free B _ hB:=⟨by simp[Mp.mrg,hB],rfl⟩
 famr B g _ hB hd:=by
  have hg:g≠f:=by intro e;subst e;simp[zlt]at hd
  exact(if_neg (by rw[hB];simpa using hg)).trans hB
 famc _ _ _ _ _:=rfl
theorem VR.mrg{M:Mp}{F:Nat→FSt}{w:World}{f:Nat}(hn:0<M.nf)(ha:F f=.alive){v:AV}{c:Value}(h:VR M F w v c):VR (M.mrg f) (zlt F f) w (mrg f v) c:=by
 have E:=zmI (M:=M) (w:=w) ha
 induction h with
 | slz b sz a=>rw[zhx];exact .slz b sz a
 | sl φ sz xs B off cap cs hcap hlit hsz hm hc hv ih =>
  have hrd:zm (zlt F f) φ→zm F φ:=fun h=>(hm.readable E h).1
  have hl:(xs.map (Go.Abs.mrg f)).length=xs.length:=by simp
  have key:∀φ':Own,φ'.full=φ.full→Mem (M.mrg f) (zlt F f) w φ' B off (cap*sz)→(zm (zlt F f) φ'→zm F φ) →
    VR (M.mrg f) (zlt F f) w (.sl φ' sz (xs.map (Go.Abs.mrg f))) (.slice (some ⟨B,off,none⟩) xs.length cap):=by
   intro φ' hfull hm' hr'
   have:=VR.sl (M:=M.mrg f) (F:=zlt F f) (w:=w) φ' sz (xs.map (Go.Abs.mrg f)) B off cap cs (by simpa using hcap) (fun h=>by rw[hl];exact hlit (by rw[←hfull];exact h))
    (fun x hx=>by simp at hx;obtain⟨y,hy,rfl⟩:=hx;rw[zgy];exact hsz y hy) hm' (fun hr j hj=>hc (hr' hr) j (by rw[zjP]at hj;simpa using hj))
    (fun hr j hj=>by
     have hj':j<(zy xs).length:=by rw[zjP]at hj;simpa using hj
     have:=ih (hr' hr) j hj'
     simp only[zjP,yak]
     exact this)
   rw[hl]at this
   exact this
  cases φ with
  | stat b=>rw[zhx];exact key _ rfl (hm.mono E) hrd
  | fam g b =>
   rw[ziU]
   by_cases hg:g=f
   ·subst hg
    rw[if_pos rfl]
    refine key _ rfl ?_ (fun _=>ha)
    obtain⟨m1,m2⟩:=hm.2 (by rw[ha];simp)
    exact⟨hn,fun _=>⟨by simp[Mp.mrg,m1],m2⟩⟩
   ·rw[if_neg hg];exact key _ rfl (hm.mono E) hrd
 | agg cs A hA va ih=>rw[zwS];exact .agg _ _ (by simpa using hA) (fun j h h'=>by simpa using ih j (by simpa using h) h')
 | tuple cs A hA va ih=>rw[zqh];exact .tuple _ _ (by simpa using hA) (fun j h h'=>by simpa using ih j (by simpa using h) h')
 | iface t v c h ih=>rw[zqi];exact .iface t _ _ ih
 | undef c=>simpa [Go.Abs.mrg]using VR.undef c
 | bool b=>simpa using VR.bool b
 | int k n=>simpa using VR.int k n
 | str s=>simpa using VR.str s
 | nilp=>simpa using VR.nilp
 | nilsl=>simpa using VR.nilsl
 | nilfn=>simpa [Go.Abs.mrg]using VR.nilfn
 | nilif=>simpa using VR.nilif
 | ptr o off h=>simpa using (VR.ptr (M:=M) (F:=F) (w:=w) o off h).mono E
 | pv φ v B off cs hm hc hv _=>simpa [Go.Abs.mrg]using (VR.pv φ v B off cs hm hc hv).mono E
 | mp ks vs b es c h1 h2 h3=>simpa [Go.Abs.mrg]using (VR.mp (M:=M) (F:=F) (w:=w) ks vs b es c h1 h2 h3).mono E
 | itr g ks vs zcB B h1 h2 h3=>simpa [Go.Abs.mrg]using (VR.itr (M:=M) (F:=F) (w:=w) g ks vs zcB B h1 h2 h3).mono E
 | mpo g ks vs B h1 h2 h3=>simpa [Go.Abs.mrg]using (VR.mpo (M:=M) (F:=F) (w:=w) g ks vs B h1 h2 h3).mono E
 | lit bs B e z h1 h2 h3=>simpa [Go.Abs.mrg]using (VR.lit (M:=M) (F:=F) (w:=w) bs B e z h1 h2 h3).mono E
 | sit g bs pos B h1 h2 h3=>simpa [Go.Abs.mrg]using (VR.sit (M:=M) (F:=F) (w:=w) g bs pos B h1 h2 h3).mono E
 | tys e v c h ht _=>simpa [Go.Abs.mrg]using (VR.tys e v c h ht).mono E
 | tyd e v a n cap h ht _=>simpa [Go.Abs.mrg]using (VR.tyd e v a n cap h ht).mono E
 | pt t n o off h h1 h2=>simpa [Go.Abs.mrg]using (VR.pt (M:=M) (F:=F) (w:=w) t n o off h h1 h2).mono E
 | slm o off sz len cap h hcap hr=>simpa [Go.Abs.mrg]using (VR.slm (M:=M) (F:=F) (w:=w) o off sz len cap h hcap hr).mono E
 | fn g first cap A B ha hb va vb _ _=>simpa [Go.Abs.mrg]using (VR.fn g first cap A B ha hb va vb).mono E
def AS.mrg(σ:AS)(f:Nat)(p:Nat→Bool):AS :=
 { σ with F:=zlt σ.F f,objs:=fun o=>if p o then(σ.objs o).map (List.map (Go.Abs.mrg f))else σ.objs o }
theorem Sim.mrg{M:Mp}{σ:AS}{w:World}{f:Nat}{p:Nat→Bool}(S:Sim M σ w)(hn:0<σ.nf)(ha:σ.F f=.alive):Sim (M.mrg f) (σ.mrg f p) w where
 no:=S.no
 nf:=S.nf
 role B r h:=by
  simp only[Mp.mrg]at h
  split at h
  ·rename_i h1;exact S.role B _ h1
  ·exact S.role B r h
 obj o cs h:=by
  have E:=zmI (M:=M) (w:=w) ha
  simp only[AS.mrg]at h
  have fin:∀cs0,σ.objs o=some cs0→cs.length=cs0.length→(∀j (h:j<cs.length) (h':j<cs0.length),∀c,VR M σ.F w cs0[j] c→VR (M.mrg f) (zlt σ.F f) w cs[j] c)→_:=fun cs0 h0 hl hk=>by
   obtain⟨h1,h2,h3⟩:=S.obj o cs0 h0
   refine(⟨h1,?_,fun j hj=>?_⟩:o<(σ.mrg f p).no∧(M.mrg f).role ((M.mrg f).obj o).1=some .obj∧∀j (h:j<cs.length),∃c,w.cell? ⟨((M.mrg f).obj o).1,((M.mrg f).obj o).2+j,none⟩=some c∧w.frozen? ⟨((M.mrg f).obj o).1,((M.mrg f).obj o).2+j,none⟩=false∧VR (M.mrg f) (σ.mrg f p).F w cs[j] c)
   ·simp[Mp.mrg,h2]
   ·obtain⟨c,a,b,d⟩:=h3 j (by omega)
    exact⟨c,a,b,hk j hj (by omega) c d⟩
  split at h
  ·cases h0:σ.objs o with
   | none=>rw[h0]at h;simp at h
   | some cs0 =>
    rw[h0]at h;simp at h;subst h
    exact fin cs0 h0 (by simp) (fun j hj hj' c hc=>by simpa using hc.mrg (by rw[S.nf];exact hn) ha)
  ·exact fin cs h rfl (fun j hj hj' c hc=>hc.mono E)
 inj o o' h h':=by
  refine S.inj o o' ?_ ?_
  ·simp only[AS.mrg]at h;split at h<;>simpa using h
  ·simp only[AS.mrg]at h';split at h'<;>simpa using h'
theorem zwT{P:Program}{G:Env}{f:FuncId}{args:List AV}{σ:AS}{R:Out→AS→Prop}
  (h:ACalls P G f args σ fun o σ'=>R o σ'∨∃v g p,o=.ret v∧0<σ'.nf∧σ'.F g=.alive∧R (.ret (mrg g v)) (σ'.mrg g p)):ACalls P G f args σ R:=by
 intro M w cargs S g c
 refine(h M w cargs S g c).mono fun e w' ⟨o,σ',M',hR,h2,h3,h4⟩=>?_
 rcases hR with hR|⟨v,k,p,ho,hn,ha,hR⟩
 ·exact⟨o,σ',M',hR,h2,h3,h4⟩
 subst ho
 refine⟨_,_,M'.mrg k,hR,?_,h3.mrg hn ha,h4.trans (zmI ha)⟩
 cases e<;>simp only[zbV]at h2 ⊢
 exact h2.mrg (by rw[h3.nf];exact hn) ha
theorem ACalls.newF{P:Program}{G:Env}{f:FuncId}{args:List AV}{σ:AS}{R:Out→AS→Prop}(h:ACalls P G f args σ.newF R):ACalls P G f args σ R:=by
 intro M w cargs S g c
 have E:Ext M σ.F w { M with nf:=M.nf+1 } σ.newF.F w:={
  io:=.refl _
  no:=yah _
  nf:=Nat.le_succ _
  obj:=fun _ _=>rfl
  dead:=fun k hk hd=>by simp only[AS.newF,zeu];rw[if_neg (by have:=S.nf;omega)];exact hd
  spoil:=fun k hk hs=>by simp only[AS.newF,zeu];rw[if_neg (by have:=S.nf;omega),hs];simp
  size:=yah _
  shape:=fun _ _ _ _ h=>.same h rfl
  stat:=fun _ _ h=>⟨h,.inl rfl⟩
  free:=fun _ _ h=>⟨h,rfl⟩
  famr:=fun _ _ _ h _=>h
  famc:=fun _ _ _ _ _=>rfl }
 have S':Sim { M with nf:=M.nf+1 } σ.newF w:=by
  refine⟨S.no,by simp[AS.newF,S.nf],S.role,fun o cs ho=>?_,S.inj⟩
  obtain⟨h1,h2,h3⟩:=S.obj o cs ho
  exact⟨h1,h2,fun j hj=>let ⟨c,a,b,d⟩:=h3 j hj;⟨c,a,b,d.mono E⟩⟩
 refine(h _ w cargs S' (g.mono E) (c.mono' E)).mono fun e w' ⟨o,σ',M',h1,h2,h3,h4⟩=>⟨o,σ',M',h1,h2,h3,E.trans h4⟩
end Go.Abs
namespace Go.Abs
open Go
section
variable (σ : AS)
@[simp] theorem zJD(f fo:Nat)(cs xs:List AV):(σ.own f fo cs xs).nf=σ.nf:=Eq.trans rfl rfl
end
section
variable {P : Program} {G : Env} {a : Nat → AV} {σ : AS} {K : (Nat → AV) → AS → Prop} {Q : AQ} {d : Option Nat}
@[congr] theorem zsJ{dd:Prop}(_:blk=dd){t:TypeId}{m m' k k':AV}{ok:Bool}{K:AV→Prop}(h:m=m')(h2:k=k'):zbs P t m k ok K=zbs P t m' k' ok K:=by rw[h,h2]
@[congr] theorem zvJ{dd:Prop}(_:blk=dd){t:TypeId}{x x':AV}{σ σ':AS}{K:AV→AS→Prop}(h:x=x')(h2:σ=σ'):zk5 P t x σ K=zk5 P t x' σ' K:=by rw[h,h2]
@[congr] theorem zvK{dd:Prop}(_:blk=dd){x x':AV}{σ σ':AS}{K:AV→Prop}(h:x=x')(h2:σ=σ'):zk7 x σ K=zk7 x' σ' K:=by rw[h,h2]
@[congr] theorem zwU{dd:Prop}(_:blk=dd){x x':AV}{σ σ':AS}{K:AV→AV→AS→Prop}(h:x=x')(h2:σ=σ'):zoM x σ K=zoM x' σ' K:=by rw[h,h2]
@[congr] theorem zr5{dd:Prop}(_:blk=dd){t:TypeId}{m m' k k':AV}{ok:Bool}{σ σ':AS}{K:AV→Prop}(h:m=m')(h2:k=k')(h3:σ=σ'):zcW P t m k ok σ K=zcW P t m' k' ok σ' K:=by rw[h,h2,h3]
@[simp] theorem zvL(t f ks vs k ok)(K:AV→Prop):zcW P t (.mpo f ks vs) k ok σ K=(σ.F f=.alive∧zbs P t (.mp ks vs) k ok K):=Eq.trans rfl rfl
@[simp] theorem zvM(t r):zbD P G (.makeMap t r) d a σ K Q=zd4 (r.map (ev G a)) σ fun v σ'=>K (put a d v) σ':=Eq.trans rfl rfl
theorem zjQ{K:AV→AS→Prop}:zd4 none σ K=K (.mpo σ.nf [] []) σ.newF:=by simp[zd4]
@[congr] theorem zsK{dd:Prop}(_:blk=dd){t:TypeId}{m m' k k' v v':AV}{σ σ':AS}{K:AV→AS→Prop}(h:m=m')(h1:k=k')(h2:v=v')(h3:σ=σ'):zcy P t m k v σ K=zcy P t m' k' v' σ' K:=by rw[h,h1,h2,h3]
@[simp] theorem zwV(t x k v):zbD P G (.insert t (.tmp x) k v) d a σ K Q=zcy P t (a x) (ev G a k) (ev G a v) σ fun m σ'=>K (put (upd a x m) d (.tuple [])) σ':=Eq.trans rfl rfl
@[simp] theorem zwW(t m k ok):zbD P G (.lookup t m k ok) d a σ K Q=zcW P t (ev G a m) (ev G a k) ok σ fun v=>K (put a d v) σ:=Eq.trans rfl rfl
@[congr] theorem zvN{dd:Prop}(_:blk=dd){x x':AV}{σ σ':AS}{K:AV→AV→AS→Prop}(h:x=x')(h2:σ=σ'):zk9 x σ K=zk9 x' σ' K:=by rw[h,h2]
end
@[congr] theorem zwX{P:Program}{dd:Prop}(_:blk=dd){t:TypeId}{x x' y y':AV}{σ σ':AS}{K:AV→AS→Prop}(h:x=x')(h1:y=y')(h2:σ=σ'):zpR P t x y σ K=zpR P t x' y' σ' K:=by rw[h,h1,h2]
@[congr] theorem zsL{dd:Prop}(_:blk=dd){o off len:Nat}{ys ys':List AV}{σ σ':AS}{K:AV→AS→Prop}(h:ys=ys')(h2:σ=σ'):zhj o off len ys σ K=zhj o off len ys' σ' K:=by rw[h,h2]
@[simp] theorem zJE(ks vs):(AV.mp ks vs).one=true:=rfl
@[simp] theorem zF4(ks vs):(AV.mp ks vs).cells=[AV.mp ks vs]:=rfl
@[simp] theorem zF5(ks vs):(AV.mp ks vs).known=true:=rfl
@[simp] theorem zIg(f ks vs s):(AV.itr f ks vs s).one=true:=rfl
@[simp] theorem zBI(f ks vs s):(AV.itr f ks vs s).known=true:=rfl
@[simp] theorem zIh(f ks vs):(AV.mpo f ks vs).one=true:=rfl
@[simp] theorem zBJ(f ks vs):(AV.mpo f ks vs).known=true:=rfl
section
variable (σ : AS)
end
inductive Still:AV→Prop
 | undef:Still .undef
 | bool (b:Bool):Still (.bool b)
 | int (k:IntKind) (n:Int):Still (.int k n)
 | str (s:List UInt8):Still (.str s)
 | nilp:Still .nilp
 | nilsl:Still .nilsl
 | nilfn:Still .nilfn
 | nilif:Still .nilif
 | pv (b:Bool) (v:AV) (h:∀c∈v.cells,Still c):Still (.pv (.stat b) v)
 | sl (b:Bool) (sz:Nat) (xs:List AV) (h:∀c∈zy xs,Still c):Still (.sl (.stat b) sz xs)
 | agg (cs:List AV) (h:∀c∈cs,Still c):Still (.agg cs)
 | mp (ks vs:List AV):Still (.mp ks vs)
def Mp.calm(M:Mp)(nf:Nat):Mp where
 role B:=match M.role B with
  | some (.st m)=>some (.st m)
  | some _=>some .stat
  | none=>none
 obj:=M.obj
 no:=0
 nf:=nf
def AS.bare:AS:={ objs:=fun _=>none,no:=0,F:=fun _=>.alive,nf:=1 }
theorem zjR{M:Mp}{nf B m}(h:M.role B=some (.st m)):(M.calm nf).role B=some (.st m):=by
 simp[Mp.calm,h]
theorem zd6{M:Mp}{nf B}{r:Role}(h:M.role B=some r)(hr:∀m,r≠.st m):(M.calm nf).role B=some .stat:=by
 cases r with
 | st m=>exact absurd rfl (hr m)
 | fam f=>simp[Mp.calm,h]
 | obj=>simp[Mp.calm,h]
theorem Sim.calm{M:Mp}{σ:AS}{w:World}(S:Sim M σ w):Sim (M.calm 1) AS.bare w where
 no:=rfl
 nf:=rfl
 role B r h:=by
  cases hq:M.role B with
  | none=>simp[Mp.calm,hq]at h
  | some r'=>exact S.role B r' hq
 obj o cs h:=by cases h
 inj o o' h:=by cases h
theorem Ext.calm{M M':Mp}{σ:AS}{w w':World}{F':Nat→FSt}(S:Sim M σ w)(E:Ext (M.calm 1) AS.bare.F w M' F' w'):Ext M σ.F w M σ.F w' where
 io:=E.io
 no:=yah _
 nf:=yah _
 obj _ _:=rfl
 dead _ _ h:=h
 spoil _ _ h:=by rw[h];simp
 size:=E.size
 shape B c e z h:=by
  obtain⟨c',z',h1,h2,h3⟩:=E.shape B c e z h
  refine⟨c',z',h1,h2,fun hn=>?_⟩
  have hq:w'.heap[B]?=w.heap[B]?:=by
   cases hr:M.role B with
   | none=>exact(E.free B (yaU.1 h).1 (by simp[Mp.calm,hr])).2
   | some r=>exact(E.stat B false (zd6 hr (fun m q=>hn m (by rw[hr,q])))).2.exact
  rw[hq,h]at h1
  cases h1
  exact fun _ _ q=>q
 stat B m h:=⟨h,(E.stat B m (zjR h)).2⟩
 free B hB h:=⟨h,(E.free B hB (by simp[Mp.calm,h])).2⟩
 famr _ _ _ h _:=h
 famc B f _ h _:=(E.stat B false (zd6 h (fun m q=>by cases q))).2.exact
theorem Sim.calmed{M M':Mp}{σ:AS}{w w':World}{F':Nat→FSt}(S:Sim M σ w)(E:Ext (M.calm 1) AS.bare.F w M' F' w'):Sim M σ w' where
 no:=S.no
 nf:=S.nf
 role B r h:=yag (S.role B r h) E.size
 obj o cs h:=by
  obtain⟨h1,h2,h3⟩:=S.obj o cs h
  have hq:w'.heap[(M.obj o).1]?=w.heap[(M.obj o).1]?:=(E.stat _ false (zd6 h2 (fun m q=>by cases q))).2.exact
  refine⟨h1,h2,fun j hj=>?_⟩
  obtain⟨c,a,b,d⟩:=h3 j hj
  exact⟨c,by rw[zp hq,a],by rw[zq hq,b],d.mono (Ext.calm S E)⟩
 inj:=S.inj
end Go.Abs
