/- Parts of the proof of the row WatBack: loops, calls and stepping rules of the abstract layer; no condition. -/
import Derived.Test.YtohfclafhegadaaGreatDoorAbsA
import Derived.LoopNIn
import Derived.OrdersIn
import Derived.TacticsIn
import Derived.RangeFuncCalls
import Derived.Below
import Derived.RangeFuncLeaves
import Derived.Recover
set_option linter.unusedSimpArgs false
set_option linter.unusedVariables false
open List renaming mem_cons->ybD,any_cons->ybE,range->ya7,foldl_cons->ybF,all_eq_true->yaM,filter_cons_of_pos->ybH,filter_cons_of_neg->ybI,append_of_mem->ybK,mem_append->ybh,nodup_append->ybL,eq_nil_or_concat->ybM,append_inj'->ybN,filter_append->ybO,mem_filter->ybP,filter_congr->ybQ,nodup_cons->ybR,filter_eq_self->ybS,length_eq_zero_iff->ybT,filter_eq_nil_iff->ybU,eq_nil_iff_forall_not_mem->ybV,elem_eq_contains->ybW,mapM_cons->yb1,getElem?_eq_getElem->yau,getElem?_eq_none->yb3,replicate->yaj,flatMap_map->yb6,map_flatMap->yb7,getElem_map->yak,append_nil->yb8
open Nat renaming not_lt_zero->yaA,testBit_or->ybG,strongRecOn->ybJ,le_refl->yah,lt_of_lt_of_le->yag
open Option renaming some->yaR,bind_eq_some_iff->ybB,map_eq_some_iff->ybC,map_some->yaG
open Array renaming getD->ybz,getD_eq_getD_getElem?->ybA,getElem?_setIfInBounds_ne->yaJ,getElem?_eq_some_iff->yaU,getElem?_eq_getElem->yar,replicate->ybX,getElem?_replicate->ybY,mem_push->ybZ,getElem?_setIfInBounds->yb0,size_append->ybg,size_replicate->yb2,getElem?_append_left->ybi,getElem?_append_right->ybj,mapM_eq_mapM_toList->yb4,getElem?_push->yaS,getElem?_toList->yb9,getElem_map->ya1,getElem_toList->yal
open Go.IntKind renaming wrap->yb5
namespace Go.Abs
open Go
def zaI(r:Option Nat):Fence:={ Fence.wide with round:=r }
theorem zgn(r:Option Nat):(zaI r).depth=none:=rfl
theorem ziQ{r:Option Nat}{n:Nat}{P:Program}{f:FuncId}{args:Array Value}{w:World}{R:Ending->World->Prop}(h:Calls P f args w R):CallsIn (zaI r) n P f args w R:=by
 have h1:CallsIn Fence.wide n P f args w R:=callsIn_wide.2 h
 cases r with
 | none=>exact h1
 | some l=>exact CallsIn.inRound l h1
theorem ziR{r:Option Nat}{n:Nat}{P:Program}{l:Nat}{f:FuncId}{tmps:Array Value}{assign body:Code}{w:World}{R:Ending->World->Prop}(h:RoundIn Fence.wide n P l f tmps assign body w R):RoundIn (zaI r) n P l f tmps assign body w R:=h
inductive AExit where
 | normal
 | exit (id:Nat)
 | ret
 | panic (v:AV)
abbrev AQ:=AExit->(Nat->AV)->AS->Prop
def zfi:Nat->AV:=λ_=>.undef
structure AG where
 g:Option (Nat × Bool)
 t:TypeId
 x:Operand
 d:Nat
structure PO where
 dst:Option Nat
 op:Op
 guard:Option (Nat × Bool):=none
 again:List AG:=[]
def zbt(a:Nat->AV)(g:Option (Nat × Bool))(yes no:Prop):Prop :=
 match g with
 | none=>yes
 | some (d,want) =>
  match a d with
  | .bool b=>(b=want->yes)/\(b≠want->no)
  | .tuple []=>no
  | _=>False
def zb0:Op->Option Nat
 | .next (.tmp x) _=>some x
 | .insert _ (.tmp x) _ _=>some x
 | _=>none
def zsw(P:Program)(G:Env)(op:Op)(a:Nat->AV)(x:Nat)(J:AS)(K:AV->AV->AS->Prop):Prop :=
 match op with
 | .next _ false=>zp8 (a x) J K
 | .next _ true=>zhC (a x) J K
 | .insert t _ k v=>zcA P t (a x) (ev G a k) (ev G a v) J λm J'=>K m (.tuple []) J'
 | _=>False
def zby(P:Program)(G:Env)(op:Op)(dst:Option Nat)(a:Nat->AV)(J:AS)(K:(Nat->AV)->AS->Prop)(Q:AQ):Prop :=
 match zb0 op with
 | some x=>zsw P G op a x J λv2 v J'=>K (put (upd a x v2) dst v) J'
 | none =>
  if zcq op then zbM P (ev G a) op λv=>K (put a dst v) J
  else zve P G (ev G a) J (λv J'=>K (put a dst v) J') (λv J'=>Q (.panic v) zfi J') op
def zeG(P:Program)(G:Env)(a:Nat->AV)(J:AS):List AG->Prop
 | []=>True
 | g::r=>zbt a g.g (zcH P g.t (ev G a g.x) J λv=>v=a g.d) True/\zeG P G a J r
def zfd(P:Program)(G:Env)(Q:AQ):List PO->(Nat->AV)->AS->Prop
 | [],a,J=>Q .normal a J
 | o::rest,a,J =>
  zbt a o.guard (zby P G o.op o.dst a J (λa' J'=>zeG P G a' J' o.again/\zfd P G Q rest a' J') Q) (zfd P G Q rest (put a o.dst (.tuple [])) J)
def zdn(l:List PO)(a:Nat->AV):Nat->AV:=λt=>if l.any (λo=>o.dst==some t)then .undef else a t
def zb1(pf:Nat->AV)(Q:AQ):AQ
 | .panic v,_,J=>Q (.panic v) pf J
 | e,a,J=>Q e a J
def zbi(K:(Nat->AV)->AS->Prop)(Q:AQ):AQ
 | .normal,a,J=>K a J
 | e,a,J=>Q e a J
def za6(id:Nat)(Q:AQ):AQ
 | .exit i,a,J=>if i=id then Q .normal a J else Q (.exit i) a J
 | e,a,J=>Q e a J
def ziS(n:Nat):Option Nat->Bool
 | some d=>decide (d<n)
 | none=>true
structure Fr(M:Mp)(F:Nat->FSt)(w:World)(a:Nat->AV)(ac:Act)(n:Nat):Prop where
 size:ac.tmps.size=n
 val:∀t,VR M F w (a t) (ac.tmps.getD t undef)
def zds(M:Mp)(F:Nat->FSt)(w:World):AExit->Exit->Prop
 | .normal,.normal=>True
 | .exit i,.exit j=>i=j
 | .ret,.ret=>True
 | .panic v,.panic ch=>∃v',ch=[{ v:=v',recovered:=false }]/\VR M F w v v'
 | _,_=>False
def QC(P:Program)(G:Env)(n:Nat)(D:List Deferred)(M0:Mp)(F0:Nat->FSt)(w0:World)(Q:AQ)(e:Exit)(ac:Act)(w:World):Prop :=
 ∃e' a J M,Q e' a J/\zds M J.F w e' e/\Sim M J w/\GOk P G M J.F w/\Ext M0 F0 w0 M J.F w/\Fr M J.F w a ac n/\ac.defers=D
def AWp(P:Program)(G:Env)(n:Nat)(c:Code)(Q:AQ)(a:Nat->AV)(J:AS):Prop :=
 ∀(ro:Option Nat) (D:List Deferred) (M0:Mp) (F0:Nat->FSt) (w0:World) (M:Mp) (w:World) (ac:Act),Sim M J w->GOk P G M J.F w->Ext M0 F0 w0 M J.F w->Fr M J.F w a ac n->ac.defers=D ->
  c.wpIn (zaI ro) 0 P (QC P G n D M0 F0 w0 Q) ac w
theorem zlq{P G M F w a ac n}(g:GOk P G M F w)(f:Fr M F w a ac n)(x:Operand):VR M F w (ev G a x) (ac.eval x):=by
 cases x with
 | tmp t=>exact f.val t
 | const v=>exact zbf ..
 | global i=>exact g.vars i
 | func i=>exact .fn _ _ _ _ _ rfl rfl (λj h=>absurd h (yaA _)) (λj h=>absurd h (yaA _))
theorem Fr.mono{M F w M' F' w' a ac n}(f:Fr M F w a ac n)(E:Ext M F w M' F' w'):Fr M' F' w' a ac n:=⟨f.size,λt=>(f.val t).mono E⟩
theorem Fr.put{M F w a ac n v v'}(f:Fr M F w a ac n){d:Option Tmp}(hd:ziS n d=true)(hv:VR M F w v v'):Fr M F w (put a d v) (ac.put d v') n:=by
 cases d with
 | none=>exact f
 | some d =>
  simp[ziS]at hd
  refine⟨by simp[Act.put,f.size],λt=>?_⟩
  simp only[Act.put,Abs.put,upd]
  by_cases h:t=d
  .subst h
   rw[if_pos rfl]
   rw[show(ac.tmps.setIfInBounds t v').getD t undef=v' by simp[ybz,f.size,hd]]
   exact hv
  .rw[if_neg h]
   rw[show(ac.tmps.setIfInBounds d v').getD t undef=ac.tmps.getD t undef by
    simp only[ybA];rw[yaJ (Ne.symm h)]]
   exact f.val t
theorem zgo{P G a J K Q}{op:Op}{d:Option Nat}(h:zby P G op d a J K Q):∀c,op≠.defer c:=by
 rintro c rfl
 simp[zby,zb0,zcq,zve]at h
theorem zlr{P:Program}{G:Env}{n:Nat}{o:Oper}{a:Nat->AV}{J:AS}{K:(Nat->AV)->AS->Prop}{Q:AQ}(hnx:zb0 o.op=none)(h:zby P G o.op o.dst a J K Q)
  {ro:Option Nat} {D:List Deferred} {M0 F0 w0 M w} {ac:Act} (S:Sim M J w) (g:GOk P G M J.F w) (E:Ext M0 F0 w0 M J.F w) (hops:∀x∈o.op.operands,VR M J.F w (ev G a x) (ac.eval x)) (hn:ac.tmps.size=n) (hD:ac.defers=D) {Kc:Act->World->Prop}
  (hK:∀v v' J' M' w',K (put a o.dst v) J'->VR M' J'.F w' v v'->Sim M' J' w'->GOk P G M' J'.F w'->Ext M J.F w M' J'.F w'->Kc (ac.put o.dst v') w') :
  o.wpIn (zaI ro) 0 P ac w Kc (QC P G n D M0 F0 w0 Q):=by
 refine⟨λ_ _=>trivial,?_⟩
 have hsem:o.semAt (zaI ro).round ac.eval=execOp ac.eval o:=o.semAt_eq _ _ (zgo h)
 rw[hsem]
 unfold zby at h
 rw[hnx]at h
 simp only at h
 split at h
 .obtain⟨v,hv,hq⟩:=zht h
  obtain⟨v',M',w',h1,h2,h3,h4⟩:=hq M J.F w ac.eval S.role hops
  rw[h1,Oper.uponIn_value]
  exact hK v v' J M' w' hv h2 (h4 J rfl S) (g.mono h3) h3
 .have hl:=zo0 h S g (ρ:=ac.eval) hops
  generalize (execOp ac.eval o).run P w=r at hl
  have done:∀v' w',zfR M J.F w (λv J'=>K (Abs.put a o.dst v) J') v' w'->Kc (ac.put o.dst v') w':=by
   rintro v' w' ⟨v,J',M',hv,h1,h2,h3⟩
   exact hK v v' J' M' w' hv h1 h2 (g.mono h3) h3
  have fell:∀v' w',zfR M J.F w (λv J'=>Q (.panic v) zfi J') v' w'->QC P G n D M0 F0 w0 Q (.panic [{ v:=v',recovered:=false }]) ac w':=by
   rintro v' w' ⟨v,J',M',hv,h1,h2,h3⟩
   exact⟨.panic v,zfi,J',M',hv,⟨v',rfl,h1⟩,h2,g.mono h3,E.trans h3,⟨hn,λ_=>.undef _⟩,hD⟩
  cases r with
  | ok x w' =>
   cases x<;>simp only[zwm]at hl<;>try exact hl.elim
   .exact done _ _ hl
   .exact done _ _ hl
   .obtain⟨rfl,hl⟩:=hl
    rw[Oper.uponIn_enter]
    refine⟨λh=>by simp[zgn]at h,(ziQ hl).mono λe w'' he=>?_⟩
    cases e with
    | returned v'=>exact done _ _ he
    | panicked ch =>
     obtain⟨v',rfl,hp⟩:=he
     exact fell _ _ hp
    | outgrown=>exact he.elim
   .obtain⟨rfl,hl⟩:=hl
    rw[Oper.uponIn_round]
    refine⟨λh=>by simp[zgn]at h,(ziR hl).mono λe w'' he=>?_⟩
    cases e with
    | returned v'=>exact done _ _ he
    | panicked ch =>
     obtain⟨v',rfl,hp⟩:=he
     exact fell _ _ hp
    | outgrown=>exact he.elim
  | halt x w' =>
   cases x<;>simp only[zwm]at hl<;>try exact hl.elim
   exact fell _ _ hl
theorem zaM(ac:Act)(d:Option Tmp)(v:Value):(ac.put d v).defers=ac.defers:=by unfold Act.put;split<;>rfl
theorem zo1{P:Program}{G:Env}{n:Nat}{o:Oper}{a:Nat->AV}{J:AS}{K:(Nat->AV)->AS->Prop}{Q:AQ}(h:zby P G o.op o.dst a J K Q)(hd:ziS n o.dst=true)
  {ro:Option Nat} {D:List Deferred} {M0 F0 w0 M w} {ac:Act} (S:Sim M J w) (g:GOk P G M J.F w) (E:Ext M0 F0 w0 M J.F w) (f:Fr M J.F w a ac n) (hD:ac.defers=D) {Kc:Act->World->Prop}
  (hK:∀a' J' M' ac' w',K a' J'->Sim M' J' w'->GOk P G M' J'.F w'->Ext M0 F0 w0 M' J'.F w'->Fr M' J'.F w' a' ac' n->ac'.defers=D->Kc ac' w') :
  o.wpIn (zaI ro) 0 P ac w Kc (QC P G n D M0 F0 w0 Q) :=
 by
 cases hnx:zb0 o.op with
 | none=>exact zlr hnx h S g E (λx _=>zlq g f x) f.size hD λ_ _ J' M' w' k hv S' g' E'=>hK _ J' M' _ w' k S' g' (E.trans E') ((f.mono E').put hd hv) (by rw[zaM,hD])
 | some x =>
  have hop:(∃b,o.op=.next (.tmp x) b)\/∃t k v,o.op=.insert t (.tmp x) k v:=by
   unfold zb0 at hnx
   split at hnx
   .rename_i y b hy;cases hnx;exact .inl ⟨b,hy⟩
   .rename_i t y k v hy;cases hnx;exact .inr ⟨t,k,v,hy⟩
   .cases hnx
  refine⟨λ_ _=>trivial,?_⟩
  have hsem:o.semAt (zaI ro).round ac.eval=execOp ac.eval o:=o.semAt_eq _ _ (zgo h)
  rw[hsem]
  unfold zby at h
  rw[hnx]at h
  simp only at h
  have e:ac.eval (.tmp x)=ac.tmps.getD x undef:=rfl
  obtain⟨x',nx,w',hnv,hrun,v2,v,J',M',hk,hv2,hv,S',E'⟩:∃x' nx w',(nx=.value x'\/nx=.skip/\x'=undef)/\(execOp ac.eval o).run P w=.ok nx w'/\∃v2 v J' M',K (put (upd a x v2) o.dst v) J'/\VR M' J'.F w' v2 (ac.tmps.getD x undef)/\VR M' J'.F w' v x'/\Sim M' J' w'/\Ext M J.F w M' J'.F w':=by
   rcases hop with ⟨b,hop⟩|⟨t,k,v,hop⟩
   .rw[hop]at h
    obtain⟨x',w',h1,h2⟩:∃x' w',(Instr.next (ac.tmps.getD x undef) b o.type).run P w=.ok x' w'/\∃v2 v J' M',K (put (upd a x v2) o.dst v) J'/\VR M' J'.F w' v2 (ac.tmps.getD x undef)/\VR M' J'.F w' v x'/\Sim M' J' w'/\Ext M J.F w M' J'.F w':=by
     cases b with
     | false =>
      simp only[zsw]at h
      exact zmN (P:=P) (t:=o.type) h S (f.val x)
     | true =>
      simp only[zsw]at h
      exact zln (P:=P) (t:=o.type) h S (f.val x)
    refine⟨x',.value x',w',.inl rfl,?_,h2⟩
    unfold execOp;simp only[hop]
    rw[Sem.run_bind,e,h1]
    rfl
   .rw[hop]at h
    simp only[zsw]at h
    obtain⟨w',h1,m2,J',M',hk,hm2,S',E'⟩:=zj7 (P:=P) h S (f.val x) (zlq g f k) (zlq g f v)
    refine⟨undef,.skip,w',.inr ⟨rfl,rfl⟩,?_,m2,.tuple [],J',M',hk,hm2,.tuple _ _ rfl (λj h=>absurd h (yaA _)),S',E'⟩
    unfold execOp;simp only[hop]
    rw[Sem.run_bind,e,h1]
    rfl
  rw[hrun]
  have hgo:Kc (ac.put o.dst x') w'->o.uponIn (zaI ro) 0 P ac Kc (QC P G n D M0 F0 w0 Q) (.ok nx w'):=λq=>by
   rcases hnv with rfl|⟨rfl,rfl⟩
   .rw[Oper.uponIn_value];exact q
   .exact q
  refine hgo ?_
  have f2:Fr M' J'.F w' (upd a x v2) ac n:=⟨f.size,λt=>by
   simp only[upd]
   by_cases ht:t=x
   .subst ht;rw[if_pos rfl];exact hv2
   .rw[if_neg ht];exact(f.val t).mono E'⟩
  exact hK _ J' M' _ w' hk S' (g.mono E') (E.trans E') (f2.put hd hv) (by rw[zaM,hD])
def zbj(ops:Array Oper)(o:Oper):Option (Option (Nat × Bool)) :=
 match o.guard with
 | none=>some none
 | some (j,want) =>
  match (ops[j]?).bind (·.dst)with
  | some d=>some (some (d,want))
  | none=>none
theorem zc0{ops:Array Oper}{o:Oper}{g:Option (Nat × Bool)}(hg:zbj ops o=some g){M F w}{a:Nat->AV}{ac:Act}(f:∀d want,g=some (d,want)->VR M F w (a d) (ac.tmps.getD d undef))
  {yes no:Prop} (h:zbt a g yes no):(Region.wanted o (yielded ops ac.tmps)=true/\yes)\/(Region.wanted o (yielded ops ac.tmps)=false/\no):=by
 unfold zbj at hg
 split at hg
 .rename_i hn
  cases hg
  exact .inl ⟨by simp[Region.wanted,hn],h⟩
 .rename_i j want hj
  split at hg
  .rename_i d hd
   cases hg
   have hv:=f d want rfl
   have hy:yielded ops ac.tmps j=match ac.tmps[d]? with|some (.bool b)=>some b|_=>none:=by
    unfold yielded;rw[hd];rfl
   simp only[zbt]at h
   split at h
   .rename_i b hb
    rw[hb]at hv
    have hc:=hv.bool_inv
    have he:ac.tmps[d]?=some (.bool b):=by
     rw[ybA]at hc
     cases hq:ac.tmps[d]? with
     | none=>rw[hq]at hc;cases hc
     | some x=>rw[hq]at hc;simp at hc;rw[hc]
    rw[he]at hy
    simp only at hy
    by_cases hbw:b=want
    .exact .inl ⟨by simp[Region.wanted,hj,hy,hbw],h.1 hbw⟩
    .exact .inr ⟨by simp[Region.wanted,hj,hy];exact hbw,h.2 hbw⟩
   .rename_i hb
    rw[hb]at hv
    have he:∀b,ac.tmps[d]?≠some (.bool b):=by
     intro b hq
     rw[ybA,hq]at hv
     simp at hv
     cases hv
    have hy2:yielded ops ac.tmps j=none:=by
     rw[hy];split
     .exact absurd ‹_› (he _)
     .rfl
    exact .inr ⟨by simp[Region.wanted,hj,hy2],h⟩
   .exact h.elim
  .cases hg
theorem zmR{ops:Array Oper}{o:Oper}{g:Option (Nat × Bool)}(hg:zbj ops o=some g){M F w a ac n}(f:Fr M F w a ac n){yes no:Prop}(h:zbt a g yes no):
  (Region.wanted o (yielded ops ac.tmps)=true/\yes)\/(Region.wanted o (yielded ops ac.tmps)=false/\no):=zc0 hg (λd _ _=>f.val d) h
def zhG(ops:Array Oper)(o:Oper)(again:List AG):Option PO:=(zbj ops o).map λg=>⟨o.dst,o.op,g,again⟩
def zbk(n:Nat)(ops:Array Oper):List Oper->Option (List PO)
 | []=>some []
 | o::r=>if ziS n o.dst then(zhG ops o []).bind λp=>(zbk n ops r).map λl=>p::l else none
theorem zfj(M F w):VR M F w (.tuple []) undef:=.tuple _ _ rfl λ_ h=>absurd h (yaA _)
theorem plain_sound{P:Program}{G:Env}{n:Nat}{ops:Array Oper}{Q:AQ}{ro:Option Nat}{D:List Deferred}{M0 F0 w0}:
  ∀(l:List Oper) (pl:List PO) (a:Nat->AV) (J:AS) (M:Mp) (w:World) (ac:Act),zbk n ops l=some pl->zfd P G Q pl a J->Sim M J w->GOk P G M J.F w->Ext M0 F0 w0 M J.F w->Fr M J.F w a ac n ->
   ac.defers=D->wpListIn (zaI ro) 0 P ops (QC P G n D M0 F0 w0 Q) l ac w:=by
 intro l
 induction l with
 | nil =>
  intro pl a J M w ac hp h S g E f hD
  simp only[zbk,yaR.injEq]at hp
  subst hp
  exact⟨.normal,a,J,M,h,trivial,S,g,E,f,hD⟩
 | cons o r ih =>
  intro pl a J M w ac hp h S g E f hD
  simp only[zbk]at hp
  split at hp
  .rename_i hd
   simp only[zhG]at hp
   cases hg:zbj ops o with
   | none=>simp[hg]at hp
   | some gd =>
    cases hr:zbk n ops r with
    | none=>simp[hg,hr]at hp
    | some pr =>
     simp[hg,hr]at hp
     subst hp
     simp only[zfd]at h
     unfold wpListIn
     rcases zmR hg f h with ⟨hw,hy⟩|⟨hw,hno⟩
     .rw[if_pos hw]
      refine zo1 hy hd S g E f hD (λa' J' M' ac' w' hK S' g' E' f' hD'=>?_)
      exact ih pr a' J' M' w' ac' hr hK.2 S' g' E' f' hD'
     .rw[if_neg (by rw[hw];simp)]
      refine⟨λ_ _=>trivial,?_⟩
      exact ih pr _ J M w _ hr hno S g E (f.put hd (zfj ..)) (by rw[zaM,hD])
  .cases hp
def zc1(W:Nat->Bool)(a a':Act):Prop:=∀t,W t=false->a'.tmps.getD t undef=a.tmps.getD t undef
theorem zc1.refl(W a):zc1 W a a:=λ_ _=>rfl
theorem zc1.trans{W a b c}(h:zc1 W a b)(k:zc1 W b c):zc1 W a c:=λt ht=>(k t ht).trans (h t ht)
theorem zc1.put{W:Nat->Bool}{a:Act}{d:Option Tmp}{v:Value}(h:∀t,d=some t->W t=true):zc1 W a (a.put d v):=by
 intro t ht
 cases d with
 | none=>rfl
 | some d =>
  have hne:d≠t:=by rintro rfl;rw[h d rfl]at ht;cases ht
  simp only[Act.put,ybA,yaJ hne]
def zo2(W:Nat->Bool)(a:Act)(Q:Exit->Act->World->Prop):Exit->Act->World->Prop:=λe a' w'=>Q e a' w'/\(e≠.outgrown->zc1 W a a')
theorem LetsOut.kept{W a Q}(h:LetsOut Q):LetsOut (zo2 W a Q):=let ⟨a0,w0,h⟩:=h;⟨a0,w0,h,λe=>absurd rfl e⟩
theorem zsx(a:Act)(D:List Deferred)(d:Option Tmp)(v:Value):({ a with defers:=D }.put d v).tmps=(a.put d v).tmps:=by cases d<;>rfl
theorem zgp{F:Fence}{n:Nat}{P:Program}{o:Oper}{a a0:Act}{w:World}{K K':Act->World->Prop}{Q:Exit->Act->World->Prop}{W:Nat->Bool}(h0:zc1 W a0 a)
  (h:o.wpIn F n P a w K Q) (hK:∀v a' w',a'.tmps=(a.put o.dst v).tmps->K a' w'->K' a' w'):o.wpIn F n P a w K' (zo2 W a0 Q):=by
 refine⟨h.1,?_⟩
 have h2:=h.2
 generalize (o.semAt F.round a.eval).run P w=r at h2
 cases r with
 | ok x w' =>
  cases x with
  | value v=>exact hK _ _ _ rfl h2
  | skip=>exact hK _ _ _ rfl h2
  | defer d=>exact hK _ _ _ (zsx ..) h2
  | enter f args =>
   refine⟨h2.1,h2.2.mono λe w'' he=>?_⟩
   cases e with
   | returned v=>exact hK _ _ _ rfl he
   | panicked ch=>exact⟨he,λ_=>h0⟩
   | outgrown=>exact LetsOut.kept he
  | round l f tmps assign body =>
   refine⟨h2.1,h2.2.mono λe w'' he=>?_⟩
   cases e with
   | returned v=>exact hK _ _ _ rfl he
   | panicked ch=>exact⟨he,λ_=>h0⟩
   | outgrown=>exact LetsOut.kept he
  | row row args=>exact⟨h2.1,h2.2.mono λv w'' he=>hK _ _ _ rfl he⟩
  | _=>exact h2.elim
 | halt x w' =>
  cases x with
  | panic v=>exact⟨h2,λ_=>h0⟩
  | _=>exact h2.elim
theorem zc1.of_tmps{W a b c}(h:zc1 W a b)(e:c.tmps=b.tmps):zc1 W a c:=λt ht=>by rw[e];exact h t ht
theorem zc2{F:Fence}{n:Nat}{P:Program}{ops:Array Oper}{Q:Exit->Act->World->Prop}{W:Nat->Bool}{a0:Act}:∀(l:List Oper) (a:Act) (w:World),(∀o∈l,∀t,o.dst=some t->W t=true)->zc1 W a0 a ->
  wpListIn F n P ops Q l a w->wpListIn F n P ops (zo2 W a0 Q) l a w
 | [],a,w,_,h0,h=>⟨h,λ_=>h0⟩
 | o::l,a,w,hd,h0,h=>by
  unfold wpListIn at h ⊢
  have hp:∀v,zc1 W a0 (a.put o.dst v):=λv=>h0.trans (.put (hd o (by simp)))
  split at h
  .rename_i hw
   rw[if_pos hw]
   exact zgp h0 h λv a' w' e hk=>zc2 l _ w' (λx hx=>hd x (by simp[hx])) ((hp v).of_tmps e) hk
  .rename_i hw
   rw[if_neg hw]
   exact⟨h.1,zc2 l _ w (λx hx=>hd x (by simp[hx])) (hp _) h.2⟩
theorem zcr{F:Fence}{n:Nat}{P:Program}{md:Region.Mode}{ops:Array Oper}{Q:Exit->Act->World->Prop}{W:Nat->Bool}{a0:Act}(hd:∀(i:Nat) (o:Oper),ops[i]?=some o->∀t,o.dst=some t->W t=true):
  ∀(fuel:Nat) (listed:Array Bool) (a:Act) (w:World),zc1 W a0 a->wpAnyIn F n P md ops Q fuel listed a w->wpAnyIn F n P md ops (zo2 W a0 Q) fuel listed a w
 | 0,listed,a,w,h0,h=>⟨h.1,h.2,λ_=>h0⟩
 | fuel+1,listed,a,w,h0,h=>by
  refine⟨λhr=>⟨h.1 hr,λ_=>h0⟩,λi hi=>?_⟩
  have h2:=h.2 i hi
  unfold wpOpIn at h2 ⊢
  cases ho:ops[i]? with
  | none =>
   simp only[ho]at h2 ⊢
   exact zcr hd fuel _ a w h0 h2
  | some o =>
   simp only[ho]at h2 ⊢
   have hp:∀v,zc1 W a0 (a.put o.dst v):=λv=>h0.trans (.put (hd i o ho))
   split at h2
   .rename_i hw
    rw[if_pos hw]
    exact zgp h0 h2 λv a' w' e hk=>zcr hd fuel _ _ w' ((hp v).of_tmps e) hk
   .rename_i hw
    rw[if_neg hw]
    exact⟨h2.1,zcr hd fuel _ _ w (hp _) h2.2⟩
theorem zwn{P G n D M0 F0 w0}{Q:AQ}{l:List PO}{a:Nat->AV}{M:Mp}{F:Nat->FSt}{w:World}{ac:Act}(E0:Ext M0 F0 w0 M F w)(f:Fr M F w a ac n){e:Exit}{ac':Act}{w':World}
  (h:zo2 (λt=>l.any λo=>o.dst==some t) ac (QC P G n D M F w (zb1 (zdn l a) Q)) e ac' w'):QC P G n D M0 F0 w0 Q e ac' w':=by
 obtain⟨⟨e',a',J',M',q,r,S',g',E',f',hD'⟩,hk⟩:=h
 cases e' with
 | panic v =>
  cases e<;>simp only[zds]at r
  refine⟨.panic v,zdn l a,J',M',q,r,S',g',E0.trans E',⟨f'.size,λt=>?_⟩,hD'⟩
  unfold zdn
  cases hw:l.any λo=>o.dst==some t with
  | true=>simpa using VR.undef _
  | false =>
   rw[hk (by simp) t hw]
   simpa using (f.val t).mono E'
 | normal=>exact⟨.normal,a',J',M',q,r,S',g',E0.trans E',f',hD'⟩
 | exit i=>exact⟨.exit i,a',J',M',q,r,S',g',E0.trans E',f',hD'⟩
 | ret=>exact⟨.ret,a',J',M',q,r,S',g',E0.trans E',f',hD'⟩
theorem zfk{n:Nat}{ops:Array Oper}:∀(l:List Oper) (pl:List PO),zbk n ops l=some pl->∀o∈l,∀t,o.dst=some t->(pl.any λo=>o.dst==some t)=true
 | [],_,_,o,ho,_,_=>by cases ho
 | x::l,pl,hp,o,ho,t,ht=>by
  simp only[zbk]at hp
  split at hp
  .simp only[zhG,ybB,ybC]at hp
   obtain⟨p,⟨gd,hgd,rfl⟩,pr,hpr,rfl⟩:=hp
   rcases ybD.1 ho with rfl|ho
   .simp[ht]
   .have:=zfk l pr hpr o ho t ht
    simp only[ybE,this,Bool.or_true]
  .cases hp
theorem zls{P:Program}{G:Env}{n id:Nat}{ops:Array Oper}{pl:List PO}(hp:zbk n ops ops.toList=some pl){Q:AQ}{a J}(h:zfd P G (zb1 (zdn pl a) Q) pl a J):AWp P G n (.region id ops false) Q a J :=
 fun _ _ _ _ _ M w ac S g E f hD=>wpIn_mono (wpIn_region_list (zc2 (W:=fun t=>pl.any fun o=>o.dst==some t) (a0:=ac) _ _ _ (fun o ho t ht=>zfk _ _ hp o ho t ht) (zc1.refl _ _) (plain_sound ops.toList pl a J M w ac hp h S g (.refl ..) f hD)))
  λ_ _ _ hq=>zwn E f hq
def zlt:Op->Bool
 | .load ..=>true
 | _=>false
def zbS(ops:Array Oper)(o:Oper):List Nat :=
 (o.op.operands.toList.filterMap fun|.tmp t=>some t|_=>none)++(match o.guard with|some (j,_)=>((ops[j]?).bind (·.dst)).toList|none=>[])
def zas(e:Edge):Bool:=Region.binds .any e
def zaV(A:Array Nat)(k i:Nat):Bool:=(A.getD i 0).testBit k
def zlu(ops:Array Oper)(A:Array Nat):Bool :=
 (ya7 ops.size).all λi =>
  match ops[i]? with
  | some o=>A.getD i 0==o.after.toList.foldl (λs e=>if zas e then s ||| 2^e.on ||| A.getD e.on 0 else s) 0
  | none=>false
theorem zlv{α:Type}(p:α->Bool)(f:α->Nat)(k:Nat):∀(l:List α) (s:Nat),
  (l.foldl (λs e=>if p e then s ||| f e else s) s).testBit k=true↔(s.testBit k=true\/∃e∈l,p e=true/\(f e).testBit k=true):=by
 intro l
 induction l with
 | nil=>intro s;simp
 | cons e l ih =>
  intro s
  simp only[ybF,ih,ybD,exists_eq_or_imp]
  by_cases hp:p e=true
  .simp only[hp,if_true,ybG,Bool.or_eq_true,true_and]
   constructor
   .rintro ((h|h)|h)
    .exact .inl h
    .exact .inr (.inl h)
    .exact .inr (.inr h)
   .rintro (h|h|h)
    .exact .inl (.inl h)
    .exact .inl (.inr h)
    .exact .inr h
  .simp[hp]
theorem zlw{ops:Array Oper}{A:Array Nat}(h:zlu ops A=true){i:Nat}{o:Oper}(ho:ops[i]?=some o){k:Nat}(hk:zaV A k i=true):
  ∃e∈o.after.toList,zas e=true/\(e.on=k\/zaV A k e.on=true):=by
 have hi:i<ops.size:=(yaU.1 ho).1
 simp only[zlu,yaM,List.mem_range]at h
 have:=h i hi
 rw[ho]at this
 simp only[beq_iff_eq]at this
 unfold zaV at hk
 rw[this]at hk
 have e2:(λ(s:Nat) (e:Edge)=>if zas e then s ||| 2^e.on ||| A.getD e.on 0 else s)=λs e=>if zas e then s ||| (2^e.on ||| A.getD e.on 0)else s:=by
  funext s e;rw[Nat.or_assoc]
 rw[e2,zlv]at hk
 rcases hk with h0|⟨e,he,hb,hbit⟩
 .simp at h0
 .refine⟨e,he,hb,?_⟩
  rw[ybG,Bool.or_eq_true]at hbit
  rcases hbit with h1|h1
  .left
   rw[Nat.testBit_two_pow]at h1
   simpa using h1
  .right;exact h1
def isE(o:Oper):Bool:=!(zcq o.op)&&!(zlt o.op)
def zex(ops:Array Oper)(i:Nat):Option Nat:=(ops[i]?).bind λ(o:Oper)=>o.dst
structure zfU(n:Nat)(ops:Array Oper)(A:Array Nat)(π:List Nat):Prop where
 mask:zlu ops A=true
 nodup:π.Nodup
 all:∀i,i<ops.size->i∈π
 lt:∀i∈π,i<ops.size
 edges:∀d1 i d2 (o:Oper) (e:Edge),π=d1++i::d2->ops[i]?=some o->e∈o.after.toList->zas e=true->e.on∈d1
 slots:∀i j (oi oj:Oper) t,i≠j->ops[i]?=some oi->ops[j]?=some oj->oi.dst=some t->(t∈zbS ops oj\/oj.dst=some t)->zaV A i j=true\/zaV A j i=true
 late:∀d1 e d2 (oe:Oper) i,π=d1++e::d2->ops[e]?=some oe->isE oe=true->i∈d2->zaV A e i=true
 dst:∀(i:Nat) (o:Oper),ops[i]?=some o->ziS n o.dst=true
 nx:∀(i:Nat) (o:Oper),ops[i]?=some o->zb0 o.op=none
 keep:∀d1 j d2 e d3 (oj oe:Oper) t x,π=d1++j::(d2++e::d3)->ops[j]?=some oj->oj.op=.load t x->ops[e]?=some oe->isE oe=true->zaV A j e=false ->
  ∃d,oj.dst=some d/\∀k∈j::(d2++[e]),(∀s∈zbS ops oj,zex ops k≠some s)/\(k≠j->zex ops k≠some d)
 sel:Region.noSelect ops=true
def afr(ops:Array Oper)(val:Nat->AV):List Nat->(Nat->AV)->(Nat->AV)
 | [],a=>a
 | i::l,a=>afr ops val l (put a (zex ops i) (val i))
theorem zaN{ops val}:∀(l m:List Nat) (a:Nat->AV),afr ops val (l++m) a=afr ops val m (afr ops val l a)
 | [],_,_=>rfl
 | i::l,m,a=>by simp only[List.cons_append,afr];exact zaN l m _
theorem zjb{a:Nat->AV}{d:Option Nat}{v:AV}{t:Nat}(h:d≠some t):put a d v t=a t:=by
 cases d with
 | none=>rfl
 | some d=>simp only[put,upd];rw[if_neg (λe=>h (by rw[e]))]
theorem zqb{a:Nat->AV}{v:AV}{t:Nat}:put a (some t) v t=v:=by simp[put,upd]
theorem zqc{a b:Nat->AV}{d:Option Nat}{v:AV}{t:Nat}(h:a t=b t):put a d v t=put b d v t:=by
 cases d with
 | none=>exact h
 | some d=>simp only[put,upd];split<;>first|rfl|exact h
theorem zhH{ops val}:∀(l:List Nat) (a b:Nat->AV) (t:Nat),a t=b t->afr ops val l a t=afr ops val l b t
 | [],_,_,_,h=>h
 | _::l,_,_,t,h=>zhH l _ _ t (zqc h)
theorem zjc{ops val}(t:Nat)(p:Nat->Bool):∀(l:List Nat) (a:Nat->AV),(∀i∈l,p i=false->zex ops i≠some t)->afr ops val (l.filter p) a t=afr ops val l a t
 | [],_,_=>rfl
 | i::l,a,h=>by
  have ih:=λa=>zjc (ops:=ops) (val:=val) t p l a (λj hj=>h j (by simp[hj]))
  cases hp:p i with
  | true=>rw[ybH hp];exact ih _
  | false =>
   rw[ybI (by simp[hp]),ih]
   simp only[afr]
   exact zhH l _ _ t (zjb (h i (by simp) hp)).symm
theorem zfl{ops val}(t:Nat):∀(l:List Nat) (a:Nat->AV),(∀i∈l,zex ops i≠some t)->afr ops val l a t=a t
 | [],_,_=>rfl
 | i::l,a,h=>by
  simp only[afr]
  rw[zfl t l _ (λj hj=>h j (by simp[hj])),zjb (h i (by simp))]
def zdF(ops:Array Oper)(A:Array Nat)(e:Nat):List Nat->List AG
 | []=>[]
 | j::r =>
  match ops[j]? with
  | some o=>match o.op,o.dst,zbj ops o with
   | .load t x,some d,some g=>if zaV A j e then zdF ops A e r else⟨g,t,x,d⟩::zdF ops A e r
   | _,_,_=>zdF ops A e r
  | none=>zdF ops A e r
def zaO(ops:Array Oper)(A:Array Nat):List Nat->List Nat->Option (List PO)
 | _,[]=>some []
 | done,i::r =>
  match ops[i]? with
  | some o=>(zhG ops o (if isE o then zdF ops A i done else [])).bind λp=>(zaO ops A (done++[i]) r).map λl=>p::l
  | none=>none
def QEv(P:Program)(G:Env)(o:Oper)(a:Nat->AV)(J:AS)(v:AV):Prop :=
 (zcq o.op=true/\zj1 P o (ev G a) v)\/∃t x,o.op=.load t x/\zcH P t (ev G a x) J λu=>u=v
def zEy(P:Program)(G:Env)(ops:Array Oper)(o:Oper)(a:Nat->AV)(J:AS)(v:AV):Prop :=
 ∃g,zbj ops o=some g/\((zbt a g True False/\QEv P G o a J v)\/(zbt a g False True/\v=.tuple []))
theorem zmS{a:Nat->AV}{g:Option (Nat × Bool)}{yes no:Prop}(h:zbt a g yes no):(zbt a g True False/\yes)\/(zbt a g False True/\no):=by
 unfold zbt at *
 split at h
 .exact .inl ⟨trivial,h⟩
 .rename_i d want
  cases hd:a d<;>simp only[hd]at h ⊢<;>try exact h.elim
  .rename_i b
   by_cases e:b=want
   .exact .inl ⟨⟨λ_=>trivial,λh'=>h' e⟩,h.1 e⟩
   .exact .inr ⟨⟨λh'=>e h',λ_=>trivial⟩,h.2 e⟩
  .rename_i vs
   cases vs with
   | nil=>exact .inr ⟨trivial,h⟩
   | cons=>exact h.elim
theorem zqd{a:Nat->AV}{g:Option (Nat × Bool)}{yes no:Prop}(h:zbt a g True False)(hc:zbt a g yes no):yes:=by
 unfold zbt at *
 split at h
 .exact hc
 .rename_i d want
  cases hd:a d<;>simp only[hd]at h hc<;>try exact h.elim
  .rename_i b
   by_cases e:b=want
   .exact hc.1 e
   .exact(h.2 e).elim
  .rename_i vs
   cases vs with
   | nil=>exact h.elim
   | cons=>exact h.elim
theorem zmT{a b:Nat->AV}{g:Option (Nat × Bool)}{yes no:Prop}(h:∀d w,g=some (d,w)->a d=b d):zbt a g yes no=zbt b g yes no:=by
 unfold zbt
 cases g with
 | none=>rfl
 | some p=>simp only[h p.1 p.2 rfl]
theorem znY{G:Env}{a b:Nat->AV}{x:Operand}(h:∀t,x=.tmp t->a t=b t):ev G a x=ev G b x:=by
 cases x with
 | tmp t=>exact h t rfl
 | _=>rfl
theorem zsy{P:Program}{t p J}{K:AV->Prop}(h:zcH P t p J K):∃v,K v/\zcH P t p J λu=>u=v:=by
 have part:∀{g n off cs} {K:AV->Prop},zaC g n off cs K->∃v,K v/\zaC g n off cs λu=>u=v:=by
  intro g n off cs K h
  unfold zaC at *
  split at h
  .rename_i hg;exact⟨_,h.2,by rw[if_pos hg];exact⟨h.1,rfl⟩⟩
  .rename_i hg;obtain⟨v,h1,h2⟩:=h;exact⟨v,h2,by rw[if_neg hg];exact⟨v,h1,rfl⟩⟩
 unfold zcH at *
 split at h
 .obtain⟨cs,n,h1,h2,h3⟩:=h
  obtain⟨v,h4,h5⟩:=part h3
  exact⟨v,h4,cs,n,h1,h2,h5⟩
 .obtain⟨h1,n,h2,h3⟩:=h
  split at h3
  .rename_i hg
   obtain⟨cs,rfl,h4,h5⟩:=h3
   exact⟨_,h5,h1,n,h2,by rw[if_pos hg];exact⟨cs,rfl,h4,rfl⟩⟩
  .rename_i hg
   exact⟨_,h3.2,h1,n,h2,by rw[if_neg hg];exact⟨h3.1,rfl⟩⟩
 .exact h.elim
theorem zsz{P:Program}{G:Env}{o:Oper}{a:Nat->AV}{J:AS}{K:(Nat->AV)->AS->Prop}{Q:AQ}(hq:isE o=false)(h:zby P G o.op o.dst a J K Q):∃v,QEv P G o a J v/\K (put a o.dst v) J:=by
 have hnx:zb0 o.op=none:=by
  cases hn:zb0 o.op with
  | none=>rfl
  | some x =>
   have hop:(∃b,o.op=.next (.tmp x) b)\/∃t k v,o.op=.insert t (.tmp x) k v:=by
    unfold zb0 at hn
    split at hn
    .rename_i y b hy;cases hn;exact .inl ⟨b,hy⟩
    .rename_i t y k v hy;cases hn;exact .inr ⟨t,k,v,hy⟩
    .cases hn
   rcases hop with ⟨b,hop⟩|⟨t,k,v,hop⟩<;>simp[isE,zlt,zcq,hop]at hq
 unfold zby at h
 rw[hnx]at h
 simp only at h
 split at h
 .rename_i hp
  obtain⟨v,h1,h2⟩:=zht h
  exact⟨v,.inl ⟨hp,h2⟩,h1⟩
 .rename_i hp
  have hp':zcq o.op=false:=by simpa using hp
  simp only[isE,hp',Bool.not_false,Bool.true_and,Bool.not_eq_false']at hq
  unfold zlt at hq
  split at hq
  .rename_i t x ho
   rw[ho]at h
   simp only[zve]at h
   obtain⟨v,h1,h2⟩:=zsy h
   exact⟨v,.inr ⟨t,x,ho,h2⟩,h1⟩
  .cases hq
theorem QEv.run{P:Program}{G:Env}{o:Oper}{a:Nat->AV}{J:AS}{v:AV}(h:QEv P G o a J v){M w}{ρ:Operand->Value}(S:Sim M J w)(hops:∀x∈o.op.operands,VR M J.F w (ev G a x) (ρ x)):
  ∃v' M' w',(execOp ρ o).run P w=.ok (.value v') w'/\VR M' J.F w' v v'/\Ext M J.F w M' J.F w'/\Sim M' J w':=by
 rcases h with ⟨_,hq⟩|⟨t,x,ho,hl⟩
 .obtain⟨v',M',w',h1,h2,h3,h4⟩:=hq M J.F w ρ S.role hops
  exact⟨v',M',w',h1,h2,h3,h4 J rfl S⟩
 .obtain⟨u,rfl,hh⟩:=zeT hl
  obtain⟨v',h1,h2⟩:=hh M w (ρ x) S (hops x (by rw[ho];simp[Op.operands]))
  refine⟨v',M,w,?_,h2,.refl ..,S⟩
  unfold execOp;simp only[ho];rw[Sem.run_bind,h1];rfl
theorem QEv.nodefer{P:Program}{G:Env}{o:Oper}{a:Nat->AV}{J:AS}{v:AV}(h:QEv P G o a J v):∀c,o.op≠.defer c:=by
 intro c hc
 rcases h with ⟨h1,_⟩|⟨t,x,h1,_⟩
 .rw[hc]at h1;cases h1
 .rw[hc]at h1;cases h1
section
variable {P : Program} {G : Env} {n : Nat} {ops : Array Oper} {A : Array Nat} {π : List Nat} {Q : AQ} {a0 : Nat -> AV}
theorem zdG(O:zfU n ops A π):∀(m:Nat) (d1:List Nat) (i:Nat) (d2:List Nat) (k:Nat),d1.length=m->π=d1++i::d2->zaV A k i=true->k∈d1:=by
 intro m
 induction m using ybJ with
 | _ m ih =>
  intro d1 i d2 k hm hπ hk
  have hi:i<ops.size:=O.lt i (by rw[hπ];simp)
  obtain⟨e,he,hb,h⟩:=zlw O.mask (yar hi) hk
  have hon:=O.edges d1 i d2 _ e hπ (yar hi) he hb
  rcases h with h|h
  .rw[<-h];exact hon
  .obtain⟨x,y,rfl⟩:=ybK hon
   have:=ih x.length (by rw[<-hm];simp) x e.on (y++i::d2) k rfl (by rw[hπ];simp) h
   simp[this]
theorem zfm(O:zfU n ops A π){L:Nat->Bool}(hcl:∀i (o:Oper),L i=true->ops[i]?=some o->∀e∈o.after.toList,zas e=true->L e.on=true):
  ∀(m:Nat) (d1:List Nat) (i:Nat) (d2:List Nat) (k:Nat) (o:Oper),d1.length=m->π=d1++i::d2->ops[i]?=some o->(∀e∈o.after.toList,zas e=true->L e.on=true)->zaV A k i=true->L k=true:=by
 intro m
 induction m using ybJ with
 | _ m ih =>
  intro d1 i d2 k o hm hπ ho hr hk
  obtain⟨e,he,hb,h⟩:=zlw O.mask ho hk
  have hon:=O.edges d1 i d2 o e hπ ho he hb
  rcases h with h|h
  .rw[<-h];exact hr e he hb
  .have hLe:=hr e he hb
   obtain⟨x,y,hxy⟩:=ybK hon
   have hlt:e.on<ops.size:=O.lt e.on (by rw[hπ,hxy];simp)
   exact ih x.length (by rw[<-hm,hxy];simp) x e.on (y++i::d2) k _ rfl (by rw[hπ,hxy];simp) (yar hlt) (λe' he' hb'=>hcl e.on _ hLe (yar hlt) e' he' hb') h
theorem zdH(O:zfU n ops A π){i:Nat}(hi:i<ops.size):∃d1 d2,π=d1++i::d2:=by
 obtain⟨d1,d2,h⟩:=ybK (O.all i hi);exact⟨d1,d2,h⟩
theorem za7{i:Nat}{o:Oper}(ho:ops[i]?=some o):zex ops i=o.dst:=by simp[zex,ho]
theorem zeX(O:zfU n ops A π){i k:Nat}{oi:Oper}(hi:ops[i]?=some oi)(hne:k≠i)(h1:zaV A k i=false)(h2:zaV A i k=false){t:Nat}(ht:t∈zbS ops oi\/oi.dst=some t):zex ops k≠some t:=by
 intro hk
 cases hok:ops[k]? with
 | none=>simp[zex,hok]at hk
 | some ok =>
  rw[za7 hok]at hk
  rcases O.slots k i ok oi t hne hok hi hk ht with h|h
  .rw[h]at h1;cases h1
  .rw[h]at h2;cases h2
theorem zjd{o:Oper}{g:Option (Nat × Bool)}(hg:zbj ops o=some g){d w}(h:g=some (d,w)):d∈zbS ops o:=by
 subst h
 unfold zbj at hg
 split at hg
 .cases hg
 .rename_i j want hj
  split at hg
  .rename_i d' hd
   simp at hg
   unfold zbS
   rw[hj]
   simp only[hd]
   simp[hg.1]
  .cases hg
theorem zgq{o:Oper}{x:Operand}(hx:x∈o.op.operands){t:Nat}(h:x=.tmp t):t∈zbS ops o:=by
 subst h
 unfold zbS
 rw[ybh,List.mem_filterMap]
 exact .inl ⟨_,by simpa using hx,rfl⟩
end
section
variable {P : Program} {G : Env} {n : Nat} {ops : Array Oper} {A : Array Nat} {π : List Nat} {Q : AQ} {a0 : Nat -> AV}
theorem zdI{val val':Nat->AV}:∀(l:List Nat) (a:Nat->AV),(∀i∈l,val i=val' i)->afr ops val l a=afr ops val' l a
 | [],_,_=>rfl
 | i::l,a,h=>by
  simp only[afr]
  rw[h i (by simp)]
  exact zdI l _ λj hj=>h j (by simp[hj])
structure zeY(P:Program)(G:Env)(n:Nat)(ops:Array Oper)(A:Array Nat)(π:List Nat)(Q:AQ)(a0:Nat->AV)(L:Nat->Bool)(done rest:List Nat)(val:Nat->AV)(J:AS):Prop where
 split:π=done++rest
 closed:∀i (o:Oper),L i=true->ops[i]?=some o->∀e∈o.after.toList,zas e=true->L e.on=true
 sub:∀i,L i=true->i∈done
 eL:∀i∈done,∀o:Oper,ops[i]?=some o->isE o=true->L i=true
 pend:∀d1 i d2 (o:Oper),done=d1++i::d2->ops[i]?=some o->L i=false->zEy P G ops o (afr ops val d1 a0) J (val i)
 vc:∃pl,zaO ops A done rest=some pl/\zfd P G Q pl (afr ops val done a0) J
def zAC(ops:Array Oper)(rest:List Nat):Prop:=rest=[]\/∃e r,∃oe:Oper,rest=e::r/\ops[e]?=some oe/\isE oe=true
theorem zeY.norm(O:zfU n ops A π){L:Nat->Bool}:∀(rest done:List Nat) (val:Nat->AV) (J:AS),zeY P G n ops A π Q a0 L done rest val J ->
  ∃done' rest' val',zeY P G n ops A π Q a0 L done' rest' val' J/\zAC ops rest'/\(∃q,done'=done++q/\∀i∈q,L i=false)/\∀i∈done,val' i=val i:=by
 intro rest
 induction rest with
 | nil=>intro done val J h;exact⟨done,[],val,h,.inl rfl,⟨[],by simp,by simp⟩,λ_ _=>rfl⟩
 | cons i r ih =>
  intro done val J h
  have hi:i<ops.size:=O.lt i (by rw[h.split];simp)
  have ho:ops[i]?=some ops[i]:=yar hi
  generalize ops[i]=o at ho
  cases hE:isE o with
  | true=>exact⟨done,i::r,val,h,.inr ⟨i,r,o,rfl,ho,hE⟩,⟨[],by simp,by simp⟩,λ_ _=>rfl⟩
  | false =>
   have hnd:=O.nodup
   rw[h.split]at hnd
   have hid:i∉done:=λhm=>by
    rw[ybL]at hnd
    exact hnd.2.2 i hm i (by simp) rfl
   have hL:L i=false:=by
    cases hq:L i with
    | false=>rfl
    | true=>exact absurd (h.sub i hq) hid
   obtain⟨pl,hpl,hvc⟩:=h.vc
   simp only[zaO,ho,hE,zhG]at hpl
   cases hg:zbj ops o with
   | none=>simp[hg]at hpl
   | some g =>
    cases hr:zaO ops A (done++[i]) r with
    | none=>simp[hg,hr]at hpl
    | some pr =>
     simp[hg,hr]at hpl
     subst hpl
     simp only[zfd]at hvc
     have key:∃v,zEy P G ops o (afr ops val done a0) J v/\zfd P G Q pr (put (afr ops val done a0) o.dst v) J:=by
      rcases zmS hvc with ⟨h1,h2⟩|⟨h1,h2⟩
      .obtain⟨v,h3,h4⟩:=zsz hE h2
       exact⟨v,⟨g,hg,.inl ⟨h1,h3⟩⟩,h4.2⟩
      .exact⟨_,⟨g,hg,.inr ⟨h1,rfl⟩⟩,h2⟩
     obtain⟨v,hp,hv⟩:=key
     have hval:∀j∈done,val j=upd val i v j:=λj hj=>(zd _ _ (by rintro rfl;exact hid hj)).symm
     have hst:zeY P G n ops A π Q a0 L (done++[i]) r (upd val i v) J:=by
      refine⟨by rw[h.split];simp,h.closed,λj hj=>by simp[h.sub j hj],λj hj oj hoj hEj=>?_,λd1 j d2 oj hs hoj hLj=>?_,pr,hr,?_⟩
      .rcases ybh.1 hj with hj|hj
       .exact h.eL j hj oj hoj hEj
       .simp at hj;subst hj;rw[ho]at hoj;cases hoj;rw[hE]at hEj;cases hEj
      .rcases ybM d2 with rfl|⟨d2',z,rfl⟩
       .have:=ybN hs (by simp)
        obtain⟨rfl,h2⟩:=this
        simp at h2
        subst h2
        rw[ho]at hoj;cases hoj
        rw[zc,<-zdI done a0 hval]
        exact hp
       .have e1:done++[i]=(d1++j::d2')++[z]:=by rw[hs];simp
        have:=ybN e1 (by simp)
        obtain⟨e2,_⟩:=this
        have hj1:∀k∈d1,val k=upd val i v k:=λk hk=>hval k (by rw[e2];simp[hk])
        rw[<-zdI d1 a0 hj1,<-hval j (by rw[e2];simp)]
        exact h.pend d1 j d2' oj e2 hoj hLj
      .rw[zaN,<-zdI done a0 hval]
       simp only[afr,zc,za7 ho]
       exact hv
     obtain⟨done',rest',val',k1,k2,⟨q,k3,k4⟩,k5⟩:=ih _ _ _ hst
     refine⟨done',rest',val',k1,k2,⟨i::q,by rw[k3];simp,λj hj=>?_⟩,λj hj=>?_⟩
     .rcases ybD.1 hj with rfl|hj
      .exact hL
      .exact k4 j hj
     .rw[k5 j (by simp[hj]),<-hval j hj]
theorem zAD(O:zfU n ops A π){L:Nat->Bool}{done rest:List Nat}{val:Nat->AV}{J:AS}(h:zeY P G n ops A π Q a0 L done rest val J){d1 d2:List Nat}{i:Nat}{o:Oper}(hs:π=d1++i::d2)(ho:ops[i]?=some o)
  (hLi:L i=false) (hready:∀e∈o.after.toList,zas e=true->L e.on=true) (hd:∃q,done=d1++q) {t:Nat} (ht:t∈zbS ops o) :
  afr ops val (done.filter L) a0 t=afr ops val d1 a0 t:=by
 obtain⟨q,hq⟩:=hd
 have hnd:=O.nodup
 -- none of those that are not zaV of it writes the slot
 have hin:∀k,zaV A k i=true->L k=true:=λk hk=>zfm O h.closed d1.length d1 i d2 k o rfl hs ho hready hk
 have hik:∀k,L k=true->zaV A i k=false:=λk hk=>by
  cases hq:zaV A i k with
  | false=>rfl
  | true =>
   have hkd:=h.sub k hk
   have hkl:k<ops.size:=O.lt k (by rw[h.split];simp[hkd])
   obtain⟨x,y,hxy⟩:=zdH O hkl
   have:=zfm O h.closed x.length x k y i _ rfl hxy (yar hkl) (λe he hb=>h.closed k _ hk (yar hkl) e he hb) hq
   rw[hLi]at this;cases this
 have hd1:i∉d1:=λhm=>by
  rw[hs,ybL]at hnd
  exact hnd.2.2 i hm i (by simp) rfl
 rw[hq,ybO,zaN]
 rw[zfl t (q.filter L)]
 .refine zjc t L d1 a0 λk hk hLk=>?_
  refine zeX O ho (λe=>hd1 (e▸hk)) ?_ ?_ (.inl ht)
  .cases hz:zaV A k i with
   | false=>rfl
   | true=>rw[hin k hz]at hLk;cases hLk
  .cases hz:zaV A i k with
   | false=>rfl
   | true =>
    obtain⟨x,y,rfl⟩:=ybK hk
    have:=zdG O x.length x k (y++i::d2) i rfl (by rw[hs];simp) hz
    exact absurd (by simp[this]) hd1
 .intro k hk
  simp only[ybP]at hk
  have hki:k≠i:=λe=>by rw[e,hLi]at hk;exact absurd hk.2 (by simp)
  refine zeX O ho hki ?_ (hik k hk.2) (.inl ht)
  cases hz:zaV A k i with
  | false=>rfl
  | true =>
   have hkd1:=zdG O d1.length d1 i d2 k rfl hs hz
   have hkdone:k∈done:=h.sub k hk.2
   have hnd2:done.Nodup:=by have:=O.nodup;rw[h.split,ybL]at this;exact this.1
   rw[hq,ybL]at hnd2
   exact absurd rfl (hnd2.2.2 k hkd1 k hk.1)
theorem zfV{L:Nat->Bool}{i:Nat}{l:List Nat}(h:i∉l):l.filter (upd L i true)=l.filter L:=by
 apply ybQ
 intro k hk
 exact zd _ _ (by rintro rfl;exact h hk)
theorem zdJ{l m:List Nat}{i:Nat}(h:(l++i::m).Nodup):i∉l/\i∉m:=by
 rw[ybL]at h
 refine⟨λhm=>h.2.2 i hm i (by simp) rfl,λhm=>?_⟩
 have:=h.2.1
 rw[ybR]at this
 exact this.1 hm
theorem zqe(hnd:π.Nodup){L:Nat->Bool}{i:Nat}(hi:i∈π)(hL:L i=false):(π.filter λk=>!(upd L i true) k).length+1=(π.filter λk=>!L k).length:=by
 obtain⟨x,y,rfl⟩:=ybK hi
 obtain⟨h1,h2⟩:=zdJ hnd
 have e:∀l:List Nat,i∉l->(l.filter λk=>!(upd L i true) k)=l.filter λk=>!L k:=by
  intro l hl
  apply ybQ
  intro k hk
  rw[zd _ _ (by rintro rfl;exact hl hk)]
 rw[ybO,ybO,ybI (by simp[zc]),ybH (by simp[hL]),e x h1,e y h2]
 simp;omega
theorem zeY.done_all(O:zfU n ops A π){L:Nat->Bool}{done rest:List Nat}{val:Nat->AV}{J:AS}(h:zeY P G n ops A π Q a0 L done rest val J)(hall:∀i∈π,L i=true):
  Q .normal (afr ops val (done.filter L) a0) J:=by
 have hr:rest=[]:=by
  cases rest with
  | nil=>rfl
  | cons e r =>
   have:=h.sub e (hall e (by rw[h.split];simp))
   have hnd:=O.nodup
   rw[h.split]at hnd
   exact absurd this (zdJ hnd).1
 subst hr
 obtain⟨pl,hpl,hvc⟩:=h.vc
 simp[zaO]at hpl
 subst hpl
 have:done.filter L=done:=ybS.2 λi hi=>hall i (by rw[h.split];simp[hi])
 rw[this]
 exact hvc
theorem zlx(O:zfU n ops A π){listed:Array Bool}(hsz:listed.size=ops.size)(hr:Region.ready .any ops listed=[]):∀i∈π,listed.getD i false=true:=by
 have key:∀(m:Nat) (d1 d2:List Nat),d1.length=m->π=d1++d2->∀k∈d1,listed.getD k false=true:=by
  intro m
  induction m with
  | zero=>intro d1 d2 hm _ k hk;rw[ybT.1 hm]at hk;simp at hk
  | succ m ih =>
   intro d1 d2 hm hs k hk
   rcases ybM d1 with rfl|⟨d,z,rfl⟩
   .simp at hm
   .have hd:=ih d (z::d2) (by simpa using hm) (by rw[hs];simp)
    simp only[List.concat_eq_append,ybh,List.mem_singleton]at hk
    rcases hk with hk|rfl
    .exact hd k hk
    .cases hq:listed.getD k false with
     | true=>rfl
     | false =>
      have hlt:k<ops.size:=O.lt k (by rw[hs];simp)
      have:k∈Region.ready .any ops listed:=by
       rw[mem_ready]
       refine⟨?_,ops[k],yar hlt,λe he hb=>?_⟩
       .have hk':k<listed.size:=by omega
        simp only[ybz,hk']at hq ⊢
        exact hq
       .exact hd _ (O.edges d k d2 _ e (by rw[hs];simp) (yar hlt) (by simpa using he) hb)
      rw[hr]at this;simp at this
 exact key π.length π [] rfl (by simp)
end
section
variable {P : Program} {G : Env} {n : Nat} {ops : Array Oper} {A : Array Nat} {π : List Nat} {Q : AQ} {a0 : Nat -> AV} {D : List Deferred} {M0 : Mp} {F0 : Nat -> FSt} {w0 : World}
theorem zhI(O:zfU n ops A π){L:Nat->Bool}{done rest:List Nat}{val:Nat->AV}{J:AS}(h:zeY P G n ops A π Q a0 L done rest val J){d1 d2:List Nat}{i:Nat}{o:Oper}(hs:π=d1++i::d2)(ho:ops[i]?=some o)
  (hLi:L i=false) (hready:∀e∈o.after.toList,zas e=true->L e.on=true) (hd:∃q,done=d1++q) {M:Mp} {w:World} {ac:Act} (g:GOk P G M J.F w) (f:Fr M J.F w (afr ops val (done.filter L) a0) ac n) :
  (∀x∈o.op.operands,VR M J.F w (ev G (afr ops val d1 a0) x) (ac.eval x))/\∀gd,zbj ops o=some gd->∀d want,gd=some (d,want)->VR M J.F w (afr ops val d1 a0 d) (ac.tmps.getD d undef):=by
 refine⟨λx hx=>?_,λgd hg d want hgd=>?_⟩
 .rw[<-znY (a:=afr ops val (done.filter L) a0) λt ht=>zAD O h hs ho hLi hready hd (zgq hx ht)]
  exact zlq g f x
 .rw[<-zAD O h hs ho hLi hready hd (zjd hg hgd)]
  exact f.val d
theorem QEv.again{o:Oper}{a:Nat->AV}{J J':AS}{v:AV}(h:QEv P G o a J v)(hl:∀t x,o.op=.load t x->zcH P t (ev G a x) J' λu=>u=v):QEv P G o a J' v:=by
 rcases h with h|⟨t,x,ho,_⟩
 .exact .inl h
 .exact .inr ⟨t,x,ho,hl t x ho⟩
theorem zqf{e:Nat}{a:Nat->AV}{J:AS}:∀(l:List Nat),zeG P G a J (zdF ops A e l)->∀j∈l,∀(o:Oper) t x d g,ops[j]?=some o->o.op=.load t x->o.dst=some d->zbj ops o=some g->zaV A j e=false ->
  zbt a g (zcH P t (ev G a x) J λv=>v=a d) True:=by
 intro l
 induction l with
 | nil=>intro _ j hj;simp at hj
 | cons k r ih =>
  intro h j hj o t x d g ho hop hd hg hah
  rcases ybD.1 hj with rfl|hj
  .simp only[zdF,ho,hop,hd,hg,hah]at h
   exact h.1
  .refine ih ?_ j hj o t x d g ho hop hd hg hah
   simp only[zdF]at h
   split at h
   .split at h
    .split at h
     .exact h
     .exact h.2
    .exact h
   .exact h
theorem zqg{ro:Option Nat}(O:zfU n ops A π):∀(fuel:Nat) (listed:Array Bool) (done rest:List Nat) (val:Nat->AV) (J:AS) (M:Mp) (w:World) (ac:Act),
  listed.size=ops.size->(π.filter λk=>!(listed.getD k false)).length=fuel->zeY P G n ops A π Q a0 (λk=>listed.getD k false) done rest val J->zAC ops rest ->
  Sim M J w->GOk P G M J.F w->Ext M0 F0 w0 M J.F w->Fr M J.F w (afr ops val (done.filter λk=>listed.getD k false) a0) ac n->ac.defers=D ->
  wpAnyIn (zaI ro) 0 P .any ops (QC P G n D M0 F0 w0 Q) fuel listed ac w:=by
 intro fuel
 induction fuel with
 | zero =>
  intro listed done rest val J M w ac hsz hfu hst hhd S g E f hD
  have hall:∀i∈π,listed.getD i false=true:=by
   intro i hi
   have:=ybT.1 hfu
   rw[ybU]at this
   simpa using this i hi
  refine⟨?_,_,_,J,M,hst.done_all O hall,trivial,S,g,E,f,hD⟩
  rw[ybV]
  intro i hi
  rw[mem_ready]at hi
  obtain⟨h1,o,ho,_⟩:=hi
  have hlt:=(yaU.1 ho).1
  have h2:=hall i (O.all i hlt)
  have hlt':i<listed.size:=by omega
  rw[ybA,yar hlt']at h1 h2
  simp only[Option.getD_some]at h1 h2
  rw[h2]at h1;cases h1
 | succ fuel ih =>
  intro listed done rest val J M w ac hsz hfu hst hhd S g E f hD
  refine⟨λhr=>⟨_,_,J,M,hst.done_all O (zlx O hsz hr),trivial,S,g,E,f,hD⟩,λi hi=>?_⟩
  rw[mem_ready]at hi
  obtain⟨h1,o,ho,hready0⟩:=hi
  have hready:∀e∈o.after.toList,zas e=true->listed.getD e.on false=true:=λe he hb=>hready0 e (by simpa using he) hb
  have hlt:=(yaU.1 ho).1
  have hlt':i<listed.size:=by omega
  have hLi:listed.getD i false=false:=by
   simp only[ybz,hlt']at h1 ⊢
   exact h1
  have hLset:(λk=>(listed.setIfInBounds i true).getD k false)=upd (λk=>listed.getD k false) i true:=by
   funext k
   by_cases hk:k=i
   .subst hk;rw[zc];simp[ybz,hlt']
   .rw[zd _ _ hk]
    simp only[ybA]
    rw[yaJ (Ne.symm hk)]
  have hsz':(listed.setIfInBounds i true).size=ops.size:=by simpa using hsz
  have hfu':(π.filter λk=>!((listed.setIfInBounds i true).getD k false)).length=fuel:=by
   have:=zqe O.nodup (L:=λk=>listed.getD k false) (O.all i hlt) hLi
   have e2:(λk=>!((listed.setIfInBounds i true).getD k false))=λk=>!(upd (λk=>listed.getD k false) i true) k:=by funext k;rw[<-hLset]
   rw[e2]
   omega
  have hclosed':∀j (oj:Oper),upd (λk=>listed.getD k false) i true j=true->ops[j]?=some oj->∀e∈oj.after.toList,zas e=true->upd (λk=>listed.getD k false) i true e.on=true:=by
   intro j oj hj hoj e he hb
   have key:listed.getD e.on false=true:=by
    by_cases hji:j=i
    .subst hji;rw[ho]at hoj;cases hoj;exact hready e he hb
    .rw[zd _ _ hji]at hj;exact hst.closed j oj hj hoj e he hb
   by_cases hei:e.on=i
   .rw[hei,zc]
   .rw[zd _ _ hei];exact key
  have hnd:(done++rest).Nodup:=by rw[<-hst.split];exact O.nodup
  unfold wpOpIn
  rw[ho]
  simp only
  by_cases hid:i∈done
  . -- a quiet operation that has been looked at
   obtain⟨d1,d2,hdone⟩:=ybK hid
   have hs:π=d1++i::(d2++rest):=by rw[hst.split,hdone];simp
   obtain⟨hops,hgs⟩:=zhI O hst hs ho hLi hready ⟨i::d2,hdone⟩ g f
   obtain⟨gd,hgd,hcase⟩:=hst.pend d1 i d2 o hdone ho hLi
   obtain⟨hn1,hn2⟩:=zdJ (l:=d1) (m:=d2) (by rw[<-hdone];exact(ybL.1 hnd).1)
   -- the frame behind it
   have hfr:∀t,afr ops val (done.filter (upd (λk=>listed.getD k false) i true)) a0 t=put (afr ops val (done.filter λk=>listed.getD k false) a0) o.dst (val i) t:=by
    intro t
    have e1:done.filter (upd (λk=>listed.getD k false) i true)=d1.filter (λk=>listed.getD k false)++i::d2.filter λk=>listed.getD k false:=by
     rw[hdone,ybO,ybH (by rw[zc]),zfV hn1,zfV hn2]
    have e2:done.filter (λk=>listed.getD k false)=d1.filter (λk=>listed.getD k false)++d2.filter λk=>listed.getD k false:=by
     rw[hdone,ybO,ybI (by rw[hLi];simp)]
    rw[e1,e2,zaN,zaN]
    simp only[afr,za7 ho]
    by_cases ht:o.dst=some t
    .rw[zfl,ht,zqb,zqb]
     intro k hk
     simp only[ybP]at hk
     refine zeX O ho (λe=>hn2 (e▸hk.1)) ?_ ?_ (.inr ht)
     .cases hz:zaV A k i with
      | false=>rfl
      | true =>
       have hk1:=zdG O d1.length d1 i (d2++rest) k rfl hs hz
       have:=(ybL.1 hnd).1
       rw[hdone,ybL]at this
       exact absurd rfl (this.2.2 k hk1 k (by simp[hk.1]))
     .cases hz:zaV A i k with
      | false=>rfl
      | true =>
       obtain⟨x,y,hxy⟩:=zdH O (O.lt k (by rw[hst.split,hdone];simp[hk.1]))
       have hkl:k<ops.size:=O.lt k (by rw[hst.split,hdone];simp[hk.1])
       have:=zfm O hst.closed x.length x k y i _ rfl hxy (yar hkl) (λe he hb=>hst.closed k _ hk.2 (yar hkl) e he hb) hz
       rw[hLi]at this;cases this
    .rw[zjb ht]
     exact zhH _ _ _ t (zjb ht)
   have hstage:zeY P G n ops A π Q a0 (λk=>(listed.setIfInBounds i true).getD k false) done rest val J:=by
    rw[hLset]
    refine⟨hst.split,hclosed',λj hj=>?_,λj hj oj hoj hEj=>?_,λe1 j e2 oj hs' hoj hLj=>?_,hst.vc⟩
    .by_cases hji:j=i
     .rw[hji];exact hid
     .rw[zd _ _ hji]at hj;exact hst.sub j hj
    .by_cases hji:j=i
     .rw[hji,zc]
     .rw[zd _ _ hji];exact hst.eL j hj oj hoj hEj
    .by_cases hji:j=i
     .rw[hji,zc]at hLj;cases hLj
     .rw[zd _ _ hji]at hLj;exact hst.pend e1 j e2 oj hs' hoj hLj
   have hgo:∀(v':Value) (M':Mp) (w':World),VR M' J.F w' (val i) v'->Sim M' J w'->Ext M J.F w M' J.F w'->wpAnyIn (zaI ro) 0 P .any ops (QC P G n D M0 F0 w0 Q) fuel (listed.setIfInBounds i true) (ac.put o.dst v') w':=by
    intro v' M' w' hv S' E'
    refine ih _ done rest val J M' w' _ hsz' hfu' hstage hhd S' (g.mono E') (E.trans E') ?_ (by rw[zaM,hD])
    have f':=(f.mono E').put (O.dst i o ho) hv
    rw[hLset]
    exact⟨f'.size,λt=>by rw[hfr t];exact f'.val t⟩
   rcases hcase with ⟨hc,hq⟩|⟨hc,hv0⟩
   .rcases zc0 hgd (hgs gd hgd) hc with ⟨hw,_⟩|⟨_,hw⟩
    .rw[if_pos hw]
     obtain⟨v',M',w',hr,hv,E',S'⟩:=hq.run S hops
     refine⟨λ_ _=>trivial,?_⟩
     rw[o.semAt_eq _ _ hq.nodefer,hr,Oper.uponIn_value]
     exact hgo v' M' w' hv S' E'
    .exact hw.elim
   .rcases zc0 hgd (hgs gd hgd) hc with ⟨_,hw⟩|⟨hw,_⟩
    .exact hw.elim
    .rw[if_neg (by rw[hw];simp)]
     refine⟨λ_ _=>trivial,?_⟩
     exact hgo undef M w (by rw[hv0];exact zfj ..) S (.refl ..)
  . -- the call or store that stands first
   have hirest:i∈rest:=by
    have:=O.all i hlt
    rw[hst.split,ybh]at this
    exact this.resolve_left hid
   obtain⟨e,r,oe,hrest,hoe,hEe⟩:∃e r,∃oe:Oper,rest=e::r/\ops[e]?=some oe/\isE oe=true:=by
    rcases hhd with h|h
    .rw[h]at hirest;simp at hirest
    .exact h
   have hie:i=e:=by
    rw[hrest]at hirest
    rcases ybD.1 hirest with h|h
    .exact h
    .exfalso
     have hah:=O.late done e r oe i (by rw[hst.split,hrest]) hoe hEe h
     obtain⟨x,y,hxy⟩:=zdH O hlt
     have hLe:=zfm O hst.closed x.length x i y e o rfl hxy ho hready hah
     have:=hst.sub e hLe
     rw[hrest]at hnd
     exact(zdJ hnd).1 this
   subst hie
   rw[ho]at hoe;cases hoe
   subst hrest
   have hs:π=done++i::r:=hst.split
   obtain⟨hops,hgs⟩:=zhI O hst hs ho hLi hready ⟨[],by simp⟩ g f
   obtain⟨pl,hpl,hvc⟩:=hst.vc
   simp only[zaO,ho,zhG]at hpl
   cases hg:zbj ops o with
   | none=>simp[hg]at hpl
   | some gd =>
    cases hr:zaO ops A (done++[i]) r with
    | none=>simp[hg,hr]at hpl
    | some pr =>
     simp[hg,hr,hEe]at hpl
     subst hpl
     simp only[zfd]at hvc
     -- what goes on behind it
     have hgo:∀(v:AV) (v':Value) (J':AS) (M':Mp) (w':World),zfd P G Q pr (put (afr ops val done a0) o.dst v) J'->VR M' J'.F w' v v'->Sim M' J' w'->GOk P G M' J'.F w'->Ext M J.F w M' J'.F w' ->
       (∀d1 j d2 (oj:Oper),done=d1++j::d2->ops[j]?=some oj->listed.getD j false=false->zEy P G ops oj (afr ops val d1 a0) J' (val j)) ->
       wpAnyIn (zaI ro) 0 P .any ops (QC P G n D M0 F0 w0 Q) fuel (listed.setIfInBounds i true) (ac.put o.dst v') w':=by
      intro v v' J' M' w' hvc' hv S' g' E' hpend
      have hval:∀j∈done,val j=upd val i v j:=λj hj=>(zd _ _ (by rintro rfl;exact hid hj)).symm
      have hst1:zeY P G n ops A π Q a0 (upd (λk=>listed.getD k false) i true) (done++[i]) r (upd val i v) J':=by
       refine⟨by rw[hs];simp,hclosed',λj hj=>?_,λj hj oj hoj hEj=>?_,λe1 j e2 oj hs' hoj hLj=>?_,pr,hr,?_⟩
       .by_cases hji:j=i
        .rw[hji];simp
        .rw[zd _ _ hji]at hj;simp[hst.sub j hj]
       .rcases ybh.1 hj with hj|hj
        .by_cases hji:j=i
         .rw[hji,zc]
         .rw[zd _ _ hji];exact hst.eL j hj oj hoj hEj
        .simp at hj;rw[hj,zc]
       .rcases ybM e2 with rfl|⟨e2',z,rfl⟩
        .obtain⟨_,h2⟩:=ybN hs' (by simp)
         simp at h2
         rw[<-h2,zc]at hLj;cases hLj
        .have q1:done++[i]=(e1++j::e2')++[z]:=by rw[hs'];simp
         obtain⟨q2,_⟩:=ybN q1 (by simp)
         have hj1:∀k∈e1,val k=upd val i v k:=λk hk=>hval k (by rw[q2];simp[hk])
         rw[<-zdI e1 a0 hj1,<-hval j (by rw[q2];simp)]
         have hji:j≠i:=by rintro rfl;exact hid (by rw[q2];simp)
         rw[zd _ _ hji]at hLj
         exact hpend e1 j e2' oj q2 hoj hLj
       .rw[zaN,<-zdI done a0 hval]
        simp only[afr,zc,za7 ho]
        exact hvc'
      obtain⟨done',rest',val',k1,k2,⟨q,k3,k4⟩,k5⟩:=zeY.norm O r (done++[i]) (upd val i v) J' hst1
      have hstage:zeY P G n ops A π Q a0 (λk=>(listed.setIfInBounds i true).getD k false) done' rest' val' J':=by rw[hLset];exact k1
      refine ih _ done' rest' val' J' M' w' _ hsz' hfu' hstage k2 S' g' (E.trans E') ?_ (by rw[zaM,hD])
      have f':=(f.mono E').put (O.dst i o ho) hv
      rw[hLset]
      have e1:done'.filter (upd (λk=>listed.getD k false) i true)=done.filter (λk=>listed.getD k false)++[i]:=by
       rw[k3,ybO,ybO,zfV hid,ybH (by rw[zc])]
       rw[show q.filter (upd (λk=>listed.getD k false) i true)=[] from by
        rw[ybU];intro j hj;rw[k4 j hj];simp]
       simp
      have e2:∀j∈done.filter (λk=>listed.getD k false)++[i],val' j=upd val i v j:=by
       intro j hj
       refine k5 j ?_
       rcases ybh.1 hj with hj|hj
       .exact ybh.2 (.inl ((ybP.1 hj).1))
       .exact ybh.2 (.inr hj)
      refine⟨f'.size,λt=>?_⟩
      rw[e1,zdI _ a0 e2,zaN]
      simp only[afr,zc,za7 ho]
      rw[<-zdI (done.filter λk=>listed.getD k false) a0 (λj hj=>hval j ((ybP.1 hj).1))]
      exact f'.val t
     rcases zc0 hg (hgs gd hg) hvc with ⟨hw,hop⟩|⟨hw,hno⟩
     .rw[if_pos hw]
      refine zlr (O.nx i o ho) hop S g E hops f.size hD λv v' J' M' w' hK hv S' g' E'=>?_
      refine hgo v v' J' M' w' hK.2 hv S' g' E' λd1 j d2 oj hdn hoj hLj=>?_
      obtain⟨gj,hgj,hcase⟩:=hst.pend d1 j d2 oj hdn hoj hLj
      refine⟨gj,hgj,?_⟩
      rcases hcase with ⟨hc,hq⟩|hc
      .refine .inl ⟨hc,hq.again λt x hox=>?_⟩
       have hah:zaV A j i=false:=by
        cases hz:zaV A j i with
        | false=>rfl
        | true =>
         have:=zfm O hst.closed done.length done i r j o rfl hs ho hready hz
         rw[hLj]at this;cases this
       obtain⟨d,hdj,hkeep⟩:=O.keep d1 j d2 i r oj o t x (by rw[hs,hdn];simp) hoj hox ho hEe hah
       have hmem:=zqf done hK.1 j (by rw[hdn];simp) oj t x d gj hoj hox hdj hgj hah
       -- the slots are as they were
       have hslot:∀s∈zbS ops oj,put (afr ops val done a0) o.dst v s=afr ops val d1 a0 s:=by
        intro s hs1
        rw[zjb (by have:=(hkeep i (by simp)).1 s hs1;rwa [za7 ho]at this)]
        rw[hdn,zaN]
        exact zfl s (j::d2) _ λk hk=>(hkeep k (by rcases ybD.1 hk with h|h<;>simp[h])).1 s hs1
       have hji:j≠i:=by rintro rfl;exact hid (by rw[hdn];simp)
       have hdst:put (afr ops val done a0) o.dst v d=val j:=by
        rw[zjb (by have:=(hkeep i (by simp)).2 (Ne.symm hji);rwa [za7 ho]at this)]
        rw[hdn,zaN]
        simp only[afr,za7 hoj,hdj]
        rw[zfl d d2 _ λk hk=>?_,zqb]
        refine(hkeep k (by simp[hk])).2 ?_
        rintro rfl
        have hn:=(ybL.1 hnd).1
        rw[hdn]at hn
        exact(zdJ hn).2 hk
       have hcc:zbt (put (afr ops val done a0) o.dst v) gj True False:=by
        rw[zmT (b:=afr ops val d1 a0) λd' w' hgw=>hslot d' (zjd hgj hgw)]
        exact hc
       have h2:=zqd hcc hmem
       rw[hdst,znY (b:=afr ops val d1 a0) λt' ht'=>hslot t' (zgq (by rw[hox];simp[Op.operands]) ht')]at h2
       exact h2
      .exact .inr hc
     .rw[if_neg (by rw[hw];simp)]
      refine⟨λ_ _=>trivial,?_⟩
      exact hgo (.tuple []) undef J M w hno (zfj ..) S g (.refl ..) (λd1 j d2 oj hdn hoj hLj=>hst.pend d1 j d2 oj hdn hoj hLj)
end
def znZ(ops:Array Oper):List Nat->List Nat->Bool
  | _,[]=>true
  | done,i::r =>
    (match ops[i]? with
     | some o=>o.after.toList.all λe=>!(zas e)||done.elem e.on
     | none=>true)&&znZ ops (done++[i]) r
theorem zhJ{ops:Array Oper}:∀(rest done:List Nat),znZ ops done rest=true->∀d1 i d2 (o:Oper) (e:Edge),rest=d1++i::d2->ops[i]?=some o->e∈o.after.toList->zas e=true->e.on∈done++d1
 | [],_,_,d1,i,d2,_,_,hs,_,_,_=>by simp at hs
 | x::r,done,h,d1,i,d2,o,e,hs,ho,he,hb=>by
  simp only[znZ,Bool.and_eq_true]at h
  cases d1 with
  | nil =>
   simp at hs
   obtain⟨rfl,rfl⟩:=hs
   rw[ho]at h
   have:=yaM.1 h.1 e he
   rw[hb]at this
   simp at this
   simpa using this
  | cons y d1 =>
   simp at hs
   obtain⟨rfl,hs⟩:=hs
   have:=zhJ r (done++[x]) h.2 d1 i d2 o e hs ho he hb
   simpa using this
def zsA(ops:Array Oper)(A:Array Nat):List Nat->Bool
  | []=>true
  | e::r =>
    (match ops[e]? with
     | some o=>!(isE o)||r.all λi=>zaV A e i
     | none=>true)&&zsA ops A r
theorem zje{ops:Array Oper}{A:Array Nat}:∀(l:List Nat),zsA ops A l=true->∀d1 e d2 (oe:Oper) i,l=d1++e::d2->ops[e]?=some oe->isE oe=true->i∈d2->zaV A e i=true
 | [],_,d1,e,d2,_,_,hs,_,_,_=>by simp at hs
 | x::r,h,d1,e,d2,oe,i,hs,ho,hE,hi=>by
  simp only[zsA,Bool.and_eq_true]at h
  cases d1 with
  | nil =>
   simp at hs
   obtain⟨rfl,rfl⟩:=hs
   have h1:=h.1
   rw[ho]at h1
   simp only[hE,Bool.not_true,Bool.false_or]at h1
   exact yaM.1 h1 i hi
  | cons y d1 =>
   simp at hs
   obtain⟨rfl,hs⟩:=hs
   exact zje r h.2 d1 e d2 oe i hs ho hE hi
def zqh(ops:Array Oper)(A:Array Nat)(e:Nat):List Nat->Bool
  | []=>true
  | j::r =>
    (match ops[j]? with
     | some o=>!(zlt o.op)||zaV A j e ||
        (match o.dst with
         | some d=>(j::(r++[e])).all λk=>(match zex ops k with|some s=>!((zbS ops o).elem s)&&(k==j||!(s==d))|none=>true)
         | none=>false)
     | none=>true)&&zqh ops A e r
theorem zjf{ops:Array Oper}{A:Array Nat}{e:Nat}:∀(l:List Nat),zqh ops A e l=true->∀d1 j d2 (oj:Oper) t x,l=d1++j::d2->ops[j]?=some oj->oj.op=.load t x->zaV A j e=false ->
  ∃d,oj.dst=some d/\∀k∈j::(d2++[e]),(∀s∈zbS ops oj,zex ops k≠some s)/\(k≠j->zex ops k≠some d)
 | [],_,d1,j,d2,_,_,_,hs,_,_,_=>by simp at hs
 | y::r,h,d1,j,d2,oj,t,x,hs,ho,hop,hah=>by
  simp only[zqh,Bool.and_eq_true]at h
  cases d1 with
  | nil =>
   simp at hs
   obtain⟨rfl,rfl⟩:=hs
   have h1:=h.1
   rw[ho]at h1
   simp only[hop,zlt,hah,Bool.not_true,Bool.false_or]at h1
   cases hd:oj.dst with
   | none=>rw[hd]at h1;cases h1
   | some d =>
    rw[hd]at h1
    refine⟨d,rfl,λk hk=>?_⟩
    have:=yaM.1 h1 k hk
    cases hdk:zex ops k with
    | none=>exact⟨(λ_ _ h=>by cases h),(λ_ h=>by cases h)⟩
    | some s =>
     rw[hdk]at this
     simp only[Bool.and_eq_true,Bool.not_eq_true',Bool.or_eq_true,beq_iff_eq]at this
     refine⟨λs' hs' h=>?_,λhkj h=>?_⟩
     .cases h
      rw[ybW]at this
      have:=this.1
      simp[hs']at this
     .cases h
      rcases this.2 with h|h
      .exact hkj h
      .simp at h
  | cons z d1 =>
   simp at hs
   obtain⟨rfl,hs⟩:=hs
   exact zjf r h.2 d1 j d2 oj t x hs ho hop hah
def zsB(ops:Array Oper)(A:Array Nat):List Nat->List Nat->Bool
  | _,[]=>true
  | done,e::r =>
    (match ops[e]? with
     | some o=>!(isE o)||zqh ops A e done
     | none=>true)&&zsB ops A (done++[e]) r
theorem zjg{ops:Array Oper}{A:Array Nat}:∀(rest done:List Nat),zsB ops A done rest=true->∀d1 e d3 (oe:Oper),rest=d1++e::d3->ops[e]?=some oe->isE oe=true->zqh ops A e (done++d1)=true
 | [],_,_,d1,e,d3,_,hs,_,_=>by simp at hs
 | x::r,done,h,d1,e,d3,oe,hs,ho,hE=>by
  simp only[zsB,Bool.and_eq_true]at h
  cases d1 with
  | nil =>
   simp at hs
   obtain⟨rfl,rfl⟩:=hs
   have h1:=h.1
   rw[ho]at h1
   simpa [hE]using h1
  | cons y d1 =>
   simp at hs
   obtain⟨rfl,hs⟩:=hs
   have:=zjg r (done++[x]) h.2 d1 e d3 oe hs ho hE
   simpa using this
def zAE(ops:Array Oper)(A:Array Nat):Bool :=
 (ya7 ops.size).all λi =>
  match zex ops i with
  | some t=>(ya7 ops.size).all λj=>(i==j)||(match ops[j]? with|some oj=>!((zbS ops oj).elem t||oj.dst==some t)||zaV A i j||zaV A j i|none=>true)
  | none=>true
def zn0:List Nat->Bool
 | []=>true
 | x::r=>!(r.elem x)&&zn0 r
theorem zhK:∀(l:List Nat),zn0 l=true->l.Nodup
 | [],_=>List.nodup_nil
 | x::r,h=>by
  simp only[zn0,Bool.and_eq_true,Bool.not_eq_true']at h
  rw[ybR]
  refine⟨λhm=>?_,zhK r h.2⟩
  rw[ybW]at h
  simp[hm]at h
def zEz(n:Nat)(ops:Array Oper)(A:Array Nat)(π:List Nat):Bool :=
 zlu ops A&&zn0 π&&(ya7 ops.size).all (λi=>π.elem i)&&π.all (λi=>decide (i<ops.size))&&znZ ops [] π&&zAE ops A&&zsA ops A π&&zsB ops A [] π &&
 (ops.toList.all λo=>ziS n o.dst&&(zb0 o.op).isNone)&&Region.noSelect ops
theorem zly{n:Nat}{ops:Array Oper}{A:Array Nat}{π:List Nat}(h:zEz n ops A π=true):zfU n ops A π:=by
 simp only[zEz,Bool.and_eq_true]at h
 obtain⟨⟨⟨⟨⟨⟨⟨⟨⟨h1,h2⟩,h3⟩,h4⟩,h5⟩,h6⟩,h7⟩,h8⟩,h9⟩,h10⟩:=h
 refine⟨h1,zhK π h2,λi hi=>?_,λi hi=>?_,λd1 i d2 o e hs ho he hb=>?_,λi j oi oj t hne hoi hoj hd ht=>?_,zje π h7,λi o ho=>?_,λi o ho=>?_,λd1 j d2 e d3 oj oe t x hs hoj hop hoe hE hah=>?_,h10⟩
 .have:=yaM.1 h3 i (by simpa using hi)
  simpa using this
 .have:=yaM.1 h4 i hi
  simpa using this
 .have:=zhJ π [] h5 d1 i d2 o e hs ho he hb
  simpa using this
 .have hi:i<ops.size:=(yaU.1 hoi).1
  have hj:j<ops.size:=(yaU.1 hoj).1
  have:=yaM.1 h6 i (by simpa using hi)
  rw[show zex ops i=some t by simp[zex,hoi,hd]]at this
  have:=yaM.1 this j (by simpa using hj)
  rw[hoj]at this
  simp only[Bool.or_eq_true,Bool.not_eq_true',beq_iff_eq]at this
  rcases this with h|h
  .exact absurd h hne
  .rcases h with (h|h)|h
   .exfalso
    rw[Bool.or_eq_false_iff]at h
    rcases ht with ht|ht
    .rw[ybW]at h
     simp[ht]at h
    .rw[ht]at h;simp at h
   .exact .inl h
   .exact .inr h
 .have:=yaM.1 h9 o (by
   obtain⟨hi,he⟩:=yaU.1 ho
   rw[<-he];simp)
  exact(Bool.and_eq_true _ _▸this).1
 .have:=yaM.1 h9 o (by
   obtain⟨hi,he⟩:=yaU.1 ho
   rw[<-he];simp)
  exact Option.isNone_iff_eq_none.1 (Bool.and_eq_true _ _▸this).2
 .have:=zjg π [] h8 (d1++j::d2) e d3 oe (by rw[hs];simp) hoe hE
  exact zjf _ (by simpa using this) d1 j d2 oj t x rfl hoj hop hah
def zqi(ops:Array Oper)(A:Array Nat):List Nat :=
 let es0:=(ya7 ops.size).filter λi=>match ops[i]? with|some o=>isE o|none=>false
 let qs:=(ya7 ops.size).filter λi=>match ops[i]? with|some o=>!(isE o)|none=>false
 let lev (i:Nat):Nat:=(es0.filter λe=>zaV A e i).length
 let es:=(ya7 es0.length).flatMap λk=>es0.filter λe=>lev e==k
 (ya7 (es.length+1)).flatMap λk=>(qs.filter λi=>lev i==k)++(es[k]?).toList
def zj9(ops:Array Oper)(A:Array Nat):Array Nat:=((ya7 ops.size).map λi=>match ops[i]? with
 | some o=>o.after.toList.foldl (λs e=>if zas e then s ||| 2^e.on ||| A.getD e.on 0 else s) 0
 | none=>0).toArray
def zwo(ops:Array Oper):Array Nat:=if zlu ops (Region.before ops)then Region.before ops else zj9 ops (zj9 ops (zj9 ops (Region.before ops)))
def zhL(n:Nat)(ops:Array Oper)(draw:Bool):Option (List PO) :=
 if draw then
  let A:=zwo ops
  let π:=zqi ops A
  if zEz n ops A π then zaO ops A [] π else none
 else zbk n ops ops.toList
theorem zgr{ops:Array Oper}{A:Array Nat}:∀(π done:List Nat) (pl:List PO),zaO ops A done π=some pl->∀i∈π,∀o:Oper,ops[i]?=some o->∀t,o.dst=some t->(pl.any λo=>o.dst==some t)=true
 | [],_,_,_,i,hi,_,_,_,_=>by cases hi
 | x::π,done,pl,hp,i,hi,o,ho,t,ht=>by
  simp only[zaO]at hp
  split at hp
  .rename_i ox hox
   simp only[zhG,ybB,ybC]at hp
   obtain⟨p,⟨gd,hgd,rfl⟩,pr,hpr,rfl⟩:=hp
   rcases ybD.1 hi with rfl|hi
   .rw[ho]at hox;cases hox
    simp[ht]
   .have:=zgr π _ pr hpr i hi o ho t ht
    simp only[ybE,this,Bool.or_true]
  .cases hp
theorem zdK{P:Program}{G:Env}{n:Nat}{ops:Array Oper}(hm:P.follows .mixedOrders=true){A:Array Nat}{π:List Nat}(O:zfU n ops A π){pl:List PO}(hp:zaO ops A [] π=some pl){Q:AQ}{a J}
  (h:zfd P G (zb1 (zdn pl a) Q) pl a J):∀{ro:Option Nat} {D:List Deferred} {M:Mp} {w:World} {ac:Act},Sim M J w->GOk P G M J.F w->Fr M J.F w a ac n->ac.defers=D ->
   wpAnyIn (zaI ro) 0 P .any ops (zo2 (λt=>pl.any λo=>o.dst==some t) ac (QC P G n D M J.F w (zb1 (zdn pl a) Q))) ops.size (ybX ops.size false) ac { w with drawn:=w.drawn+1 }:=by
 intro ro D M w ac S g f hD
 have h0:∀k,(ybX ops.size false).getD k false=false:=by
  intro k;rw[ybA,ybY];split<;>rfl
 have hst:zeY P G n ops A π (zb1 (zdn pl a) Q) a (λk=>(ybX ops.size false).getD k false) [] π (λ_=>.undef) J:=by
  refine⟨rfl,λi o hi=>?_,λi hi=>?_,λi hi=>by simp at hi,λd1 i d2 o hs=>by simp at hs,pl,hp,h⟩
  .rw[h0]at hi;cases hi
  .simp only[h0]at hi;cases hi
 obtain⟨done,rest,val,k1,k2,⟨q,k3,k4⟩,k5⟩:=zeY.norm O π [] _ J hst
 have hE:Ext M J.F w M J.F { w with drawn:=w.drawn+1 }:=.of_heap rfl ⟨rfl,rfl,rfl⟩
 refine zcr (W:=λt=>pl.any λo=>o.dst==some t) (a0:=ac) (λi o ho t ht=>zgr _ _ _ hp i (O.all i (yaU.1 ho).1) o ho t ht) _ _ _ _ (zc1.refl _ _) (zqg O ops.size _ done rest val J M { w with drawn:=w.drawn+1 } ac (by simp) ?_ k1 k2 (S.of_heap rfl ⟨rfl,rfl,rfl⟩) (g.mono hE) (M0:=M) (F0:=J.F) (w0:=w) hE ?_ hD)
 .have:(π.filter λk=>!((ybX ops.size false).getD k false))=π:=ybS.2 λi _=>by rw[h0];rfl
  rw[this]
  have hp1:π.Perm (ya7 ops.size):=by
   refine(List.perm_ext_iff_of_nodup O.nodup List.nodup_range).2 λi=>⟨λhi=>by simpa using O.lt i hi,λhi=>O.all i (by simpa using hi)⟩
  simpa using hp1.length_eq
 .have:(done.filter λk=>(ybX ops.size false).getD k false)=[]:=ybU.2 λi _=>by rw[h0];simp
  rw[this]
  exact⟨f.size,λt=>(f.val t).mono hE⟩
theorem zmU{P:Program}{G:Env}{n id:Nat}{ops:Array Oper}(hm:P.follows .mixedOrders=true){A:Array Nat}{π:List Nat}(O:zfU n ops A π){pl:List PO}(hp:zaO ops A [] π=some pl){Q:AQ}{a J}
  (h:zfd P G (zb1 (zdn pl a) Q) pl a J):AWp P G n (.region id ops true) Q a J:=by
 intro ro D M0 F0 w0 M w ac S g E f hD
 exact wpIn_mono (wpIn_region_any hm (zdK hm O hp h S g f hD)) λ_ _ _ hq=>zwn E f hq
theorem zlz{P:Program}{G:Env}{n id:Nat}{ops:Array Oper}{draw:Bool}(hm:P.follows .mixedOrders=true){pl:List PO}(hp:zhL n ops draw=some pl){Q:AQ}{a J}(h:zfd P G (zb1 (zdn pl a) Q) pl a J):
  AWp P G n (.region id ops draw) Q a J:=by
 unfold zhL at hp
 cases draw with
 | true =>
  simp only[if_true]at hp
  split at hp
  .exact zmU hm (zly ‹_›) hp h
  .cases hp
 | false=>exact zls hp h
def za3(ops:Array Oper)(c a:Nat):Array Oper:=ops.modify c λo=>{ o with after:=o.after.push ⟨a,.chain⟩ }
theorem zgs(ops c a):(za3 ops c a).size=ops.size:=by simp[za3]
theorem zc3(ops:Array Oper)(c a j:Nat):(za3 ops c a)[j]?=(ops[j]?).map λo=>if j=c then { o with after:=o.after.push ⟨a,.chain⟩ }else o:=by
 unfold za3
 rw[Array.getElem?_modify]
 by_cases h:c=j
 .subst h;simp
 .rw[if_neg h]
  have:¬j=c:=λe=>h e.symm
  simp[this]
def zfW(ops:Array Oper):Nat->Array Bool->List Nat->Prop
 | 0,_,L=>L=[]
 | f+1,listed,L=>(Region.ready .any ops listed=[]/\L=[])\/∃i rest,L=i::rest/\i∈Region.ready .any ops listed/\zfW ops f (listed.setIfInBounds i true) rest
theorem zqj{ops:Array Oper}:∀(fuel t:Nat) (listed:Array Bool),zfW ops fuel listed (Region.linearise.go .any ops fuel t listed [])
 | 0,t,listed=>by simp[zfW,Region.linearise.go]
 | fuel+1,t,listed=>by
  simp only[Region.linearise.go]
  change zfW ops (fuel+1) listed (match (Region.ready .any ops listed)[t%(Region.ready .any ops listed).length]? with
   | some i=>Region.linearise.go .any ops fuel (t/(Region.ready .any ops listed).length) (listed.setIfInBounds i true) [i]
   | none=>[].reverse)
  cases hi:(Region.ready .any ops listed)[t%(Region.ready .any ops listed).length]? with
  | none =>
   refine .inl ⟨?_,rfl⟩
   cases hr:Region.ready .any ops listed with
   | nil=>rfl
   | cons x xs =>
    rw[hr]at hi
    have hlt:t%(x::xs).length<(x::xs).length:=Nat.mod_lt _ (by simp)
    simp at hi
    simp at hlt
    omega
  | some i =>
   simp only[]
   rw[linearise_go_acc,List.reverse_singleton,List.singleton_append]
   exact .inr ⟨i,_,rfl,List.mem_of_getElem? hi,zqj fuel _ _⟩
theorem zn1{F:Fence}{n:Nat}{P:Program}{ops:Array Oper}{Q:Exit->Act->World->Prop}:∀(fuel:Nat) (listed:Array Bool) (L:List Nat) (a:Act) (w:World),wpAnyIn F n P .any ops Q fuel listed a w->zfW ops fuel listed L->wpOpsIn F n P ops Q L a w
 | 0,listed,L,a,w,h,hp=>by
  simp only[zfW]at hp
  subst hp
  exact h.2
 | fuel+1,listed,L,a,w,h,hp=>by
  rcases hp with ⟨h0,rfl⟩|⟨i,rest,rfl,hi,hr⟩
  .exact h.1 h0
  .rw[wpOpsIn_cons]
   exact wpOpIn_mono (λa w h=>zn1 fuel _ rest a w h hr) (h.2 i hi)
theorem zdL{ops:Array Oper}{c a j:Nat}{listed:Array Bool}(h:j∈Region.ready .any ops listed)(hj:j=c->listed.getD a false=true):j∈Region.ready .any (za3 ops c a) listed:=by
 rw[mem_ready]at h ⊢
 obtain⟨h1,o,ho,h2⟩:=h
 refine⟨h1,if j=c then { o with after:=o.after.push ⟨a,.chain⟩ }else o,by rw[zc3,ho];rfl,?_⟩
 intro e he hb
 by_cases hc:j=c
 .rw[if_pos hc]at he
  rcases ybZ.1 he with he|he
  .exact h2 e he hb
  .subst he;exact hj hc
 .rw[if_neg hc]at he
  exact h2 e he hb
theorem zqk{ops:Array Oper}{c a j:Nat}{listed:Array Bool}(h:j∈Region.ready .any (za3 ops c a) listed):j∈Region.ready .any ops listed:=by
 rw[mem_ready]at h ⊢
 obtain⟨h1,o,ho,h2⟩:=h
 rw[zc3]at ho
 obtain⟨o',ho',rfl⟩:=ybC.1 ho
 refine⟨h1,o',ho',λe he hb=>h2 e ?_ hb⟩
 by_cases hc:j=c
 .rw[if_pos hc];exact ybZ.2 (.inl he)
 .rw[if_neg hc];exact he
theorem zql{ops:Array Oper}{c a:Nat}{listed:Array Bool}(h:Region.ready .any ops listed=[]):Region.ready .any (za3 ops c a) listed=[]:=by
 rw[ybV]at h ⊢
 exact λj hj=>h j (zqk hj)
theorem zo3{listed:Array Bool}{i j:Nat}(h:listed.getD j false=true):(listed.setIfInBounds i true).getD j false=true:=by
 rw[ybA]at h ⊢
 rw[yb0]
 split
 .split
  .rfl
  .rename_i h1 h2
   rw[Array.getElem?_eq_none (by omega)]at h;simp at h
 .exact h
theorem zfX{ops:Array Oper}{c a:Nat}:∀(f:Nat) (listed:Array Bool) (L:List Nat),listed.getD a false=true->zfW ops f listed L->zfW (za3 ops c a) f listed L
 | 0,_,_,_,h=>h
 | f+1,listed,L,ha,h=>by
  rcases h with ⟨h0,rfl⟩|⟨i,rest,rfl,hi,hr⟩
  .exact .inl ⟨zql h0,rfl⟩
  .exact .inr ⟨i,rest,rfl,zdL hi λ_=>ha,zfX f _ rest (zo3 ha) hr⟩
theorem zjh{ops:Array Oper}{i:Nat}{listed:Array Bool}(hs:listed.size=ops.size)(h:i∈Region.ready .any ops listed):(listed.setIfInBounds i true).getD i false=true:=by
 rw[mem_ready]at h
 obtain⟨_,o,ho,_⟩:=h
 have:=(yaU.1 ho).1
 rw[ybA,yb0,if_pos rfl,if_pos (by omega)];rfl
theorem zji{ops:Array Oper}{c a:Nat}(hca:c≠a):∀(f:Nat) (listed:Array Bool) (L:List Nat),listed.size=ops.size->zfW ops f listed L->zfW (za3 ops c a) f listed L\/zfW (za3 ops a c) f listed L
 | 0,_,_,_,h=>.inl h
 | f+1,listed,L,hs,h=>by
  rcases h with ⟨h0,rfl⟩|⟨i,rest,rfl,hi,hr⟩
  .exact .inl (.inl ⟨zql h0,rfl⟩)
  .by_cases h1:i=a
   .subst h1
    exact .inl (.inr ⟨i,rest,rfl,zdL hi λe=>absurd e.symm hca,zfX f _ rest (zjh hs hi) hr⟩)
   .by_cases h2:i=c
    .subst h2
     exact .inr (.inr ⟨i,rest,rfl,zdL hi λe=>absurd e hca,zfX f _ rest (zjh hs hi) hr⟩)
    .rcases zji hca f _ rest (by simpa using hs) hr with k|k
     .exact .inl (.inr ⟨i,rest,rfl,zdL hi λe=>absurd e h2,k⟩)
     .exact .inr (.inr ⟨i,rest,rfl,zdL hi λe=>absurd e h1,k⟩)
theorem zmV(ops:Array Oper)(c a:Nat)(tmps:Array Value):yielded (za3 ops c a) tmps=yielded ops tmps:=by
 funext j
 unfold yielded
 have:((za3 ops c a)[j]?).bind (·.dst)=(ops[j]?).bind (·.dst):=by
  rw[zc3]
  cases ops[j]? with
  | none=>rfl
  | some o=>simp only[yaG,Option.bind_some];split<;>rfl
 rw[this]
theorem zhM{F:Fence}{n:Nat}{P:Program}{ops:Array Oper}{c a:Nat}{Q:Exit->Act->World->Prop}:∀(L:List Nat) (ac:Act) (w:World),wpOpsIn F n P (za3 ops c a) Q L ac w->wpOpsIn F n P ops Q L ac w
 | [],_,_,h=>h
 | i::L,ac,w,h=>by
  simp only[wpOpsIn]at h ⊢
  rw[zc3,zmV]at h
  cases ho:ops[i]? with
  | none=>rw[ho]at h;exact zhM L ac w h
  | some o =>
   rw[ho]at h
   simp only[yaG]at h ⊢
   have e1:∀y,Region.wanted (if i=c then { o with after:=o.after.push ⟨a,.chain⟩ }else o) y=Region.wanted o y:=λy=>by split<;>rfl
   have e2:∀K,(if i=c then { o with after:=o.after.push ⟨a,.chain⟩ }else o:Oper).wpIn F n P ac w K Q=o.wpIn F n P ac w K Q:=λK=>by split<;>rfl
   have e3:(if i=c then { o with after:=o.after.push ⟨a,.chain⟩ }else o:Oper).about P w ac.eval=o.about P w ac.eval:=by split<;>rfl
   have e4:(if i=c then { o with after:=o.after.push ⟨a,.chain⟩ }else o:Oper).dst=o.dst:=by split<;>rfl
   rw[e1,e2,e3,e4]at h
   split at h
   .rename_i hw
    rw[if_pos hw]
    exact Oper.wpIn_mono (λa w h=>zhM L a w h) h
   .rename_i hw
    rw[if_neg hw]
    exact⟨h.1,zhM L _ w h.2⟩
theorem zgK{F:Fence}{n:Nat}{P:Program}{id:Nat}{ops:Array Oper}{Q:Exit->Act->World->Prop}{a:Act}{w:World}
  (h:∀t,∃Q':Exit->Act->World->Prop,(∀e a w,Q' e a w->Q e a w)/\wpOpsIn F n P ops Q' (Region.schedule (P.follows .mixedOrders) ops t) a { w with drawn:=w.drawn+1 }):(Code.region id ops true).wpIn F n P Q a w :=
 λb k cs hro hb hr=>let ⟨_,hm,hq⟩:=h _;let ⟨e,a',w',q,r⟩:=wp_opsIn _ a _ hq b k cs hro hb hr;⟨e,a',w',hm _ _ _ q,.of_steps (.one (fenced_calm hb hr rfl) stepR_region_draw) r⟩
def zqm(ops:Array Oper)(A:Array Nat):Option (Nat × Nat) :=
 let es:=(ya7 ops.size).filter λi=>match ops[i]? with|some o=>isE o|none=>false
 (es.flatMap λi=>es.map λj=>(i,j)).find? λp=>decide (p.1<p.2)&&!(zaV A p.1 p.2)&&!(zaV A p.2 p.1)
def zjj(n:Nat):Nat->Array Oper->Option (List (List PO))
 | 0,ops=>(zhL n ops true).map λl=>[l]
 | k+1,ops=>match zhL n ops true with
  | some l=>some [l]
  | none=>match zqm ops (zwo ops)with
   | none=>none
   | some (i,j)=>if i=j then none else
    match zjj n k (za3 ops j i),zjj n k (za3 ops i j)with
    | some l1,some l2=>some (l1++l2)
    | _,_=>none
def zqn(n:Nat)(ops:Array Oper)(draw:Bool):Option (List (List PO)):=if draw then zjj n 4 ops else none
def zfY(P:Program)(G:Env)(Q:AQ)(a:Nat->AV)(J:AS):List (List PO)->Prop
 | []=>True
 | l::r=>zfd P G (zb1 (zdn l a) Q) l a J/\zfY P G Q a J r
theorem zdM{P:Program}{G:Env}{Q:AQ}{a J}:∀{l r:List (List PO)},zfY P G Q a J (l++r)->zfY P G Q a J l/\zfY P G Q a J r
 | [],_,h=>⟨trivial,h⟩
 | _::_,_,h=>⟨⟨h.1,(zdM h.2).1⟩,(zdM h.2).2⟩
theorem zlA{P:Program}{G:Env}{n:Nat}{ops:Array Oper}(hm:P.follows .mixedOrders=true){l:List PO}(hp:zhL n ops true=some l){Q:AQ}{a J}(h:zfd P G (zb1 (zdn l a) Q) l a J){ro:Option Nat}{D:List Deferred}{M0:Mp}{F0:Nat->FSt}{w0:World}{M:Mp}{w:World}{ac:Act}(S:Sim M J w)(g:GOk P G M J.F w)
  (E:Ext M0 F0 w0 M J.F w) (f:Fr M J.F w a ac n) (hD:ac.defers=D) {L:List Nat} (hL:zfW ops ops.size (ybX ops.size false) L) :
  ∃Q':Exit->Act->World->Prop,(∀e a w,Q' e a w->QC P G n D M0 F0 w0 Q e a w)/\wpOpsIn (zaI ro) 0 P ops Q' L ac { w with drawn:=w.drawn+1 }:=by
 unfold zhL at hp
 simp only[if_true]at hp
 split at hp
 .exact⟨_,λ_ _ _ hq=>zwn E f hq,zn1 _ _ _ _ _ (zdK hm (zly ‹_›) hp h (ro:=ro) S g f hD) hL⟩
 .cases hp
theorem zhN{P:Program}{G:Env}{n:Nat}(hm:P.follows .mixedOrders=true){Q:AQ}{a J}{ro:Option Nat}{D:List Deferred}{M0:Mp}{F0:Nat->FSt}{w0:World}{M:Mp}{w:World}{ac:Act}(S:Sim M J w)(g:GOk P G M J.F w)
  (E:Ext M0 F0 w0 M J.F w) (f:Fr M J.F w a ac n) (hD:ac.defers=D):∀(k:Nat) (ops:Array Oper) (ls:List (List PO)),zjj n k ops=some ls->zfY P G Q a J ls->∀L:List Nat,zfW ops ops.size (ybX ops.size false) L ->
  ∃Q':Exit->Act->World->Prop,(∀e a w,Q' e a w->QC P G n D M0 F0 w0 Q e a w)/\wpOpsIn (zaI ro) 0 P ops Q' L ac { w with drawn:=w.drawn+1 }
 | 0,ops,ls,hp,h,L,hL=>by
  simp only[zjj,ybC]at hp
  obtain⟨l,hl,rfl⟩:=hp
  exact zlA hm hl h.1 S g E f hD hL
 | k+1,ops,ls,hp,h,L,hL=>by
  simp only[zjj]at hp
  split at hp
  .rename_i l hl
   cases hp
   exact zlA hm hl h.1 S g E f hD hL
  .split at hp
   .cases hp
   .rename_i i j _
    split at hp
    .cases hp
    .rename_i hij
     split at hp
     .rename_i l1 l2 e1 e2
      cases hp
      obtain⟨h1,h2⟩:=zdM h
      rcases zji (ops:=ops) (c:=j) (a:=i) (λe=>hij e.symm) ops.size (ybX ops.size false) L (by simp) hL with q|q
      .obtain⟨Q',q1,q2⟩:=zhN hm (ro:=ro) S g E f hD k _ _ e1 h1 L (by rw[zgs];exact q)
       exact⟨Q',q1,zhM _ _ _ q2⟩
      .obtain⟨Q',q1,q2⟩:=zhN hm (ro:=ro) S g E f hD k _ _ e2 h2 L (by rw[zgs];exact q)
       exact⟨Q',q1,zhM _ _ _ q2⟩
     .cases hp
theorem zo4{P:Program}{G:Env}{n id:Nat}{ops:Array Oper}{draw:Bool}(hm:P.follows .mixedOrders=true){ls:List (List PO)}(hp:zqn n ops draw=some ls){Q:AQ}{a J}(h:zfY P G Q a J ls):
  AWp P G n (.region id ops draw) Q a J:=by
 unfold zqn at hp
 cases draw with
 | false=>simp at hp
 | true =>
  simp only[if_true]at hp
  intro ro D M0 F0 w0 M w ac S g E f hD
  refine zgK λt=>?_
  simp only[Region.schedule,hm,Bool.true_or,if_true]
  exact zhN hm S g E f hD 4 ops ls hp h _ (zqj ops.size t (ybX ops.size false))
inductive PC where
 | skip
 | ops (l:List PO)
 | both (ls:List (List PO))
 | seq (x y:PC)
 | cond (c:Operand) (x y:PC)
 | block (id:Nat) (c:PC)
 | loop (c:PC)
 | exit (id:Nat)
 | ret
def zcB(n:Nat):Code->Option PC
 | .skip=>some .skip
 | .region _ ops draw=>match zhL n ops draw with
  | some l=>some (.ops l)
  | none=>(zqn n ops draw).map .both
 | .seq x y=>(zcB n x).bind λp=>(zcB n y).map λq=>.seq p q
 | .cond c x y=>(zcB n x).bind λp=>(zcB n y).map λq=>.cond c p q
 | .block id c=>(zcB n c).map (.block id)
 | .loop c=>(zcB n c).map .loop
 | .exit id=>some (.exit id)
 | .ret=>some .ret
 | _=>none
def zka(P:Program)(G:Env)(n:Nat)(p:PC)(Q:AQ)(a:Nat->AV)(J:AS):Prop :=
 P.follows .mixedOrders=true->∀c,zcB n c=some p->AWp P G n (.loop c) Q a J
def avc(P:Program)(G:Env)(n:Nat):PC->AQ->(Nat->AV)->AS->Prop
 | .skip,Q,a,J=>Q .normal a J
 | .ops l,Q,a,J=>zfd P G (zb1 (zdn l a) Q) l a J
 | .both ls,Q,a,J=>zfY P G Q a J ls
 | .seq x y,Q,a,J=>avc P G n x (zbi (avc P G n y Q) Q) a J
 | .cond c x y,Q,a,J =>
  match ev G a c with
  | .bool b=>(b=true->avc P G n x Q a J)/\(b=false->avc P G n y Q a J)
  | _=>False
 | .block id c,Q,a,J=>avc P G n c (za6 id Q) a J
 | .loop c,Q,a,J=>zka P G n c Q a J
 | .exit id,Q,a,J=>Q (.exit id) a J
 | .ret,Q,a,J=>Q .ret a J
theorem zaj{P:Program}{G:Env}{n:Nat}(hm:P.follows .mixedOrders=true):∀(c:Code) (p:PC),zcB n c=some p->∀(Q:AQ) a J,avc P G n p Q a J->AWp P G n c Q a J:=by
 intro c
 induction c with
 | skip=>intro p hp Q a J h;simp[zcB]at hp;subst hp;exact λro D M0 F0 w0 M w ac S g E f hD=>wpIn_skip ⟨.normal,a,J,M,h,trivial,S,g,E,f,hD⟩
 | region id ops draw =>
  intro p hp Q a J h
  simp only[zcB]at hp
  split at hp
  .rename_i l hl
   cases hp
   exact zlz hm hl h
  .obtain⟨ls,hl,rfl⟩:=ybC.1 hp
   exact zo4 hm hl h
 | seq x y ihx ihy =>
  intro p hp Q a J h
  simp only[zcB,ybB,ybC]at hp
  obtain⟨p1,h1,p2,h2,rfl⟩:=hp
  have hx:=ihx p1 h1 _ a J h
  intro ro D M0 F0 w0 M w ac S g E f hD
  refine wpIn_seq (wpIn_mono (hx ro D M0 F0 w0 M w ac S g E f hD) λe ac' w' hq=>?_)
  obtain⟨e',a',J',M',q,r,S',g',E',f',hD'⟩:=hq
  cases e' with
  | normal=>cases e<;>simp only[zds]at r;exact ihy p2 h2 Q a' J' q ro D M0 F0 w0 M' w' ac' S' g' E' f' hD'
  | exit i=>cases e<;>simp only[zds]at r;exact⟨.exit i,a',J',M',q,r,S',g',E',f',hD'⟩
  | ret=>cases e<;>simp only[zds]at r;exact⟨.ret,a',J',M',q,trivial,S',g',E',f',hD'⟩
  | panic v=>cases e<;>simp only[zds]at r;exact⟨.panic v,a',J',M',q,r,S',g',E',f',hD'⟩
 | cond c x y ihx ihy =>
  intro p hp Q a J h
  simp only[zcB,ybB,ybC]at hp
  obtain⟨p1,h1,p2,h2,rfl⟩:=hp
  simp only[avc]at h
  intro ro D M0 F0 w0 M w ac S g E f hD
  split at h
  .rename_i b hb
   have hv:=zlq g f c
   rw[hb]at hv
   refine wpIn_cond_split hv.bool_inv (λhb'=>?_) (λhb'=>?_)
   .exact ihx p1 h1 Q a J (h.1 hb') ro D M0 F0 w0 M w ac S g E f hD
   .exact ihy p2 h2 Q a J (h.2 hb') ro D M0 F0 w0 M w ac S g E f hD
  .exact h.elim
 | block id c ih =>
  intro p hp Q a J h
  simp only[zcB,ybC]at hp
  obtain⟨p1,h1,rfl⟩:=hp
  have hx:=ih p1 h1 _ a J h
  intro ro D M0 F0 w0 M w ac S g E f hD
  refine wpIn_block (wpIn_mono (hx ro D M0 F0 w0 M w ac S g E f hD) λe ac' w' hq=>?_)
  obtain⟨e',a',J',M',q,r,S',g',E',f',hD'⟩:=hq
  cases e' with
  | normal=>cases e<;>simp only[zds]at r;exact⟨.normal,a',J',M',q,trivial,S',g',E',f',hD'⟩
  | exit i =>
   cases e<;>simp only[zds]at r
   subst r
   simp only[za6]at q
   simp only[Exit.inBlock]
   split at q
   .rename_i hi;rw[if_pos hi];exact⟨.normal,a',J',M',q,trivial,S',g',E',f',hD'⟩
   .rename_i hi;rw[if_neg hi];exact⟨.exit _,a',J',M',q,rfl,S',g',E',f',hD'⟩
  | ret=>cases e<;>simp only[zds]at r;exact⟨.ret,a',J',M',q,trivial,S',g',E',f',hD'⟩
  | panic v=>cases e<;>simp only[zds]at r;exact⟨.panic v,a',J',M',q,r,S',g',E',f',hD'⟩
 | loop c ih =>
  intro p hp Q a J h
  simp only[zcB,ybC]at hp
  obtain⟨p1,h1,rfl⟩:=hp
  exact h hm c h1
 | exit id=>intro p hp Q a J h;simp[zcB]at hp;subst hp;exact λro D M0 F0 w0 M w ac S g E f hD=>wpIn_exit ⟨.exit id,a,J,M,h,rfl,S,g,E,f,hD⟩
 | ret=>intro p hp Q a J h;simp[zcB]at hp;subst hp;exact λro D M0 F0 w0 M w ac S g E f hD=>wpIn_ret ⟨.ret,a,J,M,h,trivial,S,g,E,f,hD⟩
 | rangeFunc=>intro p hp;simp[zcB]at hp
 | scope=>intro p hp;simp[zcB]at hp
 | label=>intro p hp;simp[zcB]at hp
 | goto=>intro p hp;simp[zcB]at hp
 | refuse=>intro p hp;simp[zcB]at hp
theorem zS{P:Program}{G:Env}{n:Nat}{p:PC}{Q:AQ}{a:Nat->AV}{J:AS}(I:(Nat->AV)->AS->Prop)(μ:(Nat->AV)->AS->Nat)(h0:I a J)
  (round:∀a J,I a J->avc P G n p (zbi (λa' J'=>I a' J'/\μ a' J'<μ a J) Q) a J):zka P G n p Q a J:=by
 intro hm c hc ro D M0 F0 w0 M w ac S g E f hD
 have key:∀(m:Nat) (a:Nat->AV) (J:AS) (M:Mp) (w:World) (ac:Act),μ a J<m->I a J->Sim M J w->GOk P G M J.F w->Ext M0 F0 w0 M J.F w->Fr M J.F w a ac n->ac.defers=D ->
   Code.roundsIn (zaI ro) 0 P c (QC P G n D M0 F0 w0 Q) m ac w:=by
  intro m
  induction m with
  | zero=>intro a J M w ac h;omega
  | succ m ih =>
   intro a J M w ac hlt hI S g E f hD
   rw[roundsIn_succ]
   refine wpIn_mono (zaj hm c p hc _ a J (round a J hI) ro D M0 F0 w0 M w ac S g E f hD) λe ac' w' hq=>?_
   obtain⟨e',a',J',M',q,r,S',g',E',f',hD'⟩:=hq
   cases e' with
   | normal=>cases e<;>simp only[zds]at r;exact ih a' J' M' w' ac' (by have:=q.2;omega) q.1 S' g' E' f' hD'
   | exit i=>cases e<;>simp only[zds]at r;exact⟨.exit i,a',J',M',q,r,S',g',E',f',hD'⟩
   | ret=>cases e<;>simp only[zds]at r;exact⟨.ret,a',J',M',q,trivial,S',g',E',f',hD'⟩
   | panic v=>cases e<;>simp only[zds]at r;exact⟨.panic v,a',J',M',q,r,S',g',E',f',hD'⟩
 exact wpIn_loop_rounds (μ a J+1) (key _ a J M w ac (by omega) h0 S g E f hD)
def zbz(args:List AV):Nat->AV:=λt=>(args[t]?).getD (.tuple [])
def zkb(P:Program):List ResultVar->(Nat->AV)->AS->(List AV->Prop)->Prop
 | [],_,_,K=>K []
 | .tmp t::r,a,J,K=>zkb P r a J λvs=>K (a t::vs)
 | .cell t ty::r,a,J,K=>zcH P ty (a t) J λv=>zkb P r a J λvs=>K (v::vs)
def tup:List AV->AV
 | [v]=>v
 | vs=>.tuple vs
def zfn(P:Program)(res:List ResultVar)(R:Out->AS->Prop):AQ
 | .normal,a,J|.ret,a,J=>zkb P res a J λvs=>R (.ret (tup vs)) J
 | .panic v,_,J=>R (.panic v) J
 | _,_,_=>False
theorem zjk{P:Program}{M:Mp}{J:AS}{w:World}(S:Sim M J w){a:Nat->AV}{tmps:Array Value}(f:∀t,VR M J.F w (a t) (tmps.getD t undef)){g:ResultVar->Sem Value}
  (g1:∀t,(g (.tmp t)).run P w=.ok (tmps.getD t undef) w) (g2:∀t ty q v,tmps.getD t undef=.pointer (some q)->(loadVar ty q).run P w=.ok v w->(g (.cell t ty)).run P w=.ok v w) :
  ∀(l:List ResultVar) (K:List AV->Prop),zkb P l a J K->∃(vs:List AV) (cs:List Value),K vs/\(l.mapM g).run P w=.ok cs w/\Cells M J.F w vs cs.toArray:=by
 intro l
 induction l with
 | nil=>intro K h;exact⟨[],[],h,by simp,⟨by simp,by simp⟩⟩
 | cons r l ih =>
  intro K h
  have app:∀{v c vs cs},VR M J.F w v c->Cells M J.F w vs (cs:List Value).toArray->Cells M J.F w (v::vs) (c::cs).toArray:=by
   intro v c vs cs hv hc
   refine⟨by have:=hc.1;simpa using this,λj x hj=>?_⟩
   cases j with
   | zero=>simp at hj;subst hj;exact⟨c,by simp,hv⟩
   | succ j =>
    simp at hj
    obtain⟨y,h1,h2⟩:=hc.2 j x hj
    exact⟨y,by simpa using h1,h2⟩
  cases r with
  | tmp t =>
   simp only[zkb]at h
   obtain⟨vs,cs,hK,hr,hc⟩:=ih _ h
   exact⟨_,_,hK,by rw[yb1,Sem.run_bind,g1];simp[hr],app (f t) hc⟩
  | cell t ty =>
   simp only[zkb]at h
   obtain⟨v,hK,hh⟩:=zeT h
   obtain⟨v',h1,h2⟩:=hh M w _ S (f t)
   obtain⟨vs,cs,hK,hr,hc⟩:=ih _ hK
   refine⟨_,v'::cs,hK,?_,app h2 hc⟩
   have h3:(g (.cell t ty)).run P w=.ok v' w:=by
    generalize hq:tmps.getD t undef=p at h1
    cases p with
    | pointer q =>
     cases q with
     | none=>simp[Instr.loadAt,Instr.sureAddr]at h1
     | some q=>exact g2 t ty q v' hq (by simpa [Instr.loadAt,Instr.sureAddr]using h1)
    | _=>simp[Instr.loadAt,Instr.sureAddr]at h1
   rw[yb1,Sem.run_bind,h3]
   simp[hr]
theorem zAF{P:Program}{G:Env}{f:FuncId}{fn:Func}{c:Code}{p:PC}{args:List AV}{J:AS}{R:Out->AS->Prop}(hm:P.follows .mixedOrders=true)(hf:P.funcs[f]?=some fn)(hb:fn.body=some c)
  (hp:zcB fn.ntmps c=some p) (hn:args.length<=fn.ntmps) (h:avc P G fn.ntmps p (zfn P fn.results.toList R) (zbz args) J):ACalls P G f args J R:=by
 intro M w cargs S g hc
 refine calls_of_wp hf hb (wpIn_wide.1 (wpIn_mono (zaj hm c p hp _ _ J h none [] M J.F w M w _ S g (.refl ..) ⟨?_,λt=>?_⟩ rfl) λe ac' w' hq=>?_))
 .have:=hc.1
  simp only[ybg,yb2];omega
 .unfold zbz
  rw[ybA]
  by_cases ht:t<args.length
  .obtain⟨x,h1,h2⟩:=hc.2 t _ (yau ht)
   rw[ybi (by rw[hc.1];exact ht),h1,yau ht]
   exact h2
  .rw[ybj (show cargs.size<=t by rw[hc.1];omega),yb3 (by omega),ybY]
   split<;>exact zfj ..
 .obtain⟨e',a',J',M',q,r,S',g',E',f',hD'⟩:=hq
  have fin:zkb P fn.results.toList a' J' (λvs=>R (.ret (tup vs)) J') ->
    ∃v,(results fn ac'.tmps).run P w'=.ok v w'/\∃out J' M',R out J'/\zbx M' J'.F w' out (.returned v)/\Sim M' J' w'/\Ext M J.F w M' J'.F w':=by
   intro hq
   have key:∀g:ResultVar->Sem Value,(∀t,(g (.tmp t)).run P w'=.ok (ac'.tmps.getD t undef) w')->(∀t ty q v,ac'.tmps.getD t undef=.pointer (some q)->(loadVar ty q).run P w'=.ok v w'->(g (.cell t ty)).run P w'=.ok v w') ->
     ∃v,((((List.mapM g fn.results.toList).run P w').andThen λa w'=>.ok a.toArray w').andThen λvs w=>(pure (if h:vs.size=1 then vs[0]else .tuple vs):Sem Value).run P w)=.ok v w' /\
      ∃out J' M',R out J'/\zbx M' J'.F w' out (.returned v)/\Sim M' J' w'/\Ext M J.F w M' J'.F w':=by
    intro g g1 g2
    obtain⟨vs,cs,hK,hr,hcc⟩:=zjk S' f'.val g1 g2 _ _ hq
    rw[hr]
    simp only[Result.andThen_ok,Sem.run_pure]
    refine⟨_,rfl,.ret (tup vs),J',M',hK,?_,S',E'⟩
    have hl:=hcc.1
    simp only[zbx]
    have hget:=hcc.get
    split
    .rename_i h1
     cases vs with
     | nil=>rw[h1]at hl;simp at hl
     | cons v r =>
      cases r with
      | nil=>exact hget 0 (by simp) (by rw[h1];exact Nat.one_pos)
      | cons _ _=>rw[h1]at hl;simp at hl
    .rename_i h1
     have:tup vs=.tuple vs:=by
      cases vs with
      | nil=>rfl
      | cons v r =>
       cases r with
       | nil=>exact absurd (by simpa using hl) h1
       | cons _ _=>rfl
     rw[this]
     exact .tuple _ _ hl hget
   unfold results
   rw[Sem.run_bind,yb4,Sem.run_map]
   exact key _ (λ_=>rfl) (λt ty q v h1 h2=>by
    simp only[h1,asAddr,Sem.run_bind,Sem.run_pure,Result.andThen_ok,h2])
  cases e' with
  | normal=>cases e<;>simp only[zds]at r;exact⟨hD',fin q⟩
  | ret=>cases e<;>simp only[zds]at r;exact⟨hD',fin q⟩
  | exit i=>exact q.elim
  | panic v =>
   cases e<;>simp only[zds]at r
   obtain⟨v',rfl,hv⟩:=r
   exact⟨hD',.panic v,J',M',q,⟨v',rfl,hv⟩,S',E'⟩
theorem zwp{P:Program}{G:Env}{f n:Nat}{fn:Func}{p:PC}{l:List ResultVar}{args:List AV}{J:AS}{R:Out->AS->Prop}(hm:P.follows .mixedOrders=true)(hf:P.funcs[f]?=some fn)(hn:fn.ntmps=n)
  (hl:fn.results.toList=l) (hp:fn.body.bind (zcB fn.ntmps)=some p) (ha:args.length<=n) (h:avc P G n p (zfn P l R) (zbz args) J):ACalls P G f args J R:=by
 subst hn;subst hl
 obtain⟨c,hc,hp⟩:=ybB.1 hp
 exact zAF hm hf hc hp ha h
def blk:Prop:=True
@[simp] theorem zFG:blk=True:=propext ⟨λ_=>trivial,λ_=>trivial⟩
def zU{α:Type}(o:Option α)(K:α->Prop):Prop:=∃x,o=some x/\K x
@[simp] theorem zyu{α:Type}(x:α)(K:α->Prop):zU (some x) K=K x:=by simp[zU]
@[congr] theorem zwq{dd:Prop}(_:blk=dd){α:Type}{o o':Option α}{K:α->Prop}(h:o=o'):zU o K=zU o' K:=by rw[h]
def ifB(b:Bool)(yes no:Prop):Prop:=if b then yes else no
@[simp] theorem zDd(yes no:Prop):ifB true yes no=yes:=by simp[ifB]
@[simp] theorem zAG(yes no:Prop):ifB false yes no=no:=by simp[ifB]
@[congr] theorem zAH{dd:Prop}(_:blk=dd){b b':Bool}{yes no:Prop}(h:b=b'):ifB b yes no=ifB b' yes no:=by rw[h]
def zqo(v:AV)(yes no:Prop):Prop:=match v with
 | .bool b=>ifB b yes no
 | _=>False
@[simp] theorem zyv(b:Bool)(yes no:Prop):zqo (.bool b) yes no=ifB b yes no:=Eq.trans rfl rfl
@[congr] theorem zwr{dd:Prop}(_:blk=dd){v v':AV}{yes no:Prop}(h:v=v'):zqo v yes no=zqo v' yes no:=by rw[h]
def zo5(v:AV)(want:Bool)(yes no:Prop):Prop:=match v with
 | .bool b=>ifB (b==want) yes no
 | .tuple []=>no
 | _=>False
@[simp] theorem zyw(b want:Bool)(yes no:Prop):zo5 (.bool b) want yes no=ifB (b==want) yes no:=Eq.trans rfl rfl
@[simp] theorem zyx(want:Bool)(yes no:Prop):zo5 (.tuple []) want yes no=no:=Eq.trans rfl rfl
@[congr] theorem zws{dd:Prop}(_:blk=dd){v v':AV}{want:Bool}{yes no:Prop}(h:v=v'):zo5 v want yes no=zo5 v' want yes no:=by rw[h]
@[simp] theorem zyy(a:Nat->AV)(yes no:Prop):zbt a none yes no=yes:=Eq.trans rfl rfl
@[simp] theorem zyz(a:Nat->AV)(d:Nat)(want:Bool)(yes no:Prop):zbt a (some (d,want)) yes no=zo5 (a d) want yes no:=by
 unfold zbt zo5
 simp only
 cases a d with
 | bool b=>cases b<;>cases want<;>simp[ifB]
 | tuple l=>cases l<;>rfl
 | _=>rfl
@[congr] theorem zvf{dd:Prop}(_:blk=dd){a a':Nat->AV}{g:Option (Nat × Bool)}{yes no:Prop}(h:a=a'):zbt a g yes no=zbt a' g yes no:=by rw[h]
section
variable {P : Program} {G : Env} {n : Nat}
@[congr] theorem zAI{dd:Prop}(_:blk=dd){p p':PC}{Q:AQ}{a a':Nat->AV}{J J':AS}(h:a=a')(h2:J=J')(h3:p=p'):avc P G n p Q a J=avc P G n p' Q a' J':=by rw[h,h2,h3]
@[simp] theorem zDe(Q:AQ)(a J):avc P G n .skip Q a J=Q .normal a J:=Eq.trans rfl rfl
@[simp] theorem zEA(l:List PO)(Q:AQ)(a J):avc P G n (.ops l) Q a J=zfd P G (zb1 (zdn l a) Q) l a J:=Eq.trans rfl rfl
@[simp] theorem zDf(ls:List (List PO))(Q:AQ)(a J):avc P G n (.both ls) Q a J=zfY P G Q a J ls:=Eq.trans rfl rfl
@[congr] theorem zwt{dd:Prop}(_:blk=dd){Q:AQ}{a a':Nat->AV}{J J':AS}{ls:List (List PO)}(h:a=a')(h2:J=J'):zfY P G Q a J ls=zfY P G Q a' J' ls:=by rw[h,h2]
@[simp] theorem zAJ(Q:AQ)(a J):zfY P G Q a J []=True:=Eq.trans rfl rfl
@[simp] theorem zyA(Q:AQ)(a J)(l:List PO)(r:List (List PO)):zfY P G Q a J (l::r)=(zfd P G (zb1 (zdn l a) Q) l a J/\zfY P G Q a J r):=Eq.trans rfl rfl
@[simp] theorem zsC(pf)(Q:AQ)(a J):zb1 pf Q .normal a J=Q .normal a J:=Eq.trans rfl rfl
@[simp] theorem zvg(pf)(Q:AQ)(v a J):zb1 pf Q (.panic v) a J=Q (.panic v) pf J:=Eq.trans rfl rfl
@[congr] theorem zvh{dd:Prop}(_:blk=dd){pf:Nat->AV}{Q:AQ}{e:AExit}{a a':Nat->AV}{J J':AS}(h:a=a')(h2:J=J'):zb1 pf Q e a J=zb1 pf Q e a' J':=by rw[h,h2]
@[simp] theorem zEB(x y:PC)(Q:AQ)(a J):avc P G n (.seq x y) Q a J=avc P G n x (zbi (avc P G n y Q) Q) a J:=Eq.trans rfl rfl
@[simp] theorem zDg(c:Operand)(x y:PC)(Q:AQ)(a J):avc P G n (.cond c x y) Q a J=zqo (ev G a c) (avc P G n x Q a J) (avc P G n y Q a J):=by
 simp only[avc,zqo]
 cases ev G a c with
 | bool b=>cases b<;>simp[ifB]
 | _=>rfl
@[simp] theorem zAK(id:Nat)(c:PC)(Q:AQ)(a J):avc P G n (.block id c) Q a J=avc P G n c (za6 id Q) a J:=Eq.trans rfl rfl
@[simp] theorem zDh(c:PC)(Q:AQ)(a J):avc P G n (.loop c) Q a J=zka P G n c Q a J:=Eq.trans rfl rfl
@[simp] theorem zDi(i:Nat)(Q:AQ)(a J):avc P G n (.exit i) Q a J=Q (.exit i) a J:=Eq.trans rfl rfl
@[simp] theorem zEC(Q:AQ)(a J):avc P G n .ret Q a J=Q .ret a J:=Eq.trans rfl rfl
@[congr] theorem zwu{dd:Prop}(_:blk=dd){p:PC}{Q:AQ}{a a':Nat->AV}{J J':AS}(h:a=a')(h2:J=J'):zka P G n p Q a J=zka P G n p Q a' J':=by rw[h,h2]
@[congr] theorem zvi{dd:Prop}(_:blk=dd){f:FuncId}{l l':List AV}{J J':AS}{R:Out->AS->Prop}(h:l=l')(h2:J=J'):ACalls P G f l J R=ACalls P G f l' J' R:=by rw[h,h2]
@[simp] theorem zvj(K:(Nat->AV)->AS->Prop)(Q:AQ)(a J):zbi K Q .normal a J=K a J:=Eq.trans rfl rfl
@[simp] theorem zyB(K:(Nat->AV)->AS->Prop)(Q:AQ)(i a J):zbi K Q (.exit i) a J=Q (.exit i) a J:=Eq.trans rfl rfl
@[simp] theorem zAL(K:(Nat->AV)->AS->Prop)(Q:AQ)(a J):zbi K Q .ret a J=Q .ret a J:=Eq.trans rfl rfl
@[simp] theorem zwv(K:(Nat->AV)->AS->Prop)(Q:AQ)(v a J):zbi K Q (.panic v) a J=Q (.panic v) a J:=Eq.trans rfl rfl
@[congr] theorem zww{dd:Prop}(_:blk=dd){K:(Nat->AV)->AS->Prop}{Q:AQ}{e:AExit}{a a':Nat->AV}{J J':AS}(h:a=a')(h2:J=J'):zbi K Q e a J=zbi K Q e a' J':=by rw[h,h2]
@[simp] theorem zsD(id:Nat)(Q:AQ)(a J):za6 id Q .normal a J=Q .normal a J:=Eq.trans rfl rfl
@[simp] theorem zwx(id:Nat)(Q:AQ)(i a J):za6 id Q (.exit i) a J=ifB (i==id) (Q .normal a J) (Q (.exit i) a J):=by
 simp only[za6,ifB,beq_iff_eq]
@[simp] theorem zyC(id:Nat)(Q:AQ)(a J):za6 id Q .ret a J=Q .ret a J:=Eq.trans rfl rfl
@[simp] theorem zvk(id:Nat)(Q:AQ)(v a J):za6 id Q (.panic v) a J=Q (.panic v) a J:=Eq.trans rfl rfl
@[congr] theorem zvl{dd:Prop}(_:blk=dd){id:Nat}{Q:AQ}{e:AExit}{a a':Nat->AV}{J J':AS}(h:a=a')(h2:J=J'):za6 id Q e a J=za6 id Q e a' J':=by rw[h,h2]
@[congr] theorem zyD{dd:Prop}(_:blk=dd){Q:AQ}{l:List PO}{a a':Nat->AV}{J J':AS}(h:a=a')(h2:J=J'):zfd P G Q l a J=zfd P G Q l a' J':=by rw[h,h2]
@[simp] theorem zDj(Q:AQ)(a J):zfd P G Q [] a J=Q .normal a J:=Eq.trans rfl rfl
@[simp] theorem zAM(Q:AQ)(d op g)(l:List PO)(a J):zfd P G Q (⟨d,op,g,[]⟩::l) a J =
  zbt a g (zby P G op d a J (zfd P G Q l) Q) (zfd P G Q l (put a d (.tuple [])) J):=by
 show zbt a g (zby P G op d a J (λa' J'=>zeG P G a' J' []/\zfd P G Q l a' J') Q) _=_
 rw[show(λa' J'=>zeG P G a' J' []/\zfd P G Q l a' J')=zfd P G Q l from by funext a' J';simp[zeG]]
@[simp] theorem zyE(Q:AQ)(d op g x y)(l:List PO)(a J):zfd P G Q (⟨d,op,g,x::y⟩::l) a J =
  zbt a g (zby P G op d a J (λa' J'=>zeG P G a' J' (x::y)/\zfd P G Q l a' J') Q) (zfd P G Q l (put a d (.tuple [])) J):=Eq.trans rfl rfl
@[simp] theorem zyF(a J):zeG P G a J []=True:=Eq.trans rfl rfl
@[simp] theorem zwy(a J)(g t x d)(r:List AG):zeG P G a J (⟨g,t,x,d⟩::r)=(zbt a g (zcH P t (ev G a x) J λv=>v=a d) True/\zeG P G a J r):=Eq.trans rfl rfl
@[congr] theorem zyG{dd:Prop}(_:blk=dd){op:Op}{d:Option Nat}{a a':Nat->AV}{J J':AS}{K:(Nat->AV)->AS->Prop}{Q:AQ}(h:a=a')(h2:J=J'):zby P G op d a J K Q=zby P G op d a' J' K Q:=by rw[h,h2]
@[simp] theorem zDk(a:Nat->AV)(d:Nat)(v:AV):put a (some d) v=upd a d v:=Eq.trans rfl rfl
@[simp] theorem zDl(a:Nat->AV)(v:AV):put a none v=a:=Eq.trans rfl rfl
@[simp] theorem zeH{α:Type}(f:Nat->α)(i:Nat)(x:α)(j:Nat):upd f i x j=if j=i then x else f j:=Eq.trans rfl rfl
@[simp] theorem zAN(l:List AV)(t:Nat):zbz l t=(l[t]?).getD (.tuple []):=Eq.trans rfl rfl
@[simp] theorem zFH(a:Nat->AV)(t:Nat):ev G a (.tmp t)=a t:=Eq.trans rfl rfl
@[simp] theorem zED(a:Nat->AV)(f:Nat):ev G a (.func f)=.fn (.func f) [] []:=Eq.trans rfl rfl
@[simp] theorem zAO(a:Nat->AV)(g:Nat):ev G a (.global g)=G.g g:=Eq.trans rfl rfl
@[simp] theorem zFI(a:Nat->AV)(k n):ev G a (.const (.int k n))=.int k n:=Eq.trans rfl rfl
@[simp] theorem zEE(a:Nat->AV)(b):ev G a (.const (.bool b))=.bool b:=Eq.trans rfl rfl
@[simp] theorem zDm(a:Nat->AV):ev G a (.const (.slice none 0 0))=.nilsl:=Eq.trans rfl rfl
@[simp] theorem zDn(a:Nat->AV):ev G a (.const .nilIface)=.nilif:=Eq.trans rfl rfl
@[simp] theorem zDo(a:Nat->AV):ev G a (.const .nilFunc)=.nilfn:=Eq.trans rfl rfl
@[simp] theorem zFJ(a:Nat->AV)(l):ev G a (.const (.string ⟨l⟩))=.str l.toList:=Eq.trans rfl rfl
variable {a : Nat -> AV} {J : AS} {K : (Nat -> AV) -> AS -> Prop} {Q : AQ} {d : Option Nat}
@[simp] theorem zAP(x):zby P G (.move x) d a J K Q=K (put a d (ev G a x)) J:=Eq.trans rfl rfl
@[simp] theorem zwz(x):zby P G (.assign x) d a J K Q=K (put a d (ev G a x)) J:=Eq.trans rfl rfl
def zqp(v x y:AV)(K:AV->Prop):Prop:=match v with
 | .bool b=>K (if b then x else y)
 | _=>False
@[simp] theorem zyH(b x y)(K:AV->Prop):zqp (.bool b) x y K=K (if b then x else y):=Eq.trans rfl rfl
@[congr] theorem zwA{dd:Prop}(_:blk=dd){v v' x x' y y':AV}{K:AV->Prop}(h:v=v')(h1:x=x')(h2:y=y'):zqp v x y K=zqp v' x' y' K:=by rw[h,h1,h2]
@[simp] theorem zAQ(c x y):zby P G (.pick c x y) d a J K Q=zqp (ev G a c) (ev G a x) (ev G a y) λv=>K (put a d v) J:=by
 simp only[zby,zb0,zcq,if_pos,zbM,zqp]
 cases ev G a c with
 | bool b=>simp
 | _=>simp
def zDp(b:Bool)(t n o:Nat):AV:=if b=true then .pt t n o 0 else .ptr o 0
@[simp] theorem zyI(t):zhl t=(t==88):=Eq.trans rfl rfl
@[simp] theorem zEF(t n o):zDp false t n o=.ptr o 0:=rfl
@[simp] theorem zDq(t n o):zDp true t n o=.pt t n o 0:=rfl
def zAR(v:AV)(K:AV->Prop):Prop:=match v with
 | .ptr _ _|.pv _ _|.fn (.func _) _ _|.pt _ _ _ _=>K v
 | _=>False
@[simp] theorem zDr(o f)(K:AV->Prop):zAR (.ptr o f) K=K (.ptr o f):=Eq.trans rfl rfl
@[simp] theorem zEG(t n o f)(K:AV->Prop):zAR (.pt t n o f) K=K (.pt t n o f):=Eq.trans rfl rfl
@[congr] theorem zyJ{dd:Prop}(_:blk=dd){v v':AV}{K:AV->Prop}(h:v=v'):zAR v K=zAR v' K:=by rw[h]
@[simp] theorem zsE(x):zby P G (.nilCheck x) d a J K Q=zAR (ev G a x) λv=>K (put a d v) J:=Eq.trans rfl rfl
@[simp] theorem zyK(op t x y u):zby P G (.binOp op t x y u) d a J K Q=zdr P op t y (ev G a x) (ev G a y) λv=>K (put a d v) J:=Eq.trans rfl rfl
@[congr] theorem zwB{dd:Prop}(_:blk=dd){op t y}{x x' z z':AV}{K:AV->Prop}(h:x=x')(h2:z=z'):zdr P op t y x z K=zdr P op t y x' z' K:=by rw[h,h2]
section
variable {K : AV -> Prop}
@[simp] theorem zAS(op t x y z):zdr P op t (.tmp x) y z K=zbs P op t y z K:=by unfold zdr;split<;>simp_all
@[simp] theorem zAT(op t k n y z):zdr P op t (.const (.int k n)) y z K=zbs P op t y z K:=by unfold zdr;split<;>simp_all
@[simp] theorem zAU(op t s y z):zdr P op t (.const (.string s)) y z K=zbs P op t y z K:=by unfold zdr;split<;>simp_all
@[simp] theorem zwC(op t b l c y z):zdr P op t (.const (.slice b l c)) y z K=zbs P op t y z K:=by unfold zdr;split<;>simp_all
@[simp] theorem zDs(op t u v z):zdr P op t (.const .nilIface) (.iface u v) z K=zbs P op t (.iface u v) z K:=by unfold zdr;split<;>simp_all
@[simp] theorem zDt(t):zdr P .eql t (.const .nilIface) .nilif .nilif K=(zaq P t=some true/\K (.bool true)):=Eq.trans rfl rfl
@[simp] theorem zAV(t):zdr P .neq t (.const .nilIface) .nilif .nilif K=(zaq P t=some true/\K (.bool false)):=Eq.trans rfl rfl
end
@[simp] theorem zAW(op t x):zby P G (.unOp op t x) d a J K Q=aun op (ev G a x) λv=>K (put a d v) J:=Eq.trans rfl rfl
@[simp] theorem zn2(t x):zby P G (.makeInterface t x) d a J K Q=(zaq P t=some false/\K (put a d (.iface t (ev G a x))) J):=Eq.trans rfl rfl
@[simp] theorem zsF(f u v):zby P G (.makeFunc f u v) d a J K Q=K (put a d (.fn f (u.toList.map (ev G a)) (v.toList.map (ev G a)))) J:=Eq.trans rfl rfl
@[simp] theorem zr8(t x i):zby P G (.fieldAddr t x i) d a J K Q=zaw P t (ev G a x) i λv=>K (put a d v) J:=Eq.trans rfl rfl
@[simp] theorem zyL(t x i):zby P G (.field t x i) d a J K Q=zhk P t (ev G a x) i λv=>K (put a d v) J:=Eq.trans rfl rfl
@[simp] theorem zr9(t x i):zby P G (.indexAddr t x i) d a J K Q=zu P t (ev G a x) (ev G a i) λv=>K (put a d v) J:=Eq.trans rfl rfl
@[simp] theorem zyM(t x i):zby P G (.index t x i) d a J K Q=zgf P t (ev G a x) (ev G a i) λv=>K (put a d v) J:=Eq.trans rfl rfl
def zqq(v:AV)(i:Nat)(K:AV->Prop):Prop:=match v with
 | .tuple vs=>zU vs[i]? K
 | _=>False
@[simp] theorem zwD(vs i)(K:AV->Prop):zqq (.tuple vs) i K=zU vs[i]? K:=Eq.trans rfl rfl
@[congr] theorem zwE{dd:Prop}(_:blk=dd){v v':AV}{i:Nat}{K:AV->Prop}(h:v=v'):zqq v i K=zqq v' i K:=by rw[h]
@[simp] theorem zvm(x i):zby P G (.extract x i) d a J K Q=zqq (ev G a x) i λv=>K (put a d v) J:=by
 simp only[zby,zb0,zcq,if_pos,zbM,zqq,zU]
 cases ev G a x<;>rfl
@[simp] theorem zyN(t ps):zby P G (.build t ps) d a J K Q=zi8 P t (ev G a) ps.toList λv=>K (put a d v) J:=Eq.trans rfl rfl
@[simp] theorem zqr(t n ps)(ho:(ps.toList.length==108)=false):zby P G (.buildSlice t n ps) d a J K Q=if zgg t ps.toList=true then zhm P t n (ev G a) ps.toList λv=>K (put a d v) J else zaG P t n (ev G a) ps.toList λv=>K (put a d v) J:=by
 have e:zcq (.buildSlice t n ps)=true:=by simp only[zcq,zAz,ho];rfl
 simp only[zby,zb0,e,zve,zbM,if_true,Bool.false_eq_true,if_false]
@[simp] theorem zDu(t x):zby P G (.call ⟨.builtin .len,#[x],#[t]⟩) d a J K Q=zgT P t (ev G a x) λv=>K (put a d v) J:=Eq.trans rfl rfl
@[simp] theorem zyO(ts x):zby P G (.call ⟨.builtin .unsafeSliceData,#[x],ts⟩) d a J K Q=zhn (ev G a x) λv=>K (put a d v) J:=Eq.trans rfl rfl
@[congr] theorem zvn{dd:Prop}(_:blk=dd){x x':AV}{K:AV->Prop}(h:x=x'):zhn x K=zhn x' K:=by rw[h]
@[simp] theorem zyP(e φ sz xs)(K:AV->Prop):zhn (.tys e (.sl φ sz xs)) K=K (.tyd e (.sl φ sz xs)):=Eq.trans rfl rfl
@[simp] theorem zDv(t x):zby P G (.call ⟨.builtin .cap,#[x],#[t]⟩) d a J K Q=zwj P t (ev G a x) λv=>K (put a d v) J:=Eq.trans rfl rfl
@[congr] theorem zyQ{dd:Prop}(_:blk=dd){t}{x x':AV}{K:AV->Prop}(h:x=x'):zwj P t x K=zwj P t x' K:=by rw[h]
@[simp] theorem zyR(t)(K:AV->Prop):zwj P t .nilsl K=((zcd P t).isSome=true/\K (.int .i64 0)):=Eq.trans rfl rfl
def zkc(P:Program)(t:TypeId)(ok:Bool)(v:AV)(K:AV->Prop):Prop:=match v with
 | .iface u v=>zaq P t=some false/\u=t/\K (if ok then .tuple [v,.bool true]else v)
 | _=>False
@[simp] theorem zsG(t ok u v)(K:AV->Prop):zkc P t ok (.iface u v) K=(zaq P t=some false/\u=t/\K (if ok then .tuple [v,.bool true]else v)):=Eq.trans rfl rfl
@[congr] theorem zsH{dd:Prop}(_:blk=dd){t ok}{v v':AV}{K:AV->Prop}(h:v=v'):zkc P t ok v K=zkc P t ok v' K:=by rw[h]
@[simp] theorem zqs(x xt t ok):zby P G (.typeAssert x xt t ok) d a J K Q=zkc P t ok (ev G a x) λv=>K (put a d v) J:=Eq.trans rfl rfl
@[simp] theorem zyS(t x lo hi mx):zby P G (.slice t x lo hi mx) d a J K Q=zeC P (ev G a) t (ev G a x) lo hi mx λv=>K (put a d v) J:=Eq.trans rfl rfl
def zFK(f:Int->Int->Int)(x y:AV)(K:AV->Prop):Prop:=match x,y with
 | .int k m,.int k' n=>k=k'/\K (.int k (f m n))
 | _,_=>False
@[congr] theorem zyT{dd:Prop}(_:blk=dd){f}{x x' y y':AV}{K:AV->Prop}(h1:x=x')(h2:y=y'):zFK f x y K=zFK f x' y' K:=by rw[h1,h2]
@[simp] theorem zAX(t x):zby P G (.load t x) d a J K Q=zcH P t (ev G a x) J λv=>K (put a d v) J:=Eq.trans rfl rfl
@[simp] theorem zyU(t p x):zby P G (.store t p x) d a J K Q=zhu P t (ev G a p) (ev G a x) J λJ'=>K (put a d (.tuple [])) J':=Eq.trans rfl rfl
@[simp] theorem zyV(t):zby P G (.alloc t) d a J K Q=zU (zG P t) λz=>z.known=true/\K (put a d (zDp (zhl t) t z.cells.length J.no)) (J.newO z.cells):=Eq.trans rfl rfl
@[simp] theorem zDw(t x):zby P G (.box t x) d a J K Q=((ev G a x).known=true/\K (put a d (zDp (zhl t) t (ev G a x).cells.length J.no)) (J.newO (ev G a x).cells)):=Eq.trans rfl rfl
@[simp] theorem zAY(t l c):zby P G (.makeSlice t l c) d a J K Q=zhF P t (ev G a l) (ev G a c) J λv J'=>K (put a d v) J':=Eq.trans rfl rfl
@[simp] theorem zwF(t u s x):zby P G (.call ⟨.builtin .append,#[s,x],#[t,u]⟩) d a J K Q=zeV P t u (ev G a s) (ev G a x) J λv J'=>K (put a d v) J':=Eq.trans rfl rfl
@[simp] theorem zvo(t u s x):zby P G (.call ⟨.builtin .unsafeString,#[s,x],#[t,u]⟩) d a J K Q=zfT P t (ev G a s) (ev G a x) J λv J'=>K (put a d v) J':=Eq.trans rfl rfl
@[congr] theorem zsI{dd:Prop}(_:blk=dd){t}{x x' y y':AV}{J J':AS}{K:AV->AS->Prop}(h:x=x')(h1:y=y')(h2:J=J'):zfT P t x y J K=zfT P t x' y' J' K:=by rw[h,h1,h2]
@[simp] theorem zAZ(f args ts):zby P G (.call ⟨.value f,args,ts⟩) d a J K Q =
  zlp P G (ev G a f) (args.toList.map (ev G a)) J (λv J'=>K (put a d v) J') (λv J'=>Q (.panic v) zfi J'):=Eq.trans rfl rfl
def zlB(v:AV)(K:AV->Prop):Prop:=match v with
 | .iface t v=>K (.iface t v)
 | _=>False
@[simp] theorem zvp(t v)(K:AV->Prop):zlB (.iface t v) K=K (.iface t v):=Eq.trans rfl rfl
@[congr] theorem zvq{dd:Prop}(_:blk=dd){v v':AV}{K:AV->Prop}(h:v=v'):zlB v K=zlB v' K:=by rw[h]
@[simp] theorem zyW(x):zby P G (.panic x) d a J K Q=zlB (ev G a x) λv=>Q (.panic v) zfi J:=by
 simp only[zby,zb0,zcq,zve,zlB]
 cases ev G a x<;>simp
end
section
variable {P : Program} {K : AV -> Prop}
theorem List.beq_dec(x y:List UInt8):(x==y)=decide (x=y):=by
 by_cases h:x=y<;>simp[h]
@[congr] theorem zyX{dd:Prop}(_:blk=dd){op t}{x x' y y':AV}(h:x=x')(h2:y=y'):zbs P op t x y K=zbs P op t x' y' K:=by rw[h,h2]
@[simp] theorem zDx(t k)(m n:Int):zbs P .add t (.int k m) (.int k n) K=K (.int k (k.wrap (m+n))):=by simp[zbs,zbL]
@[simp] theorem zDy(t k)(m n:Int):zbs P .sub t (.int k m) (.int k n) K=K (.int k (k.wrap (m-n))):=by simp[zbs,zbL]
@[simp] theorem zDz(t k)(m n:Int):zbs P .mul t (.int k m) (.int k n) K=K (.int k (k.wrap (m*n))):=by simp[zbs,zbL]
@[simp] theorem zDA(t k)(m n:Int):zbs P .eql t (.int k m) (.int k n) K=K (.bool (decide (m=n))):=by simp[zbs,zbL]
@[simp] theorem zDB(t k)(m n:Int):zbs P .neq t (.int k m) (.int k n) K=K (.bool (!decide (m=n))):=by simp[zbs,zbL]
@[simp] theorem zDC(t k)(m n:Int):zbs P .lss t (.int k m) (.int k n) K=K (.bool (decide (m<n))):=by simp[zbs,zbL]
@[simp] theorem zDD(t k)(m n:Int):zbs P .leq t (.int k m) (.int k n) K=K (.bool (decide (m<=n))):=by simp[zbs,zbL]
@[simp] theorem zDE(t k)(m n:Int):zbs P .gtr t (.int k m) (.int k n) K=K (.bool (decide (n<m))):=by simp[zbs,zbL]
@[simp] theorem zDF(t k)(m n:Int):zbs P .geq t (.int k m) (.int k n) K=K (.bool (decide (n<=m))):=by simp[zbs,zbL]
@[simp] theorem zvr(t)(x y):zbs P .eql t (.str x) (.str y) K=K (.bool (decide (x=y))):=by simp only[zbs,zhj,List.beq_dec]
@[simp] theorem zvs(t)(x y):zbs P .neq t (.str x) (.str y) K=K (.bool (!decide (x=y))):=by simp only[zbs,zhj,List.beq_dec]
@[simp] theorem zDG(k0 k a b):zjT (.int k0) (.int k a) (.int k b)=some (decide (a=b)):=by simp only[zjT,if_true];rfl
@[simp] theorem zDH(a b):zjT .string (.str a) (.str b)=some (decide (a=b)):=by simp only[zjT,Bool.beq_eq_decide_eq]
@[simp] theorem zwG(e a b c):zjT (.slice e) (.sl a b c) .nilsl=some false:=rfl
@[simp] theorem zvt(e a b c d):zjT (.slice e) (.slm a b c d) .nilsl=some false:=rfl
@[simp] theorem zvu(e):zjT (.slice e) .nilsl .nilsl=some true:=rfl
@[simp] theorem zvv(t)(x y):zbs P .eql t (.agg x) (.agg y) K=zU (aeq P t (.agg x) (.agg y)) λr=>K (.bool r):=by simp[zbs,zU]
@[simp] theorem zvw(t)(y):zbs P .eql t y .nilsl K=zU (aeq P t y .nilsl) λr=>K (.bool r):=by cases y<;>simp[zbs,zU]
@[simp] theorem zsJ(t)(x y):zbs P .eql t (.bool x) (.bool y) K=zU (aeq P t (.bool x) (.bool y)) λr=>K (.bool r):=by simp[zbs,zU]
@[congr] theorem zA0{dd:Prop}(_:blk=dd){op}{x x':AV}(h:x=x'):aun op x K=aun op x' K:=by rw[h]
@[simp] theorem zEH(b):aun .not (.bool b) K=K (.bool !b):=Eq.trans rfl rfl
@[simp] theorem zEI(k n):aun .xor (.int k n) K=K (.int k (zag k (· ^^^ ·) (if k.signed then -1 else k.max) n)):=Eq.trans rfl rfl
@[simp] theorem zEJ(k n):aun .neg (.int k n) K=K (.int k (k.wrap (-n))):=Eq.trans rfl rfl
@[simp] theorem zwH(n off cs):zaC true n off cs K=(off+n<=cs.length/\K (.agg ((cs.drop off).take n))):=Eq.trans rfl rfl
@[simp] theorem zvx(n off cs):zaC false n off cs K=zU cs[off]? K:=Eq.trans rfl rfl
@[congr] theorem zvy{dd:Prop}(_:blk=dd){g g' n off off'}{cs cs':List AV}(h:cs=cs')(h2:off=off')(h3:g=g'):zaC g n off cs K=zaC g' n off' cs' K:=by rw[h,h2,h3]
@[congr] theorem zpV{dd:Prop}(_:blk=dd){t f}{x x':AV}(h:x=x'):zaw P t x f K=zaw P t x' f K:=by rw[h]
@[simp] theorem zsa(t f o off):zaw P t (.ptr o off) f K=zU (zbe P t f) λi=>K (.ptr o (off+i.off)):=Eq.trans rfl rfl
@[simp] theorem zsb(t u n o off):zaw P t (.pt u n o off) 0 K=zU (zbe P t 0) λi=>K (.pt u n o (off+i.off)):=Eq.trans rfl rfl
@[simp] theorem zsK(t f u n o off):zaw P t (.pt u n o off) (f+1) K=zU (zbe P t (f+1)) λi=>K (.ptr o (off+i.off)):=Eq.trans rfl rfl
@[simp] theorem zsL(t f φ cs):zaw P t (.pv φ (.agg cs)) f K=zU (zbe P t f) λi=>zaC i.agg i.size i.off cs λv=>zvb i.agg i.size v/\K (.pv φ v):=Eq.trans rfl rfl
@[simp] theorem zyY(n v):zvb false n v=(v.cells=[v]):=Eq.trans rfl rfl
@[congr] theorem zvz{dd:Prop}(_:blk=dd){t f}{x x':AV}(h:x=x'):zhk P t x f K=zhk P t x' f K:=by rw[h]
@[simp] theorem zyZ(t f cs):zhk P t (.agg cs) f K=zU (zbe P t f) λi=>zaC i.agg i.size i.off cs K:=Eq.trans rfl rfl
@[congr] theorem zpW{dd:Prop}(_:blk=dd){t}{x x' i i':AV}(h:x=x')(h2:i=i'):zu P t x i K=zu P t x' i' K:=by rw[h,h2]
@[simp] theorem zsM(t φ sz xs k n):zu P t (.sl φ sz xs) (.int k n) K=(zcd P t=some sz/\0<=n/\zU xs[n.toNat]? λv=>K (.pv φ v)):=Eq.trans rfl rfl
@[simp] theorem zsc(t o off sz len k n):zu P t (.slm o off sz len) (.int k n) K=(zcd P t=some sz/\0<=n/\n<len/\K (.ptr o (off+n.toNat * sz))):=Eq.trans rfl rfl
@[congr] theorem zvA{dd:Prop}(_:blk=dd){t}{x x' i i':AV}(h:x=x')(h2:i=i'):zgf P t x i K=zgf P t x' i' K:=by rw[h,h2]
@[simp] theorem zy0(t s k n):zgf P t (.str s) (.int k n) K=(zcf P t=true/\0<=n/\zU s[n.toNat]? λb=>K (.int .u8 b.toNat)):=Eq.trans rfl rfl
@[congr] theorem zy1{dd:Prop}(_:blk=dd){t}{x x':AV}(h:x=x'):zgT P t x K=zgT P t x' K:=by rw[h]
@[simp] theorem zDI(t s):zgT P t (.str s) K=(zcf P t=true/\K (.int .i64 s.length)):=Eq.trans rfl rfl
@[simp] theorem zy2(t):zgT P t .nilsl K=((zcd P t).isSome=true/\K (.int .i64 0)):=Eq.trans rfl rfl
@[simp] theorem zEK(t φ sz xs):zgT P t (.sl φ sz xs) K=((zcd P t).isSome=true/\K (.int .i64 xs.length)):=Eq.trans rfl rfl
@[simp] theorem zvB(t e):zgT P t (.tys e .nilsl) K=((zcd P t).isSome=true/\K (.int .i64 0)):=Eq.trans rfl rfl
@[simp] theorem zDJ(t e φ sz xs):zgT P t (.tys e (.sl φ sz xs)) K=((zcd P t).isSome=true/\K (.int .i64 xs.length)):=Eq.trans rfl rfl
@[simp] theorem zDK(t o off sz len):zgT P t (.slm o off sz len) K=((zcd P t).isSome=true/\K (.int .i64 len)):=Eq.trans rfl rfl
variable {a : Operand -> AV}
def zn3(P:Program)(t:TypeId)(i:Nat)(v:AV)(cs:List AV)(K:List AV->Prop):Prop :=
 zU (zbe P t i) λf=>v.known=true/\v.cells.length=f.size/\f.off+f.size<=cs.length/\K (splice cs f.off v.cells)
@[congr] theorem zvC{dd:Prop}(_:blk=dd){t i}{v v':AV}{cs cs'}{K:List AV->Prop}(h:v=v')(h2:cs=cs'):zn3 P t i v cs K=zn3 P t i v' cs' K:=by rw[h,h2]
@[simp] theorem zA1(t i v cs)(K:List AV->Prop):zn3 P t i v cs K=zU (zbe P t i) λf=>v.known=true/\v.cells.length=f.size/\f.off+f.size<=cs.length/\K (splice cs f.off v.cells):=Eq.trans rfl rfl
@[congr] theorem zwI{dd:Prop}(_:blk=dd){t}{a a':Operand->AV}{l}{cs cs'}{K:List AV->Prop}(h2:cs=cs')(h:a=a'):zjV P t a l cs K=zjV P t a' l cs' K:=by rw[h,h2]
@[simp] theorem zA2(t cs)(K:List AV->Prop):zjV P t a [] cs K=K cs:=Eq.trans rfl rfl
@[simp] theorem zy3(t i x r cs)(K:List AV->Prop):zjV P t a ((i,x)::r) cs K=zn3 P t i (a x) cs λcs=>zjV P t a r cs K:=Eq.trans rfl rfl
@[congr] theorem zwJ{dd:Prop}(_:blk=dd){n sz}{a a':Operand->AV}{l}{cs cs'}{K:List AV->Prop}(h2:cs=cs')(h:a=a'):ziJ n sz a l cs K=ziJ n sz a' l cs' K:=by rw[h,h2]
@[simp] theorem zA3(n sz cs)(K:List AV->Prop):ziJ n sz a [] cs K=K cs:=Eq.trans rfl rfl
@[simp] theorem zy4(n sz i x r cs)(K:List AV->Prop):ziJ n sz a ((i,x)::r) cs K=(i<n/\(a x).known=true/\(a x).cells.length=sz/\ziJ n sz a r (cs.set i (a x)) K):=Eq.trans rfl rfl
@[congr] theorem zvD{dd:Prop}(_:blk=dd){t}{a a':Operand->AV}{l l'}(h:a=a')(h2:l=l'):zi8 P t a l K=zi8 P t a' l' K:=by rw[h,h2]
@[simp] theorem zA4(t l):zi8 P t a l K=((zY P t=true/\zew P t=true)/\zU (zG P t) λz=>z.known=true/\zjV P t a l z.cells λcs=>K (.agg cs)):=Eq.trans rfl rfl
@[congr] theorem zo6{dd:Prop}(_:blk=dd){t n}{a a':Operand->AV}{l l'}(h:a=a')(h2:l=l'):zaG P t n a l K=zaG P t n a' l' K:=by rw[h,h2]
@[simp] theorem zsd(t n l):zaG P t n a l K=zU (zcd P t) λsz=>zU (zaR P t) λz=>z.cells.length=sz/\0<sz/\n*sz<=2^24/\ziJ n sz a l (yaj n z) λxs=>K (.sl (.stat true) sz xs):=by
 simp[zaG,zU]
@[congr] theorem zqt{dd:Prop}(_:blk=dd){t n}{a a':Operand->AV}{l l'}{J J':AS}{K:AV->AS->Prop}(h:a=a')(h2:l=l')(h3:J=J'):zdD P t n a l J K=zdD P t n a' l' J' K:=by rw[h,h2,h3]
@[congr] theorem zvE{dd:Prop}(_:blk=dd){a a':Operand->AV}{n n' lo hi mx}{K:Nat->Nat->Nat->Prop}(h:a=a')(h2:n=n'):zdk a n lo hi mx K=zdk a' n' lo hi mx K:=by rw[h,h2]
@[simp] theorem zA5(n lo hi mx)(K:Nat->Nat->Nat->Prop):zdk a n lo hi mx K=zU (zcg a 0 lo) λl=>zU (zcg a n hi) λh=>zU (zcg a n mx) λm =>
  0<=l/\l<=h/\h<=m/\m<=n/\(mx.isSome->hi.isSome)/\K l.toNat h.toNat m.toNat:=by simp[zdk,zU]
def zFL(v:AV):Option Int:=match v with
 | .int _ n=>some n
 | _=>none
@[simp] theorem zDL(k n):zFL (.int k n)=some n:=Eq.trans rfl rfl
@[simp] theorem zwK(d):zcg a d none=some d:=Eq.trans rfl rfl
@[simp] theorem zvF(d x):zcg a d (some x)=zFL (a x):=Eq.trans rfl rfl
@[congr] theorem zvG{dd:Prop}(_:blk=dd){a a':Operand->AV}{t x x' lo hi mx}(h:a=a')(h2:x=x'):zeC P a t x lo hi mx K=zeC P a' t x' lo hi mx K:=by rw[h,h2]
@[simp] theorem zy5(t s lo hi mx):zeC P a t (.str s) lo hi mx K=(zcf P t=true/\mx=none/\zdk a s.length lo hi none λl h _=>K (.str ((s.take h).drop l))):=Eq.trans rfl rfl
@[simp] theorem zy6(t lo hi mx):zeC P a t .nilsl lo hi mx K=((zcd P t).isSome=true/\zdk a 0 lo hi mx λ_ _ _=>K .nilsl):=Eq.trans rfl rfl
@[simp] theorem zA6(t φ sz xs lo hi mx):zeC P a t (.sl φ sz xs) lo hi mx K=(zcd P t=some sz/\zdk a xs.length lo hi mx λl h m=>K (.sl (cut φ (if mx.isSome then decide (m=h)else φ.full&&decide (h=xs.length))) sz ((xs.take h).drop l))):=Eq.trans rfl rfl
@[simp] theorem zy7(t o off sz len lo hi mx):zeC P a t (.slm o off sz len) lo hi mx K=(zcd P t=some sz/\mx=none/\zdk a len lo hi none λl h _=>(l<len\/l=0)/\K (.slm o (off+l*sz) sz (h-l))):=Eq.trans rfl rfl
@[simp] theorem zDM(b f):cut (.stat b) f=.stat f:=Eq.trans rfl rfl
@[simp] theorem zEL(g b f):cut (.fam g b) f=.fam g f:=Eq.trans rfl rfl
@[simp] theorem zA7(f):Own.full (.stat f)=f:=Eq.trans rfl rfl
@[simp] theorem zDN(g f):Own.full (.fam g f)=f:=Eq.trans rfl rfl
@[simp] theorem zsN(F f):zl F (.stat f)=True:=Eq.trans rfl rfl
@[simp] theorem zvH(F g f):zl F (.fam g f)=(F g=.alive):=Eq.trans rfl rfl
@[simp] theorem zA8(l):(AV.agg l).cells=l:=Eq.trans rfl rfl
@[simp] theorem zA9(k n):(AV.int k n).cells=[.int k n]:=Eq.trans rfl rfl
@[simp] theorem zy8(b):(AV.bool b).cells=[.bool b]:=Eq.trans rfl rfl
@[simp] theorem zBa(b):(AV.str b).cells=[.str b]:=Eq.trans rfl rfl
@[simp] theorem zy9:AV.nilp.cells=[.nilp]:=Eq.trans rfl rfl
@[simp] theorem zwL:AV.nilsl.cells=[.nilsl]:=Eq.trans rfl rfl
@[simp] theorem zBb(o f):(AV.ptr o f).cells=[.ptr o f]:=Eq.trans rfl rfl
@[simp] theorem zDO(o f x):(AV.sl o f x).cells=[.sl o f x]:=Eq.trans rfl rfl
@[simp] theorem zBc(o f x y):(AV.slm o f x y).cells=[.slm o f x y]:=Eq.trans rfl rfl
@[simp] theorem zwM(t v):(AV.iface t v).cells=[.iface t v]:=Eq.trans rfl rfl
variable {J : AS}
@[simp] theorem zBd(cs):(J.newO cs).objs=upd J.objs J.no (some cs):=Eq.trans rfl rfl
@[simp] theorem zEM(cs):(J.newO cs).no=J.no+1:=Eq.trans rfl rfl
@[simp] theorem zFM(cs):(J.newO cs).F=J.F:=Eq.trans rfl rfl
@[simp] theorem zEN(cs):(J.newO cs).nf=J.nf:=Eq.trans rfl rfl
@[simp] theorem zBe(o cs):(J.setO o cs).objs=upd J.objs o (some cs):=Eq.trans rfl rfl
@[simp] theorem zEO(o cs):(J.setO o cs).no=J.no:=Eq.trans rfl rfl
@[simp] theorem zFN(o cs):(J.setO o cs).F=J.F:=Eq.trans rfl rfl
@[simp] theorem zEP(o cs):(J.setO o cs).nf=J.nf:=Eq.trans rfl rfl
@[simp] theorem zBf:J.newF.objs=J.objs:=Eq.trans rfl rfl
@[simp] theorem zEQ:J.newF.no=J.no:=Eq.trans rfl rfl
@[simp] theorem zFO:J.newF.F=upd J.F J.nf .alive:=Eq.trans rfl rfl
@[simp] theorem zER:J.newF.nf=J.nf+1:=Eq.trans rfl rfl
@[simp] theorem zBg(f s):(J.setF f s).objs=J.objs:=Eq.trans rfl rfl
@[simp] theorem zES(f s):(J.setF f s).no=J.no:=Eq.trans rfl rfl
@[simp] theorem zFP(f s):(J.setF f s).F=upd J.F f s:=Eq.trans rfl rfl
@[simp] theorem zET(f s):(J.setF f s).nf=J.nf:=Eq.trans rfl rfl
@[congr] theorem zwN{dd:Prop}(_:blk=dd){t}{p p':AV}{J J':AS}(h:p=p')(h2:J=J'):zcH P t p J K=zcH P t p' J' K:=by rw[h,h2]
@[simp] theorem zBh(t o off):zcH P t (.ptr o off) J K=zU (J.objs o) λcs=>zU (zbd P t) λn=>zaC (zaT P t) n off cs K:=by simp[zcH,zU]
def whole(g:Bool)(n:Nat)(v:AV)(K:AV->Prop):Prop:=if g then ∃cs,v=.agg cs/\cs.length=n/\K v else v.cells=[v]/\K v
@[congr] theorem zwO{dd:Prop}(_:blk=dd){g g' n}{v v':AV}(h:v=v')(h2:g=g'):whole g n v K=whole g' n v' K:=by rw[h,h2]
@[simp] theorem zBi(n cs):whole true n (.agg cs) K=(cs.length=n/\K (.agg cs)):=by simp[whole]
@[simp] theorem zBj(n v):whole false n v K=(v.cells=[v]/\K v):=by simp[whole]
@[simp] theorem zDP(t φ v):zcH P t (.pv φ v) J K=(zl J.F φ/\zU (zbd P t) λn=>whole (zaT P t) n v K):=by simp[zcH,zU,whole]
@[congr] theorem zvI{dd:Prop}(_:blk=dd){t}{p p' v v':AV}{J J':AS}{K:AS->Prop}(h:p=p')(h1:v=v')(h2:J=J'):zhu P t p v J K=zhu P t p' v' J' K:=by rw[h,h1,h2]
@[simp] theorem zAa(t o off v)(K:AS->Prop):zhu P t (.ptr o off) v J K=zU (J.objs o) λcs=>v.known=true/\zbd P t=some v.cells.length/\off+v.cells.length<=cs.length/\(∀c∈v.cells,c.one=true)/\K (J.setO o (splice cs off v.cells)):=Eq.trans rfl rfl
@[congr] theorem zsO{dd:Prop}(_:blk=dd){t z sz}{x x':AV}{F F':Nat->FSt}{K:List AV->Prop}(h:x=x')(h2:F=F'):zcz P t z sz x F K=zcz P t z sz x' F' K:=by rw[h,h2]
variable {F : Nat -> FSt}
@[simp] theorem zwP(t z sz)(K:List AV->Prop):zcz P t z sz .nilsl F K=((zcd P t).isSome=true/\K []):=Eq.trans rfl rfl
@[simp] theorem zAb(t z sz φ s ys)(K:List AV->Prop):zcz P t z sz (.sl φ s ys) F K=(zcd P t=some s/\s=sz/\zl F φ/\K ys):=Eq.trans rfl rfl
@[simp] theorem zwQ(t z sz bs)(K:List AV->Prop):zcz P t z sz (.str bs) F K=(zcf P t=true/\sz=1/\K (bs.map λb=>.int .u8 b.toNat)):=Eq.trans rfl rfl
@[simp] theorem zwR(t z sz k n)(K:List AV->Prop):zcz P t z sz (.int k n) F K=((zdj P t).isSome=true/\0<=n/\n<2^46/\K (yaj n.toNat z)):=Eq.trans rfl rfl
def zb7(el:Option TypeId)(bs sz:Nat)(s:AV)(ys:List AV)(J:AS)(K:AV->AS->Prop):Prop :=
 match s with
 | .nilsl=>ys.length*bs<=2^47/\(ys=[]->K .nilsl J)/\(ys≠[]->K (.sl (.fam J.nf false) sz ys) J.newF)
 | .sl (.stat true) s' xs=>s'=sz/\(xs.length+ys.length)*bs<=2^47/\(ys=[]->K (.sl (.stat true) s' xs) J)/\(ys≠[]->K (.sl (.fam J.nf false) sz (xs++ys)) J.newF)
 | .sl (.fam f true) s' xs=>s'=sz/\(xs.length+ys.length)*bs<=2^47/\J.F f=.alive/\(ys=[]->K (.sl (.fam f true) s' xs) J)/\(ys≠[]->K (.sl (.fam J.nf false) sz (xs++ys)) J.newF)
 | .sl (.fam f false) s' xs=>s'=sz/\(xs.length+ys.length)*bs<=2^47/\J.F f=.alive/\K (.sl (.fam J.nf false) sz (xs++ys)) (J.setF f .dead).newF
 | .sl (.stat false) s' xs=>ys=[]/\K (.sl (.stat false) s' xs) J
 | .slm o off s' len=>s'=sz/\off=0/\(len+ys.length)*bs<=2^47/\∃cs,J.objs o=some cs/\len*sz<=cs.length/\K (.slm J.no 0 sz (len+ys.length)) (J.moveO o (cs.take (len*sz)++zy ys))
 | .tys e .nilsl=>el=some e/\ys.length*bs<=2^47/\(ys=[]->K (.tys e .nilsl) J)/\(ys≠[]->K (.tys e (.sl (.fam J.nf false) sz ys)) J.newF)
 | .tys e (.sl (.fam f false) s' xs)=>el=some e/\s'=sz/\(xs.length+ys.length)*bs<=2^47/\J.F f=.alive/\K (.tys e (.sl (.fam J.nf false) sz (xs++ys))) (J.setF f .dead).newF
 | .rm c (.sl (.fam f false) s' xs)=>s'=sz/\xs.length+ys.length<=c/\ys.length*bs<=2^47/\J.F f=.alive/\K (.rm c (.sl (.fam J.nf false) sz (xs++ys))) (J.setF f .dead).newF
 | .lit bl=>1=sz/\(bl.length+ys.length)*bs<=2^47/\ys≠[]/\K (.sl (.fam J.nf false) sz (B bl++ys)) J.newF
 | _=>False
@[congr] theorem zwS{dd:Prop}(_:blk=dd){el bs sz}{s s':AV}{ys ys':List AV}{J J':AS}{K:AV->AS->Prop}(h:s=s')(h1:ys=ys')(h2:J=J'):zb7 el bs sz s ys J K=zb7 el bs sz s' ys' J' K:=by rw[h,h1,h2]
variable {KS : AV -> AS -> Prop}
def elT(P:Program)(t:TypeId):Option TypeId:=match P.underlying t with
 | some (.slice e)=>some e
 | _=>none
theorem zwT{P:Program}{t e:TypeId}:elT P t=some e↔P.underlying t=some (.slice e):=by
 unfold elT
 split
 .rename_i h;rw[h];simp
 .rename_i h;simp;intro q;exact h _ q
@[simp] theorem zkd(el bs sz e ys):zb7 el bs sz (.tys e .nilsl) ys J KS=(el=some e/\ys.length*bs<=2^47/\(ys=[]->KS (.tys e .nilsl) J)/\(ys≠[]->KS (.tys e (.sl (.fam J.nf false) sz ys)) J.newF)):=Eq.trans rfl rfl
@[simp] theorem zke(el bs sz e f s' xs ys):zb7 el bs sz (.tys e (.sl (.fam f false) s' xs)) ys J KS=(el=some e/\s'=sz/\(xs.length+ys.length)*bs<=2^47/\J.F f=.alive/\KS (.tys e (.sl (.fam J.nf false) sz (xs++ys))) (J.setF f .dead).newF):=Eq.trans rfl rfl
@[simp] theorem zDQ(el bs sz c f s' xs ys):zb7 el bs sz (.rm c (.sl (.fam f false) s' xs)) ys J KS=(s'=sz/\xs.length+ys.length<=c/\ys.length*bs<=2^47/\J.F f=.alive/\KS (.rm c (.sl (.fam J.nf false) sz (xs++ys))) (J.setF f .dead).newF):=Eq.trans rfl rfl
@[simp] theorem zsP(el bs sz):zb7 el bs sz .nilsl [] J KS=KS .nilsl J:=by simp[zb7]
@[simp] theorem zse(el bs sz y ys):zb7 el bs sz .nilsl (y::ys) J KS=((y::ys).length*bs<=2^47/\KS (.sl (.fam J.nf false) sz (y::ys)) J.newF):=by simp[zb7]
@[simp] theorem zBk(el bs sz f s' xs ys):zb7 el bs sz (.sl (.fam f false) s' xs) ys J KS=(s'=sz/\(xs.length+ys.length)*bs<=2^47/\J.F f=.alive/\KS (.sl (.fam J.nf false) sz (xs++ys)) (J.setF f .dead).newF):=Eq.trans rfl rfl
@[simp] theorem grown_full_cons(el bs sz f s' xs y ys):zb7 el bs sz (.sl (.fam f true) s' xs) (y::ys) J KS=(s'=sz/\(xs.length+(y::ys).length)*bs<=2^47/\J.F f=.alive/\KS (.sl (.fam J.nf false) sz (xs++y::ys)) J.newF):=by simp[zb7]
@[simp] theorem zsf(el bs sz s' xs):zb7 el bs sz (.sl (.stat true) s' xs) [] J KS=(s'=sz/\xs.length*bs<=2^47/\KS (.sl (.stat true) s' xs) J):=by simp[zb7]
@[simp] theorem zqu(el bs sz s' xs y ys):zb7 el bs sz (.sl (.stat true) s' xs) (y::ys) J KS=(s'=sz/\(xs.length+(y::ys).length)*bs<=2^47/\KS (.sl (.fam J.nf false) sz (xs++y::ys)) J.newF):=by simp[zb7]
@[congr] theorem zsQ{dd:Prop}(_:blk=dd){t u}{s s' x x':AV}{J J':AS}{K:AV->AS->Prop}(h:s=s')(h1:x=x')(h2:J=J'):zeV P t u s x J K=zeV P t u s' x' J' K:=by rw[h,h1,h2]
@[simp] theorem zAc(t u s x):zeV P t u s x J KS=zU (zcd P t) λsz=>zU (zbh P t) λbs=>0<bs/\zU (zaR P t) λz=>z.known=true/\z.cells.length=sz/\0<sz /\
  zcz P u z sz x J.F λys=>(∀y∈ys,y.cells.length=sz/\∀c∈y.cells,c.one=true)/\zb7 (elT P t) bs sz s ys J KS:=by
 simp only[zeV,zU,zb7,zwT]
 apply propext
 constructor
 .rintro ⟨sz,bs,z,h1,h2,h3,h4,h5,h6,h7,h8⟩
  exact⟨sz,h1,bs,h2,h3,z,h4,h5,h6,h7,h8⟩
 .rintro ⟨sz,h1,bs,h2,h3,z,h4,h5,h6,h7,h8⟩
  exact⟨sz,bs,z,h1,h2,h3,h4,h5,h6,h7,h8⟩
def zvJ(K PK:AV->AS->Prop):Out->AS->Prop:=λo J'=>match o with
 | .ret v=>K v J'
 | .panic v=>PK v J'
@[simp] theorem zDR(K PK:AV->AS->Prop)(v J'):zvJ K PK (.ret v) J'=K v J':=Eq.trans rfl rfl
@[simp] theorem zAd(K PK:AV->AS->Prop)(v J'):zvJ K PK (.panic v) J'=PK v J':=Eq.trans rfl rfl
@[congr] theorem zwU{dd:Prop}(_:blk=dd){G}{f f':AV}{l l':List AV}{J J':AS}{K PK:AV->AS->Prop}(h:f=f')(h1:l=l')(h2:J=J'):zlp P G f l J K PK=zlp P G f' l' J' K PK:=by rw[h,h1,h2]
@[simp] theorem zDS(G n first cap l)(K PK:AV->AS->Prop):zlp P G (.fn (.func n) first cap) l J K PK=(za P n=true/\ACalls P G n (first++l++cap) J (zvJ K PK)):=by
 rfl
@[congr] theorem zAe{dd:Prop}(_:blk=dd){K PK:AV->AS->Prop}{o o':Out}{J J':AS}(h:o=o')(h1:J=J'):zvJ K PK o J=zvJ K PK o' J':=by rw[h,h1]
@[congr] theorem zAf{dd:Prop}(_:blk=dd){l}{a a':Nat->AV}{J J':AS}{K:List AV->Prop}(h:a=a')(h2:J=J'):zkb P l a J K=zkb P l a' J' K:=by rw[h,h2]
@[simp] theorem zDT(a J)(K:List AV->Prop):zkb P [] a J K=K []:=Eq.trans rfl rfl
@[simp] theorem zDU(t r a J)(K:List AV->Prop):zkb P (.tmp t::r) a J K=zkb P r a J λvs=>K (a t::vs):=Eq.trans rfl rfl
@[simp] theorem zBl(t ty r a J)(K:List AV->Prop):zkb P (.cell t ty::r) a J K=zcH P ty (a t) J λv=>zkb P r a J λvs=>K (v::vs):=Eq.trans rfl rfl
@[congr] theorem zAg{dd:Prop}(_:blk=dd){l}{R:Out->AS->Prop}{e:AExit}{a a':Nat->AV}{J J':AS}(h:a=a')(h2:J=J'):zfn P l R e a J=zfn P l R e a' J':=by rw[h,h2]
@[simp] theorem zwV(l)(R:Out->AS->Prop)(a J):zfn P l R .normal a J=zkb P l a J λvs=>R (.ret (tup vs)) J:=Eq.trans rfl rfl
@[simp] theorem zDV(l)(R:Out->AS->Prop)(a J):zfn P l R .ret a J=zkb P l a J λvs=>R (.ret (tup vs)) J:=Eq.trans rfl rfl
@[simp] theorem zAh(l)(R:Out->AS->Prop)(v a J):zfn P l R (.panic v) a J=R (.panic v) J:=Eq.trans rfl rfl
@[simp] theorem zEU(v):tup [v]=v:=Eq.trans rfl rfl
@[simp] theorem zEV:tup []=.tuple []:=Eq.trans rfl rfl
@[simp] theorem zEW(v w l):tup (v::w::l)=.tuple (v::w::l):=Eq.trans rfl rfl
@[simp] theorem zAi(b):(AV.bool b).known=true:=Eq.trans rfl rfl
@[simp] theorem zDW(b):(AV.bool b).one=true:=Eq.trans rfl rfl
@[simp] theorem zBm(k n):(AV.int k n).known=true:=Eq.trans rfl rfl
@[simp] theorem zEX(k n):(AV.int k n).one=true:=Eq.trans rfl rfl
@[simp] theorem zBn(s):(AV.str s).known=true:=Eq.trans rfl rfl
@[simp] theorem zEY(s):(AV.str s).one=true:=Eq.trans rfl rfl
@[simp] theorem zAj:AV.nilp.known=true:=Eq.trans rfl rfl
@[simp] theorem zBo(o i):(AV.ptr o i).known=true:=Eq.trans rfl rfl
@[simp] theorem zEZ(o i):(AV.ptr o i).one=true:=Eq.trans rfl rfl
@[simp] theorem zwW:AV.nilsl.known=true:=Eq.trans rfl rfl
@[simp] theorem zBp:AV.nilsl.one=true:=Eq.trans rfl rfl
@[simp] theorem zDX(φ z l):(AV.sl φ z l).known=true:=Eq.trans rfl rfl
@[simp] theorem zFQ(φ z l):(AV.sl φ z l).one=true:=Eq.trans rfl rfl
@[simp] theorem zBq(o i z l):(AV.slm o i z l).known=true:=Eq.trans rfl rfl
@[simp] theorem zBr(e v):(AV.tys e v).known=true:=Eq.trans rfl rfl
@[simp] theorem zE0(e v):(AV.tys e v).one=true:=Eq.trans rfl rfl
@[simp] theorem zBs(e v):(AV.tys e v).cells=[.tys e v]:=Eq.trans rfl rfl
@[simp] theorem zE1(o i z l):(AV.slm o i z l).one=true:=Eq.trans rfl rfl
@[simp] theorem zBt(l):(AV.agg l).known=true:=Eq.trans rfl rfl
theorem wrap_i64{n:Int}(h:-2^63<=n)(h2:n<2^63):yb5 .i64 n=n:=by
 unfold yb5
 simp[IntKind.bits,IntKind.signed]
 omega
end
mutual
def frz(f:Nat):AV->AV
 | .sl φ sz xs=>match φ with
  | .fam g b=>if g=f then .sl (.stat b) sz (zsR f xs)else .sl (.fam g b) sz (zsR f xs)
  | .stat b=>.sl (.stat b) sz (zsR f xs)
 | .agg cs=>.agg (zsR f cs)
 | .tuple vs=>.tuple (zsR f vs)
 | .iface t v=>.iface t (frz f v)
 | v=>v
def zsR(f:Nat):List AV->List AV
 | []=>[]
 | v::vs=>frz f v::zsR f vs
end
theorem zeZ(f:Nat):∀l,zsR f l=l.map (frz f)
 | []=>by simp[zsR]
 | v::l=>by simp[zsR,zeZ f l]
@[simp] theorem zo7(f g b sz xs):frz f (.sl (.fam g b) sz xs)=.sl (if g=f then .stat b else .fam g b) sz (xs.map (frz f)):=by
 by_cases h:g=f<;>simp[frz,zeZ,h]
@[simp] theorem zhO(f b sz xs):frz f (.sl (.stat b) sz xs)=.sl (.stat b) sz (xs.map (frz f)):=by simp[frz,zeZ]
@[simp] theorem zwX(f cs):frz f (.agg cs)=.agg (cs.map (frz f)):=by simp[frz,zeZ]
@[simp] theorem zqv(f cs):frz f (.tuple cs)=.tuple (cs.map (frz f)):=by simp[frz,zeZ]
@[simp] theorem zqw(f t v):frz f (.iface t v)=.iface t (frz f v):=by simp[frz]
@[simp] theorem zE2(f k n):frz f (.int k n)=.int k n:=by simp[frz]
@[simp] theorem zDY(f b):frz f (.bool b)=.bool b:=by simp[frz]
@[simp] theorem zE3(f b):frz f (.str b)=.str b:=by simp[frz]
@[simp] theorem zBu(f):frz f .nilsl=.nilsl:=by simp[frz]
@[simp] theorem zDZ(f):frz f .nilp=.nilp:=by simp[frz]
@[simp] theorem zBv(f):frz f .nilif=.nilif:=by simp[frz]
@[simp] theorem zE4(f o i):frz f (.ptr o i)=.ptr o i:=by simp[frz]
theorem zgL(f:Nat)(v:AV):(frz f v).cells.length=v.cells.length:=by
 cases v with
 | agg cs=>simp[frz,zeZ]
 | sl φ sz xs=>cases φ<;>simp[frz];split<;>simp
 | _=>simp[frz,AV.cells]
theorem zqx(f:Nat)(v:AV):(frz f v).cells=v.cells.map (frz f):=by
 cases v with
 | agg cs=>simp[frz,zeZ]
 | sl φ sz xs=>cases φ<;>simp[frz];split<;>simp
 | _=>simp[frz,AV.cells]
theorem zkf(f:Nat)(l:List AV):zy (l.map (frz f))=(zy l).map (frz f):=by
 simp[zy,yb6,yb7,zqx]
open Classical in
noncomputable def Mp.frz(M:Mp)(f:Nat):Mp:={ M with role:=λB=>if M.role B=some (.fam f)then some .stat else M.role B }
def zo8(F:Nat->FSt)(f:Nat):Nat->FSt:=upd F f .dead
theorem zmW{M:Mp}{F:Nat->FSt}{w:World}{f:Nat}(h:F f=.alive):Ext M F w (M.frz f) (zo8 F f) w where
 io:=.refl _
 no:=yah _
 nf:=yah _
 obj _ _:=rfl
 dead g _ hd:=by simp only[zo8,zeH];split<;>simp_all
 spoil g _ hs:=by simp only[zo8,zeH];split<;>simp_all
 size:=yah _
 shape _ _ _ _ h:=.same h rfl
 stat B _ hB:=⟨by simp[Mp.frz,hB],.inl rfl⟩
 free B _ hB:=⟨by simp[Mp.frz,hB],rfl⟩
 famr B g _ hB hd:=by
  have hg:g≠f:=by intro e;subst e;simp[zo8]at hd
  exact(if_neg (by rw[hB];simpa using hg)).trans hB
 famc _ _ _ _ _:=rfl
theorem VR.frz{M:Mp}{F:Nat->FSt}{w:World}{f:Nat}(ha:F f=.alive){v:AV}{c:Value}(h:VR M F w v c):VR (M.frz f) (zo8 F f) w (frz f v) c:=by
 have E:=zmW (M:=M) (w:=w) ha
 induction h with
 | slz b sz a=>rw[zhO];exact .slz b sz a
 | sl φ sz xs B off cap cs hcap hlit hsz hm hc hv ih =>
  have hrd:zl (zo8 F f) φ->zl F φ:=λh=>(hm.readable E h).1
  have hl:(xs.map (Go.Abs.frz f)).length=xs.length:=by simp
  have key:∀φ':Own,φ'.full=φ.full->Mem (M.frz f) (zo8 F f) w φ' B off (cap*sz)->(zl (zo8 F f) φ'->zl F φ) ->
    VR (M.frz f) (zo8 F f) w (.sl φ' sz (xs.map (Go.Abs.frz f))) (.slice (some ⟨B,off,none⟩) xs.length cap):=by
   intro φ' hfull hm' hr'
   have:=VR.sl (M:=M.frz f) (F:=zo8 F f) (w:=w) φ' sz (xs.map (Go.Abs.frz f)) B off cap cs (by simpa using hcap) (λh=>by rw[hl];exact hlit (by rw[<-hfull];exact h))
    (λx hx=>by simp at hx;obtain⟨y,hy,rfl⟩:=hx;rw[zgL];exact hsz y hy) hm' (λhr j hj=>hc (hr' hr) j (by rw[zkf]at hj;simpa using hj))
    (λhr j hj=>by
     have hj':j<(zy xs).length:=by rw[zkf]at hj;simpa using hj
     have:=ih (hr' hr) j hj'
     simp only[zkf,yak]
     exact this)
   rw[hl]at this
   exact this
  cases φ with
  | stat b=>rw[zhO];exact key _ rfl (hm.mono E) hrd
  | fam g b =>
   rw[zo7]
   by_cases hg:g=f
   .subst hg
    rw[if_pos rfl]
    refine key _ rfl ?_ (λ_=>ha)
    refine⟨false,?_⟩
    show(M.frz g).role B=some .stat
    simp[Mp.frz,(hm.2 (by rw[ha];simp)).1]
   .rw[if_neg hg];exact key _ rfl (hm.mono E) hrd
 | agg cs A hA va ih=>rw[zwX];exact .agg _ _ (by simpa using hA) (λj h h'=>by simpa using ih j (by simpa using h) h')
 | tuple cs A hA va ih=>rw[zqv];exact .tuple _ _ (by simpa using hA) (λj h h'=>by simpa using ih j (by simpa using h) h')
 | iface t v c h ih=>rw[zqw];exact .iface t _ _ ih
 | undef c=>simpa [Go.Abs.frz]using VR.undef c
 | bool b=>simpa using VR.bool b
 | int k n=>simpa using VR.int k n
 | str s=>simpa using VR.str s
 | nilp=>simpa using VR.nilp
 | nilsl=>simpa using VR.nilsl
 | nilfn=>simpa [Go.Abs.frz]using VR.nilfn
 | nilif=>simpa using VR.nilif
 | ptr o off h=>simpa using (VR.ptr (M:=M) (F:=F) (w:=w) o off h).mono E
 | pv φ v B off cs hm hc hv _=>simpa [Go.Abs.frz]using (VR.pv φ v B off cs hm hc hv).mono E
 | mp ks vs b es c h1 h2 h3=>simpa [Go.Abs.frz]using (VR.mp (M:=M) (F:=F) (w:=w) ks vs b es c h1 h2 h3).mono E
 | itr g ks vs zeo B h1 h2 h3=>simpa [Go.Abs.frz]using (VR.itr (M:=M) (F:=F) (w:=w) g ks vs zeo B h1 h2 h3).mono E
 | mpo g ks vs B h1 h2 h3=>simpa [Go.Abs.frz]using (VR.mpo (M:=M) (F:=F) (w:=w) g ks vs B h1 h2 h3).mono E
 | lit bs B e z h1 h2 h3=>simpa [Go.Abs.frz]using (VR.lit (M:=M) (F:=F) (w:=w) bs B e z h1 h2 h3).mono E
 | sit g bs pos B h1 h2 h3=>simpa [Go.Abs.frz]using (VR.sit (M:=M) (F:=F) (w:=w) g bs pos B h1 h2 h3).mono E
 | tys e v c h ht _=>simpa [Go.Abs.frz]using (VR.tys e v c h ht).mono E
 | tyd e v a n cap h ht _=>simpa [Go.Abs.frz]using (VR.tyd e v a n cap h ht).mono E
 | rm c v a n cap h hc _=>simpa [Go.Abs.frz]using (VR.rm c v a n cap h hc).mono E
 | pt t n o off h h1 h2=>simpa [Go.Abs.frz]using (VR.pt (M:=M) (F:=F) (w:=w) t n o off h h1 h2).mono E
 | slm o off sz len cap h hcap hr=>simpa [Go.Abs.frz]using (VR.slm (M:=M) (F:=F) (w:=w) o off sz len cap h hcap hr).mono E
 | fn g first cap A B ha hb va vb _ _=>simpa [Go.Abs.frz]using (VR.fn g first cap A B ha hb va vb).mono E
def AS.frz(J:AS)(f:Nat)(p:Nat->Bool):AS :=
 { J with F:=zo8 J.F f,objs:=λo=>if p o then(J.objs o).map (List.map (Go.Abs.frz f))else J.objs o }
theorem Sim.frz{M:Mp}{J:AS}{w:World}{f:Nat}{p:Nat->Bool}(S:Sim M J w)(ha:J.F f=.alive):Sim (M.frz f) (J.frz f p) w where
 no:=S.no
 nf:=S.nf
 role B r h:=by
  simp only[Mp.frz]at h
  split at h
  .rename_i h1;exact S.role B _ h1
  .exact S.role B r h
 obj o cs h:=by
  have E:=zmW (M:=M) (w:=w) ha
  simp only[AS.frz]at h
  have fin:∀cs0,J.objs o=some cs0->cs.length=cs0.length->(∀j (h:j<cs.length) (h':j<cs0.length),∀c,VR M J.F w cs0[j] c->VR (M.frz f) (zo8 J.F f) w cs[j] c)->_:=λcs0 h0 hl hk=>by
   obtain⟨h1,h2,h3⟩:=S.obj o cs0 h0
   refine(⟨h1,?_,λj hj=>?_⟩:o<(J.frz f p).no/\(M.frz f).role ((M.frz f).obj o).1=some .obj/\∀j (h:j<cs.length),∃c,w.cell? ⟨((M.frz f).obj o).1,((M.frz f).obj o).2+j,none⟩=some c/\w.frozen? ⟨((M.frz f).obj o).1,((M.frz f).obj o).2+j,none⟩=false/\VR (M.frz f) (J.frz f p).F w cs[j] c)
   .simp[Mp.frz,h2]
   .obtain⟨c,a,b,d⟩:=h3 j (by omega)
    exact⟨c,a,b,hk j hj (by omega) c d⟩
  split at h
  .cases h0:J.objs o with
   | none=>rw[h0]at h;simp at h
   | some cs0 =>
    rw[h0]at h;simp at h;subst h
    exact fin cs0 h0 (by simp) (λj hj hj' c hc=>by simpa using hc.frz ha)
  .exact fin cs h rfl (λj hj hj' c hc=>hc.mono E)
 inj o o' h h':=by
  refine S.inj o o' ?_ ?_
  .simp only[AS.frz]at h;split at h<;>simpa using h
  .simp only[AS.frz]at h';split at h'<;>simpa using h'
def AS.zero:AS:=⟨λ_=>none,0,λ_=>.dead,0⟩
def Mp.all(w:World):Mp:=⟨λB=>if B<w.heap.size then some .stat else none,λ_=>(0,0),0,0⟩
theorem zwY(w:World):Sim (Mp.all w) AS.zero w where
 no:=rfl
 nf:=rfl
 role B r h:=by
  simp only[Mp.all]at h
  split at h
  .assumption
  .cases h
 obj o cs h:=by simp[AS.zero]at h
 inj o o' h:=by simp[AS.zero]at h
theorem ACalls.run{P:Program}{G:Env}{f:FuncId}{args:List AV}{cargs:Array Value}{w:World}{R:Out->AS->Prop}
  (hG:GOk P G (Mp.all w) AS.zero.F w) (hc:Cells (Mp.all w) AS.zero.F w args cargs) (h:ACalls P G f args AS.zero R) :
  Calls P f cargs w λe w'=>(∃out J' M',R out J'/\zbx M' J'.F w' out e)/\RowKit.Below w.heap.size w w':=by
 refine(h _ w cargs (zwY w) hG hc).mono λe w' ⟨out,J',M',h1,h2,h3,h4⟩=>⟨⟨out,J',M',h1,h2⟩,h4.io.1,h4.io.2.1,h4.io.2.2,h4.size,λk hk=>?_⟩
 exact(h4.stat k false (by simp[Mp.all,hk])).2.exact
theorem ACalls.law{P:Program}{G:Env}{f:FuncId}{args:List AV}{cargs:Array Value}{w:World}
  (hG:GOk P G (Mp.all w) AS.zero.F w) (hc:Cells (Mp.all w) AS.zero.F w args cargs) (h:ACalls P G f args AS.zero λo _=>o=.ret (.bool true)) :
  Calls P f cargs w λe w'=>e=.returned (.bool true)/\RowKit.Below w.heap.size w w':=by
 refine(ACalls.run hG hc h).mono λe w' ⟨⟨out,J',M',h1,h2⟩,hb⟩=>⟨?_,hb⟩
 subst h1
 cases e with
 | returned v=>simp only[zbx]at h2;cases h2;rfl
 | _=>simp[zbx]at h2
structure zcJ(w w':World):Prop where
 cell:∀B i,w'.cell? ⟨B,i,none⟩=w.cell? ⟨B,i,none⟩
 froz:∀B i,w'.frozen? ⟨B,i,none⟩=w.frozen? ⟨B,i,none⟩
 size:w'.heap.size=w.heap.size
 whole:∀(B:Nat) c e z,w.heap[B]?=some (Obj.cells c e z)->w'.heap[B]?=some (Obj.cells c e z)
 map:∀(B:Nat) es c,w.heap[B]?=some (Obj.map es c)->w'.heap[B]?=some (Obj.map es c)
 sitr:∀(B:Nat) s p,w.heap[B]?=some (Obj.stringIter s p)->w'.heap[B]?=some (Obj.stringIter s p)
 itr:∀(B:Nat) m a b c,w.heap[B]?=some (Obj.mapIter m a b c)->w'.heap[B]?=some (Obj.mapIter m a b c)
theorem Mem.same{M F w w' φ B off n}(h:Mem M F w φ B off n)(s:zcJ w w'):Mem M F w' φ B off n:=by
 cases φ with
 | stat b=>exact h
 | fam f b=>exact⟨h.1,λhd=>⟨(h.2 hd).1,λj hj=>by rw[s.cell,s.froz];exact(h.2 hd).2 j hj⟩⟩
theorem zdq.same{w w'}(s:zcJ w w'){e c}(h:zdq w e c):zdq w' e c:=by
 unfold zdq at *
 split at h
 .trivial
 .obtain⟨h1,h2,h3,x,z,h4,h5⟩:=h
  exact⟨h1,h2,h3,x,z,s.whole _ _ _ _ h4,h5⟩
 .exact h
theorem VR.same{M F w w'}(s:zcJ w w'){v:AV}{c:Value}(h:VR M F w v c):VR M F w' v c:=by
 induction h with
 | undef c=>exact .undef c
 | bool b=>exact .bool b
 | int k n=>exact .int k n
 | str s=>exact .str s
 | nilp=>exact .nilp
 | ptr o off h=>exact .ptr o off h
 | pt t n o off h hz hb =>
  obtain⟨c,z,h1,h2⟩:=hb
  exact .pt t n o off h hz ⟨c,z,s.whole _ _ _ _ h1,h2⟩
 | pv φ v B off cs hm hc hv ih=>exact .pv φ v B off cs (hm.same s) (λhr j hj=>by rw[s.cell];exact hc hr j hj) ih
 | nilsl=>exact .nilsl
 | slz b sz a=>exact .slz b sz a
 | sl φ sz xs B off cap cs hcap hlit hsz hm hc hv ih=>exact .sl φ sz xs B off cap cs hcap hlit hsz (hm.same s) (λhr j hj=>by rw[s.cell];exact hc hr j hj) ih
 | slm o off sz len cap h hcap hr=>exact .slm o off sz len cap h hcap λhn j hj=>by rw[s.cell,s.froz];exact hr hn j hj
 | fn f first cap A B ha hb va vb iha ihb=>exact .fn f first cap A B ha hb iha ihb
 | nilfn=>exact .nilfn
 | tys e v c h ht ih=>exact .tys e v c ih (ht.same s)
 | sit f bs pos B hf hm hh=>exact .sit f bs pos B hf hm λha=>s.sitr _ _ _ (hh ha)
 | tyd e v a n cap h ht ih=>exact .tyd e v a n cap ih (ht.same s)
 | rm c v a n cap h hc ih=>exact .rm c v a n cap ih hc
 | iface t v c h ih=>exact .iface t v c ih
 | nilif=>exact .nilif
 | agg cs A ha va ih=>exact .agg cs A ha ih
 | tuple vs A ha va ih=>exact .tuple vs A ha ih
 | mp ks vs b es clock hm hh hr=>exact .mp ks vs b es clock hm (s.map _ _ _ hh) hr
 | itr f ks vs zeo B hf hm hh =>
  refine .itr f ks vs zeo B hf hm λha=>?_
  obtain⟨b,es,clock,sn,h1,h2,h3,h4⟩:=hh ha
  exact⟨b,es,clock,sn,s.itr _ _ _ _ _ h1,h2,s.map _ _ _ h3,h4⟩
 | mpo f ks vs B hf hm hh =>
  refine .mpo f ks vs B hf hm λha=>?_
  obtain⟨es,clock,h1,h2⟩:=hh ha
  exact⟨es,clock,s.map _ _ _ h1,h2⟩
 | lit bs B e z hm hh hz=>exact .lit bs B e z hm (s.whole _ _ _ _ hh) hz
theorem Sim.same{M J w w'}(S:Sim M J w)(s:zcJ w w'):Sim M J w' where
 no:=S.no
 nf:=S.nf
 role B r h:=by rw[s.size];exact S.role B r h
 obj o cs ho:=by
  obtain⟨a,b,c⟩:=S.obj o cs ho
  refine⟨a,b,λj hj=>?_⟩
  obtain⟨x,h1,h2,h3⟩:=c j hj
  exact⟨x,by rw[s.cell];exact h1,by rw[s.froz];exact h2,h3.same s⟩
 inj:=S.inj
theorem Fr.same{M F w w' a ac n}(f:Fr M F w a ac n)(s:zcJ w w'):Fr M F w' a ac n:=⟨f.size,λt=>(f.val t).same s⟩
theorem zx(w:World)(l:Nat)(o:Obj)(B:Nat):(w.putObj l o).heap[B]?=if B=l/\l<w.heap.size then some o else w.heap[B]?:=by
 simp only[World.putObj,yb0]
 by_cases h:B=l
 .subst h
  by_cases h2:B<w.heap.size
  .simp[h2]
  .simp[h2]
 .simp[h,Ne.symm h]
def Obj.odd:Obj->Bool
 | .cells ..|.map ..|.mapIter ..|.stringIter ..=>true
 | _=>false
theorem Obj.odd_cells{o:Obj}(h:Obj.odd o=false):o.isCells=false:=by cases o<;>simp_all [Obj.odd,Obj.isCells]
theorem zaP{w:World}{l:Nat}{o o':Obj}(h:w.heap[l]?=some o)(h1:Obj.odd o=false)(h2:o'.isCells=false):zcJ w (w.putObj l o'):=by
 have hl:l<w.heap.size:=(yaU.1 h).1
 have keep:∀(B:Nat) x,Obj.odd x=true->w.heap[B]?=some x->(w.putObj l o').heap[B]?=some x:=λB x hx hB=>by
  rw[zx]
  have:¬B=l:=by rintro rfl;rw[h]at hB;cases hB;rw[h1]at hx;cases hx
  rw[if_neg (λe=>this e.1)];exact hB
 refine⟨λB i=>?_,λB i=>?_,by simp,λB c e z hB=>keep B _ rfl hB,λB es c hB=>keep B _ rfl hB,λB s p hB=>keep B _ rfl hB,λB m a b c hB=>keep B _ rfl hB⟩
 .simp only[World.cell?,zx]
  by_cases hB:B=l
  .subst hB
   rw[if_pos ⟨rfl,hl⟩,h]
   cases o<;>cases o'<;>simp_all [Obj.isCells,Obj.odd]
  .rw[if_neg (λe=>hB e.1)]
 .simp only[World.frozen?,zx]
  by_cases hB:B=l
  .subst hB
   rw[if_pos ⟨rfl,hl⟩,h]
   cases o<;>cases o'<;>simp_all [Obj.isCells,Obj.odd]
  .rw[if_neg (λe=>hB e.1)]
theorem zqy(w:World)(l:Nat)(o:Obj):zaF w (w.putObj l o):=⟨rfl,rfl,rfl⟩
theorem Ext.restore{M F w M' F' w'}{l:Nat}{o o1:Obj}(E:Ext M F (w.putObj l o1) M' F' w')(h:w.heap[l]?=some o)(hc:o.isCells=false):Ext M F w M' F' (w'.putObj l o):=by
 have hl:l<w.heap.size:=(yaU.1 h).1
 have hs:=E.size
 simp only[World.putObj_size]at hs
 have key:∀B:Nat,w'.heap[B]?=(w.putObj l o1).heap[B]?->(w'.putObj l o).heap[B]?=w.heap[B]?:=by
  intro B hB
  rw[zx]
  by_cases e:B=l
  .subst e;rw[if_pos ⟨rfl,by omega⟩,h]
  .rw[if_neg (λq=>e q.1),hB,zx,if_neg (λq=>e q.1)]
 have keyS:∀(B:Nat) m,zdx m (w.putObj l o1) w' B->zdx m w (w'.putObj l o) B:=by
  intro B m hB
  by_cases e:B=l
  .subst e;exact .inl (by rw[zx,if_pos ⟨rfl,by omega⟩,h])
  .have e1:(w'.putObj l o).heap[B]?=w'.heap[B]?:=by rw[zx,if_neg (λq=>e q.1)]
   have e2:(w.putObj l o1).heap[B]?=w.heap[B]?:=by rw[zx,if_neg (λq=>e q.1)]
   rcases hB with hB|⟨hm,c,t,h1,h2⟩
   .exact .inl (by rw[e1,hB,e2])
   .exact .inr ⟨hm,c,t,by rw[<-e2];exact h1,by rw[e1];exact h2⟩
 refine⟨E.io,E.no,E.nf,E.obj,E.dead,E.spoil,by simpa using hs,λB c e z hB=>?_,λB m hB=>⟨(E.stat B m hB).1,keyS B m (E.stat B m hB).2⟩,λB hB hn=>?_,E.famr,λB f hf hr ha=>key B (E.famc B f hf hr ha)⟩
 .have hne:B≠l:=by rintro rfl;rw[h]at hB;cases hB;cases hc
  obtain⟨c',z',h1,h2⟩:=E.shape B c e z (by rw[zx,if_neg (λq=>hne q.1)];exact hB)
  exact⟨c',z',by rw[zx,if_neg (λq=>hne q.1)];exact h1,h2⟩
 .obtain⟨h1,h2⟩:=E.free B (by simpa using hB) hn
  exact⟨h1,key B h2⟩
theorem Ext.putFam{M F w}{l f:Nat}{o o1:Obj}(h:w.heap[l]?=some o)(hc:o.isCells=false)(hr:M.role l=some (.fam f))(ha:F f=.alive):Ext M F w M (upd F f .dead) (w.putObj l o1):=by
 have key:∀B:Nat,B≠l->(w.putObj l o1).heap[B]?=w.heap[B]?:=λB e=>by rw[zx,if_neg (λq=>e q.1)]
 refine⟨zqy _ _ _,yah _,yah _,λ_ _=>rfl,λg _ hd=>?_,λg _ hs=>?_,by simp,λB c e z hB=>?_,λB _ hB=>⟨hB,.inl (key B ?_)⟩,λB _ hn=>⟨hn,key B ?_⟩,λB g _ hB _=>hB,λB g _ hB hg=>key B ?_⟩
 .simp only[upd];split
  .rfl
  .exact hd
 .simp only[upd];split
  .simp
  .rw[hs];simp
 .have hne:B≠l:=by rintro rfl;rw[h]at hB;cases hB;cases hc
  exact .same (by rw[key B hne];exact hB) rfl
 .rintro rfl;rw[hr]at hB;cases hB
 .rintro rfl;rw[hr]at hn;cases hn
 .rintro rfl;rw[hr]at hB;cases hB;simp[upd]at hg
theorem Ext.dead_fam{M F w}{f:Nat}(ha:F f=.alive):Ext M F w M (upd F f .dead) w:=by
 refine⟨.refl _,yah _,yah _,λ_ _=>rfl,λg _ hd=>?_,λg _ hs=>?_,yah _,λB c e z hB=>.same hB rfl,λB _ hB=>⟨hB,.inl rfl⟩,λB _ hn=>⟨hn,rfl⟩,λB g _ hB _=>hB,λB g _ hB hg=>rfl⟩
 .simp only[upd];split
  .rfl
  .exact hd
 .simp only[upd];split
  .simp
  .rw[hs];simp
theorem Sim.ext_F{M J w F'}(S:Sim M J w)(E:Ext M J.F w M F' w):Sim M { J with F:=F' } w where
 no:=S.no
 nf:=S.nf
 role:=S.role
 obj o cs ho:=by
  obtain⟨a,b,c⟩:=S.obj o cs ho
  refine⟨a,b,λj hj=>?_⟩
  obtain⟨x,h1,h2,h3⟩:=c j hj
  exact⟨x,h1,h2,h3.mono E⟩
 inj:=S.inj
def zE5(P:Program)(l:Nat)(R:Ending->World->Prop):Exit->Act->World->Prop
 | .normal,_,w=>∃v w',(Instr.endRound l none).run P w=.ok v w'/\R (.returned v) w'
 | .panic ch,a,w=>a.defers=[]/\R (.panicked ch) w
 | _,_,_=>False
theorem zmX{P:Program}{l:Nat}{f:FuncId}{tmps:Array Value}{assign body:Code}{w:World}{R:Ending->World->Prop}{fn:Func}(hf:P.funcs[f]?=some fn)
  (h:assign.wpIn (zaI (some l)) 0 P (Exit.then (λa₁ w₁=>∃w₂,(Instr.beginRound l).run P w₁=.ok () w₂/\body.wpIn (zaI (some l)) 0 P (zE5 P l R) a₁ w₂) (λ_ _ _=>False)) { tmps:=tmps,defers:=[] } w) :
  RoundIn Fence.wide 0 P l f tmps assign body w R:=by
 refine⟨trivial,λc cs hr=>?_⟩
 let b:Frame:={ (default:Frame)with fn:=f,kind:=.normal,roundOf:=some l }
 have hb0:Frame.round l f tmps assign body .normal=b.atR { tmps:=tmps,defers:=[] } [.code assign,.beginRound,.code body]:=by
  simp[Frame.round,Frame.atR,b]
 have hr':(zaI (some l)).room ((c::cs).length+1+0):=hr
 have hF':(zaI (some l)).fn b.fn:=trivial
 obtain⟨e,a₁,w₁,hq,harr⟩:=h b [.beginRound,.code body] (c::cs) rfl hF' hr'
 rw[<-hb0]at harr
 cases e with
 | normal =>
  obtain⟨w₂,hbr,hbody⟩:=hq
  have s1:StepsIn (Machine.fenced P (zaI (some l))) P (lone (b.atR a₁ [.beginRound,.code body]) (c::cs) w₁) (lone (b.atR a₁ [.code body]) (c::cs) w₂) :=
   .one (fenced_calm (fr:=b.atR a₁ [.beginRound,.code body]) hF' hr' rfl) (stepR_beginRound rfl hbr)
  obtain⟨e₂,a₂,w₃,hq₂,harr₂⟩:=hbody b [] (c::cs) rfl hF' hr'
  cases e₂ with
  | normal =>
   obtain⟨v,w₄,hend,hR⟩:=hq₂
   exact⟨.returned v,w₄,hR,(StepsIn.trans harr s1).trans (StepsIn.trans harr₂ (.one (fenced_calm (fr:=b.atR a₂ []) hF' hr' rfl) (stepR_round_end rfl rfl hend)))⟩
  | panic chain =>
   obtain⟨hd,hR⟩:=hq₂
   obtain⟨todo,hs⟩:=harr₂
   have hlv:({ b.atR a₂ todo with mode:=.panicking chain }:Frame).leaving P w₃ (.panicked chain):=⟨rfl,hd,fn,hf⟩
   have hend:=step_leave_panicked (c:=c) (cs:=cs) hlv
   exact⟨.panicked chain,w₃,hR,(StepsIn.trans harr s1).trans (StepsIn.trans hs (.one (fenced_wide _ _) hend))⟩
  | exit id=>exact hq₂.elim
  | goto t=>exact hq₂.elim
  | ret=>exact hq₂.elim
  | outgrown=>exact hq₂.elim
 | exit id=>exact hq.elim
 | goto t=>exact hq.elim
 | ret=>exact hq.elim
 | panic chain=>exact hq.elim
 | outgrown=>exact hq.elim
def upds(a:Nat->AV)(ps:List Nat)(args:List AV):Nat->AV:=(ps.zip args).foldl (λa x=>upd a x.1 x.2) a
theorem Fr.upds{M F w a n}{tmps:Array Value}(h1:tmps.size=n)(h2:∀t,VR M F w (a t) (tmps.getD t undef)):
  ∀(ps:List Nat) (args:List AV) (cargs:List Value),(∀p∈ps,p<n)->args.length=cargs.length->(∀j (h:j<args.length) (h':j<cargs.length),VR M F w args[j] cargs[j]) ->
   ((ps.zip cargs).foldl (λtmps x=>tmps.setIfInBounds x.1 x.2) tmps).size=n/\∀t,VR M F w (upds a ps args t) (((ps.zip cargs).foldl (λtmps x=>tmps.setIfInBounds x.1 x.2) tmps).getD t undef):=by
 intro ps
 induction ps generalizing a tmps with
 | nil=>intro args cargs _ _ _;exact⟨h1,h2⟩
 | cons p ps ih =>
  intro args cargs hp hl hv
  cases args with
  | nil =>
   cases cargs with
   | nil=>exact⟨h1,h2⟩
   | cons c cs=>simp at hl
  | cons x xs =>
   cases cargs with
   | nil=>simp at hl
   | cons c cs =>
    simp only[List.zip_cons_cons,ybF]
    have e:Abs.upds a (p::ps) (x::xs)=Abs.upds (upd a p x) ps xs:=rfl
    rw[e]
    refine ih (by simpa using h1) (λt=>?_) xs cs (λq hq=>hp q (by simp[hq])) (by simpa using hl) (λj h h'=>hv (j+1) (by simpa using h) (by simpa using h'))
    have hpn:=hp p (by simp)
    have h0:=hv 0 (by simp) (by simp)
    simp only[List.getElem_cons_zero]at h0
    rw[ybA,yb0]
    by_cases ht:t=p
    .subst ht
     rw[if_pos rfl,if_pos (by omega)]
     simpa [upd]using h0
    .rw[if_neg (Ne.symm ht)]
     have:=h2 t
     rw[ybA]at this
     simpa [upd,ht]using this
def rq(f0:Nat)(K PK:AV->AS->Prop):AQ
 | .normal,_,J=>J.F f0=.alive/\K (.bool true) J
 | .panic v,_,J=>J.F f0=.alive/\PK v { J with F:=upd J.F f0 .dead }
 | _,_,_=>False
def zvK(P:Program)(G:Env)(n:Nat)(pa pb:PC)(ps:List Nat)(f0:Nat)(a:Nat->AV)(args:List AV)(J:AS)(K PK:AV->AS->Prop):Prop :=
 args.length=ps.length/\J.F f0=.alive/\avc P G n pa (zbi (λa1 J1=>J1.F f0=.alive/\avc P G n pb (rq f0 K PK) a1 J1) λ_ _ _=>False) (upds a ps args) J
def Env.under(G:Env)(P:Program)(n:Nat)(pa pb:PC)(ps:List Nat)(f0:Nat)(a:Nat->AV)(l:Nat):Env :=
 { g:=G.g,has:=λx=>x=l,y:=λx args J K PK=>x=l/\zvK P G n pa pb ps f0 a args J K PK,fix:=G.fix }
theorem Ext.putBehind{M0 F0 w0 M F w}{l:Nat}{o o1:Obj}(E:Ext M0 F0 w0 M F w)(h:w.heap[l]?=some o)(hc:o.isCells=false)(hl:w0.heap.size<=l)(hv:∀B r,M0.role B=some r->B<w0.heap.size):
  Ext M0 F0 w0 M F (w.putObj l o1):=by
 have key:∀B:Nat,B<w0.heap.size->(w.putObj l o1).heap[B]?=w.heap[B]?:=λB e=>by rw[zx,if_neg (by omega)]
 refine⟨E.io,E.no,E.nf,E.obj,E.dead,E.spoil,by simpa using E.size,λB c e z hB=>?_,λB m hB=>⟨(E.stat B m hB).1,(E.stat B m hB).2.trans (.inl (key B (hv B _ hB)))⟩,λB hB hn=>⟨(E.free B hB hn).1,(key B hB).trans (E.free B hB hn).2⟩,E.famr,
  λB f hf hr ha=>(key B (hv B _ hr)).trans (E.famc B f hf hr ha)⟩
 have hB':B<w0.heap.size:=(yaU.1 hB).1
 obtain⟨c',z',h1,h2⟩:=E.shape B c e z hB
 exact⟨c',z',by rw[key B hB'];exact h1,h2⟩
theorem Ext.both_dead{M F w M' F' w'}{f:Nat}(E:Ext M F w M' F' w'):Ext M (upd F f .dead) w M' (upd F' f .dead) w' where
 io:=E.io
 no:=E.no
 nf:=E.nf
 obj:=E.obj
 dead g hg hd:=by
  simp only[upd]at hd ⊢
  split at hd
  .rename_i e;rw[if_pos e]
  .rename_i e;rw[if_neg e];exact E.dead g hg hd
 spoil g hg hs:=by
  simp only[upd]at hs ⊢
  split at hs
  .cases hs
  .rename_i e;rw[if_neg e];exact E.spoil g hg hs
 size:=E.size
 shape:=E.shape
 stat:=E.stat
 free:=E.free
 famr B g hg hr hd:=by
  simp only[upd]at hd
  split at hd
  .exact absurd rfl hd
  .exact E.famr B g hg hr hd
 famc B g hg hr ha:=by
  simp only[upd]at ha
  split at ha
  .cases ha
  .exact E.famc B g hg hr ha
theorem GOk.detour{P G M F w M2 F2 w2}{l f0:Nat}{o o1:Obj}(g:GOk P G M F w)(E:Ext M F w M2 F2 w2)(hl:w.heap.size<=l)(hr:M2.role l=some (.fam f0))(hf0:M.nf<=f0)(h:w2.heap[l]?=some o)(hc:Obj.odd o=false)(hc1:o1.isCells=false):
  GOk P G M2 F2 (w2.putObj l o1) where
 vars x:=((g.vars x).mono E).same (zaP h hc hc1)
 yields x hx:=by
  obtain⟨r,f1,M0,F0,w0,E0,hlt,h1,h2,h3,h4⟩:=g.yields x hx
  refine⟨r,f1,M0,F0,w0,(E0.trans E).putBehind h (Obj.odd_cells hc) (Nat.le_trans E0.size hl) h3,yag hlt E.nf,λha=>?_,h2,h3,h4⟩
  obtain⟨h5,h6⟩:=h1 (E.alive hlt ha)
  have h7:=E.famr x f1 hlt h5 (by rw[ha];simp)
  have hne:x≠l:=by
   rintro rfl
   rw[hr]at h7;cases h7;omega
  exact⟨h7,by rw[zx,if_neg (λe=>hne e.1),E.famc x f1 hlt h5 ha,h6]⟩
 fixed B cs hB:=by
  obtain⟨hro,t,fr,hh⟩:=g.fixed B cs hB
  obtain⟨h1,h2⟩:=E.stat B _ hro
  have hlt:=(yaU.1 hh).1
  obtain⟨z,hz⟩:=h2.cells hh
  exact⟨h1,t,z,by rw[zx,if_neg (λe=>by omega),hz]⟩
section
variable {P : Program} {G : Env} {n : Nat} {pa pb : PC} {f : FuncId} {fn : Func} {assign body : Code}
theorem zo9(hm:P.follows .mixedOrders=true)(hf:P.funcs[f]?=some fn)(hpa:zcB n assign=some pa)(hpb:zcB n body=some pb){psA:Array Nat}(hps:∀p∈psA.toList,p<n){a:Nat->AV}
  {Me:Mp} {Fe:Nat->FSt} {we:World} (ge:GOk P G Me Fe we) {M1:Mp} {F1:Nat->FSt} {w1:World} (Ee:Ext Me Fe we M1 F1 w1) {l d:Nat} (hl:we.heap.size<=l) (hnf:Me.nf<M1.nf)
  {tmps:Array Value} (hn:tmps.size=n) (ht:∀t,VR M1 F1 w1 (a t) (tmps.getD t undef)) :
  zFF P (G.under P n pa pb psA.toList Me.nf a l) M1 F1 w1 l Me.nf { state:=.ready,pending:=none,fn:=f,tmps:=tmps,params:=psA,assign:=assign,body:=body,defers:=d }:=by
 intro args J K PK M w cargs hy S E0 hrole hheap hcells
 obtain⟨_,hargs,hal,hround⟩:=hy
 have hsz:cargs.size=psA.size:=by rw[hcells.1,hargs];simp
 refine⟨_,_,_,_,run_yield hheap (by simpa using hsz),?_⟩
 have hfr:=Fr.upds (M:=M) (F:=J.F) (w:=w) hn (λt=>(ht t).mono E0) psA.toList args cargs.toList hps (by simp[hcells.1]) (λj h h'=>by
  have:=hcells.get j h (by simpa using h')
  simpa using this)
 have efold:(psA.zip cargs).foldl (λtmps (x:Nat × Value)=>tmps.setIfInBounds x.1 x.2) tmps=(psA.toList.zip cargs.toList).foldl (λtmps x=>tmps.setIfInBounds x.1 x.2) tmps:=by
  rw[<-Array.foldl_toList,Array.toList_zip]
 rw[<-efold]at hfr
 have ge1:=Ee.trans E0
 refine zmX hf (wpIn_mono (zaj hm assign pa hpa _ _ J hround (some l) [] M J.F w M w { tmps:=_,defers:=[] } S (ge.mono ge1) (.refl ..) ⟨hfr.1,hfr.2⟩ rfl) λe ac1 w1' hq=>?_)
 obtain⟨e',a1,J1,M2,q,rr,S2,g2,E2,f2,hD2⟩:=hq
 cases e' with
 | exit i=>exact q.elim
 | ret=>exact q.elim
 | panic v=>exact q.elim
 | normal =>
  cases e<;>simp only[zds]at rr
  obtain⟨hal1,hbody⟩:=q
  have hMnf:Me.nf<M.nf:=yag hnf E0.nf
  have hrole2:=E2.famr l Me.nf hMnf hrole (by rw[hal1];simp)
  have hheap2:w1'.heap[l]?=some (.loop _):=(E2.famc l Me.nf hMnf hrole hal1).trans hheap
  refine⟨_,run_beginRound hheap2 rfl,?_⟩
  have sc:=zaP (o':=.loop { state:=.busy,pending:=none,fn:=f,tmps:=tmps,params:=psA,assign:=assign,body:=body,defers:=d }) hheap2 rfl rfl
  have g2b:=ge.detour (o1:=.loop { state:=.busy,pending:=none,fn:=f,tmps:=tmps,params:=psA,assign:=assign,body:=body,defers:=d }) (ge1.trans E2) hl hrole2 (yah _) hheap2 rfl rfl
  refine wpIn_mono (zaj hm body pb hpb _ _ J1 hbody (some l) [] M2 J1.F _ M2 _ ac1 (S2.same sc) g2b (.refl ..) (f2.same sc) hD2) λe2 ac2 w3 hq2=>?_
  obtain⟨e2',a2,J2,M3,q2,rr2,S3,g3,E3,f3,hD3⟩:=hq2
  have hMnf2:Me.nf<M2.nf:=yag hMnf E2.nf
  have hput:(w1'.putObj l (.loop { state:=.busy,pending:=none,fn:=f,tmps:=tmps,params:=psA,assign:=assign,body:=body,defers:=d })).heap[l]?=some (.loop { state:=.busy,pending:=none,fn:=f,tmps:=tmps,params:=psA,assign:=assign,body:=body,defers:=d }):=by
   rw[zx,if_pos ⟨rfl,(yaU.1 hheap2).1⟩]
  cases e2' with
  | exit i=>exact q2.elim
  | ret=>exact q2.elim
  | normal =>
   cases e2<;>simp only[zds]at rr2
   obtain⟨hal2,hK⟩:=q2
   have hheap3:w3.heap[l]?=some (.loop _):=(E3.famc l Me.nf hMnf2 hrole2 hal2).trans hput
   refine⟨_,_,run_endRound none hheap3,?_⟩
   have sc3:=zaP (o':=.loop { state:=.ready,pending:=none,fn:=f,tmps:=tmps,params:=psA,assign:=assign,body:=body,defers:=d }) hheap3 rfl rfl
   exact⟨.bool true,J2,M3,hK,.bool true,S3.same sc3,E2.trans (E3.restore hheap2 rfl)⟩
  | panic v =>
   cases e2<;>simp only[zds]at rr2
   obtain⟨hal2,hK⟩:=q2
   obtain⟨v',rfl,hv⟩:=rr2
   have Ed:=Ext.dead_fam (M:=M3) (w:=w3) hal2
   exact⟨hD3,v',rfl,v,_,M3,hK,hv.mono Ed,S3.ext_F Ed,(E2.trans (Ext.putFam hheap2 rfl hrole2 hal1)).trans E3.both_dead⟩
end
theorem zc4{P:Program}{fn:Func}{a':Nat->AV}{J':AS}{M':Mp}{w':World}{tmps:Array Value}{R:Out->AS->Prop}(S':Sim M' J' w')(f':∀t,VR M' J'.F w' (a' t) (tmps.getD t undef))
  (hq:zkb P fn.results.toList a' J' λvs=>R (.ret (tup vs)) J'):∃v,(results fn tmps).run P w'=.ok v w'/\∃out,R out J'/\zbx M' J'.F w' out (.returned v):=by
 have key:∀g:ResultVar->Sem Value,(∀t,(g (.tmp t)).run P w'=.ok (tmps.getD t undef) w')->(∀t ty q v,tmps.getD t undef=.pointer (some q)->(loadVar ty q).run P w'=.ok v w'->(g (.cell t ty)).run P w'=.ok v w') ->
   ∃v,((((List.mapM g fn.results.toList).run P w').andThen λa w'=>.ok a.toArray w').andThen λvs w=>(pure (if h:vs.size=1 then vs[0]else .tuple vs):Sem Value).run P w)=.ok v w' /\
    ∃out,R out J'/\zbx M' J'.F w' out (.returned v):=by
  intro g g1 g2
  obtain⟨vs,cs,hK,hr,hcc⟩:=zjk S' f' g1 g2 _ _ hq
  rw[hr]
  simp only[Result.andThen_ok,Sem.run_pure]
  refine⟨_,rfl,.ret (tup vs),hK,?_⟩
  have hl:=hcc.1
  simp only[zbx]
  have hget:=hcc.get
  split
  .rename_i h1
   cases vs with
   | nil=>rw[h1]at hl;simp at hl
   | cons v r =>
    cases r with
    | nil=>exact hget 0 (by simp) (by rw[h1];exact Nat.one_pos)
    | cons _ _=>rw[h1]at hl;simp at hl
  .rename_i h1
   have:tup vs=.tuple vs:=by
    cases vs with
    | nil=>rfl
    | cons v r =>
     cases r with
     | nil=>exact absurd (by simpa using hl) h1
     | cons _ _=>rfl
   rw[this]
   exact .tuple _ _ hl hget
 unfold results
 rw[Sem.run_bind,yb4,Sem.run_map]
 exact key _ (λ_=>rfl) (λt ty q v h1 h2=>by
  simp only[h1,asAddr,Sem.run_bind,Sem.run_pure,Result.andThen_ok,h2])
theorem zef{M F w n}{args:List AV}{cargs:Array Value}(hc:Cells M F w args cargs)(hn:args.length<=n):
  (cargs++ybX (n-cargs.size) undef).size=n/\∀t,VR M F w (zbz args t) ((cargs++ybX (n-cargs.size) undef).getD t undef):=by
 refine⟨?_,λt=>?_⟩
 .have:=hc.1
  simp only[ybg,yb2];omega
 .unfold zbz
  rw[ybA]
  by_cases ht:t<args.length
  .obtain⟨x,h1,h2⟩:=hc.2 t _ (yau ht)
   rw[ybi (by rw[hc.1];exact ht),h1,yau ht]
   exact h2
  .rw[ybj (show cargs.size<=t by rw[hc.1];omega),yb3 (by omega),ybY]
   split<;>exact zfj ..
def WpB(P:Program)(b:Frame)(c:Code)(Q:Exit->Act->World->Prop)(a:Act)(w:World):Prop :=
 ∀(k:List Item) (cs:List Frame),∃e a' w',Q e a' w'/\ArrivesIn (Machine.fenced P Fence.wide) P (lone (b.atR a (.code c::k)) cs w) b k cs e a' w'
section
variable {P : Program} {b : Frame} {Q : Exit -> Act -> World -> Prop} {a : Act} {w : World}
theorem WpB.of{n:Nat}{c:Code}(hb:b.roundOf=none)(h:c.wpIn Fence.wide n P Q a w):WpB P b c Q a w:=λk cs=>h b k cs hb trivial (room_wide _)
theorem WpB.seq{x y:Code}(h:WpB P b x (Exit.then (WpB P b y Q) Q) a w):WpB P b (.seq x y) Q a w:=by
 intro k cs
 have h0:(lone (b.atR a (.code (.seq x y)::k)) cs w).fenced P Fence.wide:=fenced_wide _ _
 obtain⟨e,a₁,w₁,hq,harr⟩:=h (.code y::k) cs
 cases e with
 | normal =>
  obtain⟨e₂,a₂,w₂,hq₂,harr₂⟩:=hq k cs
  exact⟨e₂,a₂,w₂,hq₂,.of_steps (.head h0 stepR_seq harr) harr₂⟩
 | exit id=>exact⟨_,a₁,w₁,hq,.of_steps (.one h0 stepR_seq) (.pass (x:=.code y) rfl (λ_ _=>.inl (by simp)) harr)⟩
 | goto l=>exact⟨_,a₁,w₁,hq,.of_steps (.one h0 stepR_seq) (.pass (x:=.code y) rfl (λ_ _=>.inl (by simp)) harr)⟩
 | ret=>exact⟨_,a₁,w₁,hq,.of_steps (.one h0 stepR_seq) (.pass (x:=.code y) rfl (λ_ _=>.inl (by simp)) harr)⟩
 | panic ch=>exact⟨_,a₁,w₁,hq,.of_steps (.one h0 stepR_seq) (.pass (x:=.code y) rfl (λ_ _=>.inl (by simp)) harr)⟩
 | outgrown=>exact⟨_,a₁,w₁,hq,.of_steps (.one h0 stepR_seq) (.pass (x:=.code y) rfl (λ_ _=>.inl (by simp)) harr)⟩
theorem WpB.block{id:Nat}{c:Code}(h:WpB P b c (λe a w=>(e=.normal\/∃ch,e=.panic ch)/\Q e a w) a w):WpB P b (.block id c) Q a w:=by
 intro k cs
 have h0:(lone (b.atR a (.code (.block id c)::k)) cs w).fenced P Fence.wide:=fenced_wide _ _
 obtain⟨e,a₁,w₁,⟨he,hq⟩,harr⟩:=h (.inBlock id::k) cs
 rcases he with rfl|⟨ch,rfl⟩
 .exact⟨.normal,a₁,w₁,hq,.head h0 stepR_block (StepsIn.trans harr (.one (fenced_wide _ _) stepR_inBlock))⟩
 .obtain⟨todo,hs⟩:=harr
  exact⟨.panic ch,a₁,w₁,hq,todo,.head h0 stepR_block hs⟩
theorem WpB.range{g:Operand}{ps:Array Tmp}{assign body:Code}{l:Nat}{mark:List Deferred}{w₁:World}{d:Deferred}{w₁':World}{f:FuncId}{args:Array Value}{w₂:World}
  (he:(Instr.enterLoop b.fn a.tmps ps assign body b.roundOf).run P w=.ok (l,mark) w₁) (hres:(resolve a.eval (rangeCall g l) 0).run P w₁=.ok d w₁') (hinv:(invoke d.target d.args).run P w₁'=.ok (.enter f args) w₂)
  (hcall:Calls P f args w₂ λe w₃=>match e with
   | .returned _=>∃w₄,(Instr.endLoop l).run P w₃=.ok none w₄/\Q .normal { a with defers:=mark++a.defers } w₄
   | .panicked chain=>Q (.panic chain) { a with defers:=mark++a.defers } w₃
   | .outgrown=>False):WpB P b (.rangeFunc g ps assign body) Q a w:=by
 intro k cs
 have henter:=stepR_rangeFunc (P:=P) (b:=b) (a:=a) (k:=k) (cs:=cs) (w:=w) he hres hinv
 obtain⟨e,w₃,fr,hR,hsteps,hfn,hleave⟩:=(callsIn_wide (n:=0)).2 hcall |>.2 (b.atR { a with defers:=mark++a.defers } (.inRangeFunc l::k)::cs) (room_wide _)
 cases e with
 | outgrown=>exact hR.elim
 | returned v =>
  obtain⟨w₄,hend,hj⟩:=hR
  refine⟨.normal,_,w₄,hj,.head (fenced_wide _ _) henter (StepsIn.trans hsteps (.head (fenced_wide _ _) ?_ (.one (fenced_wide _ _) (stepR_endRangeFunc hend))))⟩
  rw[<-finish_atR_inRangeFunc l v];exact step_leave_returned hleave
 | panicked chain =>
  refine⟨.panic chain,_,w₃,hR,.inRangeFunc l::k,.head (fenced_wide _ _) henter (StepsIn.trans hsteps (.one (fenced_wide _ _) ?_))⟩
  rw[<-Frame.raise_atR];exact step_leave_panicked hleave
theorem zlC{f:FuncId}{fn:Func}{c:Code}{args:Array Value}{R:Ending->World->Prop}(hf:P.funcs[f]?=some fn)(hb:fn.body=some c)
  (h:∀b:Frame,b.fn=f->b.roundOf=none->WpB P b c (bodyPostM Fence.wide 0 P fn R) { tmps:=args++ybX (fn.ntmps-args.size) undef,defers:=[] } w):Calls P f args w R:=by
 refine(callsIn_wide (n:=0)).1 ⟨trivial,λcs hr=>?_⟩
 let b:Frame:={ (default:Frame)with fn:=f,kind:=.normal,roundOf:=none }
 have henter:Frame.enter P f args .normal=b.atR { tmps:=args++ybX (fn.ntmps-args.size) undef,defers:=[] } [.code c]:=by
  simp[Frame.enter,Frame.atR,hf,hb,b]
 obtain⟨e,a',w',hq,harr⟩:=h b rfl rfl [] cs
 rw[<-henter]at harr
 cases e with
 | normal =>
  obtain⟨e',w'',fr',hR,hs,hfn,hl⟩:=leaves_stepsInM (F:=Fence.wide) (n:=0) a'.defers .returning w' { b.atR a' []with mode:=.returning } cs rfl rfl rfl hf rfl trivial hr hq
  exact⟨e',w'',fr',hR,ComesIn.of_steps (StepsIn.trans harr (.one (fenced_wide _ _) (stepR_end rfl))) hs,hfn,hl⟩
 | ret =>
  obtain⟨todo,hs₀⟩:=harr.1 rfl
  obtain⟨e',w'',fr',hR,hs,hfn,hl⟩:=leaves_stepsInM (F:=Fence.wide) (n:=0) a'.defers .returning w' { b.atR a' todo with mode:=.returning } cs rfl rfl rfl hf rfl trivial hr hq
  exact⟨e',w'',fr',hR,ComesIn.of_steps hs₀ hs,hfn,hl⟩
 | panic chain =>
  obtain⟨todo,hs₀⟩:=harr
  obtain⟨e',w'',fr',hR,hs,hfn,hl⟩:=leaves_stepsInM (F:=Fence.wide) (n:=0) a'.defers (.panicking chain) w' { b.atR a' todo with mode:=.panicking chain } cs rfl rfl rfl hf rfl trivial hr hq
  exact⟨e',w'',fr',hR,ComesIn.of_steps hs₀ hs,hfn,hl⟩
 | exit id=>exact hq.elim
 | goto l=>exact hq.elim
 | outgrown=>exact⟨.outgrown,w',b,hq,harr.resolve_left (by simp[b]),rfl,trivial⟩
end
def zvL(P:Program)(G:Env)(n:Nat)(pa pb:PC)(ps:List Nat)(g:Operand)(res:List ResultVar)(R:Out->AS->Prop)(a:Nat->AV)(J:AS):Prop :=
 ∃it cap,ev G a g=.fn (.func it) [] cap/\za P it=true/\∀l,ACalls P (G.under P n pa pb ps J.nf a l) it (.fn (.yield l) [] []::cap) J.newF λo J'=>match o with
  | .ret _=>J'.F J.nf=.alive/\zkb P res a { J' with F:=upd J'.F J.nf .dead } λvs=>R (.ret (tup vs)) { J' with F:=upd J'.F J.nf .dead }
  | .panic v=>R (.panic v) J'
def zsS(R:Out->AS->Prop)(M:Mp)(F:Nat->FSt)(w:World)(e:Ending)(w':World):Prop:=∃out J' M',R out J'/\zbx M' J'.F w' out e/\Sim M' J' w'/\Ext M F w M' J'.F w'
theorem zpa{P:Program}{ac:Act}{g:Operand}{it l:Nat}{C:Array Value}(h:ac.eval g=.func (.func it) #[] C)(w:World):
  (resolve ac.eval (rangeCall g l) 0).run P w=.ok ⟨.fn (.func it) C,#[.func (.yield l) #[] #[]]⟩ w:=by
 have e:(rangeCall g l).args.map ac.eval=#[ac.eval (.const (.func (.yield l) #[] #[]))]:=by simp[rangeCall]
 have e2:(rangeCall g l).callee=.value g:=rfl
 have e3:ac.eval (.const (.func (.yield l) #[] #[]))=.func (.yield l) #[] #[]:=rfl
 unfold resolve
 simp only[e,e2,e3,h,Deferred.ofValue,Sem.run_pure]
 rfl
theorem zhP{P:Program}{it:Nat}{C args:Array Value}(hcl:za P it=true)(w:World):(invoke (.fn (.func it) C) args).run P w=.ok (.enter it (args++C)) w:=by
 obtain ⟨fni, hfni, hbi, hname⟩ : ∃ fni, P.funcs[it]? = some fni /\ fni.body.isSome = true /\ (fni.name == "runtime.NumGoroutine") = false := by
  unfold za at hcl
  split at hcl
  .simp only[Bool.and_eq_true,Bool.not_eq_true']at hcl
   exact⟨_,‹_›,hcl.1,hcl.2⟩
  .cases hcl
 have hbn:fni.body.isNone=false:=by cases hq:fni.body<;>simp[hq]at hbi ⊢
 simp only[invoke,callFunc,Sem.run_bind,run_program,Result.andThen_ok,hfni,hname,hbn,Bool.false_eq_true,if_false,Sem.run_pure]
section
variable {P : Program} {G : Env} {f : FuncId} {fn : Func} {assign body : Code} {psA : Array Nat} {pa pb : PC} {a : Nat -> AV} {J : AS} {M : Mp} {w : World} {ac : Act}
theorem zpb(S:Sim M J w)(d:Nat)(rec:Loop):∃M1,Sim M1 J.newF ((w.alloc (.deferred (some []))).alloc (.loop rec))/\Ext M J.F w M1 J.newF.F ((w.alloc (.deferred (some []))).alloc (.loop rec))/\M1.nf=M.nf+1 /\
  M1.role (w.heap.size+1)=some (.fam M.nf)/\M1.role w.heap.size=some .stat/\((w.alloc (.deferred (some []))).alloc (.loop rec)).heap[w.heap.size+1]?=some (.loop rec) /\
  ((w.alloc (.deferred (some []))).alloc (.loop rec)).heap[w.heap.size]?=some (.deferred (some [])):=by
 have Sa:=zjZ S (.deferred (some [])) .stat
 have Ea:=zgV (F:=J.F) S.role (.deferred (some [])) .stat
 have hF:∀h,h<(M.newRole w.heap.size .stat).nf->(upd J.F J.nf .alive) h=J.F h\/(upd J.F J.nf .alive) h=.dead:=by
  intro h hh
  have:h<J.nf:=by rw[<-S.nf];exact hh
  exact .inl (zd _ _ (by omega))
 have hsz:(w.alloc (.deferred (some []))).heap.size=w.heap.size+1:=by simp
 have Sb:=za5 Sa (.loop rec) (w':=(w.alloc (.deferred (some []))).alloc (.loop rec)) rfl ⟨rfl,rfl,rfl⟩ hF
 have Eb:=zaL (F:=J.F) Sa.role (.loop rec) (w':=(w.alloc (.deferred (some []))).alloc (.loop rec)) rfl ⟨rfl,rfl,rfl⟩ hF
 have e0:({ w with heap:=w.heap.push (.deferred (some [])) }:World)=w.alloc (.deferred (some [])):=rfl
 rw[e0,hsz]at Sb Eb
 refine⟨_,Sb,Ea.trans Eb,rfl,?_,?_,?_,?_⟩
 .simp only[Mp.newFam];rw[zc];rfl
 .simp only[Mp.newFam];rw[zd _ _ (by omega)];simp only[Mp.newRole];rw[zc]
 .show((w.heap.push _).push _)[w.heap.size+1]?=_
  rw[yaS,if_pos (by simp)]
 .show((w.heap.push _).push _)[w.heap.size]?=_
  simp[yaS]
theorem zmY(hm:P.follows .mixedOrders=true)(hf:P.funcs[f]?=some fn)(hpa:zcB fn.ntmps assign=some pa)(hpb:zcB fn.ntmps body=some pb)(hps:psA.toList.all (·<fn.ntmps)=true)
  {b:Frame} (hbf:b.fn=f) (hbr:b.roundOf=none) {M0:Mp} {F0:Nat->FSt} {w0:World} (E0:Ext M0 F0 w0 M J.F w) (S:Sim M J w) (g0:GOk P G M J.F w) (fr:Fr M J.F w a ac fn.ntmps) (hD:ac.defers=[]) {g:Operand} {R:Out->AS->Prop} {id:Nat}
  (h:zvL P G fn.ntmps pa pb psA.toList g fn.results.toList R a J):WpB P b (.block id (.rangeFunc g psA assign body)) (bodyPostM Fence.wide 0 P fn (zsS R M0 F0 w0)) ac w:=by
 subst hbf
 obtain⟨it,cap,hit,hcl,hcall⟩:=h
 have hfv:=zlq g0 fr g
 rw[hit]at hfv
 obtain⟨C,hρ,hC⟩:∃C,ac.eval g=.func (.func it) #[] C/\Cells M J.F w cap C:=by
  generalize ac.eval g=c at hfv
  cases hfv with
  | fn _ _ _ A B ha hb va vb =>
   have:A=#[]:=Array.eq_empty_of_size_eq_zero ha
   subst this
   exact⟨B,rfl,Cells.of hb vb⟩
 have henter:=run_enterLoop_outer (P:=P) (w:=w) b.fn ac.tmps psA assign body
 rw[<-hbr]at henter
 obtain⟨M1,S1,E1,hnf1,hrole,hroled,hheap,hheapd⟩:=zpb S 0 { state:=.ready,pending:=none,fn:=b.fn,tmps:=ac.tmps,params:=psA,assign:=assign,body:=body,defers:=w.heap.size }
 generalize hwL:(w.alloc (.deferred (some []))).alloc (.loop { state:=.ready,pending:=none,fn:=b.fn,tmps:=ac.tmps,params:=psA,assign:=assign,body:=body,defers:=w.heap.size })=wL at henter S1 E1 hheap hheapd
 have hsnf:=S.nf
 have hgu:GOk P (G.under P fn.ntmps pa pb psA.toList J.nf a (w.heap.size+1)) M1 J.newF.F wL:=by
  refine⟨(g0.mono E1).vars,λx hx=>?_,(g0.mono E1).fixed⟩
  have hx':x=w.heap.size+1:=hx
  subst hx'
  refine⟨_,M.nf,M1,_,wL,.refl ..,by rw[hnf1];omega,λ_=>⟨hrole,hheap⟩,λargs J K PK hy=>by rw[hsnf];exact hy.2.2.1,S1.role,?_⟩
  rw[<-hsnf]
  exact zo9 hm hf hpa hpb (λp hp=>of_decide_eq_true (yaM.1 hps p hp)) g0 E1 (by omega) (by rw[hnf1];omega) fr.size (λt=>(fr.val t).mono E1)
 have hyv:VR M1 J.newF.F wL (.fn (.yield (w.heap.size+1)) [] []) (.func (.yield (w.heap.size+1)) #[] #[]):=.fn _ _ _ _ _ rfl rfl (λj h=>absurd h (yaA _)) (λj h=>absurd h (yaA _))
 have hcc:Cells M1 J.newF.F wL (.fn (.yield (w.heap.size+1)) [] []::cap) (#[.func (.yield (w.heap.size+1)) #[] #[]]++C):=by
  refine⟨by have:=hC.1;simp;omega,λj v hj=>?_⟩
  cases j with
  | zero=>simp only[List.getElem?_cons_zero,yaR.injEq]at hj;subst hj;exact⟨_,by rw[ybi (by simp)];rfl,hyv⟩
  | succ j =>
   simp only[List.getElem?_cons_succ]at hj
   obtain⟨c,h1,h2⟩:=hC.2 j v hj
   exact⟨c,by rw[ybj (by simp)];exact h1,h2.mono E1⟩
 have hc3:=hcall (w.heap.size+1) M1 wL _ S1 hgu hcc
 refine WpB.block (WpB.range henter (zpa hρ wL) (zhP hcl wL) (hc3.mono λe w3 he=>?_))
 obtain⟨out',J3,M3,hR,hO,S3,E3⟩:=he
 have Efull:=E1.trans E3
 have hd3:=(E3.stat w.heap.size _ hroled).2.exact.trans hheapd
 cases out' with
 | ret v =>
  cases e with
  | panicked ch=>exact hO.elim
  | outgrown=>exact hO.elim
  | returned v' =>
   obtain⟨hal3,hares⟩:=hR
   have hal3':J3.F M.nf=.alive:=by rw[hsnf];exact hal3
   have hheap3:=(E3.famc _ _ (by rw[hnf1];omega) hrole hal3').trans hheap
   have hrole3:=E3.famr _ _ (by rw[hnf1];omega) hrole (by rw[hal3'];simp)
   refine⟨_,run_endLoop hheap3 (by simp),.inl rfl,?_⟩
   generalize hr1:(Obj.loop { state:=.exhausted,pending:=none,fn:=b.fn,tmps:=ac.tmps,params:=psA,assign:=assign,body:=body,defers:=w.heap.size })=rec1
   have hc1:rec1.isCells=false:=by rw[<-hr1];rfl
   have E4:=Ext.putFam (o1:=rec1) hheap3 rfl hrole3 hal3'
   have Ed:=Ext.dead_fam (M:=M3) (w:=w3) hal3'
   have sc4:=zaP (o':=rec1) hheap3 rfl hc1
   have hd4:(w3.putObj (w.heap.size+1) rec1).heap[w.heap.size]?=some (.deferred (some [])):=by rw[zx,if_neg (by omega)];exact hd3
   have sc5:=zaP (o':=Obj.deferred none) hd4 rfl rfl
   have S5:=((S3.ext_F Ed).same sc4).same sc5
   have E5:=(Efull.trans E4).putBehind (o1:=.deferred none) hd4 rfl (yah _) S.role
   have f5:∀t,VR M3 (upd J3.F M.nf .dead) _ (a t) (ac.tmps.getD t undef):=λt=>((fr.val t).mono (Efull.trans E4)).same sc5
   rw[hsnf]at S5 f5 E5
   obtain⟨v5,hr5,out5,hR5,hO5⟩:=zc4 S5 f5 hares
   simp only[bodyPostM,hD,yb8,LeavesInM]
   exact⟨by simp,.inl ⟨_,_,rfl,run_takeDeferred hd4,v5,hr5,out5,_,M3,hR5,hO5,S5,E0.trans E5⟩⟩
 | panic v =>
  cases e with
  | returned v'=>exact hO.elim
  | outgrown=>exact hO.elim
  | panicked ch =>
   obtain⟨v',rfl,hv⟩:=hO
   refine⟨.inr ⟨_,rfl⟩,?_⟩
   have sc5:=zaP (o':=Obj.deferred none) hd3 rfl rfl
   have E5:=Efull.putBehind (o1:=.deferred none) hd3 rfl (yah _) S.role
   simp only[bodyPostM,hD,yb8,LeavesInM]
   exact⟨by simp,.inl ⟨_,_,rfl,run_takeDeferred hd3,.panic v,J3,M3,hR,⟨v',rfl,hv.same sc5⟩,S3.same sc5,E0.trans E5⟩⟩
end
theorem zlD{P:Program}{G:Env}{f:FuncId}{fn:Func}{n:Nat}{x y assign body:Code}{id:Nat}{g:Operand}{psA:Array Nat}{px py pa pb:PC}{res:List ResultVar}{args:List AV}{J:AS}{R:Out->AS->Prop}
  (hm:P.follows .mixedOrders=true) (hf:P.funcs[f]?=some fn) (hnt:fn.ntmps=n) (hres:fn.results.toList=res) (hb:fn.body=some (.seq x (.seq y (.block id (.rangeFunc g psA assign body)))))
  (hx:zcB n x=some px) (hy:zcB n y=some py) (hpa:zcB n assign=some pa) (hpb:zcB n body=some pb) (hps:psA.toList.all (·<n)=true) (hn:args.length<=n)
  (h:avc P G n px (zbi (avc P G n py (zbi (zvL P G n pa pb psA.toList g res R) λ_ _ _=>False)) λ_ _ _=>False) (zbz args) J):ACalls P G f args J R:=by
 subst hnt;subst hres
 intro M w cargs S g0 hc
 refine zlC hf hb λb hbf hbr=>?_
 obtain⟨fr1,fr2⟩:=zef hc hn
 refine WpB.seq (WpB.of (n:=0) hbr (wpIn_mono (zaj hm x px hx _ _ J h none [] M J.F w M w { tmps:=_,defers:=[] } S g0 (.refl ..) ⟨fr1,fr2⟩ rfl) λe ac' w' hq=>?_))
 obtain⟨e',a',J',M',q,r,S',g',E',f',hD'⟩:=hq
 cases e' with
 | exit i=>exact q.elim
 | ret=>exact q.elim
 | panic v=>exact q.elim
 | normal =>
  cases e<;>simp only[zds]at r
  refine WpB.seq (WpB.of (n:=0) hbr (wpIn_mono (zaj hm y py hy _ _ J' q none [] M J.F w M' w' ac' S' g' E' f' hD') λe ac2 w2 hq2=>?_))
  obtain⟨e2,a2,J2,M2,q2,r2,S2,g2,E2,f2,hD2⟩:=hq2
  cases e2 with
  | exit i=>exact q2.elim
  | ret=>exact q2.elim
  | panic v=>exact q2.elim
  | normal =>
   cases e<;>simp only[zds]at r2
   exact zmY hm hf hpa hpb hps hbf hbr E2 S2 g2 f2 hD2 q2
def zay(P:Program)(G:Env)(n:Nat)(py:PC)(d0 d1:Nat)(caps:List AV)(res:List ResultVar)(R:Out->AS->Prop)(pv:Option AV)(a:Nat->AV)(J:AS):Prop :=
 avc P G n py (λe _ J2=>(e=.normal\/e=.ret)/\zkb P res a J2 λvs=>R (.ret (tup vs)) J2) (upd (upd (zbz caps) d0 (pv.getD .nilif)) d1 (pv.getD .nilif)) J
def aq(H:Option AV->(Nat->AV)->AS->Prop):AQ
 | .normal,a,J|.ret,a,J=>H none a J
 | .panic v,a,J=>H (some v) a J
 | .exit _,_,_=>False
def zn4(pv:Option Value):FrameMode:=match pv with
 | none=>.returning
 | some v=>.panicking [{ v:=v,recovered:=false }]
theorem za8{P:Program}{G:Env}(hm:P.follows .mixedOrders=true){fn:Func}{k:FuncId}{fk:Func}{rid d0 d1:Nat}{ops:Array Oper}{r0 r1:Oper}{y:Code}{py:PC}(hk:P.funcs[k]?=some fk)(hbk:fk.body=some (.seq (.region rid ops false) y))(hops:ops.toList=[r0,r1])
  (h0:r0.op=.call ⟨.builtin .recover,#[],#[]⟩) (h0d:r0.dst=some d0) (h0g:r0.guard=none) (h1:r1.op=.assign (.tmp d0)) (h1d:r1.dst=some d1) (h1g:r1.guard=none) (hres:fk.results=#[]) (hpy:zcB fk.ntmps y=some py) (hd0:d0<fk.ntmps) (hd1:d1<fk.ntmps)
  {caps:List AV} {C:Array Value} {R:Out->AS->Prop} {pv:Option AV} {pw:Option Value} {a:Nat->AV} {J:AS} {M:Mp} {w:World} {ac:Act} {n:Nat} {M0:Mp} {F0:Nat->FSt} {w0:World} (E0:Ext M0 F0 w0 M J.F w) (S:Sim M J w) (g:GOk P G M J.F w) (f:Fr M J.F w a ac n)
  (hC:Cells M J.F w caps C) (hcl:caps.length<=fk.ntmps) (hpv:VR M J.F w (pv.getD .nilif) (pw.getD .nilIface)) (h:zay P G fk.ntmps py d0 d1 caps fn.results.toList R pv a J) :
  CallsD P k (#[]++C) (zn4 pw) w λe u' w'=>match e with
   | .returned _=>Leaves P fn ac.tmps (zsS R M0 F0 w0) [] (settle u') w'
   | .panicked chain=>Leaves P fn ac.tmps (zsS R M0 F0 w0) [] (raised u' chain) w'
   | .outgrown=>zsS R M0 F0 w0 .outgrown w':=by
 refine callsD_of_wpS hk hbk λc₀ cs hu=>?_
 obtain⟨fr1,fr2⟩:=zef hC hcl
 rw[Array.empty_append]
 generalize hac:({ tmps:=C++ybX (fk.ntmps-C.size) undef,defers:=[] }:Act)=ak
 have hf0:Fr M J.F w (zbz caps) ak fk.ntmps:=by rw[<-hac];exact⟨fr1,fr2⟩
 have hdk:ak.defers=[]:=by rw[<-hac]
 have hsz:ops.size=2:=by rw[<-Array.length_toList,hops];rfl
 have e0:ops[0]?=some r0:=by rw[<-yb9,hops];rfl
 have e1:ops[1]?=some r1:=by rw[<-yb9,hops];rfl
 -- behind the region
 have behind:∀(cs':List Frame) (u':FrameMode),cs'={ c₀ with mode:=u' }::cs->settle u'=.returning ->
   y.wpS P (bodyPostS P fk c₀ cs λe u' w'=>match e with
    | .returned _=>Leaves P fn ac.tmps (zsS R M0 F0 w0) [] (settle u') w'
    | .panicked chain=>Leaves P fn ac.tmps (zsS R M0 F0 w0) [] (raised u' chain) w'
    | .outgrown=>zsS R M0 F0 w0 .outgrown w') ((ak.put (some d0) (pw.getD .nilIface)).put (some d1) (pw.getD .nilIface)) cs' w:=by
  intro cs' u' hcs hset
  have f1:=(hf0.put (d:=some d0) (by simpa [ziS]using hd0) hpv).put (d:=some d1) (by simpa [ziS]using hd1) hpv
  refine wpS_of_wp ((wpIn_wide (n:=0)).1 (wpIn_mono (zaj hm y py hpy _ _ J h none [] M J.F w M w _ S g (.refl ..) f1 (by rw[zaM,zaM,hdk])) λe a2 w2 hq=>?_))
  obtain⟨e',a',J',M',q,r,S',g',E',f',hD'⟩:=hq
  obtain⟨he,hares⟩:=q
  have fin:∃v,(results fk a2.tmps).run P w2=.ok v w2/\Leaves P fn ac.tmps (zsS R M0 F0 w0) [] (settle u') w2:=by
   obtain⟨v,hr,out,hR,hO⟩:=zc4 S' (λt=>(f.val t).mono E') hares
   obtain⟨v2,hr2,_⟩:=zc4 (fn:=fk) (tmps:=a2.tmps) (R:=λ_ _=>True) S' f'.val (by rw[hres];exact trivial)
   rw[hset]
   exact⟨v2,hr2,v,hr,out,J',M',hR,hO,S',E0.trans E'⟩
  rcases he with rfl|rfl
  .cases e<;>simp only[zds]at r
   obtain⟨v2,hr2,hl⟩:=fin
   exact⟨hD',u',hcs,v2,hr2,hl⟩
  .cases e<;>simp only[zds]at r
   obtain⟨v2,hr2,hl⟩:=fin
   exact⟨hD',u',hcs,v2,hr2,hl⟩
 have run0:∀ρ:Operand->Value,(execOp ρ r0).run P w=.ok .recover w:=by
  intro ρ
  unfold execOp;rw[h0]
  simp[resolve,invoke,builtin]
 have run1:∀(v:Value),(execOp (ak.put (some d0) v).eval r1).run P w=.ok (.value v) w:=by
  intro v
  have e:(ak.put (some d0) v).eval (.tmp d0)=v:=by
   simp only[Act.eval,Act.put]
   rw[ybA,yb0,if_pos rfl,if_pos (by have:=hf0.size;omega)]
   rfl
  unfold execOp;rw[h1]
  simp[e]
 have want0:∀y,Region.wanted r0 y=true:=λy=>by simp[Region.wanted,h0g]
 have want1:∀y,Region.wanted r1 y=true:=λy=>by simp[Region.wanted,h1g]
 refine wpS_seq (wpS_region ?_)
 rw[hsz,show ya7 2=[0,1] from rfl]
 simp only[wpOpsS,e0,e1,want0,want1,if_true,run0]
 cases pw with
 | none =>
  have hrec:recoverD (c₀::cs)=none:=by simp[recoverD,hu,zn4]
  rw[hrec]
  simp only[h0d,run1,Oper.upon_value,h1d]
  exact behind _ .returning (by rw[show({ c₀ with mode:=FrameMode.returning }:Frame)=c₀ by cases c₀;simp only[zn4]at hu;subst hu;rfl]) rfl
 | some v =>
  have hrec:recoverD (c₀::cs)=some (v,{ c₀ with mode:=.panicking [{ v,recovered:=true }] }::cs):=by simp[recoverD,hu,zn4]
  rw[hrec]
  simp only[h0d,run1,Oper.upon_value,h1d]
  exact behind _ (.panicking [{ v,recovered:=true }]) rfl (by simp[settle])
theorem Cells.mono'{M F w M' F' w' cs A}(h:Cells M F w cs A)(E:Ext M F w M' F' w'):Cells M' F' w' cs A:=⟨h.1,λj v hj=>let ⟨c,a,b⟩:=h.2 j v hj;⟨c,a,b.mono E⟩⟩
theorem zeI{P:Program}{G:Env}(hm:P.follows .mixedOrders=true){f:FuncId}{fn:Func}{n:Nat}{x z:Code}{qid t:Nat}{qops:Array Oper}{o0 o1:Oper}{capsA:Array Operand}{px pz:PC}{res:List ResultVar}{args:List AV}{J:AS}{R:Out->AS->Prop}
  (hf:P.funcs[f]?=some fn) (hnt:fn.ntmps=n) (hres':fn.results.toList=res) (hb:fn.body=some (.seq x (.seq (.region qid qops false) z))) (hqops:qops.toList=[o0,o1]) (hx:zcB n x=some px) (hz:zcB n z=some pz) (hn:args.length<=n)
  {k:FuncId} {fk:Func} {nk rid d0 d1:Nat} {ops:Array Oper} {r0 r1:Oper} {y:Code} {py:PC}
  (m0:o0.op=.makeFunc (.func k) #[] capsA) (m0d:o0.dst=some t) (m0g:o0.guard=none) (m1:o1.op=.defer ⟨.value (.tmp t),#[],#[]⟩) (m1d:o1.dst=none) (m1g:o1.guard=none) (ht:t<n)
  (hk:P.funcs[k]?=some fk) (hnk:fk.ntmps=nk) (hck:za P k=true) (hbk:fk.body=some (.seq (.region rid ops false) y)) (hops:ops.toList=[r0,r1])
  (h0:r0.op=.call ⟨.builtin .recover,#[],#[]⟩) (h0d:r0.dst=some d0) (h0g:r0.guard=none) (h1:r1.op=.assign (.tmp d0)) (h1d:r1.dst=some d1) (h1g:r1.guard=none) (hres:fk.results=#[]) (hpy:zcB nk y=some py) (hd0:d0<nk) (hd1:d1<nk) (hcl:capsA.size<=nk)
  (h:avc P G n px (zbi (λa J=>avc P G n pz (aq (zay P G nk py d0 d1 (capsA.toList.map (ev G a)) res R)) (upd a t (.fn (.func k) [] (capsA.toList.map (ev G a)))) J) λ_ _ _=>False) (zbz args) J):ACalls P G f args J R:=by
 subst hnt;subst hres';subst hnk
 intro M w cargs S g0 hc
 obtain⟨fr1,fr2⟩:=zef hc hn
 refine calls_of_wp_defers hf hb (wp_seq (wp_mono ((wpIn_wide (n:=0)).1 (zaj hm x px hx _ _ J h none [] M J.F w M w { tmps:=_,defers:=[] } S g0 (.refl ..) ⟨fr1,fr2⟩ rfl)) λe ac1 w1 hq=>?_))
 obtain⟨e',a1,J1,M1,q,r,S1,g1,E1,f1,hD1⟩:=hq
 cases e' with
 | exit i=>exact q.elim
 | ret=>exact q.elim
 | panic v=>exact q.elim
 | normal =>
  cases e<;>simp only[zds]at r
  -- the closure is made and deferred
  have hC:Cells M1 J1.F w1 (capsA.toList.map (ev G a1)) (capsA.map ac1.eval):=by
   refine Cells.of (by simp) λj h h'=>?_
   simp only[yak,ya1,yal]
   exact zlq g1 f1 _
  have hfv:VR M1 J1.F w1 (.fn (.func k) [] (capsA.toList.map (ev G a1))) (.func (.func k) #[] (capsA.map ac1.eval)) :=
   .fn _ _ _ _ _ rfl hC.1 (λj h=>absurd h (yaA _)) hC.get
  have f2:=f1.put (d:=some t) (by simpa [ziS]using ht) hfv
  have run0:(execOp ac1.eval o0).run P w1=.ok (.value (.func (.func k) #[] (capsA.map ac1.eval))) w1:=by
   unfold execOp;rw[m0]
   simp[Instr.makeFunc]
  have run1:(execOp (ac1.put (some t) (.func (.func k) #[] (capsA.map ac1.eval))).eval o1).run P w1=.ok (.defer ⟨.fn (.func k) (capsA.map ac1.eval),#[]⟩) w1:=by
   have e:(ac1.put (some t) (.func (.func k) #[] (capsA.map ac1.eval))).eval (.tmp t)=.func (.func k) #[] (capsA.map ac1.eval):=by
    simp only[Act.eval,Act.put]
    rw[ybA,yb0,if_pos rfl,if_pos (by have:=f1.size;omega)]
    rfl
   unfold execOp;rw[m1]
   simp[resolve,e,Deferred.ofValue]
  have want0:∀y,Region.wanted o0 y=true:=λy=>by simp[Region.wanted,m0g]
  have want1:∀y,Region.wanted o1 y=true:=λy=>by simp[Region.wanted,m1g]
  have step:∀Q:Exit->Act->World->Prop,Q .normal { ac1.put (some t) (.func (.func k) #[] (capsA.map ac1.eval))with defers:=[⟨.fn (.func k) (capsA.map ac1.eval),#[]⟩] } w1->(Code.region qid qops false).wp P Q ac1 w1:=by
   intro Q hQ
   refine(wpIn_wide (n:=0)).1 (wpIn_region_list ?_)
   rw[hqops]
   unfold wpListIn
   rw[if_pos (want0 _)]
   refine⟨λ_ _=>trivial,?_⟩
   rw[show(o0.semAt Fence.wide.round ac1.eval)=execOp ac1.eval o0 from rfl,run0,Oper.uponIn_value,m0d]
   unfold wpListIn
   rw[if_pos (want1 _)]
   refine⟨λ_ _=>trivial,?_⟩
   rw[show(o1.semAt Fence.wide.round (ac1.put (some t) (.func (.func k) #[] (capsA.map ac1.eval))).eval)=execOp (ac1.put (some t) (.func (.func k) #[] (capsA.map ac1.eval))).eval o1 from rfl,run1,Oper.uponIn_defer,m1d,zaM,hD1]
   exact hQ
  refine wp_seq (step _ ?_)
  have f2':Fr M1 J1.F w1 (upd a1 t (.fn (.func k) [] (capsA.toList.map (ev G a1)))) { ac1.put (some t) (.func (.func k) #[] (capsA.map ac1.eval))with defers:=[⟨.fn (.func k) (capsA.map ac1.eval),#[]⟩] } fn.ntmps:=⟨f2.size,f2.val⟩
  refine wp_mono ((wpIn_wide (n:=0)).1 (zaj hm z pz hz _ _ J1 q none [⟨.fn (.func k) (capsA.map ac1.eval),#[]⟩] M1 J1.F w1 M1 w1 _ S1 g1 (.refl ..) f2' rfl)) λe ac3 w3 hq3=>?_
  obtain⟨e3,a3,J3,M3,q3,r3,S3,g3,E3,f3,hD3⟩:=hq3
  have hinv:∀w,(invoke (.fn (.func k) (capsA.map ac1.eval)) #[]).run P w=.ok (.enter k (#[]++capsA.map ac1.eval)) w:=λw=>zhP hck w
  have hC3:=Cells.mono' hC E3
  have hcl':(capsA.toList.map (ev G a1)).length<=fk.ntmps:=by simpa using hcl
  cases e3 with
  | exit i=>exact q3.elim
  | normal =>
   cases e<;>simp only[zds]at r3
   simp only[bodyPostD,hD3]
   exact leaves_cons (by simp) (hinv w3) (CallsD.mono (za8 hm hk hbk hops h0 h0d h0g h1 h1d h1g hres hpy hd0 hd1 (pw:=none) (E1.trans E3) S3 g3 f3 hC3 hcl' .nilif q3) λe u' w' h=>by cases e<;>exact h)
  | ret =>
   cases e<;>simp only[zds]at r3
   simp only[bodyPostD,hD3]
   exact leaves_cons (by simp) (hinv w3) (CallsD.mono (za8 hm hk hbk hops h0 h0d h0g h1 h1d h1g hres hpy hd0 hd1 (pw:=none) (E1.trans E3) S3 g3 f3 hC3 hcl' .nilif q3) λe u' w' h=>by cases e<;>exact h)
  | panic v =>
   cases e<;>simp only[zds]at r3
   obtain⟨v',rfl,hv⟩:=r3
   simp only[bodyPostD,hD3]
   exact leaves_cons (by simp) (hinv w3) (CallsD.mono (za8 hm hk hbk hops h0 h0d h0g h1 h1d h1g hres hpy hd0 hd1 (pv:=some v) (pw:=some v') (E1.trans E3) S3 g3 f3 hC3 hcl' hv q3) λe u' w' h=>by cases e<;>exact h)
section
variable {P : Program} {G : Env} {a : Nat -> AV} {J : AS} {K : (Nat -> AV) -> AS -> Prop} {Q : AQ} {dst : Option Nat} {KS : AV -> AS -> Prop} {KV : AV -> Prop}
def orB(x y:Prop):Prop:=x\/y
@[congr] theorem zBw{dd:Prop}(_:blk=dd){x y:Prop}:orB x y=orB x y:=rfl
def zsT(P:Program)(s d:TypeId)(v:AV)(J:AS)(K:AV->AS->Prop):Prop:=match v with
 | .int _ _=>ziI P s d v λv=>K v J
 | .str bs=>(zcf P d=true->(P.underlying s).isSome=true/\K (.str bs) J)/\(zcf P d=false->zeF P s d v J K)
 | _=>zeF P s d v J K
def zlE(P:Program)(s d:TypeId)(v:AV)(J:AS)(K:AV->AS->Prop):Prop:=if(s==d)=true then zsn P s d v λv=>K v J else zsT P s d v J K
@[congr] theorem zwZ{dd:Prop}(_:blk=dd){s d:TypeId}{v v':AV}{J J':AS}{K:AV->AS->Prop}(h:v=v')(h2:J=J'):zlE P s d v J K=zlE P s d v' J' K:=by rw[h,h2]
theorem zkg(s d x):zby P G (.convert s d x) dst a J K Q=zlE P s d (ev G a x) J λv J'=>K (put a dst v) J':=by
 unfold zlE
 split
 .rename_i h
  have e:zcq (.convert s d x)=true:=h
  simp only[zby,zb0,e,if_true,zbM]
 .rename_i h
  have e:zcq (.convert s d x)=false:=by simp only[zcq];simpa using h
  simp only[zby,zb0,e,Bool.false_eq_true,if_false,zve,zsT]
  cases ev G a x<;>rfl
@[simp] theorem zvM(s d x):zby P G (.convert s d x) dst a J K Q=zlE P s d (ev G a x) J λv J'=>K (put a dst v) J':=zkg s d x
theorem zhQ{P:Program}{s:TypeId}(h1:zsm P s=true)(h2:zcf P s=true):False:=by
 obtain⟨e,hu,_⟩:=zcG h1
 rw[zai h2]at hu
 cases hu
theorem zqz{P:Program}{s d:TypeId}{v:AV}{J:AS}{K:AV->AS->Prop}(hv:∀bs,v≠.lit bs):zlE P s d v J K=zsT P s d v J K:=by
 unfold zlE
 split
 .rename_i h
  have h:s=d:=by simpa using h
  subst h
  unfold zsT zsn
  cases v with
  | lit bs=>exact absurd rfl (hv bs)
  | int k n=>rfl
  | str bs =>
   simp only[ziI,zeF]
   cases hs:zcf P s with
   | true=>simp
   | false=>simp
  | nilsl=>simp only[ziI,zeF];exact propext ⟨λh=>h.elim,λh=>zhQ h.1 h.2.1⟩
  | sl φ sz xs=>simp only[ziI,zeF];exact propext ⟨λh=>h.elim,λh=>zhQ h.1 h.2.1⟩
  | slm o off sz len=>simp only[ziI,zeF];exact propext ⟨λh=>h.elim,λh=>zhQ h.1 h.2.1⟩
  | _=>rfl
 .rfl
@[simp] theorem zBx(s d k n):zlE P s d (.int k n) J KS=zU (zdj P d) λk'=>(P.underlying s).isSome=true/\KS (.int k' (k'.wrap n)) J:=by
 rw[zqz (by simp)];rfl
theorem zE6:∀{x y:List UInt8},B x=B y->x=y
 | [],[],_=>rfl
 | [],_::_,h=>by simp[B]at h
 | _::_,[],h=>by simp[B]at h
 | a::x,b::y,h=>by
  simp only[B,List.map_cons,List.cons.injEq,AV.int.injEq,true_and]at h
  have e:a=b:=UInt8.toNat_inj.1 (by exact_mod_cast h.1)
  rw[e,zE6 h.2]
@[simp] theorem zD0(t k k' m n):zbs P .shr t (.int k m) (.int k' n) KV=(0<=n/\KV (.int k (m.fdiv (2^(min n.toNat k.bits))))):=Eq.trans rfl rfl
@[simp] theorem zD1(t k k' m n):zbs P .shl t (.int k m) (.int k' n) KV=(0<=n/\KV (.int k (k.wrap (m*2^(min n.toNat k.bits))))):=Eq.trans rfl rfl
@[simp] theorem zD2(t k m n):zbs P .quo t (.int k m) (.int k n) KV=(n≠0/\KV (.int k (k.wrap (m.tdiv n)))):=by simp[zbs,zbL]
@[simp] theorem zD3(t k m n):zbs P .rem t (.int k m) (.int k n) KV=(n≠0/\KV (.int k (m.tmod n))):=by simp[zbs,zbL]
@[simp] theorem zD4(t k m n):zbs P .and t (.int k m) (.int k n) KV=KV (.int k (zag k (· &&& ·) m n)):=by simp[zbs,zbL]
@[simp] theorem zE7(t k m n):zbs P .or t (.int k m) (.int k n) KV=KV (.int k (zag k (· ||| ·) m n)):=by simp[zbs,zbL]
@[simp] theorem zD5(t k m n):zbs P .xor t (.int k m) (.int k n) KV=KV (.int k (zag k (· ^^^ ·) m n)):=by simp[zbs,zbL]
@[simp] theorem zpX(t φ cs k n):zu P t (.pv φ (.agg cs)) (.int k n) KV=zU (zpU P t) λp=>0<=n/\n<(p.1:Nat)/\zaC p.2.2 p.2.1 (n.toNat * p.2.1) cs λv=>zvb p.2.2 p.2.1 v/\KV (.pv φ v):=by
 refine propext ⟨λ⟨l,s,g,h1,h2⟩=>⟨(l,s,g),h1,h2⟩,λ⟨p,h1,h2⟩=>⟨p.1,p.2.1,p.2.2,h1,h2⟩⟩
@[simp] theorem zsg(t o off k n):zu P t (.ptr o off) (.int k n) KV=zU (zpU P t) λp=>0<=n/\n<(p.1:Nat)/\KV (.ptr o (off+n.toNat * p.2.1)):=by
 refine propext ⟨λ⟨l,s,g,h1,h2⟩=>⟨(l,s,g),h1,h2⟩,λ⟨p,h1,h2⟩=>⟨p.1,p.2.1,p.2.2,h1,h2⟩⟩
@[simp] theorem zAk(t cs k n):zgf P t (.agg cs) (.int k n) KV=zU (zpU P t) λp=>0<=n/\n<(p.1:Nat)/\zaC p.2.2 p.2.1 (n.toNat * p.2.1) cs KV:=by
 refine propext ⟨λ⟨l,s,g,h1,h2⟩=>⟨(l,s,g),h1,h2⟩,λ⟨p,h1,h2⟩=>⟨p.1,p.2.1,p.2.2,h1,h2⟩⟩
theorem ACalls.of_below{f:FuncId}{args:List AV}{R:Out->AS->Prop}
  (h:∀(M:Mp) (w:World) (cargs:Array Value),Sim M J w->GOk P G M J.F w->Cells M J.F w args cargs->Calls P f cargs w λe w'=>(∃v c,e=.returned c/\(∀M F w,VR M F w v c)/\R (.ret v) J)/\RowKit.Below w.heap.size w w'):ACalls P G f args J R:=by
 intro M w cargs S g hc
 refine(h M w cargs S g hc).mono λe w' ⟨⟨v,c,he,hv,hR⟩,hb⟩=>?_
 subst he
 have hlt:∀B r,M.role B=some r->B<w.heap.size:=S.role
 have E:Ext M J.F w M J.F w':=by
  refine⟨⟨hb.os,hb.tape,hb.output⟩,yah _,yah _,λ_ _=>rfl,λ_ _ h=>h,λ_ _ h=>by rw[h];simp,hb.size,λB c e z h=>?_,λB _ h=>⟨h,.inl (hb.block B (hlt B _ h))⟩,λB hB h=>⟨h,hb.block B hB⟩,λ_ _ _ h _=>h,λB f _ h _=>hb.block B (hlt B _ h)⟩
  exact .same (by rw[hb.block B (yaU.1 h).1];exact h) rfl
 refine⟨.ret v,J,M,hR,hv ..,?_,E⟩
 refine⟨S.no,S.nf,λB r h=>yag (S.role B r h) hb.size,λo cs ho=>?_,S.inj⟩
 obtain⟨a1,a2,a3⟩:=S.obj o cs ho
 refine⟨a1,a2,λj hj=>?_⟩
 obtain⟨c,h1,h2,h3⟩:=a3 j hj
 have hB:=hb.block _ (S.role _ _ a2)
 exact⟨c,(zo hB).trans h1,(zp hB).trans h2,h3.mono E⟩
end
def zcC(P:Program)(G:Env)(n:Nat)(p:PC)(Q:AQ):Nat->(Nat->AV)->AS->Prop
 | 0,_,_=>False
 | m+1,a,J=>avc P G n p (zbi (zcC P G n p Q m) Q) a J
@[simp] theorem zq{P:Program}{G:Env}{n:Nat}{p:PC}{Q:AQ}(m:Nat)(a J):zcC P G n p Q (m+1) a J=avc P G n p (zbi (zcC P G n p Q m) Q) a J:=Eq.trans rfl rfl
@[congr] theorem zsU{dd:Prop}(_:blk=dd){P:Program}{G:Env}{n:Nat}{p:PC}{Q:AQ}{m:Nat}{a a':Nat->AV}{J J':AS}(h:a=a')(h2:J=J'):zcC P G n p Q m a J=zcC P G n p Q m a' J':=by rw[h,h2]
theorem za9{P:Program}{G:Env}{n:Nat}{p:PC}{Q:AQ}{a:Nat->AV}{J:AS}(m:Nat)(h:zcC P G n p Q m a J):zka P G n p Q a J:=by
 intro hm c hc ro D M0 F0 w0 M w ac S g E f hD
 have key:∀(m:Nat) (a:Nat->AV) (J:AS) (M:Mp) (w:World) (ac:Act),zcC P G n p Q m a J->Sim M J w->GOk P G M J.F w->Ext M0 F0 w0 M J.F w->Fr M J.F w a ac n->ac.defers=D ->
   Code.roundsIn (zaI ro) 0 P c (QC P G n D M0 F0 w0 Q) m ac w:=by
  intro m
  induction m with
  | zero=>intro a J M w ac h;exact h.elim
  | succ m ih =>
   intro a J M w ac hR S g E f hD
   rw[roundsIn_succ]
   refine wpIn_mono (zaj hm c p hc _ a J hR ro D M0 F0 w0 M w ac S g E f hD) λe ac' w' hq=>?_
   obtain⟨e',a',J',M',q,r,S',g',E',f',hD'⟩:=hq
   cases e' with
   | normal=>cases e<;>simp only[zds]at r;exact ih a' J' M' w' ac' q S' g' E' f' hD'
   | exit i=>cases e<;>simp only[zds]at r;exact⟨.exit i,a',J',M',q,r,S',g',E',f',hD'⟩
   | ret=>cases e<;>simp only[zds]at r;exact⟨.ret,a',J',M',q,trivial,S',g',E',f',hD'⟩
   | panic v=>cases e<;>simp only[zds]at r;exact⟨.panic v,a',J',M',q,r,S',g',E',f',hD'⟩
 exact wpIn_loop_rounds m (key m a J M w ac h S g E f hD)
def AS.own(J:AS)(f fo:Nat)(cs xs:List AV):AS :=
 { J with F:=upd J.F f .dead,objs:=upd (upd J.objs fo (some cs)) J.no (some xs),no:=J.no+1 }
theorem Sim.own{M:Mp}{J:AS}{w:World}{f fo:Nat}{cs xs:List AV}{b:Bool}{sz j:Nat}(S:Sim M J w)(ha:J.F f=.alive)(ho:J.objs fo=some cs)(hj:cs[j]?=some (.sl (.fam f b) sz xs)):
  ∃B off,Sim (M.own f B off) (J.own f fo (cs.set j (.slm J.no 0 sz xs.length)) (zy xs)) w:=by
 obtain⟨h1,h2,h3⟩:=S.obj fo cs ho
 obtain⟨hjl,hje⟩:=List.getElem?_eq_some_iff.1 hj
 obtain⟨c,hc1,hc2,hc3⟩:=h3 j hjl
 rw[hje]at hc3
 cases hc3 with
 | sl _ _ _ B off cap vs hcap hlit hsz hm hc hv =>
 have E:=zhw (M:=M) (w:=w) (B:=B) (off:=off) ha
 obtain⟨hf,hmem⟩:=hm
 obtain⟨hrole,hcell⟩:=hmem (by rw[ha];simp)
 have hno:=S.no
 have hfl:=zr sz xs hsz
 refine⟨B,off,⟨by simp[Mp.own,AS.own,S.no],S.nf,λC r h=>?_,λo cs' h=>?_,λo o' h h'=>?_⟩⟩
 .simp only[Mp.own]at h
  split at h
  .rename_i h1;exact S.role C _ h1
  .exact S.role C r h
 .simp only[AS.own,zeH]at h
  split at h
  .rename_i he
   subst he
   cases h
   refine⟨by simp[AS.own],?_,λi hi=>?_⟩
   .simp[Mp.own,hno,zeH,hrole]
   .refine⟨vs i,?_,?_,?_⟩
    .simp only[Mp.own,hno,zc];exact hc ha i hi
    .simp only[Mp.own,hno,zc];exact(hcell i (by rw[hfl]at hi;have:=Nat.mul_le_mul_right sz hcap;omega)).2
    .exact(hv ha i hi).mono E
  .rename_i hne
   split at h
   .rename_i he
    subst he
    cases h
    refine⟨by simp[AS.own];omega,?_,λi hi=>?_⟩
    .simp only[Mp.own];rw[zd _ _ (by omega)];simp[h2]
    .have hi':i<cs.length:=by simpa using hi
     obtain⟨d,d1,d2,d3⟩:=h3 i hi'
     refine⟨d,?_,?_,?_⟩
     .simp only[Mp.own];rw[zd _ _ (by omega)];exact d1
     .simp only[Mp.own];rw[zd _ _ (by omega)];exact d2
     .by_cases hij:j=i
      .subst hij
       rw[hc1]at d1
       cases d1
       simp only[List.getElem_set_self]
       have:=VR.slm (M:=M.own f B off) (F:=(J.own f o (cs.set j (.slm J.no 0 sz xs.length)) (zy xs)).F) (w:=w) J.no 0 sz xs.length cap (by simp[Mp.own,hno]) hcap (λ_ j hj=>by simpa [Mp.own,hno]using hcell j hj)
       simpa [Mp.own,hno]using this
      .rw[List.getElem_set_ne hij]
       exact d3.mono E
   .obtain⟨g1,g2,g3⟩:=S.obj o cs' h
    refine⟨by simp[AS.own];omega,?_,λi hi=>?_⟩
    .simp only[Mp.own];rw[zd _ _ (by omega)];simp[g2]
    .obtain⟨d,d1,d2,d3⟩:=g3 i hi
     refine⟨d,?_,?_,d3.mono E⟩
     .simp only[Mp.own];rw[zd _ _ (by omega)];exact d1
     .simp only[Mp.own];rw[zd _ _ (by omega)];exact d2
 .have key:∀p,(((J.own f fo (cs.set j (.slm J.no 0 sz xs.length)) (zy xs)).objs p).isSome=true)->p≠J.no->(J.objs p).isSome=true:=λp hp hne=>by
   simp only[AS.own,zeH]at hp
   rw[if_neg hne]at hp
   split at hp
   .rename_i he;subst he;simp[ho]
   .exact hp
  have blk:∀p,p≠J.no->((M.own f B off).obj p).1=(M.obj p).1:=λp hp=>by simp only[Mp.own];rw[zd _ _ (by omega)]
  have blk0:((M.own f B off).obj J.no).1=B:=by simp[Mp.own,hno]
  have no':∀p,(J.objs p).isSome=true->(M.obj p).1≠B:=λp hp e=>by
   obtain⟨ds,hds⟩:=Option.isSome_iff_exists.1 hp
   have:=(S.obj p ds hds).2.1
   rw[e,hrole]at this
   cases this
  by_cases e1:o=J.no<;>by_cases e2:o'=J.no
  .omega
  .intro hh;subst e1;rw[blk0,blk o' e2]at hh;exact absurd hh.symm (no' o' (key o' h' e2))
  .intro hh;subst e2;rw[blk0,blk o e1]at hh;exact absurd hh (no' o (key o h e1))
  .intro hh;rw[blk o e1,blk o' e2]at hh;exact S.inj o o' (key o h e1) (key o' h' e2) hh
theorem ACalls.own{P:Program}{G:Env}{k:FuncId}{args:List AV}{J:AS}{R:Out->AS->Prop}{f fo j sz:Nat}{b:Bool}{cs xs:List AV}
  (ha:J.F f=.alive) (ho:J.objs fo=some cs) (hj:cs[j]?=some (.sl (.fam f b) sz xs)) (h:ACalls P G k args (J.own f fo (cs.set j (.slm J.no 0 sz xs.length)) (zy xs)) R):ACalls P G k args J R:=by
 intro M w cargs S g c
 obtain⟨B,off,S'⟩:=S.own ha ho hj
 have E:=zhw (M:=M) (w:=w) (B:=B) (off:=off) ha
 refine(h _ w cargs S' (g.mono E) (c.mono' E)).mono λe w' ⟨o,J',M',h1,h2,h3,h4⟩=>⟨o,J',M',h1,h2,h3,E.trans h4⟩
theorem zlF{P:Program}{G:Env}(hm:P.follows .mixedOrders=true){fn:Func}{z:Code}{qid t:Nat}{qops:Array Oper}{o0 o1:Oper}{capsA:Array Operand}{pz:PC}{R:Out->AS->Prop}
  (hqops:qops.toList=[o0,o1]) (hz:zcB fn.ntmps z=some pz)
  {k:FuncId} {fk:Func} {rid d0 d1:Nat} {ops:Array Oper} {r0 r1:Oper} {y:Code} {py:PC}
  (m0:o0.op=.makeFunc (.func k) #[] capsA) (m0d:o0.dst=some t) (m0g:o0.guard=none) (m1:o1.op=.defer ⟨.value (.tmp t),#[],#[]⟩) (m1d:o1.dst=none) (m1g:o1.guard=none) (ht:t<fn.ntmps)
  (hk:P.funcs[k]?=some fk) (hck:za P k=true) (hbk:fk.body=some (.seq (.region rid ops false) y)) (hops:ops.toList=[r0,r1])
  (h0:r0.op=.call ⟨.builtin .recover,#[],#[]⟩) (h0d:r0.dst=some d0) (h0g:r0.guard=none) (h1:r1.op=.assign (.tmp d0)) (h1d:r1.dst=some d1) (h1g:r1.guard=none) (hres:fk.results=#[]) (hpy:zcB fk.ntmps y=some py) (hd0:d0<fk.ntmps) (hd1:d1<fk.ntmps) (hcl:capsA.size<=fk.ntmps)
  {M:Mp} {F:Nat->FSt} {w:World} {M1:Mp} {J1:AS} {w1:World} {a1:Nat->AV} {ac1:Act} (S1:Sim M1 J1 w1) (g1:GOk P G M1 J1.F w1) (E1:Ext M F w M1 J1.F w1) (f1:Fr M1 J1.F w1 a1 ac1 fn.ntmps) (hD1:ac1.defers=[])
  (q:avc P G fn.ntmps pz (aq (zay P G fk.ntmps py d0 d1 (capsA.toList.map (ev G a1)) fn.results.toList R)) (upd a1 t (.fn (.func k) [] (capsA.toList.map (ev G a1)))) J1) :
  (Code.seq (.region qid qops false) z).wp P (bodyPostD P fn (zsS R M F w)) ac1 w1:=by
 -- the closure is made and deferred
 have hC:Cells M1 J1.F w1 (capsA.toList.map (ev G a1)) (capsA.map ac1.eval):=by
  refine Cells.of (by simp) λj h h'=>?_
  simp only[yak,ya1,yal]
  exact zlq g1 f1 _
 have hfv:VR M1 J1.F w1 (.fn (.func k) [] (capsA.toList.map (ev G a1))) (.func (.func k) #[] (capsA.map ac1.eval)) :=
  .fn _ _ _ _ _ rfl hC.1 (λj h=>absurd h (yaA _)) hC.get
 have f2:=f1.put (d:=some t) (by simpa [ziS]using ht) hfv
 have run0:(execOp ac1.eval o0).run P w1=.ok (.value (.func (.func k) #[] (capsA.map ac1.eval))) w1:=by
  unfold execOp;rw[m0]
  simp[Instr.makeFunc]
 have run1:(execOp (ac1.put (some t) (.func (.func k) #[] (capsA.map ac1.eval))).eval o1).run P w1=.ok (.defer ⟨.fn (.func k) (capsA.map ac1.eval),#[]⟩) w1:=by
  have e:(ac1.put (some t) (.func (.func k) #[] (capsA.map ac1.eval))).eval (.tmp t)=.func (.func k) #[] (capsA.map ac1.eval):=by
   simp only[Act.eval,Act.put]
   rw[ybA,yb0,if_pos rfl,if_pos (by have:=f1.size;omega)]
   rfl
  unfold execOp;rw[m1]
  simp[resolve,e,Deferred.ofValue]
 have want0:∀y,Region.wanted o0 y=true:=λy=>by simp[Region.wanted,m0g]
 have want1:∀y,Region.wanted o1 y=true:=λy=>by simp[Region.wanted,m1g]
 have step:∀Q:Exit->Act->World->Prop,Q .normal { ac1.put (some t) (.func (.func k) #[] (capsA.map ac1.eval))with defers:=[⟨.fn (.func k) (capsA.map ac1.eval),#[]⟩] } w1->(Code.region qid qops false).wp P Q ac1 w1:=by
  intro Q hQ
  refine(wpIn_wide (n:=0)).1 (wpIn_region_list ?_)
  rw[hqops]
  unfold wpListIn
  rw[if_pos (want0 _)]
  refine⟨λ_ _=>trivial,?_⟩
  rw[show(o0.semAt Fence.wide.round ac1.eval)=execOp ac1.eval o0 from rfl,run0,Oper.uponIn_value,m0d]
  unfold wpListIn
  rw[if_pos (want1 _)]
  refine⟨λ_ _=>trivial,?_⟩
  rw[show(o1.semAt Fence.wide.round (ac1.put (some t) (.func (.func k) #[] (capsA.map ac1.eval))).eval)=execOp (ac1.put (some t) (.func (.func k) #[] (capsA.map ac1.eval))).eval o1 from rfl,run1,Oper.uponIn_defer,m1d,zaM,hD1]
  exact hQ
 refine wp_seq (step _ ?_)
 have f2':Fr M1 J1.F w1 (upd a1 t (.fn (.func k) [] (capsA.toList.map (ev G a1)))) { ac1.put (some t) (.func (.func k) #[] (capsA.map ac1.eval))with defers:=[⟨.fn (.func k) (capsA.map ac1.eval),#[]⟩] } fn.ntmps:=⟨f2.size,f2.val⟩
 refine wp_mono ((wpIn_wide (n:=0)).1 (zaj hm z pz hz _ _ J1 q none [⟨.fn (.func k) (capsA.map ac1.eval),#[]⟩] M1 J1.F w1 M1 w1 _ S1 g1 (.refl ..) f2' rfl)) λe ac3 w3 hq3=>?_
 obtain⟨e3,a3,J3,M3,q3,r3,S3,g3,E3,f3,hD3⟩:=hq3
 have hinv:∀w,(invoke (.fn (.func k) (capsA.map ac1.eval)) #[]).run P w=.ok (.enter k (#[]++capsA.map ac1.eval)) w:=λw=>zhP hck w
 have hC3:=Cells.mono' hC E3
 have hcl':(capsA.toList.map (ev G a1)).length<=fk.ntmps:=by simpa using hcl
 cases e3 with
 | exit i=>exact q3.elim
 | normal =>
  cases e<;>simp only[zds]at r3
  simp only[bodyPostD,hD3]
  exact leaves_cons (by simp) (hinv w3) (CallsD.mono (za8 hm hk hbk hops h0 h0d h0g h1 h1d h1g hres hpy hd0 hd1 (pw:=none) (E1.trans E3) S3 g3 f3 hC3 hcl' .nilif q3) λe u' w' h=>by cases e<;>exact h)
 | ret =>
  cases e<;>simp only[zds]at r3
  simp only[bodyPostD,hD3]
  exact leaves_cons (by simp) (hinv w3) (CallsD.mono (za8 hm hk hbk hops h0 h0d h0g h1 h1d h1g hres hpy hd0 hd1 (pw:=none) (E1.trans E3) S3 g3 f3 hC3 hcl' .nilif q3) λe u' w' h=>by cases e<;>exact h)
 | panic v =>
  cases e<;>simp only[zds]at r3
  obtain⟨v',rfl,hv⟩:=r3
  simp only[bodyPostD,hD3]
  exact leaves_cons (by simp) (hinv w3) (CallsD.mono (za8 hm hk hbk hops h0 h0d h0g h1 h1d h1g hres hpy hd0 hd1 (pv:=some v) (pw:=some v') (E1.trans E3) S3 g3 f3 hC3 hcl' hv q3) λe u' w' h=>by cases e<;>exact h)
theorem zhR{P:Program}{G:Env}(hm:P.follows .mixedOrders=true){f:FuncId}{fn:Func}{n:Nat}{x x2 z:Code}{qid t:Nat}{qops:Array Oper}{o0 o1:Oper}{capsA:Array Operand}{px px2 pz:PC}{res:List ResultVar}{args:List AV}{J:AS}{R:Out->AS->Prop}
  (hf:P.funcs[f]?=some fn) (hnt:fn.ntmps=n) (hres':fn.results.toList=res) (hb:fn.body=some (.seq x (.seq x2 (.seq (.region qid qops false) z)))) (hqops:qops.toList=[o0,o1]) (hx:zcB n x=some px) (hx2:zcB n x2=some px2) (hz:zcB n z=some pz) (hn:args.length<=n)
  {k:FuncId} {fk:Func} {nk rid d0 d1:Nat} {ops:Array Oper} {r0 r1:Oper} {y:Code} {py:PC}
  (m0:o0.op=.makeFunc (.func k) #[] capsA) (m0d:o0.dst=some t) (m0g:o0.guard=none) (m1:o1.op=.defer ⟨.value (.tmp t),#[],#[]⟩) (m1d:o1.dst=none) (m1g:o1.guard=none) (ht:t<n)
  (hk:P.funcs[k]?=some fk) (hnk:fk.ntmps=nk) (hck:za P k=true) (hbk:fk.body=some (.seq (.region rid ops false) y)) (hops:ops.toList=[r0,r1])
  (h0:r0.op=.call ⟨.builtin .recover,#[],#[]⟩) (h0d:r0.dst=some d0) (h0g:r0.guard=none) (h1:r1.op=.assign (.tmp d0)) (h1d:r1.dst=some d1) (h1g:r1.guard=none) (hres:fk.results=#[]) (hpy:zcB nk y=some py) (hd0:d0<nk) (hd1:d1<nk) (hcl:capsA.size<=nk)
  (h:avc P G n px (zbi (avc P G n px2 (zbi (λa J=>avc P G n pz (aq (zay P G nk py d0 d1 (capsA.toList.map (ev G a)) res R)) (upd a t (.fn (.func k) [] (capsA.toList.map (ev G a)))) J) λ_ _ _=>False)) λ_ _ _=>False) (zbz args) J):ACalls P G f args J R:=by
 subst hnt;subst hres';subst hnk
 intro M w cargs S g0 hc
 obtain⟨fr1,fr2⟩:=zef hc hn
 refine calls_of_wp_defers hf hb (wp_seq (wp_mono ((wpIn_wide (n:=0)).1 (zaj hm x px hx _ _ J h none [] M J.F w M w { tmps:=_,defers:=[] } S g0 (.refl ..) ⟨fr1,fr2⟩ rfl)) λe ac1 w1 hq=>?_))
 obtain⟨e',a1,J1,M1,q,r,S1,g1,E1,f1,hD1⟩:=hq
 cases e' with
 | exit i=>exact q.elim
 | ret=>exact q.elim
 | panic v=>exact q.elim
 | normal =>
  cases e<;>simp only[zds]at r
  refine wp_seq (wp_mono ((wpIn_wide (n:=0)).1 (zaj hm x2 px2 hx2 _ _ J1 q none [] M1 J1.F w1 M1 w1 ac1 S1 g1 (.refl ..) f1 hD1)) λe ac2 w2 hq2=>?_)
  obtain⟨e2,a2,J2,M2,q2,r2,S2,g2,E2,f2,hD2⟩:=hq2
  cases e2 with
  | exit i=>exact q2.elim
  | ret=>exact q2.elim
  | panic v=>exact q2.elim
  | normal =>
   cases e<;>simp only[zds]at r2
   exact zlF hm hqops hz m0 m0d m0g m1 m1d m1g ht hk hck hbk hops h0 h0d h0g h1 h1d h1g hres hpy hd0 hd1 hcl S2 g2 (E1.trans E2) f2 hD2 q2
mutual
def mrg(f:Nat):AV->AV
 | .sl φ sz xs=>match φ with
  | .fam g b=>if g=f then .sl (.fam 0 b) sz (zsV f xs)else .sl (.fam g b) sz (zsV f xs)
  | .stat b=>.sl (.stat b) sz (zsV f xs)
 | .agg cs=>.agg (zsV f cs)
 | .tuple vs=>.tuple (zsV f vs)
 | .iface t v=>.iface t (mrg f v)
 | v=>v
def zsV(f:Nat):List AV->List AV
 | []=>[]
 | v::vs=>mrg f v::zsV f vs
end
theorem ze0(f:Nat):∀l,zsV f l=l.map (mrg f)
 | []=>by simp[zsV]
 | v::l=>by simp[zsV,ze0 f l]
@[simp] theorem zjl(f g b sz xs):mrg f (.sl (.fam g b) sz xs)=.sl (if g=f then .fam 0 b else .fam g b) sz (xs.map (mrg f)):=by
 by_cases h:g=f<;>simp[mrg,ze0,h]
@[simp] theorem zhS(f b sz xs):mrg f (.sl (.stat b) sz xs)=.sl (.stat b) sz (xs.map (mrg f)):=by simp[mrg,ze0]
@[simp] theorem zw0(f cs):mrg f (.agg cs)=.agg (cs.map (mrg f)):=by simp[mrg,ze0]
@[simp] theorem zqA(f cs):mrg f (.tuple cs)=.tuple (cs.map (mrg f)):=by simp[mrg,ze0]
@[simp] theorem zqB(f t v):mrg f (.iface t v)=.iface t (mrg f v):=by simp[mrg]
@[simp] theorem zE8(f k n):mrg f (.int k n)=.int k n:=by simp[mrg]
@[simp] theorem zD6(f b):mrg f (.bool b)=.bool b:=by simp[mrg]
@[simp] theorem zE9(f b):mrg f (.str b)=.str b:=by simp[mrg]
@[simp] theorem zBy(f):mrg f .nilsl=.nilsl:=by simp[mrg]
@[simp] theorem zD7(f):mrg f .nilp=.nilp:=by simp[mrg]
@[simp] theorem zBz(f):mrg f .nilif=.nilif:=by simp[mrg]
@[simp] theorem zFa(f o i):mrg f (.ptr o i)=.ptr o i:=by simp[mrg]
theorem zgM(f:Nat)(v:AV):(mrg f v).cells.length=v.cells.length:=by
 cases v with
 | agg cs=>simp[mrg,ze0]
 | sl φ sz xs=>cases φ<;>simp[mrg];split<;>simp
 | _=>simp[mrg,AV.cells]
theorem zqC(f:Nat)(v:AV):(mrg f v).cells=v.cells.map (mrg f):=by
 cases v with
 | agg cs=>simp[mrg,ze0]
 | sl φ sz xs=>cases φ<;>simp[mrg];split<;>simp
 | _=>simp[mrg,AV.cells]
theorem zkh(f:Nat)(l:List AV):zy (l.map (mrg f))=(zy l).map (mrg f):=by
 simp[zy,yb6,yb7,zqC]
open Classical in
noncomputable def Mp.mrg(M:Mp)(f:Nat):Mp:={ M with role:=λB=>if M.role B=some (.fam f)then some (.fam 0)else M.role B }
def zlG(F:Nat->FSt)(f:Nat):Nat->FSt:=upd F f .dead
theorem zmZ{M:Mp}{F:Nat->FSt}{w:World}{f:Nat}(h:F f=.alive):Ext M F w (M.mrg f) (zlG F f) w where
 io:=.refl _
 no:=yah _
 nf:=yah _
 obj _ _:=rfl
 dead g _ hd:=by simp only[zlG,zeH];split<;>simp_all
 spoil g _ hs:=by simp only[zlG,zeH];split<;>simp_all
 size:=yah _
 shape _ _ _ _ h:=.same h rfl
 stat B _ hB:=⟨by simp[Mp.mrg,hB],.inl rfl⟩
 free B _ hB:=⟨by simp[Mp.mrg,hB],rfl⟩
 famr B g _ hB hd:=by
  have hg:g≠f:=by intro e;subst e;simp[zlG]at hd
  exact(if_neg (by rw[hB];simpa using hg)).trans hB
 famc _ _ _ _ _:=rfl
theorem VR.mrg{M:Mp}{F:Nat->FSt}{w:World}{f:Nat}(hn:0<M.nf)(ha:F f=.alive){v:AV}{c:Value}(h:VR M F w v c):VR (M.mrg f) (zlG F f) w (mrg f v) c:=by
 have E:=zmZ (M:=M) (w:=w) ha
 induction h with
 | slz b sz a=>rw[zhS];exact .slz b sz a
 | sl φ sz xs B off cap cs hcap hlit hsz hm hc hv ih =>
  have hrd:zl (zlG F f) φ->zl F φ:=λh=>(hm.readable E h).1
  have hl:(xs.map (Go.Abs.mrg f)).length=xs.length:=by simp
  have key:∀φ':Own,φ'.full=φ.full->Mem (M.mrg f) (zlG F f) w φ' B off (cap*sz)->(zl (zlG F f) φ'->zl F φ) ->
    VR (M.mrg f) (zlG F f) w (.sl φ' sz (xs.map (Go.Abs.mrg f))) (.slice (some ⟨B,off,none⟩) xs.length cap):=by
   intro φ' hfull hm' hr'
   have:=VR.sl (M:=M.mrg f) (F:=zlG F f) (w:=w) φ' sz (xs.map (Go.Abs.mrg f)) B off cap cs (by simpa using hcap) (λh=>by rw[hl];exact hlit (by rw[<-hfull];exact h))
    (λx hx=>by simp at hx;obtain⟨y,hy,rfl⟩:=hx;rw[zgM];exact hsz y hy) hm' (λhr j hj=>hc (hr' hr) j (by rw[zkh]at hj;simpa using hj))
    (λhr j hj=>by
     have hj':j<(zy xs).length:=by rw[zkh]at hj;simpa using hj
     have:=ih (hr' hr) j hj'
     simp only[zkh,yak]
     exact this)
   rw[hl]at this
   exact this
  cases φ with
  | stat b=>rw[zhS];exact key _ rfl (hm.mono E) hrd
  | fam g b =>
   rw[zjl]
   by_cases hg:g=f
   .subst hg
    rw[if_pos rfl]
    refine key _ rfl ?_ (λ_=>ha)
    obtain⟨m1,m2⟩:=hm.2 (by rw[ha];simp)
    exact⟨hn,λ_=>⟨by simp[Mp.mrg,m1],m2⟩⟩
   .rw[if_neg hg];exact key _ rfl (hm.mono E) hrd
 | agg cs A hA va ih=>rw[zw0];exact .agg _ _ (by simpa using hA) (λj h h'=>by simpa using ih j (by simpa using h) h')
 | tuple cs A hA va ih=>rw[zqA];exact .tuple _ _ (by simpa using hA) (λj h h'=>by simpa using ih j (by simpa using h) h')
 | iface t v c h ih=>rw[zqB];exact .iface t _ _ ih
 | undef c=>simpa [Go.Abs.mrg]using VR.undef c
 | bool b=>simpa using VR.bool b
 | int k n=>simpa using VR.int k n
 | str s=>simpa using VR.str s
 | nilp=>simpa using VR.nilp
 | nilsl=>simpa using VR.nilsl
 | nilfn=>simpa [Go.Abs.mrg]using VR.nilfn
 | nilif=>simpa using VR.nilif
 | ptr o off h=>simpa using (VR.ptr (M:=M) (F:=F) (w:=w) o off h).mono E
 | pv φ v B off cs hm hc hv _=>simpa [Go.Abs.mrg]using (VR.pv φ v B off cs hm hc hv).mono E
 | mp ks vs b es c h1 h2 h3=>simpa [Go.Abs.mrg]using (VR.mp (M:=M) (F:=F) (w:=w) ks vs b es c h1 h2 h3).mono E
 | itr g ks vs zeo B h1 h2 h3=>simpa [Go.Abs.mrg]using (VR.itr (M:=M) (F:=F) (w:=w) g ks vs zeo B h1 h2 h3).mono E
 | mpo g ks vs B h1 h2 h3=>simpa [Go.Abs.mrg]using (VR.mpo (M:=M) (F:=F) (w:=w) g ks vs B h1 h2 h3).mono E
 | lit bs B e z h1 h2 h3=>simpa [Go.Abs.mrg]using (VR.lit (M:=M) (F:=F) (w:=w) bs B e z h1 h2 h3).mono E
 | sit g bs pos B h1 h2 h3=>simpa [Go.Abs.mrg]using (VR.sit (M:=M) (F:=F) (w:=w) g bs pos B h1 h2 h3).mono E
 | tys e v c h ht _=>simpa [Go.Abs.mrg]using (VR.tys e v c h ht).mono E
 | tyd e v a n cap h ht _=>simpa [Go.Abs.mrg]using (VR.tyd e v a n cap h ht).mono E
 | rm c v a n cap h hc _=>simpa [Go.Abs.mrg]using (VR.rm c v a n cap h hc).mono E
 | pt t n o off h h1 h2=>simpa [Go.Abs.mrg]using (VR.pt (M:=M) (F:=F) (w:=w) t n o off h h1 h2).mono E
 | slm o off sz len cap h hcap hr=>simpa [Go.Abs.mrg]using (VR.slm (M:=M) (F:=F) (w:=w) o off sz len cap h hcap hr).mono E
 | fn g first cap A B ha hb va vb _ _=>simpa [Go.Abs.mrg]using (VR.fn g first cap A B ha hb va vb).mono E
def AS.mrg(J:AS)(f:Nat)(p:Nat->Bool):AS :=
 { J with F:=zlG J.F f,objs:=λo=>if p o then(J.objs o).map (List.map (Go.Abs.mrg f))else J.objs o }
theorem Sim.mrg{M:Mp}{J:AS}{w:World}{f:Nat}{p:Nat->Bool}(S:Sim M J w)(hn:0<J.nf)(ha:J.F f=.alive):Sim (M.mrg f) (J.mrg f p) w where
 no:=S.no
 nf:=S.nf
 role B r h:=by
  simp only[Mp.mrg]at h
  split at h
  .rename_i h1;exact S.role B _ h1
  .exact S.role B r h
 obj o cs h:=by
  have E:=zmZ (M:=M) (w:=w) ha
  simp only[AS.mrg]at h
  have fin:∀cs0,J.objs o=some cs0->cs.length=cs0.length->(∀j (h:j<cs.length) (h':j<cs0.length),∀c,VR M J.F w cs0[j] c->VR (M.mrg f) (zlG J.F f) w cs[j] c)->_:=λcs0 h0 hl hk=>by
   obtain⟨h1,h2,h3⟩:=S.obj o cs0 h0
   refine(⟨h1,?_,λj hj=>?_⟩:o<(J.mrg f p).no/\(M.mrg f).role ((M.mrg f).obj o).1=some .obj/\∀j (h:j<cs.length),∃c,w.cell? ⟨((M.mrg f).obj o).1,((M.mrg f).obj o).2+j,none⟩=some c/\w.frozen? ⟨((M.mrg f).obj o).1,((M.mrg f).obj o).2+j,none⟩=false/\VR (M.mrg f) (J.mrg f p).F w cs[j] c)
   .simp[Mp.mrg,h2]
   .obtain⟨c,a,b,d⟩:=h3 j (by omega)
    exact⟨c,a,b,hk j hj (by omega) c d⟩
  split at h
  .cases h0:J.objs o with
   | none=>rw[h0]at h;simp at h
   | some cs0 =>
    rw[h0]at h;simp at h;subst h
    exact fin cs0 h0 (by simp) (λj hj hj' c hc=>by simpa using hc.mrg (by rw[S.nf];exact hn) ha)
  .exact fin cs h rfl (λj hj hj' c hc=>hc.mono E)
 inj o o' h h':=by
  refine S.inj o o' ?_ ?_
  .simp only[AS.mrg]at h;split at h<;>simpa using h
  .simp only[AS.mrg]at h';split at h'<;>simpa using h'
theorem zw1{P:Program}{G:Env}{f:FuncId}{args:List AV}{J:AS}{R:Out->AS->Prop}
  (h:ACalls P G f args J λo J'=>R o J'\/∃v g p,o=.ret v/\0<J'.nf/\J'.F g=.alive/\R (.ret (mrg g v)) (J'.mrg g p)):ACalls P G f args J R:=by
 intro M w cargs S g c
 refine(h M w cargs S g c).mono λe w' ⟨o,J',M',hR,h2,h3,h4⟩=>?_
 rcases hR with hR|⟨v,k,p,ho,hn,ha,hR⟩
 .exact⟨o,J',M',hR,h2,h3,h4⟩
 subst ho
 refine⟨_,_,M'.mrg k,hR,?_,h3.mrg hn ha,h4.trans (zmZ ha)⟩
 cases e<;>simp only[zbx]at h2 ⊢
 exact h2.mrg (by rw[h3.nf];exact hn) ha
theorem ACalls.newF{P:Program}{G:Env}{f:FuncId}{args:List AV}{J:AS}{R:Out->AS->Prop}(h:ACalls P G f args J.newF R):ACalls P G f args J R:=by
 intro M w cargs S g c
 have E:Ext M J.F w { M with nf:=M.nf+1 } J.newF.F w:={
  io:=.refl _
  no:=yah _
  nf:=Nat.le_succ _
  obj:=λ_ _=>rfl
  dead:=λk hk hd=>by simp only[AS.newF,zeH];rw[if_neg (by have:=S.nf;omega)];exact hd
  spoil:=λk hk hs=>by simp only[AS.newF,zeH];rw[if_neg (by have:=S.nf;omega),hs];simp
  size:=yah _
  shape:=λ_ _ _ _ h=>.same h rfl
  stat:=λ_ _ h=>⟨h,.inl rfl⟩
  free:=λ_ _ h=>⟨h,rfl⟩
  famr:=λ_ _ _ h _=>h
  famc:=λ_ _ _ _ _=>rfl }
 have S':Sim { M with nf:=M.nf+1 } J.newF w:=by
  refine⟨S.no,by simp[AS.newF,S.nf],S.role,λo cs ho=>?_,S.inj⟩
  obtain⟨h1,h2,h3⟩:=S.obj o cs ho
  exact⟨h1,h2,λj hj=>let ⟨c,a,b,d⟩:=h3 j hj;⟨c,a,b,d.mono E⟩⟩
 refine(h _ w cargs S' (g.mono E) (c.mono' E)).mono λe w' ⟨o,J',M',h1,h2,h3,h4⟩=>⟨o,J',M',h1,h2,h3,E.trans h4⟩
end Go.Abs
namespace Go.Abs
open Go
section
variable (J : AS)
@[simp] theorem zFR(f fo:Nat)(cs xs:List AV):(J.own f fo cs xs).nf=J.nf:=Eq.trans rfl rfl
end
section
variable {P : Program} {G : Env} {a : Nat -> AV} {J : AS} {K : (Nat -> AV) -> AS -> Prop} {Q : AQ} {d : Option Nat}
@[congr] theorem zsW{dd:Prop}(_:blk=dd){t:TypeId}{m m' k k':AV}{ok:Bool}{K:AV->Prop}(h:m=m')(h2:k=k'):zbA P t m k ok K=zbA P t m' k' ok K:=by rw[h,h2]
@[congr] theorem zvN{dd:Prop}(_:blk=dd){t:TypeId}{x x':AV}{J J':AS}{K:AV->AS->Prop}(h:x=x')(h2:J=J'):zgl P t x J K=zgl P t x' J' K:=by rw[h,h2]
@[congr] theorem zvO{dd:Prop}(_:blk=dd){x x':AV}{J J':AS}{K:AV->Prop}(h:x=x')(h2:J=J'):zll x J K=zll x' J' K:=by rw[h,h2]
@[congr] theorem zw2{dd:Prop}(_:blk=dd){x x':AV}{J J':AS}{K:AV->AV->AS->Prop}(h:x=x')(h2:J=J'):zp8 x J K=zp8 x' J' K:=by rw[h,h2]
@[congr] theorem zsh{dd:Prop}(_:blk=dd){t:TypeId}{m m' k k':AV}{ok:Bool}{J J':AS}{K:AV->Prop}(h:m=m')(h2:k=k')(h3:J=J'):zcY P t m k ok J K=zcY P t m' k' ok J' K:=by rw[h,h2,h3]
@[simp] theorem zvP(t f ks vs k ok)(K:AV->Prop):zcY P t (.mpo f ks vs) k ok J K=(J.F f=.alive/\zbA P t (.mp ks vs) k ok K):=Eq.trans rfl rfl
@[simp] theorem zvQ(t r):zby P G (.makeMap t r) d a J K Q=zee (r.map (ev G a)) J λv J'=>K (put a d v) J':=Eq.trans rfl rfl
theorem zki{K:AV->AS->Prop}:zee none J K=K (.mpo J.nf [] []) J.newF:=by simp[zee]
@[congr] theorem zsX{dd:Prop}(_:blk=dd){t:TypeId}{m m' k k' v v':AV}{J J':AS}{K:AV->AS->Prop}(h:m=m')(h1:k=k')(h2:v=v')(h3:J=J'):zcA P t m k v J K=zcA P t m' k' v' J' K:=by rw[h,h1,h2,h3]
@[simp] theorem zw3(t x k v):zby P G (.insert t (.tmp x) k v) d a J K Q=zcA P t (a x) (ev G a k) (ev G a v) J λm J'=>K (put (upd a x m) d (.tuple [])) J':=Eq.trans rfl rfl
@[simp] theorem zw4(t m k ok):zby P G (.lookup t m k ok) d a J K Q=zcY P t (ev G a m) (ev G a k) ok J λv=>K (put a d v) J:=Eq.trans rfl rfl
@[simp] theorem zAl(t x):zby P G (.range t x) d a J K Q=zgl P t (ev G a x) J λv J'=>K (put a d v) J':=Eq.trans rfl rfl
@[congr] theorem zvR{dd:Prop}(_:blk=dd){x x':AV}{J J':AS}{K:AV->AV->AS->Prop}(h:x=x')(h2:J=J'):zhC x J K=zhC x' J' K:=by rw[h,h2]
@[simp] theorem zAm(x):zby P G (.next (.tmp x) true) d a J K Q=zhC (a x) J λv2 v J'=>K (put (upd a x v2) d v) J':=Eq.trans rfl rfl
@[simp] theorem zAn{K:AV->AV->AS->Prop}(f bs pos):zhC (.sit f bs pos) J K=(J.F f=.alive/\(pos<bs.length->K (.sit J.nf bs (pos+(Utf8.decode ⟨bs.toArray⟩ pos).2)) (.tuple [.bool true,.int .i64 (pos:Int),.int .i32 ((Utf8.decode ⟨bs.toArray⟩ pos).1:Int)]) (J.turn f))/\(¬pos<bs.length->K (.sit f bs pos) (.tuple [.bool false]) J)):=Eq.trans rfl rfl
end
@[congr] theorem zw5{P:Program}{dd:Prop}(_:blk=dd){t:TypeId}{x x' y y':AV}{J J':AS}{K:AV->AS->Prop}(h:x=x')(h1:y=y')(h2:J=J'):zp9 P t x y J K=zp9 P t x' y' J' K:=by rw[h,h1,h2]
@[congr] theorem zsY{dd:Prop}(_:blk=dd){o off len:Nat}{ys ys':List AV}{J J':AS}{K:AV->AS->Prop}(h:ys=ys')(h2:J=J'):zhD o off len ys J K=zhD o off len ys' J' K:=by rw[h,h2]
@[simp] theorem zFS(ks vs):(AV.mp ks vs).one=true:=rfl
@[simp] theorem zD8(ks vs):(AV.mp ks vs).cells=[AV.mp ks vs]:=rfl
@[simp] theorem zD9(ks vs):(AV.mp ks vs).known=true:=rfl
@[simp] theorem zFb(f ks vs s):(AV.itr f ks vs s).one=true:=rfl
@[simp] theorem zBA(f ks vs s):(AV.itr f ks vs s).known=true:=rfl
@[simp] theorem zFc(f ks vs):(AV.mpo f ks vs).one=true:=rfl
@[simp] theorem zBB(f ks vs):(AV.mpo f ks vs).known=true:=rfl
section
variable (J : AS)
end
def Mp.calm(M:Mp)(nf:Nat):Mp where
 role B:=match M.role B with
  | some (.st m)=>some (.st m)
  | some _=>some .stat
  | none=>none
 obj:=M.obj
 no:=0
 nf:=nf
def AS.bare:AS:={ objs:=λ_=>none,no:=0,F:=λ_=>.alive,nf:=1 }
theorem zkj{M:Mp}{nf B m}(h:M.role B=some (.st m)):(M.calm nf).role B=some (.st m):=by
 simp[Mp.calm,h]
theorem zeg{M:Mp}{nf B}{r:Role}(h:M.role B=some r)(hr:∀m,r≠.st m):(M.calm nf).role B=some .stat:=by
 cases r with
 | st m=>exact absurd rfl (hr m)
 | fam f=>simp[Mp.calm,h]
 | obj=>simp[Mp.calm,h]
theorem Sim.calm{M:Mp}{J:AS}{w:World}(S:Sim M J w):Sim (M.calm 1) AS.bare w where
 no:=rfl
 nf:=rfl
 role B r h:=by
  cases hq:M.role B with
  | none=>simp[Mp.calm,hq]at h
  | some r'=>exact S.role B r' hq
 obj o cs h:=by cases h
 inj o o' h:=by cases h
theorem Ext.calm{M M':Mp}{J:AS}{w w':World}{F':Nat->FSt}(S:Sim M J w)(E:Ext (M.calm 1) AS.bare.F w M' F' w'):Ext M J.F w M J.F w' where
 io:=E.io
 no:=yah _
 nf:=yah _
 obj _ _:=rfl
 dead _ _ h:=h
 spoil _ _ h:=by rw[h];simp
 size:=E.size
 shape B c e z h:=by
  obtain⟨c',z',h1,h2,h3⟩:=E.shape B c e z h
  refine⟨c',z',h1,h2,λhn=>?_⟩
  have hq:w'.heap[B]?=w.heap[B]?:=by
   cases hr:M.role B with
   | none=>exact(E.free B (yaU.1 h).1 (by simp[Mp.calm,hr])).2
   | some r=>exact(E.stat B false (zeg hr (λm q=>hn m (by rw[hr,q])))).2.exact
  rw[hq,h]at h1
  cases h1
  exact λ_ _ q=>q
 stat B m h:=⟨h,(E.stat B m (zkj h)).2⟩
 free B hB h:=⟨h,(E.free B hB (by simp[Mp.calm,h])).2⟩
 famr _ _ _ h _:=h
 famc B f _ h _:=(E.stat B false (zeg h (λm q=>by cases q))).2.exact
theorem Sim.calmed{M M':Mp}{J:AS}{w w':World}{F':Nat->FSt}(S:Sim M J w)(E:Ext (M.calm 1) AS.bare.F w M' F' w'):Sim M J w' where
 no:=S.no
 nf:=S.nf
 role B r h:=yag (S.role B r h) E.size
 obj o cs h:=by
  obtain⟨h1,h2,h3⟩:=S.obj o cs h
  have hq:w'.heap[(M.obj o).1]?=w.heap[(M.obj o).1]?:=(E.stat _ false (zeg h2 (λm q=>by cases q))).2.exact
  refine⟨h1,h2,λj hj=>?_⟩
  obtain⟨c,a,b,d⟩:=h3 j hj
  exact⟨c,by rw[zo hq,a],by rw[zp hq,b],d.mono (Ext.calm S E)⟩
 inj:=S.inj
end Go.Abs
