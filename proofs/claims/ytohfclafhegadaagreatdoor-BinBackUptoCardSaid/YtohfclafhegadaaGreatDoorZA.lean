/- Parts of the proof of the row BinBackUpto: contracts of functions, each under the conditions that its theorem names. -/
import Derived.Test.YtohfclafhegadaaGreatDoorAbsB
import Derived.Lib.IndexMore
import Derived.Lib.AtoiAll
import Derived.Lib.ItoaNum
import Derived.Test.YtohfclafhegadaaGreatDoorGenP
import Derived.Test.YtohfclafhegadaaGreatDoorShelf
set_option linter.unusedSimpArgs false
set_option linter.unusedVariables false
set_option maxRecDepth 100000
open List renaming replicate->yaj,getD_eq_getElem?_getD->ycQ,mem_append->ybh,flatMap_cons->yaa,drop_eq_nil_iff->ycR,getElem?_eq_none->yb2,drop_drop->ycS,getElem?_eq_some_iff->yaq,length->ycT,length_drop->ycU,length_eq_zero_iff->ybS,map_cons->yaL,sum_cons->ycV,length_take->ybf,getElem?_eq_getElem->yau,all_eq_true->yaM,getElem_mem->yaw,mem_cons->ybC,take_succ_eq_append_getElem->ycX,take_length->ycY,cons_append->yc1,length_pos_iff->ybm,drop_eq_getElem_cons->yc2,map_take->yc3,mem_of_getElem?->yc5,mem_flatMap->yc8,all_eq_false->yc9,mem_iff_getElem->yda,getElem_take->yaE,replicate_succ->ydb,map->ydc,length_map->ybb,getElem?_map->ydd,not_mem_nil->yde,mem_map->yaV,mem_singleton->ydf,take_of_length_le->ydg,map_append->ydk,take->ydl,length_append->yab,length_replicate->yba,find?_eq_none->ydm,findIdx?_eq_some_iff_getElem->ydn,getElem_of_mem->ya9,length_cons->yac,nil_append->ydq
open Nat renaming le_refl->yah,zero_le->ycW,le_trans->yai,lt_of_lt_of_le->yag,eq_zero_or_pos->ybr,lt_or_ge->ydo,mod_eq_of_lt->ydp,mul_comm->ydr,lt_of_le_of_lt->yds,mod_le->ydt,mul_le_mul_right->yax,mul_assoc->ydu
open Option renaming some->yaR,map_eq_some_iff->ybB
open Array renaming getElem?_eq_some_iff->yaU
open Int renaming pow_succ->ydh,natCast_add->ydi,natCast_one->ydj,natCast_pow->ydv,natCast_mul->ybd,mul_comm->ydw
open Go.Proofs.Tryz renaming prog->yb9
open Go.IntKind renaming wrap->yb4,i64->yam,signed->yao,bits->yap
open Go.Abs.AV renaming str->ycZ,int->yc0,ptr->yc4,agg->yc6,nilsl->yc7
namespace Go.Proofs.YtohfclafhegadaaGreatDoor
open Go Go.Abs
structure W where
 op:Int
 ty:Int
 n:Int
 body:Int
 other:Int
 name:List UInt8
deriving DecidableEq
abbrev To:=List (List W)
structure F where
 name:List UInt8
 params:List Int
 locals:List Int
 type:Int
 lists:To
structure M where
 funcs:List F
 memory:Int
 main:Int
structure St where
 stack:List Int
 any:Bool
abbrev Res:=Except Int
def ze1(s:St):Res St :=
 if s.stack.length=0 then(if s.any then .ok s else .error 14)else .ok { s with stack:=s.stack.dropLast }
def zaA:List Int->St->Res St
 | [],s=>.ok s
 | t::ts,s=>if s.stack.length=0\/s.stack.getLast?=some t then
   match ze1 s with
   | .ok s'=>zaA ts s'
   | .error e=>.error e
  else .error 14
def zeE(s:St)(t:Int):St:=if t=0 then s else { s with stack:=s.stack++[t] }
def zp9:St:=⟨[],true⟩
def zK(ty:Int)(s:St):Res St:=if ty=0 then .ok s else zaA [ty] s
def zac(t:Int):Bool:=decide (t=1)||decide (t=2)
def signs:List (List UInt8 × List UInt8):=[
 ([97,100,100],[43]),([115,117,98],[45]),([109,117,108],[42]),([100,105,118,95,115],[47]),([114,101,109,95,115],[37]),([97,110,100],[38]),([111,114],[124]),([120,111,114],[94]),
 ([115,104,108],[60,60]),([115,104,114,95,115],[62,62]),([101,113],[61,61]),([110,101],[33,61]),([108,116,95,115],[60]),([108,101,95,115],[60,61]),([103,116,95,115],[62]),([103,101,95,115],[62,61])]
def zcs:List (List UInt8 × List UInt8)->List UInt8->List UInt8
 | [],_=>[]
 | (x,y)::r,s=>if x=s then y else zcs r s
def zfy(t n:Int):Bool:=decide (t=1)&&(decide (n=1)||decide (n=4))||decide (t=2)&&decide (n=8)
def zT(w:W):Bool :=
 if w.op=1\/w.op=5 then zac w.ty
 else if w.op=4 then zac w.ty&&!(zcs signs w.name==[])
 else if w.op=8\/w.op=9 then zfy w.ty w.n
 else decide (1<=w.op)&&decide (w.op<=18)
def zbK(fs:List F)(n:Int):Option (List Int × Int) :=
 if n=0 then some ([],2)else if n=1 then some ([2],0)else if n=2 then some ([1],0)
 else if n<0 then none else(fs[(n-3).toNat]?).map λf=>(f.params,f.type)
def zyt(t v:Int):Int:=if t=3 then IntKind.i8.wrap v else if t=1 then IntKind.i32.wrap v else if t=2 then v else 0
def zN(fs:List F)(locals:List Int)(deep:Int)(w:W):Bool :=
 if w.op=1 then decide (zyt w.ty w.n=w.n)
 else if w.op=2\/w.op=3 then decide (0<=w.n)&&decide (w.n<(locals.length:Int))
 else if w.op=10 then(zbK fs w.n).isSome
 else if w.op=14\/w.op=15 then decide (0<=w.n)&&decide (w.n<=deep)
 else true
def zkj(locals:List Int)(n:Int):Int:=locals.getD n.toNat 0
def zyu:List UInt8:=[32,101,113,32,110,101,32,108,116,95,115,32,108,101,95,115,32,103,116,95,115,32,103,101,95,115,32]
def zHd(s:List UInt8):Bool:=Lib.contains zyu (32::(s++[32]))
def zgR(r:Res St)(t:Int):Res St:=match r with
 | .ok s=>.ok (zeE s t)
 | .error e=>.error e
def zc7(fs:List F)(locals:List Int)(w:W)(s:St):Res St :=
 if w.op=1 then .ok (zeE s w.ty)
 else if w.op=2 then .ok (zeE s (zkj locals w.n))
 else if w.op=3 then zaA [zkj locals w.n] s
 else if w.op=4 then zgR (zaA [w.ty,w.ty] s) (if zHd w.name then 1 else w.ty)
 else if w.op=5 then zgR (zaA [w.ty] s) 1
 else if w.op=6 then zgR (zaA [2] s) 1
 else if w.op=7 then zgR (zaA [1] s) 2
 else if w.op=8 then zgR (zaA [1] s) w.ty
 else if w.op=9 then zaA [w.ty,1] s
 else if w.op=10 then match zbK fs w.n with
  | some (ts,g)=>zgR (zaA ts.reverse s) g
  | none=>.ok s
 else if w.op=18 then ze1 s
 else .ok s
abbrev zm9:=Int->Int->Res Unit
def zag(fs:List F)(locals:List Int)(ty deep:Int)(look:zm9)(w:W)(s:St):Res St :=
 if zT w=false then .error 2
 else if zN fs locals deep w=false then .error 11
 else if w.op=11\/w.op=12 then match look w.body (deep+1)with
  | .ok _=>.ok s
  | .error e=>.error e
 else if w.op=13 then match zaA [1] s with
  | .error e=>.error e
  | .ok s1=>match look w.body (deep+1)with
   | .error e=>.error e
   | .ok _=>if 0<=w.other then match look w.other (deep+1)with
     | .error e=>.error e
     | .ok _=>.ok s1
    else .ok s1
 else if w.op=15 then match zaA [1] s with
  | .error e=>.error e
  | .ok s1=>if w.n=deep then zgR (zK ty s1) ty else .ok s1
 else if w.op=14 then if w.n=deep then match zK ty s with
   | .error e=>.error e
   | .ok _=>.ok zp9
  else .ok zp9
 else if w.op=16 then match zK ty s with
  | .error e=>.error e
  | .ok _=>.ok zp9
 else if w.op=17 then .ok zp9
 else zc7 fs locals w s
def zU(fs:List F)(locals:List Int)(ty deep:Int)(look:zm9):List W->St->Res St
 | [],s=>.ok s
 | w::ws,s=>match zag fs locals ty deep look w s with
  | .error e=>.error e
  | .ok s'=>zU fs locals ty deep look ws s'
def zHe(ty deep:Int)(s:St):Res Unit:=match (if deep=0 then zK ty s else .ok s)with
 | .error e=>.error e
 | .ok s'=>if s'.stack.length=0 then .ok ()else .error 14
def zam(fs:List F)(locals:List Int)(ty:Int)(lists:To):Nat->zm9
 | 0,_,_=>.error (-1)
 | k+1,at_,deep=>match zU fs locals ty deep (zam fs locals ty lists k) (lists.getD at_.toNat []) ⟨[],false⟩with
  | .error e=>.error e
  | .ok s=>zHe ty deep s
def zh(w:W):List Int:=if w.op=11\/w.op=12\/(w.op=13/\w.other<0)then [w.body]else if w.op=13 then [w.body,w.other]else []
def ze2(at_:Int)(named:List Bool)(n:Int):Res (List Bool) :=
 if 0<=n/\n<at_/\named.getD n.toNat true=false then .ok (named.set n.toNat true)else .error 11
def zbt(at_:Int):List Int->List Bool->Res (List Bool)
 | [],named=>.ok named
 | n::ns,named=>match ze2 at_ named n with
  | .error e=>.error e
  | .ok named'=>zbt at_ ns named'
def zjt(at_:Int):List W->List Bool->Res (List Bool)
 | [],named=>.ok named
 | w::ws,named=>match zbt at_ (zh w) named with
  | .error e=>.error e
  | .ok named'=>zjt at_ ws named'
def zcJ:Nat->To->List Bool->Res (List Bool)
 | _,[],named=>.ok named
 | k,l::ls,named=>match zjt (k:Int) l named with
  | .error e=>.error e
  | .ok named'=>zcJ (k+1) ls named'
def zdp(ls:To):Res Unit :=
 if ls.length=0 then .error 11 else match zcJ 0 ls (yaj ls.length false)with
  | .error e=>.error e
  | .ok named=>if(named.take (ls.length-1)).all (·==true)then .ok ()else .error 11
def zk(fs:List F)(f:F):Res Unit :=
 if((f.params++f.locals).all zac&&decide (0<=f.type)&&decide (f.type<=2))=false then .error 6 else match zdp f.lists with
  | .error e=>.error e
  | .ok _=>zam fs (f.params++f.locals) f.type f.lists f.lists.length ((f.lists.length:Int)-1) 0
def zan(fs:List F):List F->Res Unit
 | []=>.ok ()
 | f::r=>match zk fs f with
  | .error e=>.error e
  | .ok _=>zan fs r
def zgS(m:M):Bool:=decide (0<=m.main)&&match m.funcs[m.main.toNat]? with
 | some f=>decide (f.type=1)&&decide (f.params.length=0)
 | none=>false
def zaP(m:M):Res Unit :=
 if(decide (0<=m.memory)&&decide (m.memory<=4096))=false then .error 11 else match zan m.funcs m.funcs with
  | .error e=>.error e
  | .ok _=>if zgS m then .ok ()else .error 12
def zsI:Res Unit->Int
 | .ok _=>0
 | .error e=>e
def zfz(c:UInt8):Bool:=decide (48<=c.toNat)&&decide (c.toNat<=57)
def zKA(c:UInt8):Bool:=[32,10,40,41,34].contains c
def zdY:List UInt8:=[40,32,109,111,100,117,108,101,32,40,32,105,109,112,111,114,116,32,34,101,110,118,34,32,34,105,110,34,32,40,32,102,117,110,99,32,40,32,114,101,115,117,108,116,32,105,54,52,32,41,32,41,32,41,32,40,32,105,109,112,111,114,116,32,34,101,110,118,34,32,34,111,117,116,34,32,40,32,102,117,110,99,32,40,32,112,97,114,97,109,32,105,54,52,32,41,32,41,32,41,32,40,32,105,109,112,111,114,116,32,34,101,110,118,34,32,34,116,114,97,112,34,32,40,32,102,117,110,99,32,40,32,112,97,114,97,109,32,105,51,50,32,41,32,41,32,41,32,40,32,109,101,109,111,114,121,32,49,32,41,32,40,32,103,108,111,98,97,108,32,105,51,50,32,40,32,105,51,50,46,99,111,110,115,116]
def zDw:List (List UInt8):=[[40],[109,111,100,117,108,101],[40],[105,109,112,111,114,116],[34,101,110,118,34],[34,105,110,34],[40],[102,117,110,99],[40],[114,101,115,117,108,116],[105,54,52],[41],[41],[41],[40],[105,109,112,111,114,116],[34,101,110,118,34],[34,111,117,116,34],[40],[102,117,110,99],[40],[112,97,114,97,109],[105,54,52],[41],[41],[41],[40],[105,109,112,111,114,116],[34,101,110,118,34],[34,116,114,97,112,34],[40],[102,117,110,99],[40],[112,97,114,97,109],[105,51,50],[41],[41],[41],[40],[109,101,109,111,114,121],[49],[41],[40],[103,108,111,98,97,108],[105,51,50],[40],[105,51,50,46,99,111,110,115,116]]
def za2:List UInt8:=[40]
def zad:List UInt8:=[41]
def ze3:List UInt8:=[102,117,110,99]
def zhp:List UInt8:=[112,97,114,97,109]
def zqa:List UInt8:=[114,101,115,117,108,116]
def ziJ:List UInt8:=[108,111,99,97,108]
def zic:List UInt8:=[101,120,112,111,114,116]
def zsJ:List UInt8:=[34,109,97,105,110,34]
def zKB:List UInt8:=[105,51,50]
def zKC:List UInt8:=[105,54,52]
def zBf:List UInt8:=[98,108,111,99,107]
def zHf:List UInt8:=[108,111,111,112]
def tIf:List UInt8:=[105,102]
def zid:List UInt8:=[101,108,115,101]
def zie:List UInt8:=[101,110,100]
def zHg:List (List UInt8):=[[97,100,100],[115,117,98],[109,117,108],[100,105,118,95,115],[114,101,109,95,115],[97,110,100],[111,114],[120,111,114],[115,104,108],[115,104,114,95,115],[101,113],[110,101],[108,116,95,115],[108,101,95,115],[103,116,95,115],[103,101,95,115]]
def zKD:List (List UInt8 × W):=[([105,51,50,46,119,114,97,112,95,105,54,52],{ op:=6,ty:=0,n:=0,body:=0,other:=0,name:=[] }),([105,54,52,46,101,120,116,101,110,100,95,105,51,50,95,115],{ op:=7,ty:=0,n:=0,body:=0,other:=0,name:=[] }),([105,51,50,46,108,111,97,100,56,95,115],{ op:=8,ty:=1,n:=1,body:=0,other:=0,name:=[] }),([105,51,50,46,108,111,97,100],{ op:=8,ty:=1,n:=4,body:=0,other:=0,name:=[] }),([105,54,52,46,108,111,97,100],{ op:=8,ty:=2,n:=8,body:=0,other:=0,name:=[] }),([105,51,50,46,115,116,111,114,101,56],{ op:=9,ty:=1,n:=1,body:=0,other:=0,name:=[] }),([105,51,50,46,115,116,111,114,101],{ op:=9,ty:=1,n:=4,body:=0,other:=0,name:=[] }),([105,54,52,46,115,116,111,114,101],{ op:=9,ty:=2,n:=8,body:=0,other:=0,name:=[] }),([114,101,116,117,114,110],{ op:=16,ty:=0,n:=0,body:=0,other:=0,name:=[] }),([117,110,114,101,97,99,104,97,98,108,101],{ op:=17,ty:=0,n:=0,body:=0,other:=0,name:=[] }),([100,114,111,112],{ op:=18,ty:=0,n:=0,body:=0,other:=0,name:=[] })]
def zaK(t:Int):List UInt8:=if t=1 then zKB else zKC
def zBg(t:Int):List (List UInt8 × W):=(zHg.map λs=>(zaK t++46::s,{ op:=4,ty:=t,n:=0,body:=0,other:=0,name:=s }))++[(zaK t++[46,101,113,122],{ op:=5,ty:=t,n:=0,body:=0,other:=0,name:=[] })]
def zKE:List (List UInt8 × W):=zKD++(zBg 1++zBg 2)
def zif:List (List UInt8 × W):=[([105,51,50,46,99,111,110,115,116],{ op:=1,ty:=1,n:=0,body:=0,other:=0,name:=[] }),([105,54,52,46,99,111,110,115,116],{ op:=1,ty:=2,n:=0,body:=0,other:=0,name:=[] }),([108,111,99,97,108,46,103,101,116],{ op:=2,ty:=0,n:=0,body:=0,other:=0,name:=[] }),([108,111,99,97,108,46,115,101,116],{ op:=3,ty:=0,n:=0,body:=0,other:=0,name:=[] }),([99,97,108,108],{ op:=10,ty:=0,n:=0,body:=0,other:=0,name:=[] }),([98,114],{ op:=14,ty:=0,n:=0,body:=0,other:=0,name:=[] }),([98,114,95,105,102],{ op:=15,ty:=0,n:=0,body:=0,other:=0,name:=[] })]
def zgo(l:List (List UInt8 × W))(t:List UInt8):Option W:=(l.find? λp=>p.1==t).map (·.2)
def zHh(t:List UInt8):Int:=if t=zBf then 11 else if t=zHf then 12 else if t=tIf then 13 else 0
def zdi(c:UInt8):Bool:=(decide (97<=c.toNat)&&decide (c.toNat<=122))||c==95
def ztH(m:Nat)(t:List UInt8):Bool:=match t with
 | []=>false
 | c::r=>decide (t.length<=m)&&(zdi c&&r.all λx=>zdi x||zfz x)
def zbO(f:Nat->Nat):Nat->Nat
 | 0=>0
 | k+1=>zbO f k+f k
theorem zgT{f g:Nat->Nat}:∀k,(∀i,i<k->f i=g i)->zbO f k=zbO g k
 | 0,_=>rfl
 | k+1,h=>by rw[zbO,zbO,zgT k λi hi=>h i (by omega),h k (by omega)]
def rt(T:Nat->Nat)(named:List Bool)(i:Nat):Nat:=if named.getD i true then 0 else T i
theorem zna(named:List Bool)(n i:Nat):(named.set n true).getD i true=if i=n then true else named.getD i true:=by
 rw[ycQ,ycQ,List.getElem?_set]
 by_cases h:n=i
 .subst h
  rw[if_pos rfl,if_pos rfl]
  split<;>rfl
 .rw[if_neg h,if_neg (λe=>h e.symm)]
theorem zor(T:Nat->Nat)(named:List Bool){n i:Nat}(h:i≠n):rt T (named.set n true) i=rt T named i:=by
 have e:(named.set n true).getD i true=named.getD i true:=by rw[zna,if_neg h]
 unfold rt;rw[e]
theorem zos(T:Nat->Nat)(named:List Bool)(n:Nat)(h:named.getD n true=false):∀k,n<k->zbO (rt T (named.set n true)) k+T n=zbO (rt T named) k
 | 0,hk=>by omega
 | k+1,hk=>by
  simp only[zbO]
  by_cases e:n=k
  .subst e
   have h1:zbO (rt T (named.set n true)) n=zbO (rt T named) n:=zgT n λi hi=>zor T named (Nat.ne_of_lt hi)
   have h2:rt T (named.set n true) n=0:=by
    have e:(named.set n true).getD n true=true:=by rw[zna,if_pos rfl]
    unfold rt;rw[e];rfl
   have h3:rt T named n=T n:=by unfold rt;rw[h];rfl
   omega
  .have ih:=zos T named n h k (by omega)
   have h2:rt T (named.set n true) k=rt T named k:=zor T named (λq=>e q.symm)
   omega
def zju(l:List Int)(T:Nat->Nat):Nat:=(l.map λn=>T n.toNat).sum
theorem zeF(a b:List Int)(T):zju (a++b) T=zju a T+zju b T:=by simp[zju]
structure znb(T:Nat->Nat)(k:Nat)(named named':List Bool)(ns:List Int):Prop where
 inside:∀n∈ns,0<=n/\n<(k:Int)
 sum:zbO (rt T named') k+zju ns T=zbO (rt T named) k
 rest:∀i,k<=i->named'.getD i true=named.getD i true
 len:named'.length=named.length
theorem znb.nil{T k named}:znb T k named named []:=⟨by simp,by simp[zju],λ_ _=>rfl,rfl⟩
theorem znb.trans{T k a b c l m}(h:znb T k a b l)(h':znb T k b c m):znb T k a c (l++m) where
 inside n hn:=(ybh.1 hn).elim (h.inside n) (h'.inside n)
 sum:=by rw[zeF];have:=h.sum;have:=h'.sum;omega
 rest i hi:=(h'.rest i hi).trans (h.rest i hi)
 len:=h'.len.trans h.len
theorem zyv{T k named n named'}(h:ze2 (k:Nat) named n=.ok named'):znb T k named named' [n]:=by
 unfold ze2 at h
 split at h
 .rename_i hc
  cases h
  obtain⟨h0,h1,h2⟩:=hc
  have hk:n.toNat<k:=by omega
  refine⟨by simp;exact⟨h0,h1⟩,by simpa [zju]using zos T named n.toNat h2 k hk,λi hi=>by rw[zna,if_neg (by omega)],by simp⟩
 .cases h
theorem zot{T k}:∀{ns named named'},zbt (k:Nat) ns named=.ok named'->znb T k named named' ns
 | [],_,_,h=>by simp[zbt]at h;subst h;exact .nil
 | n::ns,named,named',h=>by
  rw[zbt]at h
  split at h
  .cases h
  .rename_i named1 h1
   exact(zyv h1).trans (zot h)
theorem zqb{T k}:∀{ws named named'},zjt (k:Nat) ws named=.ok named'->znb T k named named' (ws.flatMap zh)
 | [],_,_,h=>by simp[zjt]at h;subst h;exact .nil
 | w::ws,named,named',h=>by
  rw[zjt]at h
  split at h
  .cases h
  .rename_i named1 h1
   rw[yaa]
   exact(zot h1).trans (zqb h)
def zlm(ls:To):Prop:=∀(k:Nat) (row:List W),ls[k]?=some row->∀n∈row.flatMap zh,0<=n/\n<(k:Int)
theorem zkk(ls:To):∀(r:To) (k:Nat) (named named':List Bool),ls.drop k=r->zcJ k r named=.ok named'->∀j row,k<=j->ls[j]?=some row->∀n∈row.flatMap zh,0<=n/\n<(j:Int)
 | [],k,_,_,hd,_,j,row,hj,hr=>by
  have:ls.length<=k:=ycR.1 hd
  rw[yb2 (by omega)]at hr;cases hr
 | l::r,k,named,named',hd,h,j,row,hj,hr=>by
  rw[zcJ]at h
  split at h
  .cases h
  .rename_i named1 h1
   have hl:ls[k]?=some l:=by
    have:=congrArg (·[0]?) hd
    simpa using this
   have hd':ls.drop (k+1)=r:=by
    have:=congrArg (List.drop 1) hd
    simpa [ycS]using this
   by_cases e:j=k
   .subst e
    rw[hl]at hr;cases hr
    exact(zqb (T:=λ_=>0) h1).inside
   .exact zkk ls r (k+1) named1 named' hd' h j row (by omega) hr
theorem zou(ls:To)(T g:Nat->Nat)(hT:∀k row,ls[k]?=some row->T k=g k+zju (row.flatMap zh) T):∀(r:To) (k:Nat) (named named':List Bool),ls.drop k=r->zcJ k r named=.ok named'->k<=ls.length ->
  zbO (rt T named) k=zbO g k->named.length=ls.length->(∀i,k<=i->i<ls.length->named.getD i true=false) ->
  zbO (rt T named') ls.length=zbO g ls.length/\named'.length=ls.length/\(0<ls.length->k<ls.length->named'.getD (ls.length-1) true=false)
 | [],k,named,named',hd,h,hk,hs,hl,hf=>by
  have hlen:ls.length<=k:=ycR.1 hd
  simp[zcJ]at h
  subst h
  obtain rfl:k=ls.length:=by omega
  exact⟨hs,hl,λ_ h=>by omega⟩
 | l::r,k,named,named',hd,h,hk,hs,hlen,hf=>by
  rw[zcJ]at h
  split at h
  .cases h
  .rename_i named1 h1
   have hl:ls[k]?=some l:=by
    have:=congrArg (·[0]?) hd
    simpa using this
   have hd':ls.drop (k+1)=r:=by
    have:=congrArg (List.drop 1) hd
    simpa [ycS]using this
   have hk':k<ls.length:=(yaq.1 hl).1
   have N:=zqb (T:=T) h1
   have hkk:named1.getD k true=false:=(N.rest k (yah _)).trans (hf k (yah _) hk')
   have hsum:zbO (rt T named1) (k+1)=zbO g (k+1):=by
    simp only[zbO]
    have h3:rt T named1 k=T k:=by unfold rt;rw[hkk];rfl
    have:=N.sum
    have:=hT k l hl
    omega
   have key:=zou ls T g hT r (k+1) named1 named' hd' h hk' hsum (N.len.trans hlen) λi hi hil=>(N.rest i (by omega)).trans (hf i (by omega) hil)
   refine⟨key.1,key.2.1,λh0 _=>?_⟩
   by_cases e:k+1<ls.length
   .exact key.2.2 h0 e
   .have:r=[]:=by
     have hdl:=congrArg ycT hd'
     rw[ycU]at hdl
     exact ybS.1 (by omega)
    subst this
    simp[zcJ]at h
    subst h
    rw[show ls.length-1=k from by omega]
    exact hkk
def tot(g:Nat->Nat)(ls:To):Nat->Nat->Nat
 | 0,_=>0
 | f+1,k=>g k+zju ((ls.getD k []).flatMap zh) (tot g ls f)
theorem zsK{l:List Int}{T U:Nat->Nat}(h:∀n∈l,T n.toNat=U n.toNat):zju l T=zju l U:=by
 induction l with
 | nil=>rfl
 | cons n l ih =>
  simp only[zju,yaL,ycV]at ih ⊢
  rw[h n (by simp),ih λm hm=>h m (by simp[hm])]
theorem zsL(g:Nat->Nat){ls:To}(ha:zlm ls):∀(f:Nat) (k:Nat),k<f->tot g ls (f+1) k=tot g ls f k:=by
 intro f
 induction f with
 | zero=>intro k h;omega
 | succ f ih =>
  intro k hk
  rw[tot,tot]
  congr 1
  refine zsK λn hn=>?_
  cases hr:ls[k]? with
  | none=>rw[ycQ,hr]at hn;simp at hn
  | some row =>
   rw[ycQ,hr]at hn
   have:=ha k row hr n hn
   exact ih n.toNat (by omega)
def znc(g:Nat->Nat)(ls:To)(k:Nat):Nat:=tot g ls ls.length k
theorem znd(g:Nat->Nat){ls:To}(ha:zlm ls){k:Nat}{row:List W}(h:ls[k]?=some row):znc g ls k=g k+zju (row.flatMap zh) (znc g ls):=by
 have hk:=(yaq.1 h).1
 unfold znc
 rw[<-zsL g ha ls.length k hk,tot,ycQ,h]
 rfl
theorem zlR:∀k,zbO (λ_=>0) k=0
 | 0=>rfl
 | k+1=>by rw[zbO,zlR k]
theorem zbU{ls:To}(h:zdp ls=.ok ()):0<ls.length/\zlm ls/\∀g,znc g ls (ls.length-1)=zbO g ls.length:=by
 unfold zdp at h
 split at h
 .cases h
 .rename_i h0
  split at h
  .cases h
  .rename_i named hr
   split at h
   .rename_i hall
    have ha:zlm ls:=λk row hk=>zkk ls ls 0 _ _ (by simp) hr k row (ycW _) hk
    refine⟨by omega,ha,λg=>?_⟩
    obtain⟨h1,h2,h3⟩:=zou ls (znc g ls) g (λk row hk=>znd g ha hk) ls 0 _ _ (by simp) hr (ycW _) rfl (by simp) λi _ hi=>by
     rw[ycQ,List.getElem?_replicate,if_pos hi];rfl
    obtain⟨L,hL⟩:∃L,ls.length=L+1:=⟨ls.length-1,by omega⟩
    have h3':=h3 (by omega) (by omega)
    rw[hL]at h1 h3' hall ⊢
    simp only[Nat.add_sub_cancel]at h3' hall ⊢
    rw[<-h1,zbO]
    have z:zbO (rt (znc g ls) named) L=0:=by
     have:zbO (rt (znc g ls) named) L=zbO (λ_=>0) L:=zgT L λi hi=>by
      have hm:(named.take L)[i]?=some true:=by
       have hlt:i<(named.take L).length:=by rw[ybf];omega
       rw[yau hlt]
       have:=yaM.1 hall _ (yaw hlt)
       simpa using this
      rw[List.getElem?_take,if_pos hi]at hm
      have e:named.getD i true=true:=by rw[ycQ,hm];rfl
      unfold rt;rw[e];rfl
     rw[this,zlR]
    have e:rt (znc g ls) named L=znc g ls L:=by unfold rt;rw[h3'];rfl
    rw[z,e];omega
   .cases h
def zjv(c:Nat->Nat)(ls:To):Nat:=(ls.map λl=>c l.length).sum
theorem zkl(c a b):zjv c (a++b)=zjv c a+zjv c b:=by simp[zjv]
theorem zV{fs:List F}{f:F}(h:zk fs f=.ok ()):zdp f.lists=.ok ():=by
 unfold zk at h
 split at h
 .cases h
 .split at h
  .cases h
  .assumption
theorem zgv{fs:List F}:∀{r:List F},zan fs r=.ok ()->∀f∈r,zk fs f=.ok ()
 | [],_,f,hf=>by simp at hf
 | g::r,h,f,hf=>by
  rw[zan]at h
  split at h
  .cases h
  .rename_i u hg
   rcases ybC.1 hf with rfl|hf
   .exact hg
   .exact zgv h f hf
theorem zbb{m:M}(h:zaP m=.ok ()):∀f∈m.funcs,zk m.funcs f=.ok ():=by
 unfold zaP at h
 split at h
 .cases h
 .split at h
  .cases h
  .rename_i u hf
   exact zgv hf
def W.cs(w:W):List AV:=[.int .i64 w.op,.int .i64 w.ty,.int .i64 w.n,.int .i64 w.body,.int .i64 w.other,.str w.name]
def W.av(w:W):AV:=.agg w.cs
inductive All2{α β:Type}(R:α->β->Prop):List α->List β->Prop
 | nil:All2 R [] []
 | cons {x y xs ys} (h:R x y) (r:All2 R xs ys):All2 R (x::xs) (y::ys)
def zsM(v:AV)(l:List W):Prop:=(l=[]/\v=.nilsl)\/∃b,v=.sl (.stat b) 6 (l.map W.av)
def zKF(v:AV)(frm:To):Prop:=∃b rows,v=.sl (.stat b) 1 rows/\All2 zsM rows frm
def zeG:AV->Option Nat
 | .sl (.fam g _) _ _=>some g
 | _=>none
end Go.Proofs.YtohfclafhegadaaGreatDoor


namespace Go.Proofs.YtohfclafhegadaaGreatDoor
open Go Go.Abs
theorem All2.length{α β:Type}{R:α->β->Prop}{xs ys}(h:All2 R xs ys):xs.length=ys.length:=by
 induction h<;>simp_all
theorem All2.get{α β:Type}{R:α->β->Prop}{xs ys}(h:All2 R xs ys){i:Nat}{y}(hy:ys[i]?=some y):∃x,xs[i]?=some x/\R x y:=by
 induction h generalizing i with
 | nil=>simp at hy
 | cons h r ih =>
  cases i with
  | zero=>simp at hy;subst hy;exact⟨_,by simp,h⟩
  | succ i=>simp at hy;simpa using ih hy
theorem All2.append{α β:Type}{R:α->β->Prop}{xs ys xs' ys'}(h:All2 R xs ys)(h':All2 R xs' ys'):All2 R (xs++xs') (ys++ys'):=by
 induction h with
 | nil=>exact h'
 | cons h r ih=>exact .cons h ih
theorem zyw{P:Program}{G:Env}{f:FuncId}{args:List AV}{J:AS}{R:Out->AS->Prop}
  (h:ACalls P G f args J λo J'=>R o J'\/∃v g p,o=.ret v/\J'.F g=.alive/\R (.ret (frz g v)) (J'.frz g p)):ACalls P G f args J R:=by
 intro M w cargs S g c
 refine(h M w cargs S g c).mono λe w' ⟨o,J',M',hR,h2,h3,h4⟩=>?_
 rcases hR with hR|⟨v,k,p,ho,ha,hR⟩
 .exact⟨o,J',M',hR,h2,h3,h4⟩
 subst ho
 refine⟨_,_,M'.frz k,hR,?_,h3.frz ha,h4.trans (zpR ha)⟩
 cases e<;>simp only[zbj]at h2 ⊢
 exact h2.frz ha
end Go.Proofs.YtohfclafhegadaaGreatDoor


namespace Go.Proofs.YtohfclafhegadaaGreatDoor
open Go Go.Abs
structure zd(J J':AS):Prop where
 no:J.no<=J'.no
 nf:J.nf<=J'.nf
 obj:∀o,o<J.no->J'.objs o=J.objs o
 fam:∀f,f<J.nf->J'.F f=J.F f
theorem zd.refl(J):zd J J:=⟨yah _,yah _,λ_ _=>rfl,λ_ _=>rfl⟩
theorem zd.trans{J J1 J2}(h:zd J J1)(h':zd J1 J2):zd J J2 where
 no:=yai h.no h'.no
 nf:=yai h.nf h'.nf
 obj o a:=by rw[h'.obj o (yag a h.no),h.obj o a]
 fam f a:=by rw[h'.fam f (yag a h.nf),h.fam f a]
theorem zd.newO{J J' cs}(h:zd J J'):zd J (J'.newO cs) where
 no:=yai h.no (by simp)
 nf:=h.nf
 obj o a:=by have:=h.no;simp;rw[if_neg (by omega)];exact h.obj o a
 fam:=h.fam
theorem zd.setO{J J' o cs}(h:zd J J')(ho:J.no<=o):zd J (J'.setO o cs) where
 no:=h.no
 nf:=h.nf
 obj p a:=by simp;rw[if_neg (by omega)];exact h.obj p a
 fam:=h.fam
theorem zd.newF{J J'}(h:zd J J'):zd J J'.newF where
 no:=h.no
 nf:=yai h.nf (by simp)
 obj:=h.obj
 fam f a:=by have:=h.nf;simp;rw[if_neg (by omega)];exact h.fam f a
theorem zd.setF{J J' f s}(h:zd J J')(hf:J.nf<=f):zd J (J'.setF f s) where
 no:=h.no
 nf:=h.nf
 obj:=h.obj
 fam g a:=by simp;rw[if_neg (by omega)];exact h.fam g a
theorem zd.frz{J J' f p}(h:zd J J')(hf:J.nf<=f)(hp:∀o,o<J.no->p o=false):zd J (J'.frz f p) where
 no:=h.no
 nf:=h.nf
 obj o a:=by simp[AS.frz,hp o a];exact h.obj o a
 fam g a:=by simp[AS.frz,zsC];rw[if_neg (by omega)];exact h.fam g a
def zaR(v:AV)(l:List Int):Prop:=(l=[]/\v=.nilsl)\/∃b,v=.sl (.stat b) 1 (l.map (.int .i64))
theorem zaR.one{v l}(h:zaR v l):v.known=true/\v.one=true/\v.cells=[v]:=by
 rcases h with ⟨_,rfl⟩|⟨b,rfl⟩<;>simp
def zsN(R:Out->AS->Prop)(o:Out)(J':AS):Prop:=R o J'\/∃v g p,o=.ret v/\J'.F g=.alive/\R (.ret (frz g v)) (J'.frz g p)
theorem zrB{P:Program}{G:Env}{f:FuncId}{args:List AV}{J:AS}{R:Out->AS->Prop}(h:ACalls P G f args J (zsN R)):ACalls P G f args J R:=zyw h
theorem zsN.froze{R:Out->AS->Prop}{v:AV}{J':AS}(g:Nat)(p:Nat->Bool)(h:J'.F g=.alive)(h2:R (.ret (frz g v)) (J'.frz g p)):zsN R (.ret v) J':=.inr ⟨v,g,p,rfl,h,h2⟩
def zdN(v:AV)(tO:To):Prop:=(tO=[]/\v=.nilsl)\/zKF v tO
theorem zdN.one{v l}(h:zdN v l):v.known=true/\v.one=true/\v.cells=[v]:=by
 rcases h with ⟨_,rfl⟩|⟨b,_,rfl,_⟩<;>simp
def FV(v:AV)(f:F):Prop:=∃pv lv tv,v=.agg [.str f.name,pv,lv,.int .i64 f.type,tv]/\zaR pv f.params/\zaR lv f.locals/\zdN tv f.lists
def FsV(v:AV)(fs:List F):Prop:=(fs=[]/\v=.nilsl)\/∃b rows,v=.sl (.stat b) 5 rows/\All2 FV rows fs
def MV(v:AV)(m:M):Prop:=∃fv,v=.agg [fv,.int .i64 m.memory,.int .i64 m.main]/\FsV fv m.funcs
end Go.Proofs.YtohfclafhegadaaGreatDoor

namespace Go.Proofs.YtohfclafhegadaaGreatDoor
open Go Go.Abs
theorem FsV.one{v l}(h:FsV v l):v.known=true/\v.one=true/\v.cells=[v]:=by
 rcases h with ⟨_,rfl⟩|⟨b,_,rfl,_⟩<;>simp
def MU(r n:Nat)(a:Nat->AV)(_:AS):Nat:=match a r with|.int _ i=>n-i.toNat|_=>0
theorem zaR.len{tv:AV}{ts:List Int}(h:zaR tv ts)(K:AV->Prop):ziY yb9 44 tv K=K (.int .i64 (ts.length:Int)):=by
 rcases h with ⟨rfl,rfl⟩|⟨b,rfl⟩<;>simp
theorem FsV.len{fv:AV}{fs:List F}(h:FsV fv fs)(K:AV->Prop):ziY yb9 26 fv K=K (.int .i64 (fs.length:Int)):=by
 rcases h with ⟨rfl,rfl⟩|⟨b,rows,rfl,hr⟩
 .simp
 .simp[hr.length]
theorem zdN.len{tv:AV}{ls:To}(h:zdN tv ls)(K:AV->Prop):ziY yb9 55 tv K=K (.int .i64 (ls.length:Int)):=by
 rcases h with ⟨rfl,rfl⟩|⟨b,rows,rfl,hr⟩
 .simp
 .simp[hr.length]
theorem zsM.len{v:AV}{l:List W}(h:zsM v l)(K:AV->Prop):ziY yb9 54 v K=K (.int .i64 (l.length:Int)):=by
 rcases h with ⟨rfl,rfl⟩|⟨b,rfl⟩<;>simp
theorem zsM.one{v l}(h:zsM v l):v.known=true/\v.one=true/\v.cells=[v]:=by
 rcases h with ⟨_,rfl⟩|⟨b,rfl⟩<;>simp
theorem zsM.at{v:AV}{l:List W}(h:zsM v l){i:Nat}(hi:i<l.length):∃b,∀K:AV->Prop,zE yb9 54 v (.int .i64 (i:Int)) K=K (.pv (.stat b) l[i].av):=by
 rcases h with ⟨rfl,_⟩|⟨b,rfl⟩
 .simp at hi
 .exact⟨b,λK=>by simp[hi]⟩
theorem zaR.at{v:AV}{l:List Int}(h:zaR v l){i:Nat}(hi:i<l.length):∃b,∀K:AV->Prop,zE yb9 44 v (.int .i64 (i:Int)) K=K (.pv (.stat b) (.int .i64 l[i])):=by
 rcases h with ⟨rfl,_⟩|⟨b,rfl⟩
 .simp at hi
 .exact⟨b,λK=>by simp[hi]⟩
theorem zdN.at{v:AV}{l:To}(h:zdN v l){i:Nat}(hi:i<l.length):∃b rv,zsM rv l[i]/\∀K:AV->Prop,zE yb9 55 v (.int .i64 (i:Int)) K=K (.pv (.stat b) rv):=by
 rcases h with ⟨rfl,_⟩|⟨b,rows,rfl,hr⟩
 .simp at hi
 .obtain⟨rv,h1,h2⟩:=hr.get (yau hi)
  exact⟨b,rv,h2,λK=>by simp[h1]⟩
theorem FsV.at{v:AV}{l:List F}(h:FsV v l){i:Nat}(hi:i<l.length):∃b fv,FV fv l[i]/\∀K:AV->Prop,zE yb9 26 v (.int .i64 (i:Int)) K=K (.pv (.stat b) fv):=by
 rcases h with ⟨rfl,_⟩|⟨b,rows,rfl,hr⟩
 .simp at hi
 .obtain⟨fv,h1,h2⟩:=hr.get (yau hi)
  exact⟨b,fv,h2,λK=>by simp[h1]⟩
def zJh(Z:AS)(base sz:Nat)(v:AV)(ys:List AV):Prop:=(ys=[]/\v=.nilsl)\/∃g,v=.sl (.fam g false) sz ys/\base<=g/\g<Z.nf/\Z.F g=.alive
theorem zJh.keep{Z Z':AS}{base sz:Nat}{v:AV}{ys:List AV}(h:zJh Z base sz v ys)(A:zd Z Z'):zJh Z' base sz v ys:=by
 rcases h with h|⟨g,rfl,h1,h2,h3⟩
 .exact .inl h
 .have:=A.nf
  exact .inr ⟨g,rfl,h1,by omega,(A.fam g h2).trans h3⟩
theorem zbu{α:Type}{l:List α}{i:Nat}{x:α}(h:l[i]?=some x):l.take (i+1)=l.take i++[x]:=by
 obtain⟨hi,rfl⟩:=yaq.1 h
 exact ycX hi
theorem zd.mk1{J:AS}{c1 c2}:zd J ((J.newO c1).setO J.no c2):=((zd.refl J).newO).setO (yah _)
def SlW(J:AS)(v:AV)(l:List W):Prop:=(l=[]/\v=.nilsl)\/∃φ,v=.sl φ 6 (l.map W.av)/\zo J.F φ
theorem zMc(w u:W):aeq yb9 53 (.agg [.int .i64 w.op,.int .i64 w.ty,.int .i64 w.n,.int .i64 w.body,.int .i64 w.other,.str w.name]) (.agg [.int .i64 u.op,.int .i64 u.ty,.int .i64 u.n,.int .i64 u.body,.int .i64 u.other,.str u.name])=some (decide (w=u)):=by
 simp[aeq,zsp]
 have key:(w=u)↔(w.op=u.op/\w.ty=u.ty/\w.n=u.n/\w.body=u.body/\w.other=u.other/\w.name=u.name):=by
  constructor
  .rintro rfl;simp
  .rintro ⟨h1,h2,h3,h4,h5,h6⟩
   cases w;cases u;simp_all
 by_cases h1:w.op=u.op<;>by_cases h2:w.ty=u.ty<;>by_cases h3:w.n=u.n<;>by_cases h4:w.body=u.body<;>by_cases h5:w.other=u.other<;>by_cases h6:w.name=u.name<;>simp[key,h1,h2,h3,h4,h5,h6]
def SI(va vb:AV)(a b:List W)(J:AS)(f:Nat->AV)(Z:AS):Prop:=∃i:Nat,i<=a.length/\f 0=va/\f 1=vb/\f 5=.int .i64 (i:Int)/\a.take i=b.take i/\Z=J
def SM(a:List W)(f:Nat->AV)(_:AS):Nat:=match f 5 with
 | .int _ n=>a.length-n.toNat
 | _=>0
theorem zsO{G:Env}{va vb:AV}{a b:List W}{J:AS}{R:Out->AS->Prop}(ha:SlW J va a)(hb:SlW J vb b)(hl:a.length<=2^30)(h:R (.ret (.bool (decide (a=b)))) J):zzQ G 216 [va,vb] J R:=by
 refine zx1 rfl ?_
 by_cases hab:a.length=b.length
 .have loop:∀f,f 0=va->f 1=vb->f 5=.int .i64 0->zj5 yb9 G 27 zeD (zai 0 (zab (avc yb9 G 27 zjr (zbE yb9 [.tmp 4] R)) (zbE yb9 [.tmp 4] R))) f J:=by
   intro f f0 f1 f5
   refine zS (SI va vb a b J) (SM a) ⟨0,ycW _,f0,f1,by simpa using f5,by simp,rfl⟩ λf Z ⟨i,hi,f0,f1,f5,ht,hZ⟩=>?_
   subst hZ
   have hmu:SM a f Z=a.length-i:=by simp[SM,f5]
   by_cases hlt:i<a.length
   .have hltb:i<b.length:=by omega
    obtain⟨φ,rfl,hφ⟩:∃φ,va=.sl φ 6 (a.map W.av)/\zo Z.F φ:=by
     rcases ha with ⟨rfl,_⟩|ha
     .simp at hlt
     .exact ha
    obtain⟨ψ,rfl,hψ⟩:∃φ,vb=.sl φ 6 (b.map W.av)/\zo Z.F φ:=by
     rcases hb with ⟨rfl,_⟩|hb
     .simp at hltb
     .exact hb
    have hw2:yb4 .i64 ((i:Int)+1)=(i:Int)+1:=by rw[zb]<;>omega
    have ea:a.take (i+1)=a.take i++[a[i]]:=by simp
    have eb:b.take (i+1)=b.take i++[b[i]]:=by simp
    by_cases hw:a[i]=b[i]
    .simp[zeD,f0,f1,f5,hlt,hltb,W.av,W.cs,hφ,hψ,zMc,hw,hw2]
     refine⟨⟨i+1,hlt,by simp[f0,W.av,W.cs],by simp[f1,W.av,W.cs],by simp,by rw[ea,eb,ht,hw],rfl⟩,?_⟩
     rw[hmu]
     have:((i:Int)+1).toNat=i+1:=by omega
     simp[SM,this];omega
    .have hne:¬a=b:=λe=>hw (by subst e;rfl)
     simp[hne]at h
     simp[zeD,f0,f1,f5,hlt,hltb,W.av,W.cs,hφ,hψ,zMc,hw,hw2,h]
   .have he:i=a.length:=by omega
    subst he
    have e:a=b:=by rw[ycY,hab,ycY]at ht;exact ht
    have hla:a.length=b.length:=hab
    simp[e]at h
    rcases ha with ⟨rfl,rfl⟩|⟨φ,rfl,hφ⟩
    .simp[zeD,zjr,f0,f1,f5,h]
    .simp[zeD,zjr,f0,f1,f5,h]
  rcases ha with ⟨rfl,rfl⟩|⟨φ,rfl,hφ⟩<;>rcases hb with ⟨rfl,rfl⟩|⟨ψ,rfl,hψ⟩
  .simp[zoo]
   refine loop _ ?_ ?_ ?_<;>simp
  .simp at hab
   simp[zoo,<-hab]
   refine loop _ ?_ ?_ ?_<;>simp
  .simp at hab
   subst hab
   simp[zoo]
   refine loop _ ?_ ?_ ?_<;>simp
  .simp[zoo,hab]
   refine loop _ ?_ ?_ ?_<;>simp
 .have hne:¬a=b:=λe=>hab (by rw[e])
  have hi:¬(a.length:Int)=b.length:=by omega
  simp[hne]at h
  rcases ha with ⟨rfl,rfl⟩|⟨φ,rfl,hφ⟩<;>rcases hb with ⟨rfl,rfl⟩|⟨ψ,rfl,hψ⟩
  .simp at hab
  .simp at hab
   have hi':¬(0:Int)=b.length:=by simpa using hi
   simp[zoo,hi',h]
  .simp at hab
   have hi':¬(a.length:Int)=0:=by simpa using hi
   simp[zoo,hab,h]
  .simp[zoo,hi,h]
end Go.Proofs.YtohfclafhegadaaGreatDoor
namespace Go.Proofs.YtohfclafhegadaaGreatDoor.Al
open Go Go.Abs Go.Proofs.YtohfclafhegadaaGreatDoor
def RepE(v:AV)(l:List W):Prop:=(l=[]/\v=.nilsl)\/∃b,v=.sl (.fam 0 b) 6 (l.map W.av)
end Go.Proofs.YtohfclafhegadaaGreatDoor.Al
namespace Go.Proofs.YtohfclafhegadaaGreatDoor.Al
open Go Go.Abs Go.Proofs.YtohfclafhegadaaGreatDoor
theorem mrg_W(f:Nat)(w:W):mrg f w.av=w.av:=by simp[W.av,W.cs]
theorem zHi(f:Nat)(l:List W):(l.map W.av).map (mrg f)=l.map W.av:=by simp[Function.comp_def,mrg_W]
theorem RepE.mrg{v l}(h:RepE v l){f:Nat}:mrg f v=v:=by
 rcases h with ⟨_,rfl⟩|⟨b,rfl⟩
 .simp
 .rw[zd6,zHi];split<;>rfl
theorem mrg_rows{tos tO}(h:All2 RepE tos tO)(f:Nat):tos.map (mrg f)=tos:=by
 induction h with
 | nil=>rfl
 | cons h r ih=>simp[h.mrg,ih]
end Go.Proofs.YtohfclafhegadaaGreatDoor.Al

namespace Go.Proofs.YtohfclafhegadaaGreatDoor.Al
open Go Go.Abs Go.Proofs.YtohfclafhegadaaGreatDoor
def IntsE(v:AV)(l:List Int):Prop:=(l=[]/\(v=.nilsl\/∃b,v=.sl (.stat b) 1 []))\/∃b,v=.sl (.fam 0 b) 1 (l.map (.int .i64))
theorem IntsE.one{v l}(h:IntsE v l):v.known=true/\v.one=true/\v.cells=[v]:=by
 rcases h with ⟨_,rfl|⟨b,rfl⟩⟩|⟨b,rfl⟩<;>simp
def MrgOr(R:Out->AS->Prop)(o:Out)(J':AS):Prop:=R o J'\/∃v g p,o=.ret v/\0<J'.nf/\J'.F g=.alive/\R (.ret (mrg g v)) (J'.mrg g p)
theorem merging{P:Program}{G:Env}{f:FuncId}{args:List AV}{J:AS}{R:Out->AS->Prop}(h:ACalls P G f args J (MrgOr R)):ACalls P G f args J R:=zCq h
theorem MrgOr.merged{R:Out->AS->Prop}{v:AV}{J':AS}(g:Nat)(p:Nat->Bool)(hn:0<J'.nf)(h:J'.F g=.alive)(h2:R (.ret (mrg g v)) (J'.mrg g p)):MrgOr R (.ret v) J':=.inr ⟨v,g,p,rfl,hn,h,h2⟩
def LstE(g:Nat)(v:AV)(tO:To):Prop:=(tO=[]/\v=.nilsl)\/∃tos,v=.sl (.fam g false) 1 tos/\All2 RepE tos tO
def FVE(v:AV)(p:F × Nat):Prop:=∃pv lv tv,v=.agg [.str p.1.name,pv,lv,.int .i64 p.1.type,tv]/\IntsE pv p.1.params/\IntsE lv p.1.locals/\LstE p.2 tv p.1.lists
structure Gs(Z:AS)(base:Nat)(g:Nat)(gs:List Nat):Prop where
 nd:gs.Nodup
 each:∀x∈gs,base<=x/\x<Z.nf/\Z.F x=.alive/\x≠g
def OutE(Z:AS)(base:Nat)(v:AV)(l:List F):Prop :=
 (l=[]/\v=.nilsl)\/∃g rows ps,v=.sl (.fam g false) 5 rows/\base<=g/\g<Z.nf/\Z.F g=.alive/\ps.map Prod.fst=l/\All2 FVE rows ps/\Gs Z base g (ps.map Prod.snd)
end Go.Proofs.YtohfclafhegadaaGreatDoor.Al
namespace Go.Proofs.YtohfclafhegadaaGreatDoor.Al
open Go Go.Abs Go.Proofs.YtohfclafhegadaaGreatDoor
def ME(Z:AS)(base:Nat)(v:AV)(m:M):Prop:=∃fv,v=.agg [fv,.int .i64 m.memory,.int .i64 m.main]/\OutE Z base fv m.funcs
end Go.Proofs.YtohfclafhegadaaGreatDoor.Al


namespace Go.Proofs.YtohfclafhegadaaGreatDoor.Al
open Go Go.Abs Go.Proofs.YtohfclafhegadaaGreatDoor
def Rd(J:AS):Go.Abs.Own->Prop
 | .stat _=>True
 | .fam f _=>f<J.nf/\J.F f=.alive
theorem Rd.read{J φ}(h:Rd J φ):zo J.F φ:=by
 cases φ with
 | stat b=>exact trivial
 | fam f b=>exact h.2
theorem Rd.keep{J J' φ}(h:Rd J φ)(A:zd J J'):Rd J' φ:=by
 cases φ with
 | stat b=>exact trivial
 | fam f b=>exact⟨by have:=A.nf;have:=h.1;omega,(A.fam f h.1).trans h.2⟩
def IntsO(J:AS)(v:AV)(l:List Int):Prop:=(l=[]/\v=.nilsl)\/∃φ,v=.sl φ 1 (l.map (.int .i64))/\Rd J φ
def RepO(J:AS)(v:AV)(l:List W):Prop:=(l=[]/\v=.nilsl)\/∃φ,v=.sl φ 6 (l.map W.av)/\Rd J φ
def LstO(J:AS)(v:AV)(l:To):Prop:=(l=[]/\v=.nilsl)\/∃φ rows,v=.sl φ 1 rows/\Rd J φ/\All2 (RepO J) rows l
def FVO(J:AS)(v:AV)(f:F):Prop:=∃pv lv tv,v=.agg [.str f.name,pv,lv,.int .i64 f.type,tv]/\IntsO J pv f.params/\IntsO J lv f.locals/\LstO J tv f.lists
def FsO(J:AS)(v:AV)(l:List F):Prop:=(l=[]/\v=.nilsl)\/∃φ rows,v=.sl φ 5 rows/\Rd J φ/\All2 (FVO J) rows l
def MO(J:AS)(v:AV)(m:M):Prop:=∃fv,v=.agg [fv,.int .i64 m.memory,.int .i64 m.main]/\FsO J fv m.funcs
theorem IntsO.one{J v l}(h:IntsO J v l):v.known=true/\v.one=true/\v.cells=[v]:=by rcases h with ⟨_,rfl⟩|⟨b,rfl,_⟩<;>simp
theorem RepO.one{J v l}(h:RepO J v l):v.known=true/\v.one=true/\v.cells=[v]:=by rcases h with ⟨_,rfl⟩|⟨b,rfl,_⟩<;>simp
theorem LstO.one{J v l}(h:LstO J v l):v.known=true/\v.one=true/\v.cells=[v]:=by rcases h with ⟨_,rfl⟩|⟨b,_,rfl,_⟩<;>simp
theorem FsO.one{J v l}(h:FsO J v l):v.known=true/\v.one=true/\v.cells=[v]:=by rcases h with ⟨_,rfl⟩|⟨b,_,rfl,_⟩<;>simp
theorem IntsO.keep{J J' v l}(h:IntsO J v l)(A:zd J J'):IntsO J' v l:=by
 rcases h with h|⟨φ,h,r⟩
 .exact .inl h
 .exact .inr ⟨φ,h,r.keep A⟩
theorem RepO.keep{J J' v l}(h:RepO J v l)(A:zd J J'):RepO J' v l:=by
 rcases h with h|⟨φ,h,r⟩
 .exact .inl h
 .exact .inr ⟨φ,h,r.keep A⟩
theorem all2_mono{α β:Type}{R S:α->β->Prop}{xs ys}(h:All2 R xs ys)(hs:∀x y,R x y->S x y):All2 S xs ys:=by
 induction h with
 | nil=>exact .nil
 | cons h r ih=>exact .cons (hs _ _ h) ih
theorem LstO.keep{J J' v l}(h:LstO J v l)(A:zd J J'):LstO J' v l:=by
 rcases h with h|⟨φ,rows,h,r,k⟩
 .exact .inl h
 .exact .inr ⟨φ,rows,h,r.keep A,all2_mono k λ_ _ q=>q.keep A⟩
theorem FVO.keep{J J' v l}(h:FVO J v l)(A:zd J J'):FVO J' v l:=by
 obtain⟨pv,lv,tv,h,a,b,c⟩:=h
 exact⟨pv,lv,tv,h,a.keep A,b.keep A,c.keep A⟩
theorem FsO.keep{J J' v l}(h:FsO J v l)(A:zd J J'):FsO J' v l:=by
 rcases h with h|⟨φ,rows,h,r,k⟩
 .exact .inl h
 .exact .inr ⟨φ,rows,h,r.keep A,all2_mono k λ_ _ q=>q.keep A⟩
theorem MO.keep{J J' v m}(h:MO J v m)(A:zd J J'):MO J' v m:=by
 obtain⟨fv,h,k⟩:=h
 exact⟨fv,h,k.keep A⟩
theorem IntsO.len{J v l}(h:IntsO J v l)(K:AV->Prop):ziY yb9 44 v K=K (.int .i64 (l.length:Int)):=by rcases h with ⟨rfl,rfl⟩|⟨b,rfl,_⟩<;>simp
theorem LstO.len{J v l}(h:LstO J v l)(K:AV->Prop):ziY yb9 55 v K=K (.int .i64 (l.length:Int)):=by
 rcases h with ⟨rfl,rfl⟩|⟨b,rows,rfl,_,hr⟩
 .simp
 .simp[hr.length]
theorem FsO.len{J v l}(h:FsO J v l)(K:AV->Prop):ziY yb9 26 v K=K (.int .i64 (l.length:Int)):=by
 rcases h with ⟨rfl,rfl⟩|⟨b,rows,rfl,_,hr⟩
 .simp
 .simp[hr.length]
theorem IntsO.at{J v l}(h:IntsO J v l){i:Nat}(hi:i<l.length):∃φ,Rd J φ/\∀K:AV->Prop,zE yb9 44 v (.int .i64 (i:Int)) K=K (.pv φ (.int .i64 l[i])):=by
 rcases h with ⟨rfl,_⟩|⟨φ,rfl,r⟩
 .simp at hi
 .exact⟨φ,r,λK=>by simp[hi]⟩
theorem LstO.at{J v l}(h:LstO J v l){i:Nat}(hi:i<l.length):∃φ rv,Rd J φ/\RepO J rv l[i]/\∀K:AV->Prop,zE yb9 55 v (.int .i64 (i:Int)) K=K (.pv φ rv):=by
 rcases h with ⟨rfl,_⟩|⟨φ,rows,rfl,r,hr⟩
 .simp at hi
 .obtain⟨rv,h1,h2⟩:=hr.get (yau hi)
  exact⟨φ,rv,r,h2,λK=>by simp[h1]⟩
theorem FsO.at{J v l}(h:FsO J v l){i:Nat}(hi:i<l.length):∃φ rv,Rd J φ/\FVO J rv l[i]/\∀K:AV->Prop,zE yb9 26 v (.int .i64 (i:Int)) K=K (.pv φ rv):=by
 rcases h with ⟨rfl,_⟩|⟨φ,rows,rfl,r,hr⟩
 .simp at hi
 .obtain⟨rv,h1,h2⟩:=hr.get (yau hi)
  exact⟨φ,rv,r,h2,λK=>by simp[h1]⟩
def EI(va vb:AV)(n:Nat)(J:AS)(a:Nat->AV)(Z:AS):Prop:=∃i:Nat,i<=n/\a 0=va/\a 1=vb/\a 5=.int .i64 (i:Int)/\zd J Z
theorem ziK{G:Env}{J:AS}{R:Out->AS->Prop}{va vb:AV}{l:List Int}(ha:IntsO J va l)(hb:IntsO J vb l)(hl:l.length<=2^40)(h:∀J',zd J J'->R (.ret (.bool true)) J'):zzQ G 79 [va,vb] J R:=by
 refine zuA rfl ?_
 have hal:=ha.len
 have hbl:=hb.len
 simp[zJa,hal,hbl]
 refine zS (EI va vb l.length J) (MU 5 (l.length+1)) ⟨0,by omega,by simp,by simp,by simp,.refl _⟩ λa Z hI=>?_
 obtain⟨i,hi,a0,a1,a5,A⟩:=hI
 by_cases hlt:i<l.length
 .obtain⟨φ,r1,hx1⟩:=(ha.keep A).at hlt
  obtain⟨ψ,r2,hx2⟩:=(hb.keep A).at hlt
  have q1:=r1.read
  have q2:=r2.read
  have w5:yb4 .i64 ((i:Int)+1)=((i+1:Nat):Int):=by rw[zb]<;>omega
  simp[zgQ,a0,a1,a5,hal,hlt,hx1,hx2,w5,q1,q2]
  refine⟨⟨i+1,by omega,by simp[a0],by simp[a1],by simp,A⟩,?_⟩
  simp only[MU,a5];simp;omega
 .simp[zgQ,zp3,a0,a1,a5,hal,hlt]
  exact h _ A
theorem zne{G:Env}{J:AS}{R:Out->AS->Prop}{va vb:AV}{l:To}(ha:LstO J va l)(hb:LstO J vb l)(hl:l.length<=2^40)(hr:∀r∈l,r.length<=2^30)(h:∀J',zd J J'->R (.ret (.bool true)) J'):zzQ G 180 [va,vb] J R:=by
 refine zxQ rfl ?_
 have hal:=ha.len
 have hbl:=hb.len
 simp[zGS,hal,hbl]
 refine zS (EI va vb l.length J) (MU 5 (l.length+1)) ⟨0,by omega,by simp,by simp,by simp,.refl _⟩ λa Z hI=>?_
 obtain⟨i,hi,a0,a1,a5,A⟩:=hI
 by_cases hlt:i<l.length
 .obtain⟨φ,rv1,r1,e1,hx1⟩:=(ha.keep A).at hlt
  obtain⟨ψ,rv2,r2,e2,hx2⟩:=(hb.keep A).at hlt
  have q1:=r1.read
  have q2:=r2.read
  have o1:=e1.one
  have o2:=e2.one
  have hrl:=hr _ (yaw hlt)
  have w5:yb4 .i64 ((i:Int)+1)=((i+1:Nat):Int):=by rw[zb]<;>omega
  have sl:∀{v:AV} {r:List W},RepO Z v r->SlW Z v r:=λh=>by
   rcases h with ⟨h1,h2⟩|⟨φ,h1,h2⟩
   .exact .inl ⟨h1,h2⟩
   .exact .inr ⟨φ,h1,h2.read⟩
  simp[zjp,a0,a1,a5,hal,hlt,hx1,hx2,q1,q2,o1,o2]
  refine zsO (sl e1) (sl e2) hrl ?_
  simp[w5,a5]
  refine⟨⟨i+1,by omega,by simp[a0],by simp[a1],by simp,A⟩,?_⟩
  simp only[MU,a5];simp;omega
 .simp[zjp,zrw,a0,a1,a5,hal,hlt]
  exact h _ A
structure SzE(f:F):Prop where
 params:f.params.length<=2^40
 locals:f.locals.length<=2^40
 lists:f.lists.length<=2^40
 rows:∀r∈f.lists,r.length<=2^30
theorem zuG{G:Env}{J:AS}{R:Out->AS->Prop}{va vb:AV}{f:F}(ha:FVO J va f)(hb:FVO J vb f)(hs:SzE f)(h:∀J',zd J J'->R (.ret (.bool true)) J'):zzQ G 140 [va,vb] J R:=by
 refine zxy rfl ?_
 obtain⟨pa,la,ta,rfl,hpa,hla,hta⟩:=ha
 obtain⟨pb,lb,tb,rfl,hpb,hlb,htb⟩:=hb
 have a1:=hpa.one
 have a2:=hla.one
 have a3:=hta.one
 have b1:=hpb.one
 have b2:=hlb.one
 have b3:=htb.one
 simp[zGG,a1,a2,a3,b1,b2,b3]
 have A1:zd J ((J.newO [ycZ f.name,pa,la,yc0 yam f.type,ta]).newO [ycZ f.name,pb,lb,yc0 yam f.type,tb]):=(zd.refl J).newO.newO
 have oa:((J.newO [ycZ f.name,pa,la,yc0 yam f.type,ta]).newO [ycZ f.name,pb,lb,yc0 yam f.type,tb]).objs J.no=some [ycZ f.name,pa,la,yc0 yam f.type,ta]:=by simp
 have ob:((J.newO [ycZ f.name,pa,la,yc0 yam f.type,ta]).newO [ycZ f.name,pb,lb,yc0 yam f.type,tb]).objs (J.no+1)=some [ycZ f.name,pb,lb,yc0 yam f.type,tb]:=by simp
 have n1:((J.newO [ycZ f.name,pa,la,yc0 yam f.type,ta]).newO [ycZ f.name,pb,lb,yc0 yam f.type,tb]).no=J.no+2:=by simp
 generalize (J.newO [ycZ f.name,pa,la,yc0 yam f.type,ta]).newO [ycZ f.name,pb,lb,yc0 yam f.type,tb]=J1 at *
 refine ziK (hpa.keep A1) (hpb.keep A1) hs.params λJ2 A2=>?_
 have oa2:=(A2.obj _ (by omega)).trans oa
 have ob2:=(A2.obj _ (by omega)).trans ob
 have n2:=A2.no
 have B2:=A1.trans A2
 simp[oa2,ob2,a1,a2,a3,b1,b2,b3]
 refine ziK (hla.keep B2) (hlb.keep B2) hs.locals λJ3 A3=>?_
 have oa3:=(A3.obj _ (by omega)).trans oa2
 have ob3:=(A3.obj _ (by omega)).trans ob2
 have B3:=B2.trans A3
 simp[oa3,ob3,a1,a2,a3,b1,b2,b3]
 refine zne (hta.keep B3) (htb.keep B3) hs.lists hs.rows λJ4 A4=>?_
 simp
 exact h _ (B3.trans A4)
theorem zsP{G:Env}{J:AS}{R:Out->AS->Prop}{va vb:AV}{l:List F}(ha:FsO J va l)(hb:FsO J vb l)(hl:l.length<=2^40)(hs:∀f∈l,SzE f)(h:∀J',zd J J'->R (.ret (.bool true)) J'):zzQ G 74 [va,vb] J R:=by
 refine zC6 rfl ?_
 have hal:=ha.len
 have hbl:=hb.len
 simp[zLW,hal,hbl]
 refine zS (EI va vb l.length J) (MU 5 (l.length+1)) ⟨0,by omega,by simp,by simp,by simp,.refl _⟩ λa Z hI=>?_
 obtain⟨i,hi,a0,a1,a5,A⟩:=hI
 by_cases hlt:i<l.length
 .obtain⟨φ,rv1,r1,e1,hx1⟩:=(ha.keep A).at hlt
  obtain⟨ψ,rv2,r2,e2,hx2⟩:=(hb.keep A).at hlt
  have q1:=r1.read
  have q2:=r2.read
  have hsz:=hs _ (yaw hlt)
  generalize l[i]=f at *
  have w5:yb4 .i64 ((i:Int)+1)=((i+1:Nat):Int):=by rw[zb]<;>omega
  have f1:=e1
  have f2:=e2
  obtain⟨pa,la,ta,rfl,hpa,hla,hta⟩:=e1
  obtain⟨pb,lb,tb,rfl,hpb,hlb,htb⟩:=e2
  have o1:=hpa.one
  have o2:=hla.one
  have o3:=hta.one
  have o4:=hpb.one
  have o5:=hlb.one
  have o6:=htb.one
  simp[zm3,a0,a1,a5,hal,hlt,hx1,hx2,q1,q2,o1,o2,o3,o4,o5,o6]
  refine zuG f1 f2 hsz λJ2 A2=>?_
  simp[w5,a5]
  refine⟨⟨i+1,by omega,by simp[a0],by simp[a1],by simp,A.trans A2⟩,?_⟩
  simp only[MU,a5];simp;omega
 .simp[zm3,zuz,a0,a1,a5,hal,hlt]
  exact h _ A
theorem eqM_calls{G:Env}{J:AS}{R:Out->AS->Prop}{va vb:AV}{m:M}(ha:MO J va m)(hb:MO J vb m)(hl:m.funcs.length<=2^40)(hs:∀f∈m.funcs,SzE f)(h:∀J',zd J J'->R (.ret (.bool true)) J'):zzQ G 22 [va,vb] J R:=by
 refine zCC rfl ?_
 obtain⟨fa,rfl,hfa⟩:=ha
 obtain⟨fb,rfl,hfb⟩:=hb
 have a1:=hfa.one
 have b1:=hfb.one
 simp[zLB,a1,b1]
 have A1:zd J ((J.newO [fa,yc0 yam m.memory,yc0 yam m.main]).newO [fb,yc0 yam m.memory,yc0 yam m.main]):=(zd.refl J).newO.newO
 refine zsP (hfa.keep A1) (hfb.keep A1) hl hs λJ2 A2=>?_
 simp
 exact h _ (A1.trans A2)
theorem zKG{J:AS}{v l}(h:zsM v l):RepO J v l:=by
 rcases h with h|⟨b,h⟩
 .exact .inl h
 .exact .inr ⟨_,h,trivial⟩
theorem zBh{J:AS}{v l}(h:zaR v l):IntsO J v l:=by
 rcases h with h|⟨b,h⟩
 .exact .inl h
 .exact .inr ⟨_,h,trivial⟩
theorem zDx{J:AS}{v l}(h:zdN v l):LstO J v l:=by
 rcases h with h|⟨b,rows,h,k⟩
 .exact .inl h
 .exact .inr ⟨_,rows,h,trivial,all2_mono k λ_ _ q=>zKG q⟩
theorem m_o{J:AS}{v m}(h:MV v m):MO J v m:=by
 obtain⟨fv,rfl,hf⟩:=h
 refine⟨fv,rfl,?_⟩
 rcases hf with h|⟨b,rows,h,k⟩
 .exact .inl h
 .refine .inr ⟨_,rows,h,trivial,all2_mono k λ_ _ q=>?_⟩
  obtain⟨pv,lv,tv,h,a,b,c⟩:=q
  exact⟨pv,lv,tv,h,zBh a,zBh b,zDx c⟩
end Go.Proofs.YtohfclafhegadaaGreatDoor.Al
namespace Go.Proofs.YtohfclafhegadaaGreatDoor.Al
open Go Go.Abs Go.Proofs.YtohfclafhegadaaGreatDoor
theorem zKH{J:AS}(h0:0<J.nf/\J.F 0=.alive){v l}(h:RepE v l):RepO J v l:=by
 rcases h with h|⟨b,h⟩
 .exact .inl h
 .exact .inr ⟨_,h,h0⟩
theorem ints_e{J:AS}(h0:0<J.nf/\J.F 0=.alive){v l}(h:IntsE v l):IntsO J v l:=by
 rcases h with ⟨rfl,h|⟨b,h⟩⟩|⟨b,h⟩
 .exact .inl ⟨rfl,h⟩
 .exact .inr ⟨_,h,trivial⟩
 .exact .inr ⟨_,h,h0⟩
theorem zyx{R:AV->F × Nat->Prop}{S:AV->F->Prop}{rows:List AV}{ps:List (F × Nat)}(h:All2 R rows ps)(hs:∀v p,p∈ps->R v p->S v p.1):All2 S rows (ps.map Prod.fst):=by
 induction h with
 | nil=>exact .nil
 | cons h r ih=>exact .cons (hs _ _ (by simp) h) (ih λv p hp=>hs v p (by simp[hp]))
theorem m_e{J:AS}{base:Nat}(h0:0<J.nf/\J.F 0=.alive){v m}(h:ME J base v m):MO J v m:=by
 obtain⟨fv,rfl,hf⟩:=h
 refine⟨fv,rfl,?_⟩
 rcases hf with h|⟨g,rows,ps,rfl,q1,q2,q3,q4,q5,q6⟩
 .exact .inl h
 .refine .inr ⟨_,rows,rfl,⟨q2,q3⟩,?_⟩
  rw[<-q4]
  refine zyx q5 λv p hp ⟨pv,lv,tv,e,a,b,c⟩=>⟨pv,lv,tv,e,ints_e h0 a,ints_e h0 b,?_⟩
  obtain⟨u1,u2,u3,u4⟩:=q6.each p.2 (List.mem_map_of_mem hp)
  rcases c with c|⟨tos,rfl,c⟩
  .exact .inl c
  .exact .inr ⟨_,tos,rfl,⟨u2,u3⟩,all2_mono c λ_ _ q=>zKH h0 q⟩
end Go.Proofs.YtohfclafhegadaaGreatDoor.Al
namespace Go.Proofs.YtohfclafhegadaaGreatDoor
open Go Go.Abs
def okT(t:List UInt8):Bool:=match t with
 | []=>true
 | c::r=>zdi c&&r.all λx=>zdi x||zfz x
theorem zDy(t:List UInt8):ztH 24 t=(decide (1<=t.length/\t.length<=24)&&okT t):=by
 cases t with
 | nil=>rfl
 | cons c r =>
  have:(1<=(c::r).length)=True:=by simp
  simp only[ztH,okT,this,true_and]
theorem zyy(d:List UInt8)(c:UInt8):okT (d++[c])=(okT d&&(if d=[]then zdi c else zdi c||zfz c)):=by
 cases d with
 | nil=>simp[okT]
 | cons x r=>simp[okT,Bool.and_assoc]
theorem zDz(d r:List UInt8)(h:okT d=false):okT (d++r)=false:=by
 cases d with
 | nil=>cases h
 | cons x y =>
  simp only[okT,yc1,List.all_append]at *
  cases h1:zdi x with
  | false=>simp
  | true=>simp[h1]at h;simp;intro a;exact absurd a (by simpa using h)
section
variable {G : Env} {J : AS} {R : Out -> AS -> Prop}
def TgI(t:List UInt8)(J:AS)(a:Nat->AV)(Z:AS):Prop:=∃(d r:List UInt8),t=d++r/\okT d=true/\a 0=.str t/\a 3=.int .i64 (d.length:Int)/\Z=J
theorem zHj{t:List UInt8}(hl:t.length<2^40)(h:R (.ret (.bool (ztH 24 t))) J):zzQ G 51 [.str t] J R:=by
 refine zCY rfl ?_
 rw[zDy]at h
 simp[zLQ]
 refine zS (TgI t J) (MU 3 (t.length+1)) ⟨[],t,rfl,rfl,by simp,by simp,rfl⟩ λa Z hI=>?_
 obtain⟨d,r,hdr,hok,a0,a3,rfl⟩:=hI
 cases r with
 | nil =>
  have e:t=d:=by simpa using hdr
  have e2:d.length=t.length:=by rw[e]
  rw[e2]at a3
  rw[e,hok]at h
  rw[<-e]at h
  by_cases h1:1<=t.length
  .have h1i:(1:Int)<=(t.length:Int):=by omega
   by_cases h2:t.length<=24
   .have h2i:(t.length:Int)<=24:=by omega
    simp[zcI,zm0,a0,a3,h1,h1i,h2,h2i]
    simpa [h1,h2]using h
   .have h2i:¬(t.length:Int)<=24:=by omega
    simp[zcI,zm0,a0,a3,h1,h1i,h2,h2i]
    simpa [h1,h2]using h
  .have h1i:¬(1:Int)<=(t.length:Int):=by omega
   simp[zcI,zm0,a0,a3,h1,h1i]
   simpa [h1]using h
 | cons c r =>
  have hlt:d.length<t.length:=by simp[hdr]
  have hlti:(d.length:Int)<(t.length:Int):=by omega
  have hi:t[d.length]'hlt=c:=by simp[hdr]
  have w1:yb4 .i64 ((d.length:Int)+1)=((d.length+1:Nat):Int):=by rw[zb]<;>omega
  have e1:t=(d++[c])++r:=by simp[hdr]
  have bad:okT (d++[c])=false->R (.ret (.bool false)) Z:=λq=>by
   have:okT t=false:=by rw[e1];exact zDz _ _ q
   rw[this]at h
   simpa using h
  have good:∀a':Nat->AV,okT (d++[c])=true->a' 0=.str t->a' 3=.int .i64 ((d.length+1:Nat):Int)->TgI t Z a' Z/\MU 3 (t.length+1) a' Z<MU 3 (t.length+1) a Z:=λa' q q0 q3=>by
   refine⟨⟨d++[c],r,e1,q,q0,by simpa using q3,rfl⟩,?_⟩
   simp[MU,a3,q3];omega
  rw[zyy,hok,Bool.true_and]at bad good
  have hc255:=c.toNat_lt
  by_cases hL:97<=c.toNat/\c.toNat<=122
  .have l1:(97:Int)<=(c.toNat:Int):=by omega
   have l2:(c.toNat:Int)<=122:=by omega
   have hl:zdi c=true:=by simp[zdi,hL]
   simp[zcI,a0,a3,hlt,hlti,hi,hL,l1,l2,w1]
   refine good _ ?_ ?_ ?_
   .rw[hl];split<;>rfl
   .simp[a0]
   .simp
  .by_cases h95:c=95
   .subst h95
    simp[zcI,a0,a3,hlt,hlti,hi,w1]
    refine good _ ?_ ?_ ?_
    .have:zdi 95=true:=by decide
     rw[this];split<;>rfl
    .simp[a0]
    .simp
   .have h95i:¬(c.toNat:Int)=95:=λe=>h95 (UInt8.toNat_inj.1 (show c.toNat=(95:UInt8).toNat by have:(95:UInt8).toNat=95:=rfl;omega))
    have h95n:¬c.toNat=95:=by omega
    have hl:zdi c=false:=by
     simp only[zdi,Bool.or_eq_false_iff,beq_eq_false_iff_ne,ne_eq,h95,not_false_iff,and_true]
     by_cases q:97<=c.toNat
     .have:¬c.toNat<=122:=λq2=>hL ⟨q,q2⟩
      simp[this]
     .simp[q]
    have pre:∀b97:Bool,decide ((97:Int)<=(c.toNat:Int))=b97->(b97=true->¬(c.toNat:Int)<=122):=λb e q=>by
     subst q
     have:=of_decide_eq_true e
     omega
    by_cases h97:(97:Int)<=(c.toNat:Int)
    .have h122:¬(c.toNat:Int)<=122:=by omega
     have h97n:97<=c.toNat:=by omega
     have h122n:¬c.toNat<=122:=by omega
     have hdg:zfz c=false:=by simp[zfz];omega
     by_cases hd0:d=[]
     .subst hd0
      simp at a3
      have hi0:t[0]'hlt=c:=hi
      have hlt0:0<t.length:=hlt
      have hlti0:(0:Int)<(t.length:Int):=by omega
      simp[zcI,a0,a3,hlt0,hlti0,hi0,h97,h122,h97n,h122n,h95i,h95n,h95,w1]
      exact bad (by simp[hl])
     .have hdi:¬(d.length:Int)=0:=by have:=ybm.2 hd0;omega
      have hdn:¬d.length=0:=by omega
      have h48:¬(c.toNat:Int)<48:=by omega
      have h48n:¬c.toNat<48:=by omega
      have h57:(57:Int)<(c.toNat:Int):=by omega
      have h57n:57<c.toNat:=by omega
      simp[zcI,a0,a3,hlt,hlti,hi,h97,h122,h97n,h122n,h95i,h95n,h95,w1,hdi,hdn,hd0,h48,h48n,h57,h57n]
      exact bad (by simp[hl,hd0,hdg])
    .have h97n:¬97<=c.toNat:=by omega
     by_cases hd0:d=[]
     .subst hd0
      simp at a3
      have hi0:t[0]'hlt=c:=hi
      have hlt0:0<t.length:=hlt
      have hlti0:(0:Int)<(t.length:Int):=by omega
      simp[zcI,a0,a3,hlt0,hlti0,hi0,h97,h97n,h95i,h95n,h95,w1]
      exact bad (by simp[hl])
     .have hdi:¬(d.length:Int)=0:=by have:=ybm.2 hd0;omega
      have hdn:¬d.length=0:=by omega
      by_cases h48:(c.toNat:Int)<48
      .have h48n:c.toNat<48:=by omega
       have hdg:zfz c=false:=by simp[zfz];omega
       simp[zcI,a0,a3,hlt,hlti,hi,h97,h97n,h95i,h95n,h95,w1,hdi,hdn,hd0,h48,h48n]
       exact bad (by simp[hl,hd0,hdg])
      .have h48n:¬c.toNat<48:=by omega
       by_cases h57:(57:Int)<(c.toNat:Int)
       .have h57n:57<c.toNat:=by omega
        have hdg:zfz c=false:=by simp[zfz];omega
        simp[zcI,a0,a3,hlt,hlti,hi,h97,h97n,h95i,h95n,h95,w1,hdi,hdn,hd0,h48,h48n,h57,h57n]
        exact bad (by simp[hl,hd0,hdg])
       .have h57n:¬57<c.toNat:=by omega
        have hdg:zfz c=true:=by simp[zfz];omega
        simp[zcI,a0,a3,hlt,hlti,hi,h97,h97n,h95i,h95n,h95,w1,hdi,hdn,hd0,h48,h48n,h57,h57n]
        refine good _ ?_ ?_ ?_
        .simp[hl,hd0,hdg]
        .simp[a0]
        .simp
end
def zd8:List AV:=(signs.map λp=>[ycZ p.1,ycZ p.2]).flatten
structure znH(G:Env):Prop where
 signs:G.g 10=.pv (.stat true) (.agg zd8)
 max:∃m,G.g 11=.pv (.stat true) (.int .i64 m)
theorem zcX{G:Env}{J:AS}{R:Out->AS->Prop}{t:Int}(h:R (.ret (.bool (zac t))) J):zzQ G 107 [.int .i64 t] J R:=by
 refine zxn rfl ?_
 unfold zac at h
 by_cases h1:t=1
 .simp[h1]at h
  simp[zxm,h1];exact h
 .by_cases h2:t=2
  .simp[h2]at h
   simp[zxm,h2];exact h
  .simp[h1,h2]at h
   simp[zxm,h1,h2];exact h
def zln(e:Int):AV:=.iface 71 (.agg [.int .i64 e])
theorem ze{G:Env}{J:AS}{R:Out->AS->Prop}{b:Bool}{e:Int}(h1:b=true->R (.ret (.tuple [])) J)(h2:b=false->R (.panic (zln e)) J):zzQ G 53 [.bool b,.int .i64 e] J R:=by
 refine zCZ rfl ?_
 cases b with
 | true=>simp[zKu,splice];exact h1 rfl
 | false=>simp[zKu,splice];exact h2 rfl
theorem zkm{G:Env}{J:AS}{R:Out->AS->Prop}{t n:Int}(h:R (.ret (.bool (zfy t n))) J):zzQ G 228 [.int .i64 t,.int .i64 n] J R:=by
 refine zyb rfl ?_
 unfold zfy at h
 by_cases h1:t=1
 .by_cases h2:n=1
  .simp[h1,h2]at h;simp[zp6,h1,h2];exact h
  .by_cases h4:n=4
   .simp[h1,h4]at h;simp[zp6,h1,h4];exact h
   .simp[h1,h2,h4]at h;simp[zp6,h1,h2,h4];exact h
 .by_cases h2:t=2
  .by_cases h8:n=8
   .simp[h2,h8]at h;simp[zp6,h2,h8];exact h
   .simp[h2,h8]at h;simp[zp6,h2,h8];exact h
  .simp[h1,h2]at h;simp[zp6,h1,h2];exact h
theorem zov(k:IntKind)(n:Int)(h:k=.i8\/k=.i32):yb4 .i64 (k.wrap n)=k.wrap n:=by
 have hb:-2147483648<=k.wrap n/\k.wrap n<=2147483647:=by
  rcases h with rfl|rfl<;>simp only[yb4,yao,yap]<;>simp<;>omega
 rw[zb]<;>omega
theorem zlS{G:Env}{J:AS}{R:Out->AS->Prop}{t v:Int}(h:R (.ret (.int .i64 (zyt t v))) J):zzQ G 220 [.int .i64 t,.int .i64 v] J R:=by
 refine zx6 rfl ?_
 unfold zyt at h
 by_cases h3:t=3
 .simp[h3]at h;simp[zuF,h3,zov];exact h
 .by_cases h1:t=1
  .simp[h1]at h;simp[zuF,h1,zov];exact h
  .by_cases h2:t=2
   .simp[h2]at h;simp[zuF,h2];exact h
   .simp[h1,h2,h3]at h;simp[zuF,h1,h2,h3];exact h
def GI(s:List UInt8)(J:AS)(a:Nat->AV)(Z:AS):Prop:=∃i:Nat,i<=16/\a 0=.str s/\a 5=.agg zd8/\a 6=.int .i64 (i:Int)/\zcs (signs.drop i) s=zcs signs s/\zd J Z
theorem zrC:∀(l:List (List UInt8 × List UInt8)) (i:Nat) (p:List UInt8 × List UInt8),l[i]?=some p->(((l.map λp=>[ycZ p.1,ycZ p.2]).flatten).drop (i*2)).take 2=[.str p.1,.str p.2]
 | [],i,p,h=>by simp at h
 | q::l,0,p,h=>by simp at h;subst h;rfl
 | q::l,i+1,p,h=>by
  have:=zrC l i p (by simpa using h)
  rw[show(i+1)*2=i*2+1+1 from by omega]
  simpa using this
theorem zyz(i:Nat)(h:i<16):∃p,signs[i]?=some p/\(zd8.drop (i*2)).take 2=[.str p.1,.str p.2] :=
 ⟨_,yau h,zrC signs i _ (yau h)⟩
theorem zlT{G:Env}(V:znH G){J:AS}{R:Out->AS->Prop}{s:List UInt8}(h:∀J',zd J J'->R (.ret (.str (zcs signs s))) J'):zzQ G 219 [.str s] J R:=by
 refine zx5 rfl ?_
 have hg:=V.signs
 have hl:zd8.length=32:=rfl
 simp[zGW,hg,hl]
 refine zS (GI s J) (MU 6 17) ⟨0,by omega,by simp,by simp,by simp,rfl,.refl _⟩ λa Z hI=>?_
 obtain⟨i,hi,a0,a5,a6,hs,A⟩:=hI
 by_cases hlt:i<16
 .obtain⟨p,hp,hc⟩:=zyz i hlt
  have hd:signs.drop i=p::signs.drop (i+1):=by
   obtain⟨hi',e⟩:=yaq.1 hp
   rw[yc2 hi',e]
  have hlt':(i:Int)<16:=by omega
  have hw3:yb4 .i64 ((i:Int)+1)=((i+1:Nat):Int):=by rw[zb]<;>omega
  have hle:i*2+2<=32:=by omega
  obtain⟨x,y⟩:=p
  rw[hd,zcs]at hs
  by_cases he:x=s
  .rw[if_pos he]at hs
   simp[zho,a0,a5,a6,hlt',hl,hle,zbi,hc,splice,he]
   rw[hs]
   exact h _ ((A.newO).setO (by have:=A.no;omega))
  .rw[if_neg he]at hs
   simp[zho,a0,a5,a6,hlt',hl,hle,zbi,hc,splice,he,hw3]
   refine⟨⟨i+1,by omega,by simp[a0],by simp[a5],by simp,hs,(A.newO).setO (by have:=A.no;omega)⟩,?_⟩
   simp[MU,a6];omega
 .have he:i=16:=by omega
  subst he
  have:zcs signs s=[]:=by rw[<-hs];rfl
  rw[this]at h
  simp[zho,zrz,a6]
  exact h _ A
@[simp] theorem grown_full_cons{KS:AV->AS->Prop}{J:AS}(el bs sz f s' xs y ys):zbT el bs sz (.sl (.fam f true) s' xs) (y::ys) J KS=(s'=sz/\(xs.length+(y::ys).length)*bs<=2^47/\J.F f=.alive/\KS (.sl (.fam J.nf false) sz (xs++y::ys)) J.newF):=by simp[zbT]
@[simp] theorem zDA{P:Program}{G:Env}{n:Nat}{pa pb:PC}{ps:List Nat}{f0:Nat}{a:Nat->AV}{l:Nat}{args:List AV}{J:AS}{K PK:AV->AS->Prop}:
  zn5 P (G.under P n pa pb ps f0 a l) (.fn (.yield l) [] []) args J K PK=(args.length=ps.length/\J.F f0=.alive/\avc P G n pa (zab (λa1 J1=>J1.F f0=.alive/\avc P G n pb (rq f0 K PK) a1 J1) λ_ _ _=>False) (upds a ps args) J):=by
 simp[zn5,Env.under,zA1]
@[simp] theorem zHk(f0:Nat)(K PK:AV->AS->Prop)(a:Nat->AV)(J:AS):rq f0 K PK .normal a J=(J.F f0=.alive/\K (.bool true) J):=Eq.trans rfl rfl
@[simp] theorem zJi(f0:Nat)(K PK:AV->AS->Prop)(v:AV)(a:Nat->AV)(J:AS):rq f0 K PK (.panic v) a J=(J.F f0=.alive/\PK v { J with F:=upd J.F f0 .dead }):=Eq.trans rfl rfl
def zcK(l:List Int):List AV:=l.map (.int .i64)
def SV(J:AS)(sv:AV)(st:List Int):Prop:=(st=[]/\sv=.nilsl)\/∃g b,sv=.sl (.fam g b) 1 (zcK st)/\g<J.nf/\J.F g=.alive
def zqc(J:AS)(x f:Nat):Prop:=∃cs v,J.objs x=some cs/\cs[1]?=some v/\zeG v=some f
structure zbP(x:Nat)(J J':AS):Prop where
 no:J.no<=J'.no
 nf:J.nf<=J'.nf
 obj:∀o,o<J.no->o≠x->J'.objs o=J.objs o
 fam:∀f,f<J.nf->¬zqc J x f->J'.F f=J.F f
 use:∀f,f<J.nf->zqc J' x f->zqc J x f
theorem zbP.refl(x J):zbP x J J:=⟨yah _,yah _,λ_ _ _=>rfl,λ_ _ _=>rfl,λ_ _ h=>h⟩
theorem zbP.trans{x J J1 J2}(h:zbP x J J1)(h':zbP x J1 J2):zbP x J J2 where
 no:=yai h.no h'.no
 nf:=yai h.nf h'.nf
 obj o a b:=by rw[h'.obj o (yag a h.no) b,h.obj o a b]
 fam f a b:=by rw[h'.fam f (yag a h.nf) λu=>b (h.use f a u),h.fam f a b]
 use f a u:=h.use f a (h'.use f (yag a h.nf) u)
theorem zd.keepL{x J J'}(h:zd J J')(hx:x<J.no):zbP x J J' where
 no:=h.no
 nf:=h.nf
 obj o a _:=h.obj o a
 fam f a _:=h.fam f a
 use f _ u:=by unfold zqc at *;rwa [h.obj x hx]at u
def LS(J:AS)(x c:Nat)(s:St)(deep:Int):Prop:=x<J.no/\∃sv,J.objs x=some [.ptr c 0,sv,.bool s.any,.int .i64 deep]/\SV J sv s.stack
theorem LS.adds{J J' x c s deep}(h:LS J x c s deep)(A:zd J J'):LS J' x c s deep:=by
 obtain⟨hx,sv,ho,hs⟩:=h
 refine⟨yag hx A.no,sv,(A.obj x hx).trans ho,?_⟩
 rcases hs with hs|⟨g,b,e,h1,h2⟩
 .exact .inl hs
 .exact .inr ⟨g,b,e,yag h1 A.nf,(A.fam g h1).trans h2⟩
def zwC(R:Out->AS->Prop)(x c:Nat)(deep:Int)(J:AS):Res St->Prop
 | .ok s'=>∀J',zbP x J J'->LS J' x c s' deep->R (.ret (.tuple [])) J'
 | .error e=>∀J',zbP x J J'->R (.panic (zln e)) J'
theorem zbP.set{x J cs}(hx:x<J.no)(h:∀f v,f<J.nf->cs[1]?=some v->zeG v=some f->zqc J x f):zbP x J (J.setO x cs) where
 no:=yah _
 nf:=yah _
 obj o _ ho:=by simp[ho]
 fam f _ _:=rfl
 use f hf u:=by
  obtain⟨cs',v,h1,h2,h3⟩:=u
  simp at h1
  subst h1
  exact h f v hf h2 h3
theorem zig{G:Env}{J:AS}{R:Out->AS->Prop}{x c:Nat}{s:St}{deep:Int}(L:LS J x c s deep)(hb:s.stack.length<=2^40)(h:zwC R x c deep J (ze1 s)):zzQ G 231 [.ptr x 0] J R:=by
 refine zye rfl ?_
 have L0:=L
 obtain⟨hx,sv,ho,hs⟩:=L
 unfold ze1 at h
 rcases hs with ⟨hnil,rfl⟩|⟨g,b,rfl,hg1,hg2⟩
 .have hl:s.stack.length=0:=by rw[hnil];rfl
  rw[if_pos hl]at h
  cases ha:s.any with
  | true =>
   rw[ha]at ho h
   rw[if_pos rfl]at h
   simp[zp8,ho]
   exact h J (.refl _ _) L0
  | false =>
   rw[ha]at ho h
   rw[if_neg (by simp)]at h
   simp[zp8,ho]
   refine ze (λq=>by simp at q) λ_=>?_
   exact h J (.refl _ _)
 .have hlA:(zcK s.stack).length=s.stack.length:=by simp[zcK]
  by_cases hl:s.stack.length=0
  .rw[if_pos hl]at h
   have hl2:zcK s.stack=[]:=ybS.1 (by omega)
   cases ha:s.any with
   | true =>
    rw[ha]at ho h
    rw[if_pos rfl]at h
    simp[zp8,ho,hl2]
    exact h J (.refl _ _) L0
   | false =>
    rw[ha]at ho h
    rw[if_neg (by simp)]at h
    simp[zp8,ho,hl2]
    refine ze (λq=>by simp at q) λ_=>?_
    exact h J (.refl _ _)
  .rw[if_neg hl]at h
   have hl2:¬((zcK s.stack).length:Int)=0:=by omega
   have hl3:(0:Int)<((zcK s.stack).length:Int):=by omega
   have hne:¬zcK s.stack=[]:=λq=>by rw[q]at hl2;simp at hl2
   have hpos:0<(zcK s.stack).length:=by omega
   have hw:yb4 .i64 (((zcK s.stack).length:Int)-1)=(((zcK s.stack).length-1:Nat):Int):=by rw[zb]<;>omega
   have e:(zcK s.stack).take ((zcK s.stack).length-1)=zcK s.stack.dropLast:=by
    rw[hlA];unfold zcK;rw[<-yc3,List.dropLast_eq_take]
   simp[zp8,ho,hne,hpos,splice]
   refine ze (λ_=>?_) (λq=>by simp at q)
   simp[zp8,ho,hne,hpos,splice,hw]
   rw[e]
   refine h _ (.set hx λf v hf hv hfam=>?_) ⟨by simpa using hx,_,by simp,.inr ⟨g,true,rfl,hg1,hg2⟩⟩
   simp at hv
   subst hv
   simp[zeG]at hfam
   subst hfam
   exact⟨_,_,ho,rfl,rfl⟩
theorem zuH(J:AS)(x:Nat)(a b:List AV):(J.setO x a).setO x b=J.setO x b:=by
 unfold AS.setO
 congr 1
 funext j
 simp only[upd]
 split<;>rfl
theorem zdt{G:Env}{J:AS}{R:Out->AS->Prop}{x c:Nat}{s:St}{deep:Int}(L:LS J x c s deep)(h:∀J',zbP x J J'->LS J' x c zp9 deep->R (.ret (.tuple [])) J'):zzQ G 195 [.ptr x 0] J R:=by
 refine zxZ rfl ?_
 obtain⟨hx,sv,ho,hs⟩:=L
 simp[zGU,ho,splice]
 rw[zuH]
 refine h _ ((zbP.set (cs:=[.ptr c 0,.nilsl,.bool true,.int .i64 deep]) hx λf v hf hv hfam=>?_)) ⟨by simpa using hx,_,by simp[zp9],.inl ⟨rfl,rfl⟩⟩
 simp at hv
 subst hv
 simp[zeG]at hfam
theorem zbP.grow{x:Nat}{J J1:AS}{cs:List AV}(hx:x<J.no)(ho:J1.objs=J.objs)(hno:J1.no=J.no)(hnf:J.nf<=J1.nf)(hF:∀f,f<J.nf->¬zqc J x f->J1.F f=J.F f)(h:∀f v,f<J.nf->cs[1]?=some v->zeG v=some f->False):zbP x J (J1.setO x cs) where
 no:=by simp[hno]
 nf:=by simpa using hnf
 obj o _ hne:=by simp[hne,ho]
 fam f hf hu:=hF f hf hu
 use f hf u:=by
  obtain⟨cs',v,h1,h2,h3⟩:=u
  simp at h1
  subst h1
  exact(h f v hf h2 h3).elim
theorem zaV{G:Env}{J:AS}{R:Out->AS->Prop}{x c:Nat}{s:St}{deep t:Int}(L:LS J x c s deep)(hb:s.stack.length<=2^40)(h:∀J',zbP x J J'->LS J' x c (zeE s t) deep->R (.ret (.tuple [])) J'):zzQ G 194 [.ptr x 0,.int .i64 t] J R:=by
 refine zxY rfl ?_
 have L0:=L
 obtain⟨hx,sv,ho,hs⟩:=L
 by_cases ht:t=0
 .have e:zeE s t=s:=by simp[zeE,ht]
  rw[e]at h
  simp[zuE,ht]
  exact h J (.refl _ _) L0
 .have e:zeE s t={ s with stack:=s.stack++[t] }:=by simp[zeE,ht]
  rw[e]at h
  rcases hs with ⟨hnil,rfl⟩|⟨g,b,rfl,hg1,hg2⟩
  .simp[zuE,ht,ho,splice]
   refine h _ (.grow hx rfl rfl (by simp) (λf hf _=>by simp;omega) λf v hf hv hfam=>?_) ⟨by simpa using hx,.sl (.fam J.nf false) 1 (zcK (s.stack++[t])),by simp[hnil,zcK],.inr ⟨J.nf,false,rfl,by simp,by simp⟩⟩
   .simp at hv;subst hv;simp[zeG]at hfam;omega
  .have hlA:(zcK s.stack).length=s.stack.length:=by simp[zcK]
   have ea:zcK s.stack++[.int .i64 t]=zcK (s.stack++[t]):=by simp[zcK]
   cases b with
   | true =>
    simp[zuE,ht,ho,splice,hg2,hlA]
    refine⟨by omega,h _ (.grow hx rfl rfl (by simp) (λf hf _=>by simp;omega) λf v hf hv hfam=>?_) ⟨by simpa using hx,.sl (.fam J.nf false) 1 (zcK (s.stack++[t])),by simp[zcK],.inr ⟨J.nf,false,rfl,by simp,by simp⟩⟩⟩
    .simp at hv;subst hv;simp[zeG]at hfam;omega
   | false =>
    simp[zuE,ht,ho,splice,hg2,hlA]
    refine⟨by omega,h _ (.grow hx rfl rfl (by simp) (λf hf hu=>?_) λf v hf hv hfam=>?_) ⟨by simpa using hx,.sl (.fam J.nf false) 1 (zcK (s.stack++[t])),by simp[zcK],.inr ⟨J.nf,false,rfl,by simp,by simp⟩⟩⟩
    .have:f≠g:=by rintro rfl;exact hu ⟨_,_,ho,rfl,rfl⟩
     simp[this];omega
    .simp at hv;subst hv;simp[zeG]at hfam;omega
theorem zlo{G:Env}{J:AS}{R:Out->AS->Prop}{tv:AV}(hk:tv.known=true)(hc:tv.cells=[tv])(h:R (.ret (.fn (.func 250) [] [.ptr J.no 0])) (J.newO [tv])):zzQ G 230 [tv] J R:=by
 refine zyd rfl ?_
 simp[zGY,hk,hc]
 exact h
theorem zsQ(t:Int)(ts:List Int)(s:St):zaA (t::ts) s=if s.stack.length=0\/s.stack.getLast?=some t then(match ze1 s with|.ok s'=>zaA ts s'|.error e=>.error e)else .error 14:=rfl
theorem zjw{s s':St}(h:ze1 s=.ok s'):s'.stack.length<=s.stack.length:=by
 unfold ze1 at h
 split at h
 .split at h
  .cases h;exact yah _
  .cases h
 .cases h;simp
@[simp] theorem zJj(a:Nat->AV)(p q:Nat)(x y:AV):upds a [p,q] [x,y]=upd (upd a p x) q y:=Eq.trans rfl rfl
theorem SV.len{J:AS}{sv:AV}{st:List Int}(h:SV J sv st)(K:AV->Prop):ziY yb9 44 sv K=K (.int .i64 (st.length:Int)):=by
 rcases h with ⟨rfl,rfl⟩|⟨g,b,rfl,_⟩
 .simp
 .simp[zcK]
theorem SV.last{J:AS}{sv:AV}{st:List Int}(h:SV J sv st)(hn:0<st.length):∃φ v,zo J.F φ/\st.getLast?=some v/\∀(n:Int),n=(st.length:Int)-1->∀K:AV->Prop,zE yb9 44 sv (.int .i64 n) K=K (.pv φ (.int .i64 v)):=by
 rcases h with ⟨rfl,_⟩|⟨g,b,rfl,_,hg⟩
 .simp at hn
 .refine⟨.fam g b,st[st.length-1],hg,by rw[List.getLast?_eq_getElem?,yau (by omega)],λn hn2 K=>?_⟩
  have e:n.toNat=st.length-1:=by omega
  have h0:0<=n:=by omega
  have hlt:st.length-1<st.length:=by omega
  simp[zcK,e,h0,hlt]
def TI(x c:Nat)(deep:Int)(o f0 l:Nat)(JN:AS)(ts:List Int)(s0:St)(a:Nat->AV)(Z:AS):Prop:=∃(i:Nat) (s:St),i<=ts.length/\a 0=.fn (.yield l) [] []/\a 1=.ptr o 0/\a 3=.int .i64 ((i:Int)-1)/\LS Z x c s deep/\zbP x JN Z/\s.stack.length<=s0.stack.length /\
 zaA (ts.take i).reverse s=zaA ts.reverse s0
def TM(a:Nat->AV)(_:AS):Nat:=match a 3 with|.int _ n=>(n+1).toNat|_=>0
theorem zcc{G:Env}{J:AS}{R:Out->AS->Prop}{x c:Nat}{s:St}{deep:Int}{ts:List Int}{tv:AV}(hv:zaR tv ts)(hts:ts.length<=2^40)(L:LS J x c s deep)(hb:s.stack.length<=2^40)(h:zwC R x c deep J (zaA ts.reverse s)):zzQ G 193 [.ptr x 0,tv] J R:=by
 obtain⟨v1,v2,v3⟩:=hv.one
 refine zoj (px:=zuD) (py:=zry) (pa:=zfw) (pb:=zfx) zup Tryz.func193 (n:=33) (res:=[]) rfl rfl rfl (by kernel_rfl) (by kernel_rfl) (by kernel_rfl) (by kernel_rfl) (by decide) (by simp) ?_
 simp[zuD,zry]
 refine zlo v1 v3 ?_
 simp
 generalize hJ2:(J.newO [yc4 x 0]).newO [tv]=J2
 have hno2:J2.no=J.no+2:=by rw[<-hJ2];simp
 have hnf2:J2.nf=J.nf:=by rw[<-hJ2];simp
 have A2:zd J J2:=by rw[<-hJ2];exact(zd.refl J).newO.newO
 have hb0:J2.objs J.no=some [.ptr x 0]:=by rw[<-hJ2];simp
 have ho0:J2.objs (J.no+1)=some [tv]:=by rw[<-hJ2];simp
 have hxl:=L.1
 refine⟨250,[.ptr (J.no+1) 0],by simp,by simp,λl=>?_⟩
 refine zym rfl ?_
 have L2:LS J2.newF x c s deep:=(L.adds A2).adds (zd.refl J2).newF
 have AN:zd J J2.newF:=A2.newF
 have hnu:∀Z,zbP x J2.newF Z->Z.F J2.nf=.alive:=λZ K=>by
  rw[K.fam J2.nf (by simp) ?_]
  .simp
  .rintro ⟨cs,v,e1,e2,e3⟩
   obtain⟨hx,sv,e4,e5⟩:=L
   have:J2.newF.objs x=some [.ptr c 0,sv,.bool s.any,.int .i64 deep]:=(AN.obj x hx).trans e4
   rw[this]at e1
   cases e1
   simp at e2
   subst e2
   rcases e5 with ⟨_,rfl⟩|⟨g,b,rfl,hg,_⟩
   .simp[zeG]at e3
   .simp[zeG]at e3;omega
 -- a state behind the loop
 have back:∀Z,zbP x J2.newF Z->zbP x J { Z with F:=upd Z.F J2.nf .dead }:=by
  intro Z K
  have K':=(AN.keepL hxl).trans K
  exact⟨K'.no,K'.nf,K'.obj,λf hf hu=>by simp only[upd];rw[if_neg (by omega)];exact K'.fam f hf hu,K'.use⟩
 have backL:∀Z s',zbP x J2.newF Z->LS Z x c s' deep->LS { Z with F:=upd Z.F J2.nf .dead } x c s' deep:=by
  intro Z s' K ⟨e1,sv,e2,e3⟩
  refine⟨e1,sv,e2,?_⟩
  rcases e3 with e3|⟨g,b,e4,e5,e6⟩
  .exact .inl e3
  .refine .inr ⟨g,b,e4,e5,?_⟩
   have hne:g≠J2.nf:=by
    rintro rfl
    have u:zqc Z x J2.nf:=⟨_,_,e2,rfl,by rw[e4];rfl⟩
    obtain⟨cs,v,q1,q2,q3⟩:=K.use J2.nf (by simp) u
    obtain⟨hx,sv',q4,q5⟩:=L2
    rw[q4]at q1
    cases q1
    simp at q2
    subst q2
    rcases q5 with ⟨_,rfl⟩|⟨g',b',rfl,hg',_⟩
    .simp[zeG]at q3
    .obtain⟨hx1,sv1,p1,p2⟩:=L
     have:J2.newF.objs x=some [.ptr c 0,sv1,.bool s.any,.int .i64 deep]:=(AN.obj x hx1).trans p1
     rw[q4]at this
     simp at this
     subst this
     rcases p2 with ⟨_,p3⟩|⟨g2,b2,p3,p4,_⟩
     .cases p3
     .simp at p3;simp[zeG]at q3;omega
   simp only[upd];rw[if_neg hne];exact e6
 have ho1:J2.newF.objs (J.no+1)=some [tv]:=by simpa using ho0
 have hw0:yb4 .i64 ((ts.length:Int)-1)=(ts.length:Int)-1:=by rw[zb]<;>omega
 have start:∀a,TI x c deep (J.no+1) J2.nf l J2.newF ts s a J2.newF->zj5 yb9 (Env.under G yb9 33 zfw zfx [9,10] J2.nf (upd (upd (upd (zc5 [yc4 x 0,tv]) 2 (yc4 J.no 0)) 7 tv) 8 (AV.fn (Fn.func 250) [] [yc4 (J.no+1) 0])) l) 19 zf8
   (zai 0 (zbE yb9 [] λo J'=>match o with
    | .ret v=>J'.F J2.nf=.alive/\R (.ret (.tuple [])) { J' with F:=upd J'.F J2.nf .dead }
    | .panic v=>R (.panic v) J')) a J2.newF:=by
  intro a hI
  refine zS (TI x c deep (J.no+1) J2.nf l J2.newF ts s) TM hI λa Z hI=>?_
  obtain⟨i,s1,hi,a0,a1,a3,L1,K1,hle,hq⟩:=hI
  have hal:=hnu Z K1
  have hob:Z.objs (J.no+1)=some [tv]:=by
   rw[K1.obj (J.no+1) (by simp;omega) (by omega)];exact ho1
  have hob0:Z.objs J.no=some [.ptr x 0]:=by
   rw[K1.obj J.no (by simp;omega) (by omega)];simpa using hb0
  cases i with
  | zero =>
   simp[zaA]at hq
   rw[<-hq]at h
   simp[zf8,a3]
   exact⟨hal,h _ (back Z K1) (backL Z s1 K1 L1)⟩
  | succ j =>
   have hj:j<ts.length:=by omega
   rcases hv with ⟨rfl,_⟩|⟨b,rfl⟩
   .simp at hj
   have hrev:(ts.take (j+1)).reverse=ts[j]::(ts.take j).reverse:=by rw[ycX hj,List.reverse_append];rfl
   rw[hrev,zsQ]at hq
   obtain⟨hx1,sv1,hs1,hs2⟩:=L1
   have L1':LS Z x c s1 deep:=⟨hx1,sv1,hs1,hs2⟩
   have hf0:=hal
   have hsl:=hs2.len
   have hwj:yb4 .i64 ((j:Int)-1)=(j:Int)-1:=by rw[zb]<;>omega
   have next:∀(a':Nat->AV) (Z':AS) (s':St),zbP x Z Z'->LS Z' x c s' deep->zaA (ts.take j).reverse s'=zaA ts.reverse s->s'.stack.length<=s1.stack.length->a' 0=.fn (.yield l) [] []->a' 1=.ptr (J.no+1) 0->a' 3=.int .i64 ((j:Int)-1) ->
     TI x c deep (J.no+1) J2.nf l J2.newF ts s a' Z'/\TM a' Z'<TM a Z:=by
    intro a' Z' s' K' L' e' l' b0 b1 b3
    refine⟨⟨j,s',by omega,b0,b1,b3,L',K1.trans K',by omega,e'⟩,?_⟩
    simp only[TM,a3,b3]
    omega
   by_cases hn:s1.stack.length=0
   .have hn':s1.stack=[]:=ybS.1 hn
    rw[if_pos (.inl hn)]at hq
    simp[zf8,a0,a1,a3,hob,hj,zfw,zfx,hal,hob0,hs1,hsl,hn']
    refine ze (λ_=>?_) (λq=>by simp at q)
    simp[hob0]
    refine zig L1' (by omega) ?_
    cases hd:ze1 s1 with
    | ok s' =>
     rw[hd]at hq
     intro Z' K' L'
     simp[hal,hnu Z' (K1.trans K'),a0,a1,a3,hwj]
     exact next _ Z' s' K' L' hq (zjw hd) (by simp[a0]) (by simp[a1]) (by simp)
    | error e =>
     rw[hd]at hq
     simp only at hq
     rw[<-hq]at h
     intro Z' K'
     simp[hal,hnu Z' (K1.trans K')]
     exact h _ (back Z' (K1.trans K'))
   .obtain⟨φ,v,hrd,hlast,hix⟩:=hs2.last (by omega)
    have hix':=hix _ rfl
    have hw1:yb4 .i64 ((s1.stack.length:Int)-1)=(s1.stack.length:Int)-1:=by rw[zb]<;>omega
    have hne:¬s1.stack=[]:=λq=>hn (by rw[q];rfl)
    by_cases hvt:v=ts[j]
    .rw[if_pos (.inr (by rw[hlast,hvt]))]at hq
     subst hvt
     simp[zf8,a0,a1,a3,hob,hj,zfw,zfx,hal,hob0,hs1,hsl,hne,hix',hw1,hrd]
     refine ze (λ_=>?_) (λq=>by simp at q)
     simp[hob0]
     refine zig L1' (by omega) ?_
     cases hd:ze1 s1 with
     | ok s' =>
      rw[hd]at hq
      intro Z' K' L'
      simp[hal,hnu Z' (K1.trans K'),a0,a1,a3,hwj]
      exact next _ Z' s' K' L' hq (zjw hd) (by simp[a0]) (by simp[a1]) (by simp)
     | error e =>
      rw[hd]at hq
      simp only at hq
      rw[<-hq]at h
      intro Z' K'
      simp[hal,hnu Z' (K1.trans K')]
      exact h _ (back Z' (K1.trans K'))
    .rw[if_neg (by rintro (q|q);exact hn q;rw[hlast]at q;exact hvt (yaR.inj q))]at hq
     rw[<-hq]at h
     simp[zf8,a0,a1,a3,hob,hj,zfw,zfx,hal,hob0,hs1,hsl,hne,hix',hw1,hrd,hvt]
     refine ze (λq=>by simp at q) (λ_=>?_)
     simp[hal]
     exact h _ (back Z K1)
 simp[zGZ,ho1,hv.len,hw0]
 exact start _ ⟨ts.length,s,yah _,by simp,by simp,by simp,L2,.refl _ _,yah _,by rw[ycY]⟩
def zrD(J:AS)(c:Nat)(m:M)(f:F)(ls:List Int):Prop:=c<J.no/\∃fsv pv lv tv sv,J.objs c=some [fsv,.int .i64 m.memory,.int .i64 m.main,.str f.name,pv,lv,.int .i64 f.type,tv,sv]/\FsV fsv m.funcs/\zaR pv f.params/\zaR lv f.locals/\zdN tv f.lists/\zaR sv ls
theorem zrD.adds{J J' c m f ls}(h:zrD J c m f ls)(A:zd J J'):zrD J' c m f ls:=by
 obtain⟨hc,fsv,pv,lv,tv,sv,ho,r⟩:=h
 exact⟨yag hc A.no,fsv,pv,lv,tv,sv,(A.obj c hc).trans ho,r⟩
theorem zrD.keep{J J' x c m f ls}(h:zrD J c m f ls)(K:zbP x J J')(hx:c≠x):zrD J' c m f ls:=by
 obtain⟨hc,fsv,pv,lv,tv,sv,ho,r⟩:=h
 exact⟨yag hc K.no,fsv,pv,lv,tv,sv,(K.obj c hc hx).trans ho,r⟩
theorem zeH{G:Env}{J:AS}{R:Out->AS->Prop}{x c:Nat}{s:St}{deep:Int}{m:M}{f:F}{ls:List Int}(L:LS J x c s deep)(C:zrD J c m f ls)(hb:s.stack.length<=2^40)(h:zwC R x c deep J (zK f.type s)):zzQ G 162 [.ptr x 0] J R:=by
 refine zxN rfl ?_
 obtain⟨hc,fsv,pv,lv,tv,lsv,hco,_⟩:=C
 obtain⟨hx,sv,ho,hs⟩:=L
 unfold zK at h
 by_cases ht:f.type=0
 .rw[if_pos ht]at h
  simp[zDs,ho,hco,ht]
  exact h J (.refl _ _) ⟨hx,sv,ho,hs⟩
 .rw[if_neg ht]at h
  simp[zDs,ho,hco,ht]
  refine zcc (ts:=[f.type]) (.inr ⟨_,rfl⟩) (by simp) ⟨hx,sv,ho,hs⟩ hb ?_
  have e:[f.type].reverse=[f.type]:=rfl
  rw[e]
  revert h
  cases zaA [f.type] s with
  | ok s'=>intro h J' K L;simp;exact h J' K L
  | error e=>intro h J' K;simp;exact h J' K
theorem zsR{G:Env}(V:znH G){J:AS}{R:Out->AS->Prop}{w:W}(h:∀J',zd J J'->R (.ret (.bool (zT w))) J'):zzQ G 191 [w.av] J R:=by
 refine zxW rfl ?_
 unfold zT at h
 have A:zd J (J.newO w.cs):=(zd.refl J).newO
 simp only[W.cs]at A
 by_cases h1:w.op=1
 .rw[if_pos (.inl h1)]at h
  simp[zm8,W.av,W.cs,h1]
  refine zcX ?_
  simp
  simpa [h1]using h _ A
 by_cases h5:w.op=5
 .rw[if_pos (.inr h5)]at h
  simp[zm8,W.av,W.cs,h5]
  refine zcX ?_
  simp
  simpa [h5]using h _ A
 rw[if_neg (by omega)]at h
 by_cases h4:w.op=4
 .rw[if_pos h4]at h
  simp[zm8,W.av,W.cs,h4]
  refine zcX ?_
  cases hn:zac w.ty with
  | false =>
   rw[hn]at h
   simp
   simpa [h4]using h _ A
  | true =>
   rw[hn]at h
   simp
   refine zlT V λJ1 A1=>?_
   simp
   have:=h _ ((by simpa [h4]using A:zd J _).trans A1)
   cases hq:zcs signs w.name with
   | nil=>rw[hq]at this;simpa using this
   | cons a l=>rw[hq]at this;simpa using this
 rw[if_neg h4]at h
 by_cases h8:w.op=8
 .rw[if_pos (.inl h8)]at h
  simp[zm8,W.av,W.cs,h8]
  refine zkm ?_
  simp
  simpa [h8]using h _ A
 by_cases h9:w.op=9
 .rw[if_pos (.inr h9)]at h
  simp[zm8,W.av,W.cs,h9]
  refine zkm ?_
  simp
  simpa [h9]using h _ A
 rw[if_neg (by omega)]at h
 by_cases k1:1<=w.op
 .by_cases k2:w.op<=18
  .simp[k1,k2]at h
   simp[zm8,W.av,W.cs,h1,h5,h4,h8,h9,k1,k2]
   exact h _ A
  .simp[k1,k2]at h
   simp[zm8,W.av,W.cs,h1,h5,h4,h8,h9,k1,k2]
   exact h _ A
 .simp[k1]at h
  simp[zm8,W.av,W.cs,h1,h5,h4,h8,h9,k1]
  exact h _ A
def zDB(v:AV)(r:Option (List Int × Int)):Prop:=match r with
 | some (ts,g)=>∃tv,v=.tuple [.agg [tv,.int .i64 g],.bool true]/\zaR tv ts
 | none=>v=.tuple [.agg [.nilsl,.int .i64 0],.bool false]
theorem zdO{G:Env}{J:AS}{R:Out->AS->Prop}{mv:AV}{m:M}{n:Int}(hm:MV mv m)(hb:n<=2^63-1)(h:∀v J',zDB v (zbK m.funcs n)->zd J J'->R (.ret v) J'):zzQ G 229 [mv,.int .i64 n] J R:=by
 refine zyc rfl ?_
 obtain⟨fv,rfl,hf⟩:=hm
 unfold zbK at h
 have A0:∀c1 c2 c3:List AV,zd J (((J.newO c1).newO c2).setO (J.no+1) c3):=λ_ _ _=>((zd.refl J).newO.newO).setO (by omega)
 by_cases n0:n=0
 .rw[if_pos n0]at h
  simp[zp7,n0,splice]
  exact h _ _ ⟨_,rfl,.inl ⟨rfl,rfl⟩⟩ (A0 _ _ _)
 rw[if_neg n0]at h
 by_cases n1:n=1
 .rw[if_pos n1]at h
  simp[zp7,n1,splice]
  exact h _ _ ⟨_,rfl,.inr ⟨_,rfl⟩⟩ (A0 _ _ _)
 rw[if_neg n1]at h
 by_cases n2:n=2
 .rw[if_pos n2]at h
  simp[zp7,n2,splice]
  exact h _ _ ⟨_,rfl,.inr ⟨_,rfl⟩⟩ (A0 _ _ _)
 rw[if_neg n2]at h
 by_cases n3:n<0
 .rw[if_pos n3]at h
  simp[zp7,n0,n1,n2,n3,splice]
  exact h _ _ rfl (A0 _ _ _)
 rw[if_neg n3]at h
 have hw:yb4 .i64 (n-3)=n-3:=by rw[zb]<;>omega
 have hl:=hf.len
 by_cases n4:(m.funcs.length:Int)<=n-3
 .have e:m.funcs[(n-3).toNat]?=none:=yb2 (by omega)
  rw[e]at h
  simp[zp7,n0,n1,n2,n3,n4,splice,hl,hw]
  exact h _ _ rfl (A0 _ _ _)
 .rcases hf with ⟨e0,rfl⟩|⟨b,rows,rfl,hr⟩
  .rw[e0]at n4;simp at n4;omega
  have hlt:(n-3).toNat<m.funcs.length:=by omega
  have hg:m.funcs[(n-3).toNat]?=some m.funcs[(n-3).toNat]:=yau hlt
  obtain⟨row,hrow,pv,lv,tv,rfl,hp,hlv,htv⟩:=hr.get hg
  rw[hg]at h
  have h3:0<=n-3:=by omega
  have p1:=hp.one
  simp[zp7,n0,n1,n2,n3,n4,splice,hl,hw,hrow,h3,p1]
  refine⟨by omega,⟨hlv.one.2.1,htv.one.2.1⟩,h _ _ ⟨_,rfl,hp⟩ ?_⟩
  exact(((zd.refl J).newO.newO.newO).setO (by omega)).setO (by omega)
theorem zlp{G:Env}{J:AS}{R:Out->AS->Prop}{x c:Nat}{s:St}{deep:Int}{m:M}{f:F}{ls:List Int}{w:W}(L:LS J x c s deep)(C:zrD J c m f ls)(hb:w.n<=2^63-1)(h:∀J',zd J J'->R (.ret (.bool (zN m.funcs ls deep w))) J'):zzQ G 192 [.ptr x 0,w.av] J R:=by
 refine zxX rfl ?_
 obtain⟨hc,fsv,pv,lv,tv,lsv,hco,hfs,hpv,hlv,htv,hls⟩:=C
 obtain⟨hx,sv,ho,hs⟩:=L
 have A:zd J (J.newO w.cs):=(zd.refl J).newO
 simp only[W.cs]at A
 have hx':x≠J.no:=by omega
 have hc':c≠J.no:=by omega
 unfold zN at h
 by_cases h1:w.op=1
 .rw[if_pos h1]at h
  simp[zll,W.av,W.cs,h1]
  refine zlS ?_
  simp
  simpa [h1]using h _ A
 rw[if_neg h1]at h
 by_cases h2:w.op=2\/w.op=3
 .rw[if_pos h2]at h
  have hl:=hls.len
  by_cases k1:0<=w.n
  .by_cases k2:w.n<(ls.length:Int)
   .simp[k1,k2]at h
    rcases h2 with h2|h2<;>simp[zll,W.av,W.cs,h1,h2,ho,hco,hx',hc',hl,k1,k2]<;>exact h _ (by simpa [h2]using A)
   .simp[k1,k2]at h
    rcases h2 with h2|h2<;>simp[zll,W.av,W.cs,h1,h2,ho,hco,hx',hc',hl,k1,k2]<;>exact h _ (by simpa [h2]using A)
  .simp[k1]at h
   rcases h2 with h2|h2<;>simp[zll,W.av,W.cs,h1,h2,ho,hco,hx',hc',hl,k1]<;>exact h _ (by simpa [h2]using A)
 rw[if_neg h2]at h
 have h2a:¬w.op=2:=λq=>h2 (.inl q)
 have h2b:¬w.op=3:=λq=>h2 (.inr q)
 by_cases h10:w.op=10
 .rw[if_pos h10]at h
  simp[zll,W.av,W.cs,h10,ho,hco,hx',hc']
  have hx'':x≠J.no+1:=by omega
  have hc'':c≠J.no+1:=by omega
  have A':zd J (J.newO [.int .i64 10,.int .i64 w.ty,.int .i64 w.n,.int .i64 w.body,.int .i64 w.other,.str w.name]):=by simpa [h10]using A
  constructor
  .refine zdO (m:=m) ⟨_,rfl,hfs⟩ hb λv J1 hv A1=>?_
   have A2:=A'.trans A1
   cases hq:zbK m.funcs w.n with
   | none =>
    rw[hq]at hv h
    simp only[zDB]at hv
    subst hv
    simp[splice]
    exact h _ (A2.newO.setO A2.no)
   | some p =>
    rw[hq]at hv h
    obtain⟨y,rfl,hy⟩:=hv
    have y1:=hy.one
    simp[splice,y1]
    exact h _ (A2.newO.setO A2.no)
  .simp[ho,hco,hx',hc',hx'',hc'']
   refine zdO (m:=m) ⟨_,rfl,hfs⟩ hb λv J1 hv A1=>?_
   have A2:zd J J1:=(A'.newO).trans A1
   have hnew:J1.objs (J.no+1)=some [.nilsl,.int .i64 0]:=(A1.obj (J.no+1) (by simp)).trans (by simp)
   cases hq:zbK m.funcs w.n with
   | none =>
    rw[hq]at hv h
    simp only[zDB]at hv
    subst hv
    simp[splice,hnew]
    exact h _ (A2.setO (by omega))
   | some p =>
    rw[hq]at hv h
    obtain⟨y,rfl,hy⟩:=hv
    have y1:=hy.one
    simp[splice,y1,hnew]
    exact h _ (A2.setO (by omega))
 rw[if_neg h10]at h
 by_cases h14:w.op=14\/w.op=15
 .rw[if_pos h14]at h
  by_cases k1:0<=w.n
  .by_cases k2:w.n<=deep
   .simp[k1,k2]at h
    rcases h14 with h14|h14<;>simp[zll,W.av,W.cs,h14,ho,hco,hx',hc',k1,k2]<;>exact h _ (by simpa [h14]using A)
   .simp[k1,k2]at h
    rcases h14 with h14|h14<;>simp[zll,W.av,W.cs,h14,ho,hco,hx',hc',k1,k2]<;>exact h _ (by simpa [h14]using A)
  .simp[k1]at h
   rcases h14 with h14|h14<;>simp[zll,W.av,W.cs,h14,ho,hco,hx',hc',k1]<;>exact h _ (by simpa [h14]using A)
 rw[if_neg h14]at h
 have h14a:¬w.op=14:=λq=>h14 (.inl q)
 have h14b:¬w.op=15:=λq=>h14 (.inr q)
 simp[zll,W.av,W.cs,h1,h2a,h2b,h10,h14a,h14b]
 exact h _ A
@[simp] theorem zBi{P:Program}(t)(x y:List UInt8){K:AV->Prop}:zcz P .add t (.str x) (.str y) K=(x.length+y.length<2^62/\K (.str (x++y))):=by simp only[zcz,zjF]
theorem znH.cell{G:Env}(V:znH G){M F w}(g:GOk yb9 G M F w):∃m,w.cell? ⟨11,0,none⟩=some (.int .i64 m):=by
 obtain⟨m,hm⟩:=V.max
 have h:=g.vars 11
 rw[hm]at h
 cases h with
 | pv φ v B off cs hmem hc hv =>
  have h1:=hc trivial 0 (by simp)
  have h2:=hv trivial 0 (by simp)
  simp at h2
  generalize cs 0=c at h1 h2
  cases h2
  exact⟨m,h1⟩
theorem zlq{G:Env}(V:znH G){s t:List UInt8}{J:AS}{R:Out->AS->Prop}(hl:s.length<4294967281)(h:R (.ret (.bool (Lib.contains s t))) J):zzQ G 232 [.str s,.str t] J R:=by
 refine ACalls.of_below λM w cargs S g hc=>?_
 obtain⟨m,hm⟩:=V.cell g
 obtain⟨c0,e0,v0⟩:=hc.2 0 _ rfl
 obtain⟨c1,e1,v1⟩:=hc.2 1 _ rfl
 obtain⟨b0,rfl,rfl⟩:=v0.str_inv
 obtain⟨b1,rfl,rfl⟩:=v1.str_inv
 have hcargs:cargs=#[.string b0,.string b1]:=by
  have hsz:cargs.size=2:=hc.1
  apply Array.ext
  .simpa using hsz
  .intro i h1 h2
   match i,h1 with
   | 0,_=>simpa using (yaU.1 e0).2
   | 1,_=>simpa using (yaU.1 e1).2
   | i+2,h=>omega
 rw[hcargs]
 refine(Tryz.strings_Contains b0 b1 m w (by simpa using hl) hm).mono λe w' ⟨he,hw⟩=>?_
 subst he hw
 exact⟨⟨.bool _,_,rfl,λM F w=>.bool _,h⟩,rfl,rfl,rfl,yah _,λ_ _=>rfl⟩
theorem zdu:∀{ts:List Int} {s s':St},zaA ts s=.ok s'->s'.stack.length<=s.stack.length
 | [],s,s',h=>by simp[zaA]at h;subst h;exact yah _
 | t::ts,s,s',h=>by
  rw[zaA]at h
  split at h
  .cases hd:ze1 s with
   | error e=>rw[hd]at h;cases h
   | ok s1=>rw[hd]at h;exact yai (zdu h) (zjw hd)
  .cases h
theorem zih:∀s,zcs signs s≠[]->s.length<=5:=by
 have key:∀(l:List (List UInt8 × List UInt8)),(∀p∈l,p.1.length<=5)->∀s,zcs l s≠[]->s.length<=5:=by
  intro l
  induction l with
  | nil=>intro _ s h;simp[zcs]at h
  | cons p l ih =>
   intro hp s h
   obtain⟨x,y⟩:=p
   rw[zcs]at h
   by_cases e:x=s
   .subst e;exact hp (x,y) (by simp)
   .rw[if_neg e]at h;exact ih (λq hq=>hp q (by simp[hq])) s h
 exact key signs (by decide)
section
variable {G : Env} {J : AS} {R : Out -> AS -> Prop} {x c : Nat} {s : St} {deep : Int} {m : M} {f : F} {ls : List Int} {w : W}
theorem zqd(V:znH G)(L:LS J x c s deep)(C:zrD J c m f ls)(hcx:c≠x)(hb:s.stack.length<=2^39)(hn:w.n<=2^63-1)(hps:∀g∈m.funcs,g.params.length<=2^30)(hf:zT w=true)(hr:zN m.funcs ls deep w=true)
  (h:zwC R x c deep J (zc7 m.funcs ls w s)):zzQ G 196 [.ptr x 0,w.av] J R:=by
 refine zx0 rfl ?_
 have A:zd J (J.newO w.cs):=(zd.refl J).newO
 have La:=L.adds A
 have Ca:=C.adds A
 have Ka:=A.keepL L.1
 have hwo:(J.newO w.cs).objs J.no=some [.int .i64 w.op,.int .i64 w.ty,.int .i64 w.n,.int .i64 w.body,.int .i64 w.other,.str w.name]:=by simp[W.cs]
 have hwl:J.no<(J.newO w.cs).no:=by simp
 have hxw:J.no≠x:=by have:=L.1;omega
 simp[zGV,W.av,W.cs]
 rw[show J.newO [yc0 yam w.op,yc0 yam w.ty,yc0 yam w.n,yc0 yam w.body,yc0 yam w.other,ycZ w.name]=J.newO w.cs from rfl]
 generalize hJa:J.newO w.cs=Ja at *
 obtain⟨hc,fsv,pv,lv,tv,lsv,hco,hfs,hpv,hlv,htv,hls⟩:=Ca
 obtain⟨hx,sv,ho,hs⟩:=La
 have La:LS Ja x c s deep:=⟨hx,sv,ho,hs⟩
 -- the zA0
 have fin:∀r:Res St,zwC R x c deep J r->zwC (zA0 (λv J'=>R (.ret (.tuple [])) J') λv J'=>R (.panic v) J') x c deep Ja r:=by
  intro r hr
  cases r with
  | ok s'=>intro J' K L';simp;exact hr J' (Ka.trans K) L'
  | error e=>intro J' K;simp;exact hr J' (Ka.trans K)
 unfold zc7 at h
 by_cases h1:w.op=1
 .rw[if_pos h1]at h
  simp[h1,hwo]
  refine zaV La (by omega) λJ' K L'=>?_
  simp
  exact h J' (Ka.trans K) L'
 rw[if_neg h1]at h
 by_cases h2:w.op=2
 .rw[if_pos h2]at h
  have hr2:0<=w.n/\w.n<(ls.length:Int):=by simpa [zN,h1,h2]using hr
  rcases hls with ⟨e,_⟩|⟨b,rfl⟩
  .rw[e]at hr2;simp at hr2;omega
  have hlt:w.n.toNat<ls.length:=by omega
  have e1:ls.getD w.n.toNat 0=ls[w.n.toNat]:=by rw[ycQ,yau hlt];rfl
  simp[h2,hwo,ho,hco,hr2.1,hlt]
  refine zaV La (by omega) λJ' K L'=>?_
  simp
  unfold zkj at h
  rw[e1]at h
  exact h J' (Ka.trans K) L'
 rw[if_neg h2]at h
 by_cases h3:w.op=3
 .rw[if_pos h3]at h
  have hr2:0<=w.n/\w.n<(ls.length:Int):=by simpa [zN,h1,h2,h3]using hr
  rcases hls with ⟨e,_⟩|⟨b,rfl⟩
  .rw[e]at hr2;simp at hr2;omega
  have hlt:w.n.toNat<ls.length:=by omega
  have e1:ls.getD w.n.toNat 0=ls[w.n.toNat]:=by rw[ycQ,yau hlt];rfl
  simp[h3,hwo,ho,hco,hr2.1,hlt]
  unfold zkj at h
  rw[e1]at h
  refine zcc (ts:=[ls[w.n.toNat]]) (.inr ⟨_,rfl⟩) (by simp) La (by omega) ?_
  have e:[ls[w.n.toNat]].reverse=[ls[w.n.toNat]]:=rfl
  rw[e]
  revert h
  cases zaA [ls[w.n.toNat]] s with
  | ok s'=>intro h J' K L;simp;exact h J' (Ka.trans K) L
  | error e=>intro h J' K;simp;exact h J' (Ka.trans K)
 rw[if_neg h3]at h
 -- takes,and zgR
 have tgB:∀{R':Out->AS->Prop} {Jb:AS} (Kb:zbP x J Jb) (Lb:LS Jb x c s deep) (o:Nat) (cs:List AV) (ts:List Int) (tv:AV) (t:Int),Jb.objs o=some cs->o<Jb.no->o≠x->zaR tv ts->ts.length<=2^30->zwC R x c deep J (zgR (zaA ts.reverse s) t) ->
   (∀J1 s1,s1.stack.length<=2^39->zbP x Jb J1->LS J1 x c s1 deep->J1.objs o=some cs->(∀J2,zbP x J1 J2->LS J2 x c (zeE s1 t) deep->R (.ret (.tuple [])) J2)->R' (.ret (.tuple [])) J1) ->
   (∀e J1,R (.panic (zln e)) J1->R' (.panic (zln e)) J1)->zzQ G 193 [.ptr x 0,tv] Jb R':=by
  intro R' Jb Kb Lb o cs ts tv t hob hlo hox hv hl hr k1 k2
  refine zcc hv (by omega) Lb (by omega) ?_
  cases hq:zaA ts.reverse s with
  | error e =>
   rw[hq]at hr
   exact λJ1 K=>k2 e J1 (hr J1 (Kb.trans K))
  | ok s1 =>
   rw[hq]at hr
   exact λJ1 K L'=>k1 J1 s1 (by have:=zdu hq;omega) K L' ((K.obj o hlo hox).trans hob) λJ2 K2 L2=>hr J2 (Kb.trans (K.trans K2)) L2
 have tg:∀{R':Out->AS->Prop} (ts:List Int) (tv:AV) (t:Int),zaR tv ts->ts.length<=2^30->zwC R x c deep J (zgR (zaA ts.reverse s) t) ->
   (∀J1 s1,s1.stack.length<=2^39->zbP x Ja J1->LS J1 x c s1 deep->J1.objs J.no=some [.int .i64 w.op,.int .i64 w.ty,.int .i64 w.n,.int .i64 w.body,.int .i64 w.other,.str w.name]->(∀J2,zbP x J1 J2->LS J2 x c (zeE s1 t) deep->R (.ret (.tuple [])) J2)->R' (.ret (.tuple [])) J1) ->
   (∀e J1,R (.panic (zln e)) J1->R' (.panic (zln e)) J1)->zzQ G 193 [.ptr x 0,tv] Ja R':=λts tv t hv hl hr k1 k2=>tgB Ka La J.no _ ts tv t hwo hwl hxw hv hl hr k1 k2
 by_cases h4:w.op=4
 .rw[if_pos h4]at h
  have hsig:w.name.length<=5:=by
   refine zih _ λq=>?_
   simp[zT,h4,q]at hf
  simp[h4,hwo]
  refine tg [w.ty,w.ty] _ _ (.inr ⟨_,rfl⟩) (by simp) h (λJ1 s1 hb1 K1 L1 hw1 fin1=>?_) (λe J1 hh=>by simp;exact hh)
  simp[hw1]
  refine⟨by omega,by omega,zlq V ?_ ?_⟩
  .decide
  have hcmp:Lib.contains [32,101,113,32,110,101,32,108,116,95,115,32,108,101,95,115,32,103,116,95,115,32,103,101,95,115,32] (32::(w.name++[32]))=zHd w.name:=rfl
  simp[hcmp]
  cases hq:zHd w.name with
  | true =>
   rw[hq]at fin1
   simp[hw1]
   refine zaV L1 (by omega) λJ2 K2 L2=>?_
   simp
   exact fin1 J2 K2 L2
  | false =>
   rw[hq]at fin1
   simp[hw1]
   refine zaV L1 (by omega) λJ2 K2 L2=>?_
   simp
   exact fin1 J2 K2 L2
 rw[if_neg h4]at h
 by_cases h5:w.op=5
 .rw[if_pos h5]at h
  simp[h5,hwo]
  refine tg [w.ty] _ _ (.inr ⟨_,rfl⟩) (by simp) h (λJ1 s1 hb1 K1 L1 hw1 fin1=>?_) (λe J1 hh=>by simp;exact hh)
  simp[hw1]
  refine zaV L1 (by omega) λJ2 K2 L2=>?_
  simp
  exact fin1 J2 K2 L2
 rw[if_neg h5]at h
 by_cases h6:w.op=6
 .rw[if_pos h6]at h
  simp[h6,hwo]
  refine tg [2] _ _ (.inr ⟨_,rfl⟩) (by simp) h (λJ1 s1 hb1 K1 L1 hw1 fin1=>?_) (λe J1 hh=>by simp;exact hh)
  simp[hw1]
  refine zaV L1 (by omega) λJ2 K2 L2=>?_
  simp
  exact fin1 J2 K2 L2
 rw[if_neg h6]at h
 by_cases h7:w.op=7
 .rw[if_pos h7]at h
  simp[h7,hwo]
  refine tg [1] _ _ (.inr ⟨_,rfl⟩) (by simp) h (λJ1 s1 hb1 K1 L1 hw1 fin1=>?_) (λe J1 hh=>by simp;exact hh)
  simp[hw1]
  refine zaV L1 (by omega) λJ2 K2 L2=>?_
  simp
  exact fin1 J2 K2 L2
 rw[if_neg h7]at h
 by_cases h8:w.op=8
 .rw[if_pos h8]at h
  simp[h8,hwo]
  refine tg [1] _ _ (.inr ⟨_,rfl⟩) (by simp) h (λJ1 s1 hb1 K1 L1 hw1 fin1=>?_) (λe J1 hh=>by simp;exact hh)
  simp[hw1]
  refine zaV L1 (by omega) λJ2 K2 L2=>?_
  simp
  exact fin1 J2 K2 L2
 rw[if_neg h8]at h
 by_cases h9:w.op=9
 .rw[if_pos h9]at h
  simp[h9,hwo]
  refine zcc (ts:=[1,w.ty]) (.inr ⟨_,rfl⟩) (by simp) La (by omega) ?_
  have e:[1,w.ty].reverse=[w.ty,1]:=rfl
  rw[e]
  revert h
  cases zaA [w.ty,1] s with
  | ok s'=>intro h J' K L;simp;exact h J' (Ka.trans K) L
  | error e=>intro h J' K;simp;exact h J' (Ka.trans K)
 rw[if_neg h9]at h
 by_cases h10:w.op=10
 .rw[if_pos h10]at h
  have hh:(zbK m.funcs w.n).isSome=true:=by simpa [zN,h1,h2,h3,h10]using hr
  obtain⟨⟨ts,g⟩,hq⟩:=Option.isSome_iff_exists.1 hh
  rw[hq]at h
  simp only at h
  have htl:ts.length<=2^30:=by
   unfold zbK at hq
   split at hq
   .cases hq;simp
   .split at hq
    .cases hq;simp
    .split at hq
     .cases hq;simp
     .split at hq
      .cases hq
      .obtain⟨fn,hfn,e⟩:=ybB.1 hq
       cases e
       exact hps _ (yc5 hfn)
  have hcw:c≠Ja.no:=by omega
  have hxw':x≠Ja.no:=by omega
  simp[h10,hwo,ho,hco]
  constructor
  .refine zdO (m:=m) ⟨_,rfl,hfs⟩ hn λv J1 hv A1=>?_
   rw[hq]at hv
   obtain⟨y,rfl,hy⟩:=hv
   have y1:=hy.one
   simp[splice,y1]
   have A2:zd Ja ((J1.newO [.nilsl,.int .i64 0]).setO J1.no [y,.int .i64 g]):=A1.newO.setO A1.no
   have Lb:=La.adds A2
   refine tgB (Ka.trans (A2.keepL hx)) Lb J1.no [y,.int .i64 g] ts y g (by simp) (by simp) (by have:=A1.no;omega) hy htl h (λJ3 s1 hb1 K1 L1 hw1 fin1=>?_) (λe J1 hh=>by simp;exact hh)
   simp[hw1]
   refine zaV L1 (by omega) λJ2 K2 L2=>?_
   simp
   exact fin1 J2 K2 L2
  .have hx2:x≠J.no:=λq=>hxw q.symm
   simp[ho,hco,hcw,hxw',hwo,show J.no≠Ja.no from by omega]
   refine zdO (m:=m) ⟨_,rfl,hfs⟩ hn λv J1 hv A1=>?_
   rw[hq]at hv
   obtain⟨y,rfl,hy⟩:=hv
   have y1:=hy.one
   have hnew:J1.objs Ja.no=some [.nilsl,.int .i64 0]:=(A1.obj Ja.no (by simp)).trans (by simp)
   simp[splice,y1,hnew]
   have hle:Ja.no+1<=J1.no:=by have:=A1.no;simpa using this
   have A2:zd Ja (J1.setO Ja.no [y,.int .i64 g]):=(((zd.refl Ja).newO).trans A1).setO (yah _)
   have Lb:=La.adds A2
   refine tgB (Ka.trans (A2.keepL hx)) Lb Ja.no [y,.int .i64 g] ts y g (by simp) (by simp;omega) (λq=>hxw' q.symm) hy htl h (λJ3 s1 hb1 K1 L1 hw1 fin1=>?_) (λe J1 hh=>by simp;exact hh)
   simp[hw1]
   refine zaV L1 (by omega) λJ2 K2 L2=>?_
   simp
   exact fin1 J2 K2 L2
 rw[if_neg h10]at h
 by_cases h18:w.op=18
 .rw[if_pos h18]at h
  simp[h18,hwo]
  refine zig La (by omega) ?_
  revert h
  cases ze1 s with
  | ok s'=>intro h J' K L;simp;exact h J' (Ka.trans K) L
  | error e=>intro h J' K;simp;exact h J' (Ka.trans K)
 rw[if_neg h18]at h
 simp[h1,h2,h3,h4,h5,h6,h7,h8,h9,h10,h18,hwo]
 exact h Ja Ka La
end
def zJk(R:Out->AS->Prop)(J:AS):Res Unit->Prop
 | .ok _=>∀J',zd J J'->R (.ret (.tuple [])) J'
 | .error e=>∀J',zd J J'->R (.panic (zln e)) J'
def zBj(G:Env)(m:M)(f:F)(ls:List Int)(B:Int)(lk:zm9):Prop:=∀(c:Nat) (J:AS) (at_ deep:Int) (R:Out->AS->Prop),zrD J c m f ls->0<=at_->at_<B->0<=deep->deep+at_<=2^40->zJk R J (lk at_ deep)->zzQ G 109 [.ptr c 0,.int .i64 at_,.int .i64 deep] J R
section
variable {G : Env} {J : AS} {R : Out -> AS -> Prop} {x c : Nat} {s : St} {deep : Int} {m : M} {f : F} {ls : List Int} {w : W} {lk : zm9} {B : Int}
theorem znf(V:znH G)(IH:zBj G m f ls B lk)(L:LS J x c s deep)(C:zrD J c m f ls)(hcx:c≠x)(hb:s.stack.length<=2^38)(hd0:0<=deep)(hd1:deep<=2^40)(hn:w.n<=2^63-1)(hps:∀g∈m.funcs,g.params.length<=2^30)
  (hnm:∀n∈zh w,0<=n/\n<B/\deep+1+n<=2^40) (h:zwC R x c deep J (zag m.funcs ls f.type deep lk w s)):zzQ G 161 [.ptr x 0,w.av] J R:=by
 refine zxM rfl ?_
 have A:zd J (J.newO w.cs):=(zd.refl J).newO
 have La:=L.adds A
 have Ca:=C.adds A
 have Ka:=A.keepL L.1
 have hwo:(J.newO w.cs).objs J.no=some [.int .i64 w.op,.int .i64 w.ty,.int .i64 w.n,.int .i64 w.body,.int .i64 w.other,.str w.name]:=by simp[W.cs]
 have hwl:J.no<(J.newO w.cs).no:=by simp
 have hxw:J.no≠x:=by have:=L.1;omega
 have hcs:w.cs=[.int .i64 w.op,.int .i64 w.ty,.int .i64 w.n,.int .i64 w.body,.int .i64 w.other,.str w.name]:=rfl
 simp[zGR,W.av,hcs]
 rw[show J.newO [yc0 yam w.op,yc0 yam w.ty,yc0 yam w.n,yc0 yam w.body,yc0 yam w.other,ycZ w.name]=J.newO w.cs from rfl]
 rw[show yc6 [yc0 yam w.op,yc0 yam w.ty,yc0 yam w.n,yc0 yam w.body,yc0 yam w.other,ycZ w.name]=w.av from rfl]
 generalize J.newO w.cs=Ja at *
 unfold zag at h
 refine zsR V λJ1 A1=>?_
 cases hf:zT w with
 | false =>
  rw[if_pos hf]at h
  simp
  refine ze (λq=>by simp at q) λ_=>?_
  simp
  exact h _ (Ka.trans (A1.keepL La.1))
 | true =>
 rw[if_neg (by rw[hf];simp)]at h
 have hw1:=(A1.obj J.no hwl).trans hwo
 simp
 refine ze (λ_=>?_) (λq=>by simp at q)
 simp[hw1]
 rw[show yc6 [yc0 yam w.op,yc0 yam w.ty,yc0 yam w.n,yc0 yam w.body,yc0 yam w.other,ycZ w.name]=w.av from rfl]
 refine zlp (La.adds A1) (Ca.adds A1) hn λJ2 A2=>?_
 have A12:=A1.trans A2
 cases hr:zN m.funcs ls deep w with
 | false =>
  rw[if_pos hr]at h
  simp
  refine ze (λq=>by simp at q) λ_=>?_
  simp
  exact h _ (Ka.trans (A12.keepL La.1))
 | true =>
 rw[if_neg (by rw[hr];simp)]at h
 have hw2:=(A2.obj J.no (yag hwl A1.no)).trans hw1
 have L2:=La.adds A12
 have C2:=Ca.adds A12
 have K2:=Ka.trans (A12.keepL La.1)
 have hwl2:J.no<J2.no:=yag hwl A12.no
 simp
 refine ze (λ_=>?_) (λq=>by simp at q)
 simp[hw2]
 clear A1 A2 hw1 hwo A12 Ka La Ca
 have keepW:∀{J3},zbP x J2 J3->J3.objs J.no=some [.int .i64 w.op,.int .i64 w.ty,.int .i64 w.n,.int .i64 w.body,.int .i64 w.other,.str w.name]:=λK=>(K.obj J.no hwl2 hxw).trans hw2
 have L2':=L2
 have C2':=C2
 obtain⟨hc2,fsv,pv,lv,tv,lsv,hco,_⟩:=C2'
 obtain⟨hx2,sv,ho,_⟩:=L2'
 have hwd:yb4 .i64 (deep+1)=deep+1:=by rw[zb]<;>omega
 by_cases h11:w.op=11\/w.op=12
 .rw[if_pos h11]at h
  have hnn:zh w=[w.body]:=by unfold zh;rw[if_pos (by omega)]
  rw[hnn]at hnm
  have hb0:=hnm w.body (by simp)
  have go:zJk (zA0 (λv J'=>R (.ret (.tuple [])) J') λv J'=>R (.panic v) J') J2 (lk w.body (deep+1)):=by
   cases hq:lk w.body (deep+1)with
   | ok u=>rw[hq]at h;intro J3 A3;simp;exact h J3 (K2.trans (A3.keepL hx2)) (L2.adds A3)
   | error e=>rw[hq]at h;intro J3 A3;simp;exact h J3 (K2.trans (A3.keepL hx2))
  rcases h11 with h11|h11
  .simp[h11,hw2,ho,hco,hwd]
   refine IH c J2 w.body (deep+1) _ C2 hb0.1 hb0.2.1 (by omega) hb0.2.2 ?_
   revert go
   cases lk w.body (deep+1)with
   | ok u=>intro go J3 A3;have:=go J3 A3;simpa using this
   | error e=>intro go J3 A3;have:=go J3 A3;simpa using this
  .simp[h11,hw2,ho,hco,hwd]
   refine IH c J2 w.body (deep+1) _ C2 hb0.1 hb0.2.1 (by omega) hb0.2.2 ?_
   revert go
   cases lk w.body (deep+1)with
   | ok u=>intro go J3 A3;have:=go J3 A3;simpa using this
   | error e=>intro go J3 A3;have:=go J3 A3;simpa using this
 rw[if_neg h11]at h
 have h11a:¬w.op=11:=λq=>h11 (.inl q)
 have h11b:¬w.op=12:=λq=>h11 (.inr q)
 by_cases h13:w.op=13
 .rw[if_pos h13]at h
  simp[h13,hw2]
  refine zcc (ts:=[1]) (.inr ⟨_,rfl⟩) (by simp) L2 (by omega) ?_
  rw[show [(1:Int)].reverse=[1] from rfl]
  cases ht:zaA [1] s with
  | error e =>
   rw[ht]at h
   intro J3 K3
   simp
   exact h J3 (K2.trans K3)
  | ok s1 =>
   rw[ht]at h
   simp only at h
   intro J3 K3 L3
   have C3:=C2.keep K3 hcx
   have hw3:=keepW K3
   have hwl3:J.no<J3.no:=yag hwl2 K3.no
   have C3':=C3
   have L3':=L3
   obtain⟨hc3,fsv3,pv3,lv3,tv3,lsv3,hco3,_⟩:=C3'
   obtain⟨hx3,sv3,ho3,_⟩:=L3'
   have hb0:0<=w.body/\w.body<B/\deep+1+w.body<=2^40:=hnm w.body (by
    unfold zh
    by_cases ho:w.other<0
    .rw[if_pos (by omega)];simp
    .rw[if_neg (by omega),if_pos h13];simp)
   simp[hw3,ho3,hco3,hwd]
   refine IH c J3 w.body (deep+1) _ C3 hb0.1 hb0.2.1 (by omega) hb0.2.2 ?_
   cases hq:lk w.body (deep+1)with
   | error e =>
    rw[hq]at h
    intro J4 A4
    simp
    exact h J4 (K2.trans (K3.trans (A4.keepL hx3)))
   | ok u =>
    rw[hq]at h
    simp only at h
    intro J4 A4
    have hw4:=(A4.obj J.no hwl3).trans hw3
    have ho4:=(A4.obj x hx3).trans ho3
    have hco4:=(A4.obj c hc3).trans hco3
    have L4:=L3.adds A4
    have C4:=C3.adds A4
    by_cases ho:0<=w.other
    .rw[if_pos ho]at h
     have hb1:0<=w.other/\w.other<B/\deep+1+w.other<=2^40:=hnm w.other (by unfold zh;rw[if_neg (by omega),if_pos h13];simp)
     simp[hw4,ho,ho4,hco4,hwd]
     refine IH c J4 w.other (deep+1) _ C4 hb1.1 hb1.2.1 (by omega) hb1.2.2 ?_
     cases hq2:lk w.other (deep+1)with
     | error e =>
      rw[hq2]at h
      intro J5 A5
      simp
      exact h J5 (K2.trans (K3.trans ((A4.trans A5).keepL hx3)))
     | ok u =>
      rw[hq2]at h
      intro J5 A5
      simp
      exact h J5 (K2.trans (K3.trans ((A4.trans A5).keepL hx3))) (L4.adds A5)
    .rw[if_neg ho]at h
     simp[hw4,ho]
     exact h J4 (K2.trans (K3.trans (A4.keepL hx3))) L4
 rw[if_neg h13]at h
 by_cases h15:w.op=15
 .rw[if_pos h15]at h
  simp[h15,hw2]
  refine zcc (ts:=[1]) (.inr ⟨_,rfl⟩) (by simp) L2 (by omega) ?_
  rw[show [(1:Int)].reverse=[1] from rfl]
  cases ht:zaA [1] s with
  | error e =>
   rw[ht]at h
   intro J3 K3
   simp
   exact h J3 (K2.trans K3)
  | ok s1 =>
   rw[ht]at h
   simp only at h
   intro J3 K3 L3
   have hs1:=zdu ht
   have C3:=C2.keep K3 hcx
   have hw3:=keepW K3
   have L3':=L3
   obtain⟨hx3,sv3,ho3,_⟩:=L3'
   by_cases hq:w.n=deep
   .rw[if_pos hq]at h
    simp[hw3,ho3,hq]
    refine zeH L3 C3 (by omega) ?_
    cases hq2:zK f.type s1 with
    | error e =>
     rw[hq2]at h
     intro J4 K4
     simp
     exact h J4 (K2.trans (K3.trans K4))
    | ok s2 =>
     rw[hq2]at h
     intro J4 K4 L4
     have hs2:s2.stack.length<=s1.stack.length:=by
      unfold zK at hq2
      split at hq2
      .cases hq2;exact yah _
      .exact zdu hq2
     have C4:=C3.keep K4 hcx
     have C4':=C4
     have L4':=L4
     obtain⟨hc4,fsv4,pv4,lv4,tv4,lsv4,hco4,_⟩:=C4'
     obtain⟨hx4,sv4,ho4,_⟩:=L4'
     simp[ho4,hco4]
     refine zaV L4 (by omega) λJ5 K5 L5=>?_
     simp
     exact h J5 (K2.trans (K3.trans (K4.trans K5))) L5
   .rw[if_neg hq]at h
    simp[hw3,ho3,hq]
    exact h J3 (K2.trans K3) L3
 rw[if_neg h15]at h
 have ret:∀{R':Out->AS->Prop},zwC R' x c deep J2 (zK f.type s)->zzQ G 162 [.ptr x 0] J2 R':=λhh=>zeH L2 C2 (by omega) hh
 by_cases h14:w.op=14
 .rw[if_pos h14]at h
  by_cases hq:w.n=deep
  .rw[if_pos hq]at h
   simp[h14,hw2,ho,hq]
   refine ret ?_
   cases hq2:zK f.type s with
   | error e =>
    rw[hq2]at h
    intro J4 K4
    simp
    exact h J4 (K2.trans K4)
   | ok s2 =>
    rw[hq2]at h
    intro J4 K4 L4
    simp
    refine zdt L4 λJ5 K5 L5=>?_
    simp
    exact h J5 (K2.trans (K4.trans K5)) L5
  .rw[if_neg hq]at h
   simp[h14,hw2,ho,hq]
   refine zdt L2 λJ5 K5 L5=>?_
   simp
   exact h J5 (K2.trans K5) L5
 rw[if_neg h14]at h
 by_cases h16:w.op=16
 .rw[if_pos h16]at h
  simp[h16,hw2]
  refine ret ?_
  cases hq2:zK f.type s with
  | error e =>
   rw[hq2]at h
   intro J4 K4
   simp
   exact h J4 (K2.trans K4)
  | ok s2 =>
   rw[hq2]at h
   intro J4 K4 L4
   simp
   refine zdt L4 λJ5 K5 L5=>?_
   simp
   exact h J5 (K2.trans (K4.trans K5)) L5
 rw[if_neg h16]at h
 by_cases h17:w.op=17
 .rw[if_pos h17]at h
  simp[h17,hw2]
  refine zdt L2 λJ5 K5 L5=>?_
  simp
  exact h J5 (K2.trans K5) L5
 rw[if_neg h17]at h
 simp[h11a,h11b,h13,h15,h14,h16,h17,hw2]
 rw[show yc6 [yc0 yam w.op,yc0 yam w.ty,yc0 yam w.n,yc0 yam w.body,yc0 yam w.other,ycZ w.name]=w.av from rfl]
 refine zqd V L2 C2 hcx (by omega) hn hps hf hr ?_
 revert h
 cases zc7 m.funcs ls w s with
 | ok s'=>intro h J3 K3 L3;simp;exact h J3 (K2.trans K3) L3
 | error e=>intro h J3 K3;simp;exact h J3 (K2.trans K3)
end
theorem zng(s:St)(t:Int):(zeE s t).stack.length<=s.stack.length+1:=by unfold zeE;split<;>simp
theorem zyA{ts:List Int}{s s':St}{t:Int}(h:zgR (zaA ts s) t=.ok s'):s'.stack.length<=s.stack.length+1:=by
 obtain⟨s1,e,rfl⟩:∃s1,zaA ts s=.ok s1/\s'=zeE s1 t:=by
  cases hq:zaA ts s with
  | error e=>rw[hq]at h;cases h
  | ok s1=>rw[hq]at h;cases h;exact⟨s1,rfl,rfl⟩
 have:=zdu e
 have:=zng s1 t
 omega
theorem zuI{fs:List F}{ls:List Int}{w:W}{s s':St}(h:zc7 fs ls w s=.ok s'):s'.stack.length<=s.stack.length+1:=by
 unfold zc7 at h
 repeat' split at h
 all_goals first
  | (cases h;first|exact zng _ _|omega)
  | exact zyA h
  | (have:=zdu h;omega)
  | (have:=zjw h;omega)
theorem zqe{ty:Int}{s s':St}(h:zK ty s=.ok s'):s'.stack.length<=s.stack.length:=by
 unfold zK at h
 split at h
 .cases h;exact yah _
 .exact zdu h
theorem zuJ{fs:List F}{ls:List Int}{ty deep:Int}{lk:zm9}{w:W}{s s':St}(h:zag fs ls ty deep lk w s=.ok s'):s'.stack.length<=s.stack.length+1:=by
 unfold zag at h
 by_cases h1:zT w=false
 .rw[if_pos h1]at h;cases h
 rw[if_neg h1]at h
 by_cases h2:zN fs ls deep w=false
 .rw[if_pos h2]at h;cases h
 rw[if_neg h2]at h
 by_cases h3:w.op=11\/w.op=12
 .rw[if_pos h3]at h
  split at h
  .cases h;omega
  .cases h
 rw[if_neg h3]at h
 by_cases h4:w.op=13
 .rw[if_pos h4]at h
  split at h
  .cases h
  .rename_i s1 hs1
   have:=zdu hs1
   split at h
   .cases h
   .split at h
    .split at h
     .cases h
     .cases h;omega
    .cases h;omega
 rw[if_neg h4]at h
 by_cases h5:w.op=15
 .rw[if_pos h5]at h
  split at h
  .cases h
  .rename_i s1 hs1
   have:=zdu hs1
   split at h
   .cases hq:zK ty s1 with
    | error e=>rw[hq]at h;cases h
    | ok s2 =>
     rw[hq]at h
     cases h
     have:=zqe hq
     have:=zng s2 ty
     omega
   .cases h;omega
 rw[if_neg h5]at h
 have hl:zp9.stack.length=0:=rfl
 by_cases h6:w.op=14
 .rw[if_pos h6]at h
  split at h
  .split at h
   .cases h
   .cases h;omega
  .cases h;omega
 rw[if_neg h6]at h
 by_cases h7:w.op=16
 .rw[if_pos h7]at h
  split at h
  .cases h
  .cases h;omega
 rw[if_neg h7]at h
 by_cases h8:w.op=17
 .rw[if_pos h8]at h;cases h;omega
 rw[if_neg h8]at h
 exact zuI h
structure zuK(m:M):Prop where
 funcs:m.funcs.length<=2^20
 params:∀f∈m.funcs,f.params.length<=2^20
 locals:∀f∈m.funcs,f.locals.length<=2^20
 lists:∀f∈m.funcs,f.lists.length<=2^20
 rows:∀f∈m.funcs,∀l∈f.lists,l.length<=2^20
 nums:∀f∈m.funcs,∀l∈f.lists,∀w∈l,w.n<=2^63-1
theorem zbP.made{x:Nat}{J J':AS}{cs:List AV}(K:zbP x (J.newO cs) J')(hx:x=J.no)(hn:∀v f,cs[1]?=some v->zeG v≠some f):zd J J' where
 no:=yai (by simp) K.no
 nf:=by have:=K.nf;simpa using this
 obj o ho:=by
  rw[K.obj o (by simp;omega) (by omega)]
  simp;omega
 fam f hf:=by
  rw[K.fam f (by simpa using hf) ?_]
  .rfl
  .rintro ⟨cs',v,h1,h2,h3⟩
   subst hx
   simp at h1
   subst h1
   exact hn v f h2 h3
def KI(x c:Nat)(deep:Int)(rv:AV)(row:List W)(J1:AS)(run:List W->St->Res St)(a:Nat->AV)(Z:AS):Prop:=∃(i:Nat) (s:St),i<=row.length/\a 2=.int .i64 deep/\a 6=.ptr x 0/\a 20=rv/\a 21=.int .i64 (row.length:Int)/\a 22=.int .i64 (i:Int)/\LS Z x c s deep/\zbP x J1 Z/\s.stack.length<=i /\
 run (row.drop i) s=run row ⟨[],false⟩
theorem zuL{G:Env}(V:znH G){m:M}(sm:zuK m){f:F}(hfm:f∈m.funcs)(ha:zlm f.lists)(ls:List Int):∀k:Nat,zBj G m f ls (min (k:Int) (f.lists.length:Int)) (zam m.funcs ls f.type f.lists k)
 | 0=>λc J at_ deep R _ h0 h1=>by omega
 | k+1=>by
  have IH:=zuL V sm hfm ha ls k
  intro c J at_ deep R C h0 h1 hd0 hd1 h
  refine zxp rfl ?_
  rw[zam]at h
  obtain⟨j,rfl⟩:∃j:Nat,at_=(j:Int):=⟨at_.toNat,by omega⟩
  have hj:j<f.lists.length:=by omega
  have hjk:j<k+1:=by omega
  rw[Int.toNat_natCast]at h
  have hrow:f.lists.getD j []=f.lists[j]:=by rw[ycQ,yau hj];rfl
  rw[hrow]at h
  have hahead:=ha j _ (yau hj)
  have hrl:=sm.rows f hfm f.lists[j] (yaw hj)
  have hnums:=sm.nums f hfm f.lists[j] (yaw hj)
  have C0:=C
  obtain⟨hc,fsv,pv,lv,tv,lsv,hco,hfs,hpv,hlv,htv,hls⟩:=C
  rcases htv with ⟨e,_⟩|⟨b,rows,rfl,hrows⟩
  .rw[e]at hj;simp at hj
  obtain⟨rv,hrv,hrep⟩:=hrows.get (yau hj)
  generalize f.lists[j]=row at *
  have hlen:=hrep.len
  have hcx:c≠J.no:=by omega
  simp[zGC,hco,hcx,hrv,hlen,splice]
  refine⟨hrep.one.2.2,?_⟩
  generalize hJ1:J.newO [yc4 c 0,yc7,AV.bool false,yc0 yam deep]=J1
  have hno1:J1.no=J.no+1:=by rw[<-hJ1];simp
  have ho1:J1.objs J.no=some [.ptr c 0,.nilsl,.bool false,.int .i64 deep]:=by rw[<-hJ1];simp
  have L1:LS J1 J.no c ⟨[],false⟩ deep:=⟨by omega,_,ho1,.inl ⟨rfl,rfl⟩⟩
  have A1:zd J J1:=by rw[<-hJ1];exact(zd.refl J).newO
  have C1:=C0.adds A1
  have made:∀{J'},zbP J.no J1 J'->zd J J':=λK=>by
   rw[<-hJ1]at K
   exact K.made rfl λv f hv hf=>by simp at hv;subst hv;simp[zeG]at hf
  refine zS (KI J.no c deep rv row J1 (zU m.funcs ls f.type deep (zam m.funcs ls f.type f.lists k))) (MU 22 (row.length+1)) ⟨0,⟨[],false⟩,by omega,by simp,by simp,by simp,by simp,by simp,L1,.refl _ _,by simp,by simp⟩ λa Z hI=>?_
  obtain⟨i,s,hi,a2,a6,a20,a21,a22,L,K,hsl,hrun⟩:=hI
  have C2:=C1.keep K hcx
  by_cases hlt:i<row.length
  .obtain⟨b2,hix2⟩:=hrep.at hlt
   have hlt':(i:Int)<(row.length:Int):=by omega
   rw[yc2 hlt,zU]at hrun
   simp[zf4,a6,a20,a21,a22,hlt,hix2,W.av,W.cs,splice]
   have hw3:yb4 .i64 ((i:Int)+1)=((i+1:Nat):Int):=by rw[zb]<;>omega
   have hmem:=yaw hlt
   have A3:zd Z ((Z.newO [yc0 yam 0,yc0 yam 0,yc0 yam 0,yc0 yam 0,yc0 yam 0,ycZ []]).setO Z.no row[i].cs):=((zd.refl Z).newO).setO (yah _)
   refine znf (w:=row[i]) V IH (L.adds A3) (C2.adds A3) hcx (by omega) hd0 (by omega) (hnums _ hmem) (λg hg=>by have:=sm.params g hg;omega) (λn hn=>?_) ?_
   .have:=hahead n (yc8.2 ⟨_,hmem,hn⟩)
    exact⟨this.1,by omega,by omega⟩
   .have KA:=K.trans (A3.keepL L.1)
    cases hq:zag m.funcs ls f.type deep (zam m.funcs ls f.type f.lists k) row[i] s with
    | error e =>
     rw[hq]at hrun
     simp only at hrun
     rw[<-hrun]at h
     intro J' K'
     simp
     exact h J' (made (KA.trans K'))
    | ok s' =>
     rw[hq]at hrun
     simp only at hrun
     have hle:=zuJ hq
     intro J' K' L'
     simp[a22,hw3]
     refine⟨⟨i+1,s',by omega,by simp[a2],by simp[a6],by simp[a20],by simp[a21],by simp,L',KA.trans K',by omega,hrun⟩,?_⟩
     simp only[MU,a22]
     simp;omega
  .have he:i=row.length:=by omega
   subst he
   simp[zU]at hrun
   rw[<-hrun]at h
   simp only at h
   have L':=L
   obtain⟨hx,sv,ho,hs⟩:=L'
   unfold zHe at h
   by_cases hdz:deep=0
   .rw[if_pos hdz]at h
    simp[zf4,zjj,a2,a6,a21,a22,hdz]
    refine zeH (by rw[hdz]at L;exact L) C2 (by omega) ?_
    cases hq:zK f.type s with
    | error e =>
     rw[hq]at h
     intro J' K'
     simp
     exact h J' (made (K.trans K'))
    | ok s3 =>
     rw[hq]at h
     intro J' K' L3
     obtain⟨hx3,sv3,ho3,hs3⟩:=L3
     have hsl3:=hs3.len
     by_cases hz:s3.stack.length=0
     .simp only[if_pos hz]at h
      have hz':s3.stack=[]:=ybS.1 hz
      simp[a6,ho3,hsl3,hz']
      refine ze (λ_=>?_) (λq=>by simp at q)
      simp
      exact h J' (made (K.trans K'))
     .simp only[if_neg hz]at h
      have hz':¬s3.stack=[]:=λq=>hz (by rw[q];rfl)
      simp[a6,ho3,hsl3,hz']
      refine ze (λq=>by simp at q) (λ_=>?_)
      simp
      exact h J' (made (K.trans K'))
   .rw[if_neg hdz]at h
    have hsl3:=hs.len
    by_cases hz:s.stack.length=0
    .simp only[if_pos hz]at h
     have hz':s.stack=[]:=ybS.1 hz
     simp[zf4,zjj,a2,a6,a21,a22,hdz,ho,hsl3,hz']
     refine ze (λ_=>?_) (λq=>by simp at q)
     simp
     exact h Z (made K)
    .simp only[if_neg hz]at h
     have hz':¬s.stack=[]:=λq=>hz (by rw[q];rfl)
     simp[zf4,zjj,a2,a6,a21,a22,hdz,ho,hsl3,hz']
     refine ze (λq=>by simp at q) (λ_=>?_)
     simp
     exact h Z (made K)
theorem zqf{G:Env}{J:AS}{R:Out->AS->Prop}{w:W}(h:∀v J',zaR v (zh w)->zd J J'->R (.ret v) J'):zzQ G 159 [w.av] J R:=by
 refine zxK rfl ?_
 have A:zd J (J.newO w.cs):=(zd.refl J).newO
 simp only[W.cs]at A
 unfold zh at h
 by_cases h1:w.op=11
 .rw[if_pos (.inl h1)]at h
  simp[zsG,W.av,W.cs,h1]
  exact h _ _ (.inr ⟨_,rfl⟩) (by simpa [h1]using A)
 by_cases h2:w.op=12
 .rw[if_pos (.inr (.inl h2))]at h
  simp[zsG,W.av,W.cs,h2]
  exact h _ _ (.inr ⟨_,rfl⟩) (by simpa [h2]using A)
 by_cases h3:w.op=13
 .by_cases ho:w.other<0
  .rw[if_pos (.inr (.inr ⟨h3,ho⟩))]at h
   simp[zsG,W.av,W.cs,h3,ho]
   exact h _ _ (.inr ⟨_,rfl⟩) (by simpa [h3]using A)
  .rw[if_neg (by omega),if_pos h3]at h
   simp[zsG,W.av,W.cs,h3,ho]
   exact h _ _ (.inr ⟨_,rfl⟩) (by simpa [h3]using A)
 .rw[if_neg (by omega),if_neg h3]at h
  simp[zsG,W.av,W.cs,h1,h2,h3]
  exact h _ _ (.inl ⟨rfl,rfl⟩) A
@[simp] theorem zHl(x y:Bool):aeq yb9 4 (.bool x) (.bool y)=some (x==y):=by simp[aeq,zk9,show yb9.underlying 4=some .bool from by kernel_rfl]
@[simp] theorem zFd:za yb9 106=true:=by kernel_rfl
def zbL(l:List Bool):List AV:=l.map AV.bool
def CI(J:AS)(o len:Nat)(named:List Bool)(a:Nat->AV)(Z:AS):Prop:=∃i:Nat,i<=len/\a 0=.slm o 0 1 len/\a 1=.bool false/\a 7=.int .i64 (len:Int)/\a 8=.int .i64 (i:Int)/\Z=J/\∀j,j<i->named[j]?=some true
theorem zlr{G:Env}{J:AS}{R:Out->AS->Prop}{o len:Nat}{named:List Bool}(ho:J.objs o=some (zbL named))(hl:len<=named.length)(hb:len<=2^40)(h:R (.ret (.bool (!(named.take len).all (·==true)))) J):zzQ G 160 [.slm o 0 1 len,.bool false] J R:=by
 refine zxL rfl ?_
 simp[zGQ]
 refine zxV rfl ?_
 simp[zGT]
 refine zS (CI J o len named) (MU 8 (len+1)) ⟨0,by omega,by simp,by simp,by simp,by simp,rfl,λj hj=>by omega⟩ λa Z hI=>?_
 obtain⟨i,hi,a0,a1,a7,a8,rfl,hall⟩:=hI
 have hw3:yb4 .i64 ((i:Int)+1)=((i+1:Nat):Int):=by rw[zb]<;>omega
 by_cases hlt:i<len
 .have hlt':(i:Int)<(len:Int):=by omega
  have hin:i<named.length:=by omega
  have hget:(zbL named)[i]?=some (.bool named[i]):=by simp[zbL,hin]
  have hge:∀q:i<(zbL named).length,(zbL named)[i]'q=.bool named[i]:=λq=>by rw[yau q]at hget;exact yaR.inj hget
  have hlb:i<(zbL named).length:=by simp[zbL];exact hin
  cases hv:named[i]with
  | true =>
   rw[hv]at hget hge
   simp[zhn,a0,a1,a7,a8,hlt,ho,hlb,hge,hw3]
   refine⟨⟨i+1,by omega,by simp[a0],by simp[a1],by simp[a7],by simp,rfl,λj hj=>?_⟩,?_⟩
   .by_cases e:j=i
    .subst e;rw[yau hin,hv]
    .exact hall j (by omega)
   .simp only[MU,a8];simp;omega
  | false =>
   rw[hv]at hget hge
   have e:(!(named.take len).all (·==true))=true:=by
    rw[Bool.not_eq_true',yc9]
    exact⟨false,yda.2 ⟨i,by rw[ybf];omega,by rw[yaE];exact hv⟩,by simp⟩
   rw[e]at h
   simp[zhn,a0,a1,a7,a8,hlt,ho,hlb,hge]
   exact h
 .have he:i=len:=by omega
  subst he
  have e:(!(named.take i).all (·==true))=false:=by
   rw[Bool.not_eq_false',yaM]
   intro b hb
   obtain⟨j,hj,rfl⟩:=yda.1 hb
   rw[ybf]at hj
   have:=hall j (by omega)
   rw[yau (by omega)]at this
   rw[yaE]
   simp[yaR.inj this]
  rw[e]at h
  simp[zhn,zrx,a7,a8]
  exact h
def FI(J:AS)(v:AV)(ls:List Int)(a:Nat->AV)(Z:AS):Prop:=∃i:Nat,i<=ls.length/\a 0=v/\a 1=.fn (.func 106) [] []/\a 7=.int .i64 (ls.length:Int)/\a 8=.int .i64 (i:Int)/\Z=J/\∀j,j<i->∃t,ls[j]?=some t/\zac t=true
theorem zhq{G:Env}{J:AS}{R:Out->AS->Prop}{v:AV}{ls:List Int}(hv:zaR v ls)(hb:ls.length<=2^40)(h:R (.ret (.bool (!ls.all zac))) J):zzQ G 95 [v,.fn (.func 106) [] []] J R:=by
 refine zuB rfl ?_
 simp[zKx]
 refine zrs rfl ?_
 simp[zDq,hv.len]
 refine zS (FI J v ls) (MU 8 (ls.length+1)) ⟨0,by omega,by simp,by simp,by simp,by simp,rfl,λj hj=>by omega⟩ λa Z hI=>?_
 obtain⟨i,hi,a0,a1,a7,a8,rfl,hall⟩:=hI
 have hw3:yb4 .i64 ((i:Int)+1)=((i+1:Nat):Int):=by rw[zb]<;>omega
 by_cases hlt:i<ls.length
 .rcases hv with ⟨rfl,_⟩|⟨b,rfl⟩
  .simp at hlt
  simp[zf5,a0,a1,a7,a8,hlt]
  refine zxl rfl ?_
  simp[zGB]
  refine zcX ?_
  cases hn:zac ls[i]with
  | true =>
   simp[a8,hw3]
   refine⟨⟨i+1,by omega,by simp[a0],by simp[a1],by simp[a7],by simp,rfl,λj hj=>?_⟩,?_⟩
   .by_cases e:j=i
    .subst e;exact⟨_,yau hlt,hn⟩
    .exact hall j (by omega)
   .simp only[MU,a8];simp;omega
  | false =>
   have e:(!ls.all zac)=true:=by
    rw[Bool.not_eq_true',yc9]
    exact⟨_,yaw hlt,by simp[hn]⟩
   rw[e]at h
   simp[a8]
   exact h
 .have he:i=ls.length:=by omega
  subst he
  have e:(!ls.all zac)=false:=by
   rw[Bool.not_eq_false',yaM]
   intro t ht
   obtain⟨j,hj,rfl⟩:=yda.1 ht
   obtain⟨t,h1,h2⟩:=hall j hj
   rw[yau hj]at h1
   cases h1
   exact h2
  rw[e]at h
  simp[zf5,zm6,a7,a8]
  exact h
theorem zow{G:Env}{J:AS}{R:Out->AS->Prop}{pv lv:AV}{p l:List Int}(hp:zaR pv p)(hl:zaR lv l)(hb:p.length+l.length<=2^30)(h:∀v J',zaR v (p++l)->zd J J'->R (.ret v) J'):zzQ G 105 [.sl (.stat true) 1 [pv,lv]] J R:=by
 refine zrB (zxk rfl ?_)
 have p1:=hp.one
 have l1:=hl.one
 have hpl:=hp.len
 have hll:=hl.len
 have w1:yb4 .i64 (p.length:Int)=(p.length:Int):=by rw[zb]<;>omega
 have w2:yb4 .i64 ((p.length:Int)+(l.length:Int))=(p.length:Int)+(l.length:Int):=by rw[zb]<;>omega
 have w3:yb4 .i64 1=1:=rfl
 have w4:yb4 .i64 2=2:=rfl
 have n1:¬(p.length:Int)<0:=by omega
 have n2:¬(p.length:Int)+(l.length:Int)<0:=by omega
 simp[zGA]
 refine zcb 3 ?_
 simp[zhh,p1,l1,hpl,hll,w1,w2,w3,w4,n1,n2,zhj,zro]
 have hgrow:∀{R':Out->AS->Prop},(p.length+l.length=0->R' (.ret .nilsl) J)->(0<p.length+l.length->R' (.ret (.sl (.fam J.nf false) 1 [])) J.newF)->zzQ G 158 [.nilsl,.int .i64 ((p.length:Int)+(l.length:Int))] J R':=by
  intro R' g0 g1
  refine zxJ rfl ?_
  have w5:yb4 .i64 0=0:=rfl
  by_cases hz:p.length+l.length=0
  .have hz':¬(0:Int)<(p.length:Int)+(l.length:Int):=by omega
   simp[zDr,n2,w5,w2,hz']
   exact g0 hz
  .have hz':(0:Int)<(p.length:Int)+(l.length:Int):=by omega
   obtain⟨n,hn⟩:∃n,((p.length:Int)+(l.length:Int)).toNat=n+1:=⟨((p.length:Int)+(l.length:Int)).toNat-1,by omega⟩
   simp[zDr,n2,w5,w2,hz',hn,ydb,zdJ,zc3]
   exact⟨by omega,by omega,by omega,by omega,g1 (by omega)⟩
 refine hgrow (λhz=>?_) (λhz=>?_)
 .have e1:p=[]:=ybS.1 (by omega)
  have e2:l=[]:=ybS.1 (by omega)
  subst e1 e2
  have:=h .nilsl J (.inl ⟨rfl,rfl⟩) (.refl _)
  have sta:∀K:AV->AS->Prop,∀v,zaR v []->zer yb9 44 44 .nilsl v J K=K .nilsl J:=by
   intro K v hv
   rcases hv with ⟨_,rfl⟩|⟨b,rfl⟩<;>simp
  simp
  refine zcb 3 ?_
  rcases hp with ⟨_,rfl⟩|⟨b,rfl⟩<;>rcases hl with ⟨_,rfl⟩|⟨b',rfl⟩<;>simp[zhi,zhj,w3,w4]<;>exact .inl this
 .simp
  refine zcb 3 ?_
  have fin:∀J',zd J J'->∀g,J.nf<=g->J'.F g=.alive->zsN R (.ret (.sl (.fam g false) 1 ((p++l).map (.int .i64)))) J':=by
   intro J' A' g hg ha
   refine .froze g (λ_=>false) ha ?_
   have:=h (.sl (.stat false) 1 ((p++l).map (.int .i64))) (J'.frz g λ_=>false) (.inr ⟨_,rfl⟩) (A'.frz hg λ_ _=>rfl)
   simpa [Function.comp_def]using this
  have A3:zd J ((J.newF.setF J.nf FSt.dead).newF.setF (J.nf+1) FSt.dead).newF:=((((zd.refl J).newF.setF (yah _)).newF).setF (by omega)).newF
  have key:=fin _ A3 (J.nf+1+1) (by omega) (by simp)
  rcases hp with ⟨rfl,rfl⟩|⟨b,rfl⟩<;>rcases hl with ⟨rfl,rfl⟩|⟨b',rfl⟩<;>simp[zhi,zhj,w3,w4]
  .simp at hz
  .exact⟨by simp at hb;omega,by simpa using key⟩
  .exact⟨by simp at hb;omega,by simpa using key⟩
  .exact⟨by omega,by omega,by simpa using key⟩
structure NS(J1:AS)(o:Nat)(named:List Bool)(L:Nat)(Z:AS):Prop where
 obj:Z.objs o=some (zbL named)
 len:named.length=L
 no:J1.no<=Z.no
 nf:J1.nf<=Z.nf
 oth:∀p,p<J1.no->p≠o->Z.objs p=J1.objs p
 fam:∀f,f<J1.nf->Z.F f=J1.F f
theorem NS.adds{J1 o named L Z Z'}(h:NS J1 o named L Z)(ho:o<J1.no)(A:zd Z Z'):NS J1 o named L Z' where
 obj:=(A.obj o (yag ho h.no)).trans h.obj
 len:=h.len
 no:=yai h.no A.no
 nf:=yai h.nf A.nf
 oth p hp hne:=(A.obj p (yag hp h.no)).trans (h.oth p hp hne)
 fam f hf:=(A.fam f (yag hf h.nf)).trans (h.fam f hf)
theorem NS.set{J1 o named named' L Z}(h:NS J1 o named L Z)(hl:named'.length=L):NS J1 o named' L (Z.setO o (zbL named')) where
 obj:=by simp
 len:=hl
 no:=h.no
 nf:=h.nf
 oth p hp hne:=by simp[hne];exact h.oth p hp hne
 fam f hf:=h.fam f hf
def zhr{α β:Type}(r:Res α)(k:α->Res β):Res β:=match r with
 | .error e=>.error e
 | .ok a=>k a
theorem zqg(a n:Int)(ns:List Int)(named:List Bool):zbt a (n::ns) named=zhr (ze2 a named n) λm=>zbt a ns m:=by
 rw[zbt];unfold zhr;cases ze2 a named n<;>rfl
theorem zuM(a:Int)(w:W)(ws:List W)(named:List Bool):zjt a (w::ws) named=zhr (zbt a (zh w) named) λm=>zjt a ws m:=by
 rw[zjt];unfold zhr;cases zbt a (zh w) named<;>rfl
theorem zsS(k:Nat)(l:List W)(ls:To)(named:List Bool):zcJ k (l::ls) named=zhr (zjt (k:Int) l named) λm=>zcJ (k+1) ls m:=by
 rw[zcJ];unfold zhr;cases zjt (k:Int) l named<;>rfl
def NI3(J1:AS)(o L:Nat)(tv:AV)(ls:To)(goal:Res (List Bool))(a:Nat->AV)(Z:AS):Prop:=∃(i:Nat) (named:List Bool),i<=ls.length/\a 2=.slm o 0 1 L/\a 28=tv/\a 29=.int .i64 (ls.length:Int)/\a 30=.int .i64 (i:Int)/\NS J1 o named L Z/\zcJ i (ls.drop i) named=goal
def NI2(J1:AS)(o L:Nat)(tv:AV)(ls:To)(k:Nat)(rv:AV)(row:List W)(goal:Res (List Bool))(a:Nat->AV)(Z:AS):Prop:=∃(j:Nat) (named:List Bool),j<=row.length/\a 2=.slm o 0 1 L/\a 28=tv/\a 29=.int .i64 (ls.length:Int)/\a 30=.int .i64 (k:Int)/\a 3=.int .i64 (k:Int)/\a 35=rv/\a 36=.int .i64 (row.length:Int)/\a 37=.int .i64 (j:Int)/\NS J1 o named L Z /\
 zhr (zjt (k:Int) (row.drop j) named) (λn=>zcJ (k+1) (ls.drop (k+1)) n)=goal
def NI1(J1:AS)(o L:Nat)(tv:AV)(ls:To)(k:Nat)(rv:AV)(row:List W)(j:Nat)(nv:AV)(ns:List Int)(goal:Res (List Bool))(a:Nat->AV)(Z:AS):Prop:=∃(q:Nat) (named:List Bool),q<=ns.length/\a 2=.slm o 0 1 L/\a 28=tv/\a 29=.int .i64 (ls.length:Int)/\a 30=.int .i64 (k:Int)/\a 3=.int .i64 (k:Int)/\a 35=rv/\a 36=.int .i64 (row.length:Int)/\a 37=.int .i64 (j:Int) /\
 a 42=nv/\a 43=.int .i64 (ns.length:Int)/\a 44=.int .i64 (q:Int)/\NS J1 o named L Z /\
 zhr (zhr (zbt (k:Int) (ns.drop q) named) λn=>zjt (k:Int) (row.drop (j+1)) n) (λn=>zcJ (k+1) (ls.drop (k+1)) n)=goal
theorem zqh{named:List Bool}{n:Nat}(h:n<named.length)(b:Bool):splice (zbL named) n [.bool b]=zbL (named.set n b):=by
 unfold splice zbL
 rw[List.set_eq_take_append_cons_drop,if_pos h]
 simp
theorem zox{G:Env}(V:znH G){J:AS}{R:Out->AS->Prop}{c:Nat}{m:M}{f:F}{ls0:List Int}(C:zrD J c m f ls0)(hb:f.lists.length<=2^20)(hrows:∀l∈f.lists,l.length<=2^20)(h:zJk R J (zdp f.lists)):zzQ G 108 [.ptr c 0] J R:=by
 refine zxo rfl ?_
 obtain⟨hc,fsv,pv,lv,tv,lsv,hco,hfs,hpv,hlv,htv,hls⟩:=C
 have hlen:=htv.len
 unfold zdp at h
 by_cases hz:f.lists.length=0
 .rw[if_pos hz]at h
  have hz':f.lists=[]:=ybS.1 hz
  simp[zDm,hco,hlen,hz']
  refine ze (λq=>by simp at q) (λ_=>?_)
  simp
  exact h J (.refl _)
 .rw[if_neg hz]at h
  have hz':¬f.lists=[]:=λq=>hz (by rw[q];rfl)
  have hpos:0<f.lists.length:=by omega
  simp[zDm,hco,hlen,hz',hpos]
  refine ze (λ_=>?_) (λq=>by simp at q)
  simp[hco,hlen]
  have hto:((f.lists.length:Int)).toNat=f.lists.length:=by omega
  generalize hgoal:zcJ 0 f.lists (yaj f.lists.length false)=goal at h
  refine⟨1,1,.bool false,by simp,by simp,by simp,rfl,rfl,rfl,by omega,by omega,by omega,?_⟩
  have hflat:zu (yaj f.lists.length (AV.bool false))=zbL (yaj f.lists.length false):=by
   unfold zu zbL
   induction f.lists.length with
   | zero=>rfl
   | succ n ih=>rw[ydb,ydb,yaa,yaL,ih];rfl
  have hcn:c≠J.no:=by omega
  simp[hflat,hcn,hco,hlen]
  generalize hJ1:J.newO (zbL (yaj f.lists.length false))=J1
  have hno1:J1.no=J.no+1:=by rw[<-hJ1];simp
  have A1:zd J J1:=by rw[<-hJ1];exact(zd.refl J).newO
  have N1:NS J1 J.no (yaj f.lists.length false) f.lists.length J1:=⟨by rw[<-hJ1];simp,by simp,yah _,yah _,λ_ _ _=>rfl,λ_ _=>rfl⟩
  have toA:∀{named Z},NS J1 J.no named f.lists.length Z->zd J Z:=λN=>⟨by have:=N.no;omega,yai A1.nf N.nf,λo ho=>(N.oth o (by omega) (by omega)).trans (A1.obj o ho),λg hg=>(N.fam g (yag hg A1.nf)).trans (A1.fam g hg)⟩
  refine zS (NI3 J1 J.no f.lists.length tv f.lists goal) (MU 30 (f.lists.length+1)) ⟨0,_,by omega,by simp,by simp,by simp,by simp,N1,by simpa using hgoal⟩ λa Z hI=>?_
  obtain⟨i,named0,hi,a2,a28,a29,a30,N0,hg0⟩:=hI
  by_cases hlt:i<f.lists.length
  .obtain⟨b,rv,hrep,hix⟩:=htv.at hlt
   have hrl:=hrows _ (yaw hlt)
   rw[yc2 hlt,zsS]at hg0
   generalize f.lists[i]=row at *
   have hrlen:=hrep.len
   have hr1:=hrep.one
   have hlt':(i:Int)<(f.lists.length:Int):=by omega
   simp[zji,a2,a28,a29,a30,hlt,hix,hr1,hrlen]
   refine zS (NI2 J1 J.no f.lists.length tv f.lists i rv row goal) (MU 37 (row.length+1)) ⟨0,named0,by omega,by simp[a2],by simp[a28],by simp[a29],by simp[a30],by simp,by simp,by simp,by simp,N0,by simpa using hg0⟩ λb ρ hI=>?_
   obtain⟨j,named1,hj,b2,b28,b29,b30,b3,b35,b36,b37,N2,hg1⟩:=hI
   by_cases hjl:j<row.length
   .obtain⟨q2,hix2⟩:=hrep.at hjl
    rw[yc2 hjl,zuM]at hg1
    simp[zf3,b35,b36,b37,hjl,hix2,W.av,W.cs,splice]
    rw[show yc6 [yc0 yam row[j].op,yc0 yam row[j].ty,yc0 yam row[j].n,yc0 yam row[j].body,yc0 yam row[j].other,ycZ row[j].name]=row[j].av from rfl]
    refine zqf λnv J3 hnv A3=>?_
    have A3':zd ρ J3:=(((zd.refl ρ).newO).setO (yah _)).trans A3
    have N3:=N2.adds (by omega) A3'
    have hnl:=hnv.len
    simp[hnl]
    refine zS (NI1 J1 J.no f.lists.length tv f.lists i rv row j nv (zh row[j]) goal) (MU 44 ((zh row[j]).length+1)) ⟨0,named1,by omega,by simp[b2],by simp[b28],by simp[b29],by simp[b30],by simp[b3],by simp[b35],by simp[b36],by simp[b37],by simp,by simp,by simp,N3,by simpa using hg1⟩ λd π hI=>?_
    obtain⟨q,named,hq,d2,d28,d29,d30,d3,d35,d36,d37,d42,d43,d44,N,hg⟩:=hI
    have ho:=N.obj
    have hnlen:=N.len
    have hbl:(zbL named).length=f.lists.length:=by simp[zbL,hnlen]
    by_cases hql:q<(zh row[j]).length
    .obtain⟨q3,hix3⟩:=hnv.at hql
     rw[yc2 hql,zqg]at hg
     have hw3:yb4 .i64 ((q:Int)+1)=((q+1:Nat):Int):=by
      have:(zh row[j]).length<=2:=by unfold zh;split<;>(try split)<;>simp
      rw[zb]<;>omega
     generalize hn:(zh row[j])[q]=n at *
     by_cases hok:0<=n/\n<(i:Int)
     .have hnl2:n.toNat<f.lists.length:=by omega
      have hnn:n.toNat<named.length:=by omega
      have hget:(zbL named)[n.toNat]?=some (.bool named[n.toNat]):=by simp[zbL,hnn]
      have hge:∀p:n.toNat<(zbL named).length,(zbL named)[n.toNat]'p=.bool named[n.toNat]:=λp=>by rw[yau p]at hget;exact yaR.inj hget
      have hlb:n.toNat<(zbL named).length:=by omega
      have hgd:named.getD n.toNat true=named[n.toNat]:=by rw[ycQ,yau hnn];rfl
      have hnL:n<(f.lists.length:Int):=by omega
      cases hv:named[n.toNat]with
      | true =>
       have hE:ze2 (i:Int) named n=.error 11:=by unfold ze2;rw[if_neg (by rw[hgd,hv];simp)]
       rw[hE]at hg
       simp[zhr]at hg
       rw[<-hg]at h
       rw[hv]at hget hge
       simp[zcr,d2,d3,d42,d43,d44,hql,hix3,hok.1,hok.2,ho,hlb,hge,hnL]
       refine ze (λq=>by simp at q) (λ_=>?_)
       simp
       exact h _ (toA N)
      | false =>
       have hE:ze2 (i:Int) named n=.ok (named.set n.toNat true):=by unfold ze2;rw[if_pos ⟨hok.1,hok.2,by rw[hgd,hv]⟩]
       rw[hE]at hg
       simp only[zhr]at hg
       rw[hv]at hget hge
       simp[zcr,d2,d3,d42,d43,d44,hql,hix3,hok.1,hok.2,ho,hlb,hge,hnL]
       refine ze (λ_=>?_) (λq=>by simp at q)
       simp[d2,d44,hok.1,hnL,ho,hlb,hw3]
       rw[zqh hnn]
       refine⟨hlb,⟨q+1,named.set n.toNat true,by omega,by simp[d2],by simp[d28],by simp[d29],by simp[d30],by simp[d3],by simp[d35],by simp[d36],by simp[d37],by simp[d42],by simp[d43],by simp,N.set (by simp[hnlen]),hg⟩,?_⟩
       simp only[MU,d44];simp;omega
     .have hE:ze2 (i:Int) named n=.error 11:=by unfold ze2;rw[if_neg (λq=>hok ⟨q.1,q.2.1⟩)]
      rw[hE]at hg
      simp[zhr]at hg
      rw[<-hg]at h
      by_cases h0:0<=n
      .have h1:¬n<(i:Int):=λq=>hok ⟨h0,q⟩
       simp[zcr,d2,d3,d42,d43,d44,hql,hix3,h0,h1]
       refine ze (λq=>by simp at q) (λ_=>?_)
       simp
       exact h _ (toA N)
      .simp[zcr,d2,d3,d42,d43,d44,hql,hix3,h0]
       refine ze (λq=>by simp at q) (λ_=>?_)
       simp
       exact h _ (toA N)
    .have he:q=(zh row[j]).length:=by omega
     subst he
     have hnil:(zh row[j]).drop (zh row[j]).length=[]:=by simp
     rw[hnil]at hg
     simp only[zbt,zhr]at hg
     have hw3:yb4 .i64 ((j:Int)+1)=((j+1:Nat):Int):=by rw[zb]<;>omega
     simp[zcr,zf2,d37,d43,d44,hw3]
     refine⟨⟨j+1,named,by omega,by simp[d2],by simp[d28],by simp[d29],by simp[d30],by simp[d3],by simp[d35],by simp[d36],by simp,N,hg⟩,?_⟩
     simp only[MU,b37];simp;omega
   .have he:j=row.length:=by omega
    subst he
    have hnil:row.drop row.length=[]:=by simp
    rw[hnil]at hg1
    simp only[zjt,zhr]at hg1
    have hw3:yb4 .i64 ((i:Int)+1)=((i+1:Nat):Int):=by rw[zb]<;>omega
    simp[zf3,zjh,b30,b36,b37,hw3]
    refine⟨⟨i+1,named1,by omega,by simp[b2],by simp[b28],by simp[b29],by simp,N2,hg1⟩,?_⟩
    simp only[MU,a30];simp;omega
  .have he:i=f.lists.length:=by omega
   subst he
   have hnil:f.lists.drop f.lists.length=[]:=by simp
   rw[hnil]at hg0
   simp only[zcJ]at hg0
   rw[<-hg0]at h
   simp only at h
   have hw3:yb4 .i64 ((f.lists.length:Int)-1)=((f.lists.length-1:Nat):Int):=by rw[zb]<;>omega
   simp[zji,zrp,a2,a29,a30,hw3]
   refine zlr N0.obj (by rw[N0.len];omega) (by omega) ?_
   cases hq:(named0.take (f.lists.length-1)).all (·==true)with
   | true =>
    rw[if_pos hq]at h
    simp
    refine ze (λ_=>?_) (λq=>by simp at q)
    simp
    exact h _ (toA N0)
   | false =>
    rw[if_neg (by rw[hq];simp)]at h
    simp
    refine ze (λq=>by simp at q) (λ_=>?_)
    simp
    exact h _ (toA N0)
theorem zi5{G:Env}(V:znH G){m:M}(sm:zuK m){f:F}(hfm:f∈m.funcs){J0 J:AS}{R:Out->AS->Prop}{c:Nat}(A0:zd J0 J)(hc0:J0.no<=c)(C:zrD J c m f [])(h:zJk R J0 (zk m.funcs f)):zzQ G 54 [.ptr c 0] J R:=by
 refine zC0 rfl ?_
 have C0:=C
 obtain⟨hc,fsv,pv,lv,tv,lsv,hco,hfs,hpv,hlv,htv,hls⟩:=C
 have p1:=hpv.one
 have l1:=hlv.one
 have hpb:=sm.params f hfm
 have hlb:=sm.locals f hfm
 simp[zLR,hco,p1,l1]
 refine zow hpv hlv (by omega) λv J1 hv A1=>?_
 have v1:=hv.one
 have hco1:=(A1.obj c hc).trans hco
 simp[hco1,v1,splice]
 generalize hJ2:J1.setO c [fsv,yc0 yam m.memory,yc0 yam m.main,ycZ f.name,pv,lv,yc0 yam f.type,tv,v]=J2
 have hc1:c<J1.no:=yag hc A1.no
 have hco2:J2.objs c=some [fsv,.int .i64 m.memory,.int .i64 m.main,.str f.name,pv,lv,.int .i64 f.type,tv,v]:=by rw[<-hJ2];simp
 have A2:zd J0 J2:=by rw[<-hJ2];exact(A0.trans A1).setO hc0
 have C2:zrD J2 c m f (f.params++f.locals):=⟨by rw[<-hJ2];simpa using hc1,_,_,_,_,_,hco2,hfs,hpv,hlv,htv,hv⟩
 unfold zk at h
 have hll:=sm.lists f hfm
 refine zhq hv (by simp;omega) ?_
 have fail:((f.params++f.locals).all zac&&decide (0<=f.type)&&decide (f.type<=2))=false->∀J',zd J0 J'->R (.panic (zln 6)) J':=λq=>by
  rw[if_pos q]at h;exact h
 cases hn:(f.params++f.locals).all zac with
 | false =>
  simp
  refine ze (λq=>by simp at q) (λ_=>?_)
  simp
  exact fail (by rw[hn];rfl) _ A2
 | true =>
 by_cases k0:0<=f.type
 .by_cases k2:f.type<=2
  .rw[if_neg (by rw[hn];simp[k0,k2])]at h
   simp[hco2,k0,k2]
   refine ze (λ_=>?_) (λq=>by simp at q)
   simp
   refine zox V C2 hll (λl hl=>sm.rows f hfm l hl) ?_
   cases hq:zdp f.lists with
   | error e =>
    rw[hq]at h
    intro J3 A3
    simp
    exact h J3 (A2.trans A3)
   | ok u =>
    rw[hq]at h
    simp only at h
    intro J3 A3
    have C3:=C2.adds A3
    have C3':=C3
    obtain⟨hc3,fsv3,pv3,lv3,tv3,lsv3,hco3,_,_,_,htv3,_⟩:=C3'
    obtain⟨hpos,hah,_⟩:=zbU hq
    have hlen3:=htv3.len
    have hw3:yb4 .i64 ((f.lists.length:Int)-1)=(f.lists.length:Int)-1:=by rw[zb]<;>omega
    simp[hco3,hlen3,hw3]
    refine zuL V sm hfm hah (f.params++f.locals) f.lists.length c J3 ((f.lists.length:Int)-1) 0 _ C3 (by omega) (by omega) (by omega) (by omega) ?_
    revert h
    cases zam m.funcs (f.params++f.locals) f.type f.lists f.lists.length ((f.lists.length:Int)-1) 0 with
    | ok u=>intro h J4 A4;simp;exact h J4 ((A2.trans A3).trans A4)
    | error e=>intro h J4 A4;simp;exact h J4 ((A2.trans A3).trans A4)
  .simp[hco2,k0,k2]
   refine ze (λq=>by simp at q) (λ_=>?_)
   simp
   exact fail (by simp[k2]) _ A2
 .simp[hco2,k0]
  refine ze (λq=>by simp at q) (λ_=>?_)
  simp
  exact fail (by simp[k0]) _ A2
@[simp] theorem zJl(t:Nat)(v:AV):aeq yb9 20 (.iface t v) .nilif=some false:=by simp[aeq,zk9,show yb9.underlying 20=some (.interface #[]) from by kernel_rfl]
@[simp] theorem zHm(t:Nat)(v:AV)(K:AV->Prop):zcz yb9 .neq 20 (.iface t v) .nilif K=K (.bool true):=by simp[zcz]
@[simp] theorem zMd:zbr yb9 20=some true:=by kernel_rfl
@[simp] theorem zMe(H:Option AV->(Nat->AV)->AS->Prop)(a:Nat->AV)(J:AS):aq H .ret a J=H none a J:=Eq.trans rfl rfl
@[simp] theorem zJm(H:Option AV->(Nat->AV)->AS->Prop)(v:AV)(a:Nat->AV)(J:AS):aq H (.panic v) a J=H (some v) a J:=Eq.trans rfl rfl
def MI(J1:AS)(mb eb:Nat)(fsv:AV)(m:M)(goal:Res Unit)(a:Nat->AV)(Z:AS):Prop:=∃i:Nat,i<=m.funcs.length/\a 1=.ptr mb 0/\a 2=.ptr eb 0/\a 16=fsv/\a 17=.int .i64 (m.funcs.length:Int)/\a 18=.int .i64 (i:Int)/\zd J1 Z/\zan m.funcs (m.funcs.drop i)=goal
theorem zqi{G:Env}(V:znH G){m:M}(sm:zuK m){J:AS}{R:Out->AS->Prop}{mv:AV}(hm:MV mv m)(h:∀J',zd J J'->R (.ret (.int .i64 (zsI (zaP m)))) J'):zzQ G 18 [mv] J R:=by
 refine zgu (px:=zBb) (pz:=zrk) (k:=52) (py:=zon) (n:=61) (nk:=8) (t:=5) (d0:=2) (d1:=1) (res:=[.cell 2 33]) zup Tryz.func18 rfl rfl rfl rfl (by kernel_rfl) (by kernel_rfl) (by simp) rfl rfl rfl rfl rfl rfl (by decide) Tryz.func52 rfl (by kernel_rfl) rfl rfl rfl rfl rfl rfl rfl rfl rfl (by kernel_rfl) (by decide) (by decide) (by decide) ?_
 obtain⟨fsv,rfl,hfs⟩:=hm
 have f1:=hfs.one
 have hfl:=hfs.len
 simp[zBb]
 have ecap:ydc (ev G (upd (upd (zc5 [yc6 [fsv,yc0 yam m.memory,yc0 yam m.main]]) 1 (yc4 J.no 0)) 2 (yc4 (J.no+1) 0))) #[Operand.tmp 2].toList=[.ptr (J.no+1) 0]:=rfl
 rw[ecap]
 generalize hfr:upd (upd (upd (zc5 [yc6 [fsv,yc0 yam m.memory,yc0 yam m.main]]) 1 (yc4 J.no 0)) 2 (yc4 (J.no+1) 0)) 5 (AV.fn (Fn.func 52) [] [yc4 (J.no+1) 0])=fr
 have fr1:fr 1=.ptr J.no 0:=by rw[<-hfr];simp
 have fr2:fr 2=.ptr (J.no+1) 0:=by rw[<-hfr];simp
 have hno1:((J.newO [fsv,yc0 yam m.memory,yc0 yam m.main]).newO [yc0 yam 0]).no=J.no+2:=by simp
 have A1:zd J ((J.newO [fsv,yc0 yam m.memory,yc0 yam m.main]).newO [yc0 yam 0]):=(zd.refl J).newO.newO
 have hm1:((J.newO [fsv,yc0 yam m.memory,yc0 yam m.main]).newO [yc0 yam 0]).objs J.no=some [fsv,.int .i64 m.memory,.int .i64 m.main]:=by simp
 have he1:((J.newO [fsv,yc0 yam m.memory,yc0 yam m.main]).newO [yc0 yam 0]).objs (J.no+1)=some [.int .i64 0]:=by simp
 generalize (J.newO [fsv,yc0 yam m.memory,yc0 yam m.main]).newO [yc0 yam 0]=J1 at *
 -- what is recovered
 have hand:∀(e:Int) (a:Nat->AV) (Z:AS),a 2=.ptr (J.no+1) 0->zd J1 Z->(∀J',zd J J'->R (.ret (.int .i64 e)) J')->zb2 yb9 G 8 zon 2 1 [.ptr (J.no+1) 0] [.cell 2 33] R (some (zln e)) a Z:=by
  intro e a Z a2 A hh
  have he:=(A.obj (J.no+1) (by omega)).trans he1
  simp[zb2,zon,zln,he,splice,a2]
  exact hh _ ((A1.trans A).setO (by omega))
 have done:∀(a:Nat->AV) (Z:AS),a 2=.ptr (J.no+1) 0->zd J1 Z->(∀J',zd J J'->R (.ret (.int .i64 0)) J')->zb2 yb9 G 8 zon 2 1 [.ptr (J.no+1) 0] [.cell 2 33] R none a (Z.setO (J.no+1) [.int .i64 0]):=by
  intro a Z a2 A hh
  simp[zb2,zon,splice,a2]
  exact hh _ ((A1.trans A).setO (by omega))
 unfold zaP at h
 by_cases k0:0<=m.memory
 .by_cases k1:m.memory<=4096
  .rw[if_neg (by simp[k0,k1])]at h
   simp[zrk,fr1,hm1,k0,k1]
   refine ze (λ_=>?_) (λq=>by simp at q)
   simp[fr1,hm1,f1,hfl]
   generalize hgoal:zan m.funcs m.funcs=goal at h
   refine zS (MI J1 J.no (J.no+1) fsv m goal) (MU 18 (m.funcs.length+1)) ⟨0,by omega,by simp[fr1],by simp[fr2],by simp,by simp,by simp,.refl _,by simpa using hgoal⟩ λa Z hI=>?_
   obtain⟨i,hi,a1,a2,a16,a17,a18,A,hg⟩:=hI
   have hm2:=(A.obj J.no (by omega)).trans hm1
   have he2:=(A.obj (J.no+1) (by omega)).trans he1
   by_cases hlt:i<m.funcs.length
   .obtain⟨b,fv,hfv,hix⟩:=hfs.at hlt
    have hmem:=yaw hlt
    rw[yc2 hlt,zan]at hg
    generalize m.funcs[i]=f at *
    obtain⟨pv,lv,tv,rfl,hp,hl,ht⟩:=hfv
    have p1:=hp.one
    have l1:=hl.one
    have t1:=ht.one
    have hmn:J.no≠Z.no:=by have:=A.no;omega
    simp[zc6,a1,a16,a17,a18,hlt,hix,p1,l1,t1,f1,splice,hm2,hmn]
    have A3:zd Z (((Z.newO [ycZ [],yc7,yc7,yc0 yam 0,yc7]).setO Z.no [ycZ f.name,pv,lv,yc0 yam f.type,tv]).newO [fsv,yc0 yam m.memory,yc0 yam m.main,ycZ f.name,pv,lv,yc0 yam f.type,tv,yc7]):=(((zd.refl Z).newO).setO (yah _)).newO
    refine zi5 V sm hmem A3 (by omega) ⟨by simp,_,_,_,_,_,by simp,hfs,hp,hl,ht,.inl ⟨rfl,rfl⟩⟩ ?_
    have hw3:yb4 .i64 ((i:Int)+1)=((i+1:Nat):Int):=by have:=sm.funcs;rw[zb]<;>omega
    cases hq:zk m.funcs f with
    | error e =>
     rw[hq]at hg
     simp only at hg
     rw[<-hg]at h
     intro J4 A4
     simp
     exact hand e _ J4 (by simp[zgt,a2]) (A.trans A4) h
    | ok u =>
     rw[hq]at hg
     simp only at hg
     intro J4 A4
     simp[a18,hw3]
     refine⟨⟨i+1,by omega,by simp[a1],by simp[a2],by simp[a16],by simp[a17],by simp,A.trans A4,hg⟩,?_⟩
     simp only[MU,a18];simp;omega
   .have he:i=m.funcs.length:=by omega
    subst he
    have hnil:m.funcs.drop m.funcs.length=[]:=by simp
    rw[hnil]at hg
    simp only[zan]at hg
    rw[<-hg]at h
    simp only at h
    have good:zgS m=true->∀J',zd J J'->R (.ret (.int .i64 0)) J':=λq=>by rw[if_pos q]at h;exact h
    have bad:zgS m=false->∀J',zd J J'->R (.ret (.int .i64 12)) J':=λq=>by rw[if_neg (by rw[q];simp)]at h;exact h
    by_cases q0:0<=m.main
    .by_cases q1:m.main<(m.funcs.length:Int)
     .have hlt2:m.main.toNat<m.funcs.length:=by omega
      obtain⟨b,fv,hfv,hix⟩:=hfs.at hlt2
      have e1:((m.main.toNat:Nat):Int)=m.main:=by omega
      rw[e1]at hix
      have hfn:m.funcs[m.main.toNat]?=some m.funcs[m.main.toNat]:=yau hlt2
      have hmb:zgS m=(decide (m.funcs[m.main.toNat].type=1)&&decide (m.funcs[m.main.toNat].params.length=0)):=by
       unfold zgS;rw[hfn];simp[q0]
      generalize m.funcs[m.main.toNat]=f at *
      obtain⟨pv,lv,tv,rfl,hp,hl,ht⟩:=hfv
      have hpl:=hp.len
      have p1:=hp.one
      by_cases q2:f.type=1
      .by_cases q3:f.params.length=0
       .have q3':f.params=[]:=ybS.1 q3
        simp[zc6,zd7,a1,a2,a16,a17,a18,hm2,he2,hfl,f1,q0,q1,hix,q2,hpl,p1,q3',splice]
        refine ze (λ_=>?_) (λq=>by simp at q)
        simp[a2,he2,splice]
        exact done _ Z (by simp[a2]) A (good (by rw[hmb];simp[q2,q3']))
       .have q3':¬f.params=[]:=λq=>q3 (by rw[q];rfl)
        simp[zc6,zd7,a1,a2,a16,a17,a18,hm2,he2,hfl,f1,q0,q1,hix,q2,hpl,p1,q3',splice]
        refine ze (λq=>by simp at q) (λ_=>?_)
        simp
        exact hand 12 _ Z (by simp[zgt,a2]) A (bad (by rw[hmb];simp[q3']))
      .simp[zc6,zd7,a1,a2,a16,a17,a18,hm2,he2,hfl,f1,q0,q1,hix,q2,splice]
       refine ze (λq=>by simp at q) (λ_=>?_)
       simp
       exact hand 12 _ Z (by simp[zgt,a2]) A (bad (by rw[hmb];simp[q2]))
     .simp[zc6,zd7,a1,a2,a16,a17,a18,hm2,he2,hfl,f1,q0,q1,splice]
      refine ze (λq=>by simp at q) (λ_=>?_)
      simp
      refine hand 12 _ Z (by simp[zgt,a2]) A (bad ?_)
      unfold zgS
      rw[yb2 (by omega)]
      simp
    .simp[zc6,zd7,a1,a2,a16,a17,a18,hm2,he2,hfl,f1,q0,splice]
     refine ze (λq=>by simp at q) (λ_=>?_)
     simp
     exact hand 12 _ Z (by simp[zgt,a2]) A (bad (by simp[zgS,q0]))
  .rw[if_pos (by simp[k1])]at h
   simp[zrk,fr1,hm1,k0,k1]
   refine ze (λq=>by simp at q) (λ_=>?_)
   simp
   exact hand 11 _ J1 (by simp[zgt,fr2]) (.refl _) h
 .rw[if_pos (by simp[k0])]at h
  simp[zrk,fr1,hm1,k0]
  refine ze (λq=>by simp at q) (λ_=>?_)
  simp
  exact hand 11 _ J1 (by simp[zgt,fr2]) (.refl _) h
mutual
def clm:AV->AV
 | .sl φ sz xs=>.sl (.stat φ.full) sz (zFe xs)
 | .agg cs=>.agg (zFe cs)
 | v=>v
def zFe:List AV->List AV
 | []=>[]
 | v::vs=>clm v::zFe vs
end
theorem zqj:∀l,zFe l=l.map clm
 | []=>by simp[zFe]
 | v::l=>by simp[zFe,zqj l]
@[simp] theorem zrE(φ sz xs):clm (.sl φ sz xs)=.sl (.stat φ.full) sz (xs.map clm):=by simp[clm,zqj]
@[simp] theorem zDC(cs):clm (.agg cs)=.agg (cs.map clm):=by simp[clm,zqj]
@[simp] theorem zuN(k n):clm (.int k n)=.int k n:=by simp[clm]
@[simp] theorem zDD(s):clm (.str s)=.str s:=by simp[clm]
@[simp] theorem zuO:clm .nilsl=.nilsl:=by simp[clm]
@[simp] theorem zyB(b):clm (.bool b)=.bool b:=by simp[clm]
theorem zoy(v:AV):(clm v).cells=v.cells.map clm:=by
 cases v with
 | agg cs=>simp
 | sl φ sz xs=>simp
 | _=>simp[clm,AV.cells]
theorem znh(l:List AV):zu (l.map clm)=(zu l).map clm:=by
 simp[zu,List.flatMap_map,List.map_flatMap,zoy]
inductive Cb(F:Nat->FSt):AV->Prop
 | bool (b:Bool):Cb F (.bool b)
 | int (k:IntKind) (n:Int):Cb F (.int k n)
 | str (s:List UInt8):Cb F (.str s)
 | nilsl:Cb F .nilsl
 | sl (φ:Abs.Own) (sz:Nat) (xs:List AV) (hr:zo F φ) (h:∀c∈zu xs,Cb F c):Cb F (.sl φ sz xs)
 | agg (cs:List AV) (h:∀c∈cs,Cb F c):Cb F (.agg cs)
end Go.Proofs.YtohfclafhegadaaGreatDoor
namespace Go.Abs
open Go Go.Abs
open Go.Proofs.YtohfclafhegadaaGreatDoor
theorem VR.clmTo{M:Mp}{F:Nat->FSt}{w:World}{v:AV}{c:Value}(h:VR M F w v c){M':Mp}{F':Nat->FSt}(hst:∀B m,M.role B=some (.st m)->M'.role B=some (.st m))(hfm:∀B f,M.role B=some (.fam f)->∃m,M'.role B=some (.st m))(hs:Cb F v):VR M' F' w (clm v) c:=by
 induction h with
 | bool b=>rw[zyB];exact .bool b
 | int k n=>rw[zuN];exact .int k n
 | str s=>rw[zDD];exact .str s
 | nilsl=>rw[zuO];exact .nilsl
 | slz b sz a=>rw[zrE];exact .slz _ sz a
 | sl φ sz xs B off cap cs hcap hlit hsz hm hc hv ih =>
  cases hs with
  | sl _ _ _ hr hs =>
  rw[zrE]
  have hl:(xs.map Go.Proofs.YtohfclafhegadaaGreatDoor.clm).length=xs.length:=by simp
  have hm':∃m,M'.role B=some (.st m):=by
   cases φ with
   | stat b =>
    obtain⟨m,hm⟩:=hm
    exact⟨m,hst B m hm⟩
   | fam f b=>exact hfm B f (hm.2 (by rw[hr];simp)).1
  have:=VR.sl (M:=M') (F:=F') (w:=w) (.stat φ.full) sz (xs.map Go.Proofs.YtohfclafhegadaaGreatDoor.clm) B off cap cs (by simpa using hcap) (λh=>by rw[hl];exact hlit h)
   (λx hx=>by simp at hx;obtain⟨y,hy,rfl⟩:=hx;rw[zoy,ybb];exact hsz y hy) hm' (λ_ j hj=>hc hr j (by rw[znh]at hj;simpa using hj))
   (λ_ j hj=>by
    have hj':j<(zu xs).length:=by rw[znh]at hj;simpa using hj
    have:=ih hr j hj' (hs _ (yaw hj'))
    simp only[znh,List.getElem_map]
    exact this)
  rw[hl]at this
  exact this
 | agg cs A hA va ih =>
  cases hs with
  | agg _ hs=>rw[zDC];exact .agg _ _ (by simpa using hA) (λj h h'=>by simpa using ih j (by simpa using h) h' (hs _ (yaw _)))
 | _=>cases hs
end Go.Abs
namespace Go.Proofs.YtohfclafhegadaaGreatDoor
open Go Go.Abs
end Go.Proofs.YtohfclafhegadaaGreatDoor
namespace Go.Abs
open Go Go.Abs
open Go.Proofs.YtohfclafhegadaaGreatDoor
theorem VR.clm{M:Mp}{F:Nat->FSt}{w:World}{v:AV}{c:Value}(h:VR M F w v c)(hs:Cb F v):VR (M.calm 1) AS.bare.F w (clm v) c :=
 h.clmTo (λ_ _ h=>zmR h) (λ_ _ h=>⟨false,zf0 h (λm q=>by cases q)⟩) hs
end Go.Abs
namespace Go.Proofs.YtohfclafhegadaaGreatDoor
open Go Go.Abs
inductive Pln:AV->Prop
 | bool (b:Bool):Pln (.bool b)
 | int (k:IntKind) (n:Int):Pln (.int k n)
 | str (s:List UInt8):Pln (.str s)
 | nilsl:Pln .nilsl
 | agg (cs:List AV) (h:∀c∈cs,Pln c):Pln (.agg cs)
 | tuple (cs:List AV) (h:∀c∈cs,Pln c):Pln (.tuple cs)
end Go.Proofs.YtohfclafhegadaaGreatDoor
namespace Go.Abs
open Go Go.Abs
open Go.Proofs.YtohfclafhegadaaGreatDoor
theorem VR.pln{M M':Mp}{F F':Nat->FSt}{w w':World}{v:AV}{c:Value}(h:VR M F w v c)(hs:Pln v):VR M' F' w' v c:=by
 induction h with
 | bool b=>exact .bool b
 | int k n=>exact .int k n
 | str s=>exact .str s
 | nilsl=>exact .nilsl
 | agg cs A hA va ih =>
  cases hs with
  | agg _ hs=>exact .agg _ _ hA (λj h h'=>ih j h h' (hs _ (yaw _)))
 | tuple cs A hA va ih =>
  cases hs with
  | tuple _ hs=>exact .tuple _ _ hA (λj h h'=>ih j h h' (hs _ (yaw _)))
 | _=>cases hs
end Go.Abs
namespace Go.Proofs.YtohfclafhegadaaGreatDoor
open Go Go.Abs
inductive StillI:AV->Prop
 | undef:StillI .undef
 | int (k:IntKind) (n:Int):StillI (.int k n)
 | str (s:List UInt8):StillI (.str s)
 | pv (b:Bool) (v:AV) (h:∀c∈v.cells,StillI c):StillI (.pv (.stat b) v)
 | iface (t:TypeId) (v:AV) (h:StillI v):StillI (.iface t v)
 | mp (ks vs:List AV):StillI (.mp ks vs)
end Go.Proofs.YtohfclafhegadaaGreatDoor
namespace Go.Abs
open Go Go.Abs
open Go.Proofs.YtohfclafhegadaaGreatDoor
theorem VR.stillI{M:Mp}{F:Nat->FSt}{w:World}{v:AV}{c:Value}(h:VR M F w v c){M':Mp}{F':Nat->FSt}(hr:∀B m,M.role B=some (.st m)->M'.role B=some (.st m))(hs:StillI v):VR M' F' w v c:=by
 induction h with
 | undef c=>exact .undef c
 | int k n=>exact .int k n
 | str s=>exact .str s
 | pv φ v B off cs hm hc hv ih =>
  cases hs with
  | pv b _ hs =>
  obtain⟨m,hm⟩:=hm
  exact .pv _ v B off cs ⟨m,hr B m hm⟩ (λ_=>hc trivial) (λ_ j hj=>ih trivial j hj (hs _ (yaw hj)))
 | iface t v c h ih =>
  cases hs with
  | iface _ _ hs=>exact .iface t _ _ (ih hs)
 | mp ks vs b es c h1 h2 h3=>exact .mp ks vs b es c (hr b false h1) h2 h3
 | _=>cases hs
end Go.Abs
namespace Go.Proofs.YtohfclafhegadaaGreatDoor
open Go Go.Abs
theorem zKI{P:Program}{G:Env}{M:Mp}{J:AS}{w:World}(g:GOk P G M J.F w)(hG:∀k,StillI (G.g k))(hy:∀l,¬G.has l):GOk P G (M.calm 1) AS.bare.F w where
 vars k:=(g.vars k).stillI (λ_ _ h=>zmR h) (hG k)
 yields l hl:=absurd hl (hy l)
 fixed B cs hB:=by
  obtain⟨h1,h2⟩:=g.fixed B cs hB
  exact⟨zmR h1,h2⟩
theorem zqk{P:Program}{G:Env}{f:FuncId}{J:AS}{R:Out->AS->Prop}{vs:List AV}{Q:AV->Prop}(hG:∀k,StillI (G.g k))(hy:∀l,¬G.has l)(hv:∀v∈vs,Cb J.F v)(h:ACalls P G f (vs.map clm) AS.bare λo _=>∃x,o=.ret x/\Pln x/\Q x)(hR:∀x,Q x->R (.ret x) J):ACalls P G f vs J R:=by
 intro M w cargs S g c
 refine(h (M.calm 1) w cargs S.calm (zKI g hG hy) ⟨by rw[ybb];exact c.1,λj v hj=>?_⟩).mono λe w' ⟨o,J',M',⟨x,ho,hx,hq⟩,h2,h3,h4⟩=>?_
 .rw[ydd,ybB]at hj
  obtain⟨v0,h1,rfl⟩:=hj
  obtain⟨c0,e0,q0⟩:=c.2 j v0 h1
  exact⟨c0,e0,q0.clm (hv v0 (yc5 h1))⟩
 .subst ho
  refine⟨_,J,M,hR x hq,?_,S.calmed h4,Ext.calm S h4⟩
  cases e<;>simp only[zbj]at h2 ⊢
  exact h2.pln hx
theorem zKJ(w:W):clm w.av=w.av:=by simp[W.av,W.cs]
theorem zMv{F:Nat->FSt}(w:W):∀c∈w.av.cells,Cb F c:=by
 intro c hc
 simp only[W.av,W.cs,AV.cells,ybC,yde,or_false]at hc
 rcases hc with rfl|rfl|rfl|rfl|rfl|rfl
 all_goals first|exact .int _ _|exact .str _
theorem zuP{J:AS}{v:AV}{l:List W}(h:Al.RepO J v l):Cb J.F v/\zsM (clm v) l:=by
 rcases h with ⟨rfl,rfl⟩|⟨φ,rfl,r⟩
 .exact⟨.nilsl,.inl ⟨rfl,by simp⟩⟩
 .refine⟨.sl _ _ _ r.read λc hc=>?_,.inr ⟨φ.full,by simp[Function.comp_def,zKJ]⟩⟩
  simp only[zu,yc8,yaV]at hc
  obtain⟨x,⟨w,_,rfl⟩,hx⟩:=hc
  exact zMv w c hx
theorem zjx{J:AS}{v:AV}{l:List Int}(h:Al.IntsO J v l):Cb J.F v/\zaR (clm v) l:=by
 rcases h with ⟨rfl,rfl⟩|⟨φ,rfl,r⟩
 .exact⟨.nilsl,.inl ⟨rfl,by simp⟩⟩
 .refine⟨.sl _ _ _ r.read λc hc=>?_,.inr ⟨φ.full,by simp[Function.comp_def]⟩⟩
  simp only[zu,yc8,yaV]at hc
  obtain⟨x,⟨w,_,rfl⟩,hx⟩:=hc
  simp only[AV.cells,ydf]at hx
  subst hx
  exact .int _ _
theorem zni{α:Type}{Q Q':AV->α->Prop}{P:AV->Prop}(hq:∀v a,Q v a->P v/\Q' (clm v) a):∀{xs:List AV} {l:List α},All2 Q xs l->(∀x∈xs,P x)/\All2 Q' (xs.map clm) l
 | _,_,.nil=>⟨λx h=>(by cases h),.nil⟩
 | _,_,.cons h hs=>by
  obtain⟨h1,h2⟩:=hq _ _ h
  obtain⟨h3,h4⟩:=zni hq hs
  exact⟨λx hx=>by
   rcases ybC.1 hx with rfl|hx
   .exact h1
   .exact h3 x hx,.cons h2 h4⟩
theorem zuQ{v:AV}(h:v.cells=[v]):∀c∈v.cells,c=v:=λc hc=>by rw[h]at hc;simpa using hc
theorem zuR{J:AS}{v:AV}{l:To}(h:Al.LstO J v l):Cb J.F v/\zdN (clm v) l:=by
 rcases h with ⟨rfl,rfl⟩|⟨φ,rows,rfl,r,k⟩
 .exact⟨.nilsl,.inl ⟨rfl,by simp⟩⟩
 .obtain⟨k1,k2⟩:=zni (P:=λv=>Cb J.F v/\v.cells=[v]) (Q':=zsM) (λv a q=>⟨⟨(zuP q).1,q.one.2.2⟩,(zuP q).2⟩) k
  refine⟨.sl _ _ _ r.read λc hc=>?_,.inr ⟨φ.full,rows.map clm,by simp,k2⟩⟩
  simp only[zu,yc8]at hc
  obtain⟨x,hx,hc⟩:=hc
  rw[zuQ (k1 x hx).2 c hc]
  exact(k1 x hx).1
theorem zHn{J:AS}{v:AV}{f:F}(h:Al.FVO J v f):(∀c∈v.cells,Cb J.F c)/\FV (clm v) f:=by
 obtain⟨pv,lv,tv,rfl,a,b,c⟩:=h
 refine⟨λx hx=>?_,clm pv,clm lv,clm tv,by simp,(zjx a).2,(zjx b).2,(zuR c).2⟩
 simp only[AV.cells,ybC,yde,or_false]at hx
 rcases hx with rfl|rfl|rfl|rfl|rfl
 .exact .str _
 .exact(zjx a).1
 .exact(zjx b).1
 .exact .int _ _
 .exact(zuR c).1
theorem zBk{J:AS}{v:AV}{m:M}(h:Al.MO J v m):Cb J.F v/\MV (clm v) m:=by
 obtain⟨fv,rfl,h⟩:=h
 have key:Cb J.F fv/\FsV (clm fv) m.funcs:=by
  rcases h with ⟨h,rfl⟩|⟨φ,rows,rfl,r,k⟩
  .exact⟨.nilsl,.inl ⟨h,by simp⟩⟩
  .obtain⟨k1,k2⟩:=zni (P:=λv=>∀c∈v.cells,Cb J.F c) (Q':=FV) (λv a q=>zHn q) k
   refine⟨.sl _ _ _ r.read λc hc=>?_,.inr ⟨φ.full,rows.map clm,by simp,k2⟩⟩
   simp only[zu,yc8]at hc
   obtain⟨x,hx,hc⟩:=hc
   exact k1 x hx c hc
 refine⟨.agg _ λc hc=>?_,clm fv,by simp,key.2⟩
 simp only[ybC,yde,or_false]at hc
 rcases hc with rfl|rfl|rfl
 .exact key.1
 .exact .int _ _
 .exact .int _ _
section
variable {G : Env} {J : AS} {R : Out -> AS -> Prop}
theorem zoz{m:M}{mv:AV}(V:znH G)(hG:∀k,StillI (G.g k))(hy:∀l,¬G.has l)(hm:Al.MO J mv m)(sm:zuK m)(h:R (.ret (.int .i64 (zsI (zaP m)))) J):zzQ G 18 [mv] J R:=by
 obtain⟨h1,h2⟩:=zBk hm
 refine zqk (vs:=[mv]) (Q:=λx=>x=.int .i64 (zsI (zaP m))) hG hy (λv hv=>by simp at hv;subst hv;exact h1) ?_ λx hx=>by rw[hx];exact h
 exact zqi V sm h2 λJ' _=>⟨_,rfl,.int _ _,rfl⟩
def TsI(m:M)(o:Nat)(fv:AV)(J:AS)(a:Nat->AV)(Z:AS):Prop:=∃i:Nat,i<=m.funcs.length/\(∀f∈m.funcs.take i,ztH 24 f.name=true)/\a 1=.ptr o 0/\a 3=.int .i64 (i:Int)/\Z.objs o=some [fv,.int .i64 m.memory,.int .i64 m.main]/\Z=J
theorem zHo{m:M}{mv:AV}(hm:Al.MO J mv m)(hl:m.funcs.length<=2^40)(hn:∀f∈m.funcs,f.name.length<2^40)(h:∀J',zd J J'->R (.ret (.bool (m.funcs.all λf=>ztH 24 f.name))) J'):zzQ G 17 [mv] J R:=by
 refine zCA rfl ?_
 obtain⟨fv,rfl,hfv⟩:=hm
 have f1:=hfv.one
 have A1:zd J (J.newO [fv,.int .i64 m.memory,.int .i64 m.main]):=(zd.refl J).newO
 have hf1:=hfv.keep A1
 have o1:(J.newO [fv,.int .i64 m.memory,.int .i64 m.main]).objs J.no=some [fv,.int .i64 m.memory,.int .i64 m.main]:=by simp
 simp[zLz,f1]
 generalize J.newO [fv,.int .i64 m.memory,.int .i64 m.main]=J1 at *
 have fl:=hf1.len
 refine zS (TsI m J.no fv J1) (MU 3 (m.funcs.length+1)) ⟨0,ycW _,by simp,by simp,by simp,o1,rfl⟩ λa Z hI=>?_
 obtain⟨i,hi,hok,a1,a3,ho,rfl⟩:=hI
 by_cases hlt:i<m.funcs.length
 .obtain⟨φ,row,hr,hrow,hat⟩:=hf1.at hlt
  have hr':=hr.read
  have hlti:(i:Int)<(m.funcs.length:Int):=by omega
  have w1:yb4 .i64 ((i:Int)+1)=((i+1:Nat):Int):=by rw[zb]<;>omega
  have hmem:m.funcs[i]∈m.funcs:=yaw hlt
  have htk:m.funcs.take (i+1)=m.funcs.take i++[m.funcs[i]]:=ycX hlt
  generalize hf:m.funcs[i]=f at *
  obtain⟨pv,lv,tv,rfl,_⟩:=hrow
  simp[zmT,a1,a3,ho,f1,fl,hlt,hlti,hat,hr']
  refine zHj (hn f hmem) ?_
  cases ht:ztH 24 f.name with
  | false =>
   have e:(m.funcs.all λf=>ztH 24 f.name)=false:=by
    rw[Bool.eq_false_iff]
    intro q
    have:=yaM.1 q f hmem
    rw[ht]at this
    cases this
   have:=h _ A1
   rw[e]at this
   simp
   exact this
  | true =>
   simp[a1,a3,w1]
   refine⟨⟨i+1,hlt,λg hg=>?_,by simp[a1],by simp,ho,rfl⟩,?_⟩
   .rw[htk,ybh,ydf]at hg
    rcases hg with hg|rfl
    .exact hok g hg
    .exact ht
   .simp[MU,a3];omega
 .have e:i=m.funcs.length:=by omega
  have e2:(m.funcs.all λf=>ztH 24 f.name)=true:=by
   rw[yaM]
   intro f hf
   exact hok f (by rw[e,ydg (yah _)];exact hf)
  have:=h _ A1
  rw[e2]at this
  simp[zmT,zur,a1,a3,ho,f1,fl,e]
  exact this
end
@[simp] theorem zJn(t):za3 t []=false:=by simp[za3]
@[simp] theorem zJo(t i k r):za3 t ((i,.tmp k)::r)=false:=by simp[za3]
@[simp] theorem zJp(t i n r):za3 t ((i,.const (.int .i64 n))::r)=false:=by simp[za3]
@[simp] theorem zJq(t i n r):za3 t ((i,.const (.string n))::r)=false:=by simp[za3]
def zY(n:Int):UInt8:=UInt8.ofNat (n%256).toNat
def uF:Nat->Int->List UInt8
 | 0,_=>[]
 | k+1,n=>if n<=127 then [zY n]else(zY n ||| 128)::uF k (n/128)
def sF:Nat->Int->List UInt8
 | 0,_=>[]
 | k+1,n=>if -64<=n/\n<=63 then [zY n &&& 127]else(zY n ||| 128)::sF k (n/128)
def uI(n:Int):List UInt8:=uF 10 n
def sI(n:Int):List UInt8:=sF 10 n
theorem zct(n:Int):((zY n).toNat:Int)=n%256:=by
 unfold zY
 have h1:0<=n%256/\n%256<256:=⟨Int.emod_nonneg _ (by decide),Int.emod_lt_of_pos _ (by decide)⟩
 rw[UInt8.toNat_ofNat']
 omega
theorem wrap_u8(n:Int):yb4 .u8 n=((zY n).toNat:Int):=by
 rw[zct]
 simp[yb4,yao,yap]
theorem znj(f:BitVec 8->BitVec 8->BitVec 8)(a b:UInt8):zbo .u8 f (a.toNat:Int) (b.toNat:Int)=((f a.toBitVec b.toBitVec).toNat:Int):=by
 have e1:BitVec.ofInt 8 (a.toNat:Int)=a.toBitVec:=by
  apply BitVec.eq_of_toNat_eq
  simp
 have e2:BitVec.ofInt 8 (b.toNat:Int)=b.toBitVec:=by
  apply BitVec.eq_of_toNat_eq
  simp
 show yb4 .u8 ((f (BitVec.ofInt 8 (a.toNat:Int)) (BitVec.ofInt 8 (b.toNat:Int))).toNat:Int)=_
 rw[e1,e2]
 have:=(f a.toBitVec b.toBitVec).isLt
 simp[yb4,yao,yap]
 omega
theorem zsT(a:UInt8):zbo .u8 (· ||| ·) (a.toNat:Int) 128=((a ||| 128).toNat:Int):=by
 exact znj (· ||| ·) a 128
theorem zuS(a:UInt8):zbo .u8 (· &&& ·) (a.toNat:Int) 127=((a &&& 127).toNat:Int):=by
 exact znj (· &&& ·) a 127
theorem zFf(n:Int):n.fdiv (2^min 7 yam.bits)=n/128:=by
 show n.fdiv 128=n/128
 exact Int.fdiv_eq_ediv_of_nonneg _ (by decide)
@[simp] theorem zHp(bs:List UInt8):(B bs).length=bs.length:=by simp[B]
@[simp] theorem zMw(x y:List UInt8):B (x++y)=B x++B y:=by simp[B]
theorem zBl:∀(k:Nat) (n:Int),(uF k n).length<=k
 | 0,_=>by simp[uF]
 | k+1,n=>by
  rw[uF]
  split
  .simp
  .simp[zBl k]
theorem zBm:∀(k:Nat) (n:Int),(sF k n).length<=k
 | 0,_=>by simp[sF]
 | k+1,n=>by
  rw[sF]
  split
  .simp
  .simp[zBm k]
def zdx(J J':AS)(v:AV)(bs:List UInt8):Prop:=zJh J' J.nf 1 v (B bs)/\zd J J'
section
variable {G : Env} {J : AS} {R : Out -> AS -> Prop}
def UnI(n0:Int)(J:AS)(a:Nat->AV)(Z:AS):Prop:=∃(k:Nat) (n:Int) (bs:List UInt8),1<=k/\k<=10/\n<128^k/\bs++uF k n=uI n0/\bs.length+k<=10/\a 0=.int .i64 n/\((bs=[]/\a 3=.nilsl)\/∃g,a 3=.sl (.fam g false) 1 (B bs)/\J.nf<=g/\g<Z.nf/\Z.F g=.alive)/\zd J Z
def MUn(r:Nat)(a:Nat->AV)(_:AS):Nat:=match a r with|.int _ i=>i.toNat|_=>0
theorem zdC{n:Int}(hn:n<2^63)(h:∀v J',zdx J J' v (uI n)->R (.ret v) J'):zzQ G 35 [.int .i64 n] J R:=by
 refine zCJ rfl ?_
 simp[zLG]
 refine zS (UnI n J) (MUn 0) ⟨10,n,[],by omega,by omega,by omega,rfl,by simp,by simp,.inl ⟨rfl,by simp⟩,.refl _⟩ λa Z hI=>?_
 obtain⟨k,m,bs,h1,h2,h3,h4,h5,a0,hO,hA⟩:=hI
 obtain⟨k,rfl⟩:∃j,k=j+1:=⟨k-1,by omega⟩
 rw[uF]at h4
 by_cases hm:m<=127
 .rw[if_pos hm]at h4
  have hm':¬127<m:=by omega
  have hbl:(B bs).length=bs.length:=by simp[B]
  have hBa:B bs++[yc0 .u8 ((zY m).toNat:Int)]=B (bs++[zY m]):=by simp[B]
  rcases hO with ⟨rfl,a3⟩|⟨g,a3,g1,g2,g3⟩
  .simp[zh5,zpX,a0,a3,hm',wrap_u8]
   refine h _ _ ⟨.inr ⟨Z.nf,?_,hA.nf,by simp,by simp⟩,hA.newF⟩
   rw[<-h4];simp[B]
  .simp[zh5,zpX,a0,a3,hm',wrap_u8,g3]
   refine⟨by omega,?_⟩
   refine h _ _ ⟨.inr ⟨Z.nf,?_,hA.nf,by simp,by simp⟩,(hA.setF g1).newF (J':=Z.setF g .dead)⟩
   rw[<-h4];simp[B]
 .rw[if_neg hm]at h4
  have hm':127<m:=by omega
  have hk:1<=k:=by
   rcases ybr k with rfl|h
   .simp at h3;omega
   .exact h
  have hlt:m/128<128^k:=by
   rw[ydh]at h3
   omega
  rcases hO with ⟨rfl,a3⟩|⟨g,a3,g1,g2,g3⟩
  .simp[zh5,a0,a3,hm',wrap_u8,zsT,zFf]
   refine⟨⟨k,m/128,[zY m ||| 128],hk,by omega,hlt,by rw[<-h4];simp,by simp at h5 ⊢;omega,by simp,.inr ⟨Z.nf,by simp[B],hA.nf,by simp,by simp⟩,hA.newF⟩,?_⟩
   simp only[MUn,a0];simp;omega
  .simp[zh5,a0,a3,hm',wrap_u8,zsT,zFf,g3]
   have hgn:=hA.nf
   refine⟨by omega,⟨k,m/128,bs++[zY m ||| 128],hk,by omega,hlt,by rw[<-h4];simp,by simp at h5 ⊢;omega,by simp,.inr ⟨Z.nf,by simp[B],hgn,by simp,by simp⟩,(hA.setF g1).newF (J':=Z.setF g .dead)⟩,?_⟩
   simp only[MUn,a0];simp;omega
def SnI(n0:Int)(J:AS)(a:Nat->AV)(Z:AS):Prop:=∃(k:Nat) (n:Int) (bs:List UInt8),k<=9/\-(64*128^k)<=n/\n<64*128^k/\bs++sF (k+1) n=sI n0/\bs.length+k+1<=10/\a 0=.int .i64 n/\((bs=[]/\a 3=.nilsl)\/∃g,a 3=.sl (.fam g false) 1 (B bs)/\J.nf<=g/\g<Z.nf/\Z.F g=.alive)/\zd J Z
def MUs(r:Nat)(a:Nat->AV)(_:AS):Nat:=match a r with|.int _ i=>i.natAbs|_=>0
theorem zql{n:Int}(hn:-(2^63)<=n/\n<2^63)(h:∀v J',zdx J J' v (sI n)->R (.ret v) J'):zzQ G 36 [.int .i64 n] J R:=by
 refine zCK rfl ?_
 simp[zLH]
 refine zS (SnI n J) (MUs 0) ⟨9,n,[],by omega,by omega,by omega,rfl,by simp,by simp,.inl ⟨rfl,by simp⟩,.refl _⟩ λa Z hI=>?_
 obtain⟨k,m,bs,h2,h3,h3',h4,h5,a0,hO,hA⟩:=hI
 rw[sF]at h4
 have fin:∀(x:Prop),x=(m < -64\/63<m)->x=x:=λ_ _=>rfl
 by_cases hm:-64<=m/\m<=63
 .rw[if_pos hm]at h4
  have hm1:¬m < -64:=by omega
  have hm2:¬63<m:=by omega
  rcases hO with ⟨rfl,a3⟩|⟨g,a3,g1,g2,g3⟩
  .simp[zfr,zpY,a0,a3,hm1,hm2,wrap_u8,zuS]
   refine h _ _ ⟨.inr ⟨Z.nf,?_,hA.nf,by simp,by simp⟩,hA.newF⟩
   rw[<-h4];simp[B]
  .simp[zfr,zpY,a0,a3,hm1,hm2,wrap_u8,zuS,g3]
   refine⟨by omega,?_⟩
   refine h _ _ ⟨.inr ⟨Z.nf,?_,hA.nf,by simp,by simp⟩,(hA.setF g1).newF (J':=Z.setF g .dead)⟩
   rw[<-h4];simp[B]
 .rw[if_neg hm]at h4
  have hk:1<=k:=by
   rcases ybr k with rfl|h
   .simp at h3 h3';omega
   .exact h
  obtain⟨k,rfl⟩:∃j,k=j+1:=⟨k-1,by omega⟩
  have hlt:m/128<64*128^k:=by
   rw[ydh]at h3'
   omega
  have hle:-(64*128^k)<=m/128:=by
   rw[ydh]at h3
   omega
  have hgn:=hA.nf
  by_cases hm1:m < -64
  .rcases hO with ⟨rfl,a3⟩|⟨g,a3,g1,g2,g3⟩
   .simp[zfr,a0,a3,hm1,wrap_u8,zsT,zFf]
    refine⟨⟨k,m/128,[zY m ||| 128],by omega,hle,hlt,by rw[<-h4];simp,by simp at h5 ⊢;omega,by simp,.inr ⟨Z.nf,by simp[B],hA.nf,by simp,by simp⟩,hA.newF⟩,?_⟩
    simp only[MUs,a0];simp;omega
   .simp[zfr,a0,a3,hm1,wrap_u8,zsT,zFf,g3]
    refine⟨by omega,⟨k,m/128,bs++[zY m ||| 128],by omega,hle,hlt,by rw[<-h4];simp,by simp at h5 ⊢;omega,by simp,.inr ⟨Z.nf,by simp[B],hgn,by simp,by simp⟩,(hA.setF g1).newF (J':=Z.setF g .dead)⟩,?_⟩
    simp only[MUs,a0];simp;omega
  .have hm2:63<m:=by omega
   rcases hO with ⟨rfl,a3⟩|⟨g,a3,g1,g2,g3⟩
   .simp[zfr,a0,a3,hm1,hm2,wrap_u8,zsT,zFf]
    refine⟨⟨k,m/128,[zY m ||| 128],by omega,hle,hlt,by rw[<-h4];simp,by simp at h5 ⊢;omega,by simp,.inr ⟨Z.nf,by simp[B],hA.nf,by simp,by simp⟩,hA.newF⟩,?_⟩
    simp only[MUs,a0];simp;omega
   .simp[zfr,a0,a3,hm1,hm2,wrap_u8,zsT,zFf,g3]
    refine⟨by omega,⟨k,m/128,bs++[zY m ||| 128],by omega,hle,hlt,by rw[<-h4];simp,by simp at h5 ⊢;omega,by simp,.inr ⟨Z.nf,by simp[B],hgn,by simp,by simp⟩,(hA.setF g1).newF (J':=Z.setF g .dead)⟩,?_⟩
    simp only[MUs,a0];simp;omega
end
def zd9(J:AS)(v:AV)(bs:List UInt8):Prop:=(bs=[]/\v=.nilsl)\/∃φ,v=.sl φ 1 (B bs)/\Al.Rd J φ
theorem zd9.one{J v bs}(h:zd9 J v bs):v.known=true/\v.one=true/\v.cells=[v]:=by rcases h with ⟨_,rfl⟩|⟨b,rfl,_⟩<;>simp
theorem zd9.keep{J J' v bs}(h:zd9 J v bs)(A:zd J J'):zd9 J' v bs:=by
 rcases h with h|⟨b,h,r⟩
 .exact .inl h
 .exact .inr ⟨b,h,r.keep A⟩
theorem zd9.len{J v bs}(h:zd9 J v bs)(K:AV->Prop):ziY yb9 32 v K=K (.int .i64 (bs.length:Int)):=by
 rcases h with ⟨rfl,rfl⟩|⟨b,rfl,_⟩<;>simp
theorem zdx.byt{J J' v bs}(h:zdx J J' v bs):zd9 J' v bs:=by
 rcases h.1 with ⟨h1,h2⟩|⟨g,h1,h2,h3,h4⟩
 .exact .inl ⟨by simpa [B]using h1,h2⟩
 .exact .inr ⟨_,h1,h3,h4⟩
theorem zqm(bs:List UInt8):∀y,y∈B bs->y.cells.length=1/\∀c,c∈y.cells->c.one=true:=by
 intro y hy
 simp only[B,yaV]at hy
 obtain⟨b,_,rfl⟩:=hy
 simp
theorem zdx.behind{J J1 J2 v bs}(A:zd J J1)(h:zdx J1 J2 v bs):zdx J J2 v bs:=by
 refine⟨?_,A.trans h.2⟩
 rcases h.1 with h1|⟨g,h1,h2,h3,h4⟩
 .exact .inl h1
 .exact .inr ⟨g,h1,yai A.nf h2,h3,h4⟩
section
variable {G : Env} {J : AS} {R : Out -> AS -> Prop}
theorem zsU{n:Nat}(hn:n<2^40)(g0:n=0->R (.ret .nilsl) J)(g1:0<n->R (.ret (.sl (.fam J.nf false) 1 [])) J.newF):zzQ G 103 [.nilsl,.int .i64 (n:Int)] J R:=by
 refine zxj rfl ?_
 have w5:yb4 .i64 0=0:=rfl
 have w2:yb4 .i64 (n:Int)=(n:Int):=by rw[zb]<;>omega
 have n2:¬(n:Int)<0:=by omega
 cases n with
 | zero =>
  simp[zDl,w5]
  exact g0 rfl
 | succ n =>
  have hz':(0:Int)<((n+1:Nat):Int):=by omega
  have e1:(((n+1:Nat):Int)).toNat=n+1:=by omega
  simp only[ydi,ydj]at *
  simp[zDl,w5,w2,n2,hz',e1,ydb,zdJ,zc3]
  exact⟨by omega,by omega,by omega,by omega,g1 (by omega)⟩
def zea(l:List (List UInt8)):Nat:=(l.map ycT).sum
theorem zbc(l:List (List UInt8)):l.flatten.length=zea l:=by simp[zea,List.length_flatten]
theorem zkn{l:List (List UInt8)}{i:Nat}{b:List UInt8}(h:l[i]?=some b):zea (l.take (i+1))=zea (l.take i)+b.length:=by
 rw[zbu h];simp[zea]
theorem zqn(l:List (List UInt8))(i:Nat):zea (l.take i)<=zea l:=by
 have e:zea (l.take i++l.drop i)=zea (l.take i)+zea (l.drop i):=by simp only[zea,ydk,List.sum_append]
 rw[List.take_append_drop]at e
 omega
end
def zko(J:AS)(v:AV)(l:List (List UInt8)):Prop:=(l=[]/\v=.nilsl)\/∃φ rows,v=.sl φ 1 rows/\Al.Rd J φ/\All2 (zd9 J) rows l
theorem zko.one{J v l}(h:zko J v l):v.known=true/\v.one=true/\v.cells=[v]:=by rcases h with ⟨_,rfl⟩|⟨b,_,rfl,_⟩<;>simp
theorem zko.keep{J J' v l}(h:zko J v l)(A:zd J J'):zko J' v l:=by
 rcases h with h|⟨φ,rows,h,r,k⟩
 .exact .inl h
 .exact .inr ⟨φ,rows,h,r.keep A,Al.all2_mono k λ_ _ q=>q.keep A⟩
theorem zko.len{J v l}(h:zko J v l)(K:AV->Prop):ziY yb9 64 v K=K (.int .i64 (l.length:Int)):=by
 rcases h with ⟨rfl,rfl⟩|⟨b,rows,rfl,_,hr⟩
 .simp
 .simp[hr.length]
theorem zko.at{J v l}(h:zko J v l){i:Nat}(hi:i<l.length):∃φ rv,Al.Rd J φ/\zd9 J rv l[i]/\∀K:AV->Prop,zE yb9 64 v (.int .i64 (i:Int)) K=K (.pv φ rv):=by
 rcases h with ⟨rfl,_⟩|⟨φ,rows,rfl,r,hr⟩
 .simp at hi
 .obtain⟨rv,h1,h2⟩:=hr.get (yau hi)
  exact⟨φ,rv,r,h2,λK=>by simp[h1]⟩
theorem zko.lit{J b vs l}(h:All2 (zd9 J) vs l):zko J (.sl (.stat b) 1 vs) l:=.inr ⟨_,_,rfl,trivial,h⟩
section
variable {G : Env} {J : AS} {R : Out -> AS -> Prop}
def CI1(v:AV)(l:List (List UInt8))(J:AS)(a:Nat->AV)(Z:AS):Prop:=∃i:Nat,i<=l.length/\a 0=v/\a 9=v/\a 10=.int .i64 (l.length:Int)/\a 11=.int .i64 (i:Int)/\a 3=.int .i64 ((zea (l.take i):Nat):Int)/\Z=J
def CI2(v:AV)(l:List (List UInt8))(J:AS)(a:Nat->AV)(Z:AS):Prop:=∃i:Nat,i<=l.length/\a 25=v/\a 26=.int .i64 (l.length:Int)/\a 27=.int .i64 (i:Int)/\zd J Z /\
 ((zea l=0/\a 6=.nilsl)\/∃g,a 6=.sl (.fam g false) 1 (B (l.take i).flatten)/\J.nf<=g/\g<Z.nf/\Z.F g=.alive)
set_option maxHeartbeats 1000000 in
theorem zbH{v:AV}{l:List (List UInt8)}(hv:zko J v l)(hs:zea l<2^40)(hl:l.length<=2^40)(h:∀v J',zdx J J' v l.flatten->R (.ret v) J'):zzQ G 45 [v] J R:=by
 refine zCS rfl ?_
 have hlen:=hv.len
 have hon:=hv.one
 simp[zLK,hlen,hon]
 refine zS (CI1 v l J) (MU 11 (l.length+1)) ⟨0,by omega,by simp,by simp,by simp,by simp,by simp[zea],rfl⟩ λa Z hI=>?_
 obtain⟨i,hi,a0,a9,a10,a11,a3,rfl⟩:=hI
 by_cases hlt:i<l.length
 .have hlt':(i:Int)<(l.length:Int):=by omega
  have hg:=yau hlt
  obtain⟨φ0,x,hr0,hb,hx⟩:=hv.at hlt
  have hr0:=hr0.read
  have hst:=zkn hg
  have hsl:=zqn l (i+1)
  generalize l[i]=y at *
  have x1:=hb.one
  have x2:=hb.len
  have w1:yb4 .i64 ((i:Int)+1)=((i+1:Nat):Int):=by rw[zb]<;>omega
  have w2:yb4 .i64 (((zea (l.take i):Nat):Int)+(y.length:Int))=((zea (l.take i)+y.length:Nat):Int):=by rw[zb]<;>omega
  have n2:¬((zea (l.take i):Nat):Int)+(y.length:Int)<0:=by omega
  simp[zh7,a0,a9,a10,a11,a3,hlt',hx,hr0,x1,x2,w1,w2,n2]
  refine⟨⟨i+1,by omega,by simp[a0],by simp[a9],by simp[a10],by simp,by simp[hst],rfl⟩,?_⟩
  simp only[MU,a11];simp;omega
 .have hie:i=l.length:=by omega
  subst hie
  rw[ycY]at a3
  have ht:=zbc l
  simp[zh7,zgN,zuw,a0,a9,a10,a11,a3]
  refine zsU hs (λhz=>?_) (λhz=>?_)
  .simp[hlen,a0]
   refine zS (CI2 v l Z) (MU 27 (l.length+1)) ⟨0,by omega,by simp[a0],by simp,by simp,.refl _,.inl ⟨hz,by simp⟩⟩ λa2 Z2 hI2=>?_
   obtain⟨i,hi,b25,b26,b27,hA,hO⟩:=hI2
   by_cases hlt:i<l.length
   .have hlt':(i:Int)<(l.length:Int):=by omega
    have hg:=yau hlt
    obtain⟨φ0,x,hr0,hb,hx⟩:=(hv.keep hA).at hlt
    have hr0:=hr0.read
    have hst:=zkn hg
    have hsl:=zqn l (i+1)
    have htk:=zbu hg
    generalize l[i]=y at *
    have x1:=hb.one
    have hfl:=zbc (l.take i)
    have w1:yb4 .i64 ((i:Int)+1)=((i+1:Nat):Int):=by rw[zb]<;>omega
    have hgn:=hA.nf
    rcases hO with ⟨h0,b6⟩|⟨g,b6,g1,g2,g3⟩
    .have hy:y=[]:=ybS.1 (by omega)
     subst hy
     rcases hb with ⟨_,rfl⟩|⟨φ,rfl,hr⟩
     .simp[zb3,b25,b26,b27,b6,hlt',hx,hr0,w1]
      refine⟨⟨i+1,by omega,by simp[b25],by simp[b26],by simp,hA,.inl ⟨h0,by simp⟩⟩,?_⟩
      simp only[MU,b27];simp;omega
     .have hr':=hr.read
      simp[zb3,b25,b26,b27,b6,hlt',hx,hr0,w1,hr',B]
      refine⟨⟨i+1,by omega,by simp[b25],by simp[b26],by simp,hA,.inl ⟨h0,by simp⟩⟩,?_⟩
      simp only[MU,b27];simp;omega
    .rcases hb with ⟨rfl,rfl⟩|⟨φ,rfl,hr⟩
     .simp[zb3,b25,b26,b27,b6,hlt',hx,hr0,w1,g3]
      have hsm:(ydl i (ydc ycT l)).sum=zea (l.take i):=by rw[<-yc3];rfl
      refine⟨by omega,⟨i+1,by omega,by simp[b25],by simp[b26],by simp,(hA.setF g1).newF (J':=Z2.setF g .dead),.inr ⟨Z2.nf,by rw[htk];simp,hgn,by simp,by simp⟩⟩,?_⟩
      simp only[MU,b27];simp;omega
     .have hr':=hr.read
      simp[zb3,b25,b26,b27,b6,hlt',hx,hr0,w1,g3,hr']
      have hsm:(ydl i (ydc ycT l)).sum=zea (l.take i):=by rw[<-yc3];rfl
      refine⟨zqm y,by omega,⟨i+1,by omega,by simp[b25],by simp[b26],by simp,(hA.setF g1).newF (J':=Z2.setF g .dead),.inr ⟨Z2.nf,by rw[htk];simp,hgn,by simp,by simp⟩⟩,?_⟩
      simp only[MU,b27];simp;omega
   .have hie:i=l.length:=by omega
    subst hie
    rw[ycY]at hO
    rcases hO with ⟨h0,b6⟩|⟨g,b6,g1,g2,g3⟩
    .simp[zb3,zgN,b26,b27,b6]
     exact h _ _ ⟨.inl ⟨by have:l.flatten=[]:=ybS.1 (by omega);rw[this];rfl,rfl⟩,hA⟩
    .simp[zb3,zgN,b26,b27,b6]
     exact h _ _ ⟨.inr ⟨g,rfl,g1,g2,g3⟩,hA⟩
  .simp[hlen,a0]
   refine zS (CI2 v l Z) (MU 27 (l.length+1)) ⟨0,by omega,by simp[a0],by simp,by simp,(zd.refl Z).newF,.inr ⟨Z.nf,by simp[B],by simp,by simp,by simp⟩⟩ λa2 Z2 hI2=>?_
   obtain⟨i,hi,b25,b26,b27,hA,hO⟩:=hI2
   by_cases hlt:i<l.length
   .have hlt':(i:Int)<(l.length:Int):=by omega
    have hg:=yau hlt
    obtain⟨φ0,x,hr0,hb,hx⟩:=(hv.keep hA).at hlt
    have hr0:=hr0.read
    have hst:=zkn hg
    have hsl:=zqn l (i+1)
    have htk:=zbu hg
    generalize l[i]=y at *
    have x1:=hb.one
    have hfl:=zbc (l.take i)
    have w1:yb4 .i64 ((i:Int)+1)=((i+1:Nat):Int):=by rw[zb]<;>omega
    have hgn:=hA.nf
    rcases hO with ⟨h0,b6⟩|⟨g,b6,g1,g2,g3⟩
    .have hy:y=[]:=ybS.1 (by omega)
     subst hy
     rcases hb with ⟨_,rfl⟩|⟨φ,rfl,hr⟩
     .simp[zb3,b25,b26,b27,b6,hlt',hx,hr0,w1]
      refine⟨⟨i+1,by omega,by simp[b25],by simp[b26],by simp,hA,.inl ⟨h0,by simp⟩⟩,?_⟩
      simp only[MU,b27];simp;omega
     .have hr':=hr.read
      simp[zb3,b25,b26,b27,b6,hlt',hx,hr0,w1,hr',B]
      refine⟨⟨i+1,by omega,by simp[b25],by simp[b26],by simp,hA,.inl ⟨h0,by simp⟩⟩,?_⟩
      simp only[MU,b27];simp;omega
    .rcases hb with ⟨rfl,rfl⟩|⟨φ,rfl,hr⟩
     .simp[zb3,b25,b26,b27,b6,hlt',hx,hr0,w1,g3]
      have hsm:(ydl i (ydc ycT l)).sum=zea (l.take i):=by rw[<-yc3];rfl
      refine⟨by omega,⟨i+1,by omega,by simp[b25],by simp[b26],by simp,(hA.setF g1).newF (J':=Z2.setF g .dead),.inr ⟨Z2.nf,by rw[htk];simp,hgn,by simp,by simp⟩⟩,?_⟩
      simp only[MU,b27];simp;omega
     .have hr':=hr.read
      simp[zb3,b25,b26,b27,b6,hlt',hx,hr0,w1,g3,hr']
      have hsm:(ydl i (ydc ycT l)).sum=zea (l.take i):=by rw[<-yc3];rfl
      refine⟨zqm y,by omega,⟨i+1,by omega,by simp[b25],by simp[b26],by simp,(hA.setF g1).newF (J':=Z2.setF g .dead),.inr ⟨Z2.nf,by rw[htk];simp,hgn,by simp,by simp⟩⟩,?_⟩
      simp only[MU,b27];simp;omega
   .have hie:i=l.length:=by omega
    subst hie
    rw[ycY]at hO
    rcases hO with ⟨h0,b6⟩|⟨g,b6,g1,g2,g3⟩
    .simp[zb3,zgN,b26,b27,b6]
     exact h _ _ ⟨.inl ⟨by have:l.flatten=[]:=ybS.1 (by omega);rw[this];rfl,rfl⟩,hA⟩
    .simp[zb3,zgN,b26,b27,b6]
     exact h _ _ ⟨.inr ⟨g,rfl,g1,g2,g3⟩,hA⟩
end
def zi(bs:List UInt8):List UInt8:=uI bs.length++bs
def zc(n:UInt8)(bs:List UInt8):List UInt8:=n::zi bs
def zP(l:List (List UInt8)):List UInt8:=uI l.length++l.flatten
theorem zaj(n:Int):(uI n).length<=10:=zBl 10 n
theorem zkp(n:Int):(sI n).length<=10:=zBm 10 n
theorem zKK{k:Nat}{n:Int}:uF (k+1) n≠[]:=by rw[uF];split<;>simp
theorem zoA(n:Int):uI n≠[]:=zKK
section
variable {G : Env} {J : AS} {R : Out -> AS -> Prop}
theorem zuT{J1:AS}{v1 v2:AV}{x y:List UInt8}{K:AV->AS->Prop}(h1:zdx J J1 v1 x)(hx:x≠[])(h2:zd9 J1 v2 y)(hl:x.length+y.length<=2^42)(h:∀v J',zdx J J' v (x++y)->K v J'):zer yb9 32 32 v1 v2 J1 K:=by
 obtain⟨ho,hA⟩:=h1
 rcases ho with ⟨h0,_⟩|⟨g,rfl,g1,g2,g3⟩
 .exact absurd (by simpa [B]using h0) hx
 have hgn:=hA.nf
 rcases h2 with ⟨rfl,rfl⟩|⟨φ,rfl,hr⟩
 .simp[g3]
  exact⟨by omega,h _ _ ⟨.inr ⟨J1.nf,by simp,hgn,by simp,by simp⟩,(hA.setF g1).newF (J':=J1.setF g .dead)⟩⟩
 .have hr':=hr.read
  simp[g3,hr']
  exact⟨zqm y,by omega,h _ _ ⟨.inr ⟨J1.nf,by simp,hgn,by simp,by simp⟩,(hA.setF g1).newF (J':=J1.setF g .dead)⟩⟩
theorem zBn{J1:AS}{v1 v2:AV}{x y:List UInt8}{K:AV->AS->Prop}(h1:zdx J J1 v1 x)(hx:x≠[])(h2:zd9 J1 v2 y)(hl:x.length+y.length<=2^42)(h:∀v J',zdx J J' v (x++y)->K v J'):
  zcG yb9 32 (.int .u8 0) 1 v2 J1.F λys=>(∀y,y∈ys->y.cells.length=1/\∀c,c∈y.cells->c.one=true)/\zbT (elT yb9 32) 1 1 v1 ys J1 K:=by
 have:=zuT h1 hx h2 hl h
 simp at this
 exact this
theorem zHq{J1:AS}{v2:AV}{xs:List AV}{x y:List UInt8}{K:AV->AS->Prop}(hA:zd J J1)(e:xs=B x)(hx:x≠[])(h2:zd9 J1 v2 y)(hl:x.length+y.length<=2^42)(h:∀v J',zdx J J' v (x++y)->K v J')(hy:y≠[]):
  zcG yb9 32 (.int .u8 0) 1 v2 J1.F λys=>(∀y,y∈ys->y.cells.length=1/\∀c,c∈y.cells->c.one=true)/\zbT (elT yb9 32) 1 1 (.sl (.stat true) 1 xs) ys J1 K:=by
 subst e
 have hgn:=hA.nf
 rcases h2 with ⟨rfl,rfl⟩|⟨φ,rfl,hr⟩
 .exact absurd rfl hy
 .have hr':=hr.read
  obtain⟨c,y,rfl⟩:=List.exists_cons_of_ne_nil hy
  have e1:B (c::y)=yc0 .u8 (c.toNat:Int)::B y:=rfl
  rw[e1]
  simp[hr']
  have:=zqm (c::y)
  rw[e1]at this
  exact⟨λz hz=>zqm y z hz,by simp at hl;omega,h _ _ ⟨.inr ⟨J1.nf,by simp[B],hgn,by simp,by simp⟩,hA.newF⟩⟩
theorem za8{v:AV}{bs:List UInt8}(hv:zd9 J v bs)(hl:bs.length<2^40)(h:∀v' J',zdx J J' v' (zi bs)->R (.ret v') J'):zzQ G 46 [v] J R:=by
 refine zCT rfl ?_
 have v1:=hv.one
 have v2:=hv.len
 simp[zLL,v1,v2]
 refine zdC (by omega) λu J1 hu=>?_
 have hv1:=hv.keep hu.2
 have hul:=zaj bs.length
 simp
 refine zBn hu (zoA _) hv1 (by omega) λv' J' h'=>?_
 simp
 exact h _ _ h'
theorem zdv{n:UInt8}{v:AV}{l:List (List UInt8)}(hv:zko J v l)(hs:zea l<2^39)(hl:l.length<=2^40)(h:∀v' J',zdx J J' v' (zc n l.flatten)->R (.ret v') J'):zzQ G 49 [.int .u8 (n.toNat:Int),v] J R:=by
 refine zCW rfl ?_
 have hon:=hv.one
 simp[zLO,hon]
 refine zbH hv (by omega) hl λc J1 hc=>?_
 have hsl:=zbc l
 simp
 refine za8 hc.byt (by omega) λd J2 hd=>?_
 simp
 have hsz:(zi l.flatten).length<=l.flatten.length+10:=by simp only[zi,yab];have:=zaj l.flatten.length;omega
 refine zHq (x:=[n]) (hc.2.trans hd.2) rfl (by simp) hd.byt (by have:([n]:List UInt8).length=1:=rfl;omega) (λv' J' h'=>?_) (by simp[zi,zoA])
 simp
 exact h _ _ h'
theorem zeb{v:AV}{l:List (List UInt8)}(hv:zko J v l)(hs:zea l<2^39)(hl:l.length<=2^40)(h:∀v' J',zdx J J' v' (zP l)->R (.ret v') J'):zzQ G 50 [v] J R:=by
 refine zCX rfl ?_
 have hlen:=hv.len
 have hon:=hv.one
 simp[zLP,hlen,hon]
 refine zdC (by omega) λu J1 hu=>?_
 have hul:=zaj l.length
 have hsl:=zbc l
 simp
 have hv1:=hv.keep hu.2
 refine zbH hv1 (by omega) hl λc J2 hc=>?_
 simp
 have hu2:zdx J J2 u (uI l.length):=⟨hu.1.keep hc.2,hu.2.trans hc.2⟩
 refine zBn hu2 (zoA _) hc.byt (by omega) λv' J' h'=>?_
 simp
 exact h _ _ h'
def zeW(l:List Int):List UInt8:=uI l.length++l.map λt=>zY (128-t)
def TyI(v:AV)(l:List Int)(J:AS)(a:Nat->AV)(Z:AS):Prop:=∃i:Nat,i<=l.length/\a 9=v/\a 10=.int .i64 (l.length:Int)/\a 11=.int .i64 (i:Int)/\zdx J Z (a 3) (uI l.length++(l.take i).map λt=>zY (128-t))
theorem zgU{v:AV}{l:List Int}(hv:Al.IntsO J v l)(hl:l.length<=2^39)(h:∀v' J',zdx J J' v' (zeW l)->R (.ret v') J'):zzQ G 101 [v] J R:=by
 refine zxh rfl ?_
 have v1:=hv.one
 have v2:=hv.len
 simp[zGz,v1,v2]
 refine zdC (by omega) λu J1 hu=>?_
 have hul:=zaj l.length
 simp[v2]
 refine zS (TyI v l J) (MU 11 (l.length+1)) ⟨0,by omega,by simp,by simp,by simp,by simpa using hu⟩ λa Z hI=>?_
 obtain⟨i,hi,a9,a10,a11,hO⟩:=hI
 by_cases hlt:i<l.length
 .have hlt':(i:Int)<(l.length:Int):=by omega
  obtain⟨φ,hr,hix⟩:=(hv.keep hO.2).at hlt
  have hr':=hr.read
  have hg:=yau hlt
  have htk:=zbu hg
  generalize l[i]=t at *
  have w1:yb4 .i64 ((i:Int)+1)=((i+1:Nat):Int):=by rw[zb]<;>omega
  have w2:yb4 .u8 (yb4 .i64 (128-t))=((zY (128-t)).toNat:Int):=by
   rw[wrap_u8,zct,zct]
   simp[yb4,yao,yap]
   omega
  obtain⟨hq,hA⟩:=hO
  rcases hq with ⟨h0,_⟩|⟨g,b3,g1,g2,g3⟩
  .have:uI l.length=[]:=by
    have h0:(B (uI l.length++(l.take i).map λt=>zY (128-t))).length=0:=by rw[h0];rfl
    rw[zHp,yab]at h0
    exact ybS.1 (by omega)
   exact absurd this (zoA _)
  have hgn:=hA.nf
  simp[zje,a9,a10,a11,hlt',hix,hr',b3,w1,w2,g3]
  refine⟨by omega,⟨i+1,by omega,by simp[a9],by simp[a10],by simp,.inr ⟨Z.nf,by rw[htk];simp[B],hgn,by simp,by simp⟩,(hA.setF g1).newF (J':=Z.setF g .dead)⟩,?_⟩
  simp only[MU,a11];simp;omega
 .have hie:i=l.length:=by omega
  subst hie
  rw[ycY]at hO
  simp[zje,zrm,a10,a11]
  exact h _ _ hO
def zcY(t:Int):List UInt8:=if t=0 then zeW []else zeW [t]
theorem znk{t:Int}(h:∀v' J',zdx J J' v' (zcY t)->R (.ret v') J'):zzQ G 102 [.int .i64 t] J R:=by
 refine zxi rfl ?_
 by_cases ht:t=0
 .have e:zcY t=zeW []:=if_pos ht
  rw[e]at h
  simp[zDk,ht]
  refine zgU (l:=[]) (.inl ⟨rfl,rfl⟩) (by simp) λv J1 h1=>?_
  simp
  exact h _ _ h1
 .have e:zcY t=zeW [t]:=if_neg ht
  rw[e]at h
  simp[zDk,ht]
  refine zgU (l:=[t]) (.inr ⟨.stat true,rfl,trivial⟩) (by simp) λv J1 h1=>?_
  simp
  exact h _ _ h1
def zch(takes:List Int)(zgR:Int):List UInt8:=96::(zeW takes++zcY zgR)
theorem zec(l:List Int):(zeW l).length<=l.length+10:=by
 have:=zaj l.length
 simp[zeW];omega
theorem zfA(t:Int):(zcY t).length<=11:=by
 unfold zcY
 split
 .exact yai (zec []) (by simp)
 .exact zec [t]
theorem zf9{v:AV}{l:List Int}{g:Int}(hv:Al.IntsO J v l)(hl:l.length<=2^38)(h:∀v' J',zdx J J' v' (zch l g)->R (.ret v') J'):zzQ G 44 [v,.int .i64 g] J R:=by
 refine zCR rfl ?_
 have v1:=hv.one
 have e0:za3 32 [(0,Operand.const (.int .u8 96))]=false:=by decide
 simp[zLJ,v1,e0]
 refine zgU hv (by omega) λt J1 ht=>?_
 have ht1:=ht.byt
 simp
 refine znk λr J2 hr=>?_
 have t1:=(ht1.keep hr.2).one
 have r1:=hr.byt.one
 have hb:zd9 J2 (.sl (.stat true) 1 [.int .u8 96]) [96]:=.inr ⟨_,rfl,trivial⟩
 simp[t1,r1]
 have l1:=zec l
 have l2:=zfA g
 refine zbH (l:=[[96],zeW l,zcY g]) (zko.lit (.cons hb (.cons (ht1.keep hr.2) (.cons hr.byt .nil)))) (by simp[zea];omega) (by simp) λc J3 hc=>?_
 simp
 have:=zdx.behind (ht.2.trans hr.2) hc
 simpa [zch]using h _ _ (by simpa [zch]using this)
theorem zd9.at{v:AV}{bs:List UInt8}(h:zd9 J v bs){i:Nat}(hi:i<bs.length):∃φ,Al.Rd J φ/\∀K:AV->Prop,zE yb9 32 v (.int .i64 (i:Int)) K=K (.pv φ (.int .u8 (bs[i].toNat:Int))):=by
 rcases h with ⟨rfl,_⟩|⟨φ,rfl,r⟩
 .simp at hi
 .exact⟨φ,r,λK=>by simp[hi,B]⟩
def SbI(va vb:AV)(x y:List UInt8)(J:AS)(a:Nat->AV)(Z:AS):Prop:=∃i:Nat,i<=x.length/\a 0=va/\a 1=vb/\a 5=.int .i64 (i:Int)/\Z=J/\x.take i=y.take i
theorem zdD{va vb:AV}{x y:List UInt8}(ha:zd9 J va x)(hb:zd9 J vb y)(hl:x.length<=2^40)(h:R (.ret (.bool (decide (x=y)))) J):zzQ G 15 [va,vb] J R:=by
 refine zCy rfl ?_
 have a1:=ha.one
 have a2:=ha.len
 have b1:=hb.one
 have b2:=hb.len
 by_cases hxy:x.length=y.length
 .simp[zKn,a1,a2,b1,b2,hxy]
  refine zS (SbI va vb x y J) (MU 5 (x.length+1)) ⟨0,by omega,by simp,by simp,by simp,rfl,by simp⟩ λa Z hI=>?_
  obtain⟨i,hi,c0,c1,c5,rfl,heq⟩:=hI
  by_cases hlt:i<x.length
  .have hlt':(i:Int)<(y.length:Int):=by omega
   obtain⟨φ,hr,hix⟩:=ha.at hlt
   obtain⟨ψ,hs,hiy⟩:=hb.at (show i<y.length by omega)
   have hr':=hr.read
   have hs':=hs.read
   have gx:=zbu (yau hlt)
   have gy:=zbu (yau (show i<y.length by omega))
   have w1:yb4 .i64 ((i:Int)+1)=((i+1:Nat):Int):=by rw[zb]<;>omega
   by_cases hc:x[i]=y[i]
   .simp[zkc,c0,c1,c5,a2,hxy,hlt',hix,hiy,hr',hs',hc,w1]
    refine⟨⟨i+1,by omega,by simp[c0],by simp[c1],by simp,rfl,by rw[gx,gy,heq,hc]⟩,?_⟩
    simp only[MU,c5];simp;omega
   .have hne:¬x=y:=λe=>hc (by subst e;rfl)
    have hc':¬((x[i].toNat:Int)=(y[i].toNat:Int)):=λe=>hc (UInt8.toNat_inj.1 (by exact_mod_cast e))
    simp[zkc,c0,c1,c5,a2,hxy,hlt',hix,hiy,hr',hs',hc,hc']
    simpa [hne]using h
  .have hie:i=x.length:=by omega
   subst hie
   have e:x=y:=by rw[ycY,hxy,ycY]at heq;exact heq
   simp[zkc,zuq,c0,c5,a2,hxy]
   simpa [e]using h
 .have hne:¬x=y:=λe=>hxy (by rw[e])
  have hxy':¬((x.length:Int)=(y.length:Int)):=by omega
  simp[zKn,a1,a2,b1,b2,hxy,hxy']
  simpa [hne]using h
theorem zqo{va vb:AV}{x y:List UInt8}(ha:zd9 J va x)(hb:zd9 J vb y)(h:R (.ret (.bool (decide (x=y)))) J):zzQ G 43 [va,vb] J R:=by
 refine zCQ rfl ?_
 rcases ha with ⟨rfl,rfl⟩|⟨φ,rfl,hr⟩<;>rcases hb with ⟨rfl,rfl⟩|⟨ψ,rfl,hs⟩
 .simp[zGx]
  simpa using h
 .have hs':=hs.read
  simp[zGx,hs']
  simpa using h
 .have hr':=hr.read
  simp[zGx,hr']
  simpa using h
 .have hs':=hs.read
  have hr':=hr.read
  simp[zGx,hr',hs']
  simpa using h
theorem zHr:yb9.underlying 32=some (.slice 5):=by kernel_rfl
@[simp] theorem zHs:aeq yb9 32 .nilsl .nilsl=some true:=by simp[aeq,zk9,zHr]
@[simp] theorem zJr(φ k l):aeq yb9 32 (.sl φ k l) .nilsl=some false:=by simp[aeq,zk9,zHr]
theorem zqp{v:AV}{bs:List UInt8}(hv:zd9 J v bs)(hl:bs.length<=2^40)(h:∀v' J',zd9 J' v' bs->zd J J'->R (.ret v') J'):zzQ G 38 [v] J R:=by
 refine zCL rfl ?_
 rcases hv with ⟨rfl,rfl⟩|⟨φ,rfl,hr⟩
 .simp[zKq]
  exact h _ _ (.inl ⟨rfl,rfl⟩) (.refl _)
 .have hr':=hr.read
  simp[zKq,hr']
  refine⟨zqm bs,?_⟩
  cases bs with
  | nil =>
   have e1:B []=[]:=rfl
   rw[e1]
   simp
   exact h _ _ (.inr ⟨.stat true,rfl,trivial⟩) (.refl _)
  | cons c y =>
   have e1:B (c::y)=yc0 .u8 (c.toNat:Int)::B y:=rfl
   rw[e1]
   simp
   refine⟨by simp at hl;omega,?_⟩
   exact h _ _ (.inr ⟨.fam J.nf false,by simp[B],by simp,by simp⟩) (zd.refl _).newF
end
def zrF:List UInt8:=[97,100,100,32,115,117,98,32,109,117,108,32,100,105,118,95,115,32,114,101,109,95,115,32,97,110,100,32,111,114,32,120,111,114,32,115,104,108,32,115,104,114,95,115,32,101,113,32,110,101,32,108,116,95,115,32,103,116,95,115,32,108,101,95,115,32,103,101,95,115]
def zar:List (List UInt8):=[[97,100,100],[115,117,98],[109,117,108],[100,105,118,95,115],[114,101,109,95,115],[97,110,100],[111,114],[120,111,114],[115,104,108],[115,104,114,95,115],[101,113],[110,101],[108,116,95,115],[103,116,95,115],[108,101,95,115],[103,101,95,115]]
def zgV(c:UInt8):Bool:=c==32||(9<=c&&c<=13)
def zii:List AV:=(List.range 256).map λc=>.int .u8 (if zgV (UInt8.ofNat c)then 1 else 0)
def zi6:List UInt8:=[106,107,108,109,111,113,114,115,116,117,70,71,72,74,76,78]
def zi7:List UInt8:=[124,125,126,127,129,131,132,133,134,135,81,82,83,85,87,89]
def pw(op ty n:Int):W:={ op:=op,ty:=ty,n:=n,body:=0,other:=0,name:=[] }
def zao:List (UInt8 × W):=[(0x45,pw 5 1 0),(0x50,pw 5 2 0),(0xA7,pw 6 0 0),(0xAC,pw 7 0 0),(0x2C,pw 8 1 1),(0x28,pw 8 1 4),(0x29,pw 8 2 8),(0x3A,pw 9 1 1),(0x36,pw 9 1 4),(0x37,pw 9 2 8),(0x0F,pw 16 0 0),(0x00,pw 17 0 0),(0x1A,pw 18 0 0)]
def zga:List (UInt8 × W):=[(0x41,pw 1 1 0),(0x42,pw 1 2 0),(0x20,pw 2 0 0),(0x21,pw 3 0 0),(0x10,pw 10 0 0),(0x0C,pw 14 0 0),(0x0D,pw 15 0 0)]
def zbQ(l:List (UInt8 × W)):List AV:=l.map λp=>.int .u8 (p.1.toNat:Int)
def zcC(l:List (UInt8 × W)):List AV:=l.map λp=>p.2.av
structure zdI(G:Env):Prop where
 bytes:G.g 1=.pv (.stat true) (.agg [.str zi6,.str zi7])
 plain:∃l:List (UInt8 × W),l.Perm zao/\G.g 2=.pv (.stat true) (.mp (zbQ l) (zcC l))
 nums:∃l:List (UInt8 × W),l.Perm zga/\G.g 3=.pv (.stat true) (.mp (zbQ l) (zcC l))
 space:G.g 0=.pv (.stat true) (.agg zii)
theorem zjy(c:UInt8):zii[c.toNat]?=some (.int .u8 (if zgV c then 1 else 0)):=by
 have h:c.toNat<256:=c.toNat_lt
 have:∀k:Fin 256,zii[k.1]?=some (.int .u8 (if zgV (UInt8.ofNat k.1)then 1 else 0)):=by
  intro k;simp[zii]
 have:=this ⟨c.toNat,h⟩
 simpa using this
def fC(L:List UInt8):Nat->Nat × Bool × UInt8
 | 0=>(0,true,0)
 | i+1=>let c:=L.getD i 0;let p:=fC L i;(p.1+(if p.2.1&&!zgV c then 1 else 0),zgV c,p.2.2 ||| c)
def fS(L:List UInt8):Nat->Nat × Nat
 | 0=>(0,0)
 | i+1=>if zgV (L.getD i 0)then(i+1,(fS L i).2+1)else fS L i
theorem zyC(L:List UInt8):∀k,(fC L k).1<=k:=by
 intro k
 induction k with
 | zero=>simp[fC]
 | succ k ih=>simp only[fC];split<;>omega
def zed(T:List (List UInt8))(k:Nat):List AV:=(T.take k).map ycZ++yaj (T.length-k) (.str [])
structure zHt(L:List UInt8)(T:List (List UInt8))(e:Nat):Prop where
 len:L.length<=1000
 tl:T.length<=1000
 fact:∀i:Fin L.length,(zgV (L.getD i 0)=true->T[(fS L i).2]?=some ((L.take i).drop (fS L i).1)/\(fS L i).2<T.length/\(fS L i).1<=i/\i.1+1<L.length/\zgV (L.getD (i.1+1) 0)=false/\fS L (i.1+1)=(i.1+1,(fS L i).2+1))/\(zgV (L.getD i 0)=false->fS L (i.1+1)=fS L i)
 cnt:fC L L.length=(T.length,false,(fC L L.length).2.2)
 low:(fC L L.length).2.2.toNat<128
 head:∃c r,L=c::r/\zgV c=false
 fin:fS L L.length=(e,T.length-1)
 lt:e<L.length
 last:T[T.length-1]?=some (L.drop e)
theorem zkq{T:List (List UInt8)}{k:Nat}{b:List UInt8}(h:T[k]?=some b):splice (zed T k) k [.str b]=zed T (k+1):=by
 have hk:=(yaq.1 h).1
 have ht:=zbu h
 have hA:((T.take k).map ycZ).length=k:=by simp;omega
 unfold splice zed
 rw[List.take_left' hA,ht,ydk]
 have e:T.length-k=(T.length-(k+1))+1:=by omega
 have hd:((T.take k).map ycZ++yaj (T.length-k) (ycZ [])).drop (k+[ycZ b].length)=yaj (T.length-(k+1)) (ycZ []):=by
  rw[List.drop_append,List.drop_eq_nil_of_le (by rw[hA];simp),hA,e]
  simp
 rw[hd]
 simp
theorem zsV{T:List (List UInt8)}(hT:T.length<=1000){J:AS}{K:AV->AS->Prop}:zmG yb9 22 (.int .i64 (T.length:Int)) (.int .i64 (T.length:Int)) J K=K (.slm J.no 0 1 T.length) (J.newO (zed T 0)):=by
 have e1:zdf yb9 22=some 1:=by kernel_rfl
 have e2:zcn yb9 22=some 16:=by kernel_rfl
 have e3:zbn yb9 22=some (.str []):=by kernel_rfl
 have e5:zu (yaj T.length (ycZ []))=yaj T.length (ycZ []):=by
  generalize T.length=n
  induction n with
  | zero=>rfl
  | succ n ih=>simp only[zu,ydb,yaa]at *;rw[ih];rfl
 simp[zmG,e1,e2,e3,AV.cells,AV.known,e5,zed]
 exact⟨λq=>q.2.2,λq=>⟨by omega,by omega,q⟩⟩
section
variable {G : Env} {J : AS} {R : Out -> AS -> Prop}
def F1(L:List UInt8)(J:AS)(a:Nat->AV)(Z:AS):Prop:=∃i:Nat,i<=L.length/\a 0=.str L/\a 3=.int .i64 ((fC L i).1:Nat)/\a 4=.int .i64 (if(fC L i).2.1 then 1 else 0)/\a 5=.int .u8 ((fC L i).2.2.toNat:Nat)/\a 6=.int .i64 (i:Nat)/\Z=J
def F4(L:List UInt8)(T:List (List UInt8))(J:AS)(x:Nat)(a:Nat->AV)(Z:AS):Prop:=∃i:Nat,i<=L.length/\a 0=.str L/\a 9=.slm x 0 1 T.length/\a 10=.int .i64 ((fS L i).2:Nat)/\a 11=.int .i64 ((fS L i).1:Nat)/\a 12=.int .i64 (i:Nat)/\zd J Z/\x<Z.no/\Z.objs x=some (zed T (fS L i).2)
theorem zsW{L:List UInt8}{T:List (List UInt8)}{e:Nat}(hok:zHt L T e)(v3:G.g 0=.pv (.stat true) (.agg zii))(h:∀x J',zd J J'->J.no<=x->x<J'.no->J'.objs x=some (T.map ycZ)->R (.ret (.slm x 0 1 T.length)) J'):zzQ G 57 [.str L] J R:=by
 refine zC1 rfl ?_
 have hL:=hok.len
 have hT:=hok.tl
 simp[zLS]
 refine zS (F1 L J) (MU 6 (L.length+1)) ⟨0,by omega,by simp,by simp[fC],by simp[fC],by simp[fC],by simp,rfl⟩ λa Z hI=>?_
 obtain⟨i,hi,a0,a3,a4,a5,a6,rfl⟩:=hI
 by_cases hlt:i<L.length
 .have hlt':(i:Int)<(L.length:Int):=by omega
  have hg:=yau hlt
  have hf:fC L (i+1)=((fC L i).1+(if(fC L i).2.1&&!zgV L[i]then 1 else 0),zgV L[i],(fC L i).2.2 ||| L[i]):=by simp[fC,hg]
  have hn:=zyC L i
  generalize L[i]=c at *
  have hs:=zjy c
  have w1:yb4 .i64 ((i:Int)+1)=((i+1:Nat):Int):=by rw[zb]<;>omega
  have w0:∀b:UInt8,zbo .u8 (· ||| ·) (b.toNat:Int) (c.toNat:Int)=((b ||| c).toNat:Int):=λb=>znj (· ||| ·) b c
  have c1:(c.toNat:Int)<256:=by have:=c.toNat_lt;omega
  generalize fC L i=p at *
  obtain⟨n,ws,b⟩:=p
  have w2:yb4 .i64 ((n:Int)+1)=((n+1:Nat):Int):=by rw[zb]<;>omega
  have w3:yb4 .i64 (n:Int)=(n:Int):=by rw[zb]<;>omega
  have w4:yb4 .i64 0=0:=rfl
  have w5:yb4 .i64 1=1:=rfl
  have z0:zbo .i64 (· ^^^ ·) (-1) 0=-1:=by decide
  have z1:zbo .i64 (· ^^^ ·) (-1) 1=-2:=by decide
  have z2:zbo .i64 (· &&& ·) 1 (-1)=1:=by decide
  have z3:zbo .i64 (· &&& ·) 1 (-2)=0:=by decide
  have z4:zbo .i64 (· &&& ·) 0 (-1)=0:=by decide
  have z5:zbo .i64 (· &&& ·) 0 (-2)=0:=by decide
  have z6:yao .i64=true:=rfl
  cases hsp:zgV c<;>cases ws<;>simp only[hsp,if_true,if_false,Bool.false_eq_true]at hs hf a4 ⊢<;>simp at hn a3 a5<;>simp[zdX,a0,a3,a4,a5,a6,hlt',hg,v3,hs,c1,w0,w1,w2,w3,w4,w5,z0,z1,z2,z3,z4,z5,z6,-UInt8.toNat_or]<;>refine⟨⟨i+1,by omega,by simp[a0],by simp[hf],by simp[hf,hsp],by simp[hf],by simp,rfl⟩,?_⟩<;>simp only[MU,a6]<;>simp<;>omega
 .have hie:i=L.length:=by omega
  subst hie
  have e1:=hok.cnt
  have e2:¬(128:Int)<=((fC L L.length).2.2.toNat:Nat):=by have:=hok.low;omega
  rw[e1]at a3 a4 a5
  simp[zdX,zux,a0,a3,a4,a5,a6,e2,zsV hT]
  refine zS (λa2 Z2=>a2 0=.str L/\a2 9=.slm Z.no 0 1 T.length/\a2 10=.int .i64 0/\a2 12=.int .i64 0/\Z2=Z.newO (zed T 0)) (λ_ _=>0) ⟨by simp[a0],by simp,by simp,by simp,rfl⟩ λa2 Z2 hI2=>?_
  obtain⟨b0,b9,b10,b12,rfl⟩:=hI2
  obtain⟨q0,r0,hLc,hsp0⟩:=hok.head
  have w5:0<L.length:=by rw[hLc];simp
  have g0:L[0]'w5=q0:=by simp[hLc]
  have t0:=zjy q0
  rw[hsp0]at t0
  have q256:(q0.toNat:Int)<256:=by have:=q0.toNat_lt;omega
  simp at t0
  simp[zfu,zp1,b0,b9,b10,b12,g0,t0,v3,w5,q256]
  refine zS (F4 L T Z Z.no) (MU 12 (L.length+1)) ⟨0,by omega,by simp[b0],by simp[b9],by simp[b10,fS],by simp[fS],by simp[b12],(zd.refl Z).newO,by simp,by simp[fS]⟩ λa3 Z3 hI3=>?_
  obtain⟨i,hi,c0,c9,c10,c11,c12,hA,hx,ho⟩:=hI3
  by_cases hlt:i<L.length
  .have hlt':(i:Int)<(L.length:Int):=by omega
   have hg:=yau hlt
   obtain⟨f1,f2⟩:=hok.fact ⟨i,hlt⟩
   have hgd:L.getD i 0=L[i]:=by simp[hg]
   simp only[hgd]at f1 f2
   have w1:yb4 .i64 ((i:Int)+1)=((i+1:Nat):Int):=by rw[zb]<;>omega
   generalize L[i]=c at *
   have hs:=zjy c
   have c1:(c.toNat:Int)<256:=by have:=c.toNat_lt;omega
   cases hsp:zgV c with
   | false =>
    rw[hsp]at hs
    have f2:=f2 hsp
    simp at hs
    simp[zgP,c0,c9,c10,c11,c12,hlt',hg,v3,hs,c1,w1]
    refine⟨⟨i+1,by omega,by simp[c0],by simp[c9],by simp[c10,f2],by simp[c11,f2],by simp,hA,hx,by simp[ho,f2]⟩,?_⟩
    simp only[MU,c12];simp;omega
   | true =>
    rw[hsp]at hs
    obtain⟨g1,g2,g3,g4,g5,g6⟩:=f1 hsp
    simp at hs
    simp[zgP,c0,c9,c10,c11,c12,hlt',hg,v3,hs,c1,w1,ho]
    have hlen:(zed T (fS L i).2).length=T.length:=by
     simp only[zed,yab,ybb,ybf,yba]
     omega
    refine⟨g3,by omega,by omega,by omega,?_⟩
    refine zS (λb Z4=>b 0=.str L/\b 9=.slm Z.no 0 1 T.length/\b 10=.int .i64 (((fS L i).2+1:Nat):Int)/\b 12=.int .i64 ((i+1:Nat):Int)/\zd Z Z4/\Z.no<Z4.no/\Z4.objs Z.no=some (zed T ((fS L i).2+1))) (λ_ _=>0) ⟨by simp[c0],by simp[c9],by simp;rw[zb]<;>omega,by simp,hA.setO (by omega),by simp;exact hx,by simp;exact zkq g1⟩ λb Z4 hI4=>?_
    obtain⟨d0,d9,d10,d12,hA4,hx4,ho4⟩:=hI4
    have hlt2:(((i+1:Nat):Int))<(L.length:Int):=by omega
    have hlt3:i+1<L.length:=by omega
    have hg2:=yau hlt3
    have hgd2:L.getD (i+1) 0=L[i+1]:=by simp[hg2]
    simp only[hgd2]at g5
    generalize L[i+1]=c' at *
    have hs2:=zjy c'
    rw[g5]at hs2
    have c1':(c'.toNat:Int)<256:=by have:=c'.toNat_lt;omega
    simp at hs2
    simp only[ydi,ydj]at d12 hlt2
    simp[zgO,zh9,d0,d9,d10,d12,hlt2,hg2,v3,hs2,c1']
    refine⟨by omega,⟨i+1,by omega,by simp[d0],by simp[d9],by simp[d10,g6],by simp[g6],by simp[d12],hA4,hx4,by simp[ho4,g6]⟩,?_⟩
    simp only[MU,c12];simp[d12];omega
  .have hie:i=L.length:=by omega
   subst hie
   have e3:=hok.fin
   have hlast:=hok.last
   obtain⟨n,hn⟩:∃n,T.length=n+1:=⟨T.length-1,by have:=(yaq.1 hlast).1;omega⟩
   have e4:T.length-1=n:=by omega
   rw[e4]at e3 hlast
   rw[e3]at c10 c11 ho
   have w7:=hok.lt
   have w6:(e:Int)<(L.length:Int):=by omega
   have hnT:n<T.length:=by omega
   have hnTi:(n:Int)<(T.length:Int):=by omega
   simp at c10 c11 ho
   simp[zgP,zm1,c0,c9,c10,c11,c12,ho,w6,w7,hnT,hnTi]
   have hlen:(zed T n).length=T.length:=by
    simp only[zed,yab,ybb,ybf,yba]
    omega
   refine⟨by omega,by omega,?_⟩
   rw[zkq hlast]
   refine h Z.no _ (hA.setO (by omega)) (by omega) (by simpa using hx) ?_
   simp[zed,<-hn]
theorem zDE:zHt zrF zar 66:=⟨by decide,by decide,by decide,by decide,by decide,⟨97,_,rfl,by decide⟩,by decide,by decide,by decide⟩
theorem zfB(v3:G.g 0=.pv (.stat true) (.agg zii))(h:∀x J',zd J J'->J.no<=x->x<J'.no->J'.objs x=some (zar.map ycZ)->R (.ret (.slm x 0 1 16)) J'):zzQ G 57 [.str zrF] J R:=zsW zDE v3 h
end
def zhs(s:List UInt8):Option Nat:=zar.findIdx? (·==s)
def zfC(w:W):Int:=if w.op=8\/w.op=9 then w.n else 0
def zaF(w:W)(p:UInt8 × W):Bool:=decide (p.2.op=w.op)&&(decide (p.2.n=zfC w)&&(decide (p.2.ty=0)||decide (p.2.ty=w.ty)))
def zls(w:W):UInt8:=(((zao++zga).find? (zaF w)).map (·.1)).getD 0
def znl(w:W):Option UInt8:=if w.op=4 then(match zhs w.name with
  | some i=>if w.ty=1 then zi6[i]? else if w.ty=2 then zi7[i]? else none
  | none=>none)else some (zls w)
def left(seen:List Nat):Nat->Nat
 | 0=>0
 | n+1=>left seen n+if n∈seen then 0 else 1
theorem zuU(seen:List Nat)(i:Nat):∀n,left (seen++[i]) n<=left seen n
 | 0=>yah _
 | n+1=>by
  have:=zuU seen i n
  simp only[left,ybh,ydf]
  by_cases h:n∈seen<;>simp[h]
  .exact this
  .split<;>omega
theorem zqq{seen:List Nat}{i:Nat}(h:i∉seen):∀n,i<n->left (seen++[i]) n<left seen n
 | 0,hi=>by omega
 | n+1,hi=>by
  have h2:=zuU seen i n
  simp only[left,ybh,ydf]
  by_cases hn:i=n
  .subst hn
   simp[h]
   omega
  .have:=zqq h n (by omega)
   by_cases h':n∈seen
   .simp[h'];exact this
   .have:¬n=i:=λe=>hn e.symm
    simp[h',this];exact zqq h n (by omega)
theorem zyD(w:W):∀p∈zao++zga,∀q∈zao++zga,zaF w p=true->zaF w q=true->p=q:=by
 have key:∀p∈zao++zga,∀q∈zao++zga,p.2.op=q.2.op->p.2.n=q.2.n->(p.2.ty=q.2.ty\/p.2.ty=0\/q.2.ty=0)->p.1=q.1/\p.2.op=q.2.op:=by decide
 have key2:∀p∈zao++zga,∀q∈zao++zga,p.1=q.1->p=q:=by decide
 intro p hp q hq h1 h2
 simp only[zaF,Bool.and_eq_true,Bool.or_eq_true,decide_eq_true_eq]at h1 h2
 refine key2 p hp q hq (key p hp q hq (h1.1.trans h2.1.symm) (h1.2.1.trans h2.2.1.symm) ?_).1
 rcases h1.2.2 with h|h
 .exact .inr (.inl h)
 .rcases h2.2.2 with h'|h'
  .exact .inr (.inr h')
  .exact .inl (h.trans h'.symm)
theorem zyE{w:W}{p:UInt8 × W}(hp:p∈zao++zga)(h:zaF w p=true):zls w=p.1:=by
 unfold zls
 cases hq:(zao++zga).find? (zaF w)with
 | none=>exact absurd h (by simpa using ydm.1 hq p hp)
 | some q=>rw[zyD w q (List.mem_of_find?_eq_some hq) p hp (List.find?_some hq) h];rfl
theorem zuV{w:W}(h:∀p∈zao++zga,zaF w p=false):zls w=0:=by
 unfold zls
 rw[ydm.2 (λp hp=>by simp[h p hp])]
 rfl
section
variable {G : Env} {J : AS} {R : Out -> AS -> Prop}
def IxI(x:Nat)(s:List UInt8)(J:AS)(a:Nat->AV)(Z:AS):Prop:=∃i:Nat,i<=16/\a 0=.slm x 0 1 16/\a 1=.str s/\a 7=.int .i64 16/\a 8=.int .i64 (i:Int)/\Z=J/\∀j,j<i->zar[j]?≠some s
theorem zqr{x:Nat}{s:List UInt8}(ho:J.objs x=some (zar.map ycZ))(h:∀i:Nat,zhs s=some i->i<16->R (.ret (.int .i64 (i:Int))) J)(h0:zhs s=none->R (.ret (.int .i64 (-1))) J):zzQ G 157 [.slm x 0 1 16,.str s] J R:=by
 refine zxI rfl ?_
 have hl:zar.length=16:=rfl
 simp[zGP]
 refine zS (IxI x s J) (MU 8 17) ⟨0,by omega,by simp,by simp,by simp,by simp,rfl,by simp⟩ λa Z hI=>?_
 obtain⟨i,hi,a0,a1,a7,a8,rfl,hn⟩:=hI
 by_cases hlt:i<16
 .have hlt':(i:Int)<16:=by omega
  have hg:=yau (show i<zar.length by omega)
  have w1:yb4 .i64 ((i:Int)+1)=((i+1:Nat):Int):=by rw[zb]<;>omega
  generalize zar[i]=y at *
  by_cases he:s=y
  .subst he
   simp[zhm,a0,a1,a7,a8,hlt',ho,hg]
   refine h i ?_ hlt
   unfold zhs
   rw[ydn]
   obtain⟨hb,he⟩:=yaq.1 hg
   refine⟨hb,by simp[he],λj hj=>?_⟩
   have:=hn j hj
   rw[yau (show j<zar.length by omega)]at this
   simpa using this
  .simp[zhm,a0,a1,a7,a8,hlt',ho,hg,he,w1]
   refine⟨⟨i+1,by omega,by simp[a0],by simp[a1],by simp[a7],by simp,rfl,λj hj hs=>?_⟩,?_⟩
   .rcases ydo j i with h1|h1
    .exact hn j h1 hs
    .have:j=i:=by omega
     subst this
     rw[hg]at hs
     exact he (by cases hs;rfl)
   .simp only[MU,a8];simp;omega
 .have hie:i=16:=by omega
  subst hie
  simp[zhm,zrv,a0,a1,a7,a8]
  refine h0 ?_
  unfold zhs
  rw[List.findIdx?_eq_none_iff]
  intro y hy
  obtain⟨j,hj,rfl⟩:=ya9 hy
  have:=hn j (by omega)
  rw[yau hj]at this
  simpa using this
def MpI(J:AS)(l:List (UInt8 × W))(w:W)(k n:Nat)(v33:AV)(a:Nat->AV)(Z:AS):Prop:=∃f seen,a 1=.ptr k 0/\a 3=.int .i64 (zfC w)/\a 33=v33/\a 34=.int .i64 2/\a 35=.int .i64 (n:Int)/\a 40=.itr f (zbQ l) (zcC l) seen/\J.nf<=f/\f<Z.nf/\Z.F f=.alive/\zd J Z/\k<Z.no/\Z.objs k=some w.cs/\∀i∈seen,∀p,l[i]?=some p->zaF w p=false
def MLf(n:Nat)(a:Nat->AV)(_:AS):Nat:=match a 40 with
 | .itr _ _ _ seen=>left seen n
 | _=>0
def MpO(J:AS)(ls:List (List (UInt8 × W)))(w:W)(k:Nat)(v33:AV)(a:Nat->AV)(Z:AS):Prop:=∃n:Nat,n<=2/\a 1=.ptr k 0/\a 3=.int .i64 (zfC w)/\a 33=v33/\a 34=.int .i64 2/\a 35=.int .i64 (n:Int)/\zd J Z/\k<Z.no/\Z.objs k=some w.cs/\∀l∈ls.take n,∀p∈l,zaF w p=false
@[simp] theorem zHu(f ks vs seen)(K:AV->AV->AS->Prop):zpH (.itr f ks vs seen) J K=(J.F f=.alive/\((∀i,i<ks.length->i∈seen)->K (.itr f ks vs seen) (.tuple [.bool false]) J) /\
   ∀i k x,ks[i]?=some k->vs[i]?=some x->i∉seen->K (.itr J.nf ks vs (seen++[i])) (.tuple [.bool true,k,x]) (J.setF f .dead).newF):=rfl
@[simp] theorem zDF:AV.undef.cells=[.undef]:=rfl
@[simp] theorem zHv(ks vs)(K:AV->AS->Prop):ziA yb9 184 (.mp ks vs) J K=K (.itr J.nf ks vs []) J.newF:=by
 have h:yb9.underlying 184=some (.map 5 53):=by kernel_rfl
 simp[ziA,h]
@[simp] theorem zFg(f ks vs seen)(K:AV->Prop):ziB (.itr f ks vs seen) J K=(J.F f=.alive/\zah seen.getLast? λi=>zah ks[i]? λk=>zah vs[i]? λx=>K (.tuple [k,x])):=by
 simp only[ziB,zah]
 refine propext ⟨λ⟨h,i,k,x,h1,h2,h3,h4⟩=>⟨h,i,h1,k,h2,x,h3,h4⟩,λ⟨h,i,h1,k,h2,x,h3,h4⟩=>⟨h,i,k,x,h1,h2,h3,h4⟩⟩
theorem zyF{l:List (UInt8 × W)}{i:Nat}{k x:AV}(hk:(zbQ l)[i]?=some k)(hv:(zcC l)[i]?=some x):∃p,l[i]?=some p/\k=.int .u8 (p.1.toNat:Int)/\x=p.2.av:=by
 simp only[zbQ,zcC,ydd,ybB]at hk hv
 obtain⟨p,h1,rfl⟩:=hk
 obtain⟨q,h2,rfl⟩:=hv
 rw[h1]at h2
 cases h2
 exact⟨p,h1,rfl,rfl⟩
theorem zuW{l1 l2:List (UInt8 × W)}{w:W}{k:Nat}(p1:∀p,p∈l1↔p∈zao)(p2:∀p,p∈l2↔p∈zga)(h:∀J',zd J J'->R (.ret (.int .u8 ((zls w).toNat:Int))) J'){a:Nat->AV}{Z:AS}
  (hI:MpO J [l1,l2] w k (.sl (.stat true) 1 [.mp (zbQ l1) (zcC l1),.mp (zbQ l2) (zcC l2)]) a Z) :
  avc yb9 G 71 zf1 (zab (λa' J'=>MpO J [l1,l2] w k (.sl (.stat true) 1 [.mp (zbQ l1) (zcC l1),.mp (zbQ l2) (zcC l2)]) a' J'/\MU 35 3 a' J'<MU 35 3 a Z)
   (zai 0 (zab (avc yb9 G 71 zjg (zbE yb9 [.tmp 2] R)) (zbE yb9 [.tmp 2] R)))) a Z:=by
 obtain⟨n,hn,a1,a3,a33,a34,a35,hA,hk,ho,hno⟩:=hI
 rcases ydo n 2 with hlt|hge
 .have hlt':(n:Int)<2:=by omega
  have w1:yb4 .i64 ((n:Int)+1)=((n+1:Nat):Int):=by rw[zb]<;>omega
  obtain⟨l,hl,hlx,hsub⟩:∃l,[AV.mp (zbQ l1) (zcC l1),.mp (zbQ l2) (zcC l2)][n]?=some (.mp (zbQ l) (zcC l))/\([l1,l2]:List _)[n]?=some l/\∀p∈l,p∈zao++zga:=by
   rcases ydo n 1 with h1|h1
   .have:n=0:=by omega
    subst this
    exact⟨l1,rfl,rfl,λp hp=>ybh.2 (.inl ((p1 p).1 hp))⟩
   .have:n=1:=by omega
    subst this
    exact⟨l2,rfl,rfl,λp hp=>ybh.2 (.inr ((p2 p).1 hp))⟩
  have htk:=zbu hlx
  simp[zf1,a1,a3,a33,a34,a35,hlt',hl]
  have hnf:=hA.nf
  refine zS (MpI J l w k n (.sl (.stat true) 1 [.mp (zbQ l1) (zcC l1),.mp (zbQ l2) (zcC l2)])) (MLf l.length) ⟨Z.nf,[],by simp[a1],by simp[a3],by simp[a33],by simp[a34],by simp[a35],by simp,hnf,by simp,by simp,hA.newF,by simpa using hk,by simpa using ho,by simp⟩ λb Z2 hI2=>?_
  obtain⟨f,seen,b1,b3,b33,b34,b35,b40,f1,f2,f3,hA2,hk2,ho2,hs⟩:=hI2
  simp[zhg,b40,f3]
  refine⟨λhall=>?_,λi k' x' hk' hx' hni=>?_⟩
  .simp[zjf,b1,b3,b33,b34,b35,w1]
   refine⟨⟨n+1,by omega,by simp[b1],by simp[b3],by simp[b33],by simp[b34],by simp,hA2,hk2,ho2,λl' hl' q hq=>?_⟩,?_⟩
   .rw[htk]at hl'
    rcases ybh.1 hl' with h1|h1
    .exact hno l' h1 q hq
    .simp only[ydf]at h1
     subst h1
     obtain⟨i,hi,rfl⟩:=ya9 hq
     exact hs i (hall i (by simpa [zbQ]using hi)) _ (yau hi)
   .simp only[MU,a35];simp;omega
  .obtain⟨p,hp,rfl,rfl⟩:=zyF hk' hx'
   have hks:(zbQ l)[i]?=some (.int .u8 (p.1.toNat:Int)):=hk'
   have hnf2:=hA2.nf
   have hmem:=hsub p (yc5 hp)
   have kne:¬k=Z2.no:=by omega
   have kne':¬Z2.no=k:=by omega
   have hil:i<l.length:=(yaq.1 hp).1
   have ho2':=ho2
   simp only[W.cs]at ho2'
   have hlk:=zqq hni l.length hil
   have go:zaF w p=false->∀b':Nat->AV,(∀r,r∈[1,3,33,34,35]->b' r=b r)->b' 40=.itr Z2.nf (zbQ l) (zcC l) (seen++[i]) ->
     MpI J l w k n (.sl (.stat true) 1 [.mp (zbQ l1) (zcC l1),.mp (zbQ l2) (zcC l2)]) b' (((Z2.setF f .dead).newF.newO [.int .i64 0,.int .i64 0,.int .i64 0,.int .i64 0,.int .i64 0,.str []]).setO Z2.no p.2.cs)/\MLf l.length b' (((Z2.setF f .dead).newF.newO [.int .i64 0,.int .i64 0,.int .i64 0,.int .i64 0,.int .i64 0,.str []]).setO Z2.no p.2.cs)<MLf l.length b Z2:=λhh b' hb h40=>by
    refine⟨⟨Z2.nf,seen++[i],by rw[hb 1 (by simp),b1],by rw[hb 3 (by simp),b3],by rw[hb 33 (by simp),b33],by rw[hb 34 (by simp),b34],by rw[hb 35 (by simp),b35],h40,by omega,by simp,by simp,?_,by simp;omega,by simp[kne];exact ho2,λj hj q hq=>?_⟩,?_⟩
    .exact(((hA2.setF f1).newF (J':=Z2.setF f .dead)).newO).setO hA2.no
    .rcases ybh.1 hj with h1|h1
     .exact hs j h1 q hq
     .simp only[ydf]at h1
      subst h1
      rw[hp]at hq
      cases hq
      exact hh
    .simp only[MLf,h40,b40]
     exact hlk
   have fin:zaF w p=true->∀J',zd J J'->R (.ret (.int .u8 (p.1.toNat:Int))) J':=λhh J' A'=>by
    have:=h J' A'
    rwa [zyE hmem hh]at this
   have hAf:zd J (((Z2.setF f .dead).newF.newO [.int .i64 0,.int .i64 0,.int .i64 0,.int .i64 0,.int .i64 0,.str []]).setO Z2.no p.2.cs):=(((hA2.setF f1).newF (J':=Z2.setF f .dead)).newO).setO hA2.no
   simp only[W.cs]at go hAf
   by_cases c1:w.op=p.2.op
   .by_cases c2:zfC w=p.2.n
    .by_cases c3:p.2.ty=0
     .simp[b1,b3,b33,b34,b35,hk',hx',W.av,W.cs,splice,ho2',kne,kne',c1,c2,c3]
      refine fin (by simp[zaF,c1,c2,c3]) _ ?_
      simpa [c3]using hAf
     .by_cases c4:w.ty=p.2.ty
      .simp[b1,b3,b33,b34,b35,hk',hx',W.av,W.cs,splice,ho2',kne,kne',c1,c2,c3,c4]
       exact fin (by simp[zaF,c1,c2,c3,c4]) _ hAf
      .have c4':¬p.2.ty=w.ty:=λe=>c4 e.symm
       simp[b1,b3,b33,b34,b35,hk',hx',W.av,W.cs,splice,ho2',kne,kne',c1,c2,c3,c4,c4']
       refine go (by simp[zaF,c3,c4']) _ (λr hr=>?_) (by simp)
       simp at hr;rcases hr with rfl|rfl|rfl|rfl|rfl<;>simp
    .have c2':¬p.2.n=zfC w:=λe=>c2 e.symm
     simp[b1,b3,b33,b34,b35,hk',hx',W.av,W.cs,splice,ho2',kne,kne',c1,c2,c2']
     refine go (by simp[zaF,c2']) _ (λr hr=>?_) (by simp)
     simp at hr;rcases hr with rfl|rfl|rfl|rfl|rfl<;>simp
   .have c1':¬p.2.op=w.op:=λe=>c1 e.symm
    simp[b1,b3,b33,b34,b35,hk',hx',W.av,W.cs,splice,ho2',kne,kne',c1,c1']
    refine go (by simp[zaF,c1']) _ (λr hr=>?_) (by simp)
    simp at hr;rcases hr with rfl|rfl|rfl|rfl|rfl<;>simp
 .have:n=2:=by omega
  subst this
  have hz:zls w=0:=zuV λp hp=>by
   rcases ybh.1 hp with hp|hp
   .exact hno l1 (by simp) p ((p1 p).2 hp)
   .exact hno l2 (by simp) p ((p2 p).2 hp)
  simp[zf1,zjg,a34,a35]
  have:=h _ hA
  rw[hz]at this
  simpa using this
theorem zsX(V:zdI G){w:W}{c:UInt8}(hc:znl w=some c)(h:∀J',zd J J'->R (.ret (.int .u8 (c.toNat:Int))) J'):zzQ G 104 [w.av] J R:=by
 have v0:=V.bytes
 obtain⟨l1,hp1,v1⟩:=V.plain
 obtain⟨l2,hp2,v2⟩:=V.nums
 have A0:zd J (J.newO w.cs):=(zd.refl J).newO
 have hlook:w.op≠4->zls w=c:=λh4=>by
  unfold znl at hc
  rw[if_neg h4]at hc
  simpa using hc
 by_cases h4:w.op=4
 .unfold znl at hc
  rw[if_pos h4]at hc
  cases hx:zhs w.name with
  | none=>rw[hx]at hc;cases hc
  | some i =>
   rw[hx]at hc
   simp only at hc
   have hi:i<16:=by
    unfold zhs at hx
    rw[ydn]at hx
    exact hx.1
   have fin:∀(bs:List UInt8),bs.length=16->bs[i]?=some c->(w.ty=1/\bs=zi6\/w.ty=2/\bs=zi7)->zzQ G 104 [w.av] J R:=λbs hbl hbi hty=>by
    refine zrn rfl ?_
    have w1:yb4 .i64 0=0:=rfl
    have w2:yb4 .i64 1=1:=rfl
    have e1:(1:Int).toNat=1:=rfl
    rcases hty with ⟨hty,rfl⟩|⟨hty,rfl⟩ <;>
    .simp[zuC,W.av,W.cs,h4,v0,hty,w1,w2]
     refine zfB V.space λx J1 A1 hx0 hx1 hxo=>?_
     have o1:=(A1.obj J.no (by simp)).trans (show _=some w.cs by simp[W.cs,h4,hty])
     simp only[W.cs]at o1
     simp[o1,hty]
     refine zqr hxo (λi' hi' hl'=>?_) (λhn=>by rw[hx]at hn;cases hn)
     have:i'=i:=by rw[hx]at hi';cases hi';rfl
     subst this
     simp[o1,hty,hbi]
     exact h _ ((by simpa [W.cs,h4,hty]using A0:zd J _).trans A1)
   by_cases t1:w.ty=1
   .rw[if_pos t1]at hc
    exact fin _ rfl hc (.inl ⟨t1,rfl⟩)
   .rw[if_neg t1]at hc
    by_cases t2:w.ty=2
    .rw[if_pos t2]at hc
     exact fin _ rfl hc (.inr ⟨t2,rfl⟩)
    .rw[if_neg t2]at hc
     cases hc
 .have hlook:=hlook h4
  refine zrn rfl ?_
  have h':∀J',zd J J'->R (.ret (.int .u8 ((zls w).toNat:Int))) J':=λJ' A'=>by rw[hlook];exact h J' A'
  have q1:∀p,p∈l1↔p∈zao:=λp=>hp1.mem_iff
  have q2:∀p,p∈l2↔p∈zga:=λp=>hp2.mem_iff
  have key:∀a':Nat->AV,a' 1=.ptr J.no 0->a' 3=.int .i64 (zfC w)->a' 33=.sl (.stat true) 1 [.mp (zbQ l1) (zcC l1),.mp (zbQ l2) (zcC l2)]->a' 34=.int .i64 2->a' 35=.int .i64 0 ->
    zj5 yb9 G 71 zf1 (zai 0 (zab (avc yb9 G 71 zjg (zbE yb9 [.tmp 2] R)) (zbE yb9 [.tmp 2] R))) a' (J.newO w.cs):=λa' e1 e3 e33 e34 e35 =>
   zS (MpO J [l1,l2] w J.no (.sl (.stat true) 1 [.mp (zbQ l1) (zcC l1),.mp (zbQ l2) (zcC l2)])) (MU 35 3) ⟨0,by omega,e1,e3,e33,e34,by simpa using e35,A0,by simp,by simp,by simp⟩ λb Z hI=>zuW q1 q2 h' hI
  simp only[W.cs]at key
  by_cases h8:w.op=8
  .simp[zuC,W.av,W.cs,h4,h8,v1,v2]
   refine ?_
   simp only[<-h8]
   exact key _ (by simp) (by simp[zfC,h8]) (by simp) (by simp) (by simp)
  .by_cases h9:w.op=9
   .simp[zuC,W.av,W.cs,h4,h8,h9,v1,v2]
    simp only[<-h9]
    exact key _ (by simp) (by simp[zfC,h9]) (by simp) (by simp) (by simp)
   .simp[zuC,W.av,W.cs,h4,h8,h9,v1,v2]
    exact key _ (by simp) (by simp[zfC,h8,h9]) (by simp) (by simp) (by simp)
theorem zdx.keep{J Z Z' v x}(h:zdx J Z v x)(A:zd Z Z'):zdx J Z' v x:=⟨h.1.keep A,h.2.trans A⟩
theorem zij{el:Option TypeId}{Z:AS}{v:AV}{ys:List AV}{x y:List UInt8}{K:AV->AS->Prop}(h1:zdx J Z v x)(e:ys=B y)(hl:x.length+y.length<=2^42)(h:∀v' J',zdx J J' v' (x++y)->K v' J'):zbT el 1 1 v ys Z K:=by
 subst e
 obtain⟨ho,hA⟩:=h1
 have hgn:=hA.nf
 rcases ho with ⟨h0,rfl⟩|⟨g,rfl,g1,g2,g3⟩
 .have hx:x=[]:=by simpa [B]using h0
  subst hx
  cases y with
  | nil=>simp[B];exact h _ _ ⟨.inl ⟨rfl,rfl⟩,hA⟩
  | cons c y =>
   have e1:B (c::y)=yc0 .u8 (c.toNat:Int)::B y:=rfl
   rw[e1]
   simp
   refine⟨by simp at hl;omega,?_⟩
   exact h _ _ ⟨.inr ⟨Z.nf,by simp[B],hgn,by simp,by simp⟩,hA.newF⟩
 .simp[g3]
  exact⟨by omega,h _ _ ⟨.inr ⟨Z.nf,by simp,hgn,by simp,by simp⟩,(hA.setF g1).newF (J':=Z.setF g .dead)⟩⟩
def zpy(T:Nat->Nat)(Z:AS)(v:AV)(bs:List UInt8):Prop:=(bs=[]/\v=.nilsl)\/∃φ,v=.sl φ 1 (B bs)/\Al.Rd Z φ/\∀r b,φ=.fam r b->T r=0
def zaB(T:Nat->Nat)(i:Nat)(J Z:AS)(v:AV)(l:List (List UInt8)):Prop:=(l=[]/\v=.nilsl)\/∃φ vs,v=.sl φ 1 vs/\(φ=.stat true\/∃g,φ=.fam g false/\J.nf<=g/\g<Z.nf/\Z.F g=.alive/\T g=i)/\All2 (zpy T Z) vs l
def zcu(T:Nat->Nat)(Z:AS):Prop:=∀f,Z.nf<=f->T f=0
theorem zpy.keep{T Z Z' v bs}(h:zpy T Z v bs)(A:zd Z Z'):zpy T Z' v bs:=by
 rcases h with h|⟨φ,h,r,k⟩
 .exact .inl h
 .exact .inr ⟨φ,h,r.keep A,k⟩
theorem zaB.keep{T i J Z Z' v l}(h:zaB T i J Z v l)(A:zd Z Z'):zaB T i J Z' v l:=by
 rcases h with h|⟨φ,vs,h,r,k⟩
 .exact .inl h
 .refine .inr ⟨φ,vs,h,?_,Al.all2_mono k λ_ _ q=>q.keep A⟩
  rcases r with r|⟨g,h1,h2,h3,h4,h5⟩
  .exact .inl r
  .exact .inr ⟨g,h1,h2,by have:=A.nf;omega,(A.fam g h3).trans h4,h5⟩
theorem zpy.byt{T Z v bs}(h:zpy T Z v bs):zd9 Z v bs:=by
 rcases h with h|⟨φ,h,r,_⟩
 .exact .inl h
 .exact .inr ⟨φ,h,r⟩
theorem zaB.bys{T i J Z v l}(h:zaB T i J Z v l):zko Z v l:=by
 rcases h with h|⟨φ,vs,h,r,k⟩
 .exact .inl h
 .refine .inr ⟨φ,vs,h,?_,Al.all2_mono k λ_ _ q=>q.byt⟩
  rcases r with rfl|⟨g,rfl,h2,h3,h4,h5⟩
  .exact trivial
  .exact⟨h3,h4⟩
theorem zpy.step{T Z1 v bs g i j}(h:zpy T Z1 v bs)(hg:T g=i)(hi:1<=i):zpy (upd T Z1.nf j) (Z1.setF g .dead).newF v bs:=by
 rcases h with h|⟨φ,h,r,k⟩
 .exact .inl h
 .refine .inr ⟨φ,h,?_,λr' b e=>?_⟩
  .cases φ with
   | stat b=>exact trivial
   | fam f b =>
    have h0:=k f b rfl
    obtain⟨h1,h2⟩:=r
    have hfg:f≠g:=λe=>by rw[e]at h0;omega
    refine⟨by simp;omega,?_⟩
    have:¬f=Z1.nf:=by omega
    simp[zaO,this,hfg,h2]
  .subst e
   have:=r.1
   have:¬r'=Z1.nf:=by omega
   simp[zaO,this]
   exact k r' b rfl
theorem zpy.new{T Z1 v bs j}(h:zpy T Z1 v bs):zpy (upd T Z1.nf j) Z1.newF v bs:=by
 rcases h with h|⟨φ,h,r,k⟩
 .exact .inl h
 .refine .inr ⟨φ,h,r.keep (zd.refl _).newF,λr' b e=>?_⟩
  subst e
  have:=r.1
  have:¬r'=Z1.nf:=by omega
  simp[zaO,this]
  exact k r' b rfl
theorem zaB.step{T J Z1 v l g i j k}(h:zaB T j J Z1 v l)(hg:T g=i)(hi:1<=i)(hij:j≠i):zaB (upd T Z1.nf k) j J (Z1.setF g .dead).newF v l:=by
 rcases h with h|⟨φ,vs,h,r,q⟩
 .exact .inl h
 .refine .inr ⟨φ,vs,h,?_,Al.all2_mono q λ_ _ q=>q.step hg hi⟩
  rcases r with r|⟨f,h1,h2,h3,h4,h5⟩
  .exact .inl r
  .have hne:¬f=Z1.nf:=by omega
   have hfg:f≠g:=λe=>by rw[e]at h5;omega
   exact .inr ⟨f,h1,h2,by simp;omega,by simp[zaO,hne,hfg,h4],by simp[zaO,hne,h5]⟩
theorem zaB.new{T J Z1 v l j k}(h:zaB T j J Z1 v l):zaB (upd T Z1.nf k) j J Z1.newF v l:=by
 rcases h with h|⟨φ,vs,h,r,q⟩
 .exact .inl h
 .refine .inr ⟨φ,vs,h,?_,Al.all2_mono q λ_ _ q=>q.new⟩
  rcases r with r|⟨f,h1,h2,h3,h4,h5⟩
  .exact .inl r
  .have hne:¬f=Z1.nf:=by omega
   exact .inr ⟨f,h1,h2,by simp;omega,by simp[zaO,hne,h4],by simp[zaO,hne,h5]⟩
theorem zdx.row{T Z Z1 v bs}(h:zdx Z Z1 v bs)(hT:zcu T Z):zpy T Z1 v bs:=by
 rcases h.1 with ⟨h1,h2⟩|⟨g,h1,h2,h3,h4⟩
 .exact .inl ⟨by simpa [B]using h1,h2⟩
 .exact .inr ⟨_,h1,⟨h3,h4⟩,λr b e=>by cases e;exact hT g h2⟩
theorem zyG{el:Option TypeId}{T:Nat->Nat}{i:Nat}{Z:AS}{v row:AV}{l:List (List UInt8)}{bs:List UInt8}{K:AV->AS->Prop}(hi:1<=i)(hG:zaB T i J Z v l)(hN:zpy T Z row bs)(hT:zcu T Z)(A:zd J Z)(hl:l.length<2^40)
  (h:∀v' Z' T',zaB T' i J Z' v' (l++[bs])->zcu T' Z'->zd J Z'->(∀j v2 l2,j≠i->zaB T j J Z v2 l2->zaB T' j J Z' v2 l2)->K v' Z'):zbT el 24 1 v [row] Z K:=by
 have hgn:=A.nf
 have fr:zcu (upd T Z.nf i) Z.newF:=λf hf=>by
  have hf':Z.nf+1<=f:=hf
  have:¬f=Z.nf:=by omega
  simp[zaO,this]
  exact hT f (by omega)
 rcases hG with ⟨rfl,rfl⟩|⟨φ,vs,rfl,hφ,hv⟩
 .simp
  refine h _ _ (upd T Z.nf i) (.inr ⟨_,[row],rfl,.inr ⟨Z.nf,rfl,hgn,by simp,by simp,by simp[zaO]⟩,.cons hN.new .nil⟩) fr A.newF λj v2 l2 hj h2=>h2.new
 .have hvl:=hv.length
  rcases hφ with rfl|⟨g,rfl,g1,g2,g3,g4⟩
  .simp[zbT]
   refine⟨by omega,?_⟩
   exact h _ _ (upd T Z.nf i) (.inr ⟨_,_,rfl,.inr ⟨Z.nf,rfl,hgn,by simp,by simp,by simp[zaO]⟩,(Al.all2_mono hv λ_ _ q=>q.new).append (.cons hN.new .nil)⟩) fr A.newF λj v2 l2 hj h2=>h2.new
  .simp[g3]
   refine⟨by omega,?_⟩
   refine h _ _ (upd T Z.nf i) (.inr ⟨_,_,rfl,.inr ⟨Z.nf,rfl,hgn,by simp,by simp,by simp[zaO]⟩,(Al.all2_mono hv λ_ _ q=>q.step g4 hi).append (.cons (hN.step g4 hi) .nil)⟩) (λf hf=>fr f hf) ((A.setF g1).newF (J':=Z.setF g .dead)) λj v2 l2 hj h2=>h2.step g4 hi hj
end
def zgW(t:Int):List Int->Nat
 | []=>0
 | x::r=>if x=t then zgW t r+1 else 0
def zq:Nat->List Int->List (List UInt8)
 | 0,_=>[]
 | _+1,[]=>[]
 | k+1,t::r=>(uI ((zgW t r+1:Nat):Int)++[zY (128-t)])::zq k (r.drop (zgW t r))
def zb4(l:List Int):List UInt8:=zP (zq l.length l)
theorem zqs(t:Int):∀l,zgW t l<=l.length
 | []=>yah _
 | x::r=>by
  have:=zqs t r
  simp only[zgW,yac]
  split<;>omega
theorem zuX{t:Int}:∀{l:List Int} {i:Nat},i<zgW t l->l[i]?=some t
 | [],i,h=>by simp[zgW]at h
 | x::r,i,h=>by
  simp only[zgW]at h
  split at h
  .rename_i e
   cases i with
   | zero=>simp[e]
   | succ i=>simp;exact zuX (by omega)
  .omega
theorem zrG{t:Int}:∀{l:List Int},zgW t l<l.length->l[zgW t l]?≠some t
 | [],h=>by simp at h
 | x::r,h=>by
  simp only[zgW]at h ⊢
  split
  .rename_i e
   simp only[e,if_true,yac]at h
   simp
   exact zrG (by omega)
  .rename_i e
   simp[e]
theorem zfD:∀(k j:Nat) (l:List Int),l.length<=k->l.length<=j->zq k l=zq j l
 | 0,j,[],_,_=>by cases j<;>rfl
 | k+1,j,[],_,_=>by cases j<;>rfl
 | 0,_,t::r,h,_=>by simp at h
 | k+1,0,t::r,_,h=>by simp at h
 | k+1,j+1,t::r,h,h'=>by
  simp only[zq]
  simp at h h'
  rw[zfD k j _ (by simp;omega) (by simp;omega)]
theorem zbV:∀(k:Nat) (l:List Int),(zq k l).length<=l.length/\zea (zq k l)<=11*l.length
 | 0,l=>by simp[zq,zea]
 | k+1,[]=>by simp[zq,zea]
 | k+1,t::r=>by
  have ih:=zbV k (r.drop (zgW t r))
  have hu:=zaj ((zgW t r+1:Nat):Int)
  simp only[zq,yac,zea,yaL,ycV,yab,List.length_nil]at *
  simp only[ycU]at ih
  omega
theorem IntsO.drop{J:AS}{v:AV}{l:List Int}{n:Nat}(h:Al.IntsO J v l)(hl:l≠[])(hn:n<=l.length):∃φ,v=.sl φ 1 (l.map (.int .i64))/\Al.Rd J φ:=by
 rcases h with ⟨rfl,_⟩|h
 .exact absurd rfl hl
 .exact h
section
variable {G : Env} {J : AS} {R : Out -> AS -> Prop}
def LoI(J:AS)(l0:List Int)(a:Nat->AV)(Z:AS):Prop:=∃(l:List Int) (done:List (List UInt8)) (T:Nat->Nat),done++zq l.length l=zq l0.length l0/\l.length<=l0.length/\done.length+l.length<=l0.length/\Al.IntsO J (a 0) l/\zaB T 1 J Z (a 3) done/\zcu T Z/\zd J Z
def MLo(a:Nat->AV)(_:AS):Nat:=match a 0 with
 | .sl _ _ xs=>xs.length
 | _=>0
def LoJ(v0 v3:AV)(Z0:AS)(t:Int)(r:List Int)(a:Nat->AV)(Z:AS):Prop:=∃i:Nat,i<=zgW t r/\a 0=v0/\a 3=v3/\a 4=.int .i64 ((i+1:Nat):Int)/\Z=Z0
theorem zoB{v:AV}{l:List Int}(hv:Al.IntsO J v l)(hl:l.length<=2^34)(h:∀v' J',zdx J J' v' (zb4 l)->R (.ret v') J'):zzQ G 47 [v] J R:=by
 refine zCU rfl ?_
 have v1:=hv.one
 simp[zLM]
 refine zS (LoI J l) MLo ⟨l,[],λ_=>0,by simp,by omega,by simp,by simpa using hv,.inl ⟨rfl,by simp⟩,λ_ _=>rfl,.refl _⟩ λa Z hI=>?_
 obtain⟨l',done,T,he,hl',hdl,hi0,hG,hT,hA⟩:=hI
 have hi:=hi0.keep hA
 have i1:=hi.one
 have i2:=hi.len
 cases l' with
 | nil =>
  simp at i2
  simp[zmZ,zpZ,i1,i2]
  have hd:done=zq l.length l:=by simpa [zq]using he
  subst hd
  obtain⟨r1,r2⟩:=zbV l.length l
  have g1:=hG.bys.one
  simp[g1]
  refine zeb hG.bys (by omega) (by omega) λv' J' h'=>?_
  simp
  exact h _ _ ⟨h'.1.imp (λq=>q) (λ⟨g,q1,q2,q3⟩=>⟨g,q1,by have:=hA.nf;omega,q3⟩),hA.trans h'.2⟩
 | cons t r =>
  obtain⟨φ,hvs,hrd0⟩:=IntsO.drop (n:=0) hi0 (by simp) (by simp)
  have hrd:=hrd0.keep hA
  have hr':=hrd.read
  have g1:=hG.bys.one
  simp[zmZ,hvs]
  refine zS (LoJ (a 0) (a 3) Z t r) (MU 4 (r.length+2)) ⟨0,by omega,by simp,by simp,by simp,rfl⟩ λb Z2 hJ=>?_
  obtain⟨i,hi1,b0,b3,b4,rfl⟩:=hJ
  have hrl:=zqs t r
  rw[hvs]at b0
  have w1:yb4 .i64 ((i:Int)+1+1)=((i+1+1:Nat):Int):=by rw[zb]<;>simp at hl'<;>omega
  have hz:yb4 .i64 0=0:=rfl
  simp only[ydi,ydj]at b4
  have hout:∀c:Nat->AV,c 0=.sl φ 1 ((t::r).map (.int .i64))->c 3=a 3->c 4=.int .i64 ((zgW t r:Int)+1) ->
    avc yb9 G 41 zkf (zai 1 (zab (λa' J'=>LoI J l a' J'/\MLo a' J'<MLo a Z2) (zai 0 (zab (avc yb9 G 41 zpZ (zbE yb9 [.tmp 2] R)) (zbE yb9 [.tmp 2] R))))) c Z2:=λc c0 c3 c4=>by
   have hwt:yb4 .u8 (yb4 .i64 (128-t))=((zY (128-t)).toNat:Int):=by
    rw[wrap_u8,zct,zct]
    simp[yb4,yao,yap]
    omega
   simp[zkf,c0,c3,c4,hr',hwt,g1]
   have hl3:(r.length:Int)+1<=2^34:=by simp at hl';omega
   refine⟨zdC (by omega) λu J1 hu=>?_,zdC (by omega) λu J1 hu=>?_⟩ <;>
   .have hr1:=(hrd.keep hu.2).read
    have u1:=hu.byt.one
    have hul:=zaj ((zgW t r:Int)+1)
    simp[hr1,u1,hwt]
    refine zij (y:=[zY (128-t)]) hu rfl (by simp;omega) λv' Z3 h3=>?_
    have q1:=h3.byt.one
    have g3:=(hG.keep h3.2).bys.one
    have hfr3:zcu T Z3:=λf hf=>hT f (by have:=h3.2.nf;omega)
    simp[q1,g3]
    refine zyG (by omega) (hG.keep h3.2) (h3.row hT) hfr3 (hA.trans h3.2) (by simp at hdl;omega) λv4 Z4 T4 hG4 hT4 hA4 _=>?_
    have hcut:cut φ φ.full=φ:=by cases φ<;>rfl
    have htk:ydl r.length (ydc (yc0 .i64) r)=r.map (.int .i64):=ydg (by simp)
    simp[c0,c4,hcut,htk]
    refine⟨by omega,hrl,⟨r.drop (zgW t r),done++[uI ((zgW t r+1:Nat):Int)++[zY (128-t)]],T4,?_,?_,?_,?_,?_,hT4,hA4⟩,?_⟩
    .rw[<-he]
     simp only[zq,yac,List.append_assoc,List.singleton_append]
     rw[zfD _ r.length _ (yah _) (by simp)]
    .simp at hl' ⊢;omega
    .simp at hdl ⊢;omega
    .exact .inr ⟨φ,by simp,hrd0⟩
    .simpa using hG4
    .simp only[MLo,hvs];simp;omega
  by_cases hir:i<zgW t r
  .have hx:=zuX hir
   have hlt:(i:Int)+1<(r.length:Int)+1:=by omega
   have hlt2:(i:Int)<(r.length:Int):=by omega
   simp[zh8,b0,b3,b4,hr',hx,w1,hlt,hlt2,hz]
   refine⟨by omega,⟨i+1,by omega,by simp[b0,hvs],by simp[b3],by simp,rfl⟩,?_⟩
   simp only[MU,b4];simp;omega
  .have hie:i=zgW t r:=by omega
   by_cases hend:i=r.length
   .have hlt:¬(i:Int)+1<(r.length:Int)+1:=by omega
    have hlt2:¬(i:Int)<(r.length:Int):=by omega
    simp[zh8,b0,b3,b4,hr',w1,hlt,hlt2,hz]
    exact hout _ (by simp[b0]) (by simp[b3]) (by simp[b4,hie])
   .have hlt:(i:Int)+1<(r.length:Int)+1:=by omega
    have hlt2:(i:Int)<(r.length:Int):=by omega
    have hx:=zrG (t:=t) (l:=r) (by omega)
    have hg:=yau (show i<r.length by omega)
    rw[<-hie,hg]at hx
    have hne:¬r[i]=t:=λe=>hx (by rw[e])
    simp[zh8,b0,b3,b4,hr',hg,hne,w1,hlt,hlt2,hz]
    exact⟨by omega,hout _ (by simp[b0]) (by simp[b3]) (by simp[b4,hie])⟩
end
def zbW(w:W):List UInt8 :=
 if w.op=1 then sI w.n
 else if w.op=2\/w.op=3\/w.op=10\/w.op=14\/w.op=15 then uI w.n
 else if w.op=8\/w.op=9 then [0,0]else []
def zee(w:W):Option UInt8:=if w.op=4 then znl w else((zao++zga).find? (zaF w)).map (·.1)
theorem zsY{w:W}{c:UInt8}(h:zee w=some c):znl w=some c:=by
 unfold zee at h
 split at h
 .exact h
 .rename_i h4
  rw[znl,if_neg h4,zls,h]
  rfl
def zR(w:W):Bool:=decide (w.op=11)||decide (w.op=12)||decide (w.op=13)
def zgX(rec:Int->Option (List UInt8))(w:W):Option (List UInt8) :=
 if zR w=true then
  (rec w.body).bind λb =>
   if w.op=13/\0<=w.other then(rec w.other).map λo=>zY (w.op-9)::64::(b++5::(o++[11]))
   else some (zY (w.op-9)::64::(b++[11]))
 else(zee w).map λc=>c::zbW w
def zcL(rec:Int->Option (List UInt8)):List W->Option (List UInt8)
 | []=>some []
 | w::r=>(zgX rec w).bind λa=>(zcL rec r).map (a++·)
def zcZ(ls:To):Nat->Int->Option (List UInt8)
 | 0,_=>none
 | k+1,at_=>if at_<0 then none else match ls[at_.toNat]? with
  | none=>none
  | some ws=>zcL (zcZ ls k) ws
def zfE(f:F):Option (List UInt8):=(zcZ f.lists f.lists.length ((f.lists.length:Int)-1)).map λb=>zi (zb4 f.locals++b++[11])
def zaQ:List F->Option (List (List UInt8))
 | []=>some []
 | f::r=>(zfE f).bind λa=>(zaQ r).map (a::·)
def zeI(s:List UInt8)(i:UInt8):List UInt8:=zi [101,110,118]++zi s++[0,i]
def zF:List (List UInt8):=[zeI [105,110] 0,zeI [111,117,116] 1,zeI [116,114,97,112] 2]
def zG(fs:List F):List (List UInt8):=[zch [] 2,zch [2] 0,zch [1] 0]++fs.map λf=>zch f.params f.type
def zak:Int->List F->List (List UInt8)
 | _,[]=>[]
 | i,_::r=>uI i::zak (i+1) r
def zn:Int->List F->List (List UInt8)
 | _,[]=>[]
 | i,f::r=>(uI i++zi f.name)::zn (i+1) r
def zeX:List UInt8:=[0,97,115,109,1,0,0,0]
def zaS(m:M):Int:=yb4 .i64 (m.main+3)
def zkr(m:M):Option (List UInt8):=(zaQ m.funcs).map λcodes =>
 zeX++(zc 1 (zP (zG m.funcs))++(zc 2 (zP zF)++(zc 3 (zP (zak 3 m.funcs))++(zc 5 [1,0,1] ++
  (zc 6 ([1,127,0,65]++sI m.memory++[11])++(zc 7 ([1]++zi [109,97,105,110]++[0]++uI (zaS m))++(zc 10 (zP codes) ++
   zc 0 (zi [110,97,109,101]++[1]++zi (zP (zn 3 m.funcs))))))))))
structure Rs where
 b:List UInt8
 ls:To
 n:Nat
def zcM(n:Int)(s:Rs):Option (List UInt8 × Rs):=if 0<=n/\n<=s.b.length then some (s.b.take n.toNat,{ s with b:=s.b.drop n.toNat })else none
def zaW(s:Rs):Option (UInt8 × Rs):=match s.b with
 | []=>none
 | c::r=>some (c,{ s with b:=r })
def zDG(u:Nat):Int:=yb4 .i64 (u:Int)
def orS(u:Nat)(x:Nat)(k:Nat):Nat:=(u ||| (x <<< k))%2^64
def ziL(signed:Bool):Nat->Nat->Nat->List UInt8->Option (Int × List UInt8)
 | 0,_,_,_=>none
 | _+1,_,_,[]=>none
 | k+1,sh,u,c::r =>
  let v:=orS u (c.toNat%128) sh
  if c.toNat<128 then some (zDG (if signed=true/\64<=c.toNat/\sh<57 then orS v (2^64-1) (sh+7)else v),r)
  else ziL signed k (sh+7) v r
def zDH(sg:Bool)(n:Int):List UInt8:=if sg=true then sI n else uI n
def zcd(st sg:Bool)(s:Rs):Option (Int × Rs):=(ziL sg 10 0 0 s.b).bind λp =>
 if st=true/\(s.b≠zDH sg p.1++p.2\/(sg=false/\p.1<0))then none else some (p.1,{ s with b:=p.2 })
def zbI{α:Type}(f:Rs->Option (α × Rs)):Nat->Rs->Option (List α × Rs)
 | 0,s=>some ([],s)
 | n+1,s=>(f s).bind λp=>(zbI f n p.2).map λq=>(p.1::q.1,q.2)
def zc8(st:Bool)(s:Rs):Option (Int × Rs):=(zaW s).bind λp=>if st=true/\p.1≠126/\p.1≠127 then none else some (128-(p.1.toNat:Int),p.2)
def zcE(st:Bool)(s:Rs):Option (List Int × Rs):=(zcd st false s).bind λp=>zbI (zc8 st) p.1.toNat p.2
def zD(n:UInt8)(s:Rs):Option Rs:=(zaW s).bind λp=>if p.1=n then(zcd false false p.2).map (·.2)else none
def zci(l:List (UInt8 × W))(c:UInt8):Option W:=(l.find? (λp=>p.1==c)).map (·.2)
def zks(ty:Int)(i:Nat):W:={ op:=4,ty:=ty,n:=0,body:=0,other:=0,name:=zar.getD i [] }
def zht(c:UInt8):Option W:=match zi6.findIdx? (·==c)with
 | some i=>some (zks 1 i)
 | none=>match zi7.findIdx? (·==c)with
  | some i=>some (zks 2 i)
  | none=>none
def zcD(op b o:Int):W:={ op:=op,ty:=0,n:=0,body:=b,other:=o,name:=[] }
abbrev zMf:=Nat->Rs->Option ((Int × UInt8) × Rs)
def zaL(rec:zMf)(d:Nat)(c:UInt8)(s:Rs):Option (W × Rs):=(zaW s).bind λp=>(rec (d+1) p.2).bind λq =>
 if c.toNat=4 then
  if q.1.2=5 then(rec (d+1) q.2).map λr=>(zcD 13 q.1.1 r.1.1,r.2)else some (zcD 13 q.1.1 (-1),q.2)
 else some (zcD ((c.toNat:Int)+9) q.1.1 0,q.2)
def ze4(st:Bool)(c:UInt8)(s:Rs):Option (W × Rs):=match zci zga c with
 | some w=>(zcd st (decide (w.op=1)) s).map λp=>({ w with n:=p.1 },p.2)
 | none=>match zci zao c with
  | some w=>if w.op=8\/w.op=9 then(zcM 2 s).map λp=>(w,p.2)else some (w,s)
  | none=>(zht c).map λw=>(w,s)
def zay(st:Bool)(rec:zMf)(d:Nat)(c:UInt8)(s:Rs):Option (W × Rs) :=
 if 2<=c.toNat/\c.toNat<=4 then if d<400 then zaL rec d c s else none else ze4 st c s
def zH(st:Bool):Nat->Nat->List W->Rs->Option ((Int × UInt8) × Rs)
 | 0,_,_,_=>none
 | k+1,d,l,s=>(zaW s).bind λp =>
  if p.1=11\/p.1=5 then some (((p.2.ls.length:Int),p.1),{ p.2 with ls:=p.2.ls++[l] })
  else(zay st (λd s=>zH st k d [] s) d p.1 p.2).bind λq=>zH st k d (l++[q.1]) q.2
def zbv(st:Bool)(s:Rs):Option (List Int × Rs):=(zcd st false s).bind λp =>
 if 0<=p.1/\p.1<=65536-(p.2.n:Int)then(zc8 st { p.2 with n:=p.2.n+p.1.toNat }).map λq=>(yaj p.1.toNat q.1,q.2)else none
def zX(st:Bool)(f:F)(s:Rs):Option (F × Rs):=(zcd st false s).bind λp=>(zcd st false p.2).bind λq=>(zbI (zbv st) q.1.toNat q.2).bind λl =>
 (zH st (l.2.b.length+1) 0 [] { l.2 with ls:=[] }).map λr=>({ f with locals:=f.locals++l.1.flatten,lists:=r.2.ls },r.2)
def zcN(st:Bool)(s:Rs):Option (F × Rs):=(zaW s).bind λp=>(zcE st p.2).bind λq=>(zcE st q.2).map λr =>
 ({ name:=[],params:=q.1,locals:=[],type:=r.1.headD 0,lists:=[] },r.2)
def zdq(s:Rs):Option (List F × Rs):=(zD 1 s).bind λs=>(zcd false false s).bind λp=>(zbI (zcN false) p.1.toNat p.2).bind λq =>
 if 3<=q.1.length then some (q.1.drop 3,q.2)else none
def zas(n:Int)(s:Rs):Option Rs:=(zcM n s).map (·.2)
def zC(st:Bool):List F->Rs->Option (List F × Rs)
 | [],s=>some ([],s)
 | f::r,s=>(zX st f s).bind λp=>(zC st r p.2).map λq=>(p.1::q.1,q.2)
def zc9(st:Bool):List F->Rs->Option (List F × Rs)
 | [],s=>some ([],s)
 | f::r,s=>(zcd st false s).bind λp=>(zcd st false p.2).bind λq=>(zcM q.1 q.2).bind λt=>(zc9 st r t.2).map λu=>({ f with name:=t.1 }::u.1,u.2)
def zhu(s:Rs):Option ((List F × Int × Int) × Rs):=(zas 8 s).bind λs=>(zdq s).bind λh=>(zD 2 h.2).bind λs=>(zas 1 s).bind λs=>(zas 9 s).bind λs=>(zas 10 s).bind λs=>(zas 11 s).bind λs =>
 (zD 3 s).bind λs=>(zcd false false s).bind λp=>(zbI (zcd false false) p.1.toNat p.2).bind λr=>(zD 5 r.2).bind λs=>(zas 3 s).bind λs=>(zD 6 s).bind λs=>(zas 4 s).bind λs =>
 (zcd false true s).bind λmem=>(zas 1 mem.2).bind λs=>(zD 7 s).bind λs=>(zas 7 s).bind λs=>(zcd false false s).map λmn=>((h.1,mem.1,mn.1),mn.2)
def znm(h:List F)(s:Rs):Option (List F × Rs):=(zD 10 s).bind λs=>(zcd false false s).bind λc =>
 if c.1=h.length then(zC false h c.2).bind λfs=>(zD 0 fs.2).bind λs=>(zas 6 s).bind λs=>(zcd false false s).bind λx=>(zcd false false x.2).bind λy =>
  if y.1=h.length then zc9 false fs.1 y.2 else none
 else none
def zdZ(s:Rs):Option (M × Rs):=(zhu s).bind λp=>(znm p.1.1 p.2).map λq=>({ funcs:=q.1,memory:=p.1.2.1,main:=yb4 .i64 (p.1.2.2-3) },q.2)
def zlU(t:Int):Bool:=decide (t≠1)&&decide (t≠2)
def zcv(f:F):Bool:=!(f.params.any zlU||(f.locals.any zlU||(decide (f.type≠0)&&zlU f.type)))
def zI(w:W):Bool:=decide (w.n<0)&&decide (w.op≠1)
def zfF(m:M):Bool:=decide (-3<=m.main)&&!(m.funcs.any λf=>f.lists.any λl=>l.any zI)
def zaC(b:List UInt8):Option M:=(zdZ ⟨b,[],0⟩).bind λp=>if p.2.b=[]/\p.1.funcs.all zcv=true/\zfF p.1=true/\zkr p.1=some b then some p.1 else none
theorem zcO{a b:Int}(h:a%2^64=b%2^64):yb4 .i64 a=yb4 .i64 b:=by
 have h':a%(2^yam.bits:Int)=b%(2^yam.bits:Int):=h
 unfold yb4
 rw[h']
theorem zeY{u x k:Nat}(h:u<2^k):orS u x k=(u+x*2^k)%2^64:=by
 unfold orS
 rw[Nat.or_comm,<-Nat.shiftLeft_add_eq_or_of_lt h,Nat.shiftLeft_eq,Nat.add_comm]
theorem zrH{m:Nat}(h:m<=127):(zY (m:Int)).toNat=m:=by
 have:=zct (m:Int)
 omega
theorem zHw(b:UInt8):(b ||| 128).toNat=128+b.toNat%128:=by
 have:∀k:Fin 256,(UInt8.ofNat k.1 ||| 128).toNat=128+k.1%128:=by decide
 have:=this ⟨b.toNat,b.toNat_lt⟩
 simpa using this
theorem zBo(b:UInt8):(b &&& 127).toNat=b.toNat%128:=by
 have:∀k:Fin 256,(UInt8.ofNat k.1 &&& 127).toNat=k.1%128:=by decide
 have:=this ⟨b.toNat,b.toNat_lt⟩
 simpa using this
theorem zHx(k:Nat):2^(k+7)=2^k*128:=by rw[Nat.pow_add]
theorem zBp:∀(k sh u m:Nat) (rest:List UInt8),m<128^k->u<2^sh->1<=k->ziL false k sh u (uF k (m:Int)++rest)=some (yb4 .i64 ((u+m*2^sh:Nat):Int),rest)
 | 0,_,_,_,_,_,_,h=>by omega
 | k+1,sh,u,m,rest,hm,hu,_=>by
  rw[uF]
  by_cases h:m<=127
  .have h':(m:Int)<=127:=by omega
   rw[if_pos h']
   have hb:=zrH h
   have hl:m<128:=by omega
   have hm':m%128=m:=ydp hl
   simp only[yc1,ydq,ziL,hb,hl,if_true,hm',zDG,Bool.false_eq_true,false_and,if_false]
   rw[zeY hu]
   congr 2
   exact zcO (by omega)
  .have h':¬(m:Int)<=127:=by omega
   rw[if_neg h']
   have hb:(zY (m:Int) ||| 128).toNat=128+m%128:=by
    rw[zHw]
    have:=zct (m:Int)
    omega
   have hl:¬128+m%128<128:=by omega
   have hm':(128+m%128)%128=m%128:=by omega
   have hd:(m:Int)/128=((m/128:Nat):Int):=by omega
   have hk:1<=k:=by
    rcases ybr k with rfl|h
    .simp at hm;omega
    .exact h
   have hlt:m/128<128^k:=by
    rw[Nat.pow_succ]at hm
    exact Nat.div_lt_of_lt_mul (by rw[ydr];exact hm)
   simp only[yc1,ziL,hb,hl,if_false,hm',hd]
   have hv:orS u (m%128) sh<2^(sh+7):=by
    rw[zeY hu]
    have hp:=zHx sh
    refine yds (ydt _ _) ?_
    have:m%128*2^sh<=127*2^sh:=yax _ (by omega)
    omega
   rw[zBp k (sh+7) _ (m/128) rest hlt hv hk]
   congr 2
   refine zcO ?_
   rw[zeY hu,zHx sh]
   have e:m*2^sh=m%128*2^sh+m/128*(2^sh*128):=by
    conv=>lhs;rw[<-Nat.mod_add_div m 128]
    rw[Nat.add_mul,ydr 128,ydu,ydr 128]
   rw[e]
   clear hv hl hb hm' hd hm h h' hlt e
   generalize m%128*2^sh=x
   generalize m/128*(2^sh*128)=y
   omega
theorem zBq:∀(k sh u:Nat) (n:Int) (rest:List UInt8),-(64*128^k)<=n->n<64*128^k->u<2^sh->ziL true (k+1) sh u (sF (k+1) n++rest)=some (yb4 .i64 ((u:Int)+n*2^sh),rest)
 | k,sh,u,n,rest,h1,h2,hu=>by
  rw[sF]
  by_cases h:-64<=n/\n<=63
  .rw[if_pos h]
   have hb:((zY n &&& 127).toNat:Int)=n%128:=by
    rw[zBo]
    have:=zct n
    omega
   have hl:(zY n &&& 127).toNat<128:=by omega
   generalize hc:(zY n &&& 127).toNat=c at *
   have hm':c%128=c:=ydp hl
   simp only[yc1,ydq,ziL,hc,hl,if_true,hm',zDG,true_and]
   have hp:(0:Int)<2^sh:=by exact_mod_cast Nat.two_pow_pos sh
   have he:((2^sh:Nat):Int)=2^sh:=by simp
   by_cases hx:64<=c
   .have hn:n=(c:Int)-128:=by omega
    by_cases hs:sh<57
    .rw[if_pos ⟨hx,hs⟩]
     have hv:orS u c sh<2^(sh+7):=by
      rw[zeY hu]
      have hp:=zHx sh
      refine yds (ydt _ _) ?_
      have:c*2^sh<=127*2^sh:=yax _ (by omega)
      omega
     congr 2
     refine zcO ?_
     rw[zeY hv,zeY hu,zHx sh,hn]
     have e:((c:Int)-128)*2^sh=((c*2^sh:Nat):Int)-((2^sh*128:Nat):Int):=by
      have hP:(2:Int)^sh=((2^sh:Nat):Int):=by rw[ydv];rfl
      rw[hP,Int.sub_mul,ybd c,ybd (2^sh) 128,ydw 128]
      rfl
     rw[e]
     generalize c*2^sh=x
     have e2:(2^64-1)*(2^sh*128)+(2^sh*128)=2^64*(2^sh*128):=by omega
     generalize 2^sh*128=y at *
     omega
    .rw[if_neg (λh=>hs h.2)]
     congr 2
     refine zcO ?_
     rw[zeY hu,hn]
     obtain⟨j,rfl⟩:∃j,sh=57+j:=⟨sh-57,by omega⟩
     have e0:128*2^(57+j)=2^64*2^j:=by
      rw[Nat.pow_add,<-ydu]
     have e:((c:Int)-128)*2^(57+j)=((c*2^(57+j):Nat):Int)-((2^64*2^j:Nat):Int):=by
      have hP:(2:Int)^(57+j)=((2^(57+j):Nat):Int):=by rw[ydv];rfl
      rw[hP,<-e0,Int.sub_mul,ybd c,ybd 128]
      rfl
     rw[e]
     generalize c*2^(57+j)=x
     generalize 2^j=y at *
     omega
   .rw[if_neg (λh=>hx h.1)]
    have hn:n=(c:Int):=by omega
    congr 2
    refine zcO ?_
    rw[zeY hu,hn]
    have hP:(2:Int)^sh=((2^sh:Nat):Int):=by rw[ydv];rfl
    rw[hP,<-ybd]
    generalize c*2^sh=x
    omega
  .rw[if_neg h]
   obtain⟨k,rfl⟩:∃j,k=j+1:=by
    cases k with
    | zero=>simp at h1 h2;omega
    | succ k=>exact⟨k,rfl⟩
   have hb:((zY n ||| 128).toNat:Int)=128+n%128:=by
    rw[zHw]
    have:=zct n
    omega
   generalize hc:(zY n ||| 128).toNat=c at *
   have hl:¬c<128:=by omega
   have hlt:n/128<64*128^k:=by
    rw[ydh]at h2
    omega
   have hle:-(64*128^k)<=n/128:=by
    rw[ydh]at h1
    omega
   rw[yc1,ziL]
   simp only[hc,hl,if_false]
   have hv:orS u (c%128) sh<2^(sh+7):=by
    rw[zeY hu]
    have hp:=zHx sh
    refine yds (ydt _ _) ?_
    have:c%128*2^sh<=127*2^sh:=yax _ (by omega)
    omega
   rw[zBq k (sh+7) _ (n/128) rest hle hlt hv]
   congr 2
   refine zcO ?_
   rw[zeY hu]
   have hcm:((c%128:Nat):Int)=n%128:=by omega
   have e:n*2^sh=((c%128*2^sh:Nat):Int)+n/128*2^(sh+7):=by
    rw[ybd,hcm,ydv,Int.pow_add]
    conv=>lhs;rw[<-Int.emod_add_mul_ediv n 128]
    rw[Int.add_mul,ydw 128,Int.mul_assoc,ydw 128]
    rfl
   rw[e]
   generalize c%128*2^sh=x
   generalize n/128*2^(sh+7)=y
   omega
theorem wrap_nat{m:Nat}(h:m<2^63):yb4 .i64 (m:Int)=m:=by rw[zb]<;>omega
theorem zbk(st:Bool){n:Int}(h0:0<=n)(h:n<2^63){s:Rs}{rest:List UInt8}(hb:s.b=uI n++rest):zcd st false s=some (n,{ s with b:=rest }):=by
 obtain⟨m,rfl⟩:∃m:Nat,n=m:=⟨n.toNat,by omega⟩
 have h128:(128:Nat)^10=2^70:=by decide
 have:=zBp 10 0 0 m rest (by rw[h128];omega) (by omega) (by omega)
 have w:yb4 .i64 (m:Int)=m:=wrap_nat (by omega)
 simp only[Nat.zero_add,Nat.pow_zero,Nat.mul_one,w]at this
 unfold zcd
 rw[hb]
 unfold uI
 rw[this]
 have hm:¬(m:Int)<0:=by omega
 simp[zDH,uI,hm]
theorem zrI(st:Bool){n:Int}(h0:-(2^63)<=n)(h:n<2^63){s:Rs}{rest:List UInt8}(hb:s.b=sI n++rest):zcd st true s=some (n,{ s with b:=rest }):=by
 have h128:(128:Int)^9=2^63:=by decide
 have:=zBq 9 0 0 n rest (by rw[h128];omega) (by rw[h128];omega) (by omega)
 have w:yb4 .i64 n=n:=by rw[zb]<;>omega
 simp only[Int.natCast_zero,Int.zero_add,Int.pow_zero,Int.mul_one,w]at this
 unfold zcd
 rw[hb]
 unfold sI
 rw[this]
 simp[zDH,sI]
end Go.Proofs.YtohfclafhegadaaGreatDoor
