/- Parts of the proof of the row WatBack: contracts of functions, each under the conditions that its theorem names. -/
import Derived.Test.YtohfclafhegadaaGreatDoorAbsB
import Derived.Lib.IndexMore
import Derived.Lib.AtoiAll
import Derived.Lib.ItoaNum
import Derived.Test.YtohfclafhegadaaGreatDoorGenP
import Derived.Test.YtohfclafhegadaaGreatDoorShelf
set_option linter.unusedSimpArgs false
set_option linter.unusedVariables false
set_option maxRecDepth 100000
open List renaming replicate->yaj,all_cons->ycE,all_append->ycF,head?_cons->ycG,length_cons->yac,length_nil->ybm,length->ycH,takeWhile_append_dropWhile->ycI,length_append->yab,getD_eq_getElem?_getD->ycJ,flatMap_cons->yaa,drop_eq_nil_iff->ycK,getElem?_eq_none->yb3,drop_drop->ycL,getElem?_eq_some_iff->yaq,length_eq_zero_iff->ybT,map_cons->yaL,sum_cons->ycM,getElem?_replicate->ycO,length_take->ybf,getElem?_eq_getElem->yau,all_eq_true->yaM,getElem_mem->yaw,mem_cons->ybD,take_succ_eq_append_getElem->ycP,take_length->ycQ,cons_append->ycT,length_pos_iff->ybn,drop_eq_getElem_cons->ycU,mem_of_getElem?->ycW,mem_flatMap->ycZ,all_eq_false->yc0,mem_iff_getElem->yc1,getElem_take->yaE,replicate_succ->yc2,length_map->ybb,not_mem_nil->yc3,mem_map->yaV,mem_singleton->yc4,take_left'->yc5,map_append->yc6,drop_append->yc7,drop_eq_nil_of_le->yc8,length_replicate->yba,dropWhile_cons->ydb,contains_cons->ydc,contains_nil->ydd,nil_append->yde,append_nil->yb8,append_assoc->ydf,map_nil->ydg,prefix_append->ydh
open Nat renaming le_refl->yah,strongRecOn->ybJ,zero_le->ycN,le_trans->yai,lt_of_lt_of_le->yag,le_succ_of_le->ydi
open Option renaming some->yaR,isSome_iff_exists->yay,map_eq_some_iff->ybC
open Array renaming getElem?_eq_some_iff->yaU
open Int renaming toNat_natCast->ybe,natCast_add->yc9,natCast_one->yda
open Go.Proofs.Tryz renaming prog->yca
open Go.IntKind renaming wrap->yb5,signed->yao,bits->yap,i64->yam
open Go.Abs.AV renaming str->ycR,int->ycS,ptr->ycV,agg->ycX,nilsl->ycY
namespace Go.Proofs.YtohfclafhegadaaGreatDoor
open Go Go.Abs
structure W where
 op:Int
 ty:Int
 n:Int
 body:Int
 other:Int
 name:List UInt8
deriving DecidableEq
abbrev To:=List (List W)
structure F where
 name:List UInt8
 params:List Int
 locals:List Int
 type:Int
 lists:To
structure M where
 funcs:List F
 memory:Int
 main:Int
structure St where
 stack:List Int
 any:Bool
abbrev Res:=Except Int
def zdt(s:St):Res St :=
 if s.stack.length=0 then(if s.any then .ok s else .error 14)else .ok { s with stack:=s.stack.dropLast }
def zW:List Int->St->Res St
 | [],s=>.ok s
 | t::ts,s=>if s.stack.length=0\/s.stack.getLast?=some t then
   match zdt s with
   | .ok s'=>zW ts s'
   | .error e=>.error e
  else .error 14
def zc9(s:St)(t:Int):St:=if t=0 then s else { s with stack:=s.stack++[t] }
def zna:St:=⟨[],true⟩
def zw(ty:Int)(s:St):Res St:=if ty=0 then .ok s else zW [ty] s
def zT(t:Int):Bool:=decide (t=1)||decide (t=2)
def signs:List (List UInt8 × List UInt8):=[
 ([97,100,100],[43]),([115,117,98],[45]),([109,117,108],[42]),([100,105,118,95,115],[47]),([114,101,109,95,115],[37]),([97,110,100],[38]),([111,114],[124]),([120,111,114],[94]),
 ([115,104,108],[60,60]),([115,104,114,95,115],[62,62]),([101,113],[61,61]),([110,101],[33,61]),([108,116,95,115],[60]),([108,101,95,115],[60,61]),([103,116,95,115],[62]),([103,101,95,115],[62,61])]
def zbn:List (List UInt8 × List UInt8)->List UInt8->List UInt8
 | [],_=>[]
 | (x,y)::r,s=>if x=s then y else zbn r s
def zfx(t n:Int):Bool:=decide (t=1)&&(decide (n=1)||decide (n=4))||decide (t=2)&&decide (n=8)
def zQ(w:W):Bool :=
 if w.op=1\/w.op=5 then zT w.ty
 else if w.op=4 then zT w.ty&&!(zbn signs w.name==[])
 else if w.op=8\/w.op=9 then zfx w.ty w.n
 else decide (1<=w.op)&&decide (w.op<=18)
def zaY(fs:List F)(n:Int):Option (List Int × Int) :=
 if n=0 then some ([],2)else if n=1 then some ([2],0)else if n=2 then some ([1],0)
 else if n<0 then none else(fs[(n-3).toNat]?).map λf=>(f.params,f.type)
def zum(t v:Int):Int:=if t=3 then IntKind.i8.wrap v else if t=1 then IntKind.i32.wrap v else if t=2 then v else 0
def zH(fs:List F)(locals:List Int)(deep:Int)(w:W):Bool :=
 if w.op=1 then decide (zum w.ty w.n=w.n)
 else if w.op=2\/w.op=3 then decide (0<=w.n)&&decide (w.n<(locals.length:Int))
 else if w.op=10 then(zaY fs w.n).isSome
 else if w.op=14\/w.op=15 then decide (0<=w.n)&&decide (w.n<=deep)
 else true
def zhY(locals:List Int)(n:Int):Int:=locals.getD n.toNat 0
def zun:List UInt8:=[32,101,113,32,110,101,32,108,116,95,115,32,108,101,95,115,32,103,116,95,115,32,103,101,95,115,32]
def zCq(s:List UInt8):Bool:=Lib.contains zun (32::(s++[32]))
def zf2(r:Res St)(t:Int):Res St:=match r with
 | .ok s=>.ok (zc9 s t)
 | .error e=>.error e
def zbO(fs:List F)(locals:List Int)(w:W)(s:St):Res St :=
 if w.op=1 then .ok (zc9 s w.ty)
 else if w.op=2 then .ok (zc9 s (zhY locals w.n))
 else if w.op=3 then zW [zhY locals w.n] s
 else if w.op=4 then zf2 (zW [w.ty,w.ty] s) (if zCq w.name then 1 else w.ty)
 else if w.op=5 then zf2 (zW [w.ty] s) 1
 else if w.op=6 then zf2 (zW [2] s) 1
 else if w.op=7 then zf2 (zW [1] s) 2
 else if w.op=8 then zf2 (zW [1] s) w.ty
 else if w.op=9 then zW [w.ty,1] s
 else if w.op=10 then match zaY fs w.n with
  | some (ts,g)=>zf2 (zW ts.reverse s) g
  | none=>.ok s
 else if w.op=18 then zdt s
 else .ok s
abbrev zkx:=Int->Int->Res Unit
def zJ(fs:List F)(locals:List Int)(ty deep:Int)(look:zkx)(w:W)(s:St):Res St :=
 if zQ w=false then .error 2
 else if zH fs locals deep w=false then .error 11
 else if w.op=11\/w.op=12 then match look w.body (deep+1)with
  | .ok _=>.ok s
  | .error e=>.error e
 else if w.op=13 then match zW [1] s with
  | .error e=>.error e
  | .ok s1=>match look w.body (deep+1)with
   | .error e=>.error e
   | .ok _=>if 0<=w.other then match look w.other (deep+1)with
     | .error e=>.error e
     | .ok _=>.ok s1
    else .ok s1
 else if w.op=15 then match zW [1] s with
  | .error e=>.error e
  | .ok s1=>if w.n=deep then zf2 (zw ty s1) ty else .ok s1
 else if w.op=14 then if w.n=deep then match zw ty s with
   | .error e=>.error e
   | .ok _=>.ok zna
  else .ok zna
 else if w.op=16 then match zw ty s with
  | .error e=>.error e
  | .ok _=>.ok zna
 else if w.op=17 then .ok zna
 else zbO fs locals w s
def zD(fs:List F)(locals:List Int)(ty deep:Int)(look:zkx):List W->St->Res St
 | [],s=>.ok s
 | w::ws,s=>match zJ fs locals ty deep look w s with
  | .error e=>.error e
  | .ok s'=>zD fs locals ty deep look ws s'
def zCr(ty deep:Int)(s:St):Res Unit:=match (if deep=0 then zw ty s else .ok s)with
 | .error e=>.error e
 | .ok s'=>if s'.stack.length=0 then .ok ()else .error 14
def zP(fs:List F)(locals:List Int)(ty:Int)(lists:To):Nat->zkx
 | 0,_,_=>.error (-1)
 | k+1,at_,deep=>match zD fs locals ty deep (zP fs locals ty lists k) (lists.getD at_.toNat []) ⟨[],false⟩with
  | .error e=>.error e
  | .ok s=>zCr ty deep s
def zj(w:W):List Int:=if w.op=11\/w.op=12\/(w.op=13/\w.other<0)then [w.body]else if w.op=13 then [w.body,w.other]else []
def zdu(at_:Int)(named:List Bool)(n:Int):Res (List Bool) :=
 if 0<=n/\n<at_/\named.getD n.toNat true=false then .ok (named.set n.toNat true)else .error 11
def zaJ(at_:Int):List Int->List Bool->Res (List Bool)
 | [],named=>.ok named
 | n::ns,named=>match zdu at_ named n with
  | .error e=>.error e
  | .ok named'=>zaJ at_ ns named'
def zha(at_:Int):List W->List Bool->Res (List Bool)
 | [],named=>.ok named
 | w::ws,named=>match zaJ at_ (zj w) named with
  | .error e=>.error e
  | .ok named'=>zha at_ ws named'
def zbD:Nat->To->List Bool->Res (List Bool)
 | _,[],named=>.ok named
 | k,l::ls,named=>match zha (k:Int) l named with
  | .error e=>.error e
  | .ok named'=>zbD (k+1) ls named'
def zb2(ls:To):Res Unit :=
 if ls.length=0 then .error 11 else match zbD 0 ls (yaj ls.length false)with
  | .error e=>.error e
  | .ok named=>if(named.take (ls.length-1)).all (·==true)then .ok ()else .error 11
def zm(fs:List F)(f:F):Res Unit :=
 if((f.params++f.locals).all zT&&decide (0<=f.type)&&decide (f.type<=2))=false then .error 6 else match zb2 f.lists with
  | .error e=>.error e
  | .ok _=>zP fs (f.params++f.locals) f.type f.lists f.lists.length ((f.lists.length:Int)-1) 0
def zN(fs:List F):List F->Res Unit
 | []=>.ok ()
 | f::r=>match zm fs f with
  | .error e=>.error e
  | .ok _=>zN fs r
def zfy(m:M):Bool:=decide (0<=m.main)&&match m.funcs[m.main.toNat]? with
 | some f=>decide (f.type=1)&&decide (f.params.length=0)
 | none=>false
def zav(m:M):Res Unit :=
 if(decide (0<=m.memory)&&decide (m.memory<=4096))=false then .error 11 else match zN m.funcs m.funcs with
  | .error e=>.error e
  | .ok _=>if zfy m then .ok ()else .error 12
def znb:Res Unit->Int
 | .ok _=>0
 | .error e=>e
def zK(c:UInt8):Bool:=decide (48<=c.toNat)&&decide (c.toNat<=57)
def zhb(acc:Nat)(d:List UInt8):Nat:=d.foldl (λa c=>a*10+(c.toNat-48)) acc
def zbu(t:List UInt8):List UInt8:=if t.head?=some 45 then t.tail else t
def znc(t:List UInt8):Int:=if t.head?=some 45 then -(zhb 0 (zbu t):Int)else zhb 0 (zbu t)
def zqO(t:List UInt8):Res Int :=
 if(zbu t).isEmpty||!(zbu t).all zK then .error 2
 else match Lib.atoiAll t with
  | .ok n=>if Lib.itoa n=t then .ok n else .error 11
  | _=>.error 11
theorem znd(acc:Nat)(x y:List UInt8):zhb acc (x++y)=zhb (zhb acc x) y:=by simp[zhb]
theorem zlM:∀(d:List UInt8) (acc:Nat),acc<=zhb acc d
 | [],acc=>yah _
 | c::d,acc=>by
  have:=zlM d (acc*10+(c.toNat-48))
  show acc<=zhb (acc*10+(c.toNat-48)) d
  omega
theorem zom:∀(d:List UInt8) (acc:Nat),d.all zK=true->acc<18446744073709551616->Lib.parseUint10 acc d=if zhb acc d<18446744073709551616 then .ok (zhb acc d)else .range
 | [],acc,_,ha=>by simp[Lib.parseUint10,zhb,ha]
 | c::d,acc,h,ha=>by
  simp only[ycE,Bool.and_eq_true,zK,decide_eq_true_eq]at h
  obtain⟨⟨h1,h2⟩,h3⟩:=h
  have e:zhb acc (c::d)=zhb (acc*10+(c.toNat-48)) d:=rfl
  have m:=zlM d (acc*10+(c.toNat-48))
  rw[Lib.parseUint10,if_pos ⟨h1,h2⟩,e]
  by_cases o1:1844674407370955162<=acc
  .rw[if_pos o1,if_neg (by omega)]
  .rw[if_neg o1]
   by_cases o2:18446744073709551616<=acc*10+(c.toNat-48)
   .rw[if_pos o2,if_neg (by omega)]
   .rw[if_neg o2]
    exact zom d _ (by simpa [zK]using h3) (by omega)
theorem zne(u:Nat):zhb 0 (Lib.decDigits u)=u:=by
 induction u using ybJ with
 | _ u ih =>
  rw[Lib.decDigits]
  split
  .rename_i h
   simp[zhb]
   omega
  .rename_i h
   rw[znd,ih (u/10) (by omega)]
   simp[zhb]
   omega
theorem zf3(u:Nat):(Lib.decDigits u).all zK=true:=by
 induction u using ybJ with
 | _ u ih =>
  rw[Lib.decDigits]
  split
  .simp[zK];omega
  .rw[ycF,ih (u/10) (by omega)]
   simp[zK];omega
theorem zhZ(u:Nat):Lib.decDigits u≠[]:=by
 rw[Lib.decDigits]
 split<;>simp
theorem zh0(u:Nat):(Lib.decDigits u).head?≠some 45:=by
 intro h
 have h1:=zf3 u
 cases hd:Lib.decDigits u with
 | nil=>exact zhZ u hd
 | cons c r =>
  rw[hd]at h h1
  simp only[ycG,yaR.injEq]at h
  subst h
  simp[zK]at h1
theorem zlN(n:Int):zbu (Lib.itoa n)=Lib.decDigits n.natAbs:=by
 unfold Lib.itoa zbu
 split
 .simp
 .rename_i h
  rw[if_neg (zh0 _)]
  congr 1;omega
theorem zon(n:Int):znc (Lib.itoa n)=n:=by
 have h1:=zlN n
 unfold znc
 rw[h1,zne]
 unfold Lib.itoa
 split
 .simp;omega
 .rw[if_neg (zh0 _)];omega
theorem znf{t:List UInt8}(h1:zbu t≠[])(h2:(zbu t).all zK=true):Lib.atoiAll t=if -(2^63)<=znc t/\znc t<2^63 then .ok (znc t)else .range:=by
 cases t with
 | nil=>exact absurd rfl h1
 | cons c r =>
  have hp:∀d:List UInt8,d≠[]->d.all zK=true->Lib.parseMag d=if zhb 0 d<18446744073709551616 then .ok (zhb 0 d)else .range:=λd hd ha=>by
   rw[Lib.parseMag,if_neg hd,zom d 0 ha (by omega)]
  unfold Lib.atoiAll
  simp only
  by_cases hc:c=45
  .subst hc
   have hb:zbu (45::r)=r:=rfl
   rw[hb]at h1 h2
   have hv:znc (45::r)=-(zhb 0 r:Int):=rfl
   rw[hv,if_pos (show((45:UInt8).toNat=43\/(45:UInt8).toNat=45) from .inr rfl),hp r h1 h2]
   have e:((45:UInt8).toNat=45)=True:=eq_true rfl
   simp only[e,not_true,false_and,true_and,if_false,if_true]
   by_cases o:zhb 0 r<18446744073709551616
   .rw[if_pos o]
    simp only
    by_cases o2:9223372036854775808<zhb 0 r
    .rw[if_pos o2,if_neg (by omega)]
    .rw[if_neg o2,if_pos (by omega)]
   .rw[if_neg o,if_neg (by omega)]
  .have hb:zbu (c::r)=c::r:=by unfold zbu;rw[if_neg (by simpa using hc)]
   rw[hb]at h1 h2
   have hv:znc (c::r)=(zhb 0 (c::r):Int):=by unfold znc;rw[if_neg (by simpa using hc),hb]
   have hn45:¬c.toNat=45:=λe=>hc (UInt8.toNat_inj.1 e)
   have hn43:¬c.toNat=43:=λe=>by
    simp only[ycE,Bool.and_eq_true,zK,decide_eq_true_eq]at h2
    omega
   rw[hv,if_neg (by omega),hp _ h1 h2]
   simp only[hn45,not_false_eq_true,true_and,false_and,if_false]
   by_cases o:zhb 0 (c::r)<18446744073709551616
   .rw[if_pos o]
    simp only
    by_cases o2:9223372036854775808<=zhb 0 (c::r)
    .rw[if_pos o2,if_neg (by omega)]
    .rw[if_neg o2,if_pos (by omega)]
   .rw[if_neg o,if_neg (by omega)]
theorem zxJ{t:List UInt8}(h1:zbu t≠[])(h2:(zbu t).all zK=true):zqO t=if Lib.itoa (yb5 .i64 (znc t))=t then .ok (yb5 .i64 (znc t))else .error 11:=by
 have hw:∀x:Int,-(2^63)<=x->x<2^63->yb5 .i64 x=x:=λx a b=>by rw[wrap_i64]<;>omega
 unfold zqO
 rw[if_neg (by simp[h1,h2]),znf h1 h2]
 by_cases o:-(2^63)<=znc t/\znc t<2^63
 .rw[if_pos o,hw _ o.1 o.2]
 .rw[if_neg o,if_neg]
  intro e
  have h3:=congrArg znc e
  rw[zon]at h3
  have h4:-(2^63)<=yb5 .i64 (znc t)/\yb5 .i64 (znc t)<2^63:=by
   have q:∀x:Int,-(2^63)<=yb5 .i64 x/\yb5 .i64 x<2^63:=λx=>by
    simp only[yb5,yao,yap,Bool.true_and,decide_eq_true_eq]
    have a1:=Int.emod_nonneg x (show(2:Int)^64≠0 by decide)
    have a2:=Int.emod_lt_of_pos x (show(0:Int)<2^64 by decide)
    split
    .rename_i k
     have k:=of_decide_eq_true k
     omega
    .rename_i k
     have k:=of_decide_eq_false (eq_false_of_ne_true k)
     omega
   exact q _
  rw[h3]at h4
  exact o h4
theorem zqP{n:Int}(h:-(2^63)<=n/\n<2^63):zqO (Lib.itoa n)=.ok n:=by
 have hb:=zlN n
 rw[zxJ (by rw[hb];exact zhZ _) (by rw[hb];exact zf3 _),zon]
 have hw:yb5 .i64 n=n:=by rw[wrap_i64]<;>omega
 rw[hw,if_pos rfl]
def zng(c:UInt8):Bool:=[32,10].contains c
def zbc(c:UInt8):Bool:=[32,10,40,41,34].contains c
def zqQ(c:UInt8):Bool:=[34,10].contains c
def zlO(r:List UInt8):Option (List UInt8 × List UInt8):=match r.dropWhile λc=>!zqQ c with
 | []=>none
 | x::z=>if x=34 then some (34::(r.takeWhile (λc=>!zqQ c)++[34]),z)else none
def zdv(s:List UInt8):Option (List UInt8 × List UInt8):=match s.dropWhile zng with
 | []=>none
 | c::r=>if c=40\/c=41 then some ([c],r)else if c=34 then zlO r else some (c::r.takeWhile (λx=>!zbc x),r.dropWhile λx=>!zbc x)
theorem zcs{s t r:List UInt8}(h:zdv s=some (t,r)):t.length+r.length<=s.length/\t≠[]:=by
 have hd:=(List.dropWhile_sublist zng (l:=s)).length_le
 unfold zdv at h
 split at h
 .cases h
 .rename_i c z e
  rw[e]at hd
  simp only[yac]at hd
  split at h
  .cases h
   exact⟨by simp only[yac,ybm];omega,by simp⟩
  .split at h
   .unfold zlO at h
    split at h
    .cases h
    .rename_i x y e2
     split at h
     .cases h
      have h3:=congrArg ycH (ycI (p:=λc=>!zqQ c) (l:=z))
      rw[e2]at h3
      simp only[yab,yac,ybm]at h3 ⊢
      exact⟨by omega,by simp⟩
     .cases h
   .cases h
    have h3:=congrArg ycH (ycI (p:=λx=>!zbc x) (l:=z))
    simp only[yab,yac]at h3 ⊢
    exact⟨by omega,by simp⟩
def zk:List UInt8:=[40,32,109,111,100,117,108,101,32,40,32,105,109,112,111,114,116,32,34,101,110,118,34,32,34,105,110,34,32,40,32,102,117,110,99,32,40,32,114,101,115,117,108,116,32,105,54,52,32,41,32,41,32,41,32,40,32,105,109,112,111,114,116,32,34,101,110,118,34,32,34,111,117,116,34,32,40,32,102,117,110,99,32,40,32,112,97,114,97,109,32,105,54,52,32,41,32,41,32,41,32,40,32,105,109,112,111,114,116,32,34,101,110,118,34,32,34,116,114,97,112,34,32,40,32,102,117,110,99,32,40,32,112,97,114,97,109,32,105,51,50,32,41,32,41,32,41,32,40,32,109,101,109,111,114,121,32,49,32,41,32,40,32,103,108,111,98,97,108,32,105,51,50,32,40,32,105,51,50,46,99,111,110,115,116]
def zbv:List (List UInt8):=[[40],[109,111,100,117,108,101],[40],[105,109,112,111,114,116],[34,101,110,118,34],[34,105,110,34],[40],[102,117,110,99],[40],[114,101,115,117,108,116],[105,54,52],[41],[41],[41],[40],[105,109,112,111,114,116],[34,101,110,118,34],[34,111,117,116,34],[40],[102,117,110,99],[40],[112,97,114,97,109],[105,54,52],[41],[41],[41],[40],[105,109,112,111,114,116],[34,101,110,118,34],[34,116,114,97,112,34],[40],[102,117,110,99],[40],[112,97,114,97,109],[105,51,50],[41],[41],[41],[40],[109,101,109,111,114,121],[49],[41],[40],[103,108,111,98,97,108],[105,51,50],[40],[105,51,50,46,99,111,110,115,116]]
def zB:List UInt8:=[40]
def zf:List UInt8:=[41]
def zbT:List UInt8:=[102,117,110,99]
def zb3:List UInt8:=[112,97,114,97,109]
def zdS:List UInt8:=[114,101,115,117,108,116]
def zaZ:List UInt8:=[108,111,99,97,108]
def zcE:List UInt8:=[101,120,112,111,114,116]
def ziU:List UInt8:=[34,109,97,105,110,34]
def zAp:List UInt8:=[105,51,50]
def zAq:List UInt8:=[105,54,52]
def zjm:List UInt8:=[98,108,111,99,107]
def zpe:List UInt8:=[108,111,111,112]
def tIf:List UInt8:=[105,102]
def zci:List UInt8:=[101,108,115,101]
def zda:List UInt8:=[101,110,100]
def zcj:List (List UInt8):=[[97,100,100],[115,117,98],[109,117,108],[100,105,118,95,115],[114,101,109,95,115],[97,110,100],[111,114],[120,111,114],[115,104,108],[115,104,114,95,115],[101,113],[110,101],[108,116,95,115],[108,101,95,115],[103,116,95,115],[103,101,95,115]]
def zh1:List (List UInt8 × W):=[([105,51,50,46,119,114,97,112,95,105,54,52],{ op:=6,ty:=0,n:=0,body:=0,other:=0,name:=[] }),([105,54,52,46,101,120,116,101,110,100,95,105,51,50,95,115],{ op:=7,ty:=0,n:=0,body:=0,other:=0,name:=[] }),([105,51,50,46,108,111,97,100,56,95,115],{ op:=8,ty:=1,n:=1,body:=0,other:=0,name:=[] }),([105,51,50,46,108,111,97,100],{ op:=8,ty:=1,n:=4,body:=0,other:=0,name:=[] }),([105,54,52,46,108,111,97,100],{ op:=8,ty:=2,n:=8,body:=0,other:=0,name:=[] }),([105,51,50,46,115,116,111,114,101,56],{ op:=9,ty:=1,n:=1,body:=0,other:=0,name:=[] }),([105,51,50,46,115,116,111,114,101],{ op:=9,ty:=1,n:=4,body:=0,other:=0,name:=[] }),([105,54,52,46,115,116,111,114,101],{ op:=9,ty:=2,n:=8,body:=0,other:=0,name:=[] }),([114,101,116,117,114,110],{ op:=16,ty:=0,n:=0,body:=0,other:=0,name:=[] }),([117,110,114,101,97,99,104,97,98,108,101],{ op:=17,ty:=0,n:=0,body:=0,other:=0,name:=[] }),([100,114,111,112],{ op:=18,ty:=0,n:=0,body:=0,other:=0,name:=[] })]
def zC(t:Int):List UInt8:=if t=1 then zAp else zAq
def zoo(t:Int):List (List UInt8 × W):=(zcj.map λs=>(zC t++46::s,{ op:=4,ty:=t,n:=0,body:=0,other:=0,name:=s }))++[(zC t++[46,101,113,122],{ op:=5,ty:=t,n:=0,body:=0,other:=0,name:=[] })]
def zh2:List (List UInt8 × W):=zh1++(zoo 1++zoo 2)
def zdT:List (List UInt8 × W):=[([105,51,50,46,99,111,110,115,116],{ op:=1,ty:=1,n:=0,body:=0,other:=0,name:=[] }),([105,54,52,46,99,111,110,115,116],{ op:=1,ty:=2,n:=0,body:=0,other:=0,name:=[] }),([108,111,99,97,108,46,103,101,116],{ op:=2,ty:=0,n:=0,body:=0,other:=0,name:=[] }),([108,111,99,97,108,46,115,101,116],{ op:=3,ty:=0,n:=0,body:=0,other:=0,name:=[] }),([99,97,108,108],{ op:=10,ty:=0,n:=0,body:=0,other:=0,name:=[] }),([98,114],{ op:=14,ty:=0,n:=0,body:=0,other:=0,name:=[] }),([98,114,95,105,102],{ op:=15,ty:=0,n:=0,body:=0,other:=0,name:=[] })]
def zL(l:List (List UInt8 × W))(t:List UInt8):Option W:=(l.find? λp=>p.1==t).map (·.2)
structure Ts where
 b:List UInt8
 ls:To
def zb8(s:Ts):Res (List UInt8 × Ts):=match zdv s.b with
 | none=>.error 2
 | some p=>.ok (p.1,{ s with b:=p.2 })
def zaD:List (List UInt8)->Ts->Res Ts
 | [],s=>.ok s
 | t::ts,s=>(zb8 s).bind λp=>if p.1=t then zaD ts p.2 else .error 2
def zf4(w:List UInt8)(s:Ts):Option Ts:=match zdv s.b with
 | none=>none
 | some p=>if p.1=zB then(match zdv p.2 with
  | none=>none
  | some q=>if q.1=w then some { s with b:=q.2 }else none)else none
def zbo(s:Ts):Res (Int × Ts):=(zb8 s).bind λp=>(zqO p.1).map λn=>(n,p.2)
def zb4:Nat->List Int->Ts->Res (List Int × Ts)
 | 0,_,_=>.error (-1)
 | k+1,l,s=>(zb8 s).bind λp =>
  if p.1=zAp then zb4 k (l++[1]) p.2 else if p.1=zAq then zb4 k (l++[2]) p.2 else if p.1=zf/\l≠[]then .ok (l,p.2)else .error 2
def zfz(t:List UInt8)(s:Ts):Res (W × Ts):=match zL zdT t with
 | some w=>(zbo s).map λp=>({ w with n:=p.1 },p.2)
 | none=>match zL zh2 t with
  | some w=>.ok (w,s)
  | none=>.error 2
def zct(t:List UInt8):Int:=if t=zjm then 11 else if t=zpe then 12 else if t=tIf then 13 else 0
abbrev zEe:=Nat->Bool->Ts->Res ((Int × List UInt8) × Ts)
def zbE(rec:zEe)(op:Int)(d:Nat)(s:Ts):Res (W × Ts) :=
 if 400<d then .error 3
 else(rec d (decide (op=13)) s).bind λp =>
  if op=13 then(if p.1.2=zci then(rec d false p.2).map λq=>({ op:=13,ty:=0,n:=0,body:=p.1.1,other:=q.1.1,name:=[] },q.2)
   else .ok ({ op:=13,ty:=0,n:=0,body:=p.1.1,other:=-1,name:=[] },p.2))
  else .ok ({ op:=op,ty:=0,n:=0,body:=p.1.1,other:=0,name:=[] },p.2)
def zdo(rec:zEe)(t:List UInt8)(d:Nat)(s:Ts):Res (W × Ts):=if zct t=0 then zfz t s else zbE rec (zct t) (d+1) s
def zfA(d:Nat)(other:Bool)(t:List UInt8):Bool:=(decide (t=zda)&&decide (0<d))||((decide (t=zf)&&decide (d=0))||(decide (t=zci)&&other))
def zad:Nat->Nat->Bool->List W->Ts->Res ((Int × List UInt8) × Ts)
 | 0,_,_,_,_=>.error (-1)
 | k+1,d,o,l,s=>(zb8 s).bind λp =>
  if zfA d o p.1=true then .ok (((p.2.ls.length:Int),p.1),{ p.2 with ls:=p.2.ls++[l] })
  else(zdo (λd o s=>zad k d o [] s) p.1 d p.2).bind λq=>zad k d o (l++[q.1]) q.2
def zae(c:UInt8):Bool:=(decide (97<=c.toNat)&&decide (c.toNat<=122))||c==95
def zh3(m:Nat)(t:List UInt8):Bool:=match t with
 | []=>false
 | c::r=>decide (t.length<=m)&&(zae c&&r.all λx=>zae x||zK x)
def zeB(w:List UInt8)(s:Ts):Res (List Int × Ts):=match zf4 w s with
 | some s'=>zb4 (s'.b.length+1) [] s'
 | none=>.ok ([],s)
def zqR(s:Ts):Res (Int × Ts):=match zf4 zdS s with
 | some s'=>(zb4 (s'.b.length+1) [] s').bind λr=>if r.1.length=1 then .ok (r.1.headD 0,r.2)else .error 2
 | none=>.ok (0,s)
def zck(mx:Nat)(s:Ts):Res (F × Ts):=(zb8 s).bind λp =>
 if p.1.head?=some 36/\zh3 mx p.1.tail=true then(zeB zb3 p.2).bind λq=>(zqR q.2).bind λr=>(zeB zaZ r.2).bind λu=>(zad (u.2.b.length+1) 0 false [] { u.2 with ls:=[] }).map λ(v:(Int × List UInt8) × Ts) =>
   ({ name:=p.1.tail,params:=q.1,locals:=u.1,type:=r.1,lists:=v.2.ls },v.2)
 else .error 2
def zak(mx:Nat):Nat->List F->Ts->Res (List F × Ts)
 | 0,_,_=>.error (-1)
 | k+1,l,s=>match zf4 zbT s with
  | none=>.ok (l,s)
  | some s'=>(zck mx s').bind λp=>zak mx k (l++[p.1]) p.2
def zf5(mx:Nat)(s:Ts):Res (M × Ts):=(zaD zbv s).bind λs=>(zbo s).bind λmem=>(zaD [zf,zf] mem.2).bind λs=>(zak mx (s.b.length+1) [] s).bind λfs =>
 (zaD [zB,zcE,ziU,zB,zbT] fs.2).bind λs=>(zbo s).bind λmn=>(zaD [zf,zf,zf] mn.2).bind λs =>
  if s.b.all zng=true then .ok ({ funcs:=fs.1,memory:=mem.1,main:=yb5 .i64 (mn.1-3) },s)else .error 2
def zgu(mx:Nat)(b:List UInt8):Res M:=(zf5 mx ⟨b,[]⟩).map (·.1)
def zbp(f:Nat->Nat):Nat->Nat
 | 0=>0
 | k+1=>zbp f k+f k
theorem ze2{f g:Nat->Nat}:∀k,(∀i,i<k->f i=g i)->zbp f k=zbp g k
 | 0,_=>rfl
 | k+1,h=>by rw[zbp,zbp,ze2 k λi hi=>h i (by omega),h k (by omega)]
def rt(T:Nat->Nat)(named:List Bool)(i:Nat):Nat:=if named.getD i true then 0 else T i
theorem zky(named:List Bool)(n i:Nat):(named.set n true).getD i true=if i=n then true else named.getD i true:=by
 rw[ycJ,ycJ,List.getElem?_set]
 by_cases h:n=i
 .subst h
  rw[if_pos rfl,if_pos rfl]
  split<;>rfl
 .rw[if_neg h,if_neg (λe=>h e.symm)]
theorem zlP(T:Nat->Nat)(named:List Bool){n i:Nat}(h:i≠n):rt T (named.set n true) i=rt T named i:=by
 have e:(named.set n true).getD i true=named.getD i true:=by rw[zky,if_neg h]
 unfold rt;rw[e]
theorem zlQ(T:Nat->Nat)(named:List Bool)(n:Nat)(h:named.getD n true=false):∀k,n<k->zbp (rt T (named.set n true)) k+T n=zbp (rt T named) k
 | 0,hk=>by omega
 | k+1,hk=>by
  simp only[zbp]
  by_cases e:n=k
  .subst e
   have h1:zbp (rt T (named.set n true)) n=zbp (rt T named) n:=ze2 n λi hi=>zlP T named (Nat.ne_of_lt hi)
   have h2:rt T (named.set n true) n=0:=by
    have e:(named.set n true).getD n true=true:=by rw[zky,if_pos rfl]
    unfold rt;rw[e];rfl
   have h3:rt T named n=T n:=by unfold rt;rw[h];rfl
   omega
  .have ih:=zlQ T named n h k (by omega)
   have h2:rt T (named.set n true) k=rt T named k:=zlP T named (λq=>e q.symm)
   omega
def zjn(l:List Int)(T:Nat->Nat):Nat:=(l.map λn=>T n.toNat).sum
theorem ze3(a b:List Int)(T):zjn (a++b) T=zjn a T+zjn b T:=by simp[zjn]
structure zkz(T:Nat->Nat)(k:Nat)(named named':List Bool)(ns:List Int):Prop where
 inside:∀n∈ns,0<=n/\n<(k:Int)
 sum:zbp (rt T named') k+zjn ns T=zbp (rt T named) k
 rest:∀i,k<=i->named'.getD i true=named.getD i true
 len:named'.length=named.length
theorem zkz.nil{T k named}:zkz T k named named []:=⟨by simp,by simp[zjn],λ_ _=>rfl,rfl⟩
theorem zkz.trans{T k a b c l m}(h:zkz T k a b l)(h':zkz T k b c m):zkz T k a c (l++m) where
 inside n hn:=(List.mem_append.1 hn).elim (h.inside n) (h'.inside n)
 sum:=by rw[ze3];have:=h.sum;have:=h'.sum;omega
 rest i hi:=(h'.rest i hi).trans (h.rest i hi)
 len:=h'.len.trans h.len
theorem zuo{T k named n named'}(h:zdu (k:Nat) named n=.ok named'):zkz T k named named' [n]:=by
 unfold zdu at h
 split at h
 .rename_i hc
  cases h
  obtain⟨h0,h1,h2⟩:=hc
  have hk:n.toNat<k:=by omega
  refine⟨by simp;exact⟨h0,h1⟩,by simpa [zjn]using zlQ T named n.toNat h2 k hk,λi hi=>by rw[zky,if_neg (by omega)],by simp⟩
 .cases h
theorem zlR{T k}:∀{ns named named'},zaJ (k:Nat) ns named=.ok named'->zkz T k named named' ns
 | [],_,_,h=>by simp[zaJ]at h;subst h;exact .nil
 | n::ns,named,named',h=>by
  rw[zaJ]at h
  split at h
  .cases h
  .rename_i named1 h1
   exact(zuo h1).trans (zlR h)
theorem znh{T k}:∀{ws named named'},zha (k:Nat) ws named=.ok named'->zkz T k named named' (ws.flatMap zj)
 | [],_,_,h=>by simp[zha]at h;subst h;exact .nil
 | w::ws,named,named',h=>by
  rw[zha]at h
  split at h
  .cases h
  .rename_i named1 h1
   rw[yaa]
   exact(zlR h1).trans (znh h)
def zlS(ls:To):Prop:=∀(k:Nat) (row:List W),ls[k]?=some row->∀n∈row.flatMap zj,0<=n/\n<(k:Int)
theorem zh4(ls:To):∀(r:To) (k:Nat) (named named':List Bool),ls.drop k=r->zbD k r named=.ok named'->∀j row,k<=j->ls[j]?=some row->∀n∈row.flatMap zj,0<=n/\n<(j:Int)
 | [],k,_,_,hd,_,j,row,hj,hr=>by
  have:ls.length<=k:=ycK.1 hd
  rw[yb3 (by omega)]at hr;cases hr
 | l::r,k,named,named',hd,h,j,row,hj,hr=>by
  rw[zbD]at h
  split at h
  .cases h
  .rename_i named1 h1
   have hl:ls[k]?=some l:=by
    have:=congrArg (·[0]?) hd
    simpa using this
   have hd':ls.drop (k+1)=r:=by
    have:=congrArg (List.drop 1) hd
    simpa [ycL]using this
   by_cases e:j=k
   .subst e
    rw[hl]at hr;cases hr
    exact(znh (T:=λ_=>0) h1).inside
   .exact zh4 ls r (k+1) named1 named' hd' h j row (by omega) hr
theorem zlT(ls:To)(T g:Nat->Nat)(hT:∀k row,ls[k]?=some row->T k=g k+zjn (row.flatMap zj) T):∀(r:To) (k:Nat) (named named':List Bool),ls.drop k=r->zbD k r named=.ok named'->k<=ls.length ->
  zbp (rt T named) k=zbp g k->named.length=ls.length->(∀i,k<=i->i<ls.length->named.getD i true=false) ->
  zbp (rt T named') ls.length=zbp g ls.length/\named'.length=ls.length/\(0<ls.length->k<ls.length->named'.getD (ls.length-1) true=false)
 | [],k,named,named',hd,h,hk,hs,hl,hf=>by
  have hlen:ls.length<=k:=ycK.1 hd
  simp[zbD]at h
  subst h
  obtain rfl:k=ls.length:=by omega
  exact⟨hs,hl,λ_ h=>by omega⟩
 | l::r,k,named,named',hd,h,hk,hs,hlen,hf=>by
  rw[zbD]at h
  split at h
  .cases h
  .rename_i named1 h1
   have hl:ls[k]?=some l:=by
    have:=congrArg (·[0]?) hd
    simpa using this
   have hd':ls.drop (k+1)=r:=by
    have:=congrArg (List.drop 1) hd
    simpa [ycL]using this
   have hk':k<ls.length:=(yaq.1 hl).1
   have N:=znh (T:=T) h1
   have hkk:named1.getD k true=false:=(N.rest k (yah _)).trans (hf k (yah _) hk')
   have hsum:zbp (rt T named1) (k+1)=zbp g (k+1):=by
    simp only[zbp]
    have h3:rt T named1 k=T k:=by unfold rt;rw[hkk];rfl
    have:=N.sum
    have:=hT k l hl
    omega
   have key:=zlT ls T g hT r (k+1) named1 named' hd' h hk' hsum (N.len.trans hlen) λi hi hil=>(N.rest i (by omega)).trans (hf i (by omega) hil)
   refine⟨key.1,key.2.1,λh0 _=>?_⟩
   by_cases e:k+1<ls.length
   .exact key.2.2 h0 e
   .have:r=[]:=by
     have hdl:=congrArg ycH hd'
     rw[List.length_drop]at hdl
     exact ybT.1 (by omega)
    subst this
    simp[zbD]at h
    subst h
    rw[show ls.length-1=k from by omega]
    exact hkk
def tot(g:Nat->Nat)(ls:To):Nat->Nat->Nat
 | 0,_=>0
 | f+1,k=>g k+zjn ((ls.getD k []).flatMap zj) (tot g ls f)
theorem zpf{l:List Int}{T U:Nat->Nat}(h:∀n∈l,T n.toNat=U n.toNat):zjn l T=zjn l U:=by
 induction l with
 | nil=>rfl
 | cons n l ih =>
  simp only[zjn,yaL,ycM]at ih ⊢
  rw[h n (by simp),ih λm hm=>h m (by simp[hm])]
theorem zpg(g:Nat->Nat){ls:To}(ha:zlS ls):∀(f:Nat) (k:Nat),k<f->tot g ls (f+1) k=tot g ls f k:=by
 intro f
 induction f with
 | zero=>intro k h;omega
 | succ f ih =>
  intro k hk
  rw[tot,tot]
  congr 1
  refine zpf λn hn=>?_
  cases hr:ls[k]? with
  | none=>rw[ycJ,hr]at hn;simp at hn
  | some row =>
   rw[ycJ,hr]at hn
   have:=ha k row hr n hn
   exact ih n.toNat (by omega)
def zlU(g:Nat->Nat)(ls:To)(k:Nat):Nat:=tot g ls ls.length k
theorem zni(g:Nat->Nat){ls:To}(ha:zlS ls){k:Nat}{row:List W}(h:ls[k]?=some row):zlU g ls k=g k+zjn (row.flatMap zj) (zlU g ls):=by
 have hk:=(yaq.1 h).1
 unfold zlU
 rw[<-zpg g ha ls.length k hk,tot,ycJ,h]
 rfl
theorem zjo:∀k,zbp (λ_=>0) k=0
 | 0=>rfl
 | k+1=>by rw[zbp,zjo k]
theorem zcl{ls:To}(h:zb2 ls=.ok ()):0<ls.length/\zlS ls/\∀g,zlU g ls (ls.length-1)=zbp g ls.length:=by
 unfold zb2 at h
 split at h
 .cases h
 .rename_i h0
  split at h
  .cases h
  .rename_i named hr
   split at h
   .rename_i hall
    have ha:zlS ls:=λk row hk=>zh4 ls ls 0 _ _ (by simp) hr k row (ycN _) hk
    refine⟨by omega,ha,λg=>?_⟩
    obtain⟨h1,h2,h3⟩:=zlT ls (zlU g ls) g (λk row hk=>zni g ha hk) ls 0 _ _ (by simp) hr (ycN _) rfl (by simp) λi _ hi=>by
     rw[ycJ,ycO,if_pos hi];rfl
    obtain⟨L,hL⟩:∃L,ls.length=L+1:=⟨ls.length-1,by omega⟩
    have h3':=h3 (by omega) (by omega)
    rw[hL]at h1 h3' hall ⊢
    simp only[Nat.add_sub_cancel]at h3' hall ⊢
    rw[<-h1,zbp]
    have z:zbp (rt (zlU g ls) named) L=0:=by
     have:zbp (rt (zlU g ls) named) L=zbp (λ_=>0) L:=ze2 L λi hi=>by
      have hm:(named.take L)[i]?=some true:=by
       have hlt:i<(named.take L).length:=by rw[ybf];omega
       rw[yau hlt]
       have:=yaM.1 hall _ (yaw hlt)
       simpa using this
      rw[List.getElem?_take,if_pos hi]at hm
      have e:named.getD i true=true:=by rw[ycJ,hm];rfl
      unfold rt;rw[e];rfl
     rw[this,zjo]
    have e:rt (zlU g ls) named L=zlU g ls L:=by unfold rt;rw[h3'];rfl
    rw[z,e];omega
   .cases h
def zh5(c:Nat->Nat)(ls:To):Nat:=(ls.map λl=>c l.length).sum
theorem zh6(c a b):zh5 c (a++b)=zh5 c a+zh5 c b:=by simp[zh5]
theorem zal{fs:List F}{f:F}(h:zm fs f=.ok ()):zb2 f.lists=.ok ():=by
 unfold zm at h
 split at h
 .cases h
 .split at h
  .cases h
  .assumption
theorem zeJ{fs:List F}:∀{r:List F},zN fs r=.ok ()->∀f∈r,zm fs f=.ok ()
 | [],_,f,hf=>by simp at hf
 | g::r,h,f,hf=>by
  rw[zN]at h
  split at h
  .cases h
  .rename_i u hg
   rcases ybD.1 hf with rfl|hf
   .exact hg
   .exact zeJ h f hf
theorem zbU{m:M}(h:zav m=.ok ()):∀f∈m.funcs,zm m.funcs f=.ok ():=by
 unfold zav at h
 split at h
 .cases h
 .split at h
  .cases h
  .rename_i u hf
   exact zeJ hf
def W.cs(w:W):List AV:=[.int .i64 w.op,.int .i64 w.ty,.int .i64 w.n,.int .i64 w.body,.int .i64 w.other,.str w.name]
def W.av(w:W):AV:=.agg w.cs
inductive All2{α β:Type}(R:α->β->Prop):List α->List β->Prop
 | nil:All2 R [] []
 | cons {x y xs ys} (h:R x y) (r:All2 R xs ys):All2 R (x::xs) (y::ys)
def zph(v:AV)(l:List W):Prop:=(l=[]/\v=.nilsl)\/∃b,v=.sl (.stat b) 6 (l.map W.av)
def zFn(v:AV)(frm:To):Prop:=∃b rows,v=.sl (.stat b) 1 rows/\All2 zph rows frm
def zcL:AV->Option Nat
 | .sl (.fam g _) _ _=>some g
 | _=>none
end Go.Proofs.YtohfclafhegadaaGreatDoor


namespace Go.Proofs.YtohfclafhegadaaGreatDoor
open Go Go.Abs
theorem All2.length{α β:Type}{R:α->β->Prop}{xs ys}(h:All2 R xs ys):xs.length=ys.length:=by
 induction h<;>simp_all
theorem All2.get{α β:Type}{R:α->β->Prop}{xs ys}(h:All2 R xs ys){i:Nat}{y}(hy:ys[i]?=some y):∃x,xs[i]?=some x/\R x y:=by
 induction h generalizing i with
 | nil=>simp at hy
 | cons h r ih =>
  cases i with
  | zero=>simp at hy;subst hy;exact⟨_,by simp,h⟩
  | succ i=>simp at hy;simpa using ih hy
theorem All2.append{α β:Type}{R:α->β->Prop}{xs ys xs' ys'}(h:All2 R xs ys)(h':All2 R xs' ys'):All2 R (xs++xs') (ys++ys'):=by
 induction h with
 | nil=>exact h'
 | cons h r ih=>exact .cons h ih
theorem zup{P:Program}{G:Env}{f:FuncId}{args:List AV}{J:AS}{R:Out->AS->Prop}
  (h:ACalls P G f args J λo J'=>R o J'\/∃v g p,o=.ret v/\J'.F g=.alive/\R (.ret (frz g v)) (J'.frz g p)):ACalls P G f args J R:=by
 intro M w cargs S g c
 refine(h M w cargs S g c).mono λe w' ⟨o,J',M',hR,h2,h3,h4⟩=>?_
 rcases hR with hR|⟨v,k,p,ho,ha,hR⟩
 .exact⟨o,J',M',hR,h2,h3,h4⟩
 subst ho
 refine⟨_,_,M'.frz k,hR,?_,h3.frz ha,h4.trans (zmW ha)⟩
 cases e<;>simp only[zbx]at h2 ⊢
 exact h2.frz ha
end Go.Proofs.YtohfclafhegadaaGreatDoor


namespace Go.Proofs.YtohfclafhegadaaGreatDoor
open Go Go.Abs
structure ze(J J':AS):Prop where
 no:J.no<=J'.no
 nf:J.nf<=J'.nf
 obj:∀o,o<J.no->J'.objs o=J.objs o
 fam:∀f,f<J.nf->J'.F f=J.F f
theorem ze.refl(J):ze J J:=⟨yah _,yah _,λ_ _=>rfl,λ_ _=>rfl⟩
theorem ze.trans{J J1 J2}(h:ze J J1)(h':ze J1 J2):ze J J2 where
 no:=yai h.no h'.no
 nf:=yai h.nf h'.nf
 obj o a:=by rw[h'.obj o (yag a h.no),h.obj o a]
 fam f a:=by rw[h'.fam f (yag a h.nf),h.fam f a]
theorem ze.newO{J J' cs}(h:ze J J'):ze J (J'.newO cs) where
 no:=yai h.no (by simp)
 nf:=h.nf
 obj o a:=by have:=h.no;simp;rw[if_neg (by omega)];exact h.obj o a
 fam:=h.fam
theorem ze.setO{J J' o cs}(h:ze J J')(ho:J.no<=o):ze J (J'.setO o cs) where
 no:=h.no
 nf:=h.nf
 obj p a:=by simp;rw[if_neg (by omega)];exact h.obj p a
 fam:=h.fam
theorem ze.newF{J J'}(h:ze J J'):ze J J'.newF where
 no:=h.no
 nf:=yai h.nf (by simp)
 obj:=h.obj
 fam f a:=by have:=h.nf;simp;rw[if_neg (by omega)];exact h.fam f a
theorem ze.setF{J J' f s}(h:ze J J')(hf:J.nf<=f):ze J (J'.setF f s) where
 no:=h.no
 nf:=h.nf
 obj:=h.obj
 fam g a:=by simp;rw[if_neg (by omega)];exact h.fam g a
theorem ze.frz{J J' f p}(h:ze J J')(hf:J.nf<=f)(hp:∀o,o<J.no->p o=false):ze J (J'.frz f p) where
 no:=h.no
 nf:=h.nf
 obj o a:=by simp[AS.frz,hp o a];exact h.obj o a
 fam g a:=by simp[AS.frz,zo8];rw[if_neg (by omega)];exact h.fam g a
def zaf(v:AV)(l:List Int):Prop:=(l=[]/\v=.nilsl)\/∃b,v=.sl (.stat b) 1 (l.map (.int .i64))
theorem zaf.one{v l}(h:zaf v l):v.known=true/\v.one=true/\v.cells=[v]:=by
 rcases h with ⟨_,rfl⟩|⟨b,rfl⟩<;>simp
def zpi(R:Out->AS->Prop)(o:Out)(J':AS):Prop:=R o J'\/∃v g p,o=.ret v/\J'.F g=.alive/\R (.ret (frz g v)) (J'.frz g p)
theorem zop{P:Program}{G:Env}{f:FuncId}{args:List AV}{J:AS}{R:Out->AS->Prop}(h:ACalls P G f args J (zpi R)):ACalls P G f args J R:=zup h
theorem zpi.froze{R:Out->AS->Prop}{v:AV}{J':AS}(g:Nat)(p:Nat->Bool)(h:J'.F g=.alive)(h2:R (.ret (frz g v)) (J'.frz g p)):zpi R (.ret v) J':=.inr ⟨v,g,p,rfl,h,h2⟩
def zcu(v:AV)(tO:To):Prop:=(tO=[]/\v=.nilsl)\/zFn v tO
theorem zcu.one{v l}(h:zcu v l):v.known=true/\v.one=true/\v.cells=[v]:=by
 rcases h with ⟨_,rfl⟩|⟨b,_,rfl,_⟩<;>simp
def FV(v:AV)(f:F):Prop:=∃pv lv tv,v=.agg [.str f.name,pv,lv,.int .i64 f.type,tv]/\zaf pv f.params/\zaf lv f.locals/\zcu tv f.lists
def FsV(v:AV)(fs:List F):Prop:=(fs=[]/\v=.nilsl)\/∃b rows,v=.sl (.stat b) 5 rows/\All2 FV rows fs
def MV(v:AV)(m:M):Prop:=∃fv,v=.agg [fv,.int .i64 m.memory,.int .i64 m.main]/\FsV fv m.funcs
end Go.Proofs.YtohfclafhegadaaGreatDoor

namespace Go.Proofs.YtohfclafhegadaaGreatDoor
open Go Go.Abs
theorem FsV.one{v l}(h:FsV v l):v.known=true/\v.one=true/\v.cells=[v]:=by
 rcases h with ⟨_,rfl⟩|⟨b,_,rfl,_⟩<;>simp
def MU(r n:Nat)(a:Nat->AV)(_:AS):Nat:=match a r with|.int _ i=>n-i.toNat|_=>0
theorem zaf.len{tv:AV}{ts:List Int}(h:zaf tv ts)(K:AV->Prop):zgT yca 44 tv K=K (.int .i64 (ts.length:Int)):=by
 rcases h with ⟨rfl,rfl⟩|⟨b,rfl⟩<;>simp
theorem FsV.len{fv:AV}{fs:List F}(h:FsV fv fs)(K:AV->Prop):zgT yca 26 fv K=K (.int .i64 (fs.length:Int)):=by
 rcases h with ⟨rfl,rfl⟩|⟨b,rows,rfl,hr⟩
 .simp
 .simp[hr.length]
theorem zcu.len{tv:AV}{ls:To}(h:zcu tv ls)(K:AV->Prop):zgT yca 55 tv K=K (.int .i64 (ls.length:Int)):=by
 rcases h with ⟨rfl,rfl⟩|⟨b,rows,rfl,hr⟩
 .simp
 .simp[hr.length]
theorem zph.len{v:AV}{l:List W}(h:zph v l)(K:AV->Prop):zgT yca 54 v K=K (.int .i64 (l.length:Int)):=by
 rcases h with ⟨rfl,rfl⟩|⟨b,rfl⟩<;>simp
theorem zph.one{v l}(h:zph v l):v.known=true/\v.one=true/\v.cells=[v]:=by
 rcases h with ⟨_,rfl⟩|⟨b,rfl⟩<;>simp
theorem zph.at{v:AV}{l:List W}(h:zph v l){i:Nat}(hi:i<l.length):∃b,∀K:AV->Prop,zu yca 54 v (.int .i64 (i:Int)) K=K (.pv (.stat b) l[i].av):=by
 rcases h with ⟨rfl,_⟩|⟨b,rfl⟩
 .simp at hi
 .exact⟨b,λK=>by simp[hi]⟩
theorem zaf.at{v:AV}{l:List Int}(h:zaf v l){i:Nat}(hi:i<l.length):∃b,∀K:AV->Prop,zu yca 44 v (.int .i64 (i:Int)) K=K (.pv (.stat b) (.int .i64 l[i])):=by
 rcases h with ⟨rfl,_⟩|⟨b,rfl⟩
 .simp at hi
 .exact⟨b,λK=>by simp[hi]⟩
theorem zcu.at{v:AV}{l:To}(h:zcu v l){i:Nat}(hi:i<l.length):∃b rv,zph rv l[i]/\∀K:AV->Prop,zu yca 55 v (.int .i64 (i:Int)) K=K (.pv (.stat b) rv):=by
 rcases h with ⟨rfl,_⟩|⟨b,rows,rfl,hr⟩
 .simp at hi
 .obtain⟨rv,h1,h2⟩:=hr.get (yau hi)
  exact⟨b,rv,h2,λK=>by simp[h1]⟩
theorem FsV.at{v:AV}{l:List F}(h:FsV v l){i:Nat}(hi:i<l.length):∃b fv,FV fv l[i]/\∀K:AV->Prop,zu yca 26 v (.int .i64 (i:Int)) K=K (.pv (.stat b) fv):=by
 rcases h with ⟨rfl,_⟩|⟨b,rows,rfl,hr⟩
 .simp at hi
 .obtain⟨fv,h1,h2⟩:=hr.get (yau hi)
  exact⟨b,fv,h2,λK=>by simp[h1]⟩
theorem zh7{α:Type}{l:List α}{i:Nat}{x:α}(h:l[i]?=some x):l.take (i+1)=l.take i++[x]:=by
 obtain⟨hi,rfl⟩:=yaq.1 h
 exact ycP hi
def SlW(J:AS)(v:AV)(l:List W):Prop:=(l=[]/\v=.nilsl)\/∃φ,v=.sl φ 6 (l.map W.av)/\zl J.F φ
theorem zGg(w u:W):aeq yca 53 (.agg [.int .i64 w.op,.int .i64 w.ty,.int .i64 w.n,.int .i64 w.body,.int .i64 w.other,.str w.name]) (.agg [.int .i64 u.op,.int .i64 u.ty,.int .i64 u.n,.int .i64 u.body,.int .i64 u.other,.str u.name])=some (decide (w=u)):=by
 simp[aeq,zoV]
 have key:(w=u)↔(w.op=u.op/\w.ty=u.ty/\w.n=u.n/\w.body=u.body/\w.other=u.other/\w.name=u.name):=by
  constructor
  .rintro rfl;simp
  .rintro ⟨h1,h2,h3,h4,h5,h6⟩
   cases w;cases u;simp_all
 by_cases h1:w.op=u.op<;>by_cases h2:w.ty=u.ty<;>by_cases h3:w.n=u.n<;>by_cases h4:w.body=u.body<;>by_cases h5:w.other=u.other<;>by_cases h6:w.name=u.name<;>simp[key,h1,h2,h3,h4,h5,h6]
def SI(va vb:AV)(a b:List W)(J:AS)(f:Nat->AV)(Z:AS):Prop:=∃i:Nat,i<=a.length/\f 0=va/\f 1=vb/\f 5=.int .i64 (i:Int)/\a.take i=b.take i/\Z=J
def SM(a:List W)(f:Nat->AV)(_:AS):Nat:=match f 5 with
 | .int _ n=>a.length-n.toNat
 | _=>0
theorem zpj{G:Env}{va vb:AV}{a b:List W}{J:AS}{R:Out->AS->Prop}(ha:SlW J va a)(hb:SlW J vb b)(hl:a.length<=2^30)(h:R (.ret (.bool (decide (a=b)))) J):zzQ G 216 [va,vb] J R:=by
 refine ztT rfl ?_
 by_cases hab:a.length=b.length
 .have loop:∀f,f 0=va->f 1=vb->f 5=.int .i64 0->zka yca G 27 zc8 (za6 0 (zbi (avc yca G 27 zg8 (zfn yca [.tmp 4] R)) (zfn yca [.tmp 4] R))) f J:=by
   intro f f0 f1 f5
   refine zS (SI va vb a b J) (SM a) ⟨0,ycN _,f0,f1,by simpa using f5,by simp,rfl⟩ λf Z ⟨i,hi,f0,f1,f5,ht,hZ⟩=>?_
   subst hZ
   have hmu:SM a f Z=a.length-i:=by simp[SM,f5]
   by_cases hlt:i<a.length
   .have hltb:i<b.length:=by omega
    obtain⟨φ,rfl,hφ⟩:∃φ,va=.sl φ 6 (a.map W.av)/\zl Z.F φ:=by
     rcases ha with ⟨rfl,_⟩|ha
     .simp at hlt
     .exact ha
    obtain⟨ψ,rfl,hψ⟩:∃φ,vb=.sl φ 6 (b.map W.av)/\zl Z.F φ:=by
     rcases hb with ⟨rfl,_⟩|hb
     .simp at hltb
     .exact hb
    have hw2:yb5 .i64 ((i:Int)+1)=(i:Int)+1:=by rw[wrap_i64]<;>omega
    have ea:a.take (i+1)=a.take i++[a[i]]:=by simp
    have eb:b.take (i+1)=b.take i++[b[i]]:=by simp
    by_cases hw:a[i]=b[i]
    .simp[zc8,f0,f1,f5,hlt,hltb,W.av,W.cs,hφ,hψ,zGg,hw,hw2]
     refine⟨⟨i+1,hlt,by simp[f0,W.av,W.cs],by simp[f1,W.av,W.cs],by simp,by rw[ea,eb,ht,hw],rfl⟩,?_⟩
     rw[hmu]
     have:((i:Int)+1).toNat=i+1:=by omega
     simp[SM,this];omega
    .have hne:¬a=b:=λe=>hw (by subst e;rfl)
     simp[hne]at h
     simp[zc8,f0,f1,f5,hlt,hltb,W.av,W.cs,hφ,hψ,zGg,hw,hw2,h]
   .have he:i=a.length:=by omega
    subst he
    have e:a=b:=by rw[ycQ,hab,ycQ]at ht;exact ht
    have hla:a.length=b.length:=hab
    simp[e]at h
    rcases ha with ⟨rfl,rfl⟩|⟨φ,rfl,hφ⟩
    .simp[zc8,zg8,f0,f1,f5,h]
    .simp[zc8,zg8,f0,f1,f5,h]
  rcases ha with ⟨rfl,rfl⟩|⟨φ,rfl,hφ⟩<;>rcases hb with ⟨rfl,rfl⟩|⟨ψ,rfl,hψ⟩
  .simp[zlJ]
   refine loop _ ?_ ?_ ?_<;>simp
  .simp at hab
   simp[zlJ,<-hab]
   refine loop _ ?_ ?_ ?_<;>simp
  .simp at hab
   subst hab
   simp[zlJ]
   refine loop _ ?_ ?_ ?_<;>simp
  .simp[zlJ,hab]
   refine loop _ ?_ ?_ ?_<;>simp
 .have hne:¬a=b:=λe=>hab (by rw[e])
  have hi:¬(a.length:Int)=b.length:=by omega
  simp[hne]at h
  rcases ha with ⟨rfl,rfl⟩|⟨φ,rfl,hφ⟩<;>rcases hb with ⟨rfl,rfl⟩|⟨ψ,rfl,hψ⟩
  .simp at hab
  .simp at hab
   have hi':¬(0:Int)=b.length:=by simpa using hi
   simp[zlJ,hi',h]
  .simp at hab
   have hi':¬(a.length:Int)=0:=by simpa using hi
   simp[zlJ,hab,h]
  .simp[zlJ,hi,h]
end Go.Proofs.YtohfclafhegadaaGreatDoor
namespace Go.Proofs.YtohfclafhegadaaGreatDoor.Al
open Go Go.Abs Go.Proofs.YtohfclafhegadaaGreatDoor
def RepE(v:AV)(l:List W):Prop:=(l=[]/\v=.nilsl)\/∃b,v=.sl (.fam 0 b) 6 (l.map W.av)
end Go.Proofs.YtohfclafhegadaaGreatDoor.Al
namespace Go.Proofs.YtohfclafhegadaaGreatDoor.Al
open Go Go.Abs Go.Proofs.YtohfclafhegadaaGreatDoor
theorem mrg_W(f:Nat)(w:W):mrg f w.av=w.av:=by simp[W.av,W.cs]
theorem zCs(f:Nat)(l:List W):(l.map W.av).map (mrg f)=l.map W.av:=by simp[Function.comp_def,mrg_W]
theorem RepE.mrg{v l}(h:RepE v l){f:Nat}:mrg f v=v:=by
 rcases h with ⟨_,rfl⟩|⟨b,rfl⟩
 .simp
 .rw[zjl,zCs];split<;>rfl
theorem mrg_rows{tos tO}(h:All2 RepE tos tO)(f:Nat):tos.map (mrg f)=tos:=by
 induction h with
 | nil=>rfl
 | cons h r ih=>simp[h.mrg,ih]
end Go.Proofs.YtohfclafhegadaaGreatDoor.Al

namespace Go.Proofs.YtohfclafhegadaaGreatDoor.Al
open Go Go.Abs Go.Proofs.YtohfclafhegadaaGreatDoor
def IntsE(v:AV)(l:List Int):Prop:=(l=[]/\(v=.nilsl\/∃b,v=.sl (.stat b) 1 []))\/∃b,v=.sl (.fam 0 b) 1 (l.map (.int .i64))
theorem IntsE.one{v l}(h:IntsE v l):v.known=true/\v.one=true/\v.cells=[v]:=by
 rcases h with ⟨_,rfl|⟨b,rfl⟩⟩|⟨b,rfl⟩<;>simp
def MrgOr(R:Out->AS->Prop)(o:Out)(J':AS):Prop:=R o J'\/∃v g p,o=.ret v/\0<J'.nf/\J'.F g=.alive/\R (.ret (mrg g v)) (J'.mrg g p)
theorem merging{P:Program}{G:Env}{f:FuncId}{args:List AV}{J:AS}{R:Out->AS->Prop}(h:ACalls P G f args J (MrgOr R)):ACalls P G f args J R:=zw1 h
theorem MrgOr.merged{R:Out->AS->Prop}{v:AV}{J':AS}(g:Nat)(p:Nat->Bool)(hn:0<J'.nf)(h:J'.F g=.alive)(h2:R (.ret (mrg g v)) (J'.mrg g p)):MrgOr R (.ret v) J':=.inr ⟨v,g,p,rfl,hn,h,h2⟩
def zGo(g:Nat)(v:AV)(tO:To):Prop:=(tO=[]/\v=.nilsl)\/∃tos,v=.sl (.fam g false) 1 tos/\All2 RepE tos tO
def FVE(v:AV)(p:F × Nat):Prop:=∃pv lv tv,v=.agg [.str p.1.name,pv,lv,.int .i64 p.1.type,tv]/\IntsE pv p.1.params/\IntsE lv p.1.locals/\zGo p.2 tv p.1.lists
structure Gs(Z:AS)(base:Nat)(g:Nat)(gs:List Nat):Prop where
 nd:gs.Nodup
 each:∀x∈gs,base<=x/\x<Z.nf/\Z.F x=.alive/\x≠g
def OutE(Z:AS)(base:Nat)(v:AV)(l:List F):Prop :=
 (l=[]/\v=.nilsl)\/∃g rows ps,v=.sl (.fam g false) 5 rows/\base<=g/\g<Z.nf/\Z.F g=.alive/\ps.map Prod.fst=l/\All2 FVE rows ps/\Gs Z base g (ps.map Prod.snd)
end Go.Proofs.YtohfclafhegadaaGreatDoor.Al
namespace Go.Proofs.YtohfclafhegadaaGreatDoor.Al
open Go Go.Abs Go.Proofs.YtohfclafhegadaaGreatDoor
def ME(Z:AS)(base:Nat)(v:AV)(m:M):Prop:=∃fv,v=.agg [fv,.int .i64 m.memory,.int .i64 m.main]/\OutE Z base fv m.funcs
end Go.Proofs.YtohfclafhegadaaGreatDoor.Al


namespace Go.Proofs.YtohfclafhegadaaGreatDoor.Al
open Go Go.Abs Go.Proofs.YtohfclafhegadaaGreatDoor
def Rd(J:AS):Go.Abs.Own->Prop
 | .stat _=>True
 | .fam f _=>f<J.nf/\J.F f=.alive
theorem Rd.read{J φ}(h:Rd J φ):zl J.F φ:=by
 cases φ with
 | stat b=>exact trivial
 | fam f b=>exact h.2
theorem Rd.keep{J J' φ}(h:Rd J φ)(A:ze J J'):Rd J' φ:=by
 cases φ with
 | stat b=>exact trivial
 | fam f b=>exact⟨by have:=A.nf;have:=h.1;omega,(A.fam f h.1).trans h.2⟩
def IntsO(J:AS)(v:AV)(l:List Int):Prop:=(l=[]/\v=.nilsl)\/∃φ,v=.sl φ 1 (l.map (.int .i64))/\Rd J φ
def RepO(J:AS)(v:AV)(l:List W):Prop:=(l=[]/\v=.nilsl)\/∃φ,v=.sl φ 6 (l.map W.av)/\Rd J φ
def LstO(J:AS)(v:AV)(l:To):Prop:=(l=[]/\v=.nilsl)\/∃φ rows,v=.sl φ 1 rows/\Rd J φ/\All2 (RepO J) rows l
def FVO(J:AS)(v:AV)(f:F):Prop:=∃pv lv tv,v=.agg [.str f.name,pv,lv,.int .i64 f.type,tv]/\IntsO J pv f.params/\IntsO J lv f.locals/\LstO J tv f.lists
def FsO(J:AS)(v:AV)(l:List F):Prop:=(l=[]/\v=.nilsl)\/∃φ rows,v=.sl φ 5 rows/\Rd J φ/\All2 (FVO J) rows l
def MO(J:AS)(v:AV)(m:M):Prop:=∃fv,v=.agg [fv,.int .i64 m.memory,.int .i64 m.main]/\FsO J fv m.funcs
theorem IntsO.one{J v l}(h:IntsO J v l):v.known=true/\v.one=true/\v.cells=[v]:=by rcases h with ⟨_,rfl⟩|⟨b,rfl,_⟩<;>simp
theorem RepO.one{J v l}(h:RepO J v l):v.known=true/\v.one=true/\v.cells=[v]:=by rcases h with ⟨_,rfl⟩|⟨b,rfl,_⟩<;>simp
theorem LstO.one{J v l}(h:LstO J v l):v.known=true/\v.one=true/\v.cells=[v]:=by rcases h with ⟨_,rfl⟩|⟨b,_,rfl,_⟩<;>simp
theorem FsO.one{J v l}(h:FsO J v l):v.known=true/\v.one=true/\v.cells=[v]:=by rcases h with ⟨_,rfl⟩|⟨b,_,rfl,_⟩<;>simp
theorem IntsO.keep{J J' v l}(h:IntsO J v l)(A:ze J J'):IntsO J' v l:=by
 rcases h with h|⟨φ,h,r⟩
 .exact .inl h
 .exact .inr ⟨φ,h,r.keep A⟩
theorem RepO.keep{J J' v l}(h:RepO J v l)(A:ze J J'):RepO J' v l:=by
 rcases h with h|⟨φ,h,r⟩
 .exact .inl h
 .exact .inr ⟨φ,h,r.keep A⟩
theorem zdU{α β:Type}{R S:α->β->Prop}{xs ys}(h:All2 R xs ys)(hs:∀x y,R x y->S x y):All2 S xs ys:=by
 induction h with
 | nil=>exact .nil
 | cons h r ih=>exact .cons (hs _ _ h) ih
theorem LstO.keep{J J' v l}(h:LstO J v l)(A:ze J J'):LstO J' v l:=by
 rcases h with h|⟨φ,rows,h,r,k⟩
 .exact .inl h
 .exact .inr ⟨φ,rows,h,r.keep A,zdU k λ_ _ q=>q.keep A⟩
theorem FVO.keep{J J' v l}(h:FVO J v l)(A:ze J J'):FVO J' v l:=by
 obtain⟨pv,lv,tv,h,a,b,c⟩:=h
 exact⟨pv,lv,tv,h,a.keep A,b.keep A,c.keep A⟩
theorem FsO.keep{J J' v l}(h:FsO J v l)(A:ze J J'):FsO J' v l:=by
 rcases h with h|⟨φ,rows,h,r,k⟩
 .exact .inl h
 .exact .inr ⟨φ,rows,h,r.keep A,zdU k λ_ _ q=>q.keep A⟩
theorem IntsO.len{J v l}(h:IntsO J v l)(K:AV->Prop):zgT yca 44 v K=K (.int .i64 (l.length:Int)):=by rcases h with ⟨rfl,rfl⟩|⟨b,rfl,_⟩<;>simp
theorem LstO.len{J v l}(h:LstO J v l)(K:AV->Prop):zgT yca 55 v K=K (.int .i64 (l.length:Int)):=by
 rcases h with ⟨rfl,rfl⟩|⟨b,rows,rfl,_,hr⟩
 .simp
 .simp[hr.length]
theorem FsO.len{J v l}(h:FsO J v l)(K:AV->Prop):zgT yca 26 v K=K (.int .i64 (l.length:Int)):=by
 rcases h with ⟨rfl,rfl⟩|⟨b,rows,rfl,_,hr⟩
 .simp
 .simp[hr.length]
theorem IntsO.at{J v l}(h:IntsO J v l){i:Nat}(hi:i<l.length):∃φ,Rd J φ/\∀K:AV->Prop,zu yca 44 v (.int .i64 (i:Int)) K=K (.pv φ (.int .i64 l[i])):=by
 rcases h with ⟨rfl,_⟩|⟨φ,rfl,r⟩
 .simp at hi
 .exact⟨φ,r,λK=>by simp[hi]⟩
theorem LstO.at{J v l}(h:LstO J v l){i:Nat}(hi:i<l.length):∃φ rv,Rd J φ/\RepO J rv l[i]/\∀K:AV->Prop,zu yca 55 v (.int .i64 (i:Int)) K=K (.pv φ rv):=by
 rcases h with ⟨rfl,_⟩|⟨φ,rows,rfl,r,hr⟩
 .simp at hi
 .obtain⟨rv,h1,h2⟩:=hr.get (yau hi)
  exact⟨φ,rv,r,h2,λK=>by simp[h1]⟩
theorem FsO.at{J v l}(h:FsO J v l){i:Nat}(hi:i<l.length):∃φ rv,Rd J φ/\FVO J rv l[i]/\∀K:AV->Prop,zu yca 26 v (.int .i64 (i:Int)) K=K (.pv φ rv):=by
 rcases h with ⟨rfl,_⟩|⟨φ,rows,rfl,r,hr⟩
 .simp at hi
 .obtain⟨rv,h1,h2⟩:=hr.get (yau hi)
  exact⟨φ,rv,r,h2,λK=>by simp[h1]⟩
def EI(va vb:AV)(n:Nat)(J:AS)(a:Nat->AV)(Z:AS):Prop:=∃i:Nat,i<=n/\a 0=va/\a 1=vb/\a 5=.int .i64 (i:Int)/\ze J Z
theorem zgv{G:Env}{J:AS}{R:Out->AS->Prop}{va vb:AV}{l:List Int}(ha:IntsO J va l)(hb:IntsO J vb l)(hl:l.length<=2^40)(h:∀J',ze J J'->R (.ret (.bool true)) J'):zzQ G 79 [va,vb] J R:=by
 refine zqJ rfl ?_
 have hal:=ha.len
 have hbl:=hb.len
 simp[zEb,hal,hbl]
 refine zS (EI va vb l.length J) (MU 5 (l.length+1)) ⟨0,by omega,by simp,by simp,by simp,.refl _⟩ λa Z hI=>?_
 obtain⟨i,hi,a0,a1,a5,A⟩:=hI
 by_cases hlt:i<l.length
 .obtain⟨φ,r1,hx1⟩:=(ha.keep A).at hlt
  obtain⟨ψ,r2,hx2⟩:=(hb.keep A).at hlt
  have q1:=r1.read
  have q2:=r2.read
  have w5:yb5 .i64 ((i:Int)+1)=((i+1:Nat):Int):=by rw[wrap_i64]<;>omega
  simp[ze1,a0,a1,a5,hal,hlt,hx1,hx2,w5,q1,q2]
  refine⟨⟨i+1,by omega,by simp[a0],by simp[a1],by simp,A⟩,?_⟩
  simp only[MU,a5];simp;omega
 .simp[ze1,zm5,a0,a1,a5,hal,hlt]
  exact h _ A
theorem zkA{G:Env}{J:AS}{R:Out->AS->Prop}{va vb:AV}{l:To}(ha:LstO J va l)(hb:LstO J vb l)(hl:l.length<=2^40)(hr:∀r∈l,r.length<=2^30)(h:∀J',ze J J'->R (.ret (.bool true)) J'):zzQ G 180 [va,vb] J R:=by
 refine ztG rfl ?_
 have hal:=ha.len
 have hbl:=hb.len
 simp[zB4,hal,hbl]
 refine zS (EI va vb l.length J) (MU 5 (l.length+1)) ⟨0,by omega,by simp,by simp,by simp,.refl _⟩ λa Z hI=>?_
 obtain⟨i,hi,a0,a1,a5,A⟩:=hI
 by_cases hlt:i<l.length
 .obtain⟨φ,rv1,r1,e1,hx1⟩:=(ha.keep A).at hlt
  obtain⟨ψ,rv2,r2,e2,hx2⟩:=(hb.keep A).at hlt
  have q1:=r1.read
  have q2:=r2.read
  have o1:=e1.one
  have o2:=e2.one
  have hrl:=hr _ (yaw hlt)
  have w5:yb5 .i64 ((i:Int)+1)=((i+1:Nat):Int):=by rw[wrap_i64]<;>omega
  have sl:∀{v:AV} {r:List W},RepO Z v r->SlW Z v r:=λh=>by
   rcases h with ⟨h1,h2⟩|⟨φ,h1,h2⟩
   .exact .inl ⟨h1,h2⟩
   .exact .inr ⟨φ,h1,h2.read⟩
  simp[zg6,a0,a1,a5,hal,hlt,hx1,hx2,q1,q2,o1,o2]
  refine zpj (sl e1) (sl e2) hrl ?_
  simp[w5,a5]
  refine⟨⟨i+1,by omega,by simp[a0],by simp[a1],by simp,A⟩,?_⟩
  simp only[MU,a5];simp;omega
 .simp[zg6,zof,a0,a1,a5,hal,hlt]
  exact h _ A
structure SzE(f:F):Prop where
 params:f.params.length<=2^40
 locals:f.locals.length<=2^40
 lists:f.lists.length<=2^40
 rows:∀r∈f.lists,r.length<=2^30
theorem zqS{G:Env}{J:AS}{R:Out->AS->Prop}{va vb:AV}{f:F}(ha:FVO J va f)(hb:FVO J vb f)(hs:SzE f)(h:∀J',ze J J'->R (.ret (.bool true)) J'):zzQ G 140 [va,vb] J R:=by
 refine zto rfl ?_
 obtain⟨pa,la,ta,rfl,hpa,hla,hta⟩:=ha
 obtain⟨pb,lb,tb,rfl,hpb,hlb,htb⟩:=hb
 have a1:=hpa.one
 have a2:=hla.one
 have a3:=hta.one
 have b1:=hpb.one
 have b2:=hlb.one
 have b3:=htb.one
 simp[zBS,a1,a2,a3,b1,b2,b3]
 have A1:ze J ((J.newO [ycR f.name,pa,la,ycS yam f.type,ta]).newO [ycR f.name,pb,lb,ycS yam f.type,tb]):=(ze.refl J).newO.newO
 have oa:((J.newO [ycR f.name,pa,la,ycS yam f.type,ta]).newO [ycR f.name,pb,lb,ycS yam f.type,tb]).objs J.no=some [ycR f.name,pa,la,ycS yam f.type,ta]:=by simp
 have ob:((J.newO [ycR f.name,pa,la,ycS yam f.type,ta]).newO [ycR f.name,pb,lb,ycS yam f.type,tb]).objs (J.no+1)=some [ycR f.name,pb,lb,ycS yam f.type,tb]:=by simp
 have n1:((J.newO [ycR f.name,pa,la,ycS yam f.type,ta]).newO [ycR f.name,pb,lb,ycS yam f.type,tb]).no=J.no+2:=by simp
 generalize (J.newO [ycR f.name,pa,la,ycS yam f.type,ta]).newO [ycR f.name,pb,lb,ycS yam f.type,tb]=J1 at *
 refine zgv (hpa.keep A1) (hpb.keep A1) hs.params λJ2 A2=>?_
 have oa2:=(A2.obj _ (by omega)).trans oa
 have ob2:=(A2.obj _ (by omega)).trans ob
 have n2:=A2.no
 have B2:=A1.trans A2
 simp[oa2,ob2,a1,a2,a3,b1,b2,b3]
 refine zgv (hla.keep B2) (hlb.keep B2) hs.locals λJ3 A3=>?_
 have oa3:=(A3.obj _ (by omega)).trans oa2
 have ob3:=(A3.obj _ (by omega)).trans ob2
 have B3:=B2.trans A3
 simp[oa3,ob3,a1,a2,a3,b1,b2,b3]
 refine zkA (hta.keep B3) (htb.keep B3) hs.lists hs.rows λJ4 A4=>?_
 simp
 exact h _ (B3.trans A4)
theorem zpk{G:Env}{J:AS}{R:Out->AS->Prop}{va vb:AV}{l:List F}(ha:FsO J va l)(hb:FsO J vb l)(hl:l.length<=2^40)(hs:∀f∈l,SzE f)(h:∀J',ze J J'->R (.ret (.bool true)) J'):zzQ G 74 [va,vb] J R:=by
 refine zxt rfl ?_
 have hal:=ha.len
 have hbl:=hb.len
 simp[zF9,hal,hbl]
 refine zS (EI va vb l.length J) (MU 5 (l.length+1)) ⟨0,by omega,by simp,by simp,by simp,.refl _⟩ λa Z hI=>?_
 obtain⟨i,hi,a0,a1,a5,A⟩:=hI
 by_cases hlt:i<l.length
 .obtain⟨φ,rv1,r1,e1,hx1⟩:=(ha.keep A).at hlt
  obtain⟨ψ,rv2,r2,e2,hx2⟩:=(hb.keep A).at hlt
  have q1:=r1.read
  have q2:=r2.read
  have hsz:=hs _ (yaw hlt)
  generalize l[i]=f at *
  have w5:yb5 .i64 ((i:Int)+1)=((i+1:Nat):Int):=by rw[wrap_i64]<;>omega
  have f1:=e1
  have f2:=e2
  obtain⟨pa,la,ta,rfl,hpa,hla,hta⟩:=e1
  obtain⟨pb,lb,tb,rfl,hpb,hlb,htb⟩:=e2
  have o1:=hpa.one
  have o2:=hla.one
  have o3:=hta.one
  have o4:=hpb.one
  have o5:=hlb.one
  have o6:=htb.one
  simp[zkp,a0,a1,a5,hal,hlt,hx1,hx2,q1,q2,o1,o2,o3,o4,o5,o6]
  refine zqS f1 f2 hsz λJ2 A2=>?_
  simp[w5,a5]
  refine⟨⟨i+1,by omega,by simp[a0],by simp[a1],by simp,A.trans A2⟩,?_⟩
  simp only[MU,a5];simp;omega
 .simp[zkp,zqI,a0,a1,a5,hal,hlt]
  exact h _ A
theorem eqM_calls{G:Env}{J:AS}{R:Out->AS->Prop}{va vb:AV}{m:M}(ha:MO J va m)(hb:MO J vb m)(hl:m.funcs.length<=2^40)(hs:∀f∈m.funcs,SzE f)(h:∀J',ze J J'->R (.ret (.bool true)) J'):zzQ G 22 [va,vb] J R:=by
 refine zxb rfl ?_
 obtain⟨fa,rfl,hfa⟩:=ha
 obtain⟨fb,rfl,hfb⟩:=hb
 have a1:=hfa.one
 have b1:=hfb.one
 simp[zFX,a1,b1]
 have A1:ze J ((J.newO [fa,ycS yam m.memory,ycS yam m.main]).newO [fb,ycS yam m.memory,ycS yam m.main]):=(ze.refl J).newO.newO
 refine zpk (hfa.keep A1) (hfb.keep A1) hl hs λJ2 A2=>?_
 simp
 exact h _ (A1.trans A2)
theorem zFo{J:AS}{v l}(h:zph v l):RepO J v l:=by
 rcases h with h|⟨b,h⟩
 .exact .inl h
 .exact .inr ⟨_,h,trivial⟩
theorem zvY{J:AS}{v l}(h:zaf v l):IntsO J v l:=by
 rcases h with h|⟨b,h⟩
 .exact .inl h
 .exact .inr ⟨_,h,trivial⟩
theorem zxK{J:AS}{v l}(h:zcu v l):LstO J v l:=by
 rcases h with h|⟨b,rows,h,k⟩
 .exact .inl h
 .exact .inr ⟨_,rows,h,trivial,zdU k λ_ _ q=>zFo q⟩
theorem m_o{J:AS}{v m}(h:MV v m):MO J v m:=by
 obtain⟨fv,rfl,hf⟩:=h
 refine⟨fv,rfl,?_⟩
 rcases hf with h|⟨b,rows,h,k⟩
 .exact .inl h
 .refine .inr ⟨_,rows,h,trivial,zdU k λ_ _ q=>?_⟩
  obtain⟨pv,lv,tv,h,a,b,c⟩:=q
  exact⟨pv,lv,tv,h,zvY a,zvY b,zxK c⟩
end Go.Proofs.YtohfclafhegadaaGreatDoor.Al
namespace Go.Proofs.YtohfclafhegadaaGreatDoor.Al
open Go Go.Abs Go.Proofs.YtohfclafhegadaaGreatDoor
theorem zFp{J:AS}(h0:0<J.nf/\J.F 0=.alive){v l}(h:RepE v l):RepO J v l:=by
 rcases h with h|⟨b,h⟩
 .exact .inl h
 .exact .inr ⟨_,h,h0⟩
theorem zvZ{J:AS}(h0:0<J.nf/\J.F 0=.alive){v l}(h:IntsE v l):IntsO J v l:=by
 rcases h with ⟨rfl,h|⟨b,h⟩⟩|⟨b,h⟩
 .exact .inl ⟨rfl,h⟩
 .exact .inr ⟨_,h,trivial⟩
 .exact .inr ⟨_,h,h0⟩
theorem zuq{R:AV->F × Nat->Prop}{S:AV->F->Prop}{rows:List AV}{ps:List (F × Nat)}(h:All2 R rows ps)(hs:∀v p,p∈ps->R v p->S v p.1):All2 S rows (ps.map Prod.fst):=by
 induction h with
 | nil=>exact .nil
 | cons h r ih=>exact .cons (hs _ _ (by simp) h) (ih λv p hp=>hs v p (by simp[hp]))
theorem m_e{J:AS}{base:Nat}(h0:0<J.nf/\J.F 0=.alive){v m}(h:ME J base v m):MO J v m:=by
 obtain⟨fv,rfl,hf⟩:=h
 refine⟨fv,rfl,?_⟩
 rcases hf with h|⟨g,rows,ps,rfl,q1,q2,q3,q4,q5,q6⟩
 .exact .inl h
 .refine .inr ⟨_,rows,rfl,⟨q2,q3⟩,?_⟩
  rw[<-q4]
  refine zuq q5 λv p hp ⟨pv,lv,tv,e,a,b,c⟩=>⟨pv,lv,tv,e,zvZ h0 a,zvZ h0 b,?_⟩
  obtain⟨u1,u2,u3,u4⟩:=q6.each p.2 (List.mem_map_of_mem hp)
  rcases c with c|⟨tos,rfl,c⟩
  .exact .inl c
  .exact .inr ⟨_,tos,rfl,⟨u2,u3⟩,zdU c λ_ _ q=>zFp h0 q⟩
end Go.Proofs.YtohfclafhegadaaGreatDoor.Al
namespace Go.Proofs.YtohfclafhegadaaGreatDoor
open Go Go.Abs
def okT(t:List UInt8):Bool:=match t with
 | []=>true
 | c::r=>zae c&&r.all λx=>zae x||zK x
theorem zqT(t:List UInt8):zh3 24 t=(decide (1<=t.length/\t.length<=24)&&okT t):=by
 cases t with
 | nil=>rfl
 | cons c r =>
  have:(1<=(c::r).length)=True:=by simp
  simp only[zh3,okT,this,true_and]
theorem zur(d:List UInt8)(c:UInt8):okT (d++[c])=(okT d&&(if d=[]then zae c else zae c||zK c)):=by
 cases d with
 | nil=>simp[okT]
 | cons x r=>simp[okT,Bool.and_assoc]
theorem zxL(d r:List UInt8)(h:okT d=false):okT (d++r)=false:=by
 cases d with
 | nil=>cases h
 | cons x y =>
  simp only[okT,ycT,ycF]at *
  cases h1:zae x with
  | false=>simp
  | true=>simp[h1]at h;simp;intro a;exact absurd a (by simpa using h)
section
variable {G : Env} {J : AS} {R : Out -> AS -> Prop}
def TgI(t:List UInt8)(J:AS)(a:Nat->AV)(Z:AS):Prop:=∃(d r:List UInt8),t=d++r/\okT d=true/\a 0=.str t/\a 3=.int .i64 (d.length:Int)/\Z=J
theorem zCt{t:List UInt8}(hl:t.length<2^60)(h:R (.ret (.bool (zh3 24 t))) J):zzQ G 51 [.str t] J R:=by
 refine zxg rfl ?_
 rw[zqT]at h
 simp[zF1]
 refine zS (TgI t J) (MU 3 (t.length+1)) ⟨[],t,rfl,rfl,by simp,by simp,rfl⟩ λa Z hI=>?_
 obtain⟨d,r,hdr,hok,a0,a3,rfl⟩:=hI
 cases r with
 | nil =>
  have e:t=d:=by simpa using hdr
  have e2:d.length=t.length:=by rw[e]
  rw[e2]at a3
  rw[e,hok]at h
  rw[<-e]at h
  by_cases h1:1<=t.length
  .have h1i:(1:Int)<=(t.length:Int):=by omega
   by_cases h2:t.length<=24
   .have h2i:(t.length:Int)<=24:=by omega
    simp[zbB,zkm,a0,a3,h1,h1i,h2,h2i]
    simpa [h1,h2]using h
   .have h2i:¬(t.length:Int)<=24:=by omega
    simp[zbB,zkm,a0,a3,h1,h1i,h2,h2i]
    simpa [h1,h2]using h
  .have h1i:¬(1:Int)<=(t.length:Int):=by omega
   simp[zbB,zkm,a0,a3,h1,h1i]
   simpa [h1]using h
 | cons c r =>
  have hlt:d.length<t.length:=by simp[hdr]
  have hlti:(d.length:Int)<(t.length:Int):=by omega
  have hi:t[d.length]'hlt=c:=by simp[hdr]
  have w1:yb5 .i64 ((d.length:Int)+1)=((d.length+1:Nat):Int):=by rw[wrap_i64]<;>omega
  have e1:t=(d++[c])++r:=by simp[hdr]
  have bad:okT (d++[c])=false->R (.ret (.bool false)) Z:=λq=>by
   have:okT t=false:=by rw[e1];exact zxL _ _ q
   rw[this]at h
   simpa using h
  have good:∀a':Nat->AV,okT (d++[c])=true->a' 0=.str t->a' 3=.int .i64 ((d.length+1:Nat):Int)->TgI t Z a' Z/\MU 3 (t.length+1) a' Z<MU 3 (t.length+1) a Z:=λa' q q0 q3=>by
   refine⟨⟨d++[c],r,e1,q,q0,by simpa using q3,rfl⟩,?_⟩
   simp[MU,a3,q3];omega
  rw[zur,hok,Bool.true_and]at bad good
  have hc255:=c.toNat_lt
  by_cases hL:97<=c.toNat/\c.toNat<=122
  .have l1:(97:Int)<=(c.toNat:Int):=by omega
   have l2:(c.toNat:Int)<=122:=by omega
   have hl:zae c=true:=by simp[zae,hL]
   simp[zbB,a0,a3,hlt,hlti,hi,hL,l1,l2,w1]
   refine good _ ?_ ?_ ?_
   .rw[hl];split<;>rfl
   .simp[a0]
   .simp
  .by_cases h95:c=95
   .subst h95
    simp[zbB,a0,a3,hlt,hlti,hi,w1]
    refine good _ ?_ ?_ ?_
    .have:zae 95=true:=by decide
     rw[this];split<;>rfl
    .simp[a0]
    .simp
   .have h95i:¬(c.toNat:Int)=95:=λe=>h95 (UInt8.toNat_inj.1 (show c.toNat=(95:UInt8).toNat by have:(95:UInt8).toNat=95:=rfl;omega))
    have h95n:¬c.toNat=95:=by omega
    have hl:zae c=false:=by
     simp only[zae,Bool.or_eq_false_iff,beq_eq_false_iff_ne,ne_eq,h95,not_false_iff,and_true]
     by_cases q:97<=c.toNat
     .have:¬c.toNat<=122:=λq2=>hL ⟨q,q2⟩
      simp[this]
     .simp[q]
    have pre:∀b97:Bool,decide ((97:Int)<=(c.toNat:Int))=b97->(b97=true->¬(c.toNat:Int)<=122):=λb e q=>by
     subst q
     have:=of_decide_eq_true e
     omega
    by_cases h97:(97:Int)<=(c.toNat:Int)
    .have h122:¬(c.toNat:Int)<=122:=by omega
     have h97n:97<=c.toNat:=by omega
     have h122n:¬c.toNat<=122:=by omega
     have hdg:zK c=false:=by simp[zK];omega
     by_cases hd0:d=[]
     .subst hd0
      simp at a3
      have hi0:t[0]'hlt=c:=hi
      have hlt0:0<t.length:=hlt
      have hlti0:(0:Int)<(t.length:Int):=by omega
      simp[zbB,a0,a3,hlt0,hlti0,hi0,h97,h122,h97n,h122n,h95i,h95n,h95,w1]
      exact bad (by simp[hl])
     .have hdi:¬(d.length:Int)=0:=by have:=ybn.2 hd0;omega
      have hdn:¬d.length=0:=by omega
      have h48:¬(c.toNat:Int)<48:=by omega
      have h48n:¬c.toNat<48:=by omega
      have h57:(57:Int)<(c.toNat:Int):=by omega
      have h57n:57<c.toNat:=by omega
      simp[zbB,a0,a3,hlt,hlti,hi,h97,h122,h97n,h122n,h95i,h95n,h95,w1,hdi,hdn,hd0,h48,h48n,h57,h57n]
      exact bad (by simp[hl,hd0,hdg])
    .have h97n:¬97<=c.toNat:=by omega
     by_cases hd0:d=[]
     .subst hd0
      simp at a3
      have hi0:t[0]'hlt=c:=hi
      have hlt0:0<t.length:=hlt
      have hlti0:(0:Int)<(t.length:Int):=by omega
      simp[zbB,a0,a3,hlt0,hlti0,hi0,h97,h97n,h95i,h95n,h95,w1]
      exact bad (by simp[hl])
     .have hdi:¬(d.length:Int)=0:=by have:=ybn.2 hd0;omega
      have hdn:¬d.length=0:=by omega
      by_cases h48:(c.toNat:Int)<48
      .have h48n:c.toNat<48:=by omega
       have hdg:zK c=false:=by simp[zK];omega
       simp[zbB,a0,a3,hlt,hlti,hi,h97,h97n,h95i,h95n,h95,w1,hdi,hdn,hd0,h48,h48n]
       exact bad (by simp[hl,hd0,hdg])
      .have h48n:¬c.toNat<48:=by omega
       by_cases h57:(57:Int)<(c.toNat:Int)
       .have h57n:57<c.toNat:=by omega
        have hdg:zK c=false:=by simp[zK];omega
        simp[zbB,a0,a3,hlt,hlti,hi,h97,h97n,h95i,h95n,h95,w1,hdi,hdn,hd0,h48,h48n,h57,h57n]
        exact bad (by simp[hl,hd0,hdg])
       .have h57n:¬57<c.toNat:=by omega
        have hdg:zK c=true:=by simp[zK];omega
        simp[zbB,a0,a3,hlt,hlti,hi,h97,h97n,h95i,h95n,h95,w1,hdi,hdn,hd0,h48,h48n,h57,h57n]
        refine good _ ?_ ?_ ?_
        .simp[hl,hd0,hdg]
        .simp[a0]
        .simp
end
def zcM:List AV:=(signs.map λp=>[ycR p.1,ycR p.2]).flatten
structure zkB(G:Env):Prop where
 signs:G.g 10=.pv (.stat true) (.agg zcM)
 max:∃m,G.g 11=.pv (.stat true) (.int .i64 m)
theorem zbJ{G:Env}{J:AS}{R:Out->AS->Prop}{t:Int}(h:R (.ret (.bool (zT t))) J):zzQ G 107 [.int .i64 t] J R:=by
 refine zs2 rfl ?_
 unfold zT at h
 by_cases h1:t=1
 .simp[h1]at h
  simp[zs1,h1];exact h
 .by_cases h2:t=2
  .simp[h2]at h
   simp[zs1,h2];exact h
  .simp[h1,h2]at h
   simp[zs1,h1,h2];exact h
def ziV(e:Int):AV:=.iface 71 (.agg [.int .i64 e])
theorem zb{G:Env}{J:AS}{R:Out->AS->Prop}{b:Bool}{e:Int}(h1:b=true->R (.ret (.tuple [])) J)(h2:b=false->R (.panic (ziV e)) J):zzQ G 53 [.bool b,.int .i64 e] J R:=by
 refine zxh rfl ?_
 cases b with
 | true=>simp[zFe,splice];exact h1 rfl
 | false=>simp[zFe,splice];exact h2 rfl
theorem zh8{G:Env}{J:AS}{R:Out->AS->Prop}{t n:Int}(h:R (.ret (.bool (zfx t n))) J):zzQ G 228 [.int .i64 t,.int .i64 n] J R:=by
 refine zt3 rfl ?_
 unfold zfx at h
 by_cases h1:t=1
 .by_cases h2:n=1
  .simp[h1,h2]at h;simp[zm7,h1,h2];exact h
  .by_cases h4:n=4
   .simp[h1,h4]at h;simp[zm7,h1,h4];exact h
   .simp[h1,h2,h4]at h;simp[zm7,h1,h2,h4];exact h
 .by_cases h2:t=2
  .by_cases h8:n=8
   .simp[h2,h8]at h;simp[zm7,h2,h8];exact h
   .simp[h2,h8]at h;simp[zm7,h2,h8];exact h
  .simp[h1,h2]at h;simp[zm7,h1,h2];exact h
theorem zlV(k:IntKind)(n:Int)(h:k=.i8\/k=.i32):yb5 .i64 (k.wrap n)=k.wrap n:=by
 have hb:-2147483648<=k.wrap n/\k.wrap n<=2147483647:=by
  rcases h with rfl|rfl<;>simp only[yb5,yao,yap]<;>simp<;>omega
 rw[wrap_i64]<;>omega
theorem zjp{G:Env}{J:AS}{R:Out->AS->Prop}{t v:Int}(h:R (.ret (.int .i64 (zum t v))) J):zzQ G 220 [.int .i64 t,.int .i64 v] J R:=by
 refine ztY rfl ?_
 unfold zum at h
 by_cases h3:t=3
 .simp[h3]at h;simp[zqM,h3,zlV];exact h
 .by_cases h1:t=1
  .simp[h1]at h;simp[zqM,h1,zlV];exact h
  .by_cases h2:t=2
   .simp[h2]at h;simp[zqM,h2];exact h
   .simp[h1,h2,h3]at h;simp[zqM,h1,h2,h3];exact h
def GI(s:List UInt8)(J:AS)(a:Nat->AV)(Z:AS):Prop:=∃i:Nat,i<=16/\a 0=.str s/\a 5=.agg zcM/\a 6=.int .i64 (i:Int)/\zbn (signs.drop i) s=zbn signs s/\ze J Z
theorem zoq:∀(l:List (List UInt8 × List UInt8)) (i:Nat) (p:List UInt8 × List UInt8),l[i]?=some p->(((l.map λp=>[ycR p.1,ycR p.2]).flatten).drop (i*2)).take 2=[.str p.1,.str p.2]
 | [],i,p,h=>by simp at h
 | q::l,0,p,h=>by simp at h;subst h;rfl
 | q::l,i+1,p,h=>by
  have:=zoq l i p (by simpa using h)
  rw[show(i+1)*2=i*2+1+1 from by omega]
  simpa using this
theorem zus(i:Nat)(h:i<16):∃p,signs[i]?=some p/\(zcM.drop (i*2)).take 2=[.str p.1,.str p.2] :=
 ⟨_,yau h,zoq signs i _ (yau h)⟩
theorem zjq{G:Env}(V:zkB G){J:AS}{R:Out->AS->Prop}{s:List UInt8}(h:∀J',ze J J'->R (.ret (.str (zbn signs s))) J'):zzQ G 219 [.str s] J R:=by
 refine ztX rfl ?_
 have hg:=V.signs
 have hl:zcM.length=32:=rfl
 simp[zB9,hg,hl]
 refine zS (GI s J) (MU 6 17) ⟨0,by omega,by simp,by simp,by simp,rfl,.refl _⟩ λa Z hI=>?_
 obtain⟨i,hi,a0,a5,a6,hs,A⟩:=hI
 by_cases hlt:i<16
 .obtain⟨p,hp,hc⟩:=zus i hlt
  have hd:signs.drop i=p::signs.drop (i+1):=by
   obtain⟨hi',e⟩:=yaq.1 hp
   rw[ycU hi',e]
  have hlt':(i:Int)<16:=by omega
  have hw3:yb5 .i64 ((i:Int)+1)=((i+1:Nat):Int):=by rw[wrap_i64]<;>omega
  have hle:i*2+2<=32:=by omega
  obtain⟨x,y⟩:=p
  rw[hd,zbn]at hs
  by_cases he:x=s
  .rw[if_pos he]at hs
   simp[zfw,a0,a5,a6,hlt',hl,hle,zaC,hc,splice,he]
   rw[hs]
   exact h _ ((A.newO).setO (by have:=A.no;omega))
  .rw[if_neg he]at hs
   simp[zfw,a0,a5,a6,hlt',hl,hle,zaC,hc,splice,he,hw3]
   refine⟨⟨i+1,by omega,by simp[a0],by simp[a5],by simp,hs,(A.newO).setO (by have:=A.no;omega)⟩,?_⟩
   simp[MU,a6];omega
 .have he:i=16:=by omega
  subst he
  have:zbn signs s=[]:=by rw[<-hs];rfl
  rw[this]at h
  simp[zfw,zok,a6]
  exact h _ A
@[simp] theorem grown_full_cons{KS:AV->AS->Prop}{J:AS}(el bs sz f s' xs y ys):zb7 el bs sz (.sl (.fam f true) s' xs) (y::ys) J KS=(s'=sz/\(xs.length+(y::ys).length)*bs<=2^47/\J.F f=.alive/\KS (.sl (.fam J.nf false) sz (xs++y::ys)) J.newF):=by simp[zb7]
@[simp] theorem zxM{P:Program}{G:Env}{n:Nat}{pa pb:PC}{ps:List Nat}{f0:Nat}{a:Nat->AV}{l:Nat}{args:List AV}{J:AS}{K PK:AV->AS->Prop}:
  zlp P (G.under P n pa pb ps f0 a l) (.fn (.yield l) [] []) args J K PK=(args.length=ps.length/\J.F f0=.alive/\avc P G n pa (zbi (λa1 J1=>J1.F f0=.alive/\avc P G n pb (rq f0 K PK) a1 J1) λ_ _ _=>False) (upds a ps args) J):=by
 simp[zlp,Env.under,zvK]
@[simp] theorem zCu(f0:Nat)(K PK:AV->AS->Prop)(a:Nat->AV)(J:AS):rq f0 K PK .normal a J=(J.F f0=.alive/\K (.bool true) J):=Eq.trans rfl rfl
@[simp] theorem zEf(f0:Nat)(K PK:AV->AS->Prop)(v:AV)(a:Nat->AV)(J:AS):rq f0 K PK (.panic v) a J=(J.F f0=.alive/\PK v { J with F:=upd J.F f0 .dead }):=Eq.trans rfl rfl
def zbF(l:List Int):List AV:=l.map (.int .i64)
def SV(J:AS)(sv:AV)(st:List Int):Prop:=(st=[]/\sv=.nilsl)\/∃g b,sv=.sl (.fam g b) 1 (zbF st)/\g<J.nf/\J.F g=.alive
def znj(J:AS)(x f:Nat):Prop:=∃cs v,J.objs x=some cs/\cs[1]?=some v/\zcL v=some f
structure zaW(x:Nat)(J J':AS):Prop where
 no:J.no<=J'.no
 nf:J.nf<=J'.nf
 obj:∀o,o<J.no->o≠x->J'.objs o=J.objs o
 fam:∀f,f<J.nf->¬znj J x f->J'.F f=J.F f
 use:∀f,f<J.nf->znj J' x f->znj J x f
theorem zaW.refl(x J):zaW x J J:=⟨yah _,yah _,λ_ _ _=>rfl,λ_ _ _=>rfl,λ_ _ h=>h⟩
theorem zaW.trans{x J J1 J2}(h:zaW x J J1)(h':zaW x J1 J2):zaW x J J2 where
 no:=yai h.no h'.no
 nf:=yai h.nf h'.nf
 obj o a b:=by rw[h'.obj o (yag a h.no) b,h.obj o a b]
 fam f a b:=by rw[h'.fam f (yag a h.nf) λu=>b (h.use f a u),h.fam f a b]
 use f a u:=h.use f a (h'.use f (yag a h.nf) u)
theorem ze.keepL{x J J'}(h:ze J J')(hx:x<J.no):zaW x J J' where
 no:=h.no
 nf:=h.nf
 obj o a _:=h.obj o a
 fam f a _:=h.fam f a
 use f _ u:=by unfold znj at *;rwa [h.obj x hx]at u
def LS(J:AS)(x c:Nat)(s:St)(deep:Int):Prop:=x<J.no/\∃sv,J.objs x=some [.ptr c 0,sv,.bool s.any,.int .i64 deep]/\SV J sv s.stack
theorem LS.adds{J J' x c s deep}(h:LS J x c s deep)(A:ze J J'):LS J' x c s deep:=by
 obtain⟨hx,sv,ho,hs⟩:=h
 refine⟨yag hx A.no,sv,(A.obj x hx).trans ho,?_⟩
 rcases hs with hs|⟨g,b,e,h1,h2⟩
 .exact .inl hs
 .exact .inr ⟨g,b,e,yag h1 A.nf,(A.fam g h1).trans h2⟩
def zsi(R:Out->AS->Prop)(x c:Nat)(deep:Int)(J:AS):Res St->Prop
 | .ok s'=>∀J',zaW x J J'->LS J' x c s' deep->R (.ret (.tuple [])) J'
 | .error e=>∀J',zaW x J J'->R (.panic (ziV e)) J'
theorem zaW.set{x J cs}(hx:x<J.no)(h:∀f v,f<J.nf->cs[1]?=some v->zcL v=some f->znj J x f):zaW x J (J.setO x cs) where
 no:=yah _
 nf:=yah _
 obj o _ ho:=by simp[ho]
 fam f _ _:=rfl
 use f hf u:=by
  obtain⟨cs',v,h1,h2,h3⟩:=u
  simp at h1
  subst h1
  exact h f v hf h2 h3
theorem zf6{G:Env}{J:AS}{R:Out->AS->Prop}{x c:Nat}{s:St}{deep:Int}(L:LS J x c s deep)(hb:s.stack.length<=2^43+1)(h:zsi R x c deep J (zdt s)):zzQ G 231 [.ptr x 0] J R:=by
 refine zt6 rfl ?_
 have L0:=L
 obtain⟨hx,sv,ho,hs⟩:=L
 unfold zdt at h
 rcases hs with ⟨hnil,rfl⟩|⟨g,b,rfl,hg1,hg2⟩
 .have hl:s.stack.length=0:=by rw[hnil];rfl
  rw[if_pos hl]at h
  cases ha:s.any with
  | true =>
   rw[ha]at ho h
   rw[if_pos rfl]at h
   simp[zm9,ho]
   exact h J (.refl _ _) L0
  | false =>
   rw[ha]at ho h
   rw[if_neg (by simp)]at h
   simp[zm9,ho]
   refine zb (λq=>by simp at q) λ_=>?_
   exact h J (.refl _ _)
 .have hlA:(zbF s.stack).length=s.stack.length:=by simp[zbF]
  by_cases hl:s.stack.length=0
  .rw[if_pos hl]at h
   have hl2:zbF s.stack=[]:=ybT.1 (by omega)
   cases ha:s.any with
   | true =>
    rw[ha]at ho h
    rw[if_pos rfl]at h
    simp[zm9,ho,hl2]
    exact h J (.refl _ _) L0
   | false =>
    rw[ha]at ho h
    rw[if_neg (by simp)]at h
    simp[zm9,ho,hl2]
    refine zb (λq=>by simp at q) λ_=>?_
    exact h J (.refl _ _)
  .rw[if_neg hl]at h
   have hl2:¬((zbF s.stack).length:Int)=0:=by omega
   have hl3:(0:Int)<((zbF s.stack).length:Int):=by omega
   have hne:¬zbF s.stack=[]:=λq=>by rw[q]at hl2;simp at hl2
   have hpos:0<(zbF s.stack).length:=by omega
   have hw:yb5 .i64 (((zbF s.stack).length:Int)-1)=(((zbF s.stack).length-1:Nat):Int):=by rw[wrap_i64]<;>omega
   have e:(zbF s.stack).take ((zbF s.stack).length-1)=zbF s.stack.dropLast:=by
    rw[hlA];unfold zbF;rw[<-List.map_take,List.dropLast_eq_take]
   simp[zm9,ho,hne,hpos,splice]
   refine zb (λ_=>?_) (λq=>by simp at q)
   simp[zm9,ho,hne,hpos,splice,hw]
   rw[e]
   refine h _ (.set hx λf v hf hv hfam=>?_) ⟨by simpa using hx,_,by simp,.inr ⟨g,true,rfl,hg1,hg2⟩⟩
   simp at hv
   subst hv
   simp[zcL]at hfam
   subst hfam
   exact⟨_,_,ho,rfl,rfl⟩
theorem zqU(J:AS)(x:Nat)(a b:List AV):(J.setO x a).setO x b=J.setO x b:=by
 unfold AS.setO
 congr 1
 funext j
 simp only[upd]
 split<;>rfl
theorem zb9{G:Env}{J:AS}{R:Out->AS->Prop}{x c:Nat}{s:St}{deep:Int}(L:LS J x c s deep)(h:∀J',zaW x J J'->LS J' x c zna deep->R (.ret (.tuple [])) J'):zzQ G 195 [.ptr x 0] J R:=by
 refine ztO rfl ?_
 obtain⟨hx,sv,ho,hs⟩:=L
 simp[zB6,ho,splice]
 rw[zqU]
 refine h _ ((zaW.set (cs:=[.ptr c 0,.nilsl,.bool true,.int .i64 deep]) hx λf v hf hv hfam=>?_)) ⟨by simpa using hx,_,by simp[zna],.inl ⟨rfl,rfl⟩⟩
 simp at hv
 subst hv
 simp[zcL]at hfam
theorem zaW.grow{x:Nat}{J J1:AS}{cs:List AV}(hx:x<J.no)(ho:J1.objs=J.objs)(hno:J1.no=J.no)(hnf:J.nf<=J1.nf)(hF:∀f,f<J.nf->¬znj J x f->J1.F f=J.F f)(h:∀f v,f<J.nf->cs[1]?=some v->zcL v=some f->False):zaW x J (J1.setO x cs) where
 no:=by simp[hno]
 nf:=by simpa using hnf
 obj o _ hne:=by simp[hne,ho]
 fam f hf hu:=hF f hf hu
 use f hf u:=by
  obtain⟨cs',v,h1,h2,h3⟩:=u
  simp at h1
  subst h1
  exact(h f v hf h2 h3).elim
theorem zam{G:Env}{J:AS}{R:Out->AS->Prop}{x c:Nat}{s:St}{deep t:Int}(L:LS J x c s deep)(hb:s.stack.length<=2^43+1)(h:∀J',zaW x J J'->LS J' x c (zc9 s t) deep->R (.ret (.tuple [])) J'):zzQ G 194 [.ptr x 0,.int .i64 t] J R:=by
 refine ztN rfl ?_
 have L0:=L
 obtain⟨hx,sv,ho,hs⟩:=L
 by_cases ht:t=0
 .have e:zc9 s t=s:=by simp[zc9,ht]
  rw[e]at h
  simp[zqL,ht]
  exact h J (.refl _ _) L0
 .have e:zc9 s t={ s with stack:=s.stack++[t] }:=by simp[zc9,ht]
  rw[e]at h
  rcases hs with ⟨hnil,rfl⟩|⟨g,b,rfl,hg1,hg2⟩
  .simp[zqL,ht,ho,splice]
   refine h _ (.grow hx rfl rfl (by simp) (λf hf _=>by simp;omega) λf v hf hv hfam=>?_) ⟨by simpa using hx,.sl (.fam J.nf false) 1 (zbF (s.stack++[t])),by simp[hnil,zbF],.inr ⟨J.nf,false,rfl,by simp,by simp⟩⟩
   .simp at hv;subst hv;simp[zcL]at hfam;omega
  .have hlA:(zbF s.stack).length=s.stack.length:=by simp[zbF]
   have ea:zbF s.stack++[.int .i64 t]=zbF (s.stack++[t]):=by simp[zbF]
   cases b with
   | true =>
    simp[zqL,ht,ho,splice,hg2,hlA]
    refine⟨by omega,h _ (.grow hx rfl rfl (by simp) (λf hf _=>by simp;omega) λf v hf hv hfam=>?_) ⟨by simpa using hx,.sl (.fam J.nf false) 1 (zbF (s.stack++[t])),by simp[zbF],.inr ⟨J.nf,false,rfl,by simp,by simp⟩⟩⟩
    .simp at hv;subst hv;simp[zcL]at hfam;omega
   | false =>
    simp[zqL,ht,ho,splice,hg2,hlA]
    refine⟨by omega,h _ (.grow hx rfl rfl (by simp) (λf hf hu=>?_) λf v hf hv hfam=>?_) ⟨by simpa using hx,.sl (.fam J.nf false) 1 (zbF (s.stack++[t])),by simp[zbF],.inr ⟨J.nf,false,rfl,by simp,by simp⟩⟩⟩
    .have:f≠g:=by rintro rfl;exact hu ⟨_,_,ho,rfl,rfl⟩
     simp[this];omega
    .simp at hv;subst hv;simp[zcL]at hfam;omega
theorem ziW{G:Env}{J:AS}{R:Out->AS->Prop}{tv:AV}(hk:tv.known=true)(hc:tv.cells=[tv])(h:R (.ret (.fn (.func 250) [] [.ptr J.no 0])) (J.newO [tv])):zzQ G 230 [tv] J R:=by
 refine zt5 rfl ?_
 simp[zCb,hk,hc]
 exact h
theorem zpl(t:Int)(ts:List Int)(s:St):zW (t::ts) s=if s.stack.length=0\/s.stack.getLast?=some t then(match zdt s with|.ok s'=>zW ts s'|.error e=>.error e)else .error 14:=rfl
theorem zhc{s s':St}(h:zdt s=.ok s'):s'.stack.length<=s.stack.length:=by
 unfold zdt at h
 split at h
 .split at h
  .cases h;exact yah _
  .cases h
 .cases h;simp
@[simp] theorem zEg(a:Nat->AV)(p q:Nat)(x y:AV):upds a [p,q] [x,y]=upd (upd a p x) q y:=Eq.trans rfl rfl
theorem SV.len{J:AS}{sv:AV}{st:List Int}(h:SV J sv st)(K:AV->Prop):zgT yca 44 sv K=K (.int .i64 (st.length:Int)):=by
 rcases h with ⟨rfl,rfl⟩|⟨g,b,rfl,_⟩
 .simp
 .simp[zbF]
theorem SV.last{J:AS}{sv:AV}{st:List Int}(h:SV J sv st)(hn:0<st.length):∃φ v,zl J.F φ/\st.getLast?=some v/\∀(n:Int),n=(st.length:Int)-1->∀K:AV->Prop,zu yca 44 sv (.int .i64 n) K=K (.pv φ (.int .i64 v)):=by
 rcases h with ⟨rfl,_⟩|⟨g,b,rfl,_,hg⟩
 .simp at hn
 .refine⟨.fam g b,st[st.length-1],hg,by rw[List.getLast?_eq_getElem?,yau (by omega)],λn hn2 K=>?_⟩
  have e:n.toNat=st.length-1:=by omega
  have h0:0<=n:=by omega
  have hlt:st.length-1<st.length:=by omega
  simp[zbF,e,h0,hlt]
def TI(x c:Nat)(deep:Int)(o f0 l:Nat)(JN:AS)(ts:List Int)(s0:St)(a:Nat->AV)(Z:AS):Prop:=∃(i:Nat) (s:St),i<=ts.length/\a 0=.fn (.yield l) [] []/\a 1=.ptr o 0/\a 3=.int .i64 ((i:Int)-1)/\LS Z x c s deep/\zaW x JN Z/\s.stack.length<=s0.stack.length /\
 zW (ts.take i).reverse s=zW ts.reverse s0
def TM(a:Nat->AV)(_:AS):Nat:=match a 3 with|.int _ n=>(n+1).toNat|_=>0
theorem zba{G:Env}{J:AS}{R:Out->AS->Prop}{x c:Nat}{s:St}{deep:Int}{ts:List Int}{tv:AV}(hv:zaf tv ts)(hts:ts.length<=2^46)(L:LS J x c s deep)(hb:s.stack.length<=2^43+1)(h:zsi R x c deep J (zW ts.reverse s)):zzQ G 193 [.ptr x 0,tv] J R:=by
 obtain⟨v1,v2,v3⟩:=hv.one
 refine zlD (px:=zqK) (py:=zoh) (pa:=zdQ) (pb:=zdR) zqE Tryz.func193 (n:=33) (res:=[]) rfl rfl rfl (by kernel_rfl) (by kernel_rfl) (by kernel_rfl) (by kernel_rfl) (by decide) (by simp) ?_
 simp[zqK,zoh]
 refine ziW v1 v3 ?_
 simp
 generalize hJ2:(J.newO [ycV x 0]).newO [tv]=J2
 have hno2:J2.no=J.no+2:=by rw[<-hJ2];simp
 have hnf2:J2.nf=J.nf:=by rw[<-hJ2];simp
 have A2:ze J J2:=by rw[<-hJ2];exact(ze.refl J).newO.newO
 have hb0:J2.objs J.no=some [.ptr x 0]:=by rw[<-hJ2];simp
 have ho0:J2.objs (J.no+1)=some [tv]:=by rw[<-hJ2];simp
 have hxl:=L.1
 refine⟨250,[.ptr (J.no+1) 0],by simp,by simp,λl=>?_⟩
 refine zuf rfl ?_
 have L2:LS J2.newF x c s deep:=(L.adds A2).adds (ze.refl J2).newF
 have AN:ze J J2.newF:=A2.newF
 have hnu:∀Z,zaW x J2.newF Z->Z.F J2.nf=.alive:=λZ K=>by
  rw[K.fam J2.nf (by simp) ?_]
  .simp
  .rintro ⟨cs,v,e1,e2,e3⟩
   obtain⟨hx,sv,e4,e5⟩:=L
   have:J2.newF.objs x=some [.ptr c 0,sv,.bool s.any,.int .i64 deep]:=(AN.obj x hx).trans e4
   rw[this]at e1
   cases e1
   simp at e2
   subst e2
   rcases e5 with ⟨_,rfl⟩|⟨g,b,rfl,hg,_⟩
   .simp[zcL]at e3
   .simp[zcL]at e3;omega
 -- a state behind the loop
 have back:∀Z,zaW x J2.newF Z->zaW x J { Z with F:=upd Z.F J2.nf .dead }:=by
  intro Z K
  have K':=(AN.keepL hxl).trans K
  exact⟨K'.no,K'.nf,K'.obj,λf hf hu=>by simp only[upd];rw[if_neg (by omega)];exact K'.fam f hf hu,K'.use⟩
 have backL:∀Z s',zaW x J2.newF Z->LS Z x c s' deep->LS { Z with F:=upd Z.F J2.nf .dead } x c s' deep:=by
  intro Z s' K ⟨e1,sv,e2,e3⟩
  refine⟨e1,sv,e2,?_⟩
  rcases e3 with e3|⟨g,b,e4,e5,e6⟩
  .exact .inl e3
  .refine .inr ⟨g,b,e4,e5,?_⟩
   have hne:g≠J2.nf:=by
    rintro rfl
    have u:znj Z x J2.nf:=⟨_,_,e2,rfl,by rw[e4];rfl⟩
    obtain⟨cs,v,q1,q2,q3⟩:=K.use J2.nf (by simp) u
    obtain⟨hx,sv',q4,q5⟩:=L2
    rw[q4]at q1
    cases q1
    simp at q2
    subst q2
    rcases q5 with ⟨_,rfl⟩|⟨g',b',rfl,hg',_⟩
    .simp[zcL]at q3
    .obtain⟨hx1,sv1,p1,p2⟩:=L
     have:J2.newF.objs x=some [.ptr c 0,sv1,.bool s.any,.int .i64 deep]:=(AN.obj x hx1).trans p1
     rw[q4]at this
     simp at this
     subst this
     rcases p2 with ⟨_,p3⟩|⟨g2,b2,p3,p4,_⟩
     .cases p3
     .simp at p3;simp[zcL]at q3;omega
   simp only[upd];rw[if_neg hne];exact e6
 have ho1:J2.newF.objs (J.no+1)=some [tv]:=by simpa using ho0
 have hw0:yb5 .i64 ((ts.length:Int)-1)=(ts.length:Int)-1:=by rw[wrap_i64]<;>omega
 have start:∀a,TI x c deep (J.no+1) J2.nf l J2.newF ts s a J2.newF->zka yca (Env.under G yca 33 zdQ zdR [9,10] J2.nf (upd (upd (upd (zbz [ycV x 0,tv]) 2 (ycV J.no 0)) 7 tv) 8 (AV.fn (Fn.func 250) [] [ycV (J.no+1) 0])) l) 19 zen
   (za6 0 (zfn yca [] λo J'=>match o with
    | .ret v=>J'.F J2.nf=.alive/\R (.ret (.tuple [])) { J' with F:=upd J'.F J2.nf .dead }
    | .panic v=>R (.panic v) J')) a J2.newF:=by
  intro a hI
  refine zS (TI x c deep (J.no+1) J2.nf l J2.newF ts s) TM hI λa Z hI=>?_
  obtain⟨i,s1,hi,a0,a1,a3,L1,K1,hle,hq⟩:=hI
  have hal:=hnu Z K1
  have hob:Z.objs (J.no+1)=some [tv]:=by
   rw[K1.obj (J.no+1) (by simp;omega) (by omega)];exact ho1
  have hob0:Z.objs J.no=some [.ptr x 0]:=by
   rw[K1.obj J.no (by simp;omega) (by omega)];simpa using hb0
  cases i with
  | zero =>
   simp[zW]at hq
   rw[<-hq]at h
   simp[zen,a3]
   exact⟨hal,h _ (back Z K1) (backL Z s1 K1 L1)⟩
  | succ j =>
   have hj:j<ts.length:=by omega
   rcases hv with ⟨rfl,_⟩|⟨b,rfl⟩
   .simp at hj
   have hrev:(ts.take (j+1)).reverse=ts[j]::(ts.take j).reverse:=by rw[ycP hj,List.reverse_append];rfl
   rw[hrev,zpl]at hq
   obtain⟨hx1,sv1,hs1,hs2⟩:=L1
   have L1':LS Z x c s1 deep:=⟨hx1,sv1,hs1,hs2⟩
   have hf0:=hal
   have hsl:=hs2.len
   have hwj:yb5 .i64 ((j:Int)-1)=(j:Int)-1:=by rw[wrap_i64]<;>omega
   have next:∀(a':Nat->AV) (Z':AS) (s':St),zaW x Z Z'->LS Z' x c s' deep->zW (ts.take j).reverse s'=zW ts.reverse s->s'.stack.length<=s1.stack.length->a' 0=.fn (.yield l) [] []->a' 1=.ptr (J.no+1) 0->a' 3=.int .i64 ((j:Int)-1) ->
     TI x c deep (J.no+1) J2.nf l J2.newF ts s a' Z'/\TM a' Z'<TM a Z:=by
    intro a' Z' s' K' L' e' l' b0 b1 b3
    refine⟨⟨j,s',by omega,b0,b1,b3,L',K1.trans K',by omega,e'⟩,?_⟩
    simp only[TM,a3,b3]
    omega
   by_cases hn:s1.stack.length=0
   .have hn':s1.stack=[]:=ybT.1 hn
    rw[if_pos (.inl hn)]at hq
    simp[zen,a0,a1,a3,hob,hj,zdQ,zdR,hal,hob0,hs1,hsl,hn']
    refine zb (λ_=>?_) (λq=>by simp at q)
    simp[hob0]
    refine zf6 L1' (by omega) ?_
    cases hd:zdt s1 with
    | ok s' =>
     rw[hd]at hq
     intro Z' K' L'
     simp[hal,hnu Z' (K1.trans K'),a0,a1,a3,hwj]
     exact next _ Z' s' K' L' hq (zhc hd) (by simp[a0]) (by simp[a1]) (by simp)
    | error e =>
     rw[hd]at hq
     simp only at hq
     rw[<-hq]at h
     intro Z' K'
     simp[hal,hnu Z' (K1.trans K')]
     exact h _ (back Z' (K1.trans K'))
   .obtain⟨φ,v,hrd,hlast,hix⟩:=hs2.last (by omega)
    have hix':=hix _ rfl
    have hw1:yb5 .i64 ((s1.stack.length:Int)-1)=(s1.stack.length:Int)-1:=by rw[wrap_i64]<;>omega
    have hne:¬s1.stack=[]:=λq=>hn (by rw[q];rfl)
    by_cases hvt:v=ts[j]
    .rw[if_pos (.inr (by rw[hlast,hvt]))]at hq
     subst hvt
     simp[zen,a0,a1,a3,hob,hj,zdQ,zdR,hal,hob0,hs1,hsl,hne,hix',hw1,hrd]
     refine zb (λ_=>?_) (λq=>by simp at q)
     simp[hob0]
     refine zf6 L1' (by omega) ?_
     cases hd:zdt s1 with
     | ok s' =>
      rw[hd]at hq
      intro Z' K' L'
      simp[hal,hnu Z' (K1.trans K'),a0,a1,a3,hwj]
      exact next _ Z' s' K' L' hq (zhc hd) (by simp[a0]) (by simp[a1]) (by simp)
     | error e =>
      rw[hd]at hq
      simp only at hq
      rw[<-hq]at h
      intro Z' K'
      simp[hal,hnu Z' (K1.trans K')]
      exact h _ (back Z' (K1.trans K'))
    .rw[if_neg (by rintro (q|q);exact hn q;rw[hlast]at q;exact hvt (yaR.inj q))]at hq
     rw[<-hq]at h
     simp[zen,a0,a1,a3,hob,hj,zdQ,zdR,hal,hob0,hs1,hsl,hne,hix',hw1,hrd,hvt]
     refine zb (λq=>by simp at q) (λ_=>?_)
     simp[hal]
     exact h _ (back Z K1)
 simp[zCd,ho1,hv.len,hw0]
 exact start _ ⟨ts.length,s,yah _,by simp,by simp,by simp,L2,.refl _ _,yah _,by rw[ycQ]⟩
def zor(J:AS)(c:Nat)(m:M)(f:F)(ls:List Int):Prop:=c<J.no/\∃fsv pv lv tv sv,J.objs c=some [fsv,.int .i64 m.memory,.int .i64 m.main,.str f.name,pv,lv,.int .i64 f.type,tv,sv]/\FsV fsv m.funcs/\zaf pv f.params/\zaf lv f.locals/\zcu tv f.lists/\zaf sv ls
theorem zor.adds{J J' c m f ls}(h:zor J c m f ls)(A:ze J J'):zor J' c m f ls:=by
 obtain⟨hc,fsv,pv,lv,tv,sv,ho,r⟩:=h
 exact⟨yag hc A.no,fsv,pv,lv,tv,sv,(A.obj c hc).trans ho,r⟩
theorem zor.keep{J J' x c m f ls}(h:zor J c m f ls)(K:zaW x J J')(hx:c≠x):zor J' c m f ls:=by
 obtain⟨hc,fsv,pv,lv,tv,sv,ho,r⟩:=h
 exact⟨yag hc K.no,fsv,pv,lv,tv,sv,(K.obj c hc hx).trans ho,r⟩
theorem zdb{G:Env}{J:AS}{R:Out->AS->Prop}{x c:Nat}{s:St}{deep:Int}{m:M}{f:F}{ls:List Int}(L:LS J x c s deep)(C:zor J c m f ls)(hb:s.stack.length<=2^43+1)(h:zsi R x c deep J (zw f.type s)):zzQ G 162 [.ptr x 0] J R:=by
 refine zty rfl ?_
 obtain⟨hc,fsv,pv,lv,tv,lsv,hco,_⟩:=C
 obtain⟨hx,sv,ho,hs⟩:=L
 unfold zw at h
 by_cases ht:f.type=0
 .rw[if_pos ht]at h
  simp[zxA,ho,hco,ht]
  exact h J (.refl _ _) ⟨hx,sv,ho,hs⟩
 .rw[if_neg ht]at h
  simp[zxA,ho,hco,ht]
  refine zba (ts:=[f.type]) (.inr ⟨_,rfl⟩) (by simp) ⟨hx,sv,ho,hs⟩ hb ?_
  have e:[f.type].reverse=[f.type]:=rfl
  rw[e]
  revert h
  cases zW [f.type] s with
  | ok s'=>intro h J' K L;simp;exact h J' K L
  | error e=>intro h J' K;simp;exact h J' K
theorem zpm{G:Env}(V:zkB G){J:AS}{R:Out->AS->Prop}{w:W}(h:∀J',ze J J'->R (.ret (.bool (zQ w))) J'):zzQ G 191 [w.av] J R:=by
 refine ztL rfl ?_
 unfold zQ at h
 have A:ze J (J.newO w.cs):=(ze.refl J).newO
 simp only[W.cs]at A
 by_cases h1:w.op=1
 .rw[if_pos (.inl h1)]at h
  simp[zkw,W.av,W.cs,h1]
  refine zbJ ?_
  simp
  simpa [h1]using h _ A
 by_cases h5:w.op=5
 .rw[if_pos (.inr h5)]at h
  simp[zkw,W.av,W.cs,h5]
  refine zbJ ?_
  simp
  simpa [h5]using h _ A
 rw[if_neg (by omega)]at h
 by_cases h4:w.op=4
 .rw[if_pos h4]at h
  simp[zkw,W.av,W.cs,h4]
  refine zbJ ?_
  cases hn:zT w.ty with
  | false =>
   rw[hn]at h
   simp
   simpa [h4]using h _ A
  | true =>
   rw[hn]at h
   simp
   refine zjq V λJ1 A1=>?_
   simp
   have:=h _ ((by simpa [h4]using A:ze J _).trans A1)
   cases hq:zbn signs w.name with
   | nil=>rw[hq]at this;simpa using this
   | cons a l=>rw[hq]at this;simpa using this
 rw[if_neg h4]at h
 by_cases h8:w.op=8
 .rw[if_pos (.inl h8)]at h
  simp[zkw,W.av,W.cs,h8]
  refine zh8 ?_
  simp
  simpa [h8]using h _ A
 by_cases h9:w.op=9
 .rw[if_pos (.inr h9)]at h
  simp[zkw,W.av,W.cs,h9]
  refine zh8 ?_
  simp
  simpa [h9]using h _ A
 rw[if_neg (by omega)]at h
 by_cases k1:1<=w.op
 .by_cases k2:w.op<=18
  .simp[k1,k2]at h
   simp[zkw,W.av,W.cs,h1,h5,h4,h8,h9,k1,k2]
   exact h _ A
  .simp[k1,k2]at h
   simp[zkw,W.av,W.cs,h1,h5,h4,h8,h9,k1,k2]
   exact h _ A
 .simp[k1]at h
  simp[zkw,W.av,W.cs,h1,h5,h4,h8,h9,k1]
  exact h _ A
def zxN(v:AV)(r:Option (List Int × Int)):Prop:=match r with
 | some (ts,g)=>∃tv,v=.tuple [.agg [tv,.int .i64 g],.bool true]/\zaf tv ts
 | none=>v=.tuple [.agg [.nilsl,.int .i64 0],.bool false]
theorem zcv{G:Env}{J:AS}{R:Out->AS->Prop}{mv:AV}{m:M}{n:Int}(hm:MV mv m)(hb:n<=2^63-1)(h:∀v J',zxN v (zaY m.funcs n)->ze J J'->R (.ret v) J'):zzQ G 229 [mv,.int .i64 n] J R:=by
 refine zt4 rfl ?_
 obtain⟨fv,rfl,hf⟩:=hm
 unfold zaY at h
 have A0:∀c1 c2 c3:List AV,ze J (((J.newO c1).newO c2).setO (J.no+1) c3):=λ_ _ _=>((ze.refl J).newO.newO).setO (by omega)
 by_cases n0:n=0
 .rw[if_pos n0]at h
  simp[zm8,n0,splice]
  exact h _ _ ⟨_,rfl,.inl ⟨rfl,rfl⟩⟩ (A0 _ _ _)
 rw[if_neg n0]at h
 by_cases n1:n=1
 .rw[if_pos n1]at h
  simp[zm8,n1,splice]
  exact h _ _ ⟨_,rfl,.inr ⟨_,rfl⟩⟩ (A0 _ _ _)
 rw[if_neg n1]at h
 by_cases n2:n=2
 .rw[if_pos n2]at h
  simp[zm8,n2,splice]
  exact h _ _ ⟨_,rfl,.inr ⟨_,rfl⟩⟩ (A0 _ _ _)
 rw[if_neg n2]at h
 by_cases n3:n<0
 .rw[if_pos n3]at h
  simp[zm8,n0,n1,n2,n3,splice]
  exact h _ _ rfl (A0 _ _ _)
 rw[if_neg n3]at h
 have hw:yb5 .i64 (n-3)=n-3:=by rw[wrap_i64]<;>omega
 have hl:=hf.len
 by_cases n4:(m.funcs.length:Int)<=n-3
 .have e:m.funcs[(n-3).toNat]?=none:=yb3 (by omega)
  rw[e]at h
  simp[zm8,n0,n1,n2,n3,n4,splice,hl,hw]
  exact h _ _ rfl (A0 _ _ _)
 .rcases hf with ⟨e0,rfl⟩|⟨b,rows,rfl,hr⟩
  .rw[e0]at n4;simp at n4;omega
  have hlt:(n-3).toNat<m.funcs.length:=by omega
  have hg:m.funcs[(n-3).toNat]?=some m.funcs[(n-3).toNat]:=yau hlt
  obtain⟨row,hrow,pv,lv,tv,rfl,hp,hlv,htv⟩:=hr.get hg
  rw[hg]at h
  have h3:0<=n-3:=by omega
  have p1:=hp.one
  simp[zm8,n0,n1,n2,n3,n4,splice,hl,hw,hrow,h3,p1]
  refine⟨by omega,⟨hlv.one.2.1,htv.one.2.1⟩,h _ _ ⟨_,rfl,hp⟩ ?_⟩
  exact(((ze.refl J).newO.newO.newO).setO (by omega)).setO (by omega)
theorem ziX{G:Env}{J:AS}{R:Out->AS->Prop}{x c:Nat}{s:St}{deep:Int}{m:M}{f:F}{ls:List Int}{w:W}(L:LS J x c s deep)(C:zor J c m f ls)(hb:w.n<=2^63-1)(h:∀J',ze J J'->R (.ret (.bool (zH m.funcs ls deep w))) J'):zzQ G 192 [.ptr x 0,w.av] J R:=by
 refine ztM rfl ?_
 obtain⟨hc,fsv,pv,lv,tv,lsv,hco,hfs,hpv,hlv,htv,hls⟩:=C
 obtain⟨hx,sv,ho,hs⟩:=L
 have A:ze J (J.newO w.cs):=(ze.refl J).newO
 simp only[W.cs]at A
 have hx':x≠J.no:=by omega
 have hc':c≠J.no:=by omega
 unfold zH at h
 by_cases h1:w.op=1
 .rw[if_pos h1]at h
  simp[ziT,W.av,W.cs,h1]
  refine zjp ?_
  simp
  simpa [h1]using h _ A
 rw[if_neg h1]at h
 by_cases h2:w.op=2\/w.op=3
 .rw[if_pos h2]at h
  have hl:=hls.len
  by_cases k1:0<=w.n
  .by_cases k2:w.n<(ls.length:Int)
   .simp[k1,k2]at h
    rcases h2 with h2|h2<;>simp[ziT,W.av,W.cs,h1,h2,ho,hco,hx',hc',hl,k1,k2]<;>exact h _ (by simpa [h2]using A)
   .simp[k1,k2]at h
    rcases h2 with h2|h2<;>simp[ziT,W.av,W.cs,h1,h2,ho,hco,hx',hc',hl,k1,k2]<;>exact h _ (by simpa [h2]using A)
  .simp[k1]at h
   rcases h2 with h2|h2<;>simp[ziT,W.av,W.cs,h1,h2,ho,hco,hx',hc',hl,k1]<;>exact h _ (by simpa [h2]using A)
 rw[if_neg h2]at h
 have h2a:¬w.op=2:=λq=>h2 (.inl q)
 have h2b:¬w.op=3:=λq=>h2 (.inr q)
 by_cases h10:w.op=10
 .rw[if_pos h10]at h
  simp[ziT,W.av,W.cs,h10,ho,hco,hx',hc']
  have hx'':x≠J.no+1:=by omega
  have hc'':c≠J.no+1:=by omega
  have A':ze J (J.newO [.int .i64 10,.int .i64 w.ty,.int .i64 w.n,.int .i64 w.body,.int .i64 w.other,.str w.name]):=by simpa [h10]using A
  constructor
  .refine zcv (m:=m) ⟨_,rfl,hfs⟩ hb λv J1 hv A1=>?_
   have A2:=A'.trans A1
   cases hq:zaY m.funcs w.n with
   | none =>
    rw[hq]at hv h
    simp only[zxN]at hv
    subst hv
    simp[splice]
    exact h _ (A2.newO.setO A2.no)
   | some p =>
    rw[hq]at hv h
    obtain⟨y,rfl,hy⟩:=hv
    have y1:=hy.one
    simp[splice,y1]
    exact h _ (A2.newO.setO A2.no)
  .simp[ho,hco,hx',hc',hx'',hc'']
   refine zcv (m:=m) ⟨_,rfl,hfs⟩ hb λv J1 hv A1=>?_
   have A2:ze J J1:=(A'.newO).trans A1
   have hnew:J1.objs (J.no+1)=some [.nilsl,.int .i64 0]:=(A1.obj (J.no+1) (by simp)).trans (by simp)
   cases hq:zaY m.funcs w.n with
   | none =>
    rw[hq]at hv h
    simp only[zxN]at hv
    subst hv
    simp[splice,hnew]
    exact h _ (A2.setO (by omega))
   | some p =>
    rw[hq]at hv h
    obtain⟨y,rfl,hy⟩:=hv
    have y1:=hy.one
    simp[splice,y1,hnew]
    exact h _ (A2.setO (by omega))
 rw[if_neg h10]at h
 by_cases h14:w.op=14\/w.op=15
 .rw[if_pos h14]at h
  by_cases k1:0<=w.n
  .by_cases k2:w.n<=deep
   .simp[k1,k2]at h
    rcases h14 with h14|h14<;>simp[ziT,W.av,W.cs,h14,ho,hco,hx',hc',k1,k2]<;>exact h _ (by simpa [h14]using A)
   .simp[k1,k2]at h
    rcases h14 with h14|h14<;>simp[ziT,W.av,W.cs,h14,ho,hco,hx',hc',k1,k2]<;>exact h _ (by simpa [h14]using A)
  .simp[k1]at h
   rcases h14 with h14|h14<;>simp[ziT,W.av,W.cs,h14,ho,hco,hx',hc',k1]<;>exact h _ (by simpa [h14]using A)
 rw[if_neg h14]at h
 have h14a:¬w.op=14:=λq=>h14 (.inl q)
 have h14b:¬w.op=15:=λq=>h14 (.inr q)
 simp[ziT,W.av,W.cs,h1,h2a,h2b,h10,h14a,h14b]
 exact h _ A
@[simp] theorem zv0{P:Program}(t)(x y:List UInt8){K:AV->Prop}:zbs P .add t (.str x) (.str y) K=(x.length+y.length<2^62/\K (.str (x++y))):=by simp only[zbs,zhj]
theorem zkB.cell{G:Env}(V:zkB G){M F w}(g:GOk yca G M F w):∃m,w.cell? ⟨11,0,none⟩=some (.int .i64 m):=by
 obtain⟨m,hm⟩:=V.max
 have h:=g.vars 11
 rw[hm]at h
 cases h with
 | pv φ v B off cs hmem hc hv =>
  have h1:=hc trivial 0 (by simp)
  have h2:=hv trivial 0 (by simp)
  simp at h2
  generalize cs 0=c at h1 h2
  cases h2
  exact⟨m,h1⟩
theorem ziY{G:Env}(V:zkB G){s t:List UInt8}{J:AS}{R:Out->AS->Prop}(hl:s.length<4294967281)(h:R (.ret (.bool (Lib.contains s t))) J):zzQ G 232 [.str s,.str t] J R:=by
 refine ACalls.of_below λM w cargs S g hc=>?_
 obtain⟨m,hm⟩:=V.cell g
 obtain⟨c0,e0,v0⟩:=hc.2 0 _ rfl
 obtain⟨c1,e1,v1⟩:=hc.2 1 _ rfl
 obtain⟨b0,rfl,rfl⟩:=v0.str_inv
 obtain⟨b1,rfl,rfl⟩:=v1.str_inv
 have hcargs:cargs=#[.string b0,.string b1]:=by
  have hsz:cargs.size=2:=hc.1
  apply Array.ext
  .simpa using hsz
  .intro i h1 h2
   match i,h1 with
   | 0,_=>simpa using (yaU.1 e0).2
   | 1,_=>simpa using (yaU.1 e1).2
   | i+2,h=>omega
 rw[hcargs]
 refine(Tryz.strings_Contains b0 b1 m w (by simpa using hl) hm).mono λe w' ⟨he,hw⟩=>?_
 subst he hw
 exact⟨⟨.bool _,_,rfl,λM F w=>.bool _,h⟩,rfl,rfl,rfl,yah _,λ_ _=>rfl⟩
theorem zca:∀{ts:List Int} {s s':St},zW ts s=.ok s'->s'.stack.length<=s.stack.length
 | [],s,s',h=>by simp[zW]at h;subst h;exact yah _
 | t::ts,s,s',h=>by
  rw[zW]at h
  split at h
  .cases hd:zdt s with
   | error e=>rw[hd]at h;cases h
   | ok s1=>rw[hd]at h;exact yai (zca h) (zhc hd)
  .cases h
theorem zf7:∀s,zbn signs s≠[]->s.length<=5:=by
 have key:∀(l:List (List UInt8 × List UInt8)),(∀p∈l,p.1.length<=5)->∀s,zbn l s≠[]->s.length<=5:=by
  intro l
  induction l with
  | nil=>intro _ s h;simp[zbn]at h
  | cons p l ih =>
   intro hp s h
   obtain⟨x,y⟩:=p
   rw[zbn]at h
   by_cases e:x=s
   .subst e;exact hp (x,y) (by simp)
   .rw[if_neg e]at h;exact ih (λq hq=>hp q (by simp[hq])) s h
 exact key signs (by decide)
section
variable {G : Env} {J : AS} {R : Out -> AS -> Prop} {x c : Nat} {s : St} {deep : Int} {m : M} {f : F} {ls : List Int} {w : W}
theorem znk(V:zkB G)(L:LS J x c s deep)(C:zor J c m f ls)(hcx:c≠x)(hb:s.stack.length<=2^43)(hn:w.n<=2^63-1)(hps:∀g∈m.funcs,g.params.length<=2^46)(hf:zQ w=true)(hr:zH m.funcs ls deep w=true)
  (h:zsi R x c deep J (zbO m.funcs ls w s)):zzQ G 196 [.ptr x 0,w.av] J R:=by
 refine ztP rfl ?_
 have A:ze J (J.newO w.cs):=(ze.refl J).newO
 have La:=L.adds A
 have Ca:=C.adds A
 have Ka:=A.keepL L.1
 have hwo:(J.newO w.cs).objs J.no=some [.int .i64 w.op,.int .i64 w.ty,.int .i64 w.n,.int .i64 w.body,.int .i64 w.other,.str w.name]:=by simp[W.cs]
 have hwl:J.no<(J.newO w.cs).no:=by simp
 have hxw:J.no≠x:=by have:=L.1;omega
 simp[zB7,W.av,W.cs]
 rw[show J.newO [ycS yam w.op,ycS yam w.ty,ycS yam w.n,ycS yam w.body,ycS yam w.other,ycR w.name]=J.newO w.cs from rfl]
 generalize hJa:J.newO w.cs=Ja at *
 obtain⟨hc,fsv,pv,lv,tv,lsv,hco,hfs,hpv,hlv,htv,hls⟩:=Ca
 obtain⟨hx,sv,ho,hs⟩:=La
 have La:LS Ja x c s deep:=⟨hx,sv,ho,hs⟩
 -- the zvJ
 have fin:∀r:Res St,zsi R x c deep J r->zsi (zvJ (λv J'=>R (.ret (.tuple [])) J') λv J'=>R (.panic v) J') x c deep Ja r:=by
  intro r hr
  cases r with
  | ok s'=>intro J' K L';simp;exact hr J' (Ka.trans K) L'
  | error e=>intro J' K;simp;exact hr J' (Ka.trans K)
 unfold zbO at h
 by_cases h1:w.op=1
 .rw[if_pos h1]at h
  simp[h1,hwo]
  refine zam La (by omega) λJ' K L'=>?_
  simp
  exact h J' (Ka.trans K) L'
 rw[if_neg h1]at h
 by_cases h2:w.op=2
 .rw[if_pos h2]at h
  have hr2:0<=w.n/\w.n<(ls.length:Int):=by simpa [zH,h1,h2]using hr
  rcases hls with ⟨e,_⟩|⟨b,rfl⟩
  .rw[e]at hr2;simp at hr2;omega
  have hlt:w.n.toNat<ls.length:=by omega
  have e1:ls.getD w.n.toNat 0=ls[w.n.toNat]:=by rw[ycJ,yau hlt];rfl
  simp[h2,hwo,ho,hco,hr2.1,hlt]
  refine zam La (by omega) λJ' K L'=>?_
  simp
  unfold zhY at h
  rw[e1]at h
  exact h J' (Ka.trans K) L'
 rw[if_neg h2]at h
 by_cases h3:w.op=3
 .rw[if_pos h3]at h
  have hr2:0<=w.n/\w.n<(ls.length:Int):=by simpa [zH,h1,h2,h3]using hr
  rcases hls with ⟨e,_⟩|⟨b,rfl⟩
  .rw[e]at hr2;simp at hr2;omega
  have hlt:w.n.toNat<ls.length:=by omega
  have e1:ls.getD w.n.toNat 0=ls[w.n.toNat]:=by rw[ycJ,yau hlt];rfl
  simp[h3,hwo,ho,hco,hr2.1,hlt]
  unfold zhY at h
  rw[e1]at h
  refine zba (ts:=[ls[w.n.toNat]]) (.inr ⟨_,rfl⟩) (by simp) La (by omega) ?_
  have e:[ls[w.n.toNat]].reverse=[ls[w.n.toNat]]:=rfl
  rw[e]
  revert h
  cases zW [ls[w.n.toNat]] s with
  | ok s'=>intro h J' K L;simp;exact h J' (Ka.trans K) L
  | error e=>intro h J' K;simp;exact h J' (Ka.trans K)
 rw[if_neg h3]at h
 -- takes,and zf2
 have tgB:∀{R':Out->AS->Prop} {Jb:AS} (Kb:zaW x J Jb) (Lb:LS Jb x c s deep) (o:Nat) (cs:List AV) (ts:List Int) (tv:AV) (t:Int),Jb.objs o=some cs->o<Jb.no->o≠x->zaf tv ts->ts.length<=2^46->zsi R x c deep J (zf2 (zW ts.reverse s) t) ->
   (∀J1 s1,s1.stack.length<=2^43->zaW x Jb J1->LS J1 x c s1 deep->J1.objs o=some cs->(∀J2,zaW x J1 J2->LS J2 x c (zc9 s1 t) deep->R (.ret (.tuple [])) J2)->R' (.ret (.tuple [])) J1) ->
   (∀e J1,R (.panic (ziV e)) J1->R' (.panic (ziV e)) J1)->zzQ G 193 [.ptr x 0,tv] Jb R':=by
  intro R' Jb Kb Lb o cs ts tv t hob hlo hox hv hl hr k1 k2
  refine zba hv (by omega) Lb (by omega) ?_
  cases hq:zW ts.reverse s with
  | error e =>
   rw[hq]at hr
   exact λJ1 K=>k2 e J1 (hr J1 (Kb.trans K))
  | ok s1 =>
   rw[hq]at hr
   exact λJ1 K L'=>k1 J1 s1 (by have:=zca hq;omega) K L' ((K.obj o hlo hox).trans hob) λJ2 K2 L2=>hr J2 (Kb.trans (K.trans K2)) L2
 have tg:∀{R':Out->AS->Prop} (ts:List Int) (tv:AV) (t:Int),zaf tv ts->ts.length<=2^46->zsi R x c deep J (zf2 (zW ts.reverse s) t) ->
   (∀J1 s1,s1.stack.length<=2^43->zaW x Ja J1->LS J1 x c s1 deep->J1.objs J.no=some [.int .i64 w.op,.int .i64 w.ty,.int .i64 w.n,.int .i64 w.body,.int .i64 w.other,.str w.name]->(∀J2,zaW x J1 J2->LS J2 x c (zc9 s1 t) deep->R (.ret (.tuple [])) J2)->R' (.ret (.tuple [])) J1) ->
   (∀e J1,R (.panic (ziV e)) J1->R' (.panic (ziV e)) J1)->zzQ G 193 [.ptr x 0,tv] Ja R':=λts tv t hv hl hr k1 k2=>tgB Ka La J.no _ ts tv t hwo hwl hxw hv hl hr k1 k2
 by_cases h4:w.op=4
 .rw[if_pos h4]at h
  have hsig:w.name.length<=5:=by
   refine zf7 _ λq=>?_
   simp[zQ,h4,q]at hf
  simp[h4,hwo]
  refine tg [w.ty,w.ty] _ _ (.inr ⟨_,rfl⟩) (by simp) h (λJ1 s1 hb1 K1 L1 hw1 fin1=>?_) (λe J1 hh=>by simp;exact hh)
  simp[hw1]
  refine⟨by omega,by omega,ziY V ?_ ?_⟩
  .decide
  have hcmp:Lib.contains [32,101,113,32,110,101,32,108,116,95,115,32,108,101,95,115,32,103,116,95,115,32,103,101,95,115,32] (32::(w.name++[32]))=zCq w.name:=rfl
  simp[hcmp]
  cases hq:zCq w.name with
  | true =>
   rw[hq]at fin1
   simp[hw1]
   refine zam L1 (by omega) λJ2 K2 L2=>?_
   simp
   exact fin1 J2 K2 L2
  | false =>
   rw[hq]at fin1
   simp[hw1]
   refine zam L1 (by omega) λJ2 K2 L2=>?_
   simp
   exact fin1 J2 K2 L2
 rw[if_neg h4]at h
 by_cases h5:w.op=5
 .rw[if_pos h5]at h
  simp[h5,hwo]
  refine tg [w.ty] _ _ (.inr ⟨_,rfl⟩) (by simp) h (λJ1 s1 hb1 K1 L1 hw1 fin1=>?_) (λe J1 hh=>by simp;exact hh)
  simp[hw1]
  refine zam L1 (by omega) λJ2 K2 L2=>?_
  simp
  exact fin1 J2 K2 L2
 rw[if_neg h5]at h
 by_cases h6:w.op=6
 .rw[if_pos h6]at h
  simp[h6,hwo]
  refine tg [2] _ _ (.inr ⟨_,rfl⟩) (by simp) h (λJ1 s1 hb1 K1 L1 hw1 fin1=>?_) (λe J1 hh=>by simp;exact hh)
  simp[hw1]
  refine zam L1 (by omega) λJ2 K2 L2=>?_
  simp
  exact fin1 J2 K2 L2
 rw[if_neg h6]at h
 by_cases h7:w.op=7
 .rw[if_pos h7]at h
  simp[h7,hwo]
  refine tg [1] _ _ (.inr ⟨_,rfl⟩) (by simp) h (λJ1 s1 hb1 K1 L1 hw1 fin1=>?_) (λe J1 hh=>by simp;exact hh)
  simp[hw1]
  refine zam L1 (by omega) λJ2 K2 L2=>?_
  simp
  exact fin1 J2 K2 L2
 rw[if_neg h7]at h
 by_cases h8:w.op=8
 .rw[if_pos h8]at h
  simp[h8,hwo]
  refine tg [1] _ _ (.inr ⟨_,rfl⟩) (by simp) h (λJ1 s1 hb1 K1 L1 hw1 fin1=>?_) (λe J1 hh=>by simp;exact hh)
  simp[hw1]
  refine zam L1 (by omega) λJ2 K2 L2=>?_
  simp
  exact fin1 J2 K2 L2
 rw[if_neg h8]at h
 by_cases h9:w.op=9
 .rw[if_pos h9]at h
  simp[h9,hwo]
  refine zba (ts:=[1,w.ty]) (.inr ⟨_,rfl⟩) (by simp) La (by omega) ?_
  have e:[1,w.ty].reverse=[w.ty,1]:=rfl
  rw[e]
  revert h
  cases zW [w.ty,1] s with
  | ok s'=>intro h J' K L;simp;exact h J' (Ka.trans K) L
  | error e=>intro h J' K;simp;exact h J' (Ka.trans K)
 rw[if_neg h9]at h
 by_cases h10:w.op=10
 .rw[if_pos h10]at h
  have hh:(zaY m.funcs w.n).isSome=true:=by simpa [zH,h1,h2,h3,h10]using hr
  obtain⟨⟨ts,g⟩,hq⟩:=yay.1 hh
  rw[hq]at h
  simp only at h
  have htl:ts.length<=2^46:=by
   unfold zaY at hq
   split at hq
   .cases hq;simp
   .split at hq
    .cases hq;simp
    .split at hq
     .cases hq;simp
     .split at hq
      .cases hq
      .obtain⟨fn,hfn,e⟩:=ybC.1 hq
       cases e
       exact hps _ (ycW hfn)
  have hcw:c≠Ja.no:=by omega
  have hxw':x≠Ja.no:=by omega
  simp[h10,hwo,ho,hco]
  constructor
  .refine zcv (m:=m) ⟨_,rfl,hfs⟩ hn λv J1 hv A1=>?_
   rw[hq]at hv
   obtain⟨y,rfl,hy⟩:=hv
   have y1:=hy.one
   simp[splice,y1]
   have A2:ze Ja ((J1.newO [.nilsl,.int .i64 0]).setO J1.no [y,.int .i64 g]):=A1.newO.setO A1.no
   have Lb:=La.adds A2
   refine tgB (Ka.trans (A2.keepL hx)) Lb J1.no [y,.int .i64 g] ts y g (by simp) (by simp) (by have:=A1.no;omega) hy htl h (λJ3 s1 hb1 K1 L1 hw1 fin1=>?_) (λe J1 hh=>by simp;exact hh)
   simp[hw1]
   refine zam L1 (by omega) λJ2 K2 L2=>?_
   simp
   exact fin1 J2 K2 L2
  .have hx2:x≠J.no:=λq=>hxw q.symm
   simp[ho,hco,hcw,hxw',hwo,show J.no≠Ja.no from by omega]
   refine zcv (m:=m) ⟨_,rfl,hfs⟩ hn λv J1 hv A1=>?_
   rw[hq]at hv
   obtain⟨y,rfl,hy⟩:=hv
   have y1:=hy.one
   have hnew:J1.objs Ja.no=some [.nilsl,.int .i64 0]:=(A1.obj Ja.no (by simp)).trans (by simp)
   simp[splice,y1,hnew]
   have hle:Ja.no+1<=J1.no:=by have:=A1.no;simpa using this
   have A2:ze Ja (J1.setO Ja.no [y,.int .i64 g]):=(((ze.refl Ja).newO).trans A1).setO (yah _)
   have Lb:=La.adds A2
   refine tgB (Ka.trans (A2.keepL hx)) Lb Ja.no [y,.int .i64 g] ts y g (by simp) (by simp;omega) (λq=>hxw' q.symm) hy htl h (λJ3 s1 hb1 K1 L1 hw1 fin1=>?_) (λe J1 hh=>by simp;exact hh)
   simp[hw1]
   refine zam L1 (by omega) λJ2 K2 L2=>?_
   simp
   exact fin1 J2 K2 L2
 rw[if_neg h10]at h
 by_cases h18:w.op=18
 .rw[if_pos h18]at h
  simp[h18,hwo]
  refine zf6 La (by omega) ?_
  revert h
  cases zdt s with
  | ok s'=>intro h J' K L;simp;exact h J' (Ka.trans K) L
  | error e=>intro h J' K;simp;exact h J' (Ka.trans K)
 rw[if_neg h18]at h
 simp[h1,h2,h3,h4,h5,h6,h7,h8,h9,h10,h18,hwo]
 exact h Ja Ka La
end
def zEh(R:Out->AS->Prop)(J:AS):Res Unit->Prop
 | .ok _=>∀J',ze J J'->R (.ret (.tuple [])) J'
 | .error e=>∀J',ze J J'->R (.panic (ziV e)) J'
def zv1(G:Env)(m:M)(f:F)(ls:List Int)(B:Int)(lk:zkx):Prop:=∀(c:Nat) (J:AS) (at_ deep:Int) (R:Out->AS->Prop),zor J c m f ls->0<=at_->at_<B->0<=deep->deep+at_<=2^45->zEh R J (lk at_ deep)->zzQ G 109 [.ptr c 0,.int .i64 at_,.int .i64 deep] J R
section
variable {G : Env} {J : AS} {R : Out -> AS -> Prop} {x c : Nat} {s : St} {deep : Int} {m : M} {f : F} {ls : List Int} {w : W} {lk : zkx} {B : Int}
theorem zkC(V:zkB G)(IH:zv1 G m f ls B lk)(L:LS J x c s deep)(C:zor J c m f ls)(hcx:c≠x)(hb:s.stack.length<=2^43)(hd0:0<=deep)(hd1:deep<=2^45)(hn:w.n<=2^63-1)(hps:∀g∈m.funcs,g.params.length<=2^46)
  (hnm:∀n∈zj w,0<=n/\n<B/\deep+1+n<=2^45) (h:zsi R x c deep J (zJ m.funcs ls f.type deep lk w s)):zzQ G 161 [.ptr x 0,w.av] J R:=by
 refine ztx rfl ?_
 have A:ze J (J.newO w.cs):=(ze.refl J).newO
 have La:=L.adds A
 have Ca:=C.adds A
 have Ka:=A.keepL L.1
 have hwo:(J.newO w.cs).objs J.no=some [.int .i64 w.op,.int .i64 w.ty,.int .i64 w.n,.int .i64 w.body,.int .i64 w.other,.str w.name]:=by simp[W.cs]
 have hwl:J.no<(J.newO w.cs).no:=by simp
 have hxw:J.no≠x:=by have:=L.1;omega
 have hcs:w.cs=[.int .i64 w.op,.int .i64 w.ty,.int .i64 w.n,.int .i64 w.body,.int .i64 w.other,.str w.name]:=rfl
 simp[zBZ,W.av,hcs]
 rw[show J.newO [ycS yam w.op,ycS yam w.ty,ycS yam w.n,ycS yam w.body,ycS yam w.other,ycR w.name]=J.newO w.cs from rfl]
 rw[show ycX [ycS yam w.op,ycS yam w.ty,ycS yam w.n,ycS yam w.body,ycS yam w.other,ycR w.name]=w.av from rfl]
 generalize J.newO w.cs=Ja at *
 unfold zJ at h
 refine zpm V λJ1 A1=>?_
 cases hf:zQ w with
 | false =>
  rw[if_pos hf]at h
  simp
  refine zb (λq=>by simp at q) λ_=>?_
  simp
  exact h _ (Ka.trans (A1.keepL La.1))
 | true =>
 rw[if_neg (by rw[hf];simp)]at h
 have hw1:=(A1.obj J.no hwl).trans hwo
 simp
 refine zb (λ_=>?_) (λq=>by simp at q)
 simp[hw1]
 rw[show ycX [ycS yam w.op,ycS yam w.ty,ycS yam w.n,ycS yam w.body,ycS yam w.other,ycR w.name]=w.av from rfl]
 refine ziX (La.adds A1) (Ca.adds A1) hn λJ2 A2=>?_
 have A12:=A1.trans A2
 cases hr:zH m.funcs ls deep w with
 | false =>
  rw[if_pos hr]at h
  simp
  refine zb (λq=>by simp at q) λ_=>?_
  simp
  exact h _ (Ka.trans (A12.keepL La.1))
 | true =>
 rw[if_neg (by rw[hr];simp)]at h
 have hw2:=(A2.obj J.no (yag hwl A1.no)).trans hw1
 have L2:=La.adds A12
 have C2:=Ca.adds A12
 have K2:=Ka.trans (A12.keepL La.1)
 have hwl2:J.no<J2.no:=yag hwl A12.no
 simp
 refine zb (λ_=>?_) (λq=>by simp at q)
 simp[hw2]
 clear A1 A2 hw1 hwo A12 Ka La Ca
 have keepW:∀{J3},zaW x J2 J3->J3.objs J.no=some [.int .i64 w.op,.int .i64 w.ty,.int .i64 w.n,.int .i64 w.body,.int .i64 w.other,.str w.name]:=λK=>(K.obj J.no hwl2 hxw).trans hw2
 have L2':=L2
 have C2':=C2
 obtain⟨hc2,fsv,pv,lv,tv,lsv,hco,_⟩:=C2'
 obtain⟨hx2,sv,ho,_⟩:=L2'
 have hwd:yb5 .i64 (deep+1)=deep+1:=by rw[wrap_i64]<;>omega
 by_cases h11:w.op=11\/w.op=12
 .rw[if_pos h11]at h
  have hnn:zj w=[w.body]:=by unfold zj;rw[if_pos (by omega)]
  rw[hnn]at hnm
  have hb0:=hnm w.body (by simp)
  have go:zEh (zvJ (λv J'=>R (.ret (.tuple [])) J') λv J'=>R (.panic v) J') J2 (lk w.body (deep+1)):=by
   cases hq:lk w.body (deep+1)with
   | ok u=>rw[hq]at h;intro J3 A3;simp;exact h J3 (K2.trans (A3.keepL hx2)) (L2.adds A3)
   | error e=>rw[hq]at h;intro J3 A3;simp;exact h J3 (K2.trans (A3.keepL hx2))
  rcases h11 with h11|h11
  .simp[h11,hw2,ho,hco,hwd]
   refine IH c J2 w.body (deep+1) _ C2 hb0.1 hb0.2.1 (by omega) hb0.2.2 ?_
   revert go
   cases lk w.body (deep+1)with
   | ok u=>intro go J3 A3;have:=go J3 A3;simpa using this
   | error e=>intro go J3 A3;have:=go J3 A3;simpa using this
  .simp[h11,hw2,ho,hco,hwd]
   refine IH c J2 w.body (deep+1) _ C2 hb0.1 hb0.2.1 (by omega) hb0.2.2 ?_
   revert go
   cases lk w.body (deep+1)with
   | ok u=>intro go J3 A3;have:=go J3 A3;simpa using this
   | error e=>intro go J3 A3;have:=go J3 A3;simpa using this
 rw[if_neg h11]at h
 have h11a:¬w.op=11:=λq=>h11 (.inl q)
 have h11b:¬w.op=12:=λq=>h11 (.inr q)
 by_cases h13:w.op=13
 .rw[if_pos h13]at h
  simp[h13,hw2]
  refine zba (ts:=[1]) (.inr ⟨_,rfl⟩) (by simp) L2 (by omega) ?_
  rw[show [(1:Int)].reverse=[1] from rfl]
  cases ht:zW [1] s with
  | error e =>
   rw[ht]at h
   intro J3 K3
   simp
   exact h J3 (K2.trans K3)
  | ok s1 =>
   rw[ht]at h
   simp only at h
   intro J3 K3 L3
   have C3:=C2.keep K3 hcx
   have hw3:=keepW K3
   have hwl3:J.no<J3.no:=yag hwl2 K3.no
   have C3':=C3
   have L3':=L3
   obtain⟨hc3,fsv3,pv3,lv3,tv3,lsv3,hco3,_⟩:=C3'
   obtain⟨hx3,sv3,ho3,_⟩:=L3'
   have hb0:0<=w.body/\w.body<B/\deep+1+w.body<=2^45:=hnm w.body (by
    unfold zj
    by_cases ho:w.other<0
    .rw[if_pos (by omega)];simp
    .rw[if_neg (by omega),if_pos h13];simp)
   simp[hw3,ho3,hco3,hwd]
   refine IH c J3 w.body (deep+1) _ C3 hb0.1 hb0.2.1 (by omega) hb0.2.2 ?_
   cases hq:lk w.body (deep+1)with
   | error e =>
    rw[hq]at h
    intro J4 A4
    simp
    exact h J4 (K2.trans (K3.trans (A4.keepL hx3)))
   | ok u =>
    rw[hq]at h
    simp only at h
    intro J4 A4
    have hw4:=(A4.obj J.no hwl3).trans hw3
    have ho4:=(A4.obj x hx3).trans ho3
    have hco4:=(A4.obj c hc3).trans hco3
    have L4:=L3.adds A4
    have C4:=C3.adds A4
    by_cases ho:0<=w.other
    .rw[if_pos ho]at h
     have hb1:0<=w.other/\w.other<B/\deep+1+w.other<=2^45:=hnm w.other (by unfold zj;rw[if_neg (by omega),if_pos h13];simp)
     simp[hw4,ho,ho4,hco4,hwd]
     refine IH c J4 w.other (deep+1) _ C4 hb1.1 hb1.2.1 (by omega) hb1.2.2 ?_
     cases hq2:lk w.other (deep+1)with
     | error e =>
      rw[hq2]at h
      intro J5 A5
      simp
      exact h J5 (K2.trans (K3.trans ((A4.trans A5).keepL hx3)))
     | ok u =>
      rw[hq2]at h
      intro J5 A5
      simp
      exact h J5 (K2.trans (K3.trans ((A4.trans A5).keepL hx3))) (L4.adds A5)
    .rw[if_neg ho]at h
     simp[hw4,ho]
     exact h J4 (K2.trans (K3.trans (A4.keepL hx3))) L4
 rw[if_neg h13]at h
 by_cases h15:w.op=15
 .rw[if_pos h15]at h
  simp[h15,hw2]
  refine zba (ts:=[1]) (.inr ⟨_,rfl⟩) (by simp) L2 (by omega) ?_
  rw[show [(1:Int)].reverse=[1] from rfl]
  cases ht:zW [1] s with
  | error e =>
   rw[ht]at h
   intro J3 K3
   simp
   exact h J3 (K2.trans K3)
  | ok s1 =>
   rw[ht]at h
   simp only at h
   intro J3 K3 L3
   have hs1:=zca ht
   have C3:=C2.keep K3 hcx
   have hw3:=keepW K3
   have L3':=L3
   obtain⟨hx3,sv3,ho3,_⟩:=L3'
   by_cases hq:w.n=deep
   .rw[if_pos hq]at h
    simp[hw3,ho3,hq]
    refine zdb L3 C3 (by omega) ?_
    cases hq2:zw f.type s1 with
    | error e =>
     rw[hq2]at h
     intro J4 K4
     simp
     exact h J4 (K2.trans (K3.trans K4))
    | ok s2 =>
     rw[hq2]at h
     intro J4 K4 L4
     have hs2:s2.stack.length<=s1.stack.length:=by
      unfold zw at hq2
      split at hq2
      .cases hq2;exact yah _
      .exact zca hq2
     have C4:=C3.keep K4 hcx
     have C4':=C4
     have L4':=L4
     obtain⟨hc4,fsv4,pv4,lv4,tv4,lsv4,hco4,_⟩:=C4'
     obtain⟨hx4,sv4,ho4,_⟩:=L4'
     simp[ho4,hco4]
     refine zam L4 (by omega) λJ5 K5 L5=>?_
     simp
     exact h J5 (K2.trans (K3.trans (K4.trans K5))) L5
   .rw[if_neg hq]at h
    simp[hw3,ho3,hq]
    exact h J3 (K2.trans K3) L3
 rw[if_neg h15]at h
 have ret:∀{R':Out->AS->Prop},zsi R' x c deep J2 (zw f.type s)->zzQ G 162 [.ptr x 0] J2 R':=λhh=>zdb L2 C2 (by omega) hh
 by_cases h14:w.op=14
 .rw[if_pos h14]at h
  by_cases hq:w.n=deep
  .rw[if_pos hq]at h
   simp[h14,hw2,ho,hq]
   refine ret ?_
   cases hq2:zw f.type s with
   | error e =>
    rw[hq2]at h
    intro J4 K4
    simp
    exact h J4 (K2.trans K4)
   | ok s2 =>
    rw[hq2]at h
    intro J4 K4 L4
    simp
    refine zb9 L4 λJ5 K5 L5=>?_
    simp
    exact h J5 (K2.trans (K4.trans K5)) L5
  .rw[if_neg hq]at h
   simp[h14,hw2,ho,hq]
   refine zb9 L2 λJ5 K5 L5=>?_
   simp
   exact h J5 (K2.trans K5) L5
 rw[if_neg h14]at h
 by_cases h16:w.op=16
 .rw[if_pos h16]at h
  simp[h16,hw2]
  refine ret ?_
  cases hq2:zw f.type s with
  | error e =>
   rw[hq2]at h
   intro J4 K4
   simp
   exact h J4 (K2.trans K4)
  | ok s2 =>
   rw[hq2]at h
   intro J4 K4 L4
   simp
   refine zb9 L4 λJ5 K5 L5=>?_
   simp
   exact h J5 (K2.trans (K4.trans K5)) L5
 rw[if_neg h16]at h
 by_cases h17:w.op=17
 .rw[if_pos h17]at h
  simp[h17,hw2]
  refine zb9 L2 λJ5 K5 L5=>?_
  simp
  exact h J5 (K2.trans K5) L5
 rw[if_neg h17]at h
 simp[h11a,h11b,h13,h15,h14,h16,h17,hw2]
 rw[show ycX [ycS yam w.op,ycS yam w.ty,ycS yam w.n,ycS yam w.body,ycS yam w.other,ycR w.name]=w.av from rfl]
 refine znk V L2 C2 hcx (by omega) hn hps hf hr ?_
 revert h
 cases zbO m.funcs ls w s with
 | ok s'=>intro h J3 K3 L3;simp;exact h J3 (K2.trans K3) L3
 | error e=>intro h J3 K3;simp;exact h J3 (K2.trans K3)
end
theorem zkD(s:St)(t:Int):(zc9 s t).stack.length<=s.stack.length+1:=by unfold zc9;split<;>simp
theorem zut{ts:List Int}{s s':St}{t:Int}(h:zf2 (zW ts s) t=.ok s'):s'.stack.length<=s.stack.length+1:=by
 obtain⟨s1,e,rfl⟩:∃s1,zW ts s=.ok s1/\s'=zc9 s1 t:=by
  cases hq:zW ts s with
  | error e=>rw[hq]at h;cases h
  | ok s1=>rw[hq]at h;cases h;exact⟨s1,rfl,rfl⟩
 have:=zca e
 have:=zkD s1 t
 omega
theorem zqV{fs:List F}{ls:List Int}{w:W}{s s':St}(h:zbO fs ls w s=.ok s'):s'.stack.length<=s.stack.length+1:=by
 unfold zbO at h
 repeat' split at h
 all_goals first
  | (cases h;first|exact zkD _ _|omega)
  | exact zut h
  | (have:=zca h;omega)
  | (have:=zhc h;omega)
theorem znl{ty:Int}{s s':St}(h:zw ty s=.ok s'):s'.stack.length<=s.stack.length:=by
 unfold zw at h
 split at h
 .cases h;exact yah _
 .exact zca h
theorem zqW{fs:List F}{ls:List Int}{ty deep:Int}{lk:zkx}{w:W}{s s':St}(h:zJ fs ls ty deep lk w s=.ok s'):s'.stack.length<=s.stack.length+1:=by
 unfold zJ at h
 by_cases h1:zQ w=false
 .rw[if_pos h1]at h;cases h
 rw[if_neg h1]at h
 by_cases h2:zH fs ls deep w=false
 .rw[if_pos h2]at h;cases h
 rw[if_neg h2]at h
 by_cases h3:w.op=11\/w.op=12
 .rw[if_pos h3]at h
  split at h
  .cases h;omega
  .cases h
 rw[if_neg h3]at h
 by_cases h4:w.op=13
 .rw[if_pos h4]at h
  split at h
  .cases h
  .rename_i s1 hs1
   have:=zca hs1
   split at h
   .cases h
   .split at h
    .split at h
     .cases h
     .cases h;omega
    .cases h;omega
 rw[if_neg h4]at h
 by_cases h5:w.op=15
 .rw[if_pos h5]at h
  split at h
  .cases h
  .rename_i s1 hs1
   have:=zca hs1
   split at h
   .cases hq:zw ty s1 with
    | error e=>rw[hq]at h;cases h
    | ok s2 =>
     rw[hq]at h
     cases h
     have:=znl hq
     have:=zkD s2 ty
     omega
   .cases h;omega
 rw[if_neg h5]at h
 have hl:zna.stack.length=0:=rfl
 by_cases h6:w.op=14
 .rw[if_pos h6]at h
  split at h
  .split at h
   .cases h
   .cases h;omega
  .cases h;omega
 rw[if_neg h6]at h
 by_cases h7:w.op=16
 .rw[if_pos h7]at h
  split at h
  .cases h
  .cases h;omega
 rw[if_neg h7]at h
 by_cases h8:w.op=17
 .rw[if_pos h8]at h;cases h;omega
 rw[if_neg h8]at h
 exact zqV h
structure zpn(m:M):Prop where
 funcs:m.funcs.length<=2^20
 params:∀f∈m.funcs,f.params.length<=2^44-512
 locals:∀f∈m.funcs,f.locals.length<=2^44-512
 lists:∀f∈m.funcs,f.lists.length<=2^43
 rows:∀f∈m.funcs,∀l∈f.lists,l.length<=2^42
 nums:∀f∈m.funcs,∀l∈f.lists,∀w∈l,w.n<=2^63-1
theorem zaW.made{x:Nat}{J J':AS}{cs:List AV}(K:zaW x (J.newO cs) J')(hx:x=J.no)(hn:∀v f,cs[1]?=some v->zcL v≠some f):ze J J' where
 no:=yai (by simp) K.no
 nf:=by have:=K.nf;simpa using this
 obj o ho:=by
  rw[K.obj o (by simp;omega) (by omega)]
  simp;omega
 fam f hf:=by
  rw[K.fam f (by simpa using hf) ?_]
  .rfl
  .rintro ⟨cs',v,h1,h2,h3⟩
   subst hx
   simp at h1
   subst h1
   exact hn v f h2 h3
def KI(x c:Nat)(deep:Int)(rv:AV)(row:List W)(J1:AS)(run:List W->St->Res St)(a:Nat->AV)(Z:AS):Prop:=∃(i:Nat) (s:St),i<=row.length/\a 2=.int .i64 deep/\a 6=.ptr x 0/\a 20=rv/\a 21=.int .i64 (row.length:Int)/\a 22=.int .i64 (i:Int)/\LS Z x c s deep/\zaW x J1 Z/\s.stack.length<=i /\
 run (row.drop i) s=run row ⟨[],false⟩
theorem zqX{G:Env}(V:zkB G){m:M}(sm:zpn m){f:F}(hfm:f∈m.funcs)(ha:zlS f.lists)(ls:List Int):∀k:Nat,zv1 G m f ls (min (k:Int) (f.lists.length:Int)) (zP m.funcs ls f.type f.lists k)
 | 0=>λc J at_ deep R _ h0 h1=>by omega
 | k+1=>by
  have IH:=zqX V sm hfm ha ls k
  intro c J at_ deep R C h0 h1 hd0 hd1 h
  refine zs4 rfl ?_
  rw[zP]at h
  obtain⟨j,rfl⟩:∃j:Nat,at_=(j:Int):=⟨at_.toNat,by omega⟩
  have hj:j<f.lists.length:=by omega
  have hjk:j<k+1:=by omega
  rw[ybe]at h
  have hrow:f.lists.getD j []=f.lists[j]:=by rw[ycJ,yau hj];rfl
  rw[hrow]at h
  have hahead:=ha j _ (yau hj)
  have hrl:=sm.rows f hfm f.lists[j] (yaw hj)
  have hnums:=sm.nums f hfm f.lists[j] (yaw hj)
  have C0:=C
  obtain⟨hc,fsv,pv,lv,tv,lsv,hco,hfs,hpv,hlv,htv,hls⟩:=C
  rcases htv with ⟨e,_⟩|⟨b,rows,rfl,hrows⟩
  .rw[e]at hj;simp at hj
  obtain⟨rv,hrv,hrep⟩:=hrows.get (yau hj)
  generalize f.lists[j]=row at *
  have hlen:=hrep.len
  have hcx:c≠J.no:=by omega
  simp[zBF,hco,hcx,hrv,hlen,splice]
  refine⟨hrep.one.2.2,?_⟩
  generalize hJ1:J.newO [ycV c 0,ycY,AV.bool false,ycS yam deep]=J1
  have hno1:J1.no=J.no+1:=by rw[<-hJ1];simp
  have ho1:J1.objs J.no=some [.ptr c 0,.nilsl,.bool false,.int .i64 deep]:=by rw[<-hJ1];simp
  have L1:LS J1 J.no c ⟨[],false⟩ deep:=⟨by omega,_,ho1,.inl ⟨rfl,rfl⟩⟩
  have A1:ze J J1:=by rw[<-hJ1];exact(ze.refl J).newO
  have C1:=C0.adds A1
  have made:∀{J'},zaW J.no J1 J'->ze J J':=λK=>by
   rw[<-hJ1]at K
   exact K.made rfl λv f hv hf=>by simp at hv;subst hv;simp[zcL]at hf
  refine zS (KI J.no c deep rv row J1 (zD m.funcs ls f.type deep (zP m.funcs ls f.type f.lists k))) (MU 22 (row.length+1)) ⟨0,⟨[],false⟩,by omega,by simp,by simp,by simp,by simp,by simp,L1,.refl _ _,by simp,by simp⟩ λa Z hI=>?_
  obtain⟨i,s,hi,a2,a6,a20,a21,a22,L,K,hsl,hrun⟩:=hI
  have C2:=C1.keep K hcx
  by_cases hlt:i<row.length
  .obtain⟨b2,hix2⟩:=hrep.at hlt
   have hlt':(i:Int)<(row.length:Int):=by omega
   rw[ycU hlt,zD]at hrun
   simp[zej,a6,a20,a21,a22,hlt,hix2,W.av,W.cs,splice]
   have hw3:yb5 .i64 ((i:Int)+1)=((i+1:Nat):Int):=by rw[wrap_i64]<;>omega
   have hmem:=yaw hlt
   have A3:ze Z ((Z.newO [ycS yam 0,ycS yam 0,ycS yam 0,ycS yam 0,ycS yam 0,ycR []]).setO Z.no row[i].cs):=((ze.refl Z).newO).setO (yah _)
   refine zkC (w:=row[i]) V IH (L.adds A3) (C2.adds A3) hcx (by omega) hd0 (by omega) (hnums _ hmem) (λg hg=>by have:=sm.params g hg;omega) (λn hn=>?_) ?_
   .have:=hahead n (ycZ.2 ⟨_,hmem,hn⟩)
    exact⟨this.1,by omega,by omega⟩
   .have KA:=K.trans (A3.keepL L.1)
    cases hq:zJ m.funcs ls f.type deep (zP m.funcs ls f.type f.lists k) row[i] s with
    | error e =>
     rw[hq]at hrun
     simp only at hrun
     rw[<-hrun]at h
     intro J' K'
     simp
     exact h J' (made (KA.trans K'))
    | ok s' =>
     rw[hq]at hrun
     simp only at hrun
     have hle:=zqW hq
     intro J' K' L'
     simp[a22,hw3]
     refine⟨⟨i+1,s',by omega,by simp[a2],by simp[a6],by simp[a20],by simp[a21],by simp,L',KA.trans K',by omega,hrun⟩,?_⟩
     simp only[MU,a22]
     simp;omega
  .have he:i=row.length:=by omega
   subst he
   simp[zD]at hrun
   rw[<-hrun]at h
   simp only at h
   have L':=L
   obtain⟨hx,sv,ho,hs⟩:=L'
   unfold zCr at h
   by_cases hdz:deep=0
   .rw[if_pos hdz]at h
    simp[zej,zg0,a2,a6,a21,a22,hdz]
    refine zdb (by rw[hdz]at L;exact L) C2 (by omega) ?_
    cases hq:zw f.type s with
    | error e =>
     rw[hq]at h
     intro J' K'
     simp
     exact h J' (made (K.trans K'))
    | ok s3 =>
     rw[hq]at h
     intro J' K' L3
     obtain⟨hx3,sv3,ho3,hs3⟩:=L3
     have hsl3:=hs3.len
     by_cases hz:s3.stack.length=0
     .simp only[if_pos hz]at h
      have hz':s3.stack=[]:=ybT.1 hz
      simp[a6,ho3,hsl3,hz']
      refine zb (λ_=>?_) (λq=>by simp at q)
      simp
      exact h J' (made (K.trans K'))
     .simp only[if_neg hz]at h
      have hz':¬s3.stack=[]:=λq=>hz (by rw[q];rfl)
      simp[a6,ho3,hsl3,hz']
      refine zb (λq=>by simp at q) (λ_=>?_)
      simp
      exact h J' (made (K.trans K'))
   .rw[if_neg hdz]at h
    have hsl3:=hs.len
    by_cases hz:s.stack.length=0
    .simp only[if_pos hz]at h
     have hz':s.stack=[]:=ybT.1 hz
     simp[zej,zg0,a2,a6,a21,a22,hdz,ho,hsl3,hz']
     refine zb (λ_=>?_) (λq=>by simp at q)
     simp
     exact h Z (made K)
    .simp only[if_neg hz]at h
     have hz':¬s.stack=[]:=λq=>hz (by rw[q];rfl)
     simp[zej,zg0,a2,a6,a21,a22,hdz,ho,hsl3,hz']
     refine zb (λq=>by simp at q) (λ_=>?_)
     simp
     exact h Z (made K)
end Go.Proofs.YtohfclafhegadaaGreatDoor
namespace Go.Proofs.YtohfclafhegadaaGreatDoor
open Go Go.Abs Go.Shelf Go.RowKit
theorem znm{G:Env}{J:AS}{R:Out->AS->Prop}{w:W}(h:∀v J',zaf v (zj w)->ze J J'->R (.ret v) J'):zzQ G 159 [w.av] J R:=by
 refine ztv rfl ?_
 have A:ze J (J.newO w.cs):=(ze.refl J).newO
 simp only[W.cs]at A
 unfold zj at h
 by_cases h1:w.op=11
 .rw[if_pos (.inl h1)]at h
  simp[zpc,W.av,W.cs,h1]
  exact h _ _ (.inr ⟨_,rfl⟩) (by simpa [h1]using A)
 by_cases h2:w.op=12
 .rw[if_pos (.inr (.inl h2))]at h
  simp[zpc,W.av,W.cs,h2]
  exact h _ _ (.inr ⟨_,rfl⟩) (by simpa [h2]using A)
 by_cases h3:w.op=13
 .by_cases ho:w.other<0
  .rw[if_pos (.inr (.inr ⟨h3,ho⟩))]at h
   simp[zpc,W.av,W.cs,h3,ho]
   exact h _ _ (.inr ⟨_,rfl⟩) (by simpa [h3]using A)
  .rw[if_neg (by omega),if_pos h3]at h
   simp[zpc,W.av,W.cs,h3,ho]
   exact h _ _ (.inr ⟨_,rfl⟩) (by simpa [h3]using A)
 .rw[if_neg (by omega),if_neg h3]at h
  simp[zpc,W.av,W.cs,h1,h2,h3]
  exact h _ _ (.inl ⟨rfl,rfl⟩) A
@[simp] theorem zCv(x y:Bool):aeq yca 4 (.bool x) (.bool y)=some (x==y):=by simp[aeq,zjT,show yca.underlying 4=some .bool from by kernel_rfl]
@[simp] theorem zAr:za yca 106=true:=by kernel_rfl
def zaS(l:List Bool):List AV:=l.map AV.bool
def CI(J:AS)(o len:Nat)(named:List Bool)(a:Nat->AV)(Z:AS):Prop:=∃i:Nat,i<=len/\a 0=.slm o 0 1 len/\a 1=.bool false/\a 7=.int .i64 (len:Int)/\a 8=.int .i64 (i:Int)/\Z=J/\∀j,j<i->named[j]?=some true
theorem ziZ{G:Env}{J:AS}{R:Out->AS->Prop}{o len:Nat}{named:List Bool}(ho:J.objs o=some (zaS named))(hl:len<=named.length)(hb:len<=2^46)(h:R (.ret (.bool (!(named.take len).all (·==true)))) J):zzQ G 160 [.slm o 0 1 len,.bool false] J R:=by
 refine ztw rfl ?_
 simp[zBY]
 refine ztK rfl ?_
 simp[zB5]
 refine zS (CI J o len named) (MU 8 (len+1)) ⟨0,by omega,by simp,by simp,by simp,by simp,rfl,λj hj=>by omega⟩ λa Z hI=>?_
 obtain⟨i,hi,a0,a1,a7,a8,rfl,hall⟩:=hI
 have hw3:yb5 .i64 ((i:Int)+1)=((i+1:Nat):Int):=by rw[wrap_i64]<;>omega
 by_cases hlt:i<len
 .have hlt':(i:Int)<(len:Int):=by omega
  have hin:i<named.length:=by omega
  have hget:(zaS named)[i]?=some (.bool named[i]):=by simp[zaS,hin]
  have hge:∀q:i<(zaS named).length,(zaS named)[i]'q=.bool named[i]:=λq=>by rw[yau q]at hget;exact yaR.inj hget
  have hlb:i<(zaS named).length:=by simp[zaS];exact hin
  cases hv:named[i]with
  | true =>
   rw[hv]at hget hge
   simp[zfv,a0,a1,a7,a8,hlt,ho,hlb,hge,hw3]
   refine⟨⟨i+1,by omega,by simp[a0],by simp[a1],by simp[a7],by simp,rfl,λj hj=>?_⟩,?_⟩
   .by_cases e:j=i
    .subst e;rw[yau hin,hv]
    .exact hall j (by omega)
   .simp only[MU,a8];simp;omega
  | false =>
   rw[hv]at hget hge
   have e:(!(named.take len).all (·==true))=true:=by
    rw[Bool.not_eq_true',yc0]
    exact⟨false,yc1.2 ⟨i,by rw[ybf];omega,by rw[yaE];exact hv⟩,by simp⟩
   rw[e]at h
   simp[zfv,a0,a1,a7,a8,hlt,ho,hlb,hge]
   exact h
 .have he:i=len:=by omega
  subst he
  have e:(!(named.take i).all (·==true))=false:=by
   rw[Bool.not_eq_false',yaM]
   intro b hb
   obtain⟨j,hj,rfl⟩:=yc1.1 hb
   rw[ybf]at hj
   have:=hall j (by omega)
   rw[yau (by omega)]at this
   rw[yaE]
   simp[yaR.inj this]
  rw[e]at h
  simp[zfv,zog,a7,a8]
  exact h
def FI(J:AS)(v:AV)(ls:List Int)(a:Nat->AV)(Z:AS):Prop:=∃i:Nat,i<=ls.length/\a 0=v/\a 1=.fn (.func 106) [] []/\a 7=.int .i64 (ls.length:Int)/\a 8=.int .i64 (i:Int)/\Z=J/\∀j,j<i->∃t,ls[j]?=some t/\zT t=true
theorem zfB{G:Env}{J:AS}{R:Out->AS->Prop}{v:AV}{ls:List Int}(hv:zaf v ls)(hb:ls.length<=2^46)(h:R (.ret (.bool (!ls.all zT))) J):zzQ G 95 [v,.fn (.func 106) [] []] J R:=by
 refine zxv rfl ?_
 simp[zGa]
 refine zts rfl ?_
 simp[zBV,hv.len]
 refine zS (FI J v ls) (MU 8 (ls.length+1)) ⟨0,by omega,by simp,by simp,by simp,by simp,rfl,λj hj=>by omega⟩ λa Z hI=>?_
 obtain⟨i,hi,a0,a1,a7,a8,rfl,hall⟩:=hI
 have hw3:yb5 .i64 ((i:Int)+1)=((i+1:Nat):Int):=by rw[wrap_i64]<;>omega
 by_cases hlt:i<ls.length
 .rcases hv with ⟨rfl,_⟩|⟨b,rfl⟩
  .simp at hlt
  simp[zg5,a0,a1,a7,a8,hlt]
  refine zs0 rfl ?_
  simp[zBE]
  refine zbJ ?_
  cases hn:zT ls[i]with
  | true =>
   simp[a8,hw3]
   refine⟨⟨i+1,by omega,by simp[a0],by simp[a1],by simp[a7],by simp,rfl,λj hj=>?_⟩,?_⟩
   .by_cases e:j=i
    .subst e;exact⟨_,yau hlt,hn⟩
    .exact hall j (by omega)
   .simp only[MU,a8];simp;omega
  | false =>
   have e:(!ls.all zT)=true:=by
    rw[Bool.not_eq_true',yc0]
    exact⟨_,yaw hlt,by simp[hn]⟩
   rw[e]at h
   simp[a8]
   exact h
 .have he:i=ls.length:=by omega
  subst he
  have e:(!ls.all zT)=false:=by
   rw[Bool.not_eq_false',yaM]
   intro t ht
   obtain⟨j,hj,rfl⟩:=yc1.1 ht
   obtain⟨t,h1,h2⟩:=hall j hj
   rw[yau hj]at h1
   cases h1
   exact h2
  rw[e]at h
  simp[zg5,zob,a7,a8]
  exact h
theorem zuu:Tryz.t3.bytes=8:=by kernel_rfl
set_option maxHeartbeats 1000000 in
theorem zxO(n:Nat)(h0:0<n)(hn:n<=2^45)(w:World):
  Calls yca 158 #[.slice none 0 0,.int .i64 (n:Int)] w λe w'=>∃(cap:Nat) (c:Array Value),n<=cap/\e=.returned (.slice (some ⟨w.heap.size,0,none⟩) 0 cap)/\w'.heap=w.heap.push (.cells c 3)/\c.size=cap/\zaF w w':=by
 have e8:=zuu
 have en:Builtin.nextslicecap n 0=n:=by
  unfold Builtin.nextslicecap
  rw[if_pos (by omega)]
 go_enter Tryz.func158,Tryz.ntmps158
 go_wp2
 all_goals first
  | (exfalso;simp only[e8,en]at *;omega)
  | skip
 go_ret
 have hle:n<=(Question.appendCap n 0 3).cut (w.tape w.drawn (Question.appendCap n 0 3)):=Nat.le_add_right _ _
 refine⟨_,hle,rfl,_,rfl,?_,rfl,rfl,rfl⟩
 simp[Builtin.zeroCells]
 omega
theorem zuv{G:Env}{J:AS}{R:Out->AS->Prop}{n:Nat}(h0:0<n)(hn:n<=2^45)(h:R (.ret (.rm n (.sl (.fam J.nf false) 1 []))) J.newF):zzQ G 158 [.nilsl,.int .i64 (n:Int)] J R:=by
 intro M w cargs S g hc
 obtain⟨hs,hv⟩:=hc
 obtain⟨c0,q0,v0⟩:=hv 0 _ rfl
 obtain⟨c1,q1,v1⟩:=hv 1 _ rfl
 have e:cargs=#[.slice none 0 0,.int .i64 (n:Int)]:=by
  rw[zaH v0]at q0
  rw[v1.int_inv]at q1
  refine Array.ext (by simpa using hs) λi h1 h2=>?_
  rcases i with _|_|i
  .simpa using (yaU.1 q0).2
  .simpa using (yaU.1 q1).2
  .simp at h2;omega
 subst e
 refine(zxO n h0 hn w).mono λe w' ⟨cap,c,hle,he,hh,hcs,hio⟩=>?_
 subst he
 have hF:∀k,k<M.nf->J.newF.F k=J.F k\/J.newF.F k=.dead:=λk hk=>.inl (by simp[AS.newF,upd];have:=S.nf;omega)
 refine⟨_,_,M.newFam w.heap.size,h,?_,za5 S _ hh hio hF,zaL S.role _ hh hio hF⟩
 simp only[zbx]
 refine .rm _ _ _ _ _ (.sl _ 1 [] w.heap.size 0 cap (λ_=>undef) (by simp) (by simp[Own.full]) (by simp) ?_ (λ_ j hj=>by simp[zy]at hj) (λ_ j hj=>by simp[zy]at hj)) hle
 refine⟨by simp[Mp.newFam,S.nf],λ_=>⟨by simp[Mp.newFam,upd,S.nf],λj hj=>⟨?_,?_⟩⟩⟩
 .simp[World.cell?,hh];omega
 .simp[World.frozen?,hh]
theorem zCw{P:Program}{G:Env}{f:FuncId}{args:List AV}{J:AS}{R:Out->AS->Prop}(h:ACalls P G f args J λo J'=>R o J'\/∃c v,o=.ret (.rm c v)/\R (.ret v) J'):ACalls P G f args J R:=by
 intro M w cargs S g hc
 refine(h M w cargs S g hc).mono λe w' ⟨o,J',M',hR,h2,h3,h4⟩=>?_
 rcases hR with hR|⟨c,v,rfl,hR⟩
 .exact⟨o,J',M',hR,h2,h3,h4⟩
 .refine⟨_,J',M',hR,?_,h3,h4⟩
  cases e<;>simp only[zbx]at h2 ⊢
  cases h2 with
  | rm _ _ _ _ _ h _=>exact h
theorem zlW{G:Env}{J:AS}{R:Out->AS->Prop}{pv lv:AV}{p l:List Int}(hp:zaf pv p)(hl:zaf lv l)(hb:p.length<=2^44-512/\l.length<=2^44-512)(h:∀v J',zaf v (p++l)->ze J J'->R (.ret v) J'):zzQ G 105 [.sl (.stat true) 1 [pv,lv]] J R:=by
 refine zop (zCw (zsZ rfl ?_))
 have p1:=hp.one
 have l1:=hl.one
 have hpl:=hp.len
 have hll:=hl.len
 obtain⟨hb1,hb2⟩:=hb
 have w1:yb5 .i64 (p.length:Int)=(p.length:Int):=by rw[wrap_i64]<;>omega
 have w2:yb5 .i64 ((p.length:Int)+(l.length:Int))=(p.length:Int)+(l.length:Int):=by rw[wrap_i64]<;>omega
 have w3:yb5 .i64 1=1:=rfl
 have w4:yb5 .i64 2=2:=rfl
 have n1:¬(p.length:Int)<0:=by omega
 have n2:¬(p.length:Int)+(l.length:Int)<0:=by omega
 simp[zBD]
 refine za9 3 ?_
 simp[zfq,p1,l1,hpl,hll,w1,w2,w3,w4,n1,n2,zfs,zn7]
 by_cases hz:p.length+l.length=0
 .have e1:p=[]:=ybT.1 (by omega)
  have e2:l=[]:=ybT.1 (by omega)
  subst e1 e2
  refine ztu rfl ?_
  have w5:yb5 .i64 0=0:=rfl
  simp[zBX,w5]
  have:=h .nilsl J (.inl ⟨rfl,rfl⟩) (.refl _)
  refine za9 3 ?_
  rcases hp with ⟨_,rfl⟩|⟨b,rfl⟩<;>rcases hl with ⟨_,rfl⟩|⟨b',rfl⟩<;>simp[zfr,zfs,w3,w4]<;>exact .inl this
 .have en:(p.length:Int)+(l.length:Int)=((p.length+l.length:Nat):Int):=by omega
  rw[en]
  refine zuv (by omega) (by omega) ?_
  simp
  refine za9 3 ?_
  have fin:∀J',ze J J'->∀g,J.nf<=g->J'.F g=.alive->zpi R (.ret (.sl (.fam g false) 1 ((p++l).map (.int .i64)))) J':=by
   intro J' A' g hg ha
   refine .froze g (λ_=>false) ha ?_
   have:=h (.sl (.stat false) 1 ((p++l).map (.int .i64))) (J'.frz g λ_=>false) (.inr ⟨_,rfl⟩) (A'.frz hg λ_ _=>rfl)
   simpa [Function.comp_def]using this
  have A3:ze J ((J.newF.setF J.nf FSt.dead).newF.setF (J.nf+1) FSt.dead).newF:=((((ze.refl J).newF.setF (yah _)).newF).setF (by omega)).newF
  have key:=fin _ A3 (J.nf+1+1) (by omega) (by simp)
  rcases hp with ⟨rfl,rfl⟩|⟨b,rfl⟩<;>rcases hl with ⟨rfl,rfl⟩|⟨b',rfl⟩<;>simp[zfr,zfs,w3,w4]
  .simp at hz
  .exact⟨by omega,.inr ⟨_,_,⟨rfl,rfl⟩,by simpa using key⟩⟩
  .exact⟨by omega,.inr ⟨_,_,⟨rfl,rfl⟩,by simpa using key⟩⟩
  .exact⟨by omega,by omega,.inr ⟨_,_,⟨rfl,rfl⟩,by simpa using key⟩⟩
structure NS(J1:AS)(o:Nat)(named:List Bool)(L:Nat)(Z:AS):Prop where
 obj:Z.objs o=some (zaS named)
 len:named.length=L
 no:J1.no<=Z.no
 nf:J1.nf<=Z.nf
 oth:∀p,p<J1.no->p≠o->Z.objs p=J1.objs p
 fam:∀f,f<J1.nf->Z.F f=J1.F f
theorem NS.adds{J1 o named L Z Z'}(h:NS J1 o named L Z)(ho:o<J1.no)(A:ze Z Z'):NS J1 o named L Z' where
 obj:=(A.obj o (yag ho h.no)).trans h.obj
 len:=h.len
 no:=yai h.no A.no
 nf:=yai h.nf A.nf
 oth p hp hne:=(A.obj p (yag hp h.no)).trans (h.oth p hp hne)
 fam f hf:=(A.fam f (yag hf h.nf)).trans (h.fam f hf)
theorem NS.set{J1 o named named' L Z}(h:NS J1 o named L Z)(hl:named'.length=L):NS J1 o named' L (Z.setO o (zaS named')) where
 obj:=by simp
 len:=hl
 no:=h.no
 nf:=h.nf
 oth p hp hne:=by simp[hne];exact h.oth p hp hne
 fam f hf:=h.fam f hf
def zfC{α β:Type}(r:Res α)(k:α->Res β):Res β:=match r with
 | .error e=>.error e
 | .ok a=>k a
theorem znn(a n:Int)(ns:List Int)(named:List Bool):zaJ a (n::ns) named=zfC (zdu a named n) λm=>zaJ a ns m:=by
 rw[zaJ];unfold zfC;cases zdu a named n<;>rfl
theorem zqY(a:Int)(w:W)(ws:List W)(named:List Bool):zha a (w::ws) named=zfC (zaJ a (zj w) named) λm=>zha a ws m:=by
 rw[zha];unfold zfC;cases zaJ a (zj w) named<;>rfl
theorem zpo(k:Nat)(l:List W)(ls:To)(named:List Bool):zbD k (l::ls) named=zfC (zha (k:Int) l named) λm=>zbD (k+1) ls m:=by
 rw[zbD];unfold zfC;cases zha (k:Int) l named<;>rfl
def NI3(J1:AS)(o L:Nat)(tv:AV)(ls:To)(goal:Res (List Bool))(a:Nat->AV)(Z:AS):Prop:=∃(i:Nat) (named:List Bool),i<=ls.length/\a 2=.slm o 0 1 L/\a 28=tv/\a 29=.int .i64 (ls.length:Int)/\a 30=.int .i64 (i:Int)/\NS J1 o named L Z/\zbD i (ls.drop i) named=goal
def NI2(J1:AS)(o L:Nat)(tv:AV)(ls:To)(k:Nat)(rv:AV)(row:List W)(goal:Res (List Bool))(a:Nat->AV)(Z:AS):Prop:=∃(j:Nat) (named:List Bool),j<=row.length/\a 2=.slm o 0 1 L/\a 28=tv/\a 29=.int .i64 (ls.length:Int)/\a 30=.int .i64 (k:Int)/\a 3=.int .i64 (k:Int)/\a 35=rv/\a 36=.int .i64 (row.length:Int)/\a 37=.int .i64 (j:Int)/\NS J1 o named L Z /\
 zfC (zha (k:Int) (row.drop j) named) (λn=>zbD (k+1) (ls.drop (k+1)) n)=goal
def NI1(J1:AS)(o L:Nat)(tv:AV)(ls:To)(k:Nat)(rv:AV)(row:List W)(j:Nat)(nv:AV)(ns:List Int)(goal:Res (List Bool))(a:Nat->AV)(Z:AS):Prop:=∃(q:Nat) (named:List Bool),q<=ns.length/\a 2=.slm o 0 1 L/\a 28=tv/\a 29=.int .i64 (ls.length:Int)/\a 30=.int .i64 (k:Int)/\a 3=.int .i64 (k:Int)/\a 35=rv/\a 36=.int .i64 (row.length:Int)/\a 37=.int .i64 (j:Int) /\
 a 42=nv/\a 43=.int .i64 (ns.length:Int)/\a 44=.int .i64 (q:Int)/\NS J1 o named L Z /\
 zfC (zfC (zaJ (k:Int) (ns.drop q) named) λn=>zha (k:Int) (row.drop (j+1)) n) (λn=>zbD (k+1) (ls.drop (k+1)) n)=goal
theorem zno{named:List Bool}{n:Nat}(h:n<named.length)(b:Bool):splice (zaS named) n [.bool b]=zaS (named.set n b):=by
 unfold splice zaS
 rw[List.set_eq_take_append_cons_drop,if_pos h]
 simp
theorem zlX{G:Env}(V:zkB G){J:AS}{R:Out->AS->Prop}{c:Nat}{m:M}{f:F}{ls0:List Int}(C:zor J c m f ls0)(hb:f.lists.length<=2^43)(hrows:∀l∈f.lists,l.length<=2^42)(h:zEh R J (zb2 f.lists)):zzQ G 108 [.ptr c 0] J R:=by
 refine zs3 rfl ?_
 obtain⟨hc,fsv,pv,lv,tv,lsv,hco,hfs,hpv,hlv,htv,hls⟩:=C
 have hlen:=htv.len
 unfold zb2 at h
 by_cases hz:f.lists.length=0
 .rw[if_pos hz]at h
  have hz':f.lists=[]:=ybT.1 hz
  simp[zxw,hco,hlen,hz']
  refine zb (λq=>by simp at q) (λ_=>?_)
  simp
  exact h J (.refl _)
 .rw[if_neg hz]at h
  have hz':¬f.lists=[]:=λq=>hz (by rw[q];rfl)
  have hpos:0<f.lists.length:=by omega
  simp[zxw,hco,hlen,hz',hpos]
  refine zb (λ_=>?_) (λq=>by simp at q)
  simp[hco,hlen]
  have hto:((f.lists.length:Int)).toNat=f.lists.length:=by omega
  generalize hgoal:zbD 0 f.lists (yaj f.lists.length false)=goal at h
  refine⟨1,1,.bool false,by simp,by simp,by simp,rfl,rfl,rfl,by omega,by omega,by omega,?_⟩
  have hflat:zy (yaj f.lists.length (AV.bool false))=zaS (yaj f.lists.length false):=by
   unfold zy zaS
   induction f.lists.length with
   | zero=>rfl
   | succ n ih=>rw[yc2,yc2,yaa,yaL,ih];rfl
  have hcn:c≠J.no:=by omega
  simp[hflat,hcn,hco,hlen]
  generalize hJ1:J.newO (zaS (yaj f.lists.length false))=J1
  have hno1:J1.no=J.no+1:=by rw[<-hJ1];simp
  have A1:ze J J1:=by rw[<-hJ1];exact(ze.refl J).newO
  have N1:NS J1 J.no (yaj f.lists.length false) f.lists.length J1:=⟨by rw[<-hJ1];simp,by simp,yah _,yah _,λ_ _ _=>rfl,λ_ _=>rfl⟩
  have toA:∀{named Z},NS J1 J.no named f.lists.length Z->ze J Z:=λN=>⟨by have:=N.no;omega,yai A1.nf N.nf,λo ho=>(N.oth o (by omega) (by omega)).trans (A1.obj o ho),λg hg=>(N.fam g (yag hg A1.nf)).trans (A1.fam g hg)⟩
  refine zS (NI3 J1 J.no f.lists.length tv f.lists goal) (MU 30 (f.lists.length+1)) ⟨0,_,by omega,by simp,by simp,by simp,by simp,N1,by simpa using hgoal⟩ λa Z hI=>?_
  obtain⟨i,named0,hi,a2,a28,a29,a30,N0,hg0⟩:=hI
  by_cases hlt:i<f.lists.length
  .obtain⟨b,rv,hrep,hix⟩:=htv.at hlt
   have hrl:=hrows _ (yaw hlt)
   rw[ycU hlt,zpo]at hg0
   generalize f.lists[i]=row at *
   have hrlen:=hrep.len
   have hr1:=hrep.one
   have hlt':(i:Int)<(f.lists.length:Int):=by omega
   simp[zgZ,a2,a28,a29,a30,hlt,hix,hr1,hrlen]
   refine zS (NI2 J1 J.no f.lists.length tv f.lists i rv row goal) (MU 37 (row.length+1)) ⟨0,named0,by omega,by simp[a2],by simp[a28],by simp[a29],by simp[a30],by simp,by simp,by simp,by simp,N0,by simpa using hg0⟩ λb ρ hI=>?_
   obtain⟨j,named1,hj,b2,b28,b29,b30,b3,b35,b36,b37,N2,hg1⟩:=hI
   by_cases hjl:j<row.length
   .obtain⟨q2,hix2⟩:=hrep.at hjl
    rw[ycU hjl,zqY]at hg1
    simp[zei,b35,b36,b37,hjl,hix2,W.av,W.cs,splice]
    rw[show ycX [ycS yam row[j].op,ycS yam row[j].ty,ycS yam row[j].n,ycS yam row[j].body,ycS yam row[j].other,ycR row[j].name]=row[j].av from rfl]
    refine znm λnv J3 hnv A3=>?_
    have A3':ze ρ J3:=(((ze.refl ρ).newO).setO (yah _)).trans A3
    have N3:=N2.adds (by omega) A3'
    have hnl:=hnv.len
    simp[hnl]
    refine zS (NI1 J1 J.no f.lists.length tv f.lists i rv row j nv (zj row[j]) goal) (MU 44 ((zj row[j]).length+1)) ⟨0,named1,by omega,by simp[b2],by simp[b28],by simp[b29],by simp[b30],by simp[b3],by simp[b35],by simp[b36],by simp[b37],by simp,by simp,by simp,N3,by simpa using hg1⟩ λd π hI=>?_
    obtain⟨q,named,hq,d2,d28,d29,d30,d3,d35,d36,d37,d42,d43,d44,N,hg⟩:=hI
    have ho:=N.obj
    have hnlen:=N.len
    have hbl:(zaS named).length=f.lists.length:=by simp[zaS,hnlen]
    by_cases hql:q<(zj row[j]).length
    .obtain⟨q3,hix3⟩:=hnv.at hql
     rw[ycU hql,znn]at hg
     have hw3:yb5 .i64 ((q:Int)+1)=((q+1:Nat):Int):=by
      have:(zj row[j]).length<=2:=by unfold zj;split<;>(try split)<;>simp
      rw[wrap_i64]<;>omega
     generalize hn:(zj row[j])[q]=n at *
     by_cases hok:0<=n/\n<(i:Int)
     .have hnl2:n.toNat<f.lists.length:=by omega
      have hnn:n.toNat<named.length:=by omega
      have hget:(zaS named)[n.toNat]?=some (.bool named[n.toNat]):=by simp[zaS,hnn]
      have hge:∀p:n.toNat<(zaS named).length,(zaS named)[n.toNat]'p=.bool named[n.toNat]:=λp=>by rw[yau p]at hget;exact yaR.inj hget
      have hlb:n.toNat<(zaS named).length:=by omega
      have hgd:named.getD n.toNat true=named[n.toNat]:=by rw[ycJ,yau hnn];rfl
      have hnL:n<(f.lists.length:Int):=by omega
      cases hv:named[n.toNat]with
      | true =>
       have hE:zdu (i:Int) named n=.error 11:=by unfold zdu;rw[if_neg (by rw[hgd,hv];simp)]
       rw[hE]at hg
       simp[zfC]at hg
       rw[<-hg]at h
       rw[hv]at hget hge
       simp[zbm,d2,d3,d42,d43,d44,hql,hix3,hok.1,hok.2,ho,hlb,hge,hnL]
       refine zb (λq=>by simp at q) (λ_=>?_)
       simp
       exact h _ (toA N)
      | false =>
       have hE:zdu (i:Int) named n=.ok (named.set n.toNat true):=by unfold zdu;rw[if_pos ⟨hok.1,hok.2,by rw[hgd,hv]⟩]
       rw[hE]at hg
       simp only[zfC]at hg
       rw[hv]at hget hge
       simp[zbm,d2,d3,d42,d43,d44,hql,hix3,hok.1,hok.2,ho,hlb,hge,hnL]
       refine zb (λ_=>?_) (λq=>by simp at q)
       simp[d2,d44,hok.1,hnL,ho,hlb,hw3]
       rw[zno hnn]
       refine⟨hlb,⟨q+1,named.set n.toNat true,by omega,by simp[d2],by simp[d28],by simp[d29],by simp[d30],by simp[d3],by simp[d35],by simp[d36],by simp[d37],by simp[d42],by simp[d43],by simp,N.set (by simp[hnlen]),hg⟩,?_⟩
       simp only[MU,d44];simp;omega
     .have hE:zdu (i:Int) named n=.error 11:=by unfold zdu;rw[if_neg (λq=>hok ⟨q.1,q.2.1⟩)]
      rw[hE]at hg
      simp[zfC]at hg
      rw[<-hg]at h
      by_cases h0:0<=n
      .have h1:¬n<(i:Int):=λq=>hok ⟨h0,q⟩
       simp[zbm,d2,d3,d42,d43,d44,hql,hix3,h0,h1]
       refine zb (λq=>by simp at q) (λ_=>?_)
       simp
       exact h _ (toA N)
      .simp[zbm,d2,d3,d42,d43,d44,hql,hix3,h0]
       refine zb (λq=>by simp at q) (λ_=>?_)
       simp
       exact h _ (toA N)
    .have he:q=(zj row[j]).length:=by omega
     subst he
     have hnil:(zj row[j]).drop (zj row[j]).length=[]:=by simp
     rw[hnil]at hg
     simp only[zaJ,zfC]at hg
     have hw3:yb5 .i64 ((j:Int)+1)=((j+1:Nat):Int):=by rw[wrap_i64]<;>omega
     simp[zbm,zeh,d37,d43,d44,hw3]
     refine⟨⟨j+1,named,by omega,by simp[d2],by simp[d28],by simp[d29],by simp[d30],by simp[d3],by simp[d35],by simp[d36],by simp,N,hg⟩,?_⟩
     simp only[MU,b37];simp;omega
   .have he:j=row.length:=by omega
    subst he
    have hnil:row.drop row.length=[]:=by simp
    rw[hnil]at hg1
    simp only[zha,zfC]at hg1
    have hw3:yb5 .i64 ((i:Int)+1)=((i+1:Nat):Int):=by rw[wrap_i64]<;>omega
    simp[zei,zgY,b30,b36,b37,hw3]
    refine⟨⟨i+1,named1,by omega,by simp[b2],by simp[b28],by simp[b29],by simp,N2,hg1⟩,?_⟩
    simp only[MU,a30];simp;omega
  .have he:i=f.lists.length:=by omega
   subst he
   have hnil:f.lists.drop f.lists.length=[]:=by simp
   rw[hnil]at hg0
   simp only[zbD]at hg0
   rw[<-hg0]at h
   simp only at h
   have hw3:yb5 .i64 ((f.lists.length:Int)-1)=((f.lists.length-1:Nat):Int):=by rw[wrap_i64]<;>omega
   simp[zgZ,zn8,a2,a29,a30,hw3]
   refine ziZ N0.obj (by rw[N0.len];omega) (by omega) ?_
   cases hq:(named0.take (f.lists.length-1)).all (·==true)with
   | true =>
    rw[if_pos hq]at h
    simp
    refine zb (λ_=>?_) (λq=>by simp at q)
    simp
    exact h _ (toA N0)
   | false =>
    rw[if_neg (by rw[hq];simp)]at h
    simp
    refine zb (λq=>by simp at q) (λ_=>?_)
    simp
    exact h _ (toA N0)
theorem zgN{G:Env}(V:zkB G){m:M}(sm:zpn m){f:F}(hfm:f∈m.funcs){J0 J:AS}{R:Out->AS->Prop}{c:Nat}(A0:ze J0 J)(hc0:J0.no<=c)(C:zor J c m f [])(h:zEh R J0 (zm m.funcs f)):zzQ G 54 [.ptr c 0] J R:=by
 refine zxi rfl ?_
 have C0:=C
 obtain⟨hc,fsv,pv,lv,tv,lsv,hco,hfs,hpv,hlv,htv,hls⟩:=C
 have p1:=hpv.one
 have l1:=hlv.one
 have hpb:=sm.params f hfm
 have hlb:=sm.locals f hfm
 simp[zF2,hco,p1,l1]
 refine zlW hpv hlv (by omega) λv J1 hv A1=>?_
 have v1:=hv.one
 have hco1:=(A1.obj c hc).trans hco
 simp[hco1,v1,splice]
 generalize hJ2:J1.setO c [fsv,ycS yam m.memory,ycS yam m.main,ycR f.name,pv,lv,ycS yam f.type,tv,v]=J2
 have hc1:c<J1.no:=yag hc A1.no
 have hco2:J2.objs c=some [fsv,.int .i64 m.memory,.int .i64 m.main,.str f.name,pv,lv,.int .i64 f.type,tv,v]:=by rw[<-hJ2];simp
 have A2:ze J0 J2:=by rw[<-hJ2];exact(A0.trans A1).setO hc0
 have C2:zor J2 c m f (f.params++f.locals):=⟨by rw[<-hJ2];simpa using hc1,_,_,_,_,_,hco2,hfs,hpv,hlv,htv,hv⟩
 unfold zm at h
 have hll:=sm.lists f hfm
 refine zfB hv (by simp;omega) ?_
 have fail:((f.params++f.locals).all zT&&decide (0<=f.type)&&decide (f.type<=2))=false->∀J',ze J0 J'->R (.panic (ziV 6)) J':=λq=>by
  rw[if_pos q]at h;exact h
 cases hn:(f.params++f.locals).all zT with
 | false =>
  simp
  refine zb (λq=>by simp at q) (λ_=>?_)
  simp
  exact fail (by rw[hn];rfl) _ A2
 | true =>
 by_cases k0:0<=f.type
 .by_cases k2:f.type<=2
  .rw[if_neg (by rw[hn];simp[k0,k2])]at h
   simp[hco2,k0,k2]
   refine zb (λ_=>?_) (λq=>by simp at q)
   simp
   refine zlX V C2 hll (λl hl=>sm.rows f hfm l hl) ?_
   cases hq:zb2 f.lists with
   | error e =>
    rw[hq]at h
    intro J3 A3
    simp
    exact h J3 (A2.trans A3)
   | ok u =>
    rw[hq]at h
    simp only at h
    intro J3 A3
    have C3:=C2.adds A3
    have C3':=C3
    obtain⟨hc3,fsv3,pv3,lv3,tv3,lsv3,hco3,_,_,_,htv3,_⟩:=C3'
    obtain⟨hpos,hah,_⟩:=zcl hq
    have hlen3:=htv3.len
    have hw3:yb5 .i64 ((f.lists.length:Int)-1)=(f.lists.length:Int)-1:=by rw[wrap_i64]<;>omega
    simp[hco3,hlen3,hw3]
    refine zqX V sm hfm hah (f.params++f.locals) f.lists.length c J3 ((f.lists.length:Int)-1) 0 _ C3 (by omega) (by omega) (by omega) (by omega) ?_
    revert h
    cases zP m.funcs (f.params++f.locals) f.type f.lists f.lists.length ((f.lists.length:Int)-1) 0 with
    | ok u=>intro h J4 A4;simp;exact h J4 ((A2.trans A3).trans A4)
    | error e=>intro h J4 A4;simp;exact h J4 ((A2.trans A3).trans A4)
  .simp[hco2,k0,k2]
   refine zb (λq=>by simp at q) (λ_=>?_)
   simp
   exact fail (by simp[k2]) _ A2
 .simp[hco2,k0]
  refine zb (λq=>by simp at q) (λ_=>?_)
  simp
  exact fail (by simp[k0]) _ A2
@[simp] theorem zEi(t:Nat)(v:AV):aeq yca 20 (.iface t v) .nilif=some false:=by simp[aeq,zjT,show yca.underlying 20=some (.interface #[]) from by kernel_rfl]
@[simp] theorem zCx(t:Nat)(v:AV)(K:AV->Prop):zbs yca .neq 20 (.iface t v) .nilif K=K (.bool true):=by simp[zbs]
@[simp] theorem zGh:zaq yca 20=some true:=by kernel_rfl
@[simp] theorem zGi(H:Option AV->(Nat->AV)->AS->Prop)(a:Nat->AV)(J:AS):aq H .ret a J=H none a J:=Eq.trans rfl rfl
@[simp] theorem zEj(H:Option AV->(Nat->AV)->AS->Prop)(v:AV)(a:Nat->AV)(J:AS):aq H (.panic v) a J=H (some v) a J:=Eq.trans rfl rfl
def MI(J1:AS)(mb eb:Nat)(fsv:AV)(m:M)(goal:Res Unit)(a:Nat->AV)(Z:AS):Prop:=∃i:Nat,i<=m.funcs.length/\a 1=.ptr mb 0/\a 2=.ptr eb 0/\a 16=fsv/\a 17=.int .i64 (m.funcs.length:Int)/\a 18=.int .i64 (i:Int)/\ze J1 Z/\zN m.funcs (m.funcs.drop i)=goal
theorem znp{G:Env}(V:zkB G){m:M}(sm:zpn m){J:AS}{R:Out->AS->Prop}{mv:AV}(hm:MV mv m)(h:∀J',ze J J'->R (.ret (.int .i64 (znb (zav m)))) J'):zzQ G 18 [mv] J R:=by
 refine zeI (px:=zvS) (pz:=zn5) (k:=52) (py:=zlI) (n:=61) (nk:=8) (t:=5) (d0:=2) (d1:=1) (res:=[.cell 2 33]) zqE Tryz.func18 rfl rfl rfl rfl (by kernel_rfl) (by kernel_rfl) (by simp) rfl rfl rfl rfl rfl rfl (by decide) Tryz.func52 rfl (by kernel_rfl) rfl rfl rfl rfl rfl rfl rfl rfl rfl (by kernel_rfl) (by decide) (by decide) (by decide) ?_
 obtain⟨fsv,rfl,hfs⟩:=hm
 have f1:=hfs.one
 have hfl:=hfs.len
 simp[zvS]
 have ecap:List.map (ev G (upd (upd (zbz [ycX [fsv,ycS yam m.memory,ycS yam m.main]]) 1 (ycV J.no 0)) 2 (ycV (J.no+1) 0))) #[Operand.tmp 2].toList=[.ptr (J.no+1) 0]:=rfl
 rw[ecap]
 generalize hfr:upd (upd (upd (zbz [ycX [fsv,ycS yam m.memory,ycS yam m.main]]) 1 (ycV J.no 0)) 2 (ycV (J.no+1) 0)) 5 (AV.fn (Fn.func 52) [] [ycV (J.no+1) 0])=fr
 have fr1:fr 1=.ptr J.no 0:=by rw[<-hfr];simp
 have fr2:fr 2=.ptr (J.no+1) 0:=by rw[<-hfr];simp
 have hno1:((J.newO [fsv,ycS yam m.memory,ycS yam m.main]).newO [ycS yam 0]).no=J.no+2:=by simp
 have A1:ze J ((J.newO [fsv,ycS yam m.memory,ycS yam m.main]).newO [ycS yam 0]):=(ze.refl J).newO.newO
 have hm1:((J.newO [fsv,ycS yam m.memory,ycS yam m.main]).newO [ycS yam 0]).objs J.no=some [fsv,.int .i64 m.memory,.int .i64 m.main]:=by simp
 have he1:((J.newO [fsv,ycS yam m.memory,ycS yam m.main]).newO [ycS yam 0]).objs (J.no+1)=some [.int .i64 0]:=by simp
 generalize (J.newO [fsv,ycS yam m.memory,ycS yam m.main]).newO [ycS yam 0]=J1 at *
 -- what is recovered
 have hand:∀(e:Int) (a:Nat->AV) (Z:AS),a 2=.ptr (J.no+1) 0->ze J1 Z->(∀J',ze J J'->R (.ret (.int .i64 e)) J')->zay yca G 8 zlI 2 1 [.ptr (J.no+1) 0] [.cell 2 33] R (some (ziV e)) a Z:=by
  intro e a Z a2 A hh
  have he:=(A.obj (J.no+1) (by omega)).trans he1
  simp[zay,zlI,ziV,he,splice,a2]
  exact hh _ ((A1.trans A).setO (by omega))
 have done:∀(a:Nat->AV) (Z:AS),a 2=.ptr (J.no+1) 0->ze J1 Z->(∀J',ze J J'->R (.ret (.int .i64 0)) J')->zay yca G 8 zlI 2 1 [.ptr (J.no+1) 0] [.cell 2 33] R none a (Z.setO (J.no+1) [.int .i64 0]):=by
  intro a Z a2 A hh
  simp[zay,zlI,splice,a2]
  exact hh _ ((A1.trans A).setO (by omega))
 unfold zav at h
 by_cases k0:0<=m.memory
 .by_cases k1:m.memory<=4096
  .rw[if_neg (by simp[k0,k1])]at h
   simp[zn5,fr1,hm1,k0,k1]
   refine zb (λ_=>?_) (λq=>by simp at q)
   simp[fr1,hm1,f1,hfl]
   generalize hgoal:zN m.funcs m.funcs=goal at h
   refine zS (MI J1 J.no (J.no+1) fsv m goal) (MU 18 (m.funcs.length+1)) ⟨0,by omega,by simp[fr1],by simp[fr2],by simp,by simp,by simp,.refl _,by simpa using hgoal⟩ λa Z hI=>?_
   obtain⟨i,hi,a1,a2,a16,a17,a18,A,hg⟩:=hI
   have hm2:=(A.obj J.no (by omega)).trans hm1
   have he2:=(A.obj (J.no+1) (by omega)).trans he1
   by_cases hlt:i<m.funcs.length
   .obtain⟨b,fv,hfv,hix⟩:=hfs.at hlt
    have hmem:=yaw hlt
    rw[ycU hlt,zN]at hg
    generalize m.funcs[i]=f at *
    obtain⟨pv,lv,tv,rfl,hp,hl,ht⟩:=hfv
    have p1:=hp.one
    have l1:=hl.one
    have t1:=ht.one
    have hmn:J.no≠Z.no:=by have:=A.no;omega
    simp[zbN,a1,a16,a17,a18,hlt,hix,p1,l1,t1,f1,splice,hm2,hmn]
    have A3:ze Z (((Z.newO [ycR [],ycY,ycY,ycS yam 0,ycY]).setO Z.no [ycR f.name,pv,lv,ycS yam f.type,tv]).newO [fsv,ycS yam m.memory,ycS yam m.main,ycR f.name,pv,lv,ycS yam f.type,tv,ycY]):=(((ze.refl Z).newO).setO (yah _)).newO
    refine zgN V sm hmem A3 (by omega) ⟨by simp,_,_,_,_,_,by simp,hfs,hp,hl,ht,.inl ⟨rfl,rfl⟩⟩ ?_
    have hw3:yb5 .i64 ((i:Int)+1)=((i+1:Nat):Int):=by have:=sm.funcs;rw[wrap_i64]<;>omega
    cases hq:zm m.funcs f with
    | error e =>
     rw[hq]at hg
     simp only at hg
     rw[<-hg]at h
     intro J4 A4
     simp
     exact hand e _ J4 (by simp[zdn,a2]) (A.trans A4) h
    | ok u =>
     rw[hq]at hg
     simp only at hg
     intro J4 A4
     simp[a18,hw3]
     refine⟨⟨i+1,by omega,by simp[a1],by simp[a2],by simp[a16],by simp[a17],by simp,A.trans A4,hg⟩,?_⟩
     simp only[MU,a18];simp;omega
   .have he:i=m.funcs.length:=by omega
    subst he
    have hnil:m.funcs.drop m.funcs.length=[]:=by simp
    rw[hnil]at hg
    simp only[zN]at hg
    rw[<-hg]at h
    simp only at h
    have good:zfy m=true->∀J',ze J J'->R (.ret (.int .i64 0)) J':=λq=>by rw[if_pos q]at h;exact h
    have bad:zfy m=false->∀J',ze J J'->R (.ret (.int .i64 12)) J':=λq=>by rw[if_neg (by rw[q];simp)]at h;exact h
    by_cases q0:0<=m.main
    .by_cases q1:m.main<(m.funcs.length:Int)
     .have hlt2:m.main.toNat<m.funcs.length:=by omega
      obtain⟨b,fv,hfv,hix⟩:=hfs.at hlt2
      have e1:((m.main.toNat:Nat):Int)=m.main:=by omega
      rw[e1]at hix
      have hfn:m.funcs[m.main.toNat]?=some m.funcs[m.main.toNat]:=yau hlt2
      have hmb:zfy m=(decide (m.funcs[m.main.toNat].type=1)&&decide (m.funcs[m.main.toNat].params.length=0)):=by
       unfold zfy;rw[hfn];simp[q0]
      generalize m.funcs[m.main.toNat]=f at *
      obtain⟨pv,lv,tv,rfl,hp,hl,ht⟩:=hfv
      have hpl:=hp.len
      have p1:=hp.one
      by_cases q2:f.type=1
      .by_cases q3:f.params.length=0
       .have q3':f.params=[]:=ybT.1 q3
        simp[zbN,zcK,a1,a2,a16,a17,a18,hm2,he2,hfl,f1,q0,q1,hix,q2,hpl,p1,q3',splice]
        refine zb (λ_=>?_) (λq=>by simp at q)
        simp[a2,he2,splice]
        exact done _ Z (by simp[a2]) A (good (by rw[hmb];simp[q2,q3']))
       .have q3':¬f.params=[]:=λq=>q3 (by rw[q];rfl)
        simp[zbN,zcK,a1,a2,a16,a17,a18,hm2,he2,hfl,f1,q0,q1,hix,q2,hpl,p1,q3',splice]
        refine zb (λq=>by simp at q) (λ_=>?_)
        simp
        exact hand 12 _ Z (by simp[zdn,a2]) A (bad (by rw[hmb];simp[q3']))
      .simp[zbN,zcK,a1,a2,a16,a17,a18,hm2,he2,hfl,f1,q0,q1,hix,q2,splice]
       refine zb (λq=>by simp at q) (λ_=>?_)
       simp
       exact hand 12 _ Z (by simp[zdn,a2]) A (bad (by rw[hmb];simp[q2]))
     .simp[zbN,zcK,a1,a2,a16,a17,a18,hm2,he2,hfl,f1,q0,q1,splice]
      refine zb (λq=>by simp at q) (λ_=>?_)
      simp
      refine hand 12 _ Z (by simp[zdn,a2]) A (bad ?_)
      unfold zfy
      rw[yb3 (by omega)]
      simp
    .simp[zbN,zcK,a1,a2,a16,a17,a18,hm2,he2,hfl,f1,q0,splice]
     refine zb (λq=>by simp at q) (λ_=>?_)
     simp
     exact hand 12 _ Z (by simp[zdn,a2]) A (bad (by simp[zfy,q0]))
  .rw[if_pos (by simp[k1])]at h
   simp[zn5,fr1,hm1,k0,k1]
   refine zb (λq=>by simp at q) (λ_=>?_)
   simp
   exact hand 11 _ J1 (by simp[zdn,fr2]) (.refl _) h
 .rw[if_pos (by simp[k0])]at h
  simp[zn5,fr1,hm1,k0]
  refine zb (λq=>by simp at q) (λ_=>?_)
  simp
  exact hand 11 _ J1 (by simp[zdn,fr2]) (.refl _) h
mutual
def clm:AV->AV
 | .sl φ sz xs=>.sl (.stat φ.full) sz (zAs xs)
 | .agg cs=>.agg (zAs cs)
 | v=>v
def zAs:List AV->List AV
 | []=>[]
 | v::vs=>clm v::zAs vs
end
theorem znq:∀l,zAs l=l.map clm
 | []=>by simp[zAs]
 | v::l=>by simp[zAs,znq l]
@[simp] theorem zv2(φ sz xs):clm (.sl φ sz xs)=.sl (.stat φ.full) sz (xs.map clm):=by simp[clm,znq]
@[simp] theorem zxP(cs):clm (.agg cs)=.agg (cs.map clm):=by simp[clm,znq]
@[simp] theorem zqZ(k n):clm (.int k n)=.int k n:=by simp[clm]
@[simp] theorem zxQ(s):clm (.str s)=.str s:=by simp[clm]
@[simp] theorem zq0:clm .nilsl=.nilsl:=by simp[clm]
@[simp] theorem zuw(b):clm (.bool b)=.bool b:=by simp[clm]
theorem zlY(v:AV):(clm v).cells=v.cells.map clm:=by
 cases v with
 | agg cs=>simp
 | sl φ sz xs=>simp
 | _=>simp[clm,AV.cells]
theorem zkE(l:List AV):zy (l.map clm)=(zy l).map clm:=by
 simp[zy,List.flatMap_map,List.map_flatMap,zlY]
inductive Cb(F:Nat->FSt):AV->Prop
 | bool (b:Bool):Cb F (.bool b)
 | int (k:IntKind) (n:Int):Cb F (.int k n)
 | str (s:List UInt8):Cb F (.str s)
 | nilsl:Cb F .nilsl
 | sl (φ:Abs.Own) (sz:Nat) (xs:List AV) (hr:zl F φ) (h:∀c∈zy xs,Cb F c):Cb F (.sl φ sz xs)
 | agg (cs:List AV) (h:∀c∈cs,Cb F c):Cb F (.agg cs)
end Go.Proofs.YtohfclafhegadaaGreatDoor
namespace Go.Abs
open Go Go.Abs Go.Shelf Go.RowKit
open Go.Proofs.YtohfclafhegadaaGreatDoor
theorem VR.clmTo{M:Mp}{F:Nat->FSt}{w:World}{v:AV}{c:Value}(h:VR M F w v c){M':Mp}{F':Nat->FSt}(hst:∀B m,M.role B=some (.st m)->M'.role B=some (.st m))(hfm:∀B f,M.role B=some (.fam f)->∃m,M'.role B=some (.st m))(hs:Cb F v):VR M' F' w (clm v) c:=by
 induction h with
 | bool b=>rw[zuw];exact .bool b
 | int k n=>rw[zqZ];exact .int k n
 | str s=>rw[zxQ];exact .str s
 | nilsl=>rw[zq0];exact .nilsl
 | slz b sz a=>rw[zv2];exact .slz _ sz a
 | sl φ sz xs B off cap cs hcap hlit hsz hm hc hv ih =>
  cases hs with
  | sl _ _ _ hr hs =>
  rw[zv2]
  have hl:(xs.map Go.Proofs.YtohfclafhegadaaGreatDoor.clm).length=xs.length:=by simp
  have hm':∃m,M'.role B=some (.st m):=by
   cases φ with
   | stat b =>
    obtain⟨m,hm⟩:=hm
    exact⟨m,hst B m hm⟩
   | fam f b=>exact hfm B f (hm.2 (by rw[hr];simp)).1
  have:=VR.sl (M:=M') (F:=F') (w:=w) (.stat φ.full) sz (xs.map Go.Proofs.YtohfclafhegadaaGreatDoor.clm) B off cap cs (by simpa using hcap) (λh=>by rw[hl];exact hlit h)
   (λx hx=>by simp at hx;obtain⟨y,hy,rfl⟩:=hx;rw[zlY,ybb];exact hsz y hy) hm' (λ_ j hj=>hc hr j (by rw[zkE]at hj;simpa using hj))
   (λ_ j hj=>by
    have hj':j<(zy xs).length:=by rw[zkE]at hj;simpa using hj
    have:=ih hr j hj' (hs _ (yaw hj'))
    simp only[zkE,List.getElem_map]
    exact this)
  rw[hl]at this
  exact this
 | agg cs A hA va ih =>
  cases hs with
  | agg _ hs=>rw[zxP];exact .agg _ _ (by simpa using hA) (λj h h'=>by simpa using ih j (by simpa using h) h' (hs _ (yaw _)))
 | _=>cases hs
end Go.Abs
namespace Go.Proofs.YtohfclafhegadaaGreatDoor
open Go Go.Abs Go.Shelf Go.RowKit
end Go.Proofs.YtohfclafhegadaaGreatDoor
namespace Go.Abs
open Go Go.Abs Go.Shelf Go.RowKit
open Go.Proofs.YtohfclafhegadaaGreatDoor
theorem VR.clm{M:Mp}{F:Nat->FSt}{w:World}{v:AV}{c:Value}(h:VR M F w v c)(hs:Cb F v):VR (M.calm 1) AS.bare.F w (clm v) c :=
 h.clmTo (λ_ _ h=>zkj h) (λ_ _ h=>⟨false,zeg h (λm q=>by cases q)⟩) hs
end Go.Abs
namespace Go.Proofs.YtohfclafhegadaaGreatDoor
open Go Go.Abs Go.Shelf Go.RowKit
inductive Pln:AV->Prop
 | bool (b:Bool):Pln (.bool b)
 | int (k:IntKind) (n:Int):Pln (.int k n)
 | str (s:List UInt8):Pln (.str s)
 | nilsl:Pln .nilsl
 | agg (cs:List AV) (h:∀c∈cs,Pln c):Pln (.agg cs)
 | tuple (cs:List AV) (h:∀c∈cs,Pln c):Pln (.tuple cs)
end Go.Proofs.YtohfclafhegadaaGreatDoor
namespace Go.Abs
open Go Go.Abs Go.Shelf Go.RowKit
open Go.Proofs.YtohfclafhegadaaGreatDoor
theorem VR.pln{M M':Mp}{F F':Nat->FSt}{w w':World}{v:AV}{c:Value}(h:VR M F w v c)(hs:Pln v):VR M' F' w' v c:=by
 induction h with
 | bool b=>exact .bool b
 | int k n=>exact .int k n
 | str s=>exact .str s
 | nilsl=>exact .nilsl
 | agg cs A hA va ih =>
  cases hs with
  | agg _ hs=>exact .agg _ _ hA (λj h h'=>ih j h h' (hs _ (yaw _)))
 | tuple cs A hA va ih =>
  cases hs with
  | tuple _ hs=>exact .tuple _ _ hA (λj h h'=>ih j h h' (hs _ (yaw _)))
 | _=>cases hs
end Go.Abs
namespace Go.Proofs.YtohfclafhegadaaGreatDoor
open Go Go.Abs Go.Shelf Go.RowKit
inductive StillI:AV->Prop
 | undef:StillI .undef
 | int (k:IntKind) (n:Int):StillI (.int k n)
 | str (s:List UInt8):StillI (.str s)
 | pv (b:Bool) (v:AV) (h:∀c∈v.cells,StillI c):StillI (.pv (.stat b) v)
 | iface (t:TypeId) (v:AV) (h:StillI v):StillI (.iface t v)
 | mp (ks vs:List AV):StillI (.mp ks vs)
end Go.Proofs.YtohfclafhegadaaGreatDoor
namespace Go.Abs
open Go Go.Abs Go.Shelf Go.RowKit
open Go.Proofs.YtohfclafhegadaaGreatDoor
theorem VR.stillI{M:Mp}{F:Nat->FSt}{w:World}{v:AV}{c:Value}(h:VR M F w v c){M':Mp}{F':Nat->FSt}(hr:∀B m,M.role B=some (.st m)->M'.role B=some (.st m))(hs:StillI v):VR M' F' w v c:=by
 induction h with
 | undef c=>exact .undef c
 | int k n=>exact .int k n
 | str s=>exact .str s
 | pv φ v B off cs hm hc hv ih =>
  cases hs with
  | pv b _ hs =>
  obtain⟨m,hm⟩:=hm
  exact .pv _ v B off cs ⟨m,hr B m hm⟩ (λ_=>hc trivial) (λ_ j hj=>ih trivial j hj (hs _ (yaw hj)))
 | iface t v c h ih =>
  cases hs with
  | iface _ _ hs=>exact .iface t _ _ (ih hs)
 | mp ks vs b es c h1 h2 h3=>exact .mp ks vs b es c (hr b false h1) h2 h3
 | _=>cases hs
end Go.Abs
namespace Go.Proofs.YtohfclafhegadaaGreatDoor
open Go Go.Abs Go.Shelf Go.RowKit
theorem zFq{P:Program}{G:Env}{M:Mp}{J:AS}{w:World}(g:GOk P G M J.F w)(hG:∀k,StillI (G.g k))(hy:∀l,¬G.has l):GOk P G (M.calm 1) AS.bare.F w where
 vars k:=(g.vars k).stillI (λ_ _ h=>zkj h) (hG k)
 yields l hl:=absurd hl (hy l)
 fixed B cs hB:=by
  obtain⟨h1,h2⟩:=g.fixed B cs hB
  exact⟨zkj h1,h2⟩
theorem zq1{P:Program}{G:Env}{f:FuncId}{J:AS}{R:Out->AS->Prop}{vs:List AV}{Q:AV->Prop}(hG:∀k,StillI (G.g k))(hy:∀l,¬G.has l)(hv:∀v∈vs,Cb J.F v)(h:ACalls P G f (vs.map clm) AS.bare λo _=>∃x,o=.ret x/\Pln x/\Q x)(hR:∀x,Q x->R (.ret x) J):ACalls P G f vs J R:=by
 intro M w cargs S g c
 refine(h (M.calm 1) w cargs S.calm (zFq g hG hy) ⟨by rw[ybb];exact c.1,λj v hj=>?_⟩).mono λe w' ⟨o,J',M',⟨x,ho,hx,hq⟩,h2,h3,h4⟩=>?_
 .rw[List.getElem?_map,ybC]at hj
  obtain⟨v0,h1,rfl⟩:=hj
  obtain⟨c0,e0,q0⟩:=c.2 j v0 h1
  exact⟨c0,e0,q0.clm (hv v0 (ycW h1))⟩
 .subst ho
  refine⟨_,J,M,hR x hq,?_,S.calmed h4,Ext.calm S h4⟩
  cases e<;>simp only[zbx]at h2 ⊢
  exact h2.pln hx
theorem zFr(w:W):clm w.av=w.av:=by simp[W.av,W.cs]
theorem zGp{F:Nat->FSt}(w:W):∀c∈w.av.cells,Cb F c:=by
 intro c hc
 simp only[W.av,W.cs,AV.cells,ybD,yc3,or_false]at hc
 rcases hc with rfl|rfl|rfl|rfl|rfl|rfl
 all_goals first|exact .int _ _|exact .str _
theorem zq2{J:AS}{v:AV}{l:List W}(h:Al.RepO J v l):Cb J.F v/\zph (clm v) l:=by
 rcases h with ⟨rfl,rfl⟩|⟨φ,rfl,r⟩
 .exact⟨.nilsl,.inl ⟨rfl,by simp⟩⟩
 .refine⟨.sl _ _ _ r.read λc hc=>?_,.inr ⟨φ.full,by simp[Function.comp_def,zFr]⟩⟩
  simp only[zy,ycZ,yaV]at hc
  obtain⟨x,⟨w,_,rfl⟩,hx⟩:=hc
  exact zGp w c hx
theorem zhd{J:AS}{v:AV}{l:List Int}(h:Al.IntsO J v l):Cb J.F v/\zaf (clm v) l:=by
 rcases h with ⟨rfl,rfl⟩|⟨φ,rfl,r⟩
 .exact⟨.nilsl,.inl ⟨rfl,by simp⟩⟩
 .refine⟨.sl _ _ _ r.read λc hc=>?_,.inr ⟨φ.full,by simp[Function.comp_def]⟩⟩
  simp only[zy,ycZ,yaV]at hc
  obtain⟨x,⟨w,_,rfl⟩,hx⟩:=hc
  simp only[AV.cells,yc4]at hx
  subst hx
  exact .int _ _
theorem zkF{α:Type}{Q Q':AV->α->Prop}{P:AV->Prop}(hq:∀v a,Q v a->P v/\Q' (clm v) a):∀{xs:List AV} {l:List α},All2 Q xs l->(∀x∈xs,P x)/\All2 Q' (xs.map clm) l
 | _,_,.nil=>⟨λx h=>(by cases h),.nil⟩
 | _,_,.cons h hs=>by
  obtain⟨h1,h2⟩:=hq _ _ h
  obtain⟨h3,h4⟩:=zkF hq hs
  exact⟨λx hx=>by
   rcases ybD.1 hx with rfl|hx
   .exact h1
   .exact h3 x hx,.cons h2 h4⟩
theorem zq3{v:AV}(h:v.cells=[v]):∀c∈v.cells,c=v:=λc hc=>by rw[h]at hc;simpa using hc
theorem zq4{J:AS}{v:AV}{l:To}(h:Al.LstO J v l):Cb J.F v/\zcu (clm v) l:=by
 rcases h with ⟨rfl,rfl⟩|⟨φ,rows,rfl,r,k⟩
 .exact⟨.nilsl,.inl ⟨rfl,by simp⟩⟩
 .obtain⟨k1,k2⟩:=zkF (P:=λv=>Cb J.F v/\v.cells=[v]) (Q':=zph) (λv a q=>⟨⟨(zq2 q).1,q.one.2.2⟩,(zq2 q).2⟩) k
  refine⟨.sl _ _ _ r.read λc hc=>?_,.inr ⟨φ.full,rows.map clm,by simp,k2⟩⟩
  simp only[zy,ycZ]at hc
  obtain⟨x,hx,hc⟩:=hc
  rw[zq3 (k1 x hx).2 c hc]
  exact(k1 x hx).1
theorem zCy{J:AS}{v:AV}{f:F}(h:Al.FVO J v f):(∀c∈v.cells,Cb J.F c)/\FV (clm v) f:=by
 obtain⟨pv,lv,tv,rfl,a,b,c⟩:=h
 refine⟨λx hx=>?_,clm pv,clm lv,clm tv,by simp,(zhd a).2,(zhd b).2,(zq4 c).2⟩
 simp only[AV.cells,ybD,yc3,or_false]at hx
 rcases hx with rfl|rfl|rfl|rfl|rfl
 .exact .str _
 .exact(zhd a).1
 .exact(zhd b).1
 .exact .int _ _
 .exact(zq4 c).1
theorem zv3{J:AS}{v:AV}{m:M}(h:Al.MO J v m):Cb J.F v/\MV (clm v) m:=by
 obtain⟨fv,rfl,h⟩:=h
 have key:Cb J.F fv/\FsV (clm fv) m.funcs:=by
  rcases h with ⟨h,rfl⟩|⟨φ,rows,rfl,r,k⟩
  .exact⟨.nilsl,.inl ⟨h,by simp⟩⟩
  .obtain⟨k1,k2⟩:=zkF (P:=λv=>∀c∈v.cells,Cb J.F c) (Q':=FV) (λv a q=>zCy q) k
   refine⟨.sl _ _ _ r.read λc hc=>?_,.inr ⟨φ.full,rows.map clm,by simp,k2⟩⟩
   simp only[zy,ycZ]at hc
   obtain⟨x,hx,hc⟩:=hc
   exact k1 x hx c hc
 refine⟨.agg _ λc hc=>?_,clm fv,by simp,key.2⟩
 simp only[ybD,yc3,or_false]at hc
 rcases hc with rfl|rfl|rfl
 .exact key.1
 .exact .int _ _
 .exact .int _ _
section
variable {G : Env} {J : AS} {R : Out -> AS -> Prop}
theorem zlZ{m:M}{mv:AV}(V:zkB G)(hG:∀k,StillI (G.g k))(hy:∀l,¬G.has l)(hm:Al.MO J mv m)(sm:zpn m)(h:R (.ret (.int .i64 (znb (zav m)))) J):zzQ G 18 [mv] J R:=by
 obtain⟨h1,h2⟩:=zv3 hm
 refine zq1 (vs:=[mv]) (Q:=λx=>x=.int .i64 (znb (zav m))) hG hy (λv hv=>by simp at hv;subst hv;exact h1) ?_ λx hx=>by rw[hx];exact h
 exact znp V sm h2 λJ' _=>⟨_,rfl,.int _ _,rfl⟩
end
@[simp] theorem zEk(t i k r):zgg t ((i,.tmp k)::r)=false:=by simp[zgg]
@[simp] theorem zEl(t i n r):zgg t ((i,.const (.int .i64 n))::r)=false:=by simp[zgg]
@[simp] theorem zEm(t i n r):zgg t ((i,.const (.string n))::r)=false:=by simp[zgg]
theorem zkG(f:BitVec 8->BitVec 8->BitVec 8)(a b:UInt8):zag .u8 f (a.toNat:Int) (b.toNat:Int)=((f a.toBitVec b.toBitVec).toNat:Int):=by
 have e1:BitVec.ofInt 8 (a.toNat:Int)=a.toBitVec:=by
  apply BitVec.eq_of_toNat_eq
  simp
 have e2:BitVec.ofInt 8 (b.toNat:Int)=b.toBitVec:=by
  apply BitVec.eq_of_toNat_eq
  simp
 show yb5 .u8 ((f (BitVec.ofInt 8 (a.toNat:Int)) (BitVec.ofInt 8 (b.toNat:Int))).toNat:Int)=_
 rw[e1,e2]
 have:=(f a.toBitVec b.toBitVec).isLt
 simp[yb5,yao,yap]
 omega
@[simp] theorem zGq(bs:List UInt8):(B bs).length=bs.length:=by simp[B]
end Go.Proofs.YtohfclafhegadaaGreatDoor



namespace Go.Proofs.YtohfclafhegadaaGreatDoor
open Go Go.Abs
def zos:List UInt8:=[97,100,100,32,115,117,98,32,109,117,108,32,100,105,118,95,115,32,114,101,109,95,115,32,97,110,100,32,111,114,32,120,111,114,32,115,104,108,32,115,104,114,95,115,32,101,113,32,110,101,32,108,116,95,115,32,103,116,95,115,32,108,101,95,115,32,103,101,95,115]
def zl0:List (List UInt8):=[[97,100,100],[115,117,98],[109,117,108],[100,105,118,95,115],[114,101,109,95,115],[97,110,100],[111,114],[120,111,114],[115,104,108],[115,104,114,95,115],[101,113],[110,101],[108,116,95,115],[103,116,95,115],[108,101,95,115],[103,101,95,115]]
def zaz(c:UInt8):Bool:=c==32||(9<=c&&c<=13)
def zdV:List AV:=(List.range 256).map λc=>.int .u8 (if zaz (UInt8.ofNat c)then 1 else 0)
def pw(op ty n:Int):W:={ op:=op,ty:=ty,n:=n,body:=0,other:=0,name:=[] }
theorem za1(c:UInt8):zdV[c.toNat]?=some (.int .u8 (if zaz c then 1 else 0)):=by
 have h:c.toNat<256:=c.toNat_lt
 have:∀k:Fin 256,zdV[k.1]?=some (.int .u8 (if zaz (UInt8.ofNat k.1)then 1 else 0)):=by
  intro k;simp[zdV]
 have:=this ⟨c.toNat,h⟩
 simpa using this
def fC(L:List UInt8):Nat->Nat × Bool × UInt8
 | 0=>(0,true,0)
 | i+1=>let c:=L.getD i 0;let p:=fC L i;(p.1+(if p.2.1&&!zaz c then 1 else 0),zaz c,p.2.2 ||| c)
def fS(L:List UInt8):Nat->Nat × Nat
 | 0=>(0,0)
 | i+1=>if zaz (L.getD i 0)then(i+1,(fS L i).2+1)else fS L i
theorem sb_small(L:List UInt8):∀k,(fC L k).1<=k:=by
 intro k
 induction k with
 | zero=>simp[fC]
 | succ k ih=>simp only[fC];split<;>omega
def fCells(T:List (List UInt8))(k:Nat):List AV:=(T.take k).map ycR++yaj (T.length-k) (.str [])
structure zCz(L:List UInt8)(T:List (List UInt8))(e:Nat):Prop where
 len:L.length<=1000
 tl:T.length<=1000
 fact:∀i:Fin L.length,(zaz (L.getD i 0)=true->T[(fS L i).2]?=some ((L.take i).drop (fS L i).1)/\(fS L i).2<T.length/\(fS L i).1<=i/\i.1+1<L.length/\zaz (L.getD (i.1+1) 0)=false/\fS L (i.1+1)=(i.1+1,(fS L i).2+1))/\(zaz (L.getD i 0)=false->fS L (i.1+1)=fS L i)
 cnt:fC L L.length=(T.length,false,(fC L L.length).2.2)
 low:(fC L L.length).2.2.toNat<128
 head:∃c r,L=c::r/\zaz c=false
 fin:fS L L.length=(e,T.length-1)
 lt:e<L.length
 last:T[T.length-1]?=some (L.drop e)
theorem fCells_step{T:List (List UInt8)}{k:Nat}{b:List UInt8}(h:T[k]?=some b):splice (fCells T k) k [.str b]=fCells T (k+1):=by
 have hk:=(yaq.1 h).1
 have ht:=zh7 h
 have hA:((T.take k).map ycR).length=k:=by simp;omega
 unfold splice fCells
 rw[yc5 hA,ht,yc6]
 have e:T.length-k=(T.length-(k+1))+1:=by omega
 have hd:((T.take k).map ycR++yaj (T.length-k) (ycR [])).drop (k+[ycR b].length)=yaj (T.length-(k+1)) (ycR []):=by
  rw[yc7,yc8 (by rw[hA];simp),hA,e]
  simp
 rw[hd]
 simp
theorem amake_strs{T:List (List UInt8)}(hT:T.length<=1000){J:AS}{K:AV->AS->Prop}:zhF yca 22 (.int .i64 (T.length:Int)) (.int .i64 (T.length:Int)) J K=K (.slm J.no 0 1 T.length) (J.newO (fCells T 0)):=by
 have e1:zcd yca 22=some 1:=by kernel_rfl
 have e2:zbh yca 22=some 16:=by kernel_rfl
 have e3:zaR yca 22=some (.str []):=by kernel_rfl
 have e5:zy (yaj T.length (ycR []))=yaj T.length (ycR []):=by
  generalize T.length=n
  induction n with
  | zero=>rfl
  | succ n ih=>simp only[zy,yc2,yaa]at *;rw[ih];rfl
 simp[zhF,e1,e2,e3,AV.cells,AV.known,e5,fCells]
 exact⟨λq=>q.2.2,λq=>⟨by omega,by omega,q⟩⟩
section
variable {G : Env} {J : AS} {R : Out -> AS -> Prop}
def F1(L:List UInt8)(J:AS)(a:Nat->AV)(Z:AS):Prop:=∃i:Nat,i<=L.length/\a 0=.str L/\a 3=.int .i64 ((fC L i).1:Nat)/\a 4=.int .i64 (if(fC L i).2.1 then 1 else 0)/\a 5=.int .u8 ((fC L i).2.2.toNat:Nat)/\a 6=.int .i64 (i:Nat)/\Z=J
def F4(L:List UInt8)(T:List (List UInt8))(J:AS)(x:Nat)(a:Nat->AV)(Z:AS):Prop:=∃i:Nat,i<=L.length/\a 0=.str L/\a 9=.slm x 0 1 T.length/\a 10=.int .i64 ((fS L i).2:Nat)/\a 11=.int .i64 ((fS L i).1:Nat)/\a 12=.int .i64 (i:Nat)/\ze J Z/\x<Z.no/\Z.objs x=some (fCells T (fS L i).2)
theorem zpp{L:List UInt8}{T:List (List UInt8)}{e:Nat}(hok:zCz L T e)(v3:G.g 0=.pv (.stat true) (.agg zdV))(h:∀x J',ze J J'->J.no<=x->x<J'.no->J'.objs x=some (T.map ycR)->R (.ret (.slm x 0 1 T.length)) J'):zzQ G 57 [.str L] J R:=by
 refine zm3 rfl ?_
 have hL:=hok.len
 have hT:=hok.tl
 simp[zEa]
 refine zS (F1 L J) (MU 6 (L.length+1)) ⟨0,by omega,by simp,by simp[fC],by simp[fC],by simp[fC],by simp,rfl⟩ λa Z hI=>?_
 obtain⟨i,hi,a0,a3,a4,a5,a6,rfl⟩:=hI
 by_cases hlt:i<L.length
 .have hlt':(i:Int)<(L.length:Int):=by omega
  have hg:=yau hlt
  have hf:fC L (i+1)=((fC L i).1+(if(fC L i).2.1&&!zaz L[i]then 1 else 0),zaz L[i],(fC L i).2.2 ||| L[i]):=by simp[fC,hg]
  have hn:=sb_small L i
  generalize L[i]=c at *
  have hs:=za1 c
  have w1:yb5 .i64 ((i:Int)+1)=((i+1:Nat):Int):=by rw[wrap_i64]<;>omega
  have w0:∀b:UInt8,zag .u8 (· ||| ·) (b.toNat:Int) (c.toNat:Int)=((b ||| c).toNat:Int):=λb=>zkG (· ||| ·) b c
  have c1:(c.toNat:Int)<256:=by have:=c.toNat_lt;omega
  generalize fC L i=p at *
  obtain⟨n,ws,b⟩:=p
  have w2:yb5 .i64 ((n:Int)+1)=((n+1:Nat):Int):=by rw[wrap_i64]<;>omega
  have w3:yb5 .i64 (n:Int)=(n:Int):=by rw[wrap_i64]<;>omega
  have w4:yb5 .i64 0=0:=rfl
  have w5:yb5 .i64 1=1:=rfl
  have z0:zag .i64 (· ^^^ ·) (-1) 0=-1:=by decide
  have z1:zag .i64 (· ^^^ ·) (-1) 1=-2:=by decide
  have z2:zag .i64 (· &&& ·) 1 (-1)=1:=by decide
  have z3:zag .i64 (· &&& ·) 1 (-2)=0:=by decide
  have z4:zag .i64 (· &&& ·) 0 (-1)=0:=by decide
  have z5:zag .i64 (· &&& ·) 0 (-2)=0:=by decide
  have z6:yao .i64=true:=rfl
  cases hsp:zaz c<;>cases ws<;>simp only[hsp,if_true,if_false,Bool.false_eq_true]at hs hf a4 ⊢<;>simp at hn a3 a5<;>simp[zbl,a0,a3,a4,a5,a6,hlt',hg,v3,hs,c1,w0,w1,w2,w3,w4,w5,z0,z1,z2,z3,z4,z5,z6,-UInt8.toNat_or]<;>refine⟨⟨i+1,by omega,by simp[a0],by simp[hf],by simp[hf,hsp],by simp[hf],by simp,rfl⟩,?_⟩<;>simp only[MU,a6]<;>simp<;>omega
 .have hie:i=L.length:=by omega
  subst hie
  have e1:=hok.cnt
  have e2:¬(128:Int)<=((fC L L.length).2.2.toNat:Nat):=by have:=hok.low;omega
  rw[e1]at a3 a4 a5
  simp[zbl,zkn,a0,a3,a4,a5,a6,e2,amake_strs hT]
  refine zS (λa2 Z2=>a2 0=.str L/\a2 9=.slm Z.no 0 1 T.length/\a2 10=.int .i64 0/\a2 12=.int .i64 0/\Z2=Z.newO (fCells T 0)) (λ_ _=>0) ⟨by simp[a0],by simp,by simp,by simp,rfl⟩ λa2 Z2 hI2=>?_
  obtain⟨b0,b9,b10,b12,rfl⟩:=hI2
  obtain⟨q0,r0,hLc,hsp0⟩:=hok.head
  have w5:0<L.length:=by rw[hLc];simp
  have g0:L[0]'w5=q0:=by simp[hLc]
  have t0:=za1 q0
  rw[hsp0]at t0
  have q256:(q0.toNat:Int)<256:=by have:=q0.toNat_lt;omega
  simp at t0
  simp[zcD,zhX,b0,b9,b10,b12,g0,t0,v3,w5,q256]
  refine zS (F4 L T Z Z.no) (MU 12 (L.length+1)) ⟨0,by omega,by simp[b0],by simp[b9],by simp[b10,fS],by simp[fS],by simp[b12],(ze.refl Z).newO,by simp,by simp[fS]⟩ λa3 Z3 hI3=>?_
  obtain⟨i,hi,c0,c9,c10,c11,c12,hA,hx,ho⟩:=hI3
  by_cases hlt:i<L.length
  .have hlt':(i:Int)<(L.length:Int):=by omega
   have hg:=yau hlt
   obtain⟨f1,f2⟩:=hok.fact ⟨i,hlt⟩
   have hgd:L.getD i 0=L[i]:=by simp[hg]
   simp only[hgd]at f1 f2
   have w1:yb5 .i64 ((i:Int)+1)=((i+1:Nat):Int):=by rw[wrap_i64]<;>omega
   generalize L[i]=c at *
   have hs:=za1 c
   have c1:(c.toNat:Int)<256:=by have:=c.toNat_lt;omega
   cases hsp:zaz c with
   | false =>
    rw[hsp]at hs
    have f2:=f2 hsp
    simp at hs
    simp[zbC,c0,c9,c10,c11,c12,hlt',hg,v3,hs,c1,w1]
    refine⟨⟨i+1,by omega,by simp[c0],by simp[c9],by simp[c10,f2],by simp[c11,f2],by simp,hA,hx,by simp[ho,f2]⟩,?_⟩
    simp only[MU,c12];simp;omega
   | true =>
    rw[hsp]at hs
    obtain⟨g1,g2,g3,g4,g5,g6⟩:=f1 hsp
    simp at hs
    simp[zbC,c0,c9,c10,c11,c12,hlt',hg,v3,hs,c1,w1,ho]
    have hlen:(fCells T (fS L i).2).length=T.length:=by
     simp only[fCells,yab,ybb,ybf,yba]
     omega
    refine⟨g3,by omega,by omega,by omega,?_⟩
    refine zS (λb Z4=>b 0=.str L/\b 9=.slm Z.no 0 1 T.length/\b 10=.int .i64 (((fS L i).2+1:Nat):Int)/\b 12=.int .i64 ((i+1:Nat):Int)/\ze Z Z4/\Z.no<Z4.no/\Z4.objs Z.no=some (fCells T ((fS L i).2+1))) (λ_ _=>0) ⟨by simp[c0],by simp[c9],by simp;rw[wrap_i64]<;>omega,by simp,hA.setO (by omega),by simp;exact hx,by simp;exact fCells_step g1⟩ λb Z4 hI4=>?_
    obtain⟨d0,d9,d10,d12,hA4,hx4,ho4⟩:=hI4
    have hlt2:(((i+1:Nat):Int))<(L.length:Int):=by omega
    have hlt3:i+1<L.length:=by omega
    have hg2:=yau hlt3
    have hgd2:L.getD (i+1) 0=L[i+1]:=by simp[hg2]
    simp only[hgd2]at g5
    generalize L[i+1]=c' at *
    have hs2:=za1 c'
    rw[g5]at hs2
    have c1':(c'.toNat:Int)<256:=by have:=c'.toNat_lt;omega
    simp at hs2
    simp only[yc9,yda]at d12 hlt2
    simp[zc5,zdO,d0,d9,d10,d12,hlt2,hg2,v3,hs2,c1']
    refine⟨by omega,⟨i+1,by omega,by simp[d0],by simp[d9],by simp[d10,g6],by simp[g6],by simp[d12],hA4,hx4,by simp[ho4,g6]⟩,?_⟩
    simp only[MU,c12];simp[d12];omega
  .have hie:i=L.length:=by omega
   subst hie
   have e3:=hok.fin
   have hlast:=hok.last
   obtain⟨n,hn⟩:∃n,T.length=n+1:=⟨T.length-1,by have:=(yaq.1 hlast).1;omega⟩
   have e4:T.length-1=n:=by omega
   rw[e4]at e3 hlast
   rw[e3]at c10 c11 ho
   have w7:=hok.lt
   have w6:(e:Int)<(L.length:Int):=by omega
   have hnT:n<T.length:=by omega
   have hnTi:(n:Int)<(T.length:Int):=by omega
   simp at c10 c11 ho
   simp[zbC,zf0,c0,c9,c10,c11,c12,ho,w6,w7,hnT,hnTi]
   have hlen:(fCells T n).length=T.length:=by
    simp only[fCells,yab,ybb,ybf,yba]
    omega
   refine⟨by omega,by omega,?_⟩
   rw[fCells_step hlast]
   refine h Z.no _ (hA.setO (by omega)) (by omega) (by simpa using hx) ?_
   simp[fCells,<-hn]
theorem zxR:zCz zos zl0 66:=⟨by decide,by decide,by decide,by decide,by decide,⟨97,_,rfl,by decide⟩,by decide,by decide,by decide⟩
theorem fields_calls(v3:G.g 0=.pv (.stat true) (.agg zdV))(h:∀x J',ze J J'->J.no<=x->x<J'.no->J'.objs x=some (zl0.map ycR)->R (.ret (.slm x 0 1 16)) J'):zzQ G 57 [.str zos] J R:=zpp zxR v3 h
end
end Go.Proofs.YtohfclafhegadaaGreatDoor



namespace Go.Proofs.YtohfclafhegadaaGreatDoor
open Go Go.Abs
def zbP(w:W):Bool:=decide (w.op=11)||decide (w.op=12)||decide (w.op=13)
end Go.Proofs.YtohfclafhegadaaGreatDoor








namespace Go.Proofs.YtohfclafhegadaaGreatDoor
open Go Go.Abs
theorem RepO.len{J:AS}{v:AV}{l:List W}(h:Al.RepO J v l)(K:AV->Prop):zgT yca 54 v K=K (.int .i64 (l.length:Int)):=by
 rcases h with ⟨rfl,rfl⟩|⟨b,rfl,_⟩<;>simp
theorem RepO.at{J:AS}{v:AV}{l:List W}(h:Al.RepO J v l){i:Nat}(hi:i<l.length):∃φ,Al.Rd J φ/\∀K:AV->Prop,zu yca 54 v (.int .i64 (i:Int)) K=K (.pv φ l[i].av):=by
 rcases h with ⟨rfl,_⟩|⟨φ,rfl,r⟩
 .simp at hi
 .exact⟨φ,r,λK=>by simp[hi]⟩
def RgW(w:W):Prop:=-(2^63)<=w.n/\w.n<2^63
def RgL(ls:To):Prop:=∀ws∈ls,∀w∈ws,RgW w
theorem zxS{w:W}(h:zbP w=true):w.op=11\/w.op=12\/w.op=13:=by
 simpa [zbP,or_assoc]using h
section
variable {G : Env} {J : AS} {R : Out -> AS -> Prop}
end
end Go.Proofs.YtohfclafhegadaaGreatDoor
namespace Go.Proofs.YtohfclafhegadaaGreatDoor.Ck
open Go Go.Abs Go.Proofs.YtohfclafhegadaaGreatDoor
theorem zpq{a n:Int}{named named':List Bool}(h:zdu a named n=.ok named'){i:Nat}(hi:named'[i]?=some true):named[i]?=some true\/(i:Int)=n:=by
 unfold zdu at h
 split at h
 .rename_i hc
  cases h
  by_cases hin:n.toNat=i
  .right;omega
  .left;rwa [List.getElem?_set_ne hin]at hi
 .cases h
theorem zh9{a:Int}:∀{ns:List Int} {named named':List Bool},zaJ a ns named=.ok named'->∀{i:Nat},named'[i]?=some true->named[i]?=some true\/(i:Int)∈ns
 | [],named,named',h,i,hi=>by rw[zaJ]at h;cases h;exact .inl hi
 | n::ns,named,named',h,i,hi=>by
  rw[zaJ]at h
  split at h
  .cases h
  .rename_i nm hnm
   rcases zh9 h hi with h1|h1
   .rcases zpq hnm h1 with h2|h2
    .exact .inl h2
    .exact .inr (by simp[h2])
   .exact .inr (by simp[h1])
theorem zl1{a:Int}:∀{r:List W} {named named':List Bool},zha a r named=.ok named'->∀{i:Nat},named'[i]?=some true->named[i]?=some true\/∃w∈r,(i:Int)∈zj w
 | [],named,named',h,i,hi=>by rw[zha]at h;cases h;exact .inl hi
 | w::r,named,named',h,i,hi=>by
  rw[zha]at h
  split at h
  .cases h
  .rename_i nm hnm
   rcases zl1 h hi with h1|⟨w',h1,h2⟩
   .rcases zh9 hnm h1 with h2|h2
    .exact .inl h2
    .exact .inr ⟨w,by simp,h2⟩
   .exact .inr ⟨w',by simp[h1],h2⟩
theorem zjr:∀{ls:To} {k:Nat} {named named':List Bool},zbD k ls named=.ok named'->∀{i:Nat},named'[i]?=some true->named[i]?=some true\/∃(j:Nat) (r:List W),ls[j]?=some r/\∃w∈r,(i:Int)∈zj w
 | [],k,named,named',h,i,hi=>by rw[zbD]at h;cases h;exact .inl hi
 | r::ls,k,named,named',h,i,hi=>by
  rw[zbD]at h
  split at h
  .cases h
  .rename_i nm hnm
   rcases zjr h hi with h1|⟨j,r',h1,h2⟩
   .rcases zl1 hnm h1 with h2|h2
    .exact .inl h2
    .exact .inr ⟨0,r,rfl,h2⟩
   .exact .inr ⟨j+1,r',by simpa using h1,h2⟩
theorem zux{a n:Int}{named named':List Bool}(h:zdu a named n=.ok named'):named'.length=named.length:=by
 unfold zdu at h
 split at h
 .cases h;simp
 .cases h
theorem zl2{a:Int}:∀{ns:List Int} {named named':List Bool},zaJ a ns named=.ok named'->named'.length=named.length
 | [],named,named',h=>by rw[zaJ]at h;cases h;rfl
 | n::ns,named,named',h=>by
  rw[zaJ]at h
  split at h
  .cases h
  .rename_i nm hnm
   rw[zl2 h,zux hnm]
theorem zq5{a:Int}:∀{r:List W} {named named':List Bool},zha a r named=.ok named'->named'.length=named.length
 | [],named,named',h=>by rw[zha]at h;cases h;rfl
 | w::r,named,named',h=>by
  rw[zha]at h
  split at h
  .cases h
  .rename_i nm hnm
   rw[zq5 h,zl2 hnm]
theorem zot:∀{ls:To} {k:Nat} {named named':List Bool},zbD k ls named=.ok named'->named'.length=named.length
 | [],k,named,named',h=>by rw[zbD]at h;cases h;rfl
 | r::ls,k,named,named',h=>by
  rw[zbD]at h
  split at h
  .cases h
  .rename_i nm hnm
   rw[zot h,zq5 hnm]
theorem zl3{ls:To}(h:zb2 ls=.ok ()){i:Nat}(hi:i+1<ls.length):∃(j:Nat) (r:List W),ls[j]?=some r/\∃w∈r,(i:Int)∈zj w:=by
 unfold zb2 at h
 split at h
 .cases h
 split at h
 .cases h
 rename_i nm hnm
 split at h
 .rename_i hall
  rw[yaM]at hall
  have hlen:nm.length=ls.length:=by
   have:=(zot hnm)
   simpa using this
  have h1:nm[i]?=some true:=by
   have h2:=hall (nm[i]'(by omega)) (yc1.2 ⟨i,by simp;omega,by simp⟩)
   rw[yau (by omega)]
   simpa using h2
  rcases zjr hnm h1 with h2|h2
  .rw[ycO]at h2
   split at h2<;>simp at h2
  .exact h2
 .cases h
theorem zgw{fs:List F}{ls:List Int}{ty deep:Int}{look:zkx}:∀{ws:List W} {s s':St},zD fs ls ty deep look ws s=.ok s'->∀w∈ws,∃s0 s1,zJ fs ls ty deep look w s0=.ok s1
 | [],_,_,_,w,hw=>by simp at hw
 | v::ws,s,s',h,w,hw=>by
  rw[zD]at h
  split at h
  .cases h
  .rename_i s1 h1
   rcases ybD.1 hw with rfl|hw
   .exact⟨s,s1,h1⟩
   .exact zgw h w hw
theorem znr{fs:List F}{ls:List Int}{ty deep:Int}{look:zkx}{w:W}{s s':St}(h:zJ fs ls ty deep look w s=.ok s'):zQ w=true/\∀n∈zj w,look n (deep+1)=.ok ():=by
 unfold zJ at h
 split at h
 .cases h
 rename_i hf
 refine⟨by simpa using hf,λn hn=>?_⟩
 split at h
 .cases h
 by_cases h1:w.op=11\/w.op=12
 .rw[if_pos h1]at h
  unfold zj at hn
  rw[if_pos (by omega)]at hn
  simp at hn
  subst hn
  cases hl:look w.body (deep+1)with
  | ok u=>rfl
  | error e=>rw[hl]at h;cases h
 rw[if_neg h1]at h
 by_cases h2:w.op=13
 .rw[if_pos h2]at h
  split at h
  .cases h
  cases hl:look w.body (deep+1)with
  | error e=>rw[hl]at h;cases h
  | ok u =>
   rw[hl]at h
   simp only at h
   unfold zj at hn
   by_cases ho:w.other<0
   .rw[if_pos (by omega)]at hn
    simp at hn
    subst hn
    exact hl
   .rw[if_neg (by omega),if_pos h2]at hn
    rw[if_pos (by omega)]at h
    simp at hn
    rcases hn with rfl|rfl
    .exact hl
    .cases hl2:look w.other (deep+1)with
     | ok u=>rfl
     | error e=>rw[hl2]at h;cases h
 .unfold zj at hn
  rw[if_neg (by omega),if_neg h2]at hn
  simp at hn
theorem zjs{fs:List F}{ls:List Int}{ty:Int}{lists:To}{k:Nat}{at_ deep:Int}(h:zP fs ls ty lists (k+1) at_ deep=.ok ()):∀w∈lists.getD at_.toNat [],zQ w=true/\∀n∈zj w,zP fs ls ty lists k n (deep+1)=.ok ():=by
 rw[zP]at h
 split at h
 .cases h
 .rename_i s' hs
  intro w hw
  obtain⟨s0,s1,h1⟩:=zgw hs w hw
  exact znr h1
theorem zeo{fs:List F}{ls:List Int}{ty:Int}{lists:To}(hl:zb2 lists=.ok ())(h:zP fs ls ty lists lists.length ((lists.length:Int)-1) 0=.ok ()):∀(d i:Nat),i+d+1=lists.length->∃(k:Nat) (deep:Int),zP fs ls ty lists k (i:Int) deep=.ok ():=by
 intro d
 induction d using ybJ with
 | _ d ih =>
  intro i hi
  by_cases h0:d=0
  .subst h0
   refine⟨lists.length,0,?_⟩
   have:(i:Int)=(lists.length:Int)-1:=by omega
   rw[this];exact h
  .obtain⟨j,r,h1,w,h2,h3⟩:=zl3 hl (i:=i) (by omega)
   obtain⟨_,ha,_⟩:=zcl hl
   have hj:=(ha j r h1 _ (ycZ.2 ⟨w,h2,h3⟩)).2
   have hjl:j<lists.length:=(yaq.1 h1).1
   obtain⟨k,deep,hk⟩:=ih (lists.length-1-j) (by omega) j (by omega)
   cases k with
   | zero=>rw[zP]at hk;cases hk
   | succ k =>
    have hg:lists.getD (j:Int).toNat []=r:=by rw[ybe,ycJ,h1];rfl
    have:=zjs hk w (by rw[hg];exact h2)
    exact⟨k,deep+1,this.2 _ h3⟩
theorem forms_of{fs:List F}{f:F}(h:zm fs f=.ok ()):∀l∈f.lists,∀w∈l,zQ w=true:=by
 have hl:=zal h
 unfold zm at h
 split at h
 .cases h
 rw[hl]at h
 simp only at h
 intro l hlm w hw
 obtain⟨i,hi,e⟩:=List.getElem_of_mem hlm
 obtain⟨k,deep,hk⟩:=zeo hl h (f.lists.length-1-i) i (by omega)
 cases k with
 | zero=>rw[zP]at hk;cases hk
 | succ k =>
  have hg:f.lists.getD (i:Int).toNat []=l:=by rw[ybe,ycJ,yau hi,e];rfl
  exact(zjs hk w (by rw[hg];exact hw)).1
end Go.Proofs.YtohfclafhegadaaGreatDoor.Ck


namespace Go.Proofs.YtohfclafhegadaaGreatDoor
open Go Go.Abs
theorem zi0{ls:To}{k:Nat}(h:k<ls.length):zh5 id (ls.take (k+1))=zh5 id (ls.take k)+ls[k].length:=by
 rw[ycP h,zh6]
 simp[zh5]
theorem zpr{ls:To}{B:Nat}(h:∀l∈ls,l.length<=B):zh5 id ls<=ls.length*B:=by
 induction ls with
 | nil=>simp[zh5]
 | cons l ls ih =>
  have h1:=h l (by simp)
  have h2:=ih λx hx=>h x (by simp[hx])
  simp only[zh5,yaL,ycM,yac,id]at h2 ⊢
  rw[Nat.add_mul];omega
theorem zuy{ls:To}{l:List W}(h:l∈ls):l.length<=zh5 id ls:=by
 induction ls with
 | nil=>simp at h
 | cons x ls ih =>
  simp only[zh5,yaL,ycM,id]at ih ⊢
  rcases ybD.1 h with rfl|h
  .omega
  .have:=ih h;omega
theorem zf8:∀{l:List (List UInt8 × List UInt8)} {s:List UInt8},zbn l s≠[]->s∈l.map (·.1)
 | [],s,h=>by simp[zbn]at h
 | (x,y)::r,s,h=>by
  rw[zbn]at h
  split at h
  .rename_i e;simp[e]
  .simp only[yaL,ybD];exact .inr (zf8 h)
abbrev Tok:=List UInt8
def zE(w:W):Tok :=
 if w.op=1 then zC w.ty++[46,99,111,110,115,116]else if w.op=2 then [108,111,99,97,108,46,103,101,116]else if w.op=3 then [108,111,99,97,108,46,115,101,116]else if w.op=10 then [99,97,108,108]else if w.op=14 then [98,114]else if w.op=15 then [98,114,95,105,102]
 else if w.op=4 then zC w.ty++46::w.name else if w.op=5 then zC w.ty++[46,101,113,122]else if w.op=6 then [105,51,50,46,119,114,97,112,95,105,54,52]else if w.op=7 then [105,54,52,46,101,120,116,101,110,100,95,105,51,50,95,115]
 else if w.op=8 then zC w.ty++(if w.n=1 then [46,108,111,97,100,56,95,115]else [46,108,111,97,100])else if w.op=9 then zC w.ty++(if w.n=1 then [46,115,116,111,114,101,56]else [46,115,116,111,114,101])
 else if w.op=16 then [114,101,116,117,114,110]else if w.op=17 then [117,110,114,101,97,99,104,97,98,108,101]else [100,114,111,112]
def zaE(w:W):Bool:=decide (w.op=1)||decide (w.op=2)||decide (w.op=3)||decide (w.op=10)||decide (w.op=14)||decide (w.op=15)
def zcN(w:W):List Tok:=if zaE w=true then [zE w,Lib.itoa w.n]else [zE w]
def zaX(w:W):W :=
 { op:=w.op,ty:=if w.op=1\/w.op=4\/w.op=5\/w.op=8\/w.op=9 then w.ty else 0,n:=if zaE w=true\/w.op=8\/w.op=9 then w.n else 0,body:=0,other:=0,name:=if w.op=4 then w.name else [] }
def zX(op b o:Int):W:={ op:=op,ty:=0,n:=0,body:=b,other:=o,name:=[] }
def zbw(op:Int):Tok:=if op=11 then zjm else if op=12 then zpe else tIf
inductive PrB(B:Nat)(ls:To):Nat->List W->To->List Tok->List W->To->Prop
 | nil (d acc):PrB B ls d [] acc [] [] acc
 | leaf {d w r acc t r' acc'}:zbP w=false->zQ w=true->RgW w->PrB B ls d r acc t r' acc'->PrB B ls d (w::r) acc (zcN w++t) (zaX w::r') acc'
 | one {d w b r acc tb b' acc1 t r' acc'}:(w.op=11\/w.op=12\/w.op=13/\w.other<0)->d<B->0<=w.body->ls[w.body.toNat]?=some b->PrB B ls (d+1) b acc tb b' acc1->PrB B ls d r (acc1++[b']) t r' acc' ->
   PrB B ls d (w::r) acc (zbw w.op::(tb++zda::t)) (zX w.op acc1.length (if w.op=13 then -1 else 0)::r') acc'
 | two {d w b e r acc tb b' acc1 te e' acc2 t r' acc'}:w.op=13->0<=w.other->d<B->0<=w.body->ls[w.body.toNat]?=some b->ls[w.other.toNat]?=some e->PrB B ls (d+1) b acc tb b' acc1->PrB B ls (d+1) e (acc1++[b']) te e' acc2->PrB B ls d r (acc2++[e']) t r' acc' ->
   PrB B ls d (w::r) acc (tIf::(tb++zci::(te++zda::t))) (zX 13 acc1.length acc2.length::r') acc'
abbrev Pr:=PrB 400
def zCA:List Tok:=[[34,101,110,118,34],[34,105,110,34],[34,111,117,116,34],[34,116,114,97,112,34],[34,109,97,105,110,34]]
def zcO(t:Tok):Bool:=(!t.isEmpty&&t.all λc=>!zbc c)||((t==zB||t==zf)||zCA.contains t)
def zt:List Tok->List UInt8
 | []=>[10]
 | t::r=>32::(t++zt r)
theorem zps(ts:List Tok):∃c r,zt ts=c::r/\zng c=true/\zbc c=true:=by
 cases ts with
 | nil=>exact⟨10,[],rfl,by decide,by decide⟩
 | cons t r=>exact⟨32,_,rfl,by decide,by decide⟩
theorem zep{c:UInt8}(h:zng c=true)(r:List UInt8):zdv (c::r)=zdv r:=by
 unfold zdv
 rw[ydb,if_pos h]
theorem zuz{c:UInt8}(h:zbc c=false):zng c=false/\c≠40/\c≠41/\c≠34:=by
 simp only[zbc,zng,ydc,ydd,Bool.or_false,Bool.or_eq_false_iff,beq_eq_false_iff_ne,ne_eq]at h ⊢
 exact⟨⟨h.1,h.2.1⟩,h.2.2.1,h.2.2.2.1,h.2.2.2.2⟩
theorem zq6{t:List UInt8}(h:∀c∈t,zbc c=false){c:UInt8}(hc:zbc c=true)(r:List UInt8):(t++c::r).takeWhile (λx=>!zbc x)=t/\(t++c::r).dropWhile (λx=>!zbc x)=c::r:=by
 induction t with
 | nil=>simp[hc]
 | cons x t ih =>
  have hx:=h x (by simp)
  obtain⟨i1,i2⟩:=ih λc hc=>h c (by simp[hc])
  simp[hx,i1,i2]
theorem zeq{t:Tok}(h:zcO t=true)(ts:List Tok):zdv (t++zt ts)=some (t,zt ts):=by
 obtain⟨c,r,e,h1,h2⟩:=zps ts
 rw[e]
 unfold zcO at h
 rw[Bool.or_eq_true]at h
 rcases h with h|h
 .rw[Bool.and_eq_true]at h
  cases t with
  | nil=>simp at h
  | cons x t =>
   have ha:∀y∈x::t,zbc y=false:=λy hy=>by
    have:=yaM.1 h.2 y hy
    simpa using this
   obtain⟨s1,s2,s3,s4⟩:=zuz (ha x (by simp))
   obtain⟨k1,k2⟩:=zq6 (t:=t) (λc hc=>ha c (by simp[hc])) h2 r
   unfold zdv
   rw[ycT,ydb,if_neg (by simp[s1])]
   simp only
   rw[if_neg (by simp[s2,s3]),if_neg s4,k1,k2]
 .rw[Bool.or_eq_true,Bool.or_eq_true,beq_iff_eq,beq_iff_eq,List.contains_iff_mem]at h
  rcases h with (rfl|rfl)|h
  .rfl
  .rfl
  .simp only[zCA,ybD,yc3,or_false]at h
   rcases h with rfl|rfl|rfl|rfl|rfl<;>rfl
theorem zbq{t:Tok}(h:zcO t=true)(ts:List Tok)(ls:To):zb8 ⟨zt (t::ts),ls⟩=.ok (t,⟨zt ts,ls⟩):=by
 have e:zdv (zt (t::ts))=some (t,zt ts):=by
  show zdv (32::(t++zt ts))=_
  rw[zep (by decide),zeq h]
 simp only[zb8,e]
theorem zjt{c:UInt8}(h:zK c=true):zbc c=false:=by
 simp only[zK,Bool.and_eq_true,decide_eq_true_eq]at h
 simp only[zbc,ydc,ydd,Bool.or_false,Bool.or_eq_false_iff,beq_eq_false_iff_ne,ne_eq]
 refine⟨?_,?_,?_,?_,?_⟩<;>(rintro rfl;simp at h)
theorem zpt(n:Int):zcO (Lib.itoa n)=true:=by
 have h1:∀u,((Lib.decDigits u).all λc=>!zbc c)=true:=λu=>by
  rw[yaM]
  intro c hc
  have:=yaM.1 (zf3 u) c hc
  simp[zjt this]
 have h2:∀u,(Lib.decDigits u).isEmpty=false:=λu=>by
  have:=zhZ u
  cases h:Lib.decDigits u<;>simp_all
 unfold Lib.itoa zcO
 split
 .have h3:zbc 45=false:=by decide
  simp[h1,h3]
 .rw[h1,h2];rfl
theorem zdW{n:Int}(h:-(2^63)<=n/\n<2^63)(ts:List Tok)(ls:To):zbo ⟨zt (Lib.itoa n::ts),ls⟩=.ok (n,⟨zt ts,ls⟩):=by
 unfold zbo
 rw[zbq (zpt n)]
 simp only[Except.bind,zqP h,Except.map]
def zpu(t:Tok):Bool:=zcO t&&(decide (zct t=0)&&(!(t==zda)&&(!(t==zf)&&(!(t==zci)&&!(t==zB)))))
theorem zou:∀s∈signs.map (·.1),∀t∈[1,2],(zpu (zC t++46::s)=true/\zL zdT (zC t++46::s)=none/\zL zh2 (zC t++46::s)=some { op:=4,ty:=t,n:=0,body:=0,other:=0,name:=s }):=by decide
theorem zov{t:Tok}(h:zpu t=true)(d:Nat)(o:Bool):zcO t=true/\zct t=0/\zfA d o t=false:=by
 simp only[zpu,Bool.and_eq_true,decide_eq_true_eq,Bool.not_eq_true',beq_eq_false_iff_ne,ne_eq]at h
 obtain⟨h1,h2,h3,h4,h5,_⟩:=h
 exact⟨h1,h2,by simp[zfA,h3,h4,h5]⟩
def zia(op ty:Int):W:={ op:=op,ty:=ty,n:=0,body:=0,other:=0,name:=[] }
theorem zq7{t:Tok}(h:zpu t=true):t≠zB:=by
 simp only[zpu,Bool.and_eq_true,decide_eq_true_eq,Bool.not_eq_true',beq_eq_false_iff_ne,ne_eq]at h
 exact h.2.2.2.2.2
theorem zat{t:Tok}{w:W}(h1:zL zdT t=none)(h2:zL zh2 t=some w)(s:Ts):zfz t s=.ok (w,s):=by
 unfold zfz
 rw[h1]
 simp only[h2]
theorem zcm{t:Tok}{w:W}{n:Int}(h1:zL zdT t=some w)(hn:-(2^63)<=n/\n<2^63)(ts:List Tok)(ls:To):zfz t ⟨zt (Lib.itoa n::ts),ls⟩=.ok ({ w with n:=n },⟨zt ts,ls⟩):=by
 unfold zfz
 rw[h1]
 simp only[zdW hn,Except.map]
theorem zl4{w:W}(hf:zQ w=true)(hn:zbP w=false)(hr:RgW w):∃t r,zcN w=t::r/\zpu t=true/\∀(ts:List Tok) (ls:To),zfz t ⟨zt (r++ts),ls⟩=.ok (zaX w,⟨zt ts,ls⟩):=by
 obtain⟨op,ty,n,body,other,name⟩:=w
 simp only[zbP,Bool.or_eq_false_iff,decide_eq_false_iff_not]at hn
 unfold zQ at hf
 simp only at hf
 by_cases h1:op=1\/op=5
 .rw[if_pos h1]at hf
  simp only[zT,Bool.or_eq_true,decide_eq_true_eq]at hf
  rcases h1 with rfl|rfl<;>rcases hf with rfl|rfl
  .exact⟨[105,51,50,46,99,111,110,115,116],[Lib.itoa n],rfl,by decide,λts ls=>zcm (t:=[105,51,50,46,99,111,110,115,116]) (w:=zia 1 1) (by decide) hr ts ls⟩
  .exact⟨[105,54,52,46,99,111,110,115,116],[Lib.itoa n],rfl,by decide,λts ls=>zcm (t:=[105,54,52,46,99,111,110,115,116]) (w:=zia 1 2) (by decide) hr ts ls⟩
  .exact⟨[105,51,50,46,101,113,122],[],rfl,by decide,λts ls=>zat (by rfl) (by rfl) _⟩
  .exact⟨[105,54,52,46,101,113,122],[],rfl,by decide,λts ls=>zat (by rfl) (by rfl) _⟩
 .rw[if_neg h1]at hf
  by_cases h4:op=4
  .subst h4
   rw[if_pos rfl]at hf
   simp only[Bool.and_eq_true,Bool.not_eq_true',beq_eq_false_iff_ne,ne_eq,zT,Bool.or_eq_true,decide_eq_true_eq]at hf
   obtain⟨a1,a2,a3⟩:=zou name (zf8 hf.2) ty (by simpa using hf.1)
   exact⟨_,_,rfl,a1,λts ls=>zat a2 a3 _⟩
  .rw[if_neg h4]at hf
   by_cases h8:op=8\/op=9
   .rw[if_pos h8]at hf
    simp only[zfx,Bool.or_eq_true,Bool.and_eq_true,decide_eq_true_eq]at hf
    rcases h8 with rfl|rfl<;>rcases hf with ⟨rfl,rfl|rfl⟩|⟨rfl,rfl⟩
    .exact⟨[105,51,50,46,108,111,97,100,56,95,115],[],rfl,by decide,λts ls=>zat (by rfl) (by rfl) _⟩
    .exact⟨[105,51,50,46,108,111,97,100],[],rfl,by decide,λts ls=>zat (by rfl) (by rfl) _⟩
    .exact⟨[105,54,52,46,108,111,97,100],[],rfl,by decide,λts ls=>zat (by rfl) (by rfl) _⟩
    .exact⟨[105,51,50,46,115,116,111,114,101,56],[],rfl,by decide,λts ls=>zat (by rfl) (by rfl) _⟩
    .exact⟨[105,51,50,46,115,116,111,114,101],[],rfl,by decide,λts ls=>zat (by rfl) (by rfl) _⟩
    .exact⟨[105,54,52,46,115,116,111,114,101],[],rfl,by decide,λts ls=>zat (by rfl) (by rfl) _⟩
   .rw[if_neg h8]at hf
    simp only[Bool.and_eq_true,decide_eq_true_eq]at hf
    rcases(show op=2\/op=3\/op=10\/op=14\/op=15\/op=6\/op=7\/op=16\/op=17\/op=18 by omega)with rfl|rfl|rfl|rfl|rfl|rfl|rfl|rfl|rfl|rfl
    .exact⟨[108,111,99,97,108,46,103,101,116],[Lib.itoa n],rfl,by decide,λts ls=>zcm (t:=[108,111,99,97,108,46,103,101,116]) (w:=zia 2 0) (by decide) hr ts ls⟩
    .exact⟨[108,111,99,97,108,46,115,101,116],[Lib.itoa n],rfl,by decide,λts ls=>zcm (t:=[108,111,99,97,108,46,115,101,116]) (w:=zia 3 0) (by decide) hr ts ls⟩
    .exact⟨[99,97,108,108],[Lib.itoa n],rfl,by decide,λts ls=>zcm (t:=[99,97,108,108]) (w:=zia 10 0) (by decide) hr ts ls⟩
    .exact⟨[98,114],[Lib.itoa n],rfl,by decide,λts ls=>zcm (t:=[98,114]) (w:=zia 14 0) (by decide) hr ts ls⟩
    .exact⟨[98,114,95,105,102],[Lib.itoa n],rfl,by decide,λts ls=>zcm (t:=[98,114,95,105,102]) (w:=zia 15 0) (by decide) hr ts ls⟩
    .exact⟨[105,51,50,46,119,114,97,112,95,105,54,52],[],rfl,by decide,λts ls=>zat (by rfl) (by rfl) _⟩
    .exact⟨[105,54,52,46,101,120,116,101,110,100,95,105,51,50,95,115],[],rfl,by decide,λts ls=>zat (by rfl) (by rfl) _⟩
    .exact⟨[114,101,116,117,114,110],[],rfl,by decide,λts ls=>zat (by rfl) (by rfl) _⟩
    .exact⟨[117,110,114,101,97,99,104,97,98,108,101],[],rfl,by decide,λts ls=>zat (by rfl) (by rfl) _⟩
    .exact⟨[100,114,111,112],[],rfl,by decide,λts ls=>zat (by rfl) (by rfl) _⟩
theorem zkH{op:Int}(h:op=11\/op=12\/op=13)(d:Nat)(o:Bool):zcO (zbw op)=true/\zct (zbw op)=op/\zfA d o (zbw op)=false:=by
 rcases h with rfl|rfl|rfl
 .exact⟨by decide,by decide,by simp[zfA,zbw,zjm,zda,zf,zci]⟩
 .exact⟨by decide,by decide,by simp[zfA,zbw,zpe,zda,zf,zci]⟩
 .exact⟨by decide,by decide,by simp[zfA,zbw,tIf,zda,zf,zci]⟩
theorem zq8{ls:To}{d:Nat}{ws:List W}{acc acc':To}{toks:List Tok}{out:List W}(h:Pr ls d ws acc toks out acc'):∀(k:Nat) (o:Bool) (l:List W) (e:Tok) (rest:List Tok),toks.length<k->zcO e=true->zfA d o e=true ->
  zad k d o l ⟨zt (toks++e::rest),acc⟩=.ok (((acc'.length:Int),e),⟨zt rest,acc'++[l++out]⟩):=by
 induction h with
 | nil d acc =>
  intro k o l e rest hk he hd
  obtain⟨k,rfl⟩:∃j,k=j+1:=⟨k-1,by simp at hk;omega⟩
  rw[zad,yde,zbq he]
  simp only[Except.bind]
  rw[if_pos hd,yb8]
 | @leaf d w r acc t r' acc' hn hf hr _ ih =>
  intro k o l e rest hk he hd
  obtain⟨u,z,e1,e2,e3⟩:=zl4 hf hn hr
  rw[e1]at hk ⊢
  simp only[ycT,ydf,yac,yab]at hk ⊢
  obtain⟨k,rfl⟩:∃j,k=j+1:=⟨k-1,by omega⟩
  obtain⟨q1,q2,q3⟩:=zov e2 d o
  rw[zad,zbq q1]
  simp only[Except.bind]
  rw[if_neg (by simp[q3]),zdo,if_pos q2,e3]
  simp only
  rw[ih k o (l++[zaX w]) e rest (by omega) he hd]
  simp
 | @one d w b r acc tb b' acc1 t r' acc' ho hd4 hb0 hb _ _ ih1 ih2 =>
  intro k o l e rest hk he hd
  simp only[ycT,ydf,yac,yab]at hk ⊢
  obtain⟨k,rfl⟩:∃j,k=j+1:=⟨k-1,by omega⟩
  have ho':w.op=11\/w.op=12\/w.op=13:=by omega
  obtain⟨q1,q2,q3⟩:=zkH ho' d o
  rw[zad,zbq q1]
  simp only[Except.bind]
  rw[if_neg (by simp[q3]),zdo,q2,if_neg (by omega),zbE,if_neg (by omega)]
  rw[ih1 k (decide (w.op=13)) [] zda (t++e::rest) (by omega) (by decide) (by simp[zfA])]
  simp only[Except.bind]
  by_cases h13:w.op=13
  .rw[if_pos h13,if_neg (by decide)]
   simp only[yde]
   have:=ih2 k o (l++[zX w.op acc1.length (if w.op=13 then -1 else 0)]) e rest (by omega) he hd
   rw[if_pos h13,h13]at this
   rw[if_pos h13,h13]
   simp only[zX,ydf,ycT,yde]at this ⊢
   exact this
  .rw[if_neg h13]
   simp only[yde]
   have:=ih2 k o (l++[zX w.op acc1.length (if w.op=13 then -1 else 0)]) e rest (by omega) he hd
   rw[if_neg h13]at this
   rw[if_neg h13]
   simp only[zX,ydf,ycT,yde]at this ⊢
   exact this
 | @two d w b f r acc tb b' acc1 te e' acc2 t r' acc' ho ho2 hd4 hb0 hb hf _ _ _ ih1 ih2 ih3 =>
  intro k o l e rest hk he hd
  simp only[ycT,ydf,yac,yab]at hk ⊢
  obtain⟨k,rfl⟩:∃j,k=j+1:=⟨k-1,by omega⟩
  obtain⟨q1,q2,q3⟩:=zkH (op:=13) (by omega) d o
  have e13:zbw 13=tIf:=rfl
  rw[e13]at q1 q2 q3
  rw[zad,zbq q1]
  simp only[Except.bind]
  rw[if_neg (by simp[q3]),zdo,q2,if_neg (by omega),zbE,if_neg (by omega)]
  simp only
  rw[ih1 k (decide True) [] zci (te++zda::(t++e::rest)) (by omega) (by decide) (by simp[zfA])]
  simp only[Except.bind,yde]
  rw[if_pos trivial,if_pos trivial,ih2 k false [] zda (t++e::rest) (by omega) (by decide) (by simp[zfA])]
  simp only[Except.map,yde]
  have:=ih3 k o (l++[zX 13 acc1.length acc2.length]) e rest (by omega) he hd
  simp only[zX,ydf,ycT,yde]at this ⊢
  exact this
theorem zCB{B:Nat}{ls:To}(ha:zlS ls)(hf:∀l∈ls,∀w∈l,zQ w=true)(hr:RgL ls):∀(i:Nat) (d:Nat) (ws:List W) (acc:To),d+i<B->(∀w∈ws,zQ w=true)->(∀w∈ws,RgW w)->(∀n∈ws.flatMap zj,0<=n/\n<(i:Int)/\n<(ls.length:Int))->∃toks out acc',PrB B ls d ws acc toks out acc':=by
 intro i
 induction i using ybJ with
 | _ i ih =>
  intro d ws
  induction ws with
  | nil=>intro acc _ _ _ _;exact⟨[],[],acc,.nil d acc⟩
  | cons w ws ihw =>
   intro acc hd h1 h2 h3
   have rest:=λacc=>ihw acc hd (λv hv=>h1 v (by simp[hv])) (λv hv=>h2 v (by simp[hv])) λn hn=>h3 n (by rw[yaa];simp[hn])
   have hn:∀n∈zj w,0<=n/\n<(i:Int)/\n<(ls.length:Int):=λn hn=>h3 n (by rw[yaa];simp[hn])
   have sub:∀n:Int,(0<=n/\n<(i:Int)/\n<(ls.length:Int))->∃b,ls[n.toNat]?=some b/\∀acc,∃toks out acc',PrB B ls (d+1) b acc toks out acc':=λn hn=>by
    have hlt:n.toNat<ls.length:=by omega
    have hb:ls[n.toNat]?=some ls[n.toNat]:=yau hlt
    refine⟨_,hb,λacc=>ih n.toNat (by omega) (d+1) _ acc (by omega) (hf _ (yaw hlt)) (hr _ (yaw hlt)) λm hm=>?_⟩
    have:=ha n.toNat _ hb m hm
    omega
   cases hw:zbP w with
   | false =>
    obtain⟨t,o,a,hp⟩:=rest acc
    exact⟨_,_,_,.leaf hw (h1 w (by simp)) (h2 w (by simp)) hp⟩
   | true =>
    have hop:w.op=11\/w.op=12\/w.op=13:=zxS hw
    by_cases h13:w.op=13/\0<=w.other
    .have e:zj w=[w.body,w.other]:=by unfold zj;rw[if_neg (by omega),if_pos h13.1]
     rw[e]at hn
     have hb:=hn w.body (by simp)
     obtain⟨b,hb1,hb2⟩:=sub w.body hb
     obtain⟨e,he1,he2⟩:=sub w.other (hn w.other (by simp))
     obtain⟨tb,b',a1,p1⟩:=hb2 acc
     obtain⟨te,e',a2,p2⟩:=he2 (a1++[b'])
     obtain⟨t,o,a3,p3⟩:=rest (a2++[e'])
     exact⟨_,_,_,.two h13.1 h13.2 (by omega) hb.1 hb1 he1 p1 p2 p3⟩
    .have e:zj w=[w.body]:=by unfold zj;rw[if_pos (by omega)]
     rw[e]at hn
     have hb:=hn w.body (by simp)
     obtain⟨b,hb1,hb2⟩:=sub w.body hb
     obtain⟨tb,b',a1,p1⟩:=hb2 acc
     obtain⟨t,o,a3,p3⟩:=rest (a1++[b'])
     exact⟨_,_,_,.one (by omega) (by omega) hb.1 hb1 p1 p3⟩
def zCC(B:Nat)(f:F)(toks:List Tok)(ls':To):Prop:=∃row out acc,f.lists[f.lists.length-1]?=some row/\PrB B f.lists 0 row [] toks out acc/\ls'=acc++[out]
abbrev PrF:=zCC 400
theorem zuA{B:Nat}{fs:List F}{f:F}(h:zm fs f=.ok ())(hr:RgL f.lists)(hl:f.lists.length<=B):∃toks ls',zCC B f toks ls':=by
 obtain⟨h0,ha,_⟩:=zcl (zal h)
 have hlt:f.lists.length-1<f.lists.length:=by omega
 have hb:f.lists[f.lists.length-1]?=some f.lists[f.lists.length-1]:=yau hlt
 have hf:=Ck.forms_of h
 obtain⟨t,o,a,hp⟩:=zCB (B:=B) ha hf hr (f.lists.length-1) 0 f.lists[f.lists.length-1] [] (by omega) (hf _ (yaw hlt)) (hr _ (yaw hlt)) λm hm=>by
  have:=ha (f.lists.length-1) _ hb m hm
  omega
 exact⟨t,_,_,_,_,hb,hp,rfl⟩
def zI(kw:Tok)(l:List Int):List Tok:=if l=[]then []else zB::kw::(l.map zC++[zf])
def zkI(t:Int):List Tok:=if t=0 then []else [zB,zdS,zC t,zf]
def zgO(f:F)(toks:List Tok):List Tok:=zB::zbT::(36::f.name)::(zI zb3 f.params++(zkI f.type++(zI zaZ f.locals++(toks++[zf]))))
theorem zkJ{w:Tok}(hw:zcO w=true)(ts:List Tok)(ls:To):zf4 w ⟨zt (zB::w::ts),ls⟩=some ⟨zt ts,ls⟩:=by
 have e1:zdv (zt (zB::w::ts))=some (zB,zt (w::ts)):=by
  show zdv (32::(zB++zt (w::ts)))=_
  rw[zep (by decide),zeq (by decide)]
 have e2:zdv (zt (w::ts))=some (w,zt ts):=by
  show zdv (32::(w++zt ts))=_
  rw[zep (by decide),zeq hw]
 simp only[zf4,e1,if_pos,e2]
theorem zns{w u v:Tok}(hu:zcO u=true)(hv:zcO v=true)(h:u≠zB\/v≠w)(ts:List Tok)(ls:To):zf4 w ⟨zt (u::v::ts),ls⟩=none:=by
 have e1:zdv (zt (u::v::ts))=some (u,zt (v::ts)):=by
  show zdv (32::(u++zt (v::ts)))=_
  rw[zep (by decide),zeq hu]
 have e2:zdv (zt (v::ts))=some (v,zt ts):=by
  show zdv (32::(v++zt ts))=_
  rw[zep (by decide),zeq hv]
 unfold zf4
 simp only[e1]
 by_cases hu':u=zB
 .rw[if_pos hu']
  simp only[e2]
  rw[if_neg (by rcases h with h|h;exact absurd hu' h;exact h)]
 .rw[if_neg hu']
theorem zow{w u:Tok}(hu:zcO u=true)(h:u≠zB)(ts:List Tok)(ls:To):zf4 w ⟨zt (u::ts),ls⟩=none:=by
 have e1:zdv (zt (u::ts))=some (u,zt ts):=by
  show zdv (32::(u++zt ts))=_
  rw[zep (by decide),zeq hu]
 simp only[zf4,e1,if_neg h]
theorem zuB{t:Int}(h:t=1\/t=2):zcO (zC t)=true/\(zC t=zAp/\t=1\/zC t=zAq/\t=2):=by
 rcases h with rfl|rfl
 .exact⟨by decide,.inl ⟨rfl,rfl⟩⟩
 .exact⟨by decide,.inr ⟨rfl,rfl⟩⟩
theorem zdc:∀(l:List Int) (acc:List Int) (k:Nat) (ts:List Tok) (ls:To),(∀t∈l,t=1\/t=2)->acc++l≠[]->l.length<k->zb4 k acc ⟨zt (l.map zC++zf::ts),ls⟩=.ok (acc++l,⟨zt ts,ls⟩)
 | [],acc,k,ts,ls,_,hne,hk=>by
  obtain⟨k,rfl⟩:∃j,k=j+1:=⟨k-1,by simp at hk;omega⟩
  rw[zb4,ydg,yde,zbq (by decide)]
  simp only[Except.bind]
  rw[if_neg (by decide),if_neg (by decide),if_pos ⟨trivial,by simpa using hne⟩,yb8]
 | t::l,acc,k,ts,ls,h,hne,hk=>by
  obtain⟨k,rfl⟩:∃j,k=j+1:=⟨k-1,by simp at hk;omega⟩
  obtain⟨h1,h2⟩:=zuB (h t (by simp))
  rw[zb4,yaL,ycT,zbq h1]
  simp only[Except.bind]
  simp only[yac]at hk
  rcases h2 with ⟨e1,e2⟩|⟨e1,e2⟩
  .rw[if_pos e1,zdc l (acc++[1]) k ts ls (λx hx=>h x (by simp[hx])) (by simp) (by omega),<-e2]
   simp
  .rw[e1,if_neg (by decide),if_pos rfl,zdc l (acc++[2]) k ts ls (λx hx=>h x (by simp[hx])) (by simp) (by omega),<-e2]
   simp
theorem zdX:∀ts:List Tok,ts.length+1<=(zt ts).length
 | []=>by simp[zt]
 | t::r=>by
  have:=zdX r
  simp only[zt,yac,yab]
  omega
theorem zju{kw:Tok}(hkw:zcO kw=true){l:List Int}(h:∀t∈l,t=1\/t=2)(ts:List Tok)(ls:To)(hno:zf4 kw ⟨zt ts,ls⟩=none):zeB kw ⟨zt (zI kw l++ts),ls⟩=.ok (l,⟨zt ts,ls⟩):=by
 unfold zeB zI
 by_cases hl:l=[]
 .rw[if_pos hl,yde,hno,hl]
 .rw[if_neg hl]
  simp only[ycT,ydf,yde]
  rw[zkJ hkw]
  simp only
  have:=zdX (l.map zC++zf::ts)
  rw[zdc l [] _ ts ls h (by simpa using hl) (by simp at this ⊢;omega)]
  rfl
theorem zxT{ls:To}{d:Nat}{ws:List W}{acc acc':To}{toks:List Tok}{out:List W}(h:Pr ls d ws acc toks out acc'):toks=[]\/∃t r,toks=t::r/\zcO t=true/\t≠zB:=by
 cases h with
 | nil=>exact .inl rfl
 | leaf hn hf hr _ =>
  obtain⟨u,z,e1,e2,_⟩:=zl4 hf hn hr
  rw[e1]
  exact .inr ⟨u,_,rfl,(zov e2 0 false).1,zq7 e2⟩
 | one ho _ _ _ _ _ =>
  refine .inr ⟨_,_,rfl,(zkH (by omega) 0 false).1,?_⟩
  rcases ho with e|e|e
  .rw[e];decide
  .rw[e];decide
  .rw[e.1];decide
 | two=>exact .inr ⟨_,_,rfl,by decide,by decide⟩
theorem zCD{ls:To}{d:Nat}{ws:List W}{acc acc':To}{toks:List Tok}{out:List W}(h:Pr ls d ws acc toks out acc')(w:Tok)(ts:List Tok)(l:To):zf4 w ⟨zt (toks++zf::ts),l⟩=none:=by
 rcases zxT h with rfl|⟨t,r,rfl,h1,h2⟩
 .exact zow (by decide) (by decide) _ _
 .exact zow h1 h2 _ _
theorem zl5{kw w:Tok}(hkw:zcO kw=true)(hne:kw≠w){l:List Int}{ts:List Tok}{ls:To}(h:zf4 w ⟨zt ts,ls⟩=none):zf4 w ⟨zt (zI kw l++ts),ls⟩=none:=by
 unfold zI
 split
 .exact h
 .exact zns (by decide) hkw (.inr hne) _ _
theorem zxU{w:Tok}(hne:zdS≠w){t:Int}{ts:List Tok}{ls:To}(h:zf4 w ⟨zt ts,ls⟩=none):zf4 w ⟨zt (zkI t++ts),ls⟩=none:=by
 unfold zkI
 split
 .exact h
 .exact zns (by decide) (by decide) (.inr hne) _ _
theorem zib{c:UInt8}(h:(zae c||zK c)=true):zbc c=false:=by
 rw[Bool.or_eq_true]at h
 rcases h with h|h
 .simp only[zae,Bool.or_eq_true,Bool.and_eq_true,decide_eq_true_eq,beq_iff_eq]at h
  simp only[zbc,ydc,ydd,Bool.or_false,Bool.or_eq_false_iff,beq_eq_false_iff_ne,ne_eq]
  refine⟨?_,?_,?_,?_,?_⟩<;>(rintro rfl;rcases h with h|h;simp at h;simp at h)
 .exact zjt h
theorem zuC{mx:Nat}{n:Tok}(h:zh3 mx n=true):zcO (36::n)=true:=by
 have ha:∀c∈n,zbc c=false:=λc hc=>by
  cases n with
  | nil=>simp at hc
  | cons x r =>
   simp only[zh3,Bool.and_eq_true,decide_eq_true_eq]at h
   rcases ybD.1 hc with rfl|hc
   .exact zib (by rw[h.2.1];rfl)
   .exact zib (yaM.1 h.2.2 c hc)
 have h1:(n.all λc=>!zbc c)=true:=by
  rw[yaM]
  intro c hc
  simp[ha c hc]
 have h2:zbc 36=false:=by decide
 unfold zcO
 simp[h1,h2]
structure Pf(mx:Nat)(f:F):Prop where
 name:zh3 mx f.name=true
 params:∀t∈f.params,t=1\/t=2
 locals:∀t∈f.locals,t=1\/t=2
 type:f.type=0\/f.type=1\/f.type=2
theorem zi1{mx:Nat}{f:F}{toks:List Tok}{ls':To}(hf:Pf mx f)(hp:PrF f toks ls')(ts:List Tok)(ls:To):
  zck mx ⟨zt ((36::f.name)::(zI zb3 f.params++(zkI f.type++(zI zaZ f.locals++(toks++zf::ts))))),ls⟩=.ok ({ f with lists:=ls' },⟨zt ts,ls'⟩):=by
 obtain⟨row,out,acc,h1,h2,rfl⟩:=hp
 have a3:∀w l,zf4 w ⟨zt (toks++zf::ts),l⟩=none:=λw l=>zCD h2 w ts l
 have a2:∀l,zf4 zdS ⟨zt (zI zaZ f.locals++(toks++zf::ts)),l⟩=none:=λl=>zl5 (by decide) (by decide) (a3 _ l)
 have a1:∀l,zf4 zb3 ⟨zt (zkI f.type++(zI zaZ f.locals++(toks++zf::ts))),l⟩=none:=λl=>zxU (by decide) (zl5 (by decide) (by decide) (a3 _ l))
 unfold zck
 rw[zbq (zuC hf.name)]
 simp only[Except.bind,ycG,List.tail_cons]
 rw[if_pos ⟨trivial,hf.name⟩,zju (by decide) hf.params _ _ (a1 ls)]
 simp only
 have hres:zqR ⟨zt (zkI f.type++(zI zaZ f.locals++(toks++zf::ts))),ls⟩=.ok (f.type,⟨zt (zI zaZ f.locals++(toks++zf::ts)),ls⟩):=by
  unfold zqR
  by_cases ht:f.type=0
  .have e:zkI f.type=[]:=if_pos ht
   rw[e,yde,a2 ls,ht]
  .have e:zkI f.type=[zB,zdS,zC f.type,zf]:=if_neg ht
   rw[e]
   simp only[ycT,yde]
   rw[zkJ (by decide)]
   simp only
   have:=zdX (zC f.type::zf::(zI zaZ f.locals++(toks++zf::ts)))
   have q:=zdc [f.type] [] ((zt (zC f.type::zf::(zI zaZ f.locals++(toks++zf::ts)))).length+1) (zI zaZ f.locals++(toks++zf::ts)) ls (λt ht'=>by have:=hf.type;simp only[yc4]at ht';subst ht';omega) (by simp) (by simp at this ⊢;omega)
   simp only[yaL,ydg,ycT,yde]at q
   rw[q]
   simp[Except.bind]
 rw[hres]
 simp only
 rw[zju (by decide) hf.locals _ _ (a3 _ ls)]
 simp only
 have hlen:=zdX (toks++zf::ts)
 rw[zq8 h2 _ false [] zf ts (by simp at hlen;omega) (by decide) (by simp[zfA])]
 simp[Except.map]
inductive PrFsB(B:Nat):List F->List Tok->List F->Prop
 | nil:PrFsB B [] [] []
 | cons {f fs toks ls' ts fs'}:zCC B f toks ls'->PrFsB B fs ts fs'->PrFsB B (f::fs) (zgO f toks++ts) ({ f with lists:=ls' }::fs')
abbrev zpY:=PrFsB 400
theorem zic{mx:Nat}{fs fs':List F}{toks:List Tok}(h:zpY fs toks fs'):∀(hf:∀f∈fs,Pf mx f) (k:Nat) (acc:List F) (ts:List Tok) (ls:To),fs.length<k->(∀l,zf4 zbT ⟨zt ts,l⟩=none)->∃l',zak mx k acc ⟨zt (toks++ts),ls⟩=.ok (acc++fs',⟨zt ts,l'⟩):=by
 induction h with
 | nil =>
  intro hf k acc ts ls hk hn
  obtain⟨k,rfl⟩:∃j,k=j+1:=⟨k-1,by simp at hk;omega⟩
  refine⟨ls,?_⟩
  rw[zak,yde,hn]
  simp
 | @cons f fs toks ls' t fs' hp _ ih =>
  intro hf k acc ts ls hk hn
  simp only[yac]at hk
  obtain⟨k,rfl⟩:∃j,k=j+1:=⟨k-1,by omega⟩
  obtain⟨l',hl'⟩:=ih (λg hg=>hf g (by simp[hg])) k (acc++[{ f with lists:=ls' }]) ts ls' (by omega) hn
  refine⟨l',?_⟩
  rw[zak]
  simp only[zgO,ycT,ydf,yde]
  rw[zkJ (by decide)]
  simp only
  rw[zi1 (hf f (by simp)) hp]
  simp only[Except.bind]
  rw[hl']
  simp
theorem zcn:∀(l:List Tok) (ts:List Tok) (ls:To),(∀t∈l,zcO t=true)->zaD l ⟨zt (l++ts),ls⟩=.ok ⟨zt ts,ls⟩
 | [],ts,ls,_=>rfl
 | t::l,ts,ls,h=>by
  rw[zaD,ycT,zbq (h t (by simp))]
  simp only[Except.bind]
  rw[if_pos trivial]
  exact zcn l ts ls λx hx=>h x (by simp[hx])
def zv4:List Tok:=[zB,zcE,ziU,zB,zbT]
def zbV(m:M)(toks:List Tok):List Tok:=zbv++(Lib.itoa m.memory::zf::zf::(toks++(zv4++(Lib.itoa (yb5 .i64 (m.main+3))::[zf,zf,zf]))))
theorem ze4(x:Int):(-(2^63)<=yb5 .i64 x/\yb5 .i64 x<2^63)/\∃k:Int,yb5 .i64 x=x+2^64*k:=by
 simp only[yb5,yao,yap,Bool.true_and]
 split
 .rename_i k
  have k:=of_decide_eq_true k
  exact⟨by omega,-(x/2^64)-1,by omega⟩
 .rename_i k
  have k:=of_decide_eq_false (eq_false_of_ne_true k)
  exact⟨by omega,-(x/2^64),by omega⟩
theorem zpv{n d:Int}(h:-(2^63)<=n/\n<2^63):yb5 .i64 (yb5 .i64 (n+d)-d)=n:=by
 obtain⟨_,k,e⟩:=ze4 (n+d)
 obtain⟨r,j,e2⟩:=ze4 (yb5 .i64 (n+d)-d)
 rw[e]at e2 r ⊢
 omega
def zf9(ts:List Tok):List UInt8:=(zt ts).tail
theorem zl6{mx:Nat}{m:M}{toks:List Tok}{fs':List F}(h:zpY m.funcs toks fs')(hf:∀f∈m.funcs,Pf mx f)(hm:-(2^63)<=m.memory/\m.memory<2^63)(hn:-(2^63)<=m.main/\m.main<2^63):zgu mx (zf9 (zbV m toks))=.ok ⟨fs',m.memory,m.main⟩:=by
 have hcut:∀ts,zbv++ts≠[]->zb8 ⟨zf9 (zbv++ts),[]⟩=zb8 ⟨zt (zbv++ts),[]⟩:=λts _=>by
  have e:zdv (zf9 (zbv++ts))=zdv (zt (zbv++ts)):=rfl
  simp only[zb8,e]
 have hw:∀ts,zaD zbv ⟨zf9 (zbv++ts),[]⟩=zaD zbv ⟨zt (zbv++ts),[]⟩:=λts=>by
  have e:=hcut ts (by simp[zbv])
  have e2:∀s s':Ts,zb8 s=zb8 s'->zaD zbv s=zaD zbv s':=λs s' q=>by
   simp only[zbv,zaD,q]
  exact e2 _ _ e
 have w4:yb5 .i64 (yb5 .i64 (m.main+3)-3)=m.main:=zpv hn
 unfold zgu zf5 zbV
 rw[hw,zcn zbv _ _ (by decide)]
 simp only[Except.bind]
 rw[zdW hm]
 simp only
 have e1:=zcn [zf,zf] (toks++(zv4++(Lib.itoa (yb5 .i64 (m.main+3))::[zf,zf,zf]))) [] (by decide)
 simp only[ycT,yde]at e1
 rw[e1]
 simp only
 have hlen:=zdX (toks++(zv4++(Lib.itoa (yb5 .i64 (m.main+3))::[zf,zf,zf])))
 have hfl:∀{gs gs':List F} {us:List Tok},zpY gs us gs'->gs.length<=us.length:=λ{gs gs' us} q=>by
  induction q with
  | nil=>simp
  | cons _ _ ih=>simp only[zgO,yac,yab,ycT];omega
 have:=hfl h
 obtain⟨l',e2⟩:=zic h hf ((zt (toks++(zv4++(Lib.itoa (yb5 .i64 (m.main+3))::[zf,zf,zf])))).length+1) [] (zv4++(Lib.itoa (yb5 .i64 (m.main+3))::[zf,zf,zf])) [] (by simp only[yab]at hlen;omega)
  (λl=>zns (by decide) (by decide) (.inr (by decide)) _ _)
 rw[e2]
 simp only[yde]
 have e3:=zcn zv4 (Lib.itoa (yb5 .i64 (m.main+3))::[zf,zf,zf]) l' (by decide)
 have ee:[zB,zcE,ziU,zB,zbT]=zv4:=rfl
 rw[ee,e3]
 simp only
 rw[zdW (ze4 _).1]
 simp only
 have e4:=zcn [zf,zf,zf] [] l' (by decide)
 rw[yb8]at e4
 rw[e4]
 simp only[zt,w4]
 rfl
theorem zuD(t:Tok):zct t=0\/zct t=11\/zct t=12\/zct t=13:=by
 unfold zct
 split
 .simp
 .split
  .simp
  .split<;>simp
theorem bind_some{α β:Type}{r:Res α}{f:α->Res β}{y:β}(h:r.bind f=.ok y):∃x,r=.ok x/\f x=.ok y:=by
 cases r with
 | error e=>cases h
 | ok x=>exact⟨x,rfl,h⟩
theorem map_some{α β:Type}{r:Res α}{f:α->β}{y:β}(h:r.map f=.ok y):∃x,r=.ok x/\f x=y:=by
 cases r with
 | error e=>cases h
 | ok x=>simp only[Except.map,Except.ok.injEq]at h;exact⟨x,rfl,h⟩
theorem zbG{α:Type}{a:List α}{x:α}{fin:List α}(h:a++[x]<+:fin):fin[a.length]?=some x:=by
 obtain⟨z,rfl⟩:=h
 rw[ydf,List.getElem?_append_right (yah _)]
 simp
theorem zbr{ls:To}{d:Nat}{ws:List W}{acc acc':To}{toks:List Tok}{out:List W}(h:Pr ls d ws acc toks out acc'):acc<+:acc':=by
 induction h with
 | nil=>exact List.prefix_refl _
 | leaf _ _ _ _ ih=>exact ih
 | one _ _ _ _ _ _ ih1 ih2=>exact ih1.trans ((ydh _ _).trans ih2)
 | two _ _ _ _ _ _ _ _ _ ih1 ih2 ih3=>exact ih1.trans ((ydh _ _).trans (ih2.trans ((ydh _ _).trans ih3)))
end Go.Proofs.YtohfclafhegadaaGreatDoor

namespace Go.Proofs.YtohfclafhegadaaGreatDoor
open Go Go.Abs
def zco(J:AS)(x f:Nat):Prop:=∃cs v,J.objs x=some cs/\cs[1]?=some v/\zcL v=some f
structure zZ(x:Nat)(J J':AS):Prop where
 no:J.no<=J'.no
 nf:J.nf<=J'.nf
 obj:∀o,o<J.no->o≠x->J'.objs o=J.objs o
 fam:∀f,f<J.nf->¬zco J x f->J'.F f=J.F f
 use:∀f,f<J.nf->zco J' x f->zco J x f
theorem zZ.refl(x J):zZ x J J:=⟨yah _,yah _,λ_ _ _=>rfl,λ_ _ _=>rfl,λ_ _ h=>h⟩
theorem zZ.trans{x J J1 J2}(h:zZ x J J1)(h':zZ x J1 J2):zZ x J J2 where
 no:=yai h.no h'.no
 nf:=yai h.nf h'.nf
 obj o a b:=by rw[h'.obj o (yag a h.no) b,h.obj o a b]
 fam f a b:=by rw[h'.fam f (yag a h.nf) λu=>b (h.use f a u),h.fam f a b]
 use f a u:=h.use f a (h'.use f (yag a h.nf) u)
theorem ze.keepR{x J J'}(h:ze J J')(hx:x<J.no):zZ x J J' where
 no:=h.no
 nf:=h.nf
 obj o a _:=h.obj o a
 fam f a _:=h.fam f a
 use f _ u:=by unfold zco at *;rwa [h.obj x hx]at u
structure zah(x:Nat)(J J':AS):Prop where
 no:J.no<=J'.no
 nf:J.nf<=J'.nf
 obj:∀o,o<J.no->o≠x->J'.objs o=J.objs o
 fam:∀f,f<J.nf->J'.F f=J.F f
 lst:∀cs,J.objs x=some cs->∃cs',J'.objs x=some cs'/\cs'[1]?=cs[1]?
 some:(J.objs x).isSome=true
theorem zah.refl{x J cs}(h:J.objs x=yaR cs):zah x J J:=⟨yah _,yah _,λ_ _ _=>rfl,λ_ _=>rfl,λcs h=>⟨cs,h,rfl⟩,by rw[h];rfl⟩
theorem zah.trans{x J J1 J2}(h:zah x J J1)(h':zah x J1 J2):zah x J J2 where
 no:=yai h.no h'.no
 nf:=yai h.nf h'.nf
 obj o a b:=by rw[h'.obj o (yag a h.no) b,h.obj o a b]
 fam f a:=by rw[h'.fam f (yag a h.nf),h.fam f a]
 lst cs e:=by
  obtain⟨c1,e1,e2⟩:=h.lst cs e
  obtain⟨c2,e3,e4⟩:=h'.lst c1 e1
  exact⟨c2,e3,e4.trans e2⟩
 some:=h.some
theorem zah.r{x J J'}(h:zah x J J'):zZ x J J' where
 no:=h.no
 nf:=h.nf
 obj:=h.obj
 fam f a _:=h.fam f a
 use f a u:=by
  obtain⟨cs,v,h1,h2,h3⟩:=u
  obtain⟨c0,hc0⟩:=yay.1 h.some
  obtain⟨c1,e1,e2⟩:=h.lst c0 hc0
  rw[h1]at e1
  cases e1
  exact⟨c0,v,hc0,by rw[<-e2];exact h2,h3⟩
theorem ze.keepS{x J J' cs}(h:ze J J')(hx:x<J.no)(ho:J.objs x=yaR cs):zah x J J' where
 no:=h.no
 nf:=h.nf
 obj o a _:=h.obj o a
 fam f a:=h.fam f a
 lst cs e:=⟨cs,(h.obj x hx).trans e,rfl⟩
 some:=by rw[ho];rfl
theorem zah.set{x J cs cs'}(ho:J.objs x=yaR cs)(h:cs'[1]?=cs[1]?):zah x J (J.setO x cs') where
 no:=yah _
 nf:=yah _
 obj o _ ho:=by simp[ho]
 fam f _:=rfl
 lst c e:=⟨cs',by simp,by rw[h];rw[ho]at e;cases e;rfl⟩
 some:=by rw[ho];rfl
theorem zah.endF{x J Z}(K:zah x J Z){g:Nat}(hg:J.nf<=g):zah x J (Z.setF g .dead) where
 no:=K.no
 nf:=K.nf
 obj:=K.obj
 fam f a:=by
  have:¬f=g:=by omega
  simp[this]
  exact K.fam f a
 lst:=K.lst
 some:=K.some
theorem zah.newF{x J Z}(K:zah x J Z):zah x J Z.newF where
 no:=K.no
 nf:=ydi K.nf
 obj:=K.obj
 fam f a:=by
  have:=K.nf
  have:¬f=Z.nf:=by omega
  simp[this]
  exact K.fam f a
 lst:=K.lst
 some:=K.some
theorem zah.mrg{x J Z}(K:zah x J Z){g:Nat}(hg:J.nf<=g):zah x J (Z.mrg g λ_=>false) where
 no:=K.no
 nf:=K.nf
 obj o a b:=by simpa [AS.mrg]using K.obj o a b
 fam f a:=by
  have:¬f=g:=by omega
  simp[AS.mrg,zlG,this]
  exact K.fam f a
 lst cs e:=by
  obtain⟨c1,e1,e2⟩:=K.lst cs e
  exact⟨c1,by simpa [AS.mrg]using e1,e2⟩
 some:=K.some
def zGA:Go.Abs.Own->Option Nat
 | .stat _=>none
 | .fam f _=>some f
def ToR(base:Nat)(J:AS)(v:AV)(tO:To):Prop:=(tO=[]/\v=.nilsl)\/∃g tos,v=.sl (.fam g false) 1 tos/\base<=g/\g<J.nf/\J.F g=.alive/\All2 Al.RepE tos tO
theorem ToR.one{base J v bs}(h:ToR base J v bs):v.known=true/\v.one=true/\v.cells=[v]:=by rcases h with ⟨_,rfl⟩|⟨b,_,rfl,_⟩<;>simp
section
variable {G : Env} {J : AS} {R : Out -> AS -> Prop}
end
def zi2(J0:AS)(x sz:Nat)(Z:AS)(v:AV)(xs:List AV):Prop:=(xs=[]/\v=.nilsl)\/∃g,v=.sl (.fam g false) sz xs/\J0.nf<=g/\g<Z.nf/\Z.F g=.alive/\¬zco Z x g
theorem zi2.one{J0 x sz Z v xs}(h:zi2 J0 x sz Z v xs):v.known=true/\v.one=true/\v.cells=[v]:=by rcases h with ⟨_,rfl⟩|⟨b,rfl,_⟩<;>simp
theorem zi2.keep{J0 x sz Z Z' v xs}(h:zi2 J0 x sz Z v xs)(K:zZ x Z Z'):zi2 J0 x sz Z' v xs:=by
 rcases h with h|⟨g,h1,h2,h3,h4,h5⟩
 .exact .inl h
 .exact .inr ⟨g,h1,h2,yag h3 K.nf,(K.fam g h3 h5).trans h4,λu=>h5 (K.use g h3 u)⟩
theorem zZ.endF{x J Z}(K:zZ x J Z){g:Nat}(hg:J.nf<=g):zZ x J (Z.setF g .dead) where
 no:=K.no
 nf:=K.nf
 obj:=K.obj
 fam f a b:=by
  have:¬f=g:=by omega
  simp[this]
  exact K.fam f a b
 use f a u:=K.use f a u
theorem zZ.newF{x J Z}(K:zZ x J Z):zZ x J Z.newF where
 no:=K.no
 nf:=ydi K.nf
 obj:=K.obj
 fam f a b:=by
  have:=K.nf
  have:¬f=Z.nf:=by omega
  simp[this]
  exact K.fam f a b
 use f a u:=K.use f a u
section
variable {G : Env} {J : AS} {R : Out -> AS -> Prop}
end
theorem zZ.setO{x J Z o cs}(K:zZ x J Z)(ho:J.no<=o)(hox:o≠x):zZ x J (Z.setO o cs) where
 no:=K.no
 nf:=K.nf
 obj p a b:=by
  have:¬p=o:=by omega
  simp[this]
  exact K.obj p a b
 fam f a b:=K.fam f a b
 use f a u:=K.use f a (by
  obtain⟨cs',v,h1,h2,h3⟩:=u
  have:¬x=o:=λe=>hox e.symm
  simp[this]at h1
  exact⟨cs',v,h1,h2,h3⟩)
section
variable {G : Env} {J : AS} {R : Out -> AS -> Prop}
end
end Go.Proofs.YtohfclafhegadaaGreatDoor


namespace Go.Proofs.YtohfclafhegadaaGreatDoor
open Go Go.Abs
structure zga(x fo:Nat)(J J':AS):Prop where
 no:J.no<=J'.no
 nf:J.nf<=J'.nf
 obj:∀o,o<J.no->o≠x->o≠fo->J'.objs o=J.objs o
 fam:∀f,f<J.nf->J'.F f=J.F f
theorem zga.trans{x fo J J1 J2}(h:zga x fo J J1)(h':zga x fo J1 J2):zga x fo J J2 where
 no:=yai h.no h'.no
 nf:=yai h.nf h'.nf
 obj o a b c:=by rw[h'.obj o (yag a h.no) b c,h.obj o a b c]
 fam f a:=by rw[h'.fam f (yag a h.nf),h.fam f a]
theorem zah.f{x fo J J'}(h:zah x J J'):zga x fo J J':=⟨h.no,h.nf,λo a b _=>h.obj o a b,h.fam⟩
theorem zga.setO{x fo J J' o cs}(h:zga x fo J J')(ho:o=x\/o=fo\/J.no<=o):zga x fo J (J'.setO o cs) where
 no:=h.no
 nf:=h.nf
 obj p a b c:=by
  have:¬p=o:=by rcases ho with h|h|h<;>omega
  simp[this]
  exact h.obj p a b c
 fam:=h.fam
theorem zga.adds0{x fo J0 J J'}(K:zga x fo J J')(A:ze J0 J)(hx:J0.no<=x)(hf:J0.no<=fo):ze J0 J':=⟨yai A.no K.no,yai A.nf K.nf,λo ho=>by
 have:=A.no
 rw[K.obj o (by omega) (by omega) (by omega),A.obj o ho],λf hf=>by
 have:=A.nf
 rw[K.fam f (by omega),A.fam f hf]⟩
section
variable {G : Env} {J : AS} {R : Out -> AS -> Prop}
end
end Go.Proofs.YtohfclafhegadaaGreatDoor

namespace Go.Proofs.YtohfclafhegadaaGreatDoor
open Go Go.Abs
theorem zah.adds0{x J0 J J'}(K:zah x J J')(A:ze J0 J)(hx:J0.no<=x):ze J0 J':=⟨yai A.no K.no,yai A.nf K.nf,λo ho=>by
 have:=A.no
 rw[K.obj o (by omega) (by omega),A.obj o ho],λf hf=>by
 have:=A.nf
 rw[K.fam f (by omega),A.fam f hf]⟩
structure Fn(x mo fo:Nat)(C:List AV)(Z:AS):Prop where
 ob:Z.objs fo=some C
 lt:fo<Z.no
 fx:fo≠x
 fm:fo≠mo
section
variable {G : Env} {J : AS} {R : Out -> AS -> Prop}
end
theorem zq9{v p}(h:Al.FVE v p):v.cells.length=5:=by
 obtain⟨pv,lv,tv,rfl,_⟩:=h
 rfl
section
variable {G : Env} {J : AS} {R : Out -> AS -> Prop}
end
end Go.Proofs.YtohfclafhegadaaGreatDoor





namespace Go.Proofs.YtohfclafhegadaaGreatDoor
open Go Go.Abs
def ze5(ls:To):Nat:=(ls.map ycH).sum
theorem zcP(a:To)(l:List W):ze5 (a++[l])=ze5 a+l.length:=by simp[ze5]
end Go.Proofs.YtohfclafhegadaaGreatDoor
set_option maxRecDepth 100000
namespace Go.Proofs.YtohfclafhegadaaGreatDoor.Hd
open Go Go.Abs Go.Proofs.YtohfclafhegadaaGreatDoor
def fC:Nat->Nat × Bool × UInt8
 | 0=>(0,true,0)
 | i+1=>let c:=zk.getD i 0;let p:=fC i;(p.1+(if p.2.1&&!zaz c then 1 else 0),zaz c,p.2.2 ||| c)
def fS:Nat->Nat × Nat
 | 0=>(0,0)
 | i+1=>if zaz (zk.getD i 0)then(i+1,(fS i).2+1)else fS i
theorem sb_small:∀k,(fC k).1<=k:=by
 intro k
 induction k with
 | zero=>simp[fC]
 | succ k ih=>simp only[fC];split<;>omega
def fCells(k:Nat):List AV:=(zbv.take k).map ycR++yaj (47-k) (.str [])
theorem fS_fact:∀i:Fin 185,(zaz (zk.getD i 0)=true->zbv[(fS i).2]?=some ((zk.take i).drop (fS i).1)/\(fS i).2<47/\(fS i).1<=i/\i.1+1<185/\zaz (zk.getD (i.1+1) 0)=false/\fS (i.1+1)=(i.1+1,(fS i).2+1))/\(zaz (zk.getD i 0)=false->fS (i.1+1)=fS i):=by decide
theorem fS_end:fS 185=(176,46):=by decide
theorem fCells_step{k:Nat}{b:List UInt8}(h:zbv[k]?=some b):splice (fCells k) k [.str b]=fCells (k+1):=by
 have hk:=(yaq.1 h).1
 have hl:zbv.length=47:=rfl
 have ht:=zh7 h
 have hA:((zbv.take k).map ycR).length=k:=by simp;omega
 unfold splice fCells
 rw[yc5 hA,ht,yc6]
 have e:47-k=(47-(k+1))+1:=by omega
 have hd:((zbv.take k).map ycR++yaj (47-k) (ycR [])).drop (k+[ycR b].length)=yaj (47-(k+1)) (ycR []):=by
  rw[yc7,yc8 (by rw[hA];simp),hA,e]
  simp
 rw[hd]
 simp
theorem amake_strs{J:AS}{K:AV->AS->Prop}:zhF yca 22 (.int .i64 47) (.int .i64 47) J K=K (.slm J.no 0 1 47) (J.newO (fCells 0)):=by
 have e1:zcd yca 22=some 1:=by kernel_rfl
 have e2:zbh yca 22=some 16:=by kernel_rfl
 have e3:zaR yca 22=some (.str []):=by kernel_rfl
 have e4:(47:Int).toNat=47:=rfl
 simp[zhF,e1,e2,e3,e4,AV.cells,AV.known]
 exact Iff.rfl
section
variable {G : Env} {J : AS} {R : Out -> AS -> Prop}
def F1(J:AS)(a:Nat->AV)(Z:AS):Prop:=∃i:Nat,i<=zk.length/\a 0=.str zk/\a 3=.int .i64 ((fC i).1:Nat)/\a 4=.int .i64 (if(fC i).2.1 then 1 else 0)/\a 5=.int .u8 ((fC i).2.2.toNat:Nat)/\a 6=.int .i64 (i:Nat)/\Z=J
def F4(J:AS)(x:Nat)(a:Nat->AV)(Z:AS):Prop:=∃i:Nat,i<=zk.length/\a 0=.str zk/\a 9=.slm x 0 1 47/\a 10=.int .i64 ((fS i).2:Nat)/\a 11=.int .i64 ((fS i).1:Nat)/\a 12=.int .i64 (i:Nat)/\ze J Z/\x<Z.no/\Z.objs x=some (fCells (fS i).2)
theorem fields_calls(v3:G.g 0=.pv (.stat true) (.agg zdV))(h:∀x J',ze J J'->J.no<=x->x<J'.no->J'.objs x=some (zbv.map ycR)->R (.ret (.slm x 0 1 47)) J'):zzQ G 57 [.str zk] J R:=by
 refine zm3 rfl ?_
 have hL:zk.length=185:=rfl
 simp[zEa]
 refine zS (F1 J) (MU 6 (zk.length+1)) ⟨0,by omega,by simp,by simp[fC],by simp[fC],by simp[fC],by simp,rfl⟩ λa Z hI=>?_
 obtain⟨i,hi,a0,a3,a4,a5,a6,rfl⟩:=hI
 by_cases hlt:i<zk.length
 .have hlt':(i:Int)<(zk.length:Int):=by omega
  have hg:=yau hlt
  have hf:fC (i+1)=((fC i).1+(if(fC i).2.1&&!zaz zk[i]then 1 else 0),zaz zk[i],(fC i).2.2 ||| zk[i]):=by simp[fC,hg]
  have hn:=sb_small i
  generalize zk[i]=c at *
  have hs:=za1 c
  have w1:yb5 .i64 ((i:Int)+1)=((i+1:Nat):Int):=by rw[wrap_i64]<;>omega
  have w0:∀b:UInt8,zag .u8 (· ||| ·) (b.toNat:Int) (c.toNat:Int)=((b ||| c).toNat:Int):=λb=>zkG (· ||| ·) b c
  have c1:(c.toNat:Int)<256:=by have:=c.toNat_lt;omega
  generalize fC i=p at *
  obtain⟨n,ws,b⟩:=p
  have w2:yb5 .i64 ((n:Int)+1)=((n+1:Nat):Int):=by rw[wrap_i64]<;>omega
  have w3:yb5 .i64 (n:Int)=(n:Int):=by rw[wrap_i64]<;>omega
  have w4:yb5 .i64 0=0:=rfl
  have w5:yb5 .i64 1=1:=rfl
  have z0:zag .i64 (· ^^^ ·) (-1) 0=-1:=by decide
  have z1:zag .i64 (· ^^^ ·) (-1) 1=-2:=by decide
  have z2:zag .i64 (· &&& ·) 1 (-1)=1:=by decide
  have z3:zag .i64 (· &&& ·) 1 (-2)=0:=by decide
  have z4:zag .i64 (· &&& ·) 0 (-1)=0:=by decide
  have z5:zag .i64 (· &&& ·) 0 (-2)=0:=by decide
  have z6:yao .i64=true:=rfl
  cases hsp:zaz c<;>cases ws<;>simp only[hsp,if_true,if_false,Bool.false_eq_true]at hs hf a4 ⊢<;>simp at hn a3 a5<;>simp[zbl,a0,a3,a4,a5,a6,hlt',hg,v3,hs,c1,w0,w1,w2,w3,w4,w5,z0,z1,z2,z3,z4,z5,z6,-UInt8.toNat_or]<;>refine⟨⟨i+1,by omega,by simp[a0],by simp[hf],by simp[hf,hsp],by simp[hf],by simp,rfl⟩,?_⟩<;>simp only[MU,a6]<;>simp<;>omega
 .have hie:i=zk.length:=by omega
  subst hie
  have e1:fC zk.length=(47,false,(fC 185).2.2):=by decide
  have e2:¬(128:Int)<=((fC 185).2.2.toNat:Nat):=by decide
  rw[e1]at a3 a4 a5
  simp[zbl,zkn,a0,a3,a4,a5,a6,e2,amake_strs]
  refine zS (λa2 Z2=>a2 0=.str zk/\a2 9=.slm Z.no 0 1 47/\a2 10=.int .i64 0/\a2 12=.int .i64 0/\Z2=Z.newO (fCells 0)) (λ_ _=>0) ⟨by simp[a0],by simp,by simp,by simp,rfl⟩ λa2 Z2 hI2=>?_
  obtain⟨b0,b9,b10,b12,rfl⟩:=hI2
  have w5:0<zk.length:=by decide
  have g0:zk[0]'w5=40:=rfl
  have g1:UInt8.toNat 40=40:=rfl
  have t0:zdV[40]?=some (.int .u8 0):=(za1 40).trans (by rw[show zaz 40=false from rfl];rfl)
  simp[zcD,zhX,b0,b9,b10,b12,g0,g1,t0,v3,w5]
  refine zS (F4 Z Z.no) (MU 12 (zk.length+1)) ⟨0,by omega,by simp[b0],by simp[b9],by simp[b10,fS],by simp[fS],by simp[b12],(ze.refl Z).newO,by simp,by simp[fS]⟩ λa3 Z3 hI3=>?_
  obtain⟨i,hi,c0,c9,c10,c11,c12,hA,hx,ho⟩:=hI3
  by_cases hlt:i<zk.length
  .have hlt':(i:Int)<(zk.length:Int):=by omega
   have hg:=yau hlt
   obtain⟨f1,f2⟩:=fS_fact ⟨i,by omega⟩
   have hgd:zk.getD i 0=zk[i]:=by simp[hg]
   simp only[hgd]at f1 f2
   have w1:yb5 .i64 ((i:Int)+1)=((i+1:Nat):Int):=by rw[wrap_i64]<;>omega
   generalize zk[i]=c at *
   have hs:=za1 c
   have c1:(c.toNat:Int)<256:=by have:=c.toNat_lt;omega
   cases hsp:zaz c with
   | false =>
    rw[hsp]at hs
    have f2:=f2 hsp
    simp at hs
    simp[zbC,c0,c9,c10,c11,c12,hlt',hg,v3,hs,c1,w1]
    refine⟨⟨i+1,by omega,by simp[c0],by simp[c9],by simp[c10,f2],by simp[c11,f2],by simp,hA,hx,by simp[ho,f2]⟩,?_⟩
    simp only[MU,c12];simp;omega
   | true =>
    rw[hsp]at hs
    obtain⟨g1,g2,g3,g4,g5,g6⟩:=f1 hsp
    simp at hs
    simp[zbC,c0,c9,c10,c11,c12,hlt',hg,v3,hs,c1,w1,ho]
    have hlen:(fCells (fS i).2).length=47:=by
     simp only[fCells,yab,ybb,ybf,yba]
     have:zbv.length=47:=rfl
     omega
    refine⟨g3,by omega,by omega,by omega,?_⟩
    refine zS (λb Z4=>b 0=.str zk/\b 9=.slm Z.no 0 1 47/\b 10=.int .i64 (((fS i).2+1:Nat):Int)/\b 12=.int .i64 ((i+1:Nat):Int)/\ze Z Z4/\Z.no<Z4.no/\Z4.objs Z.no=some (fCells ((fS i).2+1))) (λ_ _=>0) ⟨by simp[c0],by simp[c9],by simp;rw[wrap_i64]<;>omega,by simp,hA.setO (by omega),by simp;exact hx,by simp;exact fCells_step g1⟩ λb Z4 hI4=>?_
    obtain⟨d0,d9,d10,d12,hA4,hx4,ho4⟩:=hI4
    have hlt2:(((i+1:Nat):Int))<(zk.length:Int):=by omega
    have hlt3:i+1<zk.length:=by omega
    have hg2:=yau hlt3
    have hgd2:zk.getD (i+1) 0=zk[i+1]:=by simp[hg2]
    simp only[hgd2]at g5
    generalize zk[i+1]=c' at *
    have hs2:=za1 c'
    rw[g5]at hs2
    have c1':(c'.toNat:Int)<256:=by have:=c'.toNat_lt;omega
    simp at hs2
    simp only[yc9,yda]at d12 hlt2
    simp[zc5,zdO,d0,d9,d10,d12,hlt2,hg2,v3,hs2,c1']
    refine⟨by omega,⟨i+1,by omega,by simp[d0],by simp[d9],by simp[d10,g6],by simp[g6],by simp[d12],hA4,hx4,by simp[ho4,g6]⟩,?_⟩
    simp only[MU,c12];simp[d12];omega
  .have hie:i=zk.length:=by omega
   subst hie
   have e3:fS zk.length=(176,46):=fS_end
   rw[e3]at c10 c11 ho
   have w6:(176:Int)<zk.length:=by decide
   have w7:176<zk.length:=by decide
   have w8:(zk.length:Int)-176=9:=by decide
   have e4:zk.drop 176=[105,51,50,46,99,111,110,115,116]:=by decide
   simp at c10 c11 ho
   simp[zbC,zf0,c0,c9,c10,c11,c12,ho,w6,w7]
   refine⟨by omega,by decide,?_⟩
   rw[fCells_step (k:=46) (b:=zk.drop 176) (by decide)]
   exact h Z.no _ (hA.setO (by omega)) (by omega) (by simpa using hx) (by simp;rfl)
end
end Go.Proofs.YtohfclafhegadaaGreatDoor.Hd
