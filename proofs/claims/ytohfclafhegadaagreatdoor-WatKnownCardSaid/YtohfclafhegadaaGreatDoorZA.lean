/- Parts of the proof of the row WatKnown: contracts of functions, each under the conditions that its theorem names. -/
import Derived.Test.YtohfclafhegadaaGreatDoorAbsB
import Derived.Lib.IndexMore
import Derived.Lib.AtoiAll
import Derived.Lib.ItoaNum
import Derived.Test.YtohfclafhegadaaGreatDoorGenP
import Derived.Test.YtohfclafhegadaaGreatDoorShelf
set_option linter.unusedSimpArgs false
set_option linter.unusedVariables false
set_option maxRecDepth 100000
open List renaming replicate->yaj,all_cons->ycV,all_append->ycW,length_cons->yac,length_nil->ybl,length->ycX,takeWhile_append_dropWhile->ycY,length_append->yab,getD_eq_getElem?_getD->ycZ,flatMap_cons->yaa,drop_eq_nil_iff->yc0,getElem?_eq_none->yb2,drop_drop->yc1,getElem?_eq_some_iff->yaq,length_eq_zero_iff->ybS,map_cons->yaL,sum_cons->yc2,getElem?_replicate->yc4,length_take->ybf,getElem?_eq_getElem->yau,all_eq_true->yaM,getElem_mem->yaw,mem_cons->ybC,take_succ_eq_append_getElem->yc5,take_of_length_le->yc7,take_length->yda,mem_map_of_mem->yaW,mem_of_getElem?->ydb,getElem_map->yak,cons_append->ydc,length_pos_iff->ybm,drop_eq_getElem_cons->ydd,mem_flatMap->ydg,all_eq_false->ydh,mem_iff_getElem->ydi,getElem_take->yaE,replicate_succ->ydj,length_map->ybb,not_mem_nil->ydk,mem_map->yaV,length_replicate->yba,dropWhile_cons->ydl,contains_cons->ydm,contains_nil->ydn,nil_append->ydo,append_nil->yb7,append_assoc->ydp
open Nat renaming le_refl->yah,strongRecOn->ybI,zero_le->yc3,le_trans->yai,lt_of_lt_of_le->yag
open Option renaming some->yaR,map_eq_some_iff->ybB
open Array renaming getElem?_eq_some_iff->yaU
open Int renaming toNat_natCast->ybe
open Go.Proofs.Tryz renaming prog->yb9
open Go.IntKind renaming wrap->yb4,signed->yao,bits->yap,i64->yam
open Go.Abs.AV renaming int->yc6,str->yc8,nilsl->yc9,ptr->yde,agg->ydf
namespace Go.Proofs.YtohfclafhegadaaGreatDoor
open Go Go.Abs
structure W where
 op:Int
 ty:Int
 n:Int
 body:Int
 other:Int
 name:List UInt8
deriving DecidableEq
abbrev To:=List (List W)
structure F where
 name:List UInt8
 params:List Int
 locals:List Int
 type:Int
 lists:To
structure M where
 funcs:List F
 memory:Int
 main:Int
structure St where
 stack:List Int
 any:Bool
abbrev Res:=Except Int
def zed(s:St):Res St :=
 if s.stack.length=0 then(if s.any then .ok s else .error 14)else .ok { s with stack:=s.stack.dropLast }
def zao:List Int->St->Res St
 | [],s=>.ok s
 | t::ts,s=>if s.stack.length=0\/s.stack.getLast?=some t then
   match zed s with
   | .ok s'=>zao ts s'
   | .error e=>.error e
  else .error 14
def zdP(s:St)(t:Int):St:=if t=0 then s else { s with stack:=s.stack++[t] }
def zpX:St:=⟨[],true⟩
def zH(ty:Int)(s:St):Res St:=if ty=0 then .ok s else zao [ty] s
def zac(t:Int):Bool:=decide (t=1)||decide (t=2)
def signs:List (List UInt8 × List UInt8):=[
 ([97,100,100],[43]),([115,117,98],[45]),([109,117,108],[42]),([100,105,118,95,115],[47]),([114,101,109,95,115],[37]),([97,110,100],[38]),([111,114],[124]),([120,111,114],[94]),
 ([115,104,108],[60,60]),([115,104,114,95,115],[62,62]),([101,113],[61,61]),([110,101],[33,61]),([108,116,95,115],[60]),([108,101,95,115],[60,61]),([103,116,95,115],[62]),([103,101,95,115],[62,61])]
def zbW:List (List UInt8 × List UInt8)->List UInt8->List UInt8
 | [],_=>[]
 | (x,y)::r,s=>if x=s then y else zbW r s
def zfP(t n:Int):Bool:=decide (t=1)&&(decide (n=1)||decide (n=4))||decide (t=2)&&decide (n=8)
def zT(w:W):Bool :=
 if w.op=1\/w.op=5 then zac w.ty
 else if w.op=4 then zac w.ty&&!(zbW signs w.name==[])
 else if w.op=8\/w.op=9 then zfP w.ty w.n
 else decide (1<=w.op)&&decide (w.op<=18)
def zbz(fs:List F)(n:Int):Option (List Int × Int) :=
 if n=0 then some ([],2)else if n=1 then some ([2],0)else if n=2 then some ([1],0)
 else if n<0 then none else(fs[(n-3).toNat]?).map λf=>(f.params,f.type)
def zyE(t v:Int):Int:=if t=3 then IntKind.i8.wrap v else if t=1 then IntKind.i32.wrap v else if t=2 then v else 0
def zU(fs:List F)(locals:List Int)(deep:Int)(w:W):Bool :=
 if w.op=1 then decide (zyE w.ty w.n=w.n)
 else if w.op=2\/w.op=3 then decide (0<=w.n)&&decide (w.n<(locals.length:Int))
 else if w.op=10 then(zbz fs w.n).isSome
 else if w.op=14\/w.op=15 then decide (0<=w.n)&&decide (w.n<=deep)
 else true
def zjO(locals:List Int)(n:Int):Int:=locals.getD n.toNat 0
def zyF:List UInt8:=[32,101,113,32,110,101,32,108,116,95,115,32,108,101,95,115,32,103,116,95,115,32,103,101,95,115,32]
def zH1(s:List UInt8):Bool:=Lib.contains zyF (32::(s++[32]))
def zho(r:Res St)(t:Int):Res St:=match r with
 | .ok s=>.ok (zdP s t)
 | .error e=>.error e
def zcm(fs:List F)(locals:List Int)(w:W)(s:St):Res St :=
 if w.op=1 then .ok (zdP s w.ty)
 else if w.op=2 then .ok (zdP s (zjO locals w.n))
 else if w.op=3 then zao [zjO locals w.n] s
 else if w.op=4 then zho (zao [w.ty,w.ty] s) (if zH1 w.name then 1 else w.ty)
 else if w.op=5 then zho (zao [w.ty] s) 1
 else if w.op=6 then zho (zao [2] s) 1
 else if w.op=7 then zho (zao [1] s) 2
 else if w.op=8 then zho (zao [1] s) w.ty
 else if w.op=9 then zao [w.ty,1] s
 else if w.op=10 then match zbz fs w.n with
  | some (ts,g)=>zho (zao ts.reverse s) g
  | none=>.ok s
 else if w.op=18 then zed s
 else .ok s
abbrev zmP:=Int->Int->Res Unit
def zV(fs:List F)(locals:List Int)(ty deep:Int)(look:zmP)(w:W)(s:St):Res St :=
 if zT w=false then .error 2
 else if zU fs locals deep w=false then .error 11
 else if w.op=11\/w.op=12 then match look w.body (deep+1)with
  | .ok _=>.ok s
  | .error e=>.error e
 else if w.op=13 then match zao [1] s with
  | .error e=>.error e
  | .ok s1=>match look w.body (deep+1)with
   | .error e=>.error e
   | .ok _=>if 0<=w.other then match look w.other (deep+1)with
     | .error e=>.error e
     | .ok _=>.ok s1
    else .ok s1
 else if w.op=15 then match zao [1] s with
  | .error e=>.error e
  | .ok s1=>if w.n=deep then zho (zH ty s1) ty else .ok s1
 else if w.op=14 then if w.n=deep then match zH ty s with
   | .error e=>.error e
   | .ok _=>.ok zpX
  else .ok zpX
 else if w.op=16 then match zH ty s with
  | .error e=>.error e
  | .ok _=>.ok zpX
 else if w.op=17 then .ok zpX
 else zcm fs locals w s
def zP(fs:List F)(locals:List Int)(ty deep:Int)(look:zmP):List W->St->Res St
 | [],s=>.ok s
 | w::ws,s=>match zV fs locals ty deep look w s with
  | .error e=>.error e
  | .ok s'=>zP fs locals ty deep look ws s'
def zH2(ty deep:Int)(s:St):Res Unit:=match (if deep=0 then zH ty s else .ok s)with
 | .error e=>.error e
 | .ok s'=>if s'.stack.length=0 then .ok ()else .error 14
def zaa(fs:List F)(locals:List Int)(ty:Int)(lists:To):Nat->zmP
 | 0,_,_=>.error (-1)
 | k+1,at_,deep=>match zP fs locals ty deep (zaa fs locals ty lists k) (lists.getD at_.toNat []) ⟨[],false⟩with
  | .error e=>.error e
  | .ok s=>zH2 ty deep s
def zi(w:W):List Int:=if w.op=11\/w.op=12\/(w.op=13/\w.other<0)then [w.body]else if w.op=13 then [w.body,w.other]else []
def zee(at_:Int)(named:List Bool)(n:Int):Res (List Bool) :=
 if 0<=n/\n<at_/\named.getD n.toNat true=false then .ok (named.set n.toNat true)else .error 11
def zbd(at_:Int):List Int->List Bool->Res (List Bool)
 | [],named=>.ok named
 | n::ns,named=>match zee at_ named n with
  | .error e=>.error e
  | .ok named'=>zbd at_ ns named'
def ziR(at_:Int):List W->List Bool->Res (List Bool)
 | [],named=>.ok named
 | w::ws,named=>match zbd at_ (zi w) named with
  | .error e=>.error e
  | .ok named'=>ziR at_ ws named'
def zca:Nat->To->List Bool->Res (List Bool)
 | _,[],named=>.ok named
 | k,l::ls,named=>match ziR (k:Int) l named with
  | .error e=>.error e
  | .ok named'=>zca (k+1) ls named'
def zcE(ls:To):Res Unit :=
 if ls.length=0 then .error 11 else match zca 0 ls (yaj ls.length false)with
  | .error e=>.error e
  | .ok named=>if(named.take (ls.length-1)).all (·==true)then .ok ()else .error 11
def zn(fs:List F)(f:F):Res Unit :=
 if((f.params++f.locals).all zac&&decide (0<=f.type)&&decide (f.type<=2))=false then .error 6 else match zcE f.lists with
  | .error e=>.error e
  | .ok _=>zaa fs (f.params++f.locals) f.type f.lists f.lists.length ((f.lists.length:Int)-1) 0
def zY(fs:List F):List F->Res Unit
 | []=>.ok ()
 | f::r=>match zn fs f with
  | .error e=>.error e
  | .ok _=>zY fs r
def zgL(m:M):Bool:=decide (0<=m.main)&&match m.funcs[m.main.toNat]? with
 | some f=>decide (f.type=1)&&decide (f.params.length=0)
 | none=>false
def za7(m:M):Res Unit :=
 if(decide (0<=m.memory)&&decide (m.memory<=4096))=false then .error 11 else match zY m.funcs m.funcs with
  | .error e=>.error e
  | .ok _=>if zgL m then .ok ()else .error 12
def zpY:Res Unit->Int
 | .ok _=>0
 | .error e=>e
def zB(c:UInt8):Bool:=decide (48<=c.toNat)&&decide (c.toNat<=57)
def zfG(acc:Nat)(d:List UInt8):Nat:=d.foldl (λa c=>a*10+(c.toNat-48)) acc
def zaE(t:List UInt8):List UInt8:=if t.head?=some 45 then t.tail else t
def zef(t:List UInt8):Int:=if t.head?=some 45 then -(zfG 0 (zaE t):Int)else zfG 0 (zaE t)
def zh0(t:List UInt8):Res Int :=
 if(zaE t).isEmpty||!(zaE t).all zB then .error 2
 else match Lib.atoiAll t with
  | .ok n=>if Lib.itoa n=t then .ok n else .error 11
  | _=>.error 11
theorem zjP(acc:Nat)(x y:List UInt8):zfG acc (x++y)=zfG (zfG acc x) y:=by simp[zfG]
theorem zog:∀(d:List UInt8) (acc:Nat),acc<=zfG acc d
 | [],acc=>yah _
 | c::d,acc=>by
  have:=zog d (acc*10+(c.toNat-48))
  show acc<=zfG (acc*10+(c.toNat-48)) d
  omega
theorem zro:∀(d:List UInt8) (acc:Nat),d.all zB=true->acc<18446744073709551616->Lib.parseUint10 acc d=if zfG acc d<18446744073709551616 then .ok (zfG acc d)else .range
 | [],acc,_,ha=>by simp[Lib.parseUint10,zfG,ha]
 | c::d,acc,h,ha=>by
  simp only[ycV,Bool.and_eq_true,zB,decide_eq_true_eq]at h
  obtain⟨⟨h1,h2⟩,h3⟩:=h
  have e:zfG acc (c::d)=zfG (acc*10+(c.toNat-48)) d:=rfl
  have m:=zog d (acc*10+(c.toNat-48))
  rw[Lib.parseUint10,if_pos ⟨h1,h2⟩,e]
  by_cases o1:1844674407370955162<=acc
  .rw[if_pos o1,if_neg (by omega)]
  .rw[if_neg o1]
   by_cases o2:18446744073709551616<=acc*10+(c.toNat-48)
   .rw[if_pos o2,if_neg (by omega)]
   .rw[if_neg o2]
    exact zro d _ (by simpa [zB]using h3) (by omega)
theorem zpZ(u:Nat):zfG 0 (Lib.decDigits u)=u:=by
 induction u using ybI with
 | _ u ih =>
  rw[Lib.decDigits]
  split
  .rename_i h
   simp[zfG]
   omega
  .rename_i h
   rw[zjP,ih (u/10) (by omega)]
   simp[zfG]
   omega
theorem zhp(u:Nat):(Lib.decDigits u).all zB=true:=by
 induction u using ybI with
 | _ u ih =>
  rw[Lib.decDigits]
  split
  .simp[zB];omega
  .rw[ycW,ih (u/10) (by omega)]
   simp[zB];omega
theorem zjQ(u:Nat):Lib.decDigits u≠[]:=by
 rw[Lib.decDigits]
 split<;>simp
theorem zjR(u:Nat):(Lib.decDigits u).head?≠some 45:=by
 intro h
 have h1:=zhp u
 cases hd:Lib.decDigits u with
 | nil=>exact zjQ u hd
 | cons c r =>
  rw[hd]at h h1
  simp only[List.head?_cons,yaR.injEq]at h
  subst h
  simp[zB]at h1
theorem zoh(n:Int):zaE (Lib.itoa n)=Lib.decDigits n.natAbs:=by
 unfold Lib.itoa zaE
 split
 .simp
 .rename_i h
  rw[if_neg (zjR _)]
  congr 1;omega
theorem zmQ(n:Int):zef (Lib.itoa n)=n:=by
 have h1:=zoh n
 unfold zef
 rw[h1,zpZ]
 unfold Lib.itoa
 split
 .simp;omega
 .rw[if_neg (zjR _)];omega
theorem zjS{t:List UInt8}(h1:zaE t≠[])(h2:(zaE t).all zB=true):Lib.atoiAll t=if -(2^63)<=zef t/\zef t<2^63 then .ok (zef t)else .range:=by
 cases t with
 | nil=>exact absurd rfl h1
 | cons c r =>
  have hp:∀d:List UInt8,d≠[]->d.all zB=true->Lib.parseMag d=if zfG 0 d<18446744073709551616 then .ok (zfG 0 d)else .range:=λd hd ha=>by
   rw[Lib.parseMag,if_neg hd,zro d 0 ha (by omega)]
  unfold Lib.atoiAll
  simp only
  by_cases hc:c=45
  .subst hc
   have hb:zaE (45::r)=r:=rfl
   rw[hb]at h1 h2
   have hv:zef (45::r)=-(zfG 0 r:Int):=rfl
   rw[hv,if_pos (show((45:UInt8).toNat=43\/(45:UInt8).toNat=45) from .inr rfl),hp r h1 h2]
   have e:((45:UInt8).toNat=45)=True:=eq_true rfl
   simp only[e,not_true,false_and,true_and,if_false,if_true]
   by_cases o:zfG 0 r<18446744073709551616
   .rw[if_pos o]
    simp only
    by_cases o2:9223372036854775808<zfG 0 r
    .rw[if_pos o2,if_neg (by omega)]
    .rw[if_neg o2,if_pos (by omega)]
   .rw[if_neg o,if_neg (by omega)]
  .have hb:zaE (c::r)=c::r:=by unfold zaE;rw[if_neg (by simpa using hc)]
   rw[hb]at h1 h2
   have hv:zef (c::r)=(zfG 0 (c::r):Int):=by unfold zef;rw[if_neg (by simpa using hc),hb]
   have hn45:¬c.toNat=45:=λe=>hc (UInt8.toNat_inj.1 e)
   have hn43:¬c.toNat=43:=λe=>by
    simp only[ycV,Bool.and_eq_true,zB,decide_eq_true_eq]at h2
    omega
   rw[hv,if_neg (by omega),hp _ h1 h2]
   simp only[hn45,not_false_eq_true,true_and,false_and,if_false]
   by_cases o:zfG 0 (c::r)<18446744073709551616
   .rw[if_pos o]
    simp only
    by_cases o2:9223372036854775808<=zfG 0 (c::r)
    .rw[if_pos o2,if_neg (by omega)]
    .rw[if_neg o2,if_pos (by omega)]
   .rw[if_neg o,if_neg (by omega)]
theorem zDM{t:List UInt8}(h1:zaE t≠[])(h2:(zaE t).all zB=true):zh0 t=if Lib.itoa (yb4 .i64 (zef t))=t then .ok (yb4 .i64 (zef t))else .error 11:=by
 have hw:∀x:Int,-(2^63)<=x->x<2^63->yb4 .i64 x=x:=λx a b=>by rw[wrap_i64]<;>omega
 unfold zh0
 rw[if_neg (by simp[h1,h2]),zjS h1 h2]
 by_cases o:-(2^63)<=zef t/\zef t<2^63
 .rw[if_pos o,hw _ o.1 o.2]
 .rw[if_neg o,if_neg]
  intro e
  have h3:=congrArg zef e
  rw[zmQ]at h3
  have h4:-(2^63)<=yb4 .i64 (zef t)/\yb4 .i64 (zef t)<2^63:=by
   have q:∀x:Int,-(2^63)<=yb4 .i64 x/\yb4 .i64 x<2^63:=λx=>by
    simp only[yb4,yao,yap,Bool.true_and,decide_eq_true_eq]
    have a1:=Int.emod_nonneg x (show(2:Int)^64≠0 by decide)
    have a2:=Int.emod_lt_of_pos x (show(0:Int)<2^64 by decide)
    split
    .rename_i k
     have k:=of_decide_eq_true k
     omega
    .rename_i k
     have k:=of_decide_eq_false (eq_false_of_ne_true k)
     omega
   exact q _
  rw[h3]at h4
  exact o h4
theorem zuk{n:Int}(h:-(2^63)<=n/\n<2^63):zh0 (Lib.itoa n)=.ok n:=by
 have hb:=zoh n
 rw[zDM (by rw[hb];exact zjQ _) (by rw[hb];exact zhp _),zmQ]
 have hw:yb4 .i64 n=n:=by rw[wrap_i64]<;>omega
 rw[hw,if_pos rfl]
def zek(c:UInt8):Bool:=[32,10].contains c
def zas(c:UInt8):Bool:=[32,10,40,41,34].contains c
def zrp(c:UInt8):Bool:=[34,10].contains c
def zc1(r:List UInt8):Option (List UInt8 × List UInt8):=match r.dropWhile λc=>!zrp c with
 | []=>none
 | x::z=>if x=34 then some (34::(r.takeWhile (λc=>!zrp c)++[34]),z)else none
def zcr(s:List UInt8):Option (List UInt8 × List UInt8):=match s.dropWhile zek with
 | []=>none
 | c::r=>if c=40\/c=41 then some ([c],r)else if c=34 then zc1 r else some (c::r.takeWhile (λx=>!zas x),r.dropWhile λx=>!zas x)
theorem zbD{s t r:List UInt8}(h:zcr s=some (t,r)):t.length+r.length<=s.length/\t≠[]:=by
 have hd:=(List.dropWhile_sublist zek (l:=s)).length_le
 unfold zcr at h
 split at h
 .cases h
 .rename_i c z e
  rw[e]at hd
  simp only[yac]at hd
  split at h
  .cases h
   exact⟨by simp only[yac,ybl];omega,by simp⟩
  .split at h
   .unfold zc1 at h
    split at h
    .cases h
    .rename_i x y e2
     split at h
     .cases h
      have h3:=congrArg ycX (ycY (p:=λc=>!zrp c) (l:=z))
      rw[e2]at h3
      simp only[yab,yac,ybl]at h3 ⊢
      exact⟨by omega,by simp⟩
     .cases h
   .cases h
    have h3:=congrArg ycX (ycY (p:=λx=>!zas x) (l:=z))
    simp only[yab,yac]at h3 ⊢
    exact⟨by omega,by simp⟩
def za3:List UInt8:=[40,32,109,111,100,117,108,101,32,40,32,105,109,112,111,114,116,32,34,101,110,118,34,32,34,105,110,34,32,40,32,102,117,110,99,32,40,32,114,101,115,117,108,116,32,105,54,52,32,41,32,41,32,41,32,40,32,105,109,112,111,114,116,32,34,101,110,118,34,32,34,111,117,116,34,32,40,32,102,117,110,99,32,40,32,112,97,114,97,109,32,105,54,52,32,41,32,41,32,41,32,40,32,105,109,112,111,114,116,32,34,101,110,118,34,32,34,116,114,97,112,34,32,40,32,102,117,110,99,32,40,32,112,97,114,97,109,32,105,51,50,32,41,32,41,32,41,32,40,32,109,101,109,111,114,121,32,49,32,41,32,40,32,103,108,111,98,97,108,32,105,51,50,32,40,32,105,51,50,46,99,111,110,115,116]
def zaF:List (List UInt8):=[[40],[109,111,100,117,108,101],[40],[105,109,112,111,114,116],[34,101,110,118,34],[34,105,110,34],[40],[102,117,110,99],[40],[114,101,115,117,108,116],[105,54,52],[41],[41],[41],[40],[105,109,112,111,114,116],[34,101,110,118,34],[34,111,117,116,34],[40],[102,117,110,99],[40],[112,97,114,97,109],[105,54,52],[41],[41],[41],[40],[105,109,112,111,114,116],[34,101,110,118,34],[34,116,114,97,112,34],[40],[102,117,110,99],[40],[112,97,114,97,109],[105,51,50],[41],[41],[41],[40],[109,101,109,111,114,121],[49],[41],[40],[103,108,111,98,97,108],[105,51,50],[40],[105,51,50,46,99,111,110,115,116]]
def zj:List UInt8:=[40]
def zd:List UInt8:=[41]
def zap:List UInt8:=[102,117,110,99]
def zaW:List UInt8:=[112,97,114,97,109]
def zcv:List UInt8:=[114,101,115,117,108,116]
def zaf:List UInt8:=[108,111,99,97,108]
def zbe:List UInt8:=[101,120,112,111,114,116]
def zeK:List UInt8:=[34,109,97,105,110,34]
def zBA:List UInt8:=[105,51,50]
def zBB:List UInt8:=[105,54,52]
def zcF:List UInt8:=[98,108,111,99,107]
def zfH:List UInt8:=[108,111,111,112]
def tIf:List UInt8:=[105,102]
def zaX:List UInt8:=[101,108,115,101]
def zbE:List UInt8:=[101,110,100]
def zaY:List (List UInt8):=[[97,100,100],[115,117,98],[109,117,108],[100,105,118,95,115],[114,101,109,95,115],[97,110,100],[111,114],[120,111,114],[115,104,108],[115,104,114,95,115],[101,113],[110,101],[108,116,95,115],[108,101,95,115],[103,116,95,115],[103,101,95,115]]
def zhq:List (List UInt8 × W):=[([105,51,50,46,119,114,97,112,95,105,54,52],{ op:=6,ty:=0,n:=0,body:=0,other:=0,name:=[] }),([105,54,52,46,101,120,116,101,110,100,95,105,51,50,95,115],{ op:=7,ty:=0,n:=0,body:=0,other:=0,name:=[] }),([105,51,50,46,108,111,97,100,56,95,115],{ op:=8,ty:=1,n:=1,body:=0,other:=0,name:=[] }),([105,51,50,46,108,111,97,100],{ op:=8,ty:=1,n:=4,body:=0,other:=0,name:=[] }),([105,54,52,46,108,111,97,100],{ op:=8,ty:=2,n:=8,body:=0,other:=0,name:=[] }),([105,51,50,46,115,116,111,114,101,56],{ op:=9,ty:=1,n:=1,body:=0,other:=0,name:=[] }),([105,51,50,46,115,116,111,114,101],{ op:=9,ty:=1,n:=4,body:=0,other:=0,name:=[] }),([105,54,52,46,115,116,111,114,101],{ op:=9,ty:=2,n:=8,body:=0,other:=0,name:=[] }),([114,101,116,117,114,110],{ op:=16,ty:=0,n:=0,body:=0,other:=0,name:=[] }),([117,110,114,101,97,99,104,97,98,108,101],{ op:=17,ty:=0,n:=0,body:=0,other:=0,name:=[] }),([100,114,111,112],{ op:=18,ty:=0,n:=0,body:=0,other:=0,name:=[] })]
def zr(t:Int):List UInt8:=if t=1 then zBA else zBB
def zcG(t:Int):List (List UInt8 × W):=(zaY.map λs=>(zr t++46::s,{ op:=4,ty:=t,n:=0,body:=0,other:=0,name:=s }))++[(zr t++[46,101,113,122],{ op:=5,ty:=t,n:=0,body:=0,other:=0,name:=[] })]
def zaG:List (List UInt8 × W):=zhq++(zcG 1++zcG 2)
def zaA:List (List UInt8 × W):=[([105,51,50,46,99,111,110,115,116],{ op:=1,ty:=1,n:=0,body:=0,other:=0,name:=[] }),([105,54,52,46,99,111,110,115,116],{ op:=1,ty:=2,n:=0,body:=0,other:=0,name:=[] }),([108,111,99,97,108,46,103,101,116],{ op:=2,ty:=0,n:=0,body:=0,other:=0,name:=[] }),([108,111,99,97,108,46,115,101,116],{ op:=3,ty:=0,n:=0,body:=0,other:=0,name:=[] }),([99,97,108,108],{ op:=10,ty:=0,n:=0,body:=0,other:=0,name:=[] }),([98,114],{ op:=14,ty:=0,n:=0,body:=0,other:=0,name:=[] }),([98,114,95,105,102],{ op:=15,ty:=0,n:=0,body:=0,other:=0,name:=[] })]
def zK(l:List (List UInt8 × W))(t:List UInt8):Option W:=(l.find? λp=>p.1==t).map (·.2)
structure Ts where
 b:List UInt8
 ls:To
def zaj(s:Ts):Res (List UInt8 × Ts):=match zcr s.b with
 | none=>.error 2
 | some p=>.ok (p.1,{ s with b:=p.2 })
def zx:List (List UInt8)->Ts->Res Ts
 | [],s=>.ok s
 | t::ts,s=>(zaj s).bind λp=>if p.1=t then zx ts p.2 else .error 2
def zfm(w:List UInt8)(s:Ts):Option Ts:=match zcr s.b with
 | none=>none
 | some p=>if p.1=zj then(match zcr p.2 with
  | none=>none
  | some q=>if q.1=w then some { s with b:=q.2 }else none)else none
def zR(s:Ts):Res (Int × Ts):=(zaj s).bind λp=>(zh0 p.1).map λn=>(n,p.2)
def zaH:Nat->List Int->Ts->Res (List Int × Ts)
 | 0,_,_=>.error (-1)
 | k+1,l,s=>(zaj s).bind λp =>
  if p.1=zBA then zaH k (l++[1]) p.2 else if p.1=zBB then zaH k (l++[2]) p.2 else if p.1=zd/\l≠[]then .ok (l,p.2)else .error 2
def zbA(t:List UInt8)(s:Ts):Res (W × Ts):=match zK zaA t with
 | some w=>(zR s).map λp=>({ w with n:=p.1 },p.2)
 | none=>match zK zaG t with
  | some w=>.ok (w,s)
  | none=>.error 2
def zag(t:List UInt8):Int:=if t=zcF then 11 else if t=zfH then 12 else if t=tIf then 13 else 0
abbrev zDN:=Nat->Bool->Ts->Res ((Int × List UInt8) × Ts)
def zad(rec:zDN)(op:Int)(d:Nat)(s:Ts):Res (W × Ts) :=
 if 400<d then .error 3
 else(rec d (decide (op=13)) s).bind λp =>
  if op=13 then(if p.1.2=zaX then(rec d false p.2).map λq=>({ op:=13,ty:=0,n:=0,body:=p.1.1,other:=q.1.1,name:=[] },q.2)
   else .ok ({ op:=13,ty:=0,n:=0,body:=p.1.1,other:=-1,name:=[] },p.2))
  else .ok ({ op:=op,ty:=0,n:=0,body:=p.1.1,other:=0,name:=[] },p.2)
def zaI(rec:zDN)(t:List UInt8)(d:Nat)(s:Ts):Res (W × Ts):=if zag t=0 then zbA t s else zad rec (zag t) (d+1) s
def zcS(d:Nat)(other:Bool)(t:List UInt8):Bool:=(decide (t=zbE)&&decide (0<d))||((decide (t=zd)&&decide (d=0))||(decide (t=zaX)&&other))
def zw:Nat->Nat->Bool->List W->Ts->Res ((Int × List UInt8) × Ts)
 | 0,_,_,_,_=>.error (-1)
 | k+1,d,o,l,s=>(zaj s).bind λp =>
  if zcS d o p.1=true then .ok (((p.2.ls.length:Int),p.1),{ p.2 with ls:=p.2.ls++[l] })
  else(zaI (λd o s=>zw k d o [] s) p.1 d p.2).bind λq=>zw k d o (l++[q.1]) q.2
def zN(c:UInt8):Bool:=(decide (97<=c.toNat)&&decide (c.toNat<=122))||c==95
def zeg(m:Nat)(t:List UInt8):Bool:=match t with
 | []=>false
 | c::r=>decide (t.length<=m)&&(zN c&&r.all λx=>zN x||zB x)
def zbB(w:List UInt8)(s:Ts):Res (List Int × Ts):=match zfm w s with
 | some s'=>zaH (s'.b.length+1) [] s'
 | none=>.ok ([],s)
def zjT(s:Ts):Res (Int × Ts):=match zfm zcv s with
 | some s'=>(zaH (s'.b.length+1) [] s').bind λr=>if r.1.length=1 then .ok (r.1.headD 0,r.2)else .error 2
 | none=>.ok (0,s)
def zL(mx:Nat)(s:Ts):Res (F × Ts):=(zaj s).bind λp =>
 if p.1.head?=some 36/\zeg mx p.1.tail=true then(zbB zaW p.2).bind λq=>(zjT q.2).bind λr=>(zbB zaf r.2).bind λu=>(zw (u.2.b.length+1) 0 false [] { u.2 with ls:=[] }).map λ(v:(Int × List UInt8) × Ts) =>
   ({ name:=p.1.tail,params:=q.1,locals:=u.1,type:=r.1,lists:=v.2.ls },v.2)
 else .error 2
def zC(mx:Nat):Nat->List F->Ts->Res (List F × Ts)
 | 0,_,_=>.error (-1)
 | k+1,l,s=>match zfm zap s with
  | none=>.ok (l,s)
  | some s'=>(zL mx s').bind λp=>zC mx k (l++[p.1]) p.2
def zcb(mx:Nat)(s:Ts):Res (M × Ts):=(zx zaF s).bind λs=>(zR s).bind λmem=>(zx [zd,zd] mem.2).bind λs=>(zC mx (s.b.length+1) [] s).bind λfs =>
 (zx [zj,zbe,zeK,zj,zap] fs.2).bind λs=>(zR s).bind λmn=>(zx [zd,zd,zd] mn.2).bind λs =>
  if s.b.all zek=true then .ok ({ funcs:=fs.1,memory:=mem.1,main:=yb4 .i64 (mn.1-3) },s)else .error 2
def za8(mx:Nat)(b:List UInt8):Res M:=(zcb mx ⟨b,[]⟩).map (·.1)
def zbX(f:Nat->Nat):Nat->Nat
 | 0=>0
 | k+1=>zbX f k+f k
theorem zgc{f g:Nat->Nat}:∀k,(∀i,i<k->f i=g i)->zbX f k=zbX g k
 | 0,_=>rfl
 | k+1,h=>by rw[zbX,zbX,zgc k λi hi=>h i (by omega),h k (by omega)]
def rt(T:Nat->Nat)(named:List Bool)(i:Nat):Nat:=if named.getD i true then 0 else T i
theorem zmR(named:List Bool)(n i:Nat):(named.set n true).getD i true=if i=n then true else named.getD i true:=by
 rw[ycZ,ycZ,List.getElem?_set]
 by_cases h:n=i
 .subst h
  rw[if_pos rfl,if_pos rfl]
  split<;>rfl
 .rw[if_neg h,if_neg (λe=>h e.symm)]
theorem zoi(T:Nat->Nat)(named:List Bool){n i:Nat}(h:i≠n):rt T (named.set n true) i=rt T named i:=by
 have e:(named.set n true).getD i true=named.getD i true:=by rw[zmR,if_neg h]
 unfold rt;rw[e]
theorem zoj(T:Nat->Nat)(named:List Bool)(n:Nat)(h:named.getD n true=false):∀k,n<k->zbX (rt T (named.set n true)) k+T n=zbX (rt T named) k
 | 0,hk=>by omega
 | k+1,hk=>by
  simp only[zbX]
  by_cases e:n=k
  .subst e
   have h1:zbX (rt T (named.set n true)) n=zbX (rt T named) n:=zgc n λi hi=>zoi T named (Nat.ne_of_lt hi)
   have h2:rt T (named.set n true) n=0:=by
    have e:(named.set n true).getD n true=true:=by rw[zmR,if_pos rfl]
    unfold rt;rw[e];rfl
   have h3:rt T named n=T n:=by unfold rt;rw[h];rfl
   omega
  .have ih:=zoj T named n h k (by omega)
   have h2:rt T (named.set n true) k=rt T named k:=zoi T named (λq=>e q.symm)
   omega
def zlu(l:List Int)(T:Nat->Nat):Nat:=(l.map λn=>T n.toNat).sum
theorem zgd(a b:List Int)(T):zlu (a++b) T=zlu a T+zlu b T:=by simp[zlu]
structure zmS(T:Nat->Nat)(k:Nat)(named named':List Bool)(ns:List Int):Prop where
 inside:∀n∈ns,0<=n/\n<(k:Int)
 sum:zbX (rt T named') k+zlu ns T=zbX (rt T named) k
 rest:∀i,k<=i->named'.getD i true=named.getD i true
 len:named'.length=named.length
theorem zmS.nil{T k named}:zmS T k named named []:=⟨by simp,by simp[zlu],λ_ _=>rfl,rfl⟩
theorem zmS.trans{T k a b c l m}(h:zmS T k a b l)(h':zmS T k b c m):zmS T k a c (l++m) where
 inside n hn:=(List.mem_append.1 hn).elim (h.inside n) (h'.inside n)
 sum:=by rw[zgd];have:=h.sum;have:=h'.sum;omega
 rest i hi:=(h'.rest i hi).trans (h.rest i hi)
 len:=h'.len.trans h.len
theorem zyG{T k named n named'}(h:zee (k:Nat) named n=.ok named'):zmS T k named named' [n]:=by
 unfold zee at h
 split at h
 .rename_i hc
  cases h
  obtain⟨h0,h1,h2⟩:=hc
  have hk:n.toNat<k:=by omega
  refine⟨by simp;exact⟨h0,h1⟩,by simpa [zlu]using zoj T named n.toNat h2 k hk,λi hi=>by rw[zmR,if_neg (by omega)],by simp⟩
 .cases h
theorem zok{T k}:∀{ns named named'},zbd (k:Nat) ns named=.ok named'->zmS T k named named' ns
 | [],_,_,h=>by simp[zbd]at h;subst h;exact .nil
 | n::ns,named,named',h=>by
  rw[zbd]at h
  split at h
  .cases h
  .rename_i named1 h1
   exact(zyG h1).trans (zok h)
theorem zp0{T k}:∀{ws named named'},ziR (k:Nat) ws named=.ok named'->zmS T k named named' (ws.flatMap zi)
 | [],_,_,h=>by simp[ziR]at h;subst h;exact .nil
 | w::ws,named,named',h=>by
  rw[ziR]at h
  split at h
  .cases h
  .rename_i named1 h1
   rw[yaa]
   exact(zok h1).trans (zp0 h)
def zol(ls:To):Prop:=∀(k:Nat) (row:List W),ls[k]?=some row->∀n∈row.flatMap zi,0<=n/\n<(k:Int)
theorem zjU(ls:To):∀(r:To) (k:Nat) (named named':List Bool),ls.drop k=r->zca k r named=.ok named'->∀j row,k<=j->ls[j]?=some row->∀n∈row.flatMap zi,0<=n/\n<(j:Int)
 | [],k,_,_,hd,_,j,row,hj,hr=>by
  have:ls.length<=k:=yc0.1 hd
  rw[yb2 (by omega)]at hr;cases hr
 | l::r,k,named,named',hd,h,j,row,hj,hr=>by
  rw[zca]at h
  split at h
  .cases h
  .rename_i named1 h1
   have hl:ls[k]?=some l:=by
    have:=congrArg (·[0]?) hd
    simpa using this
   have hd':ls.drop (k+1)=r:=by
    have:=congrArg (List.drop 1) hd
    simpa [yc1]using this
   by_cases e:j=k
   .subst e
    rw[hl]at hr;cases hr
    exact(zp0 (T:=λ_=>0) h1).inside
   .exact zjU ls r (k+1) named1 named' hd' h j row (by omega) hr
theorem zom(ls:To)(T g:Nat->Nat)(hT:∀k row,ls[k]?=some row->T k=g k+zlu (row.flatMap zi) T):∀(r:To) (k:Nat) (named named':List Bool),ls.drop k=r->zca k r named=.ok named'->k<=ls.length ->
  zbX (rt T named) k=zbX g k->named.length=ls.length->(∀i,k<=i->i<ls.length->named.getD i true=false) ->
  zbX (rt T named') ls.length=zbX g ls.length/\named'.length=ls.length/\(0<ls.length->k<ls.length->named'.getD (ls.length-1) true=false)
 | [],k,named,named',hd,h,hk,hs,hl,hf=>by
  have hlen:ls.length<=k:=yc0.1 hd
  simp[zca]at h
  subst h
  obtain rfl:k=ls.length:=by omega
  exact⟨hs,hl,λ_ h=>by omega⟩
 | l::r,k,named,named',hd,h,hk,hs,hlen,hf=>by
  rw[zca]at h
  split at h
  .cases h
  .rename_i named1 h1
   have hl:ls[k]?=some l:=by
    have:=congrArg (·[0]?) hd
    simpa using this
   have hd':ls.drop (k+1)=r:=by
    have:=congrArg (List.drop 1) hd
    simpa [yc1]using this
   have hk':k<ls.length:=(yaq.1 hl).1
   have N:=zp0 (T:=T) h1
   have hkk:named1.getD k true=false:=(N.rest k (yah _)).trans (hf k (yah _) hk')
   have hsum:zbX (rt T named1) (k+1)=zbX g (k+1):=by
    simp only[zbX]
    have h3:rt T named1 k=T k:=by unfold rt;rw[hkk];rfl
    have:=N.sum
    have:=hT k l hl
    omega
   have key:=zom ls T g hT r (k+1) named1 named' hd' h hk' hsum (N.len.trans hlen) λi hi hil=>(N.rest i (by omega)).trans (hf i (by omega) hil)
   refine⟨key.1,key.2.1,λh0 _=>?_⟩
   by_cases e:k+1<ls.length
   .exact key.2.2 h0 e
   .have:r=[]:=by
     have hdl:=congrArg ycX hd'
     rw[List.length_drop]at hdl
     exact ybS.1 (by omega)
    subst this
    simp[zca]at h
    subst h
    rw[show ls.length-1=k from by omega]
    exact hkk
def tot(g:Nat->Nat)(ls:To):Nat->Nat->Nat
 | 0,_=>0
 | f+1,k=>g k+zlu ((ls.getD k []).flatMap zi) (tot g ls f)
theorem zsu{l:List Int}{T U:Nat->Nat}(h:∀n∈l,T n.toNat=U n.toNat):zlu l T=zlu l U:=by
 induction l with
 | nil=>rfl
 | cons n l ih =>
  simp only[zlu,yaL,yc2]at ih ⊢
  rw[h n (by simp),ih λm hm=>h m (by simp[hm])]
theorem zsv(g:Nat->Nat){ls:To}(ha:zol ls):∀(f:Nat) (k:Nat),k<f->tot g ls (f+1) k=tot g ls f k:=by
 intro f
 induction f with
 | zero=>intro k h;omega
 | succ f ih =>
  intro k hk
  rw[tot,tot]
  congr 1
  refine zsu λn hn=>?_
  cases hr:ls[k]? with
  | none=>rw[ycZ,hr]at hn;simp at hn
  | some row =>
   rw[ycZ,hr]at hn
   have:=ha k row hr n hn
   exact ih n.toNat (by omega)
def zon(g:Nat->Nat)(ls:To)(k:Nat):Nat:=tot g ls ls.length k
theorem zp1(g:Nat->Nat){ls:To}(ha:zol ls){k:Nat}{row:List W}(h:ls[k]?=some row):zon g ls k=g k+zlu (row.flatMap zi) (zon g ls):=by
 have hk:=(yaq.1 h).1
 unfold zon
 rw[<-zsv g ha ls.length k hk,tot,ycZ,h]
 rfl
theorem zlv:∀k,zbX (λ_=>0) k=0
 | 0=>rfl
 | k+1=>by rw[zbX,zlv k]
theorem zcT{ls:To}(h:zcE ls=.ok ()):0<ls.length/\zol ls/\∀g,zon g ls (ls.length-1)=zbX g ls.length:=by
 unfold zcE at h
 split at h
 .cases h
 .rename_i h0
  split at h
  .cases h
  .rename_i named hr
   split at h
   .rename_i hall
    have ha:zol ls:=λk row hk=>zjU ls ls 0 _ _ (by simp) hr k row (yc3 _) hk
    refine⟨by omega,ha,λg=>?_⟩
    obtain⟨h1,h2,h3⟩:=zom ls (zon g ls) g (λk row hk=>zp1 g ha hk) ls 0 _ _ (by simp) hr (yc3 _) rfl (by simp) λi _ hi=>by
     rw[ycZ,yc4,if_pos hi];rfl
    obtain⟨L,hL⟩:∃L,ls.length=L+1:=⟨ls.length-1,by omega⟩
    have h3':=h3 (by omega) (by omega)
    rw[hL]at h1 h3' hall ⊢
    simp only[Nat.add_sub_cancel]at h3' hall ⊢
    rw[<-h1,zbX]
    have z:zbX (rt (zon g ls) named) L=0:=by
     have:zbX (rt (zon g ls) named) L=zbX (λ_=>0) L:=zgc L λi hi=>by
      have hm:(named.take L)[i]?=some true:=by
       have hlt:i<(named.take L).length:=by rw[ybf];omega
       rw[yau hlt]
       have:=yaM.1 hall _ (yaw hlt)
       simpa using this
      rw[List.getElem?_take,if_pos hi]at hm
      have e:named.getD i true=true:=by rw[ycZ,hm];rfl
      unfold rt;rw[e];rfl
     rw[this,zlv]
    have e:rt (zon g ls) named L=zon g ls L:=by unfold rt;rw[h3'];rfl
    rw[z,e];omega
   .cases h
def zg6(c:Nat->Nat)(ls:To):Nat:=(ls.map λl=>c l.length).sum
theorem zjV(c a b):zg6 c (a++b)=zg6 c a+zg6 c b:=by simp[zg6]
theorem zaJ{fs:List F}{f:F}(h:zn fs f=.ok ()):zcE f.lists=.ok ():=by
 unfold zn at h
 split at h
 .cases h
 .split at h
  .cases h
  .assumption
theorem zfQ{fs:List F}:∀{r:List F},zY fs r=.ok ()->∀f∈r,zn fs f=.ok ()
 | [],_,f,hf=>by simp at hf
 | g::r,h,f,hf=>by
  rw[zY]at h
  split at h
  .cases h
  .rename_i u hg
   rcases ybC.1 hf with rfl|hf
   .exact hg
   .exact zfQ h f hf
theorem zaZ{m:M}(h:za7 m=.ok ()):∀f∈m.funcs,zn m.funcs f=.ok ():=by
 unfold za7 at h
 split at h
 .cases h
 .split at h
  .cases h
  .rename_i u hf
   exact zfQ hf
def W.cs(w:W):List AV:=[.int .i64 w.op,.int .i64 w.ty,.int .i64 w.n,.int .i64 w.body,.int .i64 w.other,.str w.name]
def W.av(w:W):AV:=.agg w.cs
inductive All2{α β:Type}(R:α->β->Prop):List α->List β->Prop
 | nil:All2 R [] []
 | cons {x y xs ys} (h:R x y) (r:All2 R xs ys):All2 R (x::xs) (y::ys)
def zmT(v:AV)(l:List W):Prop:=(l=[]/\v=.nilsl)\/∃b,v=.sl (.stat b) 6 (l.map W.av)
def zDO(v:AV)(frm:To):Prop:=∃b rows,v=.sl (.stat b) 1 rows/\All2 zmT rows frm
def zcJ:AV->Option Nat
 | .sl (.fam g _) _ _=>some g
 | _=>none
end Go.Proofs.YtohfclafhegadaaGreatDoor


namespace Go.Proofs.YtohfclafhegadaaGreatDoor
open Go Go.Abs
theorem All2.length{α β:Type}{R:α->β->Prop}{xs ys}(h:All2 R xs ys):xs.length=ys.length:=by
 induction h<;>simp_all
theorem All2.get{α β:Type}{R:α->β->Prop}{xs ys}(h:All2 R xs ys){i:Nat}{y}(hy:ys[i]?=some y):∃x,xs[i]?=some x/\R x y:=by
 induction h generalizing i with
 | nil=>simp at hy
 | cons h r ih =>
  cases i with
  | zero=>simp at hy;subst hy;exact⟨_,by simp,h⟩
  | succ i=>simp at hy;simpa using ih hy
theorem All2.append{α β:Type}{R:α->β->Prop}{xs ys xs' ys'}(h:All2 R xs ys)(h':All2 R xs' ys'):All2 R (xs++xs') (ys++ys'):=by
 induction h with
 | nil=>exact h'
 | cons h r ih=>exact .cons h ih
theorem zyH{P:Program}{G:Env}{f:FuncId}{args:List AV}{J:AS}{R:Out->AS->Prop}
  (h:ACalls P G f args J λo J'=>R o J'\/∃v g p,o=.ret v/\J'.F g=.alive/\R (.ret (frz g v)) (J'.frz g p)):ACalls P G f args J R:=by
 intro M w cargs S g c
 refine(h M w cargs S g c).mono λe w' ⟨o,J',M',hR,h2,h3,h4⟩=>?_
 rcases hR with hR|⟨v,k,p,ho,ha,hR⟩
 .exact⟨o,J',M',hR,h2,h3,h4⟩
 subst ho
 refine⟨_,_,M'.frz k,hR,?_,h3.frz ha,h4.trans (zpF ha)⟩
 cases e<;>simp only[zck]at h2 ⊢
 exact h2.frz ha
theorem zK9(f:Nat)(w:W):frz f w.av=w.av:=by simp[W.av,W.cs]
theorem zBC(f:Nat)(l:List W):(l.map W.av).map (frz f)=l.map W.av:=by simp[Function.comp_def,zK9]
theorem zmT.frz{v l}(h:zmT v l)(f:Nat):frz f v=v:=by
 rcases h with ⟨_,rfl⟩|⟨b,rfl⟩
 .simp
 .rw[zdF,zBC]
theorem zrq{tos tO}(h:All2 zmT tos tO)(f:Nat):tos.map (frz f)=tos:=by
 induction h with
 | nil=>rfl
 | cons h r ih=>simp[h.frz f,ih]
theorem zDO.frz{v frm}(h:zDO v frm)(f:Nat):frz f v=v:=by
 obtain⟨b,rows,rfl,h⟩:=h
 rw[zdF,zrq h]
end Go.Proofs.YtohfclafhegadaaGreatDoor


namespace Go.Proofs.YtohfclafhegadaaGreatDoor
open Go Go.Abs
structure zb(J J':AS):Prop where
 no:J.no<=J'.no
 nf:J.nf<=J'.nf
 obj:∀o,o<J.no->J'.objs o=J.objs o
 fam:∀f,f<J.nf->J'.F f=J.F f
theorem zb.refl(J):zb J J:=⟨yah _,yah _,λ_ _=>rfl,λ_ _=>rfl⟩
theorem zb.trans{J J1 J2}(h:zb J J1)(h':zb J1 J2):zb J J2 where
 no:=yai h.no h'.no
 nf:=yai h.nf h'.nf
 obj o a:=by rw[h'.obj o (yag a h.no),h.obj o a]
 fam f a:=by rw[h'.fam f (yag a h.nf),h.fam f a]
theorem zb.newO{J J' cs}(h:zb J J'):zb J (J'.newO cs) where
 no:=yai h.no (by simp)
 nf:=h.nf
 obj o a:=by have:=h.no;simp;rw[if_neg (by omega)];exact h.obj o a
 fam:=h.fam
theorem zb.setO{J J' o cs}(h:zb J J')(ho:J.no<=o):zb J (J'.setO o cs) where
 no:=h.no
 nf:=h.nf
 obj p a:=by simp;rw[if_neg (by omega)];exact h.obj p a
 fam:=h.fam
theorem zb.newF{J J'}(h:zb J J'):zb J J'.newF where
 no:=h.no
 nf:=yai h.nf (by simp)
 obj:=h.obj
 fam f a:=by have:=h.nf;simp;rw[if_neg (by omega)];exact h.fam f a
theorem zb.setF{J J' f s}(h:zb J J')(hf:J.nf<=f):zb J (J'.setF f s) where
 no:=h.no
 nf:=h.nf
 obj:=h.obj
 fam g a:=by simp;rw[if_neg (by omega)];exact h.fam g a
theorem zb.frz{J J' f p}(h:zb J J')(hf:J.nf<=f)(hp:∀o,o<J.no->p o=false):zb J (J'.frz f p) where
 no:=h.no
 nf:=h.nf
 obj o a:=by simp[AS.frz,hp o a];exact h.obj o a
 fam g a:=by simp[AS.frz,zsm];rw[if_neg (by omega)];exact h.fam g a
def zaq(v:AV)(l:List Int):Prop:=(l=[]/\v=.nilsl)\/∃b,v=.sl (.stat b) 1 (l.map (.int .i64))
theorem zaq.frz{v l}(h:zaq v l)(f:Nat):frz f v=v:=by
 rcases h with ⟨_,rfl⟩|⟨b,rfl⟩<;>simp[Function.comp_def]
theorem zaq.one{v l}(h:zaq v l):v.known=true/\v.one=true/\v.cells=[v]:=by
 rcases h with ⟨_,rfl⟩|⟨b,rfl⟩<;>simp
def zsw(R:Out->AS->Prop)(o:Out)(J':AS):Prop:=R o J'\/∃v g p,o=.ret v/\J'.F g=.alive/\R (.ret (frz g v)) (J'.frz g p)
theorem zfn{P:Program}{G:Env}{f:FuncId}{args:List AV}{J:AS}{R:Out->AS->Prop}(h:ACalls P G f args J (zsw R)):ACalls P G f args J R:=zyH h
theorem zsw.froze{R:Out->AS->Prop}{v:AV}{J':AS}(g:Nat)(p:Nat->Bool)(h:J'.F g=.alive)(h2:R (.ret (frz g v)) (J'.frz g p)):zsw R (.ret v) J':=.inr ⟨v,g,p,rfl,h,h2⟩
def zcn(v:AV)(tO:To):Prop:=(tO=[]/\v=.nilsl)\/zDO v tO
theorem zcn.one{v l}(h:zcn v l):v.known=true/\v.one=true/\v.cells=[v]:=by
 rcases h with ⟨_,rfl⟩|⟨b,_,rfl,_⟩<;>simp
theorem zcn.frz{v l}(h:zcn v l)(f:Nat):frz f v=v:=by
 rcases h with ⟨_,rfl⟩|h
 .simp
 .exact h.frz f
def FV(v:AV)(f:F):Prop:=∃pv lv tv,v=.agg [.str f.name,pv,lv,.int .i64 f.type,tv]/\zaq pv f.params/\zaq lv f.locals/\zcn tv f.lists
def FsV(v:AV)(fs:List F):Prop:=(fs=[]/\v=.nilsl)\/∃b rows,v=.sl (.stat b) 5 rows/\All2 FV rows fs
def MV(v:AV)(m:M):Prop:=∃fv,v=.agg [fv,.int .i64 m.memory,.int .i64 m.main]/\FsV fv m.funcs
theorem FV.frz{v f}(h:FV v f)(g:Nat):frz g v=v:=by
 obtain⟨pv,lv,tv,rfl,h1,h2,h3⟩:=h
 simp[h1.frz,h2.frz,h3.frz]
end Go.Proofs.YtohfclafhegadaaGreatDoor

namespace Go.Proofs.YtohfclafhegadaaGreatDoor
open Go Go.Abs
theorem FsV.one{v l}(h:FsV v l):v.known=true/\v.one=true/\v.cells=[v]:=by
 rcases h with ⟨_,rfl⟩|⟨b,_,rfl,_⟩<;>simp
def MU(r n:Nat)(a:Nat->AV)(_:AS):Nat:=match a r with|.int _ i=>n-i.toNat|_=>0
theorem zaq.len{tv:AV}{ts:List Int}(h:zaq tv ts)(K:AV->Prop):zij yb9 44 tv K=K (.int .i64 (ts.length:Int)):=by
 rcases h with ⟨rfl,rfl⟩|⟨b,rfl⟩<;>simp
theorem FsV.len{fv:AV}{fs:List F}(h:FsV fv fs)(K:AV->Prop):zij yb9 26 fv K=K (.int .i64 (fs.length:Int)):=by
 rcases h with ⟨rfl,rfl⟩|⟨b,rows,rfl,hr⟩
 .simp
 .simp[hr.length]
theorem zcn.len{tv:AV}{ls:To}(h:zcn tv ls)(K:AV->Prop):zij yb9 55 tv K=K (.int .i64 (ls.length:Int)):=by
 rcases h with ⟨rfl,rfl⟩|⟨b,rows,rfl,hr⟩
 .simp
 .simp[hr.length]
theorem zmT.len{v:AV}{l:List W}(h:zmT v l)(K:AV->Prop):zij yb9 54 v K=K (.int .i64 (l.length:Int)):=by
 rcases h with ⟨rfl,rfl⟩|⟨b,rfl⟩<;>simp
theorem zmT.one{v l}(h:zmT v l):v.known=true/\v.one=true/\v.cells=[v]:=by
 rcases h with ⟨_,rfl⟩|⟨b,rfl⟩<;>simp
theorem zmT.at{v:AV}{l:List W}(h:zmT v l){i:Nat}(hi:i<l.length):∃b,∀K:AV->Prop,zA yb9 54 v (.int .i64 (i:Int)) K=K (.pv (.stat b) l[i].av):=by
 rcases h with ⟨rfl,_⟩|⟨b,rfl⟩
 .simp at hi
 .exact⟨b,λK=>by simp[hi]⟩
theorem zaq.at{v:AV}{l:List Int}(h:zaq v l){i:Nat}(hi:i<l.length):∃b,∀K:AV->Prop,zA yb9 44 v (.int .i64 (i:Int)) K=K (.pv (.stat b) (.int .i64 l[i])):=by
 rcases h with ⟨rfl,_⟩|⟨b,rfl⟩
 .simp at hi
 .exact⟨b,λK=>by simp[hi]⟩
theorem zcn.at{v:AV}{l:To}(h:zcn v l){i:Nat}(hi:i<l.length):∃b rv,zmT rv l[i]/\∀K:AV->Prop,zA yb9 55 v (.int .i64 (i:Int)) K=K (.pv (.stat b) rv):=by
 rcases h with ⟨rfl,_⟩|⟨b,rows,rfl,hr⟩
 .simp at hi
 .obtain⟨rv,h1,h2⟩:=hr.get (yau hi)
  exact⟨b,rv,h2,λK=>by simp[h1]⟩
theorem FsV.at{v:AV}{l:List F}(h:FsV v l){i:Nat}(hi:i<l.length):∃b fv,FV fv l[i]/\∀K:AV->Prop,zA yb9 26 v (.int .i64 (i:Int)) K=K (.pv (.stat b) fv):=by
 rcases h with ⟨rfl,_⟩|⟨b,rows,rfl,hr⟩
 .simp at hi
 .obtain⟨fv,h1,h2⟩:=hr.get (yau hi)
  exact⟨b,fv,h2,λK=>by simp[h1]⟩
def zFB(Z:AS)(base sz:Nat)(v:AV)(ys:List AV):Prop:=(ys=[]/\v=.nilsl)\/∃g,v=.sl (.fam g false) sz ys/\base<=g/\g<Z.nf/\Z.F g=.alive
theorem zFB.keep{Z Z':AS}{base sz:Nat}{v:AV}{ys:List AV}(h:zFB Z base sz v ys)(A:zb Z Z'):zFB Z' base sz v ys:=by
 rcases h with h|⟨g,rfl,h1,h2,h3⟩
 .exact .inl h
 .have:=A.nf
  exact .inr ⟨g,rfl,h1,by omega,(A.fam g h2).trans h3⟩
def CpI(sz:Nat)(v:AV)(xs:List AV)(J:AS)(a:Nat->AV)(Z:AS):Prop:=∃i:Nat,i<=xs.length/\a 0=v/\a 4=.int .i64 (i:Int)/\zFB Z J.nf sz (a 3) (xs.take i)/\zb J Z
theorem zeL{α:Type}{l:List α}{i:Nat}{x:α}(h:l[i]?=some x):l.take (i+1)=l.take i++[x]:=by
 obtain⟨hi,rfl⟩:=yaq.1 h
 exact yc5 hi
theorem zfR{G:Env}{v:AV}{l:List Int}{J:AS}{R:Out->AS->Prop}(hv:zaq v l)(hl:l.length<=2^40)(h:∀v' J',zaq v' l->zb J J'->R (.ret v') J'):zzQ G 184 [v] J R:=by
 refine zfn (zxX rfl ?_)
 have v1:=hv.one
 have v2:=hv.len
 simp[zHz]
 refine zy (CpI 1 v (l.map (.int .i64)) J) (MU 4 (l.length+1)) ⟨0,by omega,by simp,by simp,.inl ⟨by simp,by simp⟩,.refl _⟩ λa Z hI=>?_
 obtain⟨i,hi,a0,a4,hO,hA⟩:=hI
 have hi:i<=l.length:=by simpa using hi
 by_cases hlt:i<l.length
 .obtain⟨b,hix⟩:=hv.at hlt
  have hget:(l.map (yc6 .i64))[i]?=some (.int .i64 l[i]):=by simp[hlt]
  have w1:yb4 .i64 ((i:Int)+1)=((i+1:Nat):Int):=by rw[wrap_i64]<;>omega
  have htl:(l.take i).length=i:=by simp;omega
  have ts:=zeL hget
  generalize l[i]=x at *
  rcases hO with ⟨he,h3⟩|⟨g,h3,h4,h5,h6⟩
  .simp[zfj,a0,a4,v1,v2,hlt,hix,h3,w1]
   refine⟨⟨i+1,by simp;omega,by simp[a0],by simp,.inr ⟨Z.nf,?_,hA.nf,by simp,by simp⟩,hA.newF⟩,?_⟩
   .rw[ts,he];simp
   .simp only[MU,a4];simp;omega
  .simp[zfj,a0,a4,v1,v2,hlt,hix,h3,w1,h6]
   have hgn:=hA.nf
   refine⟨by omega,⟨i+1,by simp;omega,by simp[a0],by simp,.inr ⟨Z.nf,?_,hgn,by simp,by simp⟩,?_⟩,?_⟩
   .rw[ts];simp
   .exact⟨by simpa using hA.no,by simp;omega,λo ho=>by simpa using hA.obj o ho,λf hf=>by
     have:f≠g:=by omega
     simp[this]
     rw[if_neg (by omega)]
     exact hA.fam f hf⟩
   .simp only[MU,a4];simp;omega
 .have he:i=l.length:=by omega
  have hlt':¬(i:Int)<(l.length:Int):=by omega
  have htk:(l.map (yc6 .i64)).take i=l.map (yc6 .i64):=yc7 (by simp;omega)
  rw[htk]at hO
  rcases hO with ⟨hn,h3⟩|⟨g,h3,h4,h5,h6⟩
  .simp[zfj,zmL,a0,a4,v1,v2,hlt,h3]
   exact .inl (h _ _ (.inl ⟨by simpa using hn,rfl⟩) hA)
  .simp[zfj,zmL,a0,a4,v1,v2,hlt,h3]
   refine .froze g (λ_=>false) h6 ?_
   have:=h (.sl (.stat false) 1 (l.map (.int .i64))) (Z.frz g λ_=>false) (.inr ⟨_,rfl⟩) (hA.frz h4 λ_ _=>rfl)
   simpa [Function.comp_def]using this
theorem zoo{G:Env}{v:AV}{l:List W}{J:AS}{R:Out->AS->Prop}(hv:zmT v l)(hl:l.length<=2^40)(h:∀v' J',zmT v' l->zb J J'->R (.ret v') J'):zzQ G 224 [v] J R:=by
 refine zfn (zyk rfl ?_)
 have v1:=hv.one
 have v2:=hv.len
 simp[zHJ]
 refine zy (CpI 6 v (l.map W.av) J) (MU 4 (l.length+1)) ⟨0,by omega,by simp,by simp,.inl ⟨by simp,by simp⟩,.refl _⟩ λa Z hI=>?_
 obtain⟨i,hi,a0,a4,hO,hA⟩:=hI
 have hi:i<=l.length:=by simpa using hi
 by_cases hlt:i<l.length
 .obtain⟨b,hix⟩:=hv.at hlt
  have hget:(l.map W.av)[i]?=some l[i].av:=by simp[hlt]
  have w1:yb4 .i64 ((i:Int)+1)=((i+1:Nat):Int):=by rw[wrap_i64]<;>omega
  have ts:=zeL hget
  generalize l[i]=x at *
  rcases hO with ⟨he,h3⟩|⟨g,h3,h4,h5,h6⟩
  .simp[zfk,a0,a4,v1,v2,hlt,hix,h3,w1,W.av,W.cs]
   refine⟨⟨i+1,by simp;omega,by simp[a0],by simp,.inr ⟨Z.nf,?_,hA.nf,by simp,by simp⟩,hA.newF⟩,?_⟩
   .rw[ts,he];simp[W.av,W.cs]
   .simp only[MU,a4];simp;omega
  .have htl:((l.map W.av).take i).length=i:=by simp;omega
   generalize (l.map W.av).take i=done at *
   simp[zfk,a0,a4,v1,v2,hlt,hix,h3,w1,h6,W.av,W.cs]
   have hgn:=hA.nf
   refine⟨by omega,⟨i+1,by simp;omega,by simp[a0],by simp,.inr ⟨Z.nf,?_,hgn,by simp,by simp⟩,?_⟩,?_⟩
   .rw[ts];simp[W.av,W.cs]
   .exact⟨by simpa using hA.no,by simp;omega,λo ho=>by simpa using hA.obj o ho,λf hf=>by
     have:f≠g:=by omega
     simp[this]
     rw[if_neg (by omega)]
     exact hA.fam f hf⟩
   .simp only[MU,a4];simp;omega
 .have he:i=l.length:=by omega
  have hlt':¬(i:Int)<(l.length:Int):=by omega
  have htk:(l.map W.av).take i=l.map W.av:=yc7 (by simp;omega)
  rw[htk]at hO
  rcases hO with ⟨hn,h3⟩|⟨g,h3,h4,h5,h6⟩
  .simp[zfk,zmO,a0,a4,v1,v2,hlt,h3]
   exact .inl (h _ _ (.inl ⟨by simpa using hn,rfl⟩) hA)
  .simp[zfk,zmO,a0,a4,v1,v2,hlt,h3]
   refine .froze g (λ_=>false) h6 ?_
   have:=h (.sl (.stat false) 6 (l.map W.av)) (Z.frz g λ_=>false) (.inr ⟨_,rfl⟩) (hA.frz h4 λ_ _=>rfl)
   rw[ze9,if_pos rfl,zBC]
   exact this
def CpL(v:AV)(l:To)(J:AS)(a:Nat->AV)(Z:AS):Prop:=∃(i:Nat) (rows:List AV),i<=l.length/\a 0=v/\a 4=.int .i64 (i:Int)/\All2 zmT rows (l.take i)/\zFB Z J.nf 1 (a 3) rows/\zb J Z
theorem zjW{G:Env}{v:AV}{l:To}{J:AS}{R:Out->AS->Prop}(hv:zcn v l)(hl:l.length<=2^40)(hr:∀r∈l,r.length<=2^40)(h:∀v' J',zcn v' l->zb J J'->R (.ret v') J'):zzQ G 185 [v] J R:=by
 refine zfn (zxY rfl ?_)
 have v1:=hv.one
 have v2:=hv.len
 simp[zHA]
 refine zy (CpL v l J) (MU 4 (l.length+1)) ⟨0,[],by omega,by simp,by simp,by simpa using All2.nil,.inl ⟨rfl,by simp⟩,.refl _⟩ λa Z hI=>?_
 obtain⟨i,rows,hi,a0,a4,hR,hO,hA⟩:=hI
 by_cases hlt:i<l.length
 .obtain⟨b,rv,hrv,hix⟩:=hv.at hlt
  have hget:l[i]?=some l[i]:=yau hlt
  have w1:yb4 .i64 ((i:Int)+1)=((i+1:Nat):Int):=by rw[wrap_i64]<;>omega
  have ts:=zeL hget
  have hrl:=hr _ (yaw hlt)
  generalize l[i]=row at *
  have r1:=hrv.one
  have hlen:rows.length=i:=by rw[hR.length];simp;omega
  simp[zgH,a0,a4,v1,v2,hlt,hix,r1]
  refine zoo hrv hrl λrv' J1 hrv' A1=>?_
  have q1:=hrv'.one
  have hO1:=hO.keep A1
  have hA1:=hA.trans A1
  have hR1:All2 zmT (rows++[rv']) (l.take (i+1)):=by rw[ts];exact hR.append (.cons hrv' .nil)
  have hgn:=hA1.nf
  rcases hO1 with ⟨rfl,h3⟩|⟨g,h3,h4,h5,h6⟩
  .simp[q1,h3,w1,a4]
   refine⟨⟨i+1,[rv'],by omega,by simp[a0],by simp,by simpa using hR1,.inr ⟨J1.nf,by simp,hgn,by simp,by simp⟩,hA1.newF⟩,?_⟩
   simp only[MU,a4];simp;omega
  .simp[q1,h3,w1,h6,a4]
   refine⟨by omega,⟨i+1,rows++[rv'],by omega,by simp[a0],by simp,hR1,.inr ⟨J1.nf,by simp,hgn,by simp,by simp⟩,?_⟩,?_⟩
   .exact⟨by simpa using hA1.no,by simp;omega,λo ho=>by simpa using hA1.obj o ho,λf hf=>by
     have:f≠g:=by omega
     simp[this]
     rw[if_neg (by omega)]
     exact hA1.fam f hf⟩
   .simp only[MU,a4];simp;omega
 .have hlt':¬(i:Int)<(l.length:Int):=by omega
  have htk:l.take i=l:=yc7 (by omega)
  rw[htk]at hR
  rcases hO with ⟨rfl,h3⟩|⟨g,h3,h4,h5,h6⟩
  .simp[zgH,zmM,a0,a4,v1,v2,hlt,h3]
   have hn:l=[]:=by have:=hR.length;exact ybS.1 (by simpa using this.symm)
   exact .inl (h _ _ (.inl ⟨hn,rfl⟩) hA)
  .simp[zgH,zmM,a0,a4,v1,v2,hlt,h3]
   refine .froze g (λ_=>false) h6 ?_
   have:=h (.sl (.stat false) 1 rows) (Z.frz g λ_=>false) (.inr ⟨_,_,rfl,hR⟩) (hA.frz h4 λ_ _=>rfl)
   rw[ze9,if_pos rfl,zrq hR]
   exact this
theorem zp2{G:Env}{v:AV}{f:F}{J:AS}{R:Out->AS->Prop}(hv:FV v f)(h1:f.params.length<=2^40)(h2:f.locals.length<=2^40)(h3:f.lists.length<=2^40)(h4:∀r∈f.lists,r.length<=2^40)(h:∀v' J',FV v' f->zb J J'->R (.ret v') J'):zzQ G 148 [v] J R:=by
 refine zxB rfl ?_
 obtain⟨pv,lv,tv,rfl,hp,hl,ht⟩:=hv
 have p1:=hp.one
 have l1:=hl.one
 have t1:=ht.one
 simp[zHn,p1,l1,t1]
 have o1:((J.newO [yc8 f.name,pv,lv,yc6 yam f.type,tv]).newO [yc8 [],yc9,yc9,yc6 yam 0,yc9]).objs J.no=some [yc8 f.name,pv,lv,yc6 yam f.type,tv]:=by simp
 have o2:((J.newO [yc8 f.name,pv,lv,yc6 yam f.type,tv]).newO [yc8 [],yc9,yc9,yc6 yam 0,yc9]).objs (J.no+1)=some [yc8 [],yc9,yc9,yc6 yam 0,yc9]:=by simp
 have n1:((J.newO [yc8 f.name,pv,lv,yc6 yam f.type,tv]).newO [yc8 [],yc9,yc9,yc6 yam 0,yc9]).no=J.no+2:=by simp
 have A1:zb J ((J.newO [yc8 f.name,pv,lv,yc6 yam f.type,tv]).newO [yc8 [],yc9,yc9,yc6 yam 0,yc9]):=(zb.refl J).newO.newO
 generalize (J.newO [yc8 f.name,pv,lv,yc6 yam f.type,tv]).newO [yc8 [],yc9,yc9,yc6 yam 0,yc9]=J1 at *
 refine zfR hp h1 λpv' J2 hp' A2=>?_
 have p2:=hp'.one
 have o1:=(A2.obj _ (by omega)).trans o1
 have o2:=(A2.obj _ (by omega)).trans o2
 have n2:=A2.no
 have A2:=A1.trans A2
 simp[p2,o1,l1,splice]
 have o1:(J2.setO J.no [yc8 f.name,pv',lv,yc6 yam f.type,tv]).objs J.no=some [yc8 f.name,pv',lv,yc6 yam f.type,tv]:=by simp
 have o2:(J2.setO J.no [yc8 f.name,pv',lv,yc6 yam f.type,tv]).objs (J.no+1)=some [yc8 [],yc9,yc9,yc6 yam 0,yc9]:=by simp[o2]
 have n3:(J2.setO J.no [yc8 f.name,pv',lv,yc6 yam f.type,tv]).no=J2.no:=by simp
 have A3:zb J (J2.setO J.no [yc8 f.name,pv',lv,yc6 yam f.type,tv]):=A2.setO (yah _)
 generalize J2.setO J.no [yc8 f.name,pv',lv,yc6 yam f.type,tv]=J3 at *
 refine zfR hl h2 λlv' J4 hl' A4=>?_
 have l2:=hl'.one
 have o1:=(A4.obj _ (by omega)).trans o1
 have o2:=(A4.obj _ (by omega)).trans o2
 have n4:=A4.no
 have A4:=A3.trans A4
 simp[p2,l2,o1,t1,splice]
 have o1:(J4.setO J.no [yc8 f.name,pv',lv',yc6 yam f.type,tv]).objs J.no=some [yc8 f.name,pv',lv',yc6 yam f.type,tv]:=by simp
 have o2:(J4.setO J.no [yc8 f.name,pv',lv',yc6 yam f.type,tv]).objs (J.no+1)=some [yc8 [],yc9,yc9,yc6 yam 0,yc9]:=by simp[o2]
 have n5:(J4.setO J.no [yc8 f.name,pv',lv',yc6 yam f.type,tv]).no=J4.no:=by simp
 have A5:zb J (J4.setO J.no [yc8 f.name,pv',lv',yc6 yam f.type,tv]):=A4.setO (yah _)
 generalize J4.setO J.no [yc8 f.name,pv',lv',yc6 yam f.type,tv]=J5 at *
 refine zjW ht h3 h4 λtv' J6 ht' A6=>?_
 have t2:=ht'.one
 have o1:=(A6.obj _ (by omega)).trans o1
 have o2:=(A6.obj _ (by omega)).trans o2
 have n6:=A6.no
 have A6:=A5.trans A6
 simp[p2,l2,t2,o1,o2,splice]
 exact h _ _ ⟨pv',lv',tv',rfl,hp',hl',ht'⟩ ((A6.setO (yah _)).setO (by omega))
def CpF(v:AV)(l:List F)(J:AS)(a:Nat->AV)(Z:AS):Prop:=∃(i:Nat) (rows:List AV),i<=l.length/\a 0=v/\a 4=.int .i64 (i:Int)/\All2 FV rows (l.take i)/\zFB Z J.nf 5 (a 3) rows/\zb J Z
theorem zH3{rows:List AV}{l:List F}(h:All2 FV rows l)(g:Nat):rows.map (frz g)=rows:=by
 induction h with
 | nil=>rfl
 | cons h r ih=>simp[h.frz g,ih]
theorem zop{G:Env}{v:AV}{l:List F}{J:AS}{R:Out->AS->Prop}(hv:FsV v l)(hl:l.length<=2^40)(h1:∀f∈l,f.params.length<=2^40)(h2:∀f∈l,f.locals.length<=2^40)(h3:∀f∈l,f.lists.length<=2^40)(h4:∀f∈l,∀r∈f.lists,r.length<=2^40)
  (h:∀v' J',FsV v' l->zb J J'->R (.ret v') J'):zzQ G 82 [v] J R:=by
 refine zfn (zDt rfl ?_)
 have v1:=hv.one
 have v2:=hv.len
 simp[zL1]
 refine zy (CpF v l J) (MU 4 (l.length+1)) ⟨0,[],by omega,by simp,by simp,by simpa using All2.nil,.inl ⟨rfl,by simp⟩,.refl _⟩ λa Z hI=>?_
 obtain⟨i,rows,hi,a0,a4,hR,hO,hA⟩:=hI
 by_cases hlt:i<l.length
 .obtain⟨b,rv,hrv,hix⟩:=hv.at hlt
  have hget:l[i]?=some l[i]:=yau hlt
  have w1:yb4 .i64 ((i:Int)+1)=((i+1:Nat):Int):=by rw[wrap_i64]<;>omega
  have ts:=zeL hget
  have hm:=yaw hlt
  have b1:=h1 _ hm
  have b2:=h2 _ hm
  have b3:=h3 _ hm
  have b4:=h4 _ hm
  generalize l[i]=f at *
  have hlen:rows.length=i:=by rw[hR.length];simp;omega
  have hrv0:=hrv
  obtain⟨pv,lv,tv,rfl,hp,hll,ht⟩:=hrv
  have p1:=hp.one
  have l1:=hll.one
  have t1:=ht.one
  simp[zjN,a0,a4,v1,v2,hlt,hix,p1,l1,t1]
  refine zp2 hrv0 b1 b2 b3 b4 λrv' J1 hrv' A1=>?_
  have hO1:=hO.keep A1
  have hA1:=hA.trans A1
  have hR1:All2 FV (rows++[rv']) (l.take (i+1)):=by rw[ts];exact hR.append (.cons hrv' .nil)
  have hgn:=hA1.nf
  obtain⟨pv',lv',tv',rfl,hp',hl',ht'⟩:=hrv'
  have p2:=hp'.one
  have l2:=hl'.one
  have t2:=ht'.one
  rcases hO1 with ⟨rfl,h3⟩|⟨g,h3,h4,h5,h6⟩
  .simp[p2,l2,t2,h3,w1,a4]
   refine⟨⟨i+1,_,by omega,by simp[a0],by simp,by simpa using hR1,.inr ⟨J1.nf,by simp,hgn,by simp,by simp⟩,hA1.newF⟩,?_⟩
   simp only[MU,a4];simp;omega
  .simp[p2,l2,t2,h3,w1,h6,a4]
   refine⟨by omega,⟨i+1,_,by omega,by simp[a0],by simp,hR1,.inr ⟨J1.nf,by simp,hgn,by simp,by simp⟩,?_⟩,?_⟩
   .exact⟨by simpa using hA1.no,by simp;omega,λo ho=>by simpa using hA1.obj o ho,λf hf=>by
     have:f≠g:=by omega
     simp[this]
     rw[if_neg (by omega)]
     exact hA1.fam f hf⟩
   .simp only[MU,a4];simp;omega
 .have hlt':¬(i:Int)<(l.length:Int):=by omega
  have htk:l.take i=l:=yc7 (by omega)
  rw[htk]at hR
  rcases hO with ⟨rfl,h3⟩|⟨g,h3,h4,h5,h6⟩
  .simp[zjN,zpR,a0,a4,v1,v2,hlt,h3]
   have hn:l=[]:=by have:=hR.length;exact ybS.1 (by simpa using this.symm)
   exact .inl (h _ _ (.inl ⟨hn,rfl⟩) hA)
  .simp[zjN,zpR,a0,a4,v1,v2,hlt,h3]
   refine .froze g (λ_=>false) h6 ?_
   have:=h (.sl (.stat false) 5 rows) (Z.frz g λ_=>false) (.inr ⟨_,_,rfl,hR⟩) (hA.frz h4 λ_ _=>rfl)
   rw[ze9,if_pos rfl,zH3 hR]
   exact this
theorem zp3{G:Env}{mv:AV}{m:M}{J:AS}{R:Out->AS->Prop}(hm:MV mv m)(hl:m.funcs.length<=2^40)(h1:∀f∈m.funcs,f.params.length<=2^40)(h2:∀f∈m.funcs,f.locals.length<=2^40)(h3:∀f∈m.funcs,f.lists.length<=2^40)(h4:∀f∈m.funcs,∀r∈f.lists,r.length<=2^40)
  (h:∀v' J',MV v' m->zb J J'->R (.ret v') J'):zzQ G 31 [mv] J R:=by
 refine zC1 rfl ?_
 obtain⟨fv,rfl,hfs⟩:=hm
 have f1:=hfs.one
 simp[zLH,f1]
 refine zop hfs hl h1 h2 h3 h4 λfv' J2 hfs' A2=>?_
 have f2:=hfs'.one
 have o1:=A2.obj J.no (by simp;omega)
 have o2:=A2.obj (J.no+1) (by simp)
 have hn:=A2.no
 simp at o1 o2
 simp at hn
 simp[f2,o1,o2,splice]
 have A:zb J J2:=(zb.refl J).newO.newO.trans A2
 exact h _ _ ⟨fv',rfl,hfs'⟩ ((A.setO (yah _)).setO (by omega))
theorem zb.mk1{J:AS}{c1 c2}:zb J ((J.newO c1).setO J.no c2):=((zb.refl J).newO).setO (yah _)
def SlW(J:AS)(v:AV)(l:List W):Prop:=(l=[]/\v=.nilsl)\/∃φ,v=.sl φ 6 (l.map W.av)/\zl J.F φ
theorem zL7(w u:W):aeq yb9 53 (.agg [.int .i64 w.op,.int .i64 w.ty,.int .i64 w.n,.int .i64 w.body,.int .i64 w.other,.str w.name]) (.agg [.int .i64 u.op,.int .i64 u.ty,.int .i64 u.n,.int .i64 u.body,.int .i64 u.other,.str u.name])=some (decide (w=u)):=by
 simp[aeq,zsa]
 have key:(w=u)↔(w.op=u.op/\w.ty=u.ty/\w.n=u.n/\w.body=u.body/\w.other=u.other/\w.name=u.name):=by
  constructor
  .rintro rfl;simp
  .rintro ⟨h1,h2,h3,h4,h5,h6⟩
   cases w;cases u;simp_all
 by_cases h1:w.op=u.op<;>by_cases h2:w.ty=u.ty<;>by_cases h3:w.n=u.n<;>by_cases h4:w.body=u.body<;>by_cases h5:w.other=u.other<;>by_cases h6:w.name=u.name<;>simp[key,h1,h2,h3,h4,h5,h6]
def SI(va vb:AV)(a b:List W)(J:AS)(f:Nat->AV)(Z:AS):Prop:=∃i:Nat,i<=a.length/\f 0=va/\f 1=vb/\f 5=.int .i64 (i:Int)/\a.take i=b.take i/\Z=J
def SM(a:List W)(f:Nat->AV)(_:AS):Nat:=match f 5 with
 | .int _ n=>a.length-n.toNat
 | _=>0
theorem zsx{G:Env}{va vb:AV}{a b:List W}{J:AS}{R:Out->AS->Prop}(ha:SlW J va a)(hb:SlW J vb b)(hl:a.length<=2^30)(h:R (.ret (.bool (decide (a=b)))) J):zzQ G 216 [va,vb] J R:=by
 refine zya rfl ?_
 by_cases hab:a.length=b.length
 .have loop:∀f,f 0=va->f 1=vb->f 5=.int .i64 0->zju yb9 G 27 zdO (zai 0 (zan (avc yb9 G 27 ziP (zcq yb9 [.tmp 4] R)) (zcq yb9 [.tmp 4] R))) f J:=by
   intro f f0 f1 f5
   refine zy (SI va vb a b J) (SM a) ⟨0,yc3 _,f0,f1,by simpa using f5,by simp,rfl⟩ λf Z ⟨i,hi,f0,f1,f5,ht,hZ⟩=>?_
   subst hZ
   have hmu:SM a f Z=a.length-i:=by simp[SM,f5]
   by_cases hlt:i<a.length
   .have hltb:i<b.length:=by omega
    obtain⟨φ,rfl,hφ⟩:∃φ,va=.sl φ 6 (a.map W.av)/\zl Z.F φ:=by
     rcases ha with ⟨rfl,_⟩|ha
     .simp at hlt
     .exact ha
    obtain⟨ψ,rfl,hψ⟩:∃φ,vb=.sl φ 6 (b.map W.av)/\zl Z.F φ:=by
     rcases hb with ⟨rfl,_⟩|hb
     .simp at hltb
     .exact hb
    have hw2:yb4 .i64 ((i:Int)+1)=(i:Int)+1:=by rw[wrap_i64]<;>omega
    have ea:a.take (i+1)=a.take i++[a[i]]:=by simp
    have eb:b.take (i+1)=b.take i++[b[i]]:=by simp
    by_cases hw:a[i]=b[i]
    .simp[zdO,f0,f1,f5,hlt,hltb,W.av,W.cs,hφ,hψ,zL7,hw,hw2]
     refine⟨⟨i+1,hlt,by simp[f0,W.av,W.cs],by simp[f1,W.av,W.cs],by simp,by rw[ea,eb,ht,hw],rfl⟩,?_⟩
     rw[hmu]
     have:((i:Int)+1).toNat=i+1:=by omega
     simp[SM,this];omega
    .have hne:¬a=b:=λe=>hw (by subst e;rfl)
     simp[hne]at h
     simp[zdO,f0,f1,f5,hlt,hltb,W.av,W.cs,hφ,hψ,zL7,hw,hw2,h]
   .have he:i=a.length:=by omega
    subst he
    have e:a=b:=by rw[yda,hab,yda]at ht;exact ht
    have hla:a.length=b.length:=hab
    simp[e]at h
    rcases ha with ⟨rfl,rfl⟩|⟨φ,rfl,hφ⟩
    .simp[zdO,ziP,f0,f1,f5,h]
    .simp[zdO,ziP,f0,f1,f5,h]
  rcases ha with ⟨rfl,rfl⟩|⟨φ,rfl,hφ⟩<;>rcases hb with ⟨rfl,rfl⟩|⟨ψ,rfl,hψ⟩
  .simp[zod]
   refine loop _ ?_ ?_ ?_<;>simp
  .simp at hab
   simp[zod,<-hab]
   refine loop _ ?_ ?_ ?_<;>simp
  .simp at hab
   subst hab
   simp[zod]
   refine loop _ ?_ ?_ ?_<;>simp
  .simp[zod,hab]
   refine loop _ ?_ ?_ ?_<;>simp
 .have hne:¬a=b:=λe=>hab (by rw[e])
  have hi:¬(a.length:Int)=b.length:=by omega
  simp[hne]at h
  rcases ha with ⟨rfl,rfl⟩|⟨φ,rfl,hφ⟩<;>rcases hb with ⟨rfl,rfl⟩|⟨ψ,rfl,hψ⟩
  .simp at hab
  .simp at hab
   have hi':¬(0:Int)=b.length:=by simpa using hi
   simp[zod,hi',h]
  .simp at hab
   have hi':¬(a.length:Int)=0:=by simpa using hi
   simp[zod,hab,h]
  .simp[zod,hi,h]
end Go.Proofs.YtohfclafhegadaaGreatDoor
namespace Go.Proofs.YtohfclafhegadaaGreatDoor.Al
open Go Go.Abs Go.Proofs.YtohfclafhegadaaGreatDoor
def RepE(v:AV)(l:List W):Prop:=(l=[]/\v=.nilsl)\/∃b,v=.sl (.fam 0 b) 6 (l.map W.av)
end Go.Proofs.YtohfclafhegadaaGreatDoor.Al
namespace Go.Proofs.YtohfclafhegadaaGreatDoor.Al
open Go Go.Abs Go.Proofs.YtohfclafhegadaaGreatDoor
theorem mrg_W(f:Nat)(w:W):mrg f w.av=w.av:=by simp[W.av,W.cs]
theorem zH4(f:Nat)(l:List W):(l.map W.av).map (mrg f)=l.map W.av:=by simp[Function.comp_def,mrg_W]
theorem RepE.mrg{v l}(h:RepE v l){f:Nat}:mrg f v=v:=by
 rcases h with ⟨_,rfl⟩|⟨b,rfl⟩
 .simp
 .rw[zls,zH4];split<;>rfl
theorem mrg_rows{tos tO}(h:All2 RepE tos tO)(f:Nat):tos.map (mrg f)=tos:=by
 induction h with
 | nil=>rfl
 | cons h r ih=>simp[h.mrg,ih]
end Go.Proofs.YtohfclafhegadaaGreatDoor.Al

namespace Go.Proofs.YtohfclafhegadaaGreatDoor.Al
open Go Go.Abs Go.Proofs.YtohfclafhegadaaGreatDoor
def IntsE(v:AV)(l:List Int):Prop:=(l=[]/\(v=.nilsl\/∃b,v=.sl (.stat b) 1 []))\/∃b,v=.sl (.fam 0 b) 1 (l.map (.int .i64))
theorem IntsE.one{v l}(h:IntsE v l):v.known=true/\v.one=true/\v.cells=[v]:=by
 rcases h with ⟨_,rfl|⟨b,rfl⟩⟩|⟨b,rfl⟩<;>simp
def MrgOr(R:Out->AS->Prop)(o:Out)(J':AS):Prop:=R o J'\/∃v g p,o=.ret v/\0<J'.nf/\J'.F g=.alive/\R (.ret (mrg g v)) (J'.mrg g p)
theorem merging{P:Program}{G:Env}{f:FuncId}{args:List AV}{J:AS}{R:Out->AS->Prop}(h:ACalls P G f args J (MrgOr R)):ACalls P G f args J R:=zCL h
theorem MrgOr.merged{R:Out->AS->Prop}{v:AV}{J':AS}(g:Nat)(p:Nat->Bool)(hn:0<J'.nf)(h:J'.F g=.alive)(h2:R (.ret (mrg g v)) (J'.mrg g p)):MrgOr R (.ret v) J':=.inr ⟨v,g,p,rfl,hn,h,h2⟩
def zJU(g:Nat)(v:AV)(tO:To):Prop:=(tO=[]/\v=.nilsl)\/∃tos,v=.sl (.fam g false) 1 tos/\All2 RepE tos tO
theorem zJU.one{g v l}(h:zJU g v l):v.known=true/\v.one=true/\v.cells=[v]:=by
 rcases h with ⟨_,rfl⟩|⟨tos,rfl,_⟩<;>simp
def FVE(v:AV)(p:F × Nat):Prop:=∃pv lv tv,v=.agg [.str p.1.name,pv,lv,.int .i64 p.1.type,tv]/\IntsE pv p.1.params/\IntsE lv p.1.locals/\zJU p.2 tv p.1.lists
structure Gs(Z:AS)(base:Nat)(g:Nat)(gs:List Nat):Prop where
 nd:gs.Nodup
 each:∀x∈gs,base<=x/\x<Z.nf/\Z.F x=.alive/\x≠g
def OutE(Z:AS)(base:Nat)(v:AV)(l:List F):Prop :=
 (l=[]/\v=.nilsl)\/∃g rows ps,v=.sl (.fam g false) 5 rows/\base<=g/\g<Z.nf/\Z.F g=.alive/\ps.map Prod.fst=l/\All2 FVE rows ps/\Gs Z base g (ps.map Prod.snd)
end Go.Proofs.YtohfclafhegadaaGreatDoor.Al
namespace Go.Proofs.YtohfclafhegadaaGreatDoor.Al
open Go Go.Abs Go.Proofs.YtohfclafhegadaaGreatDoor
def ME(Z:AS)(base:Nat)(v:AV)(m:M):Prop:=∃fv,v=.agg [fv,.int .i64 m.memory,.int .i64 m.main]/\OutE Z base fv m.funcs
end Go.Proofs.YtohfclafhegadaaGreatDoor.Al
namespace Go.Proofs.YtohfclafhegadaaGreatDoor.Al
open Go Go.Abs Go.Proofs.YtohfclafhegadaaGreatDoor
structure Spo(S:Nat->Prop)(J J':AS):Prop where
 no:J.no<=J'.no
 nf:J.nf<=J'.nf
 obj:∀o,o<J.no->J'.objs o=J.objs o
 fam:∀k,k<J.nf->¬S k->J'.F k=J.F k
 live:∀k,k<J.nf->J.F k≠.dead->J'.F k≠.dead
theorem Spo.refl(S J):Spo S J J:=⟨yah _,yah _,λ_ _=>rfl,λ_ _ _=>rfl,λ_ _ h=>h⟩
theorem Spo.trans{S J J1 J2}(h:Spo S J J1)(k:Spo S J1 J2):Spo S J J2 where
 no:=yai h.no k.no
 nf:=yai h.nf k.nf
 obj o a:=by rw[k.obj o (yag a h.no),h.obj o a]
 fam f a b:=by rw[k.fam f (yag a h.nf) b,h.fam f a b]
 live f a b:=k.live f (yag a h.nf) (h.live f a b)
theorem Spo.mono{S T:Nat->Prop}{J J'}(h:Spo S J J')(hs:∀k,S k->T k):Spo T J J':=⟨h.no,h.nf,h.obj,λk a b=>h.fam k a λq=>b (hs k q),h.live⟩
theorem Spo.adds{S J J1 J2}(h:Spo S J J1)(k:zb J1 J2):Spo S J J2:=h.trans ⟨k.no,k.nf,k.obj,λf a _=>k.fam f a,λf a b=>by rw[k.fam f a];exact b⟩
theorem Spo.spoil{S:Nat->Prop}{J J1}(h:Spo S J J1){g:Nat}(hg:S g):Spo S J (J1.setF g .spoiled) where
 no:=h.no
 nf:=h.nf
 obj:=h.obj
 fam k a b:=by
  have:k≠g:=λe=>b (e▸hg)
  simp[this];exact h.fam k a b
 live k a b:=by
  by_cases e:k=g
  .subst e;simp
  .simp[e];exact h.live k a b
def SpI(v:AV)(n:Nat)(S:Nat->Prop)(J:AS)(a:Nat->AV)(Z:AS):Prop:=∃i:Nat,i<=n/\a 0=v/\a 2=.int .i64 (i:Int)/\Spo S J Z
theorem zkY{G:Env}{n:Int}{J:AS}{R:Out->AS->Prop}(h:∀k,R (.ret (.int .i64 k)) J):zzQ G 141 [.int .i64 n] J R:=by
 refine zxu rfl ?_
 simp[zHh]
 exact h _
theorem zoq{G:Env}{n:Int}{J:AS}{R:Out->AS->Prop}(h:∀(w:W) J',zb J J'->R (.ret w.av) J'):zzQ G 142 [.int .i64 n] J R:=by
 refine zxv rfl ?_
 simp[zHi,splice]
 exact h ⟨_,0,0,0,0,[]⟩ _ .mk1
theorem zjX{G:Env}{n:Int}{J:AS}{R:Out->AS->Prop}(h:∀v,v.known=true->v.one=true->v.cells=[v]->R (.ret v) J):zzQ G 143 [.int .i64 n] J R:=by
 refine zxw rfl ?_
 simp[zHj,splice]
 exact h _ (by simp) (by simp) (by simp)
theorem zor{G:Env}{n:Int}{J:AS}{R:Out->AS->Prop}(h:∀t J',zb J J'->R (.ret (.agg [.str [],.nilsl,.nilsl,.int .i64 t,.nilsl])) J'):zzQ G 144 [.int .i64 n] J R:=by
 refine zxx rfl ?_
 simp[zHk,splice]
 exact h _ _ .mk1
theorem zeM{G:Env}{v:AV}{l:List Int}{J:AS}{R:Out->AS->Prop}(hv:IntsE v l)(hl:l.length<=2^40)(h0:0<J.nf/\J.F 0≠.dead)(h:∀J',Spo (·=0) J J'->R (.ret (.tuple [])) J'):zzQ G 75 [v] J R:=by
 refine zDp rfl ?_
 simp[zLY]
 refine zy (SpI v l.length (·=0) J) (MU 2 (l.length+1)) ⟨0,by omega,by simp,by simp,.refl _ _⟩ λa Z hI=>?_
 obtain⟨i,hi,a0,a2,hS⟩:=hI
 have w1:yb4 .i64 ((i:Int)+1)=((i+1:Nat):Int):=by rw[wrap_i64]<;>omega
 rcases hv with ⟨rfl,rfl|⟨b,rfl⟩⟩|⟨b,rfl⟩
 .have:i=0:=by simpa using hi
  subst this
  simp[zjM,a0,a2]
  exact h _ hS
 .have:i=0:=by simpa using hi
  subst this
  simp[zjM,a0,a2]
  exact h _ hS
 .by_cases hlt:i<l.length
  .have hlt':(i:Int)<(l.length:Int):=by omega
   have hd:=hS.live 0 h0.1 h0.2
   simp[zjM,a0,a2,hlt']
   refine zkY λk=>?_
   simp[a0,a2,hlt,hd,w1]
   refine⟨⟨i+1,by omega,by simp[a0],by simp,hS.spoil rfl⟩,?_⟩
   simp only[MU,a2];simp;omega
  .have hlt':¬(i:Int)<(l.length:Int):=by omega
   simp[zjM,a0,a2,hlt']
   exact h _ hS
theorem zmU{G:Env}{v:AV}{l:List W}{J:AS}{R:Out->AS->Prop}(hv:RepE v l)(hl:l.length<=2^40)(h0:0<J.nf/\J.F 0≠.dead)(h:∀J',Spo (·=0) J J'->R (.ret (.tuple [])) J'):zzQ G 76 [v] J R:=by
 refine zDq rfl ?_
 simp[zLZ]
 refine zy (SpI v l.length (·=0) J) (MU 2 (l.length+1)) ⟨0,by omega,by simp,by simp,.refl _ _⟩ λa Z hI=>?_
 obtain⟨i,hi,a0,a2,hS⟩:=hI
 have w1:yb4 .i64 ((i:Int)+1)=((i+1:Nat):Int):=by rw[wrap_i64]<;>omega
 rcases hv with ⟨rfl,rfl⟩|⟨b,rfl⟩
 .have:i=0:=by simpa using hi
  subst this
  simp[zmz,a0,a2]
  exact h _ hS
 .by_cases hlt:i<l.length
  .have hlt':(i:Int)<(l.length:Int):=by omega
   simp[zmz,a0,a2,hlt']
   refine zoq λw J1 A1=>?_
   have hS1:=hS.adds A1
   have hd:=hS1.live 0 h0.1 h0.2
   simp[W.av,W.cs,a0,a2,hlt,hd,w1]
   refine⟨⟨i+1,by omega,by simp[a0,W.av,W.cs],by simp,hS1.spoil rfl⟩,?_⟩
   simp only[MU,a2];simp;omega
  .have hlt':¬(i:Int)<(l.length:Int):=by omega
   simp[zmz,a0,a2,hlt']
   exact h _ hS
theorem RepE.one{v l}(h:RepE v l):v.known=true/\v.one=true/\v.cells=[v]:=by
 rcases h with ⟨_,rfl⟩|⟨b,rfl⟩<;>simp
theorem ziq{G:Env}{g:Nat}{v:AV}{l:To}{J:AS}{R:Out->AS->Prop}(hv:zJU g v l)(hl:l.length<=2^40)(h0:l≠[]->g<J.nf/\J.F g≠.dead)(h:∀J',Spo (·=g) J J'->R (.ret (.tuple [])) J'):zzQ G 77 [v] J R:=by
 refine zDr rfl ?_
 simp[zL0]
 refine zy (SpI v l.length (·=g) J) (MU 2 (l.length+1)) ⟨0,by omega,by simp,by simp,.refl _ _⟩ λa Z hI=>?_
 obtain⟨i,hi,a0,a2,hS⟩:=hI
 have w1:yb4 .i64 ((i:Int)+1)=((i+1:Nat):Int):=by rw[wrap_i64]<;>omega
 rcases hv with ⟨rfl,rfl⟩|⟨tos,rfl,ht⟩
 .have:i=0:=by simpa using hi
  subst this
  simp[zmA,a0,a2]
  exact h _ hS
 .have hlen:=ht.length
  by_cases hlt:i<l.length
  .have hlt':(i:Int)<(l.length:Int):=by omega
   obtain⟨u,hu,hru⟩:=ht.get (yau hlt)
   have u1:=hru.one
   have hne:l≠[]:=by rintro rfl;simp at hlt
   have hd:=hS.live g (h0 hne).1 (h0 hne).2
   simp[zmA,a0,a2,hlen,hlt']
   refine zjX λv v1 v2 v3=>?_
   simp[a0,a2,hu,u1,v1,v2,v3,hd,w1]
   refine⟨⟨i+1,by omega,by simp[a0],by simp,hS.spoil rfl⟩,?_⟩
   simp only[MU,a2];simp;omega
  .have hlt':¬(i:Int)<(l.length:Int):=by omega
   simp[zmA,a0,a2,hlen,hlt']
   exact h _ hS
theorem zmV{G:Env}{g:Nat}{rows:List AV}{ps:List (F × Nat)}{J:AS}{R:Out->AS->Prop}(hr:All2 FVE rows ps)(hl:ps.length<=2^40)(h0:g<J.nf/\J.F g≠.dead)(h:∀J',Spo (·=g) J J'->R (.ret (.tuple [])) J'):zzQ G 78 [.sl (.fam g false) 5 rows] J R:=by
 refine zuc rfl ?_
 have hlen:=hr.length
 simp[zK2]
 refine zy (SpI (.sl (.fam g false) 5 rows) ps.length (·=g) J) (MU 2 (ps.length+1)) ⟨0,by omega,by simp,by simp,.refl _ _⟩ λa Z hI=>?_
 obtain⟨i,hi,a0,a2,hS⟩:=hI
 have w1:yb4 .i64 ((i:Int)+1)=((i+1:Nat):Int):=by rw[wrap_i64]<;>omega
 by_cases hlt:i<ps.length
 .have hlt':(i:Int)<(ps.length:Int):=by omega
  obtain⟨u,hu,pv,lv,tv,rfl,hp,hll,ht⟩:=hr.get (yau hlt)
  have p1:=hp.one
  have l1:=hll.one
  have t1:=ht.one
  simp[zmB,a0,a2,hlen,hlt']
  refine zor λt J1 A1=>?_
  have hS1:=hS.adds A1
  have hd:=hS1.live g h0.1 h0.2
  simp[a0,a2,hu,p1,l1,t1,hd,w1]
  refine⟨⟨i+1,by omega,by simp[a0],by simp,hS1.spoil rfl⟩,?_⟩
  simp only[MU,a2];simp;omega
 .have hlt':¬(i:Int)<(ps.length:Int):=by omega
  simp[zmB,a0,a2,hlen,hlt']
  exact h _ hS
end Go.Proofs.YtohfclafhegadaaGreatDoor.Al
namespace Go.Proofs.YtohfclafhegadaaGreatDoor.Al
open Go Go.Abs Go.Proofs.YtohfclafhegadaaGreatDoor
def Sp(base:Nat)(k:Nat):Prop:=k=0\/base<=k
def SMO(mb g base:Nat)(rows:List AV)(ps:List (F × Nat))(mem mn:Int)(J:AS)(a:Nat->AV)(Z:AS):Prop:=∃i:Nat,i<=ps.length/\a 1=.ptr mb 0/\a 2=.int .i64 (i:Int)/\Z.objs mb=some [.sl (.fam g false) 5 rows,.int .i64 mem,.int .i64 mn]/\mb<Z.no/\Spo (Sp base) J Z/\Z.F g=.alive /\
 (0<Z.nf/\Z.F 0≠.dead)/\g<Z.nf/\∀(j:Nat) p,i<=j->ps[j]?=some p->p.2<Z.nf/\Z.F p.2=.alive
def SMI(mb g base:Nat)(rows:List AV)(ps:List (F × Nat))(mem mn:Int)(J:AS)(i n:Nat)(a:Nat->AV)(Z:AS):Prop:=∃k:Nat,k<=n/\a 1=.ptr mb 0/\a 2=.int .i64 (i:Int)/\a 3=.int .i64 (k:Int)/\Z.objs mb=some [.sl (.fam g false) 5 rows,.int .i64 mem,.int .i64 mn]/\mb<Z.no/\Spo (Sp base) J Z/\Z.F g=.alive /\
 (0<Z.nf/\Z.F 0≠.dead)/\g<Z.nf/\∀(j:Nat) p,i<=j->ps[j]?=some p->p.2<Z.nf/\Z.F p.2=.alive
set_option maxHeartbeats 4000000 in
theorem spoilM_calls{G:Env}{base:Nat}{v:AV}{m:M}{J:AS}{R:Out->AS->Prop}(hm:ME J base v m)(hb0:0<base)(hl:m.funcs.length<=2^30)(h1:∀f∈m.funcs,f.params.length<=2^40)(h2:∀f∈m.funcs,f.locals.length<=2^40)(h3:∀f∈m.funcs,f.lists.length<=2^40)(h4:∀f∈m.funcs,∀r∈f.lists,r.length<=2^40)
  (h00:0<J.nf/\J.F 0≠.dead) (h:∀J',Spo (Sp base) J J'->R (.ret (.tuple [])) J'):zzQ G 23 [v] J R:=by
 refine zCX rfl ?_
 obtain⟨fv,rfl,hov⟩:=hm
 rcases hov with ⟨hn,rfl⟩|⟨g,rows,ps,rfl,q1,q2,q3,q4,q5,q6⟩
 .simp[zKU]
  refine zy (λa Z=>a 1=.ptr J.no 0/\a 2=.int .i64 0/\Z=J.newO [.nilsl,.int .i64 m.memory,.int .i64 m.main]) (λ_ _=>0) ⟨by simp,by simp,by simp⟩ λa Z hI=>?_
  obtain⟨a1,a2,rfl⟩:=hI
  simp[zjE,zpK,a1,a2]
  refine zuc rfl ?_
  simp[zK2]
  refine zy (λa Z=>a 0=.nilsl/\a 2=.int .i64 0/\Z=J.newO [.nilsl,.int .i64 m.memory,.int .i64 m.main]) (λ_ _=>0) ⟨by simp,by simp,by simp⟩ λa Z hI=>?_
  obtain⟨a0,a2,rfl⟩:=hI
  simp[zmB,a0,a2]
  exact h _ ((Spo.refl _ _).adds (zb.refl J).newO)
 .have hrl:=q5.length
  have hpl:ps.length=m.funcs.length:=by rw[<-q4];simp
  simp[zKU]
  have hs1:Spo (Sp base) J (J.newO [AV.sl (Own.fam g false) 5 rows,yc6 yam m.memory,yc6 yam m.main]):=(Spo.refl _ _).adds (zb.refl J).newO
  have hin:∀p∈ps,p.1∈m.funcs:=λp hp=>by rw[<-q4];exact yaW hp
  have hgs:∀p∈ps,base<=p.2/\p.2<J.nf/\J.F p.2=.alive/\p.2≠g:=λp hp=>q6.each _ (yaW hp)
  refine zy (SMO J.no g base rows ps m.memory m.main J) (MU 2 (ps.length+1)) ⟨0,by omega,by simp,by simp,by simp,by simp,hs1,by simpa using q3,⟨by simpa using h00.1,by simpa using h00.2⟩,by simpa using q2,λj p _ hp=>⟨by simpa using (hgs p (ydb hp)).2.1,by simpa using (hgs p (ydb hp)).2.2.1⟩⟩ λa Z hI=>?_
  obtain⟨i,hi,a1,a2,hob,hlt0,hS,hg,h0,hgn,hal⟩:=hI
  by_cases hlt:i<ps.length
  .have hlt':(i:Int)<(ps.length:Int):=by omega
   have hpi:ps[i]?=some ps[i]:=yau hlt
   obtain⟨u,hu,pv,lv,tv,rfl,hp,hll,ht⟩:=q5.get hpi
   have hmem:=yaw hlt
   have b1:=h1 _ (hin _ hmem)
   have b2:=h2 _ (hin _ hmem)
   have b3:=h3 _ (hin _ hmem)
   have b4:=h4 _ (hin _ hmem)
   have hgi:=hgs _ hmem
   have hnd:=q6.nd
   have hdis:∀(j:Nat) p,i+1<=j->ps[j]?=some p->p.2≠ps[i].2:=λj p hj hp e=>by
    obtain⟨hjl,rfl⟩:=yaq.1 hp
    have hpw:=List.pairwise_iff_getElem.1 hnd i j (by simpa using hlt) (by simpa using hjl) (by omega)
    simp only[yak]at hpw
    exact hpw e.symm
   generalize ps[i]=p at *
   have p1:=hp.one
   have l1:=hll.one
   have t1:=ht.one
   simp[zjE,a1,a2,hob,hrl,hlt',hu,p1,l1,t1,hg]
   refine zeM hp b1 h0 λJ2 s2=>?_
   have ob2:=(s2.obj _ hlt0).trans hob
   have g2:J2.F g=.alive:=(s2.fam g hgn (by omega)).trans hg
   have n2:=s2.no
   have f2:=s2.nf
   have S2:Spo (Sp base) J J2:=hS.trans (s2.mono λk hk=>.inl hk)
   have z2:0<J2.nf/\J2.F 0≠.dead:=⟨by omega,s2.live 0 h0.1 h0.2⟩
   simp[a1,a2,ob2,hu,p1,l1,t1,g2]
   refine zeM hll b2 z2 λJ3 s3=>?_
   have ob3:=(s3.obj _ (by omega)).trans ob2
   have g3:J3.F g=.alive:=(s3.fam g (by omega) (by omega)).trans g2
   have n3:=s3.no
   have f3:=s3.nf
   have S3:Spo (Sp base) J J3:=S2.trans (s3.mono λk hk=>.inl hk)
   have z3:0<J3.nf/\J3.F 0≠.dead:=⟨by omega,s3.live 0 z2.1 z2.2⟩
   have al3:∀(j:Nat) p,i<=j->ps[j]?=some p->p.2<J3.nf/\J3.F p.2=.alive:=λj p hj hp=>by
    obtain⟨x1,x2⟩:=hal j p hj hp
    have:=(hgs p (ydb hp)).1
    exact⟨by omega,by rw[s3.fam _ (by omega) (by omega),s2.fam _ (by omega) (by omega)];exact x2⟩
   simp[a1,a2]
   refine zy (SMI J.no g base rows ps m.memory m.main J i p.1.lists.length) (MU 3 (p.1.lists.length+1)) ⟨0,by omega,by simp[a1],by simp[a2],by simp,ob3,by omega,S3,g3,z3,by omega,al3⟩ λc ρ hJ=>?_
   obtain⟨k,hk,c1,c2,c3,obk,hltk,Sk,gk,zk,gnk,alk⟩:=hJ
   have aik:=alk i p (yah _) hpi
   by_cases hkl:k<p.1.lists.length
   .have hkl':(k:Int)<(p.1.lists.length:Int):=by omega
    have w2:yb4 .i64 ((k:Int)+1)=((k+1:Nat):Int):=by rw[wrap_i64]<;>omega
    rcases ht with ⟨he,_⟩|⟨tos,rfl,htr⟩
    .rw[he]at hkl;simp at hkl
    have htl:=htr.length
    obtain⟨rv,hrv,hre⟩:=htr.get (yau hkl)
    have hrow:=b4 _ (yaw hkl)
    have r1:=hre.one
    generalize p.1.lists[k]=row at *
    simp[zf8,c1,c2,c3,obk,hu,p1,l1,gk,htl,hkl',hrv,r1,aik.2]
    refine zmU hre hrow zk λJ4 s4=>?_
    have f4:=s4.nf
    have n4:=s4.no
    simp[c1,c2,c3,w2]
    refine⟨⟨k+1,by omega,by simp[c1],by simp[c2],by simp,(s4.obj _ hltk).trans obk,by omega,Sk.trans (s4.mono λk hk=>.inl hk),(s4.fam g gnk (by omega)).trans gk,⟨by omega,s4.live 0 zk.1 zk.2⟩,by omega,λj p hj hp=>?_⟩,?_⟩
    .obtain⟨x1,x2⟩:=alk j p hj hp
     have:=(hgs p (ydb hp)).1
     exact⟨by omega,by rw[s4.fam _ (by omega) (by omega)];exact x2⟩
    .simp only[MU,c3];simp;omega
   .have hkl':¬(k:Int)<(p.1.lists.length:Int):=by omega
    have htlen:∀K:AV->Prop,zij yb9 55 tv K=K (.int .i64 (p.1.lists.length:Int)):=λK=>by
     rcases ht with ⟨he,rfl⟩|⟨tos,rfl,htr⟩
     .simp[he]
     .simp[htr.length]
    have w1:yb4 .i64 ((i:Int)+1)=((i+1:Nat):Int):=by rw[wrap_i64]<;>omega
    simp[zf8,zjD,c1,c2,c3,obk,hu,p1,l1,t1,gk,htlen,hkl']
    refine ziq ht b3 (λ_=>⟨aik.1,by rw[aik.2];simp⟩) λJ4 s4=>?_
    have f4:=s4.nf
    have n4:=s4.no
    simp[zms,c1,c2,w1]
    refine⟨⟨i+1,by omega,by simp[c1],by simp,(s4.obj _ hltk).trans obk,by omega,Sk.trans (s4.mono λk hk=>.inr (by rw[hk];exact hgi.1)),(s4.fam g gnk (λe=>hgi.2.2.2 e.symm)).trans gk,⟨by omega,s4.live 0 zk.1 zk.2⟩,by omega,λj p' hj hp'=>?_⟩,?_⟩
    .obtain⟨x1,x2⟩:=alk j p' (by omega) hp'
     exact⟨by omega,by rw[s4.fam _ (by omega) (hdis j p' hj hp')];exact x2⟩
    .simp only[MU,a2];simp;omega
  .have hlt':¬(i:Int)<(ps.length:Int):=by omega
   simp[zjE,zpK,a1,a2,hob,hrl,hlt']
   refine zmV q5 (by omega) ⟨hgn,by rw[hg];simp⟩ λJ4 s4=>?_
   simp
   exact h _ (hS.trans (s4.mono λk hk=>.inr (by rw[hk];exact q1)))
end Go.Proofs.YtohfclafhegadaaGreatDoor.Al
namespace Go.Proofs.YtohfclafhegadaaGreatDoor.Al
open Go Go.Abs Go.Proofs.YtohfclafhegadaaGreatDoor
def Rd(J:AS):Go.Abs.Own->Prop
 | .stat _=>True
 | .fam f _=>f<J.nf/\J.F f=.alive
theorem Rd.read{J φ}(h:Rd J φ):zl J.F φ:=by
 cases φ with
 | stat b=>exact trivial
 | fam f b=>exact h.2
theorem Rd.keep{J J' φ}(h:Rd J φ)(A:zb J J'):Rd J' φ:=by
 cases φ with
 | stat b=>exact trivial
 | fam f b=>exact⟨by have:=A.nf;have:=h.1;omega,(A.fam f h.1).trans h.2⟩
def IntsO(J:AS)(v:AV)(l:List Int):Prop:=(l=[]/\v=.nilsl)\/∃φ,v=.sl φ 1 (l.map (.int .i64))/\Rd J φ
def RepO(J:AS)(v:AV)(l:List W):Prop:=(l=[]/\v=.nilsl)\/∃φ,v=.sl φ 6 (l.map W.av)/\Rd J φ
def LstO(J:AS)(v:AV)(l:To):Prop:=(l=[]/\v=.nilsl)\/∃φ rows,v=.sl φ 1 rows/\Rd J φ/\All2 (RepO J) rows l
def FVO(J:AS)(v:AV)(f:F):Prop:=∃pv lv tv,v=.agg [.str f.name,pv,lv,.int .i64 f.type,tv]/\IntsO J pv f.params/\IntsO J lv f.locals/\LstO J tv f.lists
def FsO(J:AS)(v:AV)(l:List F):Prop:=(l=[]/\v=.nilsl)\/∃φ rows,v=.sl φ 5 rows/\Rd J φ/\All2 (FVO J) rows l
def MO(J:AS)(v:AV)(m:M):Prop:=∃fv,v=.agg [fv,.int .i64 m.memory,.int .i64 m.main]/\FsO J fv m.funcs
theorem IntsO.one{J v l}(h:IntsO J v l):v.known=true/\v.one=true/\v.cells=[v]:=by rcases h with ⟨_,rfl⟩|⟨b,rfl,_⟩<;>simp
theorem RepO.one{J v l}(h:RepO J v l):v.known=true/\v.one=true/\v.cells=[v]:=by rcases h with ⟨_,rfl⟩|⟨b,rfl,_⟩<;>simp
theorem LstO.one{J v l}(h:LstO J v l):v.known=true/\v.one=true/\v.cells=[v]:=by rcases h with ⟨_,rfl⟩|⟨b,_,rfl,_⟩<;>simp
theorem FsO.one{J v l}(h:FsO J v l):v.known=true/\v.one=true/\v.cells=[v]:=by rcases h with ⟨_,rfl⟩|⟨b,_,rfl,_⟩<;>simp
theorem IntsO.keep{J J' v l}(h:IntsO J v l)(A:zb J J'):IntsO J' v l:=by
 rcases h with h|⟨φ,h,r⟩
 .exact .inl h
 .exact .inr ⟨φ,h,r.keep A⟩
theorem RepO.keep{J J' v l}(h:RepO J v l)(A:zb J J'):RepO J' v l:=by
 rcases h with h|⟨φ,h,r⟩
 .exact .inl h
 .exact .inr ⟨φ,h,r.keep A⟩
theorem all2_mono{α β:Type}{R S:α->β->Prop}{xs ys}(h:All2 R xs ys)(hs:∀x y,R x y->S x y):All2 S xs ys:=by
 induction h with
 | nil=>exact .nil
 | cons h r ih=>exact .cons (hs _ _ h) ih
theorem LstO.keep{J J' v l}(h:LstO J v l)(A:zb J J'):LstO J' v l:=by
 rcases h with h|⟨φ,rows,h,r,k⟩
 .exact .inl h
 .exact .inr ⟨φ,rows,h,r.keep A,all2_mono k λ_ _ q=>q.keep A⟩
theorem FVO.keep{J J' v l}(h:FVO J v l)(A:zb J J'):FVO J' v l:=by
 obtain⟨pv,lv,tv,h,a,b,c⟩:=h
 exact⟨pv,lv,tv,h,a.keep A,b.keep A,c.keep A⟩
theorem FsO.keep{J J' v l}(h:FsO J v l)(A:zb J J'):FsO J' v l:=by
 rcases h with h|⟨φ,rows,h,r,k⟩
 .exact .inl h
 .exact .inr ⟨φ,rows,h,r.keep A,all2_mono k λ_ _ q=>q.keep A⟩
theorem MO.keep{J J' v m}(h:MO J v m)(A:zb J J'):MO J' v m:=by
 obtain⟨fv,h,k⟩:=h
 exact⟨fv,h,k.keep A⟩
theorem IntsO.len{J v l}(h:IntsO J v l)(K:AV->Prop):zij yb9 44 v K=K (.int .i64 (l.length:Int)):=by rcases h with ⟨rfl,rfl⟩|⟨b,rfl,_⟩<;>simp
theorem LstO.len{J v l}(h:LstO J v l)(K:AV->Prop):zij yb9 55 v K=K (.int .i64 (l.length:Int)):=by
 rcases h with ⟨rfl,rfl⟩|⟨b,rows,rfl,_,hr⟩
 .simp
 .simp[hr.length]
theorem FsO.len{J v l}(h:FsO J v l)(K:AV->Prop):zij yb9 26 v K=K (.int .i64 (l.length:Int)):=by
 rcases h with ⟨rfl,rfl⟩|⟨b,rows,rfl,_,hr⟩
 .simp
 .simp[hr.length]
theorem IntsO.at{J v l}(h:IntsO J v l){i:Nat}(hi:i<l.length):∃φ,Rd J φ/\∀K:AV->Prop,zA yb9 44 v (.int .i64 (i:Int)) K=K (.pv φ (.int .i64 l[i])):=by
 rcases h with ⟨rfl,_⟩|⟨φ,rfl,r⟩
 .simp at hi
 .exact⟨φ,r,λK=>by simp[hi]⟩
theorem LstO.at{J v l}(h:LstO J v l){i:Nat}(hi:i<l.length):∃φ rv,Rd J φ/\RepO J rv l[i]/\∀K:AV->Prop,zA yb9 55 v (.int .i64 (i:Int)) K=K (.pv φ rv):=by
 rcases h with ⟨rfl,_⟩|⟨φ,rows,rfl,r,hr⟩
 .simp at hi
 .obtain⟨rv,h1,h2⟩:=hr.get (yau hi)
  exact⟨φ,rv,r,h2,λK=>by simp[h1]⟩
theorem FsO.at{J v l}(h:FsO J v l){i:Nat}(hi:i<l.length):∃φ rv,Rd J φ/\FVO J rv l[i]/\∀K:AV->Prop,zA yb9 26 v (.int .i64 (i:Int)) K=K (.pv φ rv):=by
 rcases h with ⟨rfl,_⟩|⟨φ,rows,rfl,r,hr⟩
 .simp at hi
 .obtain⟨rv,h1,h2⟩:=hr.get (yau hi)
  exact⟨φ,rv,r,h2,λK=>by simp[h1]⟩
def EI(va vb:AV)(n:Nat)(J:AS)(a:Nat->AV)(Z:AS):Prop:=∃i:Nat,i<=n/\a 0=va/\a 1=vb/\a 5=.int .i64 (i:Int)/\zb J Z
theorem zh1{G:Env}{J:AS}{R:Out->AS->Prop}{va vb:AV}{l:List Int}(ha:IntsO J va l)(hb:IntsO J vb l)(hl:l.length<=2^40)(h:∀J',zb J J'->R (.ret (.bool true)) J'):zzQ G 79 [va,vb] J R:=by
 refine zud rfl ?_
 have hal:=ha.len
 have hbl:=hb.len
 simp[zJO,hal,hbl]
 refine zy (EI va vb l.length J) (MU 5 (l.length+1)) ⟨0,by omega,by simp,by simp,by simp,.refl _⟩ λa Z hI=>?_
 obtain⟨i,hi,a0,a1,a5,A⟩:=hI
 by_cases hlt:i<l.length
 .obtain⟨φ,r1,hx1⟩:=(ha.keep A).at hlt
  obtain⟨ψ,r2,hx2⟩:=(hb.keep A).at hlt
  have q1:=r1.read
  have q2:=r2.read
  have w5:yb4 .i64 ((i:Int)+1)=((i+1:Nat):Int):=by rw[wrap_i64]<;>omega
  simp[zgb,a0,a1,a5,hal,hlt,hx1,hx2,w5,q1,q2]
  refine⟨⟨i+1,by omega,by simp[a0],by simp[a1],by simp,A⟩,?_⟩
  simp only[MU,a5];simp;omega
 .simp[zgb,zpQ,a0,a1,a5,hal,hlt]
  exact h _ A
theorem zmW{G:Env}{J:AS}{R:Out->AS->Prop}{va vb:AV}{l:To}(ha:LstO J va l)(hb:LstO J vb l)(hl:l.length<=2^40)(hr:∀r∈l,r.length<=2^30)(h:∀J',zb J J'->R (.ret (.bool true)) J'):zzQ G 180 [va,vb] J R:=by
 refine zxT rfl ?_
 have hal:=ha.len
 have hbl:=hb.len
 simp[zHy,hal,hbl]
 refine zy (EI va vb l.length J) (MU 5 (l.length+1)) ⟨0,by omega,by simp,by simp,by simp,.refl _⟩ λa Z hI=>?_
 obtain⟨i,hi,a0,a1,a5,A⟩:=hI
 by_cases hlt:i<l.length
 .obtain⟨φ,rv1,r1,e1,hx1⟩:=(ha.keep A).at hlt
  obtain⟨ψ,rv2,r2,e2,hx2⟩:=(hb.keep A).at hlt
  have q1:=r1.read
  have q2:=r2.read
  have o1:=e1.one
  have o2:=e2.one
  have hrl:=hr _ (yaw hlt)
  have w5:yb4 .i64 ((i:Int)+1)=((i+1:Nat):Int):=by rw[wrap_i64]<;>omega
  have sl:∀{v:AV} {r:List W},RepO Z v r->SlW Z v r:=λh=>by
   rcases h with ⟨h1,h2⟩|⟨φ,h1,h2⟩
   .exact .inl ⟨h1,h2⟩
   .exact .inr ⟨φ,h1,h2.read⟩
  simp[ziL,a0,a1,a5,hal,hlt,hx1,hx2,q1,q2,o1,o2]
  refine zsx (sl e1) (sl e2) hrl ?_
  simp[w5,a5]
  refine⟨⟨i+1,by omega,by simp[a0],by simp[a1],by simp,A⟩,?_⟩
  simp only[MU,a5];simp;omega
 .simp[ziL,zrg,a0,a1,a5,hal,hlt]
  exact h _ A
structure SzE(f:F):Prop where
 params:f.params.length<=2^40
 locals:f.locals.length<=2^40
 lists:f.lists.length<=2^40
 rows:∀r∈f.lists,r.length<=2^30
theorem zul{G:Env}{J:AS}{R:Out->AS->Prop}{va vb:AV}{f:F}(ha:FVO J va f)(hb:FVO J vb f)(hs:SzE f)(h:∀J',zb J J'->R (.ret (.bool true)) J'):zzQ G 140 [va,vb] J R:=by
 refine zxt rfl ?_
 obtain⟨pa,la,ta,rfl,hpa,hla,hta⟩:=ha
 obtain⟨pb,lb,tb,rfl,hpb,hlb,htb⟩:=hb
 have a1:=hpa.one
 have a2:=hla.one
 have a3:=hta.one
 have b1:=hpb.one
 have b2:=hlb.one
 have b3:=htb.one
 simp[zHg,a1,a2,a3,b1,b2,b3]
 have A1:zb J ((J.newO [yc8 f.name,pa,la,yc6 yam f.type,ta]).newO [yc8 f.name,pb,lb,yc6 yam f.type,tb]):=(zb.refl J).newO.newO
 have oa:((J.newO [yc8 f.name,pa,la,yc6 yam f.type,ta]).newO [yc8 f.name,pb,lb,yc6 yam f.type,tb]).objs J.no=some [yc8 f.name,pa,la,yc6 yam f.type,ta]:=by simp
 have ob:((J.newO [yc8 f.name,pa,la,yc6 yam f.type,ta]).newO [yc8 f.name,pb,lb,yc6 yam f.type,tb]).objs (J.no+1)=some [yc8 f.name,pb,lb,yc6 yam f.type,tb]:=by simp
 have n1:((J.newO [yc8 f.name,pa,la,yc6 yam f.type,ta]).newO [yc8 f.name,pb,lb,yc6 yam f.type,tb]).no=J.no+2:=by simp
 generalize (J.newO [yc8 f.name,pa,la,yc6 yam f.type,ta]).newO [yc8 f.name,pb,lb,yc6 yam f.type,tb]=J1 at *
 refine zh1 (hpa.keep A1) (hpb.keep A1) hs.params λJ2 A2=>?_
 have oa2:=(A2.obj _ (by omega)).trans oa
 have ob2:=(A2.obj _ (by omega)).trans ob
 have n2:=A2.no
 have B2:=A1.trans A2
 simp[oa2,ob2,a1,a2,a3,b1,b2,b3]
 refine zh1 (hla.keep B2) (hlb.keep B2) hs.locals λJ3 A3=>?_
 have oa3:=(A3.obj _ (by omega)).trans oa2
 have ob3:=(A3.obj _ (by omega)).trans ob2
 have B3:=B2.trans A3
 simp[oa3,ob3,a1,a2,a3,b1,b2,b3]
 refine zmW (hta.keep B3) (htb.keep B3) hs.lists hs.rows λJ4 A4=>?_
 simp
 exact h _ (B3.trans A4)
theorem zsy{G:Env}{J:AS}{R:Out->AS->Prop}{va vb:AV}{l:List F}(ha:FsO J va l)(hb:FsO J vb l)(hl:l.length<=2^40)(hs:∀f∈l,SzE f)(h:∀J',zb J J'->R (.ret (.bool true)) J'):zzQ G 74 [va,vb] J R:=by
 refine zDo rfl ?_
 have hal:=ha.len
 have hbl:=hb.len
 simp[zLX,hal,hbl]
 refine zy (EI va vb l.length J) (MU 5 (l.length+1)) ⟨0,by omega,by simp,by simp,by simp,.refl _⟩ λa Z hI=>?_
 obtain⟨i,hi,a0,a1,a5,A⟩:=hI
 by_cases hlt:i<l.length
 .obtain⟨φ,rv1,r1,e1,hx1⟩:=(ha.keep A).at hlt
  obtain⟨ψ,rv2,r2,e2,hx2⟩:=(hb.keep A).at hlt
  have q1:=r1.read
  have q2:=r2.read
  have hsz:=hs _ (yaw hlt)
  generalize l[i]=f at *
  have w5:yb4 .i64 ((i:Int)+1)=((i+1:Nat):Int):=by rw[wrap_i64]<;>omega
  have f1:=e1
  have f2:=e2
  obtain⟨pa,la,ta,rfl,hpa,hla,hta⟩:=e1
  obtain⟨pb,lb,tb,rfl,hpb,hlb,htb⟩:=e2
  have o1:=hpa.one
  have o2:=hla.one
  have o3:=hta.one
  have o4:=hpb.one
  have o5:=hlb.one
  have o6:=htb.one
  simp[zmy,a0,a1,a5,hal,hlt,hx1,hx2,q1,q2,o1,o2,o3,o4,o5,o6]
  refine zul f1 f2 hsz λJ2 A2=>?_
  simp[w5,a5]
  refine⟨⟨i+1,by omega,by simp[a0],by simp[a1],by simp,A.trans A2⟩,?_⟩
  simp only[MU,a5];simp;omega
 .simp[zmy,zub,a0,a1,a5,hal,hlt]
  exact h _ A
theorem eqM_calls{G:Env}{J:AS}{R:Out->AS->Prop}{va vb:AV}{m:M}(ha:MO J va m)(hb:MO J vb m)(hl:m.funcs.length<=2^40)(hs:∀f∈m.funcs,SzE f)(h:∀J',zb J J'->R (.ret (.bool true)) J'):zzQ G 22 [va,vb] J R:=by
 refine zCW rfl ?_
 obtain⟨fa,rfl,hfa⟩:=ha
 obtain⟨fb,rfl,hfb⟩:=hb
 have a1:=hfa.one
 have b1:=hfb.one
 simp[zLE,a1,b1]
 have A1:zb J ((J.newO [fa,yc6 yam m.memory,yc6 yam m.main]).newO [fb,yc6 yam m.memory,yc6 yam m.main]):=(zb.refl J).newO.newO
 refine zsy (hfa.keep A1) (hfb.keep A1) hl hs λJ2 A2=>?_
 simp
 exact h _ (A1.trans A2)
theorem zLa{J:AS}{v l}(h:zmT v l):RepO J v l:=by
 rcases h with h|⟨b,h⟩
 .exact .inl h
 .exact .inr ⟨_,h,trivial⟩
theorem zBD{J:AS}{v l}(h:zaq v l):IntsO J v l:=by
 rcases h with h|⟨b,h⟩
 .exact .inl h
 .exact .inr ⟨_,h,trivial⟩
theorem zDP{J:AS}{v l}(h:zcn v l):LstO J v l:=by
 rcases h with h|⟨b,rows,h,k⟩
 .exact .inl h
 .exact .inr ⟨_,rows,h,trivial,all2_mono k λ_ _ q=>zLa q⟩
theorem m_o{J:AS}{v m}(h:MV v m):MO J v m:=by
 obtain⟨fv,rfl,hf⟩:=h
 refine⟨fv,rfl,?_⟩
 rcases hf with h|⟨b,rows,h,k⟩
 .exact .inl h
 .refine .inr ⟨_,rows,h,trivial,all2_mono k λ_ _ q=>?_⟩
  obtain⟨pv,lv,tv,h,a,b,c⟩:=q
  exact⟨pv,lv,tv,h,zBD a,zBD b,zDP c⟩
end Go.Proofs.YtohfclafhegadaaGreatDoor.Al
namespace Go.Proofs.YtohfclafhegadaaGreatDoor.Al
open Go Go.Abs Go.Proofs.YtohfclafhegadaaGreatDoor
theorem rep_e{J:AS}(h0:0<J.nf/\J.F 0=.alive){v l}(h:RepE v l):RepO J v l:=by
 rcases h with h|⟨b,h⟩
 .exact .inl h
 .exact .inr ⟨_,h,h0⟩
theorem ints_e{J:AS}(h0:0<J.nf/\J.F 0=.alive){v l}(h:IntsE v l):IntsO J v l:=by
 rcases h with ⟨rfl,h|⟨b,h⟩⟩|⟨b,h⟩
 .exact .inl ⟨rfl,h⟩
 .exact .inr ⟨_,h,trivial⟩
 .exact .inr ⟨_,h,h0⟩
theorem zyI{R:AV->F × Nat->Prop}{S:AV->F->Prop}{rows:List AV}{ps:List (F × Nat)}(h:All2 R rows ps)(hs:∀v p,p∈ps->R v p->S v p.1):All2 S rows (ps.map Prod.fst):=by
 induction h with
 | nil=>exact .nil
 | cons h r ih=>exact .cons (hs _ _ (by simp) h) (ih λv p hp=>hs v p (by simp[hp]))
theorem m_e{J:AS}{base:Nat}(h0:0<J.nf/\J.F 0=.alive){v m}(h:ME J base v m):MO J v m:=by
 obtain⟨fv,rfl,hf⟩:=h
 refine⟨fv,rfl,?_⟩
 rcases hf with h|⟨g,rows,ps,rfl,q1,q2,q3,q4,q5,q6⟩
 .exact .inl h
 .refine .inr ⟨_,rows,rfl,⟨q2,q3⟩,?_⟩
  rw[<-q4]
  refine zyI q5 λv p hp ⟨pv,lv,tv,e,a,b,c⟩=>⟨pv,lv,tv,e,ints_e h0 a,ints_e h0 b,?_⟩
  obtain⟨u1,u2,u3,u4⟩:=q6.each p.2 (yaW hp)
  rcases c with c|⟨tos,rfl,c⟩
  .exact .inl c
  .exact .inr ⟨_,tos,rfl,⟨u2,u3⟩,all2_mono c λ_ _ q=>rep_e h0 q⟩
end Go.Proofs.YtohfclafhegadaaGreatDoor.Al
namespace Go.Proofs.YtohfclafhegadaaGreatDoor
open Go Go.Abs
def okT(t:List UInt8):Bool:=match t with
 | []=>true
 | c::r=>zN c&&r.all λx=>zN x||zB x
theorem zum(t:List UInt8):zeg 24 t=(decide (1<=t.length/\t.length<=24)&&okT t):=by
 cases t with
 | nil=>rfl
 | cons c r =>
  have:(1<=(c::r).length)=True:=by simp
  simp only[zeg,okT,this,true_and]
theorem zyJ(d:List UInt8)(c:UInt8):okT (d++[c])=(okT d&&(if d=[]then zN c else zN c||zB c)):=by
 cases d with
 | nil=>simp[okT]
 | cons x r=>simp[okT,Bool.and_assoc]
theorem zDQ(d r:List UInt8)(h:okT d=false):okT (d++r)=false:=by
 cases d with
 | nil=>cases h
 | cons x y =>
  simp only[okT,ydc,ycW]at *
  cases h1:zN x with
  | false=>simp
  | true=>simp[h1]at h;simp;intro a;exact absurd a (by simpa using h)
section
variable {G : Env} {J : AS} {R : Out -> AS -> Prop}
def TgI(t:List UInt8)(J:AS)(a:Nat->AV)(Z:AS):Prop:=∃(d r:List UInt8),t=d++r/\okT d=true/\a 0=.str t/\a 3=.int .i64 (d.length:Int)/\Z=J
theorem zH5{t:List UInt8}(hl:t.length<2^40)(h:R (.ret (.bool (zeg 24 t))) J):zzQ G 51 [.str t] J R:=by
 refine zC4 rfl ?_
 rw[zum]at h
 simp[zLK]
 refine zy (TgI t J) (MU 3 (t.length+1)) ⟨[],t,rfl,rfl,by simp,by simp,rfl⟩ λa Z hI=>?_
 obtain⟨d,r,hdr,hok,a0,a3,rfl⟩:=hI
 cases r with
 | nil =>
  have e:t=d:=by simpa using hdr
  have e2:d.length=t.length:=by rw[e]
  rw[e2]at a3
  rw[e,hok]at h
  rw[<-e]at h
  by_cases h1:1<=t.length
  .have h1i:(1:Int)<=(t.length:Int):=by omega
   by_cases h2:t.length<=24
   .have h2i:(t.length:Int)<=24:=by omega
    simp[zb9,zmv,a0,a3,h1,h1i,h2,h2i]
    simpa [h1,h2]using h
   .have h2i:¬(t.length:Int)<=24:=by omega
    simp[zb9,zmv,a0,a3,h1,h1i,h2,h2i]
    simpa [h1,h2]using h
  .have h1i:¬(1:Int)<=(t.length:Int):=by omega
   simp[zb9,zmv,a0,a3,h1,h1i]
   simpa [h1]using h
 | cons c r =>
  have hlt:d.length<t.length:=by simp[hdr]
  have hlti:(d.length:Int)<(t.length:Int):=by omega
  have hi:t[d.length]'hlt=c:=by simp[hdr]
  have w1:yb4 .i64 ((d.length:Int)+1)=((d.length+1:Nat):Int):=by rw[wrap_i64]<;>omega
  have e1:t=(d++[c])++r:=by simp[hdr]
  have bad:okT (d++[c])=false->R (.ret (.bool false)) Z:=λq=>by
   have:okT t=false:=by rw[e1];exact zDQ _ _ q
   rw[this]at h
   simpa using h
  have good:∀a':Nat->AV,okT (d++[c])=true->a' 0=.str t->a' 3=.int .i64 ((d.length+1:Nat):Int)->TgI t Z a' Z/\MU 3 (t.length+1) a' Z<MU 3 (t.length+1) a Z:=λa' q q0 q3=>by
   refine⟨⟨d++[c],r,e1,q,q0,by simpa using q3,rfl⟩,?_⟩
   simp[MU,a3,q3];omega
  rw[zyJ,hok,Bool.true_and]at bad good
  have hc255:=c.toNat_lt
  by_cases hL:97<=c.toNat/\c.toNat<=122
  .have l1:(97:Int)<=(c.toNat:Int):=by omega
   have l2:(c.toNat:Int)<=122:=by omega
   have hl:zN c=true:=by simp[zN,hL]
   simp[zb9,a0,a3,hlt,hlti,hi,hL,l1,l2,w1]
   refine good _ ?_ ?_ ?_
   .rw[hl];split<;>rfl
   .simp[a0]
   .simp
  .by_cases h95:c=95
   .subst h95
    simp[zb9,a0,a3,hlt,hlti,hi,w1]
    refine good _ ?_ ?_ ?_
    .have:zN 95=true:=by decide
     rw[this];split<;>rfl
    .simp[a0]
    .simp
   .have h95i:¬(c.toNat:Int)=95:=λe=>h95 (UInt8.toNat_inj.1 (show c.toNat=(95:UInt8).toNat by have:(95:UInt8).toNat=95:=rfl;omega))
    have h95n:¬c.toNat=95:=by omega
    have hl:zN c=false:=by
     simp only[zN,Bool.or_eq_false_iff,beq_eq_false_iff_ne,ne_eq,h95,not_false_iff,and_true]
     by_cases q:97<=c.toNat
     .have:¬c.toNat<=122:=λq2=>hL ⟨q,q2⟩
      simp[this]
     .simp[q]
    have pre:∀b97:Bool,decide ((97:Int)<=(c.toNat:Int))=b97->(b97=true->¬(c.toNat:Int)<=122):=λb e q=>by
     subst q
     have:=of_decide_eq_true e
     omega
    by_cases h97:(97:Int)<=(c.toNat:Int)
    .have h122:¬(c.toNat:Int)<=122:=by omega
     have h97n:97<=c.toNat:=by omega
     have h122n:¬c.toNat<=122:=by omega
     have hdg:zB c=false:=by simp[zB];omega
     by_cases hd0:d=[]
     .subst hd0
      simp at a3
      have hi0:t[0]'hlt=c:=hi
      have hlt0:0<t.length:=hlt
      have hlti0:(0:Int)<(t.length:Int):=by omega
      simp[zb9,a0,a3,hlt0,hlti0,hi0,h97,h122,h97n,h122n,h95i,h95n,h95,w1]
      exact bad (by simp[hl])
     .have hdi:¬(d.length:Int)=0:=by have:=ybm.2 hd0;omega
      have hdn:¬d.length=0:=by omega
      have h48:¬(c.toNat:Int)<48:=by omega
      have h48n:¬c.toNat<48:=by omega
      have h57:(57:Int)<(c.toNat:Int):=by omega
      have h57n:57<c.toNat:=by omega
      simp[zb9,a0,a3,hlt,hlti,hi,h97,h122,h97n,h122n,h95i,h95n,h95,w1,hdi,hdn,hd0,h48,h48n,h57,h57n]
      exact bad (by simp[hl,hd0,hdg])
    .have h97n:¬97<=c.toNat:=by omega
     by_cases hd0:d=[]
     .subst hd0
      simp at a3
      have hi0:t[0]'hlt=c:=hi
      have hlt0:0<t.length:=hlt
      have hlti0:(0:Int)<(t.length:Int):=by omega
      simp[zb9,a0,a3,hlt0,hlti0,hi0,h97,h97n,h95i,h95n,h95,w1]
      exact bad (by simp[hl])
     .have hdi:¬(d.length:Int)=0:=by have:=ybm.2 hd0;omega
      have hdn:¬d.length=0:=by omega
      by_cases h48:(c.toNat:Int)<48
      .have h48n:c.toNat<48:=by omega
       have hdg:zB c=false:=by simp[zB];omega
       simp[zb9,a0,a3,hlt,hlti,hi,h97,h97n,h95i,h95n,h95,w1,hdi,hdn,hd0,h48,h48n]
       exact bad (by simp[hl,hd0,hdg])
      .have h48n:¬c.toNat<48:=by omega
       by_cases h57:(57:Int)<(c.toNat:Int)
       .have h57n:57<c.toNat:=by omega
        have hdg:zB c=false:=by simp[zB];omega
        simp[zb9,a0,a3,hlt,hlti,hi,h97,h97n,h95i,h95n,h95,w1,hdi,hdn,hd0,h48,h48n,h57,h57n]
        exact bad (by simp[hl,hd0,hdg])
       .have h57n:¬57<c.toNat:=by omega
        have hdg:zB c=true:=by simp[zB];omega
        simp[zb9,a0,a3,hlt,hlti,hi,h97,h97n,h95i,h95n,h95,w1,hdi,hdn,hd0,h48,h48n,h57,h57n]
        refine good _ ?_ ?_ ?_
        .simp[hl,hd0,hdg]
        .simp[a0]
        .simp
end
def zdk:List AV:=(signs.map λp=>[yc8 p.1,yc8 p.2]).flatten
structure zh2(G:Env):Prop where
 signs:G.g 10=.pv (.stat true) (.agg zdk)
 max:∃m,G.g 11=.pv (.stat true) (.int .i64 m)
theorem zcg{G:Env}{J:AS}{R:Out->AS->Prop}{t:Int}(h:R (.ret (.bool (zac t))) J):zzQ G 107 [.int .i64 t] J R:=by
 refine zw1 rfl ?_
 unfold zac at h
 by_cases h1:t=1
 .simp[h1]at h
  simp[zw0,h1];exact h
 .by_cases h2:t=2
  .simp[h2]at h
   simp[zw0,h2];exact h
  .simp[h1,h2]at h
   simp[zw0,h1,h2];exact h
def zkZ(e:Int):AV:=.iface 71 (.agg [.int .i64 e])
theorem ze{G:Env}{J:AS}{R:Out->AS->Prop}{b:Bool}{e:Int}(h1:b=true->R (.ret (.tuple [])) J)(h2:b=false->R (.panic (zkZ e)) J):zzQ G 53 [.bool b,.int .i64 e] J R:=by
 refine zC5 rfl ?_
 cases b with
 | true=>simp[zKW,splice];exact h1 rfl
 | false=>simp[zKW,splice];exact h2 rfl
theorem zjY{G:Env}{J:AS}{R:Out->AS->Prop}{t n:Int}(h:R (.ret (.bool (zfP t n))) J):zzQ G 228 [.int .i64 t,.int .i64 n] J R:=by
 refine zyl rfl ?_
 unfold zfP at h
 by_cases h1:t=1
 .by_cases h2:n=1
  .simp[h1,h2]at h;simp[zpU,h1,h2];exact h
  .by_cases h4:n=4
   .simp[h1,h4]at h;simp[zpU,h1,h4];exact h
   .simp[h1,h2,h4]at h;simp[zpU,h1,h2,h4];exact h
 .by_cases h2:t=2
  .by_cases h8:n=8
   .simp[h2,h8]at h;simp[zpU,h2,h8];exact h
   .simp[h2,h8]at h;simp[zpU,h2,h8];exact h
  .simp[h1,h2]at h;simp[zpU,h1,h2];exact h
theorem zos(k:IntKind)(n:Int)(h:k=.i8\/k=.i32):yb4 .i64 (k.wrap n)=k.wrap n:=by
 have hb:-2147483648<=k.wrap n/\k.wrap n<=2147483647:=by
  rcases h with rfl|rfl<;>simp only[yb4,yao,yap]<;>simp<;>omega
 rw[wrap_i64]<;>omega
theorem zlw{G:Env}{J:AS}{R:Out->AS->Prop}{t v:Int}(h:R (.ret (.int .i64 (zyE t v))) J):zzQ G 220 [.int .i64 t,.int .i64 v] J R:=by
 refine zyf rfl ?_
 unfold zyE at h
 by_cases h3:t=3
 .simp[h3]at h;simp[zui,h3,zos];exact h
 .by_cases h1:t=1
  .simp[h1]at h;simp[zui,h1,zos];exact h
  .by_cases h2:t=2
   .simp[h2]at h;simp[zui,h2];exact h
   .simp[h1,h2,h3]at h;simp[zui,h1,h2,h3];exact h
def GI(s:List UInt8)(J:AS)(a:Nat->AV)(Z:AS):Prop:=∃i:Nat,i<=16/\a 0=.str s/\a 5=.agg zdk/\a 6=.int .i64 (i:Int)/\zbW (signs.drop i) s=zbW signs s/\zb J Z
theorem zrr:∀(l:List (List UInt8 × List UInt8)) (i:Nat) (p:List UInt8 × List UInt8),l[i]?=some p->(((l.map λp=>[yc8 p.1,yc8 p.2]).flatten).drop (i*2)).take 2=[.str p.1,.str p.2]
 | [],i,p,h=>by simp at h
 | q::l,0,p,h=>by simp at h;subst h;rfl
 | q::l,i+1,p,h=>by
  have:=zrr l i p (by simpa using h)
  rw[show(i+1)*2=i*2+1+1 from by omega]
  simpa using this
theorem zyK(i:Nat)(h:i<16):∃p,signs[i]?=some p/\(zdk.drop (i*2)).take 2=[.str p.1,.str p.2] :=
 ⟨_,yau h,zrr signs i _ (yau h)⟩
theorem zlx{G:Env}(V:zh2 G){J:AS}{R:Out->AS->Prop}{s:List UInt8}(h:∀J',zb J J'->R (.ret (.str (zbW signs s))) J'):zzQ G 219 [.str s] J R:=by
 refine zye rfl ?_
 have hg:=V.signs
 have hl:zdk.length=32:=rfl
 simp[zHH,hg,hl]
 refine zy (GI s J) (MU 6 17) ⟨0,by omega,by simp,by simp,by simp,rfl,.refl _⟩ λa Z hI=>?_
 obtain⟨i,hi,a0,a5,a6,hs,A⟩:=hI
 by_cases hlt:i<16
 .obtain⟨p,hp,hc⟩:=zyK i hlt
  have hd:signs.drop i=p::signs.drop (i+1):=by
   obtain⟨hi',e⟩:=yaq.1 hp
   rw[ydd hi',e]
  have hlt':(i:Int)<16:=by omega
  have hw3:yb4 .i64 ((i:Int)+1)=((i+1:Nat):Int):=by rw[wrap_i64]<;>omega
  have hle:i*2+2<=32:=by omega
  obtain⟨x,y⟩:=p
  rw[hd,zbW]at hs
  by_cases he:x=s
  .rw[if_pos he]at hs
   simp[zgK,a0,a5,a6,hlt',hl,hle,za6,hc,splice,he]
   rw[hs]
   exact h _ ((A.newO).setO (by have:=A.no;omega))
  .rw[if_neg he]at hs
   simp[zgK,a0,a5,a6,hlt',hl,hle,za6,hc,splice,he,hw3]
   refine⟨⟨i+1,by omega,by simp[a0],by simp[a5],by simp,hs,(A.newO).setO (by have:=A.no;omega)⟩,?_⟩
   simp[MU,a6];omega
 .have he:i=16:=by omega
  subst he
  have:zbW signs s=[]:=by rw[<-hs];rfl
  rw[this]at h
  simp[zgK,zrm,a6]
  exact h _ A
@[simp] theorem grown_full_cons{KS:AV->AS->Prop}{J:AS}(el bs sz f s' xs y ys):zb8 el bs sz (.sl (.fam f true) s' xs) (y::ys) J KS=(s'=sz/\(xs.length+(y::ys).length)*bs<=2^47/\J.F f=.alive/\KS (.sl (.fam J.nf false) sz (xs++y::ys)) J.newF):=by simp[zb8]
@[simp] theorem zDR{P:Program}{G:Env}{n:Nat}{pa pb:PC}{ps:List Nat}{f0:Nat}{a:Nat->AV}{l:Nat}{args:List AV}{J:AS}{K PK:AV->AS->Prop}:
  znU P (G.under P n pa pb ps f0 a l) (.fn (.yield l) [] []) args J K PK=(args.length=ps.length/\J.F f0=.alive/\avc P G n pa (zan (λa1 J1=>J1.F f0=.alive/\avc P G n pb (rq f0 K PK) a1 J1) λ_ _ _=>False) (upds a ps args) J):=by
 simp[znU,Env.under,zBl]
@[simp] theorem zH6(f0:Nat)(K PK:AV->AS->Prop)(a:Nat->AV)(J:AS):rq f0 K PK .normal a J=(J.F f0=.alive/\K (.bool true) J):=Eq.trans rfl rfl
@[simp] theorem zJV(f0:Nat)(K PK:AV->AS->Prop)(v:AV)(a:Nat->AV)(J:AS):rq f0 K PK (.panic v) a J=(J.F f0=.alive/\PK v { J with F:=upd J.F f0 .dead }):=Eq.trans rfl rfl
def zcc(l:List Int):List AV:=l.map (.int .i64)
def SV(J:AS)(sv:AV)(st:List Int):Prop:=(st=[]/\sv=.nilsl)\/∃g b,sv=.sl (.fam g b) 1 (zcc st)/\g<J.nf/\J.F g=.alive
def zp4(J:AS)(x f:Nat):Prop:=∃cs v,J.objs x=some cs/\cs[1]?=some v/\zcJ v=some f
structure zbu(x:Nat)(J J':AS):Prop where
 no:J.no<=J'.no
 nf:J.nf<=J'.nf
 obj:∀o,o<J.no->o≠x->J'.objs o=J.objs o
 fam:∀f,f<J.nf->¬zp4 J x f->J'.F f=J.F f
 use:∀f,f<J.nf->zp4 J' x f->zp4 J x f
theorem zbu.refl(x J):zbu x J J:=⟨yah _,yah _,λ_ _ _=>rfl,λ_ _ _=>rfl,λ_ _ h=>h⟩
theorem zbu.trans{x J J1 J2}(h:zbu x J J1)(h':zbu x J1 J2):zbu x J J2 where
 no:=yai h.no h'.no
 nf:=yai h.nf h'.nf
 obj o a b:=by rw[h'.obj o (yag a h.no) b,h.obj o a b]
 fam f a b:=by rw[h'.fam f (yag a h.nf) λu=>b (h.use f a u),h.fam f a b]
 use f a u:=h.use f a (h'.use f (yag a h.nf) u)
theorem zb.keepL{x J J'}(h:zb J J')(hx:x<J.no):zbu x J J' where
 no:=h.no
 nf:=h.nf
 obj o a _:=h.obj o a
 fam f a _:=h.fam f a
 use f _ u:=by unfold zp4 at *;rwa [h.obj x hx]at u
def LS(J:AS)(x c:Nat)(s:St)(deep:Int):Prop:=x<J.no/\∃sv,J.objs x=some [.ptr c 0,sv,.bool s.any,.int .i64 deep]/\SV J sv s.stack
theorem LS.adds{J J' x c s deep}(h:LS J x c s deep)(A:zb J J'):LS J' x c s deep:=by
 obtain⟨hx,sv,ho,hs⟩:=h
 refine⟨yag hx A.no,sv,(A.obj x hx).trans ho,?_⟩
 rcases hs with hs|⟨g,b,e,h1,h2⟩
 .exact .inl hs
 .exact .inr ⟨g,b,e,yag h1 A.nf,(A.fam g h1).trans h2⟩
def zwi(R:Out->AS->Prop)(x c:Nat)(deep:Int)(J:AS):Res St->Prop
 | .ok s'=>∀J',zbu x J J'->LS J' x c s' deep->R (.ret (.tuple [])) J'
 | .error e=>∀J',zbu x J J'->R (.panic (zkZ e)) J'
theorem zbu.set{x J cs}(hx:x<J.no)(h:∀f v,f<J.nf->cs[1]?=some v->zcJ v=some f->zp4 J x f):zbu x J (J.setO x cs) where
 no:=yah _
 nf:=yah _
 obj o _ ho:=by simp[ho]
 fam f _ _:=rfl
 use f hf u:=by
  obtain⟨cs',v,h1,h2,h3⟩:=u
  simp at h1
  subst h1
  exact h f v hf h2 h3
theorem zhr{G:Env}{J:AS}{R:Out->AS->Prop}{x c:Nat}{s:St}{deep:Int}(L:LS J x c s deep)(hb:s.stack.length<=2^40)(h:zwi R x c deep J (zed s)):zzQ G 231 [.ptr x 0] J R:=by
 refine zyo rfl ?_
 have L0:=L
 obtain⟨hx,sv,ho,hs⟩:=L
 unfold zed at h
 rcases hs with ⟨hnil,rfl⟩|⟨g,b,rfl,hg1,hg2⟩
 .have hl:s.stack.length=0:=by rw[hnil];rfl
  rw[if_pos hl]at h
  cases ha:s.any with
  | true =>
   rw[ha]at ho h
   rw[if_pos rfl]at h
   simp[zpW,ho]
   exact h J (.refl _ _) L0
  | false =>
   rw[ha]at ho h
   rw[if_neg (by simp)]at h
   simp[zpW,ho]
   refine ze (λq=>by simp at q) λ_=>?_
   exact h J (.refl _ _)
 .have hlA:(zcc s.stack).length=s.stack.length:=by simp[zcc]
  by_cases hl:s.stack.length=0
  .rw[if_pos hl]at h
   have hl2:zcc s.stack=[]:=ybS.1 (by omega)
   cases ha:s.any with
   | true =>
    rw[ha]at ho h
    rw[if_pos rfl]at h
    simp[zpW,ho,hl2]
    exact h J (.refl _ _) L0
   | false =>
    rw[ha]at ho h
    rw[if_neg (by simp)]at h
    simp[zpW,ho,hl2]
    refine ze (λq=>by simp at q) λ_=>?_
    exact h J (.refl _ _)
  .rw[if_neg hl]at h
   have hl2:¬((zcc s.stack).length:Int)=0:=by omega
   have hl3:(0:Int)<((zcc s.stack).length:Int):=by omega
   have hne:¬zcc s.stack=[]:=λq=>by rw[q]at hl2;simp at hl2
   have hpos:0<(zcc s.stack).length:=by omega
   have hw:yb4 .i64 (((zcc s.stack).length:Int)-1)=(((zcc s.stack).length-1:Nat):Int):=by rw[wrap_i64]<;>omega
   have e:(zcc s.stack).take ((zcc s.stack).length-1)=zcc s.stack.dropLast:=by
    rw[hlA];unfold zcc;rw[<-List.map_take,List.dropLast_eq_take]
   simp[zpW,ho,hne,hpos,splice]
   refine ze (λ_=>?_) (λq=>by simp at q)
   simp[zpW,ho,hne,hpos,splice,hw]
   rw[e]
   refine h _ (.set hx λf v hf hv hfam=>?_) ⟨by simpa using hx,_,by simp,.inr ⟨g,true,rfl,hg1,hg2⟩⟩
   simp at hv
   subst hv
   simp[zcJ]at hfam
   subst hfam
   exact⟨_,_,ho,rfl,rfl⟩
theorem zun(J:AS)(x:Nat)(a b:List AV):(J.setO x a).setO x b=J.setO x b:=by
 unfold AS.setO
 congr 1
 funext j
 simp only[upd]
 split<;>rfl
theorem zcK{G:Env}{J:AS}{R:Out->AS->Prop}{x c:Nat}{s:St}{deep:Int}(L:LS J x c s deep)(h:∀J',zbu x J J'->LS J' x c zpX deep->R (.ret (.tuple [])) J'):zzQ G 195 [.ptr x 0] J R:=by
 refine zx5 rfl ?_
 obtain⟨hx,sv,ho,hs⟩:=L
 simp[zHE,ho,splice]
 rw[zun]
 refine h _ ((zbu.set (cs:=[.ptr c 0,.nilsl,.bool true,.int .i64 deep]) hx λf v hf hv hfam=>?_)) ⟨by simpa using hx,_,by simp[zpX],.inl ⟨rfl,rfl⟩⟩
 simp at hv
 subst hv
 simp[zcJ]at hfam
theorem zbu.grow{x:Nat}{J J1:AS}{cs:List AV}(hx:x<J.no)(ho:J1.objs=J.objs)(hno:J1.no=J.no)(hnf:J.nf<=J1.nf)(hF:∀f,f<J.nf->¬zp4 J x f->J1.F f=J.F f)(h:∀f v,f<J.nf->cs[1]?=some v->zcJ v=some f->False):zbu x J (J1.setO x cs) where
 no:=by simp[hno]
 nf:=by simpa using hnf
 obj o _ hne:=by simp[hne,ho]
 fam f hf hu:=hF f hf hu
 use f hf u:=by
  obtain⟨cs',v,h1,h2,h3⟩:=u
  simp at h1
  subst h1
  exact(h f v hf h2 h3).elim
theorem zaK{G:Env}{J:AS}{R:Out->AS->Prop}{x c:Nat}{s:St}{deep t:Int}(L:LS J x c s deep)(hb:s.stack.length<=2^40)(h:∀J',zbu x J J'->LS J' x c (zdP s t) deep->R (.ret (.tuple [])) J'):zzQ G 194 [.ptr x 0,.int .i64 t] J R:=by
 refine zx4 rfl ?_
 have L0:=L
 obtain⟨hx,sv,ho,hs⟩:=L
 by_cases ht:t=0
 .have e:zdP s t=s:=by simp[zdP,ht]
  rw[e]at h
  simp[zuh,ht]
  exact h J (.refl _ _) L0
 .have e:zdP s t={ s with stack:=s.stack++[t] }:=by simp[zdP,ht]
  rw[e]at h
  rcases hs with ⟨hnil,rfl⟩|⟨g,b,rfl,hg1,hg2⟩
  .simp[zuh,ht,ho,splice]
   refine h _ (.grow hx rfl rfl (by simp) (λf hf _=>by simp;omega) λf v hf hv hfam=>?_) ⟨by simpa using hx,.sl (.fam J.nf false) 1 (zcc (s.stack++[t])),by simp[hnil,zcc],.inr ⟨J.nf,false,rfl,by simp,by simp⟩⟩
   .simp at hv;subst hv;simp[zcJ]at hfam;omega
  .have hlA:(zcc s.stack).length=s.stack.length:=by simp[zcc]
   have ea:zcc s.stack++[.int .i64 t]=zcc (s.stack++[t]):=by simp[zcc]
   cases b with
   | true =>
    simp[zuh,ht,ho,splice,hg2,hlA]
    refine⟨by omega,h _ (.grow hx rfl rfl (by simp) (λf hf _=>by simp;omega) λf v hf hv hfam=>?_) ⟨by simpa using hx,.sl (.fam J.nf false) 1 (zcc (s.stack++[t])),by simp[zcc],.inr ⟨J.nf,false,rfl,by simp,by simp⟩⟩⟩
    .simp at hv;subst hv;simp[zcJ]at hfam;omega
   | false =>
    simp[zuh,ht,ho,splice,hg2,hlA]
    refine⟨by omega,h _ (.grow hx rfl rfl (by simp) (λf hf hu=>?_) λf v hf hv hfam=>?_) ⟨by simpa using hx,.sl (.fam J.nf false) 1 (zcc (s.stack++[t])),by simp[zcc],.inr ⟨J.nf,false,rfl,by simp,by simp⟩⟩⟩
    .have:f≠g:=by rintro rfl;exact hu ⟨_,_,ho,rfl,rfl⟩
     simp[this];omega
    .simp at hv;subst hv;simp[zcJ]at hfam;omega
theorem zk0{G:Env}{J:AS}{R:Out->AS->Prop}{tv:AV}(hk:tv.known=true)(hc:tv.cells=[tv])(h:R (.ret (.fn (.func 250) [] [.ptr J.no 0])) (J.newO [tv])):zzQ G 230 [tv] J R:=by
 refine zyn rfl ?_
 simp[zHK,hk,hc]
 exact h
theorem zsz(t:Int)(ts:List Int)(s:St):zao (t::ts) s=if s.stack.length=0\/s.stack.getLast?=some t then(match zed s with|.ok s'=>zao ts s'|.error e=>.error e)else .error 14:=rfl
theorem ziS{s s':St}(h:zed s=.ok s'):s'.stack.length<=s.stack.length:=by
 unfold zed at h
 split at h
 .split at h
  .cases h;exact yah _
  .cases h
 .cases h;simp
@[simp] theorem zJW(a:Nat->AV)(p q:Nat)(x y:AV):upds a [p,q] [x,y]=upd (upd a p x) q y:=Eq.trans rfl rfl
theorem SV.len{J:AS}{sv:AV}{st:List Int}(h:SV J sv st)(K:AV->Prop):zij yb9 44 sv K=K (.int .i64 (st.length:Int)):=by
 rcases h with ⟨rfl,rfl⟩|⟨g,b,rfl,_⟩
 .simp
 .simp[zcc]
theorem SV.last{J:AS}{sv:AV}{st:List Int}(h:SV J sv st)(hn:0<st.length):∃φ v,zl J.F φ/\st.getLast?=some v/\∀(n:Int),n=(st.length:Int)-1->∀K:AV->Prop,zA yb9 44 sv (.int .i64 n) K=K (.pv φ (.int .i64 v)):=by
 rcases h with ⟨rfl,_⟩|⟨g,b,rfl,_,hg⟩
 .simp at hn
 .refine⟨.fam g b,st[st.length-1],hg,by rw[List.getLast?_eq_getElem?,yau (by omega)],λn hn2 K=>?_⟩
  have e:n.toNat=st.length-1:=by omega
  have h0:0<=n:=by omega
  have hlt:st.length-1<st.length:=by omega
  simp[zcc,e,h0,hlt]
def TI(x c:Nat)(deep:Int)(o f0 l:Nat)(JN:AS)(ts:List Int)(s0:St)(a:Nat->AV)(Z:AS):Prop:=∃(i:Nat) (s:St),i<=ts.length/\a 0=.fn (.yield l) [] []/\a 1=.ptr o 0/\a 3=.int .i64 ((i:Int)-1)/\LS Z x c s deep/\zbu x JN Z/\s.stack.length<=s0.stack.length /\
 zao (ts.take i).reverse s=zao ts.reverse s0
def TM(a:Nat->AV)(_:AS):Nat:=match a 3 with|.int _ n=>(n+1).toNat|_=>0
theorem zbN{G:Env}{J:AS}{R:Out->AS->Prop}{x c:Nat}{s:St}{deep:Int}{ts:List Int}{tv:AV}(hv:zaq tv ts)(hts:ts.length<=2^40)(L:LS J x c s deep)(hb:s.stack.length<=2^40)(h:zwi R x c deep J (zao ts.reverse s)):zzQ G 193 [.ptr x 0,tv] J R:=by
 obtain⟨v1,v2,v3⟩:=hv.one
 refine zn8 (px:=zug) (py:=zrj) (pa:=zeI) (pb:=zeJ) zt5 Tryz.func193 (n:=33) (res:=[]) rfl rfl rfl (by kernel_rfl) (by kernel_rfl) (by kernel_rfl) (by kernel_rfl) (by decide) (by simp) ?_
 simp[zug,zrj]
 refine zk0 v1 v3 ?_
 simp
 generalize hJ2:(J.newO [yde x 0]).newO [tv]=J2
 have hno2:J2.no=J.no+2:=by rw[<-hJ2];simp
 have hnf2:J2.nf=J.nf:=by rw[<-hJ2];simp
 have A2:zb J J2:=by rw[<-hJ2];exact(zb.refl J).newO.newO
 have hb0:J2.objs J.no=some [.ptr x 0]:=by rw[<-hJ2];simp
 have ho0:J2.objs (J.no+1)=some [tv]:=by rw[<-hJ2];simp
 have hxl:=L.1
 refine⟨250,[.ptr (J.no+1) 0],by simp,by simp,λl=>?_⟩
 refine zyx rfl ?_
 have L2:LS J2.newF x c s deep:=(L.adds A2).adds (zb.refl J2).newF
 have AN:zb J J2.newF:=A2.newF
 have hnu:∀Z,zbu x J2.newF Z->Z.F J2.nf=.alive:=λZ K=>by
  rw[K.fam J2.nf (by simp) ?_]
  .simp
  .rintro ⟨cs,v,e1,e2,e3⟩
   obtain⟨hx,sv,e4,e5⟩:=L
   have:J2.newF.objs x=some [.ptr c 0,sv,.bool s.any,.int .i64 deep]:=(AN.obj x hx).trans e4
   rw[this]at e1
   cases e1
   simp at e2
   subst e2
   rcases e5 with ⟨_,rfl⟩|⟨g,b,rfl,hg,_⟩
   .simp[zcJ]at e3
   .simp[zcJ]at e3;omega
 -- a state behind the loop
 have back:∀Z,zbu x J2.newF Z->zbu x J { Z with F:=upd Z.F J2.nf .dead }:=by
  intro Z K
  have K':=(AN.keepL hxl).trans K
  exact⟨K'.no,K'.nf,K'.obj,λf hf hu=>by simp only[upd];rw[if_neg (by omega)];exact K'.fam f hf hu,K'.use⟩
 have backL:∀Z s',zbu x J2.newF Z->LS Z x c s' deep->LS { Z with F:=upd Z.F J2.nf .dead } x c s' deep:=by
  intro Z s' K ⟨e1,sv,e2,e3⟩
  refine⟨e1,sv,e2,?_⟩
  rcases e3 with e3|⟨g,b,e4,e5,e6⟩
  .exact .inl e3
  .refine .inr ⟨g,b,e4,e5,?_⟩
   have hne:g≠J2.nf:=by
    rintro rfl
    have u:zp4 Z x J2.nf:=⟨_,_,e2,rfl,by rw[e4];rfl⟩
    obtain⟨cs,v,q1,q2,q3⟩:=K.use J2.nf (by simp) u
    obtain⟨hx,sv',q4,q5⟩:=L2
    rw[q4]at q1
    cases q1
    simp at q2
    subst q2
    rcases q5 with ⟨_,rfl⟩|⟨g',b',rfl,hg',_⟩
    .simp[zcJ]at q3
    .obtain⟨hx1,sv1,p1,p2⟩:=L
     have:J2.newF.objs x=some [.ptr c 0,sv1,.bool s.any,.int .i64 deep]:=(AN.obj x hx1).trans p1
     rw[q4]at this
     simp at this
     subst this
     rcases p2 with ⟨_,p3⟩|⟨g2,b2,p3,p4,_⟩
     .cases p3
     .simp at p3;simp[zcJ]at q3;omega
   simp only[upd];rw[if_neg hne];exact e6
 have ho1:J2.newF.objs (J.no+1)=some [tv]:=by simpa using ho0
 have hw0:yb4 .i64 ((ts.length:Int)-1)=(ts.length:Int)-1:=by rw[wrap_i64]<;>omega
 have start:∀a,TI x c deep (J.no+1) J2.nf l J2.newF ts s a J2.newF->zju yb9 (Env.under G yb9 33 zeI zeJ [9,10] J2.nf (upd (upd (upd (zb5 [yde x 0,tv]) 2 (yde J.no 0)) 7 tv) 8 (AV.fn (Fn.func 250) [] [yde (J.no+1) 0])) l) 19 zfl
   (zai 0 (zcq yb9 [] λo J'=>match o with
    | .ret v=>J'.F J2.nf=.alive/\R (.ret (.tuple [])) { J' with F:=upd J'.F J2.nf .dead }
    | .panic v=>R (.panic v) J')) a J2.newF:=by
  intro a hI
  refine zy (TI x c deep (J.no+1) J2.nf l J2.newF ts s) TM hI λa Z hI=>?_
  obtain⟨i,s1,hi,a0,a1,a3,L1,K1,hle,hq⟩:=hI
  have hal:=hnu Z K1
  have hob:Z.objs (J.no+1)=some [tv]:=by
   rw[K1.obj (J.no+1) (by simp;omega) (by omega)];exact ho1
  have hob0:Z.objs J.no=some [.ptr x 0]:=by
   rw[K1.obj J.no (by simp;omega) (by omega)];simpa using hb0
  cases i with
  | zero =>
   simp[zao]at hq
   rw[<-hq]at h
   simp[zfl,a3]
   exact⟨hal,h _ (back Z K1) (backL Z s1 K1 L1)⟩
  | succ j =>
   have hj:j<ts.length:=by omega
   rcases hv with ⟨rfl,_⟩|⟨b,rfl⟩
   .simp at hj
   have hrev:(ts.take (j+1)).reverse=ts[j]::(ts.take j).reverse:=by rw[yc5 hj,List.reverse_append];rfl
   rw[hrev,zsz]at hq
   obtain⟨hx1,sv1,hs1,hs2⟩:=L1
   have L1':LS Z x c s1 deep:=⟨hx1,sv1,hs1,hs2⟩
   have hf0:=hal
   have hsl:=hs2.len
   have hwj:yb4 .i64 ((j:Int)-1)=(j:Int)-1:=by rw[wrap_i64]<;>omega
   have next:∀(a':Nat->AV) (Z':AS) (s':St),zbu x Z Z'->LS Z' x c s' deep->zao (ts.take j).reverse s'=zao ts.reverse s->s'.stack.length<=s1.stack.length->a' 0=.fn (.yield l) [] []->a' 1=.ptr (J.no+1) 0->a' 3=.int .i64 ((j:Int)-1) ->
     TI x c deep (J.no+1) J2.nf l J2.newF ts s a' Z'/\TM a' Z'<TM a Z:=by
    intro a' Z' s' K' L' e' l' b0 b1 b3
    refine⟨⟨j,s',by omega,b0,b1,b3,L',K1.trans K',by omega,e'⟩,?_⟩
    simp only[TM,a3,b3]
    omega
   by_cases hn:s1.stack.length=0
   .have hn':s1.stack=[]:=ybS.1 hn
    rw[if_pos (.inl hn)]at hq
    simp[zfl,a0,a1,a3,hob,hj,zeI,zeJ,hal,hob0,hs1,hsl,hn']
    refine ze (λ_=>?_) (λq=>by simp at q)
    simp[hob0]
    refine zhr L1' (by omega) ?_
    cases hd:zed s1 with
    | ok s' =>
     rw[hd]at hq
     intro Z' K' L'
     simp[hal,hnu Z' (K1.trans K'),a0,a1,a3,hwj]
     exact next _ Z' s' K' L' hq (ziS hd) (by simp[a0]) (by simp[a1]) (by simp)
    | error e =>
     rw[hd]at hq
     simp only at hq
     rw[<-hq]at h
     intro Z' K'
     simp[hal,hnu Z' (K1.trans K')]
     exact h _ (back Z' (K1.trans K'))
   .obtain⟨φ,v,hrd,hlast,hix⟩:=hs2.last (by omega)
    have hix':=hix _ rfl
    have hw1:yb4 .i64 ((s1.stack.length:Int)-1)=(s1.stack.length:Int)-1:=by rw[wrap_i64]<;>omega
    have hne:¬s1.stack=[]:=λq=>hn (by rw[q];rfl)
    by_cases hvt:v=ts[j]
    .rw[if_pos (.inr (by rw[hlast,hvt]))]at hq
     subst hvt
     simp[zfl,a0,a1,a3,hob,hj,zeI,zeJ,hal,hob0,hs1,hsl,hne,hix',hw1,hrd]
     refine ze (λ_=>?_) (λq=>by simp at q)
     simp[hob0]
     refine zhr L1' (by omega) ?_
     cases hd:zed s1 with
     | ok s' =>
      rw[hd]at hq
      intro Z' K' L'
      simp[hal,hnu Z' (K1.trans K'),a0,a1,a3,hwj]
      exact next _ Z' s' K' L' hq (ziS hd) (by simp[a0]) (by simp[a1]) (by simp)
     | error e =>
      rw[hd]at hq
      simp only at hq
      rw[<-hq]at h
      intro Z' K'
      simp[hal,hnu Z' (K1.trans K')]
      exact h _ (back Z' (K1.trans K'))
    .rw[if_neg (by rintro (q|q);exact hn q;rw[hlast]at q;exact hvt (yaR.inj q))]at hq
     rw[<-hq]at h
     simp[zfl,a0,a1,a3,hob,hj,zeI,zeJ,hal,hob0,hs1,hsl,hne,hix',hw1,hrd,hvt]
     refine ze (λq=>by simp at q) (λ_=>?_)
     simp[hal]
     exact h _ (back Z K1)
 simp[zHM,ho1,hv.len,hw0]
 exact start _ ⟨ts.length,s,yah _,by simp,by simp,by simp,L2,.refl _ _,yah _,by rw[yda]⟩
def zrs(J:AS)(c:Nat)(m:M)(f:F)(ls:List Int):Prop:=c<J.no/\∃fsv pv lv tv sv,J.objs c=some [fsv,.int .i64 m.memory,.int .i64 m.main,.str f.name,pv,lv,.int .i64 f.type,tv,sv]/\FsV fsv m.funcs/\zaq pv f.params/\zaq lv f.locals/\zcn tv f.lists/\zaq sv ls
theorem zrs.adds{J J' c m f ls}(h:zrs J c m f ls)(A:zb J J'):zrs J' c m f ls:=by
 obtain⟨hc,fsv,pv,lv,tv,sv,ho,r⟩:=h
 exact⟨yag hc A.no,fsv,pv,lv,tv,sv,(A.obj c hc).trans ho,r⟩
theorem zrs.keep{J J' x c m f ls}(h:zrs J c m f ls)(K:zbu x J J')(hx:c≠x):zrs J' c m f ls:=by
 obtain⟨hc,fsv,pv,lv,tv,sv,ho,r⟩:=h
 exact⟨yag hc K.no,fsv,pv,lv,tv,sv,(K.obj c hc hx).trans ho,r⟩
theorem zdQ{G:Env}{J:AS}{R:Out->AS->Prop}{x c:Nat}{s:St}{deep:Int}{m:M}{f:F}{ls:List Int}(L:LS J x c s deep)(C:zrs J c m f ls)(hb:s.stack.length<=2^40)(h:zwi R x c deep J (zH f.type s)):zzQ G 162 [.ptr x 0] J R:=by
 refine zxJ rfl ?_
 obtain⟨hc,fsv,pv,lv,tv,lsv,hco,_⟩:=C
 obtain⟨hx,sv,ho,hs⟩:=L
 unfold zH at h
 by_cases ht:f.type=0
 .rw[if_pos ht]at h
  simp[zDD,ho,hco,ht]
  exact h J (.refl _ _) ⟨hx,sv,ho,hs⟩
 .rw[if_neg ht]at h
  simp[zDD,ho,hco,ht]
  refine zbN (ts:=[f.type]) (.inr ⟨_,rfl⟩) (by simp) ⟨hx,sv,ho,hs⟩ hb ?_
  have e:[f.type].reverse=[f.type]:=rfl
  rw[e]
  revert h
  cases zao [f.type] s with
  | ok s'=>intro h J' K L;simp;exact h J' K L
  | error e=>intro h J' K;simp;exact h J' K
theorem zsA{G:Env}(V:zh2 G){J:AS}{R:Out->AS->Prop}{w:W}(h:∀J',zb J J'->R (.ret (.bool (zT w))) J'):zzQ G 191 [w.av] J R:=by
 refine zx2 rfl ?_
 unfold zT at h
 have A:zb J (J.newO w.cs):=(zb.refl J).newO
 simp only[W.cs]at A
 by_cases h1:w.op=1
 .rw[if_pos (.inl h1)]at h
  simp[zmN,W.av,W.cs,h1]
  refine zcg ?_
  simp
  simpa [h1]using h _ A
 by_cases h5:w.op=5
 .rw[if_pos (.inr h5)]at h
  simp[zmN,W.av,W.cs,h5]
  refine zcg ?_
  simp
  simpa [h5]using h _ A
 rw[if_neg (by omega)]at h
 by_cases h4:w.op=4
 .rw[if_pos h4]at h
  simp[zmN,W.av,W.cs,h4]
  refine zcg ?_
  cases hn:zac w.ty with
  | false =>
   rw[hn]at h
   simp
   simpa [h4]using h _ A
  | true =>
   rw[hn]at h
   simp
   refine zlx V λJ1 A1=>?_
   simp
   have:=h _ ((by simpa [h4]using A:zb J _).trans A1)
   cases hq:zbW signs w.name with
   | nil=>rw[hq]at this;simpa using this
   | cons a l=>rw[hq]at this;simpa using this
 rw[if_neg h4]at h
 by_cases h8:w.op=8
 .rw[if_pos (.inl h8)]at h
  simp[zmN,W.av,W.cs,h8]
  refine zjY ?_
  simp
  simpa [h8]using h _ A
 by_cases h9:w.op=9
 .rw[if_pos (.inr h9)]at h
  simp[zmN,W.av,W.cs,h9]
  refine zjY ?_
  simp
  simpa [h9]using h _ A
 rw[if_neg (by omega)]at h
 by_cases k1:1<=w.op
 .by_cases k2:w.op<=18
  .simp[k1,k2]at h
   simp[zmN,W.av,W.cs,h1,h5,h4,h8,h9,k1,k2]
   exact h _ A
  .simp[k1,k2]at h
   simp[zmN,W.av,W.cs,h1,h5,h4,h8,h9,k1,k2]
   exact h _ A
 .simp[k1]at h
  simp[zmN,W.av,W.cs,h1,h5,h4,h8,h9,k1]
  exact h _ A
def zDS(v:AV)(r:Option (List Int × Int)):Prop:=match r with
 | some (ts,g)=>∃tv,v=.tuple [.agg [tv,.int .i64 g],.bool true]/\zaq tv ts
 | none=>v=.tuple [.agg [.nilsl,.int .i64 0],.bool false]
theorem zc2{G:Env}{J:AS}{R:Out->AS->Prop}{mv:AV}{m:M}{n:Int}(hm:MV mv m)(hb:n<=2^63-1)(h:∀v J',zDS v (zbz m.funcs n)->zb J J'->R (.ret v) J'):zzQ G 229 [mv,.int .i64 n] J R:=by
 refine zym rfl ?_
 obtain⟨fv,rfl,hf⟩:=hm
 unfold zbz at h
 have A0:∀c1 c2 c3:List AV,zb J (((J.newO c1).newO c2).setO (J.no+1) c3):=λ_ _ _=>((zb.refl J).newO.newO).setO (by omega)
 by_cases n0:n=0
 .rw[if_pos n0]at h
  simp[zpV,n0,splice]
  exact h _ _ ⟨_,rfl,.inl ⟨rfl,rfl⟩⟩ (A0 _ _ _)
 rw[if_neg n0]at h
 by_cases n1:n=1
 .rw[if_pos n1]at h
  simp[zpV,n1,splice]
  exact h _ _ ⟨_,rfl,.inr ⟨_,rfl⟩⟩ (A0 _ _ _)
 rw[if_neg n1]at h
 by_cases n2:n=2
 .rw[if_pos n2]at h
  simp[zpV,n2,splice]
  exact h _ _ ⟨_,rfl,.inr ⟨_,rfl⟩⟩ (A0 _ _ _)
 rw[if_neg n2]at h
 by_cases n3:n<0
 .rw[if_pos n3]at h
  simp[zpV,n0,n1,n2,n3,splice]
  exact h _ _ rfl (A0 _ _ _)
 rw[if_neg n3]at h
 have hw:yb4 .i64 (n-3)=n-3:=by rw[wrap_i64]<;>omega
 have hl:=hf.len
 by_cases n4:(m.funcs.length:Int)<=n-3
 .have e:m.funcs[(n-3).toNat]?=none:=yb2 (by omega)
  rw[e]at h
  simp[zpV,n0,n1,n2,n3,n4,splice,hl,hw]
  exact h _ _ rfl (A0 _ _ _)
 .rcases hf with ⟨e0,rfl⟩|⟨b,rows,rfl,hr⟩
  .rw[e0]at n4;simp at n4;omega
  have hlt:(n-3).toNat<m.funcs.length:=by omega
  have hg:m.funcs[(n-3).toNat]?=some m.funcs[(n-3).toNat]:=yau hlt
  obtain⟨row,hrow,pv,lv,tv,rfl,hp,hlv,htv⟩:=hr.get hg
  rw[hg]at h
  have h3:0<=n-3:=by omega
  have p1:=hp.one
  simp[zpV,n0,n1,n2,n3,n4,splice,hl,hw,hrow,h3,p1]
  refine⟨by omega,⟨hlv.one.2.1,htv.one.2.1⟩,h _ _ ⟨_,rfl,hp⟩ ?_⟩
  exact(((zb.refl J).newO.newO.newO).setO (by omega)).setO (by omega)
theorem zk1{G:Env}{J:AS}{R:Out->AS->Prop}{x c:Nat}{s:St}{deep:Int}{m:M}{f:F}{ls:List Int}{w:W}(L:LS J x c s deep)(C:zrs J c m f ls)(hb:w.n<=2^63-1)(h:∀J',zb J J'->R (.ret (.bool (zU m.funcs ls deep w))) J'):zzQ G 192 [.ptr x 0,w.av] J R:=by
 refine zx3 rfl ?_
 obtain⟨hc,fsv,pv,lv,tv,lsv,hco,hfs,hpv,hlv,htv,hls⟩:=C
 obtain⟨hx,sv,ho,hs⟩:=L
 have A:zb J (J.newO w.cs):=(zb.refl J).newO
 simp only[W.cs]at A
 have hx':x≠J.no:=by omega
 have hc':c≠J.no:=by omega
 unfold zU at h
 by_cases h1:w.op=1
 .rw[if_pos h1]at h
  simp[zkX,W.av,W.cs,h1]
  refine zlw ?_
  simp
  simpa [h1]using h _ A
 rw[if_neg h1]at h
 by_cases h2:w.op=2\/w.op=3
 .rw[if_pos h2]at h
  have hl:=hls.len
  by_cases k1:0<=w.n
  .by_cases k2:w.n<(ls.length:Int)
   .simp[k1,k2]at h
    rcases h2 with h2|h2<;>simp[zkX,W.av,W.cs,h1,h2,ho,hco,hx',hc',hl,k1,k2]<;>exact h _ (by simpa [h2]using A)
   .simp[k1,k2]at h
    rcases h2 with h2|h2<;>simp[zkX,W.av,W.cs,h1,h2,ho,hco,hx',hc',hl,k1,k2]<;>exact h _ (by simpa [h2]using A)
  .simp[k1]at h
   rcases h2 with h2|h2<;>simp[zkX,W.av,W.cs,h1,h2,ho,hco,hx',hc',hl,k1]<;>exact h _ (by simpa [h2]using A)
 rw[if_neg h2]at h
 have h2a:¬w.op=2:=λq=>h2 (.inl q)
 have h2b:¬w.op=3:=λq=>h2 (.inr q)
 by_cases h10:w.op=10
 .rw[if_pos h10]at h
  simp[zkX,W.av,W.cs,h10,ho,hco,hx',hc']
  have hx'':x≠J.no+1:=by omega
  have hc'':c≠J.no+1:=by omega
  have A':zb J (J.newO [.int .i64 10,.int .i64 w.ty,.int .i64 w.n,.int .i64 w.body,.int .i64 w.other,.str w.name]):=by simpa [h10]using A
  constructor
  .refine zc2 (m:=m) ⟨_,rfl,hfs⟩ hb λv J1 hv A1=>?_
   have A2:=A'.trans A1
   cases hq:zbz m.funcs w.n with
   | none =>
    rw[hq]at hv h
    simp only[zDS]at hv
    subst hv
    simp[splice]
    exact h _ (A2.newO.setO A2.no)
   | some p =>
    rw[hq]at hv h
    obtain⟨y,rfl,hy⟩:=hv
    have y1:=hy.one
    simp[splice,y1]
    exact h _ (A2.newO.setO A2.no)
  .simp[ho,hco,hx',hc',hx'',hc'']
   refine zc2 (m:=m) ⟨_,rfl,hfs⟩ hb λv J1 hv A1=>?_
   have A2:zb J J1:=(A'.newO).trans A1
   have hnew:J1.objs (J.no+1)=some [.nilsl,.int .i64 0]:=(A1.obj (J.no+1) (by simp)).trans (by simp)
   cases hq:zbz m.funcs w.n with
   | none =>
    rw[hq]at hv h
    simp only[zDS]at hv
    subst hv
    simp[splice,hnew]
    exact h _ (A2.setO (by omega))
   | some p =>
    rw[hq]at hv h
    obtain⟨y,rfl,hy⟩:=hv
    have y1:=hy.one
    simp[splice,y1,hnew]
    exact h _ (A2.setO (by omega))
 rw[if_neg h10]at h
 by_cases h14:w.op=14\/w.op=15
 .rw[if_pos h14]at h
  by_cases k1:0<=w.n
  .by_cases k2:w.n<=deep
   .simp[k1,k2]at h
    rcases h14 with h14|h14<;>simp[zkX,W.av,W.cs,h14,ho,hco,hx',hc',k1,k2]<;>exact h _ (by simpa [h14]using A)
   .simp[k1,k2]at h
    rcases h14 with h14|h14<;>simp[zkX,W.av,W.cs,h14,ho,hco,hx',hc',k1,k2]<;>exact h _ (by simpa [h14]using A)
  .simp[k1]at h
   rcases h14 with h14|h14<;>simp[zkX,W.av,W.cs,h14,ho,hco,hx',hc',k1]<;>exact h _ (by simpa [h14]using A)
 rw[if_neg h14]at h
 have h14a:¬w.op=14:=λq=>h14 (.inl q)
 have h14b:¬w.op=15:=λq=>h14 (.inr q)
 simp[zkX,W.av,W.cs,h1,h2a,h2b,h10,h14a,h14b]
 exact h _ A
@[simp] theorem zBE{P:Program}(t)(x y:List UInt8){K:AV->Prop}:zb0 P .add t (.str x) (.str y) K=(x.length+y.length<2^62/\K (.str (x++y))):=by simp only[zb0,zi1]
theorem zh2.cell{G:Env}(V:zh2 G){M F w}(g:GOk yb9 G M F w):∃m,w.cell? ⟨11,0,none⟩=some (.int .i64 m):=by
 obtain⟨m,hm⟩:=V.max
 have h:=g.vars 11
 rw[hm]at h
 cases h with
 | pv φ v B off cs hmem hc hv =>
  have h1:=hc trivial 0 (by simp)
  have h2:=hv trivial 0 (by simp)
  simp at h2
  generalize cs 0=c at h1 h2
  cases h2
  exact⟨m,h1⟩
theorem zk2{G:Env}(V:zh2 G){s t:List UInt8}{J:AS}{R:Out->AS->Prop}(hl:s.length<4294967281)(h:R (.ret (.bool (Lib.contains s t))) J):zzQ G 232 [.str s,.str t] J R:=by
 refine ACalls.of_below λM w cargs S g hc=>?_
 obtain⟨m,hm⟩:=V.cell g
 obtain⟨c0,e0,v0⟩:=hc.2 0 _ rfl
 obtain⟨c1,e1,v1⟩:=hc.2 1 _ rfl
 obtain⟨b0,rfl,rfl⟩:=v0.str_inv
 obtain⟨b1,rfl,rfl⟩:=v1.str_inv
 have hcargs:cargs=#[.string b0,.string b1]:=by
  have hsz:cargs.size=2:=hc.1
  apply Array.ext
  .simpa using hsz
  .intro i h1 h2
   match i,h1 with
   | 0,_=>simpa using (yaU.1 e0).2
   | 1,_=>simpa using (yaU.1 e1).2
   | i+2,h=>omega
 rw[hcargs]
 refine(Tryz.strings_Contains b0 b1 m w (by simpa using hl) hm).mono λe w' ⟨he,hw⟩=>?_
 subst he hw
 exact⟨⟨.bool _,_,rfl,λM F w=>.bool _,h⟩,rfl,rfl,rfl,yah _,λ_ _=>rfl⟩
theorem zcL:∀{ts:List Int} {s s':St},zao ts s=.ok s'->s'.stack.length<=s.stack.length
 | [],s,s',h=>by simp[zao]at h;subst h;exact yah _
 | t::ts,s,s',h=>by
  rw[zao]at h
  split at h
  .cases hd:zed s with
   | error e=>rw[hd]at h;cases h
   | ok s1=>rw[hd]at h;exact yai (zcL h) (ziS hd)
  .cases h
theorem zhs:∀s,zbW signs s≠[]->s.length<=5:=by
 have key:∀(l:List (List UInt8 × List UInt8)),(∀p∈l,p.1.length<=5)->∀s,zbW l s≠[]->s.length<=5:=by
  intro l
  induction l with
  | nil=>intro _ s h;simp[zbW]at h
  | cons p l ih =>
   intro hp s h
   obtain⟨x,y⟩:=p
   rw[zbW]at h
   by_cases e:x=s
   .subst e;exact hp (x,y) (by simp)
   .rw[if_neg e]at h;exact ih (λq hq=>hp q (by simp[hq])) s h
 exact key signs (by decide)
section
variable {G : Env} {J : AS} {R : Out -> AS -> Prop} {x c : Nat} {s : St} {deep : Int} {m : M} {f : F} {ls : List Int} {w : W}
theorem zp5(V:zh2 G)(L:LS J x c s deep)(C:zrs J c m f ls)(hcx:c≠x)(hb:s.stack.length<=2^39)(hn:w.n<=2^63-1)(hps:∀g∈m.funcs,g.params.length<=2^30)(hf:zT w=true)(hr:zU m.funcs ls deep w=true)
  (h:zwi R x c deep J (zcm m.funcs ls w s)):zzQ G 196 [.ptr x 0,w.av] J R:=by
 refine zx6 rfl ?_
 have A:zb J (J.newO w.cs):=(zb.refl J).newO
 have La:=L.adds A
 have Ca:=C.adds A
 have Ka:=A.keepL L.1
 have hwo:(J.newO w.cs).objs J.no=some [.int .i64 w.op,.int .i64 w.ty,.int .i64 w.n,.int .i64 w.body,.int .i64 w.other,.str w.name]:=by simp[W.cs]
 have hwl:J.no<(J.newO w.cs).no:=by simp
 have hxw:J.no≠x:=by have:=L.1;omega
 simp[zHF,W.av,W.cs]
 rw[show J.newO [yc6 yam w.op,yc6 yam w.ty,yc6 yam w.n,yc6 yam w.body,yc6 yam w.other,yc8 w.name]=J.newO w.cs from rfl]
 generalize hJa:J.newO w.cs=Ja at *
 obtain⟨hc,fsv,pv,lv,tv,lsv,hco,hfs,hpv,hlv,htv,hls⟩:=Ca
 obtain⟨hx,sv,ho,hs⟩:=La
 have La:LS Ja x c s deep:=⟨hx,sv,ho,hs⟩
 -- the zBk
 have fin:∀r:Res St,zwi R x c deep J r->zwi (zBk (λv J'=>R (.ret (.tuple [])) J') λv J'=>R (.panic v) J') x c deep Ja r:=by
  intro r hr
  cases r with
  | ok s'=>intro J' K L';simp;exact hr J' (Ka.trans K) L'
  | error e=>intro J' K;simp;exact hr J' (Ka.trans K)
 unfold zcm at h
 by_cases h1:w.op=1
 .rw[if_pos h1]at h
  simp[h1,hwo]
  refine zaK La (by omega) λJ' K L'=>?_
  simp
  exact h J' (Ka.trans K) L'
 rw[if_neg h1]at h
 by_cases h2:w.op=2
 .rw[if_pos h2]at h
  have hr2:0<=w.n/\w.n<(ls.length:Int):=by simpa [zU,h1,h2]using hr
  rcases hls with ⟨e,_⟩|⟨b,rfl⟩
  .rw[e]at hr2;simp at hr2;omega
  have hlt:w.n.toNat<ls.length:=by omega
  have e1:ls.getD w.n.toNat 0=ls[w.n.toNat]:=by rw[ycZ,yau hlt];rfl
  simp[h2,hwo,ho,hco,hr2.1,hlt]
  refine zaK La (by omega) λJ' K L'=>?_
  simp
  unfold zjO at h
  rw[e1]at h
  exact h J' (Ka.trans K) L'
 rw[if_neg h2]at h
 by_cases h3:w.op=3
 .rw[if_pos h3]at h
  have hr2:0<=w.n/\w.n<(ls.length:Int):=by simpa [zU,h1,h2,h3]using hr
  rcases hls with ⟨e,_⟩|⟨b,rfl⟩
  .rw[e]at hr2;simp at hr2;omega
  have hlt:w.n.toNat<ls.length:=by omega
  have e1:ls.getD w.n.toNat 0=ls[w.n.toNat]:=by rw[ycZ,yau hlt];rfl
  simp[h3,hwo,ho,hco,hr2.1,hlt]
  unfold zjO at h
  rw[e1]at h
  refine zbN (ts:=[ls[w.n.toNat]]) (.inr ⟨_,rfl⟩) (by simp) La (by omega) ?_
  have e:[ls[w.n.toNat]].reverse=[ls[w.n.toNat]]:=rfl
  rw[e]
  revert h
  cases zao [ls[w.n.toNat]] s with
  | ok s'=>intro h J' K L;simp;exact h J' (Ka.trans K) L
  | error e=>intro h J' K;simp;exact h J' (Ka.trans K)
 rw[if_neg h3]at h
 -- takes,and zho
 have tgB:∀{R':Out->AS->Prop} {Jb:AS} (Kb:zbu x J Jb) (Lb:LS Jb x c s deep) (o:Nat) (cs:List AV) (ts:List Int) (tv:AV) (t:Int),Jb.objs o=some cs->o<Jb.no->o≠x->zaq tv ts->ts.length<=2^30->zwi R x c deep J (zho (zao ts.reverse s) t) ->
   (∀J1 s1,s1.stack.length<=2^39->zbu x Jb J1->LS J1 x c s1 deep->J1.objs o=some cs->(∀J2,zbu x J1 J2->LS J2 x c (zdP s1 t) deep->R (.ret (.tuple [])) J2)->R' (.ret (.tuple [])) J1) ->
   (∀e J1,R (.panic (zkZ e)) J1->R' (.panic (zkZ e)) J1)->zzQ G 193 [.ptr x 0,tv] Jb R':=by
  intro R' Jb Kb Lb o cs ts tv t hob hlo hox hv hl hr k1 k2
  refine zbN hv (by omega) Lb (by omega) ?_
  cases hq:zao ts.reverse s with
  | error e =>
   rw[hq]at hr
   exact λJ1 K=>k2 e J1 (hr J1 (Kb.trans K))
  | ok s1 =>
   rw[hq]at hr
   exact λJ1 K L'=>k1 J1 s1 (by have:=zcL hq;omega) K L' ((K.obj o hlo hox).trans hob) λJ2 K2 L2=>hr J2 (Kb.trans (K.trans K2)) L2
 have tg:∀{R':Out->AS->Prop} (ts:List Int) (tv:AV) (t:Int),zaq tv ts->ts.length<=2^30->zwi R x c deep J (zho (zao ts.reverse s) t) ->
   (∀J1 s1,s1.stack.length<=2^39->zbu x Ja J1->LS J1 x c s1 deep->J1.objs J.no=some [.int .i64 w.op,.int .i64 w.ty,.int .i64 w.n,.int .i64 w.body,.int .i64 w.other,.str w.name]->(∀J2,zbu x J1 J2->LS J2 x c (zdP s1 t) deep->R (.ret (.tuple [])) J2)->R' (.ret (.tuple [])) J1) ->
   (∀e J1,R (.panic (zkZ e)) J1->R' (.panic (zkZ e)) J1)->zzQ G 193 [.ptr x 0,tv] Ja R':=λts tv t hv hl hr k1 k2=>tgB Ka La J.no _ ts tv t hwo hwl hxw hv hl hr k1 k2
 by_cases h4:w.op=4
 .rw[if_pos h4]at h
  have hsig:w.name.length<=5:=by
   refine zhs _ λq=>?_
   simp[zT,h4,q]at hf
  simp[h4,hwo]
  refine tg [w.ty,w.ty] _ _ (.inr ⟨_,rfl⟩) (by simp) h (λJ1 s1 hb1 K1 L1 hw1 fin1=>?_) (λe J1 hh=>by simp;exact hh)
  simp[hw1]
  refine⟨by omega,by omega,zk2 V ?_ ?_⟩
  .decide
  have hcmp:Lib.contains [32,101,113,32,110,101,32,108,116,95,115,32,108,101,95,115,32,103,116,95,115,32,103,101,95,115,32] (32::(w.name++[32]))=zH1 w.name:=rfl
  simp[hcmp]
  cases hq:zH1 w.name with
  | true =>
   rw[hq]at fin1
   simp[hw1]
   refine zaK L1 (by omega) λJ2 K2 L2=>?_
   simp
   exact fin1 J2 K2 L2
  | false =>
   rw[hq]at fin1
   simp[hw1]
   refine zaK L1 (by omega) λJ2 K2 L2=>?_
   simp
   exact fin1 J2 K2 L2
 rw[if_neg h4]at h
 by_cases h5:w.op=5
 .rw[if_pos h5]at h
  simp[h5,hwo]
  refine tg [w.ty] _ _ (.inr ⟨_,rfl⟩) (by simp) h (λJ1 s1 hb1 K1 L1 hw1 fin1=>?_) (λe J1 hh=>by simp;exact hh)
  simp[hw1]
  refine zaK L1 (by omega) λJ2 K2 L2=>?_
  simp
  exact fin1 J2 K2 L2
 rw[if_neg h5]at h
 by_cases h6:w.op=6
 .rw[if_pos h6]at h
  simp[h6,hwo]
  refine tg [2] _ _ (.inr ⟨_,rfl⟩) (by simp) h (λJ1 s1 hb1 K1 L1 hw1 fin1=>?_) (λe J1 hh=>by simp;exact hh)
  simp[hw1]
  refine zaK L1 (by omega) λJ2 K2 L2=>?_
  simp
  exact fin1 J2 K2 L2
 rw[if_neg h6]at h
 by_cases h7:w.op=7
 .rw[if_pos h7]at h
  simp[h7,hwo]
  refine tg [1] _ _ (.inr ⟨_,rfl⟩) (by simp) h (λJ1 s1 hb1 K1 L1 hw1 fin1=>?_) (λe J1 hh=>by simp;exact hh)
  simp[hw1]
  refine zaK L1 (by omega) λJ2 K2 L2=>?_
  simp
  exact fin1 J2 K2 L2
 rw[if_neg h7]at h
 by_cases h8:w.op=8
 .rw[if_pos h8]at h
  simp[h8,hwo]
  refine tg [1] _ _ (.inr ⟨_,rfl⟩) (by simp) h (λJ1 s1 hb1 K1 L1 hw1 fin1=>?_) (λe J1 hh=>by simp;exact hh)
  simp[hw1]
  refine zaK L1 (by omega) λJ2 K2 L2=>?_
  simp
  exact fin1 J2 K2 L2
 rw[if_neg h8]at h
 by_cases h9:w.op=9
 .rw[if_pos h9]at h
  simp[h9,hwo]
  refine zbN (ts:=[1,w.ty]) (.inr ⟨_,rfl⟩) (by simp) La (by omega) ?_
  have e:[1,w.ty].reverse=[w.ty,1]:=rfl
  rw[e]
  revert h
  cases zao [w.ty,1] s with
  | ok s'=>intro h J' K L;simp;exact h J' (Ka.trans K) L
  | error e=>intro h J' K;simp;exact h J' (Ka.trans K)
 rw[if_neg h9]at h
 by_cases h10:w.op=10
 .rw[if_pos h10]at h
  have hh:(zbz m.funcs w.n).isSome=true:=by simpa [zU,h1,h2,h3,h10]using hr
  obtain⟨⟨ts,g⟩,hq⟩:=Option.isSome_iff_exists.1 hh
  rw[hq]at h
  simp only at h
  have htl:ts.length<=2^30:=by
   unfold zbz at hq
   split at hq
   .cases hq;simp
   .split at hq
    .cases hq;simp
    .split at hq
     .cases hq;simp
     .split at hq
      .cases hq
      .obtain⟨fn,hfn,e⟩:=ybB.1 hq
       cases e
       exact hps _ (ydb hfn)
  have hcw:c≠Ja.no:=by omega
  have hxw':x≠Ja.no:=by omega
  simp[h10,hwo,ho,hco]
  constructor
  .refine zc2 (m:=m) ⟨_,rfl,hfs⟩ hn λv J1 hv A1=>?_
   rw[hq]at hv
   obtain⟨y,rfl,hy⟩:=hv
   have y1:=hy.one
   simp[splice,y1]
   have A2:zb Ja ((J1.newO [.nilsl,.int .i64 0]).setO J1.no [y,.int .i64 g]):=A1.newO.setO A1.no
   have Lb:=La.adds A2
   refine tgB (Ka.trans (A2.keepL hx)) Lb J1.no [y,.int .i64 g] ts y g (by simp) (by simp) (by have:=A1.no;omega) hy htl h (λJ3 s1 hb1 K1 L1 hw1 fin1=>?_) (λe J1 hh=>by simp;exact hh)
   simp[hw1]
   refine zaK L1 (by omega) λJ2 K2 L2=>?_
   simp
   exact fin1 J2 K2 L2
  .have hx2:x≠J.no:=λq=>hxw q.symm
   simp[ho,hco,hcw,hxw',hwo,show J.no≠Ja.no from by omega]
   refine zc2 (m:=m) ⟨_,rfl,hfs⟩ hn λv J1 hv A1=>?_
   rw[hq]at hv
   obtain⟨y,rfl,hy⟩:=hv
   have y1:=hy.one
   have hnew:J1.objs Ja.no=some [.nilsl,.int .i64 0]:=(A1.obj Ja.no (by simp)).trans (by simp)
   simp[splice,y1,hnew]
   have hle:Ja.no+1<=J1.no:=by have:=A1.no;simpa using this
   have A2:zb Ja (J1.setO Ja.no [y,.int .i64 g]):=(((zb.refl Ja).newO).trans A1).setO (yah _)
   have Lb:=La.adds A2
   refine tgB (Ka.trans (A2.keepL hx)) Lb Ja.no [y,.int .i64 g] ts y g (by simp) (by simp;omega) (λq=>hxw' q.symm) hy htl h (λJ3 s1 hb1 K1 L1 hw1 fin1=>?_) (λe J1 hh=>by simp;exact hh)
   simp[hw1]
   refine zaK L1 (by omega) λJ2 K2 L2=>?_
   simp
   exact fin1 J2 K2 L2
 rw[if_neg h10]at h
 by_cases h18:w.op=18
 .rw[if_pos h18]at h
  simp[h18,hwo]
  refine zhr La (by omega) ?_
  revert h
  cases zed s with
  | ok s'=>intro h J' K L;simp;exact h J' (Ka.trans K) L
  | error e=>intro h J' K;simp;exact h J' (Ka.trans K)
 rw[if_neg h18]at h
 simp[h1,h2,h3,h4,h5,h6,h7,h8,h9,h10,h18,hwo]
 exact h Ja Ka La
end
def zJX(R:Out->AS->Prop)(J:AS):Res Unit->Prop
 | .ok _=>∀J',zb J J'->R (.ret (.tuple [])) J'
 | .error e=>∀J',zb J J'->R (.panic (zkZ e)) J'
def zBF(G:Env)(m:M)(f:F)(ls:List Int)(B:Int)(lk:zmP):Prop:=∀(c:Nat) (J:AS) (at_ deep:Int) (R:Out->AS->Prop),zrs J c m f ls->0<=at_->at_<B->0<=deep->deep+at_<=2^40->zJX R J (lk at_ deep)->zzQ G 109 [.ptr c 0,.int .i64 at_,.int .i64 deep] J R
section
variable {G : Env} {J : AS} {R : Out -> AS -> Prop} {x c : Nat} {s : St} {deep : Int} {m : M} {f : F} {ls : List Int} {w : W} {lk : zmP} {B : Int}
theorem zmX(V:zh2 G)(IH:zBF G m f ls B lk)(L:LS J x c s deep)(C:zrs J c m f ls)(hcx:c≠x)(hb:s.stack.length<=2^38)(hd0:0<=deep)(hd1:deep<=2^40)(hn:w.n<=2^63-1)(hps:∀g∈m.funcs,g.params.length<=2^30)
  (hnm:∀n∈zi w,0<=n/\n<B/\deep+1+n<=2^40) (h:zwi R x c deep J (zV m.funcs ls f.type deep lk w s)):zzQ G 161 [.ptr x 0,w.av] J R:=by
 refine zxI rfl ?_
 have A:zb J (J.newO w.cs):=(zb.refl J).newO
 have La:=L.adds A
 have Ca:=C.adds A
 have Ka:=A.keepL L.1
 have hwo:(J.newO w.cs).objs J.no=some [.int .i64 w.op,.int .i64 w.ty,.int .i64 w.n,.int .i64 w.body,.int .i64 w.other,.str w.name]:=by simp[W.cs]
 have hwl:J.no<(J.newO w.cs).no:=by simp
 have hxw:J.no≠x:=by have:=L.1;omega
 have hcs:w.cs=[.int .i64 w.op,.int .i64 w.ty,.int .i64 w.n,.int .i64 w.body,.int .i64 w.other,.str w.name]:=rfl
 simp[zHs,W.av,hcs]
 rw[show J.newO [yc6 yam w.op,yc6 yam w.ty,yc6 yam w.n,yc6 yam w.body,yc6 yam w.other,yc8 w.name]=J.newO w.cs from rfl]
 rw[show ydf [yc6 yam w.op,yc6 yam w.ty,yc6 yam w.n,yc6 yam w.body,yc6 yam w.other,yc8 w.name]=w.av from rfl]
 generalize J.newO w.cs=Ja at *
 unfold zV at h
 refine zsA V λJ1 A1=>?_
 cases hf:zT w with
 | false =>
  rw[if_pos hf]at h
  simp
  refine ze (λq=>by simp at q) λ_=>?_
  simp
  exact h _ (Ka.trans (A1.keepL La.1))
 | true =>
 rw[if_neg (by rw[hf];simp)]at h
 have hw1:=(A1.obj J.no hwl).trans hwo
 simp
 refine ze (λ_=>?_) (λq=>by simp at q)
 simp[hw1]
 rw[show ydf [yc6 yam w.op,yc6 yam w.ty,yc6 yam w.n,yc6 yam w.body,yc6 yam w.other,yc8 w.name]=w.av from rfl]
 refine zk1 (La.adds A1) (Ca.adds A1) hn λJ2 A2=>?_
 have A12:=A1.trans A2
 cases hr:zU m.funcs ls deep w with
 | false =>
  rw[if_pos hr]at h
  simp
  refine ze (λq=>by simp at q) λ_=>?_
  simp
  exact h _ (Ka.trans (A12.keepL La.1))
 | true =>
 rw[if_neg (by rw[hr];simp)]at h
 have hw2:=(A2.obj J.no (yag hwl A1.no)).trans hw1
 have L2:=La.adds A12
 have C2:=Ca.adds A12
 have K2:=Ka.trans (A12.keepL La.1)
 have hwl2:J.no<J2.no:=yag hwl A12.no
 simp
 refine ze (λ_=>?_) (λq=>by simp at q)
 simp[hw2]
 clear A1 A2 hw1 hwo A12 Ka La Ca
 have keepW:∀{J3},zbu x J2 J3->J3.objs J.no=some [.int .i64 w.op,.int .i64 w.ty,.int .i64 w.n,.int .i64 w.body,.int .i64 w.other,.str w.name]:=λK=>(K.obj J.no hwl2 hxw).trans hw2
 have L2':=L2
 have C2':=C2
 obtain⟨hc2,fsv,pv,lv,tv,lsv,hco,_⟩:=C2'
 obtain⟨hx2,sv,ho,_⟩:=L2'
 have hwd:yb4 .i64 (deep+1)=deep+1:=by rw[wrap_i64]<;>omega
 by_cases h11:w.op=11\/w.op=12
 .rw[if_pos h11]at h
  have hnn:zi w=[w.body]:=by unfold zi;rw[if_pos (by omega)]
  rw[hnn]at hnm
  have hb0:=hnm w.body (by simp)
  have go:zJX (zBk (λv J'=>R (.ret (.tuple [])) J') λv J'=>R (.panic v) J') J2 (lk w.body (deep+1)):=by
   cases hq:lk w.body (deep+1)with
   | ok u=>rw[hq]at h;intro J3 A3;simp;exact h J3 (K2.trans (A3.keepL hx2)) (L2.adds A3)
   | error e=>rw[hq]at h;intro J3 A3;simp;exact h J3 (K2.trans (A3.keepL hx2))
  rcases h11 with h11|h11
  .simp[h11,hw2,ho,hco,hwd]
   refine IH c J2 w.body (deep+1) _ C2 hb0.1 hb0.2.1 (by omega) hb0.2.2 ?_
   revert go
   cases lk w.body (deep+1)with
   | ok u=>intro go J3 A3;have:=go J3 A3;simpa using this
   | error e=>intro go J3 A3;have:=go J3 A3;simpa using this
  .simp[h11,hw2,ho,hco,hwd]
   refine IH c J2 w.body (deep+1) _ C2 hb0.1 hb0.2.1 (by omega) hb0.2.2 ?_
   revert go
   cases lk w.body (deep+1)with
   | ok u=>intro go J3 A3;have:=go J3 A3;simpa using this
   | error e=>intro go J3 A3;have:=go J3 A3;simpa using this
 rw[if_neg h11]at h
 have h11a:¬w.op=11:=λq=>h11 (.inl q)
 have h11b:¬w.op=12:=λq=>h11 (.inr q)
 by_cases h13:w.op=13
 .rw[if_pos h13]at h
  simp[h13,hw2]
  refine zbN (ts:=[1]) (.inr ⟨_,rfl⟩) (by simp) L2 (by omega) ?_
  rw[show [(1:Int)].reverse=[1] from rfl]
  cases ht:zao [1] s with
  | error e =>
   rw[ht]at h
   intro J3 K3
   simp
   exact h J3 (K2.trans K3)
  | ok s1 =>
   rw[ht]at h
   simp only at h
   intro J3 K3 L3
   have C3:=C2.keep K3 hcx
   have hw3:=keepW K3
   have hwl3:J.no<J3.no:=yag hwl2 K3.no
   have C3':=C3
   have L3':=L3
   obtain⟨hc3,fsv3,pv3,lv3,tv3,lsv3,hco3,_⟩:=C3'
   obtain⟨hx3,sv3,ho3,_⟩:=L3'
   have hb0:0<=w.body/\w.body<B/\deep+1+w.body<=2^40:=hnm w.body (by
    unfold zi
    by_cases ho:w.other<0
    .rw[if_pos (by omega)];simp
    .rw[if_neg (by omega),if_pos h13];simp)
   simp[hw3,ho3,hco3,hwd]
   refine IH c J3 w.body (deep+1) _ C3 hb0.1 hb0.2.1 (by omega) hb0.2.2 ?_
   cases hq:lk w.body (deep+1)with
   | error e =>
    rw[hq]at h
    intro J4 A4
    simp
    exact h J4 (K2.trans (K3.trans (A4.keepL hx3)))
   | ok u =>
    rw[hq]at h
    simp only at h
    intro J4 A4
    have hw4:=(A4.obj J.no hwl3).trans hw3
    have ho4:=(A4.obj x hx3).trans ho3
    have hco4:=(A4.obj c hc3).trans hco3
    have L4:=L3.adds A4
    have C4:=C3.adds A4
    by_cases ho:0<=w.other
    .rw[if_pos ho]at h
     have hb1:0<=w.other/\w.other<B/\deep+1+w.other<=2^40:=hnm w.other (by unfold zi;rw[if_neg (by omega),if_pos h13];simp)
     simp[hw4,ho,ho4,hco4,hwd]
     refine IH c J4 w.other (deep+1) _ C4 hb1.1 hb1.2.1 (by omega) hb1.2.2 ?_
     cases hq2:lk w.other (deep+1)with
     | error e =>
      rw[hq2]at h
      intro J5 A5
      simp
      exact h J5 (K2.trans (K3.trans ((A4.trans A5).keepL hx3)))
     | ok u =>
      rw[hq2]at h
      intro J5 A5
      simp
      exact h J5 (K2.trans (K3.trans ((A4.trans A5).keepL hx3))) (L4.adds A5)
    .rw[if_neg ho]at h
     simp[hw4,ho]
     exact h J4 (K2.trans (K3.trans (A4.keepL hx3))) L4
 rw[if_neg h13]at h
 by_cases h15:w.op=15
 .rw[if_pos h15]at h
  simp[h15,hw2]
  refine zbN (ts:=[1]) (.inr ⟨_,rfl⟩) (by simp) L2 (by omega) ?_
  rw[show [(1:Int)].reverse=[1] from rfl]
  cases ht:zao [1] s with
  | error e =>
   rw[ht]at h
   intro J3 K3
   simp
   exact h J3 (K2.trans K3)
  | ok s1 =>
   rw[ht]at h
   simp only at h
   intro J3 K3 L3
   have hs1:=zcL ht
   have C3:=C2.keep K3 hcx
   have hw3:=keepW K3
   have L3':=L3
   obtain⟨hx3,sv3,ho3,_⟩:=L3'
   by_cases hq:w.n=deep
   .rw[if_pos hq]at h
    simp[hw3,ho3,hq]
    refine zdQ L3 C3 (by omega) ?_
    cases hq2:zH f.type s1 with
    | error e =>
     rw[hq2]at h
     intro J4 K4
     simp
     exact h J4 (K2.trans (K3.trans K4))
    | ok s2 =>
     rw[hq2]at h
     intro J4 K4 L4
     have hs2:s2.stack.length<=s1.stack.length:=by
      unfold zH at hq2
      split at hq2
      .cases hq2;exact yah _
      .exact zcL hq2
     have C4:=C3.keep K4 hcx
     have C4':=C4
     have L4':=L4
     obtain⟨hc4,fsv4,pv4,lv4,tv4,lsv4,hco4,_⟩:=C4'
     obtain⟨hx4,sv4,ho4,_⟩:=L4'
     simp[ho4,hco4]
     refine zaK L4 (by omega) λJ5 K5 L5=>?_
     simp
     exact h J5 (K2.trans (K3.trans (K4.trans K5))) L5
   .rw[if_neg hq]at h
    simp[hw3,ho3,hq]
    exact h J3 (K2.trans K3) L3
 rw[if_neg h15]at h
 have ret:∀{R':Out->AS->Prop},zwi R' x c deep J2 (zH f.type s)->zzQ G 162 [.ptr x 0] J2 R':=λhh=>zdQ L2 C2 (by omega) hh
 by_cases h14:w.op=14
 .rw[if_pos h14]at h
  by_cases hq:w.n=deep
  .rw[if_pos hq]at h
   simp[h14,hw2,ho,hq]
   refine ret ?_
   cases hq2:zH f.type s with
   | error e =>
    rw[hq2]at h
    intro J4 K4
    simp
    exact h J4 (K2.trans K4)
   | ok s2 =>
    rw[hq2]at h
    intro J4 K4 L4
    simp
    refine zcK L4 λJ5 K5 L5=>?_
    simp
    exact h J5 (K2.trans (K4.trans K5)) L5
  .rw[if_neg hq]at h
   simp[h14,hw2,ho,hq]
   refine zcK L2 λJ5 K5 L5=>?_
   simp
   exact h J5 (K2.trans K5) L5
 rw[if_neg h14]at h
 by_cases h16:w.op=16
 .rw[if_pos h16]at h
  simp[h16,hw2]
  refine ret ?_
  cases hq2:zH f.type s with
  | error e =>
   rw[hq2]at h
   intro J4 K4
   simp
   exact h J4 (K2.trans K4)
  | ok s2 =>
   rw[hq2]at h
   intro J4 K4 L4
   simp
   refine zcK L4 λJ5 K5 L5=>?_
   simp
   exact h J5 (K2.trans (K4.trans K5)) L5
 rw[if_neg h16]at h
 by_cases h17:w.op=17
 .rw[if_pos h17]at h
  simp[h17,hw2]
  refine zcK L2 λJ5 K5 L5=>?_
  simp
  exact h J5 (K2.trans K5) L5
 rw[if_neg h17]at h
 simp[h11a,h11b,h13,h15,h14,h16,h17,hw2]
 rw[show ydf [yc6 yam w.op,yc6 yam w.ty,yc6 yam w.n,yc6 yam w.body,yc6 yam w.other,yc8 w.name]=w.av from rfl]
 refine zp5 V L2 C2 hcx (by omega) hn hps hf hr ?_
 revert h
 cases zcm m.funcs ls w s with
 | ok s'=>intro h J3 K3 L3;simp;exact h J3 (K2.trans K3) L3
 | error e=>intro h J3 K3;simp;exact h J3 (K2.trans K3)
end
theorem zmY(s:St)(t:Int):(zdP s t).stack.length<=s.stack.length+1:=by unfold zdP;split<;>simp
theorem zyL{ts:List Int}{s s':St}{t:Int}(h:zho (zao ts s) t=.ok s'):s'.stack.length<=s.stack.length+1:=by
 obtain⟨s1,e,rfl⟩:∃s1,zao ts s=.ok s1/\s'=zdP s1 t:=by
  cases hq:zao ts s with
  | error e=>rw[hq]at h;cases h
  | ok s1=>rw[hq]at h;cases h;exact⟨s1,rfl,rfl⟩
 have:=zcL e
 have:=zmY s1 t
 omega
theorem zuo{fs:List F}{ls:List Int}{w:W}{s s':St}(h:zcm fs ls w s=.ok s'):s'.stack.length<=s.stack.length+1:=by
 unfold zcm at h
 repeat' split at h
 all_goals first
  | (cases h;first|exact zmY _ _|omega)
  | exact zyL h
  | (have:=zcL h;omega)
  | (have:=ziS h;omega)
theorem zp6{ty:Int}{s s':St}(h:zH ty s=.ok s'):s'.stack.length<=s.stack.length:=by
 unfold zH at h
 split at h
 .cases h;exact yah _
 .exact zcL h
theorem zup{fs:List F}{ls:List Int}{ty deep:Int}{lk:zmP}{w:W}{s s':St}(h:zV fs ls ty deep lk w s=.ok s'):s'.stack.length<=s.stack.length+1:=by
 unfold zV at h
 by_cases h1:zT w=false
 .rw[if_pos h1]at h;cases h
 rw[if_neg h1]at h
 by_cases h2:zU fs ls deep w=false
 .rw[if_pos h2]at h;cases h
 rw[if_neg h2]at h
 by_cases h3:w.op=11\/w.op=12
 .rw[if_pos h3]at h
  split at h
  .cases h;omega
  .cases h
 rw[if_neg h3]at h
 by_cases h4:w.op=13
 .rw[if_pos h4]at h
  split at h
  .cases h
  .rename_i s1 hs1
   have:=zcL hs1
   split at h
   .cases h
   .split at h
    .split at h
     .cases h
     .cases h;omega
    .cases h;omega
 rw[if_neg h4]at h
 by_cases h5:w.op=15
 .rw[if_pos h5]at h
  split at h
  .cases h
  .rename_i s1 hs1
   have:=zcL hs1
   split at h
   .cases hq:zH ty s1 with
    | error e=>rw[hq]at h;cases h
    | ok s2 =>
     rw[hq]at h
     cases h
     have:=zp6 hq
     have:=zmY s2 ty
     omega
   .cases h;omega
 rw[if_neg h5]at h
 have hl:zpX.stack.length=0:=rfl
 by_cases h6:w.op=14
 .rw[if_pos h6]at h
  split at h
  .split at h
   .cases h
   .cases h;omega
  .cases h;omega
 rw[if_neg h6]at h
 by_cases h7:w.op=16
 .rw[if_pos h7]at h
  split at h
  .cases h
  .cases h;omega
 rw[if_neg h7]at h
 by_cases h8:w.op=17
 .rw[if_pos h8]at h;cases h;omega
 rw[if_neg h8]at h
 exact zuo h
structure zsB(m:M):Prop where
 funcs:m.funcs.length<=2^20
 params:∀f∈m.funcs,f.params.length<=2^20
 locals:∀f∈m.funcs,f.locals.length<=2^20
 lists:∀f∈m.funcs,f.lists.length<=2^20
 rows:∀f∈m.funcs,∀l∈f.lists,l.length<=2^20
 nums:∀f∈m.funcs,∀l∈f.lists,∀w∈l,w.n<=2^63-1
theorem zbu.made{x:Nat}{J J':AS}{cs:List AV}(K:zbu x (J.newO cs) J')(hx:x=J.no)(hn:∀v f,cs[1]?=some v->zcJ v≠some f):zb J J' where
 no:=yai (by simp) K.no
 nf:=by have:=K.nf;simpa using this
 obj o ho:=by
  rw[K.obj o (by simp;omega) (by omega)]
  simp;omega
 fam f hf:=by
  rw[K.fam f (by simpa using hf) ?_]
  .rfl
  .rintro ⟨cs',v,h1,h2,h3⟩
   subst hx
   simp at h1
   subst h1
   exact hn v f h2 h3
def KI(x c:Nat)(deep:Int)(rv:AV)(row:List W)(J1:AS)(run:List W->St->Res St)(a:Nat->AV)(Z:AS):Prop:=∃(i:Nat) (s:St),i<=row.length/\a 2=.int .i64 deep/\a 6=.ptr x 0/\a 20=rv/\a 21=.int .i64 (row.length:Int)/\a 22=.int .i64 (i:Int)/\LS Z x c s deep/\zbu x J1 Z/\s.stack.length<=i /\
 run (row.drop i) s=run row ⟨[],false⟩
theorem zuq{G:Env}(V:zh2 G){m:M}(sm:zsB m){f:F}(hfm:f∈m.funcs)(ha:zol f.lists)(ls:List Int):∀k:Nat,zBF G m f ls (min (k:Int) (f.lists.length:Int)) (zaa m.funcs ls f.type f.lists k)
 | 0=>λc J at_ deep R _ h0 h1=>by omega
 | k+1=>by
  have IH:=zuq V sm hfm ha ls k
  intro c J at_ deep R C h0 h1 hd0 hd1 h
  refine zw3 rfl ?_
  rw[zaa]at h
  obtain⟨j,rfl⟩:∃j:Nat,at_=(j:Int):=⟨at_.toNat,by omega⟩
  have hj:j<f.lists.length:=by omega
  have hjk:j<k+1:=by omega
  rw[ybe]at h
  have hrow:f.lists.getD j []=f.lists[j]:=by rw[ycZ,yau hj];rfl
  rw[hrow]at h
  have hahead:=ha j _ (yau hj)
  have hrl:=sm.rows f hfm f.lists[j] (yaw hj)
  have hnums:=sm.nums f hfm f.lists[j] (yaw hj)
  have C0:=C
  obtain⟨hc,fsv,pv,lv,tv,lsv,hco,hfs,hpv,hlv,htv,hls⟩:=C
  rcases htv with ⟨e,_⟩|⟨b,rows,rfl,hrows⟩
  .rw[e]at hj;simp at hj
  obtain⟨rv,hrv,hrep⟩:=hrows.get (yau hj)
  generalize f.lists[j]=row at *
  have hlen:=hrep.len
  have hcx:c≠J.no:=by omega
  simp[zG0,hco,hcx,hrv,hlen,splice]
  refine⟨hrep.one.2.2,?_⟩
  generalize hJ1:J.newO [yde c 0,yc9,AV.bool false,yc6 yam deep]=J1
  have hno1:J1.no=J.no+1:=by rw[<-hJ1];simp
  have ho1:J1.objs J.no=some [.ptr c 0,.nilsl,.bool false,.int .i64 deep]:=by rw[<-hJ1];simp
  have L1:LS J1 J.no c ⟨[],false⟩ deep:=⟨by omega,_,ho1,.inl ⟨rfl,rfl⟩⟩
  have A1:zb J J1:=by rw[<-hJ1];exact(zb.refl J).newO
  have C1:=C0.adds A1
  have made:∀{J'},zbu J.no J1 J'->zb J J':=λK=>by
   rw[<-hJ1]at K
   exact K.made rfl λv f hv hf=>by simp at hv;subst hv;simp[zcJ]at hf
  refine zy (KI J.no c deep rv row J1 (zP m.funcs ls f.type deep (zaa m.funcs ls f.type f.lists k))) (MU 22 (row.length+1)) ⟨0,⟨[],false⟩,by omega,by simp,by simp,by simp,by simp,by simp,L1,.refl _ _,by simp,by simp⟩ λa Z hI=>?_
  obtain⟨i,s,hi,a2,a6,a20,a21,a22,L,K,hsl,hrun⟩:=hI
  have C2:=C1.keep K hcx
  by_cases hlt:i<row.length
  .obtain⟨b2,hix2⟩:=hrep.at hlt
   have hlt':(i:Int)<(row.length:Int):=by omega
   rw[ydd hlt,zP]at hrun
   simp[zfe,a6,a20,a21,a22,hlt,hix2,W.av,W.cs,splice]
   have hw3:yb4 .i64 ((i:Int)+1)=((i+1:Nat):Int):=by rw[wrap_i64]<;>omega
   have hmem:=yaw hlt
   have A3:zb Z ((Z.newO [yc6 yam 0,yc6 yam 0,yc6 yam 0,yc6 yam 0,yc6 yam 0,yc8 []]).setO Z.no row[i].cs):=((zb.refl Z).newO).setO (yah _)
   refine zmX (w:=row[i]) V IH (L.adds A3) (C2.adds A3) hcx (by omega) hd0 (by omega) (hnums _ hmem) (λg hg=>by have:=sm.params g hg;omega) (λn hn=>?_) ?_
   .have:=hahead n (ydg.2 ⟨_,hmem,hn⟩)
    exact⟨this.1,by omega,by omega⟩
   .have KA:=K.trans (A3.keepL L.1)
    cases hq:zV m.funcs ls f.type deep (zaa m.funcs ls f.type f.lists k) row[i] s with
    | error e =>
     rw[hq]at hrun
     simp only at hrun
     rw[<-hrun]at h
     intro J' K'
     simp
     exact h J' (made (KA.trans K'))
    | ok s' =>
     rw[hq]at hrun
     simp only at hrun
     have hle:=zup hq
     intro J' K' L'
     simp[a22,hw3]
     refine⟨⟨i+1,s',by omega,by simp[a2],by simp[a6],by simp[a20],by simp[a21],by simp,L',KA.trans K',by omega,hrun⟩,?_⟩
     simp only[MU,a22]
     simp;omega
  .have he:i=row.length:=by omega
   subst he
   simp[zP]at hrun
   rw[<-hrun]at h
   simp only at h
   have L':=L
   obtain⟨hx,sv,ho,hs⟩:=L'
   unfold zH2 at h
   by_cases hdz:deep=0
   .rw[if_pos hdz]at h
    simp[zfe,ziC,a2,a6,a21,a22,hdz]
    refine zdQ (by rw[hdz]at L;exact L) C2 (by omega) ?_
    cases hq:zH f.type s with
    | error e =>
     rw[hq]at h
     intro J' K'
     simp
     exact h J' (made (K.trans K'))
    | ok s3 =>
     rw[hq]at h
     intro J' K' L3
     obtain⟨hx3,sv3,ho3,hs3⟩:=L3
     have hsl3:=hs3.len
     by_cases hz:s3.stack.length=0
     .simp only[if_pos hz]at h
      have hz':s3.stack=[]:=ybS.1 hz
      simp[a6,ho3,hsl3,hz']
      refine ze (λ_=>?_) (λq=>by simp at q)
      simp
      exact h J' (made (K.trans K'))
     .simp only[if_neg hz]at h
      have hz':¬s3.stack=[]:=λq=>hz (by rw[q];rfl)
      simp[a6,ho3,hsl3,hz']
      refine ze (λq=>by simp at q) (λ_=>?_)
      simp
      exact h J' (made (K.trans K'))
   .rw[if_neg hdz]at h
    have hsl3:=hs.len
    by_cases hz:s.stack.length=0
    .simp only[if_pos hz]at h
     have hz':s.stack=[]:=ybS.1 hz
     simp[zfe,ziC,a2,a6,a21,a22,hdz,ho,hsl3,hz']
     refine ze (λ_=>?_) (λq=>by simp at q)
     simp
     exact h Z (made K)
    .simp only[if_neg hz]at h
     have hz':¬s.stack=[]:=λq=>hz (by rw[q];rfl)
     simp[zfe,ziC,a2,a6,a21,a22,hdz,ho,hsl3,hz']
     refine ze (λq=>by simp at q) (λ_=>?_)
     simp
     exact h Z (made K)
theorem zp7{G:Env}{J:AS}{R:Out->AS->Prop}{w:W}(h:∀v J',zaq v (zi w)->zb J J'->R (.ret v) J'):zzQ G 159 [w.av] J R:=by
 refine zxG rfl ?_
 have A:zb J (J.newO w.cs):=(zb.refl J).newO
 simp only[W.cs]at A
 unfold zi at h
 by_cases h1:w.op=11
 .rw[if_pos (.inl h1)]at h
  simp[zss,W.av,W.cs,h1]
  exact h _ _ (.inr ⟨_,rfl⟩) (by simpa [h1]using A)
 by_cases h2:w.op=12
 .rw[if_pos (.inr (.inl h2))]at h
  simp[zss,W.av,W.cs,h2]
  exact h _ _ (.inr ⟨_,rfl⟩) (by simpa [h2]using A)
 by_cases h3:w.op=13
 .by_cases ho:w.other<0
  .rw[if_pos (.inr (.inr ⟨h3,ho⟩))]at h
   simp[zss,W.av,W.cs,h3,ho]
   exact h _ _ (.inr ⟨_,rfl⟩) (by simpa [h3]using A)
  .rw[if_neg (by omega),if_pos h3]at h
   simp[zss,W.av,W.cs,h3,ho]
   exact h _ _ (.inr ⟨_,rfl⟩) (by simpa [h3]using A)
 .rw[if_neg (by omega),if_neg h3]at h
  simp[zss,W.av,W.cs,h1,h2,h3]
  exact h _ _ (.inl ⟨rfl,rfl⟩) A
@[simp] theorem zH7(x y:Bool):aeq yb9 4 (.bool x) (.bool y)=some (x==y):=by simp[aeq,zl3,show yb9.underlying 4=some .bool from by kernel_rfl]
@[simp] theorem zFC:za yb9 106=true:=by kernel_rfl
def zbq(l:List Bool):List AV:=l.map AV.bool
def CI(J:AS)(o len:Nat)(named:List Bool)(a:Nat->AV)(Z:AS):Prop:=∃i:Nat,i<=len/\a 0=.slm o 0 1 len/\a 1=.bool false/\a 7=.int .i64 (len:Int)/\a 8=.int .i64 (i:Int)/\Z=J/\∀j,j<i->named[j]?=some true
theorem zk3{G:Env}{J:AS}{R:Out->AS->Prop}{o len:Nat}{named:List Bool}(ho:J.objs o=some (zbq named))(hl:len<=named.length)(hb:len<=2^40)(h:R (.ret (.bool (!(named.take len).all (·==true)))) J):zzQ G 160 [.slm o 0 1 len,.bool false] J R:=by
 refine zxH rfl ?_
 simp[zHr]
 refine zx1 rfl ?_
 simp[zHD]
 refine zy (CI J o len named) (MU 8 (len+1)) ⟨0,by omega,by simp,by simp,by simp,by simp,rfl,λj hj=>by omega⟩ λa Z hI=>?_
 obtain⟨i,hi,a0,a1,a7,a8,rfl,hall⟩:=hI
 have hw3:yb4 .i64 ((i:Int)+1)=((i+1:Nat):Int):=by rw[wrap_i64]<;>omega
 by_cases hlt:i<len
 .have hlt':(i:Int)<(len:Int):=by omega
  have hin:i<named.length:=by omega
  have hget:(zbq named)[i]?=some (.bool named[i]):=by simp[zbq,hin]
  have hge:∀q:i<(zbq named).length,(zbq named)[i]'q=.bool named[i]:=λq=>by rw[yau q]at hget;exact yaR.inj hget
  have hlb:i<(zbq named).length:=by simp[zbq];exact hin
  cases hv:named[i]with
  | true =>
   rw[hv]at hget hge
   simp[zgJ,a0,a1,a7,a8,hlt,ho,hlb,hge,hw3]
   refine⟨⟨i+1,by omega,by simp[a0],by simp[a1],by simp[a7],by simp,rfl,λj hj=>?_⟩,?_⟩
   .by_cases e:j=i
    .subst e;rw[yau hin,hv]
    .exact hall j (by omega)
   .simp only[MU,a8];simp;omega
  | false =>
   rw[hv]at hget hge
   have e:(!(named.take len).all (·==true))=true:=by
    rw[Bool.not_eq_true',ydh]
    exact⟨false,ydi.2 ⟨i,by rw[ybf];omega,by rw[yaE];exact hv⟩,by simp⟩
   rw[e]at h
   simp[zgJ,a0,a1,a7,a8,hlt,ho,hlb,hge]
   exact h
 .have he:i=len:=by omega
  subst he
  have e:(!(named.take i).all (·==true))=false:=by
   rw[Bool.not_eq_false',yaM]
   intro b hb
   obtain⟨j,hj,rfl⟩:=ydi.1 hb
   rw[ybf]at hj
   have:=hall j (by omega)
   rw[yau (by omega)]at this
   rw[yaE]
   simp[yaR.inj this]
  rw[e]at h
  simp[zgJ,zri,a7,a8]
  exact h
def FI(J:AS)(v:AV)(ls:List Int)(a:Nat->AV)(Z:AS):Prop:=∃i:Nat,i<=ls.length/\a 0=v/\a 1=.fn (.func 106) [] []/\a 7=.int .i64 (ls.length:Int)/\a 8=.int .i64 (i:Int)/\Z=J/\∀j,j<i->∃t,ls[j]?=some t/\zac t=true
theorem zgM{G:Env}{J:AS}{R:Out->AS->Prop}{v:AV}{ls:List Int}(hv:zaq v ls)(hb:ls.length<=2^40)(h:R (.ret (.bool (!ls.all zac))) J):zzQ G 95 [v,.fn (.func 106) [] []] J R:=by
 refine zDx rfl ?_
 simp[zL3]
 refine zxD rfl ?_
 simp[zHp,hv.len]
 refine zy (FI J v ls) (MU 8 (ls.length+1)) ⟨0,by omega,by simp,by simp,by simp,by simp,rfl,λj hj=>by omega⟩ λa Z hI=>?_
 obtain⟨i,hi,a0,a1,a7,a8,rfl,hall⟩:=hI
 have hw3:yb4 .i64 ((i:Int)+1)=((i+1:Nat):Int):=by rw[wrap_i64]<;>omega
 by_cases hlt:i<ls.length
 .rcases hv with ⟨rfl,_⟩|⟨b,rfl⟩
  .simp at hlt
  simp[ziJ,a0,a1,a7,a8,hlt]
  refine zwZ rfl ?_
  simp[zGZ]
  refine zcg ?_
  cases hn:zac ls[i]with
  | true =>
   simp[a8,hw3]
   refine⟨⟨i+1,by omega,by simp[a0],by simp[a1],by simp[a7],by simp,rfl,λj hj=>?_⟩,?_⟩
   .by_cases e:j=i
    .subst e;exact⟨_,yau hlt,hn⟩
    .exact hall j (by omega)
   .simp only[MU,a8];simp;omega
  | false =>
   have e:(!ls.all zac)=true:=by
    rw[Bool.not_eq_true',ydh]
    exact⟨_,yaw hlt,by simp[hn]⟩
   rw[e]at h
   simp[a8]
   exact h
 .have he:i=ls.length:=by omega
  subst he
  have e:(!ls.all zac)=false:=by
   rw[Bool.not_eq_false',yaM]
   intro t ht
   obtain⟨j,hj,rfl⟩:=ydi.1 ht
   obtain⟨t,h1,h2⟩:=hall j hj
   rw[yau hj]at h1
   cases h1
   exact h2
  rw[e]at h
  simp[ziJ,zrc,a7,a8]
  exact h
theorem zot{G:Env}{J:AS}{R:Out->AS->Prop}{pv lv:AV}{p l:List Int}(hp:zaq pv p)(hl:zaq lv l)(hb:p.length+l.length<=2^30)(h:∀v J',zaq v (p++l)->zb J J'->R (.ret v) J'):zzQ G 105 [.sl (.stat true) 1 [pv,lv]] J R:=by
 refine zfn (zwY rfl ?_)
 have p1:=hp.one
 have l1:=hl.one
 have hpl:=hp.len
 have hll:=hl.len
 have w1:yb4 .i64 (p.length:Int)=(p.length:Int):=by rw[wrap_i64]<;>omega
 have w2:yb4 .i64 ((p.length:Int)+(l.length:Int))=(p.length:Int)+(l.length:Int):=by rw[wrap_i64]<;>omega
 have w3:yb4 .i64 1=1:=rfl
 have w4:yb4 .i64 2=2:=rfl
 have n1:¬(p.length:Int)<0:=by omega
 have n2:¬(p.length:Int)+(l.length:Int)<0:=by omega
 simp[zGY]
 refine zbM 3 ?_
 simp[zgC,p1,l1,hpl,hll,w1,w2,w3,w4,n1,n2,zgE,zq5]
 have hgrow:∀{R':Out->AS->Prop},(p.length+l.length=0->R' (.ret .nilsl) J)->(0<p.length+l.length->R' (.ret (.sl (.fam J.nf false) 1 [])) J.newF)->zzQ G 158 [.nilsl,.int .i64 ((p.length:Int)+(l.length:Int))] J R':=by
  intro R' g0 g1
  refine zxF rfl ?_
  have w5:yb4 .i64 0=0:=rfl
  by_cases hz:p.length+l.length=0
  .have hz':¬(0:Int)<(p.length:Int)+(l.length:Int):=by omega
   simp[zDC,n2,w5,w2,hz']
   exact g0 hz
  .have hz':(0:Int)<(p.length:Int)+(l.length:Int):=by omega
   obtain⟨n,hn⟩:∃n,((p.length:Int)+(l.length:Int)).toNat=n+1:=⟨((p.length:Int)+(l.length:Int)).toNat-1,by omega⟩
   simp[zDC,n2,w5,w2,hz',hn,ydj,zde,zcz]
   exact⟨by omega,by omega,by omega,by omega,g1 (by omega)⟩
 refine hgrow (λhz=>?_) (λhz=>?_)
 .have e1:p=[]:=ybS.1 (by omega)
  have e2:l=[]:=ybS.1 (by omega)
  subst e1 e2
  have:=h .nilsl J (.inl ⟨rfl,rfl⟩) (.refl _)
  have sta:∀K:AV->AS->Prop,∀v,zaq v []->zes yb9 44 44 .nilsl v J K=K .nilsl J:=by
   intro K v hv
   rcases hv with ⟨_,rfl⟩|⟨b,rfl⟩<;>simp
  simp
  refine zbM 3 ?_
  rcases hp with ⟨_,rfl⟩|⟨b,rfl⟩<;>rcases hl with ⟨_,rfl⟩|⟨b',rfl⟩<;>simp[zgD,zgE,w3,w4]<;>exact .inl this
 .simp
  refine zbM 3 ?_
  have fin:∀J',zb J J'->∀g,J.nf<=g->J'.F g=.alive->zsw R (.ret (.sl (.fam g false) 1 ((p++l).map (.int .i64)))) J':=by
   intro J' A' g hg ha
   refine .froze g (λ_=>false) ha ?_
   have:=h (.sl (.stat false) 1 ((p++l).map (.int .i64))) (J'.frz g λ_=>false) (.inr ⟨_,rfl⟩) (A'.frz hg λ_ _=>rfl)
   simpa [Function.comp_def]using this
  have A3:zb J ((J.newF.setF J.nf FSt.dead).newF.setF (J.nf+1) FSt.dead).newF:=((((zb.refl J).newF.setF (yah _)).newF).setF (by omega)).newF
  have key:=fin _ A3 (J.nf+1+1) (by omega) (by simp)
  rcases hp with ⟨rfl,rfl⟩|⟨b,rfl⟩<;>rcases hl with ⟨rfl,rfl⟩|⟨b',rfl⟩<;>simp[zgD,zgE,w3,w4]
  .simp at hz
  .exact⟨by simp at hb;omega,by simpa using key⟩
  .exact⟨by simp at hb;omega,by simpa using key⟩
  .exact⟨by omega,by omega,by simpa using key⟩
structure NS(J1:AS)(o:Nat)(named:List Bool)(L:Nat)(Z:AS):Prop where
 obj:Z.objs o=some (zbq named)
 len:named.length=L
 no:J1.no<=Z.no
 nf:J1.nf<=Z.nf
 oth:∀p,p<J1.no->p≠o->Z.objs p=J1.objs p
 fam:∀f,f<J1.nf->Z.F f=J1.F f
theorem NS.adds{J1 o named L Z Z'}(h:NS J1 o named L Z)(ho:o<J1.no)(A:zb Z Z'):NS J1 o named L Z' where
 obj:=(A.obj o (yag ho h.no)).trans h.obj
 len:=h.len
 no:=yai h.no A.no
 nf:=yai h.nf A.nf
 oth p hp hne:=(A.obj p (yag hp h.no)).trans (h.oth p hp hne)
 fam f hf:=(A.fam f (yag hf h.nf)).trans (h.fam f hf)
theorem NS.set{J1 o named named' L Z}(h:NS J1 o named L Z)(hl:named'.length=L):NS J1 o named' L (Z.setO o (zbq named')) where
 obj:=by simp
 len:=hl
 no:=h.no
 nf:=h.nf
 oth p hp hne:=by simp[hne];exact h.oth p hp hne
 fam f hf:=h.fam f hf
def zgN{α β:Type}(r:Res α)(k:α->Res β):Res β:=match r with
 | .error e=>.error e
 | .ok a=>k a
theorem zp8(a n:Int)(ns:List Int)(named:List Bool):zbd a (n::ns) named=zgN (zee a named n) λm=>zbd a ns m:=by
 rw[zbd];unfold zgN;cases zee a named n<;>rfl
theorem zur(a:Int)(w:W)(ws:List W)(named:List Bool):ziR a (w::ws) named=zgN (zbd a (zi w) named) λm=>ziR a ws m:=by
 rw[ziR];unfold zgN;cases zbd a (zi w) named<;>rfl
theorem zsC(k:Nat)(l:List W)(ls:To)(named:List Bool):zca k (l::ls) named=zgN (ziR (k:Int) l named) λm=>zca (k+1) ls m:=by
 rw[zca];unfold zgN;cases ziR (k:Int) l named<;>rfl
def NI3(J1:AS)(o L:Nat)(tv:AV)(ls:To)(goal:Res (List Bool))(a:Nat->AV)(Z:AS):Prop:=∃(i:Nat) (named:List Bool),i<=ls.length/\a 2=.slm o 0 1 L/\a 28=tv/\a 29=.int .i64 (ls.length:Int)/\a 30=.int .i64 (i:Int)/\NS J1 o named L Z/\zca i (ls.drop i) named=goal
def NI2(J1:AS)(o L:Nat)(tv:AV)(ls:To)(k:Nat)(rv:AV)(row:List W)(goal:Res (List Bool))(a:Nat->AV)(Z:AS):Prop:=∃(j:Nat) (named:List Bool),j<=row.length/\a 2=.slm o 0 1 L/\a 28=tv/\a 29=.int .i64 (ls.length:Int)/\a 30=.int .i64 (k:Int)/\a 3=.int .i64 (k:Int)/\a 35=rv/\a 36=.int .i64 (row.length:Int)/\a 37=.int .i64 (j:Int)/\NS J1 o named L Z /\
 zgN (ziR (k:Int) (row.drop j) named) (λn=>zca (k+1) (ls.drop (k+1)) n)=goal
def NI1(J1:AS)(o L:Nat)(tv:AV)(ls:To)(k:Nat)(rv:AV)(row:List W)(j:Nat)(nv:AV)(ns:List Int)(goal:Res (List Bool))(a:Nat->AV)(Z:AS):Prop:=∃(q:Nat) (named:List Bool),q<=ns.length/\a 2=.slm o 0 1 L/\a 28=tv/\a 29=.int .i64 (ls.length:Int)/\a 30=.int .i64 (k:Int)/\a 3=.int .i64 (k:Int)/\a 35=rv/\a 36=.int .i64 (row.length:Int)/\a 37=.int .i64 (j:Int) /\
 a 42=nv/\a 43=.int .i64 (ns.length:Int)/\a 44=.int .i64 (q:Int)/\NS J1 o named L Z /\
 zgN (zgN (zbd (k:Int) (ns.drop q) named) λn=>ziR (k:Int) (row.drop (j+1)) n) (λn=>zca (k+1) (ls.drop (k+1)) n)=goal
theorem zp9{named:List Bool}{n:Nat}(h:n<named.length)(b:Bool):splice (zbq named) n [.bool b]=zbq (named.set n b):=by
 unfold splice zbq
 rw[List.set_eq_take_append_cons_drop,if_pos h]
 simp
theorem zou{G:Env}(V:zh2 G){J:AS}{R:Out->AS->Prop}{c:Nat}{m:M}{f:F}{ls0:List Int}(C:zrs J c m f ls0)(hb:f.lists.length<=2^20)(hrows:∀l∈f.lists,l.length<=2^20)(h:zJX R J (zcE f.lists)):zzQ G 108 [.ptr c 0] J R:=by
 refine zw2 rfl ?_
 obtain⟨hc,fsv,pv,lv,tv,lsv,hco,hfs,hpv,hlv,htv,hls⟩:=C
 have hlen:=htv.len
 unfold zcE at h
 by_cases hz:f.lists.length=0
 .rw[if_pos hz]at h
  have hz':f.lists=[]:=ybS.1 hz
  simp[zDy,hco,hlen,hz']
  refine ze (λq=>by simp at q) (λ_=>?_)
  simp
  exact h J (.refl _)
 .rw[if_neg hz]at h
  have hz':¬f.lists=[]:=λq=>hz (by rw[q];rfl)
  have hpos:0<f.lists.length:=by omega
  simp[zDy,hco,hlen,hz',hpos]
  refine ze (λ_=>?_) (λq=>by simp at q)
  simp[hco,hlen]
  have hto:((f.lists.length:Int)).toNat=f.lists.length:=by omega
  generalize hgoal:zca 0 f.lists (yaj f.lists.length false)=goal at h
  refine⟨1,1,.bool false,by simp,by simp,by simp,rfl,rfl,rfl,by omega,by omega,by omega,?_⟩
  have hflat:zM (yaj f.lists.length (AV.bool false))=zbq (yaj f.lists.length false):=by
   unfold zM zbq
   induction f.lists.length with
   | zero=>rfl
   | succ n ih=>rw[ydj,ydj,yaa,yaL,ih];rfl
  have hcn:c≠J.no:=by omega
  simp[hflat,hcn,hco,hlen]
  generalize hJ1:J.newO (zbq (yaj f.lists.length false))=J1
  have hno1:J1.no=J.no+1:=by rw[<-hJ1];simp
  have A1:zb J J1:=by rw[<-hJ1];exact(zb.refl J).newO
  have N1:NS J1 J.no (yaj f.lists.length false) f.lists.length J1:=⟨by rw[<-hJ1];simp,by simp,yah _,yah _,λ_ _ _=>rfl,λ_ _=>rfl⟩
  have toA:∀{named Z},NS J1 J.no named f.lists.length Z->zb J Z:=λN=>⟨by have:=N.no;omega,yai A1.nf N.nf,λo ho=>(N.oth o (by omega) (by omega)).trans (A1.obj o ho),λg hg=>(N.fam g (yag hg A1.nf)).trans (A1.fam g hg)⟩
  refine zy (NI3 J1 J.no f.lists.length tv f.lists goal) (MU 30 (f.lists.length+1)) ⟨0,_,by omega,by simp,by simp,by simp,by simp,N1,by simpa using hgoal⟩ λa Z hI=>?_
  obtain⟨i,named0,hi,a2,a28,a29,a30,N0,hg0⟩:=hI
  by_cases hlt:i<f.lists.length
  .obtain⟨b,rv,hrep,hix⟩:=htv.at hlt
   have hrl:=hrows _ (yaw hlt)
   rw[ydd hlt,zsC]at hg0
   generalize f.lists[i]=row at *
   have hrlen:=hrep.len
   have hr1:=hrep.one
   have hlt':(i:Int)<(f.lists.length:Int):=by omega
   simp[ziB,a2,a28,a29,a30,hlt,hix,hr1,hrlen]
   refine zy (NI2 J1 J.no f.lists.length tv f.lists i rv row goal) (MU 37 (row.length+1)) ⟨0,named0,by omega,by simp[a2],by simp[a28],by simp[a29],by simp[a30],by simp,by simp,by simp,by simp,N0,by simpa using hg0⟩ λb ρ hI=>?_
   obtain⟨j,named1,hj,b2,b28,b29,b30,b3,b35,b36,b37,N2,hg1⟩:=hI
   by_cases hjl:j<row.length
   .obtain⟨q2,hix2⟩:=hrep.at hjl
    rw[ydd hjl,zur]at hg1
    simp[zfd,b35,b36,b37,hjl,hix2,W.av,W.cs,splice]
    rw[show ydf [yc6 yam row[j].op,yc6 yam row[j].ty,yc6 yam row[j].n,yc6 yam row[j].body,yc6 yam row[j].other,yc8 row[j].name]=row[j].av from rfl]
    refine zp7 λnv J3 hnv A3=>?_
    have A3':zb ρ J3:=(((zb.refl ρ).newO).setO (yah _)).trans A3
    have N3:=N2.adds (by omega) A3'
    have hnl:=hnv.len
    simp[hnl]
    refine zy (NI1 J1 J.no f.lists.length tv f.lists i rv row j nv (zi row[j]) goal) (MU 44 ((zi row[j]).length+1)) ⟨0,named1,by omega,by simp[b2],by simp[b28],by simp[b29],by simp[b30],by simp[b3],by simp[b35],by simp[b36],by simp[b37],by simp,by simp,by simp,N3,by simpa using hg1⟩ λd π hI=>?_
    obtain⟨q,named,hq,d2,d28,d29,d30,d3,d35,d36,d37,d42,d43,d44,N,hg⟩:=hI
    have ho:=N.obj
    have hnlen:=N.len
    have hbl:(zbq named).length=f.lists.length:=by simp[zbq,hnlen]
    by_cases hql:q<(zi row[j]).length
    .obtain⟨q3,hix3⟩:=hnv.at hql
     rw[ydd hql,zp8]at hg
     have hw3:yb4 .i64 ((q:Int)+1)=((q+1:Nat):Int):=by
      have:(zi row[j]).length<=2:=by unfold zi;split<;>(try split)<;>simp
      rw[wrap_i64]<;>omega
     generalize hn:(zi row[j])[q]=n at *
     by_cases hok:0<=n/\n<(i:Int)
     .have hnl2:n.toNat<f.lists.length:=by omega
      have hnn:n.toNat<named.length:=by omega
      have hget:(zbq named)[n.toNat]?=some (.bool named[n.toNat]):=by simp[zbq,hnn]
      have hge:∀p:n.toNat<(zbq named).length,(zbq named)[n.toNat]'p=.bool named[n.toNat]:=λp=>by rw[yau p]at hget;exact yaR.inj hget
      have hlb:n.toNat<(zbq named).length:=by omega
      have hgd:named.getD n.toNat true=named[n.toNat]:=by rw[ycZ,yau hnn];rfl
      have hnL:n<(f.lists.length:Int):=by omega
      cases hv:named[n.toNat]with
      | true =>
       have hE:zee (i:Int) named n=.error 11:=by unfold zee;rw[if_neg (by rw[hgd,hv];simp)]
       rw[hE]at hg
       simp[zgN]at hg
       rw[<-hg]at h
       rw[hv]at hget hge
       simp[zbU,d2,d3,d42,d43,d44,hql,hix3,hok.1,hok.2,ho,hlb,hge,hnL]
       refine ze (λq=>by simp at q) (λ_=>?_)
       simp
       exact h _ (toA N)
      | false =>
       have hE:zee (i:Int) named n=.ok (named.set n.toNat true):=by unfold zee;rw[if_pos ⟨hok.1,hok.2,by rw[hgd,hv]⟩]
       rw[hE]at hg
       simp only[zgN]at hg
       rw[hv]at hget hge
       simp[zbU,d2,d3,d42,d43,d44,hql,hix3,hok.1,hok.2,ho,hlb,hge,hnL]
       refine ze (λ_=>?_) (λq=>by simp at q)
       simp[d2,d44,hok.1,hnL,ho,hlb,hw3]
       rw[zp9 hnn]
       refine⟨hlb,⟨q+1,named.set n.toNat true,by omega,by simp[d2],by simp[d28],by simp[d29],by simp[d30],by simp[d3],by simp[d35],by simp[d36],by simp[d37],by simp[d42],by simp[d43],by simp,N.set (by simp[hnlen]),hg⟩,?_⟩
       simp only[MU,d44];simp;omega
     .have hE:zee (i:Int) named n=.error 11:=by unfold zee;rw[if_neg (λq=>hok ⟨q.1,q.2.1⟩)]
      rw[hE]at hg
      simp[zgN]at hg
      rw[<-hg]at h
      by_cases h0:0<=n
      .have h1:¬n<(i:Int):=λq=>hok ⟨h0,q⟩
       simp[zbU,d2,d3,d42,d43,d44,hql,hix3,h0,h1]
       refine ze (λq=>by simp at q) (λ_=>?_)
       simp
       exact h _ (toA N)
      .simp[zbU,d2,d3,d42,d43,d44,hql,hix3,h0]
       refine ze (λq=>by simp at q) (λ_=>?_)
       simp
       exact h _ (toA N)
    .have he:q=(zi row[j]).length:=by omega
     subst he
     have hnil:(zi row[j]).drop (zi row[j]).length=[]:=by simp
     rw[hnil]at hg
     simp only[zbd,zgN]at hg
     have hw3:yb4 .i64 ((j:Int)+1)=((j+1:Nat):Int):=by rw[wrap_i64]<;>omega
     simp[zbU,zfc,d37,d43,d44,hw3]
     refine⟨⟨j+1,named,by omega,by simp[d2],by simp[d28],by simp[d29],by simp[d30],by simp[d3],by simp[d35],by simp[d36],by simp,N,hg⟩,?_⟩
     simp only[MU,b37];simp;omega
   .have he:j=row.length:=by omega
    subst he
    have hnil:row.drop row.length=[]:=by simp
    rw[hnil]at hg1
    simp only[ziR,zgN]at hg1
    have hw3:yb4 .i64 ((i:Int)+1)=((i+1:Nat):Int):=by rw[wrap_i64]<;>omega
    simp[zfd,ziA,b30,b36,b37,hw3]
    refine⟨⟨i+1,named1,by omega,by simp[b2],by simp[b28],by simp[b29],by simp,N2,hg1⟩,?_⟩
    simp only[MU,a30];simp;omega
  .have he:i=f.lists.length:=by omega
   subst he
   have hnil:f.lists.drop f.lists.length=[]:=by simp
   rw[hnil]at hg0
   simp only[zca]at hg0
   rw[<-hg0]at h
   simp only at h
   have hw3:yb4 .i64 ((f.lists.length:Int)-1)=((f.lists.length-1:Nat):Int):=by rw[wrap_i64]<;>omega
   simp[ziB,zq6,a2,a29,a30,hw3]
   refine zk3 N0.obj (by rw[N0.len];omega) (by omega) ?_
   cases hq:(named0.take (f.lists.length-1)).all (·==true)with
   | true =>
    rw[if_pos hq]at h
    simp
    refine ze (λ_=>?_) (λq=>by simp at q)
    simp
    exact h _ (toA N0)
   | false =>
    rw[if_neg (by rw[hq];simp)]at h
    simp
    refine ze (λq=>by simp at q) (λ_=>?_)
    simp
    exact h _ (toA N0)
theorem zir{G:Env}(V:zh2 G){m:M}(sm:zsB m){f:F}(hfm:f∈m.funcs){J0 J:AS}{R:Out->AS->Prop}{c:Nat}(A0:zb J0 J)(hc0:J0.no<=c)(C:zrs J c m f [])(h:zJX R J0 (zn m.funcs f)):zzQ G 54 [.ptr c 0] J R:=by
 refine zC6 rfl ?_
 have C0:=C
 obtain⟨hc,fsv,pv,lv,tv,lsv,hco,hfs,hpv,hlv,htv,hls⟩:=C
 have p1:=hpv.one
 have l1:=hlv.one
 have hpb:=sm.params f hfm
 have hlb:=sm.locals f hfm
 simp[zLL,hco,p1,l1]
 refine zot hpv hlv (by omega) λv J1 hv A1=>?_
 have v1:=hv.one
 have hco1:=(A1.obj c hc).trans hco
 simp[hco1,v1,splice]
 generalize hJ2:J1.setO c [fsv,yc6 yam m.memory,yc6 yam m.main,yc8 f.name,pv,lv,yc6 yam f.type,tv,v]=J2
 have hc1:c<J1.no:=yag hc A1.no
 have hco2:J2.objs c=some [fsv,.int .i64 m.memory,.int .i64 m.main,.str f.name,pv,lv,.int .i64 f.type,tv,v]:=by rw[<-hJ2];simp
 have A2:zb J0 J2:=by rw[<-hJ2];exact(A0.trans A1).setO hc0
 have C2:zrs J2 c m f (f.params++f.locals):=⟨by rw[<-hJ2];simpa using hc1,_,_,_,_,_,hco2,hfs,hpv,hlv,htv,hv⟩
 unfold zn at h
 have hll:=sm.lists f hfm
 refine zgM hv (by simp;omega) ?_
 have fail:((f.params++f.locals).all zac&&decide (0<=f.type)&&decide (f.type<=2))=false->∀J',zb J0 J'->R (.panic (zkZ 6)) J':=λq=>by
  rw[if_pos q]at h;exact h
 cases hn:(f.params++f.locals).all zac with
 | false =>
  simp
  refine ze (λq=>by simp at q) (λ_=>?_)
  simp
  exact fail (by rw[hn];rfl) _ A2
 | true =>
 by_cases k0:0<=f.type
 .by_cases k2:f.type<=2
  .rw[if_neg (by rw[hn];simp[k0,k2])]at h
   simp[hco2,k0,k2]
   refine ze (λ_=>?_) (λq=>by simp at q)
   simp
   refine zou V C2 hll (λl hl=>sm.rows f hfm l hl) ?_
   cases hq:zcE f.lists with
   | error e =>
    rw[hq]at h
    intro J3 A3
    simp
    exact h J3 (A2.trans A3)
   | ok u =>
    rw[hq]at h
    simp only at h
    intro J3 A3
    have C3:=C2.adds A3
    have C3':=C3
    obtain⟨hc3,fsv3,pv3,lv3,tv3,lsv3,hco3,_,_,_,htv3,_⟩:=C3'
    obtain⟨hpos,hah,_⟩:=zcT hq
    have hlen3:=htv3.len
    have hw3:yb4 .i64 ((f.lists.length:Int)-1)=(f.lists.length:Int)-1:=by rw[wrap_i64]<;>omega
    simp[hco3,hlen3,hw3]
    refine zuq V sm hfm hah (f.params++f.locals) f.lists.length c J3 ((f.lists.length:Int)-1) 0 _ C3 (by omega) (by omega) (by omega) (by omega) ?_
    revert h
    cases zaa m.funcs (f.params++f.locals) f.type f.lists f.lists.length ((f.lists.length:Int)-1) 0 with
    | ok u=>intro h J4 A4;simp;exact h J4 ((A2.trans A3).trans A4)
    | error e=>intro h J4 A4;simp;exact h J4 ((A2.trans A3).trans A4)
  .simp[hco2,k0,k2]
   refine ze (λq=>by simp at q) (λ_=>?_)
   simp
   exact fail (by simp[k2]) _ A2
 .simp[hco2,k0]
  refine ze (λq=>by simp at q) (λ_=>?_)
  simp
  exact fail (by simp[k0]) _ A2
@[simp] theorem zJY(t:Nat)(v:AV):aeq yb9 20 (.iface t v) .nilif=some false:=by simp[aeq,zl3,show yb9.underlying 20=some (.interface #[]) from by kernel_rfl]
@[simp] theorem zH8(t:Nat)(v:AV)(K:AV->Prop):zb0 yb9 .neq 20 (.iface t v) .nilif K=K (.bool true):=by simp[zb0]
@[simp] theorem zL8:zaQ yb9 20=some true:=by kernel_rfl
@[simp] theorem zL9(H:Option AV->(Nat->AV)->AS->Prop)(a:Nat->AV)(J:AS):aq H .ret a J=H none a J:=Eq.trans rfl rfl
@[simp] theorem zJZ(H:Option AV->(Nat->AV)->AS->Prop)(v:AV)(a:Nat->AV)(J:AS):aq H (.panic v) a J=H (some v) a J:=Eq.trans rfl rfl
def MI(J1:AS)(mb eb:Nat)(fsv:AV)(m:M)(goal:Res Unit)(a:Nat->AV)(Z:AS):Prop:=∃i:Nat,i<=m.funcs.length/\a 1=.ptr mb 0/\a 2=.ptr eb 0/\a 16=fsv/\a 17=.int .i64 (m.funcs.length:Int)/\a 18=.int .i64 (i:Int)/\zb J1 Z/\zY m.funcs (m.funcs.drop i)=goal
theorem zqa{G:Env}(V:zh2 G){m:M}(sm:zsB m){J:AS}{R:Out->AS->Prop}{mv:AV}(hm:MV mv m)(h:∀J',zb J J'->R (.ret (.int .i64 (zpY (za7 m)))) J'):zzQ G 18 [mv] J R:=by
 refine zfN (px:=zBu) (pz:=zq2) (k:=52) (py:=zoc) (n:=61) (nk:=8) (t:=5) (d0:=2) (d1:=1) (res:=[.cell 2 33]) zt5 Tryz.func18 rfl rfl rfl rfl (by kernel_rfl) (by kernel_rfl) (by simp) rfl rfl rfl rfl rfl rfl (by decide) Tryz.func52 rfl (by kernel_rfl) rfl rfl rfl rfl rfl rfl rfl rfl rfl (by kernel_rfl) (by decide) (by decide) (by decide) ?_
 obtain⟨fsv,rfl,hfs⟩:=hm
 have f1:=hfs.one
 have hfl:=hfs.len
 simp[zBu]
 have ecap:List.map (ev G (upd (upd (zb5 [ydf [fsv,yc6 yam m.memory,yc6 yam m.main]]) 1 (yde J.no 0)) 2 (yde (J.no+1) 0))) #[Operand.tmp 2].toList=[.ptr (J.no+1) 0]:=rfl
 rw[ecap]
 generalize hfr:upd (upd (upd (zb5 [ydf [fsv,yc6 yam m.memory,yc6 yam m.main]]) 1 (yde J.no 0)) 2 (yde (J.no+1) 0)) 5 (AV.fn (Fn.func 52) [] [yde (J.no+1) 0])=fr
 have fr1:fr 1=.ptr J.no 0:=by rw[<-hfr];simp
 have fr2:fr 2=.ptr (J.no+1) 0:=by rw[<-hfr];simp
 have hno1:((J.newO [fsv,yc6 yam m.memory,yc6 yam m.main]).newO [yc6 yam 0]).no=J.no+2:=by simp
 have A1:zb J ((J.newO [fsv,yc6 yam m.memory,yc6 yam m.main]).newO [yc6 yam 0]):=(zb.refl J).newO.newO
 have hm1:((J.newO [fsv,yc6 yam m.memory,yc6 yam m.main]).newO [yc6 yam 0]).objs J.no=some [fsv,.int .i64 m.memory,.int .i64 m.main]:=by simp
 have he1:((J.newO [fsv,yc6 yam m.memory,yc6 yam m.main]).newO [yc6 yam 0]).objs (J.no+1)=some [.int .i64 0]:=by simp
 generalize (J.newO [fsv,yc6 yam m.memory,yc6 yam m.main]).newO [yc6 yam 0]=J1 at *
 -- what is recovered
 have hand:∀(e:Int) (a:Nat->AV) (Z:AS),a 2=.ptr (J.no+1) 0->zb J1 Z->(∀J',zb J J'->R (.ret (.int .i64 e)) J')->za2 yb9 G 8 zoc 2 1 [.ptr (J.no+1) 0] [.cell 2 33] R (some (zkZ e)) a Z:=by
  intro e a Z a2 A hh
  have he:=(A.obj (J.no+1) (by omega)).trans he1
  simp[za2,zoc,zkZ,he,splice,a2]
  exact hh _ ((A1.trans A).setO (by omega))
 have done:∀(a:Nat->AV) (Z:AS),a 2=.ptr (J.no+1) 0->zb J1 Z->(∀J',zb J J'->R (.ret (.int .i64 0)) J')->za2 yb9 G 8 zoc 2 1 [.ptr (J.no+1) 0] [.cell 2 33] R none a (Z.setO (J.no+1) [.int .i64 0]):=by
  intro a Z a2 A hh
  simp[za2,zoc,splice,a2]
  exact hh _ ((A1.trans A).setO (by omega))
 unfold za7 at h
 by_cases k0:0<=m.memory
 .by_cases k1:m.memory<=4096
  .rw[if_neg (by simp[k0,k1])]at h
   simp[zq2,fr1,hm1,k0,k1]
   refine ze (λ_=>?_) (λq=>by simp at q)
   simp[fr1,hm1,f1,hfl]
   generalize hgoal:zY m.funcs m.funcs=goal at h
   refine zy (MI J1 J.no (J.no+1) fsv m goal) (MU 18 (m.funcs.length+1)) ⟨0,by omega,by simp[fr1],by simp[fr2],by simp,by simp,by simp,.refl _,by simpa using hgoal⟩ λa Z hI=>?_
   obtain⟨i,hi,a1,a2,a16,a17,a18,A,hg⟩:=hI
   have hm2:=(A.obj J.no (by omega)).trans hm1
   have he2:=(A.obj (J.no+1) (by omega)).trans he1
   by_cases hlt:i<m.funcs.length
   .obtain⟨b,fv,hfv,hix⟩:=hfs.at hlt
    have hmem:=yaw hlt
    rw[ydd hlt,zY]at hg
    generalize m.funcs[i]=f at *
    obtain⟨pv,lv,tv,rfl,hp,hl,ht⟩:=hfv
    have p1:=hp.one
    have l1:=hl.one
    have t1:=ht.one
    have hmn:J.no≠Z.no:=by have:=A.no;omega
    simp[zcl,a1,a16,a17,a18,hlt,hix,p1,l1,t1,f1,splice,hm2,hmn]
    have A3:zb Z (((Z.newO [yc8 [],yc9,yc9,yc6 yam 0,yc9]).setO Z.no [yc8 f.name,pv,lv,yc6 yam f.type,tv]).newO [fsv,yc6 yam m.memory,yc6 yam m.main,yc8 f.name,pv,lv,yc6 yam f.type,tv,yc9]):=(((zb.refl Z).newO).setO (yah _)).newO
    refine zir V sm hmem A3 (by omega) ⟨by simp,_,_,_,_,_,by simp,hfs,hp,hl,ht,.inl ⟨rfl,rfl⟩⟩ ?_
    have hw3:yb4 .i64 ((i:Int)+1)=((i+1:Nat):Int):=by have:=sm.funcs;rw[wrap_i64]<;>omega
    cases hq:zn m.funcs f with
    | error e =>
     rw[hq]at hg
     simp only at hg
     rw[<-hg]at h
     intro J4 A4
     simp
     exact hand e _ J4 (by simp[zd5,a2]) (A.trans A4) h
    | ok u =>
     rw[hq]at hg
     simp only at hg
     intro J4 A4
     simp[a18,hw3]
     refine⟨⟨i+1,by omega,by simp[a1],by simp[a2],by simp[a16],by simp[a17],by simp,A.trans A4,hg⟩,?_⟩
     simp only[MU,a18];simp;omega
   .have he:i=m.funcs.length:=by omega
    subst he
    have hnil:m.funcs.drop m.funcs.length=[]:=by simp
    rw[hnil]at hg
    simp only[zY]at hg
    rw[<-hg]at h
    simp only at h
    have good:zgL m=true->∀J',zb J J'->R (.ret (.int .i64 0)) J':=λq=>by rw[if_pos q]at h;exact h
    have bad:zgL m=false->∀J',zb J J'->R (.ret (.int .i64 12)) J':=λq=>by rw[if_neg (by rw[q];simp)]at h;exact h
    by_cases q0:0<=m.main
    .by_cases q1:m.main<(m.funcs.length:Int)
     .have hlt2:m.main.toNat<m.funcs.length:=by omega
      obtain⟨b,fv,hfv,hix⟩:=hfs.at hlt2
      have e1:((m.main.toNat:Nat):Int)=m.main:=by omega
      rw[e1]at hix
      have hfn:m.funcs[m.main.toNat]?=some m.funcs[m.main.toNat]:=yau hlt2
      have hmb:zgL m=(decide (m.funcs[m.main.toNat].type=1)&&decide (m.funcs[m.main.toNat].params.length=0)):=by
       unfold zgL;rw[hfn];simp[q0]
      generalize m.funcs[m.main.toNat]=f at *
      obtain⟨pv,lv,tv,rfl,hp,hl,ht⟩:=hfv
      have hpl:=hp.len
      have p1:=hp.one
      by_cases q2:f.type=1
      .by_cases q3:f.params.length=0
       .have q3':f.params=[]:=ybS.1 q3
        simp[zcl,zdj,a1,a2,a16,a17,a18,hm2,he2,hfl,f1,q0,q1,hix,q2,hpl,p1,q3',splice]
        refine ze (λ_=>?_) (λq=>by simp at q)
        simp[a2,he2,splice]
        exact done _ Z (by simp[a2]) A (good (by rw[hmb];simp[q2,q3']))
       .have q3':¬f.params=[]:=λq=>q3 (by rw[q];rfl)
        simp[zcl,zdj,a1,a2,a16,a17,a18,hm2,he2,hfl,f1,q0,q1,hix,q2,hpl,p1,q3',splice]
        refine ze (λq=>by simp at q) (λ_=>?_)
        simp
        exact hand 12 _ Z (by simp[zd5,a2]) A (bad (by rw[hmb];simp[q3']))
      .simp[zcl,zdj,a1,a2,a16,a17,a18,hm2,he2,hfl,f1,q0,q1,hix,q2,splice]
       refine ze (λq=>by simp at q) (λ_=>?_)
       simp
       exact hand 12 _ Z (by simp[zd5,a2]) A (bad (by rw[hmb];simp[q2]))
     .simp[zcl,zdj,a1,a2,a16,a17,a18,hm2,he2,hfl,f1,q0,q1,splice]
      refine ze (λq=>by simp at q) (λ_=>?_)
      simp
      refine hand 12 _ Z (by simp[zd5,a2]) A (bad ?_)
      unfold zgL
      rw[yb2 (by omega)]
      simp
    .simp[zcl,zdj,a1,a2,a16,a17,a18,hm2,he2,hfl,f1,q0,splice]
     refine ze (λq=>by simp at q) (λ_=>?_)
     simp
     exact hand 12 _ Z (by simp[zd5,a2]) A (bad (by simp[zgL,q0]))
  .rw[if_pos (by simp[k1])]at h
   simp[zq2,fr1,hm1,k0,k1]
   refine ze (λq=>by simp at q) (λ_=>?_)
   simp
   exact hand 11 _ J1 (by simp[zd5,fr2]) (.refl _) h
 .rw[if_pos (by simp[k0])]at h
  simp[zq2,fr1,hm1,k0]
  refine ze (λq=>by simp at q) (λ_=>?_)
  simp
  exact hand 11 _ J1 (by simp[zd5,fr2]) (.refl _) h
mutual
def clm:AV->AV
 | .sl φ sz xs=>.sl (.stat φ.full) sz (zFD xs)
 | .agg cs=>.agg (zFD cs)
 | v=>v
def zFD:List AV->List AV
 | []=>[]
 | v::vs=>clm v::zFD vs
end
theorem zqb:∀l,zFD l=l.map clm
 | []=>by simp[zFD]
 | v::l=>by simp[zFD,zqb l]
@[simp] theorem zBG(φ sz xs):clm (.sl φ sz xs)=.sl (.stat φ.full) sz (xs.map clm):=by simp[clm,zqb]
@[simp] theorem zDT(cs):clm (.agg cs)=.agg (cs.map clm):=by simp[clm,zqb]
@[simp] theorem zht(k n):clm (.int k n)=.int k n:=by simp[clm]
@[simp] theorem zDU(s):clm (.str s)=.str s:=by simp[clm]
@[simp] theorem zus:clm .nilsl=.nilsl:=by simp[clm]
@[simp] theorem zyM(b):clm (.bool b)=.bool b:=by simp[clm]
theorem zov(v:AV):(clm v).cells=v.cells.map clm:=by
 cases v with
 | agg cs=>simp
 | sl φ sz xs=>simp
 | _=>simp[clm,AV.cells]
theorem zmZ(l:List AV):zM (l.map clm)=(zM l).map clm:=by
 simp[zM,List.flatMap_map,List.map_flatMap,zov]
inductive Cb(F:Nat->FSt):AV->Prop
 | bool (b:Bool):Cb F (.bool b)
 | int (k:IntKind) (n:Int):Cb F (.int k n)
 | str (s:List UInt8):Cb F (.str s)
 | nilsl:Cb F .nilsl
 | sl (φ:Abs.Own) (sz:Nat) (xs:List AV) (hr:zl F φ) (h:∀c∈zM xs,Cb F c):Cb F (.sl φ sz xs)
 | agg (cs:List AV) (h:∀c∈cs,Cb F c):Cb F (.agg cs)
end Go.Proofs.YtohfclafhegadaaGreatDoor
namespace Go.Abs
open Go Go.Abs
open Go.Proofs.YtohfclafhegadaaGreatDoor
theorem VR.clmTo{M:Mp}{F:Nat->FSt}{w:World}{v:AV}{c:Value}(h:VR M F w v c){M':Mp}{F':Nat->FSt}(hst:∀B m,M.role B=some (.st m)->M'.role B=some (.st m))(hfm:∀B f,M.role B=some (.fam f)->∃m,M'.role B=some (.st m))(hs:Cb F v):VR M' F' w (clm v) c:=by
 induction h with
 | bool b=>rw[zyM];exact .bool b
 | int k n=>rw[zht];exact .int k n
 | str s=>rw[zDU];exact .str s
 | nilsl=>rw[zus];exact .nilsl
 | slz b sz a=>rw[zBG];exact .slz _ sz a
 | sl φ sz xs B off cap cs hcap hlit hsz hm hc hv ih =>
  cases hs with
  | sl _ _ _ hr hs =>
  rw[zBG]
  have hl:(xs.map Go.Proofs.YtohfclafhegadaaGreatDoor.clm).length=xs.length:=by simp
  have hm':∃m,M'.role B=some (.st m):=by
   cases φ with
   | stat b =>
    obtain⟨m,hm⟩:=hm
    exact⟨m,hst B m hm⟩
   | fam f b=>exact hfm B f (hm.2 (by rw[hr];simp)).1
  have:=VR.sl (M:=M') (F:=F') (w:=w) (.stat φ.full) sz (xs.map Go.Proofs.YtohfclafhegadaaGreatDoor.clm) B off cap cs (by simpa using hcap) (λh=>by rw[hl];exact hlit h)
   (λx hx=>by simp at hx;obtain⟨y,hy,rfl⟩:=hx;rw[zov,ybb];exact hsz y hy) hm' (λ_ j hj=>hc hr j (by rw[zmZ]at hj;simpa using hj))
   (λ_ j hj=>by
    have hj':j<(zM xs).length:=by rw[zmZ]at hj;simpa using hj
    have:=ih hr j hj' (hs _ (yaw hj'))
    simp only[zmZ,yak]
    exact this)
  rw[hl]at this
  exact this
 | agg cs A hA va ih =>
  cases hs with
  | agg _ hs=>rw[zDT];exact .agg _ _ (by simpa using hA) (λj h h'=>by simpa using ih j (by simpa using h) h' (hs _ (yaw _)))
 | _=>cases hs
end Go.Abs
namespace Go.Proofs.YtohfclafhegadaaGreatDoor
open Go Go.Abs
end Go.Proofs.YtohfclafhegadaaGreatDoor
namespace Go.Abs
open Go Go.Abs
open Go.Proofs.YtohfclafhegadaaGreatDoor
theorem VR.clm{M:Mp}{F:Nat->FSt}{w:World}{v:AV}{c:Value}(h:VR M F w v c)(hs:Cb F v):VR (M.calm 1) AS.bare.F w (clm v) c :=
 h.clmTo (λ_ _ h=>zmq h) (λ_ _ h=>⟨false,zfb h (λm q=>by cases q)⟩) hs
end Go.Abs
namespace Go.Proofs.YtohfclafhegadaaGreatDoor
open Go Go.Abs
inductive Pln:AV->Prop
 | bool (b:Bool):Pln (.bool b)
 | int (k:IntKind) (n:Int):Pln (.int k n)
 | str (s:List UInt8):Pln (.str s)
 | nilsl:Pln .nilsl
 | agg (cs:List AV) (h:∀c∈cs,Pln c):Pln (.agg cs)
 | tuple (cs:List AV) (h:∀c∈cs,Pln c):Pln (.tuple cs)
end Go.Proofs.YtohfclafhegadaaGreatDoor
namespace Go.Abs
open Go Go.Abs
open Go.Proofs.YtohfclafhegadaaGreatDoor
theorem VR.pln{M M':Mp}{F F':Nat->FSt}{w w':World}{v:AV}{c:Value}(h:VR M F w v c)(hs:Pln v):VR M' F' w' v c:=by
 induction h with
 | bool b=>exact .bool b
 | int k n=>exact .int k n
 | str s=>exact .str s
 | nilsl=>exact .nilsl
 | agg cs A hA va ih =>
  cases hs with
  | agg _ hs=>exact .agg _ _ hA (λj h h'=>ih j h h' (hs _ (yaw _)))
 | tuple cs A hA va ih =>
  cases hs with
  | tuple _ hs=>exact .tuple _ _ hA (λj h h'=>ih j h h' (hs _ (yaw _)))
 | _=>cases hs
end Go.Abs
namespace Go.Proofs.YtohfclafhegadaaGreatDoor
open Go Go.Abs
inductive StillI:AV->Prop
 | undef:StillI .undef
 | int (k:IntKind) (n:Int):StillI (.int k n)
 | str (s:List UInt8):StillI (.str s)
 | pv (b:Bool) (v:AV) (h:∀c∈v.cells,StillI c):StillI (.pv (.stat b) v)
 | iface (t:TypeId) (v:AV) (h:StillI v):StillI (.iface t v)
 | mp (ks vs:List AV):StillI (.mp ks vs)
end Go.Proofs.YtohfclafhegadaaGreatDoor
namespace Go.Abs
open Go Go.Abs
open Go.Proofs.YtohfclafhegadaaGreatDoor
theorem VR.stillI{M:Mp}{F:Nat->FSt}{w:World}{v:AV}{c:Value}(h:VR M F w v c){M':Mp}{F':Nat->FSt}(hr:∀B m,M.role B=some (.st m)->M'.role B=some (.st m))(hs:StillI v):VR M' F' w v c:=by
 induction h with
 | undef c=>exact .undef c
 | int k n=>exact .int k n
 | str s=>exact .str s
 | pv φ v B off cs hm hc hv ih =>
  cases hs with
  | pv b _ hs =>
  obtain⟨m,hm⟩:=hm
  exact .pv _ v B off cs ⟨m,hr B m hm⟩ (λ_=>hc trivial) (λ_ j hj=>ih trivial j hj (hs _ (yaw hj)))
 | iface t v c h ih =>
  cases hs with
  | iface _ _ hs=>exact .iface t _ _ (ih hs)
 | mp ks vs b es c h1 h2 h3=>exact .mp ks vs b es c (hr b false h1) h2 h3
 | _=>cases hs
end Go.Abs
namespace Go.Proofs.YtohfclafhegadaaGreatDoor
open Go Go.Abs
theorem zLb{P:Program}{G:Env}{M:Mp}{J:AS}{w:World}(g:GOk P G M J.F w)(hG:∀k,StillI (G.g k))(hy:∀l,¬G.has l):GOk P G (M.calm 1) AS.bare.F w where
 vars k:=(g.vars k).stillI (λ_ _ h=>zmq h) (hG k)
 yields l hl:=absurd hl (hy l)
 fixed B cs hB:=by
  obtain⟨h1,h2⟩:=g.fixed B cs hB
  exact⟨zmq h1,h2⟩
theorem zhu{P:Program}{G:Env}{f:FuncId}{J:AS}{R:Out->AS->Prop}{vs:List AV}{Q:AV->Prop}(hG:∀k,StillI (G.g k))(hy:∀l,¬G.has l)(hv:∀v∈vs,Cb J.F v)(h:ACalls P G f (vs.map clm) AS.bare λo _=>∃x,o=.ret x/\Pln x/\Q x)(hR:∀x,Q x->R (.ret x) J):ACalls P G f vs J R:=by
 intro M w cargs S g c
 refine(h (M.calm 1) w cargs S.calm (zLb g hG hy) ⟨by rw[ybb];exact c.1,λj v hj=>?_⟩).mono λe w' ⟨o,J',M',⟨x,ho,hx,hq⟩,h2,h3,h4⟩=>?_
 .rw[List.getElem?_map,ybB]at hj
  obtain⟨v0,h1,rfl⟩:=hj
  obtain⟨c0,e0,q0⟩:=c.2 j v0 h1
  exact⟨c0,e0,q0.clm (hv v0 (ydb h1))⟩
 .subst ho
  refine⟨_,J,M,hR x hq,?_,S.calmed h4,Ext.calm S h4⟩
  cases e<;>simp only[zck]at h2 ⊢
  exact h2.pln hx
theorem zLc(w:W):clm w.av=w.av:=by simp[W.av,W.cs]
theorem zMf{F:Nat->FSt}(w:W):∀c∈w.av.cells,Cb F c:=by
 intro c hc
 simp only[W.av,W.cs,AV.cells,ybC,ydk,or_false]at hc
 rcases hc with rfl|rfl|rfl|rfl|rfl|rfl
 all_goals first|exact .int _ _|exact .str _
theorem zut{J:AS}{v:AV}{l:List W}(h:Al.RepO J v l):Cb J.F v/\zmT (clm v) l:=by
 rcases h with ⟨rfl,rfl⟩|⟨φ,rfl,r⟩
 .exact⟨.nilsl,.inl ⟨rfl,by simp⟩⟩
 .refine⟨.sl _ _ _ r.read λc hc=>?_,.inr ⟨φ.full,by simp[Function.comp_def,zLc]⟩⟩
  simp only[zM,ydg,yaV]at hc
  obtain⟨x,⟨w,_,rfl⟩,hx⟩:=hc
  exact zMf w c hx
theorem ziT{J:AS}{v:AV}{l:List Int}(h:Al.IntsO J v l):Cb J.F v/\zaq (clm v) l:=by
 rcases h with ⟨rfl,rfl⟩|⟨φ,rfl,r⟩
 .exact⟨.nilsl,.inl ⟨rfl,by simp⟩⟩
 .refine⟨.sl _ _ _ r.read λc hc=>?_,.inr ⟨φ.full,by simp[Function.comp_def]⟩⟩
  simp only[zM,ydg,yaV]at hc
  obtain⟨x,⟨w,_,rfl⟩,hx⟩:=hc
  simp only[AV.cells,List.mem_singleton]at hx
  subst hx
  exact .int _ _
theorem zm0{α:Type}{Q Q':AV->α->Prop}{P:AV->Prop}(hq:∀v a,Q v a->P v/\Q' (clm v) a):∀{xs:List AV} {l:List α},All2 Q xs l->(∀x∈xs,P x)/\All2 Q' (xs.map clm) l
 | _,_,.nil=>⟨λx h=>(by cases h),.nil⟩
 | _,_,.cons h hs=>by
  obtain⟨h1,h2⟩:=hq _ _ h
  obtain⟨h3,h4⟩:=zm0 hq hs
  exact⟨λx hx=>by
   rcases ybC.1 hx with rfl|hx
   .exact h1
   .exact h3 x hx,.cons h2 h4⟩
theorem zuu{v:AV}(h:v.cells=[v]):∀c∈v.cells,c=v:=λc hc=>by rw[h]at hc;simpa using hc
theorem zuv{J:AS}{v:AV}{l:To}(h:Al.LstO J v l):Cb J.F v/\zcn (clm v) l:=by
 rcases h with ⟨rfl,rfl⟩|⟨φ,rows,rfl,r,k⟩
 .exact⟨.nilsl,.inl ⟨rfl,by simp⟩⟩
 .obtain⟨k1,k2⟩:=zm0 (P:=λv=>Cb J.F v/\v.cells=[v]) (Q':=zmT) (λv a q=>⟨⟨(zut q).1,q.one.2.2⟩,(zut q).2⟩) k
  refine⟨.sl _ _ _ r.read λc hc=>?_,.inr ⟨φ.full,rows.map clm,by simp,k2⟩⟩
  simp only[zM,ydg]at hc
  obtain⟨x,hx,hc⟩:=hc
  rw[zuu (k1 x hx).2 c hc]
  exact(k1 x hx).1
theorem zH9{J:AS}{v:AV}{f:F}(h:Al.FVO J v f):(∀c∈v.cells,Cb J.F c)/\FV (clm v) f:=by
 obtain⟨pv,lv,tv,rfl,a,b,c⟩:=h
 refine⟨λx hx=>?_,clm pv,clm lv,clm tv,by simp,(ziT a).2,(ziT b).2,(zuv c).2⟩
 simp only[AV.cells,ybC,ydk,or_false]at hx
 rcases hx with rfl|rfl|rfl|rfl|rfl
 .exact .str _
 .exact(ziT a).1
 .exact(ziT b).1
 .exact .int _ _
 .exact(zuv c).1
theorem zly{J:AS}{v:AV}{m:M}(h:Al.MO J v m):Cb J.F v/\MV (clm v) m:=by
 obtain⟨fv,rfl,h⟩:=h
 have key:Cb J.F fv/\FsV (clm fv) m.funcs:=by
  rcases h with ⟨h,rfl⟩|⟨φ,rows,rfl,r,k⟩
  .exact⟨.nilsl,.inl ⟨h,by simp⟩⟩
  .obtain⟨k1,k2⟩:=zm0 (P:=λv=>∀c∈v.cells,Cb J.F c) (Q':=FV) (λv a q=>zH9 q) k
   refine⟨.sl _ _ _ r.read λc hc=>?_,.inr ⟨φ.full,rows.map clm,by simp,k2⟩⟩
   simp only[zM,ydg]at hc
   obtain⟨x,hx,hc⟩:=hc
   exact k1 x hx c hc
 refine⟨.agg _ λc hc=>?_,clm fv,by simp,key.2⟩
 simp only[ybC,ydk,or_false]at hc
 rcases hc with rfl|rfl|rfl
 .exact key.1
 .exact .int _ _
 .exact .int _ _
section
variable {G : Env} {J : AS} {R : Out -> AS -> Prop}
theorem zow{m:M}{mv:AV}(V:zh2 G)(hG:∀k,StillI (G.g k))(hy:∀l,¬G.has l)(hm:Al.MO J mv m)(sm:zsB m)(h:R (.ret (.int .i64 (zpY (za7 m)))) J):zzQ G 18 [mv] J R:=by
 obtain⟨h1,h2⟩:=zly hm
 refine zhu (vs:=[mv]) (Q:=λx=>x=.int .i64 (zpY (za7 m))) hG hy (λv hv=>by simp at hv;subst hv;exact h1) ?_ λx hx=>by rw[hx];exact h
 exact zqa V sm h2 λJ' _=>⟨_,rfl,.int _ _,rfl⟩
end
@[simp] theorem zJ0(t i k r):zhJ t ((i,.tmp k)::r)=false:=by simp[zhJ]
@[simp] theorem zJ1(t i n r):zhJ t ((i,.const (.int .i64 n))::r)=false:=by simp[zhJ]
@[simp] theorem zJ2(t i n r):zhJ t ((i,.const (.string n))::r)=false:=by simp[zhJ]
theorem zyN(f:BitVec 8->BitVec 8->BitVec 8)(a b:UInt8):zb1 .u8 f (a.toNat:Int) (b.toNat:Int)=((f a.toBitVec b.toBitVec).toNat:Int):=by
 have e1:BitVec.ofInt 8 (a.toNat:Int)=a.toBitVec:=by
  apply BitVec.eq_of_toNat_eq
  simp
 have e2:BitVec.ofInt 8 (b.toNat:Int)=b.toBitVec:=by
  apply BitVec.eq_of_toNat_eq
  simp
 show yb4 .u8 ((f (BitVec.ofInt 8 (a.toNat:Int)) (BitVec.ofInt 8 (b.toNat:Int))).toNat:Int)=_
 rw[e1,e2]
 have:=(f a.toBitVec b.toBitVec).isLt
 simp[yb4,yao,yap]
 omega
@[simp] theorem zMg(bs:List UInt8):(B bs).length=bs.length:=by simp[B]
end Go.Proofs.YtohfclafhegadaaGreatDoor



namespace Go.Proofs.YtohfclafhegadaaGreatDoor
open Go Go.Abs
def zrt:List UInt8:=[97,100,100,32,115,117,98,32,109,117,108,32,100,105,118,95,115,32,114,101,109,95,115,32,97,110,100,32,111,114,32,120,111,114,32,115,104,108,32,115,104,114,95,115,32,101,113,32,110,101,32,108,116,95,115,32,103,116,95,115,32,108,101,95,115,32,103,101,95,115]
def zox:List (List UInt8):=[[97,100,100],[115,117,98],[109,117,108],[100,105,118,95,115],[114,101,109,95,115],[97,110,100],[111,114],[120,111,114],[115,104,108],[115,104,114,95,115],[101,113],[110,101],[108,116,95,115],[103,116,95,115],[108,101,95,115],[103,101,95,115]]
def zge(c:UInt8):Bool:=c==32||(9<=c&&c<=13)
def zgf:List AV:=(List.range 256).map λc=>.int .u8 (if zge (UInt8.ofNat c)then 1 else 0)
def pw(op ty n:Int):W:={ op:=op,ty:=ty,n:=n,body:=0,other:=0,name:=[] }
theorem ziU(c:UInt8):zgf[c.toNat]?=some (.int .u8 (if zge c then 1 else 0)):=by
 have h:c.toNat<256:=c.toNat_lt
 have:∀k:Fin 256,zgf[k.1]?=some (.int .u8 (if zge (UInt8.ofNat k.1)then 1 else 0)):=by
  intro k;simp[zgf]
 have:=this ⟨c.toNat,h⟩
 simpa using this
def fC(L:List UInt8):Nat->Nat × Bool × UInt8
 | 0=>(0,true,0)
 | i+1=>let c:=L.getD i 0;let p:=fC L i;(p.1+(if p.2.1&&!zge c then 1 else 0),zge c,p.2.2 ||| c)
def fS(L:List UInt8):Nat->Nat × Nat
 | 0=>(0,0)
 | i+1=>if zge (L.getD i 0)then(i+1,(fS L i).2+1)else fS L i
theorem zyO(L:List UInt8):∀k,(fC L k).1<=k:=by
 intro k
 induction k with
 | zero=>simp[fC]
 | succ k ih=>simp only[fC];split<;>omega
def zdl(T:List (List UInt8))(k:Nat):List AV:=(T.take k).map yc8++yaj (T.length-k) (.str [])
structure zyP(L:List UInt8)(T:List (List UInt8))(e:Nat):Prop where
 len:L.length<=1000
 tl:T.length<=1000
 fact:∀i:Fin L.length,(zge (L.getD i 0)=true->T[(fS L i).2]?=some ((L.take i).drop (fS L i).1)/\(fS L i).2<T.length/\(fS L i).1<=i/\i.1+1<L.length/\zge (L.getD (i.1+1) 0)=false/\fS L (i.1+1)=(i.1+1,(fS L i).2+1))/\(zge (L.getD i 0)=false->fS L (i.1+1)=fS L i)
 cnt:fC L L.length=(T.length,false,(fC L L.length).2.2)
 low:(fC L L.length).2.2.toNat<128
 head:∃c r,L=c::r/\zge c=false
 fin:fS L L.length=(e,T.length-1)
 lt:e<L.length
 last:T[T.length-1]?=some (L.drop e)
theorem zjZ{T:List (List UInt8)}{k:Nat}{b:List UInt8}(h:T[k]?=some b):splice (zdl T k) k [.str b]=zdl T (k+1):=by
 have hk:=(yaq.1 h).1
 have ht:=zeL h
 have hA:((T.take k).map yc8).length=k:=by simp;omega
 unfold splice zdl
 rw[List.take_left' hA,ht,List.map_append]
 have e:T.length-k=(T.length-(k+1))+1:=by omega
 have hd:((T.take k).map yc8++yaj (T.length-k) (yc8 [])).drop (k+[yc8 b].length)=yaj (T.length-(k+1)) (yc8 []):=by
  rw[List.drop_append,List.drop_eq_nil_of_le (by rw[hA];simp),hA,e]
  simp
 rw[hd]
 simp
theorem zsD{T:List (List UInt8)}(hT:T.length<=1000){J:AS}{K:AV->AS->Prop}:zpx yb9 22 (.int .i64 (T.length:Int)) (.int .i64 (T.length:Int)) J K=K (.slm J.no 0 1 T.length) (J.newO (zdl T 0)):=by
 have e1:zcP yb9 22=some 1:=by kernel_rfl
 have e2:zbR yb9 22=some 16:=by kernel_rfl
 have e3:zbx yb9 22=some (.str []):=by kernel_rfl
 have e5:zM (yaj T.length (yc8 []))=yaj T.length (yc8 []):=by
  generalize T.length=n
  induction n with
  | zero=>rfl
  | succ n ih=>simp only[zM,ydj,yaa]at *;rw[ih];rfl
 simp[zpx,e1,e2,e3,AV.cells,AV.known,e5,zdl]
 exact⟨λq=>q.2.2,λq=>⟨by omega,by omega,q⟩⟩
section
variable {G : Env} {J : AS} {R : Out -> AS -> Prop}
def F1(L:List UInt8)(J:AS)(a:Nat->AV)(Z:AS):Prop:=∃i:Nat,i<=L.length/\a 0=.str L/\a 3=.int .i64 ((fC L i).1:Nat)/\a 4=.int .i64 (if(fC L i).2.1 then 1 else 0)/\a 5=.int .u8 ((fC L i).2.2.toNat:Nat)/\a 6=.int .i64 (i:Nat)/\Z=J
def F4(L:List UInt8)(T:List (List UInt8))(J:AS)(x:Nat)(a:Nat->AV)(Z:AS):Prop:=∃i:Nat,i<=L.length/\a 0=.str L/\a 9=.slm x 0 1 T.length/\a 10=.int .i64 ((fS L i).2:Nat)/\a 11=.int .i64 ((fS L i).1:Nat)/\a 12=.int .i64 (i:Nat)/\zb J Z/\x<Z.no/\Z.objs x=some (zdl T (fS L i).2)
theorem zhv{L:List UInt8}{T:List (List UInt8)}{e:Nat}(hok:zyP L T e)(v3:G.g 0=.pv (.stat true) (.agg zgf))(h:∀x J',zb J J'->J.no<=x->x<J'.no->J'.objs x=some (T.map yc8)->R (.ret (.slm x 0 1 T.length)) J'):zzQ G 57 [.str L] J R:=by
 refine zC8 rfl ?_
 have hL:=hok.len
 have hT:=hok.tl
 simp[zLM]
 refine zy (F1 L J) (MU 6 (L.length+1)) ⟨0,by omega,by simp,by simp[fC],by simp[fC],by simp[fC],by simp,rfl⟩ λa Z hI=>?_
 obtain⟨i,hi,a0,a3,a4,a5,a6,rfl⟩:=hI
 by_cases hlt:i<L.length
 .have hlt':(i:Int)<(L.length:Int):=by omega
  have hg:=yau hlt
  have hf:fC L (i+1)=((fC L i).1+(if(fC L i).2.1&&!zge L[i]then 1 else 0),zge L[i],(fC L i).2.2 ||| L[i]):=by simp[fC,hg]
  have hn:=zyO L i
  generalize L[i]=c at *
  have hs:=ziU c
  have w1:yb4 .i64 ((i:Int)+1)=((i+1:Nat):Int):=by rw[wrap_i64]<;>omega
  have w0:∀b:UInt8,zb1 .u8 (· ||| ·) (b.toNat:Int) (c.toNat:Int)=((b ||| c).toNat:Int):=λb=>zyN (· ||| ·) b c
  have c1:(c.toNat:Int)<256:=by have:=c.toNat_lt;omega
  generalize fC L i=p at *
  obtain⟨n,ws,b⟩:=p
  have w2:yb4 .i64 ((n:Int)+1)=((n+1:Nat):Int):=by rw[wrap_i64]<;>omega
  have w3:yb4 .i64 (n:Int)=(n:Int):=by rw[wrap_i64]<;>omega
  have w4:yb4 .i64 0=0:=rfl
  have w5:yb4 .i64 1=1:=rfl
  have z0:zb1 .i64 (· ^^^ ·) (-1) 0=-1:=by decide
  have z1:zb1 .i64 (· ^^^ ·) (-1) 1=-2:=by decide
  have z2:zb1 .i64 (· &&& ·) 1 (-1)=1:=by decide
  have z3:zb1 .i64 (· &&& ·) 1 (-2)=0:=by decide
  have z4:zb1 .i64 (· &&& ·) 0 (-1)=0:=by decide
  have z5:zb1 .i64 (· &&& ·) 0 (-2)=0:=by decide
  have z6:yao .i64=true:=rfl
  cases hsp:zge c<;>cases ws<;>simp only[hsp,if_true,if_false,Bool.false_eq_true]at hs hf a4 ⊢<;>simp at hn a3 a5<;>simp[zdb,a0,a3,a4,a5,a6,hlt',hg,v3,hs,c1,w0,w1,w2,w3,w4,w5,z0,z1,z2,z3,z4,z5,z6,-UInt8.toNat_or]<;>refine⟨⟨i+1,by omega,by simp[a0],by simp[hf],by simp[hf,hsp],by simp[hf],by simp,rfl⟩,?_⟩<;>simp only[MU,a6]<;>simp<;>omega
 .have hie:i=L.length:=by omega
  subst hie
  have e1:=hok.cnt
  have e2:¬(128:Int)<=((fC L L.length).2.2.toNat:Nat):=by have:=hok.low;omega
  rw[e1]at a3 a4 a5
  simp[zdb,zt9,a0,a3,a4,a5,a6,e2,zsD hT]
  refine zy (λa2 Z2=>a2 0=.str L/\a2 9=.slm Z.no 0 1 T.length/\a2 10=.int .i64 0/\a2 12=.int .i64 0/\Z2=Z.newO (zdl T 0)) (λ_ _=>0) ⟨by simp[a0],by simp,by simp,by simp,rfl⟩ λa2 Z2 hI2=>?_
  obtain⟨b0,b9,b10,b12,rfl⟩:=hI2
  obtain⟨q0,r0,hLc,hsp0⟩:=hok.head
  have w5:0<L.length:=by rw[hLc];simp
  have g0:L[0]'w5=q0:=by simp[hLc]
  have t0:=ziU q0
  rw[hsp0]at t0
  have q256:(q0.toNat:Int)<256:=by have:=q0.toNat_lt;omega
  simp at t0
  simp[zeG,zpN,b0,b9,b10,b12,g0,t0,v3,w5,q256]
  refine zy (F4 L T Z Z.no) (MU 12 (L.length+1)) ⟨0,by omega,by simp[b0],by simp[b9],by simp[b10,fS],by simp[fS],by simp[b12],(zb.refl Z).newO,by simp,by simp[fS]⟩ λa3 Z3 hI3=>?_
  obtain⟨i,hi,c0,c9,c10,c11,c12,hA,hx,ho⟩:=hI3
  by_cases hlt:i<L.length
  .have hlt':(i:Int)<(L.length:Int):=by omega
   have hg:=yau hlt
   obtain⟨f1,f2⟩:=hok.fact ⟨i,hlt⟩
   have hgd:L.getD i 0=L[i]:=by simp[hg]
   simp only[hgd]at f1 f2
   have w1:yb4 .i64 ((i:Int)+1)=((i+1:Nat):Int):=by rw[wrap_i64]<;>omega
   generalize L[i]=c at *
   have hs:=ziU c
   have c1:(c.toNat:Int)<256:=by have:=c.toNat_lt;omega
   cases hsp:zge c with
   | false =>
    rw[hsp]at hs
    have f2:=f2 hsp
    simp at hs
    simp[zga,c0,c9,c10,c11,c12,hlt',hg,v3,hs,c1,w1]
    refine⟨⟨i+1,by omega,by simp[c0],by simp[c9],by simp[c10,f2],by simp[c11,f2],by simp,hA,hx,by simp[ho,f2]⟩,?_⟩
    simp only[MU,c12];simp;omega
   | true =>
    rw[hsp]at hs
    obtain⟨g1,g2,g3,g4,g5,g6⟩:=f1 hsp
    simp at hs
    simp[zga,c0,c9,c10,c11,c12,hlt',hg,v3,hs,c1,w1,ho]
    have hlen:(zdl T (fS L i).2).length=T.length:=by
     simp only[zdl,yab,ybb,ybf,yba]
     omega
    refine⟨g3,by omega,by omega,by omega,?_⟩
    refine zy (λb Z4=>b 0=.str L/\b 9=.slm Z.no 0 1 T.length/\b 10=.int .i64 (((fS L i).2+1:Nat):Int)/\b 12=.int .i64 ((i+1:Nat):Int)/\zb Z Z4/\Z.no<Z4.no/\Z4.objs Z.no=some (zdl T ((fS L i).2+1))) (λ_ _=>0) ⟨by simp[c0],by simp[c9],by simp;rw[wrap_i64]<;>omega,by simp,hA.setO (by omega),by simp;exact hx,by simp;exact zjZ g1⟩ λb Z4 hI4=>?_
    obtain⟨d0,d9,d10,d12,hA4,hx4,ho4⟩:=hI4
    have hlt2:(((i+1:Nat):Int))<(L.length:Int):=by omega
    have hlt3:i+1<L.length:=by omega
    have hg2:=yau hlt3
    have hgd2:L.getD (i+1) 0=L[i+1]:=by simp[hg2]
    simp only[hgd2]at g5
    generalize L[i+1]=c' at *
    have hs2:=ziU c'
    rw[g5]at hs2
    have c1':(c'.toNat:Int)<256:=by have:=c'.toNat_lt;omega
    simp at hs2
    simp only[Int.natCast_add,Int.natCast_one]at d12 hlt2
    simp[zf9,zhk,d0,d9,d10,d12,hlt2,hg2,v3,hs2,c1']
    refine⟨by omega,⟨i+1,by omega,by simp[d0],by simp[d9],by simp[d10,g6],by simp[g6],by simp[d12],hA4,hx4,by simp[ho4,g6]⟩,?_⟩
    simp only[MU,c12];simp[d12];omega
  .have hie:i=L.length:=by omega
   subst hie
   have e3:=hok.fin
   have hlast:=hok.last
   obtain⟨n,hn⟩:∃n,T.length=n+1:=⟨T.length-1,by have:=(yaq.1 hlast).1;omega⟩
   have e4:T.length-1=n:=by omega
   rw[e4]at e3 hlast
   rw[e3]at c10 c11 ho
   have w7:=hok.lt
   have w6:(e:Int)<(L.length:Int):=by omega
   have hnT:n<T.length:=by omega
   have hnTi:(n:Int)<(T.length:Int):=by omega
   simp at c10 c11 ho
   simp[zga,zmw,c0,c9,c10,c11,c12,ho,w6,w7,hnT,hnTi]
   have hlen:(zdl T n).length=T.length:=by
    simp only[zdl,yab,ybb,ybf,yba]
    omega
   refine⟨by omega,by omega,?_⟩
   rw[zjZ hlast]
   refine h Z.no _ (hA.setO (by omega)) (by omega) (by simpa using hx) ?_
   simp[zdl,<-hn]
theorem zDV:zyP zrt zox 66:=⟨by decide,by decide,by decide,by decide,by decide,⟨97,_,rfl,by decide⟩,by decide,by decide,by decide⟩
theorem fields_calls(v3:G.g 0=.pv (.stat true) (.agg zgf))(h:∀x J',zb J J'->J.no<=x->x<J'.no->J'.objs x=some (zox.map yc8)->R (.ret (.slm x 0 1 16)) J'):zzQ G 57 [.str zrt] J R:=zhv zDV v3 h
end
end Go.Proofs.YtohfclafhegadaaGreatDoor



namespace Go.Proofs.YtohfclafhegadaaGreatDoor
open Go Go.Abs
def zbv(w:W):Bool:=decide (w.op=11)||decide (w.op=12)||decide (w.op=13)
end Go.Proofs.YtohfclafhegadaaGreatDoor








namespace Go.Proofs.YtohfclafhegadaaGreatDoor
open Go Go.Abs
theorem RepO.len{J:AS}{v:AV}{l:List W}(h:Al.RepO J v l)(K:AV->Prop):zij yb9 54 v K=K (.int .i64 (l.length:Int)):=by
 rcases h with ⟨rfl,rfl⟩|⟨b,rfl,_⟩<;>simp
theorem RepO.at{J:AS}{v:AV}{l:List W}(h:Al.RepO J v l){i:Nat}(hi:i<l.length):∃φ,Al.Rd J φ/\∀K:AV->Prop,zA yb9 54 v (.int .i64 (i:Int)) K=K (.pv φ l[i].av):=by
 rcases h with ⟨rfl,_⟩|⟨φ,rfl,r⟩
 .simp at hi
 .exact⟨φ,r,λK=>by simp[hi]⟩
def RgW(w:W):Prop:=-(2^63)<=w.n/\w.n<2^63
def RgL(ls:To):Prop:=∀ws∈ls,∀w∈ws,RgW w
theorem zDW{w:W}(h:zbv w=true):w.op=11\/w.op=12\/w.op=13:=by
 simpa [zbv,or_assoc]using h
section
variable {G : Env} {J : AS} {R : Out -> AS -> Prop}
end
end Go.Proofs.YtohfclafhegadaaGreatDoor
namespace Go.Proofs.YtohfclafhegadaaGreatDoor.Ck
open Go Go.Abs Go.Proofs.YtohfclafhegadaaGreatDoor
theorem zsE{a n:Int}{named named':List Bool}(h:zee a named n=.ok named'){i:Nat}(hi:named'[i]?=some true):named[i]?=some true\/(i:Int)=n:=by
 unfold zee at h
 split at h
 .rename_i hc
  cases h
  by_cases hin:n.toNat=i
  .right;omega
  .left;rwa [List.getElem?_set_ne hin]at hi
 .cases h
theorem zj0{a:Int}:∀{ns:List Int} {named named':List Bool},zbd a ns named=.ok named'->∀{i:Nat},named'[i]?=some true->named[i]?=some true\/(i:Int)∈ns
 | [],named,named',h,i,hi=>by rw[zbd]at h;cases h;exact .inl hi
 | n::ns,named,named',h,i,hi=>by
  rw[zbd]at h
  split at h
  .cases h
  .rename_i nm hnm
   rcases zj0 h hi with h1|h1
   .rcases zsE hnm h1 with h2|h2
    .exact .inl h2
    .exact .inr (by simp[h2])
   .exact .inr (by simp[h1])
theorem zoy{a:Int}:∀{r:List W} {named named':List Bool},ziR a r named=.ok named'->∀{i:Nat},named'[i]?=some true->named[i]?=some true\/∃w∈r,(i:Int)∈zi w
 | [],named,named',h,i,hi=>by rw[ziR]at h;cases h;exact .inl hi
 | w::r,named,named',h,i,hi=>by
  rw[ziR]at h
  split at h
  .cases h
  .rename_i nm hnm
   rcases zoy h hi with h1|⟨w',h1,h2⟩
   .rcases zj0 hnm h1 with h2|h2
    .exact .inl h2
    .exact .inr ⟨w,by simp,h2⟩
   .exact .inr ⟨w',by simp[h1],h2⟩
theorem zlz:∀{ls:To} {k:Nat} {named named':List Bool},zca k ls named=.ok named'->∀{i:Nat},named'[i]?=some true->named[i]?=some true\/∃(j:Nat) (r:List W),ls[j]?=some r/\∃w∈r,(i:Int)∈zi w
 | [],k,named,named',h,i,hi=>by rw[zca]at h;cases h;exact .inl hi
 | r::ls,k,named,named',h,i,hi=>by
  rw[zca]at h
  split at h
  .cases h
  .rename_i nm hnm
   rcases zlz h hi with h1|⟨j,r',h1,h2⟩
   .rcases zoy hnm h1 with h2|h2
    .exact .inl h2
    .exact .inr ⟨0,r,rfl,h2⟩
   .exact .inr ⟨j+1,r',by simpa using h1,h2⟩
theorem zyQ{a n:Int}{named named':List Bool}(h:zee a named n=.ok named'):named'.length=named.length:=by
 unfold zee at h
 split at h
 .cases h;simp
 .cases h
theorem zoz{a:Int}:∀{ns:List Int} {named named':List Bool},zbd a ns named=.ok named'->named'.length=named.length
 | [],named,named',h=>by rw[zbd]at h;cases h;rfl
 | n::ns,named,named',h=>by
  rw[zbd]at h
  split at h
  .cases h
  .rename_i nm hnm
   rw[zoz h,zyQ hnm]
theorem zuw{a:Int}:∀{r:List W} {named named':List Bool},ziR a r named=.ok named'->named'.length=named.length
 | [],named,named',h=>by rw[ziR]at h;cases h;rfl
 | w::r,named,named',h=>by
  rw[ziR]at h
  split at h
  .cases h
  .rename_i nm hnm
   rw[zuw h,zoz hnm]
theorem zru:∀{ls:To} {k:Nat} {named named':List Bool},zca k ls named=.ok named'->named'.length=named.length
 | [],k,named,named',h=>by rw[zca]at h;cases h;rfl
 | r::ls,k,named,named',h=>by
  rw[zca]at h
  split at h
  .cases h
  .rename_i nm hnm
   rw[zru h,zuw hnm]
theorem zoA{ls:To}(h:zcE ls=.ok ()){i:Nat}(hi:i+1<ls.length):∃(j:Nat) (r:List W),ls[j]?=some r/\∃w∈r,(i:Int)∈zi w:=by
 unfold zcE at h
 split at h
 .cases h
 split at h
 .cases h
 rename_i nm hnm
 split at h
 .rename_i hall
  rw[yaM]at hall
  have hlen:nm.length=ls.length:=by
   have:=(zru hnm)
   simpa using this
  have h1:nm[i]?=some true:=by
   have h2:=hall (nm[i]'(by omega)) (ydi.2 ⟨i,by simp;omega,by simp⟩)
   rw[yau (by omega)]
   simpa using h2
  rcases zlz hnm h1 with h2|h2
  .rw[yc4]at h2
   split at h2<;>simp at h2
  .exact h2
 .cases h
theorem zh3{fs:List F}{ls:List Int}{ty deep:Int}{look:zmP}:∀{ws:List W} {s s':St},zP fs ls ty deep look ws s=.ok s'->∀w∈ws,∃s0 s1,zV fs ls ty deep look w s0=.ok s1
 | [],_,_,_,w,hw=>by simp at hw
 | v::ws,s,s',h,w,hw=>by
  rw[zP]at h
  split at h
  .cases h
  .rename_i s1 h1
   rcases ybC.1 hw with rfl|hw
   .exact⟨s,s1,h1⟩
   .exact zh3 h w hw
theorem zqc{fs:List F}{ls:List Int}{ty deep:Int}{look:zmP}{w:W}{s s':St}(h:zV fs ls ty deep look w s=.ok s'):zT w=true/\∀n∈zi w,look n (deep+1)=.ok ():=by
 unfold zV at h
 split at h
 .cases h
 rename_i hf
 refine⟨by simpa using hf,λn hn=>?_⟩
 split at h
 .cases h
 by_cases h1:w.op=11\/w.op=12
 .rw[if_pos h1]at h
  unfold zi at hn
  rw[if_pos (by omega)]at hn
  simp at hn
  subst hn
  cases hl:look w.body (deep+1)with
  | ok u=>rfl
  | error e=>rw[hl]at h;cases h
 rw[if_neg h1]at h
 by_cases h2:w.op=13
 .rw[if_pos h2]at h
  split at h
  .cases h
  cases hl:look w.body (deep+1)with
  | error e=>rw[hl]at h;cases h
  | ok u =>
   rw[hl]at h
   simp only at h
   unfold zi at hn
   by_cases ho:w.other<0
   .rw[if_pos (by omega)]at hn
    simp at hn
    subst hn
    exact hl
   .rw[if_neg (by omega),if_pos h2]at hn
    rw[if_pos (by omega)]at h
    simp at hn
    rcases hn with rfl|rfl
    .exact hl
    .cases hl2:look w.other (deep+1)with
     | ok u=>rfl
     | error e=>rw[hl2]at h;cases h
 .unfold zi at hn
  rw[if_neg (by omega),if_neg h2]at hn
  simp at hn
theorem zlA{fs:List F}{ls:List Int}{ty:Int}{lists:To}{k:Nat}{at_ deep:Int}(h:zaa fs ls ty lists (k+1) at_ deep=.ok ()):∀w∈lists.getD at_.toNat [],zT w=true/\∀n∈zi w,zaa fs ls ty lists k n (deep+1)=.ok ():=by
 rw[zaa]at h
 split at h
 .cases h
 .rename_i s' hs
  intro w hw
  obtain⟨s0,s1,h1⟩:=zh3 hs w hw
  exact zqc h1
theorem zfo{fs:List F}{ls:List Int}{ty:Int}{lists:To}(hl:zcE lists=.ok ())(h:zaa fs ls ty lists lists.length ((lists.length:Int)-1) 0=.ok ()):∀(d i:Nat),i+d+1=lists.length->∃(k:Nat) (deep:Int),zaa fs ls ty lists k (i:Int) deep=.ok ():=by
 intro d
 induction d using ybI with
 | _ d ih =>
  intro i hi
  by_cases h0:d=0
  .subst h0
   refine⟨lists.length,0,?_⟩
   have:(i:Int)=(lists.length:Int)-1:=by omega
   rw[this];exact h
  .obtain⟨j,r,h1,w,h2,h3⟩:=zoA hl (i:=i) (by omega)
   obtain⟨_,ha,_⟩:=zcT hl
   have hj:=(ha j r h1 _ (ydg.2 ⟨w,h2,h3⟩)).2
   have hjl:j<lists.length:=(yaq.1 h1).1
   obtain⟨k,deep,hk⟩:=ih (lists.length-1-j) (by omega) j (by omega)
   cases k with
   | zero=>rw[zaa]at hk;cases hk
   | succ k =>
    have hg:lists.getD (j:Int).toNat []=r:=by rw[ybe,ycZ,h1];rfl
    have:=zlA hk w (by rw[hg];exact h2)
    exact⟨k,deep+1,this.2 _ h3⟩
theorem forms_of{fs:List F}{f:F}(h:zn fs f=.ok ()):∀l∈f.lists,∀w∈l,zT w=true:=by
 have hl:=zaJ h
 unfold zn at h
 split at h
 .cases h
 rw[hl]at h
 simp only at h
 intro l hlm w hw
 obtain⟨i,hi,e⟩:=List.getElem_of_mem hlm
 obtain⟨k,deep,hk⟩:=zfo hl h (f.lists.length-1-i) i (by omega)
 cases k with
 | zero=>rw[zaa]at hk;cases hk
 | succ k =>
  have hg:f.lists.getD (i:Int).toNat []=l:=by rw[ybe,ycZ,yau hi,e];rfl
  exact(zlA hk w (by rw[hg];exact hw)).1
end Go.Proofs.YtohfclafhegadaaGreatDoor.Ck


namespace Go.Proofs.YtohfclafhegadaaGreatDoor
open Go Go.Abs
theorem zk4{ls:To}{k:Nat}(h:k<ls.length):zg6 id (ls.take (k+1))=zg6 id (ls.take k)+ls[k].length:=by
 rw[yc5 h,zjV]
 simp[zg6]
theorem zsF{ls:To}{B:Nat}(h:∀l∈ls,l.length<=B):zg6 id ls<=ls.length*B:=by
 induction ls with
 | nil=>simp[zg6]
 | cons l ls ih =>
  have h1:=h l (by simp)
  have h2:=ih λx hx=>h x (by simp[hx])
  simp only[zg6,yaL,yc2,yac,id]at h2 ⊢
  rw[Nat.add_mul];omega
theorem zyR{ls:To}{l:List W}(h:l∈ls):l.length<=zg6 id ls:=by
 induction ls with
 | nil=>simp at h
 | cons x ls ih =>
  simp only[zg6,yaL,yc2,id]at ih ⊢
  rcases ybC.1 h with rfl|h
  .omega
  .have:=ih h;omega
theorem zfp:∀{l:List (List UInt8 × List UInt8)} {s:List UInt8},zbW l s≠[]->s∈l.map (·.1)
 | [],s,h=>by simp[zbW]at h
 | (x,y)::r,s,h=>by
  rw[zbW]at h
  split at h
  .rename_i e;simp[e]
  .simp only[yaL,ybC];exact .inr (zfp h)
abbrev Tok:=List UInt8
def zp(w:W):Tok :=
 if w.op=1 then zr w.ty++[46,99,111,110,115,116]else if w.op=2 then [108,111,99,97,108,46,103,101,116]else if w.op=3 then [108,111,99,97,108,46,115,101,116]else if w.op=10 then [99,97,108,108]else if w.op=14 then [98,114]else if w.op=15 then [98,114,95,105,102]
 else if w.op=4 then zr w.ty++46::w.name else if w.op=5 then zr w.ty++[46,101,113,122]else if w.op=6 then [105,51,50,46,119,114,97,112,95,105,54,52]else if w.op=7 then [105,54,52,46,101,120,116,101,110,100,95,105,51,50,95,115]
 else if w.op=8 then zr w.ty++(if w.n=1 then [46,108,111,97,100,56,95,115]else [46,108,111,97,100])else if w.op=9 then zr w.ty++(if w.n=1 then [46,115,116,111,114,101,56]else [46,115,116,111,114,101])
 else if w.op=16 then [114,101,116,117,114,110]else if w.op=17 then [117,110,114,101,97,99,104,97,98,108,101]else [100,114,111,112]
def zah(w:W):Bool:=decide (w.op=1)||decide (w.op=2)||decide (w.op=3)||decide (w.op=10)||decide (w.op=14)||decide (w.op=15)
def zcd(w:W):List Tok:=if zah w=true then [zp w,Lib.itoa w.n]else [zp w]
def za9(w:W):W :=
 { op:=w.op,ty:=if w.op=1\/w.op=4\/w.op=5\/w.op=8\/w.op=9 then w.ty else 0,n:=if zah w=true\/w.op=8\/w.op=9 then w.n else 0,body:=0,other:=0,name:=if w.op=4 then w.name else [] }
def zar(op b o:Int):W:={ op:=op,ty:=0,n:=0,body:=b,other:=o,name:=[] }
def zaT(op:Int):Tok:=if op=11 then zcF else if op=12 then zfH else tIf
inductive PrB(B:Nat)(ls:To):Nat->List W->To->List Tok->List W->To->Prop
 | nil (d acc):PrB B ls d [] acc [] [] acc
 | leaf {d w r acc t r' acc'}:zbv w=false->zT w=true->RgW w->PrB B ls d r acc t r' acc'->PrB B ls d (w::r) acc (zcd w++t) (za9 w::r') acc'
 | one {d w b r acc tb b' acc1 t r' acc'}:(w.op=11\/w.op=12\/w.op=13/\w.other<0)->d<B->0<=w.body->ls[w.body.toNat]?=some b->PrB B ls (d+1) b acc tb b' acc1->PrB B ls d r (acc1++[b']) t r' acc' ->
   PrB B ls d (w::r) acc (zaT w.op::(tb++zbE::t)) (zar w.op acc1.length (if w.op=13 then -1 else 0)::r') acc'
 | two {d w b e r acc tb b' acc1 te e' acc2 t r' acc'}:w.op=13->0<=w.other->d<B->0<=w.body->ls[w.body.toNat]?=some b->ls[w.other.toNat]?=some e->PrB B ls (d+1) b acc tb b' acc1->PrB B ls (d+1) e (acc1++[b']) te e' acc2->PrB B ls d r (acc2++[e']) t r' acc' ->
   PrB B ls d (w::r) acc (tIf::(tb++zaX::(te++zbE::t))) (zar 13 acc1.length acc2.length::r') acc'
abbrev Pr:=PrB 400
def zIa:List Tok:=[[34,101,110,118,34],[34,105,110,34],[34,111,117,116,34],[34,116,114,97,112,34],[34,109,97,105,110,34]]
def zdm(t:Tok):Bool:=(!t.isEmpty&&t.all λc=>!zas c)||((t==zj||t==zd)||zIa.contains t)
def zE:List Tok->List UInt8
 | []=>[10]
 | t::r=>32::(t++zE r)
theorem zsG(ts:List Tok):∃c r,zE ts=c::r/\zek c=true/\zas c=true:=by
 cases ts with
 | nil=>exact⟨10,[],rfl,by decide,by decide⟩
 | cons t r=>exact⟨32,_,rfl,by decide,by decide⟩
theorem zfq{c:UInt8}(h:zek c=true)(r:List UInt8):zcr (c::r)=zcr r:=by
 unfold zcr
 rw[ydl,if_pos h]
theorem zyS{c:UInt8}(h:zas c=false):zek c=false/\c≠40/\c≠41/\c≠34:=by
 simp only[zas,zek,ydm,ydn,Bool.or_false,Bool.or_eq_false_iff,beq_eq_false_iff_ne,ne_eq]at h ⊢
 exact⟨⟨h.1,h.2.1⟩,h.2.2.1,h.2.2.2.1,h.2.2.2.2⟩
theorem zux{t:List UInt8}(h:∀c∈t,zas c=false){c:UInt8}(hc:zas c=true)(r:List UInt8):(t++c::r).takeWhile (λx=>!zas x)=t/\(t++c::r).dropWhile (λx=>!zas x)=c::r:=by
 induction t with
 | nil=>simp[hc]
 | cons x t ih =>
  have hx:=h x (by simp)
  obtain⟨i1,i2⟩:=ih λc hc=>h c (by simp[hc])
  simp[hx,i1,i2]
theorem zfr{t:Tok}(h:zdm t=true)(ts:List Tok):zcr (t++zE ts)=some (t,zE ts):=by
 obtain⟨c,r,e,h1,h2⟩:=zsG ts
 rw[e]
 unfold zdm at h
 rw[Bool.or_eq_true]at h
 rcases h with h|h
 .rw[Bool.and_eq_true]at h
  cases t with
  | nil=>simp at h
  | cons x t =>
   have ha:∀y∈x::t,zas y=false:=λy hy=>by
    have:=yaM.1 h.2 y hy
    simpa using this
   obtain⟨s1,s2,s3,s4⟩:=zyS (ha x (by simp))
   obtain⟨k1,k2⟩:=zux (t:=t) (λc hc=>ha c (by simp[hc])) h2 r
   unfold zcr
   rw[ydc,ydl,if_neg (by simp[s1])]
   simp only
   rw[if_neg (by simp[s2,s3]),if_neg s4,k1,k2]
 .rw[Bool.or_eq_true,Bool.or_eq_true,beq_iff_eq,beq_iff_eq,List.contains_iff_mem]at h
  rcases h with (rfl|rfl)|h
  .rfl
  .rfl
  .simp only[zIa,ybC,ydk,or_false]at h
   rcases h with rfl|rfl|rfl|rfl|rfl<;>rfl
theorem zbY{t:Tok}(h:zdm t=true)(ts:List Tok)(ls:To):zaj ⟨zE (t::ts),ls⟩=.ok (t,⟨zE ts,ls⟩):=by
 have e:zcr (zE (t::ts))=some (t,zE ts):=by
  show zcr (32::(t++zE ts))=_
  rw[zfq (by decide),zfr h]
 simp only[zaj,e]
theorem zlB{c:UInt8}(h:zB c=true):zas c=false:=by
 simp only[zB,Bool.and_eq_true,decide_eq_true_eq]at h
 simp only[zas,ydm,ydn,Bool.or_false,Bool.or_eq_false_iff,beq_eq_false_iff_ne,ne_eq]
 refine⟨?_,?_,?_,?_,?_⟩<;>(rintro rfl;simp at h)
theorem zsH(n:Int):zdm (Lib.itoa n)=true:=by
 have h1:∀u,((Lib.decDigits u).all λc=>!zas c)=true:=λu=>by
  rw[yaM]
  intro c hc
  have:=yaM.1 (zhp u) c hc
  simp[zlB this]
 have h2:∀u,(Lib.decDigits u).isEmpty=false:=λu=>by
  have:=zjQ u
  cases h:Lib.decDigits u<;>simp_all
 unfold Lib.itoa zdm
 split
 .have h3:zas 45=false:=by decide
  simp[h1,h3]
 .rw[h1,h2];rfl
theorem zeN{n:Int}(h:-(2^63)<=n/\n<2^63)(ts:List Tok)(ls:To):zR ⟨zE (Lib.itoa n::ts),ls⟩=.ok (n,⟨zE ts,ls⟩):=by
 unfold zR
 rw[zbY (zsH n)]
 simp only[Except.bind,zuk h,Except.map]
def zsI(t:Tok):Bool:=zdm t&&(decide (zag t=0)&&(!(t==zbE)&&(!(t==zd)&&(!(t==zaX)&&!(t==zj)))))
theorem zrv:∀s∈signs.map (·.1),∀t∈[1,2],(zsI (zr t++46::s)=true/\zK zaA (zr t++46::s)=none/\zK zaG (zr t++46::s)=some { op:=4,ty:=t,n:=0,body:=0,other:=0,name:=s }):=by decide
theorem zrw{t:Tok}(h:zsI t=true)(d:Nat)(o:Bool):zdm t=true/\zag t=0/\zcS d o t=false:=by
 simp only[zsI,Bool.and_eq_true,decide_eq_true_eq,Bool.not_eq_true',beq_eq_false_iff_ne,ne_eq]at h
 obtain⟨h1,h2,h3,h4,h5,_⟩:=h
 exact⟨h1,h2,by simp[zcS,h3,h4,h5]⟩
def zj1(op ty:Int):W:={ op:=op,ty:=ty,n:=0,body:=0,other:=0,name:=[] }
theorem zuy{t:Tok}(h:zsI t=true):t≠zj:=by
 simp only[zsI,Bool.and_eq_true,decide_eq_true_eq,Bool.not_eq_true',beq_eq_false_iff_ne,ne_eq]at h
 exact h.2.2.2.2.2
theorem zaU{t:Tok}{w:W}(h1:zK zaA t=none)(h2:zK zaG t=some w)(s:Ts):zbA t s=.ok (w,s):=by
 unfold zbA
 rw[h1]
 simp only[h2]
theorem zcU{t:Tok}{w:W}{n:Int}(h1:zK zaA t=some w)(hn:-(2^63)<=n/\n<2^63)(ts:List Tok)(ls:To):zbA t ⟨zE (Lib.itoa n::ts),ls⟩=.ok ({ w with n:=n },⟨zE ts,ls⟩):=by
 unfold zbA
 rw[h1]
 simp only[zeN hn,Except.map]
theorem zoB{w:W}(hf:zT w=true)(hn:zbv w=false)(hr:RgW w):∃t r,zcd w=t::r/\zsI t=true/\∀(ts:List Tok) (ls:To),zbA t ⟨zE (r++ts),ls⟩=.ok (za9 w,⟨zE ts,ls⟩):=by
 obtain⟨op,ty,n,body,other,name⟩:=w
 simp only[zbv,Bool.or_eq_false_iff,decide_eq_false_iff_not]at hn
 unfold zT at hf
 simp only at hf
 by_cases h1:op=1\/op=5
 .rw[if_pos h1]at hf
  simp only[zac,Bool.or_eq_true,decide_eq_true_eq]at hf
  rcases h1 with rfl|rfl<;>rcases hf with rfl|rfl
  .exact⟨[105,51,50,46,99,111,110,115,116],[Lib.itoa n],rfl,by decide,λts ls=>zcU (t:=[105,51,50,46,99,111,110,115,116]) (w:=zj1 1 1) (by decide) hr ts ls⟩
  .exact⟨[105,54,52,46,99,111,110,115,116],[Lib.itoa n],rfl,by decide,λts ls=>zcU (t:=[105,54,52,46,99,111,110,115,116]) (w:=zj1 1 2) (by decide) hr ts ls⟩
  .exact⟨[105,51,50,46,101,113,122],[],rfl,by decide,λts ls=>zaU (by rfl) (by rfl) _⟩
  .exact⟨[105,54,52,46,101,113,122],[],rfl,by decide,λts ls=>zaU (by rfl) (by rfl) _⟩
 .rw[if_neg h1]at hf
  by_cases h4:op=4
  .subst h4
   rw[if_pos rfl]at hf
   simp only[Bool.and_eq_true,Bool.not_eq_true',beq_eq_false_iff_ne,ne_eq,zac,Bool.or_eq_true,decide_eq_true_eq]at hf
   obtain⟨a1,a2,a3⟩:=zrv name (zfp hf.2) ty (by simpa using hf.1)
   exact⟨_,_,rfl,a1,λts ls=>zaU a2 a3 _⟩
  .rw[if_neg h4]at hf
   by_cases h8:op=8\/op=9
   .rw[if_pos h8]at hf
    simp only[zfP,Bool.or_eq_true,Bool.and_eq_true,decide_eq_true_eq]at hf
    rcases h8 with rfl|rfl<;>rcases hf with ⟨rfl,rfl|rfl⟩|⟨rfl,rfl⟩
    .exact⟨[105,51,50,46,108,111,97,100,56,95,115],[],rfl,by decide,λts ls=>zaU (by rfl) (by rfl) _⟩
    .exact⟨[105,51,50,46,108,111,97,100],[],rfl,by decide,λts ls=>zaU (by rfl) (by rfl) _⟩
    .exact⟨[105,54,52,46,108,111,97,100],[],rfl,by decide,λts ls=>zaU (by rfl) (by rfl) _⟩
    .exact⟨[105,51,50,46,115,116,111,114,101,56],[],rfl,by decide,λts ls=>zaU (by rfl) (by rfl) _⟩
    .exact⟨[105,51,50,46,115,116,111,114,101],[],rfl,by decide,λts ls=>zaU (by rfl) (by rfl) _⟩
    .exact⟨[105,54,52,46,115,116,111,114,101],[],rfl,by decide,λts ls=>zaU (by rfl) (by rfl) _⟩
   .rw[if_neg h8]at hf
    simp only[Bool.and_eq_true,decide_eq_true_eq]at hf
    rcases(show op=2\/op=3\/op=10\/op=14\/op=15\/op=6\/op=7\/op=16\/op=17\/op=18 by omega)with rfl|rfl|rfl|rfl|rfl|rfl|rfl|rfl|rfl|rfl
    .exact⟨[108,111,99,97,108,46,103,101,116],[Lib.itoa n],rfl,by decide,λts ls=>zcU (t:=[108,111,99,97,108,46,103,101,116]) (w:=zj1 2 0) (by decide) hr ts ls⟩
    .exact⟨[108,111,99,97,108,46,115,101,116],[Lib.itoa n],rfl,by decide,λts ls=>zcU (t:=[108,111,99,97,108,46,115,101,116]) (w:=zj1 3 0) (by decide) hr ts ls⟩
    .exact⟨[99,97,108,108],[Lib.itoa n],rfl,by decide,λts ls=>zcU (t:=[99,97,108,108]) (w:=zj1 10 0) (by decide) hr ts ls⟩
    .exact⟨[98,114],[Lib.itoa n],rfl,by decide,λts ls=>zcU (t:=[98,114]) (w:=zj1 14 0) (by decide) hr ts ls⟩
    .exact⟨[98,114,95,105,102],[Lib.itoa n],rfl,by decide,λts ls=>zcU (t:=[98,114,95,105,102]) (w:=zj1 15 0) (by decide) hr ts ls⟩
    .exact⟨[105,51,50,46,119,114,97,112,95,105,54,52],[],rfl,by decide,λts ls=>zaU (by rfl) (by rfl) _⟩
    .exact⟨[105,54,52,46,101,120,116,101,110,100,95,105,51,50,95,115],[],rfl,by decide,λts ls=>zaU (by rfl) (by rfl) _⟩
    .exact⟨[114,101,116,117,114,110],[],rfl,by decide,λts ls=>zaU (by rfl) (by rfl) _⟩
    .exact⟨[117,110,114,101,97,99,104,97,98,108,101],[],rfl,by decide,λts ls=>zaU (by rfl) (by rfl) _⟩
    .exact⟨[100,114,111,112],[],rfl,by decide,λts ls=>zaU (by rfl) (by rfl) _⟩
theorem zm1{op:Int}(h:op=11\/op=12\/op=13)(d:Nat)(o:Bool):zdm (zaT op)=true/\zag (zaT op)=op/\zcS d o (zaT op)=false:=by
 rcases h with rfl|rfl|rfl
 .exact⟨by decide,by decide,by simp[zcS,zaT,zcF,zbE,zd,zaX]⟩
 .exact⟨by decide,by decide,by simp[zcS,zaT,zfH,zbE,zd,zaX]⟩
 .exact⟨by decide,by decide,by simp[zcS,zaT,tIf,zbE,zd,zaX]⟩
theorem zuz{ls:To}{d:Nat}{ws:List W}{acc acc':To}{toks:List Tok}{out:List W}(h:Pr ls d ws acc toks out acc'):∀(k:Nat) (o:Bool) (l:List W) (e:Tok) (rest:List Tok),toks.length<k->zdm e=true->zcS d o e=true ->
  zw k d o l ⟨zE (toks++e::rest),acc⟩=.ok (((acc'.length:Int),e),⟨zE rest,acc'++[l++out]⟩):=by
 induction h with
 | nil d acc =>
  intro k o l e rest hk he hd
  obtain⟨k,rfl⟩:∃j,k=j+1:=⟨k-1,by simp at hk;omega⟩
  rw[zw,ydo,zbY he]
  simp only[Except.bind]
  rw[if_pos hd,yb7]
 | @leaf d w r acc t r' acc' hn hf hr _ ih =>
  intro k o l e rest hk he hd
  obtain⟨u,z,e1,e2,e3⟩:=zoB hf hn hr
  rw[e1]at hk ⊢
  simp only[ydc,ydp,yac,yab]at hk ⊢
  obtain⟨k,rfl⟩:∃j,k=j+1:=⟨k-1,by omega⟩
  obtain⟨q1,q2,q3⟩:=zrw e2 d o
  rw[zw,zbY q1]
  simp only[Except.bind]
  rw[if_neg (by simp[q3]),zaI,if_pos q2,e3]
  simp only
  rw[ih k o (l++[za9 w]) e rest (by omega) he hd]
  simp
 | @one d w b r acc tb b' acc1 t r' acc' ho hd4 hb0 hb _ _ ih1 ih2 =>
  intro k o l e rest hk he hd
  simp only[ydc,ydp,yac,yab]at hk ⊢
  obtain⟨k,rfl⟩:∃j,k=j+1:=⟨k-1,by omega⟩
  have ho':w.op=11\/w.op=12\/w.op=13:=by omega
  obtain⟨q1,q2,q3⟩:=zm1 ho' d o
  rw[zw,zbY q1]
  simp only[Except.bind]
  rw[if_neg (by simp[q3]),zaI,q2,if_neg (by omega),zad,if_neg (by omega)]
  rw[ih1 k (decide (w.op=13)) [] zbE (t++e::rest) (by omega) (by decide) (by simp[zcS])]
  simp only[Except.bind]
  by_cases h13:w.op=13
  .rw[if_pos h13,if_neg (by decide)]
   simp only[ydo]
   have:=ih2 k o (l++[zar w.op acc1.length (if w.op=13 then -1 else 0)]) e rest (by omega) he hd
   rw[if_pos h13,h13]at this
   rw[if_pos h13,h13]
   simp only[zar,ydp,ydc,ydo]at this ⊢
   exact this
  .rw[if_neg h13]
   simp only[ydo]
   have:=ih2 k o (l++[zar w.op acc1.length (if w.op=13 then -1 else 0)]) e rest (by omega) he hd
   rw[if_neg h13]at this
   rw[if_neg h13]
   simp only[zar,ydp,ydc,ydo]at this ⊢
   exact this
 | @two d w b f r acc tb b' acc1 te e' acc2 t r' acc' ho ho2 hd4 hb0 hb hf _ _ _ ih1 ih2 ih3 =>
  intro k o l e rest hk he hd
  simp only[ydc,ydp,yac,yab]at hk ⊢
  obtain⟨k,rfl⟩:∃j,k=j+1:=⟨k-1,by omega⟩
  obtain⟨q1,q2,q3⟩:=zm1 (op:=13) (by omega) d o
  have e13:zaT 13=tIf:=rfl
  rw[e13]at q1 q2 q3
  rw[zw,zbY q1]
  simp only[Except.bind]
  rw[if_neg (by simp[q3]),zaI,q2,if_neg (by omega),zad,if_neg (by omega)]
  simp only
  rw[ih1 k (decide True) [] zaX (te++zbE::(t++e::rest)) (by omega) (by decide) (by simp[zcS])]
  simp only[Except.bind,ydo]
  rw[if_pos trivial,if_pos trivial,ih2 k false [] zbE (t++e::rest) (by omega) (by decide) (by simp[zcS])]
  simp only[Except.map,ydo]
  have:=ih3 k o (l++[zar 13 acc1.length acc2.length]) e rest (by omega) he hd
  simp only[zar,ydp,ydc,ydo]at this ⊢
  exact this
theorem zIb{B:Nat}{ls:To}(ha:zol ls)(hf:∀l∈ls,∀w∈l,zT w=true)(hr:RgL ls):∀(i:Nat) (d:Nat) (ws:List W) (acc:To),d+i<B->(∀w∈ws,zT w=true)->(∀w∈ws,RgW w)->(∀n∈ws.flatMap zi,0<=n/\n<(i:Int)/\n<(ls.length:Int))->∃toks out acc',PrB B ls d ws acc toks out acc':=by
 intro i
 induction i using ybI with
 | _ i ih =>
  intro d ws
  induction ws with
  | nil=>intro acc _ _ _ _;exact⟨[],[],acc,.nil d acc⟩
  | cons w ws ihw =>
   intro acc hd h1 h2 h3
   have rest:=λacc=>ihw acc hd (λv hv=>h1 v (by simp[hv])) (λv hv=>h2 v (by simp[hv])) λn hn=>h3 n (by rw[yaa];simp[hn])
   have hn:∀n∈zi w,0<=n/\n<(i:Int)/\n<(ls.length:Int):=λn hn=>h3 n (by rw[yaa];simp[hn])
   have sub:∀n:Int,(0<=n/\n<(i:Int)/\n<(ls.length:Int))->∃b,ls[n.toNat]?=some b/\∀acc,∃toks out acc',PrB B ls (d+1) b acc toks out acc':=λn hn=>by
    have hlt:n.toNat<ls.length:=by omega
    have hb:ls[n.toNat]?=some ls[n.toNat]:=yau hlt
    refine⟨_,hb,λacc=>ih n.toNat (by omega) (d+1) _ acc (by omega) (hf _ (yaw hlt)) (hr _ (yaw hlt)) λm hm=>?_⟩
    have:=ha n.toNat _ hb m hm
    omega
   cases hw:zbv w with
   | false =>
    obtain⟨t,o,a,hp⟩:=rest acc
    exact⟨_,_,_,.leaf hw (h1 w (by simp)) (h2 w (by simp)) hp⟩
   | true =>
    have hop:w.op=11\/w.op=12\/w.op=13:=zDW hw
    by_cases h13:w.op=13/\0<=w.other
    .have e:zi w=[w.body,w.other]:=by unfold zi;rw[if_neg (by omega),if_pos h13.1]
     rw[e]at hn
     have hb:=hn w.body (by simp)
     obtain⟨b,hb1,hb2⟩:=sub w.body hb
     obtain⟨e,he1,he2⟩:=sub w.other (hn w.other (by simp))
     obtain⟨tb,b',a1,p1⟩:=hb2 acc
     obtain⟨te,e',a2,p2⟩:=he2 (a1++[b'])
     obtain⟨t,o,a3,p3⟩:=rest (a2++[e'])
     exact⟨_,_,_,.two h13.1 h13.2 (by omega) hb.1 hb1 he1 p1 p2 p3⟩
    .have e:zi w=[w.body]:=by unfold zi;rw[if_pos (by omega)]
     rw[e]at hn
     have hb:=hn w.body (by simp)
     obtain⟨b,hb1,hb2⟩:=sub w.body hb
     obtain⟨tb,b',a1,p1⟩:=hb2 acc
     obtain⟨t,o,a3,p3⟩:=rest (a1++[b'])
     exact⟨_,_,_,.one (by omega) (by omega) hb.1 hb1 p1 p3⟩
def zIc(B:Nat)(f:F)(toks:List Tok)(ls':To):Prop:=∃row out acc,f.lists[f.lists.length-1]?=some row/\PrB B f.lists 0 row [] toks out acc/\ls'=acc++[out]
abbrev PrF:=zIc 400
theorem zyT{B:Nat}{fs:List F}{f:F}(h:zn fs f=.ok ())(hr:RgL f.lists)(hl:f.lists.length<=B):∃toks ls',zIc B f toks ls':=by
 obtain⟨h0,ha,_⟩:=zcT (zaJ h)
 have hlt:f.lists.length-1<f.lists.length:=by omega
 have hb:f.lists[f.lists.length-1]?=some f.lists[f.lists.length-1]:=yau hlt
 have hf:=Ck.forms_of h
 obtain⟨t,o,a,hp⟩:=zIb (B:=B) ha hf hr (f.lists.length-1) 0 f.lists[f.lists.length-1] [] (by omega) (hf _ (yaw hlt)) (hr _ (yaw hlt)) λm hm=>by
  have:=ha (f.lists.length-1) _ hb m hm
  omega
 exact⟨t,_,_,_,_,hb,hp,rfl⟩
def zD(kw:Tok)(l:List Int):List Tok:=if l=[]then []else zj::kw::(l.map zr++[zd])
def zgq(t:Int):List Tok:=if t=0 then []else [zj,zcv,zr t,zd]
def zdR(f:F)(toks:List Tok):List Tok:=zj::zap::(36::f.name)::(zD zaW f.params++(zgq f.type++(zD zaf f.locals++(toks++[zd]))))
theorem zm2{w:Tok}(hw:zdm w=true)(ts:List Tok)(ls:To):zfm w ⟨zE (zj::w::ts),ls⟩=some ⟨zE ts,ls⟩:=by
 have e1:zcr (zE (zj::w::ts))=some (zj,zE (w::ts)):=by
  show zcr (32::(zj++zE (w::ts)))=_
  rw[zfq (by decide),zfr (by decide)]
 have e2:zcr (zE (w::ts))=some (w,zE ts):=by
  show zcr (32::(w++zE ts))=_
  rw[zfq (by decide),zfr hw]
 simp only[zfm,e1,if_pos,e2]
theorem zqd{w u v:Tok}(hu:zdm u=true)(hv:zdm v=true)(h:u≠zj\/v≠w)(ts:List Tok)(ls:To):zfm w ⟨zE (u::v::ts),ls⟩=none:=by
 have e1:zcr (zE (u::v::ts))=some (u,zE (v::ts)):=by
  show zcr (32::(u++zE (v::ts)))=_
  rw[zfq (by decide),zfr hu]
 have e2:zcr (zE (v::ts))=some (v,zE ts):=by
  show zcr (32::(v++zE ts))=_
  rw[zfq (by decide),zfr hv]
 unfold zfm
 simp only[e1]
 by_cases hu':u=zj
 .rw[if_pos hu']
  simp only[e2]
  rw[if_neg (by rcases h with h|h;exact absurd hu' h;exact h)]
 .rw[if_neg hu']
theorem zrx{w u:Tok}(hu:zdm u=true)(h:u≠zj)(ts:List Tok)(ls:To):zfm w ⟨zE (u::ts),ls⟩=none:=by
 have e1:zcr (zE (u::ts))=some (u,zE ts):=by
  show zcr (32::(u++zE ts))=_
  rw[zfq (by decide),zfr hu]
 simp only[zfm,e1,if_neg h]
theorem zyU{t:Int}(h:t=1\/t=2):zdm (zr t)=true/\(zr t=zBA/\t=1\/zr t=zBB/\t=2):=by
 rcases h with rfl|rfl
 .exact⟨by decide,.inl ⟨rfl,rfl⟩⟩
 .exact⟨by decide,.inr ⟨rfl,rfl⟩⟩
theorem zdS:∀(l:List Int) (acc:List Int) (k:Nat) (ts:List Tok) (ls:To),(∀t∈l,t=1\/t=2)->acc++l≠[]->l.length<k->zaH k acc ⟨zE (l.map zr++zd::ts),ls⟩=.ok (acc++l,⟨zE ts,ls⟩)
 | [],acc,k,ts,ls,_,hne,hk=>by
  obtain⟨k,rfl⟩:∃j,k=j+1:=⟨k-1,by simp at hk;omega⟩
  rw[zaH,List.map_nil,ydo,zbY (by decide)]
  simp only[Except.bind]
  rw[if_neg (by decide),if_neg (by decide),if_pos ⟨trivial,by simpa using hne⟩,yb7]
 | t::l,acc,k,ts,ls,h,hne,hk=>by
  obtain⟨k,rfl⟩:∃j,k=j+1:=⟨k-1,by simp at hk;omega⟩
  obtain⟨h1,h2⟩:=zyU (h t (by simp))
  rw[zaH,yaL,ydc,zbY h1]
  simp only[Except.bind]
  simp only[yac]at hk
  rcases h2 with ⟨e1,e2⟩|⟨e1,e2⟩
  .rw[if_pos e1,zdS l (acc++[1]) k ts ls (λx hx=>h x (by simp[hx])) (by simp) (by omega),<-e2]
   simp
  .rw[e1,if_neg (by decide),if_pos rfl,zdS l (acc++[2]) k ts ls (λx hx=>h x (by simp[hx])) (by simp) (by omega),<-e2]
   simp
theorem zeO:∀ts:List Tok,ts.length+1<=(zE ts).length
 | []=>by simp[zE]
 | t::r=>by
  have:=zeO r
  simp only[zE,yac,yab]
  omega
theorem zlC{kw:Tok}(hkw:zdm kw=true){l:List Int}(h:∀t∈l,t=1\/t=2)(ts:List Tok)(ls:To)(hno:zfm kw ⟨zE ts,ls⟩=none):zbB kw ⟨zE (zD kw l++ts),ls⟩=.ok (l,⟨zE ts,ls⟩):=by
 unfold zbB zD
 by_cases hl:l=[]
 .rw[if_pos hl,ydo,hno,hl]
 .rw[if_neg hl]
  simp only[ydc,ydp,ydo]
  rw[zm2 hkw]
  simp only
  have:=zeO (l.map zr++zd::ts)
  rw[zdS l [] _ ts ls h (by simpa using hl) (by simp at this ⊢;omega)]
  rfl
end Go.Proofs.YtohfclafhegadaaGreatDoor
