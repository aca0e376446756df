/- Parts of the proof of the row WatBackUpto: contracts of functions, each under the conditions that its theorem names. -/
import Derived.Test.YtohfclafhegadaaGreatDoorAbsB
import Derived.Lib.IndexMore
import Derived.Lib.AtoiAll
import Derived.Lib.ItoaNum
import Derived.Test.YtohfclafhegadaaGreatDoorGenP
import Derived.Test.YtohfclafhegadaaGreatDoorShelf
set_option linter.unusedSimpArgs false
set_option linter.unusedVariables false
set_option maxRecDepth 100000
open List renaming replicate→yaj,all_cons→yca,all_append→ycb,head?_cons→ycc,length_cons→yac,length_nil→ybl,length→ycd,takeWhile_append_dropWhile→yce,length_append→yab,getD_eq_getElem?_getD→ycf,flatMap_cons→yaa,drop_eq_nil_iff→ycg,getElem?_eq_none→yb2,drop_drop→ych,getElem?_eq_some_iff→yaq,length_eq_zero_iff→ybS,map_cons→yaL,sum_cons→yci,getElem?_replicate→yck,length_take→ybf,getElem?_eq_getElem→yau,all_eq_true→yaM,getElem_mem→yaw,mem_cons→ybC,take_succ_eq_append_getElem→ycl,take_length→ycm,cons_append→ycp,length_pos_iff→ybm,drop_eq_getElem_cons→ycq,mem_of_getElem?→ycs,mem_flatMap→ycv,all_eq_false→ycw,mem_iff_getElem→ycx,getElem_take→yaE,replicate_succ→ycy,length_map→ybb,not_mem_nil→ycz,mem_map→yaV,mem_singleton→ycA,length_replicate→yba,dropWhile_cons→ycB,contains_cons→ycC,contains_nil→ycD,nil_append→ycE,append_nil→yb7,append_assoc→ycF,map_nil→ycG,prefix_append→ycH
open Nat renaming le_refl→yah,strongRecOn→ybI,zero_le→ycj,le_trans→yai,lt_of_lt_of_le→yag,le_succ_of_le→ycI
open Option renaming some→yaR,isSome_iff_exists→yay,map_eq_some_iff→ybB
open Array renaming getElem?_eq_some_iff→yaU
open Int renaming toNat_natCast→ybe
open Go.Proofs.Tryz renaming prog→yb9
open Go.IntKind renaming wrap→yb4,signed→yao,bits→yap,i64→yam
open Go.Abs.AV renaming str→ycn,int→yco,ptr→ycr,agg→yct,nilsl→ycu
namespace Go.Proofs.YtohfclafhegadaaGreatDoor
open Go Go.Abs
structure W where
 op:Int
 ty:Int
 n:Int
 body:Int
 other:Int
 name:List UInt8
deriving DecidableEq
abbrev To:=List (List W)
structure F where
 name:List UInt8
 params:List Int
 locals:List Int
 type:Int
 lists:To
structure M where
 funcs:List F
 memory:Int
 main:Int
structure St where
 stack:List Int
 any:Bool
abbrev Res:=Except Int
def zdm(s:St):Res St :=
 if s.stack.length=0 then(if s.any then .ok s else .error 14)else .ok { s with stack:=s.stack.dropLast }
def zW:List Int→St→Res St
 | [],s=>.ok s
 | t::ts,s=>if s.stack.length=0∨s.stack.getLast?=some t then
   match zdm s with
   | .ok s'=>zW ts s'
   | .error e=>.error e
  else .error 14
def zc3(s:St)(t:Int):St:=if t=0 then s else { s with stack:=s.stack++[t] }
def zmV:St:=⟨[],true⟩
def zx(ty:Int)(s:St):Res St:=if ty=0 then .ok s else zW [ty] s
def zT(t:Int):Bool:=decide (t=1)||decide (t=2)
def signs:List (List UInt8 × List UInt8):=[
 ([97,100,100],[43]),([115,117,98],[45]),([109,117,108],[42]),([100,105,118,95,115],[47]),([114,101,109,95,115],[37]),([97,110,100],[38]),([111,114],[124]),([120,111,114],[94]),
 ([115,104,108],[60,60]),([115,104,114,95,115],[62,62]),([101,113],[61,61]),([110,101],[33,61]),([108,116,95,115],[60]),([108,101,95,115],[60,61]),([103,116,95,115],[62]),([103,101,95,115],[62,61])]
def zbf:List (List UInt8 × List UInt8)→List UInt8→List UInt8
 | [],_=>[]
 | (x,y)::r,s=>if x=s then y else zbf r s
def zfe(t n:Int):Bool:=decide (t=1)&&(decide (n=1)||decide (n=4))||decide (t=2)&&decide (n=8)
def zR(w:W):Bool :=
 if w.op=1∨w.op=5 then zT w.ty
 else if w.op=4 then zT w.ty&&!(zbf signs w.name==[])
 else if w.op=8∨w.op=9 then zfe w.ty w.n
 else decide (1≤w.op)&&decide (w.op≤18)
def zaT(fs:List F)(n:Int):Option (List Int × Int) :=
 if n=0 then some ([],2)else if n=1 then some ([2],0)else if n=2 then some ([1],0)
 else if n<0 then none else(fs[(n-3).toNat]?).map fun f=>(f.params,f.type)
def zue(t v:Int):Int:=if t=3 then IntKind.i8.wrap v else if t=1 then IntKind.i32.wrap v else if t=2 then v else 0
def zI(fs:List F)(locals:List Int)(deep:Int)(w:W):Bool :=
 if w.op=1 then decide (zue w.ty w.n=w.n)
 else if w.op=2∨w.op=3 then decide (0≤w.n)&&decide (w.n<(locals.length:Int))
 else if w.op=10 then(zaT fs w.n).isSome
 else if w.op=14∨w.op=15 then decide (0≤w.n)&&decide (w.n≤deep)
 else true
def zhA(locals:List Int)(n:Int):Int:=locals.getD n.toNat 0
def zuf:List UInt8:=[32,101,113,32,110,101,32,108,116,95,115,32,108,101,95,115,32,103,116,95,115,32,103,101,95,115,32]
def zEh(s:List UInt8):Bool:=Lib.contains zuf (32::(s++[32]))
def zeO(r:Res St)(t:Int):Res St:=match r with
 | .ok s=>.ok (zc3 s t)
 | .error e=>.error e
def zbI(fs:List F)(locals:List Int)(w:W)(s:St):Res St :=
 if w.op=1 then .ok (zc3 s w.ty)
 else if w.op=2 then .ok (zc3 s (zhA locals w.n))
 else if w.op=3 then zW [zhA locals w.n] s
 else if w.op=4 then zeO (zW [w.ty,w.ty] s) (if zEh w.name then 1 else w.ty)
 else if w.op=5 then zeO (zW [w.ty] s) 1
 else if w.op=6 then zeO (zW [2] s) 1
 else if w.op=7 then zeO (zW [1] s) 2
 else if w.op=8 then zeO (zW [1] s) w.ty
 else if w.op=9 then zW [w.ty,1] s
 else if w.op=10 then match zaT fs w.n with
  | some (ts,g)=>zeO (zW ts.reverse s) g
  | none=>.ok s
 else if w.op=18 then zdm s
 else .ok s
abbrev zkf:=Int→Int→Res Unit
def zL(fs:List F)(locals:List Int)(ty deep:Int)(look:zkf)(w:W)(s:St):Res St :=
 if zR w=false then .error 2
 else if zI fs locals deep w=false then .error 11
 else if w.op=11∨w.op=12 then match look w.body (deep+1)with
  | .ok _=>.ok s
  | .error e=>.error e
 else if w.op=13 then match zW [1] s with
  | .error e=>.error e
  | .ok s1=>match look w.body (deep+1)with
   | .error e=>.error e
   | .ok _=>if 0≤w.other then match look w.other (deep+1)with
     | .error e=>.error e
     | .ok _=>.ok s1
    else .ok s1
 else if w.op=15 then match zW [1] s with
  | .error e=>.error e
  | .ok s1=>if w.n=deep then zeO (zx ty s1) ty else .ok s1
 else if w.op=14 then if w.n=deep then match zx ty s with
   | .error e=>.error e
   | .ok _=>.ok zmV
  else .ok zmV
 else if w.op=16 then match zx ty s with
  | .error e=>.error e
  | .ok _=>.ok zmV
 else if w.op=17 then .ok zmV
 else zbI fs locals w s
def zE(fs:List F)(locals:List Int)(ty deep:Int)(look:zkf):List W→St→Res St
 | [],s=>.ok s
 | w::ws,s=>match zL fs locals ty deep look w s with
  | .error e=>.error e
  | .ok s'=>zE fs locals ty deep look ws s'
def zEi(ty deep:Int)(s:St):Res Unit:=match (if deep=0 then zx ty s else .ok s)with
 | .error e=>.error e
 | .ok s'=>if s'.stack.length=0 then .ok ()else .error 14
def zQ(fs:List F)(locals:List Int)(ty:Int)(lists:To):Nat→zkf
 | 0,_,_=>.error (-1)
 | k+1,at_,deep=>match zE fs locals ty deep (zQ fs locals ty lists k) (lists.getD at_.toNat []) ⟨[],false⟩with
  | .error e=>.error e
  | .ok s=>zEi ty deep s
def zl(w:W):List Int:=if w.op=11∨w.op=12∨(w.op=13∧w.other<0)then [w.body]else if w.op=13 then [w.body,w.other]else []
def zdn(at_:Int)(named:List Bool)(n:Int):Res (List Bool) :=
 if 0≤n∧n<at_∧named.getD n.toNat true=false then .ok (named.set n.toNat true)else .error 11
def zaG(at_:Int):List Int→List Bool→Res (List Bool)
 | [],named=>.ok named
 | n::ns,named=>match zdn at_ named n with
  | .error e=>.error e
  | .ok named'=>zaG at_ ns named'
def zgQ(at_:Int):List W→List Bool→Res (List Bool)
 | [],named=>.ok named
 | w::ws,named=>match zaG at_ (zl w) named with
  | .error e=>.error e
  | .ok named'=>zgQ at_ ws named'
def zbu:Nat→To→List Bool→Res (List Bool)
 | _,[],named=>.ok named
 | k,l::ls,named=>match zgQ (k:Int) l named with
  | .error e=>.error e
  | .ok named'=>zbu (k+1) ls named'
def zbY(ls:To):Res Unit :=
 if ls.length=0 then .error 11 else match zbu 0 ls (yaj ls.length false)with
  | .error e=>.error e
  | .ok named=>if(named.take (ls.length-1)).all (·==true)then .ok ()else .error 11
def zn(fs:List F)(f:F):Res Unit :=
 if((f.params++f.locals).all zT&&decide (0≤f.type)&&decide (f.type≤2))=false then .error 6 else match zbY f.lists with
  | .error e=>.error e
  | .ok _=>zQ fs (f.params++f.locals) f.type f.lists f.lists.length ((f.lists.length:Int)-1) 0
def zO(fs:List F):List F→Res Unit
 | []=>.ok ()
 | f::r=>match zn fs f with
  | .error e=>.error e
  | .ok _=>zO fs r
def zff(m:M):Bool:=decide (0≤m.main)&&match m.funcs[m.main.toNat]? with
 | some f=>decide (f.type=1)&&decide (f.params.length=0)
 | none=>false
def zaB(m:M):Res Unit :=
 if(decide (0≤m.memory)&&decide (m.memory≤4096))=false then .error 11 else match zO m.funcs m.funcs with
  | .error e=>.error e
  | .ok _=>if zff m then .ok ()else .error 12
def zmW:Res Unit→Int
 | .ok _=>0
 | .error e=>e
def zJ(c:UInt8):Bool:=decide (48≤c.toNat)&&decide (c.toNat≤57)
def zgR(acc:Nat)(d:List UInt8):Nat:=d.foldl (fun a c=>a*10+(c.toNat-48)) acc
def zbn(t:List UInt8):List UInt8:=if t.head?=some 45 then t.tail else t
def zmX(t:List UInt8):Int:=if t.head?=some 45 then -(zgR 0 (zbn t):Int)else zgR 0 (zbn t)
def zqA(t:List UInt8):Res Int :=
 if(zbn t).isEmpty||!(zbn t).all zJ then .error 2
 else match Lib.atoiAll t with
  | .ok n=>if Lib.itoa n=t then .ok n else .error 11
  | _=>.error 11
theorem zmY(acc:Nat)(x y:List UInt8):zgR acc (x++y)=zgR (zgR acc x) y:=by simp[zgR]
theorem zly:∀(d:List UInt8) (acc:Nat),acc≤zgR acc d
 | [],acc=>yah _
 | c::d,acc=>by
  have:=zly d (acc*10+(c.toNat-48))
  show acc≤zgR (acc*10+(c.toNat-48)) d
  omega
theorem zn7:∀(d:List UInt8) (acc:Nat),d.all zJ=true→acc<18446744073709551616→Lib.parseUint10 acc d=if zgR acc d<18446744073709551616 then .ok (zgR acc d)else .range
 | [],acc,_,ha=>by simp[Lib.parseUint10,zgR,ha]
 | c::d,acc,h,ha=>by
  simp only[yca,Bool.and_eq_true,zJ,decide_eq_true_eq]at h
  obtain⟨⟨h1,h2⟩,h3⟩:=h
  have e:zgR acc (c::d)=zgR (acc*10+(c.toNat-48)) d:=rfl
  have m:=zly d (acc*10+(c.toNat-48))
  rw[Lib.parseUint10,if_pos ⟨h1,h2⟩,e]
  by_cases o1:1844674407370955162≤acc
  ·rw[if_pos o1,if_neg (by omega)]
  ·rw[if_neg o1]
   by_cases o2:18446744073709551616≤acc*10+(c.toNat-48)
   ·rw[if_pos o2,if_neg (by omega)]
   ·rw[if_neg o2]
    exact zn7 d _ (by simpa [zJ]using h3) (by omega)
theorem zmZ(u:Nat):zgR 0 (Lib.decDigits u)=u:=by
 induction u using ybI with
 | _ u ih =>
  rw[Lib.decDigits]
  split
  ·rename_i h
   simp[zgR]
   omega
  ·rename_i h
   rw[zmY,ih (u/10) (by omega)]
   simp[zgR]
   omega
theorem zeb(u:Nat):(Lib.decDigits u).all zJ=true:=by
 induction u using ybI with
 | _ u ih =>
  rw[Lib.decDigits]
  split
  ·simp[zJ];omega
  ·rw[ycb,ih (u/10) (by omega)]
   simp[zJ];omega
theorem zfg(u:Nat):Lib.decDigits u≠[]:=by
 rw[Lib.decDigits]
 split<;>simp
theorem zhB(u:Nat):(Lib.decDigits u).head?≠some 45:=by
 intro h
 have h1:=zeb u
 cases hd:Lib.decDigits u with
 | nil=>exact zfg u hd
 | cons c r =>
  rw[hd]at h h1
  simp only[ycc,yaR.injEq]at h
  subst h
  simp[zJ]at h1
theorem zhC(n:Int):zbn (Lib.itoa n)=Lib.decDigits n.natAbs:=by
 unfold Lib.itoa zbn
 split
 ·simp
 ·rename_i h
  rw[if_neg (zhB _)]
  congr 1;omega
theorem zn8(n:Int):zmX (Lib.itoa n)=n:=by
 have h1:=zhC n
 unfold zmX
 rw[h1,zmZ]
 unfold Lib.itoa
 split
 ·simp;omega
 ·rw[if_neg (zhB _)];omega
theorem zm0{t:List UInt8}(h1:zbn t≠[])(h2:(zbn t).all zJ=true):Lib.atoiAll t=if -(2^63)≤zmX t∧zmX t<2^63 then .ok (zmX t)else .range:=by
 cases t with
 | nil=>exact absurd rfl h1
 | cons c r =>
  have hp:∀d:List UInt8,d≠[]→d.all zJ=true→Lib.parseMag d=if zgR 0 d<18446744073709551616 then .ok (zgR 0 d)else .range:=fun d hd ha=>by
   rw[Lib.parseMag,if_neg hd,zn7 d 0 ha (by omega)]
  unfold Lib.atoiAll
  simp only
  by_cases hc:c=45
  ·subst hc
   have hb:zbn (45::r)=r:=rfl
   rw[hb]at h1 h2
   have hv:zmX (45::r)=-(zgR 0 r:Int):=rfl
   rw[hv,if_pos (show((45:UInt8).toNat=43∨(45:UInt8).toNat=45) from .inr rfl),hp r h1 h2]
   have e:((45:UInt8).toNat=45)=True:=eq_true rfl
   simp only[e,not_true,false_and,true_and,if_false,if_true]
   by_cases o:zgR 0 r<18446744073709551616
   ·rw[if_pos o]
    simp only
    by_cases o2:9223372036854775808<zgR 0 r
    ·rw[if_pos o2,if_neg (by omega)]
    ·rw[if_neg o2,if_pos (by omega)]
   ·rw[if_neg o,if_neg (by omega)]
  ·have hb:zbn (c::r)=c::r:=by unfold zbn;rw[if_neg (by simpa using hc)]
   rw[hb]at h1 h2
   have hv:zmX (c::r)=(zgR 0 (c::r):Int):=by unfold zmX;rw[if_neg (by simpa using hc),hb]
   have hn45:¬c.toNat=45:=fun e=>hc (UInt8.toNat_inj.1 e)
   have hn43:¬c.toNat=43:=fun e=>by
    simp only[yca,Bool.and_eq_true,zJ,decide_eq_true_eq]at h2
    omega
   rw[hv,if_neg (by omega),hp _ h1 h2]
   simp only[hn45,not_false_eq_true,true_and,false_and,if_false]
   by_cases o:zgR 0 (c::r)<18446744073709551616
   ·rw[if_pos o]
    simp only
    by_cases o2:9223372036854775808≤zgR 0 (c::r)
    ·rw[if_pos o2,if_neg (by omega)]
    ·rw[if_neg o2,if_pos (by omega)]
   ·rw[if_neg o,if_neg (by omega)]
theorem zxF{t:List UInt8}(h1:zbn t≠[])(h2:(zbn t).all zJ=true):zqA t=if Lib.itoa (yb4 .i64 (zmX t))=t then .ok (yb4 .i64 (zmX t))else .error 11:=by
 have hw:∀x:Int,-(2^63)≤x→x<2^63→yb4 .i64 x=x:=fun x a b=>by rw[zc]<;>omega
 unfold zqA
 rw[if_neg (by simp[h1,h2]),zm0 h1 h2]
 by_cases o:-(2^63)≤zmX t∧zmX t<2^63
 ·rw[if_pos o,hw _ o.1 o.2]
 ·rw[if_neg o,if_neg]
  intro e
  have h3:=congrArg zmX e
  rw[zn8]at h3
  have h4:-(2^63)≤yb4 .i64 (zmX t)∧yb4 .i64 (zmX t)<2^63:=by
   have q:∀x:Int,-(2^63)≤yb4 .i64 x∧yb4 .i64 x<2^63:=fun x=>by
    simp only[yb4,yao,yap,Bool.true_and,decide_eq_true_eq]
    have a1:=Int.emod_nonneg x (show(2:Int)^64≠0 by decide)
    have a2:=Int.emod_lt_of_pos x (show(0:Int)<2^64 by decide)
    split
    ·rename_i k
     have k:=of_decide_eq_true k
     omega
    ·rename_i k
     have k:=of_decide_eq_false (eq_false_of_ne_true k)
     omega
   exact q _
  rw[h3]at h4
  exact o h4
theorem zqB{n:Int}(h:-(2^63)≤n∧n<2^63):zqA (Lib.itoa n)=.ok n:=by
 have hb:=zhC n
 rw[zxF (by rw[hb];exact zfg _) (by rw[hb];exact zeb _),zn8]
 have hw:yb4 .i64 n=n:=by rw[zc]<;>omega
 rw[hw,if_pos rfl]
def zm1(c:UInt8):Bool:=[32,10].contains c
def za8(c:UInt8):Bool:=[32,10,40,41,34].contains c
def zqC(c:UInt8):Bool:=[34,10].contains c
def zlz(r:List UInt8):Option (List UInt8 × List UInt8):=match r.dropWhile fun c=>!zqC c with
 | []=>none
 | x::z=>if x=34 then some (34::(r.takeWhile (fun c=>!zqC c)++[34]),z)else none
def zdo(s:List UInt8):Option (List UInt8 × List UInt8):=match s.dropWhile zm1 with
 | []=>none
 | c::r=>if c=40∨c=41 then some ([c],r)else if c=34 then zlz r else some (c::r.takeWhile (fun x=>!za8 x),r.dropWhile fun x=>!za8 x)
theorem zcq{s t r:List UInt8}(h:zdo s=some (t,r)):t.length+r.length≤s.length∧t≠[]:=by
 have hd:=(List.dropWhile_sublist zm1 (l:=s)).length_le
 unfold zdo at h
 split at h
 ·cases h
 ·rename_i c z e
  rw[e]at hd
  simp only[yac]at hd
  split at h
  ·cases h
   exact⟨by simp only[yac,ybl];omega,by simp⟩
  ·split at h
   ·unfold zlz at h
    split at h
    ·cases h
    ·rename_i x y e2
     split at h
     ·cases h
      have h3:=congrArg ycd (yce (p:=fun c=>!zqC c) (l:=z))
      rw[e2]at h3
      simp only[yab,yac,ybl]at h3 ⊢
      exact⟨by omega,by simp⟩
     ·cases h
   ·cases h
    have h3:=congrArg ycd (yce (p:=fun x=>!za8 x) (l:=z))
    simp only[yab,yac]at h3 ⊢
    exact⟨by omega,by simp⟩
def zbv:List UInt8:=[40,32,109,111,100,117,108,101,32,40,32,105,109,112,111,114,116,32,34,101,110,118,34,32,34,105,110,34,32,40,32,102,117,110,99,32,40,32,114,101,115,117,108,116,32,105,54,52,32,41,32,41,32,41,32,40,32,105,109,112,111,114,116,32,34,101,110,118,34,32,34,111,117,116,34,32,40,32,102,117,110,99,32,40,32,112,97,114,97,109,32,105,54,52,32,41,32,41,32,41,32,40,32,105,109,112,111,114,116,32,34,101,110,118,34,32,34,116,114,97,112,34,32,40,32,102,117,110,99,32,40,32,112,97,114,97,109,32,105,51,50,32,41,32,41,32,41,32,40,32,109,101,109,111,114,121,32,49,32,41,32,40,32,103,108,111,98,97,108,32,105,51,50,32,40,32,105,51,50,46,99,111,110,115,116]
def zcn:List (List UInt8):=[[40],[109,111,100,117,108,101],[40],[105,109,112,111,114,116],[34,101,110,118,34],[34,105,110,34],[40],[102,117,110,99],[40],[114,101,115,117,108,116],[105,54,52],[41],[41],[41],[40],[105,109,112,111,114,116],[34,101,110,118,34],[34,111,117,116,34],[40],[102,117,110,99],[40],[112,97,114,97,109],[105,54,52],[41],[41],[41],[40],[105,109,112,111,114,116],[34,101,110,118,34],[34,116,114,97,112,34],[40],[102,117,110,99],[40],[112,97,114,97,109],[105,51,50],[41],[41],[41],[40],[109,101,109,111,114,121],[49],[41],[40],[103,108,111,98,97,108],[105,51,50],[40],[105,51,50,46,99,111,110,115,116]]
def zA:List UInt8:=[40]
def zg:List UInt8:=[41]
def zbo:List UInt8:=[102,117,110,99]
def zbZ:List UInt8:=[112,97,114,97,109]
def zdJ:List UInt8:=[114,101,115,117,108,116]
def zaU:List UInt8:=[108,111,99,97,108]
def zbw:List UInt8:=[101,120,112,111,114,116]
def zfO:List UInt8:=[34,109,97,105,110,34]
def zAw:List UInt8:=[105,51,50]
def zAx:List UInt8:=[105,54,52]
def ziV:List UInt8:=[98,108,111,99,107]
def zo1:List UInt8:=[108,111,111,112]
def tIf:List UInt8:=[105,102]
def zce:List UInt8:=[101,108,115,101]
def zc4:List UInt8:=[101,110,100]
def zfh:List (List UInt8):=[[97,100,100],[115,117,98],[109,117,108],[100,105,118,95,115],[114,101,109,95,115],[97,110,100],[111,114],[120,111,114],[115,104,108],[115,104,114,95,115],[101,113],[110,101],[108,116,95,115],[108,101,95,115],[103,116,95,115],[103,101,95,115]]
def zhD:List (List UInt8 × W):=[([105,51,50,46,119,114,97,112,95,105,54,52],{ op:=6,ty:=0,n:=0,body:=0,other:=0,name:=[] }),([105,54,52,46,101,120,116,101,110,100,95,105,51,50,95,115],{ op:=7,ty:=0,n:=0,body:=0,other:=0,name:=[] }),([105,51,50,46,108,111,97,100,56,95,115],{ op:=8,ty:=1,n:=1,body:=0,other:=0,name:=[] }),([105,51,50,46,108,111,97,100],{ op:=8,ty:=1,n:=4,body:=0,other:=0,name:=[] }),([105,54,52,46,108,111,97,100],{ op:=8,ty:=2,n:=8,body:=0,other:=0,name:=[] }),([105,51,50,46,115,116,111,114,101,56],{ op:=9,ty:=1,n:=1,body:=0,other:=0,name:=[] }),([105,51,50,46,115,116,111,114,101],{ op:=9,ty:=1,n:=4,body:=0,other:=0,name:=[] }),([105,54,52,46,115,116,111,114,101],{ op:=9,ty:=2,n:=8,body:=0,other:=0,name:=[] }),([114,101,116,117,114,110],{ op:=16,ty:=0,n:=0,body:=0,other:=0,name:=[] }),([117,110,114,101,97,99,104,97,98,108,101],{ op:=17,ty:=0,n:=0,body:=0,other:=0,name:=[] }),([100,114,111,112],{ op:=18,ty:=0,n:=0,body:=0,other:=0,name:=[] })]
def zD(t:Int):List UInt8:=if t=1 then zAw else zAx
def zn9(t:Int):List (List UInt8 × W):=(zfh.map fun s=>(zD t++46::s,{ op:=4,ty:=t,n:=0,body:=0,other:=0,name:=s }))++[(zD t++[46,101,113,122],{ op:=5,ty:=t,n:=0,body:=0,other:=0,name:=[] })]
def zhE:List (List UInt8 × W):=zhD++(zn9 1++zn9 2)
def zdK:List (List UInt8 × W):=[([105,51,50,46,99,111,110,115,116],{ op:=1,ty:=1,n:=0,body:=0,other:=0,name:=[] }),([105,54,52,46,99,111,110,115,116],{ op:=1,ty:=2,n:=0,body:=0,other:=0,name:=[] }),([108,111,99,97,108,46,103,101,116],{ op:=2,ty:=0,n:=0,body:=0,other:=0,name:=[] }),([108,111,99,97,108,46,115,101,116],{ op:=3,ty:=0,n:=0,body:=0,other:=0,name:=[] }),([99,97,108,108],{ op:=10,ty:=0,n:=0,body:=0,other:=0,name:=[] }),([98,114],{ op:=14,ty:=0,n:=0,body:=0,other:=0,name:=[] }),([98,114,95,105,102],{ op:=15,ty:=0,n:=0,body:=0,other:=0,name:=[] })]
def zM(l:List (List UInt8 × W))(t:List UInt8):Option W:=(l.find? fun p=>p.1==t).map (·.2)
structure Ts where
 b:List UInt8
 ls:To
def zb3(s:Ts):Res (List UInt8 × Ts):=match zdo s.b with
 | none=>.error 2
 | some p=>.ok (p.1,{ s with b:=p.2 })
def zaC:List (List UInt8)→Ts→Res Ts
 | [],s=>.ok s
 | t::ts,s=>(zb3 s).bind fun p=>if p.1=t then zaC ts p.2 else .error 2
def zfP(w:List UInt8)(s:Ts):Option Ts:=match zdo s.b with
 | none=>none
 | some p=>if p.1=zA then(match zdo p.2 with
  | none=>none
  | some q=>if q.1=w then some { s with b:=q.2 }else none)else none
def zbg(s:Ts):Res (Int × Ts):=(zb3 s).bind fun p=>(zqA p.1).map fun n=>(n,p.2)
def zb0:Nat→List Int→Ts→Res (List Int × Ts)
 | 0,_,_=>.error (-1)
 | k+1,l,s=>(zb3 s).bind fun p =>
  if p.1=zAw then zb0 k (l++[1]) p.2 else if p.1=zAx then zb0 k (l++[2]) p.2 else if p.1=zg∧l≠[]then .ok (l,p.2)else .error 2
def zfi(t:List UInt8)(s:Ts):Res (W × Ts):=match zM zdK t with
 | some w=>(zbg s).map fun p=>({ w with n:=p.1 },p.2)
 | none=>match zM zhE t with
  | some w=>.ok (w,s)
  | none=>.error 2
def zcr(t:List UInt8):Int:=if t=ziV then 11 else if t=zo1 then 12 else if t=tIf then 13 else 0
abbrev zHi:=Nat→Bool→Ts→Res ((Int × List UInt8) × Ts)
def zbx(rec:zHi)(op:Int)(d:Nat)(s:Ts):Res (W × Ts) :=
 if 400<d then .error 3
 else(rec d (decide (op=13)) s).bind fun p =>
  if op=13 then(if p.1.2=zce then(rec d false p.2).map fun q=>({ op:=13,ty:=0,n:=0,body:=p.1.1,other:=q.1.1,name:=[] },q.2)
   else .ok ({ op:=13,ty:=0,n:=0,body:=p.1.1,other:=-1,name:=[] },p.2))
  else .ok ({ op:=op,ty:=0,n:=0,body:=p.1.1,other:=0,name:=[] },p.2)
def zdh(rec:zHi)(t:List UInt8)(d:Nat)(s:Ts):Res (W × Ts):=if zcr t=0 then zfi t s else zbx rec (zcr t) (d+1) s
def zfj(d:Nat)(other:Bool)(t:List UInt8):Bool:=(decide (t=zc4)&&decide (0<d))||((decide (t=zg)&&decide (d=0))||(decide (t=zce)&&other))
def zae:Nat→Nat→Bool→List W→Ts→Res ((Int × List UInt8) × Ts)
 | 0,_,_,_,_=>.error (-1)
 | k+1,d,o,l,s=>(zb3 s).bind fun p =>
  if zfj d o p.1=true then .ok (((p.2.ls.length:Int),p.1),{ p.2 with ls:=p.2.ls++[l] })
  else(zdh (fun d o s=>zae k d o [] s) p.1 d p.2).bind fun q=>zae k d o (l++[q.1]) q.2
def zaf(c:UInt8):Bool:=(decide (97≤c.toNat)&&decide (c.toNat≤122))||c==95
def zhF(m:Nat)(t:List UInt8):Bool:=match t with
 | []=>false
 | c::r=>decide (t.length≤m)&&(zaf c&&r.all fun x=>zaf x||zJ x)
def zeo(w:List UInt8)(s:Ts):Res (List Int × Ts):=match zfP w s with
 | some s'=>zb0 (s'.b.length+1) [] s'
 | none=>.ok ([],s)
def zqD(s:Ts):Res (Int × Ts):=match zfP zdJ s with
 | some s'=>(zb0 (s'.b.length+1) [] s').bind fun r=>if r.1.length=1 then .ok (r.1.headD 0,r.2)else .error 2
 | none=>.ok (0,s)
def zcf(mx:Nat)(s:Ts):Res (F × Ts):=(zb3 s).bind fun p =>
 if p.1.head?=some 36∧zhF mx p.1.tail=true then(zeo zbZ p.2).bind fun q=>(zqD q.2).bind fun r=>(zeo zaU r.2).bind fun u=>(zae (u.2.b.length+1) 0 false [] { u.2 with ls:=[] }).map fun(v:(Int × List UInt8) × Ts) =>
   ({ name:=p.1.tail,params:=q.1,locals:=u.1,type:=r.1,lists:=v.2.ls },v.2)
 else .error 2
def zaj(mx:Nat):Nat→List F→Ts→Res (List F × Ts)
 | 0,_,_=>.error (-1)
 | k+1,l,s=>match zfP zbo s with
  | none=>.ok (l,s)
  | some s'=>(zcf mx s').bind fun p=>zaj mx k (l++[p.1]) p.2
def zfQ(mx:Nat)(s:Ts):Res (M × Ts):=(zaC zcn s).bind fun s=>(zbg s).bind fun mem=>(zaC [zg,zg] mem.2).bind fun s=>(zaj mx (s.b.length+1) [] s).bind fun fs =>
 (zaC [zA,zbw,zfO,zA,zbo] fs.2).bind fun s=>(zbg s).bind fun mn=>(zaC [zg,zg,zg] mn.2).bind fun s =>
  if s.b.all zm1=true then .ok ({ funcs:=fs.1,memory:=mem.1,main:=yb4 .i64 (mn.1-3) },s)else .error 2
def zgf(mx:Nat)(b:List UInt8):Res M:=(zfQ mx ⟨b,[]⟩).map (·.1)
def zbh(f:Nat→Nat):Nat→Nat
 | 0=>0
 | k+1=>zbh f k+f k
theorem zeP{f g:Nat→Nat}:∀k,(∀i,i<k→f i=g i)→zbh f k=zbh g k
 | 0,_=>rfl
 | k+1,h=>by rw[zbh,zbh,zeP k fun i hi=>h i (by omega),h k (by omega)]
def rt(T:Nat→Nat)(named:List Bool)(i:Nat):Nat:=if named.getD i true then 0 else T i
theorem zkg(named:List Bool)(n i:Nat):(named.set n true).getD i true=if i=n then true else named.getD i true:=by
 rw[ycf,ycf,List.getElem?_set]
 by_cases h:n=i
 ·subst h
  rw[if_pos rfl,if_pos rfl]
  split<;>rfl
 ·rw[if_neg h,if_neg (fun e=>h e.symm)]
theorem zlA(T:Nat→Nat)(named:List Bool){n i:Nat}(h:i≠n):rt T (named.set n true) i=rt T named i:=by
 have e:(named.set n true).getD i true=named.getD i true:=by rw[zkg,if_neg h]
 unfold rt;rw[e]
theorem zlB(T:Nat→Nat)(named:List Bool)(n:Nat)(h:named.getD n true=false):∀k,n<k→zbh (rt T (named.set n true)) k+T n=zbh (rt T named) k
 | 0,hk=>by omega
 | k+1,hk=>by
  simp only[zbh]
  by_cases e:n=k
  ·subst e
   have h1:zbh (rt T (named.set n true)) n=zbh (rt T named) n:=zeP n fun i hi=>zlA T named (Nat.ne_of_lt hi)
   have h2:rt T (named.set n true) n=0:=by
    have e:(named.set n true).getD n true=true:=by rw[zkg,if_pos rfl]
    unfold rt;rw[e];rfl
   have h3:rt T named n=T n:=by unfold rt;rw[h];rfl
   omega
  ·have ih:=zlB T named n h k (by omega)
   have h2:rt T (named.set n true) k=rt T named k:=zlA T named (fun q=>e q.symm)
   omega
def ziW(l:List Int)(T:Nat→Nat):Nat:=(l.map fun n=>T n.toNat).sum
theorem zeQ(a b:List Int)(T):ziW (a++b) T=ziW a T+ziW b T:=by simp[ziW]
structure zkh(T:Nat→Nat)(k:Nat)(named named':List Bool)(ns:List Int):Prop where
 inside:∀n∈ns,0≤n∧n<(k:Int)
 sum:zbh (rt T named') k+ziW ns T=zbh (rt T named) k
 rest:∀i,k≤i→named'.getD i true=named.getD i true
 len:named'.length=named.length
theorem zkh.nil{T k named}:zkh T k named named []:=⟨by simp,by simp[ziW],fun _ _=>rfl,rfl⟩
theorem zkh.trans{T k a b c l m}(h:zkh T k a b l)(h':zkh T k b c m):zkh T k a c (l++m) where
 inside n hn:=(List.mem_append.1 hn).elim (h.inside n) (h'.inside n)
 sum:=by rw[zeQ];have:=h.sum;have:=h'.sum;omega
 rest i hi:=(h'.rest i hi).trans (h.rest i hi)
 len:=h'.len.trans h.len
theorem zug{T k named n named'}(h:zdn (k:Nat) named n=.ok named'):zkh T k named named' [n]:=by
 unfold zdn at h
 split at h
 ·rename_i hc
  cases h
  obtain⟨h0,h1,h2⟩:=hc
  have hk:n.toNat<k:=by omega
  refine⟨by simp;exact⟨h0,h1⟩,by simpa [ziW]using zlB T named n.toNat h2 k hk,fun i hi=>by rw[zkg,if_neg (by omega)],by simp⟩
 ·cases h
theorem zlC{T k}:∀{ns named named'},zaG (k:Nat) ns named=.ok named'→zkh T k named named' ns
 | [],_,_,h=>by simp[zaG]at h;subst h;exact .nil
 | n::ns,named,named',h=>by
  rw[zaG]at h
  split at h
  ·cases h
  ·rename_i named1 h1
   exact(zug h1).trans (zlC h)
theorem zm2{T k}:∀{ws named named'},zgQ (k:Nat) ws named=.ok named'→zkh T k named named' (ws.flatMap zl)
 | [],_,_,h=>by simp[zgQ]at h;subst h;exact .nil
 | w::ws,named,named',h=>by
  rw[zgQ]at h
  split at h
  ·cases h
  ·rename_i named1 h1
   rw[yaa]
   exact(zlC h1).trans (zm2 h)
def zlD(ls:To):Prop:=∀(k:Nat) (row:List W),ls[k]?=some row→∀n∈row.flatMap zl,0≤n∧n<(k:Int)
theorem zhG(ls:To):∀(r:To) (k:Nat) (named named':List Bool),ls.drop k=r→zbu k r named=.ok named'→∀j row,k≤j→ls[j]?=some row→∀n∈row.flatMap zl,0≤n∧n<(j:Int)
 | [],k,_,_,hd,_,j,row,hj,hr=>by
  have:ls.length≤k:=ycg.1 hd
  rw[yb2 (by omega)]at hr;cases hr
 | l::r,k,named,named',hd,h,j,row,hj,hr=>by
  rw[zbu]at h
  split at h
  ·cases h
  ·rename_i named1 h1
   have hl:ls[k]?=some l:=by
    have:=congrArg (·[0]?) hd
    simpa using this
   have hd':ls.drop (k+1)=r:=by
    have:=congrArg (List.drop 1) hd
    simpa [ych]using this
   by_cases e:j=k
   ·subst e
    rw[hl]at hr;cases hr
    exact(zm2 (T:=fun _=>0) h1).inside
   ·exact zhG ls r (k+1) named1 named' hd' h j row (by omega) hr
theorem zlE(ls:To)(T g:Nat→Nat)(hT:∀k row,ls[k]?=some row→T k=g k+ziW (row.flatMap zl) T):∀(r:To) (k:Nat) (named named':List Bool),ls.drop k=r→zbu k r named=.ok named'→k≤ls.length →
  zbh (rt T named) k=zbh g k→named.length=ls.length→(∀i,k≤i→i<ls.length→named.getD i true=false) →
  zbh (rt T named') ls.length=zbh g ls.length∧named'.length=ls.length∧(0<ls.length→k<ls.length→named'.getD (ls.length-1) true=false)
 | [],k,named,named',hd,h,hk,hs,hl,hf=>by
  have hlen:ls.length≤k:=ycg.1 hd
  simp[zbu]at h
  subst h
  obtain rfl:k=ls.length:=by omega
  exact⟨hs,hl,fun _ h=>by omega⟩
 | l::r,k,named,named',hd,h,hk,hs,hlen,hf=>by
  rw[zbu]at h
  split at h
  ·cases h
  ·rename_i named1 h1
   have hl:ls[k]?=some l:=by
    have:=congrArg (·[0]?) hd
    simpa using this
   have hd':ls.drop (k+1)=r:=by
    have:=congrArg (List.drop 1) hd
    simpa [ych]using this
   have hk':k<ls.length:=(yaq.1 hl).1
   have N:=zm2 (T:=T) h1
   have hkk:named1.getD k true=false:=(N.rest k (yah _)).trans (hf k (yah _) hk')
   have hsum:zbh (rt T named1) (k+1)=zbh g (k+1):=by
    simp only[zbh]
    have h3:rt T named1 k=T k:=by unfold rt;rw[hkk];rfl
    have:=N.sum
    have:=hT k l hl
    omega
   have key:=zlE ls T g hT r (k+1) named1 named' hd' h hk' hsum (N.len.trans hlen) fun i hi hil=>(N.rest i (by omega)).trans (hf i (by omega) hil)
   refine⟨key.1,key.2.1,fun h0 _=>?_⟩
   by_cases e:k+1<ls.length
   ·exact key.2.2 h0 e
   ·have:r=[]:=by
     have hdl:=congrArg ycd hd'
     rw[List.length_drop]at hdl
     exact ybS.1 (by omega)
    subst this
    simp[zbu]at h
    subst h
    rw[show ls.length-1=k from by omega]
    exact hkk
def tot(g:Nat→Nat)(ls:To):Nat→Nat→Nat
 | 0,_=>0
 | f+1,k=>g k+ziW ((ls.getD k []).flatMap zl) (tot g ls f)
theorem zo2{l:List Int}{T U:Nat→Nat}(h:∀n∈l,T n.toNat=U n.toNat):ziW l T=ziW l U:=by
 induction l with
 | nil=>rfl
 | cons n l ih =>
  simp only[ziW,yaL,yci]at ih ⊢
  rw[h n (by simp),ih fun m hm=>h m (by simp[hm])]
theorem zo3(g:Nat→Nat){ls:To}(ha:zlD ls):∀(f:Nat) (k:Nat),k<f→tot g ls (f+1) k=tot g ls f k:=by
 intro f
 induction f with
 | zero=>intro k h;omega
 | succ f ih =>
  intro k hk
  rw[tot,tot]
  congr 1
  refine zo2 fun n hn=>?_
  cases hr:ls[k]? with
  | none=>rw[ycf,hr]at hn;simp at hn
  | some row =>
   rw[ycf,hr]at hn
   have:=ha k row hr n hn
   exact ih n.toNat (by omega)
def zlF(g:Nat→Nat)(ls:To)(k:Nat):Nat:=tot g ls ls.length k
theorem zm3(g:Nat→Nat){ls:To}(ha:zlD ls){k:Nat}{row:List W}(h:ls[k]?=some row):zlF g ls k=g k+ziW (row.flatMap zl) (zlF g ls):=by
 have hk:=(yaq.1 h).1
 unfold zlF
 rw[←zo3 g ha ls.length k hk,tot,ycf,h]
 rfl
theorem ziX:∀k,zbh (fun _=>0) k=0
 | 0=>rfl
 | k+1=>by rw[zbh,ziX k]
theorem zcg{ls:To}(h:zbY ls=.ok ()):0<ls.length∧zlD ls∧∀g,zlF g ls (ls.length-1)=zbh g ls.length:=by
 unfold zbY at h
 split at h
 ·cases h
 ·rename_i h0
  split at h
  ·cases h
  ·rename_i named hr
   split at h
   ·rename_i hall
    have ha:zlD ls:=fun k row hk=>zhG ls ls 0 _ _ (by simp) hr k row (ycj _) hk
    refine⟨by omega,ha,fun g=>?_⟩
    obtain⟨h1,h2,h3⟩:=zlE ls (zlF g ls) g (fun k row hk=>zm3 g ha hk) ls 0 _ _ (by simp) hr (ycj _) rfl (by simp) fun i _ hi=>by
     rw[ycf,yck,if_pos hi];rfl
    obtain⟨L,hL⟩:∃L,ls.length=L+1:=⟨ls.length-1,by omega⟩
    have h3':=h3 (by omega) (by omega)
    rw[hL]at h1 h3' hall ⊢
    simp only[Nat.add_sub_cancel]at h3' hall ⊢
    rw[←h1,zbh]
    have z:zbh (rt (zlF g ls) named) L=0:=by
     have:zbh (rt (zlF g ls) named) L=zbh (fun _=>0) L:=zeP L fun i hi=>by
      have hm:(named.take L)[i]?=some true:=by
       have hlt:i<(named.take L).length:=by rw[ybf];omega
       rw[yau hlt]
       have:=yaM.1 hall _ (yaw hlt)
       simpa using this
      rw[List.getElem?_take,if_pos hi]at hm
      have e:named.getD i true=true:=by rw[ycf,hm];rfl
      unfold rt;rw[e];rfl
     rw[this,ziX]
    have e:rt (zlF g ls) named L=zlF g ls L:=by unfold rt;rw[h3'];rfl
    rw[z,e];omega
   ·cases h
def zxG(w:W):Bool:=w.op==14||w.op==16||w.op==17
def zKP(l:List W):Prop:=∀w∈l.dropLast,zxG w=false
def zfk(c:Nat→Nat)(ls:To):Nat:=(ls.map fun l=>c l.length).sum
theorem zhH(c a b):zfk c (a++b)=zfk c a+zfk c b:=by simp[zfk]
theorem zak{fs:List F}{f:F}(h:zn fs f=.ok ()):zbY f.lists=.ok ():=by
 unfold zn at h
 split at h
 ·cases h
 ·split at h
  ·cases h
  ·assumption
theorem zew{fs:List F}:∀{r:List F},zO fs r=.ok ()→∀f∈r,zn fs f=.ok ()
 | [],_,f,hf=>by simp at hf
 | g::r,h,f,hf=>by
  rw[zO]at h
  split at h
  ·cases h
  ·rename_i u hg
   rcases ybC.1 hf with rfl|hf
   ·exact hg
   ·exact zew h f hf
theorem zbP{m:M}(h:zaB m=.ok ()):∀f∈m.funcs,zn m.funcs f=.ok ():=by
 unfold zaB at h
 split at h
 ·cases h
 ·split at h
  ·cases h
  ·rename_i u hf
   exact zew hf
def W.cs(w:W):List AV:=[.int .i64 w.op,.int .i64 w.ty,.int .i64 w.n,.int .i64 w.body,.int .i64 w.other,.str w.name]
def W.av(w:W):AV:=.agg w.cs
inductive All2{α β:Type}(R:α→β→Prop):List α→List β→Prop
 | nil:All2 R [] []
 | cons {x y xs ys} (h:R x y) (r:All2 R xs ys):All2 R (x::xs) (y::ys)
def zo4(v:AV)(l:List W):Prop:=(l=[]∧v=.nilsl)∨∃b,v=.sl (.stat b) 6 (l.map W.av)
def zIS(v:AV)(frm:To):Prop:=∃b rows,v=.sl (.stat b) 1 rows∧All2 zo4 rows frm
def zcA:AV→Option Nat
 | .sl (.fam g _) _ _=>some g
 | _=>none
def zIT(σ:AS)(x f:Nat):Prop:=∃fv tv,σ.objs x=some [fv,tv]∧zcA tv=some f
structure zK7(x:Nat)(σ σ':AS):Prop where
 no:σ.no≤σ'.no
 nf:σ.nf≤σ'.nf
 obj:∀o,o<σ.no→o≠x→σ'.objs o=σ.objs o
 fam:∀f,f<σ.nf→¬zIT σ x f→σ'.F f=σ.F f
 use:∀f,f<σ.nf→zIT σ' x f→zIT σ x f
end Go.Proofs.YtohfclafhegadaaGreatDoor
namespace Go.Proofs.YtohfclafhegadaaGreatDoor
open Go Go.Abs
theorem All2.length{α β:Type}{R:α→β→Prop}{xs ys}(h:All2 R xs ys):xs.length=ys.length:=by
 induction h<;>simp_all
theorem All2.get{α β:Type}{R:α→β→Prop}{xs ys}(h:All2 R xs ys){i:Nat}{y}(hy:ys[i]?=some y):∃x,xs[i]?=some x∧R x y:=by
 induction h generalizing i with
 | nil=>simp at hy
 | cons h r ih =>
  cases i with
  | zero=>simp at hy;subst hy;exact⟨_,by simp,h⟩
  | succ i=>simp at hy;simpa using ih hy
theorem All2.append{α β:Type}{R:α→β→Prop}{xs ys xs' ys'}(h:All2 R xs ys)(h':All2 R xs' ys'):All2 R (xs++xs') (ys++ys'):=by
 induction h with
 | nil=>exact h'
 | cons h r ih=>exact .cons h ih
theorem zuh{P:Program}{G:Env}{f:FuncId}{args:List AV}{σ:AS}{R:Out→AS→Prop}
  (h:ACalls P G f args σ fun o σ'=>R o σ'∨∃v g p,o=.ret v∧σ'.F g=.alive∧R (.ret (frz g v)) (σ'.frz g p)):ACalls P G f args σ R:=by
 intro M w cargs S g c
 refine(h M w cargs S g c).mono fun e w' ⟨o,σ',M',hR,h2,h3,h4⟩=>?_
 rcases hR with hR|⟨v,k,p,ho,ha,hR⟩
 ·exact⟨o,σ',M',hR,h2,h3,h4⟩
 subst ho
 refine⟨_,_,M'.frz k,hR,?_,h3.frz ha,h4.trans (zmF ha)⟩
 cases e<;>simp only[zbV]at h2 ⊢
 exact h2.frz ha
end Go.Proofs.YtohfclafhegadaaGreatDoor
namespace Go.Proofs.YtohfclafhegadaaGreatDoor
open Go Go.Abs
structure zh(σ σ':AS):Prop where
 no:σ.no≤σ'.no
 nf:σ.nf≤σ'.nf
 obj:∀o,o<σ.no→σ'.objs o=σ.objs o
 fam:∀f,f<σ.nf→σ'.F f=σ.F f
theorem zh.refl(σ):zh σ σ:=⟨yah _,yah _,fun _ _=>rfl,fun _ _=>rfl⟩
theorem zh.trans{σ σ1 σ2}(h:zh σ σ1)(h':zh σ1 σ2):zh σ σ2 where
 no:=yai h.no h'.no
 nf:=yai h.nf h'.nf
 obj o a:=by rw[h'.obj o (yag a h.no),h.obj o a]
 fam f a:=by rw[h'.fam f (yag a h.nf),h.fam f a]
theorem zh.newO{σ σ' cs}(h:zh σ σ'):zh σ (σ'.newO cs) where
 no:=yai h.no (by simp)
 nf:=h.nf
 obj o a:=by have:=h.no;simp;rw[if_neg (by omega)];exact h.obj o a
 fam:=h.fam
theorem zh.setO{σ σ' o cs}(h:zh σ σ')(ho:σ.no≤o):zh σ (σ'.setO o cs) where
 no:=h.no
 nf:=h.nf
 obj p a:=by simp;rw[if_neg (by omega)];exact h.obj p a
 fam:=h.fam
theorem zh.newF{σ σ'}(h:zh σ σ'):zh σ σ'.newF where
 no:=h.no
 nf:=yai h.nf (by simp)
 obj:=h.obj
 fam f a:=by have:=h.nf;simp;rw[if_neg (by omega)];exact h.fam f a
theorem zh.setF{σ σ' f s}(h:zh σ σ')(hf:σ.nf≤f):zh σ (σ'.setF f s) where
 no:=h.no
 nf:=h.nf
 obj:=h.obj
 fam g a:=by simp;rw[if_neg (by omega)];exact h.fam g a
theorem zh.frz{σ σ' f p}(h:zh σ σ')(hf:σ.nf≤f)(hp:∀o,o<σ.no→p o=false):zh σ (σ'.frz f p) where
 no:=h.no
 nf:=h.nf
 obj o a:=by simp[AS.frz,hp o a];exact h.obj o a
 fam g a:=by simp[AS.frz,zoV];rw[if_neg (by omega)];exact h.fam g a
def zZ(v:AV)(l:List Int):Prop:=(l=[]∧v=.nilsl)∨∃b,v=.sl (.stat b) 1 (l.map (.int .i64))
theorem zZ.one{v l}(h:zZ v l):v.known=true∧v.one=true∧v.cells=[v]:=by
 rcases h with ⟨_,rfl⟩|⟨b,rfl⟩<;>simp
def zo5(R:Out→AS→Prop)(o:Out)(σ':AS):Prop:=R o σ'∨∃v g p,o=.ret v∧σ'.F g=.alive∧R (.ret (frz g v)) (σ'.frz g p)
theorem zoa{P:Program}{G:Env}{f:FuncId}{args:List AV}{σ:AS}{R:Out→AS→Prop}(h:ACalls P G f args σ (zo5 R)):ACalls P G f args σ R:=zuh h
theorem zo5.froze{R:Out→AS→Prop}{v:AV}{σ':AS}(g:Nat)(p:Nat→Bool)(h:σ'.F g=.alive)(h2:R (.ret (frz g v)) (σ'.frz g p)):zo5 R (.ret v) σ':=.inr ⟨v,g,p,rfl,h,h2⟩
def zcs(v:AV)(tO:To):Prop:=(tO=[]∧v=.nilsl)∨zIS v tO
theorem zcs.one{v l}(h:zcs v l):v.known=true∧v.one=true∧v.cells=[v]:=by
 rcases h with ⟨_,rfl⟩|⟨b,_,rfl,_⟩<;>simp
def FV(v:AV)(f:F):Prop:=∃pv lv tv,v=.agg [.str f.name,pv,lv,.int .i64 f.type,tv]∧zZ pv f.params∧zZ lv f.locals∧zcs tv f.lists
def FsV(v:AV)(fs:List F):Prop:=(fs=[]∧v=.nilsl)∨∃b rows,v=.sl (.stat b) 5 rows∧All2 FV rows fs
def MV(v:AV)(m:M):Prop:=∃fv,v=.agg [fv,.int .i64 m.memory,.int .i64 m.main]∧FsV fv m.funcs
end Go.Proofs.YtohfclafhegadaaGreatDoor
namespace Go.Proofs.YtohfclafhegadaaGreatDoor
open Go Go.Abs
theorem FsV.one{v l}(h:FsV v l):v.known=true∧v.one=true∧v.cells=[v]:=by
 rcases h with ⟨_,rfl⟩|⟨b,_,rfl,_⟩<;>simp
def MU(r n:Nat)(a:Nat→AV)(_:AS):Nat:=match a r with|.int _ i=>n-i.toNat|_=>0
theorem zZ.len{tv:AV}{ts:List Int}(h:zZ tv ts)(K:AV→Prop):zgF yb9 44 tv K=K (.int .i64 (ts.length:Int)):=by
 rcases h with ⟨rfl,rfl⟩|⟨b,rfl⟩<;>simp
theorem FsV.len{fv:AV}{fs:List F}(h:FsV fv fs)(K:AV→Prop):zgF yb9 26 fv K=K (.int .i64 (fs.length:Int)):=by
 rcases h with ⟨rfl,rfl⟩|⟨b,rows,rfl,hr⟩
 ·simp
 ·simp[hr.length]
theorem zcs.len{tv:AV}{ls:To}(h:zcs tv ls)(K:AV→Prop):zgF yb9 55 tv K=K (.int .i64 (ls.length:Int)):=by
 rcases h with ⟨rfl,rfl⟩|⟨b,rows,rfl,hr⟩
 ·simp
 ·simp[hr.length]
theorem zo4.len{v:AV}{l:List W}(h:zo4 v l)(K:AV→Prop):zgF yb9 54 v K=K (.int .i64 (l.length:Int)):=by
 rcases h with ⟨rfl,rfl⟩|⟨b,rfl⟩<;>simp
theorem zo4.one{v l}(h:zo4 v l):v.known=true∧v.one=true∧v.cells=[v]:=by
 rcases h with ⟨_,rfl⟩|⟨b,rfl⟩<;>simp
theorem zo4.at{v:AV}{l:List W}(h:zo4 v l){i:Nat}(hi:i<l.length):∃b,∀K:AV→Prop,zw yb9 54 v (.int .i64 (i:Int)) K=K (.pv (.stat b) l[i].av):=by
 rcases h with ⟨rfl,_⟩|⟨b,rfl⟩
 ·simp at hi
 ·exact⟨b,fun K=>by simp[hi]⟩
theorem zZ.at{v:AV}{l:List Int}(h:zZ v l){i:Nat}(hi:i<l.length):∃b,∀K:AV→Prop,zw yb9 44 v (.int .i64 (i:Int)) K=K (.pv (.stat b) (.int .i64 l[i])):=by
 rcases h with ⟨rfl,_⟩|⟨b,rfl⟩
 ·simp at hi
 ·exact⟨b,fun K=>by simp[hi]⟩
theorem zcs.at{v:AV}{l:To}(h:zcs v l){i:Nat}(hi:i<l.length):∃b rv,zo4 rv l[i]∧∀K:AV→Prop,zw yb9 55 v (.int .i64 (i:Int)) K=K (.pv (.stat b) rv):=by
 rcases h with ⟨rfl,_⟩|⟨b,rows,rfl,hr⟩
 ·simp at hi
 ·obtain⟨rv,h1,h2⟩:=hr.get (yau hi)
  exact⟨b,rv,h2,fun K=>by simp[h1]⟩
theorem FsV.at{v:AV}{l:List F}(h:FsV v l){i:Nat}(hi:i<l.length):∃b fv,FV fv l[i]∧∀K:AV→Prop,zw yb9 26 v (.int .i64 (i:Int)) K=K (.pv (.stat b) fv):=by
 rcases h with ⟨rfl,_⟩|⟨b,rows,rfl,hr⟩
 ·simp at hi
 ·obtain⟨fv,h1,h2⟩:=hr.get (yau hi)
  exact⟨b,fv,h2,fun K=>by simp[h1]⟩
theorem zqE{α:Type}{l:List α}{i:Nat}{x:α}(h:l[i]?=some x):l.take (i+1)=l.take i++[x]:=by
 obtain⟨hi,rfl⟩:=yaq.1 h
 exact ycl hi
def SlW(σ:AS)(v:AV)(l:List W):Prop:=(l=[]∧v=.nilsl)∨∃φ,v=.sl φ 6 (l.map W.av)∧zm σ.F φ
theorem zKw(w u:W):aeq yb9 53 (.agg [.int .i64 w.op,.int .i64 w.ty,.int .i64 w.n,.int .i64 w.body,.int .i64 w.other,.str w.name]) (.agg [.int .i64 u.op,.int .i64 u.ty,.int .i64 u.n,.int .i64 u.body,.int .i64 u.other,.str u.name])=some (decide (w=u)):=by
 simp[aeq,zoH]
 have key:(w=u)↔(w.op=u.op∧w.ty=u.ty∧w.n=u.n∧w.body=u.body∧w.other=u.other∧w.name=u.name):=by
  constructor
  ·rintro rfl;simp
  ·rintro ⟨h1,h2,h3,h4,h5,h6⟩
   cases w;cases u;simp_all
 by_cases h1:w.op=u.op<;>by_cases h2:w.ty=u.ty<;>by_cases h3:w.n=u.n<;>by_cases h4:w.body=u.body<;>by_cases h5:w.other=u.other<;>by_cases h6:w.name=u.name<;>simp[key,h1,h2,h3,h4,h5,h6]
def SI(va vb:AV)(a b:List W)(σ:AS)(f:Nat→AV)(τ:AS):Prop:=∃i:Nat,i≤a.length∧f 0=va∧f 1=vb∧f 5=.int .i64 (i:Int)∧a.take i=b.take i∧τ=σ
def SM(a:List W)(f:Nat→AV)(_:AS):Nat:=match f 5 with
 | .int _ n=>a.length-n.toNat
 | _=>0
theorem zo6{G:Env}{va vb:AV}{a b:List W}{σ:AS}{R:Out→AS→Prop}(ha:SlW σ va a)(hb:SlW σ vb b)(hl:a.length≤2^30)(h:R (.ret (.bool (decide (a=b)))) σ):zzQ G 216 [va,vb] σ R:=by
 refine ztL rfl ?_
 by_cases hab:a.length=b.length
 ·have loop:∀f,f 0=va→f 1=vb→f 5=.int .i64 0→zjI yb9 G 27 zd9 (za2 0 (zbd (avc yb9 G 27 zgO (ze9 yb9 [.tmp 4] R)) (ze9 yb9 [.tmp 4] R))) f σ:=by
   intro f f0 f1 f5
   refine zas (SI va vb a b σ) (SM a) ⟨0,ycj _,f0,f1,by simpa using f5,by simp,rfl⟩ fun f τ ⟨i,hi,f0,f1,f5,ht,hτ⟩=>?_
   subst hτ
   have hmu:SM a f τ=a.length-i:=by simp[SM,f5]
   by_cases hlt:i<a.length
   ·have hltb:i<b.length:=by omega
    obtain⟨φ,rfl,hφ⟩:∃φ,va=.sl φ 6 (a.map W.av)∧zm τ.F φ:=by
     rcases ha with ⟨rfl,_⟩|ha
     ·simp at hlt
     ·exact ha
    obtain⟨ψ,rfl,hψ⟩:∃φ,vb=.sl φ 6 (b.map W.av)∧zm τ.F φ:=by
     rcases hb with ⟨rfl,_⟩|hb
     ·simp at hltb
     ·exact hb
    have hw2:yb4 .i64 ((i:Int)+1)=(i:Int)+1:=by rw[zc]<;>omega
    have ea:a.take (i+1)=a.take i++[a[i]]:=by simp
    have eb:b.take (i+1)=b.take i++[b[i]]:=by simp
    by_cases hw:a[i]=b[i]
    ·simp[zd9,f0,f1,f5,hlt,hltb,W.av,W.cs,hφ,hψ,zKw,hw,hw2]
     refine⟨⟨i+1,hlt,by simp[f0,W.av,W.cs],by simp[f1,W.av,W.cs],by simp,by rw[ea,eb,ht,hw],rfl⟩,?_⟩
     rw[hmu]
     have:((i:Int)+1).toNat=i+1:=by omega
     simp[SM,this];omega
    ·have hne:¬a=b:=fun e=>hw (by subst e;rfl)
     simp[hne]at h
     simp[zd9,f0,f1,f5,hlt,hltb,W.av,W.cs,hφ,hψ,zKw,hw,hw2,h]
   ·have he:i=a.length:=by omega
    subst he
    have e:a=b:=by rw[ycm,hab,ycm]at ht;exact ht
    have hla:a.length=b.length:=hab
    simp[e]at h
    rcases ha with ⟨rfl,rfl⟩|⟨φ,rfl,hφ⟩
    ·simp[zd9,zgO,f0,f1,f5,h]
    ·simp[zd9,zgO,f0,f1,f5,h]
  rcases ha with ⟨rfl,rfl⟩|⟨φ,rfl,hφ⟩<;>rcases hb with ⟨rfl,rfl⟩|⟨ψ,rfl,hψ⟩
  ·simp[zlv]
   refine loop _ ?_ ?_ ?_<;>simp
  ·simp at hab
   simp[zlv,←hab]
   refine loop _ ?_ ?_ ?_<;>simp
  ·simp at hab
   subst hab
   simp[zlv]
   refine loop _ ?_ ?_ ?_<;>simp
  ·simp[zlv,hab]
   refine loop _ ?_ ?_ ?_<;>simp
 ·have hne:¬a=b:=fun e=>hab (by rw[e])
  have hi:¬(a.length:Int)=b.length:=by omega
  simp[hne]at h
  rcases ha with ⟨rfl,rfl⟩|⟨φ,rfl,hφ⟩<;>rcases hb with ⟨rfl,rfl⟩|⟨ψ,rfl,hψ⟩
  ·simp at hab
  ·simp at hab
   have hi':¬(0:Int)=b.length:=by simpa using hi
   simp[zlv,hi',h]
  ·simp at hab
   have hi':¬(a.length:Int)=0:=by simpa using hi
   simp[zlv,hab,h]
  ·simp[zlv,hi,h]
end Go.Proofs.YtohfclafhegadaaGreatDoor
namespace Go.Proofs.YtohfclafhegadaaGreatDoor.Al
open Go Go.Abs Go.Proofs.YtohfclafhegadaaGreatDoor
def RepE(v:AV)(l:List W):Prop:=(l=[]∧v=.nilsl)∨∃b,v=.sl (.fam 0 b) 6 (l.map W.av)
end Go.Proofs.YtohfclafhegadaaGreatDoor.Al
namespace Go.Proofs.YtohfclafhegadaaGreatDoor.Al
open Go Go.Abs Go.Proofs.YtohfclafhegadaaGreatDoor
theorem mrg_W(f:Nat)(w:W):mrg f w.av=w.av:=by simp[W.av,W.cs]
theorem zEj(f:Nat)(l:List W):(l.map W.av).map (mrg f)=l.map W.av:=by simp[Function.comp_def,mrg_W]
theorem RepE.mrg{v l}(h:RepE v l){f:Nat}:mrg f v=v:=by
 rcases h with ⟨_,rfl⟩|⟨b,rfl⟩
 ·simp
 ·rw[ziU,zEj];split<;>rfl
theorem mrg_rows{tos tO}(h:All2 RepE tos tO)(f:Nat):tos.map (mrg f)=tos:=by
 induction h with
 | nil=>rfl
 | cons h r ih=>simp[h.mrg,ih]
end Go.Proofs.YtohfclafhegadaaGreatDoor.Al
namespace Go.Proofs.YtohfclafhegadaaGreatDoor.Al
open Go Go.Abs Go.Proofs.YtohfclafhegadaaGreatDoor
end Go.Proofs.YtohfclafhegadaaGreatDoor.Al
namespace Go.Proofs.YtohfclafhegadaaGreatDoor.Al
open Go Go.Abs Go.Proofs.YtohfclafhegadaaGreatDoor
def IntsE(v:AV)(l:List Int):Prop:=(l=[]∧(v=.nilsl∨∃b,v=.sl (.stat b) 1 []))∨∃b,v=.sl (.fam 0 b) 1 (l.map (.int .i64))
theorem IntsE.one{v l}(h:IntsE v l):v.known=true∧v.one=true∧v.cells=[v]:=by
 rcases h with ⟨_,rfl|⟨b,rfl⟩⟩|⟨b,rfl⟩<;>simp
def MrgOr(R:Out→AS→Prop)(o:Out)(σ':AS):Prop:=R o σ'∨∃v g p,o=.ret v∧0<σ'.nf∧σ'.F g=.alive∧R (.ret (mrg g v)) (σ'.mrg g p)
theorem merging{P:Program}{G:Env}{f:FuncId}{args:List AV}{σ:AS}{R:Out→AS→Prop}(h:ACalls P G f args σ (MrgOr R)):ACalls P G f args σ R:=zwT h
theorem MrgOr.merged{R:Out→AS→Prop}{v:AV}{σ':AS}(g:Nat)(p:Nat→Bool)(hn:0<σ'.nf)(h:σ'.F g=.alive)(h2:R (.ret (mrg g v)) (σ'.mrg g p)):MrgOr R (.ret v) σ':=.inr ⟨v,g,p,rfl,hn,h,h2⟩
def zKQ(g:Nat)(v:AV)(tO:To):Prop:=(tO=[]∧v=.nilsl)∨∃tos,v=.sl (.fam g false) 1 tos∧All2 RepE tos tO
def FVE(v:AV)(p:F × Nat):Prop:=∃pv lv tv,v=.agg [.str p.1.name,pv,lv,.int .i64 p.1.type,tv]∧IntsE pv p.1.params∧IntsE lv p.1.locals∧zKQ p.2 tv p.1.lists
structure Gs(τ:AS)(base:Nat)(g:Nat)(gs:List Nat):Prop where
 nd:gs.Nodup
 each:∀x∈gs,base≤x∧x<τ.nf∧τ.F x=.alive∧x≠g
def OutE(τ:AS)(base:Nat)(v:AV)(l:List F):Prop :=
 (l=[]∧v=.nilsl)∨∃g rows ps,v=.sl (.fam g false) 5 rows∧base≤g∧g<τ.nf∧τ.F g=.alive∧ps.map Prod.fst=l∧All2 FVE rows ps∧Gs τ base g (ps.map Prod.snd)
end Go.Proofs.YtohfclafhegadaaGreatDoor.Al
namespace Go.Proofs.YtohfclafhegadaaGreatDoor.Al
open Go Go.Abs Go.Proofs.YtohfclafhegadaaGreatDoor
def ME(τ:AS)(base:Nat)(v:AV)(m:M):Prop:=∃fv,v=.agg [fv,.int .i64 m.memory,.int .i64 m.main]∧OutE τ base fv m.funcs
end Go.Proofs.YtohfclafhegadaaGreatDoor.Al
namespace Go.Proofs.YtohfclafhegadaaGreatDoor.Al
open Go Go.Abs Go.Proofs.YtohfclafhegadaaGreatDoor
structure Spo(S:Nat→Prop)(σ σ':AS):Prop where
 no:σ.no≤σ'.no
 nf:σ.nf≤σ'.nf
 obj:∀o,o<σ.no→σ'.objs o=σ.objs o
 fam:∀k,k<σ.nf→¬S k→σ'.F k=σ.F k
 live:∀k,k<σ.nf→σ.F k≠.dead→σ'.F k≠.dead
end Go.Proofs.YtohfclafhegadaaGreatDoor.Al
namespace Go.Proofs.YtohfclafhegadaaGreatDoor.Al
open Go Go.Abs Go.Proofs.YtohfclafhegadaaGreatDoor
end Go.Proofs.YtohfclafhegadaaGreatDoor.Al
namespace Go.Proofs.YtohfclafhegadaaGreatDoor.Al
open Go Go.Abs Go.Proofs.YtohfclafhegadaaGreatDoor
def Rd(σ:AS):Go.Abs.Own→Prop
 | .stat _=>True
 | .fam f _=>f<σ.nf∧σ.F f=.alive
theorem Rd.read{σ φ}(h:Rd σ φ):zm σ.F φ:=by
 cases φ with
 | stat b=>exact trivial
 | fam f b=>exact h.2
theorem Rd.keep{σ σ' φ}(h:Rd σ φ)(A:zh σ σ'):Rd σ' φ:=by
 cases φ with
 | stat b=>exact trivial
 | fam f b=>exact⟨by have:=A.nf;have:=h.1;omega,(A.fam f h.1).trans h.2⟩
def IntsO(σ:AS)(v:AV)(l:List Int):Prop:=(l=[]∧v=.nilsl)∨∃φ,v=.sl φ 1 (l.map (.int .i64))∧Rd σ φ
def RepO(σ:AS)(v:AV)(l:List W):Prop:=(l=[]∧v=.nilsl)∨∃φ,v=.sl φ 6 (l.map W.av)∧Rd σ φ
def LstO(σ:AS)(v:AV)(l:To):Prop:=(l=[]∧v=.nilsl)∨∃φ rows,v=.sl φ 1 rows∧Rd σ φ∧All2 (RepO σ) rows l
def FVO(σ:AS)(v:AV)(f:F):Prop:=∃pv lv tv,v=.agg [.str f.name,pv,lv,.int .i64 f.type,tv]∧IntsO σ pv f.params∧IntsO σ lv f.locals∧LstO σ tv f.lists
def FsO(σ:AS)(v:AV)(l:List F):Prop:=(l=[]∧v=.nilsl)∨∃φ rows,v=.sl φ 5 rows∧Rd σ φ∧All2 (FVO σ) rows l
def MO(σ:AS)(v:AV)(m:M):Prop:=∃fv,v=.agg [fv,.int .i64 m.memory,.int .i64 m.main]∧FsO σ fv m.funcs
theorem IntsO.one{σ v l}(h:IntsO σ v l):v.known=true∧v.one=true∧v.cells=[v]:=by rcases h with ⟨_,rfl⟩|⟨b,rfl,_⟩<;>simp
theorem RepO.one{σ v l}(h:RepO σ v l):v.known=true∧v.one=true∧v.cells=[v]:=by rcases h with ⟨_,rfl⟩|⟨b,rfl,_⟩<;>simp
theorem LstO.one{σ v l}(h:LstO σ v l):v.known=true∧v.one=true∧v.cells=[v]:=by rcases h with ⟨_,rfl⟩|⟨b,_,rfl,_⟩<;>simp
theorem FsO.one{σ v l}(h:FsO σ v l):v.known=true∧v.one=true∧v.cells=[v]:=by rcases h with ⟨_,rfl⟩|⟨b,_,rfl,_⟩<;>simp
theorem IntsO.keep{σ σ' v l}(h:IntsO σ v l)(A:zh σ σ'):IntsO σ' v l:=by
 rcases h with h|⟨φ,h,r⟩
 ·exact .inl h
 ·exact .inr ⟨φ,h,r.keep A⟩
theorem RepO.keep{σ σ' v l}(h:RepO σ v l)(A:zh σ σ'):RepO σ' v l:=by
 rcases h with h|⟨φ,h,r⟩
 ·exact .inl h
 ·exact .inr ⟨φ,h,r.keep A⟩
theorem zdL{α β:Type}{R S:α→β→Prop}{xs ys}(h:All2 R xs ys)(hs:∀x y,R x y→S x y):All2 S xs ys:=by
 induction h with
 | nil=>exact .nil
 | cons h r ih=>exact .cons (hs _ _ h) ih
theorem LstO.keep{σ σ' v l}(h:LstO σ v l)(A:zh σ σ'):LstO σ' v l:=by
 rcases h with h|⟨φ,rows,h,r,k⟩
 ·exact .inl h
 ·exact .inr ⟨φ,rows,h,r.keep A,zdL k fun _ _ q=>q.keep A⟩
theorem FVO.keep{σ σ' v l}(h:FVO σ v l)(A:zh σ σ'):FVO σ' v l:=by
 obtain⟨pv,lv,tv,h,a,b,c⟩:=h
 exact⟨pv,lv,tv,h,a.keep A,b.keep A,c.keep A⟩
theorem FsO.keep{σ σ' v l}(h:FsO σ v l)(A:zh σ σ'):FsO σ' v l:=by
 rcases h with h|⟨φ,rows,h,r,k⟩
 ·exact .inl h
 ·exact .inr ⟨φ,rows,h,r.keep A,zdL k fun _ _ q=>q.keep A⟩
theorem IntsO.len{σ v l}(h:IntsO σ v l)(K:AV→Prop):zgF yb9 44 v K=K (.int .i64 (l.length:Int)):=by rcases h with ⟨rfl,rfl⟩|⟨b,rfl,_⟩<;>simp
theorem LstO.len{σ v l}(h:LstO σ v l)(K:AV→Prop):zgF yb9 55 v K=K (.int .i64 (l.length:Int)):=by
 rcases h with ⟨rfl,rfl⟩|⟨b,rows,rfl,_,hr⟩
 ·simp
 ·simp[hr.length]
theorem FsO.len{σ v l}(h:FsO σ v l)(K:AV→Prop):zgF yb9 26 v K=K (.int .i64 (l.length:Int)):=by
 rcases h with ⟨rfl,rfl⟩|⟨b,rows,rfl,_,hr⟩
 ·simp
 ·simp[hr.length]
theorem IntsO.at{σ v l}(h:IntsO σ v l){i:Nat}(hi:i<l.length):∃φ,Rd σ φ∧∀K:AV→Prop,zw yb9 44 v (.int .i64 (i:Int)) K=K (.pv φ (.int .i64 l[i])):=by
 rcases h with ⟨rfl,_⟩|⟨φ,rfl,r⟩
 ·simp at hi
 ·exact⟨φ,r,fun K=>by simp[hi]⟩
theorem LstO.at{σ v l}(h:LstO σ v l){i:Nat}(hi:i<l.length):∃φ rv,Rd σ φ∧RepO σ rv l[i]∧∀K:AV→Prop,zw yb9 55 v (.int .i64 (i:Int)) K=K (.pv φ rv):=by
 rcases h with ⟨rfl,_⟩|⟨φ,rows,rfl,r,hr⟩
 ·simp at hi
 ·obtain⟨rv,h1,h2⟩:=hr.get (yau hi)
  exact⟨φ,rv,r,h2,fun K=>by simp[h1]⟩
theorem FsO.at{σ v l}(h:FsO σ v l){i:Nat}(hi:i<l.length):∃φ rv,Rd σ φ∧FVO σ rv l[i]∧∀K:AV→Prop,zw yb9 26 v (.int .i64 (i:Int)) K=K (.pv φ rv):=by
 rcases h with ⟨rfl,_⟩|⟨φ,rows,rfl,r,hr⟩
 ·simp at hi
 ·obtain⟨rv,h1,h2⟩:=hr.get (yau hi)
  exact⟨φ,rv,r,h2,fun K=>by simp[h1]⟩
def EI(va vb:AV)(n:Nat)(σ:AS)(a:Nat→AV)(τ:AS):Prop:=∃i:Nat,i≤n∧a 0=va∧a 1=vb∧a 5=.int .i64 (i:Int)∧zh σ τ
theorem zgg{G:Env}{σ:AS}{R:Out→AS→Prop}{va vb:AV}{l:List Int}(ha:IntsO σ va l)(hb:IntsO σ vb l)(hl:l.length≤2^40)(h:∀σ',zh σ σ'→R (.ret (.bool true)) σ'):zzQ G 79 [va,vb] σ R:=by
 refine zqv rfl ?_
 have hal:=ha.len
 have hbl:=hb.len
 simp[zF6,hal,hbl]
 refine zas (EI va vb l.length σ) (MU 5 (l.length+1)) ⟨0,by omega,by simp,by simp,by simp,.refl _⟩ fun a τ hI=>?_
 obtain⟨i,hi,a0,a1,a5,A⟩:=hI
 by_cases hlt:i<l.length
 ·obtain⟨φ,r1,hx1⟩:=(ha.keep A).at hlt
  obtain⟨ψ,r2,hx2⟩:=(hb.keep A).at hlt
  have q1:=r1.read
  have q2:=r2.read
  have w5:yb4 .i64 ((i:Int)+1)=((i+1:Nat):Int):=by rw[zc]<;>omega
  simp[zfM,a0,a1,a5,hal,hlt,hx1,hx2,w5,q1,q2]
  refine⟨⟨i+1,by omega,by simp[a0],by simp[a1],by simp,A⟩,?_⟩
  simp only[MU,a5];simp;omega
 ·simp[zfM,zmQ,a0,a1,a5,hal,hlt]
  exact h _ A
theorem zki{G:Env}{σ:AS}{R:Out→AS→Prop}{va vb:AV}{l:To}(ha:LstO σ va l)(hb:LstO σ vb l)(hl:l.length≤2^40)(hr:∀r∈l,r.length≤2^30)(h:∀σ',zh σ σ'→R (.ret (.bool true)) σ'):zzQ G 180 [va,vb] σ R:=by
 refine ztx rfl ?_
 have hal:=ha.len
 have hbl:=hb.len
 simp[zCc,hal,hbl]
 refine zas (EI va vb l.length σ) (MU 5 (l.length+1)) ⟨0,by omega,by simp,by simp,by simp,.refl _⟩ fun a τ hI=>?_
 obtain⟨i,hi,a0,a1,a5,A⟩:=hI
 by_cases hlt:i<l.length
 ·obtain⟨φ,rv1,r1,e1,hx1⟩:=(ha.keep A).at hlt
  obtain⟨ψ,rv2,r2,e2,hx2⟩:=(hb.keep A).at hlt
  have q1:=r1.read
  have q2:=r2.read
  have o1:=e1.one
  have o2:=e2.one
  have hrl:=hr _ (yaw hlt)
  have w5:yb4 .i64 ((i:Int)+1)=((i+1:Nat):Int):=by rw[zc]<;>omega
  have sl:∀{v:AV} {r:List W},RepO τ v r→SlW τ v r:=fun h=>by
   rcases h with ⟨h1,h2⟩|⟨φ,h1,h2⟩
   ·exact .inl ⟨h1,h2⟩
   ·exact .inr ⟨φ,h1,h2.read⟩
  simp[zka,a0,a1,a5,hal,hlt,hx1,hx2,q1,q2,o1,o2]
  refine zo6 (sl e1) (sl e2) hrl ?_
  simp[w5,a5]
  refine⟨⟨i+1,by omega,by simp[a0],by simp[a1],by simp,A⟩,?_⟩
  simp only[MU,a5];simp;omega
 ·simp[zka,zn1,a0,a1,a5,hal,hlt]
  exact h _ A
structure SzE(f:F):Prop where
 params:f.params.length≤2^40
 locals:f.locals.length≤2^40
 lists:f.lists.length≤2^40
 rows:∀r∈f.lists,r.length≤2^30
theorem zqF{G:Env}{σ:AS}{R:Out→AS→Prop}{va vb:AV}{f:F}(ha:FVO σ va f)(hb:FVO σ vb f)(hs:SzE f)(h:∀σ',zh σ σ'→R (.ret (.bool true)) σ'):zzQ G 140 [va,vb] σ R:=by
 refine ztb rfl ?_
 obtain⟨pa,la,ta,rfl,hpa,hla,hta⟩:=ha
 obtain⟨pb,lb,tb,rfl,hpb,hlb,htb⟩:=hb
 have a1:=hpa.one
 have a2:=hla.one
 have a3:=hta.one
 have b1:=hpb.one
 have b2:=hlb.one
 have b3:=htb.one
 simp[zB0,a1,a2,a3,b1,b2,b3]
 have A1:zh σ ((σ.newO [ycn f.name,pa,la,yco yam f.type,ta]).newO [ycn f.name,pb,lb,yco yam f.type,tb]):=(zh.refl σ).newO.newO
 have oa:((σ.newO [ycn f.name,pa,la,yco yam f.type,ta]).newO [ycn f.name,pb,lb,yco yam f.type,tb]).objs σ.no=some [ycn f.name,pa,la,yco yam f.type,ta]:=by simp
 have ob:((σ.newO [ycn f.name,pa,la,yco yam f.type,ta]).newO [ycn f.name,pb,lb,yco yam f.type,tb]).objs (σ.no+1)=some [ycn f.name,pb,lb,yco yam f.type,tb]:=by simp
 have n1:((σ.newO [ycn f.name,pa,la,yco yam f.type,ta]).newO [ycn f.name,pb,lb,yco yam f.type,tb]).no=σ.no+2:=by simp
 generalize (σ.newO [ycn f.name,pa,la,yco yam f.type,ta]).newO [ycn f.name,pb,lb,yco yam f.type,tb]=σ1 at *
 refine zgg (hpa.keep A1) (hpb.keep A1) hs.params fun σ2 A2=>?_
 have oa2:=(A2.obj _ (by omega)).trans oa
 have ob2:=(A2.obj _ (by omega)).trans ob
 have n2:=A2.no
 have B2:=A1.trans A2
 simp[oa2,ob2,a1,a2,a3,b1,b2,b3]
 refine zgg (hla.keep B2) (hlb.keep B2) hs.locals fun σ3 A3=>?_
 have oa3:=(A3.obj _ (by omega)).trans oa2
 have ob3:=(A3.obj _ (by omega)).trans ob2
 have B3:=B2.trans A3
 simp[oa3,ob3,a1,a2,a3,b1,b2,b3]
 refine zki (hta.keep B3) (htb.keep B3) hs.lists hs.rows fun σ4 A4=>?_
 simp
 exact h _ (B3.trans A4)
theorem zo7{G:Env}{σ:AS}{R:Out→AS→Prop}{va vb:AV}{l:List F}(ha:FsO σ va l)(hb:FsO σ vb l)(hl:l.length≤2^40)(hs:∀f∈l,SzE f)(h:∀σ',zh σ σ'→R (.ret (.bool true)) σ'):zzQ G 74 [va,vb] σ R:=by
 refine zxl rfl ?_
 have hal:=ha.len
 have hbl:=hb.len
 simp[zJW,hal,hbl]
 refine zas (EI va vb l.length σ) (MU 5 (l.length+1)) ⟨0,by omega,by simp,by simp,by simp,.refl _⟩ fun a τ hI=>?_
 obtain⟨i,hi,a0,a1,a5,A⟩:=hI
 by_cases hlt:i<l.length
 ·obtain⟨φ,rv1,r1,e1,hx1⟩:=(ha.keep A).at hlt
  obtain⟨ψ,rv2,r2,e2,hx2⟩:=(hb.keep A).at hlt
  have q1:=r1.read
  have q2:=r2.read
  have hsz:=hs _ (yaw hlt)
  generalize l[i]=f at *
  have w5:yb4 .i64 ((i:Int)+1)=((i+1:Nat):Int):=by rw[zc]<;>omega
  have f1:=e1
  have f2:=e2
  obtain⟨pa,la,ta,rfl,hpa,hla,hta⟩:=e1
  obtain⟨pb,lb,tb,rfl,hpb,hlb,htb⟩:=e2
  have o1:=hpa.one
  have o2:=hla.one
  have o3:=hta.one
  have o4:=hpb.one
  have o5:=hlb.one
  have o6:=htb.one
  simp[zmP,a0,a1,a5,hal,hlt,hx1,hx2,q1,q2,o1,o2,o3,o4,o5,o6]
  refine zqF f1 f2 hsz fun σ2 A2=>?_
  simp[w5,a5]
  refine⟨⟨i+1,by omega,by simp[a0],by simp[a1],by simp,A.trans A2⟩,?_⟩
  simp only[MU,a5];simp;omega
 ·simp[zmP,zqu,a0,a1,a5,hal,hlt]
  exact h _ A
theorem eqM_calls{G:Env}{σ:AS}{R:Out→AS→Prop}{va vb:AV}{m:M}(ha:MO σ va m)(hb:MO σ vb m)(hl:m.funcs.length≤2^40)(hs:∀f∈m.funcs,SzE f)(h:∀σ',zh σ σ'→R (.ret (.bool true)) σ'):zzQ G 22 [va,vb] σ R:=by
 refine zw2 rfl ?_
 obtain⟨fa,rfl,hfa⟩:=ha
 obtain⟨fb,rfl,hfb⟩:=hb
 have a1:=hfa.one
 have b1:=hfb.one
 simp[zJJ,a1,b1]
 have A1:zh σ ((σ.newO [fa,yco yam m.memory,yco yam m.main]).newO [fb,yco yam m.memory,yco yam m.main]):=(zh.refl σ).newO.newO
 refine zo7 (hfa.keep A1) (hfb.keep A1) hl hs fun σ2 A2=>?_
 simp
 exact h _ (A1.trans A2)
theorem zIU{σ:AS}{v l}(h:zo4 v l):RepO σ v l:=by
 rcases h with h|⟨b,h⟩
 ·exact .inl h
 ·exact .inr ⟨_,h,trivial⟩
theorem zvU{σ:AS}{v l}(h:zZ v l):IntsO σ v l:=by
 rcases h with h|⟨b,h⟩
 ·exact .inl h
 ·exact .inr ⟨_,h,trivial⟩
theorem zxH{σ:AS}{v l}(h:zcs v l):LstO σ v l:=by
 rcases h with h|⟨b,rows,h,k⟩
 ·exact .inl h
 ·exact .inr ⟨_,rows,h,trivial,zdL k fun _ _ q=>zIU q⟩
theorem m_o{σ:AS}{v m}(h:MV v m):MO σ v m:=by
 obtain⟨fv,rfl,hf⟩:=h
 refine⟨fv,rfl,?_⟩
 rcases hf with h|⟨b,rows,h,k⟩
 ·exact .inl h
 ·refine .inr ⟨_,rows,h,trivial,zdL k fun _ _ q=>?_⟩
  obtain⟨pv,lv,tv,h,a,b,c⟩:=q
  exact⟨pv,lv,tv,h,zvU a,zvU b,zxH c⟩
end Go.Proofs.YtohfclafhegadaaGreatDoor.Al
namespace Go.Proofs.YtohfclafhegadaaGreatDoor.Al
open Go Go.Abs Go.Proofs.YtohfclafhegadaaGreatDoor
theorem zIV{σ:AS}(h0:0<σ.nf∧σ.F 0=.alive){v l}(h:RepE v l):RepO σ v l:=by
 rcases h with h|⟨b,h⟩
 ·exact .inl h
 ·exact .inr ⟨_,h,h0⟩
theorem zvV{σ:AS}(h0:0<σ.nf∧σ.F 0=.alive){v l}(h:IntsE v l):IntsO σ v l:=by
 rcases h with ⟨rfl,h|⟨b,h⟩⟩|⟨b,h⟩
 ·exact .inl ⟨rfl,h⟩
 ·exact .inr ⟨_,h,trivial⟩
 ·exact .inr ⟨_,h,h0⟩
theorem zui{R:AV→F × Nat→Prop}{S:AV→F→Prop}{rows:List AV}{ps:List (F × Nat)}(h:All2 R rows ps)(hs:∀v p,p∈ps→R v p→S v p.1):All2 S rows (ps.map Prod.fst):=by
 induction h with
 | nil=>exact .nil
 | cons h r ih=>exact .cons (hs _ _ (by simp) h) (ih fun v p hp=>hs v p (by simp[hp]))
theorem m_e{σ:AS}{base:Nat}(h0:0<σ.nf∧σ.F 0=.alive){v m}(h:ME σ base v m):MO σ v m:=by
 obtain⟨fv,rfl,hf⟩:=h
 refine⟨fv,rfl,?_⟩
 rcases hf with h|⟨g,rows,ps,rfl,q1,q2,q3,q4,q5,q6⟩
 ·exact .inl h
 ·refine .inr ⟨_,rows,rfl,⟨q2,q3⟩,?_⟩
  rw[←q4]
  refine zui q5 fun v p hp ⟨pv,lv,tv,e,a,b,c⟩=>⟨pv,lv,tv,e,zvV h0 a,zvV h0 b,?_⟩
  obtain⟨u1,u2,u3,u4⟩:=q6.each p.2 (List.mem_map_of_mem hp)
  rcases c with c|⟨tos,rfl,c⟩
  ·exact .inl c
  ·exact .inr ⟨_,tos,rfl,⟨u2,u3⟩,zdL c fun _ _ q=>zIV h0 q⟩
end Go.Proofs.YtohfclafhegadaaGreatDoor.Al
namespace Go.Proofs.YtohfclafhegadaaGreatDoor
open Go Go.Abs
def okT(t:List UInt8):Bool:=match t with
 | []=>true
 | c::r=>zaf c&&r.all fun x=>zaf x||zJ x
theorem zqG(t:List UInt8):zhF 24 t=(decide (1≤t.length∧t.length≤24)&&okT t):=by
 cases t with
 | nil=>rfl
 | cons c r =>
  have:(1≤(c::r).length)=True:=by simp
  simp only[zhF,okT,this,true_and]
theorem zuj(d:List UInt8)(c:UInt8):okT (d++[c])=(okT d&&(if d=[]then zaf c else zaf c||zJ c)):=by
 cases d with
 | nil=>simp[okT]
 | cons x r=>simp[okT,Bool.and_assoc]
theorem zxI(d r:List UInt8)(h:okT d=false):okT (d++r)=false:=by
 cases d with
 | nil=>cases h
 | cons x y =>
  simp only[okT,ycp,ycb]at *
  cases h1:zaf x with
  | false=>simp
  | true=>simp[h1]at h;simp;intro a;exact absurd a (by simpa using h)
section
variable {G : Env} {σ : AS} {R : Out → AS → Prop}
def TgI(t:List UInt8)(σ:AS)(a:Nat→AV)(τ:AS):Prop:=∃(d r:List UInt8),t=d++r∧okT d=true∧a 0=.str t∧a 3=.int .i64 (d.length:Int)∧τ=σ
theorem zEk{t:List UInt8}(hl:t.length<2^40)(h:R (.ret (.bool (zhF 24 t))) σ):zzQ G 51 [.str t] σ R:=by
 refine zw7 rfl ?_
 rw[zqG]at h
 simp[zJN]
 refine zas (TgI t σ) (MU 3 (t.length+1)) ⟨[],t,rfl,rfl,by simp,by simp,rfl⟩ fun a τ hI=>?_
 obtain⟨d,r,hdr,hok,a0,a3,rfl⟩:=hI
 cases r with
 | nil =>
  have e:t=d:=by simpa using hdr
  have e2:d.length=t.length:=by rw[e]
  rw[e2]at a3
  rw[e,hok]at h
  rw[←e]at h
  by_cases h1:1≤t.length
  ·have h1i:(1:Int)≤(t.length:Int):=by omega
   by_cases h2:t.length≤24
   ·have h2i:(t.length:Int)≤24:=by omega
    simp[zbO,zjX,a0,a3,h1,h1i,h2,h2i]
    simpa [h1,h2]using h
   ·have h2i:¬(t.length:Int)≤24:=by omega
    simp[zbO,zjX,a0,a3,h1,h1i,h2,h2i]
    simpa [h1,h2]using h
  ·have h1i:¬(1:Int)≤(t.length:Int):=by omega
   simp[zbO,zjX,a0,a3,h1,h1i]
   simpa [h1]using h
 | cons c r =>
  have hlt:d.length<t.length:=by simp[hdr]
  have hlti:(d.length:Int)<(t.length:Int):=by omega
  have hi:t[d.length]'hlt=c:=by simp[hdr]
  have w1:yb4 .i64 ((d.length:Int)+1)=((d.length+1:Nat):Int):=by rw[zc]<;>omega
  have e1:t=(d++[c])++r:=by simp[hdr]
  have bad:okT (d++[c])=false→R (.ret (.bool false)) τ:=fun q=>by
   have:okT t=false:=by rw[e1];exact zxI _ _ q
   rw[this]at h
   simpa using h
  have good:∀a':Nat→AV,okT (d++[c])=true→a' 0=.str t→a' 3=.int .i64 ((d.length+1:Nat):Int)→TgI t τ a' τ∧MU 3 (t.length+1) a' τ<MU 3 (t.length+1) a τ:=fun a' q q0 q3=>by
   refine⟨⟨d++[c],r,e1,q,q0,by simpa using q3,rfl⟩,?_⟩
   simp[MU,a3,q3];omega
  rw[zuj,hok,Bool.true_and]at bad good
  have hc255:=c.toNat_lt
  by_cases hL:97≤c.toNat∧c.toNat≤122
  ·have l1:(97:Int)≤(c.toNat:Int):=by omega
   have l2:(c.toNat:Int)≤122:=by omega
   have hl:zaf c=true:=by simp[zaf,hL]
   simp[zbO,a0,a3,hlt,hlti,hi,hL,l1,l2,w1]
   refine good _ ?_ ?_ ?_
   ·rw[hl];split<;>rfl
   ·simp[a0]
   ·simp
  ·by_cases h95:c=95
   ·subst h95
    simp[zbO,a0,a3,hlt,hlti,hi,w1]
    refine good _ ?_ ?_ ?_
    ·have:zaf 95=true:=by decide
     rw[this];split<;>rfl
    ·simp[a0]
    ·simp
   ·have h95i:¬(c.toNat:Int)=95:=fun e=>h95 (UInt8.toNat_inj.1 (show c.toNat=(95:UInt8).toNat by have:(95:UInt8).toNat=95:=rfl;omega))
    have h95n:¬c.toNat=95:=by omega
    have hl:zaf c=false:=by
     simp only[zaf,Bool.or_eq_false_iff,beq_eq_false_iff_ne,ne_eq,h95,not_false_iff,and_true]
     by_cases q:97≤c.toNat
     ·have:¬c.toNat≤122:=fun q2=>hL ⟨q,q2⟩
      simp[this]
     ·simp[q]
    have pre:∀b97:Bool,decide ((97:Int)≤(c.toNat:Int))=b97→(b97=true→¬(c.toNat:Int)≤122):=fun b e q=>by
     subst q
     have:=of_decide_eq_true e
     omega
    by_cases h97:(97:Int)≤(c.toNat:Int)
    ·have h122:¬(c.toNat:Int)≤122:=by omega
     have h97n:97≤c.toNat:=by omega
     have h122n:¬c.toNat≤122:=by omega
     have hdg:zJ c=false:=by simp[zJ];omega
     by_cases hd0:d=[]
     ·subst hd0
      simp at a3
      have hi0:t[0]'hlt=c:=hi
      have hlt0:0<t.length:=hlt
      have hlti0:(0:Int)<(t.length:Int):=by omega
      simp[zbO,a0,a3,hlt0,hlti0,hi0,h97,h122,h97n,h122n,h95i,h95n,h95,w1]
      exact bad (by simp[hl])
     ·have hdi:¬(d.length:Int)=0:=by have:=ybm.2 hd0;omega
      have hdn:¬d.length=0:=by omega
      have h48:¬(c.toNat:Int)<48:=by omega
      have h48n:¬c.toNat<48:=by omega
      have h57:(57:Int)<(c.toNat:Int):=by omega
      have h57n:57<c.toNat:=by omega
      simp[zbO,a0,a3,hlt,hlti,hi,h97,h122,h97n,h122n,h95i,h95n,h95,w1,hdi,hdn,hd0,h48,h48n,h57,h57n]
      exact bad (by simp[hl,hd0,hdg])
    ·have h97n:¬97≤c.toNat:=by omega
     by_cases hd0:d=[]
     ·subst hd0
      simp at a3
      have hi0:t[0]'hlt=c:=hi
      have hlt0:0<t.length:=hlt
      have hlti0:(0:Int)<(t.length:Int):=by omega
      simp[zbO,a0,a3,hlt0,hlti0,hi0,h97,h97n,h95i,h95n,h95,w1]
      exact bad (by simp[hl])
     ·have hdi:¬(d.length:Int)=0:=by have:=ybm.2 hd0;omega
      have hdn:¬d.length=0:=by omega
      by_cases h48:(c.toNat:Int)<48
      ·have h48n:c.toNat<48:=by omega
       have hdg:zJ c=false:=by simp[zJ];omega
       simp[zbO,a0,a3,hlt,hlti,hi,h97,h97n,h95i,h95n,h95,w1,hdi,hdn,hd0,h48,h48n]
       exact bad (by simp[hl,hd0,hdg])
      ·have h48n:¬c.toNat<48:=by omega
       by_cases h57:(57:Int)<(c.toNat:Int)
       ·have h57n:57<c.toNat:=by omega
        have hdg:zJ c=false:=by simp[zJ];omega
        simp[zbO,a0,a3,hlt,hlti,hi,h97,h97n,h95i,h95n,h95,w1,hdi,hdn,hd0,h48,h48n,h57,h57n]
        exact bad (by simp[hl,hd0,hdg])
       ·have h57n:¬57<c.toNat:=by omega
        have hdg:zJ c=true:=by simp[zJ];omega
        simp[zbO,a0,a3,hlt,hlti,hi,h97,h97n,h95i,h95n,h95,w1,hdi,hdn,hd0,h48,h48n,h57,h57n]
        refine good _ ?_ ?_ ?_
        ·simp[hl,hd0,hdg]
        ·simp[a0]
        ·simp
end
def zch:List AV:=(signs.map fun p=>[ycn p.1,ycn p.2]).flatten
structure zkj(G:Env):Prop where
 signs:G.g 10=.pv (.stat true) (.agg zch)
 max:∃m,G.g 11=.pv (.stat true) (.int .i64 m)
theorem zbE{G:Env}{σ:AS}{R:Out→AS→Prop}{t:Int}(h:R (.ret (.bool (zT t))) σ):zzQ G 107 [.int .i64 t] σ R:=by
 refine zsP rfl ?_
 unfold zT at h
 by_cases h1:t=1
 ·simp[h1]at h
  simp[zsO,h1];exact h
 ·by_cases h2:t=2
  ·simp[h2]at h
   simp[zsO,h2];exact h
  ·simp[h1,h2]at h
   simp[zsO,h1,h2];exact h
def zit(e:Int):AV:=.iface 71 (.agg [.int .i64 e])
theorem zd{G:Env}{σ:AS}{R:Out→AS→Prop}{b:Bool}{e:Int}(h1:b=true→R (.ret (.tuple [])) σ)(h2:b=false→R (.panic (zit e)) σ):zzQ G 53 [.bool b,.int .i64 e] σ R:=by
 refine zw8 rfl ?_
 cases b with
 | true=>simp[zIj,splice];exact h1 rfl
 | false=>simp[zIj,splice];exact h2 rfl
theorem zhI{G:Env}{σ:AS}{R:Out→AS→Prop}{t n:Int}(h:R (.ret (.bool (zfe t n))) σ):zzQ G 228 [.int .i64 t,.int .i64 n] σ R:=by
 refine ztV rfl ?_
 unfold zfe at h
 by_cases h1:t=1
 ·by_cases h2:n=1
  ·simp[h1,h2]at h;simp[zmS,h1,h2];exact h
  ·by_cases h4:n=4
   ·simp[h1,h4]at h;simp[zmS,h1,h4];exact h
   ·simp[h1,h2,h4]at h;simp[zmS,h1,h2,h4];exact h
 ·by_cases h2:t=2
  ·by_cases h8:n=8
   ·simp[h2,h8]at h;simp[zmS,h2,h8];exact h
   ·simp[h2,h8]at h;simp[zmS,h2,h8];exact h
  ·simp[h1,h2]at h;simp[zmS,h1,h2];exact h
theorem zlG(k:IntKind)(n:Int)(h:k=.i8∨k=.i32):yb4 .i64 (k.wrap n)=k.wrap n:=by
 have hb:-2147483648≤k.wrap n∧k.wrap n≤2147483647:=by
  rcases h with rfl|rfl<;>simp only[yb4,yao,yap]<;>simp<;>omega
 rw[zc]<;>omega
theorem ziY{G:Env}{σ:AS}{R:Out→AS→Prop}{t v:Int}(h:R (.ret (.int .i64 (zue t v))) σ):zzQ G 220 [.int .i64 t,.int .i64 v] σ R:=by
 refine ztQ rfl ?_
 unfold zue at h
 by_cases h3:t=3
 ·simp[h3]at h;simp[zqy,h3,zlG];exact h
 ·by_cases h1:t=1
  ·simp[h1]at h;simp[zqy,h1,zlG];exact h
  ·by_cases h2:t=2
   ·simp[h2]at h;simp[zqy,h2];exact h
   ·simp[h1,h2,h3]at h;simp[zqy,h1,h2,h3];exact h
def GI(s:List UInt8)(σ:AS)(a:Nat→AV)(τ:AS):Prop:=∃i:Nat,i≤16∧a 0=.str s∧a 5=.agg zch∧a 6=.int .i64 (i:Int)∧zbf (signs.drop i) s=zbf signs s∧zh σ τ
theorem zob:∀(l:List (List UInt8 × List UInt8)) (i:Nat) (p:List UInt8 × List UInt8),l[i]?=some p→(((l.map fun p=>[ycn p.1,ycn p.2]).flatten).drop (i*2)).take 2=[.str p.1,.str p.2]
 | [],i,p,h=>by simp at h
 | q::l,0,p,h=>by simp at h;subst h;rfl
 | q::l,i+1,p,h=>by
  have:=zob l i p (by simpa using h)
  rw[show(i+1)*2=i*2+1+1 from by omega]
  simpa using this
theorem zuk(i:Nat)(h:i<16):∃p,signs[i]?=some p∧(zch.drop (i*2)).take 2=[.str p.1,.str p.2] :=
 ⟨_,yau h,zob signs i _ (yau h)⟩
theorem ziZ{G:Env}(V:zkj G){σ:AS}{R:Out→AS→Prop}{s:List UInt8}(h:∀σ',zh σ σ'→R (.ret (.str (zbf signs s))) σ'):zzQ G 219 [.str s] σ R:=by
 refine ztP rfl ?_
 have hg:=V.signs
 have hl:zch.length=32:=rfl
 simp[zCi,hg,hl]
 refine zas (GI s σ) (MU 6 17) ⟨0,by omega,by simp,by simp,by simp,rfl,.refl _⟩ fun a τ hI=>?_
 obtain⟨i,hi,a0,a5,a6,hs,A⟩:=hI
 by_cases hlt:i<16
 ·obtain⟨p,hp,hc⟩:=zuk i hlt
  have hd:signs.drop i=p::signs.drop (i+1):=by
   obtain⟨hi',e⟩:=yaq.1 hp
   rw[ycq hi',e]
  have hlt':(i:Int)<16:=by omega
  have hw3:yb4 .i64 ((i:Int)+1)=((i+1:Nat):Int):=by rw[zc]<;>omega
  have hle:i*2+2≤32:=by omega
  obtain⟨x,y⟩:=p
  rw[hd,zbf]at hs
  by_cases he:x=s
  ·rw[if_pos he]at hs
   simp[zgP,a0,a5,a6,hlt',hl,hle,zaA,hc,splice,he]
   rw[hs]
   exact h _ ((A.newO).setO (by have:=A.no;omega))
  ·rw[if_neg he]at hs
   simp[zgP,a0,a5,a6,hlt',hl,hle,zaA,hc,splice,he,hw3]
   refine⟨⟨i+1,by omega,by simp[a0],by simp[a5],by simp,hs,(A.newO).setO (by have:=A.no;omega)⟩,?_⟩
   simp[MU,a6];omega
 ·have he:i=16:=by omega
  subst he
  have:zbf signs s=[]:=by rw[←hs];rfl
  rw[this]at h
  simp[zgP,zn5,a6]
  exact h _ A
@[simp] theorem grown_full_cons{KS:AV→AS→Prop}{σ:AS}(el bs sz f s' xs y ys):zcc el bs sz (.sl (.fam f true) s' xs) (y::ys) σ KS=(s'=sz∧(xs.length+(y::ys).length)*bs≤2^47∧σ.F f=.alive∧KS (.sl (.fam σ.nf false) sz (xs++y::ys)) σ.newF):=by simp[zcc]
@[simp] theorem zxJ{P:Program}{G:Env}{n:Nat}{pa pb:PC}{ps:List Nat}{f0:Nat}{a:Nat→AV}{l:Nat}{args:List AV}{σ:AS}{K PK:AV→AS→Prop}:
  zlc P (G.under P n pa pb ps f0 a l) (.fn (.yield l) [] []) args σ K PK=(args.length=ps.length∧σ.F f0=.alive∧avc P G n pa (zbd (fun a1 σ1=>σ1.F f0=.alive∧avc P G n pb (rq f0 K PK) a1 σ1) fun _ _ _=>False) (upds a ps args) σ):=by
 simp[zlc,Env.under,zvG]
@[simp] theorem zEl(f0:Nat)(K PK:AV→AS→Prop)(a:Nat→AV)(σ:AS):rq f0 K PK .normal a σ=(σ.F f0=.alive∧K (.bool true) σ):=Eq.trans rfl rfl
@[simp] theorem zHj(f0:Nat)(K PK:AV→AS→Prop)(v:AV)(a:Nat→AV)(σ:AS):rq f0 K PK (.panic v) a σ=(σ.F f0=.alive∧PK v { σ with F:=upd σ.F f0 .dead }):=Eq.trans rfl rfl
def zby(l:List Int):List AV:=l.map (.int .i64)
def SV(σ:AS)(sv:AV)(st:List Int):Prop:=(st=[]∧sv=.nilsl)∨∃g b,sv=.sl (.fam g b) 1 (zby st)∧g<σ.nf∧σ.F g=.alive
def zm4(σ:AS)(x f:Nat):Prop:=∃cs v,σ.objs x=some cs∧cs[1]?=some v∧zcA v=some f
structure zaR(x:Nat)(σ σ':AS):Prop where
 no:σ.no≤σ'.no
 nf:σ.nf≤σ'.nf
 obj:∀o,o<σ.no→o≠x→σ'.objs o=σ.objs o
 fam:∀f,f<σ.nf→¬zm4 σ x f→σ'.F f=σ.F f
 use:∀f,f<σ.nf→zm4 σ' x f→zm4 σ x f
theorem zaR.refl(x σ):zaR x σ σ:=⟨yah _,yah _,fun _ _ _=>rfl,fun _ _ _=>rfl,fun _ _ h=>h⟩
theorem zaR.trans{x σ σ1 σ2}(h:zaR x σ σ1)(h':zaR x σ1 σ2):zaR x σ σ2 where
 no:=yai h.no h'.no
 nf:=yai h.nf h'.nf
 obj o a b:=by rw[h'.obj o (yag a h.no) b,h.obj o a b]
 fam f a b:=by rw[h'.fam f (yag a h.nf) fun u=>b (h.use f a u),h.fam f a b]
 use f a u:=h.use f a (h'.use f (yag a h.nf) u)
theorem zh.keepL{x σ σ'}(h:zh σ σ')(hx:x<σ.no):zaR x σ σ' where
 no:=h.no
 nf:=h.nf
 obj o a _:=h.obj o a
 fam f a _:=h.fam f a
 use f _ u:=by unfold zm4 at *;rwa [h.obj x hx]at u
def LS(σ:AS)(x c:Nat)(s:St)(deep:Int):Prop:=x<σ.no∧∃sv,σ.objs x=some [.ptr c 0,sv,.bool s.any,.int .i64 deep]∧SV σ sv s.stack
theorem LS.adds{σ σ' x c s deep}(h:LS σ x c s deep)(A:zh σ σ'):LS σ' x c s deep:=by
 obtain⟨hx,sv,ho,hs⟩:=h
 refine⟨yag hx A.no,sv,(A.obj x hx).trans ho,?_⟩
 rcases hs with hs|⟨g,b,e,h1,h2⟩
 ·exact .inl hs
 ·exact .inr ⟨g,b,e,yag h1 A.nf,(A.fam g h1).trans h2⟩
def zr6(R:Out→AS→Prop)(x c:Nat)(deep:Int)(σ:AS):Res St→Prop
 | .ok s'=>∀σ',zaR x σ σ'→LS σ' x c s' deep→R (.ret (.tuple [])) σ'
 | .error e=>∀σ',zaR x σ σ'→R (.panic (zit e)) σ'
theorem zaR.set{x σ cs}(hx:x<σ.no)(h:∀f v,f<σ.nf→cs[1]?=some v→zcA v=some f→zm4 σ x f):zaR x σ (σ.setO x cs) where
 no:=yah _
 nf:=yah _
 obj o _ ho:=by simp[ho]
 fam f _ _:=rfl
 use f hf u:=by
  obtain⟨cs',v,h1,h2,h3⟩:=u
  simp at h1
  subst h1
  exact h f v hf h2 h3
theorem zfR{G:Env}{σ:AS}{R:Out→AS→Prop}{x c:Nat}{s:St}{deep:Int}(L:LS σ x c s deep)(hb:s.stack.length≤2^40)(h:zr6 R x c deep σ (zdm s)):zzQ G 231 [.ptr x 0] σ R:=by
 refine ztY rfl ?_
 have L0:=L
 obtain⟨hx,sv,ho,hs⟩:=L
 unfold zdm at h
 rcases hs with ⟨hnil,rfl⟩|⟨g,b,rfl,hg1,hg2⟩
 ·have hl:s.stack.length=0:=by rw[hnil];rfl
  rw[if_pos hl]at h
  cases ha:s.any with
  | true =>
   rw[ha]at ho h
   rw[if_pos rfl]at h
   simp[zmU,ho]
   exact h σ (.refl _ _) L0
  | false =>
   rw[ha]at ho h
   rw[if_neg (by simp)]at h
   simp[zmU,ho]
   refine zd (fun q=>by simp at q) fun _=>?_
   exact h σ (.refl _ _)
 ·have hlA:(zby s.stack).length=s.stack.length:=by simp[zby]
  by_cases hl:s.stack.length=0
  ·rw[if_pos hl]at h
   have hl2:zby s.stack=[]:=ybS.1 (by omega)
   cases ha:s.any with
   | true =>
    rw[ha]at ho h
    rw[if_pos rfl]at h
    simp[zmU,ho,hl2]
    exact h σ (.refl _ _) L0
   | false =>
    rw[ha]at ho h
    rw[if_neg (by simp)]at h
    simp[zmU,ho,hl2]
    refine zd (fun q=>by simp at q) fun _=>?_
    exact h σ (.refl _ _)
  ·rw[if_neg hl]at h
   have hl2:¬((zby s.stack).length:Int)=0:=by omega
   have hl3:(0:Int)<((zby s.stack).length:Int):=by omega
   have hne:¬zby s.stack=[]:=fun q=>by rw[q]at hl2;simp at hl2
   have hpos:0<(zby s.stack).length:=by omega
   have hw:yb4 .i64 (((zby s.stack).length:Int)-1)=(((zby s.stack).length-1:Nat):Int):=by rw[zc]<;>omega
   have e:(zby s.stack).take ((zby s.stack).length-1)=zby s.stack.dropLast:=by
    rw[hlA];unfold zby;rw[←List.map_take,List.dropLast_eq_take]
   simp[zmU,ho,hne,hpos,splice]
   refine zd (fun _=>?_) (fun q=>by simp at q)
   simp[zmU,ho,hne,hpos,splice,hw]
   rw[e]
   refine h _ (.set hx fun f v hf hv hfam=>?_) ⟨by simpa using hx,_,by simp,.inr ⟨g,true,rfl,hg1,hg2⟩⟩
   simp at hv
   subst hv
   simp[zcA]at hfam
   subst hfam
   exact⟨_,_,ho,rfl,rfl⟩
theorem zqH(σ:AS)(x:Nat)(a b:List AV):(σ.setO x a).setO x b=σ.setO x b:=by
 unfold AS.setO
 congr 1
 funext j
 simp only[upd]
 split<;>rfl
theorem zb4{G:Env}{σ:AS}{R:Out→AS→Prop}{x c:Nat}{s:St}{deep:Int}(L:LS σ x c s deep)(h:∀σ',zaR x σ σ'→LS σ' x c zmV deep→R (.ret (.tuple [])) σ'):zzQ G 195 [.ptr x 0] σ R:=by
 refine ztF rfl ?_
 obtain⟨hx,sv,ho,hs⟩:=L
 simp[zCe,ho,splice]
 rw[zqH]
 refine h _ ((zaR.set (cs:=[.ptr c 0,.nilsl,.bool true,.int .i64 deep]) hx fun f v hf hv hfam=>?_)) ⟨by simpa using hx,_,by simp[zmV],.inl ⟨rfl,rfl⟩⟩
 simp at hv
 subst hv
 simp[zcA]at hfam
theorem zaR.grow{x:Nat}{σ σ1:AS}{cs:List AV}(hx:x<σ.no)(ho:σ1.objs=σ.objs)(hno:σ1.no=σ.no)(hnf:σ.nf≤σ1.nf)(hF:∀f,f<σ.nf→¬zm4 σ x f→σ1.F f=σ.F f)(h:∀f v,f<σ.nf→cs[1]?=some v→zcA v=some f→False):zaR x σ (σ1.setO x cs) where
 no:=by simp[hno]
 nf:=by simpa using hnf
 obj o _ hne:=by simp[hne,ho]
 fam f hf hu:=hF f hf hu
 use f hf u:=by
  obtain⟨cs',v,h1,h2,h3⟩:=u
  simp at h1
  subst h1
  exact(h f v hf h2 h3).elim
theorem zal{G:Env}{σ:AS}{R:Out→AS→Prop}{x c:Nat}{s:St}{deep t:Int}(L:LS σ x c s deep)(hb:s.stack.length≤2^40)(h:∀σ',zaR x σ σ'→LS σ' x c (zc3 s t) deep→R (.ret (.tuple [])) σ'):zzQ G 194 [.ptr x 0,.int .i64 t] σ R:=by
 refine ztE rfl ?_
 have L0:=L
 obtain⟨hx,sv,ho,hs⟩:=L
 by_cases ht:t=0
 ·have e:zc3 s t=s:=by simp[zc3,ht]
  rw[e]at h
  simp[zqx,ht]
  exact h σ (.refl _ _) L0
 ·have e:zc3 s t={ s with stack:=s.stack++[t] }:=by simp[zc3,ht]
  rw[e]at h
  rcases hs with ⟨hnil,rfl⟩|⟨g,b,rfl,hg1,hg2⟩
  ·simp[zqx,ht,ho,splice]
   refine h _ (.grow hx rfl rfl (by simp) (fun f hf _=>by simp;omega) fun f v hf hv hfam=>?_) ⟨by simpa using hx,.sl (.fam σ.nf false) 1 (zby (s.stack++[t])),by simp[hnil,zby],.inr ⟨σ.nf,false,rfl,by simp,by simp⟩⟩
   ·simp at hv;subst hv;simp[zcA]at hfam;omega
  ·have hlA:(zby s.stack).length=s.stack.length:=by simp[zby]
   have ea:zby s.stack++[.int .i64 t]=zby (s.stack++[t]):=by simp[zby]
   cases b with
   | true =>
    simp[zqx,ht,ho,splice,hg2,hlA]
    refine⟨by omega,h _ (.grow hx rfl rfl (by simp) (fun f hf _=>by simp;omega) fun f v hf hv hfam=>?_) ⟨by simpa using hx,.sl (.fam σ.nf false) 1 (zby (s.stack++[t])),by simp[zby],.inr ⟨σ.nf,false,rfl,by simp,by simp⟩⟩⟩
    ·simp at hv;subst hv;simp[zcA]at hfam;omega
   | false =>
    simp[zqx,ht,ho,splice,hg2,hlA]
    refine⟨by omega,h _ (.grow hx rfl rfl (by simp) (fun f hf hu=>?_) fun f v hf hv hfam=>?_) ⟨by simpa using hx,.sl (.fam σ.nf false) 1 (zby (s.stack++[t])),by simp[zby],.inr ⟨σ.nf,false,rfl,by simp,by simp⟩⟩⟩
    ·have:f≠g:=by rintro rfl;exact hu ⟨_,_,ho,rfl,rfl⟩
     simp[this];omega
    ·simp at hv;subst hv;simp[zcA]at hfam;omega
theorem ziu{G:Env}{σ:AS}{R:Out→AS→Prop}{tv:AV}(hk:tv.known=true)(hc:tv.cells=[tv])(h:R (.ret (.fn (.func 250) [] [.ptr σ.no 0])) (σ.newO [tv])):zzQ G 230 [tv] σ R:=by
 refine ztX rfl ?_
 simp[zCk,hk,hc]
 exact h
theorem zo8(t:Int)(ts:List Int)(s:St):zW (t::ts) s=if s.stack.length=0∨s.stack.getLast?=some t then(match zdm s with|.ok s'=>zW ts s'|.error e=>.error e)else .error 14:=rfl
theorem zgS{s s':St}(h:zdm s=.ok s'):s'.stack.length≤s.stack.length:=by
 unfold zdm at h
 split at h
 ·split at h
  ·cases h;exact yah _
  ·cases h
 ·cases h;simp
@[simp] theorem zHk(a:Nat→AV)(p q:Nat)(x y:AV):upds a [p,q] [x,y]=upd (upd a p x) q y:=Eq.trans rfl rfl
theorem SV.len{σ:AS}{sv:AV}{st:List Int}(h:SV σ sv st)(K:AV→Prop):zgF yb9 44 sv K=K (.int .i64 (st.length:Int)):=by
 rcases h with ⟨rfl,rfl⟩|⟨g,b,rfl,_⟩
 ·simp
 ·simp[zby]
theorem SV.last{σ:AS}{sv:AV}{st:List Int}(h:SV σ sv st)(hn:0<st.length):∃φ v,zm σ.F φ∧st.getLast?=some v∧∀(n:Int),n=(st.length:Int)-1→∀K:AV→Prop,zw yb9 44 sv (.int .i64 n) K=K (.pv φ (.int .i64 v)):=by
 rcases h with ⟨rfl,_⟩|⟨g,b,rfl,_,hg⟩
 ·simp at hn
 ·refine⟨.fam g b,st[st.length-1],hg,by rw[List.getLast?_eq_getElem?,yau (by omega)],fun n hn2 K=>?_⟩
  have e:n.toNat=st.length-1:=by omega
  have h0:0≤n:=by omega
  have hlt:st.length-1<st.length:=by omega
  simp[zby,e,h0,hlt]
def TI(x c:Nat)(deep:Int)(o f0 l:Nat)(σN:AS)(ts:List Int)(s0:St)(a:Nat→AV)(τ:AS):Prop:=∃(i:Nat) (s:St),i≤ts.length∧a 0=.fn (.yield l) [] []∧a 1=.ptr o 0∧a 3=.int .i64 ((i:Int)-1)∧LS τ x c s deep∧zaR x σN τ∧s.stack.length≤s0.stack.length ∧
 zW (ts.take i).reverse s=zW ts.reverse s0
def TM(a:Nat→AV)(_:AS):Nat:=match a 3 with|.int _ n=>(n+1).toNat|_=>0
theorem za6{G:Env}{σ:AS}{R:Out→AS→Prop}{x c:Nat}{s:St}{deep:Int}{ts:List Int}{tv:AV}(hv:zZ tv ts)(hts:ts.length≤2^40)(L:LS σ x c s deep)(hb:s.stack.length≤2^40)(h:zr6 R x c deep σ (zW ts.reverse s)):zzQ G 193 [.ptr x 0,tv] σ R:=by
 obtain⟨v1,v2,v3⟩:=hv.one
 refine zlq (px:=zqw) (py:=zn3) (pa:=zdH) (pb:=zdI) zk Tryz.func193 (n:=33) (res:=[]) rfl rfl rfl (by kernel_rfl) (by kernel_rfl) (by kernel_rfl) (by kernel_rfl) (by decide) (by simp) ?_
 simp[zqw,zn3]
 refine ziu v1 v3 ?_
 simp
 generalize hσ2:(σ.newO [ycr x 0]).newO [tv]=σ2
 have hno2:σ2.no=σ.no+2:=by rw[←hσ2];simp
 have hnf2:σ2.nf=σ.nf:=by rw[←hσ2];simp
 have A2:zh σ σ2:=by rw[←hσ2];exact(zh.refl σ).newO.newO
 have hb0:σ2.objs σ.no=some [.ptr x 0]:=by rw[←hσ2];simp
 have ho0:σ2.objs (σ.no+1)=some [tv]:=by rw[←hσ2];simp
 have hxl:=L.1
 refine⟨250,[.ptr (σ.no+1) 0],by simp,by simp,fun l=>?_⟩
 refine zt7 rfl ?_
 have L2:LS σ2.newF x c s deep:=(L.adds A2).adds (zh.refl σ2).newF
 have AN:zh σ σ2.newF:=A2.newF
 have hnu:∀τ,zaR x σ2.newF τ→τ.F σ2.nf=.alive:=fun τ K=>by
  rw[K.fam σ2.nf (by simp) ?_]
  ·simp
  ·rintro ⟨cs,v,e1,e2,e3⟩
   obtain⟨hx,sv,e4,e5⟩:=L
   have:σ2.newF.objs x=some [.ptr c 0,sv,.bool s.any,.int .i64 deep]:=(AN.obj x hx).trans e4
   rw[this]at e1
   cases e1
   simp at e2
   subst e2
   rcases e5 with ⟨_,rfl⟩|⟨g,b,rfl,hg,_⟩
   ·simp[zcA]at e3
   ·simp[zcA]at e3;omega
 -- a state behind the loop
 have back:∀τ,zaR x σ2.newF τ→zaR x σ { τ with F:=upd τ.F σ2.nf .dead }:=by
  intro τ K
  have K':=(AN.keepL hxl).trans K
  exact⟨K'.no,K'.nf,K'.obj,fun f hf hu=>by simp only[upd];rw[if_neg (by omega)];exact K'.fam f hf hu,K'.use⟩
 have backL:∀τ s',zaR x σ2.newF τ→LS τ x c s' deep→LS { τ with F:=upd τ.F σ2.nf .dead } x c s' deep:=by
  intro τ s' K ⟨e1,sv,e2,e3⟩
  refine⟨e1,sv,e2,?_⟩
  rcases e3 with e3|⟨g,b,e4,e5,e6⟩
  ·exact .inl e3
  ·refine .inr ⟨g,b,e4,e5,?_⟩
   have hne:g≠σ2.nf:=by
    rintro rfl
    have u:zm4 τ x σ2.nf:=⟨_,_,e2,rfl,by rw[e4];rfl⟩
    obtain⟨cs,v,q1,q2,q3⟩:=K.use σ2.nf (by simp) u
    obtain⟨hx,sv',q4,q5⟩:=L2
    rw[q4]at q1
    cases q1
    simp at q2
    subst q2
    rcases q5 with ⟨_,rfl⟩|⟨g',b',rfl,hg',_⟩
    ·simp[zcA]at q3
    ·obtain⟨hx1,sv1,p1,p2⟩:=L
     have:σ2.newF.objs x=some [.ptr c 0,sv1,.bool s.any,.int .i64 deep]:=(AN.obj x hx1).trans p1
     rw[q4]at this
     simp at this
     subst this
     rcases p2 with ⟨_,p3⟩|⟨g2,b2,p3,p4,_⟩
     ·cases p3
     ·simp at p3;simp[zcA]at q3;omega
   simp only[upd];rw[if_neg hne];exact e6
 have ho1:σ2.newF.objs (σ.no+1)=some [tv]:=by simpa using ho0
 have hw0:yb4 .i64 ((ts.length:Int)-1)=(ts.length:Int)-1:=by rw[zc]<;>omega
 have start:∀a,TI x c deep (σ.no+1) σ2.nf l σ2.newF ts s a σ2.newF→zjI yb9 (Env.under G yb9 33 zdH zdI [9,10] σ2.nf (upd (upd (upd (zbq [ycr x 0,tv]) 2 (ycr σ.no 0)) 7 tv) 8 (AV.fn (Fn.func 250) [] [ycr (σ.no+1) 0])) l) 19 zea
   (za2 0 (ze9 yb9 [] fun o σ'=>match o with
    | .ret v=>σ'.F σ2.nf=.alive∧R (.ret (.tuple [])) { σ' with F:=upd σ'.F σ2.nf .dead }
    | .panic v=>R (.panic v) σ')) a σ2.newF:=by
  intro a hI
  refine zas (TI x c deep (σ.no+1) σ2.nf l σ2.newF ts s) TM hI fun a τ hI=>?_
  obtain⟨i,s1,hi,a0,a1,a3,L1,K1,hle,hq⟩:=hI
  have hal:=hnu τ K1
  have hob:τ.objs (σ.no+1)=some [tv]:=by
   rw[K1.obj (σ.no+1) (by simp;omega) (by omega)];exact ho1
  have hob0:τ.objs σ.no=some [.ptr x 0]:=by
   rw[K1.obj σ.no (by simp;omega) (by omega)];simpa using hb0
  cases i with
  | zero =>
   simp[zW]at hq
   rw[←hq]at h
   simp[zea,a3]
   exact⟨hal,h _ (back τ K1) (backL τ s1 K1 L1)⟩
  | succ j =>
   have hj:j<ts.length:=by omega
   rcases hv with ⟨rfl,_⟩|⟨b,rfl⟩
   ·simp at hj
   have hrev:(ts.take (j+1)).reverse=ts[j]::(ts.take j).reverse:=by rw[ycl hj,List.reverse_append];rfl
   rw[hrev,zo8]at hq
   obtain⟨hx1,sv1,hs1,hs2⟩:=L1
   have L1':LS τ x c s1 deep:=⟨hx1,sv1,hs1,hs2⟩
   have hf0:=hal
   have hsl:=hs2.len
   have hwj:yb4 .i64 ((j:Int)-1)=(j:Int)-1:=by rw[zc]<;>omega
   have next:∀(a':Nat→AV) (τ':AS) (s':St),zaR x τ τ'→LS τ' x c s' deep→zW (ts.take j).reverse s'=zW ts.reverse s→s'.stack.length≤s1.stack.length→a' 0=.fn (.yield l) [] []→a' 1=.ptr (σ.no+1) 0→a' 3=.int .i64 ((j:Int)-1) →
     TI x c deep (σ.no+1) σ2.nf l σ2.newF ts s a' τ'∧TM a' τ'<TM a τ:=by
    intro a' τ' s' K' L' e' l' b0 b1 b3
    refine⟨⟨j,s',by omega,b0,b1,b3,L',K1.trans K',by omega,e'⟩,?_⟩
    simp only[TM,a3,b3]
    omega
   by_cases hn:s1.stack.length=0
   ·have hn':s1.stack=[]:=ybS.1 hn
    rw[if_pos (.inl hn)]at hq
    simp[zea,a0,a1,a3,hob,hj,zdH,zdI,hal,hob0,hs1,hsl,hn']
    refine zd (fun _=>?_) (fun q=>by simp at q)
    simp[hob0]
    refine zfR L1' (by omega) ?_
    cases hd:zdm s1 with
    | ok s' =>
     rw[hd]at hq
     intro τ' K' L'
     simp[hal,hnu τ' (K1.trans K'),a0,a1,a3,hwj]
     exact next _ τ' s' K' L' hq (zgS hd) (by simp[a0]) (by simp[a1]) (by simp)
    | error e =>
     rw[hd]at hq
     simp only at hq
     rw[←hq]at h
     intro τ' K'
     simp[hal,hnu τ' (K1.trans K')]
     exact h _ (back τ' (K1.trans K'))
   ·obtain⟨φ,v,hrd,hlast,hix⟩:=hs2.last (by omega)
    have hix':=hix _ rfl
    have hw1:yb4 .i64 ((s1.stack.length:Int)-1)=(s1.stack.length:Int)-1:=by rw[zc]<;>omega
    have hne:¬s1.stack=[]:=fun q=>hn (by rw[q];rfl)
    by_cases hvt:v=ts[j]
    ·rw[if_pos (.inr (by rw[hlast,hvt]))]at hq
     subst hvt
     simp[zea,a0,a1,a3,hob,hj,zdH,zdI,hal,hob0,hs1,hsl,hne,hix',hw1,hrd]
     refine zd (fun _=>?_) (fun q=>by simp at q)
     simp[hob0]
     refine zfR L1' (by omega) ?_
     cases hd:zdm s1 with
     | ok s' =>
      rw[hd]at hq
      intro τ' K' L'
      simp[hal,hnu τ' (K1.trans K'),a0,a1,a3,hwj]
      exact next _ τ' s' K' L' hq (zgS hd) (by simp[a0]) (by simp[a1]) (by simp)
     | error e =>
      rw[hd]at hq
      simp only at hq
      rw[←hq]at h
      intro τ' K'
      simp[hal,hnu τ' (K1.trans K')]
      exact h _ (back τ' (K1.trans K'))
    ·rw[if_neg (by rintro (q|q);exact hn q;rw[hlast]at q;exact hvt (yaR.inj q))]at hq
     rw[←hq]at h
     simp[zea,a0,a1,a3,hob,hj,zdH,zdI,hal,hob0,hs1,hsl,hne,hix',hw1,hrd,hvt]
     refine zd (fun q=>by simp at q) (fun _=>?_)
     simp[hal]
     exact h _ (back τ K1)
 simp[zCm,ho1,hv.len,hw0]
 exact start _ ⟨ts.length,s,yah _,by simp,by simp,by simp,L2,.refl _ _,yah _,by rw[ycm]⟩
def zoc(σ:AS)(c:Nat)(m:M)(f:F)(ls:List Int):Prop:=c<σ.no∧∃fsv pv lv tv sv,σ.objs c=some [fsv,.int .i64 m.memory,.int .i64 m.main,.str f.name,pv,lv,.int .i64 f.type,tv,sv]∧FsV fsv m.funcs∧zZ pv f.params∧zZ lv f.locals∧zcs tv f.lists∧zZ sv ls
theorem zoc.adds{σ σ' c m f ls}(h:zoc σ c m f ls)(A:zh σ σ'):zoc σ' c m f ls:=by
 obtain⟨hc,fsv,pv,lv,tv,sv,ho,r⟩:=h
 exact⟨yag hc A.no,fsv,pv,lv,tv,sv,(A.obj c hc).trans ho,r⟩
theorem zoc.keep{σ σ' x c m f ls}(h:zoc σ c m f ls)(K:zaR x σ σ')(hx:c≠x):zoc σ' c m f ls:=by
 obtain⟨hc,fsv,pv,lv,tv,sv,ho,r⟩:=h
 exact⟨yag hc K.no,fsv,pv,lv,tv,sv,(K.obj c hc hx).trans ho,r⟩
theorem zc5{G:Env}{σ:AS}{R:Out→AS→Prop}{x c:Nat}{s:St}{deep:Int}{m:M}{f:F}{ls:List Int}(L:LS σ x c s deep)(C:zoc σ c m f ls)(hb:s.stack.length≤2^40)(h:zr6 R x c deep σ (zx f.type s)):zzQ G 162 [.ptr x 0] σ R:=by
 refine ztl rfl ?_
 obtain⟨hc,fsv,pv,lv,tv,lsv,hco,_⟩:=C
 obtain⟨hx,sv,ho,hs⟩:=L
 unfold zx at h
 by_cases ht:f.type=0
 ·rw[if_pos ht]at h
  simp[zxt,ho,hco,ht]
  exact h σ (.refl _ _) ⟨hx,sv,ho,hs⟩
 ·rw[if_neg ht]at h
  simp[zxt,ho,hco,ht]
  refine za6 (ts:=[f.type]) (.inr ⟨_,rfl⟩) (by simp) ⟨hx,sv,ho,hs⟩ hb ?_
  have e:[f.type].reverse=[f.type]:=rfl
  rw[e]
  revert h
  cases zW [f.type] s with
  | ok s'=>intro h σ' K L;simp;exact h σ' K L
  | error e=>intro h σ' K;simp;exact h σ' K
theorem zo9{G:Env}(V:zkj G){σ:AS}{R:Out→AS→Prop}{w:W}(h:∀σ',zh σ σ'→R (.ret (.bool (zR w))) σ'):zzQ G 191 [w.av] σ R:=by
 refine ztC rfl ?_
 unfold zR at h
 have A:zh σ (σ.newO w.cs):=(zh.refl σ).newO
 simp only[W.cs]at A
 by_cases h1:w.op=1
 ·rw[if_pos (.inl h1)]at h
  simp[zkc,W.av,W.cs,h1]
  refine zbE ?_
  simp
  simpa [h1]using h _ A
 by_cases h5:w.op=5
 ·rw[if_pos (.inr h5)]at h
  simp[zkc,W.av,W.cs,h5]
  refine zbE ?_
  simp
  simpa [h5]using h _ A
 rw[if_neg (by omega)]at h
 by_cases h4:w.op=4
 ·rw[if_pos h4]at h
  simp[zkc,W.av,W.cs,h4]
  refine zbE ?_
  cases hn:zT w.ty with
  | false =>
   rw[hn]at h
   simp
   simpa [h4]using h _ A
  | true =>
   rw[hn]at h
   simp
   refine ziZ V fun σ1 A1=>?_
   simp
   have:=h _ ((by simpa [h4]using A:zh σ _).trans A1)
   cases hq:zbf signs w.name with
   | nil=>rw[hq]at this;simpa using this
   | cons a l=>rw[hq]at this;simpa using this
 rw[if_neg h4]at h
 by_cases h8:w.op=8
 ·rw[if_pos (.inl h8)]at h
  simp[zkc,W.av,W.cs,h8]
  refine zhI ?_
  simp
  simpa [h8]using h _ A
 by_cases h9:w.op=9
 ·rw[if_pos (.inr h9)]at h
  simp[zkc,W.av,W.cs,h9]
  refine zhI ?_
  simp
  simpa [h9]using h _ A
 rw[if_neg (by omega)]at h
 by_cases k1:1≤w.op
 ·by_cases k2:w.op≤18
  ·simp[k1,k2]at h
   simp[zkc,W.av,W.cs,h1,h5,h4,h8,h9,k1,k2]
   exact h _ A
  ·simp[k1,k2]at h
   simp[zkc,W.av,W.cs,h1,h5,h4,h8,h9,k1,k2]
   exact h _ A
 ·simp[k1]at h
  simp[zkc,W.av,W.cs,h1,h5,h4,h8,h9,k1]
  exact h _ A
def zxK(v:AV)(r:Option (List Int × Int)):Prop:=match r with
 | some (ts,g)=>∃tv,v=.tuple [.agg [tv,.int .i64 g],.bool true]∧zZ tv ts
 | none=>v=.tuple [.agg [.nilsl,.int .i64 0],.bool false]
theorem zct{G:Env}{σ:AS}{R:Out→AS→Prop}{mv:AV}{m:M}{n:Int}(hm:MV mv m)(hb:n≤2^63-1)(h:∀v σ',zxK v (zaT m.funcs n)→zh σ σ'→R (.ret v) σ'):zzQ G 229 [mv,.int .i64 n] σ R:=by
 refine ztW rfl ?_
 obtain⟨fv,rfl,hf⟩:=hm
 unfold zaT at h
 have A0:∀c1 c2 c3:List AV,zh σ (((σ.newO c1).newO c2).setO (σ.no+1) c3):=fun _ _ _=>((zh.refl σ).newO.newO).setO (by omega)
 by_cases n0:n=0
 ·rw[if_pos n0]at h
  simp[zmT,n0,splice]
  exact h _ _ ⟨_,rfl,.inl ⟨rfl,rfl⟩⟩ (A0 _ _ _)
 rw[if_neg n0]at h
 by_cases n1:n=1
 ·rw[if_pos n1]at h
  simp[zmT,n1,splice]
  exact h _ _ ⟨_,rfl,.inr ⟨_,rfl⟩⟩ (A0 _ _ _)
 rw[if_neg n1]at h
 by_cases n2:n=2
 ·rw[if_pos n2]at h
  simp[zmT,n2,splice]
  exact h _ _ ⟨_,rfl,.inr ⟨_,rfl⟩⟩ (A0 _ _ _)
 rw[if_neg n2]at h
 by_cases n3:n<0
 ·rw[if_pos n3]at h
  simp[zmT,n0,n1,n2,n3,splice]
  exact h _ _ rfl (A0 _ _ _)
 rw[if_neg n3]at h
 have hw:yb4 .i64 (n-3)=n-3:=by rw[zc]<;>omega
 have hl:=hf.len
 by_cases n4:(m.funcs.length:Int)≤n-3
 ·have e:m.funcs[(n-3).toNat]?=none:=yb2 (by omega)
  rw[e]at h
  simp[zmT,n0,n1,n2,n3,n4,splice,hl,hw]
  exact h _ _ rfl (A0 _ _ _)
 ·rcases hf with ⟨e0,rfl⟩|⟨b,rows,rfl,hr⟩
  ·rw[e0]at n4;simp at n4;omega
  have hlt:(n-3).toNat<m.funcs.length:=by omega
  have hg:m.funcs[(n-3).toNat]?=some m.funcs[(n-3).toNat]:=yau hlt
  obtain⟨row,hrow,pv,lv,tv,rfl,hp,hlv,htv⟩:=hr.get hg
  rw[hg]at h
  have h3:0≤n-3:=by omega
  have p1:=hp.one
  simp[zmT,n0,n1,n2,n3,n4,splice,hl,hw,hrow,h3,p1]
  refine⟨by omega,⟨hlv.one.2.1,htv.one.2.1⟩,h _ _ ⟨_,rfl,hp⟩ ?_⟩
  exact(((zh.refl σ).newO.newO.newO).setO (by omega)).setO (by omega)
theorem ziv{G:Env}{σ:AS}{R:Out→AS→Prop}{x c:Nat}{s:St}{deep:Int}{m:M}{f:F}{ls:List Int}{w:W}(L:LS σ x c s deep)(C:zoc σ c m f ls)(hb:w.n≤2^63-1)(h:∀σ',zh σ σ'→R (.ret (.bool (zI m.funcs ls deep w))) σ'):zzQ G 192 [.ptr x 0,w.av] σ R:=by
 refine ztD rfl ?_
 obtain⟨hc,fsv,pv,lv,tv,lsv,hco,hfs,hpv,hlv,htv,hls⟩:=C
 obtain⟨hx,sv,ho,hs⟩:=L
 have A:zh σ (σ.newO w.cs):=(zh.refl σ).newO
 simp only[W.cs]at A
 have hx':x≠σ.no:=by omega
 have hc':c≠σ.no:=by omega
 unfold zI at h
 by_cases h1:w.op=1
 ·rw[if_pos h1]at h
  simp[zis,W.av,W.cs,h1]
  refine ziY ?_
  simp
  simpa [h1]using h _ A
 rw[if_neg h1]at h
 by_cases h2:w.op=2∨w.op=3
 ·rw[if_pos h2]at h
  have hl:=hls.len
  by_cases k1:0≤w.n
  ·by_cases k2:w.n<(ls.length:Int)
   ·simp[k1,k2]at h
    rcases h2 with h2|h2<;>simp[zis,W.av,W.cs,h1,h2,ho,hco,hx',hc',hl,k1,k2]<;>exact h _ (by simpa [h2]using A)
   ·simp[k1,k2]at h
    rcases h2 with h2|h2<;>simp[zis,W.av,W.cs,h1,h2,ho,hco,hx',hc',hl,k1,k2]<;>exact h _ (by simpa [h2]using A)
  ·simp[k1]at h
   rcases h2 with h2|h2<;>simp[zis,W.av,W.cs,h1,h2,ho,hco,hx',hc',hl,k1]<;>exact h _ (by simpa [h2]using A)
 rw[if_neg h2]at h
 have h2a:¬w.op=2:=fun q=>h2 (.inl q)
 have h2b:¬w.op=3:=fun q=>h2 (.inr q)
 by_cases h10:w.op=10
 ·rw[if_pos h10]at h
  simp[zis,W.av,W.cs,h10,ho,hco,hx',hc']
  have hx'':x≠σ.no+1:=by omega
  have hc'':c≠σ.no+1:=by omega
  have A':zh σ (σ.newO [.int .i64 10,.int .i64 w.ty,.int .i64 w.n,.int .i64 w.body,.int .i64 w.other,.str w.name]):=by simpa [h10]using A
  constructor
  ·refine zct (m:=m) ⟨_,rfl,hfs⟩ hb fun v σ1 hv A1=>?_
   have A2:=A'.trans A1
   cases hq:zaT m.funcs w.n with
   | none =>
    rw[hq]at hv h
    simp only[zxK]at hv
    subst hv
    simp[splice]
    exact h _ (A2.newO.setO A2.no)
   | some p =>
    rw[hq]at hv h
    obtain⟨y,rfl,hy⟩:=hv
    have y1:=hy.one
    simp[splice,y1]
    exact h _ (A2.newO.setO A2.no)
  ·simp[ho,hco,hx',hc',hx'',hc'']
   refine zct (m:=m) ⟨_,rfl,hfs⟩ hb fun v σ1 hv A1=>?_
   have A2:zh σ σ1:=(A'.newO).trans A1
   have hnew:σ1.objs (σ.no+1)=some [.nilsl,.int .i64 0]:=(A1.obj (σ.no+1) (by simp)).trans (by simp)
   cases hq:zaT m.funcs w.n with
   | none =>
    rw[hq]at hv h
    simp only[zxK]at hv
    subst hv
    simp[splice,hnew]
    exact h _ (A2.setO (by omega))
   | some p =>
    rw[hq]at hv h
    obtain⟨y,rfl,hy⟩:=hv
    have y1:=hy.one
    simp[splice,y1,hnew]
    exact h _ (A2.setO (by omega))
 rw[if_neg h10]at h
 by_cases h14:w.op=14∨w.op=15
 ·rw[if_pos h14]at h
  by_cases k1:0≤w.n
  ·by_cases k2:w.n≤deep
   ·simp[k1,k2]at h
    rcases h14 with h14|h14<;>simp[zis,W.av,W.cs,h14,ho,hco,hx',hc',k1,k2]<;>exact h _ (by simpa [h14]using A)
   ·simp[k1,k2]at h
    rcases h14 with h14|h14<;>simp[zis,W.av,W.cs,h14,ho,hco,hx',hc',k1,k2]<;>exact h _ (by simpa [h14]using A)
  ·simp[k1]at h
   rcases h14 with h14|h14<;>simp[zis,W.av,W.cs,h14,ho,hco,hx',hc',k1]<;>exact h _ (by simpa [h14]using A)
 rw[if_neg h14]at h
 have h14a:¬w.op=14:=fun q=>h14 (.inl q)
 have h14b:¬w.op=15:=fun q=>h14 (.inr q)
 simp[zis,W.av,W.cs,h1,h2a,h2b,h10,h14a,h14b]
 exact h _ A
@[simp] theorem zvW{P:Program}(t)(x y:List UInt8){K:AV→Prop}:zbk P .add t (.str x) (.str y) K=(x.length+y.length<2^62∧K (.str (x++y))):=by simp only[zbk,zg0]
theorem zkj.cell{G:Env}(V:zkj G){M F w}(g:GOk yb9 G M F w):∃m,w.cell? ⟨11,0,none⟩=some (.int .i64 m):=by
 obtain⟨m,hm⟩:=V.max
 have h:=g.vars 11
 rw[hm]at h
 cases h with
 | pv φ v B off cs hmem hc hv =>
  have h1:=hc trivial 0 (by simp)
  have h2:=hv trivial 0 (by simp)
  simp at h2
  generalize cs 0=c at h1 h2
  cases h2
  exact⟨m,h1⟩
theorem ziw{G:Env}(V:zkj G){s t:List UInt8}{σ:AS}{R:Out→AS→Prop}(hl:s.length<4294967281)(h:R (.ret (.bool (Lib.contains s t))) σ):zzQ G 232 [.str s,.str t] σ R:=by
 refine ACalls.of_below fun M w cargs S g hc=>?_
 obtain⟨m,hm⟩:=V.cell g
 obtain⟨c0,e0,v0⟩:=hc.2 0 _ rfl
 obtain⟨c1,e1,v1⟩:=hc.2 1 _ rfl
 obtain⟨b0,rfl,rfl⟩:=v0.str_inv
 obtain⟨b1,rfl,rfl⟩:=v1.str_inv
 have hcargs:cargs=#[.string b0,.string b1]:=by
  have hsz:cargs.size=2:=hc.1
  apply Array.ext
  ·simpa using hsz
  ·intro i h1 h2
   match i,h1 with
   | 0,_=>simpa using (yaU.1 e0).2
   | 1,_=>simpa using (yaU.1 e1).2
   | i+2,h=>omega
 rw[hcargs]
 refine(Tryz.strings_Contains b0 b1 m w (by simpa using hl) hm).mono fun e w' ⟨he,hw⟩=>?_
 subst he hw
 exact⟨⟨.bool _,_,rfl,fun M F w=>.bool _,h⟩,rfl,rfl,rfl,yah _,fun _ _=>rfl⟩
theorem zb5:∀{ts:List Int} {s s':St},zW ts s=.ok s'→s'.stack.length≤s.stack.length
 | [],s,s',h=>by simp[zW]at h;subst h;exact yah _
 | t::ts,s,s',h=>by
  rw[zW]at h
  split at h
  ·cases hd:zdm s with
   | error e=>rw[hd]at h;cases h
   | ok s1=>rw[hd]at h;exact yai (zb5 h) (zgS hd)
  ·cases h
theorem zfS:∀s,zbf signs s≠[]→s.length≤5:=by
 have key:∀(l:List (List UInt8 × List UInt8)),(∀p∈l,p.1.length≤5)→∀s,zbf l s≠[]→s.length≤5:=by
  intro l
  induction l with
  | nil=>intro _ s h;simp[zbf]at h
  | cons p l ih =>
   intro hp s h
   obtain⟨x,y⟩:=p
   rw[zbf]at h
   by_cases e:x=s
   ·subst e;exact hp (x,y) (by simp)
   ·rw[if_neg e]at h;exact ih (fun q hq=>hp q (by simp[hq])) s h
 exact key signs (by decide)
section
variable {G : Env} {σ : AS} {R : Out → AS → Prop} {x c : Nat} {s : St} {deep : Int} {m : M} {f : F} {ls : List Int} {w : W}
theorem zm5(V:zkj G)(L:LS σ x c s deep)(C:zoc σ c m f ls)(hcx:c≠x)(hb:s.stack.length≤2^39)(hn:w.n≤2^63-1)(hps:∀g∈m.funcs,g.params.length≤2^30)(hf:zR w=true)(hr:zI m.funcs ls deep w=true)
  (h:zr6 R x c deep σ (zbI m.funcs ls w s)):zzQ G 196 [.ptr x 0,w.av] σ R:=by
 refine ztG rfl ?_
 have A:zh σ (σ.newO w.cs):=(zh.refl σ).newO
 have La:=L.adds A
 have Ca:=C.adds A
 have Ka:=A.keepL L.1
 have hwo:(σ.newO w.cs).objs σ.no=some [.int .i64 w.op,.int .i64 w.ty,.int .i64 w.n,.int .i64 w.body,.int .i64 w.other,.str w.name]:=by simp[W.cs]
 have hwl:σ.no<(σ.newO w.cs).no:=by simp
 have hxw:σ.no≠x:=by have:=L.1;omega
 simp[zCf,W.av,W.cs]
 rw[show σ.newO [yco yam w.op,yco yam w.ty,yco yam w.n,yco yam w.body,yco yam w.other,ycn w.name]=σ.newO w.cs from rfl]
 generalize hσa:σ.newO w.cs=σa at *
 obtain⟨hc,fsv,pv,lv,tv,lsv,hco,hfs,hpv,hlv,htv,hls⟩:=Ca
 obtain⟨hx,sv,ho,hs⟩:=La
 have La:LS σa x c s deep:=⟨hx,sv,ho,hs⟩
 -- the zvF
 have fin:∀r:Res St,zr6 R x c deep σ r→zr6 (zvF (fun v σ'=>R (.ret (.tuple [])) σ') fun v σ'=>R (.panic v) σ') x c deep σa r:=by
  intro r hr
  cases r with
  | ok s'=>intro σ' K L';simp;exact hr σ' (Ka.trans K) L'
  | error e=>intro σ' K;simp;exact hr σ' (Ka.trans K)
 unfold zbI at h
 by_cases h1:w.op=1
 ·rw[if_pos h1]at h
  simp[h1,hwo]
  refine zal La (by omega) fun σ' K L'=>?_
  simp
  exact h σ' (Ka.trans K) L'
 rw[if_neg h1]at h
 by_cases h2:w.op=2
 ·rw[if_pos h2]at h
  have hr2:0≤w.n∧w.n<(ls.length:Int):=by simpa [zI,h1,h2]using hr
  rcases hls with ⟨e,_⟩|⟨b,rfl⟩
  ·rw[e]at hr2;simp at hr2;omega
  have hlt:w.n.toNat<ls.length:=by omega
  have e1:ls.getD w.n.toNat 0=ls[w.n.toNat]:=by rw[ycf,yau hlt];rfl
  simp[h2,hwo,ho,hco,hr2.1,hlt]
  refine zal La (by omega) fun σ' K L'=>?_
  simp
  unfold zhA at h
  rw[e1]at h
  exact h σ' (Ka.trans K) L'
 rw[if_neg h2]at h
 by_cases h3:w.op=3
 ·rw[if_pos h3]at h
  have hr2:0≤w.n∧w.n<(ls.length:Int):=by simpa [zI,h1,h2,h3]using hr
  rcases hls with ⟨e,_⟩|⟨b,rfl⟩
  ·rw[e]at hr2;simp at hr2;omega
  have hlt:w.n.toNat<ls.length:=by omega
  have e1:ls.getD w.n.toNat 0=ls[w.n.toNat]:=by rw[ycf,yau hlt];rfl
  simp[h3,hwo,ho,hco,hr2.1,hlt]
  unfold zhA at h
  rw[e1]at h
  refine za6 (ts:=[ls[w.n.toNat]]) (.inr ⟨_,rfl⟩) (by simp) La (by omega) ?_
  have e:[ls[w.n.toNat]].reverse=[ls[w.n.toNat]]:=rfl
  rw[e]
  revert h
  cases zW [ls[w.n.toNat]] s with
  | ok s'=>intro h σ' K L;simp;exact h σ' (Ka.trans K) L
  | error e=>intro h σ' K;simp;exact h σ' (Ka.trans K)
 rw[if_neg h3]at h
 -- takes,and zeO
 have tgB:∀{R':Out→AS→Prop} {σb:AS} (Kb:zaR x σ σb) (Lb:LS σb x c s deep) (o:Nat) (cs:List AV) (ts:List Int) (tv:AV) (t:Int),σb.objs o=some cs→o<σb.no→o≠x→zZ tv ts→ts.length≤2^30→zr6 R x c deep σ (zeO (zW ts.reverse s) t) →
   (∀σ1 s1,s1.stack.length≤2^39→zaR x σb σ1→LS σ1 x c s1 deep→σ1.objs o=some cs→(∀σ2,zaR x σ1 σ2→LS σ2 x c (zc3 s1 t) deep→R (.ret (.tuple [])) σ2)→R' (.ret (.tuple [])) σ1) →
   (∀e σ1,R (.panic (zit e)) σ1→R' (.panic (zit e)) σ1)→zzQ G 193 [.ptr x 0,tv] σb R':=by
  intro R' σb Kb Lb o cs ts tv t hob hlo hox hv hl hr k1 k2
  refine za6 hv (by omega) Lb (by omega) ?_
  cases hq:zW ts.reverse s with
  | error e =>
   rw[hq]at hr
   exact fun σ1 K=>k2 e σ1 (hr σ1 (Kb.trans K))
  | ok s1 =>
   rw[hq]at hr
   exact fun σ1 K L'=>k1 σ1 s1 (by have:=zb5 hq;omega) K L' ((K.obj o hlo hox).trans hob) fun σ2 K2 L2=>hr σ2 (Kb.trans (K.trans K2)) L2
 have tg:∀{R':Out→AS→Prop} (ts:List Int) (tv:AV) (t:Int),zZ tv ts→ts.length≤2^30→zr6 R x c deep σ (zeO (zW ts.reverse s) t) →
   (∀σ1 s1,s1.stack.length≤2^39→zaR x σa σ1→LS σ1 x c s1 deep→σ1.objs σ.no=some [.int .i64 w.op,.int .i64 w.ty,.int .i64 w.n,.int .i64 w.body,.int .i64 w.other,.str w.name]→(∀σ2,zaR x σ1 σ2→LS σ2 x c (zc3 s1 t) deep→R (.ret (.tuple [])) σ2)→R' (.ret (.tuple [])) σ1) →
   (∀e σ1,R (.panic (zit e)) σ1→R' (.panic (zit e)) σ1)→zzQ G 193 [.ptr x 0,tv] σa R':=fun ts tv t hv hl hr k1 k2=>tgB Ka La σ.no _ ts tv t hwo hwl hxw hv hl hr k1 k2
 by_cases h4:w.op=4
 ·rw[if_pos h4]at h
  have hsig:w.name.length≤5:=by
   refine zfS _ fun q=>?_
   simp[zR,h4,q]at hf
  simp[h4,hwo]
  refine tg [w.ty,w.ty] _ _ (.inr ⟨_,rfl⟩) (by simp) h (fun σ1 s1 hb1 K1 L1 hw1 fin1=>?_) (fun e σ1 hh=>by simp;exact hh)
  simp[hw1]
  refine⟨by omega,by omega,ziw V ?_ ?_⟩
  ·decide
  have hcmp:Lib.contains [32,101,113,32,110,101,32,108,116,95,115,32,108,101,95,115,32,103,116,95,115,32,103,101,95,115,32] (32::(w.name++[32]))=zEh w.name:=rfl
  simp[hcmp]
  cases hq:zEh w.name with
  | true =>
   rw[hq]at fin1
   simp[hw1]
   refine zal L1 (by omega) fun σ2 K2 L2=>?_
   simp
   exact fin1 σ2 K2 L2
  | false =>
   rw[hq]at fin1
   simp[hw1]
   refine zal L1 (by omega) fun σ2 K2 L2=>?_
   simp
   exact fin1 σ2 K2 L2
 rw[if_neg h4]at h
 by_cases h5:w.op=5
 ·rw[if_pos h5]at h
  simp[h5,hwo]
  refine tg [w.ty] _ _ (.inr ⟨_,rfl⟩) (by simp) h (fun σ1 s1 hb1 K1 L1 hw1 fin1=>?_) (fun e σ1 hh=>by simp;exact hh)
  simp[hw1]
  refine zal L1 (by omega) fun σ2 K2 L2=>?_
  simp
  exact fin1 σ2 K2 L2
 rw[if_neg h5]at h
 by_cases h6:w.op=6
 ·rw[if_pos h6]at h
  simp[h6,hwo]
  refine tg [2] _ _ (.inr ⟨_,rfl⟩) (by simp) h (fun σ1 s1 hb1 K1 L1 hw1 fin1=>?_) (fun e σ1 hh=>by simp;exact hh)
  simp[hw1]
  refine zal L1 (by omega) fun σ2 K2 L2=>?_
  simp
  exact fin1 σ2 K2 L2
 rw[if_neg h6]at h
 by_cases h7:w.op=7
 ·rw[if_pos h7]at h
  simp[h7,hwo]
  refine tg [1] _ _ (.inr ⟨_,rfl⟩) (by simp) h (fun σ1 s1 hb1 K1 L1 hw1 fin1=>?_) (fun e σ1 hh=>by simp;exact hh)
  simp[hw1]
  refine zal L1 (by omega) fun σ2 K2 L2=>?_
  simp
  exact fin1 σ2 K2 L2
 rw[if_neg h7]at h
 by_cases h8:w.op=8
 ·rw[if_pos h8]at h
  simp[h8,hwo]
  refine tg [1] _ _ (.inr ⟨_,rfl⟩) (by simp) h (fun σ1 s1 hb1 K1 L1 hw1 fin1=>?_) (fun e σ1 hh=>by simp;exact hh)
  simp[hw1]
  refine zal L1 (by omega) fun σ2 K2 L2=>?_
  simp
  exact fin1 σ2 K2 L2
 rw[if_neg h8]at h
 by_cases h9:w.op=9
 ·rw[if_pos h9]at h
  simp[h9,hwo]
  refine za6 (ts:=[1,w.ty]) (.inr ⟨_,rfl⟩) (by simp) La (by omega) ?_
  have e:[1,w.ty].reverse=[w.ty,1]:=rfl
  rw[e]
  revert h
  cases zW [w.ty,1] s with
  | ok s'=>intro h σ' K L;simp;exact h σ' (Ka.trans K) L
  | error e=>intro h σ' K;simp;exact h σ' (Ka.trans K)
 rw[if_neg h9]at h
 by_cases h10:w.op=10
 ·rw[if_pos h10]at h
  have hh:(zaT m.funcs w.n).isSome=true:=by simpa [zI,h1,h2,h3,h10]using hr
  obtain⟨⟨ts,g⟩,hq⟩:=yay.1 hh
  rw[hq]at h
  simp only at h
  have htl:ts.length≤2^30:=by
   unfold zaT at hq
   split at hq
   ·cases hq;simp
   ·split at hq
    ·cases hq;simp
    ·split at hq
     ·cases hq;simp
     ·split at hq
      ·cases hq
      ·obtain⟨fn,hfn,e⟩:=ybB.1 hq
       cases e
       exact hps _ (ycs hfn)
  have hcw:c≠σa.no:=by omega
  have hxw':x≠σa.no:=by omega
  simp[h10,hwo,ho,hco]
  constructor
  ·refine zct (m:=m) ⟨_,rfl,hfs⟩ hn fun v σ1 hv A1=>?_
   rw[hq]at hv
   obtain⟨y,rfl,hy⟩:=hv
   have y1:=hy.one
   simp[splice,y1]
   have A2:zh σa ((σ1.newO [.nilsl,.int .i64 0]).setO σ1.no [y,.int .i64 g]):=A1.newO.setO A1.no
   have Lb:=La.adds A2
   refine tgB (Ka.trans (A2.keepL hx)) Lb σ1.no [y,.int .i64 g] ts y g (by simp) (by simp) (by have:=A1.no;omega) hy htl h (fun σ3 s1 hb1 K1 L1 hw1 fin1=>?_) (fun e σ1 hh=>by simp;exact hh)
   simp[hw1]
   refine zal L1 (by omega) fun σ2 K2 L2=>?_
   simp
   exact fin1 σ2 K2 L2
  ·have hx2:x≠σ.no:=fun q=>hxw q.symm
   simp[ho,hco,hcw,hxw',hwo,show σ.no≠σa.no from by omega]
   refine zct (m:=m) ⟨_,rfl,hfs⟩ hn fun v σ1 hv A1=>?_
   rw[hq]at hv
   obtain⟨y,rfl,hy⟩:=hv
   have y1:=hy.one
   have hnew:σ1.objs σa.no=some [.nilsl,.int .i64 0]:=(A1.obj σa.no (by simp)).trans (by simp)
   simp[splice,y1,hnew]
   have hle:σa.no+1≤σ1.no:=by have:=A1.no;simpa using this
   have A2:zh σa (σ1.setO σa.no [y,.int .i64 g]):=(((zh.refl σa).newO).trans A1).setO (yah _)
   have Lb:=La.adds A2
   refine tgB (Ka.trans (A2.keepL hx)) Lb σa.no [y,.int .i64 g] ts y g (by simp) (by simp;omega) (fun q=>hxw' q.symm) hy htl h (fun σ3 s1 hb1 K1 L1 hw1 fin1=>?_) (fun e σ1 hh=>by simp;exact hh)
   simp[hw1]
   refine zal L1 (by omega) fun σ2 K2 L2=>?_
   simp
   exact fin1 σ2 K2 L2
 rw[if_neg h10]at h
 by_cases h18:w.op=18
 ·rw[if_pos h18]at h
  simp[h18,hwo]
  refine zfR La (by omega) ?_
  revert h
  cases zdm s with
  | ok s'=>intro h σ' K L;simp;exact h σ' (Ka.trans K) L
  | error e=>intro h σ' K;simp;exact h σ' (Ka.trans K)
 rw[if_neg h18]at h
 simp[h1,h2,h3,h4,h5,h6,h7,h8,h9,h10,h18,hwo]
 exact h σa Ka La
end
def zHl(R:Out→AS→Prop)(σ:AS):Res Unit→Prop
 | .ok _=>∀σ',zh σ σ'→R (.ret (.tuple [])) σ'
 | .error e=>∀σ',zh σ σ'→R (.panic (zit e)) σ'
def zvX(G:Env)(m:M)(f:F)(ls:List Int)(B:Int)(lk:zkf):Prop:=∀(c:Nat) (σ:AS) (at_ deep:Int) (R:Out→AS→Prop),zoc σ c m f ls→0≤at_→at_<B→0≤deep→deep+at_≤2^40→zHl R σ (lk at_ deep)→zzQ G 109 [.ptr c 0,.int .i64 at_,.int .i64 deep] σ R
section
variable {G : Env} {σ : AS} {R : Out → AS → Prop} {x c : Nat} {s : St} {deep : Int} {m : M} {f : F} {ls : List Int} {w : W} {lk : zkf} {B : Int}
theorem zkk(V:zkj G)(IH:zvX G m f ls B lk)(L:LS σ x c s deep)(C:zoc σ c m f ls)(hcx:c≠x)(hb:s.stack.length≤2^38)(hd0:0≤deep)(hd1:deep≤2^40)(hn:w.n≤2^63-1)(hps:∀g∈m.funcs,g.params.length≤2^30)
  (hnm:∀n∈zl w,0≤n∧n<B∧deep+1+n≤2^40) (h:zr6 R x c deep σ (zL m.funcs ls f.type deep lk w s)):zzQ G 161 [.ptr x 0,w.av] σ R:=by
 refine ztk rfl ?_
 have A:zh σ (σ.newO w.cs):=(zh.refl σ).newO
 have La:=L.adds A
 have Ca:=C.adds A
 have Ka:=A.keepL L.1
 have hwo:(σ.newO w.cs).objs σ.no=some [.int .i64 w.op,.int .i64 w.ty,.int .i64 w.n,.int .i64 w.body,.int .i64 w.other,.str w.name]:=by simp[W.cs]
 have hwl:σ.no<(σ.newO w.cs).no:=by simp
 have hxw:σ.no≠x:=by have:=L.1;omega
 have hcs:w.cs=[.int .i64 w.op,.int .i64 w.ty,.int .i64 w.n,.int .i64 w.body,.int .i64 w.other,.str w.name]:=rfl
 simp[zB6,W.av,hcs]
 rw[show σ.newO [yco yam w.op,yco yam w.ty,yco yam w.n,yco yam w.body,yco yam w.other,ycn w.name]=σ.newO w.cs from rfl]
 rw[show yct [yco yam w.op,yco yam w.ty,yco yam w.n,yco yam w.body,yco yam w.other,ycn w.name]=w.av from rfl]
 generalize σ.newO w.cs=σa at *
 unfold zL at h
 refine zo9 V fun σ1 A1=>?_
 cases hf:zR w with
 | false =>
  rw[if_pos hf]at h
  simp
  refine zd (fun q=>by simp at q) fun _=>?_
  simp
  exact h _ (Ka.trans (A1.keepL La.1))
 | true =>
 rw[if_neg (by rw[hf];simp)]at h
 have hw1:=(A1.obj σ.no hwl).trans hwo
 simp
 refine zd (fun _=>?_) (fun q=>by simp at q)
 simp[hw1]
 rw[show yct [yco yam w.op,yco yam w.ty,yco yam w.n,yco yam w.body,yco yam w.other,ycn w.name]=w.av from rfl]
 refine ziv (La.adds A1) (Ca.adds A1) hn fun σ2 A2=>?_
 have A12:=A1.trans A2
 cases hr:zI m.funcs ls deep w with
 | false =>
  rw[if_pos hr]at h
  simp
  refine zd (fun q=>by simp at q) fun _=>?_
  simp
  exact h _ (Ka.trans (A12.keepL La.1))
 | true =>
 rw[if_neg (by rw[hr];simp)]at h
 have hw2:=(A2.obj σ.no (yag hwl A1.no)).trans hw1
 have L2:=La.adds A12
 have C2:=Ca.adds A12
 have K2:=Ka.trans (A12.keepL La.1)
 have hwl2:σ.no<σ2.no:=yag hwl A12.no
 simp
 refine zd (fun _=>?_) (fun q=>by simp at q)
 simp[hw2]
 clear A1 A2 hw1 hwo A12 Ka La Ca
 have keepW:∀{σ3},zaR x σ2 σ3→σ3.objs σ.no=some [.int .i64 w.op,.int .i64 w.ty,.int .i64 w.n,.int .i64 w.body,.int .i64 w.other,.str w.name]:=fun K=>(K.obj σ.no hwl2 hxw).trans hw2
 have L2':=L2
 have C2':=C2
 obtain⟨hc2,fsv,pv,lv,tv,lsv,hco,_⟩:=C2'
 obtain⟨hx2,sv,ho,_⟩:=L2'
 have hwd:yb4 .i64 (deep+1)=deep+1:=by rw[zc]<;>omega
 by_cases h11:w.op=11∨w.op=12
 ·rw[if_pos h11]at h
  have hnn:zl w=[w.body]:=by unfold zl;rw[if_pos (by omega)]
  rw[hnn]at hnm
  have hb0:=hnm w.body (by simp)
  have go:zHl (zvF (fun v σ'=>R (.ret (.tuple [])) σ') fun v σ'=>R (.panic v) σ') σ2 (lk w.body (deep+1)):=by
   cases hq:lk w.body (deep+1)with
   | ok u=>rw[hq]at h;intro σ3 A3;simp;exact h σ3 (K2.trans (A3.keepL hx2)) (L2.adds A3)
   | error e=>rw[hq]at h;intro σ3 A3;simp;exact h σ3 (K2.trans (A3.keepL hx2))
  rcases h11 with h11|h11
  ·simp[h11,hw2,ho,hco,hwd]
   refine IH c σ2 w.body (deep+1) _ C2 hb0.1 hb0.2.1 (by omega) hb0.2.2 ?_
   revert go
   cases lk w.body (deep+1)with
   | ok u=>intro go σ3 A3;have:=go σ3 A3;simpa using this
   | error e=>intro go σ3 A3;have:=go σ3 A3;simpa using this
  ·simp[h11,hw2,ho,hco,hwd]
   refine IH c σ2 w.body (deep+1) _ C2 hb0.1 hb0.2.1 (by omega) hb0.2.2 ?_
   revert go
   cases lk w.body (deep+1)with
   | ok u=>intro go σ3 A3;have:=go σ3 A3;simpa using this
   | error e=>intro go σ3 A3;have:=go σ3 A3;simpa using this
 rw[if_neg h11]at h
 have h11a:¬w.op=11:=fun q=>h11 (.inl q)
 have h11b:¬w.op=12:=fun q=>h11 (.inr q)
 by_cases h13:w.op=13
 ·rw[if_pos h13]at h
  simp[h13,hw2]
  refine za6 (ts:=[1]) (.inr ⟨_,rfl⟩) (by simp) L2 (by omega) ?_
  rw[show [(1:Int)].reverse=[1] from rfl]
  cases ht:zW [1] s with
  | error e =>
   rw[ht]at h
   intro σ3 K3
   simp
   exact h σ3 (K2.trans K3)
  | ok s1 =>
   rw[ht]at h
   simp only at h
   intro σ3 K3 L3
   have C3:=C2.keep K3 hcx
   have hw3:=keepW K3
   have hwl3:σ.no<σ3.no:=yag hwl2 K3.no
   have C3':=C3
   have L3':=L3
   obtain⟨hc3,fsv3,pv3,lv3,tv3,lsv3,hco3,_⟩:=C3'
   obtain⟨hx3,sv3,ho3,_⟩:=L3'
   have hb0:0≤w.body∧w.body<B∧deep+1+w.body≤2^40:=hnm w.body (by
    unfold zl
    by_cases ho:w.other<0
    ·rw[if_pos (by omega)];simp
    ·rw[if_neg (by omega),if_pos h13];simp)
   simp[hw3,ho3,hco3,hwd]
   refine IH c σ3 w.body (deep+1) _ C3 hb0.1 hb0.2.1 (by omega) hb0.2.2 ?_
   cases hq:lk w.body (deep+1)with
   | error e =>
    rw[hq]at h
    intro σ4 A4
    simp
    exact h σ4 (K2.trans (K3.trans (A4.keepL hx3)))
   | ok u =>
    rw[hq]at h
    simp only at h
    intro σ4 A4
    have hw4:=(A4.obj σ.no hwl3).trans hw3
    have ho4:=(A4.obj x hx3).trans ho3
    have hco4:=(A4.obj c hc3).trans hco3
    have L4:=L3.adds A4
    have C4:=C3.adds A4
    by_cases ho:0≤w.other
    ·rw[if_pos ho]at h
     have hb1:0≤w.other∧w.other<B∧deep+1+w.other≤2^40:=hnm w.other (by unfold zl;rw[if_neg (by omega),if_pos h13];simp)
     simp[hw4,ho,ho4,hco4,hwd]
     refine IH c σ4 w.other (deep+1) _ C4 hb1.1 hb1.2.1 (by omega) hb1.2.2 ?_
     cases hq2:lk w.other (deep+1)with
     | error e =>
      rw[hq2]at h
      intro σ5 A5
      simp
      exact h σ5 (K2.trans (K3.trans ((A4.trans A5).keepL hx3)))
     | ok u =>
      rw[hq2]at h
      intro σ5 A5
      simp
      exact h σ5 (K2.trans (K3.trans ((A4.trans A5).keepL hx3))) (L4.adds A5)
    ·rw[if_neg ho]at h
     simp[hw4,ho]
     exact h σ4 (K2.trans (K3.trans (A4.keepL hx3))) L4
 rw[if_neg h13]at h
 by_cases h15:w.op=15
 ·rw[if_pos h15]at h
  simp[h15,hw2]
  refine za6 (ts:=[1]) (.inr ⟨_,rfl⟩) (by simp) L2 (by omega) ?_
  rw[show [(1:Int)].reverse=[1] from rfl]
  cases ht:zW [1] s with
  | error e =>
   rw[ht]at h
   intro σ3 K3
   simp
   exact h σ3 (K2.trans K3)
  | ok s1 =>
   rw[ht]at h
   simp only at h
   intro σ3 K3 L3
   have hs1:=zb5 ht
   have C3:=C2.keep K3 hcx
   have hw3:=keepW K3
   have L3':=L3
   obtain⟨hx3,sv3,ho3,_⟩:=L3'
   by_cases hq:w.n=deep
   ·rw[if_pos hq]at h
    simp[hw3,ho3,hq]
    refine zc5 L3 C3 (by omega) ?_
    cases hq2:zx f.type s1 with
    | error e =>
     rw[hq2]at h
     intro σ4 K4
     simp
     exact h σ4 (K2.trans (K3.trans K4))
    | ok s2 =>
     rw[hq2]at h
     intro σ4 K4 L4
     have hs2:s2.stack.length≤s1.stack.length:=by
      unfold zx at hq2
      split at hq2
      ·cases hq2;exact yah _
      ·exact zb5 hq2
     have C4:=C3.keep K4 hcx
     have C4':=C4
     have L4':=L4
     obtain⟨hc4,fsv4,pv4,lv4,tv4,lsv4,hco4,_⟩:=C4'
     obtain⟨hx4,sv4,ho4,_⟩:=L4'
     simp[ho4,hco4]
     refine zal L4 (by omega) fun σ5 K5 L5=>?_
     simp
     exact h σ5 (K2.trans (K3.trans (K4.trans K5))) L5
   ·rw[if_neg hq]at h
    simp[hw3,ho3,hq]
    exact h σ3 (K2.trans K3) L3
 rw[if_neg h15]at h
 have ret:∀{R':Out→AS→Prop},zr6 R' x c deep σ2 (zx f.type s)→zzQ G 162 [.ptr x 0] σ2 R':=fun hh=>zc5 L2 C2 (by omega) hh
 by_cases h14:w.op=14
 ·rw[if_pos h14]at h
  by_cases hq:w.n=deep
  ·rw[if_pos hq]at h
   simp[h14,hw2,ho,hq]
   refine ret ?_
   cases hq2:zx f.type s with
   | error e =>
    rw[hq2]at h
    intro σ4 K4
    simp
    exact h σ4 (K2.trans K4)
   | ok s2 =>
    rw[hq2]at h
    intro σ4 K4 L4
    simp
    refine zb4 L4 fun σ5 K5 L5=>?_
    simp
    exact h σ5 (K2.trans (K4.trans K5)) L5
  ·rw[if_neg hq]at h
   simp[h14,hw2,ho,hq]
   refine zb4 L2 fun σ5 K5 L5=>?_
   simp
   exact h σ5 (K2.trans K5) L5
 rw[if_neg h14]at h
 by_cases h16:w.op=16
 ·rw[if_pos h16]at h
  simp[h16,hw2]
  refine ret ?_
  cases hq2:zx f.type s with
  | error e =>
   rw[hq2]at h
   intro σ4 K4
   simp
   exact h σ4 (K2.trans K4)
  | ok s2 =>
   rw[hq2]at h
   intro σ4 K4 L4
   simp
   refine zb4 L4 fun σ5 K5 L5=>?_
   simp
   exact h σ5 (K2.trans (K4.trans K5)) L5
 rw[if_neg h16]at h
 by_cases h17:w.op=17
 ·rw[if_pos h17]at h
  simp[h17,hw2]
  refine zb4 L2 fun σ5 K5 L5=>?_
  simp
  exact h σ5 (K2.trans K5) L5
 rw[if_neg h17]at h
 simp[h11a,h11b,h13,h15,h14,h16,h17,hw2]
 rw[show yct [yco yam w.op,yco yam w.ty,yco yam w.n,yco yam w.body,yco yam w.other,ycn w.name]=w.av from rfl]
 refine zm5 V L2 C2 hcx (by omega) hn hps hf hr ?_
 revert h
 cases zbI m.funcs ls w s with
 | ok s'=>intro h σ3 K3 L3;simp;exact h σ3 (K2.trans K3) L3
 | error e=>intro h σ3 K3;simp;exact h σ3 (K2.trans K3)
end
theorem zkl(s:St)(t:Int):(zc3 s t).stack.length≤s.stack.length+1:=by unfold zc3;split<;>simp
theorem zul{ts:List Int}{s s':St}{t:Int}(h:zeO (zW ts s) t=.ok s'):s'.stack.length≤s.stack.length+1:=by
 obtain⟨s1,e,rfl⟩:∃s1,zW ts s=.ok s1∧s'=zc3 s1 t:=by
  cases hq:zW ts s with
  | error e=>rw[hq]at h;cases h
  | ok s1=>rw[hq]at h;cases h;exact⟨s1,rfl,rfl⟩
 have:=zb5 e
 have:=zkl s1 t
 omega
theorem zqI{fs:List F}{ls:List Int}{w:W}{s s':St}(h:zbI fs ls w s=.ok s'):s'.stack.length≤s.stack.length+1:=by
 unfold zbI at h
 repeat' split at h
 all_goals first
  | (cases h;first|exact zkl _ _|omega)
  | exact zul h
  | (have:=zb5 h;omega)
  | (have:=zgS h;omega)
theorem zm6{ty:Int}{s s':St}(h:zx ty s=.ok s'):s'.stack.length≤s.stack.length:=by
 unfold zx at h
 split at h
 ·cases h;exact yah _
 ·exact zb5 h
theorem zqJ{fs:List F}{ls:List Int}{ty deep:Int}{lk:zkf}{w:W}{s s':St}(h:zL fs ls ty deep lk w s=.ok s'):s'.stack.length≤s.stack.length+1:=by
 unfold zL at h
 by_cases h1:zR w=false
 ·rw[if_pos h1]at h;cases h
 rw[if_neg h1]at h
 by_cases h2:zI fs ls deep w=false
 ·rw[if_pos h2]at h;cases h
 rw[if_neg h2]at h
 by_cases h3:w.op=11∨w.op=12
 ·rw[if_pos h3]at h
  split at h
  ·cases h;omega
  ·cases h
 rw[if_neg h3]at h
 by_cases h4:w.op=13
 ·rw[if_pos h4]at h
  split at h
  ·cases h
  ·rename_i s1 hs1
   have:=zb5 hs1
   split at h
   ·cases h
   ·split at h
    ·split at h
     ·cases h
     ·cases h;omega
    ·cases h;omega
 rw[if_neg h4]at h
 by_cases h5:w.op=15
 ·rw[if_pos h5]at h
  split at h
  ·cases h
  ·rename_i s1 hs1
   have:=zb5 hs1
   split at h
   ·cases hq:zx ty s1 with
    | error e=>rw[hq]at h;cases h
    | ok s2 =>
     rw[hq]at h
     cases h
     have:=zm6 hq
     have:=zkl s2 ty
     omega
   ·cases h;omega
 rw[if_neg h5]at h
 have hl:zmV.stack.length=0:=rfl
 by_cases h6:w.op=14
 ·rw[if_pos h6]at h
  split at h
  ·split at h
   ·cases h
   ·cases h;omega
  ·cases h;omega
 rw[if_neg h6]at h
 by_cases h7:w.op=16
 ·rw[if_pos h7]at h
  split at h
  ·cases h
  ·cases h;omega
 rw[if_neg h7]at h
 by_cases h8:w.op=17
 ·rw[if_pos h8]at h;cases h;omega
 rw[if_neg h8]at h
 exact zqI h
structure zpa(m:M):Prop where
 funcs:m.funcs.length≤2^20
 params:∀f∈m.funcs,f.params.length≤2^20
 locals:∀f∈m.funcs,f.locals.length≤2^20
 lists:∀f∈m.funcs,f.lists.length≤2^20
 rows:∀f∈m.funcs,∀l∈f.lists,l.length≤2^20
 nums:∀f∈m.funcs,∀l∈f.lists,∀w∈l,w.n≤2^63-1
theorem zaR.made{x:Nat}{σ σ':AS}{cs:List AV}(K:zaR x (σ.newO cs) σ')(hx:x=σ.no)(hn:∀v f,cs[1]?=some v→zcA v≠some f):zh σ σ' where
 no:=yai (by simp) K.no
 nf:=by have:=K.nf;simpa using this
 obj o ho:=by
  rw[K.obj o (by simp;omega) (by omega)]
  simp;omega
 fam f hf:=by
  rw[K.fam f (by simpa using hf) ?_]
  ·rfl
  ·rintro ⟨cs',v,h1,h2,h3⟩
   subst hx
   simp at h1
   subst h1
   exact hn v f h2 h3
def KI(x c:Nat)(deep:Int)(rv:AV)(row:List W)(σ1:AS)(run:List W→St→Res St)(a:Nat→AV)(τ:AS):Prop:=∃(i:Nat) (s:St),i≤row.length∧a 2=.int .i64 deep∧a 6=.ptr x 0∧a 20=rv∧a 21=.int .i64 (row.length:Int)∧a 22=.int .i64 (i:Int)∧LS τ x c s deep∧zaR x σ1 τ∧s.stack.length≤i ∧
 run (row.drop i) s=run row ⟨[],false⟩
theorem zqK{G:Env}(V:zkj G){m:M}(sm:zpa m){f:F}(hfm:f∈m.funcs)(ha:zlD f.lists)(ls:List Int):∀k:Nat,zvX G m f ls (min (k:Int) (f.lists.length:Int)) (zQ m.funcs ls f.type f.lists k)
 | 0=>fun c σ at_ deep R _ h0 h1=>by omega
 | k+1=>by
  have IH:=zqK V sm hfm ha ls k
  intro c σ at_ deep R C h0 h1 hd0 hd1 h
  refine zsR rfl ?_
  rw[zQ]at h
  obtain⟨j,rfl⟩:∃j:Nat,at_=(j:Int):=⟨at_.toNat,by omega⟩
  have hj:j<f.lists.length:=by omega
  have hjk:j<k+1:=by omega
  rw[ybe]at h
  have hrow:f.lists.getD j []=f.lists[j]:=by rw[ycf,yau hj];rfl
  rw[hrow]at h
  have hahead:=ha j _ (yau hj)
  have hrl:=sm.rows f hfm f.lists[j] (yaw hj)
  have hnums:=sm.nums f hfm f.lists[j] (yaw hj)
  have C0:=C
  obtain⟨hc,fsv,pv,lv,tv,lsv,hco,hfs,hpv,hlv,htv,hls⟩:=C
  rcases htv with ⟨e,_⟩|⟨b,rows,rfl,hrows⟩
  ·rw[e]at hj;simp at hj
  obtain⟨rv,hrv,hrep⟩:=hrows.get (yau hj)
  generalize f.lists[j]=row at *
  have hlen:=hrep.len
  have hcx:c≠σ.no:=by omega
  simp[zBN,hco,hcx,hrv,hlen,splice]
  refine⟨hrep.one.2.2,?_⟩
  generalize hσ1:σ.newO [ycr c 0,ycu,AV.bool false,yco yam deep]=σ1
  have hno1:σ1.no=σ.no+1:=by rw[←hσ1];simp
  have ho1:σ1.objs σ.no=some [.ptr c 0,.nilsl,.bool false,.int .i64 deep]:=by rw[←hσ1];simp
  have L1:LS σ1 σ.no c ⟨[],false⟩ deep:=⟨by omega,_,ho1,.inl ⟨rfl,rfl⟩⟩
  have A1:zh σ σ1:=by rw[←hσ1];exact(zh.refl σ).newO
  have C1:=C0.adds A1
  have made:∀{σ'},zaR σ.no σ1 σ'→zh σ σ':=fun K=>by
   rw[←hσ1]at K
   exact K.made rfl fun v f hv hf=>by simp at hv;subst hv;simp[zcA]at hf
  refine zas (KI σ.no c deep rv row σ1 (zE m.funcs ls f.type deep (zQ m.funcs ls f.type f.lists k))) (MU 22 (row.length+1)) ⟨0,⟨[],false⟩,by omega,by simp,by simp,by simp,by simp,by simp,L1,.refl _ _,by simp,by simp⟩ fun a τ hI=>?_
  obtain⟨i,s,hi,a2,a6,a20,a21,a22,L,K,hsl,hrun⟩:=hI
  have C2:=C1.keep K hcx
  by_cases hlt:i<row.length
  ·obtain⟨b2,hix2⟩:=hrep.at hlt
   have hlt':(i:Int)<(row.length:Int):=by omega
   rw[ycq hlt,zE]at hrun
   simp[zfb,a6,a20,a21,a22,hlt,hix2,W.av,W.cs,splice]
   have hw3:yb4 .i64 ((i:Int)+1)=((i+1:Nat):Int):=by rw[zc]<;>omega
   have hmem:=yaw hlt
   have A3:zh τ ((τ.newO [yco yam 0,yco yam 0,yco yam 0,yco yam 0,yco yam 0,ycn []]).setO τ.no row[i].cs):=((zh.refl τ).newO).setO (yah _)
   refine zkk (w:=row[i]) V IH (L.adds A3) (C2.adds A3) hcx (by omega) hd0 (by omega) (hnums _ hmem) (fun g hg=>by have:=sm.params g hg;omega) (fun n hn=>?_) ?_
   ·have:=hahead n (ycv.2 ⟨_,hmem,hn⟩)
    exact⟨this.1,by omega,by omega⟩
   ·have KA:=K.trans (A3.keepL L.1)
    cases hq:zL m.funcs ls f.type deep (zQ m.funcs ls f.type f.lists k) row[i] s with
    | error e =>
     rw[hq]at hrun
     simp only at hrun
     rw[←hrun]at h
     intro σ' K'
     simp
     exact h σ' (made (KA.trans K'))
    | ok s' =>
     rw[hq]at hrun
     simp only at hrun
     have hle:=zqJ hq
     intro σ' K' L'
     simp[a22,hw3]
     refine⟨⟨i+1,s',by omega,by simp[a2],by simp[a6],by simp[a20],by simp[a21],by simp,L',KA.trans K',by omega,hrun⟩,?_⟩
     simp only[MU,a22]
     simp;omega
  ·have he:i=row.length:=by omega
   subst he
   simp[zE]at hrun
   rw[←hrun]at h
   simp only at h
   have L':=L
   obtain⟨hx,sv,ho,hs⟩:=L'
   unfold zEi at h
   by_cases hdz:deep=0
   ·rw[if_pos hdz]at h
    simp[zfb,zgK,a2,a6,a21,a22,hdz]
    refine zc5 (by rw[hdz]at L;exact L) C2 (by omega) ?_
    cases hq:zx f.type s with
    | error e =>
     rw[hq]at h
     intro σ' K'
     simp
     exact h σ' (made (K.trans K'))
    | ok s3 =>
     rw[hq]at h
     intro σ' K' L3
     obtain⟨hx3,sv3,ho3,hs3⟩:=L3
     have hsl3:=hs3.len
     by_cases hz:s3.stack.length=0
     ·simp only[if_pos hz]at h
      have hz':s3.stack=[]:=ybS.1 hz
      simp[a6,ho3,hsl3,hz']
      refine zd (fun _=>?_) (fun q=>by simp at q)
      simp
      exact h σ' (made (K.trans K'))
     ·simp only[if_neg hz]at h
      have hz':¬s3.stack=[]:=fun q=>hz (by rw[q];rfl)
      simp[a6,ho3,hsl3,hz']
      refine zd (fun q=>by simp at q) (fun _=>?_)
      simp
      exact h σ' (made (K.trans K'))
   ·rw[if_neg hdz]at h
    have hsl3:=hs.len
    by_cases hz:s.stack.length=0
    ·simp only[if_pos hz]at h
     have hz':s.stack=[]:=ybS.1 hz
     simp[zfb,zgK,a2,a6,a21,a22,hdz,ho,hsl3,hz']
     refine zd (fun _=>?_) (fun q=>by simp at q)
     simp
     exact h τ (made K)
    ·simp only[if_neg hz]at h
     have hz':¬s.stack=[]:=fun q=>hz (by rw[q];rfl)
     simp[zfb,zgK,a2,a6,a21,a22,hdz,ho,hsl3,hz']
     refine zd (fun q=>by simp at q) (fun _=>?_)
     simp
     exact h τ (made K)
theorem zm7{G:Env}{σ:AS}{R:Out→AS→Prop}{w:W}(h:∀v σ',zZ v (zl w)→zh σ σ'→R (.ret v) σ'):zzQ G 159 [w.av] σ R:=by
 refine zti rfl ?_
 have A:zh σ (σ.newO w.cs):=(zh.refl σ).newO
 simp only[W.cs]at A
 unfold zl at h
 by_cases h1:w.op=11
 ·rw[if_pos (.inl h1)]at h
  simp[zoZ,W.av,W.cs,h1]
  exact h _ _ (.inr ⟨_,rfl⟩) (by simpa [h1]using A)
 by_cases h2:w.op=12
 ·rw[if_pos (.inr (.inl h2))]at h
  simp[zoZ,W.av,W.cs,h2]
  exact h _ _ (.inr ⟨_,rfl⟩) (by simpa [h2]using A)
 by_cases h3:w.op=13
 ·by_cases ho:w.other<0
  ·rw[if_pos (.inr (.inr ⟨h3,ho⟩))]at h
   simp[zoZ,W.av,W.cs,h3,ho]
   exact h _ _ (.inr ⟨_,rfl⟩) (by simpa [h3]using A)
  ·rw[if_neg (by omega),if_pos h3]at h
   simp[zoZ,W.av,W.cs,h3,ho]
   exact h _ _ (.inr ⟨_,rfl⟩) (by simpa [h3]using A)
 ·rw[if_neg (by omega),if_neg h3]at h
  simp[zoZ,W.av,W.cs,h1,h2,h3]
  exact h _ _ (.inl ⟨rfl,rfl⟩) A
@[simp] theorem zEm(x y:Bool):aeq yb9 4 (.bool x) (.bool y)=some (x==y):=by simp[aeq,zjs,show yb9.underlying 4=some .bool from by kernel_rfl]
@[simp] theorem zAy:za yb9 106=true:=by kernel_rfl
def zaN(l:List Bool):List AV:=l.map AV.bool
def CI(σ:AS)(o len:Nat)(named:List Bool)(a:Nat→AV)(τ:AS):Prop:=∃i:Nat,i≤len∧a 0=.slm o 0 1 len∧a 1=.bool false∧a 7=.int .i64 (len:Int)∧a 8=.int .i64 (i:Int)∧τ=σ∧∀j,j<i→named[j]?=some true
theorem zix{G:Env}{σ:AS}{R:Out→AS→Prop}{o len:Nat}{named:List Bool}(ho:σ.objs o=some (zaN named))(hl:len≤named.length)(hb:len≤2^40)(h:R (.ret (.bool (!(named.take len).all (·==true)))) σ):zzQ G 160 [.slm o 0 1 len,.bool false] σ R:=by
 refine ztj rfl ?_
 simp[zB5]
 refine ztB rfl ?_
 simp[zCd]
 refine zas (CI σ o len named) (MU 8 (len+1)) ⟨0,by omega,by simp,by simp,by simp,by simp,rfl,fun j hj=>by omega⟩ fun a τ hI=>?_
 obtain⟨i,hi,a0,a1,a7,a8,rfl,hall⟩:=hI
 have hw3:yb4 .i64 ((i:Int)+1)=((i+1:Nat):Int):=by rw[zc]<;>omega
 by_cases hlt:i<len
 ·have hlt':(i:Int)<(len:Int):=by omega
  have hin:i<named.length:=by omega
  have hget:(zaN named)[i]?=some (.bool named[i]):=by simp[zaN,hin]
  have hge:∀q:i<(zaN named).length,(zaN named)[i]'q=.bool named[i]:=fun q=>by rw[yau q]at hget;exact yaR.inj hget
  have hlb:i<(zaN named).length:=by simp[zaN];exact hin
  cases hv:named[i]with
  | true =>
   rw[hv]at hget hge
   simp[zgN,a0,a1,a7,a8,hlt,ho,hlb,hge,hw3]
   refine⟨⟨i+1,by omega,by simp[a0],by simp[a1],by simp[a7],by simp,rfl,fun j hj=>?_⟩,?_⟩
   ·by_cases e:j=i
    ·subst e;rw[yau hin,hv]
    ·exact hall j (by omega)
   ·simp only[MU,a8];simp;omega
  | false =>
   rw[hv]at hget hge
   have e:(!(named.take len).all (·==true))=true:=by
    rw[Bool.not_eq_true',ycw]
    exact⟨false,ycx.2 ⟨i,by rw[ybf];omega,by rw[yaE];exact hv⟩,by simp⟩
   rw[e]at h
   simp[zgN,a0,a1,a7,a8,hlt,ho,hlb,hge]
   exact h
 ·have he:i=len:=by omega
  subst he
  have e:(!(named.take i).all (·==true))=false:=by
   rw[Bool.not_eq_false',yaM]
   intro b hb
   obtain⟨j,hj,rfl⟩:=ycx.1 hb
   rw[ybf]at hj
   have:=hall j (by omega)
   rw[yau (by omega)]at this
   rw[yaE]
   simp[yaR.inj this]
  rw[e]at h
  simp[zgN,zn2,a7,a8]
  exact h
def FI(σ:AS)(v:AV)(ls:List Int)(a:Nat→AV)(τ:AS):Prop:=∃i:Nat,i≤ls.length∧a 0=v∧a 1=.fn (.func 106) [] []∧a 7=.int .i64 (ls.length:Int)∧a 8=.int .i64 (i:Int)∧τ=σ∧∀j,j<i→∃t,ls[j]?=some t∧zT t=true
theorem zfl{G:Env}{σ:AS}{R:Out→AS→Prop}{v:AV}{ls:List Int}(hv:zZ v ls)(hb:ls.length≤2^40)(h:R (.ret (.bool (!ls.all zT))) σ):zzQ G 95 [v,.fn (.func 106) [] []] σ R:=by
 refine zxn rfl ?_
 simp[zJX]
 refine ztf rfl ?_
 simp[zB3,hv.len]
 refine zas (FI σ v ls) (MU 8 (ls.length+1)) ⟨0,by omega,by simp,by simp,by simp,by simp,rfl,fun j hj=>by omega⟩ fun a τ hI=>?_
 obtain⟨i,hi,a0,a1,a7,a8,rfl,hall⟩:=hI
 have hw3:yb4 .i64 ((i:Int)+1)=((i+1:Nat):Int):=by rw[zc]<;>omega
 by_cases hlt:i<ls.length
 ·rcases hv with ⟨rfl,_⟩|⟨b,rfl⟩
  ·simp at hlt
  simp[zj8,a0,a1,a7,a8,hlt]
  refine zsN rfl ?_
  simp[zBM]
  refine zbE ?_
  cases hn:zT ls[i]with
  | true =>
   simp[a8,hw3]
   refine⟨⟨i+1,by omega,by simp[a0],by simp[a1],by simp[a7],by simp,rfl,fun j hj=>?_⟩,?_⟩
   ·by_cases e:j=i
    ·subst e;exact⟨_,yau hlt,hn⟩
    ·exact hall j (by omega)
   ·simp only[MU,a8];simp;omega
  | false =>
   have e:(!ls.all zT)=true:=by
    rw[Bool.not_eq_true',ycw]
    exact⟨_,yaw hlt,by simp[hn]⟩
   rw[e]at h
   simp[a8]
   exact h
 ·have he:i=ls.length:=by omega
  subst he
  have e:(!ls.all zT)=false:=by
   rw[Bool.not_eq_false',yaM]
   intro t ht
   obtain⟨j,hj,rfl⟩:=ycx.1 ht
   obtain⟨t,h1,h2⟩:=hall j hj
   rw[yau hj]at h1
   cases h1
   exact h2
  rw[e]at h
  simp[zj8,znY,a7,a8]
  exact h
theorem zlH{G:Env}{σ:AS}{R:Out→AS→Prop}{pv lv:AV}{p l:List Int}(hp:zZ pv p)(hl:zZ lv l)(hb:p.length+l.length≤2^30)(h:∀v σ',zZ v (p++l)→zh σ σ'→R (.ret v) σ'):zzQ G 105 [.sl (.stat true) 1 [pv,lv]] σ R:=by
 refine zoa (zsM rfl ?_)
 have p1:=hp.one
 have l1:=hl.one
 have hpl:=hp.len
 have hll:=hl.len
 have w1:yb4 .i64 (p.length:Int)=(p.length:Int):=by rw[zc]<;>omega
 have w2:yb4 .i64 ((p.length:Int)+(l.length:Int))=(p.length:Int)+(l.length:Int):=by rw[zc]<;>omega
 have w3:yb4 .i64 1=1:=rfl
 have w4:yb4 .i64 2=2:=rfl
 have n1:¬(p.length:Int)<0:=by omega
 have n2:¬(p.length:Int)+(l.length:Int)<0:=by omega
 simp[zBL]
 refine za5 3 ?_
 simp[znQ,p1,l1,hpl,hll,w1,w2,w3,w4,n1,n2,zgJ,znR]
 have hgrow:∀{R':Out→AS→Prop},(p.length+l.length=0→R' (.ret .nilsl) σ)→(0<p.length+l.length→R' (.ret (.sl (.fam σ.nf false) 1 [])) σ.newF)→zzQ G 158 [.nilsl,.int .i64 ((p.length:Int)+(l.length:Int))] σ R':=by
  intro R' g0 g1
  refine zth rfl ?_
  have w5:yb4 .i64 0=0:=rfl
  by_cases hz:p.length+l.length=0
  ·have hz':¬(0:Int)<(p.length:Int)+(l.length:Int):=by omega
   simp[zxs,n2,w5,w2,hz']
   exact g0 hz
  ·have hz':(0:Int)<(p.length:Int)+(l.length:Int):=by omega
   obtain⟨n,hn⟩:∃n,((p.length:Int)+(l.length:Int)).toNat=n+1:=⟨((p.length:Int)+(l.length:Int)).toNat-1,by omega⟩
   simp[zxs,n2,w5,w2,hz',hn,ycy,zcD,zbS]
   exact⟨by omega,by omega,by omega,by omega,g1 (by omega)⟩
 refine hgrow (fun hz=>?_) (fun hz=>?_)
 ·have e1:p=[]:=ybS.1 (by omega)
  have e2:l=[]:=ybS.1 (by omega)
  subst e1 e2
  have:=h .nilsl σ (.inl ⟨rfl,rfl⟩) (.refl _)
  have sta:∀K:AV→AS→Prop,∀v,zZ v []→zdv yb9 44 44 .nilsl v σ K=K .nilsl σ:=by
   intro K v hv
   rcases hv with ⟨_,rfl⟩|⟨b,rfl⟩<;>simp
  simp
  refine za5 3 ?_
  rcases hp with ⟨_,rfl⟩|⟨b,rfl⟩<;>rcases hl with ⟨_,rfl⟩|⟨b',rfl⟩<;>simp[zjZ,zgJ,w3,w4]<;>exact .inl this
 ·simp
  refine za5 3 ?_
  have fin:∀σ',zh σ σ'→∀g,σ.nf≤g→σ'.F g=.alive→zo5 R (.ret (.sl (.fam g false) 1 ((p++l).map (.int .i64)))) σ':=by
   intro σ' A' g hg ha
   refine .froze g (fun _=>false) ha ?_
   have:=h (.sl (.stat false) 1 ((p++l).map (.int .i64))) (σ'.frz g fun _=>false) (.inr ⟨_,rfl⟩) (A'.frz hg fun _ _=>rfl)
   simpa [Function.comp_def]using this
  have A3:zh σ ((σ.newF.setF σ.nf FSt.dead).newF.setF (σ.nf+1) FSt.dead).newF:=((((zh.refl σ).newF.setF (yah _)).newF).setF (by omega)).newF
  have key:=fin _ A3 (σ.nf+1+1) (by omega) (by simp)
  rcases hp with ⟨rfl,rfl⟩|⟨b,rfl⟩<;>rcases hl with ⟨rfl,rfl⟩|⟨b',rfl⟩<;>simp[zjZ,zgJ,w3,w4]
  ·simp at hz
  ·exact⟨by simp at hb;omega,by simpa using key⟩
  ·exact⟨by simp at hb;omega,by simpa using key⟩
  ·exact⟨by omega,by omega,by simpa using key⟩
structure NS(σ1:AS)(o:Nat)(named:List Bool)(L:Nat)(τ:AS):Prop where
 obj:τ.objs o=some (zaN named)
 len:named.length=L
 no:σ1.no≤τ.no
 nf:σ1.nf≤τ.nf
 oth:∀p,p<σ1.no→p≠o→τ.objs p=σ1.objs p
 fam:∀f,f<σ1.nf→τ.F f=σ1.F f
theorem NS.adds{σ1 o named L τ τ'}(h:NS σ1 o named L τ)(ho:o<σ1.no)(A:zh τ τ'):NS σ1 o named L τ' where
 obj:=(A.obj o (yag ho h.no)).trans h.obj
 len:=h.len
 no:=yai h.no A.no
 nf:=yai h.nf A.nf
 oth p hp hne:=(A.obj p (yag hp h.no)).trans (h.oth p hp hne)
 fam f hf:=(A.fam f (yag hf h.nf)).trans (h.fam f hf)
theorem NS.set{σ1 o named named' L τ}(h:NS σ1 o named L τ)(hl:named'.length=L):NS σ1 o named' L (τ.setO o (zaN named')) where
 obj:=by simp
 len:=hl
 no:=h.no
 nf:=h.nf
 oth p hp hne:=by simp[hne];exact h.oth p hp hne
 fam f hf:=h.fam f hf
def zfm{α β:Type}(r:Res α)(k:α→Res β):Res β:=match r with
 | .error e=>.error e
 | .ok a=>k a
theorem zm8(a n:Int)(ns:List Int)(named:List Bool):zaG a (n::ns) named=zfm (zdn a named n) fun m=>zaG a ns m:=by
 rw[zaG];unfold zfm;cases zdn a named n<;>rfl
theorem zqL(a:Int)(w:W)(ws:List W)(named:List Bool):zgQ a (w::ws) named=zfm (zaG a (zl w) named) fun m=>zgQ a ws m:=by
 rw[zgQ];unfold zfm;cases zaG a (zl w) named<;>rfl
theorem zpb(k:Nat)(l:List W)(ls:To)(named:List Bool):zbu k (l::ls) named=zfm (zgQ (k:Int) l named) fun m=>zbu (k+1) ls m:=by
 rw[zbu];unfold zfm;cases zgQ (k:Int) l named<;>rfl
def NI3(σ1:AS)(o L:Nat)(tv:AV)(ls:To)(goal:Res (List Bool))(a:Nat→AV)(τ:AS):Prop:=∃(i:Nat) (named:List Bool),i≤ls.length∧a 2=.slm o 0 1 L∧a 28=tv∧a 29=.int .i64 (ls.length:Int)∧a 30=.int .i64 (i:Int)∧NS σ1 o named L τ∧zbu i (ls.drop i) named=goal
def NI2(σ1:AS)(o L:Nat)(tv:AV)(ls:To)(k:Nat)(rv:AV)(row:List W)(goal:Res (List Bool))(a:Nat→AV)(τ:AS):Prop:=∃(j:Nat) (named:List Bool),j≤row.length∧a 2=.slm o 0 1 L∧a 28=tv∧a 29=.int .i64 (ls.length:Int)∧a 30=.int .i64 (k:Int)∧a 3=.int .i64 (k:Int)∧a 35=rv∧a 36=.int .i64 (row.length:Int)∧a 37=.int .i64 (j:Int)∧NS σ1 o named L τ ∧
 zfm (zgQ (k:Int) (row.drop j) named) (fun n=>zbu (k+1) (ls.drop (k+1)) n)=goal
def NI1(σ1:AS)(o L:Nat)(tv:AV)(ls:To)(k:Nat)(rv:AV)(row:List W)(j:Nat)(nv:AV)(ns:List Int)(goal:Res (List Bool))(a:Nat→AV)(τ:AS):Prop:=∃(q:Nat) (named:List Bool),q≤ns.length∧a 2=.slm o 0 1 L∧a 28=tv∧a 29=.int .i64 (ls.length:Int)∧a 30=.int .i64 (k:Int)∧a 3=.int .i64 (k:Int)∧a 35=rv∧a 36=.int .i64 (row.length:Int)∧a 37=.int .i64 (j:Int) ∧
 a 42=nv∧a 43=.int .i64 (ns.length:Int)∧a 44=.int .i64 (q:Int)∧NS σ1 o named L τ ∧
 zfm (zfm (zaG (k:Int) (ns.drop q) named) fun n=>zgQ (k:Int) (row.drop (j+1)) n) (fun n=>zbu (k+1) (ls.drop (k+1)) n)=goal
theorem zm9{named:List Bool}{n:Nat}(h:n<named.length)(b:Bool):splice (zaN named) n [.bool b]=zaN (named.set n b):=by
 unfold splice zaN
 rw[List.set_eq_take_append_cons_drop,if_pos h]
 simp
theorem zlI{G:Env}(V:zkj G){σ:AS}{R:Out→AS→Prop}{c:Nat}{m:M}{f:F}{ls0:List Int}(C:zoc σ c m f ls0)(hb:f.lists.length≤2^20)(hrows:∀l∈f.lists,l.length≤2^20)(h:zHl R σ (zbY f.lists)):zzQ G 108 [.ptr c 0] σ R:=by
 refine zsQ rfl ?_
 obtain⟨hc,fsv,pv,lv,tv,lsv,hco,hfs,hpv,hlv,htv,hls⟩:=C
 have hlen:=htv.len
 unfold zbY at h
 by_cases hz:f.lists.length=0
 ·rw[if_pos hz]at h
  have hz':f.lists=[]:=ybS.1 hz
  simp[zxo,hco,hlen,hz']
  refine zd (fun q=>by simp at q) (fun _=>?_)
  simp
  exact h σ (.refl _)
 ·rw[if_neg hz]at h
  have hz':¬f.lists=[]:=fun q=>hz (by rw[q];rfl)
  have hpos:0<f.lists.length:=by omega
  simp[zxo,hco,hlen,hz',hpos]
  refine zd (fun _=>?_) (fun q=>by simp at q)
  simp[hco,hlen]
  have hto:((f.lists.length:Int)).toNat=f.lists.length:=by omega
  generalize hgoal:zbu 0 f.lists (yaj f.lists.length false)=goal at h
  refine⟨1,1,.bool false,by simp,by simp,by simp,rfl,rfl,rfl,by omega,by omega,by omega,?_⟩
  have hflat:zy (yaj f.lists.length (AV.bool false))=zaN (yaj f.lists.length false):=by
   unfold zy zaN
   induction f.lists.length with
   | zero=>rfl
   | succ n ih=>rw[ycy,ycy,yaa,yaL,ih];rfl
  have hcn:c≠σ.no:=by omega
  simp[hflat,hcn,hco,hlen]
  generalize hσ1:σ.newO (zaN (yaj f.lists.length false))=σ1
  have hno1:σ1.no=σ.no+1:=by rw[←hσ1];simp
  have A1:zh σ σ1:=by rw[←hσ1];exact(zh.refl σ).newO
  have N1:NS σ1 σ.no (yaj f.lists.length false) f.lists.length σ1:=⟨by rw[←hσ1];simp,by simp,yah _,yah _,fun _ _ _=>rfl,fun _ _=>rfl⟩
  have toA:∀{named τ},NS σ1 σ.no named f.lists.length τ→zh σ τ:=fun N=>⟨by have:=N.no;omega,yai A1.nf N.nf,fun o ho=>(N.oth o (by omega) (by omega)).trans (A1.obj o ho),fun g hg=>(N.fam g (yag hg A1.nf)).trans (A1.fam g hg)⟩
  refine zas (NI3 σ1 σ.no f.lists.length tv f.lists goal) (MU 30 (f.lists.length+1)) ⟨0,_,by omega,by simp,by simp,by simp,by simp,N1,by simpa using hgoal⟩ fun a τ hI=>?_
  obtain⟨i,named0,hi,a2,a28,a29,a30,N0,hg0⟩:=hI
  by_cases hlt:i<f.lists.length
  ·obtain⟨b,rv,hrep,hix⟩:=htv.at hlt
   have hrl:=hrows _ (yaw hlt)
   rw[ycq hlt,zpb]at hg0
   generalize f.lists[i]=row at *
   have hrlen:=hrep.len
   have hr1:=hrep.one
   have hlt':(i:Int)<(f.lists.length:Int):=by omega
   simp[zj1,a2,a28,a29,a30,hlt,hix,hr1,hrlen]
   refine zas (NI2 σ1 σ.no f.lists.length tv f.lists i rv row goal) (MU 37 (row.length+1)) ⟨0,named0,by omega,by simp[a2],by simp[a28],by simp[a29],by simp[a30],by simp,by simp,by simp,by simp,N0,by simpa using hg0⟩ fun b ρ hI=>?_
   obtain⟨j,named1,hj,b2,b28,b29,b30,b3,b35,b36,b37,N2,hg1⟩:=hI
   by_cases hjl:j<row.length
   ·obtain⟨q2,hix2⟩:=hrep.at hjl
    rw[ycq hjl,zqL]at hg1
    simp[zj0,b35,b36,b37,hjl,hix2,W.av,W.cs,splice]
    rw[show yct [yco yam row[j].op,yco yam row[j].ty,yco yam row[j].n,yco yam row[j].body,yco yam row[j].other,ycn row[j].name]=row[j].av from rfl]
    refine zm7 fun nv σ3 hnv A3=>?_
    have A3':zh ρ σ3:=(((zh.refl ρ).newO).setO (yah _)).trans A3
    have N3:=N2.adds (by omega) A3'
    have hnl:=hnv.len
    simp[hnl]
    refine zas (NI1 σ1 σ.no f.lists.length tv f.lists i rv row j nv (zl row[j]) goal) (MU 44 ((zl row[j]).length+1)) ⟨0,named1,by omega,by simp[b2],by simp[b28],by simp[b29],by simp[b30],by simp[b3],by simp[b35],by simp[b36],by simp[b37],by simp,by simp,by simp,N3,by simpa using hg1⟩ fun d π hI=>?_
    obtain⟨q,named,hq,d2,d28,d29,d30,d3,d35,d36,d37,d42,d43,d44,N,hg⟩:=hI
    have ho:=N.obj
    have hnlen:=N.len
    have hbl:(zaN named).length=f.lists.length:=by simp[zaN,hnlen]
    by_cases hql:q<(zl row[j]).length
    ·obtain⟨q3,hix3⟩:=hnv.at hql
     rw[ycq hql,zm8]at hg
     have hw3:yb4 .i64 ((q:Int)+1)=((q+1:Nat):Int):=by
      have:(zl row[j]).length≤2:=by unfold zl;split<;>(try split)<;>simp
      rw[zc]<;>omega
     generalize hn:(zl row[j])[q]=n at *
     by_cases hok:0≤n∧n<(i:Int)
     ·have hnl2:n.toNat<f.lists.length:=by omega
      have hnn:n.toNat<named.length:=by omega
      have hget:(zaN named)[n.toNat]?=some (.bool named[n.toNat]):=by simp[zaN,hnn]
      have hge:∀p:n.toNat<(zaN named).length,(zaN named)[n.toNat]'p=.bool named[n.toNat]:=fun p=>by rw[yau p]at hget;exact yaR.inj hget
      have hlb:n.toNat<(zaN named).length:=by omega
      have hgd:named.getD n.toNat true=named[n.toNat]:=by rw[ycf,yau hnn];rfl
      have hnL:n<(f.lists.length:Int):=by omega
      cases hv:named[n.toNat]with
      | true =>
       have hE:zdn (i:Int) named n=.error 11:=by unfold zdn;rw[if_neg (by rw[hgd,hv];simp)]
       rw[hE]at hg
       simp[zfm]at hg
       rw[←hg]at h
       rw[hv]at hget hge
       simp[zd7,d2,d3,d42,d43,d44,hql,hix3,hok.1,hok.2,ho,hlb,hge,hnL]
       refine zd (fun q=>by simp at q) (fun _=>?_)
       simp
       exact h _ (toA N)
      | false =>
       have hE:zdn (i:Int) named n=.ok (named.set n.toNat true):=by unfold zdn;rw[if_pos ⟨hok.1,hok.2,by rw[hgd,hv]⟩]
       rw[hE]at hg
       simp only[zfm]at hg
       rw[hv]at hget hge
       simp[zd7,d2,d3,d42,d43,d44,hql,hix3,hok.1,hok.2,ho,hlb,hge,hnL]
       refine zd (fun _=>?_) (fun q=>by simp at q)
       simp[d2,d44,hok.1,hnL,ho,hlb,hw3]
       rw[zm9 hnn]
       refine⟨hlb,⟨q+1,named.set n.toNat true,by omega,by simp[d2],by simp[d28],by simp[d29],by simp[d30],by simp[d3],by simp[d35],by simp[d36],by simp[d37],by simp[d42],by simp[d43],by simp,N.set (by simp[hnlen]),hg⟩,?_⟩
       simp only[MU,d44];simp;omega
     ·have hE:zdn (i:Int) named n=.error 11:=by unfold zdn;rw[if_neg (fun q=>hok ⟨q.1,q.2.1⟩)]
      rw[hE]at hg
      simp[zfm]at hg
      rw[←hg]at h
      by_cases h0:0≤n
      ·have h1:¬n<(i:Int):=fun q=>hok ⟨h0,q⟩
       simp[zd7,d2,d3,d42,d43,d44,hql,hix3,h0,h1]
       refine zd (fun q=>by simp at q) (fun _=>?_)
       simp
       exact h _ (toA N)
      ·simp[zd7,d2,d3,d42,d43,d44,hql,hix3,h0]
       refine zd (fun q=>by simp at q) (fun _=>?_)
       simp
       exact h _ (toA N)
    ·have he:q=(zl row[j]).length:=by omega
     subst he
     have hnil:(zl row[j]).drop (zl row[j]).length=[]:=by simp
     rw[hnil]at hg
     simp only[zaG,zfm]at hg
     have hw3:yb4 .i64 ((j:Int)+1)=((j+1:Nat):Int):=by rw[zc]<;>omega
     simp[zd7,znS,d37,d43,d44,hw3]
     refine⟨⟨j+1,named,by omega,by simp[d2],by simp[d28],by simp[d29],by simp[d30],by simp[d3],by simp[d35],by simp[d36],by simp,N,hg⟩,?_⟩
     simp only[MU,b37];simp;omega
   ·have he:j=row.length:=by omega
    subst he
    have hnil:row.drop row.length=[]:=by simp
    rw[hnil]at hg1
    simp only[zgQ,zfm]at hg1
    have hw3:yb4 .i64 ((i:Int)+1)=((i+1:Nat):Int):=by rw[zc]<;>omega
    simp[zj0,znT,b30,b36,b37,hw3]
    refine⟨⟨i+1,named1,by omega,by simp[b2],by simp[b28],by simp[b29],by simp,N2,hg1⟩,?_⟩
    simp only[MU,a30];simp;omega
  ·have he:i=f.lists.length:=by omega
   subst he
   have hnil:f.lists.drop f.lists.length=[]:=by simp
   rw[hnil]at hg0
   simp only[zbu]at hg0
   rw[←hg0]at h
   simp only at h
   have hw3:yb4 .i64 ((f.lists.length:Int)-1)=((f.lists.length-1:Nat):Int):=by rw[zc]<;>omega
   simp[zj1,znU,a2,a29,a30,hw3]
   refine zix N0.obj (by rw[N0.len];omega) (by omega) ?_
   cases hq:(named0.take (f.lists.length-1)).all (·==true)with
   | true =>
    rw[if_pos hq]at h
    simp
    refine zd (fun _=>?_) (fun q=>by simp at q)
    simp
    exact h _ (toA N0)
   | false =>
    rw[if_neg (by rw[hq];simp)]at h
    simp
    refine zd (fun q=>by simp at q) (fun _=>?_)
    simp
    exact h _ (toA N0)
theorem zgz{G:Env}(V:zkj G){m:M}(sm:zpa m){f:F}(hfm:f∈m.funcs){σ0 σ:AS}{R:Out→AS→Prop}{c:Nat}(A0:zh σ0 σ)(hc0:σ0.no≤c)(C:zoc σ c m f [])(h:zHl R σ0 (zn m.funcs f)):zzQ G 54 [.ptr c 0] σ R:=by
 refine zw9 rfl ?_
 have C0:=C
 obtain⟨hc,fsv,pv,lv,tv,lsv,hco,hfs,hpv,hlv,htv,hls⟩:=C
 have p1:=hpv.one
 have l1:=hlv.one
 have hpb:=sm.params f hfm
 have hlb:=sm.locals f hfm
 simp[zJO,hco,p1,l1]
 refine zlH hpv hlv (by omega) fun v σ1 hv A1=>?_
 have v1:=hv.one
 have hco1:=(A1.obj c hc).trans hco
 simp[hco1,v1,splice]
 generalize hσ2:σ1.setO c [fsv,yco yam m.memory,yco yam m.main,ycn f.name,pv,lv,yco yam f.type,tv,v]=σ2
 have hc1:c<σ1.no:=yag hc A1.no
 have hco2:σ2.objs c=some [fsv,.int .i64 m.memory,.int .i64 m.main,.str f.name,pv,lv,.int .i64 f.type,tv,v]:=by rw[←hσ2];simp
 have A2:zh σ0 σ2:=by rw[←hσ2];exact(A0.trans A1).setO hc0
 have C2:zoc σ2 c m f (f.params++f.locals):=⟨by rw[←hσ2];simpa using hc1,_,_,_,_,_,hco2,hfs,hpv,hlv,htv,hv⟩
 unfold zn at h
 have hll:=sm.lists f hfm
 refine zfl hv (by simp;omega) ?_
 have fail:((f.params++f.locals).all zT&&decide (0≤f.type)&&decide (f.type≤2))=false→∀σ',zh σ0 σ'→R (.panic (zit 6)) σ':=fun q=>by
  rw[if_pos q]at h;exact h
 cases hn:(f.params++f.locals).all zT with
 | false =>
  simp
  refine zd (fun q=>by simp at q) (fun _=>?_)
  simp
  exact fail (by rw[hn];rfl) _ A2
 | true =>
 by_cases k0:0≤f.type
 ·by_cases k2:f.type≤2
  ·rw[if_neg (by rw[hn];simp[k0,k2])]at h
   simp[hco2,k0,k2]
   refine zd (fun _=>?_) (fun q=>by simp at q)
   simp
   refine zlI V C2 hll (fun l hl=>sm.rows f hfm l hl) ?_
   cases hq:zbY f.lists with
   | error e =>
    rw[hq]at h
    intro σ3 A3
    simp
    exact h σ3 (A2.trans A3)
   | ok u =>
    rw[hq]at h
    simp only at h
    intro σ3 A3
    have C3:=C2.adds A3
    have C3':=C3
    obtain⟨hc3,fsv3,pv3,lv3,tv3,lsv3,hco3,_,_,_,htv3,_⟩:=C3'
    obtain⟨hpos,hah,_⟩:=zcg hq
    have hlen3:=htv3.len
    have hw3:yb4 .i64 ((f.lists.length:Int)-1)=(f.lists.length:Int)-1:=by rw[zc]<;>omega
    simp[hco3,hlen3,hw3]
    refine zqK V sm hfm hah (f.params++f.locals) f.lists.length c σ3 ((f.lists.length:Int)-1) 0 _ C3 (by omega) (by omega) (by omega) (by omega) ?_
    revert h
    cases zQ m.funcs (f.params++f.locals) f.type f.lists f.lists.length ((f.lists.length:Int)-1) 0 with
    | ok u=>intro h σ4 A4;simp;exact h σ4 ((A2.trans A3).trans A4)
    | error e=>intro h σ4 A4;simp;exact h σ4 ((A2.trans A3).trans A4)
  ·simp[hco2,k0,k2]
   refine zd (fun q=>by simp at q) (fun _=>?_)
   simp
   exact fail (by simp[k2]) _ A2
 ·simp[hco2,k0]
  refine zd (fun q=>by simp at q) (fun _=>?_)
  simp
  exact fail (by simp[k0]) _ A2
@[simp] theorem zHm(t:Nat)(v:AV):aeq yb9 20 (.iface t v) .nilif=some false:=by simp[aeq,zjs,show yb9.underlying 20=some (.interface #[]) from by kernel_rfl]
@[simp] theorem zEn(t:Nat)(v:AV)(K:AV→Prop):zbk yb9 .neq 20 (.iface t v) .nilif K=K (.bool true):=by simp[zbk]
@[simp] theorem zKx:zap yb9 20=some true:=by kernel_rfl
@[simp] theorem zKy(H:Option AV→(Nat→AV)→AS→Prop)(a:Nat→AV)(σ:AS):aq H .ret a σ=H none a σ:=Eq.trans rfl rfl
@[simp] theorem zHn(H:Option AV→(Nat→AV)→AS→Prop)(v:AV)(a:Nat→AV)(σ:AS):aq H (.panic v) a σ=H (some v) a σ:=Eq.trans rfl rfl
def MI(σ1:AS)(mb eb:Nat)(fsv:AV)(m:M)(goal:Res Unit)(a:Nat→AV)(τ:AS):Prop:=∃i:Nat,i≤m.funcs.length∧a 1=.ptr mb 0∧a 2=.ptr eb 0∧a 16=fsv∧a 17=.int .i64 (m.funcs.length:Int)∧a 18=.int .i64 (i:Int)∧zh σ1 τ∧zO m.funcs (m.funcs.drop i)=goal
theorem zna{G:Env}(V:zkj G){m:M}(sm:zpa m){σ:AS}{R:Out→AS→Prop}{mv:AV}(hm:MV mv m)(h:∀σ',zh σ σ'→R (.ret (.int .i64 (zmW (zaB m)))) σ'):zzQ G 18 [mv] σ R:=by
 refine zev (px:=zvO) (pz:=znO) (k:=52) (py:=zlu) (n:=61) (nk:=8) (t:=5) (d0:=2) (d1:=1) (res:=[.cell 2 33]) zk Tryz.func18 rfl rfl rfl rfl (by kernel_rfl) (by kernel_rfl) (by simp) rfl rfl rfl rfl rfl rfl (by decide) Tryz.func52 rfl (by kernel_rfl) rfl rfl rfl rfl rfl rfl rfl rfl rfl (by kernel_rfl) (by decide) (by decide) (by decide) ?_
 obtain⟨fsv,rfl,hfs⟩:=hm
 have f1:=hfs.one
 have hfl:=hfs.len
 simp[zvO]
 have ecap:List.map (ev G (upd (upd (zbq [yct [fsv,yco yam m.memory,yco yam m.main]]) 1 (ycr σ.no 0)) 2 (ycr (σ.no+1) 0))) #[Operand.tmp 2].toList=[.ptr (σ.no+1) 0]:=rfl
 rw[ecap]
 generalize hfr:upd (upd (upd (zbq [yct [fsv,yco yam m.memory,yco yam m.main]]) 1 (ycr σ.no 0)) 2 (ycr (σ.no+1) 0)) 5 (AV.fn (Fn.func 52) [] [ycr (σ.no+1) 0])=fr
 have fr1:fr 1=.ptr σ.no 0:=by rw[←hfr];simp
 have fr2:fr 2=.ptr (σ.no+1) 0:=by rw[←hfr];simp
 have hno1:((σ.newO [fsv,yco yam m.memory,yco yam m.main]).newO [yco yam 0]).no=σ.no+2:=by simp
 have A1:zh σ ((σ.newO [fsv,yco yam m.memory,yco yam m.main]).newO [yco yam 0]):=(zh.refl σ).newO.newO
 have hm1:((σ.newO [fsv,yco yam m.memory,yco yam m.main]).newO [yco yam 0]).objs σ.no=some [fsv,.int .i64 m.memory,.int .i64 m.main]:=by simp
 have he1:((σ.newO [fsv,yco yam m.memory,yco yam m.main]).newO [yco yam 0]).objs (σ.no+1)=some [.int .i64 0]:=by simp
 generalize (σ.newO [fsv,yco yam m.memory,yco yam m.main]).newO [yco yam 0]=σ1 at *
 -- what is recovered
 have hand:∀(e:Int) (a:Nat→AV) (τ:AS),a 2=.ptr (σ.no+1) 0→zh σ1 τ→(∀σ',zh σ σ'→R (.ret (.int .i64 e)) σ')→zax yb9 G 8 zlu 2 1 [.ptr (σ.no+1) 0] [.cell 2 33] R (some (zit e)) a τ:=by
  intro e a τ a2 A hh
  have he:=(A.obj (σ.no+1) (by omega)).trans he1
  simp[zax,zlu,zit,he,splice,a2]
  exact hh _ ((A1.trans A).setO (by omega))
 have done:∀(a:Nat→AV) (τ:AS),a 2=.ptr (σ.no+1) 0→zh σ1 τ→(∀σ',zh σ σ'→R (.ret (.int .i64 0)) σ')→zax yb9 G 8 zlu 2 1 [.ptr (σ.no+1) 0] [.cell 2 33] R none a (τ.setO (σ.no+1) [.int .i64 0]):=by
  intro a τ a2 A hh
  simp[zax,zlu,splice,a2]
  exact hh _ ((A1.trans A).setO (by omega))
 unfold zaB at h
 by_cases k0:0≤m.memory
 ·by_cases k1:m.memory≤4096
  ·rw[if_neg (by simp[k0,k1])]at h
   simp[znO,fr1,hm1,k0,k1]
   refine zd (fun _=>?_) (fun q=>by simp at q)
   simp[fr1,hm1,f1,hfl]
   generalize hgoal:zO m.funcs m.funcs=goal at h
   refine zas (MI σ1 σ.no (σ.no+1) fsv m goal) (MU 18 (m.funcs.length+1)) ⟨0,by omega,by simp[fr1],by simp[fr2],by simp,by simp,by simp,.refl _,by simpa using hgoal⟩ fun a τ hI=>?_
   obtain⟨i,hi,a1,a2,a16,a17,a18,A,hg⟩:=hI
   have hm2:=(A.obj σ.no (by omega)).trans hm1
   have he2:=(A.obj (σ.no+1) (by omega)).trans he1
   by_cases hlt:i<m.funcs.length
   ·obtain⟨b,fv,hfv,hix⟩:=hfs.at hlt
    have hmem:=yaw hlt
    rw[ycq hlt,zO]at hg
    generalize m.funcs[i]=f at *
    obtain⟨pv,lv,tv,rfl,hp,hl,ht⟩:=hfv
    have p1:=hp.one
    have l1:=hl.one
    have t1:=ht.one
    have hmn:σ.no≠τ.no:=by have:=A.no;omega
    simp[zcd,a1,a16,a17,a18,hlt,hix,p1,l1,t1,f1,splice,hm2,hmn]
    have A3:zh τ (((τ.newO [ycn [],ycu,ycu,yco yam 0,ycu]).setO τ.no [ycn f.name,pv,lv,yco yam f.type,tv]).newO [fsv,yco yam m.memory,yco yam m.main,ycn f.name,pv,lv,yco yam f.type,tv,ycu]):=(((zh.refl τ).newO).setO (yah _)).newO
    refine zgz V sm hmem A3 (by omega) ⟨by simp,_,_,_,_,_,by simp,hfs,hp,hl,ht,.inl ⟨rfl,rfl⟩⟩ ?_
    have hw3:yb4 .i64 ((i:Int)+1)=((i+1:Nat):Int):=by have:=sm.funcs;rw[zc]<;>omega
    cases hq:zn m.funcs f with
    | error e =>
     rw[hq]at hg
     simp only at hg
     rw[←hg]at h
     intro σ4 A4
     simp
     exact hand e _ σ4 (by simp[zdg,a2]) (A.trans A4) h
    | ok u =>
     rw[hq]at hg
     simp only at hg
     intro σ4 A4
     simp[a18,hw3]
     refine⟨⟨i+1,by omega,by simp[a1],by simp[a2],by simp[a16],by simp[a17],by simp,A.trans A4,hg⟩,?_⟩
     simp only[MU,a18];simp;omega
   ·have he:i=m.funcs.length:=by omega
    subst he
    have hnil:m.funcs.drop m.funcs.length=[]:=by simp
    rw[hnil]at hg
    simp only[zO]at hg
    rw[←hg]at h
    simp only at h
    have good:zff m=true→∀σ',zh σ σ'→R (.ret (.int .i64 0)) σ':=fun q=>by rw[if_pos q]at h;exact h
    have bad:zff m=false→∀σ',zh σ σ'→R (.ret (.int .i64 12)) σ':=fun q=>by rw[if_neg (by rw[q];simp)]at h;exact h
    by_cases q0:0≤m.main
    ·by_cases q1:m.main<(m.funcs.length:Int)
     ·have hlt2:m.main.toNat<m.funcs.length:=by omega
      obtain⟨b,fv,hfv,hix⟩:=hfs.at hlt2
      have e1:((m.main.toNat:Nat):Int)=m.main:=by omega
      rw[e1]at hix
      have hfn:m.funcs[m.main.toNat]?=some m.funcs[m.main.toNat]:=yau hlt2
      have hmb:zff m=(decide (m.funcs[m.main.toNat].type=1)&&decide (m.funcs[m.main.toNat].params.length=0)):=by
       unfold zff;rw[hfn];simp[q0]
      generalize m.funcs[m.main.toNat]=f at *
      obtain⟨pv,lv,tv,rfl,hp,hl,ht⟩:=hfv
      have hpl:=hp.len
      have p1:=hp.one
      by_cases q2:f.type=1
      ·by_cases q3:f.params.length=0
       ·have q3':f.params=[]:=ybS.1 q3
        simp[zcd,zcJ,a1,a2,a16,a17,a18,hm2,he2,hfl,f1,q0,q1,hix,q2,hpl,p1,q3',splice]
        refine zd (fun _=>?_) (fun q=>by simp at q)
        simp[a2,he2,splice]
        exact done _ τ (by simp[a2]) A (good (by rw[hmb];simp[q2,q3']))
       ·have q3':¬f.params=[]:=fun q=>q3 (by rw[q];rfl)
        simp[zcd,zcJ,a1,a2,a16,a17,a18,hm2,he2,hfl,f1,q0,q1,hix,q2,hpl,p1,q3',splice]
        refine zd (fun q=>by simp at q) (fun _=>?_)
        simp
        exact hand 12 _ τ (by simp[zdg,a2]) A (bad (by rw[hmb];simp[q3']))
      ·simp[zcd,zcJ,a1,a2,a16,a17,a18,hm2,he2,hfl,f1,q0,q1,hix,q2,splice]
       refine zd (fun q=>by simp at q) (fun _=>?_)
       simp
       exact hand 12 _ τ (by simp[zdg,a2]) A (bad (by rw[hmb];simp[q2]))
     ·simp[zcd,zcJ,a1,a2,a16,a17,a18,hm2,he2,hfl,f1,q0,q1,splice]
      refine zd (fun q=>by simp at q) (fun _=>?_)
      simp
      refine hand 12 _ τ (by simp[zdg,a2]) A (bad ?_)
      unfold zff
      rw[yb2 (by omega)]
      simp
    ·simp[zcd,zcJ,a1,a2,a16,a17,a18,hm2,he2,hfl,f1,q0,splice]
     refine zd (fun q=>by simp at q) (fun _=>?_)
     simp
     exact hand 12 _ τ (by simp[zdg,a2]) A (bad (by simp[zff,q0]))
  ·rw[if_pos (by simp[k1])]at h
   simp[znO,fr1,hm1,k0,k1]
   refine zd (fun q=>by simp at q) (fun _=>?_)
   simp
   exact hand 11 _ σ1 (by simp[zdg,fr2]) (.refl _) h
 ·rw[if_pos (by simp[k0])]at h
  simp[znO,fr1,hm1,k0]
  refine zd (fun q=>by simp at q) (fun _=>?_)
  simp
  exact hand 11 _ σ1 (by simp[zdg,fr2]) (.refl _) h
mutual
def clm:AV→AV
 | .sl φ sz xs=>.sl (.stat φ.full) sz (zAz xs)
 | .agg cs=>.agg (zAz cs)
 | v=>v
def zAz:List AV→List AV
 | []=>[]
 | v::vs=>clm v::zAz vs
end
theorem znb:∀l,zAz l=l.map clm
 | []=>by simp[zAz]
 | v::l=>by simp[zAz,znb l]
@[simp] theorem zvY(φ sz xs):clm (.sl φ sz xs)=.sl (.stat φ.full) sz (xs.map clm):=by simp[clm,znb]
@[simp] theorem zxL(cs):clm (.agg cs)=.agg (cs.map clm):=by simp[clm,znb]
@[simp] theorem zqM(k n):clm (.int k n)=.int k n:=by simp[clm]
@[simp] theorem zxM(s):clm (.str s)=.str s:=by simp[clm]
@[simp] theorem zqN:clm .nilsl=.nilsl:=by simp[clm]
@[simp] theorem zum(b):clm (.bool b)=.bool b:=by simp[clm]
theorem zlJ(v:AV):(clm v).cells=v.cells.map clm:=by
 cases v with
 | agg cs=>simp
 | sl φ sz xs=>simp
 | _=>simp[clm,AV.cells]
theorem zkm(l:List AV):zy (l.map clm)=(zy l).map clm:=by
 simp[zy,List.flatMap_map,List.map_flatMap,zlJ]
inductive Cb(F:Nat→FSt):AV→Prop
 | bool (b:Bool):Cb F (.bool b)
 | int (k:IntKind) (n:Int):Cb F (.int k n)
 | str (s:List UInt8):Cb F (.str s)
 | nilsl:Cb F .nilsl
 | sl (φ:Abs.Own) (sz:Nat) (xs:List AV) (hr:zm F φ) (h:∀c∈zy xs,Cb F c):Cb F (.sl φ sz xs)
 | agg (cs:List AV) (h:∀c∈cs,Cb F c):Cb F (.agg cs)
end Go.Proofs.YtohfclafhegadaaGreatDoor
namespace Go.Abs
open Go Go.Abs
open Go.Proofs.YtohfclafhegadaaGreatDoor
theorem VR.clmTo{M:Mp}{F:Nat→FSt}{w:World}{v:AV}{c:Value}(h:VR M F w v c){M':Mp}{F':Nat→FSt}(hst:∀B m,M.role B=some (.st m)→M'.role B=some (.st m))(hfm:∀B f,M.role B=some (.fam f)→∃m,M'.role B=some (.st m))(hs:Cb F v):VR M' F' w (clm v) c:=by
 induction h with
 | bool b=>rw[zum];exact .bool b
 | int k n=>rw[zqM];exact .int k n
 | str s=>rw[zxM];exact .str s
 | nilsl=>rw[zqN];exact .nilsl
 | slz b sz a=>rw[zvY];exact .slz _ sz a
 | sl φ sz xs B off cap cs hcap hlit hsz hm hc hv ih =>
  cases hs with
  | sl _ _ _ hr hs =>
  rw[zvY]
  have hl:(xs.map Go.Proofs.YtohfclafhegadaaGreatDoor.clm).length=xs.length:=by simp
  have hm':∃m,M'.role B=some (.st m):=by
   cases φ with
   | stat b =>
    obtain⟨m,hm⟩:=hm
    exact⟨m,hst B m hm⟩
   | fam f b=>exact hfm B f (hm.2 (by rw[hr];simp)).1
  have:=VR.sl (M:=M') (F:=F') (w:=w) (.stat φ.full) sz (xs.map Go.Proofs.YtohfclafhegadaaGreatDoor.clm) B off cap cs (by simpa using hcap) (fun h=>by rw[hl];exact hlit h)
   (fun x hx=>by simp at hx;obtain⟨y,hy,rfl⟩:=hx;rw[zlJ,ybb];exact hsz y hy) hm' (fun _ j hj=>hc hr j (by rw[zkm]at hj;simpa using hj))
   (fun _ j hj=>by
    have hj':j<(zy xs).length:=by rw[zkm]at hj;simpa using hj
    have:=ih hr j hj' (hs _ (yaw hj'))
    simp only[zkm,List.getElem_map]
    exact this)
  rw[hl]at this
  exact this
 | agg cs A hA va ih =>
  cases hs with
  | agg _ hs=>rw[zxL];exact .agg _ _ (by simpa using hA) (fun j h h'=>by simpa using ih j (by simpa using h) h' (hs _ (yaw _)))
 | _=>cases hs
end Go.Abs
namespace Go.Proofs.YtohfclafhegadaaGreatDoor
open Go Go.Abs
end Go.Proofs.YtohfclafhegadaaGreatDoor
namespace Go.Abs
open Go Go.Abs
open Go.Proofs.YtohfclafhegadaaGreatDoor
theorem VR.clm{M:Mp}{F:Nat→FSt}{w:World}{v:AV}{c:Value}(h:VR M F w v c)(hs:Cb F v):VR (M.calm 1) AS.bare.F w (clm v) c :=
 h.clmTo (fun _ _ h=>zjR h) (fun _ _ h=>⟨false,zd6 h (fun m q=>by cases q)⟩) hs
end Go.Abs
namespace Go.Proofs.YtohfclafhegadaaGreatDoor
open Go Go.Abs
inductive Pln:AV→Prop
 | bool (b:Bool):Pln (.bool b)
 | int (k:IntKind) (n:Int):Pln (.int k n)
 | str (s:List UInt8):Pln (.str s)
 | nilsl:Pln .nilsl
 | agg (cs:List AV) (h:∀c∈cs,Pln c):Pln (.agg cs)
 | tuple (cs:List AV) (h:∀c∈cs,Pln c):Pln (.tuple cs)
end Go.Proofs.YtohfclafhegadaaGreatDoor
namespace Go.Abs
open Go Go.Abs
open Go.Proofs.YtohfclafhegadaaGreatDoor
theorem VR.pln{M M':Mp}{F F':Nat→FSt}{w w':World}{v:AV}{c:Value}(h:VR M F w v c)(hs:Pln v):VR M' F' w' v c:=by
 induction h with
 | bool b=>exact .bool b
 | int k n=>exact .int k n
 | str s=>exact .str s
 | nilsl=>exact .nilsl
 | agg cs A hA va ih =>
  cases hs with
  | agg _ hs=>exact .agg _ _ hA (fun j h h'=>ih j h h' (hs _ (yaw _)))
 | tuple cs A hA va ih =>
  cases hs with
  | tuple _ hs=>exact .tuple _ _ hA (fun j h h'=>ih j h h' (hs _ (yaw _)))
 | _=>cases hs
end Go.Abs
namespace Go.Proofs.YtohfclafhegadaaGreatDoor
open Go Go.Abs
inductive StillI:AV→Prop
 | undef:StillI .undef
 | int (k:IntKind) (n:Int):StillI (.int k n)
 | str (s:List UInt8):StillI (.str s)
 | pv (b:Bool) (v:AV) (h:∀c∈v.cells,StillI c):StillI (.pv (.stat b) v)
 | iface (t:TypeId) (v:AV) (h:StillI v):StillI (.iface t v)
 | mp (ks vs:List AV):StillI (.mp ks vs)
end Go.Proofs.YtohfclafhegadaaGreatDoor
namespace Go.Abs
open Go Go.Abs
open Go.Proofs.YtohfclafhegadaaGreatDoor
theorem VR.stillI{M:Mp}{F:Nat→FSt}{w:World}{v:AV}{c:Value}(h:VR M F w v c){M':Mp}{F':Nat→FSt}(hr:∀B m,M.role B=some (.st m)→M'.role B=some (.st m))(hs:StillI v):VR M' F' w v c:=by
 induction h with
 | undef c=>exact .undef c
 | int k n=>exact .int k n
 | str s=>exact .str s
 | pv φ v B off cs hm hc hv ih =>
  cases hs with
  | pv b _ hs =>
  obtain⟨m,hm⟩:=hm
  exact .pv _ v B off cs ⟨m,hr B m hm⟩ (fun _=>hc trivial) (fun _ j hj=>ih trivial j hj (hs _ (yaw hj)))
 | iface t v c h ih =>
  cases hs with
  | iface _ _ hs=>exact .iface t _ _ (ih hs)
 | mp ks vs b es c h1 h2 h3=>exact .mp ks vs b es c (hr b false h1) h2 h3
 | _=>cases hs
end Go.Abs
namespace Go.Proofs.YtohfclafhegadaaGreatDoor
open Go Go.Abs
theorem zIW{P:Program}{G:Env}{M:Mp}{σ:AS}{w:World}(g:GOk P G M σ.F w)(hG:∀k,StillI (G.g k))(hy:∀l,¬G.has l):GOk P G (M.calm 1) AS.bare.F w where
 vars k:=(g.vars k).stillI (fun _ _ h=>zjR h) (hG k)
 yields l hl:=absurd hl (hy l)
 fixed B cs hB:=by
  obtain⟨h1,h2⟩:=g.fixed B cs hB
  exact⟨zjR h1,h2⟩
theorem zqO{P:Program}{G:Env}{f:FuncId}{σ:AS}{R:Out→AS→Prop}{vs:List AV}{Q:AV→Prop}(hG:∀k,StillI (G.g k))(hy:∀l,¬G.has l)(hv:∀v∈vs,Cb σ.F v)(h:ACalls P G f (vs.map clm) AS.bare fun o _=>∃x,o=.ret x∧Pln x∧Q x)(hR:∀x,Q x→R (.ret x) σ):ACalls P G f vs σ R:=by
 intro M w cargs S g c
 refine(h (M.calm 1) w cargs S.calm (zIW g hG hy) ⟨by rw[ybb];exact c.1,fun j v hj=>?_⟩).mono fun e w' ⟨o,σ',M',⟨x,ho,hx,hq⟩,h2,h3,h4⟩=>?_
 ·rw[List.getElem?_map,ybB]at hj
  obtain⟨v0,h1,rfl⟩:=hj
  obtain⟨c0,e0,q0⟩:=c.2 j v0 h1
  exact⟨c0,e0,q0.clm (hv v0 (ycs h1))⟩
 ·subst ho
  refine⟨_,σ,M,hR x hq,?_,S.calmed h4,Ext.calm S h4⟩
  cases e<;>simp only[zbV]at h2 ⊢
  exact h2.pln hx
theorem zIX(w:W):clm w.av=w.av:=by simp[W.av,W.cs]
theorem zKR{F:Nat→FSt}(w:W):∀c∈w.av.cells,Cb F c:=by
 intro c hc
 simp only[W.av,W.cs,AV.cells,ybC,ycz,or_false]at hc
 rcases hc with rfl|rfl|rfl|rfl|rfl|rfl
 all_goals first|exact .int _ _|exact .str _
theorem zqP{σ:AS}{v:AV}{l:List W}(h:Al.RepO σ v l):Cb σ.F v∧zo4 (clm v) l:=by
 rcases h with ⟨rfl,rfl⟩|⟨φ,rfl,r⟩
 ·exact⟨.nilsl,.inl ⟨rfl,by simp⟩⟩
 ·refine⟨.sl _ _ _ r.read fun c hc=>?_,.inr ⟨φ.full,by simp[Function.comp_def,zIX]⟩⟩
  simp only[zy,ycv,yaV]at hc
  obtain⟨x,⟨w,_,rfl⟩,hx⟩:=hc
  exact zKR w c hx
theorem zgT{σ:AS}{v:AV}{l:List Int}(h:Al.IntsO σ v l):Cb σ.F v∧zZ (clm v) l:=by
 rcases h with ⟨rfl,rfl⟩|⟨φ,rfl,r⟩
 ·exact⟨.nilsl,.inl ⟨rfl,by simp⟩⟩
 ·refine⟨.sl _ _ _ r.read fun c hc=>?_,.inr ⟨φ.full,by simp[Function.comp_def]⟩⟩
  simp only[zy,ycv,yaV]at hc
  obtain⟨x,⟨w,_,rfl⟩,hx⟩:=hc
  simp only[AV.cells,ycA]at hx
  subst hx
  exact .int _ _
theorem zkn{α:Type}{Q Q':AV→α→Prop}{P:AV→Prop}(hq:∀v a,Q v a→P v∧Q' (clm v) a):∀{xs:List AV} {l:List α},All2 Q xs l→(∀x∈xs,P x)∧All2 Q' (xs.map clm) l
 | _,_,.nil=>⟨fun x h=>(by cases h),.nil⟩
 | _,_,.cons h hs=>by
  obtain⟨h1,h2⟩:=hq _ _ h
  obtain⟨h3,h4⟩:=zkn hq hs
  exact⟨fun x hx=>by
   rcases ybC.1 hx with rfl|hx
   ·exact h1
   ·exact h3 x hx,.cons h2 h4⟩
theorem zqQ{v:AV}(h:v.cells=[v]):∀c∈v.cells,c=v:=fun c hc=>by rw[h]at hc;simpa using hc
theorem zqR{σ:AS}{v:AV}{l:To}(h:Al.LstO σ v l):Cb σ.F v∧zcs (clm v) l:=by
 rcases h with ⟨rfl,rfl⟩|⟨φ,rows,rfl,r,k⟩
 ·exact⟨.nilsl,.inl ⟨rfl,by simp⟩⟩
 ·obtain⟨k1,k2⟩:=zkn (P:=fun v=>Cb σ.F v∧v.cells=[v]) (Q':=zo4) (fun v a q=>⟨⟨(zqP q).1,q.one.2.2⟩,(zqP q).2⟩) k
  refine⟨.sl _ _ _ r.read fun c hc=>?_,.inr ⟨φ.full,rows.map clm,by simp,k2⟩⟩
  simp only[zy,ycv]at hc
  obtain⟨x,hx,hc⟩:=hc
  rw[zqQ (k1 x hx).2 c hc]
  exact(k1 x hx).1
theorem zEo{σ:AS}{v:AV}{f:F}(h:Al.FVO σ v f):(∀c∈v.cells,Cb σ.F c)∧FV (clm v) f:=by
 obtain⟨pv,lv,tv,rfl,a,b,c⟩:=h
 refine⟨fun x hx=>?_,clm pv,clm lv,clm tv,by simp,(zgT a).2,(zgT b).2,(zqR c).2⟩
 simp only[AV.cells,ybC,ycz,or_false]at hx
 rcases hx with rfl|rfl|rfl|rfl|rfl
 ·exact .str _
 ·exact(zgT a).1
 ·exact(zgT b).1
 ·exact .int _ _
 ·exact(zqR c).1
theorem zvZ{σ:AS}{v:AV}{m:M}(h:Al.MO σ v m):Cb σ.F v∧MV (clm v) m:=by
 obtain⟨fv,rfl,h⟩:=h
 have key:Cb σ.F fv∧FsV (clm fv) m.funcs:=by
  rcases h with ⟨h,rfl⟩|⟨φ,rows,rfl,r,k⟩
  ·exact⟨.nilsl,.inl ⟨h,by simp⟩⟩
  ·obtain⟨k1,k2⟩:=zkn (P:=fun v=>∀c∈v.cells,Cb σ.F c) (Q':=FV) (fun v a q=>zEo q) k
   refine⟨.sl _ _ _ r.read fun c hc=>?_,.inr ⟨φ.full,rows.map clm,by simp,k2⟩⟩
   simp only[zy,ycv]at hc
   obtain⟨x,hx,hc⟩:=hc
   exact k1 x hx c hc
 refine⟨.agg _ fun c hc=>?_,clm fv,by simp,key.2⟩
 simp only[ybC,ycz,or_false]at hc
 rcases hc with rfl|rfl|rfl
 ·exact key.1
 ·exact .int _ _
 ·exact .int _ _
section
variable {G : Env} {σ : AS} {R : Out → AS → Prop}
theorem zlK{m:M}{mv:AV}(V:zkj G)(hG:∀k,StillI (G.g k))(hy:∀l,¬G.has l)(hm:Al.MO σ mv m)(sm:zpa m)(h:R (.ret (.int .i64 (zmW (zaB m)))) σ):zzQ G 18 [mv] σ R:=by
 obtain⟨h1,h2⟩:=zvZ hm
 refine zqO (vs:=[mv]) (Q:=fun x=>x=.int .i64 (zmW (zaB m))) hG hy (fun v hv=>by simp at hv;subst hv;exact h1) ?_ fun x hx=>by rw[hx];exact h
 exact zna V sm h2 fun σ' _=>⟨_,rfl,.int _ _,rfl⟩
end
@[simp] theorem zHo(t i k r):zf2 t ((i,.tmp k)::r)=false:=by simp[zf2]
@[simp] theorem zHp(t i n r):zf2 t ((i,.const (.int .i64 n))::r)=false:=by simp[zf2]
@[simp] theorem zHq(t i n r):zf2 t ((i,.const (.string n))::r)=false:=by simp[zf2]
def zqS(n:Int):UInt8:=UInt8.ofNat (n%256).toNat
def uF:Nat→Int→List UInt8
 | 0,_=>[]
 | k+1,n=>if n≤127 then [zqS n]else(zqS n ||| 128)::uF k (n/128)
def sF:Nat→Int→List UInt8
 | 0,_=>[]
 | k+1,n=>if -64≤n∧n≤63 then [zqS n &&& 127]else(zqS n ||| 128)::sF k (n/128)
def uI(n:Int):List UInt8:=uF 10 n
def sI(n:Int):List UInt8:=sF 10 n
theorem zun(f:BitVec 8→BitVec 8→BitVec 8)(a b:UInt8):zbl .u8 f (a.toNat:Int) (b.toNat:Int)=((f a.toBitVec b.toBitVec).toNat:Int):=by
 have e1:BitVec.ofInt 8 (a.toNat:Int)=a.toBitVec:=by
  apply BitVec.eq_of_toNat_eq
  simp
 have e2:BitVec.ofInt 8 (b.toNat:Int)=b.toBitVec:=by
  apply BitVec.eq_of_toNat_eq
  simp
 show yb4 .u8 ((f (BitVec.ofInt 8 (a.toNat:Int)) (BitVec.ofInt 8 (b.toNat:Int))).toNat:Int)=_
 rw[e1,e2]
 have:=(f a.toBitVec b.toBitVec).isLt
 simp[yb4,yao,yap]
 omega
@[simp] theorem zKS(bs:List UInt8):(B bs).length=bs.length:=by simp[B]
section
variable {G : Env} {σ : AS} {R : Out → AS → Prop}
end
section
variable {G : Env} {σ : AS} {R : Out → AS → Prop}
end
def zKz(l:List (List UInt8)):List UInt8:=uI l.length++l.flatten
section
variable {G : Env} {σ : AS} {R : Out → AS → Prop}
def zqT(l:List Int):List UInt8:=uI l.length++l.map fun t=>zqS (128-t)
def zuo(t:Int):List UInt8:=if t=0 then zqT []else zqT [t]
def zup(takes:List Int)(zeO:Int):List UInt8:=96::(zqT takes++zuo zeO)
theorem zKT:yb9.underlying 32=some (.slice 5):=by kernel_rfl
end
def zod:List UInt8:=[97,100,100,32,115,117,98,32,109,117,108,32,100,105,118,95,115,32,114,101,109,95,115,32,97,110,100,32,111,114,32,120,111,114,32,115,104,108,32,115,104,114,95,115,32,101,113,32,110,101,32,108,116,95,115,32,103,116,95,115,32,108,101,95,115,32,103,101,95,115]
def zfn:List (List UInt8):=[[97,100,100],[115,117,98],[109,117,108],[100,105,118,95,115],[114,101,109,95,115],[97,110,100],[111,114],[120,111,114],[115,104,108],[115,104,114,95,115],[101,113],[110,101],[108,116,95,115],[103,116,95,115],[108,101,95,115],[103,101,95,115]]
def zeR(c:UInt8):Bool:=c==32||(9≤c&&c≤13)
def zdM:List AV:=(List.range 256).map fun c=>.int .u8 (if zeR (UInt8.ofNat c)then 1 else 0)
def zHr:List UInt8:=[106,107,108,109,111,113,114,115,116,117,70,71,72,74,76,78]
def zHs:List UInt8:=[124,125,126,127,129,131,132,133,134,135,81,82,83,85,87,89]
def pw(op ty n:Int):W:={ op:=op,ty:=ty,n:=n,body:=0,other:=0,name:=[] }
def zlL:List (UInt8 × W):=[(0x45,pw 5 1 0),(0x50,pw 5 2 0),(0xA7,pw 6 0 0),(0xAC,pw 7 0 0),(0x2C,pw 8 1 1),(0x28,pw 8 1 4),(0x29,pw 8 2 8),(0x3A,pw 9 1 1),(0x36,pw 9 1 4),(0x37,pw 9 2 8),(0x0F,pw 16 0 0),(0x00,pw 17 0 0),(0x1A,pw 18 0 0)]
def zEp:List (UInt8 × W):=[(0x41,pw 1 1 0),(0x42,pw 1 2 0),(0x20,pw 2 0 0),(0x21,pw 3 0 0),(0x10,pw 10 0 0),(0x0C,pw 14 0 0),(0x0D,pw 15 0 0)]
def zuq(l:List (UInt8 × W)):List AV:=l.map fun p=>.int .u8 (p.1.toNat:Int)
def zur(l:List (UInt8 × W)):List AV:=l.map fun p=>p.2.av
structure zKU(G:Env):Prop where
 bytes:G.g 1=.pv (.stat true) (.agg [.str zHr,.str zHs])
 plain:∃l:List (UInt8 × W),l.Perm zlL∧G.g 2=.pv (.stat true) (.mp (zuq l) (zur l))
 nums:∃l:List (UInt8 × W),l.Perm zEp∧G.g 3=.pv (.stat true) (.mp (zuq l) (zur l))
 space:G.g 0=.pv (.stat true) (.agg zdM)
theorem zgU(c:UInt8):zdM[c.toNat]?=some (.int .u8 (if zeR c then 1 else 0)):=by
 have h:c.toNat<256:=c.toNat_lt
 have:∀k:Fin 256,zdM[k.1]?=some (.int .u8 (if zeR (UInt8.ofNat k.1)then 1 else 0)):=by
  intro k;simp[zdM]
 have:=this ⟨c.toNat,h⟩
 simpa using this
def fC(L:List UInt8):Nat→Nat × Bool × UInt8
 | 0=>(0,true,0)
 | i+1=>let c:=L.getD i 0;let p:=fC L i;(p.1+(if p.2.1&&!zeR c then 1 else 0),zeR c,p.2.2 ||| c)
def fS(L:List UInt8):Nat→Nat × Nat
 | 0=>(0,0)
 | i+1=>if zeR (L.getD i 0)then(i+1,(fS L i).2+1)else fS L i
theorem zus(L:List UInt8):∀k,(fC L k).1≤k:=by
 intro k
 induction k with
 | zero=>simp[fC]
 | succ k ih=>simp only[fC];split<;>omega
def zcK(T:List (List UInt8))(k:Nat):List AV:=(T.take k).map ycn++yaj (T.length-k) (.str [])
structure zut(L:List UInt8)(T:List (List UInt8))(e:Nat):Prop where
 len:L.length≤1000
 tl:T.length≤1000
 fact:∀i:Fin L.length,(zeR (L.getD i 0)=true→T[(fS L i).2]?=some ((L.take i).drop (fS L i).1)∧(fS L i).2<T.length∧(fS L i).1≤i∧i.1+1<L.length∧zeR (L.getD (i.1+1) 0)=false∧fS L (i.1+1)=(i.1+1,(fS L i).2+1))∧(zeR (L.getD i 0)=false→fS L (i.1+1)=fS L i)
 cnt:fC L L.length=(T.length,false,(fC L L.length).2.2)
 low:(fC L L.length).2.2.toNat<128
 head:∃c r,L=c::r∧zeR c=false
 fin:fS L L.length=(e,T.length-1)
 lt:e<L.length
 last:T[T.length-1]?=some (L.drop e)
theorem zhJ{T:List (List UInt8)}{k:Nat}{b:List UInt8}(h:T[k]?=some b):splice (zcK T k) k [.str b]=zcK T (k+1):=by
 have hk:=(yaq.1 h).1
 have ht:=zqE h
 have hA:((T.take k).map ycn).length=k:=by simp;omega
 unfold splice zcK
 rw[List.take_left' hA,ht,List.map_append]
 have e:T.length-k=(T.length-(k+1))+1:=by omega
 have hd:((T.take k).map ycn++yaj (T.length-k) (ycn [])).drop (k+[ycn b].length)=yaj (T.length-(k+1)) (ycn []):=by
  rw[List.drop_append,List.drop_eq_nil_of_le (by rw[hA];simp),hA,e]
  simp
 rw[hd]
 simp
theorem zpc{T:List (List UInt8)}(hT:T.length≤1000){σ:AS}{K:AV→AS→Prop}:zmx yb9 22 (.int .i64 (T.length:Int)) (.int .i64 (T.length:Int)) σ K=K (.slm σ.no 0 1 T.length) (σ.newO (zcK T 0)):=by
 have e1:zcm yb9 22=some 1:=by kernel_rfl
 have e2:zbM yb9 22=some 16:=by kernel_rfl
 have e3:za0 yb9 22=some (.str []):=by kernel_rfl
 have e5:zy (yaj T.length (ycn []))=yaj T.length (ycn []):=by
  generalize T.length=n
  induction n with
  | zero=>rfl
  | succ n ih=>simp only[zy,ycy,yaa]at *;rw[ih];rfl
 simp[zmx,e1,e2,e3,AV.cells,AV.known,e5,zcK]
 exact⟨fun q=>q.2.2,fun q=>⟨by omega,by omega,q⟩⟩
section
variable {G : Env} {σ : AS} {R : Out → AS → Prop}
def F1(L:List UInt8)(σ:AS)(a:Nat→AV)(τ:AS):Prop:=∃i:Nat,i≤L.length∧a 0=.str L∧a 3=.int .i64 ((fC L i).1:Nat)∧a 4=.int .i64 (if(fC L i).2.1 then 1 else 0)∧a 5=.int .u8 ((fC L i).2.2.toNat:Nat)∧a 6=.int .i64 (i:Nat)∧τ=σ
def F4(L:List UInt8)(T:List (List UInt8))(σ:AS)(x:Nat)(a:Nat→AV)(τ:AS):Prop:=∃i:Nat,i≤L.length∧a 0=.str L∧a 9=.slm x 0 1 T.length∧a 10=.int .i64 ((fS L i).2:Nat)∧a 11=.int .i64 ((fS L i).1:Nat)∧a 12=.int .i64 (i:Nat)∧zh σ τ∧x<τ.no∧τ.objs x=some (zcK T (fS L i).2)
theorem zfT{L:List UInt8}{T:List (List UInt8)}{e:Nat}(hok:zut L T e)(v3:G.g 0=.pv (.stat true) (.agg zdM))(h:∀x σ',zh σ σ'→σ.no≤x→x<σ'.no→σ'.objs x=some (T.map ycn)→R (.ret (.slm x 0 1 T.length)) σ'):zzQ G 57 [.str L] σ R:=by
 refine zxb rfl ?_
 have hL:=hok.len
 have hT:=hok.tl
 simp[zJP]
 refine zas (F1 L σ) (MU 6 (L.length+1)) ⟨0,by omega,by simp,by simp[fC],by simp[fC],by simp[fC],by simp,rfl⟩ fun a τ hI=>?_
 obtain⟨i,hi,a0,a3,a4,a5,a6,rfl⟩:=hI
 by_cases hlt:i<L.length
 ·have hlt':(i:Int)<(L.length:Int):=by omega
  have hg:=yau hlt
  have hf:fC L (i+1)=((fC L i).1+(if(fC L i).2.1&&!zeR L[i]then 1 else 0),zeR L[i],(fC L i).2.2 ||| L[i]):=by simp[fC,hg]
  have hn:=zus L i
  generalize L[i]=c at *
  have hs:=zgU c
  have w1:yb4 .i64 ((i:Int)+1)=((i+1:Nat):Int):=by rw[zc]<;>omega
  have w0:∀b:UInt8,zbl .u8 (· ||| ·) (b.toNat:Int) (c.toNat:Int)=((b ||| c).toNat:Int):=fun b=>zun (· ||| ·) b c
  have c1:(c.toNat:Int)<256:=by have:=c.toNat_lt;omega
  generalize fC L i=p at *
  obtain⟨n,ws,b⟩:=p
  have w2:yb4 .i64 ((n:Int)+1)=((n+1:Nat):Int):=by rw[zc]<;>omega
  have w3:yb4 .i64 (n:Int)=(n:Int):=by rw[zc]<;>omega
  have w4:yb4 .i64 0=0:=rfl
  have w5:yb4 .i64 1=1:=rfl
  have z0:zbl .i64 (· ^^^ ·) (-1) 0=-1:=by decide
  have z1:zbl .i64 (· ^^^ ·) (-1) 1=-2:=by decide
  have z2:zbl .i64 (· &&& ·) 1 (-1)=1:=by decide
  have z3:zbl .i64 (· &&& ·) 1 (-2)=0:=by decide
  have z4:zbl .i64 (· &&& ·) 0 (-1)=0:=by decide
  have z5:zbl .i64 (· &&& ·) 0 (-2)=0:=by decide
  have z6:yao .i64=true:=rfl
  cases hsp:zeR c<;>cases ws<;>simp only[hsp,if_true,if_false,Bool.false_eq_true]at hs hf a4 ⊢<;>simp at hn a3 a5<;>simp[zmM,a0,a3,a4,a5,a6,hlt',hg,v3,hs,c1,w0,w1,w2,w3,w4,w5,z0,z1,z2,z3,z4,z5,z6,-UInt8.toNat_or]<;>refine⟨⟨i+1,by omega,by simp[a0],by simp[hf],by simp[hf,hsp],by simp[hf],by simp,rfl⟩,?_⟩<;>simp only[MU,a6]<;>simp<;>omega
 ·have hie:i=L.length:=by omega
  subst hie
  have e1:=hok.cnt
  have e2:¬(128:Int)≤((fC L L.length).2.2.toNat:Nat):=by have:=hok.low;omega
  rw[e1]at a3 a4 a5
  simp[zmM,zqs,a0,a3,a4,a5,a6,e2,zpc hT]
  refine zas (fun a2 τ2=>a2 0=.str L∧a2 9=.slm τ.no 0 1 T.length∧a2 10=.int .i64 0∧a2 12=.int .i64 0∧τ2=τ.newO (zcK T 0)) (fun _ _=>0) ⟨by simp[a0],by simp,by simp,by simp,rfl⟩ fun a2 τ2 hI2=>?_
  obtain⟨b0,b9,b10,b12,rfl⟩:=hI2
  obtain⟨q0,r0,hLc,hsp0⟩:=hok.head
  have w5:0<L.length:=by rw[hLc];simp
  have g0:L[0]'w5=q0:=by simp[hLc]
  have t0:=zgU q0
  rw[hsp0]at t0
  have q256:(q0.toNat:Int)<256:=by have:=q0.toNat_lt;omega
  simp at t0
  simp[zqn,zqr,b0,b9,b10,b12,g0,t0,v3,w5,q256]
  refine zas (F4 L T τ τ.no) (MU 12 (L.length+1)) ⟨0,by omega,by simp[b0],by simp[b9],by simp[b10,fS],by simp[fS],by simp[b12],(zh.refl τ).newO,by simp,by simp[fS]⟩ fun a3 τ3 hI3=>?_
  obtain⟨i,hi,c0,c9,c10,c11,c12,hA,hx,ho⟩:=hI3
  by_cases hlt:i<L.length
  ·have hlt':(i:Int)<(L.length:Int):=by omega
   have hg:=yau hlt
   obtain⟨f1,f2⟩:=hok.fact ⟨i,hlt⟩
   have hgd:L.getD i 0=L[i]:=by simp[hg]
   simp only[hgd]at f1 f2
   have w1:yb4 .i64 ((i:Int)+1)=((i+1:Nat):Int):=by rw[zc]<;>omega
   generalize L[i]=c at *
   have hs:=zgU c
   have c1:(c.toNat:Int)<256:=by have:=c.toNat_lt;omega
   cases hsp:zeR c with
   | false =>
    rw[hsp]at hs
    have f2:=f2 hsp
    simp at hs
    simp[zjY,c0,c9,c10,c11,c12,hlt',hg,v3,hs,c1,w1]
    refine⟨⟨i+1,by omega,by simp[c0],by simp[c9],by simp[c10,f2],by simp[c11,f2],by simp,hA,hx,by simp[ho,f2]⟩,?_⟩
    simp only[MU,c12];simp;omega
   | true =>
    rw[hsp]at hs
    obtain⟨g1,g2,g3,g4,g5,g6⟩:=f1 hsp
    simp at hs
    simp[zjY,c0,c9,c10,c11,c12,hlt',hg,v3,hs,c1,w1,ho]
    have hlen:(zcK T (fS L i).2).length=T.length:=by
     simp only[zcK,yab,ybb,ybf,yba]
     omega
    refine⟨g3,by omega,by omega,by omega,?_⟩
    refine zas (fun b τ4=>b 0=.str L∧b 9=.slm τ.no 0 1 T.length∧b 10=.int .i64 (((fS L i).2+1:Nat):Int)∧b 12=.int .i64 ((i+1:Nat):Int)∧zh τ τ4∧τ.no<τ4.no∧τ4.objs τ.no=some (zcK T ((fS L i).2+1))) (fun _ _=>0) ⟨by simp[c0],by simp[c9],by simp;rw[zc]<;>omega,by simp,hA.setO (by omega),by simp;exact hx,by simp;exact zhJ g1⟩ fun b τ4 hI4=>?_
    obtain⟨d0,d9,d10,d12,hA4,hx4,ho4⟩:=hI4
    have hlt2:(((i+1:Nat):Int))<(L.length:Int):=by omega
    have hlt3:i+1<L.length:=by omega
    have hg2:=yau hlt3
    have hgd2:L.getD (i+1) 0=L[i+1]:=by simp[hg2]
    simp only[hgd2]at g5
    generalize L[i+1]=c' at *
    have hs2:=zgU c'
    rw[g5]at hs2
    have c1':(c'.toNat:Int)<256:=by have:=c'.toNat_lt;omega
    simp at hs2
    simp only[Int.natCast_add,Int.natCast_one]at d12 hlt2
    simp[zqo,zqp,d0,d9,d10,d12,hlt2,hg2,v3,hs2,c1']
    refine⟨by omega,⟨i+1,by omega,by simp[d0],by simp[d9],by simp[d10,g6],by simp[g6],by simp[d12],hA4,hx4,by simp[ho4,g6]⟩,?_⟩
    simp only[MU,c12];simp[d12];omega
  ·have hie:i=L.length:=by omega
   subst hie
   have e3:=hok.fin
   have hlast:=hok.last
   obtain⟨n,hn⟩:∃n,T.length=n+1:=⟨T.length-1,by have:=(yaq.1 hlast).1;omega⟩
   have e4:T.length-1=n:=by omega
   rw[e4]at e3 hlast
   rw[e3]at c10 c11 ho
   have w7:=hok.lt
   have w6:(e:Int)<(L.length:Int):=by omega
   have hnT:n<T.length:=by omega
   have hnTi:(n:Int)<(T.length:Int):=by omega
   simp at c10 c11 ho
   simp[zjY,zqq,c0,c9,c10,c11,c12,ho,w6,w7,hnT,hnTi]
   have hlen:(zcK T n).length=T.length:=by
    simp only[zcK,yab,ybb,ybf,yba]
    omega
   refine⟨by omega,by omega,?_⟩
   rw[zhJ hlast]
   refine h τ.no _ (hA.setO (by omega)) (by omega) (by simpa using hx) ?_
   simp[zcK,←hn]
theorem zxN:zut zod zfn 66:=⟨by decide,by decide,by decide,by decide,by decide,⟨97,_,rfl,by decide⟩,by decide,by decide,by decide⟩
theorem fields_calls(v3:G.g 0=.pv (.stat true) (.agg zdM))(h:∀x σ',zh σ σ'→σ.no≤x→x<σ'.no→σ'.objs x=some (zfn.map ycn)→R (.ret (.slm x 0 1 16)) σ'):zzQ G 57 [.str zod] σ R:=zfT zxN v3 h
end
def zEq(s:List UInt8):Option Nat:=zfn.findIdx? (·==s)
def zKV(w:W):Int:=if w.op=8∨w.op=9 then w.n else 0
def zEr(w:W)(p:UInt8 × W):Bool:=decide (p.2.op=w.op)&&(decide (p.2.n=zKV w)&&(decide (p.2.ty=0)||decide (p.2.ty=w.ty)))
def zIY(w:W):UInt8:=(((zlL++zEp).find? (zEr w)).map (·.1)).getD 0
def zIZ(w:W):Option UInt8:=if w.op=4 then(match zEq w.name with
  | some i=>if w.ty=1 then zHr[i]? else if w.ty=2 then zHs[i]? else none
  | none=>none)else some (zIY w)
def left(zcB:List Nat):Nat→Nat
 | 0=>0
 | n+1=>left zcB n+if n∈zcB then 0 else 1
section
variable {G : Env} {σ : AS} {R : Out → AS → Prop}
@[simp] theorem zEs(f ks vs zcB)(K:AV→AV→AS→Prop):zoM (.itr f ks vs zcB) σ K=(σ.F f=.alive∧((∀i,i<ks.length→i∈zcB)→K (.itr f ks vs zcB) (.tuple [.bool false]) σ) ∧
   ∀i k x,ks[i]?=some k→vs[i]?=some x→i∉zcB→K (.itr σ.nf ks vs (zcB++[i])) (.tuple [.bool true,k,x]) (σ.setF f .dead).newF):=rfl
@[simp] theorem zxO:AV.undef.cells=[.undef]:=rfl
end
section
variable {G : Env} {σ : AS} {R : Out → AS → Prop}
end
def zI0(w:W):List UInt8 :=
 if w.op=1 then sI w.n
 else if w.op=2∨w.op=3∨w.op=10∨w.op=14∨w.op=15 then uI w.n
 else if w.op=8∨w.op=9 then [0,0]else []
def zI1(w:W):Option UInt8:=if w.op=4 then zIZ w else((zlL++zEp).find? (zEr w)).map (·.1)
def zbJ(w:W):Bool:=decide (w.op=11)||decide (w.op=12)||decide (w.op=13)
def zEt(fs:List F):List (List UInt8):=[zup [] 2,zup [2] 0,zup [1] 0]++fs.map fun f=>zup f.params f.type
def zEu:Int→List F→List (List UInt8)
 | _,[]=>[]
 | i,_::r=>uI i::zEu (i+1) r
def zKA:List UInt8:=[0,97,115,109,1,0,0,0]
def zEv(m:M):Int:=yb4 .i64 (m.main+3)
structure Rs where
 b:List UInt8
 ls:To
 n:Nat
def zI2(n:Int)(s:Rs):Option (List UInt8 × Rs):=if 0≤n∧n≤s.b.length then some (s.b.take n.toNat,{ s with b:=s.b.drop n.toNat })else none
def zEw(s:Rs):Option (UInt8 × Rs):=match s.b with
 | []=>none
 | c::r=>some (c,{ s with b:=r })
def zKW(u:Nat):Int:=yb4 .i64 (u:Int)
def orS(u:Nat)(x:Nat)(k:Nat):Nat:=(u ||| (x <<< k))%2^64
def zKB(signed:Bool):Nat→Nat→Nat→List UInt8→Option (Int × List UInt8)
 | 0,_,_,_=>none
 | _+1,_,_,[]=>none
 | k+1,sh,u,c::r =>
  let v:=orS u (c.toNat%128) sh
  if c.toNat<128 then some (zKW (if signed=true∧64≤c.toNat∧sh<57 then orS v (2^64-1) (sh+7)else v),r)
  else zKB signed k (sh+7) v r
def zI3(sg:Bool)(n:Int):List UInt8:=if sg=true then sI n else uI n
def zKX(st sg:Bool)(s:Rs):Option (Int × Rs):=(zKB sg 10 0 0 s.b).bind fun p =>
 if st=true∧(s.b≠zI3 sg p.1++p.2∨(sg=false∧p.1<0))then none else some (p.1,{ s with b:=p.2 })
def zEx(l:List (UInt8 × W))(c:UInt8):Option W:=(l.find? (fun p=>p.1==c)).map (·.2)
def zEy(ty:Int)(i:Nat):W:={ op:=4,ty:=ty,n:=0,body:=0,other:=0,name:=zfn.getD i [] }
def zI4(c:UInt8):Option W:=match zHr.findIdx? (·==c)with
 | some i=>some (zEy 1 i)
 | none=>match zHs.findIdx? (·==c)with
  | some i=>some (zEy 2 i)
  | none=>none
def zxP(op b o:Int):W:={ op:=op,ty:=0,n:=0,body:=b,other:=o,name:=[] }
abbrev zKC:=Nat→Rs→Option ((Int × UInt8) × Rs)
def zxQ(rec:zKC)(d:Nat)(c:UInt8)(s:Rs):Option (W × Rs):=(zEw s).bind fun p=>(rec (d+1) p.2).bind fun q =>
 if c.toNat=4 then
  if q.1.2=5 then(rec (d+1) q.2).map fun r=>(zxP 13 q.1.1 r.1.1,r.2)else some (zxP 13 q.1.1 (-1),q.2)
 else some (zxP ((c.toNat:Int)+9) q.1.1 0,q.2)
def zEz(st:Bool)(c:UInt8)(s:Rs):Option (W × Rs):=match zEx zEp c with
 | some w=>(zKX st (decide (w.op=1)) s).map fun p=>({ w with n:=p.1 },p.2)
 | none=>match zEx zlL c with
  | some w=>if w.op=8∨w.op=9 then(zI2 2 s).map fun p=>(w,p.2)else some (w,s)
  | none=>(zI4 c).map fun w=>(w,s)
def zEA(st:Bool)(rec:zKC)(d:Nat)(c:UInt8)(s:Rs):Option (W × Rs) :=
 if 2≤c.toNat∧c.toNat≤4 then if d<400 then zxQ rec d c s else none else zEz st c s
def zxR(st:Bool):Nat→Nat→List W→Rs→Option ((Int × UInt8) × Rs)
 | 0,_,_,_=>none
 | k+1,d,l,s=>(zEw s).bind fun p =>
  if p.1=11∨p.1=5 then some (((p.2.ls.length:Int),p.1),{ p.2 with ls:=p.2.ls++[l] })
  else(zEA st (fun d s=>zxR st k d [] s) d p.1 p.2).bind fun q=>zxR st k d (l++[q.1]) q.2
def zI5(t:Int):Bool:=decide (t≠1)&&decide (t≠2)
def zEB(f:F):Bool:=!(f.params.any zI5||(f.locals.any zI5||(decide (f.type≠0)&&zI5 f.type)))
def zEC(w:W):Bool:=decide (w.n<0)&&decide (w.op≠1)
theorem wrap_nat{m:Nat}(h:m<2^63):yb4 .i64 (m:Int)=m:=by rw[zc]<;>omega
end Go.Proofs.YtohfclafhegadaaGreatDoor
namespace Go.Proofs.YtohfclafhegadaaGreatDoor
open Go Go.Abs
end Go.Proofs.YtohfclafhegadaaGreatDoor
namespace Go.Proofs.YtohfclafhegadaaGreatDoor
open Go Go.Abs
structure zI6(f:F):Prop where
 typed:zEB f=true
 below:∀ws∈f.lists,∀w∈ws,zEC w=false
 skel:∃st k s e s',zxR st k 0 [] s=some (((f.lists.length:Int)-1,e),s')∧s.ls=[]∧s'.ls=f.lists
def zI7(fs:List F):Nat:=(fs.map fun f=>f.locals.length).sum
def zI8(f:F):Prop:=(∀t∈f.params,t=1∨t=2)∧(f.type=0∨f.type=1∨f.type=2)∧f.params.length<2^62
structure zKY(m:M):Prop where
 fs:∀f∈m.funcs,zI8 f
 mem:-(2^63)≤m.memory∧m.memory<2^63
 many:m.funcs.length<2^60
 s1:(zKz (zEt m.funcs)).length<2^62
 s3:(zKz (zEu 3 m.funcs)).length<2^62
structure zKD(m:M):Prop where
 fs:∀f∈m.funcs,zI6 f
 many:zI7 m.funcs≤65536
 mem:-(2^63)≤m.memory∧m.memory<2^63
 main0:0≤zEv m
 main:m.main=yb4 .i64 (zEv m-3)
end Go.Proofs.YtohfclafhegadaaGreatDoor
namespace Go.Proofs.YtohfclafhegadaaGreatDoor
open Go Go.Abs
theorem RepO.len{σ:AS}{v:AV}{l:List W}(h:Al.RepO σ v l)(K:AV→Prop):zgF yb9 54 v K=K (.int .i64 (l.length:Int)):=by
 rcases h with ⟨rfl,rfl⟩|⟨b,rfl,_⟩<;>simp
theorem RepO.at{σ:AS}{v:AV}{l:List W}(h:Al.RepO σ v l){i:Nat}(hi:i<l.length):∃φ,Al.Rd σ φ∧∀K:AV→Prop,zw yb9 54 v (.int .i64 (i:Int)) K=K (.pv φ l[i].av):=by
 rcases h with ⟨rfl,_⟩|⟨φ,rfl,r⟩
 ·simp at hi
 ·exact⟨φ,r,fun K=>by simp[hi]⟩
def RgW(w:W):Prop:=-(2^63)≤w.n∧w.n<2^63
def RgL(ls:To):Prop:=∀ws∈ls,∀w∈ws,RgW w
theorem zxS{w:W}(h:zbJ w=true):w.op=11∨w.op=12∨w.op=13:=by
 simpa [zbJ,or_assoc]using h
section
variable {G : Env} {σ : AS} {R : Out → AS → Prop}
end
end Go.Proofs.YtohfclafhegadaaGreatDoor
namespace Go.Proofs.YtohfclafhegadaaGreatDoor.Ck
open Go Go.Abs Go.Proofs.YtohfclafhegadaaGreatDoor
theorem zpd{a n:Int}{named named':List Bool}(h:zdn a named n=.ok named'){i:Nat}(hi:named'[i]?=some true):named[i]?=some true∨(i:Int)=n:=by
 unfold zdn at h
 split at h
 ·rename_i hc
  cases h
  by_cases hin:n.toNat=i
  ·right;omega
  ·left;rwa [List.getElem?_set_ne hin]at hi
 ·cases h
theorem zhK{a:Int}:∀{ns:List Int} {named named':List Bool},zaG a ns named=.ok named'→∀{i:Nat},named'[i]?=some true→named[i]?=some true∨(i:Int)∈ns
 | [],named,named',h,i,hi=>by rw[zaG]at h;cases h;exact .inl hi
 | n::ns,named,named',h,i,hi=>by
  rw[zaG]at h
  split at h
  ·cases h
  ·rename_i nm hnm
   rcases zhK h hi with h1|h1
   ·rcases zpd hnm h1 with h2|h2
    ·exact .inl h2
    ·exact .inr (by simp[h2])
   ·exact .inr (by simp[h1])
theorem zlM{a:Int}:∀{r:List W} {named named':List Bool},zgQ a r named=.ok named'→∀{i:Nat},named'[i]?=some true→named[i]?=some true∨∃w∈r,(i:Int)∈zl w
 | [],named,named',h,i,hi=>by rw[zgQ]at h;cases h;exact .inl hi
 | w::r,named,named',h,i,hi=>by
  rw[zgQ]at h
  split at h
  ·cases h
  ·rename_i nm hnm
   rcases zlM h hi with h1|⟨w',h1,h2⟩
   ·rcases zhK hnm h1 with h2|h2
    ·exact .inl h2
    ·exact .inr ⟨w,by simp,h2⟩
   ·exact .inr ⟨w',by simp[h1],h2⟩
theorem zi0:∀{ls:To} {k:Nat} {named named':List Bool},zbu k ls named=.ok named'→∀{i:Nat},named'[i]?=some true→named[i]?=some true∨∃(j:Nat) (r:List W),ls[j]?=some r∧∃w∈r,(i:Int)∈zl w
 | [],k,named,named',h,i,hi=>by rw[zbu]at h;cases h;exact .inl hi
 | r::ls,k,named,named',h,i,hi=>by
  rw[zbu]at h
  split at h
  ·cases h
  ·rename_i nm hnm
   rcases zi0 h hi with h1|⟨j,r',h1,h2⟩
   ·rcases zlM hnm h1 with h2|h2
    ·exact .inl h2
    ·exact .inr ⟨0,r,rfl,h2⟩
   ·exact .inr ⟨j+1,r',by simpa using h1,h2⟩
theorem zuu{a n:Int}{named named':List Bool}(h:zdn a named n=.ok named'):named'.length=named.length:=by
 unfold zdn at h
 split at h
 ·cases h;simp
 ·cases h
theorem zlN{a:Int}:∀{ns:List Int} {named named':List Bool},zaG a ns named=.ok named'→named'.length=named.length
 | [],named,named',h=>by rw[zaG]at h;cases h;rfl
 | n::ns,named,named',h=>by
  rw[zaG]at h
  split at h
  ·cases h
  ·rename_i nm hnm
   rw[zlN h,zuu hnm]
theorem zqU{a:Int}:∀{r:List W} {named named':List Bool},zgQ a r named=.ok named'→named'.length=named.length
 | [],named,named',h=>by rw[zgQ]at h;cases h;rfl
 | w::r,named,named',h=>by
  rw[zgQ]at h
  split at h
  ·cases h
  ·rename_i nm hnm
   rw[zqU h,zlN hnm]
theorem zoe:∀{ls:To} {k:Nat} {named named':List Bool},zbu k ls named=.ok named'→named'.length=named.length
 | [],k,named,named',h=>by rw[zbu]at h;cases h;rfl
 | r::ls,k,named,named',h=>by
  rw[zbu]at h
  split at h
  ·cases h
  ·rename_i nm hnm
   rw[zoe h,zqU hnm]
theorem zlO{ls:To}(h:zbY ls=.ok ()){i:Nat}(hi:i+1<ls.length):∃(j:Nat) (r:List W),ls[j]?=some r∧∃w∈r,(i:Int)∈zl w:=by
 unfold zbY at h
 split at h
 ·cases h
 split at h
 ·cases h
 rename_i nm hnm
 split at h
 ·rename_i hall
  rw[yaM]at hall
  have hlen:nm.length=ls.length:=by
   have:=(zoe hnm)
   simpa using this
  have h1:nm[i]?=some true:=by
   have h2:=hall (nm[i]'(by omega)) (ycx.2 ⟨i,by simp;omega,by simp⟩)
   rw[yau (by omega)]
   simpa using h2
  rcases zi0 hnm h1 with h2|h2
  ·rw[yck]at h2
   split at h2<;>simp at h2
  ·exact h2
 ·cases h
theorem zgh{fs:List F}{ls:List Int}{ty deep:Int}{look:zkf}:∀{ws:List W} {s s':St},zE fs ls ty deep look ws s=.ok s'→∀w∈ws,∃s0 s1,zL fs ls ty deep look w s0=.ok s1
 | [],_,_,_,w,hw=>by simp at hw
 | v::ws,s,s',h,w,hw=>by
  rw[zE]at h
  split at h
  ·cases h
  ·rename_i s1 h1
   rcases ybC.1 hw with rfl|hw
   ·exact⟨s,s1,h1⟩
   ·exact zgh h w hw
theorem znc{fs:List F}{ls:List Int}{ty deep:Int}{look:zkf}{w:W}{s s':St}(h:zL fs ls ty deep look w s=.ok s'):zR w=true∧∀n∈zl w,look n (deep+1)=.ok ():=by
 unfold zL at h
 split at h
 ·cases h
 rename_i hf
 refine⟨by simpa using hf,fun n hn=>?_⟩
 split at h
 ·cases h
 by_cases h1:w.op=11∨w.op=12
 ·rw[if_pos h1]at h
  unfold zl at hn
  rw[if_pos (by omega)]at hn
  simp at hn
  subst hn
  cases hl:look w.body (deep+1)with
  | ok u=>rfl
  | error e=>rw[hl]at h;cases h
 rw[if_neg h1]at h
 by_cases h2:w.op=13
 ·rw[if_pos h2]at h
  split at h
  ·cases h
  cases hl:look w.body (deep+1)with
  | error e=>rw[hl]at h;cases h
  | ok u =>
   rw[hl]at h
   simp only at h
   unfold zl at hn
   by_cases ho:w.other<0
   ·rw[if_pos (by omega)]at hn
    simp at hn
    subst hn
    exact hl
   ·rw[if_neg (by omega),if_pos h2]at hn
    rw[if_pos (by omega)]at h
    simp at hn
    rcases hn with rfl|rfl
    ·exact hl
    ·cases hl2:look w.other (deep+1)with
     | ok u=>rfl
     | error e=>rw[hl2]at h;cases h
 ·unfold zl at hn
  rw[if_neg (by omega),if_neg h2]at hn
  simp at hn
theorem zi1{fs:List F}{ls:List Int}{ty:Int}{lists:To}{k:Nat}{at_ deep:Int}(h:zQ fs ls ty lists (k+1) at_ deep=.ok ()):∀w∈lists.getD at_.toNat [],zR w=true∧∀n∈zl w,zQ fs ls ty lists k n (deep+1)=.ok ():=by
 rw[zQ]at h
 split at h
 ·cases h
 ·rename_i s' hs
  intro w hw
  obtain⟨s0,s1,h1⟩:=zgh hs w hw
  exact znc h1
theorem zcB{fs:List F}{ls:List Int}{ty:Int}{lists:To}(hl:zbY lists=.ok ())(h:zQ fs ls ty lists lists.length ((lists.length:Int)-1) 0=.ok ()):∀(d i:Nat),i+d+1=lists.length→∃(k:Nat) (deep:Int),zQ fs ls ty lists k (i:Int) deep=.ok ():=by
 intro d
 induction d using ybI with
 | _ d ih =>
  intro i hi
  by_cases h0:d=0
  ·subst h0
   refine⟨lists.length,0,?_⟩
   have:(i:Int)=(lists.length:Int)-1:=by omega
   rw[this];exact h
  ·obtain⟨j,r,h1,w,h2,h3⟩:=zlO hl (i:=i) (by omega)
   obtain⟨_,ha,_⟩:=zcg hl
   have hj:=(ha j r h1 _ (ycv.2 ⟨w,h2,h3⟩)).2
   have hjl:j<lists.length:=(yaq.1 h1).1
   obtain⟨k,deep,hk⟩:=ih (lists.length-1-j) (by omega) j (by omega)
   cases k with
   | zero=>rw[zQ]at hk;cases hk
   | succ k =>
    have hg:lists.getD (j:Int).toNat []=r:=by rw[ybe,ycf,h1];rfl
    have:=zi1 hk w (by rw[hg];exact h2)
    exact⟨k,deep+1,this.2 _ h3⟩
theorem forms_of{fs:List F}{f:F}(h:zn fs f=.ok ()):∀l∈f.lists,∀w∈l,zR w=true:=by
 have hl:=zak h
 unfold zn at h
 split at h
 ·cases h
 rw[hl]at h
 simp only at h
 intro l hlm w hw
 obtain⟨i,hi,e⟩:=List.getElem_of_mem hlm
 obtain⟨k,deep,hk⟩:=zcB hl h (f.lists.length-1-i) i (by omega)
 cases k with
 | zero=>rw[zQ]at hk;cases hk
 | succ k =>
  have hg:f.lists.getD (i:Int).toNat []=l:=by rw[ybe,ycf,yau hi,e];rfl
  exact(zi1 hk w (by rw[hg];exact hw)).1
end Go.Proofs.YtohfclafhegadaaGreatDoor.Ck
namespace Go.Proofs.YtohfclafhegadaaGreatDoor
open Go Go.Abs
section
variable {G : Env} {σ : AS} {R : Out → AS → Prop}
theorem B_inj:∀{x y:List UInt8},B x=B y→x=y
 | [],[],_=>rfl
 | [],_::_,h=>by cases h
 | _::_,[],h=>by cases h
 | a::x,b::y,h=>by
  have h1:yco .u8 (a.toNat:Int)::B x=yco .u8 (b.toNat:Int)::B y:=h
  injection h1 with h1 h2
  injection h1 with _ h3
  have h4:a=b:=UInt8.toNat_inj.1 (by omega)
  rw[B_inj h2,h4]
theorem zKE{K:AV→Prop}{xs:List AV}(x:List UInt8)(e:xs=B x):(∃bs,xs=B bs∧K (.lit bs))↔K (.lit x):=by
 subst e
 refine⟨fun⟨bs,h,k⟩=>?_,fun k=>⟨x,rfl,k⟩⟩
 rw[B_inj h];exact k
structure SzB(f:F):Prop where
 params:f.params.length≤2^38
 locals:f.locals.length≤2^34
 name:f.name.length<2^38
 rows:∀ws∈f.lists,ws.length≤2^40
 many:f.lists.length≤2^40
 rg:RgL f.lists
end
end Go.Proofs.YtohfclafhegadaaGreatDoor
namespace Go.Proofs.YtohfclafhegadaaGreatDoor
open Go Go.Abs
structure zK8(m:M):Prop where
 funcs:m.funcs.length≤2^47
 params:∀f∈m.funcs,f.params.length≤2^47
 locals:∀f∈m.funcs,f.locals.length≤2^47
 lists:∀f∈m.funcs,f.lists.length≤2^47
 rows:∀f∈m.funcs,∀l∈f.lists,l.length≤2^47
structure zKF(f:F):Prop where
 params:f.params.length≤3000
 locals:f.locals.length≤3000
 lists:f.lists.length≤300
 rows:∀l∈f.lists,l.length≤3000
theorem ziy{ls:To}{k:Nat}(h:k<ls.length):zfk id (ls.take (k+1))=zfk id (ls.take k)+ls[k].length:=by
 rw[ycl h,zhH]
 simp[zfk]
theorem zpe{ls:To}{B:Nat}(h:∀l∈ls,l.length≤B):zfk id ls≤ls.length*B:=by
 induction ls with
 | nil=>simp[zfk]
 | cons l ls ih =>
  have h1:=h l (by simp)
  have h2:=ih fun x hx=>h x (by simp[hx])
  simp only[zfk,yaL,yci,yac,id]at h2 ⊢
  rw[Nat.add_mul];omega
theorem zuv{ls:To}{l:List W}(h:l∈ls):l.length≤zfk id ls:=by
 induction ls with
 | nil=>simp at h
 | cons x ls ih =>
  simp only[zfk,yaL,yci,id]at ih ⊢
  rcases ybC.1 h with rfl|h
  ·omega
  ·have:=ih h;omega
theorem zfU:∀{l:List (List UInt8 × List UInt8)} {s:List UInt8},zbf l s≠[]→s∈l.map (·.1)
 | [],s,h=>by simp[zbf]at h
 | (x,y)::r,s,h=>by
  rw[zbf]at h
  split at h
  ·rename_i e;simp[e]
  ·simp only[yaL,ybC];exact .inr (zfU h)
abbrev Tok:=List UInt8
def zF(w:W):Tok :=
 if w.op=1 then zD w.ty++[46,99,111,110,115,116]else if w.op=2 then [108,111,99,97,108,46,103,101,116]else if w.op=3 then [108,111,99,97,108,46,115,101,116]else if w.op=10 then [99,97,108,108]else if w.op=14 then [98,114]else if w.op=15 then [98,114,95,105,102]
 else if w.op=4 then zD w.ty++46::w.name else if w.op=5 then zD w.ty++[46,101,113,122]else if w.op=6 then [105,51,50,46,119,114,97,112,95,105,54,52]else if w.op=7 then [105,54,52,46,101,120,116,101,110,100,95,105,51,50,95,115]
 else if w.op=8 then zD w.ty++(if w.n=1 then [46,108,111,97,100,56,95,115]else [46,108,111,97,100])else if w.op=9 then zD w.ty++(if w.n=1 then [46,115,116,111,114,101,56]else [46,115,116,111,114,101])
 else if w.op=16 then [114,101,116,117,114,110]else if w.op=17 then [117,110,114,101,97,99,104,97,98,108,101]else [100,114,111,112]
def zaD(w:W):Bool:=decide (w.op=1)||decide (w.op=2)||decide (w.op=3)||decide (w.op=10)||decide (w.op=14)||decide (w.op=15)
def zcL(w:W):List Tok:=if zaD w=true then [zF w,Lib.itoa w.n]else [zF w]
def zaL(w:W):W :=
 { op:=w.op,ty:=if w.op=1∨w.op=4∨w.op=5∨w.op=8∨w.op=9 then w.ty else 0,n:=if zaD w=true∨w.op=8∨w.op=9 then w.n else 0,body:=0,other:=0,name:=if w.op=4 then w.name else [] }
def zX(op b o:Int):W:={ op:=op,ty:=0,n:=0,body:=b,other:=o,name:=[] }
def zbp(op:Int):Tok:=if op=11 then ziV else if op=12 then zo1 else tIf
inductive Pr(ls:To):Nat→List W→To→List Tok→List W→To→Prop
 | nil (d acc):Pr ls d [] acc [] [] acc
 | leaf {d w r acc t r' acc'}:zbJ w=false→zR w=true→RgW w→Pr ls d r acc t r' acc'→Pr ls d (w::r) acc (zcL w++t) (zaL w::r') acc'
 | one {d w b r acc tb b' acc1 t r' acc'}:(w.op=11∨w.op=12∨w.op=13∧w.other<0)→d<400→0≤w.body→ls[w.body.toNat]?=some b→Pr ls (d+1) b acc tb b' acc1→Pr ls d r (acc1++[b']) t r' acc' →
   Pr ls d (w::r) acc (zbp w.op::(tb++zc4::t)) (zX w.op acc1.length (if w.op=13 then -1 else 0)::r') acc'
 | two {d w b e r acc tb b' acc1 te e' acc2 t r' acc'}:w.op=13→0≤w.other→d<400→0≤w.body→ls[w.body.toNat]?=some b→ls[w.other.toNat]?=some e→Pr ls (d+1) b acc tb b' acc1→Pr ls (d+1) e (acc1++[b']) te e' acc2→Pr ls d r (acc2++[e']) t r' acc' →
   Pr ls d (w::r) acc (tIf::(tb++zce::(te++zc4::t))) (zX 13 acc1.length acc2.length::r') acc'
def zED:List Tok:=[[34,101,110,118,34],[34,105,110,34],[34,111,117,116,34],[34,116,114,97,112,34],[34,109,97,105,110,34]]
def zcM(t:Tok):Bool:=(!t.isEmpty&&t.all fun c=>!za8 c)||((t==zA||t==zg)||zED.contains t)
def zu:List Tok→List UInt8
 | []=>[10]
 | t::r=>32::(t++zu r)
theorem zpf(ts:List Tok):∃c r,zu ts=c::r∧zm1 c=true∧za8 c=true:=by
 cases ts with
 | nil=>exact⟨10,[],rfl,by decide,by decide⟩
 | cons t r=>exact⟨32,_,rfl,by decide,by decide⟩
theorem zec{c:UInt8}(h:zm1 c=true)(r:List UInt8):zdo (c::r)=zdo r:=by
 unfold zdo
 rw[ycB,if_pos h]
theorem zuw{c:UInt8}(h:za8 c=false):zm1 c=false∧c≠40∧c≠41∧c≠34:=by
 simp only[za8,zm1,ycC,ycD,Bool.or_false,Bool.or_eq_false_iff,beq_eq_false_iff_ne,ne_eq]at h ⊢
 exact⟨⟨h.1,h.2.1⟩,h.2.2.1,h.2.2.2.1,h.2.2.2.2⟩
theorem zqV{t:List UInt8}(h:∀c∈t,za8 c=false){c:UInt8}(hc:za8 c=true)(r:List UInt8):(t++c::r).takeWhile (fun x=>!za8 x)=t∧(t++c::r).dropWhile (fun x=>!za8 x)=c::r:=by
 induction t with
 | nil=>simp[hc]
 | cons x t ih =>
  have hx:=h x (by simp)
  obtain⟨i1,i2⟩:=ih fun c hc=>h c (by simp[hc])
  simp[hx,i1,i2]
theorem zed{t:Tok}(h:zcM t=true)(ts:List Tok):zdo (t++zu ts)=some (t,zu ts):=by
 obtain⟨c,r,e,h1,h2⟩:=zpf ts
 rw[e]
 unfold zcM at h
 rw[Bool.or_eq_true]at h
 rcases h with h|h
 ·rw[Bool.and_eq_true]at h
  cases t with
  | nil=>simp at h
  | cons x t =>
   have ha:∀y∈x::t,za8 y=false:=fun y hy=>by
    have:=yaM.1 h.2 y hy
    simpa using this
   obtain⟨s1,s2,s3,s4⟩:=zuw (ha x (by simp))
   obtain⟨k1,k2⟩:=zqV (t:=t) (fun c hc=>ha c (by simp[hc])) h2 r
   unfold zdo
   rw[ycp,ycB,if_neg (by simp[s1])]
   simp only
   rw[if_neg (by simp[s2,s3]),if_neg s4,k1,k2]
 ·rw[Bool.or_eq_true,Bool.or_eq_true,beq_iff_eq,beq_iff_eq,List.contains_iff_mem]at h
  rcases h with (rfl|rfl)|h
  ·rfl
  ·rfl
  ·simp only[zED,ybC,ycz,or_false]at h
   rcases h with rfl|rfl|rfl|rfl|rfl<;>rfl
theorem zbi{t:Tok}(h:zcM t=true)(ts:List Tok)(ls:To):zb3 ⟨zu (t::ts),ls⟩=.ok (t,⟨zu ts,ls⟩):=by
 have e:zdo (zu (t::ts))=some (t,zu ts):=by
  show zdo (32::(t++zu ts))=_
  rw[zec (by decide),zed h]
 simp only[zb3,e]
theorem zi2{c:UInt8}(h:zJ c=true):za8 c=false:=by
 simp only[zJ,Bool.and_eq_true,decide_eq_true_eq]at h
 simp only[za8,ycC,ycD,Bool.or_false,Bool.or_eq_false_iff,beq_eq_false_iff_ne,ne_eq]
 refine⟨?_,?_,?_,?_,?_⟩<;>(rintro rfl;simp at h)
theorem zi3(n:Int):zcM (Lib.itoa n)=true:=by
 have h1:∀u,((Lib.decDigits u).all fun c=>!za8 c)=true:=fun u=>by
  rw[yaM]
  intro c hc
  have:=yaM.1 (zeb u) c hc
  simp[zi2 this]
 have h2:∀u,(Lib.decDigits u).isEmpty=false:=fun u=>by
  have:=zfg u
  cases h:Lib.decDigits u<;>simp_all
 unfold Lib.itoa zcM
 split
 ·have h3:za8 45=false:=by decide
  simp[h1,h3]
 ·rw[h1,h2];rfl
theorem zdN{n:Int}(h:-(2^63)≤n∧n<2^63)(ts:List Tok)(ls:To):zbg ⟨zu (Lib.itoa n::ts),ls⟩=.ok (n,⟨zu ts,ls⟩):=by
 unfold zbg
 rw[zbi (zi3 n)]
 simp only[Except.bind,zqB h,Except.map]
def zpg(t:Tok):Bool:=zcM t&&(decide (zcr t=0)&&(!(t==zc4)&&(!(t==zg)&&(!(t==zce)&&!(t==zA)))))
theorem zof:∀s∈signs.map (·.1),∀t∈[1,2],(zpg (zD t++46::s)=true∧zM zdK (zD t++46::s)=none∧zM zhE (zD t++46::s)=some { op:=4,ty:=t,n:=0,body:=0,other:=0,name:=s }):=by decide
theorem zog{t:Tok}(h:zpg t=true)(d:Nat)(o:Bool):zcM t=true∧zcr t=0∧zfj d o t=false:=by
 simp only[zpg,Bool.and_eq_true,decide_eq_true_eq,Bool.not_eq_true',beq_eq_false_iff_ne,ne_eq]at h
 obtain⟨h1,h2,h3,h4,h5,_⟩:=h
 exact⟨h1,h2,by simp[zfj,h3,h4,h5]⟩
def zhL(op ty:Int):W:={ op:=op,ty:=ty,n:=0,body:=0,other:=0,name:=[] }
theorem zqW{t:Tok}(h:zpg t=true):t≠zA:=by
 simp only[zpg,Bool.and_eq_true,decide_eq_true_eq,Bool.not_eq_true',beq_eq_false_iff_ne,ne_eq]at h
 exact h.2.2.2.2.2
theorem zat{t:Tok}{w:W}(h1:zM zdK t=none)(h2:zM zhE t=some w)(s:Ts):zfi t s=.ok (w,s):=by
 unfold zfi
 rw[h1]
 simp only[h2]
theorem zci{t:Tok}{w:W}{n:Int}(h1:zM zdK t=some w)(hn:-(2^63)≤n∧n<2^63)(ts:List Tok)(ls:To):zfi t ⟨zu (Lib.itoa n::ts),ls⟩=.ok ({ w with n:=n },⟨zu ts,ls⟩):=by
 unfold zfi
 rw[h1]
 simp only[zdN hn,Except.map]
theorem zlP{w:W}(hf:zR w=true)(hn:zbJ w=false)(hr:RgW w):∃t r,zcL w=t::r∧zpg t=true∧∀(ts:List Tok) (ls:To),zfi t ⟨zu (r++ts),ls⟩=.ok (zaL w,⟨zu ts,ls⟩):=by
 obtain⟨op,ty,n,body,other,name⟩:=w
 simp only[zbJ,Bool.or_eq_false_iff,decide_eq_false_iff_not]at hn
 unfold zR at hf
 simp only at hf
 by_cases h1:op=1∨op=5
 ·rw[if_pos h1]at hf
  simp only[zT,Bool.or_eq_true,decide_eq_true_eq]at hf
  rcases h1 with rfl|rfl<;>rcases hf with rfl|rfl
  ·exact⟨[105,51,50,46,99,111,110,115,116],[Lib.itoa n],rfl,by decide,fun ts ls=>zci (t:=[105,51,50,46,99,111,110,115,116]) (w:=zhL 1 1) (by decide) hr ts ls⟩
  ·exact⟨[105,54,52,46,99,111,110,115,116],[Lib.itoa n],rfl,by decide,fun ts ls=>zci (t:=[105,54,52,46,99,111,110,115,116]) (w:=zhL 1 2) (by decide) hr ts ls⟩
  ·exact⟨[105,51,50,46,101,113,122],[],rfl,by decide,fun ts ls=>zat (by rfl) (by rfl) _⟩
  ·exact⟨[105,54,52,46,101,113,122],[],rfl,by decide,fun ts ls=>zat (by rfl) (by rfl) _⟩
 ·rw[if_neg h1]at hf
  by_cases h4:op=4
  ·subst h4
   rw[if_pos rfl]at hf
   simp only[Bool.and_eq_true,Bool.not_eq_true',beq_eq_false_iff_ne,ne_eq,zT,Bool.or_eq_true,decide_eq_true_eq]at hf
   obtain⟨a1,a2,a3⟩:=zof name (zfU hf.2) ty (by simpa using hf.1)
   exact⟨_,_,rfl,a1,fun ts ls=>zat a2 a3 _⟩
  ·rw[if_neg h4]at hf
   by_cases h8:op=8∨op=9
   ·rw[if_pos h8]at hf
    simp only[zfe,Bool.or_eq_true,Bool.and_eq_true,decide_eq_true_eq]at hf
    rcases h8 with rfl|rfl<;>rcases hf with ⟨rfl,rfl|rfl⟩|⟨rfl,rfl⟩
    ·exact⟨[105,51,50,46,108,111,97,100,56,95,115],[],rfl,by decide,fun ts ls=>zat (by rfl) (by rfl) _⟩
    ·exact⟨[105,51,50,46,108,111,97,100],[],rfl,by decide,fun ts ls=>zat (by rfl) (by rfl) _⟩
    ·exact⟨[105,54,52,46,108,111,97,100],[],rfl,by decide,fun ts ls=>zat (by rfl) (by rfl) _⟩
    ·exact⟨[105,51,50,46,115,116,111,114,101,56],[],rfl,by decide,fun ts ls=>zat (by rfl) (by rfl) _⟩
    ·exact⟨[105,51,50,46,115,116,111,114,101],[],rfl,by decide,fun ts ls=>zat (by rfl) (by rfl) _⟩
    ·exact⟨[105,54,52,46,115,116,111,114,101],[],rfl,by decide,fun ts ls=>zat (by rfl) (by rfl) _⟩
   ·rw[if_neg h8]at hf
    simp only[Bool.and_eq_true,decide_eq_true_eq]at hf
    rcases(show op=2∨op=3∨op=10∨op=14∨op=15∨op=6∨op=7∨op=16∨op=17∨op=18 by omega)with rfl|rfl|rfl|rfl|rfl|rfl|rfl|rfl|rfl|rfl
    ·exact⟨[108,111,99,97,108,46,103,101,116],[Lib.itoa n],rfl,by decide,fun ts ls=>zci (t:=[108,111,99,97,108,46,103,101,116]) (w:=zhL 2 0) (by decide) hr ts ls⟩
    ·exact⟨[108,111,99,97,108,46,115,101,116],[Lib.itoa n],rfl,by decide,fun ts ls=>zci (t:=[108,111,99,97,108,46,115,101,116]) (w:=zhL 3 0) (by decide) hr ts ls⟩
    ·exact⟨[99,97,108,108],[Lib.itoa n],rfl,by decide,fun ts ls=>zci (t:=[99,97,108,108]) (w:=zhL 10 0) (by decide) hr ts ls⟩
    ·exact⟨[98,114],[Lib.itoa n],rfl,by decide,fun ts ls=>zci (t:=[98,114]) (w:=zhL 14 0) (by decide) hr ts ls⟩
    ·exact⟨[98,114,95,105,102],[Lib.itoa n],rfl,by decide,fun ts ls=>zci (t:=[98,114,95,105,102]) (w:=zhL 15 0) (by decide) hr ts ls⟩
    ·exact⟨[105,51,50,46,119,114,97,112,95,105,54,52],[],rfl,by decide,fun ts ls=>zat (by rfl) (by rfl) _⟩
    ·exact⟨[105,54,52,46,101,120,116,101,110,100,95,105,51,50,95,115],[],rfl,by decide,fun ts ls=>zat (by rfl) (by rfl) _⟩
    ·exact⟨[114,101,116,117,114,110],[],rfl,by decide,fun ts ls=>zat (by rfl) (by rfl) _⟩
    ·exact⟨[117,110,114,101,97,99,104,97,98,108,101],[],rfl,by decide,fun ts ls=>zat (by rfl) (by rfl) _⟩
    ·exact⟨[100,114,111,112],[],rfl,by decide,fun ts ls=>zat (by rfl) (by rfl) _⟩
theorem zko{op:Int}(h:op=11∨op=12∨op=13)(d:Nat)(o:Bool):zcM (zbp op)=true∧zcr (zbp op)=op∧zfj d o (zbp op)=false:=by
 rcases h with rfl|rfl|rfl
 ·exact⟨by decide,by decide,by simp[zfj,zbp,ziV,zc4,zg,zce]⟩
 ·exact⟨by decide,by decide,by simp[zfj,zbp,zo1,zc4,zg,zce]⟩
 ·exact⟨by decide,by decide,by simp[zfj,zbp,tIf,zc4,zg,zce]⟩
theorem zqX{ls:To}{d:Nat}{ws:List W}{acc acc':To}{toks:List Tok}{out:List W}(h:Pr ls d ws acc toks out acc'):∀(k:Nat) (o:Bool) (l:List W) (e:Tok) (rest:List Tok),toks.length<k→zcM e=true→zfj d o e=true →
  zae k d o l ⟨zu (toks++e::rest),acc⟩=.ok (((acc'.length:Int),e),⟨zu rest,acc'++[l++out]⟩):=by
 induction h with
 | nil d acc =>
  intro k o l e rest hk he hd
  obtain⟨k,rfl⟩:∃j,k=j+1:=⟨k-1,by simp at hk;omega⟩
  rw[zae,ycE,zbi he]
  simp only[Except.bind]
  rw[if_pos hd,yb7]
 | @leaf d w r acc t r' acc' hn hf hr _ ih =>
  intro k o l e rest hk he hd
  obtain⟨u,z,e1,e2,e3⟩:=zlP hf hn hr
  rw[e1]at hk ⊢
  simp only[ycp,ycF,yac,yab]at hk ⊢
  obtain⟨k,rfl⟩:∃j,k=j+1:=⟨k-1,by omega⟩
  obtain⟨q1,q2,q3⟩:=zog e2 d o
  rw[zae,zbi q1]
  simp only[Except.bind]
  rw[if_neg (by simp[q3]),zdh,if_pos q2,e3]
  simp only
  rw[ih k o (l++[zaL w]) e rest (by omega) he hd]
  simp
 | @one d w b r acc tb b' acc1 t r' acc' ho hd4 hb0 hb _ _ ih1 ih2 =>
  intro k o l e rest hk he hd
  simp only[ycp,ycF,yac,yab]at hk ⊢
  obtain⟨k,rfl⟩:∃j,k=j+1:=⟨k-1,by omega⟩
  have ho':w.op=11∨w.op=12∨w.op=13:=by omega
  obtain⟨q1,q2,q3⟩:=zko ho' d o
  rw[zae,zbi q1]
  simp only[Except.bind]
  rw[if_neg (by simp[q3]),zdh,q2,if_neg (by omega),zbx,if_neg (by omega)]
  rw[ih1 k (decide (w.op=13)) [] zc4 (t++e::rest) (by omega) (by decide) (by simp[zfj])]
  simp only[Except.bind]
  by_cases h13:w.op=13
  ·rw[if_pos h13,if_neg (by decide)]
   simp only[ycE]
   have:=ih2 k o (l++[zX w.op acc1.length (if w.op=13 then -1 else 0)]) e rest (by omega) he hd
   rw[if_pos h13,h13]at this
   rw[if_pos h13,h13]
   simp only[zX,ycF,ycp,ycE]at this ⊢
   exact this
  ·rw[if_neg h13]
   simp only[ycE]
   have:=ih2 k o (l++[zX w.op acc1.length (if w.op=13 then -1 else 0)]) e rest (by omega) he hd
   rw[if_neg h13]at this
   rw[if_neg h13]
   simp only[zX,ycF,ycp,ycE]at this ⊢
   exact this
 | @two d w b f r acc tb b' acc1 te e' acc2 t r' acc' ho ho2 hd4 hb0 hb hf _ _ _ ih1 ih2 ih3 =>
  intro k o l e rest hk he hd
  simp only[ycp,ycF,yac,yab]at hk ⊢
  obtain⟨k,rfl⟩:∃j,k=j+1:=⟨k-1,by omega⟩
  obtain⟨q1,q2,q3⟩:=zko (op:=13) (by omega) d o
  have e13:zbp 13=tIf:=rfl
  rw[e13]at q1 q2 q3
  rw[zae,zbi q1]
  simp only[Except.bind]
  rw[if_neg (by simp[q3]),zdh,q2,if_neg (by omega),zbx,if_neg (by omega)]
  simp only
  rw[ih1 k (decide True) [] zce (te++zc4::(t++e::rest)) (by omega) (by decide) (by simp[zfj])]
  simp only[Except.bind,ycE]
  rw[if_pos trivial,if_pos trivial,ih2 k false [] zc4 (t++e::rest) (by omega) (by decide) (by simp[zfj])]
  simp only[Except.map,ycE]
  have:=ih3 k o (l++[zX 13 acc1.length acc2.length]) e rest (by omega) he hd
  simp only[zX,ycF,ycp,ycE]at this ⊢
  exact this
theorem zEE{ls:To}(ha:zlD ls)(hf:∀l∈ls,∀w∈l,zR w=true)(hr:RgL ls):∀(i:Nat) (d:Nat) (ws:List W) (acc:To),d+i<400→(∀w∈ws,zR w=true)→(∀w∈ws,RgW w)→(∀n∈ws.flatMap zl,0≤n∧n<(i:Int)∧n<(ls.length:Int))→∃toks out acc',Pr ls d ws acc toks out acc':=by
 intro i
 induction i using ybI with
 | _ i ih =>
  intro d ws
  induction ws with
  | nil=>intro acc _ _ _ _;exact⟨[],[],acc,.nil d acc⟩
  | cons w ws ihw =>
   intro acc hd h1 h2 h3
   have rest:=fun acc=>ihw acc hd (fun v hv=>h1 v (by simp[hv])) (fun v hv=>h2 v (by simp[hv])) fun n hn=>h3 n (by rw[yaa];simp[hn])
   have hn:∀n∈zl w,0≤n∧n<(i:Int)∧n<(ls.length:Int):=fun n hn=>h3 n (by rw[yaa];simp[hn])
   have sub:∀n:Int,(0≤n∧n<(i:Int)∧n<(ls.length:Int))→∃b,ls[n.toNat]?=some b∧∀acc,∃toks out acc',Pr ls (d+1) b acc toks out acc':=fun n hn=>by
    have hlt:n.toNat<ls.length:=by omega
    have hb:ls[n.toNat]?=some ls[n.toNat]:=yau hlt
    refine⟨_,hb,fun acc=>ih n.toNat (by omega) (d+1) _ acc (by omega) (hf _ (yaw hlt)) (hr _ (yaw hlt)) fun m hm=>?_⟩
    have:=ha n.toNat _ hb m hm
    omega
   cases hw:zbJ w with
   | false =>
    obtain⟨t,o,a,hp⟩:=rest acc
    exact⟨_,_,_,.leaf hw (h1 w (by simp)) (h2 w (by simp)) hp⟩
   | true =>
    have hop:w.op=11∨w.op=12∨w.op=13:=zxS hw
    by_cases h13:w.op=13∧0≤w.other
    ·have e:zl w=[w.body,w.other]:=by unfold zl;rw[if_neg (by omega),if_pos h13.1]
     rw[e]at hn
     have hb:=hn w.body (by simp)
     obtain⟨b,hb1,hb2⟩:=sub w.body hb
     obtain⟨e,he1,he2⟩:=sub w.other (hn w.other (by simp))
     obtain⟨tb,b',a1,p1⟩:=hb2 acc
     obtain⟨te,e',a2,p2⟩:=he2 (a1++[b'])
     obtain⟨t,o,a3,p3⟩:=rest (a2++[e'])
     exact⟨_,_,_,.two h13.1 h13.2 (by omega) hb.1 hb1 he1 p1 p2 p3⟩
    ·have e:zl w=[w.body]:=by unfold zl;rw[if_pos (by omega)]
     rw[e]at hn
     have hb:=hn w.body (by simp)
     obtain⟨b,hb1,hb2⟩:=sub w.body hb
     obtain⟨tb,b',a1,p1⟩:=hb2 acc
     obtain⟨t,o,a3,p3⟩:=rest (a1++[b'])
     exact⟨_,_,_,.one (by omega) (by omega) hb.1 hb1 p1 p3⟩
def PrF(f:F)(toks:List Tok)(ls':To):Prop:=∃row out acc,f.lists[f.lists.length-1]?=some row∧Pr f.lists 0 row [] toks out acc∧ls'=acc++[out]
theorem zux{fs:List F}{f:F}(h:zn fs f=.ok ())(hr:RgL f.lists)(hl:f.lists.length≤400):∃toks ls',PrF f toks ls':=by
 obtain⟨h0,ha,_⟩:=zcg (zak h)
 have hlt:f.lists.length-1<f.lists.length:=by omega
 have hb:f.lists[f.lists.length-1]?=some f.lists[f.lists.length-1]:=yau hlt
 have hf:=Ck.forms_of h
 obtain⟨t,o,a,hp⟩:=zEE ha hf hr (f.lists.length-1) 0 f.lists[f.lists.length-1] [] (by omega) (hf _ (yaw hlt)) (hr _ (yaw hlt)) fun m hm=>by
  have:=ha (f.lists.length-1) _ hb m hm
  omega
 exact⟨t,_,_,_,_,hb,hp,rfl⟩
def zK(kw:Tok)(l:List Int):List Tok:=if l=[]then []else zA::kw::(l.map zD++[zg])
def zkp(t:Int):List Tok:=if t=0 then []else [zA,zdJ,zD t,zg]
def zgA(f:F)(toks:List Tok):List Tok:=zA::zbo::(36::f.name)::(zK zbZ f.params++(zkp f.type++(zK zaU f.locals++(toks++[zg]))))
theorem zkq{w:Tok}(hw:zcM w=true)(ts:List Tok)(ls:To):zfP w ⟨zu (zA::w::ts),ls⟩=some ⟨zu ts,ls⟩:=by
 have e1:zdo (zu (zA::w::ts))=some (zA,zu (w::ts)):=by
  show zdo (32::(zA++zu (w::ts)))=_
  rw[zec (by decide),zed (by decide)]
 have e2:zdo (zu (w::ts))=some (w,zu ts):=by
  show zdo (32::(w++zu ts))=_
  rw[zec (by decide),zed hw]
 simp only[zfP,e1,if_pos,e2]
theorem znd{w u v:Tok}(hu:zcM u=true)(hv:zcM v=true)(h:u≠zA∨v≠w)(ts:List Tok)(ls:To):zfP w ⟨zu (u::v::ts),ls⟩=none:=by
 have e1:zdo (zu (u::v::ts))=some (u,zu (v::ts)):=by
  show zdo (32::(u++zu (v::ts)))=_
  rw[zec (by decide),zed hu]
 have e2:zdo (zu (v::ts))=some (v,zu ts):=by
  show zdo (32::(v++zu ts))=_
  rw[zec (by decide),zed hv]
 unfold zfP
 simp only[e1]
 by_cases hu':u=zA
 ·rw[if_pos hu']
  simp only[e2]
  rw[if_neg (by rcases h with h|h;exact absurd hu' h;exact h)]
 ·rw[if_neg hu']
theorem zoh{w u:Tok}(hu:zcM u=true)(h:u≠zA)(ts:List Tok)(ls:To):zfP w ⟨zu (u::ts),ls⟩=none:=by
 have e1:zdo (zu (u::ts))=some (u,zu ts):=by
  show zdo (32::(u++zu ts))=_
  rw[zec (by decide),zed hu]
 simp only[zfP,e1,if_neg h]
theorem zuy{t:Int}(h:t=1∨t=2):zcM (zD t)=true∧(zD t=zAw∧t=1∨zD t=zAx∧t=2):=by
 rcases h with rfl|rfl
 ·exact⟨by decide,.inl ⟨rfl,rfl⟩⟩
 ·exact⟨by decide,.inr ⟨rfl,rfl⟩⟩
theorem zc6:∀(l:List Int) (acc:List Int) (k:Nat) (ts:List Tok) (ls:To),(∀t∈l,t=1∨t=2)→acc++l≠[]→l.length<k→zb0 k acc ⟨zu (l.map zD++zg::ts),ls⟩=.ok (acc++l,⟨zu ts,ls⟩)
 | [],acc,k,ts,ls,_,hne,hk=>by
  obtain⟨k,rfl⟩:∃j,k=j+1:=⟨k-1,by simp at hk;omega⟩
  rw[zb0,ycG,ycE,zbi (by decide)]
  simp only[Except.bind]
  rw[if_neg (by decide),if_neg (by decide),if_pos ⟨trivial,by simpa using hne⟩,yb7]
 | t::l,acc,k,ts,ls,h,hne,hk=>by
  obtain⟨k,rfl⟩:∃j,k=j+1:=⟨k-1,by simp at hk;omega⟩
  obtain⟨h1,h2⟩:=zuy (h t (by simp))
  rw[zb0,yaL,ycp,zbi h1]
  simp only[Except.bind]
  simp only[yac]at hk
  rcases h2 with ⟨e1,e2⟩|⟨e1,e2⟩
  ·rw[if_pos e1,zc6 l (acc++[1]) k ts ls (fun x hx=>h x (by simp[hx])) (by simp) (by omega),←e2]
   simp
  ·rw[e1,if_neg (by decide),if_pos rfl,zc6 l (acc++[2]) k ts ls (fun x hx=>h x (by simp[hx])) (by simp) (by omega),←e2]
   simp
theorem zdO:∀ts:List Tok,ts.length+1≤(zu ts).length
 | []=>by simp[zu]
 | t::r=>by
  have:=zdO r
  simp only[zu,yac,yab]
  omega
theorem zi4{kw:Tok}(hkw:zcM kw=true){l:List Int}(h:∀t∈l,t=1∨t=2)(ts:List Tok)(ls:To)(hno:zfP kw ⟨zu ts,ls⟩=none):zeo kw ⟨zu (zK kw l++ts),ls⟩=.ok (l,⟨zu ts,ls⟩):=by
 unfold zeo zK
 by_cases hl:l=[]
 ·rw[if_pos hl,ycE,hno,hl]
 ·rw[if_neg hl]
  simp only[ycp,ycF,ycE]
  rw[zkq hkw]
  simp only
  have:=zdO (l.map zD++zg::ts)
  rw[zc6 l [] _ ts ls h (by simpa using hl) (by simp at this ⊢;omega)]
  rfl
theorem zxT{ls:To}{d:Nat}{ws:List W}{acc acc':To}{toks:List Tok}{out:List W}(h:Pr ls d ws acc toks out acc'):toks=[]∨∃t r,toks=t::r∧zcM t=true∧t≠zA:=by
 cases h with
 | nil=>exact .inl rfl
 | leaf hn hf hr _ =>
  obtain⟨u,z,e1,e2,_⟩:=zlP hf hn hr
  rw[e1]
  exact .inr ⟨u,_,rfl,(zog e2 0 false).1,zqW e2⟩
 | one ho _ _ _ _ _ =>
  refine .inr ⟨_,_,rfl,(zko (by omega) 0 false).1,?_⟩
  rcases ho with e|e|e
  ·rw[e];decide
  ·rw[e];decide
  ·rw[e.1];decide
 | two=>exact .inr ⟨_,_,rfl,by decide,by decide⟩
theorem zEF{ls:To}{d:Nat}{ws:List W}{acc acc':To}{toks:List Tok}{out:List W}(h:Pr ls d ws acc toks out acc')(w:Tok)(ts:List Tok)(l:To):zfP w ⟨zu (toks++zg::ts),l⟩=none:=by
 rcases zxT h with rfl|⟨t,r,rfl,h1,h2⟩
 ·exact zoh (by decide) (by decide) _ _
 ·exact zoh h1 h2 _ _
theorem zlQ{kw w:Tok}(hkw:zcM kw=true)(hne:kw≠w){l:List Int}{ts:List Tok}{ls:To}(h:zfP w ⟨zu ts,ls⟩=none):zfP w ⟨zu (zK kw l++ts),ls⟩=none:=by
 unfold zK
 split
 ·exact h
 ·exact znd (by decide) hkw (.inr hne) _ _
theorem zxU{w:Tok}(hne:zdJ≠w){t:Int}{ts:List Tok}{ls:To}(h:zfP w ⟨zu ts,ls⟩=none):zfP w ⟨zu (zkp t++ts),ls⟩=none:=by
 unfold zkp
 split
 ·exact h
 ·exact znd (by decide) (by decide) (.inr hne) _ _
theorem zhM{c:UInt8}(h:(zaf c||zJ c)=true):za8 c=false:=by
 rw[Bool.or_eq_true]at h
 rcases h with h|h
 ·simp only[zaf,Bool.or_eq_true,Bool.and_eq_true,decide_eq_true_eq,beq_iff_eq]at h
  simp only[za8,ycC,ycD,Bool.or_false,Bool.or_eq_false_iff,beq_eq_false_iff_ne,ne_eq]
  refine⟨?_,?_,?_,?_,?_⟩<;>(rintro rfl;rcases h with h|h;simp at h;simp at h)
 ·exact zi2 h
theorem zuz{mx:Nat}{n:Tok}(h:zhF mx n=true):zcM (36::n)=true:=by
 have ha:∀c∈n,za8 c=false:=fun c hc=>by
  cases n with
  | nil=>simp at hc
  | cons x r =>
   simp only[zhF,Bool.and_eq_true,decide_eq_true_eq]at h
   rcases ybC.1 hc with rfl|hc
   ·exact zhM (by rw[h.2.1];rfl)
   ·exact zhM (yaM.1 h.2.2 c hc)
 have h1:(n.all fun c=>!za8 c)=true:=by
  rw[yaM]
  intro c hc
  simp[ha c hc]
 have h2:za8 36=false:=by decide
 unfold zcM
 simp[h1,h2]
structure Pf(mx:Nat)(f:F):Prop where
 name:zhF mx f.name=true
 params:∀t∈f.params,t=1∨t=2
 locals:∀t∈f.locals,t=1∨t=2
 type:f.type=0∨f.type=1∨f.type=2
theorem ziz{mx:Nat}{f:F}{toks:List Tok}{ls':To}(hf:Pf mx f)(hp:PrF f toks ls')(ts:List Tok)(ls:To):
  zcf mx ⟨zu ((36::f.name)::(zK zbZ f.params++(zkp f.type++(zK zaU f.locals++(toks++zg::ts))))),ls⟩=.ok ({ f with lists:=ls' },⟨zu ts,ls'⟩):=by
 obtain⟨row,out,acc,h1,h2,rfl⟩:=hp
 have a3:∀w l,zfP w ⟨zu (toks++zg::ts),l⟩=none:=fun w l=>zEF h2 w ts l
 have a2:∀l,zfP zdJ ⟨zu (zK zaU f.locals++(toks++zg::ts)),l⟩=none:=fun l=>zlQ (by decide) (by decide) (a3 _ l)
 have a1:∀l,zfP zbZ ⟨zu (zkp f.type++(zK zaU f.locals++(toks++zg::ts))),l⟩=none:=fun l=>zxU (by decide) (zlQ (by decide) (by decide) (a3 _ l))
 unfold zcf
 rw[zbi (zuz hf.name)]
 simp only[Except.bind,ycc,List.tail_cons]
 rw[if_pos ⟨trivial,hf.name⟩,zi4 (by decide) hf.params _ _ (a1 ls)]
 simp only
 have hres:zqD ⟨zu (zkp f.type++(zK zaU f.locals++(toks++zg::ts))),ls⟩=.ok (f.type,⟨zu (zK zaU f.locals++(toks++zg::ts)),ls⟩):=by
  unfold zqD
  by_cases ht:f.type=0
  ·have e:zkp f.type=[]:=if_pos ht
   rw[e,ycE,a2 ls,ht]
  ·have e:zkp f.type=[zA,zdJ,zD f.type,zg]:=if_neg ht
   rw[e]
   simp only[ycp,ycE]
   rw[zkq (by decide)]
   simp only
   have:=zdO (zD f.type::zg::(zK zaU f.locals++(toks++zg::ts)))
   have q:=zc6 [f.type] [] ((zu (zD f.type::zg::(zK zaU f.locals++(toks++zg::ts)))).length+1) (zK zaU f.locals++(toks++zg::ts)) ls (fun t ht'=>by have:=hf.type;simp only[ycA]at ht';subst ht';omega) (by simp) (by simp at this ⊢;omega)
   simp only[yaL,ycG,ycp,ycE]at q
   rw[q]
   simp[Except.bind]
 rw[hres]
 simp only
 rw[zi4 (by decide) hf.locals _ _ (a3 _ ls)]
 simp only
 have hlen:=zdO (toks++zg::ts)
 rw[zqX h2 _ false [] zg ts (by simp at hlen;omega) (by decide) (by simp[zfj])]
 simp[Except.map]
inductive PrFs:List F→List Tok→List F→Prop
 | nil:PrFs [] [] []
 | cons {f fs toks ls' ts fs'}:PrF f toks ls'→PrFs fs ts fs'→PrFs (f::fs) (zgA f toks++ts) ({ f with lists:=ls' }::fs')
theorem zhN{mx:Nat}{fs fs':List F}{toks:List Tok}(h:PrFs fs toks fs'):∀(hf:∀f∈fs,Pf mx f) (k:Nat) (acc:List F) (ts:List Tok) (ls:To),fs.length<k→(∀l,zfP zbo ⟨zu ts,l⟩=none)→∃l',zaj mx k acc ⟨zu (toks++ts),ls⟩=.ok (acc++fs',⟨zu ts,l'⟩):=by
 induction h with
 | nil =>
  intro hf k acc ts ls hk hn
  obtain⟨k,rfl⟩:∃j,k=j+1:=⟨k-1,by simp at hk;omega⟩
  refine⟨ls,?_⟩
  rw[zaj,ycE,hn]
  simp
 | @cons f fs toks ls' t fs' hp _ ih =>
  intro hf k acc ts ls hk hn
  simp only[yac]at hk
  obtain⟨k,rfl⟩:∃j,k=j+1:=⟨k-1,by omega⟩
  obtain⟨l',hl'⟩:=ih (fun g hg=>hf g (by simp[hg])) k (acc++[{ f with lists:=ls' }]) ts ls' (by omega) hn
  refine⟨l',?_⟩
  rw[zaj]
  simp only[zgA,ycp,ycF,ycE]
  rw[zkq (by decide)]
  simp only
  rw[ziz (hf f (by simp)) hp]
  simp only[Except.bind]
  rw[hl']
  simp
theorem zcj:∀(l:List Tok) (ts:List Tok) (ls:To),(∀t∈l,zcM t=true)→zaC l ⟨zu (l++ts),ls⟩=.ok ⟨zu ts,ls⟩
 | [],ts,ls,_=>rfl
 | t::l,ts,ls,h=>by
  rw[zaC,ycp,zbi (h t (by simp))]
  simp only[Except.bind]
  rw[if_pos trivial]
  exact zcj l ts ls fun x hx=>h x (by simp[hx])
def zv0:List Tok:=[zA,zbw,zfO,zA,zbo]
def zbz(m:M)(toks:List Tok):List Tok:=zcn++(Lib.itoa m.memory::zg::zg::(toks++(zv0++(Lib.itoa (yb4 .i64 (m.main+3))::[zg,zg,zg]))))
theorem zhO(x:Int):(-(2^63)≤yb4 .i64 x∧yb4 .i64 x<2^63)∧∃k:Int,yb4 .i64 x=x+2^64*k:=by
 simp only[yb4,yao,yap,Bool.true_and]
 split
 ·rename_i k
  have k:=of_decide_eq_true k
  exact⟨by omega,-(x/2^64)-1,by omega⟩
 ·rename_i k
  have k:=of_decide_eq_false (eq_false_of_ne_true k)
  exact⟨by omega,-(x/2^64),by omega⟩
theorem zph{n d:Int}(h:-(2^63)≤n∧n<2^63):yb4 .i64 (yb4 .i64 (n+d)-d)=n:=by
 obtain⟨_,k,e⟩:=zhO (n+d)
 obtain⟨r,j,e2⟩:=zhO (yb4 .i64 (n+d)-d)
 rw[e]at e2 r ⊢
 omega
def zfo(ts:List Tok):List UInt8:=(zu ts).tail
theorem zlR{mx:Nat}{m:M}{toks:List Tok}{fs':List F}(h:PrFs m.funcs toks fs')(hf:∀f∈m.funcs,Pf mx f)(hm:-(2^63)≤m.memory∧m.memory<2^63)(hn:-(2^63)≤m.main∧m.main<2^63):zgf mx (zfo (zbz m toks))=.ok ⟨fs',m.memory,m.main⟩:=by
 have hcut:∀ts,zcn++ts≠[]→zb3 ⟨zfo (zcn++ts),[]⟩=zb3 ⟨zu (zcn++ts),[]⟩:=fun ts _=>by
  have e:zdo (zfo (zcn++ts))=zdo (zu (zcn++ts)):=rfl
  simp only[zb3,e]
 have hw:∀ts,zaC zcn ⟨zfo (zcn++ts),[]⟩=zaC zcn ⟨zu (zcn++ts),[]⟩:=fun ts=>by
  have e:=hcut ts (by simp[zcn])
  have e2:∀s s':Ts,zb3 s=zb3 s'→zaC zcn s=zaC zcn s':=fun s s' q=>by
   simp only[zcn,zaC,q]
  exact e2 _ _ e
 have w4:yb4 .i64 (yb4 .i64 (m.main+3)-3)=m.main:=zph hn
 unfold zgf zfQ zbz
 rw[hw,zcj zcn _ _ (by decide)]
 simp only[Except.bind]
 rw[zdN hm]
 simp only
 have e1:=zcj [zg,zg] (toks++(zv0++(Lib.itoa (yb4 .i64 (m.main+3))::[zg,zg,zg]))) [] (by decide)
 simp only[ycp,ycE]at e1
 rw[e1]
 simp only
 have hlen:=zdO (toks++(zv0++(Lib.itoa (yb4 .i64 (m.main+3))::[zg,zg,zg])))
 have hfl:∀{gs gs':List F} {us:List Tok},PrFs gs us gs'→gs.length≤us.length:=fun {gs gs' us} q=>by
  induction q with
  | nil=>simp
  | cons _ _ ih=>simp only[zgA,yac,yab,ycp];omega
 have:=hfl h
 obtain⟨l',e2⟩:=zhN h hf ((zu (toks++(zv0++(Lib.itoa (yb4 .i64 (m.main+3))::[zg,zg,zg])))).length+1) [] (zv0++(Lib.itoa (yb4 .i64 (m.main+3))::[zg,zg,zg])) [] (by simp only[yab]at hlen;omega)
  (fun l=>znd (by decide) (by decide) (.inr (by decide)) _ _)
 rw[e2]
 simp only[ycE]
 have e3:=zcj zv0 (Lib.itoa (yb4 .i64 (m.main+3))::[zg,zg,zg]) l' (by decide)
 have ee:[zA,zbw,zfO,zA,zbo]=zv0:=rfl
 rw[ee,e3]
 simp only
 rw[zdN (zhO _).1]
 simp only
 have e4:=zcj [zg,zg,zg] [] l' (by decide)
 rw[yb7]at e4
 rw[e4]
 simp only[zu,w4]
 rfl
theorem zuA(t:Tok):zcr t=0∨zcr t=11∨zcr t=12∨zcr t=13:=by
 unfold zcr
 split
 ·simp
 ·split
  ·simp
  ·split<;>simp
theorem bind_some{α β:Type}{r:Res α}{f:α→Res β}{y:β}(h:r.bind f=.ok y):∃x,r=.ok x∧f x=.ok y:=by
 cases r with
 | error e=>cases h
 | ok x=>exact⟨x,rfl,h⟩
theorem map_some{α β:Type}{r:Res α}{f:α→β}{y:β}(h:r.map f=.ok y):∃x,r=.ok x∧f x=y:=by
 cases r with
 | error e=>cases h
 | ok x=>simp only[Except.map,Except.ok.injEq]at h;exact⟨x,rfl,h⟩
theorem zbA{α:Type}{a:List α}{x:α}{fin:List α}(h:a++[x]<+:fin):fin[a.length]?=some x:=by
 obtain⟨z,rfl⟩:=h
 rw[ycF,List.getElem?_append_right (yah _)]
 simp
theorem zbj{ls:To}{d:Nat}{ws:List W}{acc acc':To}{toks:List Tok}{out:List W}(h:Pr ls d ws acc toks out acc'):acc<+:acc':=by
 induction h with
 | nil=>exact List.prefix_refl _
 | leaf _ _ _ _ ih=>exact ih
 | one _ _ _ _ _ _ ih1 ih2=>exact ih1.trans ((ycH _ _).trans ih2)
 | two _ _ _ _ _ _ _ _ _ ih1 ih2 ih3=>exact ih1.trans ((ycH _ _).trans (ih2.trans ((ycH _ _).trans ih3)))
end Go.Proofs.YtohfclafhegadaaGreatDoor
namespace Go.Proofs.YtohfclafhegadaaGreatDoor
open Go Go.Abs
def zck(σ:AS)(x f:Nat):Prop:=∃cs v,σ.objs x=some cs∧cs[1]?=some v∧zcA v=some f
structure z8(x:Nat)(σ σ':AS):Prop where
 no:σ.no≤σ'.no
 nf:σ.nf≤σ'.nf
 obj:∀o,o<σ.no→o≠x→σ'.objs o=σ.objs o
 fam:∀f,f<σ.nf→¬zck σ x f→σ'.F f=σ.F f
 use:∀f,f<σ.nf→zck σ' x f→zck σ x f
theorem z8.refl(x σ):z8 x σ σ:=⟨yah _,yah _,fun _ _ _=>rfl,fun _ _ _=>rfl,fun _ _ h=>h⟩
theorem z8.trans{x σ σ1 σ2}(h:z8 x σ σ1)(h':z8 x σ1 σ2):z8 x σ σ2 where
 no:=yai h.no h'.no
 nf:=yai h.nf h'.nf
 obj o a b:=by rw[h'.obj o (yag a h.no) b,h.obj o a b]
 fam f a b:=by rw[h'.fam f (yag a h.nf) fun u=>b (h.use f a u),h.fam f a b]
 use f a u:=h.use f a (h'.use f (yag a h.nf) u)
theorem zh.keepR{x σ σ'}(h:zh σ σ')(hx:x<σ.no):z8 x σ σ' where
 no:=h.no
 nf:=h.nf
 obj o a _:=h.obj o a
 fam f a _:=h.fam f a
 use f _ u:=by unfold zck at *;rwa [h.obj x hx]at u
structure zag(x:Nat)(σ σ':AS):Prop where
 no:σ.no≤σ'.no
 nf:σ.nf≤σ'.nf
 obj:∀o,o<σ.no→o≠x→σ'.objs o=σ.objs o
 fam:∀f,f<σ.nf→σ'.F f=σ.F f
 lst:∀cs,σ.objs x=some cs→∃cs',σ'.objs x=some cs'∧cs'[1]?=cs[1]?
 some:(σ.objs x).isSome=true
theorem zag.refl{x σ cs}(h:σ.objs x=yaR cs):zag x σ σ:=⟨yah _,yah _,fun _ _ _=>rfl,fun _ _=>rfl,fun cs h=>⟨cs,h,rfl⟩,by rw[h];rfl⟩
theorem zag.trans{x σ σ1 σ2}(h:zag x σ σ1)(h':zag x σ1 σ2):zag x σ σ2 where
 no:=yai h.no h'.no
 nf:=yai h.nf h'.nf
 obj o a b:=by rw[h'.obj o (yag a h.no) b,h.obj o a b]
 fam f a:=by rw[h'.fam f (yag a h.nf),h.fam f a]
 lst cs e:=by
  obtain⟨c1,e1,e2⟩:=h.lst cs e
  obtain⟨c2,e3,e4⟩:=h'.lst c1 e1
  exact⟨c2,e3,e4.trans e2⟩
 some:=h.some
theorem zag.r{x σ σ'}(h:zag x σ σ'):z8 x σ σ' where
 no:=h.no
 nf:=h.nf
 obj:=h.obj
 fam f a _:=h.fam f a
 use f a u:=by
  obtain⟨cs,v,h1,h2,h3⟩:=u
  obtain⟨c0,hc0⟩:=yay.1 h.some
  obtain⟨c1,e1,e2⟩:=h.lst c0 hc0
  rw[h1]at e1
  cases e1
  exact⟨c0,v,hc0,by rw[←e2];exact h2,h3⟩
theorem zh.keepS{x σ σ' cs}(h:zh σ σ')(hx:x<σ.no)(ho:σ.objs x=yaR cs):zag x σ σ' where
 no:=h.no
 nf:=h.nf
 obj o a _:=h.obj o a
 fam f a:=h.fam f a
 lst cs e:=⟨cs,(h.obj x hx).trans e,rfl⟩
 some:=by rw[ho];rfl
theorem zag.set{x σ cs cs'}(ho:σ.objs x=yaR cs)(h:cs'[1]?=cs[1]?):zag x σ (σ.setO x cs') where
 no:=yah _
 nf:=yah _
 obj o _ ho:=by simp[ho]
 fam f _:=rfl
 lst c e:=⟨cs',by simp,by rw[h];rw[ho]at e;cases e;rfl⟩
 some:=by rw[ho];rfl
theorem zag.endF{x σ τ}(K:zag x σ τ){g:Nat}(hg:σ.nf≤g):zag x σ (τ.setF g .dead) where
 no:=K.no
 nf:=K.nf
 obj:=K.obj
 fam f a:=by
  have:¬f=g:=by omega
  simp[this]
  exact K.fam f a
 lst:=K.lst
 some:=K.some
theorem zag.newF{x σ τ}(K:zag x σ τ):zag x σ τ.newF where
 no:=K.no
 nf:=ycI K.nf
 obj:=K.obj
 fam f a:=by
  have:=K.nf
  have:¬f=τ.nf:=by omega
  simp[this]
  exact K.fam f a
 lst:=K.lst
 some:=K.some
theorem zag.mrg{x σ τ}(K:zag x σ τ){g:Nat}(hg:σ.nf≤g):zag x σ (τ.mrg g fun _=>false) where
 no:=K.no
 nf:=K.nf
 obj o a b:=by simpa [AS.mrg]using K.obj o a b
 fam f a:=by
  have:¬f=g:=by omega
  simp[AS.mrg,zlt,this]
  exact K.fam f a
 lst cs e:=by
  obtain⟨c1,e1,e2⟩:=K.lst cs e
  exact⟨c1,by simpa [AS.mrg]using e1,e2⟩
 some:=K.some
def zKZ:Go.Abs.Own→Option Nat
 | .stat _=>none
 | .fam f _=>some f
def BV(β:Option Nat)(v:AV)(bs:List UInt8):Prop:=(bs=[]∧v=.nilsl)∨∃φ,zKZ φ=β∧v=.sl φ 1 (B bs)
def ToR(base:Nat)(σ:AS)(v:AV)(tO:To):Prop:=(tO=[]∧v=.nilsl)∨∃g tos,v=.sl (.fam g false) 1 tos∧base≤g∧g<σ.nf∧σ.F g=.alive∧All2 Al.RepE tos tO
theorem ToR.one{base σ v bs}(h:ToR base σ v bs):v.known=true∧v.one=true∧v.cells=[v]:=by rcases h with ⟨_,rfl⟩|⟨b,_,rfl,_⟩<;>simp
structure Rdr(base:Nat)(β:Option Nat)(x:Nat)(s:Rs)(σ:AS):Prop where
 hx:x<σ.no
 hb:0<base∧base≤σ.nf
 h0:σ.F 0=.alive
 hβ:∀f,β=some f→f<base∧σ.F f=.alive
 cells:∃bv lv,σ.objs x=some [bv,lv,.int .i64 (s.n:Int)]∧BV β bv s.b∧ToR base σ lv s.ls
section
variable {G : Env} {σ : AS} {R : Out → AS → Prop}
end
def ziA(σ0:AS)(x sz:Nat)(τ:AS)(v:AV)(xs:List AV):Prop:=(xs=[]∧v=.nilsl)∨∃g,v=.sl (.fam g false) sz xs∧σ0.nf≤g∧g<τ.nf∧τ.F g=.alive∧¬zck τ x g
theorem ziA.one{σ0 x sz τ v xs}(h:ziA σ0 x sz τ v xs):v.known=true∧v.one=true∧v.cells=[v]:=by rcases h with ⟨_,rfl⟩|⟨b,rfl,_⟩<;>simp
theorem ziA.keep{σ0 x sz τ τ' v xs}(h:ziA σ0 x sz τ v xs)(K:z8 x τ τ'):ziA σ0 x sz τ' v xs:=by
 rcases h with h|⟨g,h1,h2,h3,h4,h5⟩
 ·exact .inl h
 ·exact .inr ⟨g,h1,h2,yag h3 K.nf,(K.fam g h3 h5).trans h4,fun u=>h5 (K.use g h3 u)⟩
theorem z8.endF{x σ τ}(K:z8 x σ τ){g:Nat}(hg:σ.nf≤g):z8 x σ (τ.setF g .dead) where
 no:=K.no
 nf:=K.nf
 obj:=K.obj
 fam f a b:=by
  have:¬f=g:=by omega
  simp[this]
  exact K.fam f a b
 use f a u:=K.use f a u
theorem z8.newF{x σ τ}(K:z8 x σ τ):z8 x σ τ.newF where
 no:=K.no
 nf:=ycI K.nf
 obj:=K.obj
 fam f a b:=by
  have:=K.nf
  have:¬f=τ.nf:=by omega
  simp[this]
  exact K.fam f a b
 use f a u:=K.use f a u
section
variable {G : Env} {σ : AS} {R : Out → AS → Prop}
end
theorem z8.setO{x σ τ o cs}(K:z8 x σ τ)(ho:σ.no≤o)(hox:o≠x):z8 x σ (τ.setO o cs) where
 no:=K.no
 nf:=K.nf
 obj p a b:=by
  have:¬p=o:=by omega
  simp[this]
  exact K.obj p a b
 fam f a b:=K.fam f a b
 use f a u:=K.use f a (by
  obtain⟨cs',v,h1,h2,h3⟩:=u
  have:¬x=o:=fun e=>hox e.symm
  simp[this]at h1
  exact⟨cs',v,h1,h2,h3⟩)
section
variable {G : Env} {σ : AS} {R : Out → AS → Prop}
end
section
variable {G : Env} {σ : AS} {R : Out → AS → Prop}
theorem flat_one:∀(l:List AV),(∀x∈l,x.cells=[x])→zy l=l
 | [],_=>rfl
 | x::l,h=>by
  have:=flat_one l fun y hy=>h y (by simp[hy])
  simp only[zy,yaa]at *
  rw[this,h x (by simp)]
  rfl
end
structure zfV(x fo:Nat)(σ σ':AS):Prop where
 no:σ.no≤σ'.no
 nf:σ.nf≤σ'.nf
 obj:∀o,o<σ.no→o≠x→o≠fo→σ'.objs o=σ.objs o
 fam:∀f,f<σ.nf→σ'.F f=σ.F f
theorem zfV.trans{x fo σ σ1 σ2}(h:zfV x fo σ σ1)(h':zfV x fo σ1 σ2):zfV x fo σ σ2 where
 no:=yai h.no h'.no
 nf:=yai h.nf h'.nf
 obj o a b c:=by rw[h'.obj o (yag a h.no) b c,h.obj o a b c]
 fam f a:=by rw[h'.fam f (yag a h.nf),h.fam f a]
theorem zag.f{x fo σ σ'}(h:zag x σ σ'):zfV x fo σ σ':=⟨h.no,h.nf,fun o a b _=>h.obj o a b,h.fam⟩
theorem zfV.setO{x fo σ σ' o cs}(h:zfV x fo σ σ')(ho:o=x∨o=fo∨σ.no≤o):zfV x fo σ (σ'.setO o cs) where
 no:=h.no
 nf:=h.nf
 obj p a b c:=by
  have:¬p=o:=by rcases ho with h|h|h<;>omega
  simp[this]
  exact h.obj p a b c
 fam:=h.fam
theorem zfV.adds0{x fo σ0 σ σ'}(K:zfV x fo σ σ')(A:zh σ0 σ)(hx:σ0.no≤x)(hf:σ0.no≤fo):zh σ0 σ':=⟨yai A.no K.no,yai A.nf K.nf,fun o ho=>by
 have:=A.no
 rw[K.obj o (by omega) (by omega) (by omega),A.obj o ho],fun f hf=>by
 have:=A.nf
 rw[K.fam f (by omega),A.fam f hf]⟩
section
variable {G : Env} {σ : AS} {R : Out → AS → Prop}
end
def HV(v:AV)(f:F):Prop:=∃pv,v=.agg [.str [],pv,.nilsl,.int .i64 f.type,.nilsl]∧Al.IntsE pv f.params∧f.name=[]∧f.locals=[]∧f.lists=[]
section
variable {G : Env} {σ : AS} {R : Out → AS → Prop}
end
structure Md(σ0:AS)(base:Nat)(β:Option Nat)(x mo:Nat)(mc:List AV)(s:Rs)(τ:AS):Prop where
 rd:Rdr base β x s τ
 ad:zh σ0 τ
 ob:τ.objs mo=some mc
 lt:mo<τ.no
 mx:mo≠x
 x0:σ0.no≤x
 m0:σ0.no≤mo
 b0:σ0.nf≤base
 len:s.b.length≤2^37
theorem zag.adds0{x σ0 σ σ'}(K:zag x σ σ')(A:zh σ0 σ)(hx:σ0.no≤x):zh σ0 σ':=⟨yai A.no K.no,yai A.nf K.nf,fun o ho=>by
 have:=A.no
 rw[K.obj o (by omega) (by omega),A.obj o ho],fun f hf=>by
 have:=A.nf
 rw[K.fam f (by omega),A.fam f hf]⟩
structure Fn(x mo fo:Nat)(C:List AV)(τ:AS):Prop where
 ob:τ.objs fo=some C
 lt:fo<τ.no
 fx:fo≠x
 fm:fo≠mo
section
variable {G : Env} {σ : AS} {R : Out → AS → Prop}
end
theorem zqY{v p}(h:Al.FVE v p):v.cells.length=5:=by
 obtain⟨pv,lv,tv,rfl,_⟩:=h
 rfl
section
variable {G : Env} {σ : AS} {R : Out → AS → Prop}
structure FnL(σ0:AS)(x mo fo:Nat)(h0:List F)(dps:List (F × Nat))(drows hrows:List AV)(τ:AS):Prop where
 fn:Fn x mo fo (zy (drows++hrows)) τ
 f0:σ0.no≤fo
 dl:dps.length≤h0.length
 dr:All2 Al.FVE drows dps
 hr:All2 HV hrows (h0.drop dps.length)
 nd:(dps.map Prod.snd).Nodup
 each:∀p∈dps,σ0.nf≤p.2∧p.2<τ.nf∧τ.F p.2=.alive
 nm:∀p∈dps,p.1.name=[]
end
structure FnN(σ0:AS)(x mo fo:Nat)(dps rps:List (F × Nat))(drows rrows:List AV)(τ:AS):Prop where
 fn:Fn x mo fo (zy (drows++rrows)) τ
 f0:σ0.no≤fo
 dr:All2 Al.FVE drows dps
 rr:All2 Al.FVE rrows rps
 nd:((dps++rps).map Prod.snd).Nodup
 each:∀p∈dps++rps,σ0.nf≤p.2∧p.2<τ.nf∧τ.F p.2=.alive
section
variable {G : Env} {σ : AS} {R : Out → AS → Prop}
end
end Go.Proofs.YtohfclafhegadaaGreatDoor
