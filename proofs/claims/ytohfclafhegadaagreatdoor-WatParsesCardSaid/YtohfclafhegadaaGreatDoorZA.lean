/- Parts of the proof of the row WatParses: contracts of functions, each under the conditions that its theorem names. -/
import Derived.Test.YtohfclafhegadaaGreatDoorAbsB
import Derived.Lib.IndexMore
import Derived.Lib.AtoiAll
import Derived.Lib.ItoaNum
import Derived.Test.YtohfclafhegadaaGreatDoorGenP
import Derived.Test.YtohfclafhegadaaGreatDoorShelf
import Derived.Lib.AppendIntMem
import Derived.Deep.LoopGhost
import Derived.Laws.Runes
import Derived.Laws.RangeString
import Derived.RegionTactic
import Derived.ChangeAlike
import Derived.Deep.RegionWith
set_option linter.unusedSimpArgs false
set_option linter.unusedVariables false
set_option maxRecDepth 100000
open List renaming all_cons→yb6,dropWhile_sublist→yb7,length_cons→yac,length_nil→ybl,length→yb8,takeWhile_append_dropWhile→yb9,length_append→yab,getElem?_eq_some_iff→yaq,take_succ_eq_append_getElem→yca,take_length→ycb,getElem?_eq_getElem→yau,mem_map_of_mem→yaW,mem_of_getElem?→ycd,getElem_mem→yaw,getElem_map→yak,length_map→ybb,mem_cons→ybC,not_mem_nil→ycf,mem_flatMap→ycg,mem_map→yaV,mem_singleton→ych,replicate→yaj,drop_eq_nil_of_le→yci,length_take→ybf,length_replicate→yba,map_cons→yaL,mem_of_find?_eq_some→ycj,append_assoc→yck,getElem?_append_right→yaI,prefix_refl→ycl,prefix_append→ycm,nil_append→ycn,cons_append→yco,mem_append→ybh,length_drop→ycq,getElem?_take_of_lt→ycr,mem_replicate→ycs,take→yct,take_of_length_le→ycu,dropWhile_cons→ycv,eq_nil_or_concat→ybK,concat_eq_append→ycw,all_eq_true→yaM,head?_dropWhile_not→ycx,findIdx?_eq_none_iff→ycy,findIdx?_cons→ycz,getElem_of_mem→ya9,take_append_drop→ycE,findIdx?_eq_some_iff_getElem→ycF,suffix_cons→ycG,append_nil→ycH,length_pos_iff→ybm,find?_eq_none→ycJ,find?_some→ycK
open Nat renaming le_refl→yah,strongRecOn→ybH,le_trans→yai,lt_of_lt_of_le→yag,le_succ_of_le→ycp,lt_of_le_of_lt→ycI
open Option renaming some→yaR,map_eq_some_iff→ybB
open Array renaming getElem?_eq_some_iff→yaU
open Int renaming toNat_natCast→ybe
open Go.Proofs.Tryz renaming prog→yb5,func236→ycA,ntmps236→ycB,func205→ycC,ntmps205→ycD
open Go.IntKind renaming wrap→yb3,i64→yam,signed→yao,bits→yap
open Go.Abs.AV renaming int→ycc,str→yce
namespace Go.Proofs.YtohfclafhegadaaGreatDoor
open Go Go.Abs
structure W where
 op:Int
 ty:Int
 n:Int
 body:Int
 other:Int
 name:List UInt8
deriving DecidableEq
abbrev To:=List (List W)
structure F where
 name:List UInt8
 params:List Int
 locals:List Int
 type:Int
 lists:To
structure M where
 funcs:List F
 memory:Int
 main:Int
structure St where
 stack:List Int
 any:Bool
abbrev Res:=Except Int
def zA7(s:St)(t:Int):St:=if t=0 then s else { s with stack:=s.stack++[t] }
def zfA(t:Int):Bool:=decide (t=1)||decide (t=2)
def signs:List (List UInt8 × List UInt8):=[
 ([97,100,100],[43]),([115,117,98],[45]),([109,117,108],[42]),([100,105,118,95,115],[47]),([114,101,109,95,115],[37]),([97,110,100],[38]),([111,114],[124]),([120,111,114],[94]),
 ([115,104,108],[60,60]),([115,104,114,95,115],[62,62]),([101,113],[61,61]),([110,101],[33,61]),([108,116,95,115],[60]),([108,101,95,115],[60,61]),([103,116,95,115],[62]),([103,101,95,115],[62,61])]
def zc0:List (List UInt8 × List UInt8)→List UInt8→List UInt8
 | [],_=>[]
 | (x,y)::r,s=>if x=s then y else zc0 r s
def zmK(t n:Int):Bool:=decide (t=1)&&(decide (n=1)||decide (n=4))||decide (t=2)&&decide (n=8)
def ziK(w:W):Bool :=
 if w.op=1∨w.op=5 then zfA w.ty
 else if w.op=4 then zfA w.ty&&!(zc0 signs w.name==[])
 else if w.op=8∨w.op=9 then zmK w.ty w.n
 else decide (1≤w.op)&&decide (w.op≤18)
def zCK(r:Res St)(t:Int):Res St:=match r with
 | .ok s=>.ok (zA7 s t)
 | .error e=>.error e
def zH(c:UInt8):Bool:=decide (48≤c.toNat)&&decide (c.toNat≤57)
def zcU(acc:Nat)(d:List UInt8):Nat:=d.foldl (fun a c=>a*10+(c.toNat-48)) acc
def zX(t:List UInt8):List UInt8:=if t.head?=some 45 then t.tail else t
def zdl(t:List UInt8):Int:=if t.head?=some 45 then -(zcU 0 (zX t):Int)else zcU 0 (zX t)
def zgh(t:List UInt8):Res Int :=
 if(zX t).isEmpty||!(zX t).all zH then .error 2
 else match Lib.atoiAll t with
  | .ok n=>if Lib.itoa n=t then .ok n else .error 11
  | _=>.error 11
theorem zfB(acc:Nat)(x y:List UInt8):zcU acc (x++y)=zcU (zcU acc x) y:=by simp[zcU]
theorem ziL:∀(d:List UInt8) (acc:Nat),acc≤zcU acc d
 | [],acc=>yah _
 | c::d,acc=>by
  have:=ziL d (acc*10+(c.toNat-48))
  show acc≤zcU (acc*10+(c.toNat-48)) d
  omega
theorem zkD:∀(d:List UInt8) (acc:Nat),d.all zH=true→acc<18446744073709551616→Lib.parseUint10 acc d=if zcU acc d<18446744073709551616 then .ok (zcU acc d)else .range
 | [],acc,_,ha=>by simp[Lib.parseUint10,zcU,ha]
 | c::d,acc,h,ha=>by
  simp only[yb6,Bool.and_eq_true,zH,decide_eq_true_eq]at h
  obtain⟨⟨h1,h2⟩,h3⟩:=h
  have e:zcU acc (c::d)=zcU (acc*10+(c.toNat-48)) d:=rfl
  have m:=ziL d (acc*10+(c.toNat-48))
  rw[Lib.parseUint10,if_pos ⟨h1,h2⟩,e]
  by_cases o1:1844674407370955162≤acc
  ·rw[if_pos o1,if_neg (by omega)]
  ·rw[if_neg o1]
   by_cases o2:18446744073709551616≤acc*10+(c.toNat-48)
   ·rw[if_pos o2,if_neg (by omega)]
   ·rw[if_neg o2]
    exact zkD d _ (by simpa [zH]using h3) (by omega)
theorem zjO(u:Nat):zcU 0 (Lib.decDigits u)=u:=by
 induction u using ybH with
 | _ u ih =>
  rw[Lib.decDigits]
  split
  ·rename_i h
   simp[zcU]
   omega
  ·rename_i h
   rw[zfB,ih (u/10) (by omega)]
   simp[zcU]
   omega
theorem zlq(u:Nat):(Lib.decDigits u).all zH=true:=by
 induction u using ybH with
 | _ u ih =>
  rw[Lib.decDigits]
  split
  ·simp[zH];omega
  ·rw[List.all_append,ih (u/10) (by omega)]
   simp[zH];omega
theorem zmL(u:Nat):Lib.decDigits u≠[]:=by
 rw[Lib.decDigits]
 split<;>simp
theorem zfC(u:Nat):(Lib.decDigits u).head?≠some 45:=by
 intro h
 have h1:=zlq u
 cases hd:Lib.decDigits u with
 | nil=>exact zmL u hd
 | cons c r =>
  rw[hd]at h h1
  simp only[List.head?_cons,yaR.injEq]at h
  subst h
  simp[zH]at h1
theorem zmM(n:Int):zX (Lib.itoa n)=Lib.decDigits n.natAbs:=by
 unfold Lib.itoa zX
 split
 ·simp
 ·rename_i h
  rw[if_neg (zfC _)]
  congr 1;omega
theorem zpl(n:Int):zdl (Lib.itoa n)=n:=by
 have h1:=zmM n
 unfold zdl
 rw[h1,zjO]
 unfold Lib.itoa
 split
 ·simp;omega
 ·rw[if_neg (zfC _)];omega
theorem zhH{t:List UInt8}(h1:zX t≠[])(h2:(zX t).all zH=true):Lib.atoiAll t=if -(2^63)≤zdl t∧zdl t<2^63 then .ok (zdl t)else .range:=by
 cases t with
 | nil=>exact absurd rfl h1
 | cons c r =>
  have hp:∀d:List UInt8,d≠[]→d.all zH=true→Lib.parseMag d=if zcU 0 d<18446744073709551616 then .ok (zcU 0 d)else .range:=fun d hd ha=>by
   rw[Lib.parseMag,if_neg hd,zkD d 0 ha (by omega)]
  unfold Lib.atoiAll
  simp only
  by_cases hc:c=45
  ·subst hc
   have hb:zX (45::r)=r:=rfl
   rw[hb]at h1 h2
   have hv:zdl (45::r)=-(zcU 0 r:Int):=rfl
   rw[hv,if_pos (show((45:UInt8).toNat=43∨(45:UInt8).toNat=45) from .inr rfl),hp r h1 h2]
   have e:((45:UInt8).toNat=45)=True:=eq_true rfl
   simp only[e,not_true,false_and,true_and,if_false,if_true]
   by_cases o:zcU 0 r<18446744073709551616
   ·rw[if_pos o]
    simp only
    by_cases o2:9223372036854775808<zcU 0 r
    ·rw[if_pos o2,if_neg (by omega)]
    ·rw[if_neg o2,if_pos (by omega)]
   ·rw[if_neg o,if_neg (by omega)]
  ·have hb:zX (c::r)=c::r:=by unfold zX;rw[if_neg (by simpa using hc)]
   rw[hb]at h1 h2
   have hv:zdl (c::r)=(zcU 0 (c::r):Int):=by unfold zdl;rw[if_neg (by simpa using hc),hb]
   have hn45:¬c.toNat=45:=fun e=>hc (UInt8.toNat_inj.1 e)
   have hn43:¬c.toNat=43:=fun e=>by
    simp only[yb6,Bool.and_eq_true,zH,decide_eq_true_eq]at h2
    omega
   rw[hv,if_neg (by omega),hp _ h1 h2]
   simp only[hn45,not_false_eq_true,true_and,false_and,if_false]
   by_cases o:zcU 0 (c::r)<18446744073709551616
   ·rw[if_pos o]
    simp only
    by_cases o2:9223372036854775808≤zcU 0 (c::r)
    ·rw[if_pos o2,if_neg (by omega)]
    ·rw[if_neg o2,if_pos (by omega)]
   ·rw[if_neg o,if_neg (by omega)]
def zc1(c:UInt8):Bool:=[32,10].contains c
def zaW(c:UInt8):Bool:=[32,10,40,41,34].contains c
def zkE(c:UInt8):Bool:=[34,10].contains c
def zbv(r:List UInt8):Option (List UInt8 × List UInt8):=match r.dropWhile fun c=>!zkE c with
 | []=>none
 | x::z=>if x=34 then some (34::(r.takeWhile (fun c=>!zkE c)++[34]),z)else none
def zcV(s:List UInt8):Option (List UInt8 × List UInt8):=match s.dropWhile zc1 with
 | []=>none
 | c::r=>if c=40∨c=41 then some ([c],r)else if c=34 then zbv r else some (c::r.takeWhile (fun x=>!zaW x),r.dropWhile fun x=>!zaW x)
theorem zau{s t r:List UInt8}(h:zcV s=some (t,r)):t.length+r.length≤s.length∧t≠[]:=by
 have hd:=(yb7 zc1 (l:=s)).length_le
 unfold zcV at h
 split at h
 ·cases h
 ·rename_i c z e
  rw[e]at hd
  simp only[yac]at hd
  split at h
  ·cases h
   exact⟨by simp only[yac,ybl];omega,by simp⟩
  ·split at h
   ·unfold zbv at h
    split at h
    ·cases h
    ·rename_i x y e2
     split at h
     ·cases h
      have h3:=congrArg yb8 (yb9 (p:=fun c=>!zkE c) (l:=z))
      rw[e2]at h3
      simp only[yab,yac,ybl]at h3 ⊢
      exact⟨by omega,by simp⟩
     ·cases h
   ·cases h
    have h3:=congrArg yb8 (yb9 (p:=fun x=>!zaW x) (l:=z))
    simp only[yab,yac]at h3 ⊢
    exact⟨by omega,by simp⟩
def zaI:List UInt8:=[40,32,109,111,100,117,108,101,32,40,32,105,109,112,111,114,116,32,34,101,110,118,34,32,34,105,110,34,32,40,32,102,117,110,99,32,40,32,114,101,115,117,108,116,32,105,54,52,32,41,32,41,32,41,32,40,32,105,109,112,111,114,116,32,34,101,110,118,34,32,34,111,117,116,34,32,40,32,102,117,110,99,32,40,32,112,97,114,97,109,32,105,54,52,32,41,32,41,32,41,32,40,32,105,109,112,111,114,116,32,34,101,110,118,34,32,34,116,114,97,112,34,32,40,32,102,117,110,99,32,40,32,112,97,114,97,109,32,105,51,50,32,41,32,41,32,41,32,40,32,109,101,109,111,114,121,32,49,32,41,32,40,32,103,108,111,98,97,108,32,105,51,50,32,40,32,105,51,50,46,99,111,110,115,116]
def zaX:List (List UInt8):=[[40],[109,111,100,117,108,101],[40],[105,109,112,111,114,116],[34,101,110,118,34],[34,105,110,34],[40],[102,117,110,99],[40],[114,101,115,117,108,116],[105,54,52],[41],[41],[41],[40],[105,109,112,111,114,116],[34,101,110,118,34],[34,111,117,116,34],[40],[102,117,110,99],[40],[112,97,114,97,109],[105,54,52],[41],[41],[41],[40],[105,109,112,111,114,116],[34,101,110,118,34],[34,116,114,97,112,34],[40],[102,117,110,99],[40],[112,97,114,97,109],[105,51,50],[41],[41],[41],[40],[109,101,109,111,114,121],[49],[41],[40],[103,108,111,98,97,108],[105,51,50],[40],[105,51,50,46,99,111,110,115,116]]
def zL:List UInt8:=[40]
def zi:List UInt8:=[41]
def zbD:List UInt8:=[102,117,110,99]
def zbn:List UInt8:=[112,97,114,97,109]
def zdX:List UInt8:=[114,101,115,117,108,116]
def zbo:List UInt8:=[108,111,99,97,108]
def zbx:List UInt8:=[101,120,112,111,114,116]
def zgi:List UInt8:=[34,109,97,105,110,34]
def zst:List UInt8:=[105,51,50]
def zsu:List UInt8:=[105,54,52]
def zbE:List UInt8:=[98,108,111,99,107]
def zdY:List UInt8:=[108,111,111,112]
def tIf:List UInt8:=[105,102]
def za2:List UInt8:=[101,108,115,101]
def zb7:List UInt8:=[101,110,100]
def zal:List (List UInt8):=[[97,100,100],[115,117,98],[109,117,108],[100,105,118,95,115],[114,101,109,95,115],[97,110,100],[111,114],[120,111,114],[115,104,108],[115,104,114,95,115],[101,113],[110,101],[108,116,95,115],[108,101,95,115],[103,116,95,115],[103,101,95,115]]
def zdZ:List (List UInt8 × W):=[([105,51,50,46,119,114,97,112,95,105,54,52],{ op:=6,ty:=0,n:=0,body:=0,other:=0,name:=[] }),([105,54,52,46,101,120,116,101,110,100,95,105,51,50,95,115],{ op:=7,ty:=0,n:=0,body:=0,other:=0,name:=[] }),([105,51,50,46,108,111,97,100,56,95,115],{ op:=8,ty:=1,n:=1,body:=0,other:=0,name:=[] }),([105,51,50,46,108,111,97,100],{ op:=8,ty:=1,n:=4,body:=0,other:=0,name:=[] }),([105,54,52,46,108,111,97,100],{ op:=8,ty:=2,n:=8,body:=0,other:=0,name:=[] }),([105,51,50,46,115,116,111,114,101,56],{ op:=9,ty:=1,n:=1,body:=0,other:=0,name:=[] }),([105,51,50,46,115,116,111,114,101],{ op:=9,ty:=1,n:=4,body:=0,other:=0,name:=[] }),([105,54,52,46,115,116,111,114,101],{ op:=9,ty:=2,n:=8,body:=0,other:=0,name:=[] }),([114,101,116,117,114,110],{ op:=16,ty:=0,n:=0,body:=0,other:=0,name:=[] }),([117,110,114,101,97,99,104,97,98,108,101],{ op:=17,ty:=0,n:=0,body:=0,other:=0,name:=[] }),([100,114,111,112],{ op:=18,ty:=0,n:=0,body:=0,other:=0,name:=[] })]
def zw(t:Int):List UInt8:=if t=1 then zst else zsu
def zbe(t:Int):List (List UInt8 × W):=(zal.map fun s=>(zw t++46::s,{ op:=4,ty:=t,n:=0,body:=0,other:=0,name:=s }))++[(zw t++[46,101,113,122],{ op:=5,ty:=t,n:=0,body:=0,other:=0,name:=[] })]
def zaJ:List (List UInt8 × W):=zdZ++(zbe 1++zbe 2)
def zax:List (List UInt8 × W):=[([105,51,50,46,99,111,110,115,116],{ op:=1,ty:=1,n:=0,body:=0,other:=0,name:=[] }),([105,54,52,46,99,111,110,115,116],{ op:=1,ty:=2,n:=0,body:=0,other:=0,name:=[] }),([108,111,99,97,108,46,103,101,116],{ op:=2,ty:=0,n:=0,body:=0,other:=0,name:=[] }),([108,111,99,97,108,46,115,101,116],{ op:=3,ty:=0,n:=0,body:=0,other:=0,name:=[] }),([99,97,108,108],{ op:=10,ty:=0,n:=0,body:=0,other:=0,name:=[] }),([98,114],{ op:=14,ty:=0,n:=0,body:=0,other:=0,name:=[] }),([98,114,95,105,102],{ op:=15,ty:=0,n:=0,body:=0,other:=0,name:=[] })]
def zt(l:List (List UInt8 × W))(t:List UInt8):Option W:=(l.find? fun p=>p.1==t).map (·.2)
structure Ts where
 b:List UInt8
 ls:To
def zY(s:Ts):Res (List UInt8 × Ts):=match zcV s.b with
 | none=>.error 2
 | some p=>.ok (p.1,{ s with b:=p.2 })
def zu:List (List UInt8)→Ts→Res Ts
 | [],s=>.ok s
 | t::ts,s=>(zY s).bind fun p=>if p.1=t then zu ts p.2 else .error 2
def zh7(w:List UInt8)(s:Ts):Option Ts:=match zcV s.b with
 | none=>none
 | some p=>if p.1=zL then(match zcV p.2 with
  | none=>none
  | some q=>if q.1=w then some { s with b:=q.2 }else none)else none
def zB(s:Ts):Res (Int × Ts):=(zY s).bind fun p=>(zgh p.1).map fun n=>(n,p.2)
def zam:Nat→List Int→Ts→Res (List Int × Ts)
 | 0,_,_=>.error (-1)
 | k+1,l,s=>(zY s).bind fun p =>
  if p.1=zst then zam k (l++[1]) p.2 else if p.1=zsu then zam k (l++[2]) p.2 else if p.1=zi∧l≠[]then .ok (l,p.2)else .error 2
def zaP(t:List UInt8)(s:Ts):Res (W × Ts):=match zt zax t with
 | some w=>(zB s).map fun p=>({ w with n:=p.1 },p.2)
 | none=>match zt zaJ t with
  | some w=>.ok (w,s)
  | none=>.error 2
def zM(t:List UInt8):Int:=if t=zbE then 11 else if t=zdY then 12 else if t=tIf then 13 else 0
abbrev ztX:=Nat→Bool→Ts→Res ((Int × List UInt8) × Ts)
def zR(rec:ztX)(op:Int)(d:Nat)(s:Ts):Res (W × Ts) :=
 if 400<d then .error 3
 else(rec d (decide (op=13)) s).bind fun p =>
  if op=13 then(if p.1.2=za2 then(rec d false p.2).map fun q=>({ op:=13,ty:=0,n:=0,body:=p.1.1,other:=q.1.1,name:=[] },q.2)
   else .ok ({ op:=13,ty:=0,n:=0,body:=p.1.1,other:=-1,name:=[] },p.2))
  else .ok ({ op:=op,ty:=0,n:=0,body:=p.1.1,other:=0,name:=[] },p.2)
def zan(rec:ztX)(t:List UInt8)(d:Nat)(s:Ts):Res (W × Ts):=if zM t=0 then zaP t s else zR rec (zM t) (d+1) s
def zeD(d:Nat)(other:Bool)(t:List UInt8):Bool:=(decide (t=zb7)&&decide (0<d))||((decide (t=zi)&&decide (d=0))||(decide (t=za2)&&other))
def zp:Nat→Nat→Bool→List W→Ts→Res ((Int × List UInt8) × Ts)
 | 0,_,_,_,_=>.error (-1)
 | k+1,d,o,l,s=>(zY s).bind fun p =>
  if zeD d o p.1=true then .ok (((p.2.ls.length:Int),p.1),{ p.2 with ls:=p.2.ls++[l] })
  else(zan (fun d o s=>zp k d o [] s) p.1 d p.2).bind fun q=>zp k d o (l++[q.1]) q.2
def zac(c:UInt8):Bool:=(decide (97≤c.toNat)&&decide (c.toNat≤122))||c==95
def zdL(m:Nat)(t:List UInt8):Bool:=match t with
 | []=>false
 | c::r=>decide (t.length≤m)&&(zac c&&r.all fun x=>zac x||zH x)
def zaQ(w:List UInt8)(s:Ts):Res (List Int × Ts):=match zh7 w s with
 | some s'=>zam (s'.b.length+1) [] s'
 | none=>.ok ([],s)
def zhI(s:Ts):Res (Int × Ts):=match zh7 zdX s with
 | some s'=>(zam (s'.b.length+1) [] s').bind fun r=>if r.1.length=1 then .ok (r.1.headD 0,r.2)else .error 2
 | none=>.ok (0,s)
def zC(mx:Nat)(s:Ts):Res (F × Ts):=(zY s).bind fun p =>
 if p.1.head?=some 36∧zdL mx p.1.tail=true then(zaQ zbn p.2).bind fun q=>(zhI q.2).bind fun r=>(zaQ zbo r.2).bind fun u=>(zp (u.2.b.length+1) 0 false [] { u.2 with ls:=[] }).map fun(v:(Int × List UInt8) × Ts) =>
   ({ name:=p.1.tail,params:=q.1,locals:=u.1,type:=r.1,lists:=v.2.ls },v.2)
 else .error 2
def zA(mx:Nat):Nat→List F→Ts→Res (List F × Ts)
 | 0,_,_=>.error (-1)
 | k+1,l,s=>match zh7 zbD s with
  | none=>.ok (l,s)
  | some s'=>(zC mx s').bind fun p=>zA mx k (l++[p.1]) p.2
def zbp(mx:Nat)(s:Ts):Res (M × Ts):=(zu zaX s).bind fun s=>(zB s).bind fun mem=>(zu [zi,zi] mem.2).bind fun s=>(zA mx (s.b.length+1) [] s).bind fun fs =>
 (zu [zL,zbx,zgi,zL,zbD] fs.2).bind fun s=>(zB s).bind fun mn=>(zu [zi,zi,zi] mn.2).bind fun s =>
  if s.b.all zc1=true then .ok ({ funcs:=fs.1,memory:=mem.1,main:=yb3 .i64 (mn.1-3) },s)else .error 2
def zaK(mx:Nat)(b:List UInt8):Res M:=(zbp mx ⟨b,[]⟩).map (·.1)
end Go.Proofs.YtohfclafhegadaaGreatDoor



namespace Go.Proofs.YtohfclafhegadaaGreatDoor
open Go Go.Abs
def W.cs(w:W):List AV:=[.int .i64 w.op,.int .i64 w.ty,.int .i64 w.n,.int .i64 w.body,.int .i64 w.other,.str w.name]
def W.av(w:W):AV:=.agg w.cs
inductive All2{α β:Type}(R:α→β→Prop):List α→List β→Prop
 | nil:All2 R [] []
 | cons {x y xs ys} (h:R x y) (r:All2 R xs ys):All2 R (x::xs) (y::ys)
def zyU(v:AV)(l:List W):Prop:=(l=[]∧v=.nilsl)∨∃b,v=.sl (.stat b) 6 (l.map W.av)
def zA8(v:AV)(frm:To):Prop:=∃b rows,v=.sl (.stat b) 1 rows∧All2 zyU rows frm
def zgj:AV→Option Nat
 | .sl (.fam g _) _ _=>some g
 | _=>none
end Go.Proofs.YtohfclafhegadaaGreatDoor


namespace Go.Proofs.YtohfclafhegadaaGreatDoor
open Go Go.Abs
theorem All2.length{α β:Type}{R:α→β→Prop}{xs ys}(h:All2 R xs ys):xs.length=ys.length:=by
 induction h<;>simp_all
theorem All2.get{α β:Type}{R:α→β→Prop}{xs ys}(h:All2 R xs ys){i:Nat}{y}(hy:ys[i]?=some y):∃x,xs[i]?=some x∧R x y:=by
 induction h generalizing i with
 | nil=>simp at hy
 | cons h r ih =>
  cases i with
  | zero=>simp at hy;subst hy;exact⟨_,by simp,h⟩
  | succ i=>simp at hy;simpa using ih hy
theorem All2.append{α β:Type}{R:α→β→Prop}{xs ys xs' ys'}(h:All2 R xs ys)(h':All2 R xs' ys'):All2 R (xs++xs') (ys++ys'):=by
 induction h with
 | nil=>exact h'
 | cons h r ih=>exact .cons h ih
end Go.Proofs.YtohfclafhegadaaGreatDoor


namespace Go.Proofs.YtohfclafhegadaaGreatDoor
open Go Go.Abs
structure zf(σ σ':AS):Prop where
 no:σ.no≤σ'.no
 nf:σ.nf≤σ'.nf
 obj:∀o,o<σ.no→σ'.objs o=σ.objs o
 fam:∀f,f<σ.nf→σ'.F f=σ.F f
theorem zf.refl(σ):zf σ σ:=⟨yah _,yah _,fun _ _=>rfl,fun _ _=>rfl⟩
theorem zf.trans{σ σ1 σ2}(h:zf σ σ1)(h':zf σ1 σ2):zf σ σ2 where
 no:=yai h.no h'.no
 nf:=yai h.nf h'.nf
 obj o a:=by rw[h'.obj o (yag a h.no),h.obj o a]
 fam f a:=by rw[h'.fam f (yag a h.nf),h.fam f a]
theorem zf.newO{σ σ' cs}(h:zf σ σ'):zf σ (σ'.newO cs) where
 no:=yai h.no (by simp)
 nf:=h.nf
 obj o a:=by have:=h.no;simp;rw[if_neg (by omega)];exact h.obj o a
 fam:=h.fam
theorem zf.setO{σ σ' o cs}(h:zf σ σ')(ho:σ.no≤o):zf σ (σ'.setO o cs) where
 no:=h.no
 nf:=h.nf
 obj p a:=by simp;rw[if_neg (by omega)];exact h.obj p a
 fam:=h.fam
theorem zf.newF{σ σ'}(h:zf σ σ'):zf σ σ'.newF where
 no:=h.no
 nf:=yai h.nf (by simp)
 obj:=h.obj
 fam f a:=by have:=h.nf;simp;rw[if_neg (by omega)];exact h.fam f a
def zpm(v:AV)(l:List Int):Prop:=(l=[]∧v=.nilsl)∨∃b,v=.sl (.stat b) 1 (l.map (.int .i64))
def zmN(v:AV)(tO:To):Prop:=(tO=[]∧v=.nilsl)∨zA8 v tO
def FV(v:AV)(f:F):Prop:=∃pv lv tv,v=.agg [.str f.name,pv,lv,.int .i64 f.type,tv]∧zpm pv f.params∧zpm lv f.locals∧zmN tv f.lists
def FsV(v:AV)(fs:List F):Prop:=(fs=[]∧v=.nilsl)∨∃b rows,v=.sl (.stat b) 5 rows∧All2 FV rows fs
def MV(v:AV)(m:M):Prop:=∃fv,v=.agg [fv,.int .i64 m.memory,.int .i64 m.main]∧FsV fv m.funcs
end Go.Proofs.YtohfclafhegadaaGreatDoor

namespace Go.Proofs.YtohfclafhegadaaGreatDoor
open Go Go.Abs
theorem FsV.one{v l}(h:FsV v l):v.known=true∧v.one=true∧v.cells=[v]:=by
 rcases h with ⟨_,rfl⟩|⟨b,_,rfl,_⟩<;>simp
def MU(r n:Nat)(a:Nat→AV)(_:AS):Nat:=match a r with|.int _ i=>n-i.toNat|_=>0
theorem zmO{α:Type}{l:List α}{i:Nat}{x:α}(h:l[i]?=some x):l.take (i+1)=l.take i++[x]:=by
 obtain⟨hi,rfl⟩:=yaq.1 h
 exact yca hi
theorem zf.mk1{σ:AS}{c1 c2}:zf σ ((σ.newO c1).setO σ.no c2):=((zf.refl σ).newO).setO (yah _)
def SlW(σ:AS)(v:AV)(l:List W):Prop:=(l=[]∧v=.nilsl)∨∃φ,v=.sl φ 6 (l.map W.av)∧zl σ.F φ
theorem zCw(w u:W):aeq yb5 53 (.agg [.int .i64 w.op,.int .i64 w.ty,.int .i64 w.n,.int .i64 w.body,.int .i64 w.other,.str w.name]) (.agg [.int .i64 u.op,.int .i64 u.ty,.int .i64 u.n,.int .i64 u.body,.int .i64 u.other,.str u.name])=some (decide (w=u)):=by
 simp[aeq,zk9]
 have key:(w=u)↔(w.op=u.op∧w.ty=u.ty∧w.n=u.n∧w.body=u.body∧w.other=u.other∧w.name=u.name):=by
  constructor
  ·rintro rfl;simp
  ·rintro ⟨h1,h2,h3,h4,h5,h6⟩
   cases w;cases u;simp_all
 by_cases h1:w.op=u.op<;>by_cases h2:w.ty=u.ty<;>by_cases h3:w.n=u.n<;>by_cases h4:w.body=u.body<;>by_cases h5:w.other=u.other<;>by_cases h6:w.name=u.name<;>simp[key,h1,h2,h3,h4,h5,h6]
def SI(va vb:AV)(a b:List W)(σ:AS)(f:Nat→AV)(τ:AS):Prop:=∃i:Nat,i≤a.length∧f 0=va∧f 1=vb∧f 5=.int .i64 (i:Int)∧a.take i=b.take i∧τ=σ
def SM(a:List W)(f:Nat→AV)(_:AS):Nat:=match f 5 with
 | .int _ n=>a.length-n.toNat
 | _=>0
theorem zlr{G:Env}{va vb:AV}{a b:List W}{σ:AS}{R:Out→AS→Prop}(ha:SlW σ va a)(hb:SlW σ vb b)(hl:a.length≤2^30)(h:R (.ret (.bool (decide (a=b)))) σ):zzQ G 216 [va,vb] σ R:=by
 refine zpj rfl ?_
 by_cases hab:a.length=b.length
 ·have loop:∀f,f 0=va→f 1=vb→f 5=.int .i64 0→zjC yb5 G 27 zcL (zak 0 (zaO (avc yb5 G 27 zeP (zcJ yb5 [.tmp 4] R)) (zcJ yb5 [.tmp 4] R))) f σ:=by
   intro f f0 f1 f5
   refine zK (SI va vb a b σ) (SM a) ⟨0,Nat.zero_le _,f0,f1,by simpa using f5,by simp,rfl⟩ fun f τ ⟨i,hi,f0,f1,f5,ht,hτ⟩=>?_
   subst hτ
   have hmu:SM a f τ=a.length-i:=by simp[SM,f5]
   by_cases hlt:i<a.length
   ·have hltb:i<b.length:=by omega
    obtain⟨φ,rfl,hφ⟩:∃φ,va=.sl φ 6 (a.map W.av)∧zl τ.F φ:=by
     rcases ha with ⟨rfl,_⟩|ha
     ·simp at hlt
     ·exact ha
    obtain⟨ψ,rfl,hψ⟩:∃φ,vb=.sl φ 6 (b.map W.av)∧zl τ.F φ:=by
     rcases hb with ⟨rfl,_⟩|hb
     ·simp at hltb
     ·exact hb
    have hw2:yb3 .i64 ((i:Int)+1)=(i:Int)+1:=by rw[wrap_i64]<;>omega
    have ea:a.take (i+1)=a.take i++[a[i]]:=by simp
    have eb:b.take (i+1)=b.take i++[b[i]]:=by simp
    by_cases hw:a[i]=b[i]
    ·simp[zcL,f0,f1,f5,hlt,hltb,W.av,W.cs,hφ,hψ,zCw,hw,hw2]
     refine⟨⟨i+1,hlt,by simp[f0,W.av,W.cs],by simp[f1,W.av,W.cs],by simp,by rw[ea,eb,ht,hw],rfl⟩,?_⟩
     rw[hmu]
     have:((i:Int)+1).toNat=i+1:=by omega
     simp[SM,this];omega
    ·have hne:¬a=b:=fun e=>hw (by subst e;rfl)
     simp[hne]at h
     simp[zcL,f0,f1,f5,hlt,hltb,W.av,W.cs,hφ,hψ,zCw,hw,hw2,h]
   ·have he:i=a.length:=by omega
    subst he
    have e:a=b:=by rw[ycb,hab,ycb]at ht;exact ht
    have hla:a.length=b.length:=hab
    simp[e]at h
    rcases ha with ⟨rfl,rfl⟩|⟨φ,rfl,hφ⟩
    ·simp[zcL,zeP,f0,f1,f5,h]
    ·simp[zcL,zeP,f0,f1,f5,h]
  rcases ha with ⟨rfl,rfl⟩|⟨φ,rfl,hφ⟩<;>rcases hb with ⟨rfl,rfl⟩|⟨ψ,rfl,hψ⟩
  ·simp[ziJ]
   refine loop _ ?_ ?_ ?_<;>simp
  ·simp at hab
   simp[ziJ,←hab]
   refine loop _ ?_ ?_ ?_<;>simp
  ·simp at hab
   subst hab
   simp[ziJ]
   refine loop _ ?_ ?_ ?_<;>simp
  ·simp[ziJ,hab]
   refine loop _ ?_ ?_ ?_<;>simp
 ·have hne:¬a=b:=fun e=>hab (by rw[e])
  have hi:¬(a.length:Int)=b.length:=by omega
  simp[hne]at h
  rcases ha with ⟨rfl,rfl⟩|⟨φ,rfl,hφ⟩<;>rcases hb with ⟨rfl,rfl⟩|⟨ψ,rfl,hψ⟩
  ·simp at hab
  ·simp at hab
   have hi':¬(0:Int)=b.length:=by simpa using hi
   simp[ziJ,hi',h]
  ·simp at hab
   have hi':¬(a.length:Int)=0:=by simpa using hi
   simp[ziJ,hab,h]
  ·simp[ziJ,hi,h]
end Go.Proofs.YtohfclafhegadaaGreatDoor
namespace Go.Proofs.YtohfclafhegadaaGreatDoor.Al
open Go Go.Abs Go.Proofs.YtohfclafhegadaaGreatDoor
def RepE(v:AV)(l:List W):Prop:=(l=[]∧v=.nilsl)∨∃b,v=.sl (.fam 0 b) 6 (l.map W.av)
end Go.Proofs.YtohfclafhegadaaGreatDoor.Al
namespace Go.Proofs.YtohfclafhegadaaGreatDoor.Al
open Go Go.Abs Go.Proofs.YtohfclafhegadaaGreatDoor
theorem mrg_W(f:Nat)(w:W):mrg f w.av=w.av:=by simp[W.av,W.cs]
theorem zwA(f:Nat)(l:List W):(l.map W.av).map (mrg f)=l.map W.av:=by simp[Function.comp_def,mrg_W]
theorem RepE.mrg{v l}(h:RepE v l){f:Nat}:mrg f v=v:=by
 rcases h with ⟨_,rfl⟩|⟨b,rfl⟩
 ·simp
 ·rw[zgH,zwA];split<;>rfl
theorem mrg_rows{tos tO}(h:All2 RepE tos tO)(f:Nat):tos.map (mrg f)=tos:=by
 induction h with
 | nil=>rfl
 | cons h r ih=>simp[h.mrg,ih]
end Go.Proofs.YtohfclafhegadaaGreatDoor.Al

namespace Go.Proofs.YtohfclafhegadaaGreatDoor.Al
open Go Go.Abs Go.Proofs.YtohfclafhegadaaGreatDoor
def IntsE(v:AV)(l:List Int):Prop:=(l=[]∧(v=.nilsl∨∃b,v=.sl (.stat b) 1 []))∨∃b,v=.sl (.fam 0 b) 1 (l.map (.int .i64))
theorem IntsE.one{v l}(h:IntsE v l):v.known=true∧v.one=true∧v.cells=[v]:=by
 rcases h with ⟨_,rfl|⟨b,rfl⟩⟩|⟨b,rfl⟩<;>simp
def MrgOr(R:Out→AS→Prop)(o:Out)(σ':AS):Prop:=R o σ'∨∃v g p,o=.ret v∧0<σ'.nf∧σ'.F g=.alive∧R (.ret (mrg g v)) (σ'.mrg g p)
theorem merging{P:Program}{G:Env}{f:FuncId}{args:List AV}{σ:AS}{R:Out→AS→Prop}(h:ACalls P G f args σ (MrgOr R)):ACalls P G f args σ R:=zrM h
theorem MrgOr.merged{R:Out→AS→Prop}{v:AV}{σ':AS}(g:Nat)(p:Nat→Bool)(hn:0<σ'.nf)(h:σ'.F g=.alive)(h2:R (.ret (mrg g v)) (σ'.mrg g p)):MrgOr R (.ret v) σ':=.inr ⟨v,g,p,rfl,hn,h,h2⟩
def zyV(g:Nat)(v:AV)(tO:To):Prop:=(tO=[]∧v=.nilsl)∨∃tos,v=.sl (.fam g false) 1 tos∧All2 RepE tos tO
theorem zyV.one{g v l}(h:zyV g v l):v.known=true∧v.one=true∧v.cells=[v]:=by
 rcases h with ⟨_,rfl⟩|⟨tos,rfl,_⟩<;>simp
def FVE(v:AV)(p:F × Nat):Prop:=∃pv lv tv,v=.agg [.str p.1.name,pv,lv,.int .i64 p.1.type,tv]∧IntsE pv p.1.params∧IntsE lv p.1.locals∧zyV p.2 tv p.1.lists
structure Gs(τ:AS)(base:Nat)(g:Nat)(gs:List Nat):Prop where
 nd:gs.Nodup
 each:∀x∈gs,base≤x∧x<τ.nf∧τ.F x=.alive∧x≠g
def OutE(τ:AS)(base:Nat)(v:AV)(l:List F):Prop :=
 (l=[]∧v=.nilsl)∨∃g rows ps,v=.sl (.fam g false) 5 rows∧base≤g∧g<τ.nf∧τ.F g=.alive∧ps.map Prod.fst=l∧All2 FVE rows ps∧Gs τ base g (ps.map Prod.snd)
end Go.Proofs.YtohfclafhegadaaGreatDoor.Al
namespace Go.Proofs.YtohfclafhegadaaGreatDoor.Al
open Go Go.Abs Go.Proofs.YtohfclafhegadaaGreatDoor
def ME(τ:AS)(base:Nat)(v:AV)(m:M):Prop:=∃fv,v=.agg [fv,.int .i64 m.memory,.int .i64 m.main]∧OutE τ base fv m.funcs
end Go.Proofs.YtohfclafhegadaaGreatDoor.Al
namespace Go.Proofs.YtohfclafhegadaaGreatDoor.Al
open Go Go.Abs Go.Proofs.YtohfclafhegadaaGreatDoor
structure Spo(S:Nat→Prop)(σ σ':AS):Prop where
 no:σ.no≤σ'.no
 nf:σ.nf≤σ'.nf
 obj:∀o,o<σ.no→σ'.objs o=σ.objs o
 fam:∀k,k<σ.nf→¬S k→σ'.F k=σ.F k
 live:∀k,k<σ.nf→σ.F k≠.dead→σ'.F k≠.dead
theorem Spo.refl(S σ):Spo S σ σ:=⟨yah _,yah _,fun _ _=>rfl,fun _ _ _=>rfl,fun _ _ h=>h⟩
theorem Spo.trans{S σ σ1 σ2}(h:Spo S σ σ1)(k:Spo S σ1 σ2):Spo S σ σ2 where
 no:=yai h.no k.no
 nf:=yai h.nf k.nf
 obj o a:=by rw[k.obj o (yag a h.no),h.obj o a]
 fam f a b:=by rw[k.fam f (yag a h.nf) b,h.fam f a b]
 live f a b:=k.live f (yag a h.nf) (h.live f a b)
theorem Spo.mono{S T:Nat→Prop}{σ σ'}(h:Spo S σ σ')(hs:∀k,S k→T k):Spo T σ σ':=⟨h.no,h.nf,h.obj,fun k a b=>h.fam k a fun q=>b (hs k q),h.live⟩
theorem Spo.adds{S σ σ1 σ2}(h:Spo S σ σ1)(k:zf σ1 σ2):Spo S σ σ2:=h.trans ⟨k.no,k.nf,k.obj,fun f a _=>k.fam f a,fun f a b=>by rw[k.fam f a];exact b⟩
theorem Spo.spoil{S:Nat→Prop}{σ σ1}(h:Spo S σ σ1){g:Nat}(hg:S g):Spo S σ (σ1.setF g .spoiled) where
 no:=h.no
 nf:=h.nf
 obj:=h.obj
 fam k a b:=by
  have:k≠g:=fun e=>b (e▸hg)
  simp[this];exact h.fam k a b
 live k a b:=by
  by_cases e:k=g
  ·subst e;simp
  ·simp[e];exact h.live k a b
def SpI(v:AV)(n:Nat)(S:Nat→Prop)(σ:AS)(a:Nat→AV)(τ:AS):Prop:=∃i:Nat,i≤n∧a 0=v∧a 2=.int .i64 (i:Int)∧Spo S σ τ
theorem zgk{G:Env}{n:Int}{σ:AS}{R:Out→AS→Prop}(h:∀k,R (.ret (.int .i64 k)) σ):zzQ G 141 [.int .i64 n] σ R:=by
 refine zoZ rfl ?_
 simp[zvo]
 exact h _
theorem ziM{G:Env}{n:Int}{σ:AS}{R:Out→AS→Prop}(h:∀(w:W) σ',zf σ σ'→R (.ret w.av) σ'):zzQ G 142 [.int .i64 n] σ R:=by
 refine zo0 rfl ?_
 simp[zvp,splice]
 exact h ⟨_,0,0,0,0,[]⟩ _ .mk1
theorem zfD{G:Env}{n:Int}{σ:AS}{R:Out→AS→Prop}(h:∀v,v.known=true→v.one=true→v.cells=[v]→R (.ret v) σ):zzQ G 143 [.int .i64 n] σ R:=by
 refine zo1 rfl ?_
 simp[zvq,splice]
 exact h _ (by simp) (by simp) (by simp)
theorem ziN{G:Env}{n:Int}{σ:AS}{R:Out→AS→Prop}(h:∀t σ',zf σ σ'→R (.ret (.agg [.str [],.nilsl,.nilsl,.int .i64 t,.nilsl])) σ'):zzQ G 144 [.int .i64 n] σ R:=by
 refine zo2 rfl ?_
 simp[zvr,splice]
 exact h _ _ .mk1
theorem zcx{G:Env}{v:AV}{l:List Int}{σ:AS}{R:Out→AS→Prop}(hv:IntsE v l)(hl:l.length≤2^40)(h0:0<σ.nf∧σ.F 0≠.dead)(h:∀σ',Spo (·=0) σ σ'→R (.ret (.tuple [])) σ'):zzQ G 75 [v] σ R:=by
 refine zsg rfl ?_
 simp[zBT]
 refine zK (SpI v l.length (·=0) σ) (MU 2 (l.length+1)) ⟨0,by omega,by simp,by simp,.refl _ _⟩ fun a τ hI=>?_
 obtain⟨i,hi,a0,a2,hS⟩:=hI
 have w1:yb3 .i64 ((i:Int)+1)=((i+1:Nat):Int):=by rw[wrap_i64]<;>omega
 rcases hv with ⟨rfl,rfl|⟨b,rfl⟩⟩|⟨b,rfl⟩
 ·have:i=0:=by simpa using hi
  subst this
  simp[zfz,a0,a2]
  exact h _ hS
 ·have:i=0:=by simpa using hi
  subst this
  simp[zfz,a0,a2]
  exact h _ hS
 ·by_cases hlt:i<l.length
  ·have hlt':(i:Int)<(l.length:Int):=by omega
   have hd:=hS.live 0 h0.1 h0.2
   simp[zfz,a0,a2,hlt']
   refine zgk fun k=>?_
   simp[a0,a2,hlt,hd,w1]
   refine⟨⟨i+1,by omega,by simp[a0],by simp,hS.spoil rfl⟩,?_⟩
   simp only[MU,a2];simp;omega
  ·have hlt':¬(i:Int)<(l.length:Int):=by omega
   simp[zfz,a0,a2,hlt']
   exact h _ hS
theorem zhJ{G:Env}{v:AV}{l:List W}{σ:AS}{R:Out→AS→Prop}(hv:RepE v l)(hl:l.length≤2^40)(h0:0<σ.nf∧σ.F 0≠.dead)(h:∀σ',Spo (·=0) σ σ'→R (.ret (.tuple [])) σ'):zzQ G 76 [v] σ R:=by
 refine zsh rfl ?_
 simp[zBU]
 refine zK (SpI v l.length (·=0) σ) (MU 2 (l.length+1)) ⟨0,by omega,by simp,by simp,.refl _ _⟩ fun a τ hI=>?_
 obtain⟨i,hi,a0,a2,hS⟩:=hI
 have w1:yb3 .i64 ((i:Int)+1)=((i+1:Nat):Int):=by rw[wrap_i64]<;>omega
 rcases hv with ⟨rfl,rfl⟩|⟨b,rfl⟩
 ·have:i=0:=by simpa using hi
  subst this
  simp[zhp,a0,a2]
  exact h _ hS
 ·by_cases hlt:i<l.length
  ·have hlt':(i:Int)<(l.length:Int):=by omega
   simp[zhp,a0,a2,hlt']
   refine ziM fun w σ1 A1=>?_
   have hS1:=hS.adds A1
   have hd:=hS1.live 0 h0.1 h0.2
   simp[W.av,W.cs,a0,a2,hlt,hd,w1]
   refine⟨⟨i+1,by omega,by simp[a0,W.av,W.cs],by simp,hS1.spoil rfl⟩,?_⟩
   simp only[MU,a2];simp;omega
  ·have hlt':¬(i:Int)<(l.length:Int):=by omega
   simp[zhp,a0,a2,hlt']
   exact h _ hS
theorem RepE.one{v l}(h:RepE v l):v.known=true∧v.one=true∧v.cells=[v]:=by
 rcases h with ⟨_,rfl⟩|⟨b,rfl⟩<;>simp
theorem zeE{G:Env}{g:Nat}{v:AV}{l:To}{σ:AS}{R:Out→AS→Prop}(hv:zyV g v l)(hl:l.length≤2^40)(h0:l≠[]→g<σ.nf∧σ.F g≠.dead)(h:∀σ',Spo (·=g) σ σ'→R (.ret (.tuple [])) σ'):zzQ G 77 [v] σ R:=by
 refine zsi rfl ?_
 simp[zBV]
 refine zK (SpI v l.length (·=g) σ) (MU 2 (l.length+1)) ⟨0,by omega,by simp,by simp,.refl _ _⟩ fun a τ hI=>?_
 obtain⟨i,hi,a0,a2,hS⟩:=hI
 have w1:yb3 .i64 ((i:Int)+1)=((i+1:Nat):Int):=by rw[wrap_i64]<;>omega
 rcases hv with ⟨rfl,rfl⟩|⟨tos,rfl,ht⟩
 ·have:i=0:=by simpa using hi
  subst this
  simp[zhq,a0,a2]
  exact h _ hS
 ·have hlen:=ht.length
  by_cases hlt:i<l.length
  ·have hlt':(i:Int)<(l.length:Int):=by omega
   obtain⟨u,hu,hru⟩:=ht.get (yau hlt)
   have u1:=hru.one
   have hne:l≠[]:=by rintro rfl;simp at hlt
   have hd:=hS.live g (h0 hne).1 (h0 hne).2
   simp[zhq,a0,a2,hlen,hlt']
   refine zfD fun v v1 v2 v3=>?_
   simp[a0,a2,hu,u1,v1,v2,v3,hd,w1]
   refine⟨⟨i+1,by omega,by simp[a0],by simp,hS.spoil rfl⟩,?_⟩
   simp only[MU,a2];simp;omega
  ·have hlt':¬(i:Int)<(l.length:Int):=by omega
   simp[zhq,a0,a2,hlen,hlt']
   exact h _ hS
theorem zhK{G:Env}{g:Nat}{rows:List AV}{ps:List (F × Nat)}{σ:AS}{R:Out→AS→Prop}(hr:All2 FVE rows ps)(hl:ps.length≤2^40)(h0:g<σ.nf∧σ.F g≠.dead)(h:∀σ',Spo (·=g) σ σ'→R (.ret (.tuple [])) σ'):zzQ G 78 [.sl (.fam g false) 5 rows] σ R:=by
 refine zmG rfl ?_
 have hlen:=hr.length
 simp[zAO]
 refine zK (SpI (.sl (.fam g false) 5 rows) ps.length (·=g) σ) (MU 2 (ps.length+1)) ⟨0,by omega,by simp,by simp,.refl _ _⟩ fun a τ hI=>?_
 obtain⟨i,hi,a0,a2,hS⟩:=hI
 have w1:yb3 .i64 ((i:Int)+1)=((i+1:Nat):Int):=by rw[wrap_i64]<;>omega
 by_cases hlt:i<ps.length
 ·have hlt':(i:Int)<(ps.length:Int):=by omega
  obtain⟨u,hu,pv,lv,tv,rfl,hp,hll,ht⟩:=hr.get (yau hlt)
  have p1:=hp.one
  have l1:=hll.one
  have t1:=ht.one
  simp[zhr,a0,a2,hlen,hlt']
  refine ziN fun t σ1 A1=>?_
  have hS1:=hS.adds A1
  have hd:=hS1.live g h0.1 h0.2
  simp[a0,a2,hu,p1,l1,t1,hd,w1]
  refine⟨⟨i+1,by omega,by simp[a0],by simp,hS1.spoil rfl⟩,?_⟩
  simp only[MU,a2];simp;omega
 ·have hlt':¬(i:Int)<(ps.length:Int):=by omega
  simp[zhr,a0,a2,hlen,hlt']
  exact h _ hS
end Go.Proofs.YtohfclafhegadaaGreatDoor.Al
namespace Go.Proofs.YtohfclafhegadaaGreatDoor.Al
open Go Go.Abs Go.Proofs.YtohfclafhegadaaGreatDoor
def Sp(base:Nat)(k:Nat):Prop:=k=0∨base≤k
def SMO(mb g base:Nat)(rows:List AV)(ps:List (F × Nat))(mem mn:Int)(σ:AS)(a:Nat→AV)(τ:AS):Prop:=∃i:Nat,i≤ps.length∧a 1=.ptr mb 0∧a 2=.int .i64 (i:Int)∧τ.objs mb=some [.sl (.fam g false) 5 rows,.int .i64 mem,.int .i64 mn]∧mb<τ.no∧Spo (Sp base) σ τ∧τ.F g=.alive ∧
 (0<τ.nf∧τ.F 0≠.dead)∧g<τ.nf∧∀(j:Nat) p,i≤j→ps[j]?=some p→p.2<τ.nf∧τ.F p.2=.alive
def SMI(mb g base:Nat)(rows:List AV)(ps:List (F × Nat))(mem mn:Int)(σ:AS)(i n:Nat)(a:Nat→AV)(τ:AS):Prop:=∃k:Nat,k≤n∧a 1=.ptr mb 0∧a 2=.int .i64 (i:Int)∧a 3=.int .i64 (k:Int)∧τ.objs mb=some [.sl (.fam g false) 5 rows,.int .i64 mem,.int .i64 mn]∧mb<τ.no∧Spo (Sp base) σ τ∧τ.F g=.alive ∧
 (0<τ.nf∧τ.F 0≠.dead)∧g<τ.nf∧∀(j:Nat) p,i≤j→ps[j]?=some p→p.2<τ.nf∧τ.F p.2=.alive
set_option maxHeartbeats 4000000 in
theorem spoilM_calls{G:Env}{base:Nat}{v:AV}{m:M}{σ:AS}{R:Out→AS→Prop}(hm:ME σ base v m)(hb0:0<base)(hl:m.funcs.length≤2^30)(h1:∀f∈m.funcs,f.params.length≤2^40)(h2:∀f∈m.funcs,f.locals.length≤2^40)(h3:∀f∈m.funcs,f.lists.length≤2^40)(h4:∀f∈m.funcs,∀r∈f.lists,r.length≤2^40)
  (h00:0<σ.nf∧σ.F 0≠.dead) (h:∀σ',Spo (Sp base) σ σ'→R (.ret (.tuple [])) σ'):zzQ G 23 [v] σ R:=by
 refine zrX rfl ?_
 obtain⟨fv,rfl,hov⟩:=hm
 rcases hov with ⟨hn,rfl⟩|⟨g,rows,ps,rfl,q1,q2,q3,q4,q5,q6⟩
 ·simp[zAI]
  refine zK (fun a τ=>a 1=.ptr σ.no 0∧a 2=.int .i64 0∧τ=σ.newO [.nilsl,.int .i64 m.memory,.int .i64 m.main]) (fun _ _=>0) ⟨by simp,by simp,by simp⟩ fun a τ hI=>?_
  obtain⟨a1,a2,rfl⟩:=hI
  simp[zhm,zjH,a1,a2]
  refine zmG rfl ?_
  simp[zAO]
  refine zK (fun a τ=>a 0=.nilsl∧a 2=.int .i64 0∧τ=σ.newO [.nilsl,.int .i64 m.memory,.int .i64 m.main]) (fun _ _=>0) ⟨by simp,by simp,by simp⟩ fun a τ hI=>?_
  obtain⟨a0,a2,rfl⟩:=hI
  simp[zhr,a0,a2]
  exact h _ ((Spo.refl _ _).adds (zf.refl σ).newO)
 ·have hrl:=q5.length
  have hpl:ps.length=m.funcs.length:=by rw[←q4];simp
  simp[zAI]
  have hs1:Spo (Sp base) σ (σ.newO [AV.sl (Own.fam g false) 5 rows,ycc yam m.memory,ycc yam m.main]):=(Spo.refl _ _).adds (zf.refl σ).newO
  have hin:∀p∈ps,p.1∈m.funcs:=fun p hp=>by rw[←q4];exact yaW hp
  have hgs:∀p∈ps,base≤p.2∧p.2<σ.nf∧σ.F p.2=.alive∧p.2≠g:=fun p hp=>q6.each _ (yaW hp)
  refine zK (SMO σ.no g base rows ps m.memory m.main σ) (MU 2 (ps.length+1)) ⟨0,by omega,by simp,by simp,by simp,by simp,hs1,by simpa using q3,⟨by simpa using h00.1,by simpa using h00.2⟩,by simpa using q2,fun j p _ hp=>⟨by simpa using (hgs p (ycd hp)).2.1,by simpa using (hgs p (ycd hp)).2.2.1⟩⟩ fun a τ hI=>?_
  obtain⟨i,hi,a1,a2,hob,hlt0,hS,hg,h0,hgn,hal⟩:=hI
  by_cases hlt:i<ps.length
  ·have hlt':(i:Int)<(ps.length:Int):=by omega
   have hpi:ps[i]?=some ps[i]:=yau hlt
   obtain⟨u,hu,pv,lv,tv,rfl,hp,hll,ht⟩:=q5.get hpi
   have hmem:=yaw hlt
   have b1:=h1 _ (hin _ hmem)
   have b2:=h2 _ (hin _ hmem)
   have b3:=h3 _ (hin _ hmem)
   have b4:=h4 _ (hin _ hmem)
   have hgi:=hgs _ hmem
   have hnd:=q6.nd
   have hdis:∀(j:Nat) p,i+1≤j→ps[j]?=some p→p.2≠ps[i].2:=fun j p hj hp e=>by
    obtain⟨hjl,rfl⟩:=yaq.1 hp
    have hpw:=List.pairwise_iff_getElem.1 hnd i j (by simpa using hlt) (by simpa using hjl) (by omega)
    simp only[yak]at hpw
    exact hpw e.symm
   generalize ps[i]=p at *
   have p1:=hp.one
   have l1:=hll.one
   have t1:=ht.one
   simp[zhm,a1,a2,hob,hrl,hlt',hu,p1,l1,t1,hg]
   refine zcx hp b1 h0 fun σ2 s2=>?_
   have ob2:=(s2.obj _ hlt0).trans hob
   have g2:σ2.F g=.alive:=(s2.fam g hgn (by omega)).trans hg
   have n2:=s2.no
   have f2:=s2.nf
   have S2:Spo (Sp base) σ σ2:=hS.trans (s2.mono fun k hk=>.inl hk)
   have z2:0<σ2.nf∧σ2.F 0≠.dead:=⟨by omega,s2.live 0 h0.1 h0.2⟩
   simp[a1,a2,ob2,hu,p1,l1,t1,g2]
   refine zcx hll b2 z2 fun σ3 s3=>?_
   have ob3:=(s3.obj _ (by omega)).trans ob2
   have g3:σ3.F g=.alive:=(s3.fam g (by omega) (by omega)).trans g2
   have n3:=s3.no
   have f3:=s3.nf
   have S3:Spo (Sp base) σ σ3:=S2.trans (s3.mono fun k hk=>.inl hk)
   have z3:0<σ3.nf∧σ3.F 0≠.dead:=⟨by omega,s3.live 0 z2.1 z2.2⟩
   have al3:∀(j:Nat) p,i≤j→ps[j]?=some p→p.2<σ3.nf∧σ3.F p.2=.alive:=fun j p hj hp=>by
    obtain⟨x1,x2⟩:=hal j p hj hp
    have:=(hgs p (ycd hp)).1
    exact⟨by omega,by rw[s3.fam _ (by omega) (by omega),s2.fam _ (by omega) (by omega)];exact x2⟩
   simp[a1,a2]
   refine zK (SMI σ.no g base rows ps m.memory m.main σ i p.1.lists.length) (MU 3 (p.1.lists.length+1)) ⟨0,by omega,by simp[a1],by simp[a2],by simp,ob3,by omega,S3,g3,z3,by omega,al3⟩ fun c ρ hJ=>?_
   obtain⟨k,hk,c1,c2,c3,obk,hltk,Sk,gk,zk,gnk,alk⟩:=hJ
   have aik:=alk i p (yah _) hpi
   by_cases hkl:k<p.1.lists.length
   ·have hkl':(k:Int)<(p.1.lists.length:Int):=by omega
    have w2:yb3 .i64 ((k:Int)+1)=((k+1:Nat):Int):=by rw[wrap_i64]<;>omega
    rcases ht with ⟨he,_⟩|⟨tos,rfl,htr⟩
    ·rw[he]at hkl;simp at hkl
    have htl:=htr.length
    obtain⟨rv,hrv,hre⟩:=htr.get (yau hkl)
    have hrow:=b4 _ (yaw hkl)
    have r1:=hre.one
    generalize p.1.lists[k]=row at *
    simp[zjG,c1,c2,c3,obk,hu,p1,l1,gk,htl,hkl',hrv,r1,aik.2]
    refine zhJ hre hrow zk fun σ4 s4=>?_
    have f4:=s4.nf
    have n4:=s4.no
    simp[c1,c2,c3,w2]
    refine⟨⟨k+1,by omega,by simp[c1],by simp[c2],by simp,(s4.obj _ hltk).trans obk,by omega,Sk.trans (s4.mono fun k hk=>.inl hk),(s4.fam g gnk (by omega)).trans gk,⟨by omega,s4.live 0 zk.1 zk.2⟩,by omega,fun j p hj hp=>?_⟩,?_⟩
    ·obtain⟨x1,x2⟩:=alk j p hj hp
     have:=(hgs p (ycd hp)).1
     exact⟨by omega,by rw[s4.fam _ (by omega) (by omega)];exact x2⟩
    ·simp only[MU,c3];simp;omega
   ·have hkl':¬(k:Int)<(p.1.lists.length:Int):=by omega
    have htlen:∀K:AV→Prop,zia yb5 55 tv K=K (.int .i64 (p.1.lists.length:Int)):=fun K=>by
     rcases ht with ⟨he,rfl⟩|⟨tos,rfl,htr⟩
     ·simp[he]
     ·simp[htr.length]
    have w1:yb3 .i64 ((i:Int)+1)=((i+1:Nat):Int):=by rw[wrap_i64]<;>omega
    simp[zjG,zmv,c1,c2,c3,obk,hu,p1,l1,t1,gk,htlen,hkl']
    refine zeE ht b3 (fun _=>⟨aik.1,by rw[aik.2];simp⟩) fun σ4 s4=>?_
    have f4:=s4.nf
    have n4:=s4.no
    simp[zmw,c1,c2,w1]
    refine⟨⟨i+1,by omega,by simp[c1],by simp,(s4.obj _ hltk).trans obk,by omega,Sk.trans (s4.mono fun k hk=>.inr (by rw[hk];exact hgi.1)),(s4.fam g gnk (fun e=>hgi.2.2.2 e.symm)).trans gk,⟨by omega,s4.live 0 zk.1 zk.2⟩,by omega,fun j p' hj hp'=>?_⟩,?_⟩
    ·obtain⟨x1,x2⟩:=alk j p' (by omega) hp'
     exact⟨by omega,by rw[s4.fam _ (by omega) (hdis j p' hj hp')];exact x2⟩
    ·simp only[MU,a2];simp;omega
  ·have hlt':¬(i:Int)<(ps.length:Int):=by omega
   simp[zhm,zjH,a1,a2,hob,hrl,hlt']
   refine zhK q5 (by omega) ⟨hgn,by rw[hg];simp⟩ fun σ4 s4=>?_
   simp
   exact h _ (hS.trans (s4.mono fun k hk=>.inr (by rw[hk];exact q1)))
end Go.Proofs.YtohfclafhegadaaGreatDoor.Al
namespace Go.Proofs.YtohfclafhegadaaGreatDoor.Al
open Go Go.Abs Go.Proofs.YtohfclafhegadaaGreatDoor
def Rd(σ:AS):Go.Abs.Own→Prop
 | .stat _=>True
 | .fam f _=>f<σ.nf∧σ.F f=.alive
theorem Rd.read{σ φ}(h:Rd σ φ):zl σ.F φ:=by
 cases φ with
 | stat b=>exact trivial
 | fam f b=>exact h.2
theorem Rd.keep{σ σ' φ}(h:Rd σ φ)(A:zf σ σ'):Rd σ' φ:=by
 cases φ with
 | stat b=>exact trivial
 | fam f b=>exact⟨by have:=A.nf;have:=h.1;omega,(A.fam f h.1).trans h.2⟩
def IntsO(σ:AS)(v:AV)(l:List Int):Prop:=(l=[]∧v=.nilsl)∨∃φ,v=.sl φ 1 (l.map (.int .i64))∧Rd σ φ
def RepO(σ:AS)(v:AV)(l:List W):Prop:=(l=[]∧v=.nilsl)∨∃φ,v=.sl φ 6 (l.map W.av)∧Rd σ φ
def LstO(σ:AS)(v:AV)(l:To):Prop:=(l=[]∧v=.nilsl)∨∃φ rows,v=.sl φ 1 rows∧Rd σ φ∧All2 (RepO σ) rows l
def FVO(σ:AS)(v:AV)(f:F):Prop:=∃pv lv tv,v=.agg [.str f.name,pv,lv,.int .i64 f.type,tv]∧IntsO σ pv f.params∧IntsO σ lv f.locals∧LstO σ tv f.lists
def FsO(σ:AS)(v:AV)(l:List F):Prop:=(l=[]∧v=.nilsl)∨∃φ rows,v=.sl φ 5 rows∧Rd σ φ∧All2 (FVO σ) rows l
def MO(σ:AS)(v:AV)(m:M):Prop:=∃fv,v=.agg [fv,.int .i64 m.memory,.int .i64 m.main]∧FsO σ fv m.funcs
theorem IntsO.one{σ v l}(h:IntsO σ v l):v.known=true∧v.one=true∧v.cells=[v]:=by rcases h with ⟨_,rfl⟩|⟨b,rfl,_⟩<;>simp
theorem RepO.one{σ v l}(h:RepO σ v l):v.known=true∧v.one=true∧v.cells=[v]:=by rcases h with ⟨_,rfl⟩|⟨b,rfl,_⟩<;>simp
theorem LstO.one{σ v l}(h:LstO σ v l):v.known=true∧v.one=true∧v.cells=[v]:=by rcases h with ⟨_,rfl⟩|⟨b,_,rfl,_⟩<;>simp
theorem FsO.one{σ v l}(h:FsO σ v l):v.known=true∧v.one=true∧v.cells=[v]:=by rcases h with ⟨_,rfl⟩|⟨b,_,rfl,_⟩<;>simp
theorem IntsO.keep{σ σ' v l}(h:IntsO σ v l)(A:zf σ σ'):IntsO σ' v l:=by
 rcases h with h|⟨φ,h,r⟩
 ·exact .inl h
 ·exact .inr ⟨φ,h,r.keep A⟩
theorem RepO.keep{σ σ' v l}(h:RepO σ v l)(A:zf σ σ'):RepO σ' v l:=by
 rcases h with h|⟨φ,h,r⟩
 ·exact .inl h
 ·exact .inr ⟨φ,h,r.keep A⟩
theorem all2_mono{α β:Type}{R S:α→β→Prop}{xs ys}(h:All2 R xs ys)(hs:∀x y,R x y→S x y):All2 S xs ys:=by
 induction h with
 | nil=>exact .nil
 | cons h r ih=>exact .cons (hs _ _ h) ih
theorem LstO.keep{σ σ' v l}(h:LstO σ v l)(A:zf σ σ'):LstO σ' v l:=by
 rcases h with h|⟨φ,rows,h,r,k⟩
 ·exact .inl h
 ·exact .inr ⟨φ,rows,h,r.keep A,all2_mono k fun _ _ q=>q.keep A⟩
theorem FVO.keep{σ σ' v l}(h:FVO σ v l)(A:zf σ σ'):FVO σ' v l:=by
 obtain⟨pv,lv,tv,h,a,b,c⟩:=h
 exact⟨pv,lv,tv,h,a.keep A,b.keep A,c.keep A⟩
theorem FsO.keep{σ σ' v l}(h:FsO σ v l)(A:zf σ σ'):FsO σ' v l:=by
 rcases h with h|⟨φ,rows,h,r,k⟩
 ·exact .inl h
 ·exact .inr ⟨φ,rows,h,r.keep A,all2_mono k fun _ _ q=>q.keep A⟩
theorem IntsO.len{σ v l}(h:IntsO σ v l)(K:AV→Prop):zia yb5 44 v K=K (.int .i64 (l.length:Int)):=by rcases h with ⟨rfl,rfl⟩|⟨b,rfl,_⟩<;>simp
theorem LstO.len{σ v l}(h:LstO σ v l)(K:AV→Prop):zia yb5 55 v K=K (.int .i64 (l.length:Int)):=by
 rcases h with ⟨rfl,rfl⟩|⟨b,rows,rfl,_,hr⟩
 ·simp
 ·simp[hr.length]
theorem FsO.len{σ v l}(h:FsO σ v l)(K:AV→Prop):zia yb5 26 v K=K (.int .i64 (l.length:Int)):=by
 rcases h with ⟨rfl,rfl⟩|⟨b,rows,rfl,_,hr⟩
 ·simp
 ·simp[hr.length]
theorem IntsO.at{σ v l}(h:IntsO σ v l){i:Nat}(hi:i<l.length):∃φ,Rd σ φ∧∀K:AV→Prop,zy yb5 44 v (.int .i64 (i:Int)) K=K (.pv φ (.int .i64 l[i])):=by
 rcases h with ⟨rfl,_⟩|⟨φ,rfl,r⟩
 ·simp at hi
 ·exact⟨φ,r,fun K=>by simp[hi]⟩
theorem LstO.at{σ v l}(h:LstO σ v l){i:Nat}(hi:i<l.length):∃φ rv,Rd σ φ∧RepO σ rv l[i]∧∀K:AV→Prop,zy yb5 55 v (.int .i64 (i:Int)) K=K (.pv φ rv):=by
 rcases h with ⟨rfl,_⟩|⟨φ,rows,rfl,r,hr⟩
 ·simp at hi
 ·obtain⟨rv,h1,h2⟩:=hr.get (yau hi)
  exact⟨φ,rv,r,h2,fun K=>by simp[h1]⟩
theorem FsO.at{σ v l}(h:FsO σ v l){i:Nat}(hi:i<l.length):∃φ rv,Rd σ φ∧FVO σ rv l[i]∧∀K:AV→Prop,zy yb5 26 v (.int .i64 (i:Int)) K=K (.pv φ rv):=by
 rcases h with ⟨rfl,_⟩|⟨φ,rows,rfl,r,hr⟩
 ·simp at hi
 ·obtain⟨rv,h1,h2⟩:=hr.get (yau hi)
  exact⟨φ,rv,r,h2,fun K=>by simp[h1]⟩
def EI(va vb:AV)(n:Nat)(σ:AS)(a:Nat→AV)(τ:AS):Prop:=∃i:Nat,i≤n∧a 0=va∧a 1=vb∧a 5=.int .i64 (i:Int)∧zf σ τ
theorem zeo{G:Env}{σ:AS}{R:Out→AS→Prop}{va vb:AV}{l:List Int}(ha:IntsO σ va l)(hb:IntsO σ vb l)(hl:l.length≤2^40)(h:∀σ',zf σ σ'→R (.ret (.bool true)) σ'):zzQ G 79 [va,vb] σ R:=by
 refine zsj rfl ?_
 have hal:=ha.len
 have hbl:=hb.len
 simp[zBW,hal,hbl]
 refine zK (EI va vb l.length σ) (MU 5 (l.length+1)) ⟨0,by omega,by simp,by simp,by simp,.refl _⟩ fun a τ hI=>?_
 obtain⟨i,hi,a0,a1,a5,A⟩:=hI
 by_cases hlt:i<l.length
 ·obtain⟨φ,r1,hx1⟩:=(ha.keep A).at hlt
  obtain⟨ψ,r2,hx2⟩:=(hb.keep A).at hlt
  have q1:=r1.read
  have q2:=r2.read
  have w5:yb3 .i64 ((i:Int)+1)=((i+1:Nat):Int):=by rw[wrap_i64]<;>omega
  simp[zjN,a0,a1,a5,hal,hlt,hx1,hx2,w5,q1,q2]
  refine⟨⟨i+1,by omega,by simp[a0],by simp[a1],by simp,A⟩,?_⟩
  simp only[MU,a5];simp;omega
 ·simp[zjN,zmH,a0,a1,a5,hal,hlt]
  exact h _ A
theorem zhL{G:Env}{σ:AS}{R:Out→AS→Prop}{va vb:AV}{l:To}(ha:LstO σ va l)(hb:LstO σ vb l)(hl:l.length≤2^40)(hr:∀r∈l,r.length≤2^30)(h:∀σ',zf σ σ'→R (.ret (.bool true)) σ'):zzQ G 180 [va,vb] σ R:=by
 refine zpd rfl ?_
 have hal:=ha.len
 have hbl:=hb.len
 simp[zvy,hal,hbl]
 refine zK (EI va vb l.length σ) (MU 5 (l.length+1)) ⟨0,by omega,by simp,by simp,by simp,.refl _⟩ fun a τ hI=>?_
 obtain⟨i,hi,a0,a1,a5,A⟩:=hI
 by_cases hlt:i<l.length
 ·obtain⟨φ,rv1,r1,e1,hx1⟩:=(ha.keep A).at hlt
  obtain⟨ψ,rv2,r2,e2,hx2⟩:=(hb.keep A).at hlt
  have q1:=r1.read
  have q2:=r2.read
  have o1:=e1.one
  have o2:=e2.one
  have hrl:=hr _ (yaw hlt)
  have w5:yb3 .i64 ((i:Int)+1)=((i+1:Nat):Int):=by rw[wrap_i64]<;>omega
  have sl:∀{v:AV} {r:List W},RepO τ v r→SlW τ v r:=fun h=>by
   rcases h with ⟨h1,h2⟩|⟨φ,h1,h2⟩
   ·exact .inl ⟨h1,h2⟩
   ·exact .inr ⟨φ,h1,h2.read⟩
  simp[zhD,a0,a1,a5,hal,hlt,hx1,hx2,q1,q2,o1,o2]
  refine zlr (sl e1) (sl e2) hrl ?_
  simp[w5,a5]
  refine⟨⟨i+1,by omega,by simp[a0],by simp[a1],by simp,A⟩,?_⟩
  simp only[MU,a5];simp;omega
 ·simp[zhD,zkx,a0,a1,a5,hal,hlt]
  exact h _ A
structure SzE(f:F):Prop where
 params:f.params.length≤2^40
 locals:f.locals.length≤2^40
 lists:f.lists.length≤2^40
 rows:∀r∈f.lists,r.length≤2^30
theorem zmP{G:Env}{σ:AS}{R:Out→AS→Prop}{va vb:AV}{f:F}(ha:FVO σ va f)(hb:FVO σ vb f)(hs:SzE f)(h:∀σ',zf σ σ'→R (.ret (.bool true)) σ'):zzQ G 140 [va,vb] σ R:=by
 refine zoY rfl ?_
 obtain⟨pa,la,ta,rfl,hpa,hla,hta⟩:=ha
 obtain⟨pb,lb,tb,rfl,hpb,hlb,htb⟩:=hb
 have a1:=hpa.one
 have a2:=hla.one
 have a3:=hta.one
 have b1:=hpb.one
 have b2:=hlb.one
 have b3:=htb.one
 simp[zvn,a1,a2,a3,b1,b2,b3]
 have A1:zf σ ((σ.newO [yce f.name,pa,la,ycc yam f.type,ta]).newO [yce f.name,pb,lb,ycc yam f.type,tb]):=(zf.refl σ).newO.newO
 have oa:((σ.newO [yce f.name,pa,la,ycc yam f.type,ta]).newO [yce f.name,pb,lb,ycc yam f.type,tb]).objs σ.no=some [yce f.name,pa,la,ycc yam f.type,ta]:=by simp
 have ob:((σ.newO [yce f.name,pa,la,ycc yam f.type,ta]).newO [yce f.name,pb,lb,ycc yam f.type,tb]).objs (σ.no+1)=some [yce f.name,pb,lb,ycc yam f.type,tb]:=by simp
 have n1:((σ.newO [yce f.name,pa,la,ycc yam f.type,ta]).newO [yce f.name,pb,lb,ycc yam f.type,tb]).no=σ.no+2:=by simp
 generalize (σ.newO [yce f.name,pa,la,ycc yam f.type,ta]).newO [yce f.name,pb,lb,ycc yam f.type,tb]=σ1 at *
 refine zeo (hpa.keep A1) (hpb.keep A1) hs.params fun σ2 A2=>?_
 have oa2:=(A2.obj _ (by omega)).trans oa
 have ob2:=(A2.obj _ (by omega)).trans ob
 have n2:=A2.no
 have B2:=A1.trans A2
 simp[oa2,ob2,a1,a2,a3,b1,b2,b3]
 refine zeo (hla.keep B2) (hlb.keep B2) hs.locals fun σ3 A3=>?_
 have oa3:=(A3.obj _ (by omega)).trans oa2
 have ob3:=(A3.obj _ (by omega)).trans ob2
 have B3:=B2.trans A3
 simp[oa3,ob3,a1,a2,a3,b1,b2,b3]
 refine zhL (hta.keep B3) (htb.keep B3) hs.lists hs.rows fun σ4 A4=>?_
 simp
 exact h _ (B3.trans A4)
theorem zls{G:Env}{σ:AS}{R:Out→AS→Prop}{va vb:AV}{l:List F}(ha:FsO σ va l)(hb:FsO σ vb l)(hl:l.length≤2^40)(hs:∀f∈l,SzE f)(h:∀σ',zf σ σ'→R (.ret (.bool true)) σ'):zzQ G 74 [va,vb] σ R:=by
 refine zsf rfl ?_
 have hal:=ha.len
 have hbl:=hb.len
 simp[zBS,hal,hbl]
 refine zK (EI va vb l.length σ) (MU 5 (l.length+1)) ⟨0,by omega,by simp,by simp,by simp,.refl _⟩ fun a τ hI=>?_
 obtain⟨i,hi,a0,a1,a5,A⟩:=hI
 by_cases hlt:i<l.length
 ·obtain⟨φ,rv1,r1,e1,hx1⟩:=(ha.keep A).at hlt
  obtain⟨ψ,rv2,r2,e2,hx2⟩:=(hb.keep A).at hlt
  have q1:=r1.read
  have q2:=r2.read
  have hsz:=hs _ (yaw hlt)
  generalize l[i]=f at *
  have w5:yb3 .i64 ((i:Int)+1)=((i+1:Nat):Int):=by rw[wrap_i64]<;>omega
  have f1:=e1
  have f2:=e2
  obtain⟨pa,la,ta,rfl,hpa,hla,hta⟩:=e1
  obtain⟨pb,lb,tb,rfl,hpb,hlb,htb⟩:=e2
  have o1:=hpa.one
  have o2:=hla.one
  have o3:=hta.one
  have o4:=hpb.one
  have o5:=hlb.one
  have o6:=htb.one
  simp[zjM,a0,a1,a5,hal,hlt,hx1,hx2,q1,q2,o1,o2,o3,o4,o5,o6]
  refine zmP f1 f2 hsz fun σ2 A2=>?_
  simp[w5,a5]
  refine⟨⟨i+1,by omega,by simp[a0],by simp[a1],by simp,A.trans A2⟩,?_⟩
  simp only[MU,a5];simp;omega
 ·simp[zjM,zmF,a0,a1,a5,hal,hlt]
  exact h _ A
theorem eqM_calls{G:Env}{σ:AS}{R:Out→AS→Prop}{va vb:AV}{m:M}(ha:MO σ va m)(hb:MO σ vb m)(hl:m.funcs.length≤2^40)(hs:∀f∈m.funcs,SzE f)(h:∀σ',zf σ σ'→R (.ret (.bool true)) σ'):zzQ G 22 [va,vb] σ R:=by
 refine zrW rfl ?_
 obtain⟨fa,rfl,hfa⟩:=ha
 obtain⟨fb,rfl,hfb⟩:=hb
 have a1:=hfa.one
 have b1:=hfb.one
 simp[zBG,a1,b1]
 have A1:zf σ ((σ.newO [fa,ycc yam m.memory,ycc yam m.main]).newO [fb,ycc yam m.memory,ycc yam m.main]):=(zf.refl σ).newO.newO
 refine zls (hfa.keep A1) (hfb.keep A1) hl hs fun σ2 A2=>?_
 simp
 exact h _ (A1.trans A2)
theorem zA9{σ:AS}{v l}(h:zyU v l):RepO σ v l:=by
 rcases h with h|⟨b,h⟩
 ·exact .inl h
 ·exact .inr ⟨_,h,trivial⟩
theorem zqP{σ:AS}{v l}(h:zpm v l):IntsO σ v l:=by
 rcases h with h|⟨b,h⟩
 ·exact .inl h
 ·exact .inr ⟨_,h,trivial⟩
theorem zsv{σ:AS}{v l}(h:zmN v l):LstO σ v l:=by
 rcases h with h|⟨b,rows,h,k⟩
 ·exact .inl h
 ·exact .inr ⟨_,rows,h,trivial,all2_mono k fun _ _ q=>zA9 q⟩
theorem m_o{σ:AS}{v m}(h:MV v m):MO σ v m:=by
 obtain⟨fv,rfl,hf⟩:=h
 refine⟨fv,rfl,?_⟩
 rcases hf with h|⟨b,rows,h,k⟩
 ·exact .inl h
 ·refine .inr ⟨_,rows,h,trivial,all2_mono k fun _ _ q=>?_⟩
  obtain⟨pv,lv,tv,h,a,b,c⟩:=q
  exact⟨pv,lv,tv,h,zqP a,zqP b,zsv c⟩
end Go.Proofs.YtohfclafhegadaaGreatDoor.Al
namespace Go.Proofs.YtohfclafhegadaaGreatDoor.Al
open Go Go.Abs Go.Proofs.YtohfclafhegadaaGreatDoor
theorem rep_e{σ:AS}(h0:0<σ.nf∧σ.F 0=.alive){v l}(h:RepE v l):RepO σ v l:=by
 rcases h with h|⟨b,h⟩
 ·exact .inl h
 ·exact .inr ⟨_,h,h0⟩
theorem ints_e{σ:AS}(h0:0<σ.nf∧σ.F 0=.alive){v l}(h:IntsE v l):IntsO σ v l:=by
 rcases h with ⟨rfl,h|⟨b,h⟩⟩|⟨b,h⟩
 ·exact .inl ⟨rfl,h⟩
 ·exact .inr ⟨_,h,trivial⟩
 ·exact .inr ⟨_,h,h0⟩
theorem zpn{R:AV→F × Nat→Prop}{S:AV→F→Prop}{rows:List AV}{ps:List (F × Nat)}(h:All2 R rows ps)(hs:∀v p,p∈ps→R v p→S v p.1):All2 S rows (ps.map Prod.fst):=by
 induction h with
 | nil=>exact .nil
 | cons h r ih=>exact .cons (hs _ _ (by simp) h) (ih fun v p hp=>hs v p (by simp[hp]))
theorem m_e{σ:AS}{base:Nat}(h0:0<σ.nf∧σ.F 0=.alive){v m}(h:ME σ base v m):MO σ v m:=by
 obtain⟨fv,rfl,hf⟩:=h
 refine⟨fv,rfl,?_⟩
 rcases hf with h|⟨g,rows,ps,rfl,q1,q2,q3,q4,q5,q6⟩
 ·exact .inl h
 ·refine .inr ⟨_,rows,rfl,⟨q2,q3⟩,?_⟩
  rw[←q4]
  refine zpn q5 fun v p hp ⟨pv,lv,tv,e,a,b,c⟩=>⟨pv,lv,tv,e,ints_e h0 a,ints_e h0 b,?_⟩
  obtain⟨u1,u2,u3,u4⟩:=q6.each p.2 (yaW hp)
  rcases c with c|⟨tos,rfl,c⟩
  ·exact .inl c
  ·exact .inr ⟨_,tos,rfl,⟨u2,u3⟩,all2_mono c fun _ _ q=>rep_e h0 q⟩
end Go.Proofs.YtohfclafhegadaaGreatDoor.Al

namespace Go.Proofs.YtohfclafhegadaaGreatDoor
open Go Go.Abs
end Go.Proofs.YtohfclafhegadaaGreatDoor



namespace Go.Proofs.YtohfclafhegadaaGreatDoor
open Go Go.Abs
theorem zlt:∀s,zc0 signs s≠[]→s.length≤5:=by
 have key:∀(l:List (List UInt8 × List UInt8)),(∀p∈l,p.1.length≤5)→∀s,zc0 l s≠[]→s.length≤5:=by
  intro l
  induction l with
  | nil=>intro _ s h;simp[zc0]at h
  | cons p l ih =>
   intro hp s h
   obtain⟨x,y⟩:=p
   rw[zc0]at h
   by_cases e:x=s
   ·subst e;exact hp (x,y) (by simp)
   ·rw[if_neg e]at h;exact ih (fun q hq=>hp q (by simp[hq])) s h
 exact key signs (by decide)
section
variable {G : Env} {σ : AS} {R : Out → AS → Prop} {x c : Nat} {s : St} {deep : Int} {m : M} {f : F} {ls : List Int} {w : W}
end
end Go.Proofs.YtohfclafhegadaaGreatDoor




namespace Go.Proofs.YtohfclafhegadaaGreatDoor
open Go Go.Abs
@[simp] theorem zyW(t:Nat)(v:AV):aeq yb5 20 (.iface t v) .nilif=some false:=by simp[aeq,zh5,show yb5.underlying 20=some (.interface #[]) from by kernel_rfl]
@[simp] theorem zwB(t:Nat)(v:AV)(K:AV→Prop):zbj yb5 .neq 20 (.iface t v) .nilif K=K (.bool true):=by simp[zbj]
@[simp] theorem zCx:zag yb5 20=some true:=by kernel_rfl
@[simp] theorem zCy(H:Option AV→(Nat→AV)→AS→Prop)(a:Nat→AV)(σ:AS):aq H .ret a σ=H none a σ:=Eq.trans rfl rfl
@[simp] theorem zyX(H:Option AV→(Nat→AV)→AS→Prop)(v:AV)(a:Nat→AV)(σ:AS):aq H (.panic v) a σ=H (some v) a σ:=Eq.trans rfl rfl
mutual
def clm:AV→AV
 | .sl φ sz xs=>.sl (.stat φ.full) sz (ztY xs)
 | .agg cs=>.agg (ztY cs)
 | v=>v
def ztY:List AV→List AV
 | []=>[]
 | v::vs=>clm v::ztY vs
end
theorem zjP:∀l,ztY l=l.map clm
 | []=>by simp[ztY]
 | v::l=>by simp[ztY,zjP l]
@[simp] theorem zqQ(φ sz xs):clm (.sl φ sz xs)=.sl (.stat φ.full) sz (xs.map clm):=by simp[clm,zjP]
@[simp] theorem zsw(cs):clm (.agg cs)=.agg (cs.map clm):=by simp[clm,zjP]
@[simp] theorem zfE(k n):clm (.int k n)=.int k n:=by simp[clm]
@[simp] theorem zsx(s):clm (.str s)=.str s:=by simp[clm]
@[simp] theorem zmQ:clm .nilsl=.nilsl:=by simp[clm]
@[simp] theorem zpo(b):clm (.bool b)=.bool b:=by simp[clm]
theorem ziO(v:AV):(clm v).cells=v.cells.map clm:=by
 cases v with
 | agg cs=>simp
 | sl φ sz xs=>simp
 | _=>simp[clm,AV.cells]
theorem zhM(l:List AV):zx (l.map clm)=(zx l).map clm:=by
 simp[zx,List.flatMap_map,List.map_flatMap,ziO]
inductive Cb(F:Nat→FSt):AV→Prop
 | bool (b:Bool):Cb F (.bool b)
 | int (k:IntKind) (n:Int):Cb F (.int k n)
 | str (s:List UInt8):Cb F (.str s)
 | nilsl:Cb F .nilsl
 | sl (φ:Abs.Own) (sz:Nat) (xs:List AV) (hr:zl F φ) (h:∀c∈zx xs,Cb F c):Cb F (.sl φ sz xs)
 | agg (cs:List AV) (h:∀c∈cs,Cb F c):Cb F (.agg cs)
end Go.Proofs.YtohfclafhegadaaGreatDoor
namespace Go.Abs
open Go Go.Abs
open Go.Proofs.YtohfclafhegadaaGreatDoor
theorem VR.clmTo{M:Mp}{F:Nat→FSt}{w:World}{v:AV}{c:Value}(h:VR M F w v c){M':Mp}{F':Nat→FSt}(hst:∀B m,M.role B=some (.st m)→M'.role B=some (.st m))(hfm:∀B f,M.role B=some (.fam f)→∃m,M'.role B=some (.st m))(hs:Cb F v):VR M' F' w (clm v) c:=by
 induction h with
 | bool b=>rw[zpo];exact .bool b
 | int k n=>rw[zfE];exact .int k n
 | str s=>rw[zsx];exact .str s
 | nilsl=>rw[zmQ];exact .nilsl
 | slz b sz a=>rw[zqQ];exact .slz _ sz a
 | sl φ sz xs B off cap cs hcap hlit hsz hm hc hv ih =>
  cases hs with
  | sl _ _ _ hr hs =>
  rw[zqQ]
  have hl:(xs.map Go.Proofs.YtohfclafhegadaaGreatDoor.clm).length=xs.length:=by simp
  have hm':∃m,M'.role B=some (.st m):=by
   cases φ with
   | stat b =>
    obtain⟨m,hm⟩:=hm
    exact⟨m,hst B m hm⟩
   | fam f b=>exact hfm B f (hm.2 (by rw[hr];simp)).1
  have:=VR.sl (M:=M') (F:=F') (w:=w) (.stat φ.full) sz (xs.map Go.Proofs.YtohfclafhegadaaGreatDoor.clm) B off cap cs (by simpa using hcap) (fun h=>by rw[hl];exact hlit h)
   (fun x hx=>by simp at hx;obtain⟨y,hy,rfl⟩:=hx;rw[ziO,ybb];exact hsz y hy) hm' (fun _ j hj=>hc hr j (by rw[zhM]at hj;simpa using hj))
   (fun _ j hj=>by
    have hj':j<(zx xs).length:=by rw[zhM]at hj;simpa using hj
    have:=ih hr j hj' (hs _ (yaw hj'))
    simp only[zhM,yak]
    exact this)
  rw[hl]at this
  exact this
 | agg cs A hA va ih =>
  cases hs with
  | agg _ hs=>rw[zsw];exact .agg _ _ (by simpa using hA) (fun j h h'=>by simpa using ih j (by simpa using h) h' (hs _ (yaw _)))
 | _=>cases hs
end Go.Abs
namespace Go.Proofs.YtohfclafhegadaaGreatDoor
open Go Go.Abs
end Go.Proofs.YtohfclafhegadaaGreatDoor
namespace Go.Abs
open Go Go.Abs
open Go.Proofs.YtohfclafhegadaaGreatDoor
theorem VR.clm{M:Mp}{F:Nat→FSt}{w:World}{v:AV}{c:Value}(h:VR M F w v c)(hs:Cb F v):VR (M.calm 1) AS.bare.F w (clm v) c :=
 h.clmTo (fun _ _ h=>zhi h) (fun _ _ h=>⟨false,zcK h (fun m q=>by cases q)⟩) hs
end Go.Abs
namespace Go.Proofs.YtohfclafhegadaaGreatDoor
open Go Go.Abs
inductive Pln:AV→Prop
 | bool (b:Bool):Pln (.bool b)
 | int (k:IntKind) (n:Int):Pln (.int k n)
 | str (s:List UInt8):Pln (.str s)
 | nilsl:Pln .nilsl
 | agg (cs:List AV) (h:∀c∈cs,Pln c):Pln (.agg cs)
 | tuple (cs:List AV) (h:∀c∈cs,Pln c):Pln (.tuple cs)
end Go.Proofs.YtohfclafhegadaaGreatDoor
namespace Go.Abs
open Go Go.Abs
open Go.Proofs.YtohfclafhegadaaGreatDoor
theorem VR.pln{M M':Mp}{F F':Nat→FSt}{w w':World}{v:AV}{c:Value}(h:VR M F w v c)(hs:Pln v):VR M' F' w' v c:=by
 induction h with
 | bool b=>exact .bool b
 | int k n=>exact .int k n
 | str s=>exact .str s
 | nilsl=>exact .nilsl
 | agg cs A hA va ih =>
  cases hs with
  | agg _ hs=>exact .agg _ _ hA (fun j h h'=>ih j h h' (hs _ (yaw _)))
 | tuple cs A hA va ih =>
  cases hs with
  | tuple _ hs=>exact .tuple _ _ hA (fun j h h'=>ih j h h' (hs _ (yaw _)))
 | _=>cases hs
end Go.Abs
namespace Go.Proofs.YtohfclafhegadaaGreatDoor
open Go Go.Abs
inductive StillI:AV→Prop
 | undef:StillI .undef
 | int (k:IntKind) (n:Int):StillI (.int k n)
 | str (s:List UInt8):StillI (.str s)
 | pv (b:Bool) (v:AV) (h:∀c∈v.cells,StillI c):StillI (.pv (.stat b) v)
 | iface (t:TypeId) (v:AV) (h:StillI v):StillI (.iface t v)
 | mp (ks vs:List AV):StillI (.mp ks vs)
end Go.Proofs.YtohfclafhegadaaGreatDoor
namespace Go.Abs
open Go Go.Abs
open Go.Proofs.YtohfclafhegadaaGreatDoor
theorem VR.stillI{M:Mp}{F:Nat→FSt}{w:World}{v:AV}{c:Value}(h:VR M F w v c){M':Mp}{F':Nat→FSt}(hr:∀B m,M.role B=some (.st m)→M'.role B=some (.st m))(hs:StillI v):VR M' F' w v c:=by
 induction h with
 | undef c=>exact .undef c
 | int k n=>exact .int k n
 | str s=>exact .str s
 | pv φ v B off cs hm hc hv ih =>
  cases hs with
  | pv b _ hs =>
  obtain⟨m,hm⟩:=hm
  exact .pv _ v B off cs ⟨m,hr B m hm⟩ (fun _=>hc trivial) (fun _ j hj=>ih trivial j hj (hs _ (yaw hj)))
 | iface t v c h ih =>
  cases hs with
  | iface _ _ hs=>exact .iface t _ _ (ih hs)
 | mp ks vs b es c h1 h2 h3=>exact .mp ks vs b es c (hr b false h1) h2 h3
 | _=>cases hs
end Go.Abs
namespace Go.Proofs.YtohfclafhegadaaGreatDoor
open Go Go.Abs
theorem zBa{P:Program}{G:Env}{M:Mp}{σ:AS}{w:World}(g:GOk P G M σ.F w)(hG:∀k,StillI (G.g k))(hy:∀l,¬G.has l):GOk P G (M.calm 1) AS.bare.F w where
 vars k:=(g.vars k).stillI (fun _ _ h=>zhi h) (hG k)
 yields l hl:=absurd hl (hy l)
 fixed B cs hB:=by
  obtain⟨h1,h2⟩:=g.fixed B cs hB
  exact⟨zhi h1,h2⟩
theorem zsy{P:Program}{G:Env}{f:FuncId}{σ:AS}{R:Out→AS→Prop}{vs:List AV}{Q:AV→Prop}(hG:∀k,StillI (G.g k))(hy:∀l,¬G.has l)(hv:∀v∈vs,Cb σ.F v)(h:ACalls P G f (vs.map clm) AS.bare fun o _=>∃x,o=.ret x∧Pln x∧Q x)(hR:∀x,Q x→R (.ret x) σ):ACalls P G f vs σ R:=by
 intro M w cargs S g c
 refine(h (M.calm 1) w cargs S.calm (zBa g hG hy) ⟨by rw[ybb];exact c.1,fun j v hj=>?_⟩).mono fun e w' ⟨o,σ',M',⟨x,ho,hx,hq⟩,h2,h3,h4⟩=>?_
 ·rw[List.getElem?_map,ybB]at hj
  obtain⟨v0,h1,rfl⟩:=hj
  obtain⟨c0,e0,q0⟩:=c.2 j v0 h1
  exact⟨c0,e0,q0.clm (hv v0 (ycd h1))⟩
 ·subst ho
  refine⟨_,σ,M,hR x hq,?_,S.calmed h4,Ext.calm S h4⟩
  cases e<;>simp only[zbt]at h2 ⊢
  exact h2.pln hx
theorem zBb(w:W):clm w.av=w.av:=by simp[W.av,W.cs]
theorem zCL{F:Nat→FSt}(w:W):∀c∈w.av.cells,Cb F c:=by
 intro c hc
 simp only[W.av,W.cs,AV.cells,ybC,ycf,or_false]at hc
 rcases hc with rfl|rfl|rfl|rfl|rfl|rfl
 all_goals first|exact .int _ _|exact .str _
theorem zmR{σ:AS}{v:AV}{l:List W}(h:Al.RepO σ v l):Cb σ.F v∧zyU (clm v) l:=by
 rcases h with ⟨rfl,rfl⟩|⟨φ,rfl,r⟩
 ·exact⟨.nilsl,.inl ⟨rfl,by simp⟩⟩
 ·refine⟨.sl _ _ _ r.read fun c hc=>?_,.inr ⟨φ.full,by simp[Function.comp_def,zBb]⟩⟩
  simp only[zx,ycg,yaV]at hc
  obtain⟨x,⟨w,_,rfl⟩,hx⟩:=hc
  exact zCL w c hx
theorem zeQ{σ:AS}{v:AV}{l:List Int}(h:Al.IntsO σ v l):Cb σ.F v∧zpm (clm v) l:=by
 rcases h with ⟨rfl,rfl⟩|⟨φ,rfl,r⟩
 ·exact⟨.nilsl,.inl ⟨rfl,by simp⟩⟩
 ·refine⟨.sl _ _ _ r.read fun c hc=>?_,.inr ⟨φ.full,by simp[Function.comp_def]⟩⟩
  simp only[zx,ycg,yaV]at hc
  obtain⟨x,⟨w,_,rfl⟩,hx⟩:=hc
  simp only[AV.cells,ych]at hx
  subst hx
  exact .int _ _
theorem zhN{α:Type}{Q Q':AV→α→Prop}{P:AV→Prop}(hq:∀v a,Q v a→P v∧Q' (clm v) a):∀{xs:List AV} {l:List α},All2 Q xs l→(∀x∈xs,P x)∧All2 Q' (xs.map clm) l
 | _,_,.nil=>⟨fun x h=>(by cases h),.nil⟩
 | _,_,.cons h hs=>by
  obtain⟨h1,h2⟩:=hq _ _ h
  obtain⟨h3,h4⟩:=zhN hq hs
  exact⟨fun x hx=>by
   rcases ybC.1 hx with rfl|hx
   ·exact h1
   ·exact h3 x hx,.cons h2 h4⟩
theorem zmS{v:AV}(h:v.cells=[v]):∀c∈v.cells,c=v:=fun c hc=>by rw[h]at hc;simpa using hc
theorem zmT{σ:AS}{v:AV}{l:To}(h:Al.LstO σ v l):Cb σ.F v∧zmN (clm v) l:=by
 rcases h with ⟨rfl,rfl⟩|⟨φ,rows,rfl,r,k⟩
 ·exact⟨.nilsl,.inl ⟨rfl,by simp⟩⟩
 ·obtain⟨k1,k2⟩:=zhN (P:=fun v=>Cb σ.F v∧v.cells=[v]) (Q':=zyU) (fun v a q=>⟨⟨(zmR q).1,q.one.2.2⟩,(zmR q).2⟩) k
  refine⟨.sl _ _ _ r.read fun c hc=>?_,.inr ⟨φ.full,rows.map clm,by simp,k2⟩⟩
  simp only[zx,ycg]at hc
  obtain⟨x,hx,hc⟩:=hc
  rw[zmS (k1 x hx).2 c hc]
  exact(k1 x hx).1
theorem zwC{σ:AS}{v:AV}{f:F}(h:Al.FVO σ v f):(∀c∈v.cells,Cb σ.F c)∧FV (clm v) f:=by
 obtain⟨pv,lv,tv,rfl,a,b,c⟩:=h
 refine⟨fun x hx=>?_,clm pv,clm lv,clm tv,by simp,(zeQ a).2,(zeQ b).2,(zmT c).2⟩
 simp only[AV.cells,ybC,ycf,or_false]at hx
 rcases hx with rfl|rfl|rfl|rfl|rfl
 ·exact .str _
 ·exact(zeQ a).1
 ·exact(zeQ b).1
 ·exact .int _ _
 ·exact(zmT c).1
theorem zqR{σ:AS}{v:AV}{m:M}(h:Al.MO σ v m):Cb σ.F v∧MV (clm v) m:=by
 obtain⟨fv,rfl,h⟩:=h
 have key:Cb σ.F fv∧FsV (clm fv) m.funcs:=by
  rcases h with ⟨h,rfl⟩|⟨φ,rows,rfl,r,k⟩
  ·exact⟨.nilsl,.inl ⟨h,by simp⟩⟩
  ·obtain⟨k1,k2⟩:=zhN (P:=fun v=>∀c∈v.cells,Cb σ.F c) (Q':=FV) (fun v a q=>zwC q) k
   refine⟨.sl _ _ _ r.read fun c hc=>?_,.inr ⟨φ.full,rows.map clm,by simp,k2⟩⟩
   simp only[zx,ycg]at hc
   obtain⟨x,hx,hc⟩:=hc
   exact k1 x hx c hc
 refine⟨.agg _ fun c hc=>?_,clm fv,by simp,key.2⟩
 simp only[ybC,ycf,or_false]at hc
 rcases hc with rfl|rfl|rfl
 ·exact key.1
 ·exact .int _ _
 ·exact .int _ _
section
variable {G : Env} {σ : AS} {R : Out → AS → Prop}
end
@[simp] theorem zyY(t i k r):zd9 t ((i,.tmp k)::r)=false:=by simp[zd9]
@[simp] theorem zyZ(t i n r):zd9 t ((i,.const (.int .i64 n))::r)=false:=by simp[zd9]
@[simp] theorem zy0(t i n r):zd9 t ((i,.const (.string n))::r)=false:=by simp[zd9]
theorem zpp(f:BitVec 8→BitVec 8→BitVec 8)(a b:UInt8):zbP .u8 f (a.toNat:Int) (b.toNat:Int)=((f a.toBitVec b.toBitVec).toNat:Int):=by
 have e1:BitVec.ofInt 8 (a.toNat:Int)=a.toBitVec:=by
  apply BitVec.eq_of_toNat_eq
  simp
 have e2:BitVec.ofInt 8 (b.toNat:Int)=b.toBitVec:=by
  apply BitVec.eq_of_toNat_eq
  simp
 show yb3 .u8 ((f (BitVec.ofInt 8 (a.toNat:Int)) (BitVec.ofInt 8 (b.toNat:Int))).toNat:Int)=_
 rw[e1,e2]
 have:=(f a.toBitVec b.toBitVec).isLt
 simp[yb3,yao,yap]
 omega
@[simp] theorem zCM(bs:List UInt8):(B bs).length=bs.length:=by simp[B]
end Go.Proofs.YtohfclafhegadaaGreatDoor



namespace Go.Proofs.YtohfclafhegadaaGreatDoor
open Go Go.Abs
def zkF:List UInt8:=[97,100,100,32,115,117,98,32,109,117,108,32,100,105,118,95,115,32,114,101,109,95,115,32,97,110,100,32,111,114,32,120,111,114,32,115,104,108,32,115,104,114,95,115,32,101,113,32,110,101,32,108,116,95,115,32,103,116,95,115,32,108,101,95,115,32,103,101,95,115]
def ziP:List (List UInt8):=[[97,100,100],[115,117,98],[109,117,108],[100,105,118,95,115],[114,101,109,95,115],[97,110,100],[111,114],[120,111,114],[115,104,108],[115,104,114,95,115],[101,113],[110,101],[108,116,95,115],[103,116,95,115],[108,101,95,115],[103,101,95,115]]
def zdf(c:UInt8):Bool:=c==32||(9≤c&&c≤13)
def zdg:List AV:=(List.range 256).map fun c=>.int .u8 (if zdf (UInt8.ofNat c)then 1 else 0)
def pw(op ty n:Int):W:={ op:=op,ty:=ty,n:=n,body:=0,other:=0,name:=[] }
theorem zeR(c:UInt8):zdg[c.toNat]?=some (.int .u8 (if zdf c then 1 else 0)):=by
 have h:c.toNat<256:=c.toNat_lt
 have:∀k:Fin 256,zdg[k.1]?=some (.int .u8 (if zdf (UInt8.ofNat k.1)then 1 else 0)):=by
  intro k;simp[zdg]
 have:=this ⟨c.toNat,h⟩
 simpa using this
def fC(L:List UInt8):Nat→Nat × Bool × UInt8
 | 0=>(0,true,0)
 | i+1=>let c:=L.getD i 0;let p:=fC L i;(p.1+(if p.2.1&&!zdf c then 1 else 0),zdf c,p.2.2 ||| c)
def fS(L:List UInt8):Nat→Nat × Nat
 | 0=>(0,0)
 | i+1=>if zdf (L.getD i 0)then(i+1,(fS L i).2+1)else fS L i
theorem zpq(L:List UInt8):∀k,(fC L k).1≤k:=by
 intro k
 induction k with
 | zero=>simp[fC]
 | succ k ih=>simp only[fC];split<;>omega
def zbF(T:List (List UInt8))(k:Nat):List AV:=(T.take k).map yce++yaj (T.length-k) (.str [])
structure zpr(L:List UInt8)(T:List (List UInt8))(e:Nat):Prop where
 len:L.length≤1000
 tl:T.length≤1000
 fact:∀i:Fin L.length,(zdf (L.getD i 0)=true→T[(fS L i).2]?=some ((L.take i).drop (fS L i).1)∧(fS L i).2<T.length∧(fS L i).1≤i∧i.1+1<L.length∧zdf (L.getD (i.1+1) 0)=false∧fS L (i.1+1)=(i.1+1,(fS L i).2+1))∧(zdf (L.getD i 0)=false→fS L (i.1+1)=fS L i)
 cnt:fC L L.length=(T.length,false,(fC L L.length).2.2)
 low:(fC L L.length).2.2.toNat<128
 head:∃c r,L=c::r∧zdf c=false
 fin:fS L L.length=(e,T.length-1)
 lt:e<L.length
 last:T[T.length-1]?=some (L.drop e)
theorem zfF{T:List (List UInt8)}{k:Nat}{b:List UInt8}(h:T[k]?=some b):splice (zbF T k) k [.str b]=zbF T (k+1):=by
 have hk:=(yaq.1 h).1
 have ht:=zmO h
 have hA:((T.take k).map yce).length=k:=by simp;omega
 unfold splice zbF
 rw[List.take_left' hA,ht,List.map_append]
 have e:T.length-k=(T.length-(k+1))+1:=by omega
 have hd:((T.take k).map yce++yaj (T.length-k) (yce [])).drop (k+[yce b].length)=yaj (T.length-(k+1)) (yce []):=by
  rw[List.drop_append,yci (by rw[hA];simp),hA,e]
  simp
 rw[hd]
 simp
theorem zlu{T:List (List UInt8)}(hT:T.length≤1000){σ:AS}{K:AV→AS→Prop}:zle yb5 22 (.int .i64 (T.length:Int)) (.int .i64 (T.length:Int)) σ K=K (.slm σ.no 0 1 T.length) (σ.newO (zbF T 0)):=by
 have e1:zbM yb5 22=some 1:=by kernel_rfl
 have e2:zaS yb5 22=some 16:=by kernel_rfl
 have e3:zaD yb5 22=some (.str []):=by kernel_rfl
 have e5:zx (yaj T.length (yce []))=yaj T.length (yce []):=by
  generalize T.length=n
  induction n with
  | zero=>rfl
  | succ n ih=>simp only[zx,List.replicate_succ,List.flatMap_cons]at *;rw[ih];rfl
 simp[zle,e1,e2,e3,AV.cells,AV.known,e5,zbF]
 exact⟨fun q=>q.2.2,fun q=>⟨by omega,by omega,q⟩⟩
section
variable {G : Env} {σ : AS} {R : Out → AS → Prop}
def F1(L:List UInt8)(σ:AS)(a:Nat→AV)(τ:AS):Prop:=∃i:Nat,i≤L.length∧a 0=.str L∧a 3=.int .i64 ((fC L i).1:Nat)∧a 4=.int .i64 (if(fC L i).2.1 then 1 else 0)∧a 5=.int .u8 ((fC L i).2.2.toNat:Nat)∧a 6=.int .i64 (i:Nat)∧τ=σ
def F4(L:List UInt8)(T:List (List UInt8))(σ:AS)(x:Nat)(a:Nat→AV)(τ:AS):Prop:=∃i:Nat,i≤L.length∧a 0=.str L∧a 9=.slm x 0 1 T.length∧a 10=.int .i64 ((fS L i).2:Nat)∧a 11=.int .i64 ((fS L i).1:Nat)∧a 12=.int .i64 (i:Nat)∧zf σ τ∧x<τ.no∧τ.objs x=some (zbF T (fS L i).2)
theorem zd0{L:List UInt8}{T:List (List UInt8)}{e:Nat}(hok:zpr L T e)(v3:G.g 0=.pv (.stat true) (.agg zdg))(h:∀x σ',zf σ σ'→σ.no≤x→x<σ'.no→σ'.objs x=some (T.map yce)→R (.ret (.slm x 0 1 T.length)) σ'):zzQ G 57 [.str L] σ R:=by
 refine zrZ rfl ?_
 have hL:=hok.len
 have hT:=hok.tl
 simp[zBH]
 refine zK (F1 L σ) (MU 6 (L.length+1)) ⟨0,by omega,by simp,by simp[fC],by simp[fC],by simp[fC],by simp,rfl⟩ fun a τ hI=>?_
 obtain⟨i,hi,a0,a3,a4,a5,a6,rfl⟩:=hI
 by_cases hlt:i<L.length
 ·have hlt':(i:Int)<(L.length:Int):=by omega
  have hg:=yau hlt
  have hf:fC L (i+1)=((fC L i).1+(if(fC L i).2.1&&!zdf L[i]then 1 else 0),zdf L[i],(fC L i).2.2 ||| L[i]):=by simp[fC,hg]
  have hn:=zpq L i
  generalize L[i]=c at *
  have hs:=zeR c
  have w1:yb3 .i64 ((i:Int)+1)=((i+1:Nat):Int):=by rw[wrap_i64]<;>omega
  have w0:∀b:UInt8,zbP .u8 (· ||| ·) (b.toNat:Int) (c.toNat:Int)=((b ||| c).toNat:Int):=fun b=>zpp (· ||| ·) b c
  have c1:(c.toNat:Int)<256:=by have:=c.toNat_lt;omega
  generalize fC L i=p at *
  obtain⟨n,ws,b⟩:=p
  have w2:yb3 .i64 ((n:Int)+1)=((n+1:Nat):Int):=by rw[wrap_i64]<;>omega
  have w3:yb3 .i64 (n:Int)=(n:Int):=by rw[wrap_i64]<;>omega
  have w4:yb3 .i64 0=0:=rfl
  have w5:yb3 .i64 1=1:=rfl
  have z0:zbP .i64 (· ^^^ ·) (-1) 0=-1:=by decide
  have z1:zbP .i64 (· ^^^ ·) (-1) 1=-2:=by decide
  have z2:zbP .i64 (· &&& ·) 1 (-1)=1:=by decide
  have z3:zbP .i64 (· &&& ·) 1 (-2)=0:=by decide
  have z4:zbP .i64 (· &&& ·) 0 (-1)=0:=by decide
  have z5:zbP .i64 (· &&& ·) 0 (-2)=0:=by decide
  have z6:yao .i64=true:=rfl
  cases hsp:zdf c<;>cases ws<;>simp only[hsp,if_true,if_false,Bool.false_eq_true]at hs hf a4 ⊢<;>simp at hn a3 a5<;>simp[zjI,a0,a3,a4,a5,a6,hlt',hg,v3,hs,c1,w0,w1,w2,w3,w4,w5,z0,z1,z2,z3,z4,z5,z6,-UInt8.toNat_or]<;>refine⟨⟨i+1,by omega,by simp[a0],by simp[hf],by simp[hf,hsp],by simp[hf],by simp,rfl⟩,?_⟩<;>simp only[MU,a6]<;>simp<;>omega
 ·have hie:i=L.length:=by omega
  subst hie
  have e1:=hok.cnt
  have e2:¬(128:Int)≤((fC L L.length).2.2.toNat:Nat):=by have:=hok.low;omega
  rw[e1]at a3 a4 a5
  simp[zjI,zmC,a0,a3,a4,a5,a6,e2,zlu hT]
  refine zK (fun a2 τ2=>a2 0=.str L∧a2 9=.slm τ.no 0 1 T.length∧a2 10=.int .i64 0∧a2 12=.int .i64 0∧τ2=τ.newO (zbF T 0)) (fun _ _=>0) ⟨by simp[a0],by simp,by simp,by simp,rfl⟩ fun a2 τ2 hI2=>?_
  obtain⟨b0,b9,b10,b12,rfl⟩:=hI2
  obtain⟨q0,r0,hLc,hsp0⟩:=hok.head
  have w5:0<L.length:=by rw[hLc];simp
  have g0:L[0]'w5=q0:=by simp[hLc]
  have t0:=zeR q0
  rw[hsp0]at t0
  have q256:(q0.toNat:Int)<256:=by have:=q0.toNat_lt;omega
  simp at t0
  simp[zmx,zmB,b0,b9,b10,b12,g0,t0,v3,w5,q256]
  refine zK (F4 L T τ τ.no) (MU 12 (L.length+1)) ⟨0,by omega,by simp[b0],by simp[b9],by simp[b10,fS],by simp[fS],by simp[b12],(zf.refl τ).newO,by simp,by simp[fS]⟩ fun a3 τ3 hI3=>?_
  obtain⟨i,hi,c0,c9,c10,c11,c12,hA,hx,ho⟩:=hI3
  by_cases hlt:i<L.length
  ·have hlt':(i:Int)<(L.length:Int):=by omega
   have hg:=yau hlt
   obtain⟨f1,f2⟩:=hok.fact ⟨i,hlt⟩
   have hgd:L.getD i 0=L[i]:=by simp[hg]
   simp only[hgd]at f1 f2
   have w1:yb3 .i64 ((i:Int)+1)=((i+1:Nat):Int):=by rw[wrap_i64]<;>omega
   generalize L[i]=c at *
   have hs:=zeR c
   have c1:(c.toNat:Int)<256:=by have:=c.toNat_lt;omega
   cases hsp:zdf c with
   | false =>
    rw[hsp]at hs
    have f2:=f2 hsp
    simp at hs
    simp[zhn,c0,c9,c10,c11,c12,hlt',hg,v3,hs,c1,w1]
    refine⟨⟨i+1,by omega,by simp[c0],by simp[c9],by simp[c10,f2],by simp[c11,f2],by simp,hA,hx,by simp[ho,f2]⟩,?_⟩
    simp only[MU,c12];simp;omega
   | true =>
    rw[hsp]at hs
    obtain⟨g1,g2,g3,g4,g5,g6⟩:=f1 hsp
    simp at hs
    simp[zhn,c0,c9,c10,c11,c12,hlt',hg,v3,hs,c1,w1,ho]
    have hlen:(zbF T (fS L i).2).length=T.length:=by
     simp only[zbF,yab,ybb,ybf,yba]
     omega
    refine⟨g3,by omega,by omega,by omega,?_⟩
    refine zK (fun b τ4=>b 0=.str L∧b 9=.slm τ.no 0 1 T.length∧b 10=.int .i64 (((fS L i).2+1:Nat):Int)∧b 12=.int .i64 ((i+1:Nat):Int)∧zf τ τ4∧τ.no<τ4.no∧τ4.objs τ.no=some (zbF T ((fS L i).2+1))) (fun _ _=>0) ⟨by simp[c0],by simp[c9],by simp;rw[wrap_i64]<;>omega,by simp,hA.setO (by omega),by simp;exact hx,by simp;exact zfF g1⟩ fun b τ4 hI4=>?_
    obtain⟨d0,d9,d10,d12,hA4,hx4,ho4⟩:=hI4
    have hlt2:(((i+1:Nat):Int))<(L.length:Int):=by omega
    have hlt3:i+1<L.length:=by omega
    have hg2:=yau hlt3
    have hgd2:L.getD (i+1) 0=L[i+1]:=by simp[hg2]
    simp only[hgd2]at g5
    generalize L[i+1]=c' at *
    have hs2:=zeR c'
    rw[g5]at hs2
    have c1':(c'.toNat:Int)<256:=by have:=c'.toNat_lt;omega
    simp at hs2
    simp only[Int.natCast_add,Int.natCast_one]at d12 hlt2
    simp[zmy,zmz,d0,d9,d10,d12,hlt2,hg2,v3,hs2,c1']
    refine⟨by omega,⟨i+1,by omega,by simp[d0],by simp[d9],by simp[d10,g6],by simp[g6],by simp[d12],hA4,hx4,by simp[ho4,g6]⟩,?_⟩
    simp only[MU,c12];simp[d12];omega
  ·have hie:i=L.length:=by omega
   subst hie
   have e3:=hok.fin
   have hlast:=hok.last
   obtain⟨n,hn⟩:∃n,T.length=n+1:=⟨T.length-1,by have:=(yaq.1 hlast).1;omega⟩
   have e4:T.length-1=n:=by omega
   rw[e4]at e3 hlast
   rw[e3]at c10 c11 ho
   have w7:=hok.lt
   have w6:(e:Int)<(L.length:Int):=by omega
   have hnT:n<T.length:=by omega
   have hnTi:(n:Int)<(T.length:Int):=by omega
   simp at c10 c11 ho
   simp[zhn,zmA,c0,c9,c10,c11,c12,ho,w6,w7,hnT,hnTi]
   have hlen:(zbF T n).length=T.length:=by
    simp only[zbF,yab,ybb,ybf,yba]
    omega
   refine⟨by omega,by omega,?_⟩
   rw[zfF hlast]
   refine h τ.no _ (hA.setO (by omega)) (by omega) (by simpa using hx) ?_
   simp[zbF,←hn]
theorem zsz:zpr zkF ziP 66:=⟨by decide,by decide,by decide,by decide,by decide,⟨97,_,rfl,by decide⟩,by decide,by decide,by decide⟩
theorem fields_calls(v3:G.g 0=.pv (.stat true) (.agg zdg))(h:∀x σ',zf σ σ'→σ.no≤x→x<σ'.no→σ'.objs x=some (ziP.map yce)→R (.ret (.slm x 0 1 16)) σ'):zzQ G 57 [.str zkF] σ R:=zd0 zsz v3 h
end
end Go.Proofs.YtohfclafhegadaaGreatDoor



namespace Go.Proofs.YtohfclafhegadaaGreatDoor
open Go Go.Abs
def zhO(w:W):Bool:=decide (w.op=11)||decide (w.op=12)||decide (w.op=13)
end Go.Proofs.YtohfclafhegadaaGreatDoor








namespace Go.Proofs.YtohfclafhegadaaGreatDoor
open Go Go.Abs
theorem RepO.len{σ:AS}{v:AV}{l:List W}(h:Al.RepO σ v l)(K:AV→Prop):zia yb5 54 v K=K (.int .i64 (l.length:Int)):=by
 rcases h with ⟨rfl,rfl⟩|⟨b,rfl,_⟩<;>simp
theorem RepO.at{σ:AS}{v:AV}{l:List W}(h:Al.RepO σ v l){i:Nat}(hi:i<l.length):∃φ,Al.Rd σ φ∧∀K:AV→Prop,zy yb5 54 v (.int .i64 (i:Int)) K=K (.pv φ l[i].av):=by
 rcases h with ⟨rfl,_⟩|⟨φ,rfl,r⟩
 ·simp at hi
 ·exact⟨φ,r,fun K=>by simp[hi]⟩
def RgW(w:W):Prop:=-(2^63)≤w.n∧w.n<2^63
section
variable {G : Env} {σ : AS} {R : Out → AS → Prop}
end
end Go.Proofs.YtohfclafhegadaaGreatDoor




namespace Go.Proofs.YtohfclafhegadaaGreatDoor
open Go Go.Abs
theorem zgI:∀{l:List (List UInt8 × List UInt8)} {s:List UInt8},zc0 l s≠[]→s∈l.map (·.1)
 | [],s,h=>by simp[zc0]at h
 | (x,y)::r,s,h=>by
  rw[zc0]at h
  split at h
  ·rename_i e;simp[e]
  ·simp only[yaL,ybC];exact .inr (zgI h)
abbrev Tok:=List UInt8
def zI(w:W):Tok :=
 if w.op=1 then zw w.ty++[46,99,111,110,115,116]else if w.op=2 then [108,111,99,97,108,46,103,101,116]else if w.op=3 then [108,111,99,97,108,46,115,101,116]else if w.op=10 then [99,97,108,108]else if w.op=14 then [98,114]else if w.op=15 then [98,114,95,105,102]
 else if w.op=4 then zw w.ty++46::w.name else if w.op=5 then zw w.ty++[46,101,113,122]else if w.op=6 then [105,51,50,46,119,114,97,112,95,105,54,52]else if w.op=7 then [105,54,52,46,101,120,116,101,110,100,95,105,51,50,95,115]
 else if w.op=8 then zw w.ty++(if w.n=1 then [46,108,111,97,100,56,95,115]else [46,108,111,97,100])else if w.op=9 then zw w.ty++(if w.n=1 then [46,115,116,111,114,101,56]else [46,115,116,111,114,101])
 else if w.op=16 then [114,101,116,117,114,110]else if w.op=17 then [117,110,114,101,97,99,104,97,98,108,101]else [100,114,111,112]
def za8(w:W):Bool:=decide (w.op=1)||decide (w.op=2)||decide (w.op=3)||decide (w.op=10)||decide (w.op=14)||decide (w.op=15)
def zeF(w:W):List Tok:=if za8 w=true then [zI w,Lib.itoa w.n]else [zI w]
def zmU(w:W):W :=
 { op:=w.op,ty:=if w.op=1∨w.op=4∨w.op=5∨w.op=8∨w.op=9 then w.ty else 0,n:=if za8 w=true∨w.op=8∨w.op=9 then w.n else 0,body:=0,other:=0,name:=if w.op=4 then w.name else [] }
def zwD(op b o:Int):W:={ op:=op,ty:=0,n:=0,body:=b,other:=o,name:=[] }
def zcy(op:Int):Tok:=if op=11 then zbE else if op=12 then zdY else tIf
inductive PrB(B:Nat)(ls:To):Nat→List W→To→List Tok→List W→To→Prop
 | nil (d acc):PrB B ls d [] acc [] [] acc
 | leaf {d w r acc t r' acc'}:zhO w=false→ziK w=true→RgW w→PrB B ls d r acc t r' acc'→PrB B ls d (w::r) acc (zeF w++t) (zmU w::r') acc'
 | one {d w b r acc tb b' acc1 t r' acc'}:(w.op=11∨w.op=12∨w.op=13∧w.other<0)→d<B→0≤w.body→ls[w.body.toNat]?=some b→PrB B ls (d+1) b acc tb b' acc1→PrB B ls d r (acc1++[b']) t r' acc' →
   PrB B ls d (w::r) acc (zcy w.op::(tb++zb7::t)) (zwD w.op acc1.length (if w.op=13 then -1 else 0)::r') acc'
 | two {d w b e r acc tb b' acc1 te e' acc2 t r' acc'}:w.op=13→0≤w.other→d<B→0≤w.body→ls[w.body.toNat]?=some b→ls[w.other.toNat]?=some e→PrB B ls (d+1) b acc tb b' acc1→PrB B ls (d+1) e (acc1++[b']) te e' acc2→PrB B ls d r (acc2++[e']) t r' acc' →
   PrB B ls d (w::r) acc (tIf::(tb++za2::(te++zb7::t))) (zwD 13 acc1.length acc2.length::r') acc'
abbrev Pr:=PrB 400
def zBc:List Tok:=[[34,101,110,118,34],[34,105,110,34],[34,111,117,116,34],[34,116,114,97,112,34],[34,109,97,105,110,34]]
def zBd(t:Tok):Bool:=(!t.isEmpty&&t.all fun c=>!zaW c)||((t==zL||t==zi)||zBc.contains t)
def zps:List Tok→List UInt8
 | []=>[10]
 | t::r=>32::(t++zps r)
def zBe(t:Tok):Bool:=zBd t&&(decide (zM t=0)&&(!(t==zb7)&&(!(t==zi)&&(!(t==za2)&&!(t==zL)))))
theorem zpt:∀s∈signs.map (·.1),∀t∈[1,2],(zBe (zw t++46::s)=true∧zt zax (zw t++46::s)=none∧zt zaJ (zw t++46::s)=some { op:=4,ty:=t,n:=0,body:=0,other:=0,name:=s }):=by decide
theorem zpu{t:Tok}{w:W}(h1:zt zax t=none)(h2:zt zaJ t=some w)(s:Ts):zaP t s=.ok (w,s):=by
 unfold zaP
 rw[h1]
 simp only[h2]
def zCz(B:Nat)(f:F)(toks:List Tok)(ls':To):Prop:=∃row out acc,f.lists[f.lists.length-1]?=some row∧PrB B f.lists 0 row [] toks out acc∧ls'=acc++[out]
abbrev PrF:=zCz 400
def zaL(kw:Tok)(l:List Int):List Tok:=if l=[]then []else zL::kw::(l.map zw++[zi])
def zpv(t:Int):List Tok:=if t=0 then []else [zL,zdX,zw t,zi]
def ziQ(f:F)(toks:List Tok):List Tok:=zL::zbD::(36::f.name)::(zaL zbn f.params++(zpv f.type++(zaL zbo f.locals++(toks++[zi]))))
structure Pf(mx:Nat)(f:F):Prop where
 name:zdL mx f.name=true
 params:∀t∈f.params,t=1∨t=2
 locals:∀t∈f.locals,t=1∨t=2
 type:f.type=0∨f.type=1∨f.type=2
inductive PrFsB(B:Nat):List F→List Tok→List F→Prop
 | nil:PrFsB B [] [] []
 | cons {f fs toks ls' ts fs'}:zCz B f toks ls'→PrFsB B fs ts fs'→PrFsB B (f::fs) (ziQ f toks++ts) ({ f with lists:=ls' }::fs')
abbrev zBf:=PrFsB 400
def zCA:List Tok:=[zL,zbx,zgi,zL,zbD]
def zd1(m:M)(toks:List Tok):List Tok:=zaX++(Lib.itoa m.memory::zi::zi::(toks++(zCA++(Lib.itoa (yb3 .i64 (m.main+3))::[zi,zi,zi]))))
theorem zhP(x:Int):(-(2^63)≤yb3 .i64 x∧yb3 .i64 x<2^63)∧∃k:Int,yb3 .i64 x=x+2^64*k:=by
 simp only[yb3,yao,yap,Bool.true_and]
 split
 ·rename_i k
  have k:=of_decide_eq_true k
  exact⟨by omega,-(x/2^64)-1,by omega⟩
 ·rename_i k
  have k:=of_decide_eq_false (eq_false_of_ne_true k)
  exact⟨by omega,-(x/2^64),by omega⟩
def zmV(ts:List Tok):List UInt8:=(zps ts).tail
theorem zlv{t:Tok}{n:Int}(h:zgh t=.ok n):-(2^63)≤n∧n<2^63:=by
 have h0:=h
 unfold zgh at h0
 split at h0
 ·cases h0
 ·rename_i hb
  simp only[Bool.or_eq_true,Bool.not_eq_true',not_or,Bool.not_eq_true,Bool.not_eq_false]at hb
  have hne:zX t≠[]:=fun e=>by rw[e]at hb;simp at hb
  rw[zhH hne hb.2]at h0
  by_cases o:-(2^63)≤zdl t∧zdl t<2^63
  ·rw[if_pos o]at h0
   simp only at h0
   split at h0
   ·cases h0;exact o
   ·cases h0
  ·rw[if_neg o]at h0
   simp at h0
theorem zep{s s':Ts}{n:Int}(h:zB s=.ok (n,s')):(-(2^63)≤n∧n<2^63)∧s'.ls=s.ls:=by
 unfold zB zY at h
 split at h
 ·cases h
 ·rename_i p _
  simp only[Except.bind]at h
  cases hn:zgh p.1 with
  | error e=>rw[hn]at h;cases h
  | ok m =>
   rw[hn]at h
   simp only[Except.map,Except.ok.injEq,Prod.mk.injEq]at h
   obtain⟨rfl,rfl⟩:=h
   exact⟨zlv hn,rfl⟩
def zlw(w:W):Bool:=ziK w&&(!zhO w&&(decide (zmU w=w)&&(decide (-(2^63)≤w.n)&&decide (w.n<2^63))))
theorem zmW:∀p∈zaJ,zlw p.2=true:=by decide
theorem zpw:∀p∈zax,((p.2.op=1∧(p.2.ty=1∨p.2.ty=2))∨((p.2.op=2∨p.2.op=3∨p.2.op=10∨p.2.op=14∨p.2.op=15)∧p.2.ty=0))∧p.2.body=0∧p.2.other=0∧p.2.name=[]:=by decide
theorem zmX{w:W}(h:zlw w=true):ziK w=true∧zhO w=false∧zmU w=w∧RgW w:=by
 simp only[zlw,Bool.and_eq_true,Bool.not_eq_true',decide_eq_true_eq]at h
 exact⟨h.1,h.2.1,h.2.2.1,h.2.2.2.1,h.2.2.2.2⟩
theorem zmY{w:W}(h:∃p∈zax,p.2=w){n:Int}(hn:-(2^63)≤n∧n<2^63):zlw { w with n:=n }=true:=by
 obtain⟨p,hp,rfl⟩:=h
 obtain⟨h1,h2,h3,h4⟩:=zpw p hp
 obtain⟨t,op,ty,m,body,other,name⟩:=p
 simp only at h1 h2 h3 h4
 subst h2 h3 h4
 rcases h1 with ⟨rfl,rfl|rfl⟩|⟨rfl|rfl|rfl|rfl|rfl,rfl⟩<;>(simp[zlw,ziK,zhO,zmU,za8,zfA];omega)
theorem ziR{l:List (List UInt8 × W)}{t:Tok}{w:W}(h:zt l t=some w):∃p∈l,p.2=w:=by
 unfold zt at h
 rw[ybB]at h
 obtain⟨p,h1,h2⟩:=h
 exact⟨p,ycj h1,h2⟩
theorem zlx{t:Tok}{s s':Ts}{w:W}(h:zaP t s=.ok (w,s')):zlw w=true∧s'.ls=s.ls:=by
 unfold zaP at h
 split at h
 ·rename_i v hv
  cases hq:zB s with
  | error e=>rw[hq]at h;cases h
  | ok p =>
   rw[hq]at h
   obtain⟨n,s1⟩:=p
   simp only[Except.map,Except.ok.injEq,Prod.mk.injEq]at h
   obtain⟨rfl,rfl⟩:=h
   obtain⟨h1,h2⟩:=zep hq
   exact⟨zmY (ziR hv) h1,h2⟩
 ·split at h
  ·rename_i v hv
   cases h
   obtain⟨p,hp,rfl⟩:=ziR hv
   exact⟨zmW p hp,rfl⟩
  ·cases h
theorem zkG(t:Tok):zM t=0∨zM t=11∨zM t=12∨zM t=13:=by
 unfold zM
 split
 ·simp
 ·split
  ·simp
  ·split<;>simp
theorem bind_some{α β:Type}{r:Res α}{f:α→Res β}{y:β}(h:r.bind f=.ok y):∃x,r=.ok x∧f x=.ok y:=by
 cases r with
 | error e=>cases h
 | ok x=>exact⟨x,rfl,h⟩
theorem map_some{α β:Type}{r:Res α}{f:α→β}{y:β}(h:r.map f=.ok y):∃x,r=.ok x∧f x=y:=by
 cases r with
 | error e=>cases h
 | ok x=>simp only[Except.map,Except.ok.injEq]at h;exact⟨x,rfl,h⟩
theorem zpx{s s':Ts}{t:Tok}(h:zY s=.ok (t,s')):s'.ls=s.ls:=by
 unfold zY at h
 split at h
 ·cases h
 ·cases h;rfl
theorem zbY{α:Type}{a:List α}{x:α}{fin:List α}(h:a++[x]<+:fin):fin[a.length]?=some x:=by
 obtain⟨z,rfl⟩:=h
 rw[yck,yaI (yah _)]
 simp
theorem ziS{ls:To}{d:Nat}{ws:List W}{acc acc':To}{toks:List Tok}{out:List W}(h:Pr ls d ws acc toks out acc'):acc<+:acc':=by
 induction h with
 | nil=>exact ycl _
 | leaf _ _ _ _ ih=>exact ih
 | one _ _ _ _ _ _ ih1 ih2=>exact ih1.trans ((ycm _ _).trans ih2)
 | two _ _ _ _ _ _ _ _ _ ih1 ih2 ih3=>exact ih1.trans ((ycm _ _).trans (ih2.trans ((ycm _ _).trans ih3)))
theorem zcM{fin:To}:∀(k d:Nat) (o:Bool) (l:List W) (s:Ts) (n:Int) (e:Tok) (s':Ts),zp k d o l s=.ok ((n,e),s')→s'.ls<+:fin→∃out toks acc',s'.ls=acc'++[l++out]∧n=acc'.length∧Pr fin d out s.ls toks out acc'∧zeD d o e=true
 | 0,d,o,l,s,n,e,s',h,_=>by cases h
 | k+1,d,o,l,s,n,e,s',h,hp=>by
  rw[zp]at h
  obtain⟨⟨t,s1⟩,h1,h2⟩:=bind_some h
  have e1:=zpx h1
  simp only at h2
  by_cases hd:zeD d o t=true
  ·rw[if_pos hd]at h2
   cases h2
   exact⟨[],[],s1.ls,by simp,rfl,by rw[←e1];exact .nil d s1.ls,hd⟩
  ·rw[if_neg hd]at h2
   obtain⟨⟨w,s2⟩,h3,h4⟩:=bind_some h2
   simp only at h4
   obtain⟨out,toks,acc',q1,q2,q3,q4⟩:=zcM k d o (l++[w]) s2 n e s' h4 hp
   unfold zan at h3
   by_cases h0:zM t=0
   ·rw[if_pos h0]at h3
    obtain⟨g1,g2⟩:=zlx h3
    obtain⟨b1,b2,b3,b4⟩:=zmX g1
    refine⟨w::out,zeF w++toks,acc',by rw[q1];simp,q2,?_,q4⟩
    rw[g2,e1]at q3
    have:=PrB.leaf b2 b1 b4 q3
    rw[b3]at this
    exact this
   ·rw[if_neg h0]at h3
    unfold zR at h3
    by_cases h400:400<d+1
    ·rw[if_pos h400]at h3;cases h3
    ·rw[if_neg h400]at h3
     obtain⟨⟨⟨n1,t1⟩,s3⟩,h5,h6⟩:=bind_some h3
     simp only at h6
     have hpre:s2.ls<+:fin:=(ziS q3).trans ((ycm _ _).trans (q1▸hp))
     have hop:=zkG t
     by_cases h13:zM t=13
     ·rw[if_pos h13]at h6
      by_cases hel:t1=za2
      ·rw[if_pos hel]at h6
       obtain⟨⟨⟨n2,t2⟩,s4⟩,h7,h8⟩:=map_some h6
       simp only[Prod.mk.injEq]at h8
       obtain⟨rfl,rfl⟩:=h8
       obtain⟨o2,u2,a2,r1,r2,r3,r4⟩:=zcM k (d+1) false [] s3 n2 t2 s4 h7 hpre
       have hpre3:s3.ls<+:fin:=(ziS r3).trans ((ycm _ _).trans (r1▸hpre))
       obtain⟨o1,u1,a1,p1,p2,p3,p4⟩:=zcM k (d+1) _ [] s1 n1 t1 s3 h5 hpre3
       simp only[ycn]at p1 r1
       have f1:=zbY (p1▸hpre3)
       have f2:=zbY (r1▸hpre)
       rw[e1]at p3
       rw[p1]at r3
       rw[r1]at q3
       refine⟨{ op:=13,ty:=0,n:=0,body:=n1,other:=n2,name:=[] }::out,tIf::(u1++za2::(u2++zb7::toks)),acc',by rw[q1];simp only[yck,yco,ycn],q2,?_,q4⟩
       have:=PrB.two (ls:=fin) (w:={ op:=13,ty:=0,n:=0,body:=n1,other:=n2,name:=[] }) rfl (by rw[r2];simp) (show d<400 by omega) (by rw[p2];simp) (by rw[p2];simpa using f1) (by rw[r2];simpa using f2) p3 r3 q3
       rw[←p2,←r2]at this
       exact this
      ·rw[if_neg hel]at h6
       simp only[Except.ok.injEq,Prod.mk.injEq]at h6
       obtain⟨rfl,rfl⟩:=h6
       obtain⟨o1,u1,a1,p1,p2,p3,p4⟩:=zcM k (d+1) _ [] s1 n1 t1 s3 h5 hpre
       simp only[ycn]at p1
       have f1:=zbY (p1▸hpre)
       rw[e1]at p3
       rw[p1]at q3
       refine⟨{ op:=13,ty:=0,n:=0,body:=n1,other:=-1,name:=[] }::out,zcy 13::(u1++zb7::toks),acc',by rw[q1];simp only[yck,yco,ycn],q2,?_,q4⟩
       have:=PrB.one (ls:=fin) (w:={ op:=13,ty:=0,n:=0,body:=n1,other:=-1,name:=[] }) (.inr (.inr ⟨rfl,by simp⟩)) (show d<400 by omega) (by rw[p2];simp) (by rw[p2];simpa using f1) p3 q3
       rw[←p2]at this
       exact this
     ·rw[if_neg h13]at h6
      simp only[Except.ok.injEq,Prod.mk.injEq]at h6
      obtain⟨rfl,rfl⟩:=h6
      obtain⟨o1,u1,a1,p1,p2,p3,p4⟩:=zcM k (d+1) _ [] s1 n1 t1 s3 h5 hpre
      simp only[ycn]at p1
      have f1:=zbY (p1▸hpre)
      rw[e1]at p3
      rw[p1]at q3
      refine⟨{ op:=zM t,ty:=0,n:=0,body:=n1,other:=0,name:=[] }::out,zcy (zM t)::(u1++zb7::toks),acc',by rw[q1];simp only[yck,yco,ycn],q2,?_,q4⟩
      have:=PrB.one (ls:=fin) (w:={ op:=zM t,ty:=0,n:=0,body:=n1,other:=0,name:=[] }) (by simp only;omega) (show d<400 by omega) (by rw[p2];simp) (by rw[p2];simpa using f1) p3 q3
      rw[if_neg (by simpa using h13),←p2]at this
      exact this
theorem zbZ:∀(k:Nat) (l:List Int) (s:Ts) (r:List Int) (s':Ts),zam k l s=.ok (r,s')→(∀t∈l,t=1∨t=2)→r≠[]∧∀t∈r,t=1∨t=2
 | 0,l,s,r,s',h,_=>by cases h
 | k+1,l,s,r,s',h,hl=>by
  rw[zam]at h
  obtain⟨⟨t,s1⟩,_,h2⟩:=bind_some h
  simp only at h2
  split at h2
  ·exact zbZ k _ _ r s' h2 fun x hx=>by
    rcases ybh.1 hx with hx|hx
    ·exact hl x hx
    ·simp at hx;exact .inl hx
  ·split at h2
   ·exact zbZ k _ _ r s' h2 fun x hx=>by
     rcases ybh.1 hx with hx|hx
     ·exact hl x hx
     ·simp at hx;exact .inr hx
   ·split at h2
    ·rename_i hc
     cases h2
     exact⟨hc.2,hl⟩
    ·cases h2
theorem zgJ{kw:Tok}{s s':Ts}{r:List Int}(h:zaQ kw s=.ok (r,s')):∀t∈r,t=1∨t=2:=by
 unfold zaQ at h
 split at h
 ·exact(zbZ _ _ _ _ _ h (by simp)).2
 ·cases h;simp
theorem zmZ{s s':Ts}{t:Int}(h:zhI s=.ok (t,s')):t=0∨t=1∨t=2:=by
 unfold zhI at h
 split at h
 ·obtain⟨⟨r,s1⟩,h1,h2⟩:=bind_some h
  have h3:=(zbZ _ _ _ _ _ h1 (by simp)).2
  simp only at h2
  split at h2
  ·rename_i hl
   cases h2
   match r,hl with
   | [x],_=>have:=h3 x (by simp);simp;omega
  ·cases h2
 ·cases h;exact .inl rfl
theorem zgl{mx:Nat}{s s':Ts}{f:F}(h:zC mx s=.ok (f,s')):Pf mx f∧∃toks,PrF f toks f.lists:=by
 unfold zC at h
 obtain⟨⟨t,s1⟩,_,h⟩:=bind_some h
 simp only at h
 split at h
 ·rename_i hn
  obtain⟨⟨ps,s2⟩,h2,h⟩:=bind_some h
  obtain⟨⟨ty,s3⟩,h3,h⟩:=bind_some h
  obtain⟨⟨ls,s4⟩,h4,h⟩:=bind_some h
  obtain⟨⟨⟨n,e⟩,s5⟩,h5,h⟩:=map_some h
  simp only[Prod.mk.injEq]at h
  obtain⟨rfl,rfl⟩:=h
  obtain⟨out,toks,acc',q1,q2,q3,q4⟩:=zcM (fin:=s5.ls) _ _ _ _ _ _ _ _ h5 (ycl _)
  simp only[ycn]at q1
  refine⟨⟨hn.2,zgJ h2,zgJ h4,zmZ h3⟩,toks,out,out,acc',?_,q3,q1⟩
  simp only[q1,yab,yac,ybl,Nat.add_sub_cancel]
  simp
 ·cases h
theorem zcz{mx:Nat}:∀(k:Nat) (acc:List F) (s:Ts) (fs:List F) (s':Ts),zA mx k acc s=.ok (fs,s')→∃gs toks,fs=acc++gs∧zBf gs toks gs∧∀f∈gs,Pf mx f
 | 0,acc,s,fs,s',h=>by cases h
 | k+1,acc,s,fs,s',h=>by
  rw[zA]at h
  split at h
  ·cases h
   exact⟨[],[],by simp,.nil,by simp⟩
  ·obtain⟨⟨f,s2⟩,h1,h2⟩:=bind_some h
   obtain⟨p1,t1,p2⟩:=zgl h1
   obtain⟨gs,ts,e,q1,q2⟩:=zcz k _ _ fs s' h2
   refine⟨f::gs,_,by rw[e];simp,.cons p2 q1,fun g hg=>?_⟩
   rcases ybC.1 hg with rfl|hg
   ·exact p1
   ·exact q2 g hg
theorem zm0{mx:Nat}{b:List UInt8}{m:M}(h:zaK mx b=.ok m):∃toks,zBf m.funcs toks m.funcs∧(∀f∈m.funcs,Pf mx f)∧(-(2^63)≤m.memory∧m.memory<2^63)∧(-(2^63)≤m.main∧m.main<2^63):=by
 unfold zaK at h
 obtain⟨⟨m',s0⟩,h0,e0⟩:=map_some h
 simp only at e0
 subst e0
 clear h
 unfold zbp at h0
 obtain⟨s1,_,h⟩:=bind_some h0
 obtain⟨⟨mem,s2⟩,hm,h⟩:=bind_some h
 obtain⟨s3,_,h⟩:=bind_some h
 obtain⟨⟨fs,s4⟩,hf,h⟩:=bind_some h
 obtain⟨s5,_,h⟩:=bind_some h
 obtain⟨⟨mn,s6⟩,hn,h⟩:=bind_some h
 obtain⟨s7,_,h⟩:=bind_some h
 split at h
 ·cases h
  obtain⟨gs,toks,e,q1,q2⟩:=zcz _ _ _ _ _ hf
  simp only[ycn]at e
  subst e
  exact⟨toks,q1,q2,(zep hm).1,(zhP _).1⟩
 ·cases h
def zbq(σ:AS)(x f:Nat):Prop:=∃cs v,σ.objs x=some cs∧cs[1]?=some v∧zgj v=some f
structure zO(x:Nat)(σ σ':AS):Prop where
 no:σ.no≤σ'.no
 nf:σ.nf≤σ'.nf
 obj:∀o,o<σ.no→o≠x→σ'.objs o=σ.objs o
 fam:∀f,f<σ.nf→¬zbq σ x f→σ'.F f=σ.F f
 use:∀f,f<σ.nf→zbq σ' x f→zbq σ x f
theorem zO.refl(x σ):zO x σ σ:=⟨yah _,yah _,fun _ _ _=>rfl,fun _ _ _=>rfl,fun _ _ h=>h⟩
theorem zO.trans{x σ σ1 σ2}(h:zO x σ σ1)(h':zO x σ1 σ2):zO x σ σ2 where
 no:=yai h.no h'.no
 nf:=yai h.nf h'.nf
 obj o a b:=by rw[h'.obj o (yag a h.no) b,h.obj o a b]
 fam f a b:=by rw[h'.fam f (yag a h.nf) fun u=>b (h.use f a u),h.fam f a b]
 use f a u:=h.use f a (h'.use f (yag a h.nf) u)
theorem zf.keepR{x σ σ'}(h:zf σ σ')(hx:x<σ.no):zO x σ σ' where
 no:=h.no
 nf:=h.nf
 obj o a _:=h.obj o a
 fam f a _:=h.fam f a
 use f _ u:=by unfold zbq at *;rwa [h.obj x hx]at u
structure zS(x:Nat)(σ σ':AS):Prop where
 no:σ.no≤σ'.no
 nf:σ.nf≤σ'.nf
 obj:∀o,o<σ.no→o≠x→σ'.objs o=σ.objs o
 fam:∀f,f<σ.nf→σ'.F f=σ.F f
 lst:∀cs,σ.objs x=some cs→∃cs',σ'.objs x=some cs'∧cs'[1]?=cs[1]?
 some:(σ.objs x).isSome=true
theorem zS.refl{x σ cs}(h:σ.objs x=yaR cs):zS x σ σ:=⟨yah _,yah _,fun _ _ _=>rfl,fun _ _=>rfl,fun cs h=>⟨cs,h,rfl⟩,by rw[h];rfl⟩
theorem zS.trans{x σ σ1 σ2}(h:zS x σ σ1)(h':zS x σ1 σ2):zS x σ σ2 where
 no:=yai h.no h'.no
 nf:=yai h.nf h'.nf
 obj o a b:=by rw[h'.obj o (yag a h.no) b,h.obj o a b]
 fam f a:=by rw[h'.fam f (yag a h.nf),h.fam f a]
 lst cs e:=by
  obtain⟨c1,e1,e2⟩:=h.lst cs e
  obtain⟨c2,e3,e4⟩:=h'.lst c1 e1
  exact⟨c2,e3,e4.trans e2⟩
 some:=h.some
theorem zS.r{x σ σ'}(h:zS x σ σ'):zO x σ σ' where
 no:=h.no
 nf:=h.nf
 obj:=h.obj
 fam f a _:=h.fam f a
 use f a u:=by
  obtain⟨cs,v,h1,h2,h3⟩:=u
  obtain⟨c0,hc0⟩:=Option.isSome_iff_exists.1 h.some
  obtain⟨c1,e1,e2⟩:=h.lst c0 hc0
  rw[h1]at e1
  cases e1
  exact⟨c0,v,hc0,by rw[←e2];exact h2,h3⟩
theorem zf.keepS{x σ σ' cs}(h:zf σ σ')(hx:x<σ.no)(ho:σ.objs x=yaR cs):zS x σ σ' where
 no:=h.no
 nf:=h.nf
 obj o a _:=h.obj o a
 fam f a:=h.fam f a
 lst cs e:=⟨cs,(h.obj x hx).trans e,rfl⟩
 some:=by rw[ho];rfl
theorem zS.set{x σ cs cs'}(ho:σ.objs x=yaR cs)(h:cs'[1]?=cs[1]?):zS x σ (σ.setO x cs') where
 no:=yah _
 nf:=yah _
 obj o _ ho:=by simp[ho]
 fam f _:=rfl
 lst c e:=⟨cs',by simp,by rw[h];rw[ho]at e;cases e;rfl⟩
 some:=by rw[ho];rfl
theorem zS.endF{x σ τ}(K:zS x σ τ){g:Nat}(hg:σ.nf≤g):zS x σ (τ.setF g .dead) where
 no:=K.no
 nf:=K.nf
 obj:=K.obj
 fam f a:=by
  have:¬f=g:=by omega
  simp[this]
  exact K.fam f a
 lst:=K.lst
 some:=K.some
theorem zS.newF{x σ τ}(K:zS x σ τ):zS x σ τ.newF where
 no:=K.no
 nf:=ycp K.nf
 obj:=K.obj
 fam f a:=by
  have:=K.nf
  have:¬f=τ.nf:=by omega
  simp[this]
  exact K.fam f a
 lst:=K.lst
 some:=K.some
theorem zS.mrg{x σ τ}(K:zS x σ τ){g:Nat}(hg:σ.nf≤g):zS x σ (τ.mrg g fun _=>false) where
 no:=K.no
 nf:=K.nf
 obj o a b:=by simpa [AS.mrg]using K.obj o a b
 fam f a:=by
  have:¬f=g:=by omega
  simp[AS.mrg,zf2,this]
  exact K.fam f a
 lst cs e:=by
  obtain⟨c1,e1,e2⟩:=K.lst cs e
  exact⟨c1,by simpa [AS.mrg]using e1,e2⟩
 some:=K.some
def zCS:Go.Abs.Own→Option Nat
 | .stat _=>none
 | .fam f _=>some f
def ToR(base:Nat)(σ:AS)(v:AV)(tO:To):Prop:=(tO=[]∧v=.nilsl)∨∃g tos,v=.sl (.fam g false) 1 tos∧base≤g∧g<σ.nf∧σ.F g=.alive∧All2 Al.RepE tos tO
theorem ToR.one{base σ v bs}(h:ToR base σ v bs):v.known=true∧v.one=true∧v.cells=[v]:=by rcases h with ⟨_,rfl⟩|⟨b,_,rfl,_⟩<;>simp
section
variable {G : Env} {σ : AS} {R : Out → AS → Prop}
end
def zgm(σ0:AS)(x sz:Nat)(τ:AS)(v:AV)(xs:List AV):Prop:=(xs=[]∧v=.nilsl)∨∃g,v=.sl (.fam g false) sz xs∧σ0.nf≤g∧g<τ.nf∧τ.F g=.alive∧¬zbq τ x g
theorem zgm.one{σ0 x sz τ v xs}(h:zgm σ0 x sz τ v xs):v.known=true∧v.one=true∧v.cells=[v]:=by rcases h with ⟨_,rfl⟩|⟨b,rfl,_⟩<;>simp
theorem zgm.keep{σ0 x sz τ τ' v xs}(h:zgm σ0 x sz τ v xs)(K:zO x τ τ'):zgm σ0 x sz τ' v xs:=by
 rcases h with h|⟨g,h1,h2,h3,h4,h5⟩
 ·exact .inl h
 ·exact .inr ⟨g,h1,h2,yag h3 K.nf,(K.fam g h3 h5).trans h4,fun u=>h5 (K.use g h3 u)⟩
theorem zO.endF{x σ τ}(K:zO x σ τ){g:Nat}(hg:σ.nf≤g):zO x σ (τ.setF g .dead) where
 no:=K.no
 nf:=K.nf
 obj:=K.obj
 fam f a b:=by
  have:¬f=g:=by omega
  simp[this]
  exact K.fam f a b
 use f a u:=K.use f a u
theorem zO.newF{x σ τ}(K:zO x σ τ):zO x σ τ.newF where
 no:=K.no
 nf:=ycp K.nf
 obj:=K.obj
 fam f a b:=by
  have:=K.nf
  have:¬f=τ.nf:=by omega
  simp[this]
  exact K.fam f a b
 use f a u:=K.use f a u
section
variable {G : Env} {σ : AS} {R : Out → AS → Prop}
end
theorem zO.setO{x σ τ o cs}(K:zO x σ τ)(ho:σ.no≤o)(hox:o≠x):zO x σ (τ.setO o cs) where
 no:=K.no
 nf:=K.nf
 obj p a b:=by
  have:¬p=o:=by omega
  simp[this]
  exact K.obj p a b
 fam f a b:=K.fam f a b
 use f a u:=K.use f a (by
  obtain⟨cs',v,h1,h2,h3⟩:=u
  have:¬x=o:=fun e=>hox e.symm
  simp[this]at h1
  exact⟨cs',v,h1,h2,h3⟩)
section
variable {G : Env} {σ : AS} {R : Out → AS → Prop}
end
end Go.Proofs.YtohfclafhegadaaGreatDoor


namespace Go.Proofs.YtohfclafhegadaaGreatDoor
open Go Go.Abs
structure zd2(x fo:Nat)(σ σ':AS):Prop where
 no:σ.no≤σ'.no
 nf:σ.nf≤σ'.nf
 obj:∀o,o<σ.no→o≠x→o≠fo→σ'.objs o=σ.objs o
 fam:∀f,f<σ.nf→σ'.F f=σ.F f
theorem zd2.trans{x fo σ σ1 σ2}(h:zd2 x fo σ σ1)(h':zd2 x fo σ1 σ2):zd2 x fo σ σ2 where
 no:=yai h.no h'.no
 nf:=yai h.nf h'.nf
 obj o a b c:=by rw[h'.obj o (yag a h.no) b c,h.obj o a b c]
 fam f a:=by rw[h'.fam f (yag a h.nf),h.fam f a]
theorem zS.f{x fo σ σ'}(h:zS x σ σ'):zd2 x fo σ σ':=⟨h.no,h.nf,fun o a b _=>h.obj o a b,h.fam⟩
theorem zd2.setO{x fo σ σ' o cs}(h:zd2 x fo σ σ')(ho:o=x∨o=fo∨σ.no≤o):zd2 x fo σ (σ'.setO o cs) where
 no:=h.no
 nf:=h.nf
 obj p a b c:=by
  have:¬p=o:=by rcases ho with h|h|h<;>omega
  simp[this]
  exact h.obj p a b c
 fam:=h.fam
theorem zd2.adds0{x fo σ0 σ σ'}(K:zd2 x fo σ σ')(A:zf σ0 σ)(hx:σ0.no≤x)(hf:σ0.no≤fo):zf σ0 σ':=⟨yai A.no K.no,yai A.nf K.nf,fun o ho=>by
 have:=A.no
 rw[K.obj o (by omega) (by omega) (by omega),A.obj o ho],fun f hf=>by
 have:=A.nf
 rw[K.fam f (by omega),A.fam f hf]⟩
section
variable {G : Env} {σ : AS} {R : Out → AS → Prop}
end
end Go.Proofs.YtohfclafhegadaaGreatDoor

namespace Go.Proofs.YtohfclafhegadaaGreatDoor
open Go Go.Abs
theorem zS.adds0{x σ0 σ σ'}(K:zS x σ σ')(A:zf σ0 σ)(hx:σ0.no≤x):zf σ0 σ':=⟨yai A.no K.no,yai A.nf K.nf,fun o ho=>by
 have:=A.no
 rw[K.obj o (by omega) (by omega),A.obj o ho],fun f hf=>by
 have:=A.nf
 rw[K.fam f (by omega),A.fam f hf]⟩
structure Fn(x mo fo:Nat)(C:List AV)(τ:AS):Prop where
 ob:τ.objs fo=some C
 lt:fo<τ.no
 fx:fo≠x
 fm:fo≠mo
section
variable {G : Env} {σ : AS} {R : Out → AS → Prop}
end
theorem zm1{v p}(h:Al.FVE v p):v.cells.length=5:=by
 obtain⟨pv,lv,tv,rfl,_⟩:=h
 rfl
section
variable {G : Env} {σ : AS} {R : Out → AS → Prop}
end
end Go.Proofs.YtohfclafhegadaaGreatDoor





namespace Go.Proofs.YtohfclafhegadaaGreatDoor
open Go Go.Abs
def zhQ(ls:To):Nat:=(ls.map yb8).sum
theorem zly(a:To)(l:List W):zhQ (a++[l])=zhQ a+l.length:=by simp[zhQ]
end Go.Proofs.YtohfclafhegadaaGreatDoor
set_option maxRecDepth 100000
namespace Go.Proofs.YtohfclafhegadaaGreatDoor.Hd
open Go Go.Abs Go.Proofs.YtohfclafhegadaaGreatDoor
theorem fok:zpr zaI zaX 176:=⟨by decide,by decide,by decide,by decide,by decide,⟨_,_,rfl,by decide⟩,by decide,by decide,by decide⟩
theorem fields_calls{G:Env}{σ:AS}{R:Out→AS→Prop}(v3:G.g 0=.pv (.stat true) (.agg zdg))(h:∀x σ',zf σ σ'→σ.no≤x→x<σ'.no→σ'.objs x=some (zaX.map yce)→R (.ret (.slm x 0 1 47)) σ'):zzQ G 57 [.str zaI] σ R:=zd0 fok v3 h
end Go.Proofs.YtohfclafhegadaaGreatDoor.Hd
namespace Go.Proofs.YtohfclafhegadaaGreatDoor
open Go Go.Abs
def inS(l:List UInt8)(c:UInt8):Bool:=l.contains c
def zpy:List AV:=yaj 256 (.bool false)
theorem zb0:zpy.length=256:=yba ..
theorem zpz{i:Nat}(h:i<256):zpy[i]?=some (.bool false):=by
 unfold zpy
 rw[List.getElem?_replicate,if_pos h]
theorem zsA:zN yb5 151=some (.agg zpy):=by kernel_rfl
attribute [simp] zsA
def zdC:List UInt8→List AV→List AV
 | [],cs=>cs
 | c::r,cs=>zdC r (splice cs c.toNat [.bool true])
def zgK(l:List UInt8):List AV:=zdC l zpy
theorem zgL:∀(l:List UInt8) (cs:List AV),cs.length=256→(zdC l cs).length=256
 | [],cs,h=>h
 | c::r,cs,h=>by
  have:=c.toNat_lt
  rw[zdC]
  refine zgL r _ ?_
  simp only[splice,yab,ybf,yac,ybl,ycq]
  omega
theorem zcN(l:List UInt8):(zgK l).length=256:=zgL l _ zb0
theorem zjQ{cs:List AV}{i j:Nat}{v:AV}(hi:i<cs.length):(splice cs i [v])[j]?=if j=i then some v else cs[j]?:=by
 unfold splice
 by_cases h:j<i
 ·rw[yck,List.getElem?_append_left (by simp;omega),ycr h,if_neg (by omega)]
 ·by_cases h2:j=i
  ·subst h2
   rw[yck,yaI (by simp;omega)]
   have:j-(cs.take j).length=0:=by simp;omega
   rw[this];simp
  ·rw[yaI (by simp;omega),if_neg h2,List.getElem?_drop]
   congr 1
   simp;omega
theorem zgM:∀(l:List UInt8) (cs:List AV) (b:UInt8),cs.length=256→(zdC l cs)[b.toNat]?=if l.contains b=true then some (.bool true)else cs[b.toNat]?
 | [],cs,b,h=>by simp[zdC]
 | c::r,cs,b,h=>by
  have hc:=c.toNat_lt
  rw[zdC,zgM r _ b (by simp only[splice,yab,ybf,yac,ybl,ycq];omega),zjQ (by omega)]
  by_cases h1:r.contains b=true
  ·simp[h1]
   simp at h1
   simp[h1]
  ·by_cases h2:b=c
   ·subst h2;simp
   ·have:¬b.toNat=c.toNat:=fun e=>h2 (UInt8.toNat_inj.1 e)
    simp at h1
    simp[h1,h2,this]
theorem zpA(l:List UInt8)(b:UInt8):(zgK l)[b.toNat]?=some (.bool (inS l b)):=by
 have:=b.toNat_lt
 rw[zgK,zgM l _ b zb0,zpz this]
 unfold inS
 cases l.contains b<;>rfl
theorem zgN{cs:List AV}{i:Nat}{v:AV}(h:∀x∈cs,x.one=true)(hv:v.one=true):∀x∈splice cs i [v],x.one=true:=by
 intro x hx
 unfold splice at hx
 simp only[ybh,ych]at hx
 rcases hx with (hx|hx)|hx
 ·exact h x (List.mem_of_mem_take hx)
 ·rw[hx];exact hv
 ·exact h x (List.mem_of_mem_drop hx)
theorem zgO:∀(l:List UInt8) (cs:List AV),(∀x∈cs,x.one=true)→∀x∈zdC l cs,x.one=true
 | [],_,h=>h
 | c::r,cs,h=>zgO r _ (zgN h rfl)
theorem zhR(l:List UInt8):∀x∈zgK l,x.one=true:=zgO l _ fun x hx=>by rw[(ycs.1 hx).2];rfl
theorem zfG:List.drop 256 zpy=[]:=yci (by rw[zb0];exact yah _)
section
variable {G : Env} {σ : AS} {R : Out → AS → Prop}
def AsI(l:List UInt8)(σ:AS)(a:Nat→AV)(τ:AS):Prop:=∃(d r:List UInt8),l=d++r∧a 0=.str l∧a 2=.ptr σ.no 0∧a 4=.int .i64 (d.length:Int)∧zf σ τ∧σ.no<τ.no∧∃cs,cs.length=256∧(∀x∈cs,x.one=true)∧τ.objs σ.no=some cs∧zdC r cs=zgK l
theorem zb1{l:List UInt8}(hl:∀c∈l,c.toNat<128)(hL:l.length≤1000)(h:∀σ',zf σ σ'→R (.ret (.tuple [.agg (zgK l),.bool true])) σ'):zzQ G 122 [.str l] σ R:=by
 refine zoH rfl ?_
 simp[zve]
 refine zK (AsI l σ) (MU 4 (l.length+1)) ⟨[],l,rfl,by simp,by simp,by simp,(zf.refl σ).newO,by simp,zpy,zb0,fun x hx=>by rw[(ycs.1 hx).2];rfl,by simp,rfl⟩ fun a τ hI=>?_
 obtain⟨d,r,hlr,a0,a2,a4,hA,hno,cs,hcs,hone,ho,he⟩:=hI
 cases r with
 | nil =>
  have hd:d=l:=by simp[hlr]
  subst hd
  have hlt:¬((d.length:Int)<(d.length:Int)):=by omega
  have e1:cs=zgK d:=he
  subst e1
  have ht:yct 256 (zgK d)=zgK d:=ycu (by rw[hcs];exact yah _)
  simp[zht,zkp,a0,a2,a4,hlt,ho,hcs,splice,ht]
  exact⟨hone,h _ (hA.setO (yah _))⟩
 | cons c r =>
  have hc:=hl c (by simp[hlr])
  have hlt:(d.length:Int)<(l.length:Int):=by simp[hlr];omega
  have hi:l[d.length]?=some c:=by simp[hlr]
  have hc2:¬(128:Int)≤(c.toNat:Int):=by omega
  have w1:yb3 .i64 ((d.length:Int)+1)=((d.length+1:Nat):Int):=by rw[wrap_i64]<;>omega
  simp[zht,a0,a2,a4,hlt,ho,hcs,hi,hc2,w1]
  refine⟨by omega,by omega,⟨d++[c],r,by simp[hlr],by simp[a0],by simp[a2],by simp,hA.setO (yah _),by simpa using hno,_,?_,zgN hone rfl,by simp,he⟩,?_⟩
  ·simp only[splice,yab,ybf,yac,ybl,ycq]
   omega
  ·simp[MU,a4];omega
theorem zfH{l:List UInt8}{o:Nat}{b:UInt8}(ho:σ.objs o=some (zgK l))(h:R (.ret (.bool (inS l b))) σ):zzQ G 172 [.ptr o 0,.int .u8 (b.toNat:Int)] σ R:=by
 refine zo8 rfl ?_
 have hb:=b.toNat_lt
 have hb':(b.toNat:Int)<256:=by omega
 have hp:=zpA l b
 simp[zvw,ho,hb',hp]
 simpa using h
def TlI(l s:List UInt8)(o:Nat)(σ:AS)(a:Nat→AV)(τ:AS):Prop:=∃r:List UInt8,r.dropWhile (inS l)=s.dropWhile (inS l)∧a 0=.str r∧a 1=.ptr o 0∧τ=σ
def zy1(a:Nat→AV)(_:AS):Nat:=match a 0 with
 | .str r=>r.length
 | _=>0
theorem zeq{l s:List UInt8}{o:Nat}(ho:σ.objs o=some (zgK l))(h:R (.ret (.str (s.dropWhile (inS l)))) σ):zzQ G 123 [.str s,.ptr o 0] σ R:=by
 refine zoI rfl ?_
 simp[zvf]
 refine zK (TlI l s o σ) zy1 ⟨s,rfl,by simp,by simp,rfl⟩ fun a τ hI=>?_
 obtain⟨r,hr,a0,a1,rfl⟩:=hI
 cases r with
 | nil =>
  simp[zhu,zhv,a0,a1]
  rw[←hr]at h
  exact h
 | cons c r =>
  simp[zhu,zhv,a0,a1]
  refine zfH ho ?_
  rw[ycv]at hr
  cases hc:inS l c with
  | true =>
   rw[if_pos hc]at hr
   simp[hc,a0,a1]
   exact⟨by omega,⟨r,hr,by simp,by simp[a1],rfl⟩,by simp[zy1,a0]⟩
  | false =>
   rw[if_neg (by simp[hc])]at hr
   rw[←hr]at h
   simp[hc,a0,a1]
   exact h
theorem zjR{l s:List UInt8}(hl:∀c∈l,c.toNat<128)(h2:2≤l.length)(hL:l.length≤1000)(h:∀σ',zf σ σ'→R (.ret (.str (s.dropWhile (inS l)))) σ'):zzQ G 167 [.str s,.str l] σ R:=by
 refine zo5 rfl ?_
 have hne:¬l=[]:=by intro e;rw[e]at h2;simp at h2
 have h1:¬(l.length:Int)=1:=by omega
 cases s with
 | nil =>
  simp[zsn]
  exact h _ (.refl _)
 | cons c s =>
  simp[zsn,hne,h1]
  refine zb1 hl hL fun σ1 A1=>?_
  have ht:yct 256 (zgK l)=zgK l:=ycu (by rw[zcN];exact yah _)
  have hl6:=zcN l
  simp[hl6,splice,ht,zb0,zfG]
  refine⟨zhR l,zeq (l:=l) (by simp) ?_⟩
  simp
  exact h _ (A1.newO.setO A1.no)
def zeG(p:UInt8→Bool)(s:List UInt8):List UInt8:=(s.reverse.dropWhile p).reverse
theorem zlz(p:UInt8→Bool)(s:List UInt8)(c:UInt8):zeG p (s++[c])=if p c=true then zeG p s else s++[c]:=by
 unfold zeG
 rw[List.reverse_append]
 simp only[List.reverse_cons,List.reverse_nil,ycn,List.singleton_append,ycv]
 split<;>simp
def TrI(l s:List UInt8)(o:Nat)(σ:AS)(a:Nat→AV)(τ:AS):Prop:=∃r:List UInt8,r.length≤s.length∧zeG (inS l) r=zeG (inS l) s∧a 0=.str r∧a 1=.ptr o 0∧τ=σ
theorem ziT{l s:List UInt8}{o:Nat}(hs:s.length<2^62)(ho:σ.objs o=some (zgK l))(h:R (.ret (.str (zeG (inS l) s))) σ):zzQ G 124 [.str s,.ptr o 0] σ R:=by
 refine zoJ rfl ?_
 simp[zvg]
 refine zK (TrI l s o σ) zy1 ⟨s,yah _,rfl,by simp,by simp,rfl⟩ fun a τ hI=>?_
 obtain⟨r,hrl,hr,a0,a1,rfl⟩:=hI
 rcases ybK r with rfl|⟨r',c,rfl⟩
 ·simp[zhw,zhx,a0,a1]
  rw[←hr]at h
  exact h
 ·rw[ycw]at *
  have w1:yb3 .i64 (r'.length:Int)=(r'.length:Int):=by rw[wrap_i64]<;>simp at hrl<;>omega
  have hlt:(0:Int)<(r'.length:Int)+1:=by omega
  simp[zhw,zhx,a0,a1,w1,hlt]
  refine zfH ho ?_
  rw[zlz]at hr
  cases hc:inS l c with
  | true =>
   rw[if_pos hc]at hr
   simp[hc,a0,a1,w1]
   exact⟨by omega,⟨r',by simp at hrl;omega,hr,by simp,by simp[a1],rfl⟩,by simp[zy1,a0]⟩
  | false =>
   rw[if_neg (by simp[hc])]at hr
   rw[←hr]at h
   simp[hc,a0,a1]
   exact h
def ziU(l s:List UInt8):List UInt8:=(zeG (inS l) s).dropWhile (inS l)
theorem zbG{p:UInt8→Bool}:∀{s:List UInt8},s.dropWhile p=[]↔s.all p=true
 | []=>by simp
 | c::r=>by
  rw[ycv]
  cases h:p c with
  | true=>simp only[if_true,yb6,h,Bool.true_and];exact zbG
  | false=>simp[h]
theorem zbH(l s:List UInt8):ziU l s=[]↔s.all (inS l)=true:=by
 unfold ziU
 rw[zbG]
 constructor
 ·intro h
  have hd:∀c∈zeG (inS l) s,inS l c=true:=yaM.1 h
  rcases ybK (zeG (inS l) s)with e|⟨d,x,e⟩
  ·unfold zeG at e
   rw[List.reverse_eq_nil_iff,zbG]at e
   rw[yaM]at e ⊢
   exact fun c hc=>e c (by simpa using hc)
  ·rw[ycw]at e
   have hx:inS l x=true:=hd x (by rw[e];simp)
   have e2:s.reverse.dropWhile (inS l)=x::d.reverse:=by
    have:=congrArg List.reverse e
    unfold zeG at this
    simpa using this
   have:=ycx (inS l) s.reverse
   rw[e2]at this
   simp at this hx
   rw[this]at hx;cases hx
 ·intro h
  rw[yaM]at h ⊢
  intro c hc
  unfold zeG at hc
  rw[List.mem_reverse]at hc
  exact h c (by have:=(yb7 _).mem hc;simpa using this)
theorem zd3{l s:List UInt8}(hl:∀c∈l,c.toNat<128)(h2:2≤l.length)(hL:l.length≤1000)(hs:s.length<2^62)(h:∀σ',zf σ σ'→R (.ret (.str (ziU l s))) σ'):zzQ G 62 [.str s,.str l] σ R:=by
 refine zr4 rfl ?_
 have hne:¬l=[]:=by intro e;rw[e]at h2;simp at h2
 have h1:¬(l.length:Int)=1:=by omega
 cases s with
 | nil =>
  simp[zAL]
  exact h _ (.refl _)
 | cons c s =>
  simp[zAL,hne,h1]
  refine zb1 hl hL fun σ1 A1=>?_
  have ht:yct 256 (zgK l)=zgK l:=ycu (by rw[zcN];exact yah _)
  have hl6:=zcN l
  simp[hl6,splice,ht,zb0,zfG]
  refine⟨zhR l,ziT (l:=l) hs (by simp) ?_⟩
  simp
  refine zeq (l:=l) (by simp) ?_
  simp
  exact h _ (A1.newO.setO A1.no)
def zjh(l s:List UInt8):Int:=match s.findIdx? (inS l)with
 | some i=>i
 | none=>-1
def IaI(l s:List UInt8)(σ:AS)(σ1:AS)(a:Nat→AV)(τ:AS):Prop:=∃(d r:List UInt8),s=d++r∧(∀c∈d,inS l c=false)∧a 0=.str s∧a 6=.ptr σ1.no 0∧a 8=.int .i64 (d.length:Int)∧τ=(σ1.newO zpy).setO σ1.no (zgK l)
theorem zm2{l d r:List UInt8}{c:UInt8}(hd:∀c∈d,inS l c=false)(hc:inS l c=true):zjh l (d++c::r)=d.length:=by
 unfold zjh
 rw[List.findIdx?_append,ycy.2 hd]
 simp[ycz,hc]
theorem ziV{l s:List UInt8}(h:∀c∈s,inS l c=false):zjh l s=-1:=by
 unfold zjh
 rw[ycy.2 h]
theorem zfI{l s:List UInt8}(hl:∀c∈l,c.toNat<128)(h2:2≤l.length)(hL:l.length≤1000)(h8:8<s.length)(hs:s.length<2^62)(h:∀σ',zf σ σ'→R (.ret (.int .i64 (zjh l s))) σ'):zzQ G 168 [.str s,.str l] σ R:=by
 refine zkw rfl ?_
 have hne:¬l=[]:=by intro e;rw[e]at h2;simp at h2
 have h1:¬(l.length:Int)=1:=by omega
 have h8':(8:Int)<(s.length:Int):=by omega
 simp[zso,hne,h1]
 refine zkB rfl ?_
 simp[zsq,h8']
 refine zb1 hl hL fun σ1 A1=>?_
 have ht:yct 256 (zgK l)=zgK l:=ycu (by rw[zcN];exact yah _)
 have hl6:=zcN l
 simp[hl6,splice,ht,zb0,zfG]
 refine⟨zhR l,?_⟩
 have A2:zf σ ((σ1.newO zpy).setO σ1.no (zgK l)):=A1.newO.setO A1.no
 refine zK (IaI l s σ σ1) (MU 8 (s.length+1)) ⟨[],s,rfl,by simp,by simp,by simp,by simp,rfl⟩ fun a τ hI=>?_
 obtain⟨d,r,hsr,hd,a0,a6,a8,rfl⟩:=hI
 cases r with
 | nil =>
  have e:d=s:=by simp[hsr]
  subst e
  simp[zhA,zkt,a0,a6,a8]
  rw[←ziV hd]
  exact h _ A2
 | cons c r =>
  have hlt:(d.length:Int)<(s.length:Int):=by simp[hsr];omega
  have hi:s[d.length]?=some c:=by simp[hsr]
  have w1:yb3 .i64 ((d.length:Int)+1)=((d.length+1:Nat):Int):=by rw[wrap_i64]<;>omega
  simp[zhA,a0,a6,a8,hlt,hi]
  refine zfH (l:=l) (by simp) ?_
  cases hc:inS l c with
  | true =>
   simp[hc,a0,a6,a8]
   have:=zm2 (r:=r) hd hc
   rw[hsr]at h
   rw[←this]
   exact h _ A2
  | false =>
   simp[hc,a0,a6,a8,w1]
   refine⟨⟨d++[c],r,by simp[hsr],?_,by simp[a0],by simp[a6],by simp,rfl⟩,?_⟩
   ·intro x hx
    rcases ybh.1 hx with hx|hx
    ·exact hd x hx
    ·simp at hx;subst hx;exact hc
   ·simp[MU,a8];omega
end
structure za9(G:Env):Prop where
 pow:G.fix 9=some (Lib.pow10Tab.map fun z=>Value.int .u64 z).toArray
 errR:∃t v,G.g 6=.pv (.stat true) (.iface t v)
 space:G.g 0=.pv (.stat true) (.agg zdg)
section
variable {G : Env} {σ : AS} {R : Out → AS → Prop}
theorem zer{s p:List UInt8}(h:R (.ret (.bool (decide (p.length≤s.length∧s.take p.length=p)))) σ):zzQ G 199 [.str s,.str p] σ R:=by
 refine zpg rfl ?_
 by_cases hl:p.length≤s.length
 ·have hl':(p.length:Int)≤(s.length:Int):=by omega
  simp[zsp,hl']
  simpa [hl]using h
 ·have hl':¬(p.length:Int)≤(s.length:Int):=by omega
  simp[zsp,hl']
  simpa [hl]using h
def zgn(p s:List UInt8):Bool:=decide (p.length≤s.length∧s.take p.length=p)
theorem zfJ(c:UInt8)(s:List UInt8):zgn [c] s=decide (s.head?=some c):=by
 cases s with
 | nil=>simp[zgn]
 | cons d s=>simp[zgn,eq_comm]
theorem zes{s p:List UInt8}(h:R (.ret (.tuple [.str (if zgn p s=true then s.drop p.length else s),.bool (zgn p s)])) σ):zzQ G 116 [.str s,.str p] σ R:=by
 refine zoC rfl ?_
 simp[zvb]
 refine zo6 rfl ?_
 simp[zvu]
 refine zer ?_
 rw[show decide (p.length≤s.length∧s.take p.length=p)=zgn p s from rfl]
 cases hp:zgn p s with
 | false =>
  rw[hp]at h
  simp
  simpa using h
 | true =>
  rw[hp]at h
  have hl:p.length≤s.length:=(of_decide_eq_true hp).1
  simp
  exact⟨by omega,by simpa using h⟩
theorem zhS{s p:List UInt8}(h:R (.ret (.str (if zgn p s=true then s.drop p.length else s))) σ):zzQ G 113 [.str s,.str p] σ R:=by
 refine zoA rfl ?_
 simp[zu9]
 refine zo4 rfl ?_
 simp[zvt]
 refine zer ?_
 rw[show decide (p.length≤s.length∧s.take p.length=p)=zgn p s from rfl]
 cases hp:zgn p s with
 | false =>
  rw[hp]at h
  simp
  simpa using h
 | true =>
  rw[hp]at h
  have hl:p.length≤s.length:=(of_decide_eq_true hp).1
  simp
  exact⟨by omega,by simpa using h⟩
theorem zsB{M:Mp}{F:Nat→FSt}{w:World}{v:AV}{cargs:Array Value}(hc:Cells M F w [v] cargs):∃c,cargs=#[c]∧VR M F w v c:=by
 obtain⟨c0,e0,v0⟩:=hc.2 0 _ rfl
 refine⟨c0,?_,v0⟩
 have hsz:cargs.size=1:=hc.1
 apply Array.ext
 ·simpa using hsz
 ·intro i h1 h2
  match i,h1 with
  | 0,_=>simpa using (yaU.1 e0).2
  | i+1,h=>omega
theorem zsC{M:Mp}{F:Nat→FSt}{w:World}{v u:AV}{cargs:Array Value}(hc:Cells M F w [v,u] cargs):∃c d,cargs=#[c,d]∧VR M F w v c∧VR M F w u d:=by
 obtain⟨c0,e0,v0⟩:=hc.2 0 _ rfl
 obtain⟨c1,e1,v1⟩:=hc.2 1 _ rfl
 refine⟨c0,c1,?_,v0,v1⟩
 have hsz:cargs.size=2:=hc.1
 apply Array.ext
 ·simpa using hsz
 ·intro i h1 h2
  match i,h1 with
  | 0,_=>simpa using (yaU.1 e0).2
  | 1,_=>simpa using (yaU.1 e1).2
  | i+2,h=>omega
theorem zcO(V:za9 G){n:Int}(hn:-(2^63)≤n∧n<2^63)(h:R (.ret (.str (Lib.itoa n))) σ):zzQ G 64 [.int .i64 n] σ R:=by
 refine ACalls.of_below fun M w cargs S g hc=>?_
 obtain⟨c,rfl,hv⟩:=zsB hc
 rw[hv.int_inv]
 obtain⟨_,t,fr,hh⟩:=g.fixed 9 _ V.pow
 have hn9 : Tryz.prog.globalNamed "internal/strconv.uint64pow10" = some 9 := by kernel_rfl
 have htab : Lib.TabIs Tryz.prog w "internal/strconv.uint64pow10" .u64 Lib.pow10Tab := by simp [Lib.TabIs, World.var?, hn9, hh]
 refine(Tryz.strconv_Itoa n (by omega) (by omega) w htab).mono fun e w' ⟨he,k,os,hw'⟩=>?_
 subst he hw'
 exact⟨⟨.str (Lib.itoa n),_,rfl,fun M F w=>VR.str' rfl,h⟩,Lib.below_grow _ w (yah _) k os⟩
theorem zlA(V:za9 G){t:List UInt8}(h0:zX t≠[])(h1:(zX t).all zH=true)(hl:t.length<2^40)
  (hs:∀n,Lib.atoiAll t=.ok n→R (.ret (.tuple [.int .i64 n,.nilif])) σ) (hr:Lib.atoiAll t=.range→∀k,R (.ret (.tuple [.int .i64 k,.iface 238 .undef])) σ):zzQ G 114 [.str t] σ R:=by
 refine ACalls.of_below fun M w cargs S g hc=>?_
 obtain⟨c,rfl,hv⟩:=zsB hc
 obtain⟨b,rfl,rfl⟩:=hv.str_inv
 have hbl:b.size=b.data.toList.length:=by simp
 cases hq:Lib.atoiAll b.data.toList with
 | ok n =>
  refine(Tryz.strconv_Atoi_ok b (by omega) n hq w).mono fun e w' ⟨he,hw'⟩=>?_
  subst he
  refine⟨⟨.tuple [.int .i64 n,.nilif],_,rfl,fun M F w=>.tuple _ _ rfl fun j h h'=>?_,hs n hq⟩,?_⟩
  ·match j,h with
   | 0,_=>exact .int ..
   | 1,_=>exact .nilif
  ·rcases hw' with rfl|⟨t,rfl⟩
   ·exact RowKit.Below.refl _ _
   ·exact⟨rfl,rfl,rfl,by rw[Lib.bytesWorld_size];omega,fun k hk=>Lib.bytesWorld_at_old w 5 t k hk⟩
 | range =>
  obtain⟨te,v,he6⟩:=V.errR
  have h6:=g.vars 6
  rw[he6]at h6
  obtain⟨ev,hcell,hev⟩:∃ev,w.cell? ⟨6,0,none⟩=some ev∧(ev=.nilIface∨∃te pe,ev=.iface te pe):=by
   cases h6 with
   | pv φ v B off cs hmem hc hv =>
    have h1:=hc trivial 0 (by simp[AV.cells])
    have h2:=hv trivial 0 (by simp[AV.cells])
    simp only[AV.cells,List.getElem_cons_zero]at h2
    generalize cs 0=c at h1 h2
    cases h2
    exact⟨_,h1,.inr ⟨_,_,rfl⟩⟩
  refine(Tryz.strconv_Atoi_range b (by omega) hq ev w hcell hev).mono fun e w' ⟨N,he,_,_,hb⟩=>?_
  subst he
  refine⟨⟨.tuple [.int .i64 (Lib.atoiSat b.data.toList),.iface 238 .undef],_,rfl,fun M F w=>.tuple _ _ rfl fun j h h'=>?_,hr hq _⟩,hb⟩
  match j,h with
  | 0,_=>exact .int ..
  | 1,_=>exact .iface _ _ _ (.undef _)
 | _ =>
  rw[zhH h0 h1]at hq
  split at hq<;>cases hq
theorem zdD{s:List UInt8}{c:UInt8}(hc:c.toNat<128)(h:R (.ret (.bool (s.contains c))) σ):zzQ G 170 [.str s,.int .i32 (c.toNat:Int)] σ R:=by
 refine ACalls.of_below fun M w cargs S g hcc=>?_
 obtain⟨x,y,rfl,hv,hu⟩:=zsC hcc
 obtain⟨b,rfl,rfl⟩:=hv.str_inv
 rw[hu.int_inv]
 refine(Tryz.strings_ContainsRune_ascii b (c.toNat:Int) w (by omega) (by omega)).mono fun e w' ⟨he,hw'⟩=>?_
 subst he hw'
 refine⟨⟨.bool _,_,rfl,fun M F w=>.bool _,?_⟩,RowKit.Below.refl _ _⟩
 have e0:∀l:List UInt8,(0≤Lib.indexByte l c)↔c∈l:=fun l=>by
  induction l with
  | nil=>simp[Lib.indexByte]
  | cons x l ih =>
   have hge:=Lib.indexByte_ge l c
   by_cases hx:x=c
   ·subst hx;simp[Lib.indexByte]
   ·have hx':¬c=x:=fun e=>hx e.symm
    simp only[Lib.indexByte,beq_iff_eq,hx,if_false,ybC,hx',false_or,←ih]
    split<;>omega
 have e:decide (0≤Lib.indexByte b.data.toList ((c.toNat:Int).toNat.toUInt8))=b.data.toList.contains c:=by
  have e1:((c.toNat:Int).toNat.toUInt8)=c:=by simp
  rw[e1,Bool.eq_iff_iff]
  simp[e0]
 rw[e]
 exact h
end
end Go.Proofs.YtohfclafhegadaaGreatDoor
namespace Go.Proofs.YtohfclafhegadaaGreatDoor
open Go Go.Abs Go.Shelf Go.RowKit Go.Lib
set_option maxHeartbeats 1000000 in
theorem zlB(r:Int)(w:World)(h1:128≤r)(h2:r≤1114111)(h3:r<55296∨57343<r):
  Calls yb5 236 #[.int .i32 r] w fun e w'=>e=.returned (.bool true)∧w'=w:=by
 by_cases h4:r<55296
 ·go_enter ycA,ycB
  go_wp2
  go_ret
  exact⟨rfl,rfl⟩
 ·have h5:57343<r:=by omega
  go_enter ycA,ycB
  go_wp2
  go_ret
  exact⟨rfl,rfl⟩
theorem zm3:∀{l:List UInt8} {c:UInt8},(∀b∈l,b≠c)→Lib.indexByte l c=-1
 | [],_,_=>rfl
 | x::l,c,h=>by
  have hx:¬x=c:=h x (by simp)
  have ih:=zm3 (l:=l) (c:=c) fun b hb=>h b (by simp[hb])
  simp[Lib.indexByte,hx,ih]
set_option maxHeartbeats 2000000 in
theorem zpB(s:ByteArray)(r:Int)(w:World)(h1:128≤r)(h2:r≤1114111)(h3:r<55296∨57343<r)(h4:r≠65533)(hs:∀(j:Nat) b,s.data.toList[j]?=some b→b.toNat<128):
  Calls yb5 205 #[.string s,.int .i32 r] w fun e w'=>e=.returned (.int .i64 (-1))∧Below w.heap.size w w':=by
 have e236:∀args w,(callFunc 236 args).run yb5 w=.ok (.enter 236 args) w:=enters_of ycA (by kernel_rfl) rfl
 have e227:∀args w,(callFunc 227 args).run yb5 w=.ok (.enter 227 args) w:=enters_of Tryz.func227 (by kernel_rfl) rfl
 have HA:Aside (∀(j:Nat) b,s.data.toList[j]?=some b→b.toNat<128):=hs
 clear hs
 obtain⟨q1,q2,q3⟩:=encode_facts r (by rw[validRune_eq];unfold validRune;exact decide_eq_true (by omega)) h1
 generalize hrs:Utf8.encode r=rs at q1 q2 q3
 obtain⟨n,hn⟩:∃n,rs.size=n+1:=⟨rs.size-1,by omega⟩
 have hz:(rs.size:Int)-1=(n:Int):=by omega
 have hnr:n<rs.size:=by omega
 have q4:128≤(rs[n]'hnr).toNat:=by
  have:=q3 (by omega)
  simpa [hn]using this
 clear q3
 go_enter ycC,ycD
 go_wp2_with (go_at_fn 236;refine(zlB r _ h1 h2 h3).mono ?_;rintro e w' ⟨rfl,hw⟩;rw[hw])
 subst hw
 go_step3
 go_wp2
 go_loopg [4,9,10,11,12] 0 (fun g _ v9 _ _ _ wx=>v9=.int .i64 (n:Int)∧wx=w')
 case atStart=>exact⟨rfl,rfl⟩
 case round =>
  obtain⟨rfl,rfl⟩:=hrel
  by_cases hlt:n<s.size
  ·have hlt':(n:Int)<(s.size:Int):=by omega
   go_wp2
   go_step3
   go_wp2
   have hnr':(n:Int)<(rs.size:Int):=by omega
   have hne:(((s[n]'hlt).toNat:Int) != ((rs[n]'hnr).toNat:Int))=true:=by
    have:=HA.out n (s[n]'hlt) (Lib.data_getElem? s n hlt)
    simp only[bne_iff_ne,ne_eq]
    omega
   have hib:∀a e:Nat,Lib.indexByte (s.extract a e).data.toList (((rs[n]'hnr).toNat:Int).toNat.toUInt8)=-1:=fun a e=>zm3 fun b hb q=>by
    obtain⟨j,hj,e⟩:=ya9 (mem_extract hb)
    have:=HA.out j b (by rw[yau hj,e])
    rw[q]at this
    simp at this
    omega
   have hle1:((n:Int)+1)≤(s.size:Int):=by omega
   have hle2:n+1≤s.size:=by omega
   have hwr:yb3 .i64 ((n:Int)+1)=(n:Int)+1:=by rw[Go.Abs.wrap_i64]<;>omega
   have hn3:(n:Int)≤3:=by omega
   have hle0:(0:Int)≤(n:Int)+1:=by omega
   have hle3:(0:Int)≤(n:Int)+1∧(n:Int)+1≤(s.size:Int):=⟨hle0,hle1⟩
   clear hn hz hrs q1 q2
   go_region
   go_wp2
   go_region_with (go_at_call 227;refine(Tryz.strings_IndexByte _ _ _).mono ?_;rintro e w' ⟨rfl,hw⟩;rw[hw,hib])
   go_wp2
   try rw[Exit.noGoto_ret]
   go_wp2
   try rw[Exit.noGoto_ret]
   go_ret
   exact⟨rfl,((Below.refl _ _).drew).drew⟩
  ·have hlt':¬(n:Int)<(s.size:Int):=by omega
   go_wp2
   go_ret
   exact⟨rfl,.refl ..⟩
set_option maxHeartbeats 2000000 in
theorem zsD(s:ByteArray)(w:World)(hs:∀(j:Nat) b,s.data.toList[j]?=some b→b.toNat<128):
  Calls yb5 205 #[.string s,.int .i32 65533] w fun e w'=>e=.returned (.int .i64 (-1))∧Below w.heap.size w w':=by
 have HA:Aside (∀(j:Nat) b,s.data.toList[j]?=some b→b.toNat<128):=hs
 clear hs
 go_enter ycC,ycD
 go_wp2
 go_loopg [4,5,6] s.size (fun g _ _ _ wx=>∃i:Nat,i+g=s.size∧wx=w.iter s i)
 case atStart=>exact⟨0,by omega,rfl⟩
 case round =>
  obtain⟨i,hig,rfl⟩:=hrel
  cases gk with
  | zero =>
   obtain rfl:i=s.size:=by omega
   have hnx:=run_next_end (P:=yb5) w s s.size
   go_wp2
   try rw[Exit.noGoto_ret]
   go_ret
   exact⟨rfl,(Below.refl _ _).alloc (yah _) _⟩
  | succ g =>
   have hi:i<s.size:=by omega
   obtain⟨x,hx⟩:∃x:UInt8,s[i]'hi=x:=⟨_,rfl⟩
   have hxl:s.data.toList[i]?=some x:=by rw[←hx];exact Lib.data_getElem? s i hi
   have hx128:x.toNat<128:=HA.out i x hxl
   have hnx:=fun ty=>run_next_ascii (P:=yb5) w s i ty hi (by rw[hx];exact hx128)
   rw[hx]at hnx
   have hxe:((x.toNat:Int)==65533)=false:=by rw[beq_eq_false_iff_ne];omega
   clear hxl hx
   go_wp2
   go_roundg g
   case measure=>omega
   case rel=>exact⟨i+1,by omega,rfl⟩
structure zqS(bs:List UInt8)(pos:Nat)(d:Nat × Nat):Prop where
 lo:128≤d.1
 hi:d.1≤1114111
 ok:d.1<55296∨57343<d.1
 w1:1≤d.2
 wl:pos+d.2≤bs.length
 all:∀j c,pos≤j→j<pos+d.2→bs[j]?=some c→128≤c.toNat
theorem zqT{bs:List UInt8}{j:Nat}{c:UInt8}(h:bs[j]?=some c):ByteArray.get! ⟨bs.toArray⟩ j=c:=by
 obtain⟨h1,h2⟩:=yaq.1 h
 show bs.toArray[j]! = c
 rw[getElem!_pos bs.toArray j (by simpa using h1)]
 simpa using h2
theorem zm4{bs:List UInt8}{pos:Nat}(h:pos<bs.length):(bs[pos].toNat<128∧Utf8.decode ⟨bs.toArray⟩ pos=(bs[pos].toNat,1))∨(128≤bs[pos].toNat∧zqS bs pos (Utf8.decode ⟨bs.toArray⟩ pos)):=by
 have h0:ByteArray.get! ⟨bs.toArray⟩ (pos+0)=bs[pos]:=zqT (yau h)
 have hsz:ByteArray.size ⟨bs.toArray⟩=bs.length:=by simp[ByteArray.size]
 have hb:bs[pos].toNat<256:=bs[pos].toNat_lt
 have one:∀j c,pos≤j→j<pos+1→bs[j]?=some c→128≤bs[pos].toNat→128≤c.toNat:=fun j c q1 q2 q3 q4=>by
  obtain rfl:j=pos:=by omega
  rw[yau h]at q3
  cases q3;exact q4
 have cont:∀k,(decide (pos+k<bs.length)&&(ByteArray.get! ⟨bs.toArray⟩ (pos+k)).toNat/64==2)=true→pos+k<bs.length∧128≤(ByteArray.get! ⟨bs.toArray⟩ (pos+k)).toNat∧(ByteArray.get! ⟨bs.toArray⟩ (pos+k)).toNat<192∧∀c,bs[pos+k]?=some c→128≤c.toNat:=fun k q=>by
  simp only[Bool.and_eq_true,decide_eq_true_eq,beq_iff_eq]at q
  refine⟨q.1,by omega,by omega,fun c hc=>?_⟩
  rw[zqT hc]at q
  omega
 by_cases hlt:bs[pos].toNat<128
 ·refine .inl ⟨hlt,?_⟩
  unfold Utf8.decode
  simp only[h0,hlt,if_true]
 ·refine .inr ⟨by omega,?_⟩
  have bad:zqS bs pos (Utf8.runeError,1):=⟨by decide,by decide,by decide,by decide,by simp only;omega,fun j c q1 q2 q3=>one j c q1 q2 q3 (by omega)⟩
  unfold Utf8.decode
  simp only[h0,hlt,if_false,hsz]
  generalize hf:(fun k=>(ByteArray.get! ⟨bs.toArray⟩ (pos+k)).toNat)=f at *
  have hfk:∀k,(ByteArray.get! ⟨bs.toArray⟩ (pos+k)).toNat=f k:=fun k=>by rw[←hf]
  simp only[hfk]at cont ⊢
  split
  ·rename_i c1
   rw[Bool.and_eq_true]at c1
   obtain⟨k1,k2,k3,k4⟩:=cont 1 c1.2
   have c0:bs[pos].toNat/32=6:=by simpa using c1.1
   split
   ·refine⟨by simp only;omega,by simp only;omega,by simp only;omega,by simp,by simp only;omega,fun j c q1 q2 q3=>?_⟩
    simp only at q2
    by_cases e:j=pos
    ·exact one j c q1 (by omega) q3 (by omega)
    ·obtain rfl:j=pos+1:=by omega
     exact k4 c q3
   ·exact bad
  ·split
   ·rename_i _ c1
    simp only[Bool.and_eq_true]at c1
    obtain⟨⟨c0,c1⟩,c2⟩:=c1
    obtain⟨k1,k2,k3,k4⟩:=cont 1 (by simpa using c1)
    obtain⟨l1,l2,l3,l4⟩:=cont 2 (by simpa using c2)
    have c0:bs[pos].toNat/16=14:=by simpa using c0
    split
    ·rename_i hv
     rw[Bool.and_eq_true]at hv
     have hv1:2048≤bs[pos].toNat%16*4096+f 1%64*64+f 2%64:=by simpa using hv.1
     have hv2:=hv.2
     rw[validRune_eq]at hv2
     have hv2:=of_decide_eq_true hv2
     refine⟨by simp only;omega,by simp only;omega,by simp only;omega,by simp,by simp only;omega,fun j c q1 q2 q3=>?_⟩
     simp only at q2
     by_cases e:j=pos
     ·exact one j c q1 (by omega) q3 (by omega)
     ·by_cases e1:j=pos+1
      ·subst e1;exact k4 c q3
      ·obtain rfl:j=pos+2:=by omega
       exact l4 c q3
    ·exact bad
   ·split
    ·rename_i _ _ c1
     simp only[Bool.and_eq_true]at c1
     obtain⟨⟨⟨c0,c1⟩,c2⟩,c3⟩:=c1
     obtain⟨k1,k2,k3,k4⟩:=cont 1 (by simpa using c1)
     obtain⟨l1,l2,l3,l4⟩:=cont 2 (by simpa using c2)
     obtain⟨m1,m2,m3,m4⟩:=cont 3 (by simpa using c3)
     have c0:bs[pos].toNat/8=30:=by simpa using c0
     split
     ·rename_i hv
      rw[Bool.and_eq_true]at hv
      have hv1:65536≤bs[pos].toNat%8*262144+f 1%64*4096+f 2%64*64+f 3%64:=by simpa using hv.1
      have hv2:=hv.2
      rw[validRune_eq]at hv2
      have hv2:=of_decide_eq_true hv2
      refine⟨by simp only;omega,by simp only;omega,by simp only;omega,by simp,by simp only;omega,fun j c q1 q2 q3=>?_⟩
      simp only at q2
      by_cases e:j=pos
      ·exact one j c q1 (by omega) q3 (by omega)
      ·by_cases e1:j=pos+1
       ·subst e1;exact k4 c q3
       ·by_cases e2:j=pos+2
        ·subst e2;exact l4 c q3
        ·obtain rfl:j=pos+3:=by omega
         exact m4 c q3
     ·exact bad
    ·exact bad
theorem zsE{σ:AS}(bs:List UInt8)(K:AV→AS→Prop):zef yb5 9 (.str bs) σ K=K (.sit σ.nf bs 0) σ.newF:=by
 unfold zef
 rw[Tryz.underlying9]
theorem zm5{σ τ:AS}{f:Nat}(A:zf σ τ)(hf:σ.nf≤f):zf σ (τ.turn f):=by
 have hn:=A.nf
 refine⟨A.no,by simp[AS.turn];omega,A.obj,fun g hg=>?_⟩
 have h1:¬g=τ.nf:=by omega
 have h2:¬g=f:=by omega
 simp[AS.turn,h1,h2]
 exact A.fam g hg
theorem zkH{τ:AS}{f:Nat}:(τ.turn f).F τ.nf=.alive:=by simp[AS.turn]
section
variable {G : Env} {σ : AS} {R : Out → AS → Prop}
theorem zjS{l:List UInt8}{r:Int}(hl:∀c∈l,c.toNat<128)(h1:128≤r)(h2:r≤1114111)(h3:r<55296∨57343<r)(h:R (.ret (.int .i64 (-1))) σ):zzQ G 205 [.str l,.int .i32 r] σ R:=by
 refine ACalls.of_below fun M w cargs S g hcc=>?_
 obtain⟨x,y,rfl,hv,hu⟩:=zsC hcc
 obtain⟨b,rfl,rfl⟩:=hv.str_inv
 rw[hu.int_inv]
 have hs:∀(j:Nat) c,b.data.toList[j]?=some c→c.toNat<128:=fun j c hj=>hl c (ycd hj)
 have key:Calls yb5 205 #[.string b,.int .i32 r] w fun e w'=>e=.returned (.int .i64 (-1))∧RowKit.Below w.heap.size w w':=by
  by_cases e:r=65533
  ·subst e;exact zsD b w hs
  ·exact zpB b r w h1 h2 h3 e hs
 refine key.mono fun e w' ⟨he,hw'⟩=>?_
 subst he
 exact⟨⟨.int .i64 (-1),_,rfl,fun M F w=>.int ..,h⟩,hw'⟩
theorem zjT{l:List UInt8}{c:UInt8}(hc:c.toNat<128)(h:∀n:Int,(0≤n↔inS l c=true)→R (.ret (.int .i64 n)) σ):zzQ G 205 [.str l,.int .i32 (c.toNat:Int)] σ R:=by
 refine ACalls.of_below fun M w cargs S g hcc=>?_
 obtain⟨x,y,rfl,hv,hu⟩:=zsC hcc
 obtain⟨b,rfl,rfl⟩:=hv.str_inv
 rw[hu.int_inv]
 refine(Tryz.strings_IndexRune_ascii b (c.toNat:Int) w (by omega) (by omega)).mono fun e w' ⟨he,hw'⟩=>?_
 subst he hw'
 have e1:((c.toNat:Int).toNat.toUInt8)=c:=by simp
 rw[e1]
 refine⟨⟨.int .i64 _,_,rfl,fun M F w=>.int ..,h _ ?_⟩,RowKit.Below.refl _ _⟩
 have:=Lib.contains_iff_indexByte b.data.toList c
 unfold inS
 rw[this]
 exact(decide_eq_true_iff).symm
def IrI(l s:List UInt8)(σ:AS)(a:Nat→AV)(τ:AS):Prop:=∃(pos f:Nat),pos≤s.length∧(∀c∈s.take pos,inS l c=false)∧a 1=.str l∧a 45=.sit f s pos∧zf σ τ∧σ.nf≤f∧τ.F f=.alive
def IrM(s:List UInt8)(a:Nat→AV)(_:AS):Nat:=match a 45 with
 | .sit _ _ pos=>s.length-pos
 | _=>0
theorem ziW{l s:List UInt8}(hl:∀c∈l,c.toNat<128)(h2:2≤l.length)(hL:l.length≤1000)(hs:s.length<2^62)(h:∀σ',zf σ σ'→R (.ret (.int .i64 (zjh l s))) σ'):zzQ G 168 [.str s,.str l] σ R:=by
 by_cases h8:8<s.length
 ·exact zfI hl h2 hL h8 hs h
 ·refine zkw rfl ?_
  have hne:¬l=[]:=by intro e;rw[e]at h2;simp at h2
  have h1:¬(l.length:Int)=1:=by omega
  have h8':¬(8:Int)<(s.length:Int):=by omega
  simp[zso,hne,h1]
  refine zkB rfl ?_
  simp[zsq,h8']
  simp[zkv,zsE]
  refine zK (IrI l s σ) (IrM s) ⟨0,σ.nf,by omega,by simp,by simp,by simp,(zf.refl σ).newF,by simp,by simp⟩ fun a τ hI=>?_
  obtain⟨pos,f,hp,hd,a1,a45,hA,hf,ha⟩:=hI
  by_cases hlt:pos<s.length
  ·have hi:s[pos]?=some s[pos]:=yau hlt
   have hsplit:s=s.take pos++s[pos]::s.drop (pos+1):=by rw[←List.drop_eq_getElem_cons hlt,ycE]
   have htl:(s.take pos).length=pos:=by rw[ybf];omega
   have hge:¬s.length≤pos:=by omega
   have hAt:=zm5 hA hf
   have hnf:=hA.nf
   rcases zm4 hlt with ⟨hc,hdec⟩|⟨hc,hdec⟩
   ·simp[zeM,a1,a45,ha,hlt,hge,hdec]
    refine zjT hc fun n hn=>?_
    cases hin:inS l s[pos]with
    | true =>
     rw[hin]at hn
     have hn0:0≤n:=hn.2 rfl
     have:=zm2 (r:=s.drop (pos+1)) hd hin
     rw[←hsplit,htl]at this
     have hh:=h _ hAt
     rw[this]at hh
     simp[hn0]
     exact hh
    | false =>
     rw[hin]at hn
     have hn0:¬0≤n:=fun q=>by have:=hn.1 q;cases this
     simp[hn0]
     refine⟨⟨pos+1,τ.nf,by omega,fun c hc'=>?_,by simp[a1],by simp,hAt,by omega,zkH⟩,?_⟩
     ·rw[yca hlt,ybh,ych]at hc'
      rcases hc' with hc'|rfl
      ·exact hd c hc'
      ·exact hin
     ·simp[IrM,a45];omega
   ·generalize hD:Utf8.decode ⟨s.toArray⟩ pos=D at hdec
    have hw1:=hdec.w1
    have hwl:=hdec.wl
    simp[zeM,a1,a45,ha,hlt,hge,hD]
    refine zjS hl (by have:=hdec.lo;omega) (by have:=hdec.hi;omega) (by have:=hdec.ok;omega) ?_
    simp
    refine⟨⟨pos+D.2,τ.nf,hwl,fun c hc'=>?_,by simp[a1],by simp,hAt,by omega,zkH⟩,?_⟩
    ·obtain⟨j,hj,e⟩:=ya9 hc'
     have hjl:j<pos+D.2∧j<s.length:=by rw[ybf]at hj;omega
     have hjc:s[j]?=some c:=by
      rw[yau hjl.2,←e]
      simp
     by_cases hjp:j<pos
     ·exact hd c (ycd (by rw[ycr hjp];exact hjc))
     ·have h128:=hdec.all j c (by omega) hjl.1 hjc
      cases hin:inS l c with
      | false=>rfl
      | true =>
       have:=hl c (by simpa [inS]using hin)
       omega
    ·simp[IrM,a45];omega
  ·have e:pos=s.length:=by omega
   subst e
   rw[ycu (yah _)]at hd
   have hh:=h _ hA
   rw[ziV hd]at hh
   simp[zeM,zku,a1,a45,ha]
   exact hh
end
def zgo(_:List UInt8):Prop:=True
theorem zgo.end{s t:List UInt8}(h:zgo s)(ht:t<:+s):zgo t:=trivial
section
variable {G : Env} {σ : AS} {R : Out → AS → Prop}
def zb8:List UInt8:=[32,10]
def zdh:List UInt8:=[32,10,40,41,34]
def zcA:List UInt8:=[34,10]
theorem zbg(p:UInt8→Bool)(s:List UInt8):s.dropWhile p<:+s:=List.dropWhile_suffix p
theorem ziX{l s:List UInt8}(h:0≤zjh l s):∃d c r,s=d++c::r∧(∀x∈d,inS l x=false)∧inS l c=true∧zjh l s=d.length:=by
 unfold zjh at h ⊢
 cases hf:s.findIdx? (inS l)with
 | none=>rw[hf]at h;simp at h
 | some i =>
  rw[ycF]at hf
  obtain⟨hi,hc,hd⟩:=hf
  refine⟨s.take i,s[i],s.drop (i+1),by simp,fun x hx=>?_,hc,by simp;omega⟩
  obtain⟨j,hj,rfl⟩:=ya9 hx
  simp only[List.getElem_take]
  have hj':j<i:=by simp at hj;omega
  have:=hd j hj'
  simpa using this
theorem zqU{l s:List UInt8}(h:zjh l s<0):∀x∈s,inS l x=false:=by
 unfold zjh at h
 cases hf:s.findIdx? (inS l)with
 | none=>exact ycy.1 hf
 | some i=>rw[hf]at h;simp at h;omega
theorem zet{p:UInt8→Bool}{d r:List UInt8}{c:UInt8}(hd:∀x∈d,p x=true)(hc:p c=false):(d++c::r).takeWhile p=d∧(d++c::r).dropWhile p=c::r:=by
 induction d with
 | nil=>simp[hc]
 | cons x d ih =>
  have hx:=hd x (by simp)
  obtain⟨i1,i2⟩:=ih fun y hy=>hd y (by simp[hy])
  simp[hx,i1,i2]
theorem zeu{L t r:List UInt8}(h:L=t++r){n m:Int}(hn:n=(t.length:Int))(hm:m=(L.length:Int)):L.take n.toNat=t∧(L.take m.toNat).drop n.toNat=r:=by
 subst hn hm h
 refine⟨by simp,?_⟩
 rw[ybe,ybe,ycu (yah _),List.drop_left]
theorem zdE{s:List UInt8}(hok:zgo s)(hl:s.length<2^40)(hn:zcV s=none→∀r σ',r<:+s→zf σ σ'→R (.ret (.tuple [.str [],.str r])) σ')(hs:∀t r,zcV s=some (t,r)→∀σ',zf σ σ'→R (.ret (.tuple [.str t,.str r])) σ'):zzQ G 115 [.str s] σ R:=by
 refine zoB rfl ?_
 simp[zva]
 refine zjR (l:=zb8) (by decide) (by decide) (by decide) fun σ1 A1=>?_
 have hcut:zcV s=match s.dropWhile (inS zb8)with
  | []=>none
  | c::r=>if c=40∨c=41 then some ([c],r)else if c=34 then zbv r else some (c::r.takeWhile (fun x=>!zaW x),r.dropWhile fun x=>!zaW x):=rfl
 have hsuf:=zbg (inS zb8) s
 have hlen:=hsuf.length_le
 have hhd:∀c r,s.dropWhile (inS zb8)=c::r→inS zb8 c=false:=fun c r e=>by
  have:=ycx (inS zb8) s
  rw[e]at this
  exact this
 generalize s.dropWhile (inS zb8)=s1 at *
 have hok1:=hok.end hsuf
 cases s1 with
 | nil =>
  simp
  exact hn hcut _ _ hsuf A1
 | cons c r =>
  simp only at hcut
  simp only[yac]at hlen
  have hc0:=c.toNat_lt
  have hc2:(c=40↔(c.toNat:Int)=40)∧(c=41↔(c.toNat:Int)=41)∧(c=34↔(c.toNat:Int)=34):=by
   refine⟨⟨fun e=>by rw[e];rfl,fun e=>UInt8.toNat_inj.1 (by show c.toNat=40;omega)⟩,⟨fun e=>by rw[e];rfl,fun e=>UInt8.toNat_inj.1 (by show c.toNat=41;omega)⟩,⟨fun e=>by rw[e];rfl,fun e=>UInt8.toNat_inj.1 (by show c.toNat=34;omega)⟩⟩
  by_cases h40:c=40∨c=41
  ·rw[if_pos h40]at hcut
   have hres:=hs _ _ hcut σ1 A1
   have h40':(c.toNat:Int)=40∨¬(c.toNat:Int)=40∧(c.toNat:Int)=41:=by
    rcases h40 with e|e
    ·exact .inl (hc2.1.1 e)
    ·have:=hc2.2.1.1 e
     exact .inr ⟨by omega,this⟩
   rcases h40' with e|⟨e1,e2⟩
   ·simp[e]
    exact⟨by omega,hres⟩
   ·simp[e2]
    exact⟨by omega,hres⟩
  ·rw[if_neg h40]at hcut
   have n40:¬(c.toNat:Int)=40:=fun e=>h40 (.inl (hc2.1.2 e))
   have n41:¬(c.toNat:Int)=41:=fun e=>h40 (.inr (hc2.2.1.2 e))
   by_cases h34:c=34
   ·rw[if_pos h34]at hcut
    have e34:=hc2.2.2.1 h34
    have hr:r<:+c::r:=ycG _ _
    simp[n40,n41,e34]
    refine⟨by omega,ziW (l:=zcA) (by decide) (by decide) (by decide) (by omega) fun σ2 A2=>?_⟩
    have A12:=A1.trans A2
    have hq:zbv r=match r.dropWhile (fun c=>!zkE c)with
     | []=>none
     | x::z=>if x=34 then some (34::(r.takeWhile (fun c=>!zkE c)++[34]),z)else none:=rfl
    by_cases hi:0≤zjh zcA r
    ·obtain⟨d,x,z,rfl,hd,hx,he⟩:=ziX hi
     obtain⟨t1,t2⟩:=zet (p:=fun c=>!zkE c) (d:=d) (r:=z) (c:=x) (fun y hy=>by have:=hd y hy;simpa [inS,zcA,zkE]using this) (by
      simp[inS,zcA,zkE]at hx ⊢
      intro q
      exact hx.resolve_left q)
     rw[hq,t2,t1]at hcut
     simp only at hcut
     have w2:yb3 .i64 ((d.length:Int)+2)=(d.length:Int)+2:=by rw[wrap_i64]<;>simp at hlen<;>omega
     have w1:yb3 .i64 ((d.length:Int)+2-1)=((d.length+1:Nat):Int):=by rw[wrap_i64]<;>simp at hlen<;>omega
     have hlt:¬(d.length:Int)+2<2:=by omega
     have hx34:x=34↔(x.toNat:Int)=34:=⟨fun e=>by rw[e];rfl,fun e=>UInt8.toNat_inj.1 (by show x.toNat=34;omega)⟩
     have hxi:(c::(d++x::z))[d.length+1]?=some x:=by simp
     by_cases hx3:x=34
     ·rw[if_pos hx3]at hcut
      have hx4:=hx34.1 hx3
      have hres:=hs _ _ hcut σ2 A12
      simp[he,w2,w1,hlt,hx4]
      refine⟨by omega,by omega,?_⟩
      obtain⟨e1,e2⟩:=zeu (L:=c::(d++x::z)) (t:=34::(d++[34])) (r:=z) (n:=(d.length:Int)+2) (m:=(d.length:Int)+((z.length:Int)+1)+1) (by rw[hx3,h34];simp) (by simp;omega) (by simp)
      rw[e1,e2]
      exact⟨by omega,by omega,by omega,hres⟩
     ·rw[if_neg hx3]at hcut
      have hx4:¬(x.toNat:Int)=34:=fun e=>hx3 (hx34.2 e)
      simp[he,w2,w1,hlt,hx4]
      exact⟨by omega,hn hcut _ _ hsuf A12⟩
    ·have he:zjh zcA r=-1:=by
      unfold zjh at hi ⊢
      cases hf:r.findIdx? (inS zcA)with
      | none=>rfl
      | some i=>rw[hf]at hi;simp at hi
     have hno:=zqU (l:=zcA) (s:=r) (by omega)
     have hdw:r.dropWhile (fun c=>!zkE c)=[]:=by
      rw[zbG,yaM]
      intro y hy
      have:=hno y hy
      simpa [inS,zcA,zkE]using this
     rw[hq,hdw]at hcut
     simp[he,show yb3 .i64 1=1 from rfl]
     exact hn hcut _ _ hsuf A12
   ·rw[if_neg h34]at hcut
    have n34:¬(c.toNat:Int)=34:=fun e=>h34 (hc2.2.2.2 e)
    simp[n40,n41,n34]
    refine ziW (l:=zdh) (by decide) (by decide) (by decide) (by simp;omega) fun σ2 A2=>?_
    have A12:=A1.trans A2
    have hcs:zc1 c=false:=hhd c r rfl
    have hcn:inS zdh c=false:=by
     have e10:¬c=10∧¬c=32:=by simpa [zc1,not_or,and_comm]using hcs
     simp[inS,zdh,e10,fun e=>h40 (.inl e),fun e=>h40 (.inr e),h34]
     exact⟨fun e=>h40 (.inl e),fun e=>h40 (.inr e)⟩
    have hst:∀y,inS zdh y=zaW y:=fun y=>rfl
    by_cases hi:0≤zjh zdh (c::r)
    ·obtain⟨d,x,z,hcr,hd,hx,he⟩:=ziX hi
     obtain⟨d',rfl⟩:∃d',d=c::d':=by
      cases d with
      | nil =>
       simp at hcr
       rw[←hcr.1,hcn]at hx
       cases hx
      | cons y d' =>
       simp at hcr
       exact⟨d',by rw[hcr.1]⟩
     have hr2:r=d'++x::z:=by simpa using hcr
     subst hr2
     obtain⟨t1,t2⟩:=zet (p:=fun c=>!zaW c) (d:=d') (r:=z) (c:=x) (fun y hy=>by have:=hd y (by simp[hy]);rw[hst]at this;simp[this]) (by rw[hst]at hx;simp[hx])
     rw[t1,t2]at hcut
     have hres:=hs _ _ hcut σ2 A12
     have hlt:¬(d'.length:Int)+1<0:=by omega
     simp[he,hlt]
     obtain⟨e1,e2⟩:=zeu (L:=c::(d'++x::z)) (t:=c::d') (r:=x::z) (n:=(d'.length:Int)+1) (m:=(d'.length:Int)+((z.length:Int)+1)+1) (by simp) (by simp) (by simp)
     have e3:((d'.length:Int)+1).toNat=d'.length+1:=by omega
     rw[e3]at e2
     rw[e2]
     exact⟨by omega,by omega,by omega,by omega,hres⟩
    ·have hno:=zqU (l:=zdh) (s:=c::r) (by omega)
     have hw:r.takeWhile (fun x=>!zaW x)=r∧r.dropWhile (fun x=>!zaW x)=[]:=by
      have h1:∀y∈r,(!zaW y)=true:=fun y hy=>by have:=hno y (by simp[hy]);rw[hst]at this;simp[this]
      have h2:r.dropWhile (fun x=>!zaW x)=[]:=by rw[zbG,yaM];exact h1
      have h3:=yb9 (p:=fun x=>!zaW x) (l:=r)
      rw[h2,ycH]at h3
      exact⟨h3,h2⟩
     rw[hw.1,hw.2]at hcut
     have hres:=hs _ _ hcut σ2 A12
     have hlt:zjh zdh (c::r)<0:=by omega
     simp[hlt]
     exact⟨by omega,hres⟩
end
def zsF(e:Int):AV:=.iface 33 (.int .i64 e)
structure Wr(base x:Nat)(s:Ts)(σ:AS):Prop where
 hx:x<σ.no
 hb:0<base∧base≤σ.nf
 h0:σ.F 0=.alive
 ok:zgo s.b
 len:s.b.length<2^36
 cells:∃lv,σ.objs x=some [.str s.b,lv]∧ToR base σ lv s.ls
theorem zhT{s t r:List UInt8}(h:zcV s=some (t,r)):r<:+s:=by
 have h0:=zbg zc1 s
 unfold zcV at h
 split at h
 ·cases h
 ·rename_i c z e
  rw[e]at h0
  have h1:=(ycG c z).trans h0
  split at h
  ·cases h;exact h1
  ·split at h
   ·unfold zbv at h
    have h2:=zbg (fun c=>!zkE c) z
    split at h
    ·cases h
    ·rename_i x y e2
     rw[e2]at h2
     split at h
     ·cases h;exact((ycG x r).trans h2).trans h1
     ·cases h
   ·cases h;exact(zbg _ z).trans h1
theorem Wr.uses{base x s σ}(h:Wr base x s σ){f:Nat}(hf:f<base):¬zbq σ x f:=fun⟨cs,v,h1,h2,h3⟩=>by
 obtain⟨lv,ho,hl⟩:=h.cells
 rw[ho]at h1
 cases h1
 simp at h2
 subst h2
 rcases hl with ⟨_,rfl⟩|⟨g,tos,rfl,hg,_⟩
 ·cases h3
 ·simp only[zgj,yaR.injEq]at h3
  omega
theorem Wr.lt{base x s σ}(h:Wr base x s σ){f:Nat}(u:zbq σ x f):f<σ.nf:=by
 obtain⟨cs,v,h1,h2,h3⟩:=u
 obtain⟨lv,ho,hl⟩:=h.cells
 rw[ho]at h1
 cases h1
 simp at h2
 subst h2
 rcases hl with ⟨_,rfl⟩|⟨g,tos,rfl,hg,hg2,_⟩
 ·cases h3
 ·simp only[zgj,yaR.injEq]at h3
  omega
theorem Wr.set{base x s σ lv b}(h:Wr base x s σ)(hb:b<:+s.b)(hl:ToR base σ lv s.ls):Wr base x { s with b:=b } (σ.setO x [.str b,lv]):=by
 refine⟨h.hx,h.hb,h.h0,h.ok.end hb,ycI hb.length_le h.len,lv,by simp,?_⟩
 rcases hl with h1|⟨g,tos,h1,h2,h3,h4,h5⟩
 ·exact .inl h1
 ·exact .inr ⟨g,tos,h1,h2,h3,h4,h5⟩
theorem Wr.adds{base x s σ σ'}(h:Wr base x s σ)(A:zf σ σ'):Wr base x s σ':=by
 obtain⟨lv,ho,hl⟩:=h.cells
 have hn:=A.nf
 have hb:=h.hb
 refine⟨yag h.hx A.no,⟨hb.1,by omega⟩,(A.fam 0 (by omega)).trans h.h0,h.ok,h.len,lv,(A.obj x h.hx).trans ho,?_⟩
 rcases hl with h1|⟨g,tos,h1,h2,h3,h4,h5⟩
 ·exact .inl h1
 ·exact .inr ⟨g,tos,h1,h2,by omega,(A.fam g h3).trans h4,h5⟩
def zby(R:Out→AS→Prop)(x:Nat)(σ:AS)(e:Int):Prop:=∀σ',zO x σ σ'→R (.panic (zsF e)) σ'
theorem zby.mono{R x σ σ' e}(h:zby R x σ e)(K:zO x σ σ'):zby R x σ' e:=fun τ k=>h τ (K.trans k)
section
variable {G : Env} {σ : AS} {R : Out → AS → Prop}
theorem zP{b:Bool}{e:Int}(h1:b=true→R (.ret (.tuple [])) σ)(h2:b=false→R (.panic (zsF e)) σ):zzQ G 61 [.bool b,.int .i64 e] σ R:=by
 refine zr3 rfl ?_
 cases b with
 | true =>
  simp[zAK]
  exact h1 rfl
 | false =>
  simp[zAK]
  exact h2 rfl
theorem zgP{base x s}(h:Wr base x s σ)(hn:zY s=.error 2→zby R x σ 2)(hs:∀t s',zY s=.ok (t,s')→∀σ',Wr base x s' σ'→zS x σ σ'→R (.ret (.str t)) σ'):zzQ G 110 [.ptr x 0] σ R:=by
 refine zoz rfl ?_
 obtain⟨lv,ho,hl⟩:=h.cells
 have l1:=hl.one
 have hx:=h.hx
 simp[zu8,ho]
 refine zdE h.ok (yag h.len (by decide)) (fun hq r σ1 hr A1=>?_) (fun t r hq σ1 A1=>?_)
 ·simp
  refine zP (fun q=>by simp at q) (fun _=>?_)
  simp
  exact hn (by unfold zY;rw[hq]) _ (A1.keepR hx)
 ·obtain⟨_,hne⟩:=zau hq
  have h1:=h.adds A1
  have hsuf:=zhT hq
  simp[hne]
  refine zP (fun _=>?_) (fun q=>by simp at q)
  obtain⟨lv1,ho1,hl1⟩:=h1.cells
  have l2:=hl1.one
  simp[ho1,splice]
  have hnx:zY s=.ok (t,{ s with b:=r }):=by unfold zY;rw[hq]
  exact hs t _ hnx _ (h1.set hsuf hl1) ((A1.keepS hx ho).trans (.set ho1 rfl))
end
@[simp] theorem zsG:zag yb5 139=some true:=by kernel_rfl
@[simp] theorem ztZ(t:Nat)(v:AV)(K:AV→Prop):zbj yb5 .eql 139 (.iface t v) .nilif K=K (.bool false):=by
 have h:=zsG
 unfold zag at h
 split at h
 ·rename_i ms hu
  simp[zbj,aeq,zh5,hu]
 ·cases h
 ·cases h
def LW(x:Nat)(σ:AS)(v:AV)(ts:List (List UInt8)):Prop:=(∃b,v=.sl (.stat b) 1 (ts.map yce))∨∃ob,v=.slm ob 0 1 ts.length∧ob<σ.no∧ob≠x∧σ.objs ob=some (ts.map yce)
theorem LW.keep{x σ σ' v ts}(h:LW x σ v ts)(K:zS x σ σ'):LW x σ' v ts:=by
 rcases h with h|⟨ob,h1,h2,h3,h4⟩
 ·exact .inl h
 ·exact .inr ⟨ob,h1,yag h2 K.no,h3,(K.obj ob h2 h3).trans h4⟩
theorem Wr.isSome{base x s σ}(h:Wr base x s σ):∃cs,σ.objs x=some cs:=by obtain⟨lv,ho,_⟩:=h.cells;exact⟨_,ho⟩
section
variable {G : Env} {σ : AS} {R : Out → AS → Prop}
def WdI(base x:Nat)(ts:List (List UInt8))(s0:Ts)(σ:AS)(v:AV)(a:Nat→AV)(τ:AS):Prop:=∃(d r:List (List UInt8)) (s:Ts),ts=d++r∧zu ts s0=zu r s∧a 0=.ptr x 0∧a 6=v∧a 7=.int .i64 (ts.length:Int)∧a 8=.int .i64 (d.length:Int)∧Wr base x s τ∧zS x σ τ∧LW x τ v ts
theorem zhU{base x s v ts}(h:Wr base x s σ)(hv:LW x σ v ts)(hl:ts.length<1000)(hn:∀e,zu ts s=.error e→zby R x σ e)(hs:∀s',zu ts s=.ok s'→∀σ',Wr base x s' σ'→zS x σ σ'→R (.ret (.tuple [])) σ'):zzQ G 56 [.ptr x 0,v] σ R:=by
 refine zrY rfl ?_
 obtain⟨cs0,hcs0⟩:=h.isSome
 have hlen:(∃b,v=.sl (.stat b) 1 (ts.map yce))∨∃ob,v=.slm ob 0 1 ts.length:=by
  rcases hv with h|⟨ob,h,_⟩
  ·exact .inl h
  ·exact .inr ⟨ob,h⟩
 have go:avc yb5 G 18 (.block 0 (.loop zfs)) (zcJ yb5 [] R) (upd (upd (upd (zbC [.ptr x 0,v]) 6 v) 7 (.int .i64 (ts.length:Int))) 8 (.int .i64 0)) σ:=by
  simp
  refine zK (WdI base x ts s σ v) (MU 8 (ts.length+1)) ⟨[],ts,s,rfl,rfl,by simp,by simp,by simp,by simp,h,.refl hcs0,hv⟩ fun a τ hI=>?_
  obtain⟨d,r,s1,hdr,he,a0,a6,a7,a8,hW,hK,hV⟩:=hI
  cases r with
  | nil =>
   have e:ts.length=d.length:=by simp[hdr]
   rw[e]at a7
   simp[zfs,a0,a6,a7,a8]
   exact hs s1 he _ hW hK
  | cons t r =>
   have hlt:(d.length:Int)<(ts.length:Int):=by simp[hdr];omega
   have hi:ts[d.length]?=some t:=by simp[hdr]
   have w1:yb3 .i64 ((d.length:Int)+1)=((d.length+1:Nat):Int):=by rw[wrap_i64]<;>omega
   have rest:∀(t':List UInt8) (s2:Ts) (τ2:AS),zY s1=.ok (t',s2)→Wr base x s2 τ2→zS x τ τ2→zu ts s=(if t'=t then zu r s2 else .error 2):=fun t' s2 τ2 q _ _=>by
    rw[he,zu,q]
    rfl
   have hno:zY s1=.error 2→zby R x σ 2:=fun q=>hn 2 (by rw[he,zu,q];rfl)
   rcases hV with ⟨b,hv'⟩|⟨ob,hv',g1,g2,g3⟩
   ·subst hv'
    have hv':True:=trivial
    simp[zfs,a0,a6,a7,a8,hv',hlt,hi]
    refine zgP hW (fun q=>(hno q).mono hK.r) (fun t' s2 q τ2 hW2 hK2=>?_)
    have hr:=rest t' s2 τ2 q hW2 hK2
    have hK12:=hK.trans hK2
    by_cases ht:t'=t
    ·rw[if_pos ht]at hr
     simp[ht]
     refine zP (fun _=>?_) (fun q=>by cases q)
     simp[a0,a6,a7,a8,w1]
     refine⟨⟨d++[t],r,s2,by simp[hdr],hr,by simp[a0],by simp[a6,hv'],by simp[a7],by simp,hW2,hK12,(LW.keep (.inl ⟨b,rfl⟩) hK2)⟩,?_⟩
     simp[MU,a8];omega
    ·rw[if_neg ht]at hr
     simp[ht]
     refine zP (fun q=>by cases q) (fun _=>?_)
     simp
     exact hn 2 hr _ hK12.r
   ·subst hv'
    have hv':True:=trivial
    simp[zfs,a0,a6,a7,a8,hv',hlt,hi,g3]
    refine zgP hW (fun q=>(hno q).mono hK.r) (fun t' s2 q τ2 hW2 hK2=>?_)
    have hr:=rest t' s2 τ2 q hW2 hK2
    have hK12:=hK.trans hK2
    by_cases ht:t'=t
    ·rw[if_pos ht]at hr
     simp[ht]
     refine zP (fun _=>?_) (fun q=>by cases q)
     simp[a0,a6,a7,a8,w1]
     refine⟨⟨d++[t],r,s2,by simp[hdr],hr,by simp[a0],by simp[a6,hv'],by simp[a7],by simp,hW2,hK12,(LW.keep (.inr ⟨ob,rfl,g1,g2,g3⟩) hK2)⟩,?_⟩
     simp[MU,a8];omega
    ·rw[if_neg ht]at hr
     simp[ht]
     refine zP (fun q=>by cases q) (fun _=>?_)
     simp
     exact hn 2 hr _ hK12.r
 rcases hlen with ⟨b,rfl⟩|⟨ob,rfl⟩
 ·simp[zAJ]
  simpa using go
 ·simp[zAJ]
  simpa using go
theorem zpC{base x s w}(h:Wr base x s σ)(hw:w≠[])(hn:zh7 w s=none→∀σ',Wr base x s σ'→zS x σ σ'→R (.ret (.bool false)) σ')(hs:∀s',zh7 w s=some s'→∀σ',Wr base x s' σ'→zS x σ σ'→R (.ret (.bool true)) σ'):zzQ G 59 [.ptr x 0,.str w] σ R:=by
 refine zr1 rfl ?_
 obtain⟨lv,ho,hl⟩:=h.cells
 have l1:=hl.one
 have hx:=h.hx
 have hlen:=h.len
 have hm:zh7 w s=match zcV s.b with
  | none=>none
  | some p=>if p.1=zL then(match zcV p.2 with
   | none=>none
   | some q=>if q.1=w then some { s with b:=q.2 }else none)else none:=rfl
 simp[zBJ,ho]
 refine zdE h.ok (by omega) (fun hq r σ1 hr A1=>?_) (fun t r hq σ1 A1=>?_)
 ·rw[hq]at hm
  simp
  have hrl:=hr.length_le
  refine zdE (h.ok.end hr) (by omega) (fun hq2 r2 σ2 hr2 A2=>?_) (fun t2 r2 hq2 σ2 A2=>?_)
  ·simp
   exact hn hm _ (h.adds (A1.trans A2)) ((A1.trans A2).keepS hx ho)
  ·simp
   exact hn hm _ (h.adds (A1.trans A2)) ((A1.trans A2).keepS hx ho)
 ·rw[hq]at hm
  simp only at hm
  have hr:=zhT hq
  have hrl:=hr.length_le
  simp
  refine zdE (h.ok.end hr) (by omega) (fun hq2 r2 σ2 hr2 A2=>?_) (fun t2 r2 hq2 σ2 A2=>?_)
  ·have hA:=A1.trans A2
   have hno:zh7 w s=none:=by
    rw[hm,hq2]
    split<;>rfl
   have fin:=hn hno _ (h.adds hA) (hA.keepS hx ho)
   by_cases ht:t=zL
   ·have ht':t=[40]:=ht
    have hw':¬[]=w:=fun e=>hw e.symm
    simp[ht',hw']
    exact fin
   ·have ht':¬t=[40]:=ht
    simp[ht']
    exact fin
  ·have hA:=A1.trans A2
   have h2:=h.adds hA
   obtain⟨lv2,ho2,hl2⟩:=h2.cells
   have l2:=hl2.one
   by_cases ht:t=zL
   ·have ht':t=[40]:=ht
    rw[if_pos ht,hq2]at hm
    simp only at hm
    by_cases hw:t2=w
    ·rw[if_pos hw]at hm
     simp[ht',hw,ho2,splice]
     exact hs _ hm _ (h2.set ((zhT hq2).trans hr) hl2) ((hA.keepS hx ho).trans (.set ho2 rfl))
    ·rw[if_neg hw]at hm
     simp[ht',hw]
     exact hn hm _ h2 (hA.keepS hx ho)
   ·have ht':¬t=[40]:=ht
    rw[if_neg ht]at hm
    simp[ht']
    exact hn hm _ h2 (hA.keepS hx ho)
theorem zfK{t:List UInt8}(h:R (.ret (.str (zX t))) σ):zzQ G 113 [.str t,.str [45]] σ R:=by
 refine zhS ?_
 have hb:(if zgn [45] t=true then t.drop [45].length else t)=zX t:=by
  rw[zfJ]
  unfold zX
  cases t with
  | nil=>rfl
  | cons c r =>
   by_cases hc:c=45
   ·subst hc;simp
   ·simp[hc]
 exact(congrArg (fun z=>R (.ret (.str z)) σ) hb).mpr h
theorem zhV(V:za9 G){base x s}(h:Wr base x s σ)(hn:∀e,zB s=.error e→zby R x σ e)(hs:∀n s',zB s=.ok (n,s')→-(2^63)≤n→n<2^63→∀σ',Wr base x s' σ'→zS x σ σ'→R (.ret (.int .i64 n)) σ'):zzQ G 58 [.ptr x 0] σ R:=by
 refine zr0 rfl ?_
 simp[zBI]
 refine zgP h (fun q=>hn 2 (by unfold zB;rw[q];rfl)) (fun t s1 q σ1 h1 K1=>?_)
 have hnum:zB s=(zgh t).map fun n=>(n,s1):=by unfold zB;rw[q];rfl
 have htl:t.length<2^36:=by
  have:=h.len
  unfold zY at q
  cases hc:zcV s.b with
  | none=>rw[hc]at q;cases q
  | some p =>
   obtain⟨p1,p2⟩:=p
   rw[hc]at q
   cases q
   have:=(zau hc).1
   show p1.length<2^36
   omega
 obtain⟨lv1,ho1,hl1⟩:=h1.cells
 have hx1:=h1.hx
 simp
 refine zfK ?_
 have hbl:(zX t).length≤t.length:=by
  unfold zX
  split<;>simp
 have hdig:∀c,inS [48,49,50,51,52,53,54,55,56,57] c=zH c:=by
  have key:∀k:Fin 256,inS [48,49,50,51,52,53,54,55,56,57] (UInt8.ofNat k.1)=zH (UInt8.ofNat k.1):=by decide +kernel
  intro c
  have:=key ⟨c.toNat,c.toNat_lt⟩
  simpa using this
 by_cases hb0:zX t=[]
 ·have hv:zgh t=.error 2:=by unfold zgh;rw[if_pos (by simp[hb0])]
  rw[hv]at hnum
  simp[hb0]
  refine zP (fun q=>by cases q) (fun _=>?_)
  simp
  exact hn 2 hnum _ K1.r
 ·simp[hb0]
  refine zd3 (l:=[48,49,50,51,52,53,54,55,56,57]) (by decide) (by decide) (by decide) (by omega) fun σ2 A2=>?_
  have K12:=K1.trans (A2.keepS hx1 ho1)
  cases hall:(zX t).all zH with
  | false =>
   have hv:zgh t=.error 2:=by unfold zgh;rw[if_pos (by simp[hall])]
   rw[hv]at hnum
   have hne:¬ziU [48,49,50,51,52,53,54,55,56,57] (zX t)=[]:=by
    rw[zbH]
    have:(zX t).all (inS [48,49,50,51,52,53,54,55,56,57])=(zX t).all zH:=by congr 1;funext c;exact hdig c
    rw[this,hall]
    simp
   simp[hne]
   refine zP (fun q=>by cases q) (fun _=>?_)
   simp
   exact hn 2 hnum _ K12.r
  | true =>
   have he:ziU [48,49,50,51,52,53,54,55,56,57] (zX t)=[]:=by
    rw[zbH]
    have:(zX t).all (inS [48,49,50,51,52,53,54,55,56,57])=(zX t).all zH:=by congr 1;funext c;exact hdig c
    rw[this,hall]
   have hv:zgh t=match Lib.atoiAll t with
     | .ok n=>if Lib.itoa n=t then .ok n else .error 11
     | _=>.error 11:=by
    unfold zgh
    rw[if_neg (by simp[hb0,hall])]
    try rfl
   simp[he]
   refine zP (fun _=>?_) (fun q=>by cases q)
   simp
   refine zlA V hb0 hall (by omega) (fun n hq2=>?_) (fun hq2 k=>?_)
   ·rw[hq2]at hv
    simp only at hv
    have hr:-(2^63)≤n∧n<2^63:=by
     rw[zhH hb0 hall]at hq2
     split at hq2
     ·cases hq2;assumption
     ·cases hq2
    simp
    refine zcO V hr ?_
    by_cases hi:Lib.itoa n=t
    ·rw[if_pos hi]at hv
     rw[hv]at hnum
     simp[hi]
     refine zP (fun _=>?_) (fun q=>by cases q)
     simp
     exact hs n s1 hnum hr.1 hr.2 _ (h1.adds A2) K12
    ·rw[if_neg hi]at hv
     rw[hv]at hnum
     simp[hi]
     refine zP (fun q=>by cases q) (fun _=>?_)
     simp
     exact hn 11 hnum _ K12.r
   ·rw[hq2]at hv
    simp only at hv
    rw[hv]at hnum
    simp
    refine zP (fun q=>by cases q) (fun _=>?_)
    simp
    exact hn 11 hnum _ K12.r
end
theorem Wr.newF{base x s τ}(h:Wr base x s τ):Wr base x s τ.newF:=h.adds (zf.refl τ).newF
theorem Wr.endF{base x s τ}(h:Wr base x s τ){g:Nat}(hg:base≤g)(hu:¬zbq τ x g):Wr base x s (τ.setF g .dead):=by
 obtain⟨lv,ho,hl⟩:=h.cells
 have hb:=h.hb
 refine⟨h.hx,hb,?_,h.ok,h.len,lv,ho,?_⟩
 ·have:¬0=g:=by omega
  simp[this,h.h0]
 ·rcases hl with h1|⟨f,tos,h1,h2,h3,h4,h5⟩
  ·exact .inl h1
  ·have:¬f=g:=fun e=>hu ⟨_,_,ho,rfl,by rw[h1,←e];rfl⟩
   exact .inr ⟨f,tos,h1,h2,h3,by simp[this,h4],h5⟩
theorem Wr.mrg{base x s τ}(h:Wr base x s τ){g:Nat}(hg:base≤g)(hu:¬zbq τ x g):Wr base x s (τ.mrg g fun _=>false):=by
 obtain⟨lv,ho,hl⟩:=h.cells
 have hb:=h.hb
 refine⟨h.hx,hb,?_,h.ok,h.len,lv,by simpa [AS.mrg]using ho,?_⟩
 ·have:¬0=g:=by omega
  simp[AS.mrg,zf2,this,h.h0]
 ·rcases hl with h1|⟨f,tos,h1,h2,h3,h4,h5⟩
  ·exact .inl h1
  ·have:¬f=g:=fun e=>hu ⟨_,_,ho,rfl,by rw[h1,←e];rfl⟩
   exact .inr ⟨f,tos,h1,h2,h3,by simp[AS.mrg,zf2,this,h4],h5⟩
theorem Wr.setO{base x s σ o cs}(h:Wr base x s σ)(ho:o≠x):Wr base x s (σ.setO o cs):=by
 obtain⟨lv,h1,hl⟩:=h.cells
 refine⟨h.hx,h.hb,h.h0,h.ok,h.len,lv,?_,?_⟩
 ·have:¬x=o:=fun e=>ho e.symm
  simp[this,h1]
 ·rcases hl with h1|⟨g,tos,h1,h2,h3,h4,h5⟩
  ·exact .inl h1
  ·exact .inr ⟨g,tos,h1,h2,h3,h4,h5⟩
theorem zm6{el:Option TypeId}{base x s}{σ0 τ:AS}{v row:AV}{xs:List AV}{bsz sz:Nat}{K:AV→AS→Prop}(hG:zgm σ0 x sz τ v xs)(hR:Wr base x s τ)(hK:zO x σ0 τ)(hb:base≤σ0.nf)(hrow:row.cells.length=sz)(hl:(xs.length+1)*bsz≤2^47)
  (h:∀v' τ',zgm σ0 x sz τ' v' (xs++[row])→Wr base x s τ'→zO x σ0 τ'→τ'.objs=τ.objs→τ'.no=τ.no→(zS x σ0 τ→zS x σ0 τ')→K v' τ'):zcb el bsz sz v [row] τ K:=by
 have hn:=hK.nf
 rcases hG with ⟨rfl,rfl⟩|⟨g,rfl,h2,h3,h4,h5⟩
 ·have hnu:¬zbq τ.newF x τ.nf:=fun u=>by have:=hR.lt (f:=τ.nf) u;omega
  have:=h (.sl (.fam τ.nf false) sz [row]) τ.newF (.inr ⟨τ.nf,rfl,hn,by simp,by simp,hnu⟩) hR.newF hK.newF (by simp) (by simp) (fun q=>q.newF)
  simp at hl
  simp
  first|exact this|exact⟨by omega,this⟩
 ·have hR':=(hR.endF (by omega) h5).newF
  have hK':=(hK.endF h2).newF
  have hnu:¬zbq (τ.setF g .dead).newF x τ.nf:=fun u=>by have:=hR.lt (f:=τ.nf) u;omega
  have:=h (.sl (.fam τ.nf false) sz (xs++[row])) (τ.setF g .dead).newF (.inr ⟨τ.nf,rfl,hn,by simp,by simp,hnu⟩) hR' hK' (by simp) (by simp) (fun q=>(q.endF h2).newF)
  simp[h4]
  exact⟨hl,this⟩
theorem za3{s s':Ts}{t:List UInt8}(h:zY s=.ok (t,s')):t.length+s'.b.length≤s.b.length∧t≠[]∧s'.ls=s.ls:=by
 unfold zY at h
 cases hc:zcV s.b with
 | none=>rw[hc]at h;cases h
 | some p =>
  obtain⟨p1,p2⟩:=p
  rw[hc]at h
  cases h
  exact⟨(zau hc).1,(zau hc).2,rfl⟩
section
variable {G : Env} {σ : AS} {R : Out → AS → Prop}
def TyW(base x:Nat)(k0:Nat)(s0:Ts)(σ:AS)(a:Nat→AV)(τ:AS):Prop:=∃(k:Nat) (done:List Int) (s:Ts),zam k0 [] s0=zam k done s∧s.b.length<k∧done.length+s.b.length≤s0.b.length∧a 0=.ptr x 0∧zgm σ x 1 τ (a 2) (done.map (.int .i64))∧Wr base x s τ∧zS x σ τ
def MBt(x:Nat)(_:Nat→AV)(τ:AS):Nat:=match τ.objs x with
 | some (.str b::_)=>b.length
 | _=>0
theorem zc2{base x s τ}(h:Wr base x s τ)(a:Nat→AV):MBt x a τ=s.b.length:=by
 obtain⟨lv,ho,hl⟩:=h.cells
 unfold MBt
 rw[ho]
theorem zwE(l:List Int):(0:Int)<(l.length:Int)↔l≠[]:=by
 cases l<;>simp
theorem zjU{base x s}{k:Nat}(h:Wr base x s σ)(hk:s.b.length<k)(hn:∀e,zam k [] s=.error e→zby R x σ e)(hs:∀l s',zam k [] s=.ok (l,s')→∀v σ',Al.IntsE v l→Wr base x s' σ'→zS x σ σ'→R (.ret v) σ'):zzQ G 118 [.ptr x 0] σ R:=by
 refine Al.merging (zoF rfl ?_)
 obtain⟨cs0,hcs0⟩:=h.isSome
 simp[zvc]
 refine zK (TyW base x k s σ) (MBt x) ⟨k,[],s,rfl,hk,by simp,by simp,.inl ⟨rfl,by simp⟩,h,.refl hcs0⟩ fun a τ hI=>?_
 obtain⟨k1,done,s1,he,hk1,hlen,a0,hG,hW,hK⟩:=hI
 obtain⟨k1,rfl⟩:∃j,k1=j+1:=⟨k1-1,by omega⟩
 have hmb:=zc2 hW a
 have hb:=h.hb.2
 have hl36:=h.len
 rw[zam]at he
 simp[zkn,a0]
 refine zgP hW (fun q=>?_) (fun t s2 q τ2 hW2 hK2=>?_)
 ·intro σ' h1
  exact .inl (hn 2 (by rw[he,q];rfl) σ' (hK.r.trans h1))
 ·rw[q]at he
  simp only[Except.bind]at he
  obtain⟨q1,q2,_⟩:=za3 q
  have ht0:1≤t.length:=ybm.2 q2
  have hK12:=hK.trans hK2
  have hG2:=hG.keep hK2.r
  have g2:=hG2.one
  have hmb2:=zc2 hW2 a
  by_cases h32:t=zst
  ·rw[if_pos h32]at he
   have h32':t=[105,51,50]:=h32
   simp[h32',g2]
   refine zm6 (row:=.int .i64 1) hG2 hW2 hK12.r hb (by simp) (by simp;omega) fun v' τ' e1 e2 e3 e4 e5 e6=>?_
   simp
   refine⟨⟨k1,done++[1],s2,he,by omega,by simp;omega,by simp[a0],by simpa using e1,e2,e6 hK12⟩,?_⟩
   rw[zc2 e2,hmb];omega
  ·rw[if_neg h32]at he
   have h32':¬t=[105,51,50]:=h32
   by_cases h64:t=zsu
   ·rw[if_pos h64]at he
    have h64':t=[105,54,52]:=h64
    simp[h64',g2]
    refine zm6 (row:=.int .i64 2) hG2 hW2 hK12.r hb (by simp) (by simp;omega) fun v' τ' e1 e2 e3 e4 e5 e6=>?_
    simp
    refine⟨⟨k1,done++[2],s2,he,by omega,by simp;omega,by simp[a0],by simpa using e1,e2,e6 hK12⟩,?_⟩
    rw[zc2 e2,hmb];omega
   ·rw[if_neg h64]at he
    have h64':¬t=[105,54,52]:=h64
    by_cases hsh:t=zi
    ·have hsh':t=[41]:=hsh
     by_cases hd:done=[]
     ·rw[if_neg (fun q=>q.2 hd)]at he
      subst hd
      rcases hG2 with ⟨_,e2⟩|⟨g,e1,_⟩
      ·simp[hsh',e2]
       refine zP (fun q=>by cases q) (fun _=>?_)
       simp
       exact .inl (hn 2 he _ hK12.r)
      ·simp[hsh',e1]
       refine zP (fun q=>by cases q) (fun _=>?_)
       simp
       exact .inl (hn 2 he _ hK12.r)
     ·rw[if_pos ⟨hsh,hd⟩]at he
      rcases hG2 with ⟨e1,_⟩|⟨g,e1,e2,e3,e4,e5⟩
      ·exact absurd (by simpa using e1) hd
      ·have hpos:(0:Int)<(done.length:Int):=(zwE done).2 hd
       have hposN:0<done.length:=by omega
       simp[hsh',e1,hposN]
       refine zP (fun _=>?_) (fun q=>by cases q)
       simp[e1]
       have:=hs _ _ he (.sl (.fam 0 false) 1 (done.map (.int .i64))) (τ2.mrg g fun _=>false) (.inr ⟨_,rfl⟩) (hW2.mrg (by omega) e5) (hK12.mrg e2)
       refine Al.MrgOr.merged g (fun _=>false) (by have:=hW2.hb;omega) e4 ?_
       simpa [Function.comp_def]using this
    ·rw[if_neg (fun q=>hsh q.1)]at he
     have hsh':¬t=[41]:=hsh
     simp[h32',h64',hsh']
     refine zP (fun q=>by cases q) (fun _=>?_)
     simp
     exact .inl (hn 2 he _ hK12.r)
end
@[simp] theorem zCB(σ:AS)(f g:Nat):(σ.turn f).F g=if g=σ.nf then .alive else if g=f then .dead else σ.F g:=by simp[AS.turn,upd]
@[simp] theorem zBg(σ:AS)(f:Nat):(σ.turn f).nf=σ.nf+1:=rfl
@[simp] theorem zBh(σ:AS)(f:Nat):(σ.turn f).no=σ.no:=rfl
@[simp] theorem zwF(σ:AS)(f:Nat):(σ.turn f).objs=σ.objs:=rfl
theorem zf.turn{σ σ':AS}(h:zf σ σ'){f:Nat}(hf:σ.nf≤f):zf σ (σ'.turn f) where
 no:=h.no
 nf:=ycp h.nf
 obj:=h.obj
 fam g hg:=by
  have:=h.nf
  have h1:¬g=σ'.nf:=by omega
  have h2:¬g=f:=by omega
  simp[h1,h2]
  exact h.fam g hg
theorem zqV:yb5.underlying 208=some (.map 9 53):=by kernel_rfl
theorem zqW:yb5.underlying 242=some (.map 9 3):=by kernel_rfl
theorem zkI(s:List UInt8):zdb yb5 9 (.str s)=true:=by
 have:yb5.underlying 9=some .string:=by kernel_rfl
 simp[zdb,this]
def zji(l:List (List UInt8)):List AV:=l.map yce
theorem zcB(s:List UInt8):∀(l:List (List UInt8)) (i:Nat),zio (.str s) (zji l) i=some ((l.findIdx? (fun k=>k==s)).map (·+i))
 | [],i=>rfl
 | k::l,i=>by
  rw[show zji (k::l)=.str k::zji l from rfl,zio,ycz]
  by_cases h:s=k
  ·subst h
   simp[zf9]
  ·have h':¬k=s:=fun e=>h e.symm
   have ih:=zcB s l (i+1)
   simp only[zf9,show(s==k)=false from by simpa using h]
   rw[ih]
   simp[h']
   cases l.findIdx? (fun k=>k==s)with
   | none=>simp
   | some j=>simp;omega
@[simp] theorem zt0{σ:AS}{f:Nat}{ks:List (List UInt8)}{vs:List AV}{k:List UInt8}{v:AV}{K:AV→AS→Prop}:zbw yb5 208 (.mpo f (zji ks) vs) (.str k) v σ K=(σ.F f=.alive∧v.plainV=true∧ks.contains k=false∧K (.mpo σ.nf (zji (ks++[k])) (vs++[v])) (σ.turn f)):=by
 simp only[zbw,zqV,zkI,zcB,true_and]
 have e:(some ((ks.findIdx? (fun x=>x==k)).map (·+0))=some none)↔ks.contains k=false:=by
  cases h:ks.findIdx? (fun x=>x==k)with
  | none =>
   have:=ycy.1 h
   simp
   intro q
   have:=this k q
   simp at this
  | some i =>
   obtain⟨hi,hc,_⟩:=ycF.1 h
   have hc:ks[i]=k:=by simpa using hc
   simp
   rw[←hc]
   exact yaw hi
 rw[propext e]
 rw[show zji (ks++[k])=zji ks++[.str k] from by simp[zji]]
@[simp] theorem zt1{σ:AS}{f:Nat}{ks:List (List UInt8)}{vs:List AV}{k:List UInt8}{v:AV}{K:AV→AS→Prop}:zbw yb5 242 (.mpo f (zji ks) vs) (.str k) v σ K=(σ.F f=.alive∧v.plainV=true∧ks.contains k=false∧K (.mpo σ.nf (zji (ks++[k])) (vs++[v])) (σ.turn f)):=by
 simp only[zbw,zqW,zkI,zcB,true_and]
 have e:(some ((ks.findIdx? (fun x=>x==k)).map (·+0))=some none)↔ks.contains k=false:=by
  cases h:ks.findIdx? (fun x=>x==k)with
  | none =>
   have:=ycy.1 h
   simp
   intro q
   have:=this k q
   simp at this
  | some i =>
   obtain⟨hi,hc,_⟩:=ycF.1 h
   have hc:ks[i]=k:=by simpa using hc
   simp
   rw[←hc]
   exact yaw hi
 rw[propext e]
 rw[show zji (ks++[k])=zji ks++[.str k] from by simp[zji]]
@[simp] theorem zy2{σ:AS}{K:AV→AS→Prop}{r:Option AV}:zcI r σ K=(r=none∧K (.mpo σ.nf (zji []) []) σ.newF):=rfl
def zaM:W:={ op:=0,ty:=0,n:=0,body:=0,other:=0,name:=[] }
theorem ziY(T:List (List UInt8 × W))(s:List UInt8)(K:AV→Prop):zaU yb5 208 (.mp (zji (T.map (·.1))) (T.map fun p=>p.2.av)) (.str s) true K=K (.tuple [((zt T s).getD zaM).av,.bool (zt T s).isSome]):=by
 have hz:zN yb5 53=some zaM.av:=by kernel_rfl
 simp only[zaU,zqV,zkI,zcB,true_and,hz]
 have e:(T.map (·.1)).findIdx? (fun k=>k==s)=T.findIdx? (fun p=>p.1==s):=by rw[List.findIdx?_map];rfl
 rw[e]
 unfold zt
 cases h:T.findIdx? (fun p=>p.1==s)with
 | none =>
  have hn:T.find? (fun p=>p.1==s)=none:=ycJ.2 fun p hp=>by have:=ycy.1 h p hp;simp[this]
  rw[hn]
  simp
 | some i =>
  obtain⟨hi,hc,hlt⟩:=ycF.1 h
  have hf:T.find? (fun p=>p.1==s)=some T[i]:=by
   rw[List.find?_eq_some_iff_getElem]
   exact⟨hc,i,hi,rfl,fun j hj=>by simpa using hlt j hj⟩
  rw[hf]
  have hg:(T.map fun p=>p.2.av)[i]?=some T[i].2.av:=by simp[hi]
  apply propext
  simp only[Option.map_some,Nat.add_zero,Option.getD_some,Option.isSome_some,if_true]
  constructor
  ·rintro ⟨r,h1,h2⟩
   cases h1
   obtain⟨v,h3,h4⟩:=h2
   rw[hg]at h3
   cases h3
   exact h4
  ·exact fun q=>⟨some i,rfl,_,hg,q⟩
section
variable {G : Env} {σ : AS} {R : Out → AS → Prop}
theorem zgQ{s:List UInt8}(h:∀σ',zf σ σ'→R (.ret (.tuple [((zt zax s).getD zaM).av,.bool (zt zax s).isSome])) σ'):zzQ G 134 [.str s] σ R:=by
 refine zoR rfl ?_
 simp[zvj,splice,AV.plainV,AV.atom]
 refine(ziY zax s _).mpr ?_
 have key:∀w b,(zt zax s).getD zaM=w→(zt zax s).isSome=b→∀σ',zf σ σ'→R (.ret (.tuple [w.av,.bool b])) σ':=fun w b e1 e2=>e1▸e2▸h
 cases hf:zt zax s with
 | none =>
  have:=key zaM false (by rw[hf];rfl) (by rw[hf];rfl)
  simp[splice,W.av,W.cs,zaM]
  simp[W.av,W.cs,zaM]at this
  refine this _ ?_
  repeat (first|exact zf.refl _|refine zf.setO ?_ (by simp)|refine zf.newO ?_|refine zf.newF ?_|refine zf.turn ?_ (by omega))
 | some w =>
  have:=key w true (by rw[hf];rfl) (by rw[hf];rfl)
  simp[W.av,W.cs]at this
  simp[splice,W.av,W.cs]
  refine this _ ?_
  repeat (first|exact zf.refl _|refine zf.setO ?_ (by simp)|refine zf.newO ?_|refine zf.newF ?_|refine zf.turn ?_ (by omega))
theorem zdi{t:Int}(ht:t=1∨t=2)(h:R (.ret (.str (zw t))) σ):zzQ G 131 [.int .i64 t] σ R:=by
 refine zoN rfl ?_
 rcases ht with rfl|rfl
 ·simp[zsm]
  exact h
 ·simp[zsm]
  exact h
end
end Go.Proofs.YtohfclafhegadaaGreatDoor
set_option maxRecDepth 100000
namespace Go.Proofs.YtohfclafhegadaaGreatDoor.Sg
open Go Go.Abs Go.Proofs.YtohfclafhegadaaGreatDoor
def zkJ:List UInt8:=[97,100,100,32,115,117,98,32,109,117,108,32,100,105,118,95,115,32,114,101,109,95,115,32,97,110,100,32,111,114,32,120,111,114,32,115,104,108,32,115,104,114,95,115,32,101,113,32,110,101,32,108,116,95,115,32,108,101,95,115,32,103,116,95,115,32,103,101,95,115]
theorem fok:zpr zkJ zal 66:=⟨by decide,by decide,by decide,by decide,by decide,⟨_,_,rfl,by decide⟩,by decide,by decide,by decide⟩
theorem fields_calls{G:Env}{σ:AS}{R:Out→AS→Prop}(v3:G.g 0=.pv (.stat true) (.agg zdg))(h:∀x σ',zf σ σ'→σ.no≤x→x<σ'.no→σ'.objs x=some (zal.map yce)→R (.ret (.slm x 0 1 16)) σ'):zzQ G 57 [.str zkJ] σ R:=zd0 fok v3 h
end Go.Proofs.YtohfclafhegadaaGreatDoor.Sg
namespace Go.Proofs.YtohfclafhegadaaGreatDoor
open Go Go.Abs
abbrev zy3(t:Int):W:={ op:=5,ty:=t,n:=0,body:=0,other:=0,name:=[] }
abbrev zy4(t:Int)(u:List UInt8):W:={ op:=4,ty:=t,n:=0,body:=0,other:=0,name:=u }
def zbI(t:Int)(s:List UInt8):Option W :=
 if zgn (zw t++[46]) s=true then(if s.drop 4=[101,113,122]then some (zy3 t)else if zal.contains (s.drop 4)=true then some (zy4 t (s.drop 4))else none)else none
theorem zkK{p s:List UInt8}:zgn p s=true↔∃u,s=p++u:=by
 unfold zgn
 rw[decide_eq_true_eq]
 constructor
 ·rintro ⟨_,h⟩
  exact⟨s.drop p.length,by conv=>lhs;rw[←ycE p.length s,h]⟩
 ·rintro ⟨u,rfl⟩
  simp
theorem zfL(pre:List UInt8)(g:List UInt8→W)(s:List UInt8):∀L:List (List UInt8),zt (L.map fun k=>(pre++k,g k)) s=if zgn pre s=true∧s.drop pre.length∈L then some (g (s.drop pre.length))else none
 | []=>by simp[zt]
 | k::L=>by
  have ih:=zfL pre g s L
  unfold zt at ih ⊢
  rw[yaL,List.find?_cons]
  by_cases h:pre++k=s
  ·subst h
   have:zgn pre (pre++k)=true:=zkK.2 ⟨k,rfl⟩
   simp[this]
  ·have hb:(pre++k==s)=false:=by simpa using h
   simp only[hb]
   rw[ih]
   by_cases hp:zgn pre s=true
   ·obtain⟨u,rfl⟩:=zkK.1 hp
    have:¬u=k:=fun e=>h (by rw[e])
    simp[hp,this]
   ·simp[hp]
theorem zfM(a b:List (List UInt8 × W))(s:List UInt8):zt (a++b) s=(zt a s).or (zt b s):=by
 unfold zt
 rw[List.find?_append]
 cases a.find? (fun p=>p.1==s)<;>simp
theorem zfN(t:Int)(s:List UInt8):zt (zbe t) s=zbI t s:=by
 have hl:(zw t++[46]).length=4:=by unfold zw;split<;>rfl
 have e1:(zal.map fun x=>(zw t++46::x,({ op:=4,ty:=t,n:=0,body:=0,other:=0,name:=x }:W)))=zal.map fun k=>((zw t++[46])++k,zy4 t k):=by
  simp
 have e2:[(zw t++[46,101,113,122],({ op:=5,ty:=t,n:=0,body:=0,other:=0,name:=[] }:W))]=[[101,113,122]].map fun k=>((zw t++[46])++k,zy3 t):=by simp
 unfold zbe
 rw[zfM,e1,e2,zfL,zfL,hl]
 unfold zbI
 by_cases hp:zgn (zw t++[46]) s=true
 ·have hq:[101,113,122]∉zal:=by decide
  by_cases h1:s.drop 4=[101,113,122]
  ·simp[hp,h1,hq]
  ·simp[hp,h1]
   try (split<;>simp)
 ·simp[hp]
theorem ziZ:∀p∈zdZ,zbI 1 p.1=none∧zbI 2 p.1=none:=by decide
theorem zi0(s:List UInt8):zt zaJ s=(zbI 1 s).or ((zbI 2 s).or (zt zdZ s)):=by
 unfold zaJ
 rw[zfM,zfM,zfN,zfN]
 cases hb:zt zdZ s with
 | none=>simp
 | some w =>
  have:∃p∈zdZ,p.1=s:=by
   unfold zt at hb
   rw[ybB]at hb
   obtain⟨p,hp,_⟩:=hb
   exact⟨p,ycj hp,by simpa using ycK hp⟩
  obtain⟨p,hp,rfl⟩:=this
  rw[(ziZ p hp).1,(ziZ p hp).2]
  rfl
def zev:List (List UInt8 × W):=zdZ.take 2++(zdZ.drop 8++(zdZ.drop 2).take 6)
theorem zlC{l T:List (List UInt8 × W)}(hm:∀p,p∈l↔p∈T)(hT:∀p∈T,zt T p.1=some p.2)(s:List UInt8):zt l s=zt T s:=by
 cases h:zt l s with
 | some w =>
  unfold zt at h
  rw[ybB]at h
  obtain⟨p,hp,rfl⟩:=h
  have h1:=hT p ((hm p).1 (ycj hp))
  have h2:p.1=s:=by simpa using ycK hp
  rw[h2]at h1
  exact h1.symm
 | none =>
  cases h2:zt T s with
  | none=>rfl
  | some w =>
   unfold zt at h h2
   rw[ybB]at h2
   obtain⟨p,hp,rfl⟩:=h2
   rw[Option.map_eq_none_iff,ycJ]at h
   have:=h p ((hm p).2 (ycj hp))
   have h3:=ycK hp
   exact absurd h3 this
theorem zm7(s:List UInt8):zt zev s=zt zdZ s:=zlC (fun p=>by
  have h1:∀p∈zev,p∈zdZ:=by decide
  have h2:∀p∈zdZ,p∈zev:=by decide
  exact⟨h1 p,h2 p⟩) (by decide) s
@[simp] theorem zpD{P:Program}(t)(x y:List UInt8){K:AV→Prop}:zbj P .add t (.str x) (.str y) K=(x.length+y.length<2^62∧K (.str (x++y))):=by simp only[zbj,zgq]
section
variable {G : Env} {σ : AS} {R : Out → AS → Prop}
def IxS(x:Nat)(L:List (List UInt8))(s:List UInt8)(σ:AS)(a:Nat→AV)(τ:AS):Prop:=∃d r:List (List UInt8),L=d++r∧(∀y∈d,¬s=y)∧a 0=.slm x 0 1 L.length∧a 1=.str s∧a 7=.int .i64 (L.length:Int)∧a 8=.int .i64 (d.length:Int)∧τ=σ
theorem zpE{x:Nat}{L:List (List UInt8)}{s:List UInt8}(hL:L.length<1000)(ho:σ.objs x=some (L.map yce))(h:∀n:Int,(0≤n↔s∈L)→R (.ret (.int .i64 n)) σ):zzQ G 157 [.slm x 0 1 L.length,.str s] σ R:=by
 refine zo3 rfl ?_
 simp[zvs]
 refine zK (IxS x L s σ) (MU 8 (L.length+1)) ⟨[],L,rfl,by simp,by simp,by simp,by simp,by simp,rfl⟩ fun a τ hI=>?_
 obtain⟨d,r,hdr,hn,a0,a1,a7,a8,rfl⟩:=hI
 cases r with
 | nil =>
  have e:L.length=d.length:=by simp[hdr]
  rw[e]at a7
  simp[zeL,zks,a0,a1,a7,a8]
  refine h _ ⟨fun q=>by omega,fun q=>?_⟩
  rw[hdr,ycH]at q
  exact absurd rfl (hn s q)
 | cons y r =>
  have hlt:(d.length:Int)<(L.length:Int):=by simp[hdr];omega
  have hi:L[d.length]?=some y:=by simp[hdr]
  have w1:yb3 .i64 ((d.length:Int)+1)=((d.length+1:Nat):Int):=by rw[wrap_i64]<;>omega
  by_cases he:s=y
  ·simp[zeL,a0,a1,a7,a8,hlt,ho,hi,he]
   exact h _ ⟨fun _=>by rw[hdr,he];simp,fun _=>by omega⟩
  ·simp[zeL,a0,a1,a7,a8,hlt,ho,hi,he,w1]
   refine⟨⟨d++[y],r,by simp[hdr],?_,by simp[a0],by simp[a1],by simp[a7],by simp,rfl⟩,?_⟩
   ·intro z hz
    rcases ybh.1 hz with hz|hz
    ·exact hn z hz
    ·simp at hz;subst hz;exact he
   ·simp[MU,a8];omega
theorem zjV{x:Nat}{L:List (List UInt8)}{s:List UInt8}(hL:L.length<1000)(ho:σ.objs x=some (L.map yce))(h:R (.ret (.bool (decide (s∈L)))) σ):zzQ G 239 [.slm x 0 1 L.length,.str s] σ R:=by
 refine zpk rfl ?_
 simp[zvC]
 refine zpE hL ho fun n hn=>?_
 simp[hn]
 exact h
def SgI(s:List UInt8)(σ:AS)(a:Nat→AV)(τ:AS):Prop:=∃i:Nat,i≤2∧(1≤i→zbI 1 s=none)∧(2≤i→zbI 2 s=none)∧a 0=.str s∧a 2=.ptr σ.no 0∧a 10=.sl (.stat true) 1 [.int .i64 1,.int .i64 2]∧a 11=.int .i64 2∧a 12=.int .i64 (i:Int)∧zf σ τ∧σ.no<τ.no∧τ.objs σ.no=some zaM.cs
theorem zpF(V:za9 G){s:List UInt8}(hl:s.length<2^40)(h:∀σ',zf σ σ'→R (.ret (.tuple [((zt zaJ s).getD zaM).av,.bool (zt zaJ s).isSome])) σ'):zzQ G 208 [.str s] σ R:=by
 refine zpi rfl ?_
 simp[zvB]
 refine zK (SgI s σ) (MU 12 3) ⟨0,by omega,by omega,by omega,by simp,by simp,by simp,by simp,by simp,(zf.refl σ).newO,by simp,by simp[zaM,W.cs]⟩ fun a τ hI=>?_
 obtain⟨i,hi,n1,n2,a0,a2,a10,a11,a12,hA,hno,ho⟩:=hI
 have done:∀w,zt zaJ s=some w→∀σ',zf σ σ'→R (.ret (.tuple [w.av,.bool true])) σ':=fun w e=>by
  rw[e]at h
  exact h
 by_cases hlt:i<2
 ·obtain⟨t,ht⟩:∃t:Int,t=(i:Int)+1:=⟨_,rfl⟩
  have ht12:t=1∨t=2:=by omega
  have hlt':(i:Int)<2:=by omega
  have hg:([ycc .i64 1,.int .i64 2]:List AV)[i]?=some (.int .i64 t):=by
   match i,hlt with
   | 0,_=>subst ht;rfl
   | 1,_=>subst ht;rfl
  have w1:yb3 .i64 ((i:Int)+1)=((i+1:Nat):Int):=by rw[wrap_i64]<;>omega
  have htl:(zw t).length=3:=by rcases ht12 with rfl|rfl<;>rfl
  have hnext:zbI t s=none→(1≤i+1→zbI 1 s=none)∧(2≤i+1→zbI 2 s=none):=fun e=>by
   match i,hlt with
   | 0,_=>subst ht;exact⟨fun _=>e,fun q=>by omega⟩
   | 1,_=>subst ht;exact⟨fun _=>n1 (by omega),fun _=>e⟩
  have hrow:∀w,zbI t s=some w→zt zaJ s=some w:=fun w e=>by
   rw[zi0]
   match i,hlt with
   | 0,_=>subst ht;rw[show(((0:Nat):Int)+1)=1 from rfl]at e;rw[e];rfl
   | 1,_=>subst ht;rw[show(((1:Nat):Int)+1)=2 from rfl]at e;rw[n1 (by omega),e];rfl
  simp[zhG,a0,a2,a10,a11,a12,hlt',hg]
  refine zdi ht12 ?_
  simp[htl]
  refine zes ?_
  have h4:(zw t++[46]).length=4:=by simp[htl]
  rw[h4]
  cases hp:zgn (zw t++[46]) s with
  | false =>
   have hs:zbI t s=none:=by unfold zbI;rw[hp];rfl
   obtain⟨m1,m2⟩:=hnext hs
   simp[a0,a2,a10,a11,a12,w1]
   refine⟨⟨i+1,by omega,m1,m2,by simp[a0],by simp[a2],by simp[a10],by simp[a11],by simp,hA,hno,ho⟩,?_⟩
   simp[MU,a12];omega
  | true =>
   by_cases hz:s.drop 4=[101,113,122]
   ·have hs:zbI t s=some (zy3 t):=by unfold zbI;rw[if_pos hp,if_pos hz]
    have fin:=done _ (hrow _ hs)
    simp[a0,a2,a10,a11,a12,hz,ho,splice,zaM,W.cs]
    simp[W.av,W.cs,zy3]at fin
    exact fin _ (hA.setO (yah _))
   ·simp[a0,a2,a10,a11,a12,hz]
    refine Sg.fields_calls V.space fun x σ1 A1 hx0 hx1 hxo=>?_
    have hA1:=hA.trans A1
    have ho1:=(A1.obj _ hno).trans ho
    have hno1:σ.no<σ1.no:=yag hno A1.no
    simp
    refine zjV (L:=zal) (by decide) hxo ?_
    by_cases hm:s.drop 4∈zal
    ·have hs:zbI t s=some (zy4 t (s.drop 4)):=by unfold zbI;rw[if_pos hp,if_neg hz,if_pos (by simpa using hm)]
     have fin:=done _ (hrow _ hs)
     simp[a0,a2,a10,a11,a12,hm,ho1,splice,zaM,W.cs]
     simp[W.av,W.cs,zy4]at fin
     exact fin _ (hA1.setO (yah _))
    ·have hs:zbI t s=none:=by unfold zbI;rw[if_pos hp,if_neg hz,if_neg (by simpa using hm)]
     obtain⟨m1,m2⟩:=hnext hs
     simp[a0,a2,a10,a11,a12,hm,w1]
     refine⟨⟨i+1,by omega,m1,m2,by simp[a0],by simp[a2],by simp[a10],by simp[a11],by simp,hA1,hno1,ho1⟩,?_⟩
     simp[MU,a12];omega
 ·have e2:i=2:=by omega
  subst e2
  have hrow:zt zaJ s=zt zev s:=by rw[zi0,n1 (by omega),n2 (by omega),zm7];rfl
  simp[zhG,zkC,a0,a2,a10,a11,a12,splice,AV.plainV,AV.atom]
  refine(ziY zev s _).mpr ?_
  rw[hrow]at h
  have hnf:=hA.nf
  have hno2:=hA.no
  have key:∀w b,(zt zev s).getD zaM=w→(zt zev s).isSome=b→∀σ',zf σ σ'→R (.ret (.tuple [w.av,.bool b])) σ':=fun w b e1 e2=>e1▸e2▸h
  have hAll:zf σ τ:=hA
  have hne:¬σ.no=τ.no:=by omega
  have cT:=(((((((((((hAll.newF.turn (f:=τ.nf) (by omega)).turn (f:=τ.nf+1) (by omega)).turn (f:=τ.nf+1+1) (by omega)).turn (f:=τ.nf+1+1+1) (by omega)).turn (f:=τ.nf+1+1+1+1) (by omega)).turn (f:=τ.nf+1+1+1+1+1) (by omega)).turn (f:=τ.nf+1+1+1+1+1+1) (by omega)).turn (f:=τ.nf+1+1+1+1+1+1+1) (by omega)).turn (f:=τ.nf+1+1+1+1+1+1+1+1) (by omega)).turn (f:=τ.nf+1+1+1+1+1+1+1+1+1) (by omega)).turn (f:=τ.nf+1+1+1+1+1+1+1+1+1+1) (by omega))
  cases hf:zt zev s with
  | none =>
   have:=key zaM false (by rw[hf];rfl) (by rw[hf];rfl)
   simp[W.av,W.cs,zaM]at this
   simp[splice,W.av,W.cs,zaM,ho,a2,hne]
   refine this _ ?_
   exact(cT.newO.setO hno2).setO (yah _)
  | some w =>
   have:=key w true (by rw[hf];rfl) (by rw[hf];rfl)
   simp[W.av,W.cs]at this
   simp[splice,W.av,W.cs,zaM,ho,a2,hne]
   refine this _ ?_
   exact(cT.newO.setO hno2).setO (yah _)
end
def LeT(s s':Ts):Prop:=s'.b.length≤s.b.length∧s'.ls.length+s'.b.length≤s.ls.length+s.b.length
theorem LeT.trans{a b c:Ts}(h:LeT a b)(k:LeT b c):LeT a c:=⟨yai k.1 h.1,yai k.2 h.2⟩
theorem LeT.refl(a:Ts):LeT a a:=⟨yah _,yah _⟩
theorem zb2{s s':Ts}{t:List UInt8}(h:zY s=.ok (t,s')):LeT s s':=by
 obtain⟨h1,_,h3⟩:=za3 h
 exact⟨by omega,by rw[h3];omega⟩
theorem zpG{t:List UInt8}{s s':Ts}{w:W}(h:zaP t s=.ok (w,s')):LeT s s':=by
 unfold zaP at h
 split at h
 ·obtain⟨p,h1,h2⟩:=map_some h
  cases h2
  unfold zB at h1
  obtain⟨q,h3,h4⟩:=bind_some h1
  obtain⟨n,_,h5⟩:=map_some h4
  cases h5
  exact zb2 h3
 ·split at h
  ·cases h;exact .refl _
  ·cases h
theorem zlD{rec:ztX}(hr:∀d o s r s',rec d o s=.ok (r,s')→LeT s s'){op:Int}{d:Nat}{s s':Ts}{w:W}(h:zR rec op d s=.ok (w,s')):LeT s s':=by
 unfold zR at h
 split at h
 ·cases h
 ·obtain⟨p,h1,h2⟩:=bind_some h
  have l1:=hr _ _ _ _ _ h1
  split at h2
  ·split at h2
   ·obtain⟨q,h3,h4⟩:=map_some h2
    cases h4
    exact l1.trans (hr _ _ _ _ _ h3)
   ·cases h2;exact l1
  ·cases h2;exact l1
theorem zfO{rec:ztX}(hr:∀d o s r s',rec d o s=.ok (r,s')→LeT s s'){t:List UInt8}{d:Nat}{s s':Ts}{w:W}(h:zan rec t d s=.ok (w,s')):LeT s s':=by
 unfold zan at h
 split at h
 ·exact zpG h
 ·exact zlD hr h
theorem zb3:∀(k d:Nat) (o:Bool) (l:List W) (s:Ts) (r:Int × List UInt8) (s':Ts),zp k d o l s=.ok (r,s')→LeT s s'
 | 0,_,_,_,_,_,_,h=>by cases h
 | k+1,d,o,l,s,r,s',h=>by
  rw[zp]at h
  obtain⟨p,h1,h2⟩:=bind_some h
  obtain⟨q1,q2,q3⟩:=za3 h1
  have ht:1≤p.1.length:=ybm.2 q2
  split at h2
  ·cases h2
   refine⟨by simp only;omega,?_⟩
   simp only[yab,yac,ybl]
   rw[q3]
   omega
  ·obtain⟨q,h3,h4⟩:=bind_some h2
   exact(zb2 h1).trans ((zfO (fun d o s r s'=>zb3 k d o [] s r s') h3).trans (zb3 k d o _ _ _ _ h4))
def zqX:List (List UInt8):=[zbE,zdY,tIf]
theorem zm8(t:List UInt8)(K:AV→Prop):zaU yb5 242 (.mp (zji zqX) [.int .i64 11,.int .i64 12,.int .i64 13]) (.str t) false K=K (.int .i64 (zM t)):=by
 have hz:zN yb5 3=some (.int .i64 0):=by kernel_rfl
 simp only[zaU,zqW,zkI,zcB,true_and,hz,zqX,ycz,List.findIdx?_nil]
 unfold zM
 by_cases h1:t=zbE
 ·subst h1
  simp
 ·have h1':(zbE==t)=false:=beq_eq_false_iff_ne.2 fun e=>h1 e.symm
  by_cases h2:t=zdY
  ·subst h2
   simp[h1,h1']
  ·have h2':(zdY==t)=false:=beq_eq_false_iff_ne.2 fun e=>h2 e.symm
   by_cases h3:t=tIf
   ·subst h3
    simp[h1,h1',h2,h2']
   ·have h3':(tIf==t)=false:=beq_eq_false_iff_ne.2 fun e=>h3 e.symm
    simp[h1,h1',h2,h2',h3,h3']
def zdj(d:Nat)(o:Bool):List (List UInt8):=if d=0 then [zi]else if o=true then [zb7,za2]else [zb7]
theorem zm9{d:Nat}{o:Bool}(h:o=true→0<d)(t:List UInt8):t∈zdj d o↔zeD d o t=true:=by
 unfold zdj zeD
 by_cases hd:d=0
 ·have ho:o=false:=by
   cases o with
   | false=>rfl
   | true=>have:=h rfl;omega
  subst ho
  simp[hd]
 ·have:0<d:=by omega
  cases o<;>simp[hd,this]
def zhW(G:Env)(base x k:Nat):Prop:=∀(σ:AS) (R:Out→AS→Prop) (s:Ts) (d:Nat) (o:Bool),Wr base x s σ→s.b.length<k→s.ls.length+s.b.length≤2^38→d≤400→(o=true→0<d)→(∀e,zp k d o [] s=.error e→zby R x σ e) →
 (∀n t s',zp k d o [] s=.ok ((n,t),s')→∀σ',Wr base x s' σ'→zO x σ σ'→R (.ret (.tuple [.int .i64 n,.str t])) σ')→zzQ G 119 [.ptr x 0,.int .i64 (d:Int),.sl (.stat true) 1 ((zdj d o).map yce)] σ R
section
variable {G : Env} {σ : AS} {R : Out → AS → Prop}
theorem zpH{base x s}{k d:Nat}{op:Int}(h:Wr base x s σ)(hop:op=11∨op=12∨op=13)(hd:1≤d)(hd4:d≤401)(IH:∀j,j≤k→zhW G base x j)(hk:s.b.length<k)(hz:s.ls.length+s.b.length≤2^38)
  (hn:∀e,zR (fun d o s=>zp k d o [] s) op d s=.error e→zby R x σ e) (hs:∀w s',zR (fun d o s=>zp k d o [] s) op d s=.ok (w,s')→∀σ',Wr base x s' σ'→zO x σ σ'→R (.ret w.av) σ'):zzQ G 207 [.ptr x 0,.int .i64 op,.int .i64 (d:Int)] σ R:=by
 refine zph rfl ?_
 obtain⟨cs0,hcs0⟩:=h.isSome
 have hx:=h.hx
 by_cases h4:400<d
 ·have h4':¬(d:Int)≤400:=by omega
  have he:zR (fun d o s=>zp k d o [] s) op d s=.error 3:=by unfold zR;rw[if_pos h4]
  simp[zsr,h4']
  refine zP (fun q=>by cases q) (fun _=>?_)
  simp
  exact hn 3 he _ ((zf.refl σ).newO.keepR hx)
 ·have h4':(d:Int)≤400:=by omega
  have he:zR (fun d o s=>zp k d o [] s) op d s=(zp k d (decide (op=13)) [] s).bind fun p =>
    if op=13 then(if p.1.2=za2 then(zp k d false [] p.2).map fun q=>({ op:=13,ty:=0,n:=0,body:=p.1.1,other:=q.1.1,name:=[] },q.2)
     else .ok ({ op:=13,ty:=0,n:=0,body:=p.1.1,other:=-1,name:=[] },p.2))
    else .ok ({ op:=op,ty:=0,n:=0,body:=p.1.1,other:=0,name:=[] },p.2):=by unfold zR;rw[if_neg h4]
  simp[zsr,h4']
  refine zP (fun _=>?_) (fun q=>by cases q)
  simp[splice]
  have hno1:(((σ.newO [ycc .i64 0,.int .i64 0,.int .i64 0,.int .i64 0,.int .i64 0,.str []]).newO [ycc .i64 0,.int .i64 0,.int .i64 0,.int .i64 0,.int .i64 0,.str []]).setO (σ.no+1) [ycc .i64 op,.int .i64 0,.int .i64 0,.int .i64 0,.int .i64 0,.str []]).no=σ.no+2:=by simp
  have A1:zf σ (((σ.newO [ycc .i64 0,.int .i64 0,.int .i64 0,.int .i64 0,.int .i64 0,.str []]).newO [ycc .i64 0,.int .i64 0,.int .i64 0,.int .i64 0,.int .i64 0,.str []]).setO (σ.no+1) [ycc .i64 op,.int .i64 0,.int .i64 0,.int .i64 0,.int .i64 0,.str []]):=(zf.refl σ).newO.newO.setO (by omega)
  have o0:(((σ.newO [ycc .i64 0,.int .i64 0,.int .i64 0,.int .i64 0,.int .i64 0,.str []]).newO [ycc .i64 0,.int .i64 0,.int .i64 0,.int .i64 0,.int .i64 0,.str []]).setO (σ.no+1) [ycc .i64 op,.int .i64 0,.int .i64 0,.int .i64 0,.int .i64 0,.str []]).objs σ.no=some [.int .i64 0,.int .i64 0,.int .i64 0,.int .i64 0,.int .i64 0,.str []]:=by simp
  have o1:(((σ.newO [ycc .i64 0,.int .i64 0,.int .i64 0,.int .i64 0,.int .i64 0,.str []]).newO [ycc .i64 0,.int .i64 0,.int .i64 0,.int .i64 0,.int .i64 0,.str []]).setO (σ.no+1) [ycc .i64 op,.int .i64 0,.int .i64 0,.int .i64 0,.int .i64 0,.str []]).objs (σ.no+1)=some [.int .i64 op,.int .i64 0,.int .i64 0,.int .i64 0,.int .i64 0,.str []]:=by simp
  generalize hσ1:((σ.newO [ycc .i64 0,.int .i64 0,.int .i64 0,.int .i64 0,.int .i64 0,.str []]).newO [ycc .i64 0,.int .i64 0,.int .i64 0,.int .i64 0,.int .i64 0,.str []]).setO (σ.no+1) [ycc .i64 op,.int .i64 0,.int .i64 0,.int .i64 0,.int .i64 0,.str []]=σ1 at *
  have hW1:=h.adds A1
  have K1:=A1.keepR hx
  have hx0:¬x=σ.no:=by omega
  have hx1:¬x=σ.no+1:=by omega
  have hx0':σ.no≠x:=by omega
  have hx1':σ.no+1≠x:=by omega
  have fin:∀(w:W) (s':Ts) (σ':AS),zR (fun d o s=>zp k d o [] s) op d s=.ok (w,s')→Wr base x s' σ'→zO x σ1 σ'→∀c1 c2,R (.ret w.av) ((σ'.setO (σ.no+1) c1).setO σ.no c2):=fun w s' σ' q hW hK c1 c2 =>
   hs w s' q _ ((hW.setO hx1').setO hx0') (((K1.trans hK).setO (by omega) hx1').setO (yah _) hx0')
  by_cases h13:op=13
  ·subst h13
   simp only[if_true,decide_true]at he
   simp
   rw[hσ1]
   have hl1:=IH k (yah _) σ1
   have e1:zdj d true=[zb7,za2]:=by unfold zdj;rw[if_neg (by omega),if_pos rfl]
   have e2:zdj d false=[zb7]:=by unfold zdj;rw[if_neg (by omega),if_neg (by simp)]
   have go1:∀R',(∀e,zp k d true [] s=.error e→zby R' x σ1 e)→(∀n t s',zp k d true [] s=.ok ((n,t),s')→∀σ',Wr base x s' σ'→zO x σ1 σ'→R' (.ret (.tuple [.int .i64 n,.str t])) σ')→zzQ G 119 [.ptr x 0,.int .i64 (d:Int),.sl (.stat true) 1 [.str [101,110,100],.str [101,108,115,101]]] σ1 R':=fun R' a b=>by
    have:=IH k (yah _) σ1 R' s d true hW1 hk hz (by omega) (fun _=>by omega) a b
    rw[e1]at this
    exact this
   refine go1 _ (fun e q=>?_) (fun n t s2 q σ2 hW2 hK2=>?_)
   ·intro σ' K
    simp
    exact hn e (by rw[he,q];rfl) _ (K1.trans K)
   ·rw[q]at he
    simp only[Except.bind]at he
    have hle:=zb3 _ _ _ _ _ _ _ q
    have o0':=(hK2.obj σ.no (by omega) hx0').trans o0
    have o1':=(hK2.obj (σ.no+1) (by omega) hx1').trans o1
    by_cases ht:t=za2
    ·have ht':t=[101,108,115,101]:=ht
     rw[if_pos ht]at he
     simp[o1',splice,ht']
     have hW2':Wr base x s2 ((σ2.setO (σ.no+1) [ycc .i64 13,.int .i64 0,.int .i64 0,.int .i64 n,.int .i64 0,.str []]).setO (σ.no+1) [ycc .i64 13,.int .i64 0,.int .i64 0,.int .i64 n,.int .i64 (-1),.str []]):=(hW2.setO hx1').setO hx1'
     have hK2':zO x σ ((σ2.setO (σ.no+1) [ycc .i64 13,.int .i64 0,.int .i64 0,.int .i64 n,.int .i64 0,.str []]).setO (σ.no+1) [ycc .i64 13,.int .i64 0,.int .i64 0,.int .i64 n,.int .i64 (-1),.str []]):=((K1.trans hK2).setO (by omega) hx1').setO (by omega) hx1'
     have p0:((σ2.setO (σ.no+1) [ycc .i64 13,.int .i64 0,.int .i64 0,.int .i64 n,.int .i64 0,.str []]).setO (σ.no+1) [ycc .i64 13,.int .i64 0,.int .i64 0,.int .i64 n,.int .i64 (-1),.str []]).objs σ.no=some [.int .i64 0,.int .i64 0,.int .i64 0,.int .i64 0,.int .i64 0,.str []]:=by simp[o0']
     have p1:((σ2.setO (σ.no+1) [ycc .i64 13,.int .i64 0,.int .i64 0,.int .i64 n,.int .i64 0,.str []]).setO (σ.no+1) [ycc .i64 13,.int .i64 0,.int .i64 0,.int .i64 n,.int .i64 (-1),.str []]).objs (σ.no+1)=some [.int .i64 13,.int .i64 0,.int .i64 0,.int .i64 n,.int .i64 (-1),.str []]:=by simp
     have pn:σ.no+2≤((σ2.setO (σ.no+1) [ycc .i64 13,.int .i64 0,.int .i64 0,.int .i64 n,.int .i64 0,.str []]).setO (σ.no+1) [ycc .i64 13,.int .i64 0,.int .i64 0,.int .i64 n,.int .i64 (-1),.str []]).no:=by have:=hK2.no;simp;omega
     generalize (σ2.setO (σ.no+1) [ycc .i64 13,.int .i64 0,.int .i64 0,.int .i64 n,.int .i64 0,.str []]).setO (σ.no+1) [ycc .i64 13,.int .i64 0,.int .i64 0,.int .i64 n,.int .i64 (-1),.str []]=σ3 at *
     have go2:∀R',(∀e,zp k d false [] s2=.error e→zby R' x σ3 e)→(∀n t s',zp k d false [] s2=.ok ((n,t),s')→∀σ',Wr base x s' σ'→zO x σ3 σ'→R' (.ret (.tuple [.int .i64 n,.str t])) σ')→zzQ G 119 [.ptr x 0,.int .i64 (d:Int),.sl (.stat true) 1 [.str [101,110,100]]] σ3 R':=fun R' a b=>by
      have:=IH k (yah _) σ3 R' s2 d false hW2' (ycI hle.1 hk) (yai hle.2 hz) (by omega) (fun q=>by cases q) a b
      rw[e2]at this
      exact this
     refine go2 _ (fun e q2=>?_) (fun n2 t2 s4 q2 σ4 hW4 hK4=>?_)
     ·intro σ' K
      simp
      exact hn e (by rw[he,q2];rfl) _ (hK2'.trans K)
     ·rw[q2]at he
      have r0:=(hK4.obj σ.no (by omega) hx0').trans p0
      have r1:=(hK4.obj (σ.no+1) (by omega) hx1').trans p1
      simp[r0,r1,splice]
      have:=hs _ s4 he _ ((hW4.setO (cs:=[ycc .i64 13,.int .i64 0,.int .i64 0,.int .i64 n,.int .i64 n2,.str []]) hx1').setO (cs:=[ycc .i64 13,.int .i64 0,.int .i64 0,.int .i64 n,.int .i64 n2,.str []]) hx0') (((hK2'.trans hK4).setO (by omega) hx1').setO (yah _) hx0')
      simp[W.av,W.cs]at this
      exact this
    ·have ht':¬t=[101,108,115,101]:=ht
     rw[if_neg ht]at he
     simp[o1',o0',splice,ht']
     have:=hs _ s2 he _ (((hW2.setO (cs:=[ycc .i64 13,.int .i64 0,.int .i64 0,.int .i64 n,.int .i64 0,.str []]) hx1').setO (cs:=[ycc .i64 13,.int .i64 0,.int .i64 0,.int .i64 n,.int .i64 (-1),.str []]) hx1').setO (cs:=[ycc .i64 13,.int .i64 0,.int .i64 0,.int .i64 n,.int .i64 (-1),.str []]) hx0') ((((K1.trans hK2).setO (by omega) hx1').setO (by omega) hx1').setO (yah _) hx0')
     simp[W.av,W.cs]at this
     exact this
  ·simp only[h13,if_false,decide_false]at he
   simp[h13]
   rw[hσ1]
   have e2:zdj d false=[zb7]:=by unfold zdj;rw[if_neg (by omega),if_neg (by simp)]
   have go2:∀R',(∀e,zp k d false [] s=.error e→zby R' x σ1 e)→(∀n t s',zp k d false [] s=.ok ((n,t),s')→∀σ',Wr base x s' σ'→zO x σ1 σ'→R' (.ret (.tuple [.int .i64 n,.str t])) σ')→zzQ G 119 [.ptr x 0,.int .i64 (d:Int),.sl (.stat true) 1 [.str [101,110,100]]] σ1 R':=fun R' a b=>by
    have:=IH k (yah _) σ1 R' s d false hW1 hk hz (by omega) (fun q=>by cases q) a b
    rw[e2]at this
    exact this
   refine go2 _ (fun e q=>?_) (fun n t s2 q σ2 hW2 hK2=>?_)
   ·intro σ' K
    simp
    exact hn e (by rw[he,q];rfl) _ (K1.trans K)
   ·rw[q]at he
    have o0':=(hK2.obj σ.no (by omega) hx0').trans o0
    have o1':=(hK2.obj (σ.no+1) (by omega) hx1').trans o1
    simp[o1',o0',splice]
    have:=fin _ s2 σ2 he hW2 hK2 [ycc .i64 op,.int .i64 0,.int .i64 0,.int .i64 n,.int .i64 0,.str []] [ycc .i64 op,.int .i64 0,.int .i64 0,.int .i64 n,.int .i64 0,.str []]
    simp[W.av,W.cs]at this
    exact this
theorem zsH(V:za9 G){base x s}{k d:Nat}{t:List UInt8}(h:Wr base x s σ)(htl:t.length<2^40)(hd4:d≤400)(IH:∀j,j≤k→zhW G base x j)(hk:s.b.length<k)(hz:s.ls.length+s.b.length≤2^38)
  (hn:∀e,zan (fun d o s=>zp k d o [] s) t d s=.error e→zby R x σ e) (hs:∀w s',zan (fun d o s=>zp k d o [] s) t d s=.ok (w,s')→∀σ',Wr base x s' σ'→zO x σ σ'→R (.ret w.av) σ'):zzQ G 171 [.ptr x 0,.str t,.int .i64 (d:Int)] σ R:=by
 refine zo7 rfl ?_
 have hx:=h.hx
 simp[zvv,AV.plainV,AV.atom]
 refine(zm8 t _).mpr ?_
 have A1:zf σ ((((σ.newO [ycc .i64 0,.int .i64 0,.int .i64 0,.int .i64 0,.int .i64 0,.str []]).newF.turn σ.nf).turn (σ.nf+1)).turn (σ.nf+1+1)):=(((zf.refl σ).newO.newF.turn (by omega)).turn (by omega)).turn (by omega)
 have hno1:((((σ.newO [ycc .i64 0,.int .i64 0,.int .i64 0,.int .i64 0,.int .i64 0,.str []]).newF.turn σ.nf).turn (σ.nf+1)).turn (σ.nf+1+1)).no=σ.no+1:=by simp
 have o1:((((σ.newO [ycc .i64 0,.int .i64 0,.int .i64 0,.int .i64 0,.int .i64 0,.str []]).newF.turn σ.nf).turn (σ.nf+1)).turn (σ.nf+1+1)).objs σ.no=some [.int .i64 0,.int .i64 0,.int .i64 0,.int .i64 0,.int .i64 0,.str []]:=by simp
 generalize hσ1:(((σ.newO [ycc .i64 0,.int .i64 0,.int .i64 0,.int .i64 0,.int .i64 0,.str []]).newF.turn σ.nf).turn (σ.nf+1)).turn (σ.nf+1+1)=σ1 at *
 have hW1:=h.adds A1
 have K1:=A1.keepR hx
 have hx0:¬x=σ.no:=by omega
 have hx0':σ.no≠x:=by omega
 by_cases ho:zM t=0
 ·have he:zan (fun d o s=>zp k d o [] s) t d s=zaP t s:=by unfold zan;rw[if_pos ho]
  simp[ho]
  refine zgQ fun σ2 A2=>?_
  have K12:=K1.trans (A2.keepR hW1.hx)
  have hW2:=hW1.adds A2
  have hn2:=A2.no
  have o2:=(A2.obj σ.no (by omega)).trans o1
  cases hf:zt zax t with
  | some w =>
   have hl:zaP t s=(zB s).map fun p=>({ w with n:=p.1 },p.2):=by unfold zaP;rw[hf]
   simp[W.av,W.cs,splice]
   have A3:zf σ2 ((σ2.newO [ycc .i64 0,ycc .i64 0,ycc .i64 0,ycc .i64 0,ycc .i64 0,yce []]).setO σ2.no [ycc .i64 w.op,ycc .i64 w.ty,ycc .i64 w.n,ycc .i64 w.body,ycc .i64 w.other,yce w.name]):=(zf.refl _).newO.setO (by omega)
   have hx2:σ2.no≠x:=by omega
   have o3:((σ2.newO [ycc .i64 0,ycc .i64 0,ycc .i64 0,ycc .i64 0,ycc .i64 0,yce []]).setO σ2.no [ycc .i64 w.op,ycc .i64 w.ty,ycc .i64 w.n,ycc .i64 w.body,ycc .i64 w.other,yce w.name]).objs σ2.no=some [ycc .i64 w.op,ycc .i64 w.ty,ycc .i64 w.n,ycc .i64 w.body,ycc .i64 w.other,yce w.name]:=by simp
   have n3:σ2.no<((σ2.newO [ycc .i64 0,ycc .i64 0,ycc .i64 0,ycc .i64 0,ycc .i64 0,yce []]).setO σ2.no [ycc .i64 w.op,ycc .i64 w.ty,ycc .i64 w.n,ycc .i64 w.body,ycc .i64 w.other,yce w.name]).no:=by simp
   generalize (σ2.newO [ycc .i64 0,ycc .i64 0,ycc .i64 0,ycc .i64 0,ycc .i64 0,yce []]).setO σ2.no [ycc .i64 w.op,ycc .i64 w.ty,ycc .i64 w.n,ycc .i64 w.body,ycc .i64 w.other,yce w.name]=σ3 at *
   have K13:=K12.trans (A3.keepR hW2.hx)
   refine zhV V (hW2.adds A3) (fun e q=>?_) (fun n s' q r1 r2 σ4 hW4 K4=>?_)
   ·intro σ' K
    simp
    exact hn e (by rw[he,hl,q];rfl) _ (K13.trans K)
   ·have o4:=(K4.r.obj σ2.no n3 hx2).trans o3
    have hne:¬σ.no=σ2.no:=by omega
    have o5:=(K4.r.obj σ.no (by omega) hx0').trans ((A3.obj σ.no (by omega)).trans o2)
    have:=hs _ s' (by rw[he,hl,q];rfl) _ ((hW4.setO (cs:=[ycc .i64 w.op,ycc .i64 w.ty,ycc .i64 n,ycc .i64 w.body,ycc .i64 w.other,yce w.name]) hx2).setO (cs:=[ycc .i64 w.op,ycc .i64 w.ty,ycc .i64 n,ycc .i64 w.body,ycc .i64 w.other,yce w.name]) hx0') (((K13.trans K4.r).setO (by omega) hx2).setO (yah _) hx0')
    simp[W.av,W.cs]at this
    simp[o4,o5,hne,splice]
    exact this
  | none =>
   simp[W.av,W.cs,splice,zaM]
   have A3:zf σ2 ((σ2.newO [ycc .i64 0,ycc .i64 0,ycc .i64 0,ycc .i64 0,ycc .i64 0,yce []]).setO σ2.no [ycc .i64 0,ycc .i64 0,ycc .i64 0,ycc .i64 0,ycc .i64 0,yce []]):=(zf.refl _).newO.setO (by omega)
   generalize (σ2.newO [ycc .i64 0,ycc .i64 0,ycc .i64 0,ycc .i64 0,ycc .i64 0,yce []]).setO σ2.no [ycc .i64 0,ycc .i64 0,ycc .i64 0,ycc .i64 0,ycc .i64 0,yce []]=σ3 at *
   refine zpF V htl fun σ4 A4=>?_
   have hW3:=hW2.adds A3
   have hW4:=hW3.adds A4
   have K14:=(K12.trans (A3.keepR hW2.hx)).trans (A4.keepR hW3.hx)
   have o4:=(A4.obj σ.no (by have:=A3.no;omega)).trans ((A3.obj σ.no (by omega)).trans o2)
   have n4:=A3.no
   have n5:=A4.no
   cases hr:zt zaJ t with
   | some w =>
    have hl:zaP t s=.ok (w,s):=zpu hf hr s
    simp[W.av,W.cs,splice,o4]
    refine zP (fun _=>?_) (fun q=>by simp at q)
    have hx4:σ4.no≠x:=by omega
    have:=hs w s (by rw[he,hl]) _ (((hW4.adds ((zf.refl σ4).newO (cs:=[ycc .i64 0,ycc .i64 0,ycc .i64 0,ycc .i64 0,ycc .i64 0,yce []]))).setO (cs:=w.cs) hx4).setO (cs:=w.cs) hx0') (((K14.trans (((zf.refl σ4).newO (cs:=[ycc .i64 0,ycc .i64 0,ycc .i64 0,ycc .i64 0,ycc .i64 0,yce []])).keepR hW4.hx)).setO (by omega) hx4).setO (yah _) hx0')
    simp[W.av,W.cs]at this
    have hne:¬σ.no=σ4.no:=by omega
    simp[splice,o4,hne]
    exact this
   | none =>
    have hl:zaP t s=.error 2:=by unfold zaP;rw[hf,hr]
    simp[W.av,W.cs,splice,zaM,o4]
    refine zP (fun q=>by simp at q) (fun _=>?_)
    simp
    exact hn 2 (by rw[he,hl]) _ (K14.trans (zf.keepR ((zf.refl σ4).newO.setO (yah _)) hW4.hx))
 ·have he:zan (fun d o s=>zp k d o [] s) t d s=zR (fun d o s=>zp k d o [] s) (zM t) (d+1) s:=by unfold zan;rw[if_neg ho]
  have hop:=(zkG t).resolve_left ho
  have w1:yb3 .i64 ((d:Int)+1)=((d+1:Nat):Int):=by rw[wrap_i64]<;>omega
  simp[ho,w1]
  refine zpH (d:=d+1) hW1 hop (by omega) (by omega) IH hk hz (fun e q=>?_) (fun w s' q σ' hW' hK'=>?_)
  ·intro σ' K
   simp
   exact hn e (by rw[he,q]) _ (K1.trans K)
  ·have o2:=(hK'.obj σ.no (by omega) hx0').trans o1
   have:=hs w s' (by rw[he,q]) _ (hW'.setO (cs:=w.cs) hx0') ((K1.trans hK').setO (yah _) hx0')
   simp[o2,W.av,W.cs,splice]
   simp[W.av,W.cs]at this
   exact this
theorem Wr.push{base x s τ g tos lv l}(h:Wr base x s τ)(ht:All2 Al.RepE tos s.ls)(hG:zgm σ x 6 τ lv (l.map W.av))(hσ:base≤σ.nf){τ':AS}(e1:τ'.objs=upd τ.objs x (some [.str s.b,.sl (.fam τ.nf false) 1 (tos++[lv])]))(e2:τ'.no=τ.no)(e3:τ'.nf=τ.nf+1)(e4:τ'.F τ.nf=.alive)
  (e5:∀f,f<τ.nf→¬zbq τ x f→τ'.F f=τ.F f) (K:zO x σ τ) (hg:∀f,zbq τ x f→f=g) {v:AV} (hmv:∀f,Go.Abs.mrg f v=v) (hR:∀σ',Wr base x { s with ls:=s.ls++[l] } σ'→zO x σ σ'→R (.ret v) σ'):Al.MrgOr R (.ret v) τ':=by
 have hb:=h.hb
 have hn:=K.nf
 have base0:∀σ':AS,σ'.no=τ.no→σ'.nf=τ.nf+1→(∀o,o≠x→σ'.objs o=τ.objs o)→(∃tos',σ'.objs x=some [.str s.b,.sl (.fam τ.nf false) 1 tos']∧All2 Al.RepE tos' (s.ls++[l]))→σ'.F τ.nf=.alive →
   (∀f,f<τ.nf→¬zbq τ x f→f<σ.nf∨f<base→σ'.F f=τ.F f)→R (.ret v) σ':=by
  intro σ' a1 a2 a3 ⟨tos',a4,a6⟩ a7 a8
  have nb:∀f,f<base→¬zbq τ x f:=fun f hf=>h.uses hf
  refine hR σ' ⟨by rw[a1];exact h.hx,⟨hb.1,by omega⟩,?_,h.ok,h.len,_,a4,.inr ⟨τ.nf,tos',rfl,hb.2,by omega,a7,a6⟩⟩ ⟨by rw[a1];exact K.no,by omega,fun o h1 h2=>(a3 o h2).trans (K.obj o h1 h2),fun f h1 h2=>?_,fun f h1 h2=>?_⟩
  ·rw[a8 0 (by omega) (nb 0 hb.1) (.inr hb.1)];exact h.h0
  ·have hu:¬zbq τ x f:=fun u=>h2 (K.use f h1 u)
   rw[a8 f (by omega) hu (.inl h1)]
   exact K.fam f h1 h2
  ·obtain⟨cs,v,q1,q2,q3⟩:=h2
   rw[a4]at q1
   cases q1
   simp at q2
   subst q2
   simp[zgj]at q3
   omega
 rcases hG with ⟨h1,rfl⟩|⟨f,rfl,h2,h3,h4,h5⟩
 ·have hl:l=[]:=by simpa using h1
  subst hl
  exact .inl (base0 τ' e2 e3 (fun o ho=>by rw[e1];simp[ho]) ⟨tos++[.nilsl],by rw[e1];simp,ht.append (.cons (.inl ⟨rfl,rfl⟩) .nil)⟩ e4 (fun f q1 q2 _=>e5 f q1 q2))
 ·refine Al.MrgOr.merged f (fun o=>o==x) (by omega) (by rw[e5 f h3 h5];exact h4) ?_
  rw[hmv]
  refine base0 _ e2 e3 (fun o ho=>by simp[AS.mrg,e1,ho]) ⟨tos++[.sl (.fam 0 false) 6 (l.map W.av)],?_,ht.append (.cons (.inr ⟨_,rfl⟩) .nil)⟩ ?_ (fun f' q1 q2 q3=>?_)
  ·have:¬τ.nf=f:=by omega
   simp[AS.mrg,e1,Al.mrg_rows ht,this,Function.comp_def,Al.mrg_W]
  ·have:¬τ.nf=f:=by omega
   simp[AS.mrg,zf2,this,e4]
  ·have:¬f'=f:=by omega
   simp only[AS.mrg,zf2,zgF,this,if_false]
   exact e5 f' q1 q2
def LsW(base x d k0:Nat)(o:Bool)(s0:Ts)(σ:AS)(a:Nat→AV)(τ:AS):Prop:=∃(k:Nat) (l:List W) (s:Ts),zp k0 d o [] s0=zp k d o l s∧k≤k0∧s.b.length<k∧l.length+s.b.length≤2^38∧s.ls.length+s.b.length≤2^38∧a 0=.ptr x 0∧a 1=.int .i64 (d:Int)∧a 2=.sl (.stat true) 1 ((zdj d o).map yce)∧zgm σ x 6 τ (a 8) (l.map W.av)∧Wr base x s τ∧zO x σ τ
def EnI(L:List (List UInt8))(t:List UInt8)(x d:Nat)(v8:AV)(τ2:AS)(a:Nat→AV)(τ:AS):Prop:=∃i,i≤L.length∧(∀j,j<i→L[j]?≠some t)∧τ=τ2∧a 0=.ptr x 0∧a 1=.int .i64 (d:Int)∧a 2=.sl (.stat true) 1 (L.map yce)∧a 8=v8∧a 9=.str t∧a 14=.sl (.stat true) 1 (L.map yce)∧a 15=.int .i64 (L.length:Int)∧a 16=.int .i64 (i:Int)
theorem zna(d:Nat)(o:Bool):(zdj d o).length≤2:=by
 unfold zdj
 split
 ·simp
 ·split<;>simp
theorem zlE(V:za9 G){base x s0}{k0 d:Nat}{o:Bool}(ho0:o=true→0<d)(hd:d≤400)(hσ:base≤σ.nf)(IH:∀j,j<k0→zhW G base x j)(hn:∀e,zp k0 d o [] s0=.error e→zby R x σ e)(hs:∀n t s',zp k0 d o [] s0=.ok ((n,t),s')→∀σ',Wr base x s' σ'→zO x σ σ'→R (.ret (.tuple [.int .i64 n,.str t])) σ')
  {a:Nat→AV} {τ:AS} (hI:LsW base x d k0 o s0 σ a τ):avc yb5 G 48 zhs (zaO (fun a' σ'=>LsW base x d k0 o s0 σ a' σ'∧MBt x a' σ'<MBt x a τ) (zak 0 (zcJ yb5 [.tmp 6,.tmp 7] (Al.MrgOr R)))) a τ:=by
 obtain⟨k,l,s,he,hk,hkb,hlb,hsb,a0,a1,a2,hG,hR,hK⟩:=hI
 have hmb:=zc2 hR a
 have hl36:=hR.len
 obtain⟨k,rfl⟩:∃j,k=j+1:=⟨k-1,by omega⟩
 rw[zp]at he
 have hEl:=zna d o
 have hmem:=zm9 ho0
 simp[zhs,a0]
 refine zgP hR (fun q=>?_) (fun t s1 q σ1 hr1 hk1=>?_)
 ·intro σ' h1
  exact .inl (hn 2 (by rw[he,q];rfl) σ' (hK.trans h1))
 ·obtain⟨q1,q2,q3⟩:=za3 q
  rw[q]at he
  simp only[Except.bind]at he
  have hK1:=hK.trans hk1.r
  have hG1:=hG.keep hk1.r
  have hmb1:=zc2 hr1 a
  have ht0:1≤t.length:=ybm.2 q2
  simp[a2]
  refine zK (EnI (zdj d o) t x d (a 8) σ1) (MU 16 3) ⟨0,by simp,by simp,rfl,by simp[a0],by simp[a1],by simp[a2],by simp,by simp,by simp,by simp,by simp⟩ fun b τ2 hE=>?_
  obtain⟨i,hi,hno,rfl,b0,b1,b2,b8,b9,b14,b15,b16⟩:=hE
  generalize hL:zdj d o=L at *
  by_cases hlt:i<L.length
  ·obtain⟨w,hw⟩:∃w,L[i]=w:=⟨L[i],rfl⟩
   have hw2:L[i]?=some w:=by rw[←hw];simp[hlt]
   have wi:yb3 .i64 ((i:Int)+1)=((i+1:Nat):Int):=by rw[wrap_i64]<;>omega
   by_cases ht:t=w
   ·subst ht
    have hin:t∈L:=ycd hw2
    rw[if_pos ((hmem t).1 hin)]at he
    obtain⟨lv,ho,hlv⟩:=hr1.cells
    have l1:=hlv.one
    have g1:=hG1.one
    have wl:yb3 .i64 (s1.ls.length:Int)=(s1.ls.length:Int):=by rw[wrap_i64]<;>(rw[q3];omega)
    have hlen:s1.ls.length≤2^38:=by rw[q3];omega
    have fin:∀τ':AS,∀tos g,All2 Al.RepE tos s1.ls→(∀f,zbq τ2 x f→f=g)→τ'.objs=upd τ2.objs x (some [.str s1.b,.sl (.fam τ2.nf false) 1 (tos++[a 8])])→τ'.no=τ2.no→τ'.nf=τ2.nf+1→τ'.F τ2.nf=.alive→(∀f,f<τ2.nf→¬zbq τ2 x f→τ'.F f=τ2.F f) →
      Al.MrgOr R (.ret (.tuple [.int .i64 (s1.ls.length:Int),.str t])) τ':=fun τ' tos g t1 t2 t3 t4 t5 t6 t7 =>
     Wr.push hr1 t1 hG1 hσ t3 t4 t5 t6 t7 hK1 t2 (by intro f;simp) fun σ' r1 r2=>hs _ _ _ he σ' r1 r2
    rcases hlv with ⟨hl0,rfl⟩|⟨g,tos,rfl,t1,t2,t3,t4⟩
    ·have wl':yb3 .i64 0=0:=rfl
     have key:=fin ((τ2.newF).setO x [.str s1.b,.sl (.fam τ2.nf false) 1 ([]++[a 8])]) [] 0 (by rw[hl0];exact .nil) (fun f ⟨cs,v,u1,u2,u3⟩=>by rw[ho]at u1;cases u1;simp at u2;subst u2;cases u3) (by simp) (by simp) (by simp) (by simp) (fun f h1 h2=>by
      have:¬f=τ2.nf:=by omega
      simp[this])
     rw[hl0]at key
     simp[zdB,b0,b1,b2,b8,b9,b14,b15,b16,hlt,hw,ho,g1,splice,wl']
     simpa using key
    ·have tl:=t4.length
     have key:=fin (((τ2.setF g .dead).newF).setO x [.str s1.b,.sl (.fam τ2.nf false) 1 (tos++[a 8])]) tos g t4 (fun f ⟨cs,v,u1,u2,u3⟩=>by rw[ho]at u1;cases u1;simp at u2;subst u2;simpa [zgj]using u3.symm) (by simp) (by simp) (by simp) (by simp) (fun f h1 h2=>by
      have:¬f=τ2.nf:=by omega
      have:¬f=g:=fun e=>h2 ⟨_,_,ho,rfl,by rw[e];rfl⟩
      simp[*])
     simp[zdB,b0,b1,b2,b8,b9,b14,b15,b16,hlt,hw,ho,g1,splice,t3,tl,wl]
     refine⟨by omega,?_⟩
     simpa using key
   ·simp[zdB,b0,b1,b2,b8,b9,b14,b15,b16,hlt,hw,ht,wi]
    refine⟨⟨i+1,hlt,fun j hj=>?_,rfl,by simp[b0],by simp[b1],by simp[b2],by simp[b8],by simp[b9],by simp[b14],by simp[b15],by simp⟩,?_⟩
    ·by_cases e:j=i
     ·subst e
      rw[hw2]
      intro q
      exact ht (yaR.inj q).symm
     ·exact hno j (by omega)
    ·simp[MU,b16]
     omega
  ·have hiL:i=L.length:=by omega
   have hnin:t∉L:=fun hin=>by
    obtain⟨j,hj,e⟩:=ya9 hin
    exact hno j (by omega) (by rw[←e];simp[hj])
   rw[if_neg (fun e=>hnin ((hmem t).2 e))]at he
   have g1:=hG1.one
   simp[zdB,b0,b1,b2,b8,b9,b14,b15,b16,hiL,zko,g1]
   refine zsH V hr1 (k:=k) (by omega) hd (fun j hj=>IH j (by omega)) (by omega) (by rw[q3];omega) (fun e q5=>?_) (fun w s2 q5 σ2 hr2 hk2=>?_)
   ·intro σ' e1
    exact .inl (hn e (by rw[he,q5]) σ' (hK1.trans e1))
   ·rw[q5]at he
    simp only[Except.bind]at he
    have hin:=zfO (fun d o s r s'=>zb3 k d o [] s r s') q5
    rw[LeT,q3]at hin
    have hmb2:=zc2 hr2 a
    have g2:=(hG1.keep hk2).one
    simp[W.av,W.cs,g2]
    refine zm6 (row:=w.av) (hG1.keep hk2) hr2 (hK1.trans hk2) hσ (by simp[W.av,W.cs]) (by simp;omega) fun v' τ' e1 e2 e3 e4 e5 _=>?_
    simp
    refine⟨⟨k,l++[w],s2,he,by omega,by omega,by simp;omega,by omega,by simp[b0],by simp[b1],by simp[b2,hL],by simpa using e1,e2,e3⟩,?_⟩
    rw[zc2 e2,hmb]
    omega
theorem zkL(V:za9 G){base x}:∀k j:Nat,j≤k→zhW G base x j
 | 0,j,hj=>fun σ R s d o h hk=>by omega
 | k+1,j,hj=>by
  have IH:=zkL V (base:=base) (x:=x) k
  intro σ R s d o h hk hz hd ho hn hs
  refine Al.merging (zoG rfl ?_)
  have hb:=h.hb
  simp[zvd]
  refine zK (LsW base x d j o s σ) (MBt x) ⟨j,[],s,rfl,yah _,hk,by simp;omega,hz,by simp,by simp,by simp,.inl ⟨rfl,by simp⟩,h,.refl ..⟩ fun a τ hI=>?_
  exact zlE V ho hd hb.2 (fun i hi=>IH i (by omega)) hn hs hI
end
theorem znb(c:UInt8)(h:c.toNat<128):yb3 .i32 (c.toNat:Int)=(c.toNat:Int):=by
 unfold yb3
 simp[yap,yao]
 omega
def zwG:List UInt8:=[97,98,99,100,101,102,103,104,105,106,107,108,109,110,111,112,113,114,115,116,117,118,119,120,121,122,95]
def zfP:List UInt8:=[97,98,99,100,101,102,103,104,105,106,107,108,109,110,111,112,113,114,115,116,117,118,119,120,121,122,95,48,49,50,51,52,53,54,55,56,57]
theorem zwH(c:UInt8):inS zfP c=(zac c||zH c):=by
 have h:∀i:Fin 256,inS zfP (UInt8.ofNat i.1)=(zac (UInt8.ofNat i.1)||zH (UInt8.ofNat i.1)):=by decide
 have:=h ⟨c.toNat,c.toNat_lt⟩
 simpa using this
theorem zBi(c:UInt8):inS zwG c=zac c:=by
 have h:∀i:Fin 256,inS zwG (UInt8.ofNat i.1)=zac (UInt8.ofNat i.1):=by decide
 have:=h ⟨c.toNat,c.toNat_lt⟩
 simpa using this
theorem zfQ:∀c∈zfP,c.toNat<128:=by decide
theorem znc{c:UInt8}(h:inS zfP c=true):c.toNat<128:=zfQ c (by unfold inS at h;simpa using h)
theorem zgR:inS zfP=fun c=>(zac c||zH c):=funext zwH
section
variable {G : Env} {σ : AS} {R : Out → AS → Prop}
theorem zBj{t:List UInt8}(hl:t.length<2^40)(h:∀σ',zf σ σ'→R (.ret (.bool (zdL 24 t))) σ'):zzQ G 117 [.str t] σ R:=by
 refine zoE rfl ?_
 cases t with
 | nil =>
  simp[zoD]
  exact h _ (.refl _)
 | cons c r =>
  have h1:(1:Int)≤(((c::r).length:Nat):Int):=by simp;omega
  generalize ht:c::r=t at *
  have hc0:t[0]?=some c:=by rw[←ht];rfl
  have h1n:1≤t.length:=by omega
  by_cases h24:t.length≤24
  ·have h24i:(t.length:Int)≤24:=by omega
   simp[zoD,h1,h1n,h24,h24i]
   refine zd3 (l:=zfP) zfQ (by decide) (by decide) (by omega) fun σ' A=>?_
   by_cases hall:t.all (inS zfP)=true
   ·have e:=(zbH zfP t).2 hall
    have hc:inS zfP c=true:=by rw[yaM]at hall;exact hall c (by rw[←ht];simp)
    have hc8:=znc hc
    have wc:yb3 .i32 (c.toNat:Int)=(c.toNat:Int):=znb c hc8
    simp[e,hc0,wc]
    refine zdD (s:=zwG) hc8 ?_
    have e2:zwG.contains c=inS zwG c:=rfl
    rw[e2,zBi]
    have e3:zdL 24 t=zac c:=by
     rw[zgR,←ht]at hall
     rw[←ht]
     simp only[yb6,Bool.and_eq_true]at hall
     rw[←ht]at h24
     simp only[zdL,hall.2,h24,decide_true,Bool.true_and,Bool.and_true]
    have:=h _ A
    rw[e3]at this
    simpa using this
   ·have e:¬ziU zfP t=[]:=fun q=>hall ((zbH zfP t).1 q)
    simp[e]
    have e3:zdL 24 t=false:=by
     rw[zgR,←ht]at hall
     simp only[yb6,Bool.and_eq_true,not_and,Bool.not_eq_true]at hall
     rw[←ht]
     simp only[zdL]
     cases hL:zac c with
     | false=>simp
     | true=>simp[hall (by simp[hL])]
    have:=h _ A
    rw[e3]at this
    exact this
  ·have h24i:¬(t.length:Int)≤24:=by omega
   have e:zdL 24 t=false:=by rw[←ht];simp[zdL];rw[←ht]at h24;simp at h24;omega
   simp[zoD,h1,h1n,h24,h24i]
   have:=h _ (.refl _)
   rw[e]at this
   exact this
end
def zsI:PC:=(.seq (.ops [⟨some 42,.move (.tmp 0),none,[]⟩,
    ⟨some 43,.nilCheck (.tmp 42),none,[]⟩,
    ⟨some 44,.fieldAddr 77 (.tmp 43) 1,none,[]⟩,
    ⟨none,.store 55 (.tmp 44) (.const (.slice none 0 0)),none,[]⟩])
 (.seq (.ops [⟨some 45,.move (.tmp 0),none,[]⟩,
    ⟨some 46,.buildSlice 22 1 #[(0,(.const (.string ⟨#[41]⟩)))],none,[]⟩,
    ⟨some 47,.call ⟨.value (.func 119),#[(.tmp 45),(.const (.int .i64 0)),(.tmp 46)],#[75,3,22]⟩,none,[]⟩])
 (.seq (.ops [⟨some 48,.move (.tmp 0),none,[]⟩,
    ⟨some 49,.nilCheck (.tmp 48),none,[]⟩,
    ⟨some 50,.fieldAddr 77 (.tmp 49) 1,none,[]⟩,
    ⟨some 51,.load 55 (.tmp 50),none,[]⟩,
    ⟨some 52,.fieldAddr 57 (.tmp 2) 4,none,[]⟩,
    ⟨none,.store 55 (.tmp 52) (.tmp 51),none,[]⟩])
 (.seq (.ops [⟨some 53,.load 57 (.tmp 2),none,[]⟩,
    ⟨none,.store 57 (.tmp 2) (.tmp 53),none,[]⟩])
 .ret))))
def zsJ:PC:=(.seq (.seq (.ops [⟨some 37,.move (.tmp 0),none,[]⟩,
    ⟨some 38,.call ⟨.value (.func 59),#[(.tmp 37),(.const (.string ⟨#[108,111,99,97,108]⟩))],#[75,9]⟩,none,[]⟩])
  (.cond (.tmp 38)
    (.ops [⟨some 39,.move (.tmp 0),none,[]⟩,
      ⟨some 40,.call ⟨.value (.func 118),#[(.tmp 39)],#[75]⟩,none,[]⟩,
      ⟨some 41,.fieldAddr 57 (.tmp 2) 2,none,[]⟩,
      ⟨none,.store 44 (.tmp 41) (.tmp 40),none,[]⟩])
    .skip))
 zsI)
def zsK:PC:=(.seq (.seq (.ops [⟨some 25,.move (.tmp 0),none,[]⟩,
    ⟨some 26,.call ⟨.value (.func 59),#[(.tmp 25),(.const (.string ⟨#[114,101,115,117,108,116]⟩))],#[75,9]⟩,none,[]⟩])
  (.cond (.tmp 26)
    (.seq (.ops [⟨some 27,.move (.tmp 0),none,[]⟩,
      ⟨some 28,.call ⟨.value (.func 118),#[(.tmp 27)],#[75]⟩,none,[]⟩,
      ⟨some 5,.assign (.tmp 28),none,[]⟩])
    (.seq (.ops [⟨some 29,.move (.tmp 5),none,[]⟩,
      ⟨some 30,.call ⟨.builtin .len,#[(.tmp 29)],#[44]⟩,none,[]⟩,
      ⟨some 31,.binOp .eql 3 (.tmp 30) (.const (.int .i64 1)) 3,none,[]⟩,
      ⟨some 32,.call ⟨.value (.func 61),#[(.tmp 31),(.const (.int .i64 2))],#[4,33]⟩,none,[]⟩])
    (.ops [⟨some 33,.move (.tmp 5),none,[]⟩,
      ⟨some 34,.indexAddr 44 (.tmp 33) (.const (.int .i64 0)),none,[]⟩,
      ⟨some 35,.load 3 (.tmp 34),none,[]⟩,
      ⟨some 36,.fieldAddr 57 (.tmp 2) 3,none,[]⟩,
      ⟨none,.store 3 (.tmp 36) (.tmp 35),none,[]⟩])))
    .skip))
 zsJ)
def zsL:PC:=(.seq (.seq (.ops [⟨some 20,.move (.tmp 0),none,[]⟩,
    ⟨some 21,.call ⟨.value (.func 59),#[(.tmp 20),(.const (.string ⟨#[112,97,114,97,109]⟩))],#[75,9]⟩,none,[]⟩])
  (.cond (.tmp 21)
    (.ops [⟨some 22,.move (.tmp 0),none,[]⟩,
      ⟨some 23,.call ⟨.value (.func 118),#[(.tmp 22)],#[75]⟩,none,[]⟩,
      ⟨some 24,.fieldAddr 57 (.tmp 2) 1,none,[]⟩,
      ⟨none,.store 44 (.tmp 24) (.tmp 23),none,[]⟩])
    .skip))
 zsK)
theorem zsM:zBK=(.seq (.ops [⟨some 2,.alloc 57,none,[]⟩])
 (.seq (.ops [⟨some 7,.move (.tmp 0),none,[]⟩,
    ⟨some 8,.call ⟨.value (.func 110),#[(.tmp 7)],#[75]⟩,none,[]⟩,
    ⟨some 9,.call ⟨.value (.func 116),#[(.tmp 8),(.const (.string ⟨#[36]⟩))],#[9,9]⟩,none,[]⟩,
    ⟨some 6,.move (.tmp 9),none,[]⟩,
    ⟨some 10,.extract (.tmp 6) 0,none,[]⟩,
    ⟨some 11,.extract (.tmp 6) 1,none,[]⟩,
    ⟨some 3,.assign (.tmp 10),none,[]⟩,
    ⟨some 4,.assign (.tmp 11),none,[]⟩])
 (.seq (.ops [⟨some 12,.move (.tmp 4),none,[]⟩,
    ⟨some 13,.move (.tmp 12),none,[]⟩,
    ⟨some 14,.move (.tmp 3),(some (13,true)),[]⟩,
    ⟨some 15,.call ⟨.value (.func 117),#[(.tmp 14)],#[9]⟩,(some (13,true)),[]⟩,
    ⟨some 16,.pick (.tmp 13) (.tmp 15) (.const (.bool false)),none,[]⟩,
    ⟨some 17,.call ⟨.value (.func 61),#[(.tmp 16),(.const (.int .i64 2))],#[4,33]⟩,none,[]⟩])
 (.seq (.ops [⟨some 18,.move (.tmp 3),none,[]⟩,
    ⟨some 19,.fieldAddr 57 (.tmp 2) 0,none,[]⟩,
    ⟨none,.store 9 (.tmp 19) (.tmp 18),none,[]⟩])
 zsL)))):=rfl
def endF(nm:List UInt8)(P:List Int)(ty:Int)(s:Ts):Res (F × Ts):=(zaQ zbo s).bind fun u=>(zp (u.2.b.length+1) 0 false [] { u.2 with ls:=[] }).map fun(v:(Int × List UInt8) × Ts)=>({ name:=nm,params:=P,locals:=u.1,type:=ty,lists:=v.2.ls },v.2)
def zi1(nm:List UInt8)(P:List Int)(s:Ts):Res (F × Ts):=(zhI s).bind fun r=>endF nm P r.1 r.2
def zlF(nm:List UInt8)(s:Ts):Res (F × Ts):=(zaQ zbn s).bind fun q=>zi1 nm q.1 q.2
theorem zcC(mx:Nat)(s:Ts):zC mx s=(zY s).bind fun p=>if p.1.head?=some 36∧zdL mx p.1.tail=true then zlF p.1.tail p.2 else .error 2:=rfl
theorem zS.setO{x σ τ o cs}(K:zS x σ τ)(ho:σ.no≤o)(hox:o≠x):zS x σ (τ.setO o cs) where
 no:=K.no
 nf:=K.nf
 obj p a b:=by
  have:¬p=o:=by omega
  simp[this]
  exact K.obj p a b
 fam:=K.fam
 lst cs' h:=by
  have:¬x=o:=fun e=>hox e.symm
  simp[this]
  exact K.lst cs' h
 some:=K.some
theorem zO.nil{x τ b}:zO x τ (τ.setO x [b,.nilsl]) where
 no:=yah _
 nf:=yah _
 obj o _ h:=by simp[h]
 fam _ _ _:=rfl
 use f _:=fun⟨cs,v,h1,h2,h3⟩=>by
  simp at h1
  subst h1
  simp at h2
  subst h2
  cases h3
theorem zpI{x:Nat}{τ:AS}{b:AV}{f:Nat}:¬zbq (τ.setO x [b,.nilsl]) x f:=fun⟨cs,v,h1,h2,h3⟩=>by
 simp at h1
 subst h1
 simp at h2
 subst h2
 cases h3
theorem zO.full{x σ τ}(K:zO x σ τ)(h:∀f,¬zbq σ x f):zd2 x x σ τ:=⟨K.no,K.nf,fun o a b _=>K.obj o a b,fun f a=>K.fam f a (h f)⟩
structure FnW(base x fo:Nat)(σ0:AS)(s:Ts)(nm:List UInt8)(pv lv:AV)(ty:Int)(τ:AS):Prop where
 rd:Wr base x s τ
 ks:zS x σ0 τ
 fx:fo≠x
 f0:σ0.no≤fo
 lt:fo<τ.no
 ob:τ.objs fo=some [.str nm,pv,lv,.int .i64 ty,.nilsl]
def zwI(R:Out→AS→Prop)(base x:Nat)(σ0:AS)(r:Res (F × Ts)):Prop:=∀f s',r=.ok (f,s')→∀pv lv tv σ',Al.IntsE pv f.params→Al.IntsE lv f.locals→Wr base x s' σ'→σ'.objs x=some [.str s'.b,tv]→zd2 x x σ0 σ'→(∀g,zgj tv=some g→σ0.nf≤g) →
 s'.ls=f.lists→R (.ret (.agg [.str f.name,pv,lv,.int .i64 f.type,tv])) σ'
section
variable {G : Env} {R : Out → AS → Prop}
theorem zqY(V:za9 G){base x fo s nm P L pv lv ty σ0 τ}{a:Nat→AV}(hF:FnW base x fo σ0 s nm pv lv ty τ)(hp:Al.IntsE pv P)(hl:Al.IntsE lv L)(a0:a 0=.ptr x 0)(a2:a 2=.ptr fo 0)
  (hn:∀e,((zp (s.b.length+1) 0 false [] { s with ls:=[] }).map fun(v:(Int × List UInt8) × Ts)=>(({ name:=nm,params:=P,locals:=L,type:=ty,lists:=v.2.ls }:F),v.2))=.error e→zby R x σ0 e)
  (hs:zwI R base x σ0 ((zp (s.b.length+1) 0 false [] { s with ls:=[] }).map fun(v:(Int × List UInt8) × Ts)=>(({ name:=nm,params:=P,locals:=L,type:=ty,lists:=v.2.ls }:F),v.2))):avc yb5 G 54 zsI (zcJ yb5 [.cell 2 57] R) a τ:=by
 have p1:=hp.one
 have l1:=hl.one
 have hfx:=hF.fx
 have hx:=hF.rd.hx
 have hof:=hF.ob
 obtain⟨lv0,ho,hlv⟩:=hF.rd.cells
 have hlen:=hF.rd.len
 have hW1:Wr base x { s with ls:=[] } (τ.setO x [.str s.b,.nilsl]):=⟨hF.rd.hx,hF.rd.hb,hF.rd.h0,hF.rd.ok,hF.rd.len,.nilsl,by simp,.inl ⟨rfl,rfl⟩⟩
 have K1:zO x σ0 (τ.setO x [.str s.b,.nilsl]):=hF.ks.r.trans zO.nil
 have of1:(τ.setO x [.str s.b,.nilsl]).objs fo=some [.str nm,pv,lv,.int .i64 ty,.nilsl]:=by simp[hfx,hof]
 have KF1:zd2 x x σ0 (τ.setO x [.str s.b,.nilsl]):=hF.ks.f.setO (.inl rfl)
 have nu1:∀f,¬zbq (τ.setO x [.str s.b,.nilsl]) x f:=fun f=>zpI
 have n1:(τ.setO x [.str s.b,.nilsl]).no=τ.no:=rfl
 have m1:(τ.setO x [.str s.b,.nilsl]).nf=τ.nf:=rfl
 have hlt:=hF.lt
 have hnf:=hF.ks.nf
 simp[zsI,a0,a2,ho,splice]
 generalize τ.setO x [.str s.b,.nilsl]=τ1 at *
 have go:=zkL V (base:=base) (x:=x) (s.b.length+1) (s.b.length+1) (yah _) τ1
 have e2:zdj 0 false=[zi]:=rfl
 have go2:∀R',(∀e,zp (s.b.length+1) 0 false [] { s with ls:=[] }=.error e→zby R' x τ1 e)→(∀n t s',zp (s.b.length+1) 0 false [] { s with ls:=[] }=.ok ((n,t),s')→∀σ',Wr base x s' σ'→zO x τ1 σ'→R' (.ret (.tuple [.int .i64 n,.str t])) σ')→zzQ G 119 [.ptr x 0,.int .i64 0,.sl (.stat true) 1 [.str [41]]] τ1 R':=fun R' u v=>by
  have:=go R' { s with ls:=[] } 0 false hW1 (by simp) (by simp;omega) (by omega) (by simp) u v
  rw[e2]at this
  exact this
 refine go2 _ (fun e q=>?_) (fun n t s' q τ2 hW2 K2=>?_)
 ·intro σ' K
  simp
  exact hn e (by rw[q];rfl) _ (K1.trans K)
 ·have of2:=(K2.obj fo (by omega) hfx).trans of1
  obtain⟨tv,ho2,htv⟩:=hW2.cells
  have t1:=htv.one
  have hxf:¬x=fo:=fun e=>hfx e.symm
  have hfx':¬fo=x:=hfx
  simp[a0,a2,ho2,of2,splice,t1,p1,l1,hxf,hfx']
  have KF:=KF1.trans (K2.full nu1)
  have f0:=hF.f0
  refine hs _ s' (by rw[q];rfl) pv lv tv _ hp hl ((hW2.setO hfx).setO hfx) (by simp[hxf,ho2]) ((KF.setO (.inr (.inr f0))).setO (.inr (.inr f0))) (fun g hg=>?_) rfl
  have hg1:zbq τ2 x g:=⟨_,_,ho2,rfl,hg⟩
  by_cases hlt2:g<τ1.nf
  ·exact absurd (K2.use g hlt2 hg1) (nu1 g)
  ·omega
end
def zi2(nm:List UInt8)(P L:List Int)(ty:Int)(s:Ts):Res (F × Ts):=(zp (s.b.length+1) 0 false [] { s with ls:=[] }).map fun(v:(Int × List UInt8) × Ts)=>(({ name:=nm,params:=P,locals:=L,type:=ty,lists:=v.2.ls }:F),v.2)
section
variable {G : Env} {R : Out → AS → Prop}
theorem FnW.keep{base x fo σ0 s s' nm pv lv ty τ τ'}(hF:FnW base x fo σ0 s nm pv lv ty τ)(hW:Wr base x s' τ')(K:zS x τ τ'):FnW base x fo σ0 s' nm pv lv ty τ' :=
 ⟨hW,hF.ks.trans K,hF.fx,hF.f0,yag hF.lt K.no,(K.obj fo hF.lt hF.fx).trans hF.ob⟩
theorem FnW.set{base x fo σ0 s nm pv lv ty τ nm' pv' lv' ty'}(hF:FnW base x fo σ0 s nm pv lv ty τ):FnW base x fo σ0 s nm' pv' lv' ty' (τ.setO fo [.str nm',pv',lv',.int .i64 ty',.nilsl]) :=
 ⟨hF.rd.setO hF.fx,hF.ks.setO hF.f0 hF.fx,hF.fx,hF.f0,hF.lt,by simp⟩
theorem zkM(V:za9 G){base x fo s nm P pv ty σ0 τ}{a:Nat→AV}(hF:FnW base x fo σ0 s nm pv .nilsl ty τ)(hp:Al.IntsE pv P)(a0:a 0=.ptr x 0)(a2:a 2=.ptr fo 0)
  (hn:∀e,endF nm P ty s=.error e→zby R x σ0 e) (hs:zwI R base x σ0 (endF nm P ty s)):avc yb5 G 54 zsJ (zcJ yb5 [.cell 2 57] R) a τ:=by
 have p1:=hp.one
 simp[zsJ,a0]
 refine zpC (w:=zbo) hF.rd (by decide) (fun q τ1 hW1 K1=>?_) (fun s1 q τ1 hW1 K1=>?_)
 ·have e:zaQ zbo s=.ok ([],s):=by unfold zaQ;rw[q]
  have hF1:=hF.keep hW1 K1
  simp
  have e3:endF nm P ty s=zi2 nm P [] ty s:=by unfold endF;rw[e];rfl
  rw[e3]at hs
  exact zqY V (L:=[]) hF1 hp (.inl ⟨rfl,.inl rfl⟩) (by simp[a0]) (by simp[a2]) (fun e' q'=>hn e' (by rw[e3];exact q')) hs
 ·have e:zaQ zbo s=zam (s1.b.length+1) [] s1:=by unfold zaQ;rw[q]
  have hF1:=hF.keep hW1 K1
  simp[a0]
  refine zjU (k:=s1.b.length+1) hW1 (by omega) (fun e' q'=>?_) (fun l s2 q' v τ2 hv hW2 K2=>?_)
  ·intro σ' K
   simp
   exact hn e' (by unfold endF;rw[e,q'];rfl) _ (hF1.ks.r.trans K)
  ·have hF2:=hF1.keep hW2 K2
   have v1:=hv.one
   have ob2:=hF2.ob
   simp[a0,a2,ob2,splice,v1]
   have e3:endF nm P ty s=zi2 nm P l ty s2:=by unfold endF;rw[e,q'];rfl
   rw[e3]at hs
   exact zqY V (L:=l) hF2.set hp hv (by simp[a0]) (by simp[a2]) (fun e' q3=>hn e' (by rw[e3];exact q3)) hs
theorem zqZ(V:za9 G){base x fo s nm P pv σ0 τ}{a:Nat→AV}(hF:FnW base x fo σ0 s nm pv .nilsl 0 τ)(hp:Al.IntsE pv P)(a0:a 0=.ptr x 0)(a2:a 2=.ptr fo 0)
  (hn:∀e,zi1 nm P s=.error e→zby R x σ0 e) (hs:zwI R base x σ0 (zi1 nm P s)):avc yb5 G 54 zsK (zcJ yb5 [.cell 2 57] R) a τ:=by
 have p1:=hp.one
 simp[zsK,a0]
 refine zpC (w:=zdX) hF.rd (by decide) (fun q τ1 hW1 K1=>?_) (fun s1 q τ1 hW1 K1=>?_)
 ·have e:zhI s=.ok (0,s):=by unfold zhI;rw[q]
  have hF1:=hF.keep hW1 K1
  simp
  have e3:zi1 nm P s=endF nm P 0 s:=by unfold zi1;rw[e];rfl
  rw[e3]at hs
  exact zkM V hF1 hp (by simp[a0]) (by simp[a2]) (fun e' q'=>hn e' (by rw[e3];exact q')) hs
 ·have hF1:=hF.keep hW1 K1
  simp[a0]
  refine zjU (k:=s1.b.length+1) hW1 (by omega) (fun e' q'=>?_) (fun l s2 q' v τ2 hv hW2 K2=>?_)
  ·intro σ' K
   simp
   exact hn e' (by unfold zi1 zhI;rw[q];simp only;rw[q'];rfl) _ (hF1.ks.r.trans K)
  ·have hF2:=hF1.keep hW2 K2
   have v1:=hv.one
   have ob2:=hF2.ob
   have e:zhI s=if l.length=1 then .ok (l.headD 0,s2)else .error 2:=by unfold zhI;rw[q];simp only;rw[q'];rfl
   by_cases h1:l.length=1
   ·obtain⟨n,rfl⟩:=List.length_eq_one_iff.1 h1
    rw[if_pos h1]at e
    have e3:zi1 nm P s=endF nm P n s2:=by unfold zi1;rw[e];rfl
    rw[e3]at hs
    have hv':∃b,v=.sl (.fam 0 b) 1 [.int .i64 n]:=by
     rcases hv with ⟨h,_⟩|⟨b,h⟩
     ·cases h
     ·exact⟨b,h⟩
    obtain⟨b,rfl⟩:=hv'
    have h0:=hF2.rd.h0
    have hnf:=hF2.rd.hb
    have hnf0:0<τ2.nf:=by omega
    simp
    refine zP (fun _=>?_) (fun q=>by cases q)
    simp[a0,a2,ob2,splice,h0,hnf0,p1]
    exact zkM V hF2.set hp (by simp[a0]) (by simp[a2]) (fun e' q'=>hn e' (by rw[e3];exact q')) hs
   ·rw[if_neg h1]at e
    have bad:∀σ',zO x τ2 σ'→R (.panic (zsF 2)) σ':=fun σ' K=>hn 2 (by unfold zi1;rw[e];rfl) _ (hF2.ks.r.trans K)
    rcases hv with ⟨h,rfl|⟨b,rfl⟩⟩|⟨b,rfl⟩
    ·simp
     refine zP (fun q=>by cases q) (fun _=>?_)
     simp
     exact bad _ (.refl ..)
    ·simp
     refine zP (fun q=>by cases q) (fun _=>?_)
     simp
     exact bad _ (.refl ..)
    ·have h1i:¬(l.length:Int)=1:=by omega
     simp[h1,h1i]
     refine zP (fun q=>by cases q) (fun _=>?_)
     simp
     exact bad _ (.refl ..)
theorem zwJ(V:za9 G){base x fo s nm σ0 τ}{a:Nat→AV}(hF:FnW base x fo σ0 s nm .nilsl .nilsl 0 τ)(a0:a 0=.ptr x 0)(a2:a 2=.ptr fo 0)
  (hn:∀e,zlF nm s=.error e→zby R x σ0 e) (hs:zwI R base x σ0 (zlF nm s)):avc yb5 G 54 zsL (zcJ yb5 [.cell 2 57] R) a τ:=by
 simp[zsL,a0]
 refine zpC (w:=zbn) hF.rd (by decide) (fun q τ1 hW1 K1=>?_) (fun s1 q τ1 hW1 K1=>?_)
 ·have e:zaQ zbn s=.ok ([],s):=by unfold zaQ;rw[q]
  have hF1:=hF.keep hW1 K1
  simp
  have e3:zlF nm s=zi1 nm [] s:=by unfold zlF;rw[e];rfl
  rw[e3]at hs
  exact zqZ V (P:=[]) hF1 (.inl ⟨rfl,.inl rfl⟩) (by simp[a0]) (by simp[a2]) (fun e' q'=>hn e' (by rw[e3];exact q')) hs
 ·have e:zaQ zbn s=zam (s1.b.length+1) [] s1:=by unfold zaQ;rw[q]
  have hF1:=hF.keep hW1 K1
  simp[a0]
  refine zjU (k:=s1.b.length+1) hW1 (by omega) (fun e' q'=>?_) (fun l s2 q' v τ2 hv hW2 K2=>?_)
  ·intro σ' K
   simp
   exact hn e' (by unfold zlF;rw[e,q'];rfl) _ (hF1.ks.r.trans K)
  ·have hF2:=hF1.keep hW2 K2
   have v1:=hv.one
   have ob2:=hF2.ob
   simp[a0,a2,ob2,splice,v1]
   have e3:zlF nm s=zi1 nm l s2:=by unfold zlF;rw[e,q'];rfl
   rw[e3]at hs
   exact zqZ V hF2.set hv (by simp[a0]) (by simp[a2]) (fun e' q3=>hn e' (by rw[e3];exact q3)) hs
theorem zlG(V:za9 G){base x s σ}(h:Wr base x s σ)(hn:∀e,zC 24 s=.error e→zby R x σ e)(hs:zwI R base x σ (zC 24 s)):zzQ G 60 [.ptr x 0] σ R:=by
 refine zr2 rfl ?_
 rw[zcC]at hs
 simp only[zcC]at hn
 obtain⟨cs0,hcs0⟩:=h.isSome
 have hx:=h.hx
 rw[zsM]
 simp
 have A1:zf σ (σ.newO [.str [],.nilsl,.nilsl,.int .i64 0,.nilsl]):=(zf.refl σ).newO
 have o1:(σ.newO [.str [],.nilsl,.nilsl,.int .i64 0,.nilsl]).objs σ.no=some [.str [],.nilsl,.nilsl,.int .i64 0,.nilsl]:=by simp
 have n1:(σ.newO [.str [],.nilsl,.nilsl,.int .i64 0,.nilsl]).no=σ.no+1:=by simp
 generalize σ.newO [.str [],.nilsl,.nilsl,.int .i64 0,.nilsl]=σ1 at *
 have hW1:=h.adds A1
 have K1:=A1.keepS hx hcs0
 refine zgP hW1 (fun q=>?_) (fun t s1 q σ2 hW2 K2=>?_)
 ·intro σ' K
  simp
  exact hn 2 (by rw[q];rfl) _ (K1.r.trans K)
 ·rw[q]at hs
  simp only[q,Except.bind]at hn hs
  have htl:=(za3 q).1
  have hlen:=hW1.len
  have hF:FnW base x σ.no σ s1 [] .nilsl .nilsl 0 σ2:=⟨hW2,K1.trans K2,by omega,yah _,by have:=K2.no;omega,(K2.obj _ (by omega) (by omega)).trans o1⟩
  simp
  refine zes ?_
  have bad:¬(t.head?=some 36∧zdL 24 t.tail=true)→∀σ',zO x σ2 σ'→R (.panic (zsF 2)) σ':=fun hc σ' K=>hn 2 (by rw[if_neg hc]) _ (hF.ks.r.trans K)
  by_cases h36:t.head?=some 36
  ·have e1:zgn [36] t=true:=by rw[zfJ];simpa using h36
   have e2:t.drop 1=t.tail:=by simp
   simp[e1]
   refine zBj (by simp;omega) fun σ3 A3=>?_
   obtain⟨cs2,hcs2⟩:=hW2.isSome
   have K3:=A3.keepS hW2.hx hcs2
   have hF3:=hF.keep (hW2.adds A3) K3
   by_cases ht:zdL 24 t.tail=true
   ·rw[if_pos ⟨h36,ht⟩]at hs
    simp only[if_pos (⟨h36,ht⟩:t.head?=some 36∧zdL 24 t.tail=true)]at hn
    simp[ht]
    refine zP (fun _=>?_) (fun q=>by cases q)
    have ob3:=hF3.ob
    simp[ob3,splice]
    exact zwJ V hF3.set (by simp) (by simp) hn hs
   ·simp[ht]
    refine zP (fun q=>by cases q) (fun _=>?_)
    simp
    exact bad (fun q=>ht q.2) _ K3.r
  ·have e1:zgn [36] t=false:=by rw[zfJ];simpa using h36
   simp[e1]
   refine zP (fun q=>by cases q) (fun _=>?_)
   simp
   exact bad (fun q=>h36 q.1) _ (.refl ..)
theorem zd4{τ τ':AS}{base v l}(h:Al.OutE τ base v l)(hn:τ.nf≤τ'.nf)(hF:∀f,f<τ.nf→τ'.F f=τ.F f):Al.OutE τ' base v l:=by
 rcases h with h|⟨g,rows,ps,h1,h2,h3,h4,h5,h6,h7⟩
 ·exact .inl h
 ·exact .inr ⟨g,rows,ps,h1,h2,by omega,(hF g h3).trans h4,h5,h6,h7.nd,fun x hx=>by
   obtain⟨q1,q2,q3,q4⟩:=h7.each x hx
   exact⟨q1,by omega,(hF x q2).trans q3,q4⟩⟩
theorem zpJ{τ τ':AS}{base v m}(h:Al.ME τ base v m)(hn:τ.nf≤τ'.nf)(hF:∀f,f<τ.nf→τ'.F f=τ.F f):Al.ME τ' base v m:=by
 obtain⟨fv,rfl,h⟩:=h
 exact⟨fv,rfl,zd4 h hn hF⟩
def zZ:AV:=.agg [.nilsl,.int .i64 0,.int .i64 0]
end
def zhX(fs:List F)(mem:Int)(s:Ts):Res (M × Ts):=(zu [zL,zbx,zgi,zL,zbD] s).bind fun s=>(zB s).bind fun mn=>(zu [zi,zi,zi] mn.2).bind fun s =>
  if s.b.all zc1=true then .ok (({ funcs:=fs,memory:=mem,main:=yb3 .i64 (mn.1-3) }:M),s)else .error 2
theorem zd5(mx:Nat)(s:Ts):zbp mx s=(zu zaX s).bind fun s=>(zB s).bind fun mem=>(zu [zi,zi] mem.2).bind fun s=>(zA mx (s.b.length+1) [] s).bind fun fs=>zhX fs.1 mem.1 fs.2:=rfl
theorem zkN:∀(k d:Nat) (o:Bool) (l:List W) (s:Ts) (r:Int × List UInt8) (s':Ts),zp k d o l s=.ok (r,s')→s'.ls≠[]
 | 0,_,_,_,_,_,_,h=>by cases h
 | k+1,d,o,l,s,r,s',h=>by
  rw[zp]at h
  obtain⟨p,h1,h2⟩:=bind_some h
  split at h2
  ·cases h2
   simp
  ·obtain⟨q,h3,h4⟩:=bind_some h2
   exact zkN k d o _ _ _ _ h4
theorem zhY{w:List UInt8}{s s':Ts}(h:zh7 w s=some s'):s'.b.length≤s.b.length:=by
 unfold zh7 at h
 cases e:zcV s.b with
 | none=>rw[e]at h;cases h
 | some p =>
  obtain⟨p1,p2⟩:=p
  rw[e]at h
  simp only at h
  split at h
  ·cases e2:zcV p2 with
   | none=>rw[e2]at h;cases h
   | some q =>
    obtain⟨q1,q2⟩:=q
    rw[e2]at h
    simp only at h
    split at h
    ·cases h
     have l1:=(zau e).1
     have l2:=(zau e2).1
     simp only
     omega
    ·cases h
  ·cases h
theorem zdF:∀(k:Nat) (l:List Int) (s:Ts) (r:List Int) (s':Ts),zam k l s=.ok (r,s')→s'.b.length≤s.b.length
 | 0,_,_,_,_,h=>by cases h
 | k+1,l,s,r,s',h=>by
  rw[zam]at h
  obtain⟨p,h1,h2⟩:=bind_some h
  have l1:=(zb2 h1).1
  split at h2
  ·exact yai (zdF k _ _ _ _ h2) l1
  ·split at h2
   ·exact yai (zdF k _ _ _ _ h2) l1
   ·split at h2
    ·cases h2;exact l1
    ·cases h2
theorem zkO{w:List UInt8}{s s':Ts}{l:List Int}(h:zaQ w s=.ok (l,s')):s'.b.length≤s.b.length:=by
 unfold zaQ at h
 split at h
 ·rename_i s1 e
  exact yai (zdF _ _ _ _ _ h) (zhY e)
 ·cases h;exact yah _
theorem znd{s s':Ts}{l:Int}(h:zhI s=.ok (l,s')):s'.b.length≤s.b.length:=by
 unfold zhI at h
 split at h
 ·rename_i s1 e
  obtain⟨r,h1,h2⟩:=bind_some h
  split at h2
  ·cases h2
   exact yai (zdF _ _ _ _ _ h1) (zhY e)
  ·cases h2
 ·cases h;exact yah _
theorem zcD{mx s f s'}(h:zC mx s=.ok (f,s')):f.lists≠[]∧s'.b.length≤s.b.length:=by
 rw[zcC]at h
 obtain⟨p,h1,h2⟩:=bind_some h
 split at h2
 ·unfold zlF at h2
  obtain⟨q,h3,h4⟩:=bind_some h2
  unfold zi1 at h4
  obtain⟨r,h5,h6⟩:=bind_some h4
  unfold endF at h6
  obtain⟨u,h7,h8⟩:=bind_some h6
  have hl:=(map_some h8)
  obtain⟨v,h9,h10⟩:=hl
  cases h10
  refine⟨zkN _ _ _ _ _ _ _ h9,?_⟩
  have l1:=(zb2 h1).1
  have l2:=(zb3 _ _ _ _ _ _ _ h9).1
  have l3:=zkO h3
  have l4:=znd h5
  have l5:=zkO h7
  simp only at l2 l3 l4 l5 l1 ⊢
  omega
 ·cases h2
theorem Wr.famF{base x s τ τ'}(h:Wr base x s τ)(e1:τ'.objs=τ.objs)(e2:τ'.no=τ.no)(e3:τ.nf≤τ'.nf)(e4:∀f,f=0∨zbq τ x f→τ'.F f=τ.F f):Wr base x s τ':=by
 obtain⟨lv,ho,hl⟩:=h.cells
 have hb:=h.hb
 refine⟨by rw[e2];exact h.hx,⟨hb.1,by omega⟩,(e4 0 (.inl rfl)).trans h.h0,h.ok,h.len,lv,by rw[e1];exact ho,?_⟩
 rcases hl with h1|⟨g,tos,rfl,h2,h3,h4,h5⟩
 ·exact .inl h1
 ·exact .inr ⟨g,tos,rfl,h2,by omega,(e4 g (.inr ⟨_,_,ho,rfl,rfl⟩)).trans h4,h5⟩
structure PsW(σ:AS)(base x:Nat)(s:Ts)(fv:AV)(mem mn:Int)(τ:AS):Prop where
 rd:Wr base x s τ
 ad:zf σ τ
 x0:σ.no+2≤x
 b0:σ.nf≤base
 mo:τ.objs σ.no=some [fv,.int .i64 mem,.int .i64 mn]
 eo:τ.objs (σ.no+1)=some [.int .i64 0]
theorem PsW.keepS{σ base x s s' fv mem mn τ τ'}(h:PsW σ base x s fv mem mn τ)(hW:Wr base x s' τ')(K:zS x τ τ'):PsW σ base x s' fv mem mn τ':=by
 have x0:=h.x0
 have hx:=h.rd.hx
 exact⟨hW,K.adds0 h.ad (by omega),h.x0,h.b0,(K.obj _ (by omega) (by omega)).trans h.mo,(K.obj _ (by omega) (by omega)).trans h.eo⟩
theorem PsW.adds{σ base x s fv mem mn τ τ'}(h:PsW σ base x s fv mem mn τ)(A:zf τ τ'):PsW σ base x s fv mem mn τ':=by
 obtain⟨cs,hcs⟩:=h.rd.isSome
 exact h.keepS (h.rd.adds A) (A.keepS h.rd.hx hcs)
theorem PsW.setM{σ base x s fv mem mn fv' mem' mn' τ}(h:PsW σ base x s fv mem mn τ):PsW σ base x s fv' mem' mn' (τ.setO σ.no [fv',.int .i64 mem',.int .i64 mn']):=by
 have x0:=h.x0
 exact⟨h.rd.setO (by omega),h.ad.setO (yah _),h.x0,h.b0,by simp,by simp[h.eo]⟩
section
variable {G : Env} {σ : AS} {R : Out → AS → Prop}
theorem zwK{τ:AS}{e:Int}{a:Nat→AV}{mc:List AV}(a2:a 2=.ptr σ.no 0)(a3:a 3=.ptr (σ.no+1) 0)(A:zf σ τ)(hmc:τ.objs σ.no=some mc)(hml:mc.length=3)(he:τ.objs (σ.no+1)=some [.int .i64 0])
  (hh:∀σ',zf σ σ'→R (.ret (.tuple [zZ,.int .i64 e])) σ'):zbX yb5 G 9 zen 3 2 [.ptr σ.no 0,.ptr (σ.no+1) 0] [.cell 2 28,.cell 3 33] R (some (zsF e)) a τ:=by
 obtain⟨x1,x2,x3,rfl⟩:∃x y z,mc=[x,y,z]:=by
  match mc,hml with
  | [x,y,z],_=>exact⟨x,y,z,rfl⟩
 simp[zbX,zsF,zen,he,hmc,splice,a2,a3]
 exact hh _ ((A.setO (yah _)).setO (by omega))
theorem PsW.hand{base x s fv mem mn τ}(h:PsW σ base x s fv mem mn τ){τ':AS}(K:zO x τ τ'){e:Int}{a:Nat→AV}(a2:a 2=.ptr σ.no 0)(a3:a 3=.ptr (σ.no+1) 0)
  (hh:∀σ',zf σ σ'→R (.ret (.tuple [zZ,.int .i64 e])) σ'):zbX yb5 G 9 zen 3 2 [.ptr σ.no 0,.ptr (σ.no+1) 0] [.cell 2 28,.cell 3 33] R (some (zsF e)) a τ':=by
 have x0:=h.x0
 have b0:=h.b0
 have hx:=h.rd.hx
 have An:=h.ad.no
 have Af:=h.ad.nf
 refine zwK a2 a3 ⟨yai An K.no,yai Af K.nf,fun o ho=>?_,fun f hf=>?_⟩ ((K.obj _ (by omega) (by omega)).trans h.mo) rfl ((K.obj _ (by omega) (by omega)).trans h.eo) hh
 ·rw[K.obj o (by omega) (by omega),h.ad.obj o ho]
 ·rw[K.fam f (by omega) (h.rd.uses (by omega)),h.ad.fam f hf]
theorem zne:inS zb8=zc1:=by
 funext c
 have h:∀i:Fin 256,inS zb8 (UInt8.ofNat i.1)=zc1 (UInt8.ofNat i.1):=by decide
 have:=h ⟨c.toNat,c.toNat_lt⟩
 simpa using this
theorem znf(V:za9 G){base x s fv mem fs τ}{a:Nat→AV}(h:PsW σ base x s fv mem 0 τ)(hfs:Al.OutE τ σ.nf fv fs)(a2:a 2=.ptr σ.no 0)(a3:a 3=.ptr (σ.no+1) 0)(a4:a 4=.ptr x 0)
  (hn:∀e,zhX fs mem s=.error e→∀σ',zf σ σ'→R (.ret (.tuple [zZ,.int .i64 e])) σ') (hs:∀m s',zhX fs mem s=.ok (m,s')→∀mv σ',Al.ME σ' σ.nf mv m→zf σ σ'→R (.ret (.tuple [mv,.int .i64 0])) σ') :
  avc yb5 G 45 zdA (aq (zbX yb5 G 9 zen 3 2 [.ptr σ.no 0,.ptr (σ.no+1) 0] [.cell 2 28,.cell 3 33] R)) a τ:=by
 have hfv:fv.known=true∧fv.one=true∧fv.cells=[fv]:=by
  rcases hfs with ⟨_,rfl⟩|⟨_,_,_,rfl,_⟩<;>simp
 simp[zdA,a4]
 refine zhU (ts:=[zL,zbx,zgi,zL,zbD]) h.rd (.inl ⟨true,rfl⟩) (by decide) (fun e q=>?_) (fun s1 q τ1 hW1 K1=>?_)
 ·intro σ' K
  simp
  exact h.hand K (by simp[zdu,a2]) (by simp[zdu,a3]) (hn e (by unfold zhX;rw[q];rfl))
 ·have h1:=h.keepS hW1 K1
  simp[a4]
  refine zhV V hW1 (fun e q2=>?_) (fun n s2 q2 r1 r2 τ2 hW2 K2=>?_)
  ·intro σ' K
   simp
   exact h1.hand K (by simp[zdu,a2]) (by simp[zdu,a3]) (hn e (by unfold zhX;rw[q];simp only[Except.bind];rw[q2]))
  ·have h2:=h1.keepS hW2 K2
   have mo2:=h2.mo
   simp[a2,a4,mo2,splice]
   have h3:=h2.setM (fv':=fv) (mem':=mem) (mn':=yb3 .i64 (n-3))
   have F3:(τ2.setO σ.no [fv,.int .i64 mem,.int .i64 (yb3 .i64 (n-3))]).F=τ2.F:=rfl
   have N3:(τ2.setO σ.no [fv,.int .i64 mem,.int .i64 (yb3 .i64 (n-3))]).nf=τ2.nf:=rfl
   generalize τ2.setO σ.no [fv,.int .i64 mem,.int .i64 (yb3 .i64 (n-3))]=τ3 at *
   refine zhU (ts:=[zi,zi,zi]) h3.rd (.inl ⟨true,rfl⟩) (by decide) (fun e q3=>?_) (fun s4 q3 τ4 hW4 K4=>?_)
   ·intro σ' K
    simp
    exact h3.hand K (by simp[zdu,a2]) (by simp[zdu,a3]) (hn e (by unfold zhX;rw[q];simp only[Except.bind];rw[q2];simp only;rw[q3]))
   ·have h4:=h3.keepS hW4 K4
    obtain⟨lv4,ho4,hlv4⟩:=hW4.cells
    have hmod:zhX fs mem s=if s4.b.all zc1=true then .ok (({ funcs:=fs,memory:=mem,main:=yb3 .i64 (n-3) }:M),s4)else .error 2:=by
     unfold zhX;rw[q];simp only[Except.bind];rw[q2];simp only;rw[q3]
    have hl4:=hW4.len
    simp[a4,ho4]
    refine zd3 (l:=zb8) (by decide) (by decide) (by decide) (by omega) fun τ5 A5=>?_
    have h5:=h4.adds A5
    by_cases hall:s4.b.all zc1=true
    ·rw[if_pos hall]at hmod
     have e:ziU zb8 s4.b=[]:=(zbH _ _).2 (by rw[zne];exact hall)
     simp[e]
     refine zP (fun _=>?_) (fun q=>by cases q)
     have mo5:=h5.mo
     have eo5:=h5.eo
     simp[a2,a3,mo5,eo5,splice,zbX,zen,hfv]
     have n1:=K1.nf
     have n2:=K2.nf
     have n4:=K4.nf
     have n5:=A5.nf
     have hfs5:Al.OutE τ5 σ.nf fv fs:=zd4 hfs (by omega) fun f hf=>by
      rw[A5.fam f (by omega),K4.fam f (by omega),F3,K2.fam f (by omega),K1.fam f hf]
     have A6:zf σ ((τ5.setO σ.no [fv,.int .i64 mem,.int .i64 (yb3 .i64 (n-3))]).setO (σ.no+1) [.int .i64 0]):=(h5.ad.setO (yah _)).setO (by omega)
     exact hs _ _ hmod _ _ ⟨fv,rfl,zd4 hfs5 (yah _) fun f _=>rfl⟩ A6
    ·rw[if_neg hall]at hmod
     have e:¬ziU zb8 s4.b=[]:=fun q=>hall (by rw[←zne];exact(zbH _ _).1 q)
     simp[e]
     refine zP (fun q=>by cases q) (fun _=>?_)
     simp
     exact h5.hand (.refl ..) (by simp[zdu,a2]) (by simp[zdu,a3]) (hn 2 hmod)
end
end Go.Proofs.YtohfclafhegadaaGreatDoor
