/- Parts of the proof of the row BinAgain: contracts of functions, each under the conditions that its theorem names. -/
import Derived.Test.YtohfclafhegadaaGreatDoorAbsB
import Derived.Lib.IndexMore
import Derived.Lib.AtoiAll
import Derived.Lib.ItoaNum
import Derived.Test.YtohfclafhegadaaGreatDoorGenP
import Derived.Test.YtohfclafhegadaaGreatDoorShelf
set_option linter.unusedSimpArgs false
set_option linter.unusedVariables false
set_option maxRecDepth 100000
open List renaming replicate→yaj,all_cons→yca,all_append→ycb,length_cons→yac,length_nil→ybl,length→yce,takeWhile_append_dropWhile→ycf,length_append→yab,getD_eq_getElem?_getD→ycg,mem_append→ybh,flatMap_cons→yaa,drop_eq_nil_iff→ych,getElem?_eq_none→yb2,drop_drop→yci,getElem?_eq_some_iff→yaq,length_drop→ycj,length_eq_zero_iff→ybS,map_cons→yaL,sum_cons→yck,length_take→ybf,getElem?_eq_getElem→yau,all_eq_true→yaM,getElem_mem→yaw,take_succ_eq_append_getElem→ycm,take_length→ycn,length_pos_iff→ybm,drop_eq_getElem_cons→ycq,map_take→ycr,mem_of_getElem?→yct,mem_flatMap→ycw,all_eq_false→ycx,mem_iff_getElem→ycy,getElem_take→yaE,replicate_succ→ycz,map→ycA,length_map→ybb,getElem?_map→ycB,mem_cons→ybC,not_mem_nil→ycC,mem_map→yaV,mem_singleton→ycD,take_of_length_le→ycE,map_append→ycI,take→ycJ,length_replicate→yba,find?_eq_none→ycK,findIdx?_eq_some_iff_getElem→ycL,getElem_of_mem→ya9
open Nat renaming le_refl→yah,strongRecOn→ybI,zero_le→ycl,le_trans→yai,lt_of_lt_of_le→yag,eq_zero_or_pos→ybr,lt_or_ge→ycM
open Option renaming some→yaR,map_eq_some_iff→ybB
open Array renaming getElem?_eq_some_iff→yaU
open Int renaming emod_nonneg→ycc,emod_lt_of_pos→ycd,pow_succ→ycF,natCast_add→ycG,natCast_one→ycH
open Go.Proofs.Tryz renaming prog→yb9
open Go.IntKind renaming wrap→yb4,signed→yao,bits→yap,i64→yam
open Go.Abs.AV renaming str→yco,int→ycp,ptr→ycs,agg→ycu,nilsl→ycv
namespace Go.Proofs.YtohfclafhegadaaGreatDoor
open Go Go.Abs
structure W where
 op:Int
 ty:Int
 n:Int
 body:Int
 other:Int
 name:List UInt8
deriving DecidableEq
abbrev To:=List (List W)
structure F where
 name:List UInt8
 params:List Int
 locals:List Int
 type:Int
 lists:To
structure M where
 funcs:List F
 memory:Int
 main:Int
structure St where
 stack:List Int
 any:Bool
abbrev Res:=Except Int
def zgq(s:St):Res St :=
 if s.stack.length=0 then(if s.any then .ok s else .error 14)else .ok { s with stack:=s.stack.dropLast }
def zaH:List Int→St→Res St
 | [],s=>.ok s
 | t::ts,s=>if s.stack.length=0∨s.stack.getLast?=some t then
   match zgq s with
   | .ok s'=>zaH ts s'
   | .error e=>.error e
  else .error 14
def zhb(s:St)(t:Int):St:=if t=0 then s else { s with stack:=s.stack++[t] }
def zoR:St:=⟨[],true⟩
def zT(ty:Int)(s:St):Res St:=if ty=0 then .ok s else zaH [ty] s
def zaN(t:Int):Bool:=decide (t=1)||decide (t=2)
def signs:List (List UInt8 × List UInt8):=[
 ([97,100,100],[43]),([115,117,98],[45]),([109,117,108],[42]),([100,105,118,95,115],[47]),([114,101,109,95,115],[37]),([97,110,100],[38]),([111,114],[124]),([120,111,114],[94]),
 ([115,104,108],[60,60]),([115,104,114,95,115],[62,62]),([101,113],[61,61]),([110,101],[33,61]),([108,116,95,115],[60]),([108,101,95,115],[60,61]),([103,116,95,115],[62]),([103,101,95,115],[62,61])]
def zcx:List (List UInt8 × List UInt8)→List UInt8→List UInt8
 | [],_=>[]
 | (x,y)::r,s=>if x=s then y else zcx r s
def zkx(t n:Int):Bool:=decide (t=1)&&(decide (n=1)||decide (n=4))||decide (t=2)&&decide (n=8)
def zdg(w:W):Bool :=
 if w.op=1∨w.op=5 then zaN w.ty
 else if w.op=4 then zaN w.ty&&!(zcx signs w.name==[])
 else if w.op=8∨w.op=9 then zkx w.ty w.n
 else decide (1≤w.op)&&decide (w.op≤18)
def zhG(fs:List F)(n:Int):Option (List Int × Int) :=
 if n=0 then some ([],2)else if n=1 then some ([2],0)else if n=2 then some ([1],0)
 else if n<0 then none else(fs[(n-3).toNat]?).map fun f=>(f.params,f.type)
def zBl(t v:Int):Int:=if t=3 then IntKind.i8.wrap v else if t=1 then IntKind.i32.wrap v else if t=2 then v else 0
def zdY(fs:List F)(locals:List Int)(deep:Int)(w:W):Bool :=
 if w.op=1 then decide (zBl w.ty w.n=w.n)
 else if w.op=2∨w.op=3 then decide (0≤w.n)&&decide (w.n<(locals.length:Int))
 else if w.op=10 then(zhG fs w.n).isSome
 else if w.op=14∨w.op=15 then decide (0≤w.n)&&decide (w.n≤deep)
 else true
def zl6(locals:List Int)(n:Int):Int:=locals.getD n.toNat 0
def zwk:List UInt8:=[32,101,113,32,110,101,32,108,116,95,115,32,108,101,95,115,32,103,116,95,115,32,103,101,95,115,32]
def zLM(s:List UInt8):Bool:=Lib.contains zwk (32::(s++[32]))
def zgr(r:Res St)(t:Int):Res St:=match r with
 | .ok s=>.ok (zhb s t)
 | .error e=>.error e
def zhH(fs:List F)(locals:List Int)(w:W)(s:St):Res St :=
 if w.op=1 then .ok (zhb s w.ty)
 else if w.op=2 then .ok (zhb s (zl6 locals w.n))
 else if w.op=3 then zaH [zl6 locals w.n] s
 else if w.op=4 then zgr (zaH [w.ty,w.ty] s) (if zLM w.name then 1 else w.ty)
 else if w.op=5 then zgr (zaH [w.ty] s) 1
 else if w.op=6 then zgr (zaH [2] s) 1
 else if w.op=7 then zgr (zaH [1] s) 2
 else if w.op=8 then zgr (zaH [1] s) w.ty
 else if w.op=9 then zaH [w.ty,1] s
 else if w.op=10 then match zhG fs w.n with
  | some (ts,g)=>zgr (zaH ts.reverse s) g
  | none=>.ok s
 else if w.op=18 then zgq s
 else .ok s
abbrev zuw:=Int→Int→Res Unit
def zeg(fs:List F)(locals:List Int)(ty deep:Int)(look:zuw)(w:W)(s:St):Res St :=
 if zdg w=false then .error 2
 else if zdY fs locals deep w=false then .error 11
 else if w.op=11∨w.op=12 then match look w.body (deep+1)with
  | .ok _=>.ok s
  | .error e=>.error e
 else if w.op=13 then match zaH [1] s with
  | .error e=>.error e
  | .ok s1=>match look w.body (deep+1)with
   | .error e=>.error e
   | .ok _=>if 0≤w.other then match look w.other (deep+1)with
     | .error e=>.error e
     | .ok _=>.ok s1
    else .ok s1
 else if w.op=15 then match zaH [1] s with
  | .error e=>.error e
  | .ok s1=>if w.n=deep then zgr (zT ty s1) ty else .ok s1
 else if w.op=14 then if w.n=deep then match zT ty s with
   | .error e=>.error e
   | .ok _=>.ok zoR
  else .ok zoR
 else if w.op=16 then match zT ty s with
  | .error e=>.error e
  | .ok _=>.ok zoR
 else if w.op=17 then .ok zoR
 else zhH fs locals w s
def zdh(fs:List F)(locals:List Int)(ty deep:Int)(look:zuw):List W→St→Res St
 | [],s=>.ok s
 | w::ws,s=>match zeg fs locals ty deep look w s with
  | .error e=>.error e
  | .ok s'=>zdh fs locals ty deep look ws s'
def zLN(ty deep:Int)(s:St):Res Unit:=match (if deep=0 then zT ty s else .ok s)with
 | .error e=>.error e
 | .ok s'=>if s'.stack.length=0 then .ok ()else .error 14
def zfx(fs:List F)(locals:List Int)(ty:Int)(lists:To):Nat→zuw
 | 0,_,_=>.error (-1)
 | k+1,at_,deep=>match zdh fs locals ty deep (zfx fs locals ty lists k) (lists.getD at_.toNat []) ⟨[],false⟩with
  | .error e=>.error e
  | .ok s=>zLN ty deep s
def zU(w:W):List Int:=if w.op=11∨w.op=12∨(w.op=13∧w.other<0)then [w.body]else if w.op=13 then [w.body,w.other]else []
def zfy(at_:Int)(named:List Bool)(n:Int):Res (List Bool) :=
 if 0≤n∧n<at_∧named.getD n.toNat true=false then .ok (named.set n.toNat true)else .error 11
def zbh(at_:Int):List Int→List Bool→Res (List Bool)
 | [],named=>.ok named
 | n::ns,named=>match zfy at_ named n with
  | .error e=>.error e
  | .ok named'=>zbh at_ ns named'
def zjT(at_:Int):List W→List Bool→Res (List Bool)
 | [],named=>.ok named
 | w::ws,named=>match zbh at_ (zU w) named with
  | .error e=>.error e
  | .ok named'=>zjT at_ ws named'
def zcp:Nat→To→List Bool→Res (List Bool)
 | _,[],named=>.ok named
 | k,l::ls,named=>match zjT (k:Int) l named with
  | .error e=>.error e
  | .ok named'=>zcp (k+1) ls named'
def zeh(ls:To):Res Unit :=
 if ls.length=0 then .error 11 else match zcp 0 ls (yaj ls.length false)with
  | .error e=>.error e
  | .ok named=>if(named.take (ls.length-1)).all (·==true)then .ok ()else .error 11
def zcO(fs:List F)(f:F):Res Unit :=
 if((f.params++f.locals).all zaN&&decide (0≤f.type)&&decide (f.type≤2))=false then .error 6 else match zeh f.lists with
  | .error e=>.error e
  | .ok _=>zfx fs (f.params++f.locals) f.type f.lists f.lists.length ((f.lists.length:Int)-1) 0
def za3(fs:List F):List F→Res Unit
 | []=>.ok ()
 | f::r=>match zcO fs f with
  | .error e=>.error e
  | .ok _=>za3 fs r
def zoS(m:M):Bool:=decide (0≤m.main)&&match m.funcs[m.main.toNat]? with
 | some f=>decide (f.type=1)&&decide (f.params.length=0)
 | none=>false
def zfG(m:M):Res Unit :=
 if(decide (0≤m.memory)&&decide (m.memory≤4096))=false then .error 11 else match za3 m.funcs m.funcs with
  | .error e=>.error e
  | .ok _=>if zoS m then .ok ()else .error 12
def zq7:Res Unit→Int
 | .ok _=>0
 | .error e=>e
def zQ(c:UInt8):Bool:=decide (48≤c.toNat)&&decide (c.toNat≤57)
def zih(acc:Nat)(d:List UInt8):Nat:=d.foldl (fun a c=>a*10+(c.toNat-48)) acc
def zbQ(t:List UInt8):List UInt8:=if t.head?=some 45 then t.tail else t
def zoT(t:List UInt8):Int:=if t.head?=some 45 then -(zih 0 (zbQ t):Int)else zih 0 (zbQ t)
def zsW(t:List UInt8):Res Int :=
 if(zbQ t).isEmpty||!(zbQ t).all zQ then .error 2
 else match Lib.atoiAll t with
  | .ok n=>if Lib.itoa n=t then .ok n else .error 11
  | _=>.error 11
theorem zoU(acc:Nat)(x y:List UInt8):zih acc (x++y)=zih (zih acc x) y:=by simp[zih]
theorem zng:∀(d:List UInt8) (acc:Nat),acc≤zih acc d
 | [],acc=>yah _
 | c::d,acc=>by
  have:=zng d (acc*10+(c.toNat-48))
  show acc≤zih (acc*10+(c.toNat-48)) d
  omega
theorem zqg:∀(d:List UInt8) (acc:Nat),d.all zQ=true→acc<18446744073709551616→Lib.parseUint10 acc d=if zih acc d<18446744073709551616 then .ok (zih acc d)else .range
 | [],acc,_,ha=>by simp[Lib.parseUint10,zih,ha]
 | c::d,acc,h,ha=>by
  simp only[yca,Bool.and_eq_true,zQ,decide_eq_true_eq]at h
  obtain⟨⟨h1,h2⟩,h3⟩:=h
  have e:zih acc (c::d)=zih (acc*10+(c.toNat-48)) d:=rfl
  have m:=zng d (acc*10+(c.toNat-48))
  rw[Lib.parseUint10,if_pos ⟨h1,h2⟩,e]
  by_cases o1:1844674407370955162≤acc
  ·rw[if_pos o1,if_neg (by omega)]
  ·rw[if_neg o1]
   by_cases o2:18446744073709551616≤acc*10+(c.toNat-48)
   ·rw[if_pos o2,if_neg (by omega)]
   ·rw[if_neg o2]
    exact zqg d _ (by simpa [zQ]using h3) (by omega)
theorem zoV(u:Nat):zih 0 (Lib.decDigits u)=u:=by
 induction u using ybI with
 | _ u ih =>
  rw[Lib.decDigits]
  split
  ·rename_i h
   simp[zih]
   omega
  ·rename_i h
   rw[zoU,ih (u/10) (by omega)]
   simp[zih]
   omega
theorem zfe(u:Nat):(Lib.decDigits u).all zQ=true:=by
 induction u using ybI with
 | _ u ih =>
  rw[Lib.decDigits]
  split
  ·simp[zQ];omega
  ·rw[ycb,ih (u/10) (by omega)]
   simp[zQ];omega
theorem zgs(u:Nat):Lib.decDigits u≠[]:=by
 rw[Lib.decDigits]
 split<;>simp
theorem zi3(u:Nat):(Lib.decDigits u).head?≠some 45:=by
 intro h
 have h1:=zfe u
 cases hd:Lib.decDigits u with
 | nil=>exact zgs u hd
 | cons c r =>
  rw[hd]at h h1
  simp only[List.head?_cons,yaR.injEq]at h
  subst h
  simp[zQ]at h1
theorem zi4(n:Int):zbQ (Lib.itoa n)=Lib.decDigits n.natAbs:=by
 unfold Lib.itoa zbQ
 split
 ·simp
 ·rename_i h
  rw[if_neg (zi3 _)]
  congr 1;omega
theorem zqh(n:Int):zoT (Lib.itoa n)=n:=by
 have h1:=zi4 n
 unfold zoT
 rw[h1,zoV]
 unfold Lib.itoa
 split
 ·simp;omega
 ·rw[if_neg (zi3 _)];omega
theorem zoW{t:List UInt8}(h1:zbQ t≠[])(h2:(zbQ t).all zQ=true):Lib.atoiAll t=if -(2^63)≤zoT t∧zoT t<2^63 then .ok (zoT t)else .range:=by
 cases t with
 | nil=>exact absurd rfl h1
 | cons c r =>
  have hp:∀d:List UInt8,d≠[]→d.all zQ=true→Lib.parseMag d=if zih 0 d<18446744073709551616 then .ok (zih 0 d)else .range:=fun d hd ha=>by
   rw[Lib.parseMag,if_neg hd,zqg d 0 ha (by omega)]
  unfold Lib.atoiAll
  simp only
  by_cases hc:c=45
  ·subst hc
   have hb:zbQ (45::r)=r:=rfl
   rw[hb]at h1 h2
   have hv:zoT (45::r)=-(zih 0 r:Int):=rfl
   rw[hv,if_pos (show((45:UInt8).toNat=43∨(45:UInt8).toNat=45) from .inr rfl),hp r h1 h2]
   have e:((45:UInt8).toNat=45)=True:=eq_true rfl
   simp only[e,not_true,false_and,true_and,if_false,if_true]
   by_cases o:zih 0 r<18446744073709551616
   ·rw[if_pos o]
    simp only
    by_cases o2:9223372036854775808<zih 0 r
    ·rw[if_pos o2,if_neg (by omega)]
    ·rw[if_neg o2,if_pos (by omega)]
   ·rw[if_neg o,if_neg (by omega)]
  ·have hb:zbQ (c::r)=c::r:=by unfold zbQ;rw[if_neg (by simpa using hc)]
   rw[hb]at h1 h2
   have hv:zoT (c::r)=(zih 0 (c::r):Int):=by unfold zoT;rw[if_neg (by simpa using hc),hb]
   have hn45:¬c.toNat=45:=fun e=>hc (UInt8.toNat_inj.1 e)
   have hn43:¬c.toNat=43:=fun e=>by
    simp only[yca,Bool.and_eq_true,zQ,decide_eq_true_eq]at h2
    omega
   rw[hv,if_neg (by omega),hp _ h1 h2]
   simp only[hn45,not_false_eq_true,true_and,false_and,if_false]
   by_cases o:zih 0 (c::r)<18446744073709551616
   ·rw[if_pos o]
    simp only
    by_cases o2:9223372036854775808≤zih 0 (c::r)
    ·rw[if_pos o2,if_neg (by omega)]
    ·rw[if_neg o2,if_pos (by omega)]
   ·rw[if_neg o,if_neg (by omega)]
theorem zBm{t:List UInt8}(h1:zbQ t≠[])(h2:(zbQ t).all zQ=true):zsW t=if Lib.itoa (yb4 .i64 (zoT t))=t then .ok (yb4 .i64 (zoT t))else .error 11:=by
 have hw:∀x:Int,-(2^63)≤x→x<2^63→yb4 .i64 x=x:=fun x a b=>by rw[zc]<;>omega
 unfold zsW
 rw[if_neg (by simp[h1,h2]),zoW h1 h2]
 by_cases o:-(2^63)≤zoT t∧zoT t<2^63
 ·rw[if_pos o,hw _ o.1 o.2]
 ·rw[if_neg o,if_neg]
  intro e
  have h3:=congrArg zoT e
  rw[zqh]at h3
  have h4:-(2^63)≤yb4 .i64 (zoT t)∧yb4 .i64 (zoT t)<2^63:=by
   have q:∀x:Int,-(2^63)≤yb4 .i64 x∧yb4 .i64 x<2^63:=fun x=>by
    simp only[yb4,yao,yap,Bool.true_and,decide_eq_true_eq]
    have a1:=ycc x (show(2:Int)^64≠0 by decide)
    have a2:=ycd x (show(0:Int)<2^64 by decide)
    split
    ·rename_i k
     have k:=of_decide_eq_true k
     omega
    ·rename_i k
     have k:=of_decide_eq_false (eq_false_of_ne_true k)
     omega
   exact q _
  rw[h3]at h4
  exact o h4
theorem zsX{n:Int}(h:-(2^63)≤n∧n<2^63):zsW (Lib.itoa n)=.ok n:=by
 have hb:=zi4 n
 rw[zBm (by rw[hb];exact zgs _) (by rw[hb];exact zfe _),zqh]
 have hw:yb4 .i64 n=n:=by rw[zc]<;>omega
 rw[hw,if_pos rfl]
def zoX(c:UInt8):Bool:=[32,10].contains c
def zby(c:UInt8):Bool:=[32,10,40,41,34].contains c
def zsY(c:UInt8):Bool:=[34,10].contains c
def znh(r:List UInt8):Option (List UInt8 × List UInt8):=match r.dropWhile fun c=>!zsY c with
 | []=>none
 | x::z=>if x=34 then some (34::(r.takeWhile (fun c=>!zsY c)++[34]),z)else none
def zep(s:List UInt8):Option (List UInt8 × List UInt8):=match s.dropWhile zoX with
 | []=>none
 | c::r=>if c=40∨c=41 then some ([c],r)else if c=34 then znh r else some (c::r.takeWhile (fun x=>!zby x),r.dropWhile fun x=>!zby x)
theorem zc7{s t r:List UInt8}(h:zep s=some (t,r)):t.length+r.length≤s.length∧t≠[]:=by
 have hd:=(List.dropWhile_sublist zoX (l:=s)).length_le
 unfold zep at h
 split at h
 ·cases h
 ·rename_i c z e
  rw[e]at hd
  simp only[yac]at hd
  split at h
  ·cases h
   exact⟨by simp only[yac,ybl];omega,by simp⟩
  ·split at h
   ·unfold znh at h
    split at h
    ·cases h
    ·rename_i x y e2
     split at h
     ·cases h
      have h3:=congrArg yce (ycf (p:=fun c=>!zsY c) (l:=z))
      rw[e2]at h3
      simp only[yab,yac,ybl]at h3 ⊢
      exact⟨by omega,by simp⟩
     ·cases h
   ·cases h
    have h3:=congrArg yce (ycf (p:=fun x=>!zby x) (l:=z))
    simp only[yab,yac]at h3 ⊢
    exact⟨by omega,by simp⟩
def zbY:List UInt8:=[40,32,109,111,100,117,108,101,32,40,32,105,109,112,111,114,116,32,34,101,110,118,34,32,34,105,110,34,32,40,32,102,117,110,99,32,40,32,114,101,115,117,108,116,32,105,54,52,32,41,32,41,32,41,32,40,32,105,109,112,111,114,116,32,34,101,110,118,34,32,34,111,117,116,34,32,40,32,102,117,110,99,32,40,32,112,97,114,97,109,32,105,54,52,32,41,32,41,32,41,32,40,32,105,109,112,111,114,116,32,34,101,110,118,34,32,34,116,114,97,112,34,32,40,32,102,117,110,99,32,40,32,112,97,114,97,109,32,105,51,50,32,41,32,41,32,41,32,40,32,109,101,109,111,114,121,32,49,32,41,32,40,32,103,108,111,98,97,108,32,105,51,50,32,40,32,105,51,50,46,99,111,110,115,116]
def zc0:List (List UInt8):=[[40],[109,111,100,117,108,101],[40],[105,109,112,111,114,116],[34,101,110,118,34],[34,105,110,34],[40],[102,117,110,99],[40],[114,101,115,117,108,116],[105,54,52],[41],[41],[41],[40],[105,109,112,111,114,116],[34,101,110,118,34],[34,111,117,116,34],[40],[102,117,110,99],[40],[112,97,114,97,109],[105,54,52],[41],[41],[41],[40],[105,109,112,111,114,116],[34,101,110,118,34],[34,116,114,97,112,34],[40],[102,117,110,99],[40],[112,97,114,97,109],[105,51,50],[41],[41],[41],[40],[109,101,109,111,114,121],[49],[41],[40],[103,108,111,98,97,108],[105,51,50],[40],[105,51,50,46,99,111,110,115,116]]
def zC:List UInt8:=[40]
def zh:List UInt8:=[41]
def zbR:List UInt8:=[102,117,110,99]
def zcy:List UInt8:=[112,97,114,97,109]
def zeR:List UInt8:=[114,101,115,117,108,116]
def zbi:List UInt8:=[108,111,99,97,108]
def zbZ:List UInt8:=[101,120,112,111,114,116]
def zhc:List UInt8:=[34,109,97,105,110,34]
def zC4:List UInt8:=[105,51,50]
def zC5:List UInt8:=[105,54,52]
def zky:List UInt8:=[98,108,111,99,107]
def zq8:List UInt8:=[108,111,111,112]
def tIf:List UInt8:=[105,102]
def zcB:List UInt8:=[101,108,115,101]
def zdp:List UInt8:=[101,110,100]
def zgt:List (List UInt8):=[[97,100,100],[115,117,98],[109,117,108],[100,105,118,95,115],[114,101,109,95,115],[97,110,100],[111,114],[120,111,114],[115,104,108],[115,104,114,95,115],[101,113],[110,101],[108,116,95,115],[108,101,95,115],[103,116,95,115],[103,101,95,115]]
def zi5:List (List UInt8 × W):=[([105,51,50,46,119,114,97,112,95,105,54,52],{ op:=6,ty:=0,n:=0,body:=0,other:=0,name:=[] }),([105,54,52,46,101,120,116,101,110,100,95,105,51,50,95,115],{ op:=7,ty:=0,n:=0,body:=0,other:=0,name:=[] }),([105,51,50,46,108,111,97,100,56,95,115],{ op:=8,ty:=1,n:=1,body:=0,other:=0,name:=[] }),([105,51,50,46,108,111,97,100],{ op:=8,ty:=1,n:=4,body:=0,other:=0,name:=[] }),([105,54,52,46,108,111,97,100],{ op:=8,ty:=2,n:=8,body:=0,other:=0,name:=[] }),([105,51,50,46,115,116,111,114,101,56],{ op:=9,ty:=1,n:=1,body:=0,other:=0,name:=[] }),([105,51,50,46,115,116,111,114,101],{ op:=9,ty:=1,n:=4,body:=0,other:=0,name:=[] }),([105,54,52,46,115,116,111,114,101],{ op:=9,ty:=2,n:=8,body:=0,other:=0,name:=[] }),([114,101,116,117,114,110],{ op:=16,ty:=0,n:=0,body:=0,other:=0,name:=[] }),([117,110,114,101,97,99,104,97,98,108,101],{ op:=17,ty:=0,n:=0,body:=0,other:=0,name:=[] }),([100,114,111,112],{ op:=18,ty:=0,n:=0,body:=0,other:=0,name:=[] })]
def zI(t:Int):List UInt8:=if t=1 then zC4 else zC5
def zqi(t:Int):List (List UInt8 × W):=(zgt.map fun s=>(zI t++46::s,{ op:=4,ty:=t,n:=0,body:=0,other:=0,name:=s }))++[(zI t++[46,101,113,122],{ op:=5,ty:=t,n:=0,body:=0,other:=0,name:=[] })]
def zi6:List (List UInt8 × W):=zi5++(zqi 1++zqi 2)
def zdy:List (List UInt8 × W):=[([105,51,50,46,99,111,110,115,116],{ op:=1,ty:=1,n:=0,body:=0,other:=0,name:=[] }),([105,54,52,46,99,111,110,115,116],{ op:=1,ty:=2,n:=0,body:=0,other:=0,name:=[] }),([108,111,99,97,108,46,103,101,116],{ op:=2,ty:=0,n:=0,body:=0,other:=0,name:=[] }),([108,111,99,97,108,46,115,101,116],{ op:=3,ty:=0,n:=0,body:=0,other:=0,name:=[] }),([99,97,108,108],{ op:=10,ty:=0,n:=0,body:=0,other:=0,name:=[] }),([98,114],{ op:=14,ty:=0,n:=0,body:=0,other:=0,name:=[] }),([98,114,95,105,102],{ op:=15,ty:=0,n:=0,body:=0,other:=0,name:=[] })]
def zV(l:List (List UInt8 × W))(t:List UInt8):Option W:=(l.find? fun p=>p.1==t).map (·.2)
structure Ts where
 b:List UInt8
 ls:To
def zcC(s:Ts):Res (List UInt8 × Ts):=match zep s.b with
 | none=>.error 2
 | some p=>.ok (p.1,{ s with b:=p.2 })
def zaS:List (List UInt8)→Ts→Res Ts
 | [],s=>.ok s
 | t::ts,s=>(zcC s).bind fun p=>if p.1=t then zaS ts p.2 else .error 2
def zhd(w:List UInt8)(s:Ts):Option Ts:=match zep s.b with
 | none=>none
 | some p=>if p.1=zC then(match zep p.2 with
  | none=>none
  | some q=>if q.1=w then some { s with b:=q.2 }else none)else none
def zbH(s:Ts):Res (Int × Ts):=(zcC s).bind fun p=>(zsW p.1).map fun n=>(n,p.2)
def zcz:Nat→List Int→Ts→Res (List Int × Ts)
 | 0,_,_=>.error (-1)
 | k+1,l,s=>(zcC s).bind fun p =>
  if p.1=zC4 then zcz k (l++[1]) p.2 else if p.1=zC5 then zcz k (l++[2]) p.2 else if p.1=zh∧l≠[]then .ok (l,p.2)else .error 2
def zgu(t:List UInt8)(s:Ts):Res (W × Ts):=match zV zdy t with
 | some w=>(zbH s).map fun p=>({ w with n:=p.1 },p.2)
 | none=>match zV zi6 t with
  | some w=>.ok (w,s)
  | none=>.error 2
def zc8(t:List UInt8):Int:=if t=zky then 11 else if t=zq8 then 12 else if t=tIf then 13 else 0
abbrev zJ2:=Nat→Bool→Ts→Res ((Int × List UInt8) × Ts)
def zb0(rec:zJ2)(op:Int)(d:Nat)(s:Ts):Res (W × Ts) :=
 if 400<d then .error 3
 else(rec d (decide (op=13)) s).bind fun p =>
  if op=13 then(if p.1.2=zcB then(rec d false p.2).map fun q=>({ op:=13,ty:=0,n:=0,body:=p.1.1,other:=q.1.1,name:=[] },q.2)
   else .ok ({ op:=13,ty:=0,n:=0,body:=p.1.1,other:=-1,name:=[] },p.2))
  else .ok ({ op:=op,ty:=0,n:=0,body:=p.1.1,other:=0,name:=[] },p.2)
def zei(rec:zJ2)(t:List UInt8)(d:Nat)(s:Ts):Res (W × Ts):=if zc8 t=0 then zgu t s else zb0 rec (zc8 t) (d+1) s
def zgv(d:Nat)(other:Bool)(t:List UInt8):Bool:=(decide (t=zdp)&&decide (0<d))||((decide (t=zh)&&decide (d=0))||(decide (t=zcB)&&other))
def zan:Nat→Nat→Bool→List W→Ts→Res ((Int × List UInt8) × Ts)
 | 0,_,_,_,_=>.error (-1)
 | k+1,d,o,l,s=>(zcC s).bind fun p =>
  if zgv d o p.1=true then .ok (((p.2.ls.length:Int),p.1),{ p.2 with ls:=p.2.ls++[l] })
  else(zei (fun d o s=>zan k d o [] s) p.1 d p.2).bind fun q=>zan k d o (l++[q.1]) q.2
def zao(c:UInt8):Bool:=(decide (97≤c.toNat)&&decide (c.toNat≤122))||c==95
def zh2(m:Nat)(t:List UInt8):Bool:=match t with
 | []=>false
 | c::r=>decide (t.length≤m)&&(zao c&&r.all fun x=>zao x||zQ x)
def zfz(w:List UInt8)(s:Ts):Res (List Int × Ts):=match zhd w s with
 | some s'=>zcz (s'.b.length+1) [] s'
 | none=>.ok ([],s)
def zsZ(s:Ts):Res (Int × Ts):=match zhd zeR s with
 | some s'=>(zcz (s'.b.length+1) [] s').bind fun r=>if r.1.length=1 then .ok (r.1.headD 0,r.2)else .error 2
 | none=>.ok (0,s)
def zcP(mx:Nat)(s:Ts):Res (F × Ts):=(zcC s).bind fun p =>
 if p.1.head?=some 36∧zh2 mx p.1.tail=true then(zfz zcy p.2).bind fun q=>(zsZ q.2).bind fun r=>(zfz zbi r.2).bind fun u=>(zan (u.2.b.length+1) 0 false [] { u.2 with ls:=[] }).map fun(v:(Int × List UInt8) × Ts) =>
   ({ name:=p.1.tail,params:=q.1,locals:=u.1,type:=r.1,lists:=v.2.ls },v.2)
 else .error 2
def zar(mx:Nat):Nat→List F→Ts→Res (List F × Ts)
 | 0,_,_=>.error (-1)
 | k+1,l,s=>match zhd zbR s with
  | none=>.ok (l,s)
  | some s'=>(zcP mx s').bind fun p=>zar mx k (l++[p.1]) p.2
def zhe(mx:Nat)(s:Ts):Res (M × Ts):=(zaS zc0 s).bind fun s=>(zbH s).bind fun mem=>(zaS [zh,zh] mem.2).bind fun s=>(zar mx (s.b.length+1) [] s).bind fun fs =>
 (zaS [zC,zbZ,zhc,zC,zbR] fs.2).bind fun s=>(zbH s).bind fun mn=>(zaS [zh,zh,zh] mn.2).bind fun s =>
  if s.b.all zoX=true then .ok ({ funcs:=fs.1,memory:=mem.1,main:=yb4 .i64 (mn.1-3) },s)else .error 2
def zni(mx:Nat)(b:List UInt8):Res M:=(zhe mx ⟨b,[]⟩).map (·.1)
def zcd(f:Nat→Nat):Nat→Nat
 | 0=>0
 | k+1=>zcd f k+f k
theorem zfX{f g:Nat→Nat}:∀k,(∀i,i<k→f i=g i)→zcd f k=zcd g k
 | 0,_=>rfl
 | k+1,h=>by rw[zcd,zcd,zfX k fun i hi=>h i (by omega),h k (by omega)]
def rt(T:Nat→Nat)(named:List Bool)(i:Nat):Nat:=if named.getD i true then 0 else T i
theorem zl7(named:List Bool)(n i:Nat):(named.set n true).getD i true=if i=n then true else named.getD i true:=by
 rw[ycg,ycg,List.getElem?_set]
 by_cases h:n=i
 ·subst h
  rw[if_pos rfl,if_pos rfl]
  split<;>rfl
 ·rw[if_neg h,if_neg (fun e=>h e.symm)]
theorem znj(T:Nat→Nat)(named:List Bool){n i:Nat}(h:i≠n):rt T (named.set n true) i=rt T named i:=by
 have e:(named.set n true).getD i true=named.getD i true:=by rw[zl7,if_neg h]
 unfold rt;rw[e]
theorem znk(T:Nat→Nat)(named:List Bool)(n:Nat)(h:named.getD n true=false):∀k,n<k→zcd (rt T (named.set n true)) k+T n=zcd (rt T named) k
 | 0,hk=>by omega
 | k+1,hk=>by
  simp only[zcd]
  by_cases e:n=k
  ·subst e
   have h1:zcd (rt T (named.set n true)) n=zcd (rt T named) n:=zfX n fun i hi=>znj T named (Nat.ne_of_lt hi)
   have h2:rt T (named.set n true) n=0:=by
    have e:(named.set n true).getD n true=true:=by rw[zl7,if_pos rfl]
    unfold rt;rw[e];rfl
   have h3:rt T named n=T n:=by unfold rt;rw[h];rfl
   omega
  ·have ih:=znk T named n h k (by omega)
   have h2:rt T (named.set n true) k=rt T named k:=znj T named (fun q=>e q.symm)
   omega
def zq9(l:List Int)(T:Nat→Nat):Nat:=(l.map fun n=>T n.toNat).sum
theorem zoY(a b:List Int)(T):zq9 (a++b) T=zq9 a T+zq9 b T:=by simp[zq9]
structure zl8(T:Nat→Nat)(k:Nat)(named named':List Bool)(ns:List Int):Prop where
 inside:∀n∈ns,0≤n∧n<(k:Int)
 sum:zcd (rt T named') k+zq9 ns T=zcd (rt T named) k
 rest:∀i,k≤i→named'.getD i true=named.getD i true
 len:named'.length=named.length
theorem zl8.nil{T k named}:zl8 T k named named []:=⟨by simp,by simp[zq9],fun _ _=>rfl,rfl⟩
theorem zl8.trans{T k a b c l m}(h:zl8 T k a b l)(h':zl8 T k b c m):zl8 T k a c (l++m) where
 inside n hn:=(ybh.1 hn).elim (h.inside n) (h'.inside n)
 sum:=by rw[zoY];have:=h.sum;have:=h'.sum;omega
 rest i hi:=(h'.rest i hi).trans (h.rest i hi)
 len:=h'.len.trans h.len
theorem zwl{T k named n named'}(h:zfy (k:Nat) named n=.ok named'):zl8 T k named named' [n]:=by
 unfold zfy at h
 split at h
 ·rename_i hc
  cases h
  obtain⟨h0,h1,h2⟩:=hc
  have hk:n.toNat<k:=by omega
  refine⟨by simp;exact⟨h0,h1⟩,by simpa [zq9]using znk T named n.toNat h2 k hk,fun i hi=>by rw[zl7,if_neg (by omega)],by simp⟩
 ·cases h
theorem znl{T k}:∀{ns named named'},zbh (k:Nat) ns named=.ok named'→zl8 T k named named' ns
 | [],_,_,h=>by simp[zbh]at h;subst h;exact .nil
 | n::ns,named,named',h=>by
  rw[zbh]at h
  split at h
  ·cases h
  ·rename_i named1 h1
   exact(zwl h1).trans (znl h)
theorem zoZ{T k}:∀{ws named named'},zjT (k:Nat) ws named=.ok named'→zl8 T k named named' (ws.flatMap zU)
 | [],_,_,h=>by simp[zjT]at h;subst h;exact .nil
 | w::ws,named,named',h=>by
  rw[zjT]at h
  split at h
  ·cases h
  ·rename_i named1 h1
   rw[yaa]
   exact(znl h1).trans (zoZ h)
def zs0(ls:To):Prop:=∀(k:Nat) (row:List W),ls[k]?=some row→∀n∈row.flatMap zU,0≤n∧n<(k:Int)
theorem zi7(ls:To):∀(r:To) (k:Nat) (named named':List Bool),ls.drop k=r→zcp k r named=.ok named'→∀j row,k≤j→ls[j]?=some row→∀n∈row.flatMap zU,0≤n∧n<(j:Int)
 | [],k,_,_,hd,_,j,row,hj,hr=>by
  have:ls.length≤k:=ych.1 hd
  rw[yb2 (by omega)]at hr;cases hr
 | l::r,k,named,named',hd,h,j,row,hj,hr=>by
  rw[zcp]at h
  split at h
  ·cases h
  ·rename_i named1 h1
   have hl:ls[k]?=some l:=by
    have:=congrArg (·[0]?) hd
    simpa using this
   have hd':ls.drop (k+1)=r:=by
    have:=congrArg (List.drop 1) hd
    simpa [yci]using this
   by_cases e:j=k
   ·subst e
    rw[hl]at hr;cases hr
    exact(zoZ (T:=fun _=>0) h1).inside
   ·exact zi7 ls r (k+1) named1 named' hd' h j row (by omega) hr
theorem znm(ls:To)(T g:Nat→Nat)(hT:∀k row,ls[k]?=some row→T k=g k+zq9 (row.flatMap zU) T):∀(r:To) (k:Nat) (named named':List Bool),ls.drop k=r→zcp k r named=.ok named'→k≤ls.length →
  zcd (rt T named) k=zcd g k→named.length=ls.length→(∀i,k≤i→i<ls.length→named.getD i true=false) →
  zcd (rt T named') ls.length=zcd g ls.length∧named'.length=ls.length∧(0<ls.length→k<ls.length→named'.getD (ls.length-1) true=false)
 | [],k,named,named',hd,h,hk,hs,hl,hf=>by
  have hlen:ls.length≤k:=ych.1 hd
  simp[zcp]at h
  subst h
  obtain rfl:k=ls.length:=by omega
  exact⟨hs,hl,fun _ h=>by omega⟩
 | l::r,k,named,named',hd,h,hk,hs,hlen,hf=>by
  rw[zcp]at h
  split at h
  ·cases h
  ·rename_i named1 h1
   have hl:ls[k]?=some l:=by
    have:=congrArg (·[0]?) hd
    simpa using this
   have hd':ls.drop (k+1)=r:=by
    have:=congrArg (List.drop 1) hd
    simpa [yci]using this
   have hk':k<ls.length:=(yaq.1 hl).1
   have N:=zoZ (T:=T) h1
   have hkk:named1.getD k true=false:=(N.rest k (yah _)).trans (hf k (yah _) hk')
   have hsum:zcd (rt T named1) (k+1)=zcd g (k+1):=by
    simp only[zcd]
    have h3:rt T named1 k=T k:=by unfold rt;rw[hkk];rfl
    have:=N.sum
    have:=hT k l hl
    omega
   have key:=znm ls T g hT r (k+1) named1 named' hd' h hk' hsum (N.len.trans hlen) fun i hi hil=>(N.rest i (by omega)).trans (hf i (by omega) hil)
   refine⟨key.1,key.2.1,fun h0 _=>?_⟩
   by_cases e:k+1<ls.length
   ·exact key.2.2 h0 e
   ·have:r=[]:=by
     have hdl:=congrArg yce hd'
     rw[ycj]at hdl
     exact ybS.1 (by omega)
    subst this
    simp[zcp]at h
    subst h
    rw[show ls.length-1=k from by omega]
    exact hkk
def tot(g:Nat→Nat)(ls:To):Nat→Nat→Nat
 | 0,_=>0
 | f+1,k=>g k+zq9 ((ls.getD k []).flatMap zU) (tot g ls f)
theorem zra{l:List Int}{T U:Nat→Nat}(h:∀n∈l,T n.toNat=U n.toNat):zq9 l T=zq9 l U:=by
 induction l with
 | nil=>rfl
 | cons n l ih =>
  simp only[zq9,yaL,yck]at ih ⊢
  rw[h n (by simp),ih fun m hm=>h m (by simp[hm])]
theorem zrb(g:Nat→Nat){ls:To}(ha:zs0 ls):∀(f:Nat) (k:Nat),k<f→tot g ls (f+1) k=tot g ls f k:=by
 intro f
 induction f with
 | zero=>intro k h;omega
 | succ f ih =>
  intro k hk
  rw[tot,tot]
  congr 1
  refine zra fun n hn=>?_
  cases hr:ls[k]? with
  | none=>rw[ycg,hr]at hn;simp at hn
  | some row =>
   rw[ycg,hr]at hn
   have:=ha k row hr n hn
   exact ih n.toNat (by omega)
def zwm(g:Nat→Nat)(ls:To)(k:Nat):Nat:=tot g ls ls.length k
theorem zBn(g:Nat→Nat){ls:To}(ha:zs0 ls){k:Nat}{row:List W}(h:ls[k]?=some row):zwm g ls k=g k+zq9 (row.flatMap zU) (zwm g ls):=by
 have hk:=(yaq.1 h).1
 unfold zwm
 rw[←zrb g ha ls.length k hk,tot,ycg,h]
 rfl
theorem zkz:∀k,zcd (fun _=>0) k=0
 | 0=>rfl
 | k+1=>by rw[zcd,zkz k]
theorem znn{ls:To}(h:zeh ls=.ok ()):0<ls.length∧zs0 ls∧∀g,zwm g ls (ls.length-1)=zcd g ls.length:=by
 unfold zeh at h
 split at h
 ·cases h
 ·rename_i h0
  split at h
  ·cases h
  ·rename_i named hr
   split at h
   ·rename_i hall
    have ha:zs0 ls:=fun k row hk=>zi7 ls ls 0 _ _ (by simp) hr k row (ycl _) hk
    refine⟨by omega,ha,fun g=>?_⟩
    obtain⟨h1,h2,h3⟩:=znm ls (zwm g ls) g (fun k row hk=>zBn g ha hk) ls 0 _ _ (by simp) hr (ycl _) rfl (by simp) fun i _ hi=>by
     rw[ycg,List.getElem?_replicate,if_pos hi];rfl
    obtain⟨L,hL⟩:∃L,ls.length=L+1:=⟨ls.length-1,by omega⟩
    have h3':=h3 (by omega) (by omega)
    rw[hL]at h1 h3' hall ⊢
    simp only[Nat.add_sub_cancel]at h3' hall ⊢
    rw[←h1,zcd]
    have z:zcd (rt (zwm g ls) named) L=0:=by
     have:zcd (rt (zwm g ls) named) L=zcd (fun _=>0) L:=zfX L fun i hi=>by
      have hm:(named.take L)[i]?=some true:=by
       have hlt:i<(named.take L).length:=by rw[ybf];omega
       rw[yau hlt]
       have:=yaM.1 hall _ (yaw hlt)
       simpa using this
      rw[List.getElem?_take,if_pos hi]at hm
      have e:named.getD i true=true:=by rw[ycg,hm];rfl
      unfold rt;rw[e];rfl
     rw[this,zkz]
    have e:rt (zwm g ls) named L=zwm g ls L:=by unfold rt;rw[h3'];rfl
    rw[z,e];omega
   ·cases h
def zBo(w:W):Bool:=w.op==14||w.op==16||w.op==17
def zOb(l:List W):Prop:=∀w∈l.dropLast,zBo w=false
def zNL(c:Nat→Nat)(ls:To):Nat:=(ls.map fun l=>c l.length).sum
end Go.Proofs.YtohfclafhegadaaGreatDoor
namespace Go.Proofs.YtohfclafhegadaaGreatDoor
open Go Go.Abs
def W.cs(w:W):List AV:=[.int .i64 w.op,.int .i64 w.ty,.int .i64 w.n,.int .i64 w.body,.int .i64 w.other,.str w.name]
def W.av(w:W):AV:=.agg w.cs
inductive All2{α β:Type}(R:α→β→Prop):List α→List β→Prop
 | nil:All2 R [] []
 | cons {x y xs ys} (h:R x y) (r:All2 R xs ys):All2 R (x::xs) (y::ys)
def zux(v:AV)(l:List W):Prop:=(l=[]∧v=.nilsl)∨∃b,v=.sl (.stat b) 6 (l.map W.av)
def zLO(v:AV)(frm:To):Prop:=∃b rows,v=.sl (.stat b) 1 rows∧All2 zux rows frm
def zcq:AV→Option Nat
 | .sl (.fam g _) _ _=>some g
 | _=>none
def zLP(σ:AS)(x f:Nat):Prop:=∃fv tv,σ.objs x=some [fv,tv]∧zcq tv=some f
structure zOo(x:Nat)(σ σ':AS):Prop where
 no:σ.no≤σ'.no
 nf:σ.nf≤σ'.nf
 obj:∀o,o<σ.no→o≠x→σ'.objs o=σ.objs o
 fam:∀f,f<σ.nf→¬zLP σ x f→σ'.F f=σ.F f
 use:∀f,f<σ.nf→zLP σ' x f→zLP σ x f
end Go.Proofs.YtohfclafhegadaaGreatDoor
namespace Go.Proofs.YtohfclafhegadaaGreatDoor
open Go Go.Abs
theorem All2.length{α β:Type}{R:α→β→Prop}{xs ys}(h:All2 R xs ys):xs.length=ys.length:=by
 induction h<;>simp_all
theorem All2.get{α β:Type}{R:α→β→Prop}{xs ys}(h:All2 R xs ys){i:Nat}{y}(hy:ys[i]?=some y):∃x,xs[i]?=some x∧R x y:=by
 induction h generalizing i with
 | nil=>simp at hy
 | cons h r ih =>
  cases i with
  | zero=>simp at hy;subst hy;exact⟨_,by simp,h⟩
  | succ i=>simp at hy;simpa using ih hy
theorem All2.append{α β:Type}{R:α→β→Prop}{xs ys xs' ys'}(h:All2 R xs ys)(h':All2 R xs' ys'):All2 R (xs++xs') (ys++ys'):=by
 induction h with
 | nil=>exact h'
 | cons h r ih=>exact .cons h ih
theorem zwn{P:Program}{G:Env}{f:FuncId}{args:List AV}{σ:AS}{R:Out→AS→Prop}
  (h:ACalls P G f args σ fun o σ'=>R o σ'∨∃v g p,o=.ret v∧σ'.F g=.alive∧R (.ret (frz g v)) (σ'.frz g p)):ACalls P G f args σ R:=by
 intro M w cargs S g c
 refine(h M w cargs S g c).mono fun e w' ⟨o,σ',M',hR,h2,h3,h4⟩=>?_
 rcases hR with hR|⟨v,k,p,ho,ha,hR⟩
 ·exact⟨o,σ',M',hR,h2,h3,h4⟩
 subst ho
 refine⟨_,_,M'.frz k,hR,?_,h3.frz ha,h4.trans (zow ha)⟩
 cases e<;>simp only[zbf]at h2 ⊢
 exact h2.frz ha
end Go.Proofs.YtohfclafhegadaaGreatDoor
namespace Go.Proofs.YtohfclafhegadaaGreatDoor
open Go Go.Abs
structure zd(σ σ':AS):Prop where
 no:σ.no≤σ'.no
 nf:σ.nf≤σ'.nf
 obj:∀o,o<σ.no→σ'.objs o=σ.objs o
 fam:∀f,f<σ.nf→σ'.F f=σ.F f
theorem zd.refl(σ):zd σ σ:=⟨yah _,yah _,fun _ _=>rfl,fun _ _=>rfl⟩
theorem zd.trans{σ σ1 σ2}(h:zd σ σ1)(h':zd σ1 σ2):zd σ σ2 where
 no:=yai h.no h'.no
 nf:=yai h.nf h'.nf
 obj o a:=by rw[h'.obj o (yag a h.no),h.obj o a]
 fam f a:=by rw[h'.fam f (yag a h.nf),h.fam f a]
theorem zd.newO{σ σ' cs}(h:zd σ σ'):zd σ (σ'.newO cs) where
 no:=yai h.no (by simp)
 nf:=h.nf
 obj o a:=by have:=h.no;simp;rw[if_neg (by omega)];exact h.obj o a
 fam:=h.fam
theorem zd.setO{σ σ' o cs}(h:zd σ σ')(ho:σ.no≤o):zd σ (σ'.setO o cs) where
 no:=h.no
 nf:=h.nf
 obj p a:=by simp;rw[if_neg (by omega)];exact h.obj p a
 fam:=h.fam
theorem zd.newF{σ σ'}(h:zd σ σ'):zd σ σ'.newF where
 no:=h.no
 nf:=yai h.nf (by simp)
 obj:=h.obj
 fam f a:=by have:=h.nf;simp;rw[if_neg (by omega)];exact h.fam f a
theorem zd.setF{σ σ' f s}(h:zd σ σ')(hf:σ.nf≤f):zd σ (σ'.setF f s) where
 no:=h.no
 nf:=h.nf
 obj:=h.obj
 fam g a:=by simp;rw[if_neg (by omega)];exact h.fam g a
theorem zd.frz{σ σ' f p}(h:zd σ σ')(hf:σ.nf≤f)(hp:∀o,o<σ.no→p o=false):zd σ (σ'.frz f p) where
 no:=h.no
 nf:=h.nf
 obj o a:=by simp[AS.frz,hp o a];exact h.obj o a
 fam g a:=by simp[AS.frz,zq2];rw[if_neg (by omega)];exact h.fam g a
def zc1(v:AV)(l:List Int):Prop:=(l=[]∧v=.nilsl)∨∃b,v=.sl (.stat b) 1 (l.map (.int .i64))
theorem zc1.one{v l}(h:zc1 v l):v.known=true∧v.one=true∧v.cells=[v]:=by
 rcases h with ⟨_,rfl⟩|⟨b,rfl⟩<;>simp
def zwo(R:Out→AS→Prop)(o:Out)(σ':AS):Prop:=R o σ'∨∃v g p,o=.ret v∧σ'.F g=.alive∧R (.ret (frz g v)) (σ'.frz g p)
theorem zwp{P:Program}{G:Env}{f:FuncId}{args:List AV}{σ:AS}{R:Out→AS→Prop}(h:ACalls P G f args σ (zwo R)):ACalls P G f args σ R:=zwn h
theorem zwo.froze{R:Out→AS→Prop}{v:AV}{σ':AS}(g:Nat)(p:Nat→Bool)(h:σ'.F g=.alive)(h2:R (.ret (frz g v)) (σ'.frz g p)):zwo R (.ret v) σ':=.inr ⟨v,g,p,rfl,h,h2⟩
def zgw(v:AV)(tO:To):Prop:=(tO=[]∧v=.nilsl)∨zLO v tO
theorem zgw.one{v l}(h:zgw v l):v.known=true∧v.one=true∧v.cells=[v]:=by
 rcases h with ⟨_,rfl⟩|⟨b,_,rfl,_⟩<;>simp
def FV(v:AV)(f:F):Prop:=∃pv lv tv,v=.agg [.str f.name,pv,lv,.int .i64 f.type,tv]∧zc1 pv f.params∧zc1 lv f.locals∧zgw tv f.lists
def FsV(v:AV)(fs:List F):Prop:=(fs=[]∧v=.nilsl)∨∃b rows,v=.sl (.stat b) 5 rows∧All2 FV rows fs
def MV(v:AV)(m:M):Prop:=∃fv,v=.agg [fv,.int .i64 m.memory,.int .i64 m.main]∧FsV fv m.funcs
end Go.Proofs.YtohfclafhegadaaGreatDoor
namespace Go.Proofs.YtohfclafhegadaaGreatDoor
open Go Go.Abs
theorem FsV.one{v l}(h:FsV v l):v.known=true∧v.one=true∧v.cells=[v]:=by
 rcases h with ⟨_,rfl⟩|⟨b,_,rfl,_⟩<;>simp
def MU(r n:Nat)(a:Nat→AV)(_:AS):Nat:=match a r with|.int _ i=>n-i.toNat|_=>0
theorem zc1.len{tv:AV}{ts:List Int}(h:zc1 tv ts)(K:AV→Prop):zh5 yb9 44 tv K=K (.int .i64 (ts.length:Int)):=by
 rcases h with ⟨rfl,rfl⟩|⟨b,rfl⟩<;>simp
theorem FsV.len{fv:AV}{fs:List F}(h:FsV fv fs)(K:AV→Prop):zh5 yb9 26 fv K=K (.int .i64 (fs.length:Int)):=by
 rcases h with ⟨rfl,rfl⟩|⟨b,rows,rfl,hr⟩
 ·simp
 ·simp[hr.length]
theorem zgw.len{tv:AV}{ls:To}(h:zgw tv ls)(K:AV→Prop):zh5 yb9 55 tv K=K (.int .i64 (ls.length:Int)):=by
 rcases h with ⟨rfl,rfl⟩|⟨b,rows,rfl,hr⟩
 ·simp
 ·simp[hr.length]
theorem zux.len{v:AV}{l:List W}(h:zux v l)(K:AV→Prop):zh5 yb9 54 v K=K (.int .i64 (l.length:Int)):=by
 rcases h with ⟨rfl,rfl⟩|⟨b,rfl⟩<;>simp
theorem zux.one{v l}(h:zux v l):v.known=true∧v.one=true∧v.cells=[v]:=by
 rcases h with ⟨_,rfl⟩|⟨b,rfl⟩<;>simp
theorem zux.at{v:AV}{l:List W}(h:zux v l){i:Nat}(hi:i<l.length):∃b,∀K:AV→Prop,zA yb9 54 v (.int .i64 (i:Int)) K=K (.pv (.stat b) l[i].av):=by
 rcases h with ⟨rfl,_⟩|⟨b,rfl⟩
 ·simp at hi
 ·exact⟨b,fun K=>by simp[hi]⟩
theorem zc1.at{v:AV}{l:List Int}(h:zc1 v l){i:Nat}(hi:i<l.length):∃b,∀K:AV→Prop,zA yb9 44 v (.int .i64 (i:Int)) K=K (.pv (.stat b) (.int .i64 l[i])):=by
 rcases h with ⟨rfl,_⟩|⟨b,rfl⟩
 ·simp at hi
 ·exact⟨b,fun K=>by simp[hi]⟩
theorem zgw.at{v:AV}{l:To}(h:zgw v l){i:Nat}(hi:i<l.length):∃b rv,zux rv l[i]∧∀K:AV→Prop,zA yb9 55 v (.int .i64 (i:Int)) K=K (.pv (.stat b) rv):=by
 rcases h with ⟨rfl,_⟩|⟨b,rows,rfl,hr⟩
 ·simp at hi
 ·obtain⟨rv,h1,h2⟩:=hr.get (yau hi)
  exact⟨b,rv,h2,fun K=>by simp[h1]⟩
theorem FsV.at{v:AV}{l:List F}(h:FsV v l){i:Nat}(hi:i<l.length):∃b fv,FV fv l[i]∧∀K:AV→Prop,zA yb9 26 v (.int .i64 (i:Int)) K=K (.pv (.stat b) fv):=by
 rcases h with ⟨rfl,_⟩|⟨b,rows,rfl,hr⟩
 ·simp at hi
 ·obtain⟨fv,h1,h2⟩:=hr.get (yau hi)
  exact⟨b,fv,h2,fun K=>by simp[h1]⟩
def zJ3(τ:AS)(base sz:Nat)(v:AV)(ys:List AV):Prop:=(ys=[]∧v=.nilsl)∨∃g,v=.sl (.fam g false) sz ys∧base≤g∧g<τ.nf∧τ.F g=.alive
theorem zJ3.keep{τ τ':AS}{base sz:Nat}{v:AV}{ys:List AV}(h:zJ3 τ base sz v ys)(A:zd τ τ'):zJ3 τ' base sz v ys:=by
 rcases h with h|⟨g,rfl,h1,h2,h3⟩
 ·exact .inl h
 ·have:=A.nf
  exact .inr ⟨g,rfl,h1,by omega,(A.fam g h2).trans h3⟩
theorem za0{α:Type}{l:List α}{i:Nat}{x:α}(h:l[i]?=some x):l.take (i+1)=l.take i++[x]:=by
 obtain⟨hi,rfl⟩:=yaq.1 h
 exact ycm hi
theorem zd.mk1{σ:AS}{c1 c2}:zd σ ((σ.newO c1).setO σ.no c2):=((zd.refl σ).newO).setO (yah _)
def SlW(σ:AS)(v:AV)(l:List W):Prop:=(l=[]∧v=.nilsl)∨∃φ,v=.sl φ 6 (l.map W.av)∧zn σ.F φ
theorem zNM(w u:W):aeq yb9 53 (.agg [.int .i64 w.op,.int .i64 w.ty,.int .i64 w.n,.int .i64 w.body,.int .i64 w.other,.str w.name]) (.agg [.int .i64 u.op,.int .i64 u.ty,.int .i64 u.n,.int .i64 u.body,.int .i64 u.other,.str u.name])=some (decide (w=u)):=by
 simp[aeq,zqP]
 have key:(w=u)↔(w.op=u.op∧w.ty=u.ty∧w.n=u.n∧w.body=u.body∧w.other=u.other∧w.name=u.name):=by
  constructor
  ·rintro rfl;simp
  ·rintro ⟨h1,h2,h3,h4,h5,h6⟩
   cases w;cases u;simp_all
 by_cases h1:w.op=u.op<;>by_cases h2:w.ty=u.ty<;>by_cases h3:w.n=u.n<;>by_cases h4:w.body=u.body<;>by_cases h5:w.other=u.other<;>by_cases h6:w.name=u.name<;>simp[key,h1,h2,h3,h4,h5,h6]
def SI(va vb:AV)(a b:List W)(σ:AS)(f:Nat→AV)(τ:AS):Prop:=∃i:Nat,i≤a.length∧f 0=va∧f 1=vb∧f 5=.int .i64 (i:Int)∧a.take i=b.take i∧τ=σ
def SM(a:List W)(f:Nat→AV)(_:AS):Nat:=match f 5 with
 | .int _ n=>a.length-n.toNat
 | _=>0
theorem zrc{G:Env}{va vb:AV}{a b:List W}{σ:AS}{R:Out→AS→Prop}(ha:SlW σ va a)(hb:SlW σ vb b)(hl:a.length≤2^30)(h:R (.ret (.bool (decide (a=b)))) σ):zzQ G 216 [va,vb] σ R:=by
 refine zwb rfl ?_
 by_cases hab:a.length=b.length
 ·have loop:∀f,f 0=va→f 1=vb→f 5=.int .i64 0→zj4 yb9 G 27 zfc (z8 0 (z7 (avc yb9 G 27 zif (zba yb9 [.tmp 4] R)) (zba yb9 [.tmp 4] R))) f σ:=by
   intro f f0 f1 f5
   refine zH (SI va vb a b σ) (SM a) ⟨0,ycl _,f0,f1,by simpa using f5,by simp,rfl⟩ fun f τ ⟨i,hi,f0,f1,f5,ht,hτ⟩=>?_
   subst hτ
   have hmu:SM a f τ=a.length-i:=by simp[SM,f5]
   by_cases hlt:i<a.length
   ·have hltb:i<b.length:=by omega
    obtain⟨φ,rfl,hφ⟩:∃φ,va=.sl φ 6 (a.map W.av)∧zn τ.F φ:=by
     rcases ha with ⟨rfl,_⟩|ha
     ·simp at hlt
     ·exact ha
    obtain⟨ψ,rfl,hψ⟩:∃φ,vb=.sl φ 6 (b.map W.av)∧zn τ.F φ:=by
     rcases hb with ⟨rfl,_⟩|hb
     ·simp at hltb
     ·exact hb
    have hw2:yb4 .i64 ((i:Int)+1)=(i:Int)+1:=by rw[zc]<;>omega
    have ea:a.take (i+1)=a.take i++[a[i]]:=by simp
    have eb:b.take (i+1)=b.take i++[b[i]]:=by simp
    by_cases hw:a[i]=b[i]
    ·simp[zfc,f0,f1,f5,hlt,hltb,W.av,W.cs,hφ,hψ,zNM,hw,hw2]
     refine⟨⟨i+1,hlt,by simp[f0,W.av,W.cs],by simp[f1,W.av,W.cs],by simp,by rw[ea,eb,ht,hw],rfl⟩,?_⟩
     rw[hmu]
     have:((i:Int)+1).toNat=i+1:=by omega
     simp[SM,this];omega
    ·have hne:¬a=b:=fun e=>hw (by subst e;rfl)
     simp[hne]at h
     simp[zfc,f0,f1,f5,hlt,hltb,W.av,W.cs,hφ,hψ,zNM,hw,hw2,h]
   ·have he:i=a.length:=by omega
    subst he
    have e:a=b:=by rw[ycn,hab,ycn]at ht;exact ht
    have hla:a.length=b.length:=hab
    simp[e]at h
    rcases ha with ⟨rfl,rfl⟩|⟨φ,rfl,hφ⟩
    ·simp[zfc,zif,f0,f1,f5,h]
    ·simp[zfc,zif,f0,f1,f5,h]
  rcases ha with ⟨rfl,rfl⟩|⟨φ,rfl,hφ⟩<;>rcases hb with ⟨rfl,rfl⟩|⟨ψ,rfl,hψ⟩
  ·simp[znf]
   refine loop _ ?_ ?_ ?_<;>simp
  ·simp at hab
   simp[znf,←hab]
   refine loop _ ?_ ?_ ?_<;>simp
  ·simp at hab
   subst hab
   simp[znf]
   refine loop _ ?_ ?_ ?_<;>simp
  ·simp[znf,hab]
   refine loop _ ?_ ?_ ?_<;>simp
 ·have hne:¬a=b:=fun e=>hab (by rw[e])
  have hi:¬(a.length:Int)=b.length:=by omega
  simp[hne]at h
  rcases ha with ⟨rfl,rfl⟩|⟨φ,rfl,hφ⟩<;>rcases hb with ⟨rfl,rfl⟩|⟨ψ,rfl,hψ⟩
  ·simp at hab
  ·simp at hab
   have hi':¬(0:Int)=b.length:=by simpa using hi
   simp[znf,hi',h]
  ·simp at hab
   have hi':¬(a.length:Int)=0:=by simpa using hi
   simp[znf,hab,h]
  ·simp[znf,hi,h]
end Go.Proofs.YtohfclafhegadaaGreatDoor
namespace Go.Proofs.YtohfclafhegadaaGreatDoor.Al
open Go Go.Abs Go.Proofs.YtohfclafhegadaaGreatDoor
def RepE(v:AV)(l:List W):Prop:=(l=[]∧v=.nilsl)∨∃b,v=.sl (.fam 0 b) 6 (l.map W.av)
end Go.Proofs.YtohfclafhegadaaGreatDoor.Al
namespace Go.Proofs.YtohfclafhegadaaGreatDoor.Al
open Go Go.Abs Go.Proofs.YtohfclafhegadaaGreatDoor
theorem mrg_W(f:Nat)(w:W):mrg f w.av=w.av:=by simp[W.av,W.cs]
theorem zGA(f:Nat)(l:List W):(l.map W.av).map (mrg f)=l.map W.av:=by simp[Function.comp_def,mrg_W]
theorem RepE.mrg{v l}(h:RepE v l){f:Nat}:mrg f v=v:=by
 rcases h with ⟨_,rfl⟩|⟨b,rfl⟩
 ·simp
 ·rw[zdw,zGA];split<;>rfl
theorem mrg_rows{tos tO}(h:All2 RepE tos tO)(f:Nat):tos.map (mrg f)=tos:=by
 induction h with
 | nil=>rfl
 | cons h r ih=>simp[h.mrg,ih]
end Go.Proofs.YtohfclafhegadaaGreatDoor.Al
namespace Go.Proofs.YtohfclafhegadaaGreatDoor.Al
open Go Go.Abs Go.Proofs.YtohfclafhegadaaGreatDoor
end Go.Proofs.YtohfclafhegadaaGreatDoor.Al
namespace Go.Proofs.YtohfclafhegadaaGreatDoor.Al
open Go Go.Abs Go.Proofs.YtohfclafhegadaaGreatDoor
def IntsE(v:AV)(l:List Int):Prop:=(l=[]∧(v=.nilsl∨∃b,v=.sl (.stat b) 1 []))∨∃b,v=.sl (.fam 0 b) 1 (l.map (.int .i64))
theorem IntsE.one{v l}(h:IntsE v l):v.known=true∧v.one=true∧v.cells=[v]:=by
 rcases h with ⟨_,rfl|⟨b,rfl⟩⟩|⟨b,rfl⟩<;>simp
def MrgOr(R:Out→AS→Prop)(o:Out)(σ':AS):Prop:=R o σ'∨∃v g p,o=.ret v∧0<σ'.nf∧σ'.F g=.alive∧R (.ret (mrg g v)) (σ'.mrg g p)
theorem merging{P:Program}{G:Env}{f:FuncId}{args:List AV}{σ:AS}{R:Out→AS→Prop}(h:ACalls P G f args σ (MrgOr R)):ACalls P G f args σ R:=zAd h
theorem MrgOr.merged{R:Out→AS→Prop}{v:AV}{σ':AS}(g:Nat)(p:Nat→Bool)(hn:0<σ'.nf)(h:σ'.F g=.alive)(h2:R (.ret (mrg g v)) (σ'.mrg g p)):MrgOr R (.ret v) σ':=.inr ⟨v,g,p,rfl,hn,h,h2⟩
def LstE(g:Nat)(v:AV)(tO:To):Prop:=(tO=[]∧v=.nilsl)∨∃tos,v=.sl (.fam g false) 1 tos∧All2 RepE tos tO
def FVE(v:AV)(p:F × Nat):Prop:=∃pv lv tv,v=.agg [.str p.1.name,pv,lv,.int .i64 p.1.type,tv]∧IntsE pv p.1.params∧IntsE lv p.1.locals∧LstE p.2 tv p.1.lists
structure Gs(τ:AS)(base:Nat)(g:Nat)(gs:List Nat):Prop where
 nd:gs.Nodup
 each:∀x∈gs,base≤x∧x<τ.nf∧τ.F x=.alive∧x≠g
def OutE(τ:AS)(base:Nat)(v:AV)(l:List F):Prop :=
 (l=[]∧v=.nilsl)∨∃g rows ps,v=.sl (.fam g false) 5 rows∧base≤g∧g<τ.nf∧τ.F g=.alive∧ps.map Prod.fst=l∧All2 FVE rows ps∧Gs τ base g (ps.map Prod.snd)
end Go.Proofs.YtohfclafhegadaaGreatDoor.Al
namespace Go.Proofs.YtohfclafhegadaaGreatDoor.Al
open Go Go.Abs Go.Proofs.YtohfclafhegadaaGreatDoor
def ME(τ:AS)(base:Nat)(v:AV)(m:M):Prop:=∃fv,v=.agg [fv,.int .i64 m.memory,.int .i64 m.main]∧OutE τ base fv m.funcs
end Go.Proofs.YtohfclafhegadaaGreatDoor.Al
namespace Go.Proofs.YtohfclafhegadaaGreatDoor.Al
open Go Go.Abs Go.Proofs.YtohfclafhegadaaGreatDoor
structure Spo(S:Nat→Prop)(σ σ':AS):Prop where
 no:σ.no≤σ'.no
 nf:σ.nf≤σ'.nf
 obj:∀o,o<σ.no→σ'.objs o=σ.objs o
 fam:∀k,k<σ.nf→¬S k→σ'.F k=σ.F k
 live:∀k,k<σ.nf→σ.F k≠.dead→σ'.F k≠.dead
end Go.Proofs.YtohfclafhegadaaGreatDoor.Al
namespace Go.Proofs.YtohfclafhegadaaGreatDoor.Al
open Go Go.Abs Go.Proofs.YtohfclafhegadaaGreatDoor
end Go.Proofs.YtohfclafhegadaaGreatDoor.Al
namespace Go.Proofs.YtohfclafhegadaaGreatDoor.Al
open Go Go.Abs Go.Proofs.YtohfclafhegadaaGreatDoor
def Rd(σ:AS):Go.Abs.Own→Prop
 | .stat _=>True
 | .fam f _=>f<σ.nf∧σ.F f=.alive
theorem Rd.read{σ φ}(h:Rd σ φ):zn σ.F φ:=by
 cases φ with
 | stat b=>exact trivial
 | fam f b=>exact h.2
theorem Rd.keep{σ σ' φ}(h:Rd σ φ)(A:zd σ σ'):Rd σ' φ:=by
 cases φ with
 | stat b=>exact trivial
 | fam f b=>exact⟨by have:=A.nf;have:=h.1;omega,(A.fam f h.1).trans h.2⟩
def IntsO(σ:AS)(v:AV)(l:List Int):Prop:=(l=[]∧v=.nilsl)∨∃φ,v=.sl φ 1 (l.map (.int .i64))∧Rd σ φ
def RepO(σ:AS)(v:AV)(l:List W):Prop:=(l=[]∧v=.nilsl)∨∃φ,v=.sl φ 6 (l.map W.av)∧Rd σ φ
def LstO(σ:AS)(v:AV)(l:To):Prop:=(l=[]∧v=.nilsl)∨∃φ rows,v=.sl φ 1 rows∧Rd σ φ∧All2 (RepO σ) rows l
def FVO(σ:AS)(v:AV)(f:F):Prop:=∃pv lv tv,v=.agg [.str f.name,pv,lv,.int .i64 f.type,tv]∧IntsO σ pv f.params∧IntsO σ lv f.locals∧LstO σ tv f.lists
def FsO(σ:AS)(v:AV)(l:List F):Prop:=(l=[]∧v=.nilsl)∨∃φ rows,v=.sl φ 5 rows∧Rd σ φ∧All2 (FVO σ) rows l
def MO(σ:AS)(v:AV)(m:M):Prop:=∃fv,v=.agg [fv,.int .i64 m.memory,.int .i64 m.main]∧FsO σ fv m.funcs
theorem IntsO.one{σ v l}(h:IntsO σ v l):v.known=true∧v.one=true∧v.cells=[v]:=by rcases h with ⟨_,rfl⟩|⟨b,rfl,_⟩<;>simp
theorem RepO.one{σ v l}(h:RepO σ v l):v.known=true∧v.one=true∧v.cells=[v]:=by rcases h with ⟨_,rfl⟩|⟨b,rfl,_⟩<;>simp
theorem LstO.one{σ v l}(h:LstO σ v l):v.known=true∧v.one=true∧v.cells=[v]:=by rcases h with ⟨_,rfl⟩|⟨b,_,rfl,_⟩<;>simp
theorem FsO.one{σ v l}(h:FsO σ v l):v.known=true∧v.one=true∧v.cells=[v]:=by rcases h with ⟨_,rfl⟩|⟨b,_,rfl,_⟩<;>simp
theorem IntsO.keep{σ σ' v l}(h:IntsO σ v l)(A:zd σ σ'):IntsO σ' v l:=by
 rcases h with h|⟨φ,h,r⟩
 ·exact .inl h
 ·exact .inr ⟨φ,h,r.keep A⟩
theorem RepO.keep{σ σ' v l}(h:RepO σ v l)(A:zd σ σ'):RepO σ' v l:=by
 rcases h with h|⟨φ,h,r⟩
 ·exact .inl h
 ·exact .inr ⟨φ,h,r.keep A⟩
theorem all2_mono{α β:Type}{R S:α→β→Prop}{xs ys}(h:All2 R xs ys)(hs:∀x y,R x y→S x y):All2 S xs ys:=by
 induction h with
 | nil=>exact .nil
 | cons h r ih=>exact .cons (hs _ _ h) ih
theorem LstO.keep{σ σ' v l}(h:LstO σ v l)(A:zd σ σ'):LstO σ' v l:=by
 rcases h with h|⟨φ,rows,h,r,k⟩
 ·exact .inl h
 ·exact .inr ⟨φ,rows,h,r.keep A,all2_mono k fun _ _ q=>q.keep A⟩
theorem FVO.keep{σ σ' v l}(h:FVO σ v l)(A:zd σ σ'):FVO σ' v l:=by
 obtain⟨pv,lv,tv,h,a,b,c⟩:=h
 exact⟨pv,lv,tv,h,a.keep A,b.keep A,c.keep A⟩
theorem FsO.keep{σ σ' v l}(h:FsO σ v l)(A:zd σ σ'):FsO σ' v l:=by
 rcases h with h|⟨φ,rows,h,r,k⟩
 ·exact .inl h
 ·exact .inr ⟨φ,rows,h,r.keep A,all2_mono k fun _ _ q=>q.keep A⟩
theorem MO.keep{σ σ' v m}(h:MO σ v m)(A:zd σ σ'):MO σ' v m:=by
 obtain⟨fv,h,k⟩:=h
 exact⟨fv,h,k.keep A⟩
theorem IntsO.len{σ v l}(h:IntsO σ v l)(K:AV→Prop):zh5 yb9 44 v K=K (.int .i64 (l.length:Int)):=by rcases h with ⟨rfl,rfl⟩|⟨b,rfl,_⟩<;>simp
theorem LstO.len{σ v l}(h:LstO σ v l)(K:AV→Prop):zh5 yb9 55 v K=K (.int .i64 (l.length:Int)):=by
 rcases h with ⟨rfl,rfl⟩|⟨b,rows,rfl,_,hr⟩
 ·simp
 ·simp[hr.length]
theorem FsO.len{σ v l}(h:FsO σ v l)(K:AV→Prop):zh5 yb9 26 v K=K (.int .i64 (l.length:Int)):=by
 rcases h with ⟨rfl,rfl⟩|⟨b,rows,rfl,_,hr⟩
 ·simp
 ·simp[hr.length]
theorem IntsO.at{σ v l}(h:IntsO σ v l){i:Nat}(hi:i<l.length):∃φ,Rd σ φ∧∀K:AV→Prop,zA yb9 44 v (.int .i64 (i:Int)) K=K (.pv φ (.int .i64 l[i])):=by
 rcases h with ⟨rfl,_⟩|⟨φ,rfl,r⟩
 ·simp at hi
 ·exact⟨φ,r,fun K=>by simp[hi]⟩
theorem LstO.at{σ v l}(h:LstO σ v l){i:Nat}(hi:i<l.length):∃φ rv,Rd σ φ∧RepO σ rv l[i]∧∀K:AV→Prop,zA yb9 55 v (.int .i64 (i:Int)) K=K (.pv φ rv):=by
 rcases h with ⟨rfl,_⟩|⟨φ,rows,rfl,r,hr⟩
 ·simp at hi
 ·obtain⟨rv,h1,h2⟩:=hr.get (yau hi)
  exact⟨φ,rv,r,h2,fun K=>by simp[h1]⟩
theorem FsO.at{σ v l}(h:FsO σ v l){i:Nat}(hi:i<l.length):∃φ rv,Rd σ φ∧FVO σ rv l[i]∧∀K:AV→Prop,zA yb9 26 v (.int .i64 (i:Int)) K=K (.pv φ rv):=by
 rcases h with ⟨rfl,_⟩|⟨φ,rows,rfl,r,hr⟩
 ·simp at hi
 ·obtain⟨rv,h1,h2⟩:=hr.get (yau hi)
  exact⟨φ,rv,r,h2,fun K=>by simp[h1]⟩
def EI(va vb:AV)(n:Nat)(σ:AS)(a:Nat→AV)(τ:AS):Prop:=∃i:Nat,i≤n∧a 0=va∧a 1=vb∧a 5=.int .i64 (i:Int)∧zd σ τ
theorem zhI{G:Env}{σ:AS}{R:Out→AS→Prop}{va vb:AV}{l:List Int}(ha:IntsO σ va l)(hb:IntsO σ vb l)(hl:l.length≤2^40)(h:∀σ',zd σ σ'→R (.ret (.bool true)) σ'):zzQ G 79 [va,vb] σ R:=by
 refine zAU rfl ?_
 have hal:=ha.len
 have hbl:=hb.len
 simp[zMY,hal,hbl]
 refine zH (EI va vb l.length σ) (MU 5 (l.length+1)) ⟨0,by omega,by simp,by simp,by simp,.refl _⟩ fun a τ hI=>?_
 obtain⟨i,hi,a0,a1,a5,A⟩:=hI
 by_cases hlt:i<l.length
 ·obtain⟨φ,r1,hx1⟩:=(ha.keep A).at hlt
  obtain⟨ψ,r2,hx2⟩:=(hb.keep A).at hlt
  have q1:=r1.read
  have q2:=r2.read
  have w5:yb4 .i64 ((i:Int)+1)=((i+1:Nat):Int):=by rw[zc]<;>omega
  simp[zoM,a0,a1,a5,hal,hlt,hx1,hx2,w5,q1,q2]
  refine⟨⟨i+1,by omega,by simp[a0],by simp[a1],by simp,A⟩,?_⟩
  simp only[MU,a5];simp;omega
 ·simp[zoM,zsP,a0,a1,a5,hal,hlt]
  exact h _ A
theorem zl9{G:Env}{σ:AS}{R:Out→AS→Prop}{va vb:AV}{l:To}(ha:LstO σ va l)(hb:LstO σ vb l)(hl:l.length≤2^40)(hr:∀r∈l,r.length≤2^30)(h:∀σ',zd σ σ'→R (.ret (.bool true)) σ'):zzQ G 180 [va,vb] σ R:=by
 refine zvZ rfl ?_
 have hal:=ha.len
 have hbl:=hb.len
 simp[zEU,hal,hbl]
 refine zH (EI va vb l.length σ) (MU 5 (l.length+1)) ⟨0,by omega,by simp,by simp,by simp,.refl _⟩ fun a τ hI=>?_
 obtain⟨i,hi,a0,a1,a5,A⟩:=hI
 by_cases hlt:i<l.length
 ·obtain⟨φ,rv1,r1,e1,hx1⟩:=(ha.keep A).at hlt
  obtain⟨ψ,rv2,r2,e2,hx2⟩:=(hb.keep A).at hlt
  have q1:=r1.read
  have q2:=r2.read
  have o1:=e1.one
  have o2:=e2.one
  have hrl:=hr _ (yaw hlt)
  have w5:yb4 .i64 ((i:Int)+1)=((i+1:Nat):Int):=by rw[zc]<;>omega
  have sl:∀{v:AV} {r:List W},RepO τ v r→SlW τ v r:=fun h=>by
   rcases h with ⟨h1,h2⟩|⟨φ,h1,h2⟩
   ·exact .inl ⟨h1,h2⟩
   ·exact .inr ⟨φ,h1,h2.read⟩
  simp[zl3,a0,a1,a5,hal,hlt,hx1,hx2,q1,q2,o1,o2]
  refine zrc (sl e1) (sl e2) hrl ?_
  simp[w5,a5]
  refine⟨⟨i+1,by omega,by simp[a0],by simp[a1],by simp,A⟩,?_⟩
  simp only[MU,a5];simp;omega
 ·simp[zl3,zqb,a0,a1,a5,hal,hlt]
  exact h _ A
structure SzE(f:F):Prop where
 params:f.params.length≤2^40
 locals:f.locals.length≤2^40
 lists:f.lists.length≤2^40
 rows:∀r∈f.lists,r.length≤2^30
theorem zs1{G:Env}{σ:AS}{R:Out→AS→Prop}{va vb:AV}{f:F}(ha:FVO σ va f)(hb:FVO σ vb f)(hs:SzE f)(h:∀σ',zd σ σ'→R (.ret (.bool true)) σ'):zzQ G 140 [va,vb] σ R:=by
 refine zvC rfl ?_
 obtain⟨pa,la,ta,rfl,hpa,hla,hta⟩:=ha
 obtain⟨pb,lb,tb,rfl,hpb,hlb,htb⟩:=hb
 have a1:=hpa.one
 have a2:=hla.one
 have a3:=hta.one
 have b1:=hpb.one
 have b2:=hlb.one
 have b3:=htb.one
 simp[zEG,a1,a2,a3,b1,b2,b3]
 have A1:zd σ ((σ.newO [yco f.name,pa,la,ycp yam f.type,ta]).newO [yco f.name,pb,lb,ycp yam f.type,tb]):=(zd.refl σ).newO.newO
 have oa:((σ.newO [yco f.name,pa,la,ycp yam f.type,ta]).newO [yco f.name,pb,lb,ycp yam f.type,tb]).objs σ.no=some [yco f.name,pa,la,ycp yam f.type,ta]:=by simp
 have ob:((σ.newO [yco f.name,pa,la,ycp yam f.type,ta]).newO [yco f.name,pb,lb,ycp yam f.type,tb]).objs (σ.no+1)=some [yco f.name,pb,lb,ycp yam f.type,tb]:=by simp
 have n1:((σ.newO [yco f.name,pa,la,ycp yam f.type,ta]).newO [yco f.name,pb,lb,ycp yam f.type,tb]).no=σ.no+2:=by simp
 generalize (σ.newO [yco f.name,pa,la,ycp yam f.type,ta]).newO [yco f.name,pb,lb,ycp yam f.type,tb]=σ1 at *
 refine zhI (hpa.keep A1) (hpb.keep A1) hs.params fun σ2 A2=>?_
 have oa2:=(A2.obj _ (by omega)).trans oa
 have ob2:=(A2.obj _ (by omega)).trans ob
 have n2:=A2.no
 have B2:=A1.trans A2
 simp[oa2,ob2,a1,a2,a3,b1,b2,b3]
 refine zhI (hla.keep B2) (hlb.keep B2) hs.locals fun σ3 A3=>?_
 have oa3:=(A3.obj _ (by omega)).trans oa2
 have ob3:=(A3.obj _ (by omega)).trans ob2
 have B3:=B2.trans A3
 simp[oa3,ob3,a1,a2,a3,b1,b2,b3]
 refine zl9 (hta.keep B3) (htb.keep B3) hs.lists hs.rows fun σ4 A4=>?_
 simp
 exact h _ (B3.trans A4)
theorem zrd{G:Env}{σ:AS}{R:Out→AS→Prop}{va vb:AV}{l:List F}(ha:FsO σ va l)(hb:FsO σ vb l)(hl:l.length≤2^40)(hs:∀f∈l,SzE f)(h:∀σ',zd σ σ'→R (.ret (.bool true)) σ'):zzQ G 74 [va,vb] σ R:=by
 refine zAT rfl ?_
 have hal:=ha.len
 have hbl:=hb.len
 simp[zMX,hal,hbl]
 refine zH (EI va vb l.length σ) (MU 5 (l.length+1)) ⟨0,by omega,by simp,by simp,by simp,.refl _⟩ fun a τ hI=>?_
 obtain⟨i,hi,a0,a1,a5,A⟩:=hI
 by_cases hlt:i<l.length
 ·obtain⟨φ,rv1,r1,e1,hx1⟩:=(ha.keep A).at hlt
  obtain⟨ψ,rv2,r2,e2,hx2⟩:=(hb.keep A).at hlt
  have q1:=r1.read
  have q2:=r2.read
  have hsz:=hs _ (yaw hlt)
  generalize l[i]=f at *
  have w5:yb4 .i64 ((i:Int)+1)=((i+1:Nat):Int):=by rw[zc]<;>omega
  have f1:=e1
  have f2:=e2
  obtain⟨pa,la,ta,rfl,hpa,hla,hta⟩:=e1
  obtain⟨pb,lb,tb,rfl,hpb,hlb,htb⟩:=e2
  have o1:=hpa.one
  have o2:=hla.one
  have o3:=hta.one
  have o4:=hpb.one
  have o5:=hlb.one
  have o6:=htb.one
  simp[zoL,a0,a1,a5,hal,hlt,hx1,hx2,q1,q2,o1,o2,o3,o4,o5,o6]
  refine zs1 f1 f2 hsz fun σ2 A2=>?_
  simp[w5,a5]
  refine⟨⟨i+1,by omega,by simp[a0],by simp[a1],by simp,A.trans A2⟩,?_⟩
  simp only[MU,a5];simp;omega
 ·simp[zoL,zsO,a0,a1,a5,hal,hlt]
  exact h _ A
theorem eqM_calls{G:Env}{σ:AS}{R:Out→AS→Prop}{va vb:AV}{m:M}(ha:MO σ va m)(hb:MO σ vb m)(hl:m.funcs.length≤2^40)(hs:∀f∈m.funcs,SzE f)(h:∀σ',zd σ σ'→R (.ret (.bool true)) σ'):zzQ G 22 [va,vb] σ R:=by
 refine zAo rfl ?_
 obtain⟨fa,rfl,hfa⟩:=ha
 obtain⟨fb,rfl,hfb⟩:=hb
 have a1:=hfa.one
 have b1:=hfb.one
 simp[zMC,a1,b1]
 have A1:zd σ ((σ.newO [fa,ycp yam m.memory,ycp yam m.main]).newO [fb,ycp yam m.memory,ycp yam m.main]):=(zd.refl σ).newO.newO
 refine zrd (hfa.keep A1) (hfb.keep A1) hl hs fun σ2 A2=>?_
 simp
 exact h _ (A1.trans A2)
end Go.Proofs.YtohfclafhegadaaGreatDoor.Al
namespace Go.Proofs.YtohfclafhegadaaGreatDoor.Al
open Go Go.Abs Go.Proofs.YtohfclafhegadaaGreatDoor
theorem zLQ{σ:AS}(h0:0<σ.nf∧σ.F 0=.alive){v l}(h:RepE v l):RepO σ v l:=by
 rcases h with h|⟨b,h⟩
 ·exact .inl h
 ·exact .inr ⟨_,h,h0⟩
theorem ints_e{σ:AS}(h0:0<σ.nf∧σ.F 0=.alive){v l}(h:IntsE v l):IntsO σ v l:=by
 rcases h with ⟨rfl,h|⟨b,h⟩⟩|⟨b,h⟩
 ·exact .inl ⟨rfl,h⟩
 ·exact .inr ⟨_,h,trivial⟩
 ·exact .inr ⟨_,h,h0⟩
theorem zwq{R:AV→F × Nat→Prop}{S:AV→F→Prop}{rows:List AV}{ps:List (F × Nat)}(h:All2 R rows ps)(hs:∀v p,p∈ps→R v p→S v p.1):All2 S rows (ps.map Prod.fst):=by
 induction h with
 | nil=>exact .nil
 | cons h r ih=>exact .cons (hs _ _ (by simp) h) (ih fun v p hp=>hs v p (by simp[hp]))
theorem m_e{σ:AS}{base:Nat}(h0:0<σ.nf∧σ.F 0=.alive){v m}(h:ME σ base v m):MO σ v m:=by
 obtain⟨fv,rfl,hf⟩:=h
 refine⟨fv,rfl,?_⟩
 rcases hf with h|⟨g,rows,ps,rfl,q1,q2,q3,q4,q5,q6⟩
 ·exact .inl h
 ·refine .inr ⟨_,rows,rfl,⟨q2,q3⟩,?_⟩
  rw[←q4]
  refine zwq q5 fun v p hp ⟨pv,lv,tv,e,a,b,c⟩=>⟨pv,lv,tv,e,ints_e h0 a,ints_e h0 b,?_⟩
  obtain⟨u1,u2,u3,u4⟩:=q6.each p.2 (List.mem_map_of_mem hp)
  rcases c with c|⟨tos,rfl,c⟩
  ·exact .inl c
  ·exact .inr ⟨_,tos,rfl,⟨u2,u3⟩,all2_mono c fun _ _ q=>zLQ h0 q⟩
end Go.Proofs.YtohfclafhegadaaGreatDoor.Al
namespace Go.Proofs.YtohfclafhegadaaGreatDoor
open Go Go.Abs
def okT(t:List UInt8):Bool:=match t with
 | []=>true
 | c::r=>zao c&&r.all fun x=>zao x||zQ x
theorem zs2(t:List UInt8):zh2 24 t=(decide (1≤t.length∧t.length≤24)&&okT t):=by
 cases t with
 | nil=>rfl
 | cons c r =>
  have:(1≤(c::r).length)=True:=by simp
  simp only[zh2,okT,this,true_and]
theorem zwr(d:List UInt8)(c:UInt8):okT (d++[c])=(okT d&&(if d=[]then zao c else zao c||zQ c)):=by
 cases d with
 | nil=>simp[okT]
 | cons x r=>simp[okT,Bool.and_assoc]
theorem zBp(d r:List UInt8)(h:okT d=false):okT (d++r)=false:=by
 cases d with
 | nil=>cases h
 | cons x y =>
  simp only[okT,List.cons_append,ycb]at *
  cases h1:zao x with
  | false=>simp
  | true=>simp[h1]at h;simp;intro a;exact absurd a (by simpa using h)
section
variable {G : Env} {σ : AS} {R : Out → AS → Prop}
def TgI(t:List UInt8)(σ:AS)(a:Nat→AV)(τ:AS):Prop:=∃(d r:List UInt8),t=d++r∧okT d=true∧a 0=.str t∧a 3=.int .i64 (d.length:Int)∧τ=σ
theorem zGB{t:List UInt8}(hl:t.length<2^40)(h:R (.ret (.bool (zh2 24 t))) σ):zzQ G 51 [.str t] σ R:=by
 refine zAF rfl ?_
 rw[zs2]at h
 simp[zMO]
 refine zH (TgI t σ) (MU 3 (t.length+1)) ⟨[],t,rfl,rfl,by simp,by simp,rfl⟩ fun a τ hI=>?_
 obtain⟨d,r,hdr,hok,a0,a3,rfl⟩:=hI
 cases r with
 | nil =>
  have e:t=d:=by simpa using hdr
  have e2:d.length=t.length:=by rw[e]
  rw[e2]at a3
  rw[e,hok]at h
  rw[←e]at h
  by_cases h1:1≤t.length
  ·have h1i:(1:Int)≤(t.length:Int):=by omega
   by_cases h2:t.length≤24
   ·have h2i:(t.length:Int)≤24:=by omega
    simp[zco,zlG,a0,a3,h1,h1i,h2,h2i]
    simpa [h1,h2]using h
   ·have h2i:¬(t.length:Int)≤24:=by omega
    simp[zco,zlG,a0,a3,h1,h1i,h2,h2i]
    simpa [h1,h2]using h
  ·have h1i:¬(1:Int)≤(t.length:Int):=by omega
   simp[zco,zlG,a0,a3,h1,h1i]
   simpa [h1]using h
 | cons c r =>
  have hlt:d.length<t.length:=by simp[hdr]
  have hlti:(d.length:Int)<(t.length:Int):=by omega
  have hi:t[d.length]'hlt=c:=by simp[hdr]
  have w1:yb4 .i64 ((d.length:Int)+1)=((d.length+1:Nat):Int):=by rw[zc]<;>omega
  have e1:t=(d++[c])++r:=by simp[hdr]
  have bad:okT (d++[c])=false→R (.ret (.bool false)) τ:=fun q=>by
   have:okT t=false:=by rw[e1];exact zBp _ _ q
   rw[this]at h
   simpa using h
  have good:∀a':Nat→AV,okT (d++[c])=true→a' 0=.str t→a' 3=.int .i64 ((d.length+1:Nat):Int)→TgI t τ a' τ∧MU 3 (t.length+1) a' τ<MU 3 (t.length+1) a τ:=fun a' q q0 q3=>by
   refine⟨⟨d++[c],r,e1,q,q0,by simpa using q3,rfl⟩,?_⟩
   simp[MU,a3,q3];omega
  rw[zwr,hok,Bool.true_and]at bad good
  have hc255:=c.toNat_lt
  by_cases hL:97≤c.toNat∧c.toNat≤122
  ·have l1:(97:Int)≤(c.toNat:Int):=by omega
   have l2:(c.toNat:Int)≤122:=by omega
   have hl:zao c=true:=by simp[zao,hL]
   simp[zco,a0,a3,hlt,hlti,hi,hL,l1,l2,w1]
   refine good _ ?_ ?_ ?_
   ·rw[hl];split<;>rfl
   ·simp[a0]
   ·simp
  ·by_cases h95:c=95
   ·subst h95
    simp[zco,a0,a3,hlt,hlti,hi,w1]
    refine good _ ?_ ?_ ?_
    ·have:zao 95=true:=by decide
     rw[this];split<;>rfl
    ·simp[a0]
    ·simp
   ·have h95i:¬(c.toNat:Int)=95:=fun e=>h95 (UInt8.toNat_inj.1 (show c.toNat=(95:UInt8).toNat by have:(95:UInt8).toNat=95:=rfl;omega))
    have h95n:¬c.toNat=95:=by omega
    have hl:zao c=false:=by
     simp only[zao,Bool.or_eq_false_iff,beq_eq_false_iff_ne,ne_eq,h95,not_false_iff,and_true]
     by_cases q:97≤c.toNat
     ·have:¬c.toNat≤122:=fun q2=>hL ⟨q,q2⟩
      simp[this]
     ·simp[q]
    have pre:∀b97:Bool,decide ((97:Int)≤(c.toNat:Int))=b97→(b97=true→¬(c.toNat:Int)≤122):=fun b e q=>by
     subst q
     have:=of_decide_eq_true e
     omega
    by_cases h97:(97:Int)≤(c.toNat:Int)
    ·have h122:¬(c.toNat:Int)≤122:=by omega
     have h97n:97≤c.toNat:=by omega
     have h122n:¬c.toNat≤122:=by omega
     have hdg:zQ c=false:=by simp[zQ];omega
     by_cases hd0:d=[]
     ·subst hd0
      simp at a3
      have hi0:t[0]'hlt=c:=hi
      have hlt0:0<t.length:=hlt
      have hlti0:(0:Int)<(t.length:Int):=by omega
      simp[zco,a0,a3,hlt0,hlti0,hi0,h97,h122,h97n,h122n,h95i,h95n,h95,w1]
      exact bad (by simp[hl])
     ·have hdi:¬(d.length:Int)=0:=by have:=ybm.2 hd0;omega
      have hdn:¬d.length=0:=by omega
      have h48:¬(c.toNat:Int)<48:=by omega
      have h48n:¬c.toNat<48:=by omega
      have h57:(57:Int)<(c.toNat:Int):=by omega
      have h57n:57<c.toNat:=by omega
      simp[zco,a0,a3,hlt,hlti,hi,h97,h122,h97n,h122n,h95i,h95n,h95,w1,hdi,hdn,hd0,h48,h48n,h57,h57n]
      exact bad (by simp[hl,hd0,hdg])
    ·have h97n:¬97≤c.toNat:=by omega
     by_cases hd0:d=[]
     ·subst hd0
      simp at a3
      have hi0:t[0]'hlt=c:=hi
      have hlt0:0<t.length:=hlt
      have hlti0:(0:Int)<(t.length:Int):=by omega
      simp[zco,a0,a3,hlt0,hlti0,hi0,h97,h97n,h95i,h95n,h95,w1]
      exact bad (by simp[hl])
     ·have hdi:¬(d.length:Int)=0:=by have:=ybm.2 hd0;omega
      have hdn:¬d.length=0:=by omega
      by_cases h48:(c.toNat:Int)<48
      ·have h48n:c.toNat<48:=by omega
       have hdg:zQ c=false:=by simp[zQ];omega
       simp[zco,a0,a3,hlt,hlti,hi,h97,h97n,h95i,h95n,h95,w1,hdi,hdn,hd0,h48,h48n]
       exact bad (by simp[hl,hd0,hdg])
      ·have h48n:¬c.toNat<48:=by omega
       by_cases h57:(57:Int)<(c.toNat:Int)
       ·have h57n:57<c.toNat:=by omega
        have hdg:zQ c=false:=by simp[zQ];omega
        simp[zco,a0,a3,hlt,hlti,hi,h97,h97n,h95i,h95n,h95,w1,hdi,hdn,hd0,h48,h48n,h57,h57n]
        exact bad (by simp[hl,hd0,hdg])
       ·have h57n:¬57<c.toNat:=by omega
        have hdg:zQ c=true:=by simp[zQ];omega
        simp[zco,a0,a3,hlt,hlti,hi,h97,h97n,h95i,h95n,h95,w1,hdi,hdn,hd0,h48,h48n,h57,h57n]
        refine good _ ?_ ?_ ?_
        ·simp[hl,hd0,hdg]
        ·simp[a0]
        ·simp
end
def zdz:List AV:=(signs.map fun p=>[yco p.1,yco p.2]).flatten
structure zqj(G:Env):Prop where
 signs:G.g 10=.pv (.stat true) (.agg zdz)
 max:∃m,G.g 11=.pv (.stat true) (.int .i64 m)
theorem zb7{G:Env}{σ:AS}{R:Out→AS→Prop}{t:Int}(h:R (.ret (.bool (zaN t))) σ):zzQ G 107 [.int .i64 t] σ R:=by
 refine zvg rfl ?_
 unfold zaN at h
 by_cases h1:t=1
 ·simp[h1]at h
  simp[zvf,h1];exact h
 ·by_cases h2:t=2
  ·simp[h2]at h
   simp[zvf,h2];exact h
  ·simp[h1,h2]at h
   simp[zvf,h1,h2];exact h
def zj6(e:Int):AV:=.iface 71 (.agg [.int .i64 e])
theorem ze{G:Env}{σ:AS}{R:Out→AS→Prop}{b:Bool}{e:Int}(h1:b=true→R (.ret (.tuple [])) σ)(h2:b=false→R (.panic (zj6 e)) σ):zzQ G 53 [.bool b,.int .i64 e] σ R:=by
 refine zAG rfl ?_
 cases b with
 | true=>simp[zK9,splice];exact h1 rfl
 | false=>simp[zK9,splice];exact h2 rfl
theorem zi8{G:Env}{σ:AS}{R:Out→AS→Prop}{t n:Int}(h:R (.ret (.bool (zkx t n))) σ):zzQ G 228 [.int .i64 t,.int .i64 n] σ R:=by
 refine zwe rfl ?_
 unfold zkx at h
 by_cases h1:t=1
 ·by_cases h2:n=1
  ·simp[h1,h2]at h;simp[zoO,h1,h2];exact h
  ·by_cases h4:n=4
   ·simp[h1,h4]at h;simp[zoO,h1,h4];exact h
   ·simp[h1,h2,h4]at h;simp[zoO,h1,h2,h4];exact h
 ·by_cases h2:t=2
  ·by_cases h8:n=8
   ·simp[h2,h8]at h;simp[zoO,h2,h8];exact h
   ·simp[h2,h8]at h;simp[zoO,h2,h8];exact h
  ·simp[h1,h2]at h;simp[zoO,h1,h2];exact h
theorem zno(k:IntKind)(n:Int)(h:k=.i8∨k=.i32):yb4 .i64 (k.wrap n)=k.wrap n:=by
 have hb:-2147483648≤k.wrap n∧k.wrap n≤2147483647:=by
  rcases h with rfl|rfl<;>simp only[yb4,yao,yap]<;>simp<;>omega
 rw[zc]<;>omega
theorem zre{G:Env}{σ:AS}{R:Out→AS→Prop}{t v:Int}(h:R (.ret (.int .i64 (zBl t v))) σ):zzQ G 220 [.int .i64 t,.int .i64 v] σ R:=by
 refine zwd rfl ?_
 unfold zBl at h
 by_cases h3:t=3
 ·simp[h3]at h;simp[zsU,h3,zno];exact h
 ·by_cases h1:t=1
  ·simp[h1]at h;simp[zsU,h1,zno];exact h
  ·by_cases h2:t=2
   ·simp[h2]at h;simp[zsU,h2];exact h
   ·simp[h1,h2,h3]at h;simp[zsU,h1,h2,h3];exact h
def GI(s:List UInt8)(σ:AS)(a:Nat→AV)(τ:AS):Prop:=∃i:Nat,i≤16∧a 0=.str s∧a 5=.agg zdz∧a 6=.int .i64 (i:Int)∧zcx (signs.drop i) s=zcx signs s∧zd σ τ
theorem zqk:∀(l:List (List UInt8 × List UInt8)) (i:Nat) (p:List UInt8 × List UInt8),l[i]?=some p→(((l.map fun p=>[yco p.1,yco p.2]).flatten).drop (i*2)).take 2=[.str p.1,.str p.2]
 | [],i,p,h=>by simp at h
 | q::l,0,p,h=>by simp at h;subst h;rfl
 | q::l,i+1,p,h=>by
  have:=zqk l i p (by simpa using h)
  rw[show(i+1)*2=i*2+1+1 from by omega]
  simpa using this
theorem zws(i:Nat)(h:i<16):∃p,signs[i]?=some p∧(zdz.drop (i*2)).take 2=[.str p.1,.str p.2] :=
 ⟨_,yau h,zqk signs i _ (yau h)⟩
theorem zrf{G:Env}(V:zqj G){σ:AS}{R:Out→AS→Prop}{s:List UInt8}(h:∀σ',zd σ σ'→R (.ret (.str (zcx signs s))) σ'):zzQ G 219 [.str s] σ R:=by
 refine zwc rfl ?_
 have hg:=V.signs
 have hl:zdz.length=32:=rfl
 simp[zE0,hg,hl]
 refine zH (GI s σ) (MU 6 17) ⟨0,by omega,by simp,by simp,by simp,rfl,.refl _⟩ fun a τ hI=>?_
 obtain⟨i,hi,a0,a5,a6,hs,A⟩:=hI
 by_cases hlt:i<16
 ·obtain⟨p,hp,hc⟩:=zws i hlt
  have hd:signs.drop i=p::signs.drop (i+1):=by
   obtain⟨hi',e⟩:=yaq.1 hp
   rw[ycq hi',e]
  have hlt':(i:Int)<16:=by omega
  have hw3:yb4 .i64 ((i:Int)+1)=((i+1:Nat):Int):=by rw[zc]<;>omega
  have hle:i*2+2≤32:=by omega
  obtain⟨x,y⟩:=p
  rw[hd,zcx]at hs
  by_cases he:x=s
  ·rw[if_pos he]at hs
   simp[zig,a0,a5,a6,hlt',hl,hle,zaQ,hc,splice,he]
   rw[hs]
   exact h _ ((A.newO).setO (by have:=A.no;omega))
  ·rw[if_neg he]at hs
   simp[zig,a0,a5,a6,hlt',hl,hle,zaQ,hc,splice,he,hw3]
   refine⟨⟨i+1,by omega,by simp[a0],by simp[a5],by simp,hs,(A.newO).setO (by have:=A.no;omega)⟩,?_⟩
   simp[MU,a6];omega
 ·have he:i=16:=by omega
  subst he
  have:zcx signs s=[]:=by rw[←hs];rfl
  rw[this]at h
  simp[zig,zqf,a6]
  exact h _ A
@[simp] theorem grown_full_cons{KS:AV→AS→Prop}{σ:AS}(el bs sz f s' xs y ys):zbb el bs sz (.sl (.fam f true) s' xs) (y::ys) σ KS=(s'=sz∧(xs.length+(y::ys).length)*bs≤2^47∧σ.F f=.alive∧KS (.sl (.fam σ.nf false) sz (xs++y::ys)) σ.newF):=by simp[zbb]
@[simp] theorem zBq{P:Program}{G:Env}{n:Nat}{pa pb:PC}{ps:List Nat}{f0:Nat}{a:Nat→AV}{l:Nat}{args:List AV}{σ:AS}{K PK:AV→AS→Prop}:
  zmY P (G.under P n pa pb ps f0 a l) (.fn (.yield l) [] []) args σ K PK=(args.length=ps.length∧σ.F f0=.alive∧avc P G n pa (z7 (fun a1 σ1=>σ1.F f0=.alive∧avc P G n pb (rq f0 K PK) a1 σ1) fun _ _ _=>False) (upds a ps args) σ):=by
 simp[zmY,Env.under,zxM]
@[simp] theorem zGC(f0:Nat)(K PK:AV→AS→Prop)(a:Nat→AV)(σ:AS):rq f0 K PK .normal a σ=(σ.F f0=.alive∧K (.bool true) σ):=Eq.trans rfl rfl
@[simp] theorem zJ4(f0:Nat)(K PK:AV→AS→Prop)(v:AV)(a:Nat→AV)(σ:AS):rq f0 K PK (.panic v) a σ=(σ.F f0=.alive∧PK v { σ with F:=upd σ.F f0 .dead }):=Eq.trans rfl rfl
def zb1(l:List Int):List AV:=l.map (.int .i64)
def SV(σ:AS)(sv:AV)(st:List Int):Prop:=(st=[]∧sv=.nilsl)∨∃g b,sv=.sl (.fam g b) 1 (zb1 st)∧g<σ.nf∧σ.F g=.alive
def zo0(σ:AS)(x f:Nat):Prop:=∃cs v,σ.objs x=some cs∧cs[1]?=some v∧zcq v=some f
structure zbc(x:Nat)(σ σ':AS):Prop where
 no:σ.no≤σ'.no
 nf:σ.nf≤σ'.nf
 obj:∀o,o<σ.no→o≠x→σ'.objs o=σ.objs o
 fam:∀f,f<σ.nf→¬zo0 σ x f→σ'.F f=σ.F f
 use:∀f,f<σ.nf→zo0 σ' x f→zo0 σ x f
theorem zbc.refl(x σ):zbc x σ σ:=⟨yah _,yah _,fun _ _ _=>rfl,fun _ _ _=>rfl,fun _ _ h=>h⟩
theorem zbc.trans{x σ σ1 σ2}(h:zbc x σ σ1)(h':zbc x σ1 σ2):zbc x σ σ2 where
 no:=yai h.no h'.no
 nf:=yai h.nf h'.nf
 obj o a b:=by rw[h'.obj o (yag a h.no) b,h.obj o a b]
 fam f a b:=by rw[h'.fam f (yag a h.nf) fun u=>b (h.use f a u),h.fam f a b]
 use f a u:=h.use f a (h'.use f (yag a h.nf) u)
theorem zd.keepL{x σ σ'}(h:zd σ σ')(hx:x<σ.no):zbc x σ σ' where
 no:=h.no
 nf:=h.nf
 obj o a _:=h.obj o a
 fam f a _:=h.fam f a
 use f _ u:=by unfold zo0 at *;rwa [h.obj x hx]at u
def LS(σ:AS)(x c:Nat)(s:St)(deep:Int):Prop:=x<σ.no∧∃sv,σ.objs x=some [.ptr c 0,sv,.bool s.any,.int .i64 deep]∧SV σ sv s.stack
theorem LS.adds{σ σ' x c s deep}(h:LS σ x c s deep)(A:zd σ σ'):LS σ' x c s deep:=by
 obtain⟨hx,sv,ho,hs⟩:=h
 refine⟨yag hx A.no,sv,(A.obj x hx).trans ho,?_⟩
 rcases hs with hs|⟨g,b,e,h1,h2⟩
 ·exact .inl hs
 ·exact .inr ⟨g,b,e,yag h1 A.nf,(A.fam g h1).trans h2⟩
def zuy(R:Out→AS→Prop)(x c:Nat)(deep:Int)(σ:AS):Res St→Prop
 | .ok s'=>∀σ',zbc x σ σ'→LS σ' x c s' deep→R (.ret (.tuple [])) σ'
 | .error e=>∀σ',zbc x σ σ'→R (.panic (zj6 e)) σ'
theorem zbc.set{x σ cs}(hx:x<σ.no)(h:∀f v,f<σ.nf→cs[1]?=some v→zcq v=some f→zo0 σ x f):zbc x σ (σ.setO x cs) where
 no:=yah _
 nf:=yah _
 obj o _ ho:=by simp[ho]
 fam f _ _:=rfl
 use f hf u:=by
  obtain⟨cs',v,h1,h2,h3⟩:=u
  simp at h1
  subst h1
  exact h f v hf h2 h3
theorem zhf{G:Env}{σ:AS}{R:Out→AS→Prop}{x c:Nat}{s:St}{deep:Int}(L:LS σ x c s deep)(hb:s.stack.length≤2^40)(h:zuy R x c deep σ (zgq s)):zzQ G 231 [.ptr x 0] σ R:=by
 refine zwh rfl ?_
 have L0:=L
 obtain⟨hx,sv,ho,hs⟩:=L
 unfold zgq at h
 rcases hs with ⟨hnil,rfl⟩|⟨g,b,rfl,hg1,hg2⟩
 ·have hl:s.stack.length=0:=by rw[hnil];rfl
  rw[if_pos hl]at h
  cases ha:s.any with
  | true =>
   rw[ha]at ho h
   rw[if_pos rfl]at h
   simp[zoQ,ho]
   exact h σ (.refl _ _) L0
  | false =>
   rw[ha]at ho h
   rw[if_neg (by simp)]at h
   simp[zoQ,ho]
   refine ze (fun q=>by simp at q) fun _=>?_
   exact h σ (.refl _ _)
 ·have hlA:(zb1 s.stack).length=s.stack.length:=by simp[zb1]
  by_cases hl:s.stack.length=0
  ·rw[if_pos hl]at h
   have hl2:zb1 s.stack=[]:=ybS.1 (by omega)
   cases ha:s.any with
   | true =>
    rw[ha]at ho h
    rw[if_pos rfl]at h
    simp[zoQ,ho,hl2]
    exact h σ (.refl _ _) L0
   | false =>
    rw[ha]at ho h
    rw[if_neg (by simp)]at h
    simp[zoQ,ho,hl2]
    refine ze (fun q=>by simp at q) fun _=>?_
    exact h σ (.refl _ _)
  ·rw[if_neg hl]at h
   have hl2:¬((zb1 s.stack).length:Int)=0:=by omega
   have hl3:(0:Int)<((zb1 s.stack).length:Int):=by omega
   have hne:¬zb1 s.stack=[]:=fun q=>by rw[q]at hl2;simp at hl2
   have hpos:0<(zb1 s.stack).length:=by omega
   have hw:yb4 .i64 (((zb1 s.stack).length:Int)-1)=(((zb1 s.stack).length-1:Nat):Int):=by rw[zc]<;>omega
   have e:(zb1 s.stack).take ((zb1 s.stack).length-1)=zb1 s.stack.dropLast:=by
    rw[hlA];unfold zb1;rw[←ycr,List.dropLast_eq_take]
   simp[zoQ,ho,hne,hpos,splice]
   refine ze (fun _=>?_) (fun q=>by simp at q)
   simp[zoQ,ho,hne,hpos,splice,hw]
   rw[e]
   refine h _ (.set hx fun f v hf hv hfam=>?_) ⟨by simpa using hx,_,by simp,.inr ⟨g,true,rfl,hg1,hg2⟩⟩
   simp at hv
   subst hv
   simp[zcq]at hfam
   subst hfam
   exact⟨_,_,ho,rfl,rfl⟩
theorem zs3(σ:AS)(x:Nat)(a b:List AV):(σ.setO x a).setO x b=σ.setO x b:=by
 unfold AS.setO
 congr 1
 funext j
 simp only[upd]
 split<;>rfl
theorem zcD{G:Env}{σ:AS}{R:Out→AS→Prop}{x c:Nat}{s:St}{deep:Int}(L:LS σ x c s deep)(h:∀σ',zbc x σ σ'→LS σ' x c zoR deep→R (.ret (.tuple [])) σ'):zzQ G 195 [.ptr x 0] σ R:=by
 refine zv5 rfl ?_
 obtain⟨hx,sv,ho,hs⟩:=L
 simp[zEW,ho,splice]
 rw[zs3]
 refine h _ ((zbc.set (cs:=[.ptr c 0,.nilsl,.bool true,.int .i64 deep]) hx fun f v hf hv hfam=>?_)) ⟨by simpa using hx,_,by simp[zoR],.inl ⟨rfl,rfl⟩⟩
 simp at hv
 subst hv
 simp[zcq]at hfam
theorem zbc.grow{x:Nat}{σ σ1:AS}{cs:List AV}(hx:x<σ.no)(ho:σ1.objs=σ.objs)(hno:σ1.no=σ.no)(hnf:σ.nf≤σ1.nf)(hF:∀f,f<σ.nf→¬zo0 σ x f→σ1.F f=σ.F f)(h:∀f v,f<σ.nf→cs[1]?=some v→zcq v=some f→False):zbc x σ (σ1.setO x cs) where
 no:=by simp[hno]
 nf:=by simpa using hnf
 obj o _ hne:=by simp[hne,ho]
 fam f hf hu:=hF f hf hu
 use f hf u:=by
  obtain⟨cs',v,h1,h2,h3⟩:=u
  simp at h1
  subst h1
  exact(h f v hf h2 h3).elim
theorem zas{G:Env}{σ:AS}{R:Out→AS→Prop}{x c:Nat}{s:St}{deep t:Int}(L:LS σ x c s deep)(hb:s.stack.length≤2^40)(h:∀σ',zbc x σ σ'→LS σ' x c (zhb s t) deep→R (.ret (.tuple [])) σ'):zzQ G 194 [.ptr x 0,.int .i64 t] σ R:=by
 refine zv4 rfl ?_
 have L0:=L
 obtain⟨hx,sv,ho,hs⟩:=L
 by_cases ht:t=0
 ·have e:zhb s t=s:=by simp[zhb,ht]
  rw[e]at h
  simp[zsT,ht]
  exact h σ (.refl _ _) L0
 ·have e:zhb s t={ s with stack:=s.stack++[t] }:=by simp[zhb,ht]
  rw[e]at h
  rcases hs with ⟨hnil,rfl⟩|⟨g,b,rfl,hg1,hg2⟩
  ·simp[zsT,ht,ho,splice]
   refine h _ (.grow hx rfl rfl (by simp) (fun f hf _=>by simp;omega) fun f v hf hv hfam=>?_) ⟨by simpa using hx,.sl (.fam σ.nf false) 1 (zb1 (s.stack++[t])),by simp[hnil,zb1],.inr ⟨σ.nf,false,rfl,by simp,by simp⟩⟩
   ·simp at hv;subst hv;simp[zcq]at hfam;omega
  ·have hlA:(zb1 s.stack).length=s.stack.length:=by simp[zb1]
   have ea:zb1 s.stack++[.int .i64 t]=zb1 (s.stack++[t]):=by simp[zb1]
   cases b with
   | true =>
    simp[zsT,ht,ho,splice,hg2,hlA]
    refine⟨by omega,h _ (.grow hx rfl rfl (by simp) (fun f hf _=>by simp;omega) fun f v hf hv hfam=>?_) ⟨by simpa using hx,.sl (.fam σ.nf false) 1 (zb1 (s.stack++[t])),by simp[zb1],.inr ⟨σ.nf,false,rfl,by simp,by simp⟩⟩⟩
    ·simp at hv;subst hv;simp[zcq]at hfam;omega
   | false =>
    simp[zsT,ht,ho,splice,hg2,hlA]
    refine⟨by omega,h _ (.grow hx rfl rfl (by simp) (fun f hf hu=>?_) fun f v hf hv hfam=>?_) ⟨by simpa using hx,.sl (.fam σ.nf false) 1 (zb1 (s.stack++[t])),by simp[zb1],.inr ⟨σ.nf,false,rfl,by simp,by simp⟩⟩⟩
    ·have:f≠g:=by rintro rfl;exact hu ⟨_,_,ho,rfl,rfl⟩
     simp[this];omega
    ·simp at hv;subst hv;simp[zcq]at hfam;omega
theorem zj7{G:Env}{σ:AS}{R:Out→AS→Prop}{tv:AV}(hk:tv.known=true)(hc:tv.cells=[tv])(h:R (.ret (.fn (.func 250) [] [.ptr σ.no 0])) (σ.newO [tv])):zzQ G 230 [tv] σ R:=by
 refine zwg rfl ?_
 simp[zE1,hk,hc]
 exact h
theorem zrg(t:Int)(ts:List Int)(s:St):zaH (t::ts) s=if s.stack.length=0∨s.stack.getLast?=some t then(match zgq s with|.ok s'=>zaH ts s'|.error e=>.error e)else .error 14:=rfl
theorem zii{s s':St}(h:zgq s=.ok s'):s'.stack.length≤s.stack.length:=by
 unfold zgq at h
 split at h
 ·split at h
  ·cases h;exact yah _
  ·cases h
 ·cases h;simp
@[simp] theorem zJ5(a:Nat→AV)(p q:Nat)(x y:AV):upds a [p,q] [x,y]=upd (upd a p x) q y:=Eq.trans rfl rfl
theorem SV.len{σ:AS}{sv:AV}{st:List Int}(h:SV σ sv st)(K:AV→Prop):zh5 yb9 44 sv K=K (.int .i64 (st.length:Int)):=by
 rcases h with ⟨rfl,rfl⟩|⟨g,b,rfl,_⟩
 ·simp
 ·simp[zb1]
theorem SV.last{σ:AS}{sv:AV}{st:List Int}(h:SV σ sv st)(hn:0<st.length):∃φ v,zn σ.F φ∧st.getLast?=some v∧∀(n:Int),n=(st.length:Int)-1→∀K:AV→Prop,zA yb9 44 sv (.int .i64 n) K=K (.pv φ (.int .i64 v)):=by
 rcases h with ⟨rfl,_⟩|⟨g,b,rfl,_,hg⟩
 ·simp at hn
 ·refine⟨.fam g b,st[st.length-1],hg,by rw[List.getLast?_eq_getElem?,yau (by omega)],fun n hn2 K=>?_⟩
  have e:n.toNat=st.length-1:=by omega
  have h0:0≤n:=by omega
  have hlt:st.length-1<st.length:=by omega
  simp[zb1,e,h0,hlt]
def TI(x c:Nat)(deep:Int)(o f0 l:Nat)(σN:AS)(ts:List Int)(s0:St)(a:Nat→AV)(τ:AS):Prop:=∃(i:Nat) (s:St),i≤ts.length∧a 0=.fn (.yield l) [] []∧a 1=.ptr o 0∧a 3=.int .i64 ((i:Int)-1)∧LS τ x c s deep∧zbc x σN τ∧s.stack.length≤s0.stack.length ∧
 zaH (ts.take i).reverse s=zaH ts.reverse s0
def TM(a:Nat→AV)(_:AS):Nat:=match a 3 with|.int _ n=>(n+1).toNat|_=>0
theorem zbv{G:Env}{σ:AS}{R:Out→AS→Prop}{x c:Nat}{s:St}{deep:Int}{ts:List Int}{tv:AV}(hv:zc1 tv ts)(hts:ts.length≤2^40)(L:LS σ x c s deep)(hb:s.stack.length≤2^40)(h:zuy R x c deep σ (zaH ts.reverse s)):zzQ G 193 [.ptr x 0,tv] σ R:=by
 obtain⟨v1,v2,v3⟩:=hv.one
 refine znc (px:=zsS) (py:=zqd) (pa:=zeP) (pb:=zeQ) zi Tryz.func193 (n:=33) (res:=[]) rfl rfl rfl (by kernel_rfl) (by kernel_rfl) (by kernel_rfl) (by kernel_rfl) (by decide) (by simp) ?_
 simp[zsS,zqd]
 refine zj7 v1 v3 ?_
 simp
 generalize hσ2:(σ.newO [ycs x 0]).newO [tv]=σ2
 have hno2:σ2.no=σ.no+2:=by rw[←hσ2];simp
 have hnf2:σ2.nf=σ.nf:=by rw[←hσ2];simp
 have A2:zd σ σ2:=by rw[←hσ2];exact(zd.refl σ).newO.newO
 have hb0:σ2.objs σ.no=some [.ptr x 0]:=by rw[←hσ2];simp
 have ho0:σ2.objs (σ.no+1)=some [tv]:=by rw[←hσ2];simp
 have hxl:=L.1
 refine⟨250,[.ptr (σ.no+1) 0],by simp,by simp,fun l=>?_⟩
 refine zwj rfl ?_
 have L2:LS σ2.newF x c s deep:=(L.adds A2).adds (zd.refl σ2).newF
 have AN:zd σ σ2.newF:=A2.newF
 have hnu:∀τ,zbc x σ2.newF τ→τ.F σ2.nf=.alive:=fun τ K=>by
  rw[K.fam σ2.nf (by simp) ?_]
  ·simp
  ·rintro ⟨cs,v,e1,e2,e3⟩
   obtain⟨hx,sv,e4,e5⟩:=L
   have:σ2.newF.objs x=some [.ptr c 0,sv,.bool s.any,.int .i64 deep]:=(AN.obj x hx).trans e4
   rw[this]at e1
   cases e1
   simp at e2
   subst e2
   rcases e5 with ⟨_,rfl⟩|⟨g,b,rfl,hg,_⟩
   ·simp[zcq]at e3
   ·simp[zcq]at e3;omega
 -- a state behind the loop
 have back:∀τ,zbc x σ2.newF τ→zbc x σ { τ with F:=upd τ.F σ2.nf .dead }:=by
  intro τ K
  have K':=(AN.keepL hxl).trans K
  exact⟨K'.no,K'.nf,K'.obj,fun f hf hu=>by simp only[upd];rw[if_neg (by omega)];exact K'.fam f hf hu,K'.use⟩
 have backL:∀τ s',zbc x σ2.newF τ→LS τ x c s' deep→LS { τ with F:=upd τ.F σ2.nf .dead } x c s' deep:=by
  intro τ s' K ⟨e1,sv,e2,e3⟩
  refine⟨e1,sv,e2,?_⟩
  rcases e3 with e3|⟨g,b,e4,e5,e6⟩
  ·exact .inl e3
  ·refine .inr ⟨g,b,e4,e5,?_⟩
   have hne:g≠σ2.nf:=by
    rintro rfl
    have u:zo0 τ x σ2.nf:=⟨_,_,e2,rfl,by rw[e4];rfl⟩
    obtain⟨cs,v,q1,q2,q3⟩:=K.use σ2.nf (by simp) u
    obtain⟨hx,sv',q4,q5⟩:=L2
    rw[q4]at q1
    cases q1
    simp at q2
    subst q2
    rcases q5 with ⟨_,rfl⟩|⟨g',b',rfl,hg',_⟩
    ·simp[zcq]at q3
    ·obtain⟨hx1,sv1,p1,p2⟩:=L
     have:σ2.newF.objs x=some [.ptr c 0,sv1,.bool s.any,.int .i64 deep]:=(AN.obj x hx1).trans p1
     rw[q4]at this
     simp at this
     subst this
     rcases p2 with ⟨_,p3⟩|⟨g2,b2,p3,p4,_⟩
     ·cases p3
     ·simp at p3;simp[zcq]at q3;omega
   simp only[upd];rw[if_neg hne];exact e6
 have ho1:σ2.newF.objs (σ.no+1)=some [tv]:=by simpa using ho0
 have hw0:yb4 .i64 ((ts.length:Int)-1)=(ts.length:Int)-1:=by rw[zc]<;>omega
 have start:∀a,TI x c deep (σ.no+1) σ2.nf l σ2.newF ts s a σ2.newF→zj4 yb9 (Env.under G yb9 33 zeP zeQ [9,10] σ2.nf (upd (upd (upd (zbG [ycs x 0,tv]) 2 (ycs σ.no 0)) 7 tv) 8 (AV.fn (Fn.func 250) [] [ycs (σ.no+1) 0])) l) 19 zfd
   (z8 0 (zba yb9 [] fun o σ'=>match o with
    | .ret v=>σ'.F σ2.nf=.alive∧R (.ret (.tuple [])) { σ' with F:=upd σ'.F σ2.nf .dead }
    | .panic v=>R (.panic v) σ')) a σ2.newF:=by
  intro a hI
  refine zH (TI x c deep (σ.no+1) σ2.nf l σ2.newF ts s) TM hI fun a τ hI=>?_
  obtain⟨i,s1,hi,a0,a1,a3,L1,K1,hle,hq⟩:=hI
  have hal:=hnu τ K1
  have hob:τ.objs (σ.no+1)=some [tv]:=by
   rw[K1.obj (σ.no+1) (by simp;omega) (by omega)];exact ho1
  have hob0:τ.objs σ.no=some [.ptr x 0]:=by
   rw[K1.obj σ.no (by simp;omega) (by omega)];simpa using hb0
  cases i with
  | zero =>
   simp[zaH]at hq
   rw[←hq]at h
   simp[zfd,a3]
   exact⟨hal,h _ (back τ K1) (backL τ s1 K1 L1)⟩
  | succ j =>
   have hj:j<ts.length:=by omega
   rcases hv with ⟨rfl,_⟩|⟨b,rfl⟩
   ·simp at hj
   have hrev:(ts.take (j+1)).reverse=ts[j]::(ts.take j).reverse:=by rw[ycm hj,List.reverse_append];rfl
   rw[hrev,zrg]at hq
   obtain⟨hx1,sv1,hs1,hs2⟩:=L1
   have L1':LS τ x c s1 deep:=⟨hx1,sv1,hs1,hs2⟩
   have hf0:=hal
   have hsl:=hs2.len
   have hwj:yb4 .i64 ((j:Int)-1)=(j:Int)-1:=by rw[zc]<;>omega
   have next:∀(a':Nat→AV) (τ':AS) (s':St),zbc x τ τ'→LS τ' x c s' deep→zaH (ts.take j).reverse s'=zaH ts.reverse s→s'.stack.length≤s1.stack.length→a' 0=.fn (.yield l) [] []→a' 1=.ptr (σ.no+1) 0→a' 3=.int .i64 ((j:Int)-1) →
     TI x c deep (σ.no+1) σ2.nf l σ2.newF ts s a' τ'∧TM a' τ'<TM a τ:=by
    intro a' τ' s' K' L' e' l' b0 b1 b3
    refine⟨⟨j,s',by omega,b0,b1,b3,L',K1.trans K',by omega,e'⟩,?_⟩
    simp only[TM,a3,b3]
    omega
   by_cases hn:s1.stack.length=0
   ·have hn':s1.stack=[]:=ybS.1 hn
    rw[if_pos (.inl hn)]at hq
    simp[zfd,a0,a1,a3,hob,hj,zeP,zeQ,hal,hob0,hs1,hsl,hn']
    refine ze (fun _=>?_) (fun q=>by simp at q)
    simp[hob0]
    refine zhf L1' (by omega) ?_
    cases hd:zgq s1 with
    | ok s' =>
     rw[hd]at hq
     intro τ' K' L'
     simp[hal,hnu τ' (K1.trans K'),a0,a1,a3,hwj]
     exact next _ τ' s' K' L' hq (zii hd) (by simp[a0]) (by simp[a1]) (by simp)
    | error e =>
     rw[hd]at hq
     simp only at hq
     rw[←hq]at h
     intro τ' K'
     simp[hal,hnu τ' (K1.trans K')]
     exact h _ (back τ' (K1.trans K'))
   ·obtain⟨φ,v,hrd,hlast,hix⟩:=hs2.last (by omega)
    have hix':=hix _ rfl
    have hw1:yb4 .i64 ((s1.stack.length:Int)-1)=(s1.stack.length:Int)-1:=by rw[zc]<;>omega
    have hne:¬s1.stack=[]:=fun q=>hn (by rw[q];rfl)
    by_cases hvt:v=ts[j]
    ·rw[if_pos (.inr (by rw[hlast,hvt]))]at hq
     subst hvt
     simp[zfd,a0,a1,a3,hob,hj,zeP,zeQ,hal,hob0,hs1,hsl,hne,hix',hw1,hrd]
     refine ze (fun _=>?_) (fun q=>by simp at q)
     simp[hob0]
     refine zhf L1' (by omega) ?_
     cases hd:zgq s1 with
     | ok s' =>
      rw[hd]at hq
      intro τ' K' L'
      simp[hal,hnu τ' (K1.trans K'),a0,a1,a3,hwj]
      exact next _ τ' s' K' L' hq (zii hd) (by simp[a0]) (by simp[a1]) (by simp)
     | error e =>
      rw[hd]at hq
      simp only at hq
      rw[←hq]at h
      intro τ' K'
      simp[hal,hnu τ' (K1.trans K')]
      exact h _ (back τ' (K1.trans K'))
    ·rw[if_neg (by rintro (q|q);exact hn q;rw[hlast]at q;exact hvt (yaR.inj q))]at hq
     rw[←hq]at h
     simp[zfd,a0,a1,a3,hob,hj,zeP,zeQ,hal,hob0,hs1,hsl,hne,hix',hw1,hrd,hvt]
     refine ze (fun q=>by simp at q) (fun _=>?_)
     simp[hal]
     exact h _ (back τ K1)
 simp[zE3,ho1,hv.len,hw0]
 exact start _ ⟨ts.length,s,yah _,by simp,by simp,by simp,L2,.refl _ _,yah _,by rw[ycn]⟩
def zql(σ:AS)(c:Nat)(m:M)(f:F)(ls:List Int):Prop:=c<σ.no∧∃fsv pv lv tv sv,σ.objs c=some [fsv,.int .i64 m.memory,.int .i64 m.main,.str f.name,pv,lv,.int .i64 f.type,tv,sv]∧FsV fsv m.funcs∧zc1 pv f.params∧zc1 lv f.locals∧zgw tv f.lists∧zc1 sv ls
theorem zql.adds{σ σ' c m f ls}(h:zql σ c m f ls)(A:zd σ σ'):zql σ' c m f ls:=by
 obtain⟨hc,fsv,pv,lv,tv,sv,ho,r⟩:=h
 exact⟨yag hc A.no,fsv,pv,lv,tv,sv,(A.obj c hc).trans ho,r⟩
theorem zql.keep{σ σ' x c m f ls}(h:zql σ c m f ls)(K:zbc x σ σ')(hx:c≠x):zql σ' c m f ls:=by
 obtain⟨hc,fsv,pv,lv,tv,sv,ho,r⟩:=h
 exact⟨yag hc K.no,fsv,pv,lv,tv,sv,(K.obj c hc hx).trans ho,r⟩
theorem zdZ{G:Env}{σ:AS}{R:Out→AS→Prop}{x c:Nat}{s:St}{deep:Int}{m:M}{f:F}{ls:List Int}(L:LS σ x c s deep)(C:zql σ c m f ls)(hb:s.stack.length≤2^40)(h:zuy R x c deep σ (zT f.type s)):zzQ G 162 [.ptr x 0] σ R:=by
 refine zvN rfl ?_
 obtain⟨hc,fsv,pv,lv,tv,lsv,hco,_⟩:=C
 obtain⟨hx,sv,ho,hs⟩:=L
 unfold zT at h
 by_cases ht:f.type=0
 ·rw[if_pos ht]at h
  simp[zBf,ho,hco,ht]
  exact h σ (.refl _ _) ⟨hx,sv,ho,hs⟩
 ·rw[if_neg ht]at h
  simp[zBf,ho,hco,ht]
  refine zbv (ts:=[f.type]) (.inr ⟨_,rfl⟩) (by simp) ⟨hx,sv,ho,hs⟩ hb ?_
  have e:[f.type].reverse=[f.type]:=rfl
  rw[e]
  revert h
  cases zaH [f.type] s with
  | ok s'=>intro h σ' K L;simp;exact h σ' K L
  | error e=>intro h σ' K;simp;exact h σ' K
theorem zrh{G:Env}(V:zqj G){σ:AS}{R:Out→AS→Prop}{w:W}(h:∀σ',zd σ σ'→R (.ret (.bool (zdg w))) σ'):zzQ G 191 [w.av] σ R:=by
 refine zv2 rfl ?_
 unfold zdg at h
 have A:zd σ (σ.newO w.cs):=(zd.refl σ).newO
 simp only[W.cs]at A
 by_cases h1:w.op=1
 ·rw[if_pos (.inl h1)]at h
  simp[zl4,W.av,W.cs,h1]
  refine zb7 ?_
  simp
  simpa [h1]using h _ A
 by_cases h5:w.op=5
 ·rw[if_pos (.inr h5)]at h
  simp[zl4,W.av,W.cs,h5]
  refine zb7 ?_
  simp
  simpa [h5]using h _ A
 rw[if_neg (by omega)]at h
 by_cases h4:w.op=4
 ·rw[if_pos h4]at h
  simp[zl4,W.av,W.cs,h4]
  refine zb7 ?_
  cases hn:zaN w.ty with
  | false =>
   rw[hn]at h
   simp
   simpa [h4]using h _ A
  | true =>
   rw[hn]at h
   simp
   refine zrf V fun σ1 A1=>?_
   simp
   have:=h _ ((by simpa [h4]using A:zd σ _).trans A1)
   cases hq:zcx signs w.name with
   | nil=>rw[hq]at this;simpa using this
   | cons a l=>rw[hq]at this;simpa using this
 rw[if_neg h4]at h
 by_cases h8:w.op=8
 ·rw[if_pos (.inl h8)]at h
  simp[zl4,W.av,W.cs,h8]
  refine zi8 ?_
  simp
  simpa [h8]using h _ A
 by_cases h9:w.op=9
 ·rw[if_pos (.inr h9)]at h
  simp[zl4,W.av,W.cs,h9]
  refine zi8 ?_
  simp
  simpa [h9]using h _ A
 rw[if_neg (by omega)]at h
 by_cases k1:1≤w.op
 ·by_cases k2:w.op≤18
  ·simp[k1,k2]at h
   simp[zl4,W.av,W.cs,h1,h5,h4,h8,h9,k1,k2]
   exact h _ A
  ·simp[k1,k2]at h
   simp[zl4,W.av,W.cs,h1,h5,h4,h8,h9,k1,k2]
   exact h _ A
 ·simp[k1]at h
  simp[zl4,W.av,W.cs,h1,h5,h4,h8,h9,k1]
  exact h _ A
def zBr(v:AV)(r:Option (List Int × Int)):Prop:=match r with
 | some (ts,g)=>∃tv,v=.tuple [.agg [tv,.int .i64 g],.bool true]∧zc1 tv ts
 | none=>v=.tuple [.agg [.nilsl,.int .i64 0],.bool false]
theorem zc9{G:Env}{σ:AS}{R:Out→AS→Prop}{mv:AV}{m:M}{n:Int}(hm:MV mv m)(hb:n≤2^63-1)(h:∀v σ',zBr v (zhG m.funcs n)→zd σ σ'→R (.ret v) σ'):zzQ G 229 [mv,.int .i64 n] σ R:=by
 refine zwf rfl ?_
 obtain⟨fv,rfl,hf⟩:=hm
 unfold zhG at h
 have A0:∀c1 c2 c3:List AV,zd σ (((σ.newO c1).newO c2).setO (σ.no+1) c3):=fun _ _ _=>((zd.refl σ).newO.newO).setO (by omega)
 by_cases n0:n=0
 ·rw[if_pos n0]at h
  simp[zoP,n0,splice]
  exact h _ _ ⟨_,rfl,.inl ⟨rfl,rfl⟩⟩ (A0 _ _ _)
 rw[if_neg n0]at h
 by_cases n1:n=1
 ·rw[if_pos n1]at h
  simp[zoP,n1,splice]
  exact h _ _ ⟨_,rfl,.inr ⟨_,rfl⟩⟩ (A0 _ _ _)
 rw[if_neg n1]at h
 by_cases n2:n=2
 ·rw[if_pos n2]at h
  simp[zoP,n2,splice]
  exact h _ _ ⟨_,rfl,.inr ⟨_,rfl⟩⟩ (A0 _ _ _)
 rw[if_neg n2]at h
 by_cases n3:n<0
 ·rw[if_pos n3]at h
  simp[zoP,n0,n1,n2,n3,splice]
  exact h _ _ rfl (A0 _ _ _)
 rw[if_neg n3]at h
 have hw:yb4 .i64 (n-3)=n-3:=by rw[zc]<;>omega
 have hl:=hf.len
 by_cases n4:(m.funcs.length:Int)≤n-3
 ·have e:m.funcs[(n-3).toNat]?=none:=yb2 (by omega)
  rw[e]at h
  simp[zoP,n0,n1,n2,n3,n4,splice,hl,hw]
  exact h _ _ rfl (A0 _ _ _)
 ·rcases hf with ⟨e0,rfl⟩|⟨b,rows,rfl,hr⟩
  ·rw[e0]at n4;simp at n4;omega
  have hlt:(n-3).toNat<m.funcs.length:=by omega
  have hg:m.funcs[(n-3).toNat]?=some m.funcs[(n-3).toNat]:=yau hlt
  obtain⟨row,hrow,pv,lv,tv,rfl,hp,hlv,htv⟩:=hr.get hg
  rw[hg]at h
  have h3:0≤n-3:=by omega
  have p1:=hp.one
  simp[zoP,n0,n1,n2,n3,n4,splice,hl,hw,hrow,h3,p1]
  refine⟨by omega,⟨hlv.one.2.1,htv.one.2.1⟩,h _ _ ⟨_,rfl,hp⟩ ?_⟩
  exact(((zd.refl σ).newO.newO.newO).setO (by omega)).setO (by omega)
theorem zj8{G:Env}{σ:AS}{R:Out→AS→Prop}{x c:Nat}{s:St}{deep:Int}{m:M}{f:F}{ls:List Int}{w:W}(L:LS σ x c s deep)(C:zql σ c m f ls)(hb:w.n≤2^63-1)(h:∀σ',zd σ σ'→R (.ret (.bool (zdY m.funcs ls deep w))) σ'):zzQ G 192 [.ptr x 0,w.av] σ R:=by
 refine zv3 rfl ?_
 obtain⟨hc,fsv,pv,lv,tv,lsv,hco,hfs,hpv,hlv,htv,hls⟩:=C
 obtain⟨hx,sv,ho,hs⟩:=L
 have A:zd σ (σ.newO w.cs):=(zd.refl σ).newO
 simp only[W.cs]at A
 have hx':x≠σ.no:=by omega
 have hc':c≠σ.no:=by omega
 unfold zdY at h
 by_cases h1:w.op=1
 ·rw[if_pos h1]at h
  simp[zj5,W.av,W.cs,h1]
  refine zre ?_
  simp
  simpa [h1]using h _ A
 rw[if_neg h1]at h
 by_cases h2:w.op=2∨w.op=3
 ·rw[if_pos h2]at h
  have hl:=hls.len
  by_cases k1:0≤w.n
  ·by_cases k2:w.n<(ls.length:Int)
   ·simp[k1,k2]at h
    rcases h2 with h2|h2<;>simp[zj5,W.av,W.cs,h1,h2,ho,hco,hx',hc',hl,k1,k2]<;>exact h _ (by simpa [h2]using A)
   ·simp[k1,k2]at h
    rcases h2 with h2|h2<;>simp[zj5,W.av,W.cs,h1,h2,ho,hco,hx',hc',hl,k1,k2]<;>exact h _ (by simpa [h2]using A)
  ·simp[k1]at h
   rcases h2 with h2|h2<;>simp[zj5,W.av,W.cs,h1,h2,ho,hco,hx',hc',hl,k1]<;>exact h _ (by simpa [h2]using A)
 rw[if_neg h2]at h
 have h2a:¬w.op=2:=fun q=>h2 (.inl q)
 have h2b:¬w.op=3:=fun q=>h2 (.inr q)
 by_cases h10:w.op=10
 ·rw[if_pos h10]at h
  simp[zj5,W.av,W.cs,h10,ho,hco,hx',hc']
  have hx'':x≠σ.no+1:=by omega
  have hc'':c≠σ.no+1:=by omega
  have A':zd σ (σ.newO [.int .i64 10,.int .i64 w.ty,.int .i64 w.n,.int .i64 w.body,.int .i64 w.other,.str w.name]):=by simpa [h10]using A
  constructor
  ·refine zc9 (m:=m) ⟨_,rfl,hfs⟩ hb fun v σ1 hv A1=>?_
   have A2:=A'.trans A1
   cases hq:zhG m.funcs w.n with
   | none =>
    rw[hq]at hv h
    simp only[zBr]at hv
    subst hv
    simp[splice]
    exact h _ (A2.newO.setO A2.no)
   | some p =>
    rw[hq]at hv h
    obtain⟨y,rfl,hy⟩:=hv
    have y1:=hy.one
    simp[splice,y1]
    exact h _ (A2.newO.setO A2.no)
  ·simp[ho,hco,hx',hc',hx'',hc'']
   refine zc9 (m:=m) ⟨_,rfl,hfs⟩ hb fun v σ1 hv A1=>?_
   have A2:zd σ σ1:=(A'.newO).trans A1
   have hnew:σ1.objs (σ.no+1)=some [.nilsl,.int .i64 0]:=(A1.obj (σ.no+1) (by simp)).trans (by simp)
   cases hq:zhG m.funcs w.n with
   | none =>
    rw[hq]at hv h
    simp only[zBr]at hv
    subst hv
    simp[splice,hnew]
    exact h _ (A2.setO (by omega))
   | some p =>
    rw[hq]at hv h
    obtain⟨y,rfl,hy⟩:=hv
    have y1:=hy.one
    simp[splice,y1,hnew]
    exact h _ (A2.setO (by omega))
 rw[if_neg h10]at h
 by_cases h14:w.op=14∨w.op=15
 ·rw[if_pos h14]at h
  by_cases k1:0≤w.n
  ·by_cases k2:w.n≤deep
   ·simp[k1,k2]at h
    rcases h14 with h14|h14<;>simp[zj5,W.av,W.cs,h14,ho,hco,hx',hc',k1,k2]<;>exact h _ (by simpa [h14]using A)
   ·simp[k1,k2]at h
    rcases h14 with h14|h14<;>simp[zj5,W.av,W.cs,h14,ho,hco,hx',hc',k1,k2]<;>exact h _ (by simpa [h14]using A)
  ·simp[k1]at h
   rcases h14 with h14|h14<;>simp[zj5,W.av,W.cs,h14,ho,hco,hx',hc',k1]<;>exact h _ (by simpa [h14]using A)
 rw[if_neg h14]at h
 have h14a:¬w.op=14:=fun q=>h14 (.inl q)
 have h14b:¬w.op=15:=fun q=>h14 (.inr q)
 simp[zj5,W.av,W.cs,h1,h2a,h2b,h10,h14a,h14b]
 exact h _ A
@[simp] theorem zx1{P:Program}(t)(x y:List UInt8){K:AV→Prop}:zck P .add t (.str x) (.str y) K=(x.length+y.length<2^62∧K (.str (x++y))):=by simp only[zck,ziq]
theorem zqj.cell{G:Env}(V:zqj G){M F w}(g:GOk yb9 G M F w):∃m,w.cell? ⟨11,0,none⟩=some (.int .i64 m):=by
 obtain⟨m,hm⟩:=V.max
 have h:=g.vars 11
 rw[hm]at h
 cases h with
 | pv φ v B off cs hmem hc hv =>
  have h1:=hc trivial 0 (by simp)
  have h2:=hv trivial 0 (by simp)
  simp at h2
  generalize cs 0=c at h1 h2
  cases h2
  exact⟨m,h1⟩
theorem zj9{G:Env}(V:zqj G){s t:List UInt8}{σ:AS}{R:Out→AS→Prop}(hl:s.length<4294967281)(h:R (.ret (.bool (Lib.contains s t))) σ):zzQ G 232 [.str s,.str t] σ R:=by
 refine ACalls.of_below fun M w cargs S g hc=>?_
 obtain⟨m,hm⟩:=V.cell g
 obtain⟨c0,e0,v0⟩:=hc.2 0 _ rfl
 obtain⟨c1,e1,v1⟩:=hc.2 1 _ rfl
 obtain⟨b0,rfl,rfl⟩:=v0.str_inv
 obtain⟨b1,rfl,rfl⟩:=v1.str_inv
 have hcargs:cargs=#[.string b0,.string b1]:=by
  have hsz:cargs.size=2:=hc.1
  apply Array.ext
  ·simpa using hsz
  ·intro i h1 h2
   match i,h1 with
   | 0,_=>simpa using (yaU.1 e0).2
   | 1,_=>simpa using (yaU.1 e1).2
   | i+2,h=>omega
 rw[hcargs]
 refine(Tryz.strings_Contains b0 b1 m w (by simpa using hl) hm).mono fun e w' ⟨he,hw⟩=>?_
 subst he hw
 exact⟨⟨.bool _,_,rfl,fun M F w=>.bool _,h⟩,rfl,rfl,rfl,yah _,fun _ _=>rfl⟩
theorem zcE:∀{ts:List Int} {s s':St},zaH ts s=.ok s'→s'.stack.length≤s.stack.length
 | [],s,s',h=>by simp[zaH]at h;subst h;exact yah _
 | t::ts,s,s',h=>by
  rw[zaH]at h
  split at h
  ·cases hd:zgq s with
   | error e=>rw[hd]at h;cases h
   | ok s1=>rw[hd]at h;exact yai (zcE h) (zii hd)
  ·cases h
theorem zhg:∀s,zcx signs s≠[]→s.length≤5:=by
 have key:∀(l:List (List UInt8 × List UInt8)),(∀p∈l,p.1.length≤5)→∀s,zcx l s≠[]→s.length≤5:=by
  intro l
  induction l with
  | nil=>intro _ s h;simp[zcx]at h
  | cons p l ih =>
   intro hp s h
   obtain⟨x,y⟩:=p
   rw[zcx]at h
   by_cases e:x=s
   ·subst e;exact hp (x,y) (by simp)
   ·rw[if_neg e]at h;exact ih (fun q hq=>hp q (by simp[hq])) s h
 exact key signs (by decide)
section
variable {G : Env} {σ : AS} {R : Out → AS → Prop} {x c : Nat} {s : St} {deep : Int} {m : M} {f : F} {ls : List Int} {w : W}
theorem zo1(V:zqj G)(L:LS σ x c s deep)(C:zql σ c m f ls)(hcx:c≠x)(hb:s.stack.length≤2^39)(hn:w.n≤2^63-1)(hps:∀g∈m.funcs,g.params.length≤2^30)(hf:zdg w=true)(hr:zdY m.funcs ls deep w=true)
  (h:zuy R x c deep σ (zhH m.funcs ls w s)):zzQ G 196 [.ptr x 0,w.av] σ R:=by
 refine zv6 rfl ?_
 have A:zd σ (σ.newO w.cs):=(zd.refl σ).newO
 have La:=L.adds A
 have Ca:=C.adds A
 have Ka:=A.keepL L.1
 have hwo:(σ.newO w.cs).objs σ.no=some [.int .i64 w.op,.int .i64 w.ty,.int .i64 w.n,.int .i64 w.body,.int .i64 w.other,.str w.name]:=by simp[W.cs]
 have hwl:σ.no<(σ.newO w.cs).no:=by simp
 have hxw:σ.no≠x:=by have:=L.1;omega
 simp[zEX,W.av,W.cs]
 rw[show σ.newO [ycp yam w.op,ycp yam w.ty,ycp yam w.n,ycp yam w.body,ycp yam w.other,yco w.name]=σ.newO w.cs from rfl]
 generalize hσa:σ.newO w.cs=σa at *
 obtain⟨hc,fsv,pv,lv,tv,lsv,hco,hfs,hpv,hlv,htv,hls⟩:=Ca
 obtain⟨hx,sv,ho,hs⟩:=La
 have La:LS σa x c s deep:=⟨hx,sv,ho,hs⟩
 -- the zxL
 have fin:∀r:Res St,zuy R x c deep σ r→zuy (zxL (fun v σ'=>R (.ret (.tuple [])) σ') fun v σ'=>R (.panic v) σ') x c deep σa r:=by
  intro r hr
  cases r with
  | ok s'=>intro σ' K L';simp;exact hr σ' (Ka.trans K) L'
  | error e=>intro σ' K;simp;exact hr σ' (Ka.trans K)
 unfold zhH at h
 by_cases h1:w.op=1
 ·rw[if_pos h1]at h
  simp[h1,hwo]
  refine zas La (by omega) fun σ' K L'=>?_
  simp
  exact h σ' (Ka.trans K) L'
 rw[if_neg h1]at h
 by_cases h2:w.op=2
 ·rw[if_pos h2]at h
  have hr2:0≤w.n∧w.n<(ls.length:Int):=by simpa [zdY,h1,h2]using hr
  rcases hls with ⟨e,_⟩|⟨b,rfl⟩
  ·rw[e]at hr2;simp at hr2;omega
  have hlt:w.n.toNat<ls.length:=by omega
  have e1:ls.getD w.n.toNat 0=ls[w.n.toNat]:=by rw[ycg,yau hlt];rfl
  simp[h2,hwo,ho,hco,hr2.1,hlt]
  refine zas La (by omega) fun σ' K L'=>?_
  simp
  unfold zl6 at h
  rw[e1]at h
  exact h σ' (Ka.trans K) L'
 rw[if_neg h2]at h
 by_cases h3:w.op=3
 ·rw[if_pos h3]at h
  have hr2:0≤w.n∧w.n<(ls.length:Int):=by simpa [zdY,h1,h2,h3]using hr
  rcases hls with ⟨e,_⟩|⟨b,rfl⟩
  ·rw[e]at hr2;simp at hr2;omega
  have hlt:w.n.toNat<ls.length:=by omega
  have e1:ls.getD w.n.toNat 0=ls[w.n.toNat]:=by rw[ycg,yau hlt];rfl
  simp[h3,hwo,ho,hco,hr2.1,hlt]
  unfold zl6 at h
  rw[e1]at h
  refine zbv (ts:=[ls[w.n.toNat]]) (.inr ⟨_,rfl⟩) (by simp) La (by omega) ?_
  have e:[ls[w.n.toNat]].reverse=[ls[w.n.toNat]]:=rfl
  rw[e]
  revert h
  cases zaH [ls[w.n.toNat]] s with
  | ok s'=>intro h σ' K L;simp;exact h σ' (Ka.trans K) L
  | error e=>intro h σ' K;simp;exact h σ' (Ka.trans K)
 rw[if_neg h3]at h
 -- takes,and zgr
 have tgB:∀{R':Out→AS→Prop} {σb:AS} (Kb:zbc x σ σb) (Lb:LS σb x c s deep) (o:Nat) (cs:List AV) (ts:List Int) (tv:AV) (t:Int),σb.objs o=some cs→o<σb.no→o≠x→zc1 tv ts→ts.length≤2^30→zuy R x c deep σ (zgr (zaH ts.reverse s) t) →
   (∀σ1 s1,s1.stack.length≤2^39→zbc x σb σ1→LS σ1 x c s1 deep→σ1.objs o=some cs→(∀σ2,zbc x σ1 σ2→LS σ2 x c (zhb s1 t) deep→R (.ret (.tuple [])) σ2)→R' (.ret (.tuple [])) σ1) →
   (∀e σ1,R (.panic (zj6 e)) σ1→R' (.panic (zj6 e)) σ1)→zzQ G 193 [.ptr x 0,tv] σb R':=by
  intro R' σb Kb Lb o cs ts tv t hob hlo hox hv hl hr k1 k2
  refine zbv hv (by omega) Lb (by omega) ?_
  cases hq:zaH ts.reverse s with
  | error e =>
   rw[hq]at hr
   exact fun σ1 K=>k2 e σ1 (hr σ1 (Kb.trans K))
  | ok s1 =>
   rw[hq]at hr
   exact fun σ1 K L'=>k1 σ1 s1 (by have:=zcE hq;omega) K L' ((K.obj o hlo hox).trans hob) fun σ2 K2 L2=>hr σ2 (Kb.trans (K.trans K2)) L2
 have tg:∀{R':Out→AS→Prop} (ts:List Int) (tv:AV) (t:Int),zc1 tv ts→ts.length≤2^30→zuy R x c deep σ (zgr (zaH ts.reverse s) t) →
   (∀σ1 s1,s1.stack.length≤2^39→zbc x σa σ1→LS σ1 x c s1 deep→σ1.objs σ.no=some [.int .i64 w.op,.int .i64 w.ty,.int .i64 w.n,.int .i64 w.body,.int .i64 w.other,.str w.name]→(∀σ2,zbc x σ1 σ2→LS σ2 x c (zhb s1 t) deep→R (.ret (.tuple [])) σ2)→R' (.ret (.tuple [])) σ1) →
   (∀e σ1,R (.panic (zj6 e)) σ1→R' (.panic (zj6 e)) σ1)→zzQ G 193 [.ptr x 0,tv] σa R':=fun ts tv t hv hl hr k1 k2=>tgB Ka La σ.no _ ts tv t hwo hwl hxw hv hl hr k1 k2
 by_cases h4:w.op=4
 ·rw[if_pos h4]at h
  have hsig:w.name.length≤5:=by
   refine zhg _ fun q=>?_
   simp[zdg,h4,q]at hf
  simp[h4,hwo]
  refine tg [w.ty,w.ty] _ _ (.inr ⟨_,rfl⟩) (by simp) h (fun σ1 s1 hb1 K1 L1 hw1 fin1=>?_) (fun e σ1 hh=>by simp;exact hh)
  simp[hw1]
  refine⟨by omega,by omega,zj9 V ?_ ?_⟩
  ·decide
  have hcmp:Lib.contains [32,101,113,32,110,101,32,108,116,95,115,32,108,101,95,115,32,103,116,95,115,32,103,101,95,115,32] (32::(w.name++[32]))=zLM w.name:=rfl
  simp[hcmp]
  cases hq:zLM w.name with
  | true =>
   rw[hq]at fin1
   simp[hw1]
   refine zas L1 (by omega) fun σ2 K2 L2=>?_
   simp
   exact fin1 σ2 K2 L2
  | false =>
   rw[hq]at fin1
   simp[hw1]
   refine zas L1 (by omega) fun σ2 K2 L2=>?_
   simp
   exact fin1 σ2 K2 L2
 rw[if_neg h4]at h
 by_cases h5:w.op=5
 ·rw[if_pos h5]at h
  simp[h5,hwo]
  refine tg [w.ty] _ _ (.inr ⟨_,rfl⟩) (by simp) h (fun σ1 s1 hb1 K1 L1 hw1 fin1=>?_) (fun e σ1 hh=>by simp;exact hh)
  simp[hw1]
  refine zas L1 (by omega) fun σ2 K2 L2=>?_
  simp
  exact fin1 σ2 K2 L2
 rw[if_neg h5]at h
 by_cases h6:w.op=6
 ·rw[if_pos h6]at h
  simp[h6,hwo]
  refine tg [2] _ _ (.inr ⟨_,rfl⟩) (by simp) h (fun σ1 s1 hb1 K1 L1 hw1 fin1=>?_) (fun e σ1 hh=>by simp;exact hh)
  simp[hw1]
  refine zas L1 (by omega) fun σ2 K2 L2=>?_
  simp
  exact fin1 σ2 K2 L2
 rw[if_neg h6]at h
 by_cases h7:w.op=7
 ·rw[if_pos h7]at h
  simp[h7,hwo]
  refine tg [1] _ _ (.inr ⟨_,rfl⟩) (by simp) h (fun σ1 s1 hb1 K1 L1 hw1 fin1=>?_) (fun e σ1 hh=>by simp;exact hh)
  simp[hw1]
  refine zas L1 (by omega) fun σ2 K2 L2=>?_
  simp
  exact fin1 σ2 K2 L2
 rw[if_neg h7]at h
 by_cases h8:w.op=8
 ·rw[if_pos h8]at h
  simp[h8,hwo]
  refine tg [1] _ _ (.inr ⟨_,rfl⟩) (by simp) h (fun σ1 s1 hb1 K1 L1 hw1 fin1=>?_) (fun e σ1 hh=>by simp;exact hh)
  simp[hw1]
  refine zas L1 (by omega) fun σ2 K2 L2=>?_
  simp
  exact fin1 σ2 K2 L2
 rw[if_neg h8]at h
 by_cases h9:w.op=9
 ·rw[if_pos h9]at h
  simp[h9,hwo]
  refine zbv (ts:=[1,w.ty]) (.inr ⟨_,rfl⟩) (by simp) La (by omega) ?_
  have e:[1,w.ty].reverse=[w.ty,1]:=rfl
  rw[e]
  revert h
  cases zaH [w.ty,1] s with
  | ok s'=>intro h σ' K L;simp;exact h σ' (Ka.trans K) L
  | error e=>intro h σ' K;simp;exact h σ' (Ka.trans K)
 rw[if_neg h9]at h
 by_cases h10:w.op=10
 ·rw[if_pos h10]at h
  have hh:(zhG m.funcs w.n).isSome=true:=by simpa [zdY,h1,h2,h3,h10]using hr
  obtain⟨⟨ts,g⟩,hq⟩:=Option.isSome_iff_exists.1 hh
  rw[hq]at h
  simp only at h
  have htl:ts.length≤2^30:=by
   unfold zhG at hq
   split at hq
   ·cases hq;simp
   ·split at hq
    ·cases hq;simp
    ·split at hq
     ·cases hq;simp
     ·split at hq
      ·cases hq
      ·obtain⟨fn,hfn,e⟩:=ybB.1 hq
       cases e
       exact hps _ (yct hfn)
  have hcw:c≠σa.no:=by omega
  have hxw':x≠σa.no:=by omega
  simp[h10,hwo,ho,hco]
  constructor
  ·refine zc9 (m:=m) ⟨_,rfl,hfs⟩ hn fun v σ1 hv A1=>?_
   rw[hq]at hv
   obtain⟨y,rfl,hy⟩:=hv
   have y1:=hy.one
   simp[splice,y1]
   have A2:zd σa ((σ1.newO [.nilsl,.int .i64 0]).setO σ1.no [y,.int .i64 g]):=A1.newO.setO A1.no
   have Lb:=La.adds A2
   refine tgB (Ka.trans (A2.keepL hx)) Lb σ1.no [y,.int .i64 g] ts y g (by simp) (by simp) (by have:=A1.no;omega) hy htl h (fun σ3 s1 hb1 K1 L1 hw1 fin1=>?_) (fun e σ1 hh=>by simp;exact hh)
   simp[hw1]
   refine zas L1 (by omega) fun σ2 K2 L2=>?_
   simp
   exact fin1 σ2 K2 L2
  ·have hx2:x≠σ.no:=fun q=>hxw q.symm
   simp[ho,hco,hcw,hxw',hwo,show σ.no≠σa.no from by omega]
   refine zc9 (m:=m) ⟨_,rfl,hfs⟩ hn fun v σ1 hv A1=>?_
   rw[hq]at hv
   obtain⟨y,rfl,hy⟩:=hv
   have y1:=hy.one
   have hnew:σ1.objs σa.no=some [.nilsl,.int .i64 0]:=(A1.obj σa.no (by simp)).trans (by simp)
   simp[splice,y1,hnew]
   have hle:σa.no+1≤σ1.no:=by have:=A1.no;simpa using this
   have A2:zd σa (σ1.setO σa.no [y,.int .i64 g]):=(((zd.refl σa).newO).trans A1).setO (yah _)
   have Lb:=La.adds A2
   refine tgB (Ka.trans (A2.keepL hx)) Lb σa.no [y,.int .i64 g] ts y g (by simp) (by simp;omega) (fun q=>hxw' q.symm) hy htl h (fun σ3 s1 hb1 K1 L1 hw1 fin1=>?_) (fun e σ1 hh=>by simp;exact hh)
   simp[hw1]
   refine zas L1 (by omega) fun σ2 K2 L2=>?_
   simp
   exact fin1 σ2 K2 L2
 rw[if_neg h10]at h
 by_cases h18:w.op=18
 ·rw[if_pos h18]at h
  simp[h18,hwo]
  refine zhf La (by omega) ?_
  revert h
  cases zgq s with
  | ok s'=>intro h σ' K L;simp;exact h σ' (Ka.trans K) L
  | error e=>intro h σ' K;simp;exact h σ' (Ka.trans K)
 rw[if_neg h18]at h
 simp[h1,h2,h3,h4,h5,h6,h7,h8,h9,h10,h18,hwo]
 exact h σa Ka La
end
def zJ6(R:Out→AS→Prop)(σ:AS):Res Unit→Prop
 | .ok _=>∀σ',zd σ σ'→R (.ret (.tuple [])) σ'
 | .error e=>∀σ',zd σ σ'→R (.panic (zj6 e)) σ'
def zx2(G:Env)(m:M)(f:F)(ls:List Int)(B:Int)(lk:zuw):Prop:=∀(c:Nat) (σ:AS) (at_ deep:Int) (R:Out→AS→Prop),zql σ c m f ls→0≤at_→at_<B→0≤deep→deep+at_≤2^40→zJ6 R σ (lk at_ deep)→zzQ G 109 [.ptr c 0,.int .i64 at_,.int .i64 deep] σ R
section
variable {G : Env} {σ : AS} {R : Out → AS → Prop} {x c : Nat} {s : St} {deep : Int} {m : M} {f : F} {ls : List Int} {w : W} {lk : zuw} {B : Int}
theorem zma(V:zqj G)(IH:zx2 G m f ls B lk)(L:LS σ x c s deep)(C:zql σ c m f ls)(hcx:c≠x)(hb:s.stack.length≤2^38)(hd0:0≤deep)(hd1:deep≤2^40)(hn:w.n≤2^63-1)(hps:∀g∈m.funcs,g.params.length≤2^30)
  (hnm:∀n∈zU w,0≤n∧n<B∧deep+1+n≤2^40) (h:zuy R x c deep σ (zeg m.funcs ls f.type deep lk w s)):zzQ G 161 [.ptr x 0,w.av] σ R:=by
 refine zvM rfl ?_
 have A:zd σ (σ.newO w.cs):=(zd.refl σ).newO
 have La:=L.adds A
 have Ca:=C.adds A
 have Ka:=A.keepL L.1
 have hwo:(σ.newO w.cs).objs σ.no=some [.int .i64 w.op,.int .i64 w.ty,.int .i64 w.n,.int .i64 w.body,.int .i64 w.other,.str w.name]:=by simp[W.cs]
 have hwl:σ.no<(σ.newO w.cs).no:=by simp
 have hxw:σ.no≠x:=by have:=L.1;omega
 have hcs:w.cs=[.int .i64 w.op,.int .i64 w.ty,.int .i64 w.n,.int .i64 w.body,.int .i64 w.other,.str w.name]:=rfl
 simp[zEO,W.av,hcs]
 rw[show σ.newO [ycp yam w.op,ycp yam w.ty,ycp yam w.n,ycp yam w.body,ycp yam w.other,yco w.name]=σ.newO w.cs from rfl]
 rw[show ycu [ycp yam w.op,ycp yam w.ty,ycp yam w.n,ycp yam w.body,ycp yam w.other,yco w.name]=w.av from rfl]
 generalize σ.newO w.cs=σa at *
 unfold zeg at h
 refine zrh V fun σ1 A1=>?_
 cases hf:zdg w with
 | false =>
  rw[if_pos hf]at h
  simp
  refine ze (fun q=>by simp at q) fun _=>?_
  simp
  exact h _ (Ka.trans (A1.keepL La.1))
 | true =>
 rw[if_neg (by rw[hf];simp)]at h
 have hw1:=(A1.obj σ.no hwl).trans hwo
 simp
 refine ze (fun _=>?_) (fun q=>by simp at q)
 simp[hw1]
 rw[show ycu [ycp yam w.op,ycp yam w.ty,ycp yam w.n,ycp yam w.body,ycp yam w.other,yco w.name]=w.av from rfl]
 refine zj8 (La.adds A1) (Ca.adds A1) hn fun σ2 A2=>?_
 have A12:=A1.trans A2
 cases hr:zdY m.funcs ls deep w with
 | false =>
  rw[if_pos hr]at h
  simp
  refine ze (fun q=>by simp at q) fun _=>?_
  simp
  exact h _ (Ka.trans (A12.keepL La.1))
 | true =>
 rw[if_neg (by rw[hr];simp)]at h
 have hw2:=(A2.obj σ.no (yag hwl A1.no)).trans hw1
 have L2:=La.adds A12
 have C2:=Ca.adds A12
 have K2:=Ka.trans (A12.keepL La.1)
 have hwl2:σ.no<σ2.no:=yag hwl A12.no
 simp
 refine ze (fun _=>?_) (fun q=>by simp at q)
 simp[hw2]
 clear A1 A2 hw1 hwo A12 Ka La Ca
 have keepW:∀{σ3},zbc x σ2 σ3→σ3.objs σ.no=some [.int .i64 w.op,.int .i64 w.ty,.int .i64 w.n,.int .i64 w.body,.int .i64 w.other,.str w.name]:=fun K=>(K.obj σ.no hwl2 hxw).trans hw2
 have L2':=L2
 have C2':=C2
 obtain⟨hc2,fsv,pv,lv,tv,lsv,hco,_⟩:=C2'
 obtain⟨hx2,sv,ho,_⟩:=L2'
 have hwd:yb4 .i64 (deep+1)=deep+1:=by rw[zc]<;>omega
 by_cases h11:w.op=11∨w.op=12
 ·rw[if_pos h11]at h
  have hnn:zU w=[w.body]:=by unfold zU;rw[if_pos (by omega)]
  rw[hnn]at hnm
  have hb0:=hnm w.body (by simp)
  have go:zJ6 (zxL (fun v σ'=>R (.ret (.tuple [])) σ') fun v σ'=>R (.panic v) σ') σ2 (lk w.body (deep+1)):=by
   cases hq:lk w.body (deep+1)with
   | ok u=>rw[hq]at h;intro σ3 A3;simp;exact h σ3 (K2.trans (A3.keepL hx2)) (L2.adds A3)
   | error e=>rw[hq]at h;intro σ3 A3;simp;exact h σ3 (K2.trans (A3.keepL hx2))
  rcases h11 with h11|h11
  ·simp[h11,hw2,ho,hco,hwd]
   refine IH c σ2 w.body (deep+1) _ C2 hb0.1 hb0.2.1 (by omega) hb0.2.2 ?_
   revert go
   cases lk w.body (deep+1)with
   | ok u=>intro go σ3 A3;have:=go σ3 A3;simpa using this
   | error e=>intro go σ3 A3;have:=go σ3 A3;simpa using this
  ·simp[h11,hw2,ho,hco,hwd]
   refine IH c σ2 w.body (deep+1) _ C2 hb0.1 hb0.2.1 (by omega) hb0.2.2 ?_
   revert go
   cases lk w.body (deep+1)with
   | ok u=>intro go σ3 A3;have:=go σ3 A3;simpa using this
   | error e=>intro go σ3 A3;have:=go σ3 A3;simpa using this
 rw[if_neg h11]at h
 have h11a:¬w.op=11:=fun q=>h11 (.inl q)
 have h11b:¬w.op=12:=fun q=>h11 (.inr q)
 by_cases h13:w.op=13
 ·rw[if_pos h13]at h
  simp[h13,hw2]
  refine zbv (ts:=[1]) (.inr ⟨_,rfl⟩) (by simp) L2 (by omega) ?_
  rw[show [(1:Int)].reverse=[1] from rfl]
  cases ht:zaH [1] s with
  | error e =>
   rw[ht]at h
   intro σ3 K3
   simp
   exact h σ3 (K2.trans K3)
  | ok s1 =>
   rw[ht]at h
   simp only at h
   intro σ3 K3 L3
   have C3:=C2.keep K3 hcx
   have hw3:=keepW K3
   have hwl3:σ.no<σ3.no:=yag hwl2 K3.no
   have C3':=C3
   have L3':=L3
   obtain⟨hc3,fsv3,pv3,lv3,tv3,lsv3,hco3,_⟩:=C3'
   obtain⟨hx3,sv3,ho3,_⟩:=L3'
   have hb0:0≤w.body∧w.body<B∧deep+1+w.body≤2^40:=hnm w.body (by
    unfold zU
    by_cases ho:w.other<0
    ·rw[if_pos (by omega)];simp
    ·rw[if_neg (by omega),if_pos h13];simp)
   simp[hw3,ho3,hco3,hwd]
   refine IH c σ3 w.body (deep+1) _ C3 hb0.1 hb0.2.1 (by omega) hb0.2.2 ?_
   cases hq:lk w.body (deep+1)with
   | error e =>
    rw[hq]at h
    intro σ4 A4
    simp
    exact h σ4 (K2.trans (K3.trans (A4.keepL hx3)))
   | ok u =>
    rw[hq]at h
    simp only at h
    intro σ4 A4
    have hw4:=(A4.obj σ.no hwl3).trans hw3
    have ho4:=(A4.obj x hx3).trans ho3
    have hco4:=(A4.obj c hc3).trans hco3
    have L4:=L3.adds A4
    have C4:=C3.adds A4
    by_cases ho:0≤w.other
    ·rw[if_pos ho]at h
     have hb1:0≤w.other∧w.other<B∧deep+1+w.other≤2^40:=hnm w.other (by unfold zU;rw[if_neg (by omega),if_pos h13];simp)
     simp[hw4,ho,ho4,hco4,hwd]
     refine IH c σ4 w.other (deep+1) _ C4 hb1.1 hb1.2.1 (by omega) hb1.2.2 ?_
     cases hq2:lk w.other (deep+1)with
     | error e =>
      rw[hq2]at h
      intro σ5 A5
      simp
      exact h σ5 (K2.trans (K3.trans ((A4.trans A5).keepL hx3)))
     | ok u =>
      rw[hq2]at h
      intro σ5 A5
      simp
      exact h σ5 (K2.trans (K3.trans ((A4.trans A5).keepL hx3))) (L4.adds A5)
    ·rw[if_neg ho]at h
     simp[hw4,ho]
     exact h σ4 (K2.trans (K3.trans (A4.keepL hx3))) L4
 rw[if_neg h13]at h
 by_cases h15:w.op=15
 ·rw[if_pos h15]at h
  simp[h15,hw2]
  refine zbv (ts:=[1]) (.inr ⟨_,rfl⟩) (by simp) L2 (by omega) ?_
  rw[show [(1:Int)].reverse=[1] from rfl]
  cases ht:zaH [1] s with
  | error e =>
   rw[ht]at h
   intro σ3 K3
   simp
   exact h σ3 (K2.trans K3)
  | ok s1 =>
   rw[ht]at h
   simp only at h
   intro σ3 K3 L3
   have hs1:=zcE ht
   have C3:=C2.keep K3 hcx
   have hw3:=keepW K3
   have L3':=L3
   obtain⟨hx3,sv3,ho3,_⟩:=L3'
   by_cases hq:w.n=deep
   ·rw[if_pos hq]at h
    simp[hw3,ho3,hq]
    refine zdZ L3 C3 (by omega) ?_
    cases hq2:zT f.type s1 with
    | error e =>
     rw[hq2]at h
     intro σ4 K4
     simp
     exact h σ4 (K2.trans (K3.trans K4))
    | ok s2 =>
     rw[hq2]at h
     intro σ4 K4 L4
     have hs2:s2.stack.length≤s1.stack.length:=by
      unfold zT at hq2
      split at hq2
      ·cases hq2;exact yah _
      ·exact zcE hq2
     have C4:=C3.keep K4 hcx
     have C4':=C4
     have L4':=L4
     obtain⟨hc4,fsv4,pv4,lv4,tv4,lsv4,hco4,_⟩:=C4'
     obtain⟨hx4,sv4,ho4,_⟩:=L4'
     simp[ho4,hco4]
     refine zas L4 (by omega) fun σ5 K5 L5=>?_
     simp
     exact h σ5 (K2.trans (K3.trans (K4.trans K5))) L5
   ·rw[if_neg hq]at h
    simp[hw3,ho3,hq]
    exact h σ3 (K2.trans K3) L3
 rw[if_neg h15]at h
 have ret:∀{R':Out→AS→Prop},zuy R' x c deep σ2 (zT f.type s)→zzQ G 162 [.ptr x 0] σ2 R':=fun hh=>zdZ L2 C2 (by omega) hh
 by_cases h14:w.op=14
 ·rw[if_pos h14]at h
  by_cases hq:w.n=deep
  ·rw[if_pos hq]at h
   simp[h14,hw2,ho,hq]
   refine ret ?_
   cases hq2:zT f.type s with
   | error e =>
    rw[hq2]at h
    intro σ4 K4
    simp
    exact h σ4 (K2.trans K4)
   | ok s2 =>
    rw[hq2]at h
    intro σ4 K4 L4
    simp
    refine zcD L4 fun σ5 K5 L5=>?_
    simp
    exact h σ5 (K2.trans (K4.trans K5)) L5
  ·rw[if_neg hq]at h
   simp[h14,hw2,ho,hq]
   refine zcD L2 fun σ5 K5 L5=>?_
   simp
   exact h σ5 (K2.trans K5) L5
 rw[if_neg h14]at h
 by_cases h16:w.op=16
 ·rw[if_pos h16]at h
  simp[h16,hw2]
  refine ret ?_
  cases hq2:zT f.type s with
  | error e =>
   rw[hq2]at h
   intro σ4 K4
   simp
   exact h σ4 (K2.trans K4)
  | ok s2 =>
   rw[hq2]at h
   intro σ4 K4 L4
   simp
   refine zcD L4 fun σ5 K5 L5=>?_
   simp
   exact h σ5 (K2.trans (K4.trans K5)) L5
 rw[if_neg h16]at h
 by_cases h17:w.op=17
 ·rw[if_pos h17]at h
  simp[h17,hw2]
  refine zcD L2 fun σ5 K5 L5=>?_
  simp
  exact h σ5 (K2.trans K5) L5
 rw[if_neg h17]at h
 simp[h11a,h11b,h13,h15,h14,h16,h17,hw2]
 rw[show ycu [ycp yam w.op,ycp yam w.ty,ycp yam w.n,ycp yam w.body,ycp yam w.other,yco w.name]=w.av from rfl]
 refine zo1 V L2 C2 hcx (by omega) hn hps hf hr ?_
 revert h
 cases zhH m.funcs ls w s with
 | ok s'=>intro h σ3 K3 L3;simp;exact h σ3 (K2.trans K3) L3
 | error e=>intro h σ3 K3;simp;exact h σ3 (K2.trans K3)
end
theorem zmb(s:St)(t:Int):(zhb s t).stack.length≤s.stack.length+1:=by unfold zhb;split<;>simp
theorem zwt{ts:List Int}{s s':St}{t:Int}(h:zgr (zaH ts s) t=.ok s'):s'.stack.length≤s.stack.length+1:=by
 obtain⟨s1,e,rfl⟩:∃s1,zaH ts s=.ok s1∧s'=zhb s1 t:=by
  cases hq:zaH ts s with
  | error e=>rw[hq]at h;cases h
  | ok s1=>rw[hq]at h;cases h;exact⟨s1,rfl,rfl⟩
 have:=zcE e
 have:=zmb s1 t
 omega
theorem zs4{fs:List F}{ls:List Int}{w:W}{s s':St}(h:zhH fs ls w s=.ok s'):s'.stack.length≤s.stack.length+1:=by
 unfold zhH at h
 repeat' split at h
 all_goals first
  | (cases h;first|exact zmb _ _|omega)
  | exact zwt h
  | (have:=zcE h;omega)
  | (have:=zii h;omega)
theorem zo2{ty:Int}{s s':St}(h:zT ty s=.ok s'):s'.stack.length≤s.stack.length:=by
 unfold zT at h
 split at h
 ·cases h;exact yah _
 ·exact zcE h
theorem zs5{fs:List F}{ls:List Int}{ty deep:Int}{lk:zuw}{w:W}{s s':St}(h:zeg fs ls ty deep lk w s=.ok s'):s'.stack.length≤s.stack.length+1:=by
 unfold zeg at h
 by_cases h1:zdg w=false
 ·rw[if_pos h1]at h;cases h
 rw[if_neg h1]at h
 by_cases h2:zdY fs ls deep w=false
 ·rw[if_pos h2]at h;cases h
 rw[if_neg h2]at h
 by_cases h3:w.op=11∨w.op=12
 ·rw[if_pos h3]at h
  split at h
  ·cases h;omega
  ·cases h
 rw[if_neg h3]at h
 by_cases h4:w.op=13
 ·rw[if_pos h4]at h
  split at h
  ·cases h
  ·rename_i s1 hs1
   have:=zcE hs1
   split at h
   ·cases h
   ·split at h
    ·split at h
     ·cases h
     ·cases h;omega
    ·cases h;omega
 rw[if_neg h4]at h
 by_cases h5:w.op=15
 ·rw[if_pos h5]at h
  split at h
  ·cases h
  ·rename_i s1 hs1
   have:=zcE hs1
   split at h
   ·cases hq:zT ty s1 with
    | error e=>rw[hq]at h;cases h
    | ok s2 =>
     rw[hq]at h
     cases h
     have:=zo2 hq
     have:=zmb s2 ty
     omega
   ·cases h;omega
 rw[if_neg h5]at h
 have hl:zoR.stack.length=0:=rfl
 by_cases h6:w.op=14
 ·rw[if_pos h6]at h
  split at h
  ·split at h
   ·cases h
   ·cases h;omega
  ·cases h;omega
 rw[if_neg h6]at h
 by_cases h7:w.op=16
 ·rw[if_pos h7]at h
  split at h
  ·cases h
  ·cases h;omega
 rw[if_neg h7]at h
 by_cases h8:w.op=17
 ·rw[if_pos h8]at h;cases h;omega
 rw[if_neg h8]at h
 exact zs4 h
structure zs6(m:M):Prop where
 funcs:m.funcs.length≤2^20
 params:∀f∈m.funcs,f.params.length≤2^20
 locals:∀f∈m.funcs,f.locals.length≤2^20
 lists:∀f∈m.funcs,f.lists.length≤2^20
 rows:∀f∈m.funcs,∀l∈f.lists,l.length≤2^20
 nums:∀f∈m.funcs,∀l∈f.lists,∀w∈l,w.n≤2^63-1
theorem zbc.made{x:Nat}{σ σ':AS}{cs:List AV}(K:zbc x (σ.newO cs) σ')(hx:x=σ.no)(hn:∀v f,cs[1]?=some v→zcq v≠some f):zd σ σ' where
 no:=yai (by simp) K.no
 nf:=by have:=K.nf;simpa using this
 obj o ho:=by
  rw[K.obj o (by simp;omega) (by omega)]
  simp;omega
 fam f hf:=by
  rw[K.fam f (by simpa using hf) ?_]
  ·rfl
  ·rintro ⟨cs',v,h1,h2,h3⟩
   subst hx
   simp at h1
   subst h1
   exact hn v f h2 h3
def KI(x c:Nat)(deep:Int)(rv:AV)(row:List W)(σ1:AS)(run:List W→St→Res St)(a:Nat→AV)(τ:AS):Prop:=∃(i:Nat) (s:St),i≤row.length∧a 2=.int .i64 deep∧a 6=.ptr x 0∧a 20=rv∧a 21=.int .i64 (row.length:Int)∧a 22=.int .i64 (i:Int)∧LS τ x c s deep∧zbc x σ1 τ∧s.stack.length≤i ∧
 run (row.drop i) s=run row ⟨[],false⟩
theorem zs7{G:Env}(V:zqj G){m:M}(sm:zs6 m){f:F}(hfm:f∈m.funcs)(ha:zs0 f.lists)(ls:List Int):∀k:Nat,zx2 G m f ls (min (k:Int) (f.lists.length:Int)) (zfx m.funcs ls f.type f.lists k)
 | 0=>fun c σ at_ deep R _ h0 h1=>by omega
 | k+1=>by
  have IH:=zs7 V sm hfm ha ls k
  intro c σ at_ deep R C h0 h1 hd0 hd1 h
  refine zvi rfl ?_
  rw[zfx]at h
  obtain⟨j,rfl⟩:∃j:Nat,at_=(j:Int):=⟨at_.toNat,by omega⟩
  have hj:j<f.lists.length:=by omega
  have hjk:j<k+1:=by omega
  rw[Int.toNat_natCast]at h
  have hrow:f.lists.getD j []=f.lists[j]:=by rw[ycg,yau hj];rfl
  rw[hrow]at h
  have hahead:=ha j _ (yau hj)
  have hrl:=sm.rows f hfm f.lists[j] (yaw hj)
  have hnums:=sm.nums f hfm f.lists[j] (yaw hj)
  have C0:=C
  obtain⟨hc,fsv,pv,lv,tv,lsv,hco,hfs,hpv,hlv,htv,hls⟩:=C
  rcases htv with ⟨e,_⟩|⟨b,rows,rfl,hrows⟩
  ·rw[e]at hj;simp at hj
  obtain⟨rv,hrv,hrep⟩:=hrows.get (yau hj)
  generalize f.lists[j]=row at *
  have hlen:=hrep.len
  have hcx:c≠σ.no:=by omega
  simp[zEt,hco,hcx,hrv,hlen,splice]
  refine⟨hrep.one.2.2,?_⟩
  generalize hσ1:σ.newO [ycs c 0,ycv,AV.bool false,ycp yam deep]=σ1
  have hno1:σ1.no=σ.no+1:=by rw[←hσ1];simp
  have ho1:σ1.objs σ.no=some [.ptr c 0,.nilsl,.bool false,.int .i64 deep]:=by rw[←hσ1];simp
  have L1:LS σ1 σ.no c ⟨[],false⟩ deep:=⟨by omega,_,ho1,.inl ⟨rfl,rfl⟩⟩
  have A1:zd σ σ1:=by rw[←hσ1];exact(zd.refl σ).newO
  have C1:=C0.adds A1
  have made:∀{σ'},zbc σ.no σ1 σ'→zd σ σ':=fun K=>by
   rw[←hσ1]at K
   exact K.made rfl fun v f hv hf=>by simp at hv;subst hv;simp[zcq]at hf
  refine zH (KI σ.no c deep rv row σ1 (zdh m.funcs ls f.type deep (zfx m.funcs ls f.type f.lists k))) (MU 22 (row.length+1)) ⟨0,⟨[],false⟩,by omega,by simp,by simp,by simp,by simp,by simp,L1,.refl _ _,by simp,by simp⟩ fun a τ hI=>?_
  obtain⟨i,s,hi,a2,a6,a20,a21,a22,L,K,hsl,hrun⟩:=hI
  have C2:=C1.keep K hcx
  by_cases hlt:i<row.length
  ·obtain⟨b2,hix2⟩:=hrep.at hlt
   have hlt':(i:Int)<(row.length:Int):=by omega
   rw[ycq hlt,zdh]at hrun
   simp[zgm,a6,a20,a21,a22,hlt,hix2,W.av,W.cs,splice]
   have hw3:yb4 .i64 ((i:Int)+1)=((i+1:Nat):Int):=by rw[zc]<;>omega
   have hmem:=yaw hlt
   have A3:zd τ ((τ.newO [ycp yam 0,ycp yam 0,ycp yam 0,ycp yam 0,ycp yam 0,yco []]).setO τ.no row[i].cs):=((zd.refl τ).newO).setO (yah _)
   refine zma (w:=row[i]) V IH (L.adds A3) (C2.adds A3) hcx (by omega) hd0 (by omega) (hnums _ hmem) (fun g hg=>by have:=sm.params g hg;omega) (fun n hn=>?_) ?_
   ·have:=hahead n (ycw.2 ⟨_,hmem,hn⟩)
    exact⟨this.1,by omega,by omega⟩
   ·have KA:=K.trans (A3.keepL L.1)
    cases hq:zeg m.funcs ls f.type deep (zfx m.funcs ls f.type f.lists k) row[i] s with
    | error e =>
     rw[hq]at hrun
     simp only at hrun
     rw[←hrun]at h
     intro σ' K'
     simp
     exact h σ' (made (KA.trans K'))
    | ok s' =>
     rw[hq]at hrun
     simp only at hrun
     have hle:=zs5 hq
     intro σ' K' L'
     simp[a22,hw3]
     refine⟨⟨i+1,s',by omega,by simp[a2],by simp[a6],by simp[a20],by simp[a21],by simp,L',KA.trans K',by omega,hrun⟩,?_⟩
     simp only[MU,a22]
     simp;omega
  ·have he:i=row.length:=by omega
   subst he
   simp[zdh]at hrun
   rw[←hrun]at h
   simp only at h
   have L':=L
   obtain⟨hx,sv,ho,hs⟩:=L'
   unfold zLN at h
   by_cases hdz:deep=0
   ·rw[if_pos hdz]at h
    simp[zgm,zib,a2,a6,a21,a22,hdz]
    refine zdZ (by rw[hdz]at L;exact L) C2 (by omega) ?_
    cases hq:zT f.type s with
    | error e =>
     rw[hq]at h
     intro σ' K'
     simp
     exact h σ' (made (K.trans K'))
    | ok s3 =>
     rw[hq]at h
     intro σ' K' L3
     obtain⟨hx3,sv3,ho3,hs3⟩:=L3
     have hsl3:=hs3.len
     by_cases hz:s3.stack.length=0
     ·simp only[if_pos hz]at h
      have hz':s3.stack=[]:=ybS.1 hz
      simp[a6,ho3,hsl3,hz']
      refine ze (fun _=>?_) (fun q=>by simp at q)
      simp
      exact h σ' (made (K.trans K'))
     ·simp only[if_neg hz]at h
      have hz':¬s3.stack=[]:=fun q=>hz (by rw[q];rfl)
      simp[a6,ho3,hsl3,hz']
      refine ze (fun q=>by simp at q) (fun _=>?_)
      simp
      exact h σ' (made (K.trans K'))
   ·rw[if_neg hdz]at h
    have hsl3:=hs.len
    by_cases hz:s.stack.length=0
    ·simp only[if_pos hz]at h
     have hz':s.stack=[]:=ybS.1 hz
     simp[zgm,zib,a2,a6,a21,a22,hdz,ho,hsl3,hz']
     refine ze (fun _=>?_) (fun q=>by simp at q)
     simp
     exact h τ (made K)
    ·simp only[if_neg hz]at h
     have hz':¬s.stack=[]:=fun q=>hz (by rw[q];rfl)
     simp[zgm,zib,a2,a6,a21,a22,hdz,ho,hsl3,hz']
     refine ze (fun q=>by simp at q) (fun _=>?_)
     simp
     exact h τ (made K)
theorem zo3{G:Env}{σ:AS}{R:Out→AS→Prop}{w:W}(h:∀v σ',zc1 v (zU w)→zd σ σ'→R (.ret v) σ'):zzQ G 159 [w.av] σ R:=by
 refine zvK rfl ?_
 have A:zd σ (σ.newO w.cs):=(zd.refl σ).newO
 simp only[W.cs]at A
 unfold zU at h
 by_cases h1:w.op=11
 ·rw[if_pos (.inl h1)]at h
  simp[zq6,W.av,W.cs,h1]
  exact h _ _ (.inr ⟨_,rfl⟩) (by simpa [h1]using A)
 by_cases h2:w.op=12
 ·rw[if_pos (.inr (.inl h2))]at h
  simp[zq6,W.av,W.cs,h2]
  exact h _ _ (.inr ⟨_,rfl⟩) (by simpa [h2]using A)
 by_cases h3:w.op=13
 ·by_cases ho:w.other<0
  ·rw[if_pos (.inr (.inr ⟨h3,ho⟩))]at h
   simp[zq6,W.av,W.cs,h3,ho]
   exact h _ _ (.inr ⟨_,rfl⟩) (by simpa [h3]using A)
  ·rw[if_neg (by omega),if_pos h3]at h
   simp[zq6,W.av,W.cs,h3,ho]
   exact h _ _ (.inr ⟨_,rfl⟩) (by simpa [h3]using A)
 ·rw[if_neg (by omega),if_neg h3]at h
  simp[zq6,W.av,W.cs,h1,h2,h3]
  exact h _ _ (.inl ⟨rfl,rfl⟩) A
@[simp] theorem zGD(x y:Bool):aeq yb9 4 (.bool x) (.bool y)=some (x==y):=by simp[aeq,zjS,show yb9.underlying 4=some .bool from by kernel_rfl]
@[simp] theorem zC6:za yb9 106=true:=by kernel_rfl
def za6(l:List Bool):List AV:=l.map AV.bool
def CI(σ:AS)(o len:Nat)(named:List Bool)(a:Nat→AV)(τ:AS):Prop:=∃i:Nat,i≤len∧a 0=.slm o 0 1 len∧a 1=.bool false∧a 7=.int .i64 (len:Int)∧a 8=.int .i64 (i:Int)∧τ=σ∧∀j,j<i→named[j]?=some true
theorem zka{G:Env}{σ:AS}{R:Out→AS→Prop}{o len:Nat}{named:List Bool}(ho:σ.objs o=some (za6 named))(hl:len≤named.length)(hb:len≤2^40)(h:R (.ret (.bool (!(named.take len).all (·==true)))) σ):zzQ G 160 [.slm o 0 1 len,.bool false] σ R:=by
 refine zvL rfl ?_
 simp[zEN]
 refine zv1 rfl ?_
 simp[zEV]
 refine zH (CI σ o len named) (MU 8 (len+1)) ⟨0,by omega,by simp,by simp,by simp,by simp,rfl,fun j hj=>by omega⟩ fun a τ hI=>?_
 obtain⟨i,hi,a0,a1,a7,a8,rfl,hall⟩:=hI
 have hw3:yb4 .i64 ((i:Int)+1)=((i+1:Nat):Int):=by rw[zc]<;>omega
 by_cases hlt:i<len
 ·have hlt':(i:Int)<(len:Int):=by omega
  have hin:i<named.length:=by omega
  have hget:(za6 named)[i]?=some (.bool named[i]):=by simp[za6,hin]
  have hge:∀q:i<(za6 named).length,(za6 named)[i]'q=.bool named[i]:=fun q=>by rw[yau q]at hget;exact yaR.inj hget
  have hlb:i<(za6 named).length:=by simp[za6];exact hin
  cases hv:named[i]with
  | true =>
   rw[hv]at hget hge
   simp[zie,a0,a1,a7,a8,hlt,ho,hlb,hge,hw3]
   refine⟨⟨i+1,by omega,by simp[a0],by simp[a1],by simp[a7],by simp,rfl,fun j hj=>?_⟩,?_⟩
   ·by_cases e:j=i
    ·subst e;rw[yau hin,hv]
    ·exact hall j (by omega)
   ·simp only[MU,a8];simp;omega
  | false =>
   rw[hv]at hget hge
   have e:(!(named.take len).all (·==true))=true:=by
    rw[Bool.not_eq_true',ycx]
    exact⟨false,ycy.2 ⟨i,by rw[ybf];omega,by rw[yaE];exact hv⟩,by simp⟩
   rw[e]at h
   simp[zie,a0,a1,a7,a8,hlt,ho,hlb,hge]
   exact h
 ·have he:i=len:=by omega
  subst he
  have e:(!(named.take i).all (·==true))=false:=by
   rw[Bool.not_eq_false',yaM]
   intro b hb
   obtain⟨j,hj,rfl⟩:=ycy.1 hb
   rw[ybf]at hj
   have:=hall j (by omega)
   rw[yau (by omega)]at this
   rw[yaE]
   simp[yaR.inj this]
  rw[e]at h
  simp[zie,zqc,a7,a8]
  exact h
def FI(σ:AS)(v:AV)(ls:List Int)(a:Nat→AV)(τ:AS):Prop:=∃i:Nat,i≤ls.length∧a 0=v∧a 1=.fn (.func 106) [] []∧a 7=.int .i64 (ls.length:Int)∧a 8=.int .i64 (i:Int)∧τ=σ∧∀j,j<i→∃t,ls[j]?=some t∧zaN t=true
theorem zgx{G:Env}{σ:AS}{R:Out→AS→Prop}{v:AV}{ls:List Int}(hv:zc1 v ls)(hb:ls.length≤2^40)(h:R (.ret (.bool (!ls.all zaN))) σ):zzQ G 95 [v,.fn (.func 106) [] []] σ R:=by
 refine zsQ rfl ?_
 simp[zLe]
 refine zp6 rfl ?_
 simp[zBc,hv.len]
 refine zH (FI σ v ls) (MU 8 (ls.length+1)) ⟨0,by omega,by simp,by simp,by simp,by simp,rfl,fun j hj=>by omega⟩ fun a τ hI=>?_
 obtain⟨i,hi,a0,a1,a7,a8,rfl,hall⟩:=hI
 have hw3:yb4 .i64 ((i:Int)+1)=((i+1:Nat):Int):=by rw[zc]<;>omega
 by_cases hlt:i<ls.length
 ·rcases hv with ⟨rfl,_⟩|⟨b,rfl⟩
  ·simp at hlt
  simp[zgp,a0,a1,a7,a8,hlt]
  refine zve rfl ?_
  simp[zEs]
  refine zb7 ?_
  cases hn:zaN ls[i]with
  | true =>
   simp[a8,hw3]
   refine⟨⟨i+1,by omega,by simp[a0],by simp[a1],by simp[a7],by simp,rfl,fun j hj=>?_⟩,?_⟩
   ·by_cases e:j=i
    ·subst e;exact⟨_,yau hlt,hn⟩
    ·exact hall j (by omega)
   ·simp only[MU,a8];simp;omega
  | false =>
   have e:(!ls.all zaN)=true:=by
    rw[Bool.not_eq_true',ycx]
    exact⟨_,yaw hlt,by simp[hn]⟩
   rw[e]at h
   simp[a8]
   exact h
 ·have he:i=ls.length:=by omega
  subst he
  have e:(!ls.all zaN)=false:=by
   rw[Bool.not_eq_false',yaM]
   intro t ht
   obtain⟨j,hj,rfl⟩:=ycy.1 ht
   obtain⟨t,h1,h2⟩:=hall j hj
   rw[yau hj]at h1
   cases h1
   exact h2
  rw[e]at h
  simp[zgp,zlY,a7,a8]
  exact h
theorem znp{G:Env}{σ:AS}{R:Out→AS→Prop}{pv lv:AV}{p l:List Int}(hp:zc1 pv p)(hl:zc1 lv l)(hb:p.length+l.length≤2^30)(h:∀v σ',zc1 v (p++l)→zd σ σ'→R (.ret v) σ'):zzQ G 105 [.sl (.stat true) 1 [pv,lv]] σ R:=by
 refine zwp (zvd rfl ?_)
 have p1:=hp.one
 have l1:=hl.one
 have hpl:=hp.len
 have hll:=hl.len
 have w1:yb4 .i64 (p.length:Int)=(p.length:Int):=by rw[zc]<;>omega
 have w2:yb4 .i64 ((p.length:Int)+(l.length:Int))=(p.length:Int)+(l.length:Int):=by rw[zc]<;>omega
 have w3:yb4 .i64 1=1:=rfl
 have w4:yb4 .i64 2=2:=rfl
 have n1:¬(p.length:Int)<0:=by omega
 have n2:¬(p.length:Int)+(l.length:Int)<0:=by omega
 simp[zEr]
 refine zeM 3 ?_
 simp[zpW,p1,l1,hpl,hll,w1,w2,w3,w4,n1,n2,zia,zpX]
 have hgrow:∀{R':Out→AS→Prop},(p.length+l.length=0→R' (.ret .nilsl) σ)→(0<p.length+l.length→R' (.ret (.sl (.fam σ.nf false) 1 [])) σ.newF)→zzQ G 158 [.nilsl,.int .i64 ((p.length:Int)+(l.length:Int))] σ R':=by
  intro R' g0 g1
  refine zvJ rfl ?_
  have w5:yb4 .i64 0=0:=rfl
  by_cases hz:p.length+l.length=0
  ·have hz':¬(0:Int)<(p.length:Int)+(l.length:Int):=by omega
   simp[zBe,n2,w5,w2,hz']
   exact g0 hz
  ·have hz':(0:Int)<(p.length:Int)+(l.length:Int):=by omega
   obtain⟨n,hn⟩:∃n,((p.length:Int)+(l.length:Int)).toNat=n+1:=⟨((p.length:Int)+(l.length:Int)).toNat-1,by omega⟩
   simp[zBe,n2,w5,w2,hz',hn,ycz,zc3,zcb]
   exact⟨by omega,by omega,by omega,by omega,g1 (by omega)⟩
 refine hgrow (fun hz=>?_) (fun hz=>?_)
 ·have e1:p=[]:=ybS.1 (by omega)
  have e2:l=[]:=ybS.1 (by omega)
  subst e1 e2
  have:=h .nilsl σ (.inl ⟨rfl,rfl⟩) (.refl _)
  have sta:∀K:AV→AS→Prop,∀v,zc1 v []→zdP yb9 44 44 .nilsl v σ K=K .nilsl σ:=by
   intro K v hv
   rcases hv with ⟨_,rfl⟩|⟨b,rfl⟩<;>simp
  simp
  refine zeM 3 ?_
  rcases hp with ⟨_,rfl⟩|⟨b,rfl⟩<;>rcases hl with ⟨_,rfl⟩|⟨b',rfl⟩<;>simp[zlM,zia,w3,w4]<;>exact .inl this
 ·simp
  refine zeM 3 ?_
  have fin:∀σ',zd σ σ'→∀g,σ.nf≤g→σ'.F g=.alive→zwo R (.ret (.sl (.fam g false) 1 ((p++l).map (.int .i64)))) σ':=by
   intro σ' A' g hg ha
   refine .froze g (fun _=>false) ha ?_
   have:=h (.sl (.stat false) 1 ((p++l).map (.int .i64))) (σ'.frz g fun _=>false) (.inr ⟨_,rfl⟩) (A'.frz hg fun _ _=>rfl)
   simpa [Function.comp_def]using this
  have A3:zd σ ((σ.newF.setF σ.nf FSt.dead).newF.setF (σ.nf+1) FSt.dead).newF:=((((zd.refl σ).newF.setF (yah _)).newF).setF (by omega)).newF
  have key:=fin _ A3 (σ.nf+1+1) (by omega) (by simp)
  rcases hp with ⟨rfl,rfl⟩|⟨b,rfl⟩<;>rcases hl with ⟨rfl,rfl⟩|⟨b',rfl⟩<;>simp[zlM,zia,w3,w4]
  ·simp at hz
  ·exact⟨by simp at hb;omega,by simpa using key⟩
  ·exact⟨by simp at hb;omega,by simpa using key⟩
  ·exact⟨by omega,by omega,by simpa using key⟩
structure NS(σ1:AS)(o:Nat)(named:List Bool)(L:Nat)(τ:AS):Prop where
 obj:τ.objs o=some (za6 named)
 len:named.length=L
 no:σ1.no≤τ.no
 nf:σ1.nf≤τ.nf
 oth:∀p,p<σ1.no→p≠o→τ.objs p=σ1.objs p
 fam:∀f,f<σ1.nf→τ.F f=σ1.F f
theorem NS.adds{σ1 o named L τ τ'}(h:NS σ1 o named L τ)(ho:o<σ1.no)(A:zd τ τ'):NS σ1 o named L τ' where
 obj:=(A.obj o (yag ho h.no)).trans h.obj
 len:=h.len
 no:=yai h.no A.no
 nf:=yai h.nf A.nf
 oth p hp hne:=(A.obj p (yag hp h.no)).trans (h.oth p hp hne)
 fam f hf:=(A.fam f (yag hf h.nf)).trans (h.fam f hf)
theorem NS.set{σ1 o named named' L τ}(h:NS σ1 o named L τ)(hl:named'.length=L):NS σ1 o named' L (τ.setO o (za6 named')) where
 obj:=by simp
 len:=hl
 no:=h.no
 nf:=h.nf
 oth p hp hne:=by simp[hne];exact h.oth p hp hne
 fam f hf:=h.fam f hf
def zgy{α β:Type}(r:Res α)(k:α→Res β):Res β:=match r with
 | .error e=>.error e
 | .ok a=>k a
theorem zo4(a n:Int)(ns:List Int)(named:List Bool):zbh a (n::ns) named=zgy (zfy a named n) fun m=>zbh a ns m:=by
 rw[zbh];unfold zgy;cases zfy a named n<;>rfl
theorem zs8(a:Int)(w:W)(ws:List W)(named:List Bool):zjT a (w::ws) named=zgy (zbh a (zU w) named) fun m=>zjT a ws m:=by
 rw[zjT];unfold zgy;cases zbh a (zU w) named<;>rfl
theorem zri(k:Nat)(l:List W)(ls:To)(named:List Bool):zcp k (l::ls) named=zgy (zjT (k:Int) l named) fun m=>zcp (k+1) ls m:=by
 rw[zcp];unfold zgy;cases zjT (k:Int) l named<;>rfl
def NI3(σ1:AS)(o L:Nat)(tv:AV)(ls:To)(goal:Res (List Bool))(a:Nat→AV)(τ:AS):Prop:=∃(i:Nat) (named:List Bool),i≤ls.length∧a 2=.slm o 0 1 L∧a 28=tv∧a 29=.int .i64 (ls.length:Int)∧a 30=.int .i64 (i:Int)∧NS σ1 o named L τ∧zcp i (ls.drop i) named=goal
def NI2(σ1:AS)(o L:Nat)(tv:AV)(ls:To)(k:Nat)(rv:AV)(row:List W)(goal:Res (List Bool))(a:Nat→AV)(τ:AS):Prop:=∃(j:Nat) (named:List Bool),j≤row.length∧a 2=.slm o 0 1 L∧a 28=tv∧a 29=.int .i64 (ls.length:Int)∧a 30=.int .i64 (k:Int)∧a 3=.int .i64 (k:Int)∧a 35=rv∧a 36=.int .i64 (row.length:Int)∧a 37=.int .i64 (j:Int)∧NS σ1 o named L τ ∧
 zgy (zjT (k:Int) (row.drop j) named) (fun n=>zcp (k+1) (ls.drop (k+1)) n)=goal
def NI1(σ1:AS)(o L:Nat)(tv:AV)(ls:To)(k:Nat)(rv:AV)(row:List W)(j:Nat)(nv:AV)(ns:List Int)(goal:Res (List Bool))(a:Nat→AV)(τ:AS):Prop:=∃(q:Nat) (named:List Bool),q≤ns.length∧a 2=.slm o 0 1 L∧a 28=tv∧a 29=.int .i64 (ls.length:Int)∧a 30=.int .i64 (k:Int)∧a 3=.int .i64 (k:Int)∧a 35=rv∧a 36=.int .i64 (row.length:Int)∧a 37=.int .i64 (j:Int) ∧
 a 42=nv∧a 43=.int .i64 (ns.length:Int)∧a 44=.int .i64 (q:Int)∧NS σ1 o named L τ ∧
 zgy (zgy (zbh (k:Int) (ns.drop q) named) fun n=>zjT (k:Int) (row.drop (j+1)) n) (fun n=>zcp (k+1) (ls.drop (k+1)) n)=goal
theorem zo5{named:List Bool}{n:Nat}(h:n<named.length)(b:Bool):splice (za6 named) n [.bool b]=za6 (named.set n b):=by
 unfold splice za6
 rw[List.set_eq_take_append_cons_drop,if_pos h]
 simp
theorem znq{G:Env}(V:zqj G){σ:AS}{R:Out→AS→Prop}{c:Nat}{m:M}{f:F}{ls0:List Int}(C:zql σ c m f ls0)(hb:f.lists.length≤2^20)(hrows:∀l∈f.lists,l.length≤2^20)(h:zJ6 R σ (zeh f.lists)):zzQ G 108 [.ptr c 0] σ R:=by
 refine zvh rfl ?_
 obtain⟨hc,fsv,pv,lv,tv,lsv,hco,hfs,hpv,hlv,htv,hls⟩:=C
 have hlen:=htv.len
 unfold zeh at h
 by_cases hz:f.lists.length=0
 ·rw[if_pos hz]at h
  have hz':f.lists=[]:=ybS.1 hz
  simp[zA9,hco,hlen,hz']
  refine ze (fun q=>by simp at q) (fun _=>?_)
  simp
  exact h σ (.refl _)
 ·rw[if_neg hz]at h
  have hz':¬f.lists=[]:=fun q=>hz (by rw[q];rfl)
  have hpos:0<f.lists.length:=by omega
  simp[zA9,hco,hlen,hz',hpos]
  refine ze (fun _=>?_) (fun q=>by simp at q)
  simp[hco,hlen]
  have hto:((f.lists.length:Int)).toNat=f.lists.length:=by omega
  generalize hgoal:zcp 0 f.lists (yaj f.lists.length false)=goal at h
  refine⟨1,1,.bool false,by simp,by simp,by simp,rfl,rfl,rfl,by omega,by omega,by omega,?_⟩
  have hflat:zt (yaj f.lists.length (AV.bool false))=za6 (yaj f.lists.length false):=by
   unfold zt za6
   induction f.lists.length with
   | zero=>rfl
   | succ n ih=>rw[ycz,ycz,yaa,yaL,ih];rfl
  have hcn:c≠σ.no:=by omega
  simp[hflat,hcn,hco,hlen]
  generalize hσ1:σ.newO (za6 (yaj f.lists.length false))=σ1
  have hno1:σ1.no=σ.no+1:=by rw[←hσ1];simp
  have A1:zd σ σ1:=by rw[←hσ1];exact(zd.refl σ).newO
  have N1:NS σ1 σ.no (yaj f.lists.length false) f.lists.length σ1:=⟨by rw[←hσ1];simp,by simp,yah _,yah _,fun _ _ _=>rfl,fun _ _=>rfl⟩
  have toA:∀{named τ},NS σ1 σ.no named f.lists.length τ→zd σ τ:=fun N=>⟨by have:=N.no;omega,yai A1.nf N.nf,fun o ho=>(N.oth o (by omega) (by omega)).trans (A1.obj o ho),fun g hg=>(N.fam g (yag hg A1.nf)).trans (A1.fam g hg)⟩
  refine zH (NI3 σ1 σ.no f.lists.length tv f.lists goal) (MU 30 (f.lists.length+1)) ⟨0,_,by omega,by simp,by simp,by simp,by simp,N1,by simpa using hgoal⟩ fun a τ hI=>?_
  obtain⟨i,named0,hi,a2,a28,a29,a30,N0,hg0⟩:=hI
  by_cases hlt:i<f.lists.length
  ·obtain⟨b,rv,hrep,hix⟩:=htv.at hlt
   have hrl:=hrows _ (yaw hlt)
   rw[ycq hlt,zri]at hg0
   generalize f.lists[i]=row at *
   have hrlen:=hrep.len
   have hr1:=hrep.one
   have hlt':(i:Int)<(f.lists.length:Int):=by omega
   simp[zlO,a2,a28,a29,a30,hlt,hix,hr1,hrlen]
   refine zH (NI2 σ1 σ.no f.lists.length tv f.lists i rv row goal) (MU 37 (row.length+1)) ⟨0,named0,by omega,by simp[a2],by simp[a28],by simp[a29],by simp[a30],by simp,by simp,by simp,by simp,N0,by simpa using hg0⟩ fun b ρ hI=>?_
   obtain⟨j,named1,hj,b2,b28,b29,b30,b3,b35,b36,b37,N2,hg1⟩:=hI
   by_cases hjl:j<row.length
   ·obtain⟨q2,hix2⟩:=hrep.at hjl
    rw[ycq hjl,zs8]at hg1
    simp[zlN,b35,b36,b37,hjl,hix2,W.av,W.cs,splice]
    rw[show ycu [ycp yam row[j].op,ycp yam row[j].ty,ycp yam row[j].n,ycp yam row[j].body,ycp yam row[j].other,yco row[j].name]=row[j].av from rfl]
    refine zo3 fun nv σ3 hnv A3=>?_
    have A3':zd ρ σ3:=(((zd.refl ρ).newO).setO (yah _)).trans A3
    have N3:=N2.adds (by omega) A3'
    have hnl:=hnv.len
    simp[hnl]
    refine zH (NI1 σ1 σ.no f.lists.length tv f.lists i rv row j nv (zU row[j]) goal) (MU 44 ((zU row[j]).length+1)) ⟨0,named1,by omega,by simp[b2],by simp[b28],by simp[b29],by simp[b30],by simp[b3],by simp[b35],by simp[b36],by simp[b37],by simp,by simp,by simp,N3,by simpa using hg1⟩ fun d π hI=>?_
    obtain⟨q,named,hq,d2,d28,d29,d30,d3,d35,d36,d37,d42,d43,d44,N,hg⟩:=hI
    have ho:=N.obj
    have hnlen:=N.len
    have hbl:(za6 named).length=f.lists.length:=by simp[za6,hnlen]
    by_cases hql:q<(zU row[j]).length
    ·obtain⟨q3,hix3⟩:=hnv.at hql
     rw[ycq hql,zo4]at hg
     have hw3:yb4 .i64 ((q:Int)+1)=((q+1:Nat):Int):=by
      have:(zU row[j]).length≤2:=by unfold zU;split<;>(try split)<;>simp
      rw[zc]<;>omega
     generalize hn:(zU row[j])[q]=n at *
     by_cases hok:0≤n∧n<(i:Int)
     ·have hnl2:n.toNat<f.lists.length:=by omega
      have hnn:n.toNat<named.length:=by omega
      have hget:(za6 named)[n.toNat]?=some (.bool named[n.toNat]):=by simp[za6,hnn]
      have hge:∀p:n.toNat<(za6 named).length,(za6 named)[n.toNat]'p=.bool named[n.toNat]:=fun p=>by rw[yau p]at hget;exact yaR.inj hget
      have hlb:n.toNat<(za6 named).length:=by omega
      have hgd:named.getD n.toNat true=named[n.toNat]:=by rw[ycg,yau hnn];rfl
      have hnL:n<(f.lists.length:Int):=by omega
      cases hv:named[n.toNat]with
      | true =>
       have hE:zfy (i:Int) named n=.error 11:=by unfold zfy;rw[if_neg (by rw[hgd,hv];simp)]
       rw[hE]at hg
       simp[zgy]at hg
       rw[←hg]at h
       rw[hv]at hget hge
       simp[zfa,d2,d3,d42,d43,d44,hql,hix3,hok.1,hok.2,ho,hlb,hge,hnL]
       refine ze (fun q=>by simp at q) (fun _=>?_)
       simp
       exact h _ (toA N)
      | false =>
       have hE:zfy (i:Int) named n=.ok (named.set n.toNat true):=by unfold zfy;rw[if_pos ⟨hok.1,hok.2,by rw[hgd,hv]⟩]
       rw[hE]at hg
       simp only[zgy]at hg
       rw[hv]at hget hge
       simp[zfa,d2,d3,d42,d43,d44,hql,hix3,hok.1,hok.2,ho,hlb,hge,hnL]
       refine ze (fun _=>?_) (fun q=>by simp at q)
       simp[d2,d44,hok.1,hnL,ho,hlb,hw3]
       rw[zo5 hnn]
       refine⟨hlb,⟨q+1,named.set n.toNat true,by omega,by simp[d2],by simp[d28],by simp[d29],by simp[d30],by simp[d3],by simp[d35],by simp[d36],by simp[d37],by simp[d42],by simp[d43],by simp,N.set (by simp[hnlen]),hg⟩,?_⟩
       simp only[MU,d44];simp;omega
     ·have hE:zfy (i:Int) named n=.error 11:=by unfold zfy;rw[if_neg (fun q=>hok ⟨q.1,q.2.1⟩)]
      rw[hE]at hg
      simp[zgy]at hg
      rw[←hg]at h
      by_cases h0:0≤n
      ·have h1:¬n<(i:Int):=fun q=>hok ⟨h0,q⟩
       simp[zfa,d2,d3,d42,d43,d44,hql,hix3,h0,h1]
       refine ze (fun q=>by simp at q) (fun _=>?_)
       simp
       exact h _ (toA N)
      ·simp[zfa,d2,d3,d42,d43,d44,hql,hix3,h0]
       refine ze (fun q=>by simp at q) (fun _=>?_)
       simp
       exact h _ (toA N)
    ·have he:q=(zU row[j]).length:=by omega
     subst he
     have hnil:(zU row[j]).drop (zU row[j]).length=[]:=by simp
     rw[hnil]at hg
     simp only[zbh,zgy]at hg
     have hw3:yb4 .i64 ((j:Int)+1)=((j+1:Nat):Int):=by rw[zc]<;>omega
     simp[zfa,zpY,d37,d43,d44,hw3]
     refine⟨⟨j+1,named,by omega,by simp[d2],by simp[d28],by simp[d29],by simp[d30],by simp[d3],by simp[d35],by simp[d36],by simp,N,hg⟩,?_⟩
     simp only[MU,b37];simp;omega
   ·have he:j=row.length:=by omega
    subst he
    have hnil:row.drop row.length=[]:=by simp
    rw[hnil]at hg1
    simp only[zjT,zgy]at hg1
    have hw3:yb4 .i64 ((i:Int)+1)=((i+1:Nat):Int):=by rw[zc]<;>omega
    simp[zlN,zpZ,b30,b36,b37,hw3]
    refine⟨⟨i+1,named1,by omega,by simp[b2],by simp[b28],by simp[b29],by simp,N2,hg1⟩,?_⟩
    simp only[MU,a30];simp;omega
  ·have he:i=f.lists.length:=by omega
   subst he
   have hnil:f.lists.drop f.lists.length=[]:=by simp
   rw[hnil]at hg0
   simp only[zcp]at hg0
   rw[←hg0]at h
   simp only at h
   have hw3:yb4 .i64 ((f.lists.length:Int)-1)=((f.lists.length-1:Nat):Int):=by rw[zc]<;>omega
   simp[zlO,zp0,a2,a29,a30,hw3]
   refine zka N0.obj (by rw[N0.len];omega) (by omega) ?_
   cases hq:(named0.take (f.lists.length-1)).all (·==true)with
   | true =>
    rw[if_pos hq]at h
    simp
    refine ze (fun _=>?_) (fun q=>by simp at q)
    simp
    exact h _ (toA N0)
   | false =>
    rw[if_neg (by rw[hq];simp)]at h
    simp
    refine ze (fun q=>by simp at q) (fun _=>?_)
    simp
    exact h _ (toA N0)
theorem zh3{G:Env}(V:zqj G){m:M}(sm:zs6 m){f:F}(hfm:f∈m.funcs){σ0 σ:AS}{R:Out→AS→Prop}{c:Nat}(A0:zd σ0 σ)(hc0:σ0.no≤c)(C:zql σ c m f [])(h:zJ6 R σ0 (zcO m.funcs f)):zzQ G 54 [.ptr c 0] σ R:=by
 refine zAH rfl ?_
 have C0:=C
 obtain⟨hc,fsv,pv,lv,tv,lsv,hco,hfs,hpv,hlv,htv,hls⟩:=C
 have p1:=hpv.one
 have l1:=hlv.one
 have hpb:=sm.params f hfm
 have hlb:=sm.locals f hfm
 simp[zMP,hco,p1,l1]
 refine znp hpv hlv (by omega) fun v σ1 hv A1=>?_
 have v1:=hv.one
 have hco1:=(A1.obj c hc).trans hco
 simp[hco1,v1,splice]
 generalize hσ2:σ1.setO c [fsv,ycp yam m.memory,ycp yam m.main,yco f.name,pv,lv,ycp yam f.type,tv,v]=σ2
 have hc1:c<σ1.no:=yag hc A1.no
 have hco2:σ2.objs c=some [fsv,.int .i64 m.memory,.int .i64 m.main,.str f.name,pv,lv,.int .i64 f.type,tv,v]:=by rw[←hσ2];simp
 have A2:zd σ0 σ2:=by rw[←hσ2];exact(A0.trans A1).setO hc0
 have C2:zql σ2 c m f (f.params++f.locals):=⟨by rw[←hσ2];simpa using hc1,_,_,_,_,_,hco2,hfs,hpv,hlv,htv,hv⟩
 unfold zcO at h
 have hll:=sm.lists f hfm
 refine zgx hv (by simp;omega) ?_
 have fail:((f.params++f.locals).all zaN&&decide (0≤f.type)&&decide (f.type≤2))=false→∀σ',zd σ0 σ'→R (.panic (zj6 6)) σ':=fun q=>by
  rw[if_pos q]at h;exact h
 cases hn:(f.params++f.locals).all zaN with
 | false =>
  simp
  refine ze (fun q=>by simp at q) (fun _=>?_)
  simp
  exact fail (by rw[hn];rfl) _ A2
 | true =>
 by_cases k0:0≤f.type
 ·by_cases k2:f.type≤2
  ·rw[if_neg (by rw[hn];simp[k0,k2])]at h
   simp[hco2,k0,k2]
   refine ze (fun _=>?_) (fun q=>by simp at q)
   simp
   refine znq V C2 hll (fun l hl=>sm.rows f hfm l hl) ?_
   cases hq:zeh f.lists with
   | error e =>
    rw[hq]at h
    intro σ3 A3
    simp
    exact h σ3 (A2.trans A3)
   | ok u =>
    rw[hq]at h
    simp only at h
    intro σ3 A3
    have C3:=C2.adds A3
    have C3':=C3
    obtain⟨hc3,fsv3,pv3,lv3,tv3,lsv3,hco3,_,_,_,htv3,_⟩:=C3'
    obtain⟨hpos,hah,_⟩:=znn hq
    have hlen3:=htv3.len
    have hw3:yb4 .i64 ((f.lists.length:Int)-1)=(f.lists.length:Int)-1:=by rw[zc]<;>omega
    simp[hco3,hlen3,hw3]
    refine zs7 V sm hfm hah (f.params++f.locals) f.lists.length c σ3 ((f.lists.length:Int)-1) 0 _ C3 (by omega) (by omega) (by omega) (by omega) ?_
    revert h
    cases zfx m.funcs (f.params++f.locals) f.type f.lists f.lists.length ((f.lists.length:Int)-1) 0 with
    | ok u=>intro h σ4 A4;simp;exact h σ4 ((A2.trans A3).trans A4)
    | error e=>intro h σ4 A4;simp;exact h σ4 ((A2.trans A3).trans A4)
  ·simp[hco2,k0,k2]
   refine ze (fun q=>by simp at q) (fun _=>?_)
   simp
   exact fail (by simp[k2]) _ A2
 ·simp[hco2,k0]
  refine ze (fun q=>by simp at q) (fun _=>?_)
  simp
  exact fail (by simp[k0]) _ A2
@[simp] theorem zJ7(t:Nat)(v:AV):aeq yb9 20 (.iface t v) .nilif=some false:=by simp[aeq,zjS,show yb9.underlying 20=some (.interface #[]) from by kernel_rfl]
@[simp] theorem zGE(t:Nat)(v:AV)(K:AV→Prop):zck yb9 .neq 20 (.iface t v) .nilif K=K (.bool true):=by simp[zck]
@[simp] theorem zNN:zaB yb9 20=some true:=by kernel_rfl
@[simp] theorem zNO(H:Option AV→(Nat→AV)→AS→Prop)(a:Nat→AV)(σ:AS):aq H .ret a σ=H none a σ:=Eq.trans rfl rfl
@[simp] theorem zJ8(H:Option AV→(Nat→AV)→AS→Prop)(v:AV)(a:Nat→AV)(σ:AS):aq H (.panic v) a σ=H (some v) a σ:=Eq.trans rfl rfl
def MI(σ1:AS)(mb eb:Nat)(fsv:AV)(m:M)(goal:Res Unit)(a:Nat→AV)(τ:AS):Prop:=∃i:Nat,i≤m.funcs.length∧a 1=.ptr mb 0∧a 2=.ptr eb 0∧a 16=fsv∧a 17=.int .i64 (m.funcs.length:Int)∧a 18=.int .i64 (i:Int)∧zd σ1 τ∧za3 m.funcs (m.funcs.drop i)=goal
theorem zo6{G:Env}(V:zqj G){m:M}(sm:zs6 m){σ:AS}{R:Out→AS→Prop}{mv:AV}(hm:MV mv m)(h:∀σ',zd σ σ'→R (.ret (.int .i64 (zq7 (zfG m)))) σ'):zzQ G 18 [mv] σ R:=by
 refine zdf (px:=zxY) (pz:=zpR) (k:=52) (py:=zne) (n:=61) (nk:=8) (t:=5) (d0:=2) (d1:=1) (res:=[.cell 2 33]) zi Tryz.func18 rfl rfl rfl rfl (by kernel_rfl) (by kernel_rfl) (by simp) rfl rfl rfl rfl rfl rfl (by decide) Tryz.func52 rfl (by kernel_rfl) rfl rfl rfl rfl rfl rfl rfl rfl rfl (by kernel_rfl) (by decide) (by decide) (by decide) ?_
 obtain⟨fsv,rfl,hfs⟩:=hm
 have f1:=hfs.one
 have hfl:=hfs.len
 simp[zxY]
 have ecap:ycA (ev G (upd (upd (zbG [ycu [fsv,ycp yam m.memory,ycp yam m.main]]) 1 (ycs σ.no 0)) 2 (ycs (σ.no+1) 0))) #[Operand.tmp 2].toList=[.ptr (σ.no+1) 0]:=rfl
 rw[ecap]
 generalize hfr:upd (upd (upd (zbG [ycu [fsv,ycp yam m.memory,ycp yam m.main]]) 1 (ycs σ.no 0)) 2 (ycs (σ.no+1) 0)) 5 (AV.fn (Fn.func 52) [] [ycs (σ.no+1) 0])=fr
 have fr1:fr 1=.ptr σ.no 0:=by rw[←hfr];simp
 have fr2:fr 2=.ptr (σ.no+1) 0:=by rw[←hfr];simp
 have hno1:((σ.newO [fsv,ycp yam m.memory,ycp yam m.main]).newO [ycp yam 0]).no=σ.no+2:=by simp
 have A1:zd σ ((σ.newO [fsv,ycp yam m.memory,ycp yam m.main]).newO [ycp yam 0]):=(zd.refl σ).newO.newO
 have hm1:((σ.newO [fsv,ycp yam m.memory,ycp yam m.main]).newO [ycp yam 0]).objs σ.no=some [fsv,.int .i64 m.memory,.int .i64 m.main]:=by simp
 have he1:((σ.newO [fsv,ycp yam m.memory,ycp yam m.main]).newO [ycp yam 0]).objs (σ.no+1)=some [.int .i64 0]:=by simp
 generalize (σ.newO [fsv,ycp yam m.memory,ycp yam m.main]).newO [ycp yam 0]=σ1 at *
 -- what is recovered
 have hand:∀(e:Int) (a:Nat→AV) (τ:AS),a 2=.ptr (σ.no+1) 0→zd σ1 τ→(∀σ',zd σ σ'→R (.ret (.int .i64 e)) σ')→zaZ yb9 G 8 zne 2 1 [.ptr (σ.no+1) 0] [.cell 2 33] R (some (zj6 e)) a τ:=by
  intro e a τ a2 A hh
  have he:=(A.obj (σ.no+1) (by omega)).trans he1
  simp[zaZ,zne,zj6,he,splice,a2]
  exact hh _ ((A1.trans A).setO (by omega))
 have done:∀(a:Nat→AV) (τ:AS),a 2=.ptr (σ.no+1) 0→zd σ1 τ→(∀σ',zd σ σ'→R (.ret (.int .i64 0)) σ')→zaZ yb9 G 8 zne 2 1 [.ptr (σ.no+1) 0] [.cell 2 33] R none a (τ.setO (σ.no+1) [.int .i64 0]):=by
  intro a τ a2 A hh
  simp[zaZ,zne,splice,a2]
  exact hh _ ((A1.trans A).setO (by omega))
 unfold zfG at h
 by_cases k0:0≤m.memory
 ·by_cases k1:m.memory≤4096
  ·rw[if_neg (by simp[k0,k1])]at h
   simp[zpR,fr1,hm1,k0,k1]
   refine ze (fun _=>?_) (fun q=>by simp at q)
   simp[fr1,hm1,f1,hfl]
   generalize hgoal:za3 m.funcs m.funcs=goal at h
   refine zH (MI σ1 σ.no (σ.no+1) fsv m goal) (MU 18 (m.funcs.length+1)) ⟨0,by omega,by simp[fr1],by simp[fr2],by simp,by simp,by simp,.refl _,by simpa using hgoal⟩ fun a τ hI=>?_
   obtain⟨i,hi,a1,a2,a16,a17,a18,A,hg⟩:=hI
   have hm2:=(A.obj σ.no (by omega)).trans hm1
   have he2:=(A.obj (σ.no+1) (by omega)).trans he1
   by_cases hlt:i<m.funcs.length
   ·obtain⟨b,fv,hfv,hix⟩:=hfs.at hlt
    have hmem:=yaw hlt
    rw[ycq hlt,za3]at hg
    generalize m.funcs[i]=f at *
    obtain⟨pv,lv,tv,rfl,hp,hl,ht⟩:=hfv
    have p1:=hp.one
    have l1:=hl.one
    have t1:=ht.one
    have hmn:σ.no≠τ.no:=by have:=A.no;omega
    simp[zcN,a1,a16,a17,a18,hlt,hix,p1,l1,t1,f1,splice,hm2,hmn]
    have A3:zd τ (((τ.newO [yco [],ycv,ycv,ycp yam 0,ycv]).setO τ.no [yco f.name,pv,lv,ycp yam f.type,tv]).newO [fsv,ycp yam m.memory,ycp yam m.main,yco f.name,pv,lv,ycp yam f.type,tv,ycv]):=(((zd.refl τ).newO).setO (yah _)).newO
    refine zh3 V sm hmem A3 (by omega) ⟨by simp,_,_,_,_,_,by simp,hfs,hp,hl,ht,.inl ⟨rfl,rfl⟩⟩ ?_
    have hw3:yb4 .i64 ((i:Int)+1)=((i+1:Nat):Int):=by have:=sm.funcs;rw[zc]<;>omega
    cases hq:zcO m.funcs f with
    | error e =>
     rw[hq]at hg
     simp only at hg
     rw[←hg]at h
     intro σ4 A4
     simp
     exact hand e _ σ4 (by simp[zcM,a2]) (A.trans A4) h
    | ok u =>
     rw[hq]at hg
     simp only at hg
     intro σ4 A4
     simp[a18,hw3]
     refine⟨⟨i+1,by omega,by simp[a1],by simp[a2],by simp[a16],by simp[a17],by simp,A.trans A4,hg⟩,?_⟩
     simp only[MU,a18];simp;omega
   ·have he:i=m.funcs.length:=by omega
    subst he
    have hnil:m.funcs.drop m.funcs.length=[]:=by simp
    rw[hnil]at hg
    simp only[za3]at hg
    rw[←hg]at h
    simp only at h
    have good:zoS m=true→∀σ',zd σ σ'→R (.ret (.int .i64 0)) σ':=fun q=>by rw[if_pos q]at h;exact h
    have bad:zoS m=false→∀σ',zd σ σ'→R (.ret (.int .i64 12)) σ':=fun q=>by rw[if_neg (by rw[q];simp)]at h;exact h
    by_cases q0:0≤m.main
    ·by_cases q1:m.main<(m.funcs.length:Int)
     ·have hlt2:m.main.toNat<m.funcs.length:=by omega
      obtain⟨b,fv,hfv,hix⟩:=hfs.at hlt2
      have e1:((m.main.toNat:Nat):Int)=m.main:=by omega
      rw[e1]at hix
      have hfn:m.funcs[m.main.toNat]?=some m.funcs[m.main.toNat]:=yau hlt2
      have hmb:zoS m=(decide (m.funcs[m.main.toNat].type=1)&&decide (m.funcs[m.main.toNat].params.length=0)):=by
       unfold zoS;rw[hfn];simp[q0]
      generalize m.funcs[m.main.toNat]=f at *
      obtain⟨pv,lv,tv,rfl,hp,hl,ht⟩:=hfv
      have hpl:=hp.len
      have p1:=hp.one
      by_cases q2:f.type=1
      ·by_cases q3:f.params.length=0
       ·have q3':f.params=[]:=ybS.1 q3
        simp[zcN,zdx,a1,a2,a16,a17,a18,hm2,he2,hfl,f1,q0,q1,hix,q2,hpl,p1,q3',splice]
        refine ze (fun _=>?_) (fun q=>by simp at q)
        simp[a2,he2,splice]
        exact done _ τ (by simp[a2]) A (good (by rw[hmb];simp[q2,q3']))
       ·have q3':¬f.params=[]:=fun q=>q3 (by rw[q];rfl)
        simp[zcN,zdx,a1,a2,a16,a17,a18,hm2,he2,hfl,f1,q0,q1,hix,q2,hpl,p1,q3',splice]
        refine ze (fun q=>by simp at q) (fun _=>?_)
        simp
        exact hand 12 _ τ (by simp[zcM,a2]) A (bad (by rw[hmb];simp[q3']))
      ·simp[zcN,zdx,a1,a2,a16,a17,a18,hm2,he2,hfl,f1,q0,q1,hix,q2,splice]
       refine ze (fun q=>by simp at q) (fun _=>?_)
       simp
       exact hand 12 _ τ (by simp[zcM,a2]) A (bad (by rw[hmb];simp[q2]))
     ·simp[zcN,zdx,a1,a2,a16,a17,a18,hm2,he2,hfl,f1,q0,q1,splice]
      refine ze (fun q=>by simp at q) (fun _=>?_)
      simp
      refine hand 12 _ τ (by simp[zcM,a2]) A (bad ?_)
      unfold zoS
      rw[yb2 (by omega)]
      simp
    ·simp[zcN,zdx,a1,a2,a16,a17,a18,hm2,he2,hfl,f1,q0,splice]
     refine ze (fun q=>by simp at q) (fun _=>?_)
     simp
     exact hand 12 _ τ (by simp[zcM,a2]) A (bad (by simp[zoS,q0]))
  ·rw[if_pos (by simp[k1])]at h
   simp[zpR,fr1,hm1,k0,k1]
   refine ze (fun q=>by simp at q) (fun _=>?_)
   simp
   exact hand 11 _ σ1 (by simp[zcM,fr2]) (.refl _) h
 ·rw[if_pos (by simp[k0])]at h
  simp[zpR,fr1,hm1,k0]
  refine ze (fun q=>by simp at q) (fun _=>?_)
  simp
  exact hand 11 _ σ1 (by simp[zcM,fr2]) (.refl _) h
mutual
def clm:AV→AV
 | .sl φ sz xs=>.sl (.stat φ.full) sz (zC7 xs)
 | .agg cs=>.agg (zC7 cs)
 | v=>v
def zC7:List AV→List AV
 | []=>[]
 | v::vs=>clm v::zC7 vs
end
theorem zo7:∀l,zC7 l=l.map clm
 | []=>by simp[zC7]
 | v::l=>by simp[zC7,zo7 l]
@[simp] theorem zx3(φ sz xs):clm (.sl φ sz xs)=.sl (.stat φ.full) sz (xs.map clm):=by simp[clm,zo7]
@[simp] theorem zBs(cs):clm (.agg cs)=.agg (cs.map clm):=by simp[clm,zo7]
@[simp] theorem zBt(k n):clm (.int k n)=.int k n:=by simp[clm]
@[simp] theorem zBu(s):clm (.str s)=.str s:=by simp[clm]
@[simp] theorem zs9:clm .nilsl=.nilsl:=by simp[clm]
@[simp] theorem zwu(b):clm (.bool b)=.bool b:=by simp[clm]
theorem znr(v:AV):(clm v).cells=v.cells.map clm:=by
 cases v with
 | agg cs=>simp
 | sl φ sz xs=>simp
 | _=>simp[clm,AV.cells]
theorem zmc(l:List AV):zt (l.map clm)=(zt l).map clm:=by
 simp[zt,List.flatMap_map,List.map_flatMap,znr]
inductive Cb(F:Nat→FSt):AV→Prop
 | bool (b:Bool):Cb F (.bool b)
 | int (k:IntKind) (n:Int):Cb F (.int k n)
 | str (s:List UInt8):Cb F (.str s)
 | nilsl:Cb F .nilsl
 | sl (φ:Abs.Own) (sz:Nat) (xs:List AV) (hr:zn F φ) (h:∀c∈zt xs,Cb F c):Cb F (.sl φ sz xs)
 | agg (cs:List AV) (h:∀c∈cs,Cb F c):Cb F (.agg cs)
end Go.Proofs.YtohfclafhegadaaGreatDoor
namespace Go.Abs
open Go Go.Abs
open Go.Proofs.YtohfclafhegadaaGreatDoor
theorem VR.clm{M:Mp}{F:Nat→FSt}{w:World}{v:AV}{c:Value}(h:VR M F w v c)(hs:Cb F v):VR (M.calm 1) AS.bare.F w (clm v) c:=by
 induction h with
 | bool b=>rw[zwu];exact .bool b
 | int k n=>rw[zBt];exact .int k n
 | str s=>rw[zBu];exact .str s
 | nilsl=>rw[zs9];exact .nilsl
 | slz b sz a=>rw[zx3];exact .slz _ sz a
 | sl φ sz xs B off cap cs hcap hlit hsz hm hc hv ih =>
  cases hs with
  | sl _ _ _ hr hs =>
  rw[zx3]
  have hl:(xs.map Go.Proofs.YtohfclafhegadaaGreatDoor.clm).length=xs.length:=by simp
  have hm':∃m,(M.calm 1).role B=some (.st m):=by
   cases φ with
   | stat b =>
    obtain⟨m,hm⟩:=hm
    exact⟨m,zlu hm⟩
   | fam f b =>
    have h1:=(hm.2 (by rw[hr];simp)).1
    exact⟨false,ze9 h1 (fun m q=>by cases q)⟩
  have:=VR.sl (M:=M.calm 1) (F:=AS.bare.F) (w:=w) (.stat φ.full) sz (xs.map Go.Proofs.YtohfclafhegadaaGreatDoor.clm) B off cap cs (by simpa using hcap) (fun h=>by rw[hl];exact hlit h)
   (fun x hx=>by simp at hx;obtain⟨y,hy,rfl⟩:=hx;rw[znr,ybb];exact hsz y hy) hm' (fun _ j hj=>hc hr j (by rw[zmc]at hj;simpa using hj))
   (fun _ j hj=>by
    have hj':j<(zt xs).length:=by rw[zmc]at hj;simpa using hj
    have:=ih hr j hj' (hs _ (yaw hj'))
    simp only[zmc,List.getElem_map]
    exact this)
  rw[hl]at this
  exact this
 | agg cs A hA va ih =>
  cases hs with
  | agg _ hs=>rw[zBs];exact .agg _ _ (by simpa using hA) (fun j h h'=>by simpa using ih j (by simpa using h) h' (hs _ (yaw _)))
 | _=>cases hs
end Go.Abs
namespace Go.Proofs.YtohfclafhegadaaGreatDoor
open Go Go.Abs
inductive Pln:AV→Prop
 | bool (b:Bool):Pln (.bool b)
 | int (k:IntKind) (n:Int):Pln (.int k n)
 | str (s:List UInt8):Pln (.str s)
 | nilsl:Pln .nilsl
 | agg (cs:List AV) (h:∀c∈cs,Pln c):Pln (.agg cs)
 | tuple (cs:List AV) (h:∀c∈cs,Pln c):Pln (.tuple cs)
end Go.Proofs.YtohfclafhegadaaGreatDoor
namespace Go.Abs
open Go Go.Abs
open Go.Proofs.YtohfclafhegadaaGreatDoor
theorem VR.pln{M M':Mp}{F F':Nat→FSt}{w w':World}{v:AV}{c:Value}(h:VR M F w v c)(hs:Pln v):VR M' F' w' v c:=by
 induction h with
 | bool b=>exact .bool b
 | int k n=>exact .int k n
 | str s=>exact .str s
 | nilsl=>exact .nilsl
 | agg cs A hA va ih =>
  cases hs with
  | agg _ hs=>exact .agg _ _ hA (fun j h h'=>ih j h h' (hs _ (yaw _)))
 | tuple cs A hA va ih =>
  cases hs with
  | tuple _ hs=>exact .tuple _ _ hA (fun j h h'=>ih j h h' (hs _ (yaw _)))
 | _=>cases hs
end Go.Abs
namespace Go.Proofs.YtohfclafhegadaaGreatDoor
open Go Go.Abs
inductive StillI:AV→Prop
 | undef:StillI .undef
 | int (k:IntKind) (n:Int):StillI (.int k n)
 | str (s:List UInt8):StillI (.str s)
 | pv (b:Bool) (v:AV) (h:∀c∈v.cells,StillI c):StillI (.pv (.stat b) v)
 | iface (t:TypeId) (v:AV) (h:StillI v):StillI (.iface t v)
 | mp (ks vs:List AV):StillI (.mp ks vs)
end Go.Proofs.YtohfclafhegadaaGreatDoor
namespace Go.Abs
open Go Go.Abs
open Go.Proofs.YtohfclafhegadaaGreatDoor
theorem VR.stillI{M:Mp}{F:Nat→FSt}{w:World}{v:AV}{c:Value}(h:VR M F w v c){M':Mp}{F':Nat→FSt}(hr:∀B m,M.role B=some (.st m)→M'.role B=some (.st m))(hs:StillI v):VR M' F' w v c:=by
 induction h with
 | undef c=>exact .undef c
 | int k n=>exact .int k n
 | str s=>exact .str s
 | pv φ v B off cs hm hc hv ih =>
  cases hs with
  | pv b _ hs =>
  obtain⟨m,hm⟩:=hm
  exact .pv _ v B off cs ⟨m,hr B m hm⟩ (fun _=>hc trivial) (fun _ j hj=>ih trivial j hj (hs _ (yaw hj)))
 | iface t v c h ih =>
  cases hs with
  | iface _ _ hs=>exact .iface t _ _ (ih hs)
 | mp ks vs b es c h1 h2 h3=>exact .mp ks vs b es c (hr b false h1) h2 h3
 | _=>cases hs
end Go.Abs
namespace Go.Proofs.YtohfclafhegadaaGreatDoor
open Go Go.Abs
theorem zLR{P:Program}{G:Env}{M:Mp}{σ:AS}{w:World}(g:GOk P G M σ.F w)(hG:∀k,StillI (G.g k))(hy:∀l,¬G.has l):GOk P G (M.calm 1) AS.bare.F w where
 vars k:=(g.vars k).stillI (fun _ _ h=>zlu h) (hG k)
 yields l hl:=absurd hl (hy l)
 fixed B cs hB:=by
  obtain⟨h1,h2⟩:=g.fixed B cs hB
  exact⟨zlu h1,h2⟩
theorem zta{P:Program}{G:Env}{f:FuncId}{σ:AS}{R:Out→AS→Prop}{vs:List AV}{Q:AV→Prop}(hG:∀k,StillI (G.g k))(hy:∀l,¬G.has l)(hv:∀v∈vs,Cb σ.F v)(h:ACalls P G f (vs.map clm) AS.bare fun o _=>∃x,o=.ret x∧Pln x∧Q x)(hR:∀x,Q x→R (.ret x) σ):ACalls P G f vs σ R:=by
 intro M w cargs S g c
 refine(h (M.calm 1) w cargs S.calm (zLR g hG hy) ⟨by rw[ybb];exact c.1,fun j v hj=>?_⟩).mono fun e w' ⟨o,σ',M',⟨x,ho,hx,hq⟩,h2,h3,h4⟩=>?_
 ·rw[ycB,ybB]at hj
  obtain⟨v0,h1,rfl⟩:=hj
  obtain⟨c0,e0,q0⟩:=c.2 j v0 h1
  exact⟨c0,e0,q0.clm (hv v0 (yct h1))⟩
 ·subst ho
  refine⟨_,σ,M,hR x hq,?_,S.calmed h4,Ext.calm S h4⟩
  cases e<;>simp only[zbf]at h2 ⊢
  exact h2.pln hx
theorem zLS(w:W):clm w.av=w.av:=by simp[W.av,W.cs]
theorem zOc{F:Nat→FSt}(w:W):∀c∈w.av.cells,Cb F c:=by
 intro c hc
 simp only[W.av,W.cs,AV.cells,ybC,ycC,or_false]at hc
 rcases hc with rfl|rfl|rfl|rfl|rfl|rfl
 all_goals first|exact .int _ _|exact .str _
theorem ztb{σ:AS}{v:AV}{l:List W}(h:Al.RepO σ v l):Cb σ.F v∧zux (clm v) l:=by
 rcases h with ⟨rfl,rfl⟩|⟨φ,rfl,r⟩
 ·exact⟨.nilsl,.inl ⟨rfl,by simp⟩⟩
 ·refine⟨.sl _ _ _ r.read fun c hc=>?_,.inr ⟨φ.full,by simp[Function.comp_def,zLS]⟩⟩
  simp only[zt,ycw,yaV]at hc
  obtain⟨x,⟨w,_,rfl⟩,hx⟩:=hc
  exact zOc w c hx
theorem zij{σ:AS}{v:AV}{l:List Int}(h:Al.IntsO σ v l):Cb σ.F v∧zc1 (clm v) l:=by
 rcases h with ⟨rfl,rfl⟩|⟨φ,rfl,r⟩
 ·exact⟨.nilsl,.inl ⟨rfl,by simp⟩⟩
 ·refine⟨.sl _ _ _ r.read fun c hc=>?_,.inr ⟨φ.full,by simp[Function.comp_def]⟩⟩
  simp only[zt,ycw,yaV]at hc
  obtain⟨x,⟨w,_,rfl⟩,hx⟩:=hc
  simp only[AV.cells,ycD]at hx
  subst hx
  exact .int _ _
theorem zmd{α:Type}{Q Q':AV→α→Prop}{P:AV→Prop}(hq:∀v a,Q v a→P v∧Q' (clm v) a):∀{xs:List AV} {l:List α},All2 Q xs l→(∀x∈xs,P x)∧All2 Q' (xs.map clm) l
 | _,_,.nil=>⟨fun x h=>(by cases h),.nil⟩
 | _,_,.cons h hs=>by
  obtain⟨h1,h2⟩:=hq _ _ h
  obtain⟨h3,h4⟩:=zmd hq hs
  exact⟨fun x hx=>by
   rcases ybC.1 hx with rfl|hx
   ·exact h1
   ·exact h3 x hx,.cons h2 h4⟩
theorem ztc{v:AV}(h:v.cells=[v]):∀c∈v.cells,c=v:=fun c hc=>by rw[h]at hc;simpa using hc
theorem ztd{σ:AS}{v:AV}{l:To}(h:Al.LstO σ v l):Cb σ.F v∧zgw (clm v) l:=by
 rcases h with ⟨rfl,rfl⟩|⟨φ,rows,rfl,r,k⟩
 ·exact⟨.nilsl,.inl ⟨rfl,by simp⟩⟩
 ·obtain⟨k1,k2⟩:=zmd (P:=fun v=>Cb σ.F v∧v.cells=[v]) (Q':=zux) (fun v a q=>⟨⟨(ztb q).1,q.one.2.2⟩,(ztb q).2⟩) k
  refine⟨.sl _ _ _ r.read fun c hc=>?_,.inr ⟨φ.full,rows.map clm,by simp,k2⟩⟩
  simp only[zt,ycw]at hc
  obtain⟨x,hx,hc⟩:=hc
  rw[ztc (k1 x hx).2 c hc]
  exact(k1 x hx).1
theorem zGF{σ:AS}{v:AV}{f:F}(h:Al.FVO σ v f):(∀c∈v.cells,Cb σ.F c)∧FV (clm v) f:=by
 obtain⟨pv,lv,tv,rfl,a,b,c⟩:=h
 refine⟨fun x hx=>?_,clm pv,clm lv,clm tv,by simp,(zij a).2,(zij b).2,(ztd c).2⟩
 simp only[AV.cells,ybC,ycC,or_false]at hx
 rcases hx with rfl|rfl|rfl|rfl|rfl
 ·exact .str _
 ·exact(zij a).1
 ·exact(zij b).1
 ·exact .int _ _
 ·exact(ztd c).1
theorem zGG{σ:AS}{v:AV}{m:M}(h:Al.MO σ v m):Cb σ.F v∧MV (clm v) m:=by
 obtain⟨fv,rfl,h⟩:=h
 have key:Cb σ.F fv∧FsV (clm fv) m.funcs:=by
  rcases h with ⟨h,rfl⟩|⟨φ,rows,rfl,r,k⟩
  ·exact⟨.nilsl,.inl ⟨h,by simp⟩⟩
  ·obtain⟨k1,k2⟩:=zmd (P:=fun v=>∀c∈v.cells,Cb σ.F c) (Q':=FV) (fun v a q=>zGF q) k
   refine⟨.sl _ _ _ r.read fun c hc=>?_,.inr ⟨φ.full,rows.map clm,by simp,k2⟩⟩
   simp only[zt,ycw]at hc
   obtain⟨x,hx,hc⟩:=hc
   exact k1 x hx c hc
 refine⟨.agg _ fun c hc=>?_,clm fv,by simp,key.2⟩
 simp only[ybC,ycC,or_false]at hc
 rcases hc with rfl|rfl|rfl
 ·exact key.1
 ·exact .int _ _
 ·exact .int _ _
section
variable {G : Env} {σ : AS} {R : Out → AS → Prop}
theorem zte{m:M}{mv:AV}(V:zqj G)(hG:∀k,StillI (G.g k))(hy:∀l,¬G.has l)(hm:Al.MO σ mv m)(sm:zs6 m)(h:R (.ret (.int .i64 (zq7 (zfG m)))) σ):zzQ G 18 [mv] σ R:=by
 obtain⟨h1,h2⟩:=zGG hm
 refine zta (vs:=[mv]) (Q:=fun x=>x=.int .i64 (zq7 (zfG m))) hG hy (fun v hv=>by simp at hv;subst hv;exact h1) ?_ fun x hx=>by rw[hx];exact h
 exact zo6 V sm h2 fun σ' _=>⟨_,rfl,.int _ _,rfl⟩
def TsI(m:M)(o:Nat)(fv:AV)(σ:AS)(a:Nat→AV)(τ:AS):Prop:=∃i:Nat,i≤m.funcs.length∧(∀f∈m.funcs.take i,zh2 24 f.name=true)∧a 1=.ptr o 0∧a 3=.int .i64 (i:Int)∧τ.objs o=some [fv,.int .i64 m.memory,.int .i64 m.main]∧τ=σ
theorem zGH{m:M}{mv:AV}(hm:Al.MO σ mv m)(hl:m.funcs.length≤2^40)(hn:∀f∈m.funcs,f.name.length<2^40)(h:∀σ',zd σ σ'→R (.ret (.bool (m.funcs.all fun f=>zh2 24 f.name))) σ'):zzQ G 17 [mv] σ R:=by
 refine zAm rfl ?_
 obtain⟨fv,rfl,hfv⟩:=hm
 have f1:=hfv.one
 have A1:zd σ (σ.newO [fv,.int .i64 m.memory,.int .i64 m.main]):=(zd.refl σ).newO
 have hf1:=hfv.keep A1
 have o1:(σ.newO [fv,.int .i64 m.memory,.int .i64 m.main]).objs σ.no=some [fv,.int .i64 m.memory,.int .i64 m.main]:=by simp
 simp[zMA,f1]
 generalize σ.newO [fv,.int .i64 m.memory,.int .i64 m.main]=σ1 at *
 have fl:=hf1.len
 refine zH (TsI m σ.no fv σ1) (MU 3 (m.funcs.length+1)) ⟨0,ycl _,by simp,by simp,by simp,o1,rfl⟩ fun a τ hI=>?_
 obtain⟨i,hi,hok,a1,a3,ho,rfl⟩:=hI
 by_cases hlt:i<m.funcs.length
 ·obtain⟨φ,row,hr,hrow,hat⟩:=hf1.at hlt
  have hr':=hr.read
  have hlti:(i:Int)<(m.funcs.length:Int):=by omega
  have w1:yb4 .i64 ((i:Int)+1)=((i+1:Nat):Int):=by rw[zc]<;>omega
  have hmem:m.funcs[i]∈m.funcs:=yaw hlt
  have htk:m.funcs.take (i+1)=m.funcs.take i++[m.funcs[i]]:=ycm hlt
  generalize hf:m.funcs[i]=f at *
  obtain⟨pv,lv,tv,rfl,_⟩:=hrow
  simp[zoA,a1,a3,ho,f1,fl,hlt,hlti,hat,hr']
  refine zGB (hn f hmem) ?_
  cases ht:zh2 24 f.name with
  | false =>
   have e:(m.funcs.all fun f=>zh2 24 f.name)=false:=by
    rw[Bool.eq_false_iff]
    intro q
    have:=yaM.1 q f hmem
    rw[ht]at this
    cases this
   have:=h _ A1
   rw[e]at this
   simp
   exact this
  | true =>
   simp[a1,a3,w1]
   refine⟨⟨i+1,hlt,fun g hg=>?_,by simp[a1],by simp,ho,rfl⟩,?_⟩
   ·rw[htk,ybh,ycD]at hg
    rcases hg with hg|rfl
    ·exact hok g hg
    ·exact ht
   ·simp[MU,a3];omega
 ·have e:i=m.funcs.length:=by omega
  have e2:(m.funcs.all fun f=>zh2 24 f.name)=true:=by
   rw[yaM]
   intro f hf
   exact hok f (by rw[e,ycE (yah _)];exact hf)
  have:=h _ A1
  rw[e2]at this
  simp[zoA,zsF,a1,a3,ho,f1,fl,e]
  exact this
end
@[simp] theorem zJ9(t):zax t []=false:=by simp[zax]
@[simp] theorem zKa(t i k r):zax t ((i,.tmp k)::r)=false:=by simp[zax]
@[simp] theorem zKb(t i n r):zax t ((i,.const (.int .i64 n))::r)=false:=by simp[zax]
@[simp] theorem zKc(t i n r):zax t ((i,.const (.string n))::r)=false:=by simp[zax]
def zaw(n:Int):UInt8:=UInt8.ofNat (n%256).toNat
def uF:Nat→Int→List UInt8
 | 0,_=>[]
 | k+1,n=>if n≤127 then [zaw n]else(zaw n ||| 128)::uF k (n/128)
def sF:Nat→Int→List UInt8
 | 0,_=>[]
 | k+1,n=>if -64≤n∧n≤63 then [zaw n &&& 127]else(zaw n ||| 128)::sF k (n/128)
def uI(n:Int):List UInt8:=uF 10 n
def sI(n:Int):List UInt8:=sF 10 n
theorem zbI(n:Int):((zaw n).toNat:Int)=n%256:=by
 unfold zaw
 have h1:0≤n%256∧n%256<256:=⟨ycc _ (by decide),ycd _ (by decide)⟩
 rw[UInt8.toNat_ofNat']
 omega
theorem wrap_u8(n:Int):yb4 .u8 n=((zaw n).toNat:Int):=by
 rw[zbI]
 simp[yb4,yao,yap]
theorem zme(f:BitVec 8→BitVec 8→BitVec 8)(a b:UInt8):zca .u8 f (a.toNat:Int) (b.toNat:Int)=((f a.toBitVec b.toBitVec).toNat:Int):=by
 have e1:BitVec.ofInt 8 (a.toNat:Int)=a.toBitVec:=by
  apply BitVec.eq_of_toNat_eq
  simp
 have e2:BitVec.ofInt 8 (b.toNat:Int)=b.toBitVec:=by
  apply BitVec.eq_of_toNat_eq
  simp
 show yb4 .u8 ((f (BitVec.ofInt 8 (a.toNat:Int)) (BitVec.ofInt 8 (b.toNat:Int))).toNat:Int)=_
 rw[e1,e2]
 have:=(f a.toBitVec b.toBitVec).isLt
 simp[yb4,yao,yap]
 omega
theorem zrj(a:UInt8):zca .u8 (· ||| ·) (a.toNat:Int) 128=((a ||| 128).toNat:Int):=by
 exact zme (· ||| ·) a 128
theorem ztf(a:UInt8):zca .u8 (· &&& ·) (a.toNat:Int) 127=((a &&& 127).toNat:Int):=by
 exact zme (· &&& ·) a 127
theorem zC8(n:Int):n.fdiv (2^min 7 yam.bits)=n/128:=by
 show n.fdiv 128=n/128
 exact Int.fdiv_eq_ediv_of_nonneg _ (by decide)
@[simp] theorem zLT(bs:List UInt8):(B bs).length=bs.length:=by simp[B]
@[simp] theorem zOd(x y:List UInt8):B (x++y)=B x++B y:=by simp[B]
theorem zx4:∀(k:Nat) (n:Int),(uF k n).length≤k
 | 0,_=>by simp[uF]
 | k+1,n=>by
  rw[uF]
  split
  ·simp
  ·simp[zx4 k]
theorem zx5:∀(k:Nat) (n:Int),(sF k n).length≤k
 | 0,_=>by simp[sF]
 | k+1,n=>by
  rw[sF]
  split
  ·simp
  ·simp[zx5 k]
def zcZ(σ σ':AS)(v:AV)(bs:List UInt8):Prop:=zJ3 σ' σ.nf 1 v (B bs)∧zd σ σ'
section
variable {G : Env} {σ : AS} {R : Out → AS → Prop}
def UnI(n0:Int)(σ:AS)(a:Nat→AV)(τ:AS):Prop:=∃(k:Nat) (n:Int) (bs:List UInt8),1≤k∧k≤10∧n<128^k∧bs++uF k n=uI n0∧bs.length+k≤10∧a 0=.int .i64 n∧((bs=[]∧a 3=.nilsl)∨∃g,a 3=.sl (.fam g false) 1 (B bs)∧σ.nf≤g∧g<τ.nf∧τ.F g=.alive)∧zd σ τ
def MUn(r:Nat)(a:Nat→AV)(_:AS):Nat:=match a r with|.int _ i=>i.toNat|_=>0
theorem zcQ{n:Int}(hn:n<2^63)(h:∀v σ',zcZ σ σ' v (uI n)→R (.ret v) σ'):zzQ G 35 [.int .i64 n] σ R:=by
 refine zAq rfl ?_
 simp[zME]
 refine zH (UnI n σ) (MUn 0) ⟨10,n,[],by omega,by omega,by omega,rfl,by simp,by simp,.inl ⟨rfl,by simp⟩,.refl _⟩ fun a τ hI=>?_
 obtain⟨k,m,bs,h1,h2,h3,h4,h5,a0,hO,hA⟩:=hI
 obtain⟨k,rfl⟩:∃j,k=j+1:=⟨k-1,by omega⟩
 rw[uF]at h4
 by_cases hm:m≤127
 ·rw[if_pos hm]at h4
  have hm':¬127<m:=by omega
  have hbl:(B bs).length=bs.length:=by simp[B]
  have hBa:B bs++[ycp .u8 ((zaw m).toNat:Int)]=B (bs++[zaw m]):=by simp[B]
  rcases hO with ⟨rfl,a3⟩|⟨g,a3,g1,g2,g3⟩
  ·simp[ziW,zoB,a0,a3,hm',wrap_u8]
   refine h _ _ ⟨.inr ⟨τ.nf,?_,hA.nf,by simp,by simp⟩,hA.newF⟩
   rw[←h4];simp[B]
  ·simp[ziW,zoB,a0,a3,hm',wrap_u8,g3]
   refine⟨by omega,?_⟩
   refine h _ _ ⟨.inr ⟨τ.nf,?_,hA.nf,by simp,by simp⟩,(hA.setF g1).newF (σ':=τ.setF g .dead)⟩
   rw[←h4];simp[B]
 ·rw[if_neg hm]at h4
  have hm':127<m:=by omega
  have hk:1≤k:=by
   rcases ybr k with rfl|h
   ·simp at h3;omega
   ·exact h
  have hlt:m/128<128^k:=by
   rw[ycF]at h3
   omega
  rcases hO with ⟨rfl,a3⟩|⟨g,a3,g1,g2,g3⟩
  ·simp[ziW,a0,a3,hm',wrap_u8,zrj,zC8]
   refine⟨⟨k,m/128,[zaw m ||| 128],hk,by omega,hlt,by rw[←h4];simp,by simp at h5 ⊢;omega,by simp,.inr ⟨τ.nf,by simp[B],hA.nf,by simp,by simp⟩,hA.newF⟩,?_⟩
   simp only[MUn,a0];simp;omega
  ·simp[ziW,a0,a3,hm',wrap_u8,zrj,zC8,g3]
   have hgn:=hA.nf
   refine⟨by omega,⟨k,m/128,bs++[zaw m ||| 128],hk,by omega,hlt,by rw[←h4];simp,by simp at h5 ⊢;omega,by simp,.inr ⟨τ.nf,by simp[B],hgn,by simp,by simp⟩,(hA.setF g1).newF (σ':=τ.setF g .dead)⟩,?_⟩
   simp only[MUn,a0];simp;omega
def SnI(n0:Int)(σ:AS)(a:Nat→AV)(τ:AS):Prop:=∃(k:Nat) (n:Int) (bs:List UInt8),k≤9∧-(64*128^k)≤n∧n<64*128^k∧bs++sF (k+1) n=sI n0∧bs.length+k+1≤10∧a 0=.int .i64 n∧((bs=[]∧a 3=.nilsl)∨∃g,a 3=.sl (.fam g false) 1 (B bs)∧σ.nf≤g∧g<τ.nf∧τ.F g=.alive)∧zd σ τ
def MUs(r:Nat)(a:Nat→AV)(_:AS):Nat:=match a r with|.int _ i=>i.natAbs|_=>0
theorem zo8{n:Int}(hn:-(2^63)≤n∧n<2^63)(h:∀v σ',zcZ σ σ' v (sI n)→R (.ret v) σ'):zzQ G 36 [.int .i64 n] σ R:=by
 refine zAr rfl ?_
 simp[zMF]
 refine zH (SnI n σ) (MUs 0) ⟨9,n,[],by omega,by omega,by omega,rfl,by simp,by simp,.inl ⟨rfl,by simp⟩,.refl _⟩ fun a τ hI=>?_
 obtain⟨k,m,bs,h2,h3,h3',h4,h5,a0,hO,hA⟩:=hI
 rw[sF]at h4
 have fin:∀(x:Prop),x=(m < -64∨63<m)→x=x:=fun _ _=>rfl
 by_cases hm:-64≤m∧m≤63
 ·rw[if_pos hm]at h4
  have hm1:¬m < -64:=by omega
  have hm2:¬63<m:=by omega
  rcases hO with ⟨rfl,a3⟩|⟨g,a3,g1,g2,g3⟩
  ·simp[zfW,zoC,a0,a3,hm1,hm2,wrap_u8,ztf]
   refine h _ _ ⟨.inr ⟨τ.nf,?_,hA.nf,by simp,by simp⟩,hA.newF⟩
   rw[←h4];simp[B]
  ·simp[zfW,zoC,a0,a3,hm1,hm2,wrap_u8,ztf,g3]
   refine⟨by omega,?_⟩
   refine h _ _ ⟨.inr ⟨τ.nf,?_,hA.nf,by simp,by simp⟩,(hA.setF g1).newF (σ':=τ.setF g .dead)⟩
   rw[←h4];simp[B]
 ·rw[if_neg hm]at h4
  have hk:1≤k:=by
   rcases ybr k with rfl|h
   ·simp at h3 h3';omega
   ·exact h
  obtain⟨k,rfl⟩:∃j,k=j+1:=⟨k-1,by omega⟩
  have hlt:m/128<64*128^k:=by
   rw[ycF]at h3'
   omega
  have hle:-(64*128^k)≤m/128:=by
   rw[ycF]at h3
   omega
  have hgn:=hA.nf
  by_cases hm1:m < -64
  ·rcases hO with ⟨rfl,a3⟩|⟨g,a3,g1,g2,g3⟩
   ·simp[zfW,a0,a3,hm1,wrap_u8,zrj,zC8]
    refine⟨⟨k,m/128,[zaw m ||| 128],by omega,hle,hlt,by rw[←h4];simp,by simp at h5 ⊢;omega,by simp,.inr ⟨τ.nf,by simp[B],hA.nf,by simp,by simp⟩,hA.newF⟩,?_⟩
    simp only[MUs,a0];simp;omega
   ·simp[zfW,a0,a3,hm1,wrap_u8,zrj,zC8,g3]
    refine⟨by omega,⟨k,m/128,bs++[zaw m ||| 128],by omega,hle,hlt,by rw[←h4];simp,by simp at h5 ⊢;omega,by simp,.inr ⟨τ.nf,by simp[B],hgn,by simp,by simp⟩,(hA.setF g1).newF (σ':=τ.setF g .dead)⟩,?_⟩
    simp only[MUs,a0];simp;omega
  ·have hm2:63<m:=by omega
   rcases hO with ⟨rfl,a3⟩|⟨g,a3,g1,g2,g3⟩
   ·simp[zfW,a0,a3,hm1,hm2,wrap_u8,zrj,zC8]
    refine⟨⟨k,m/128,[zaw m ||| 128],by omega,hle,hlt,by rw[←h4];simp,by simp at h5 ⊢;omega,by simp,.inr ⟨τ.nf,by simp[B],hA.nf,by simp,by simp⟩,hA.newF⟩,?_⟩
    simp only[MUs,a0];simp;omega
   ·simp[zfW,a0,a3,hm1,hm2,wrap_u8,zrj,zC8,g3]
    refine⟨by omega,⟨k,m/128,bs++[zaw m ||| 128],by omega,hle,hlt,by rw[←h4];simp,by simp at h5 ⊢;omega,by simp,.inr ⟨τ.nf,by simp[B],hgn,by simp,by simp⟩,(hA.setF g1).newF (σ':=τ.setF g .dead)⟩,?_⟩
    simp only[MUs,a0];simp;omega
end
def zej(σ:AS)(v:AV)(bs:List UInt8):Prop:=(bs=[]∧v=.nilsl)∨∃φ,v=.sl φ 1 (B bs)∧Al.Rd σ φ
theorem zej.one{σ v bs}(h:zej σ v bs):v.known=true∧v.one=true∧v.cells=[v]:=by rcases h with ⟨_,rfl⟩|⟨b,rfl,_⟩<;>simp
theorem zej.keep{σ σ' v bs}(h:zej σ v bs)(A:zd σ σ'):zej σ' v bs:=by
 rcases h with h|⟨b,h,r⟩
 ·exact .inl h
 ·exact .inr ⟨b,h,r.keep A⟩
theorem zej.len{σ v bs}(h:zej σ v bs)(K:AV→Prop):zh5 yb9 32 v K=K (.int .i64 (bs.length:Int)):=by
 rcases h with ⟨rfl,rfl⟩|⟨b,rfl,_⟩<;>simp
theorem zcZ.byt{σ σ' v bs}(h:zcZ σ σ' v bs):zej σ' v bs:=by
 rcases h.1 with ⟨h1,h2⟩|⟨g,h1,h2,h3,h4⟩
 ·exact .inl ⟨by simpa [B]using h1,h2⟩
 ·exact .inr ⟨_,h1,h3,h4⟩
theorem zo9(bs:List UInt8):∀y,y∈B bs→y.cells.length=1∧∀c,c∈y.cells→c.one=true:=by
 intro y hy
 simp only[B,yaV]at hy
 obtain⟨b,_,rfl⟩:=hy
 simp
theorem zcZ.behind{σ σ1 σ2 v bs}(A:zd σ σ1)(h:zcZ σ1 σ2 v bs):zcZ σ σ2 v bs:=by
 refine⟨?_,A.trans h.2⟩
 rcases h.1 with h1|⟨g,h1,h2,h3,h4⟩
 ·exact .inl h1
 ·exact .inr ⟨g,h1,yai A.nf h2,h3,h4⟩
section
variable {G : Env} {σ : AS} {R : Out → AS → Prop}
theorem zrk{n:Nat}(hn:n<2^40)(g0:n=0→R (.ret .nilsl) σ)(g1:0<n→R (.ret (.sl (.fam σ.nf false) 1 [])) σ.newF):zzQ G 103 [.nilsl,.int .i64 (n:Int)] σ R:=by
 refine zvc rfl ?_
 have w5:yb4 .i64 0=0:=rfl
 have w2:yb4 .i64 (n:Int)=(n:Int):=by rw[zc]<;>omega
 have n2:¬(n:Int)<0:=by omega
 cases n with
 | zero =>
  simp[zA8,w5]
  exact g0 rfl
 | succ n =>
  have hz':(0:Int)<((n+1:Nat):Int):=by omega
  have e1:(((n+1:Nat):Int)).toNat=n+1:=by omega
  simp only[ycG,ycH]at *
  simp[zA8,w5,w2,n2,hz',e1,ycz,zc3,zcb]
  exact⟨by omega,by omega,by omega,by omega,g1 (by omega)⟩
def zdN(l:List (List UInt8)):Nat:=(l.map yce).sum
theorem zaI(l:List (List UInt8)):l.flatten.length=zdN l:=by simp[zdN,List.length_flatten]
theorem zi9{l:List (List UInt8)}{i:Nat}{b:List UInt8}(h:l[i]?=some b):zdN (l.take (i+1))=zdN (l.take i)+b.length:=by
 rw[za0 h];simp[zdN]
theorem zpa(l:List (List UInt8))(i:Nat):zdN (l.take i)≤zdN l:=by
 have e:zdN (l.take i++l.drop i)=zdN (l.take i)+zdN (l.drop i):=by simp only[zdN,ycI,List.sum_append]
 rw[List.take_append_drop]at e
 omega
end
def zja(σ:AS)(v:AV)(l:List (List UInt8)):Prop:=(l=[]∧v=.nilsl)∨∃φ rows,v=.sl φ 1 rows∧Al.Rd σ φ∧All2 (zej σ) rows l
theorem zja.one{σ v l}(h:zja σ v l):v.known=true∧v.one=true∧v.cells=[v]:=by rcases h with ⟨_,rfl⟩|⟨b,_,rfl,_⟩<;>simp
theorem zja.keep{σ σ' v l}(h:zja σ v l)(A:zd σ σ'):zja σ' v l:=by
 rcases h with h|⟨φ,rows,h,r,k⟩
 ·exact .inl h
 ·exact .inr ⟨φ,rows,h,r.keep A,Al.all2_mono k fun _ _ q=>q.keep A⟩
theorem zja.len{σ v l}(h:zja σ v l)(K:AV→Prop):zh5 yb9 64 v K=K (.int .i64 (l.length:Int)):=by
 rcases h with ⟨rfl,rfl⟩|⟨b,rows,rfl,_,hr⟩
 ·simp
 ·simp[hr.length]
theorem zja.at{σ v l}(h:zja σ v l){i:Nat}(hi:i<l.length):∃φ rv,Al.Rd σ φ∧zej σ rv l[i]∧∀K:AV→Prop,zA yb9 64 v (.int .i64 (i:Int)) K=K (.pv φ rv):=by
 rcases h with ⟨rfl,_⟩|⟨φ,rows,rfl,r,hr⟩
 ·simp at hi
 ·obtain⟨rv,h1,h2⟩:=hr.get (yau hi)
  exact⟨φ,rv,r,h2,fun K=>by simp[h1]⟩
theorem zja.lit{σ b vs l}(h:All2 (zej σ) vs l):zja σ (.sl (.stat b) 1 vs) l:=.inr ⟨_,_,rfl,trivial,h⟩
section
variable {G : Env} {σ : AS} {R : Out → AS → Prop}
def CI1(v:AV)(l:List (List UInt8))(σ:AS)(a:Nat→AV)(τ:AS):Prop:=∃i:Nat,i≤l.length∧a 0=v∧a 9=v∧a 10=.int .i64 (l.length:Int)∧a 11=.int .i64 (i:Int)∧a 3=.int .i64 ((zdN (l.take i):Nat):Int)∧τ=σ
def CI2(v:AV)(l:List (List UInt8))(σ:AS)(a:Nat→AV)(τ:AS):Prop:=∃i:Nat,i≤l.length∧a 25=v∧a 26=.int .i64 (l.length:Int)∧a 27=.int .i64 (i:Int)∧zd σ τ ∧
 ((zdN l=0∧a 6=.nilsl)∨∃g,a 6=.sl (.fam g false) 1 (B (l.take i).flatten)∧σ.nf≤g∧g<τ.nf∧τ.F g=.alive)
set_option maxHeartbeats 1000000 in
theorem za4{v:AV}{l:List (List UInt8)}(hv:zja σ v l)(hs:zdN l<2^40)(hl:l.length≤2^40)(h:∀v σ',zcZ σ σ' v l.flatten→R (.ret v) σ'):zzQ G 45 [v] σ R:=by
 refine zAz rfl ?_
 have hlen:=hv.len
 have hon:=hv.one
 simp[zMI,hlen,hon]
 refine zH (CI1 v l σ) (MU 11 (l.length+1)) ⟨0,by omega,by simp,by simp,by simp,by simp,by simp[zdN],rfl⟩ fun a τ hI=>?_
 obtain⟨i,hi,a0,a9,a10,a11,a3,rfl⟩:=hI
 by_cases hlt:i<l.length
 ·have hlt':(i:Int)<(l.length:Int):=by omega
  have hg:=yau hlt
  obtain⟨φ0,x,hr0,hb,hx⟩:=hv.at hlt
  have hr0:=hr0.read
  have hst:=zi9 hg
  have hsl:=zpa l (i+1)
  generalize l[i]=y at *
  have x1:=hb.one
  have x2:=hb.len
  have w1:yb4 .i64 ((i:Int)+1)=((i+1:Nat):Int):=by rw[zc]<;>omega
  have w2:yb4 .i64 (((zdN (l.take i):Nat):Int)+(y.length:Int))=((zdN (l.take i)+y.length:Nat):Int):=by rw[zc]<;>omega
  have n2:¬((zdN (l.take i):Nat):Int)+(y.length:Int)<0:=by omega
  simp[zoD,a0,a9,a10,a11,a3,hlt',hx,hr0,x1,x2,w1,w2,n2]
  refine⟨⟨i+1,by omega,by simp[a0],by simp[a9],by simp[a10],by simp,by simp[hst],rfl⟩,?_⟩
  simp only[MU,a11];simp;omega
 ·have hie:i=l.length:=by omega
  subst hie
  rw[ycn]at a3
  have ht:=zaI l
  simp[zoD,zg9,zsG,a0,a9,a10,a11,a3]
  refine zrk hs (fun hz=>?_) (fun hz=>?_)
  ·simp[hlen,a0]
   refine zH (CI2 v l τ) (MU 27 (l.length+1)) ⟨0,by omega,by simp[a0],by simp,by simp,.refl _,.inl ⟨hz,by simp⟩⟩ fun a2 τ2 hI2=>?_
   obtain⟨i,hi,b25,b26,b27,hA,hO⟩:=hI2
   by_cases hlt:i<l.length
   ·have hlt':(i:Int)<(l.length:Int):=by omega
    have hg:=yau hlt
    obtain⟨φ0,x,hr0,hb,hx⟩:=(hv.keep hA).at hlt
    have hr0:=hr0.read
    have hst:=zi9 hg
    have hsl:=zpa l (i+1)
    have htk:=za0 hg
    generalize l[i]=y at *
    have x1:=hb.one
    have hfl:=zaI (l.take i)
    have w1:yb4 .i64 ((i:Int)+1)=((i+1:Nat):Int):=by rw[zc]<;>omega
    have hgn:=hA.nf
    rcases hO with ⟨h0,b6⟩|⟨g,b6,g1,g2,g3⟩
    ·have hy:y=[]:=ybS.1 (by omega)
     subst hy
     rcases hb with ⟨_,rfl⟩|⟨φ,rfl,hr⟩
     ·simp[zbX,b25,b26,b27,b6,hlt',hx,hr0,w1]
      refine⟨⟨i+1,by omega,by simp[b25],by simp[b26],by simp,hA,.inl ⟨h0,by simp⟩⟩,?_⟩
      simp only[MU,b27];simp;omega
     ·have hr':=hr.read
      simp[zbX,b25,b26,b27,b6,hlt',hx,hr0,w1,hr',B]
      refine⟨⟨i+1,by omega,by simp[b25],by simp[b26],by simp,hA,.inl ⟨h0,by simp⟩⟩,?_⟩
      simp only[MU,b27];simp;omega
    ·rcases hb with ⟨rfl,rfl⟩|⟨φ,rfl,hr⟩
     ·simp[zbX,b25,b26,b27,b6,hlt',hx,hr0,w1,g3]
      have hsm:(ycJ i (ycA yce l)).sum=zdN (l.take i):=by rw[←ycr];rfl
      refine⟨by omega,⟨i+1,by omega,by simp[b25],by simp[b26],by simp,(hA.setF g1).newF (σ':=τ2.setF g .dead),.inr ⟨τ2.nf,by rw[htk];simp,hgn,by simp,by simp⟩⟩,?_⟩
      simp only[MU,b27];simp;omega
     ·have hr':=hr.read
      simp[zbX,b25,b26,b27,b6,hlt',hx,hr0,w1,g3,hr']
      have hsm:(ycJ i (ycA yce l)).sum=zdN (l.take i):=by rw[←ycr];rfl
      refine⟨zo9 y,by omega,⟨i+1,by omega,by simp[b25],by simp[b26],by simp,(hA.setF g1).newF (σ':=τ2.setF g .dead),.inr ⟨τ2.nf,by rw[htk];simp,hgn,by simp,by simp⟩⟩,?_⟩
      simp only[MU,b27];simp;omega
   ·have hie:i=l.length:=by omega
    subst hie
    rw[ycn]at hO
    rcases hO with ⟨h0,b6⟩|⟨g,b6,g1,g2,g3⟩
    ·simp[zbX,zg9,b26,b27,b6]
     exact h _ _ ⟨.inl ⟨by have:l.flatten=[]:=ybS.1 (by omega);rw[this];rfl,rfl⟩,hA⟩
    ·simp[zbX,zg9,b26,b27,b6]
     exact h _ _ ⟨.inr ⟨g,rfl,g1,g2,g3⟩,hA⟩
  ·simp[hlen,a0]
   refine zH (CI2 v l τ) (MU 27 (l.length+1)) ⟨0,by omega,by simp[a0],by simp,by simp,(zd.refl τ).newF,.inr ⟨τ.nf,by simp[B],by simp,by simp,by simp⟩⟩ fun a2 τ2 hI2=>?_
   obtain⟨i,hi,b25,b26,b27,hA,hO⟩:=hI2
   by_cases hlt:i<l.length
   ·have hlt':(i:Int)<(l.length:Int):=by omega
    have hg:=yau hlt
    obtain⟨φ0,x,hr0,hb,hx⟩:=(hv.keep hA).at hlt
    have hr0:=hr0.read
    have hst:=zi9 hg
    have hsl:=zpa l (i+1)
    have htk:=za0 hg
    generalize l[i]=y at *
    have x1:=hb.one
    have hfl:=zaI (l.take i)
    have w1:yb4 .i64 ((i:Int)+1)=((i+1:Nat):Int):=by rw[zc]<;>omega
    have hgn:=hA.nf
    rcases hO with ⟨h0,b6⟩|⟨g,b6,g1,g2,g3⟩
    ·have hy:y=[]:=ybS.1 (by omega)
     subst hy
     rcases hb with ⟨_,rfl⟩|⟨φ,rfl,hr⟩
     ·simp[zbX,b25,b26,b27,b6,hlt',hx,hr0,w1]
      refine⟨⟨i+1,by omega,by simp[b25],by simp[b26],by simp,hA,.inl ⟨h0,by simp⟩⟩,?_⟩
      simp only[MU,b27];simp;omega
     ·have hr':=hr.read
      simp[zbX,b25,b26,b27,b6,hlt',hx,hr0,w1,hr',B]
      refine⟨⟨i+1,by omega,by simp[b25],by simp[b26],by simp,hA,.inl ⟨h0,by simp⟩⟩,?_⟩
      simp only[MU,b27];simp;omega
    ·rcases hb with ⟨rfl,rfl⟩|⟨φ,rfl,hr⟩
     ·simp[zbX,b25,b26,b27,b6,hlt',hx,hr0,w1,g3]
      have hsm:(ycJ i (ycA yce l)).sum=zdN (l.take i):=by rw[←ycr];rfl
      refine⟨by omega,⟨i+1,by omega,by simp[b25],by simp[b26],by simp,(hA.setF g1).newF (σ':=τ2.setF g .dead),.inr ⟨τ2.nf,by rw[htk];simp,hgn,by simp,by simp⟩⟩,?_⟩
      simp only[MU,b27];simp;omega
     ·have hr':=hr.read
      simp[zbX,b25,b26,b27,b6,hlt',hx,hr0,w1,g3,hr']
      have hsm:(ycJ i (ycA yce l)).sum=zdN (l.take i):=by rw[←ycr];rfl
      refine⟨zo9 y,by omega,⟨i+1,by omega,by simp[b25],by simp[b26],by simp,(hA.setF g1).newF (σ':=τ2.setF g .dead),.inr ⟨τ2.nf,by rw[htk];simp,hgn,by simp,by simp⟩⟩,?_⟩
      simp only[MU,b27];simp;omega
   ·have hie:i=l.length:=by omega
    subst hie
    rw[ycn]at hO
    rcases hO with ⟨h0,b6⟩|⟨g,b6,g1,g2,g3⟩
    ·simp[zbX,zg9,b26,b27,b6]
     exact h _ _ ⟨.inl ⟨by have:l.flatten=[]:=ybS.1 (by omega);rw[this];rfl,rfl⟩,hA⟩
    ·simp[zbX,zg9,b26,b27,b6]
     exact h _ _ ⟨.inr ⟨g,rfl,g1,g2,g3⟩,hA⟩
end
def zx(bs:List UInt8):List UInt8:=uI bs.length++bs
def zj(n:UInt8)(bs:List UInt8):List UInt8:=n::zx bs
def zbO(l:List (List UInt8)):List UInt8:=uI l.length++l.flatten
theorem zay(n:Int):(uI n).length≤10:=zx4 10 n
theorem ztg(n:Int):(sI n).length≤10:=zx5 10 n
theorem zLU{k:Nat}{n:Int}:uF (k+1) n≠[]:=by rw[uF];split<;>simp
theorem zwv(n:Int):uI n≠[]:=zLU
section
variable {G : Env} {σ : AS} {R : Out → AS → Prop}
theorem zth{σ1:AS}{v1 v2:AV}{x y:List UInt8}{K:AV→AS→Prop}(h1:zcZ σ σ1 v1 x)(hx:x≠[])(h2:zej σ1 v2 y)(hl:x.length+y.length≤2^42)(h:∀v σ',zcZ σ σ' v (x++y)→K v σ'):zdP yb9 32 32 v1 v2 σ1 K:=by
 obtain⟨ho,hA⟩:=h1
 rcases ho with ⟨h0,_⟩|⟨g,rfl,g1,g2,g3⟩
 ·exact absurd (by simpa [B]using h0) hx
 have hgn:=hA.nf
 rcases h2 with ⟨rfl,rfl⟩|⟨φ,rfl,hr⟩
 ·simp[g3]
  exact⟨by omega,h _ _ ⟨.inr ⟨σ1.nf,by simp,hgn,by simp,by simp⟩,(hA.setF g1).newF (σ':=σ1.setF g .dead)⟩⟩
 ·have hr':=hr.read
  simp[g3,hr']
  exact⟨zo9 y,by omega,h _ _ ⟨.inr ⟨σ1.nf,by simp,hgn,by simp,by simp⟩,(hA.setF g1).newF (σ':=σ1.setF g .dead)⟩⟩
theorem zx6{σ1:AS}{v1 v2:AV}{x y:List UInt8}{K:AV→AS→Prop}(h1:zcZ σ σ1 v1 x)(hx:x≠[])(h2:zej σ1 v2 y)(hl:x.length+y.length≤2^42)(h:∀v σ',zcZ σ σ' v (x++y)→K v σ'):
  zbU yb9 32 (.int .u8 0) 1 v2 σ1.F fun ys=>(∀y,y∈ys→y.cells.length=1∧∀c,c∈y.cells→c.one=true)∧zbb (elT yb9 32) 1 1 v1 ys σ1 K:=by
 have:=zth h1 hx h2 hl h
 simp at this
 exact this
theorem zGI{σ1:AS}{v2:AV}{xs:List AV}{x y:List UInt8}{K:AV→AS→Prop}(hA:zd σ σ1)(e:xs=B x)(hx:x≠[])(h2:zej σ1 v2 y)(hl:x.length+y.length≤2^42)(h:∀v σ',zcZ σ σ' v (x++y)→K v σ')(hy:y≠[]):
  zbU yb9 32 (.int .u8 0) 1 v2 σ1.F fun ys=>(∀y,y∈ys→y.cells.length=1∧∀c,c∈y.cells→c.one=true)∧zbb (elT yb9 32) 1 1 (.sl (.stat true) 1 xs) ys σ1 K:=by
 subst e
 have hgn:=hA.nf
 rcases h2 with ⟨rfl,rfl⟩|⟨φ,rfl,hr⟩
 ·exact absurd rfl hy
 ·have hr':=hr.read
  obtain⟨c,y,rfl⟩:=List.exists_cons_of_ne_nil hy
  have e1:B (c::y)=ycp .u8 (c.toNat:Int)::B y:=rfl
  rw[e1]
  simp[hr']
  have:=zo9 (c::y)
  rw[e1]at this
  exact⟨fun z hz=>zo9 y z hz,by simp at hl;omega,h _ _ ⟨.inr ⟨σ1.nf,by simp[B],hgn,by simp,by simp⟩,hA.newF⟩⟩
theorem zaE{v:AV}{bs:List UInt8}(hv:zej σ v bs)(hl:bs.length<2^40)(h:∀v' σ',zcZ σ σ' v' (zx bs)→R (.ret v') σ'):zzQ G 46 [v] σ R:=by
 refine zAA rfl ?_
 have v1:=hv.one
 have v2:=hv.len
 simp[zMJ,v1,v2]
 refine zcQ (by omega) fun u σ1 hu=>?_
 have hv1:=hv.keep hu.2
 have hul:=zay bs.length
 simp
 refine zx6 hu (zwv _) hv1 (by omega) fun v' σ' h'=>?_
 simp
 exact h _ _ h'
theorem zcF{n:UInt8}{v:AV}{l:List (List UInt8)}(hv:zja σ v l)(hs:zdN l<2^39)(hl:l.length≤2^40)(h:∀v' σ',zcZ σ σ' v' (zj n l.flatten)→R (.ret v') σ'):zzQ G 49 [.int .u8 (n.toNat:Int),v] σ R:=by
 refine zAD rfl ?_
 have hon:=hv.one
 simp[zMM,hon]
 refine za4 hv (by omega) hl fun c σ1 hc=>?_
 have hsl:=zaI l
 simp
 refine zaE hc.byt (by omega) fun d σ2 hd=>?_
 simp
 have hsz:(zx l.flatten).length≤l.flatten.length+10:=by simp only[zx,yab];have:=zay l.flatten.length;omega
 refine zGI (x:=[n]) (hc.2.trans hd.2) rfl (by simp) hd.byt (by have:([n]:List UInt8).length=1:=rfl;omega) (fun v' σ' h'=>?_) (by simp[zx,zwv])
 simp
 exact h _ _ h'
theorem zdA{v:AV}{l:List (List UInt8)}(hv:zja σ v l)(hs:zdN l<2^39)(hl:l.length≤2^40)(h:∀v' σ',zcZ σ σ' v' (zbO l)→R (.ret v') σ'):zzQ G 50 [v] σ R:=by
 refine zAE rfl ?_
 have hlen:=hv.len
 have hon:=hv.one
 simp[zMN,hlen,hon]
 refine zcQ (by omega) fun u σ1 hu=>?_
 have hul:=zay l.length
 have hsl:=zaI l
 simp
 have hv1:=hv.keep hu.2
 refine za4 hv1 (by omega) hl fun c σ2 hc=>?_
 simp
 have hu2:zcZ σ σ2 u (uI l.length):=⟨hu.1.keep hc.2,hu.2.trans hc.2⟩
 refine zx6 hu2 (zwv _) hc.byt (by omega) fun v' σ' h'=>?_
 simp
 exact h _ _ h'
def zgz(l:List Int):List UInt8:=uI l.length++l.map fun t=>zaw (128-t)
def TyI(v:AV)(l:List Int)(σ:AS)(a:Nat→AV)(τ:AS):Prop:=∃i:Nat,i≤l.length∧a 9=v∧a 10=.int .i64 (l.length:Int)∧a 11=.int .i64 (i:Int)∧zcZ σ τ (a 3) (uI l.length++(l.take i).map fun t=>zaw (128-t))
theorem zfY{v:AV}{l:List Int}(hv:Al.IntsO σ v l)(hl:l.length≤2^39)(h:∀v' σ',zcZ σ σ' v' (zgz l)→R (.ret v') σ'):zzQ G 101 [v] σ R:=by
 refine zva rfl ?_
 have v1:=hv.one
 have v2:=hv.len
 simp[zEq,v1,v2]
 refine zcQ (by omega) fun u σ1 hu=>?_
 have hul:=zay l.length
 simp[v2]
 refine zH (TyI v l σ) (MU 11 (l.length+1)) ⟨0,by omega,by simp,by simp,by simp,by simpa using hu⟩ fun a τ hI=>?_
 obtain⟨i,hi,a9,a10,a11,hO⟩:=hI
 by_cases hlt:i<l.length
 ·have hlt':(i:Int)<(l.length:Int):=by omega
  obtain⟨φ,hr,hix⟩:=(hv.keep hO.2).at hlt
  have hr':=hr.read
  have hg:=yau hlt
  have htk:=za0 hg
  generalize l[i]=t at *
  have w1:yb4 .i64 ((i:Int)+1)=((i+1:Nat):Int):=by rw[zc]<;>omega
  have w2:yb4 .u8 (yb4 .i64 (128-t))=((zaw (128-t)).toNat:Int):=by
   rw[wrap_u8,zbI,zbI]
   simp[yb4,yao,yap]
   omega
  obtain⟨hq,hA⟩:=hO
  rcases hq with ⟨h0,_⟩|⟨g,b3,g1,g2,g3⟩
  ·have:uI l.length=[]:=by
    have h0:(B (uI l.length++(l.take i).map fun t=>zaw (128-t))).length=0:=by rw[h0];rfl
    rw[zLT,yab]at h0
    exact ybS.1 (by omega)
   exact absurd this (zwv _)
  have hgn:=hA.nf
  simp[zlL,a9,a10,a11,hlt',hix,hr',b3,w1,w2,g3]
  refine⟨by omega,⟨i+1,by omega,by simp[a9],by simp[a10],by simp,.inr ⟨τ.nf,by rw[htk];simp[B],hgn,by simp,by simp⟩,(hA.setF g1).newF (σ':=τ.setF g .dead)⟩,?_⟩
  simp only[MU,a11];simp;omega
 ·have hie:i=l.length:=by omega
  subst hie
  rw[ycn]at hO
  simp[zlL,zpS,a10,a11]
  exact h _ _ hO
def zd0(t:Int):List UInt8:=if t=0 then zgz []else zgz [t]
theorem zmf{t:Int}(h:∀v' σ',zcZ σ σ' v' (zd0 t)→R (.ret v') σ'):zzQ G 102 [.int .i64 t] σ R:=by
 refine zvb rfl ?_
 by_cases ht:t=0
 ·have e:zd0 t=zgz []:=if_pos ht
  rw[e]at h
  simp[zA7,ht]
  refine zfY (l:=[]) (.inl ⟨rfl,rfl⟩) (by simp) fun v σ1 h1=>?_
  simp
  exact h _ _ h1
 ·have e:zd0 t=zgz [t]:=if_neg ht
  rw[e]at h
  simp[zA7,ht]
  refine zfY (l:=[t]) (.inr ⟨.stat true,rfl,trivial⟩) (by simp) fun v σ1 h1=>?_
  simp
  exact h _ _ h1
def zd1(takes:List Int)(zgr:Int):List UInt8:=96::(zgz takes++zd0 zgr)
theorem zff(l:List Int):(zgz l).length≤l.length+10:=by
 have:=zay l.length
 simp[zgz];omega
theorem zhJ(t:Int):(zd0 t).length≤11:=by
 unfold zd0
 split
 ·exact yai (zff []) (by simp)
 ·exact zff [t]
theorem zfg{v:AV}{l:List Int}{g:Int}(hv:Al.IntsO σ v l)(hl:l.length≤2^38)(h:∀v' σ',zcZ σ σ' v' (zd1 l g)→R (.ret v') σ'):zzQ G 44 [v,.int .i64 g] σ R:=by
 refine zAy rfl ?_
 have v1:=hv.one
 have e0:zax 32 [(0,Operand.const (.int .u8 96))]=false:=by decide
 simp[zMH,v1,e0]
 refine zfY hv (by omega) fun t σ1 ht=>?_
 have ht1:=ht.byt
 simp
 refine zmf fun r σ2 hr=>?_
 have t1:=(ht1.keep hr.2).one
 have r1:=hr.byt.one
 have hb:zej σ2 (.sl (.stat true) 1 [.int .u8 96]) [96]:=.inr ⟨_,rfl,trivial⟩
 simp[t1,r1]
 have l1:=zff l
 have l2:=zhJ g
 refine za4 (l:=[[96],zgz l,zd0 g]) (zja.lit (.cons hb (.cons (ht1.keep hr.2) (.cons hr.byt .nil)))) (by simp[zdN];omega) (by simp) fun c σ3 hc=>?_
 simp
 have:=zcZ.behind (ht.2.trans hr.2) hc
 simpa [zd1]using h _ _ (by simpa [zd1]using this)
theorem zej.at{v:AV}{bs:List UInt8}(h:zej σ v bs){i:Nat}(hi:i<bs.length):∃φ,Al.Rd σ φ∧∀K:AV→Prop,zA yb9 32 v (.int .i64 (i:Int)) K=K (.pv φ (.int .u8 (bs[i].toNat:Int))):=by
 rcases h with ⟨rfl,_⟩|⟨φ,rfl,r⟩
 ·simp at hi
 ·exact⟨φ,r,fun K=>by simp[hi,B]⟩
def SbI(va vb:AV)(x y:List UInt8)(σ:AS)(a:Nat→AV)(τ:AS):Prop:=∃i:Nat,i≤x.length∧a 0=va∧a 1=vb∧a 5=.int .i64 (i:Int)∧τ=σ∧x.take i=y.take i
theorem zbJ{va vb:AV}{x y:List UInt8}(ha:zej σ va x)(hb:zej σ vb y)(hl:x.length≤2^40)(h:R (.ret (.bool (decide (x=y)))) σ):zzQ G 15 [va,vb] σ R:=by
 refine zAk rfl ?_
 have a1:=ha.one
 have a2:=ha.len
 have b1:=hb.one
 have b2:=hb.len
 by_cases hxy:x.length=y.length
 ·simp[zK4,a1,a2,b1,b2,hxy]
  refine zH (SbI va vb x y σ) (MU 5 (x.length+1)) ⟨0,by omega,by simp,by simp,by simp,rfl,by simp⟩ fun a τ hI=>?_
  obtain⟨i,hi,c0,c1,c5,rfl,heq⟩:=hI
  by_cases hlt:i<x.length
  ·have hlt':(i:Int)<(y.length:Int):=by omega
   obtain⟨φ,hr,hix⟩:=ha.at hlt
   obtain⟨ψ,hs,hiy⟩:=hb.at (show i<y.length by omega)
   have hr':=hr.read
   have hs':=hs.read
   have gx:=za0 (yau hlt)
   have gy:=za0 (yau (show i<y.length by omega))
   have w1:yb4 .i64 ((i:Int)+1)=((i+1:Nat):Int):=by rw[zc]<;>omega
   by_cases hc:x[i]=y[i]
   ·simp[zlv,c0,c1,c5,a2,hxy,hlt',hix,hiy,hr',hs',hc,w1]
    refine⟨⟨i+1,by omega,by simp[c0],by simp[c1],by simp,rfl,by rw[gx,gy,heq,hc]⟩,?_⟩
    simp only[MU,c5];simp;omega
   ·have hne:¬x=y:=fun e=>hc (by subst e;rfl)
    have hc':¬((x[i].toNat:Int)=(y[i].toNat:Int)):=fun e=>hc (UInt8.toNat_inj.1 (by exact_mod_cast e))
    simp[zlv,c0,c1,c5,a2,hxy,hlt',hix,hiy,hr',hs',hc,hc']
    simpa [hne]using h
  ·have hie:i=x.length:=by omega
   subst hie
   have e:x=y:=by rw[ycn,hxy,ycn]at heq;exact heq
   simp[zlv,zsE,c0,c5,a2,hxy]
   simpa [e]using h
 ·have hne:¬x=y:=fun e=>hxy (by rw[e])
  have hxy':¬((x.length:Int)=(y.length:Int)):=by omega
  simp[zK4,a1,a2,b1,b2,hxy,hxy']
  simpa [hne]using h
theorem zpb{va vb:AV}{x y:List UInt8}(ha:zej σ va x)(hb:zej σ vb y)(h:R (.ret (.bool (decide (x=y)))) σ):zzQ G 43 [va,vb] σ R:=by
 refine zAx rfl ?_
 rcases ha with ⟨rfl,rfl⟩|⟨φ,rfl,hr⟩<;>rcases hb with ⟨rfl,rfl⟩|⟨ψ,rfl,hs⟩
 ·simp[zEo]
  simpa using h
 ·have hs':=hs.read
  simp[zEo,hs']
  simpa using h
 ·have hr':=hr.read
  simp[zEo,hr']
  simpa using h
 ·have hs':=hs.read
  have hr':=hr.read
  simp[zEo,hr',hs']
  simpa using h
theorem zGJ:yb9.underlying 32=some (.slice 5):=by kernel_rfl
@[simp] theorem zGK:aeq yb9 32 .nilsl .nilsl=some true:=by simp[aeq,zjS,zGJ]
@[simp] theorem zKd(φ k l):aeq yb9 32 (.sl φ k l) .nilsl=some false:=by simp[aeq,zjS,zGJ]
theorem zpc{v:AV}{bs:List UInt8}(hv:zej σ v bs)(hl:bs.length≤2^40)(h:∀v' σ',zej σ' v' bs→zd σ σ'→R (.ret v') σ'):zzQ G 38 [v] σ R:=by
 refine zAs rfl ?_
 rcases hv with ⟨rfl,rfl⟩|⟨φ,rfl,hr⟩
 ·simp[zK5]
  exact h _ _ (.inl ⟨rfl,rfl⟩) (.refl _)
 ·have hr':=hr.read
  simp[zK5,hr']
  refine⟨zo9 bs,?_⟩
  cases bs with
  | nil =>
   have e1:B []=[]:=rfl
   rw[e1]
   simp
   exact h _ _ (.inr ⟨.stat true,rfl,trivial⟩) (.refl _)
  | cons c y =>
   have e1:B (c::y)=ycp .u8 (c.toNat:Int)::B y:=rfl
   rw[e1]
   simp
   refine⟨by simp at hl;omega,?_⟩
   exact h _ _ (.inr ⟨.fam σ.nf false,by simp[B],by simp,by simp⟩) (zd.refl _).newF
end
def zqm:List UInt8:=[97,100,100,32,115,117,98,32,109,117,108,32,100,105,118,95,115,32,114,101,109,95,115,32,97,110,100,32,111,114,32,120,111,114,32,115,104,108,32,115,104,114,95,115,32,101,113,32,110,101,32,108,116,95,115,32,103,116,95,115,32,108,101,95,115,32,103,101,95,115]
def zaf:List (List UInt8):=[[97,100,100],[115,117,98],[109,117,108],[100,105,118,95,115],[114,101,109,95,115],[97,110,100],[111,114],[120,111,114],[115,104,108],[115,104,114,95,115],[101,113],[110,101],[108,116,95,115],[103,116,95,115],[108,101,95,115],[103,101,95,115]]
def zfZ(c:UInt8):Bool:=c==32||(9≤c&&c≤13)
def zfA:List AV:=(List.range 256).map fun c=>.int .u8 (if zfZ (UInt8.ofNat c)then 1 else 0)
def zpd:List UInt8:=[106,107,108,109,111,113,114,115,116,117,70,71,72,74,76,78]
def zpe:List UInt8:=[124,125,126,127,129,131,132,133,134,135,81,82,83,85,87,89]
def pw(op ty n:Int):W:={ op:=op,ty:=ty,n:=n,body:=0,other:=0,name:=[] }
def zag:List (UInt8 × W):=[(0x45,pw 5 1 0),(0x50,pw 5 2 0),(0xA7,pw 6 0 0),(0xAC,pw 7 0 0),(0x2C,pw 8 1 1),(0x28,pw 8 1 4),(0x29,pw 8 2 8),(0x3A,pw 9 1 1),(0x36,pw 9 1 4),(0x37,pw 9 2 8),(0x0F,pw 16 0 0),(0x00,pw 17 0 0),(0x1A,pw 18 0 0)]
def zf8:List (UInt8 × W):=[(0x41,pw 1 1 0),(0x42,pw 1 2 0),(0x20,pw 2 0 0),(0x21,pw 3 0 0),(0x10,pw 10 0 0),(0x0C,pw 14 0 0),(0x0D,pw 15 0 0)]
def zbd(l:List (UInt8 × W)):List AV:=l.map fun p=>.int .u8 (p.1.toNat:Int)
def zbS(l:List (UInt8 × W)):List AV:=l.map fun p=>p.2.av
structure zd2(G:Env):Prop where
 bytes:G.g 1=.pv (.stat true) (.agg [.str zpd,.str zpe])
 plain:∃l:List (UInt8 × W),l.Perm zag∧G.g 2=.pv (.stat true) (.mp (zbd l) (zbS l))
 nums:∃l:List (UInt8 × W),l.Perm zf8∧G.g 3=.pv (.stat true) (.mp (zbd l) (zbS l))
 space:G.g 0=.pv (.stat true) (.agg zfA)
theorem zik(c:UInt8):zfA[c.toNat]?=some (.int .u8 (if zfZ c then 1 else 0)):=by
 have h:c.toNat<256:=c.toNat_lt
 have:∀k:Fin 256,zfA[k.1]?=some (.int .u8 (if zfZ (UInt8.ofNat k.1)then 1 else 0)):=by
  intro k;simp[zfA]
 have:=this ⟨c.toNat,h⟩
 simpa using this
def fC(L:List UInt8):Nat→Nat × Bool × UInt8
 | 0=>(0,true,0)
 | i+1=>let c:=L.getD i 0;let p:=fC L i;(p.1+(if p.2.1&&!zfZ c then 1 else 0),zfZ c,p.2.2 ||| c)
def fS(L:List UInt8):Nat→Nat × Nat
 | 0=>(0,0)
 | i+1=>if zfZ (L.getD i 0)then(i+1,(fS L i).2+1)else fS L i
theorem zww(L:List UInt8):∀k,(fC L k).1≤k:=by
 intro k
 induction k with
 | zero=>simp[fC]
 | succ k ih=>simp only[fC];split<;>omega
def zdB(T:List (List UInt8))(k:Nat):List AV:=(T.take k).map yco++yaj (T.length-k) (.str [])
structure zwx(L:List UInt8)(T:List (List UInt8))(e:Nat):Prop where
 len:L.length≤1000
 tl:T.length≤1000
 fact:∀i:Fin L.length,(zfZ (L.getD i 0)=true→T[(fS L i).2]?=some ((L.take i).drop (fS L i).1)∧(fS L i).2<T.length∧(fS L i).1≤i∧i.1+1<L.length∧zfZ (L.getD (i.1+1) 0)=false∧fS L (i.1+1)=(i.1+1,(fS L i).2+1))∧(zfZ (L.getD i 0)=false→fS L (i.1+1)=fS L i)
 cnt:fC L L.length=(T.length,false,(fC L L.length).2.2)
 low:(fC L L.length).2.2.toNat<128
 head:∃c r,L=c::r∧zfZ c=false
 fin:fS L L.length=(e,T.length-1)
 lt:e<L.length
 last:T[T.length-1]?=some (L.drop e)
theorem zjb{T:List (List UInt8)}{k:Nat}{b:List UInt8}(h:T[k]?=some b):splice (zdB T k) k [.str b]=zdB T (k+1):=by
 have hk:=(yaq.1 h).1
 have ht:=za0 h
 have hA:((T.take k).map yco).length=k:=by simp;omega
 unfold splice zdB
 rw[List.take_left' hA,ht,ycI]
 have e:T.length-k=(T.length-(k+1))+1:=by omega
 have hd:((T.take k).map yco++yaj (T.length-k) (yco [])).drop (k+[yco b].length)=yaj (T.length-(k+1)) (yco []):=by
  rw[List.drop_append,List.drop_eq_nil_of_le (by rw[hA];simp),hA,e]
  simp
 rw[hd]
 simp
theorem zrl{T:List (List UInt8)}(hT:T.length≤1000){σ:AS}{K:AV→AS→Prop}:zmX yb9 22 (.int .i64 (T.length:Int)) (.int .i64 (T.length:Int)) σ K=K (.slm σ.no 0 1 T.length) (σ.newO (zdB T 0)):=by
 have e1:zcl yb9 22=some 1:=by kernel_rfl
 have e2:zbE yb9 22=some 16:=by kernel_rfl
 have e3:zaV yb9 22=some (.str []):=by kernel_rfl
 have e5:zt (yaj T.length (yco []))=yaj T.length (yco []):=by
  generalize T.length=n
  induction n with
  | zero=>rfl
  | succ n ih=>simp only[zt,ycz,yaa]at *;rw[ih];rfl
 simp[zmX,e1,e2,e3,AV.cells,AV.known,e5,zdB]
 exact⟨fun q=>q.2.2,fun q=>⟨by omega,by omega,q⟩⟩
section
variable {G : Env} {σ : AS} {R : Out → AS → Prop}
def F1(L:List UInt8)(σ:AS)(a:Nat→AV)(τ:AS):Prop:=∃i:Nat,i≤L.length∧a 0=.str L∧a 3=.int .i64 ((fC L i).1:Nat)∧a 4=.int .i64 (if(fC L i).2.1 then 1 else 0)∧a 5=.int .u8 ((fC L i).2.2.toNat:Nat)∧a 6=.int .i64 (i:Nat)∧τ=σ
def F4(L:List UInt8)(T:List (List UInt8))(σ:AS)(x:Nat)(a:Nat→AV)(τ:AS):Prop:=∃i:Nat,i≤L.length∧a 0=.str L∧a 9=.slm x 0 1 T.length∧a 10=.int .i64 ((fS L i).2:Nat)∧a 11=.int .i64 ((fS L i).1:Nat)∧a 12=.int .i64 (i:Nat)∧zd σ τ∧x<τ.no∧τ.objs x=some (zdB T (fS L i).2)
theorem zhh{L:List UInt8}{T:List (List UInt8)}{e:Nat}(hok:zwx L T e)(v3:G.g 0=.pv (.stat true) (.agg zfA))(h:∀x σ',zd σ σ'→σ.no≤x→x<σ'.no→σ'.objs x=some (T.map yco)→R (.ret (.slm x 0 1 T.length)) σ'):zzQ G 57 [.str L] σ R:=by
 refine zAJ rfl ?_
 have hL:=hok.len
 have hT:=hok.tl
 simp[zMQ]
 refine zH (F1 L σ) (MU 6 (L.length+1)) ⟨0,by omega,by simp,by simp[fC],by simp[fC],by simp[fC],by simp,rfl⟩ fun a τ hI=>?_
 obtain⟨i,hi,a0,a3,a4,a5,a6,rfl⟩:=hI
 by_cases hlt:i<L.length
 ·have hlt':(i:Int)<(L.length:Int):=by omega
  have hg:=yau hlt
  have hf:fC L (i+1)=((fC L i).1+(if(fC L i).2.1&&!zfZ L[i]then 1 else 0),zfZ L[i],(fC L i).2.2 ||| L[i]):=by simp[fC,hg]
  have hn:=zww L i
  generalize L[i]=c at *
  have hs:=zik c
  have w1:yb4 .i64 ((i:Int)+1)=((i+1:Nat):Int):=by rw[zc]<;>omega
  have w0:∀b:UInt8,zca .u8 (· ||| ·) (b.toNat:Int) (c.toNat:Int)=((b ||| c).toNat:Int):=fun b=>zme (· ||| ·) b c
  have c1:(c.toNat:Int)<256:=by have:=c.toNat_lt;omega
  generalize fC L i=p at *
  obtain⟨n,ws,b⟩:=p
  have w2:yb4 .i64 ((n:Int)+1)=((n+1:Nat):Int):=by rw[zc]<;>omega
  have w3:yb4 .i64 (n:Int)=(n:Int):=by rw[zc]<;>omega
  have w4:yb4 .i64 0=0:=rfl
  have w5:yb4 .i64 1=1:=rfl
  have z0:zca .i64 (· ^^^ ·) (-1) 0=-1:=by decide
  have z1:zca .i64 (· ^^^ ·) (-1) 1=-2:=by decide
  have z2:zca .i64 (· &&& ·) 1 (-1)=1:=by decide
  have z3:zca .i64 (· &&& ·) 1 (-2)=0:=by decide
  have z4:zca .i64 (· &&& ·) 0 (-1)=0:=by decide
  have z5:zca .i64 (· &&& ·) 0 (-2)=0:=by decide
  have z6:yao .i64=true:=rfl
  cases hsp:zfZ c<;>cases ws<;>simp only[hsp,if_true,if_false,Bool.false_eq_true]at hs hf a4 ⊢<;>simp at hn a3 a5<;>simp[zoI,a0,a3,a4,a5,a6,hlt',hg,v3,hs,c1,w0,w1,w2,w3,w4,w5,z0,z1,z2,z3,z4,z5,z6,-UInt8.toNat_or]<;>refine⟨⟨i+1,by omega,by simp[a0],by simp[hf],by simp[hf,hsp],by simp[hf],by simp,rfl⟩,?_⟩<;>simp only[MU,a6]<;>simp<;>omega
 ·have hie:i=L.length:=by omega
  subst hie
  have e1:=hok.cnt
  have e2:¬(128:Int)≤((fC L L.length).2.2.toNat:Nat):=by have:=hok.low;omega
  rw[e1]at a3 a4 a5
  simp[zoI,zsM,a0,a3,a4,a5,a6,e2,zrl hT]
  refine zH (fun a2 τ2=>a2 0=.str L∧a2 9=.slm τ.no 0 1 T.length∧a2 10=.int .i64 0∧a2 12=.int .i64 0∧τ2=τ.newO (zdB T 0)) (fun _ _=>0) ⟨by simp[a0],by simp,by simp,by simp,rfl⟩ fun a2 τ2 hI2=>?_
  obtain⟨b0,b9,b10,b12,rfl⟩:=hI2
  obtain⟨q0,r0,hLc,hsp0⟩:=hok.head
  have w5:0<L.length:=by rw[hLc];simp
  have g0:L[0]'w5=q0:=by simp[hLc]
  have t0:=zik q0
  rw[hsp0]at t0
  have q256:(q0.toNat:Int)<256:=by have:=q0.toNat_lt;omega
  simp at t0
  simp[zsH,zsL,b0,b9,b10,b12,g0,t0,v3,w5,q256]
  refine zH (F4 L T τ τ.no) (MU 12 (L.length+1)) ⟨0,by omega,by simp[b0],by simp[b9],by simp[b10,fS],by simp[fS],by simp[b12],(zd.refl τ).newO,by simp,by simp[fS]⟩ fun a3 τ3 hI3=>?_
  obtain⟨i,hi,c0,c9,c10,c11,c12,hA,hx,ho⟩:=hI3
  by_cases hlt:i<L.length
  ·have hlt':(i:Int)<(L.length:Int):=by omega
   have hg:=yau hlt
   obtain⟨f1,f2⟩:=hok.fact ⟨i,hlt⟩
   have hgd:L.getD i 0=L[i]:=by simp[hg]
   simp only[hgd]at f1 f2
   have w1:yb4 .i64 ((i:Int)+1)=((i+1:Nat):Int):=by rw[zc]<;>omega
   generalize L[i]=c at *
   have hs:=zik c
   have c1:(c.toNat:Int)<256:=by have:=c.toNat_lt;omega
   cases hsp:zfZ c with
   | false =>
    rw[hsp]at hs
    have f2:=f2 hsp
    simp at hs
    simp[zlH,c0,c9,c10,c11,c12,hlt',hg,v3,hs,c1,w1]
    refine⟨⟨i+1,by omega,by simp[c0],by simp[c9],by simp[c10,f2],by simp[c11,f2],by simp,hA,hx,by simp[ho,f2]⟩,?_⟩
    simp only[MU,c12];simp;omega
   | true =>
    rw[hsp]at hs
    obtain⟨g1,g2,g3,g4,g5,g6⟩:=f1 hsp
    simp at hs
    simp[zlH,c0,c9,c10,c11,c12,hlt',hg,v3,hs,c1,w1,ho]
    have hlen:(zdB T (fS L i).2).length=T.length:=by
     simp only[zdB,yab,ybb,ybf,yba]
     omega
    refine⟨g3,by omega,by omega,by omega,?_⟩
    refine zH (fun b τ4=>b 0=.str L∧b 9=.slm τ.no 0 1 T.length∧b 10=.int .i64 (((fS L i).2+1:Nat):Int)∧b 12=.int .i64 ((i+1:Nat):Int)∧zd τ τ4∧τ.no<τ4.no∧τ4.objs τ.no=some (zdB T ((fS L i).2+1))) (fun _ _=>0) ⟨by simp[c0],by simp[c9],by simp;rw[zc]<;>omega,by simp,hA.setO (by omega),by simp;exact hx,by simp;exact zjb g1⟩ fun b τ4 hI4=>?_
    obtain⟨d0,d9,d10,d12,hA4,hx4,ho4⟩:=hI4
    have hlt2:(((i+1:Nat):Int))<(L.length:Int):=by omega
    have hlt3:i+1<L.length:=by omega
    have hg2:=yau hlt3
    have hgd2:L.getD (i+1) 0=L[i+1]:=by simp[hg2]
    simp only[hgd2]at g5
    generalize L[i+1]=c' at *
    have hs2:=zik c'
    rw[g5]at hs2
    have c1':(c'.toNat:Int)<256:=by have:=c'.toNat_lt;omega
    simp at hs2
    simp only[ycG,ycH]at d12 hlt2
    simp[zsI,zsJ,d0,d9,d10,d12,hlt2,hg2,v3,hs2,c1']
    refine⟨by omega,⟨i+1,by omega,by simp[d0],by simp[d9],by simp[d10,g6],by simp[g6],by simp[d12],hA4,hx4,by simp[ho4,g6]⟩,?_⟩
    simp only[MU,c12];simp[d12];omega
  ·have hie:i=L.length:=by omega
   subst hie
   have e3:=hok.fin
   have hlast:=hok.last
   obtain⟨n,hn⟩:∃n,T.length=n+1:=⟨T.length-1,by have:=(yaq.1 hlast).1;omega⟩
   have e4:T.length-1=n:=by omega
   rw[e4]at e3 hlast
   rw[e3]at c10 c11 ho
   have w7:=hok.lt
   have w6:(e:Int)<(L.length:Int):=by omega
   have hnT:n<T.length:=by omega
   have hnTi:(n:Int)<(T.length:Int):=by omega
   simp at c10 c11 ho
   simp[zlH,zsK,c0,c9,c10,c11,c12,ho,w6,w7,hnT,hnTi]
   have hlen:(zdB T n).length=T.length:=by
    simp only[zdB,yab,ybb,ybf,yba]
    omega
   refine⟨by omega,by omega,?_⟩
   rw[zjb hlast]
   refine h τ.no _ (hA.setO (by omega)) (by omega) (by simpa using hx) ?_
   simp[zdB,←hn]
theorem zBv:zwx zqm zaf 66:=⟨by decide,by decide,by decide,by decide,by decide,⟨97,_,rfl,by decide⟩,by decide,by decide,by decide⟩
theorem fields_calls(v3:G.g 0=.pv (.stat true) (.agg zfA))(h:∀x σ',zd σ σ'→σ.no≤x→x<σ'.no→σ'.objs x=some (zaf.map yco)→R (.ret (.slm x 0 1 16)) σ'):zzQ G 57 [.str zqm] σ R:=zhh zBv v3 h
end
def zjc(s:List UInt8):Option Nat:=zaf.findIdx? (·==s)
def zr1(w:W):Int:=if w.op=8∨w.op=9 then w.n else 0
def zdC(w:W)(p:UInt8 × W):Bool:=decide (p.2.op=w.op)&&(decide (p.2.n=zr1 w)&&(decide (p.2.ty=0)||decide (p.2.ty=w.ty)))
def zkb(w:W):UInt8:=(((zag++zf8).find? (zdC w)).map (·.1)).getD 0
def zrm(w:W):Option UInt8:=if w.op=4 then(match zjc w.name with
  | some i=>if w.ty=1 then zpd[i]? else if w.ty=2 then zpe[i]? else none
  | none=>none)else some (zkb w)
def left(zbo:List Nat):Nat→Nat
 | 0=>0
 | n+1=>left zbo n+if n∈zbo then 0 else 1
theorem zti(zbo:List Nat)(i:Nat):∀n,left (zbo++[i]) n≤left zbo n
 | 0=>yah _
 | n+1=>by
  have:=zti zbo i n
  simp only[left,ybh,ycD]
  by_cases h:n∈zbo<;>simp[h]
  ·exact this
  ·split<;>omega
theorem zpf{zbo:List Nat}{i:Nat}(h:i∉zbo):∀n,i<n→left (zbo++[i]) n<left zbo n
 | 0,hi=>by omega
 | n+1,hi=>by
  have h2:=zti zbo i n
  simp only[left,ybh,ycD]
  by_cases hn:i=n
  ·subst hn
   simp[h]
   omega
  ·have:=zpf h n (by omega)
   by_cases h':n∈zbo
   ·simp[h'];exact this
   ·have:¬n=i:=fun e=>hn e.symm
    simp[h',this];exact zpf h n (by omega)
theorem zwy(w:W):∀p∈zag++zf8,∀q∈zag++zf8,zdC w p=true→zdC w q=true→p=q:=by
 have key:∀p∈zag++zf8,∀q∈zag++zf8,p.2.op=q.2.op→p.2.n=q.2.n→(p.2.ty=q.2.ty∨p.2.ty=0∨q.2.ty=0)→p.1=q.1∧p.2.op=q.2.op:=by decide
 have key2:∀p∈zag++zf8,∀q∈zag++zf8,p.1=q.1→p=q:=by decide
 intro p hp q hq h1 h2
 simp only[zdC,Bool.and_eq_true,Bool.or_eq_true,decide_eq_true_eq]at h1 h2
 refine key2 p hp q hq (key p hp q hq (h1.1.trans h2.1.symm) (h1.2.1.trans h2.2.1.symm) ?_).1
 rcases h1.2.2 with h|h
 ·exact .inr (.inl h)
 ·rcases h2.2.2 with h'|h'
  ·exact .inr (.inr h')
  ·exact .inl (h.trans h'.symm)
theorem zwz{w:W}{p:UInt8 × W}(hp:p∈zag++zf8)(h:zdC w p=true):zkb w=p.1:=by
 unfold zkb
 cases hq:(zag++zf8).find? (zdC w)with
 | none=>exact absurd h (by simpa using ycK.1 hq p hp)
 | some q=>rw[zwy w q (List.mem_of_find?_eq_some hq) p hp (List.find?_some hq) h];rfl
theorem ztj{w:W}(h:∀p∈zag++zf8,zdC w p=false):zkb w=0:=by
 unfold zkb
 rw[ycK.2 (fun p hp=>by simp[h p hp])]
 rfl
section
variable {G : Env} {σ : AS} {R : Out → AS → Prop}
def IxI(x:Nat)(s:List UInt8)(σ:AS)(a:Nat→AV)(τ:AS):Prop:=∃i:Nat,i≤16∧a 0=.slm x 0 1 16∧a 1=.str s∧a 7=.int .i64 16∧a 8=.int .i64 (i:Int)∧τ=σ∧∀j,j<i→zaf[j]?≠some s
theorem zpg{x:Nat}{s:List UInt8}(ho:σ.objs x=some (zaf.map yco))(h:∀i:Nat,zjc s=some i→i<16→R (.ret (.int .i64 (i:Int))) σ)(h0:zjc s=none→R (.ret (.int .i64 (-1))) σ):zzQ G 157 [.slm x 0 1 16,.str s] σ R:=by
 refine zp9 rfl ?_
 have hl:zaf.length=16:=rfl
 simp[zBd]
 refine zH (IxI x s σ) (MU 8 17) ⟨0,by omega,by simp,by simp,by simp,by simp,rfl,by simp⟩ fun a τ hI=>?_
 obtain⟨i,hi,a0,a1,a7,a8,rfl,hn⟩:=hI
 by_cases hlt:i<16
 ·have hlt':(i:Int)<16:=by omega
  have hg:=yau (show i<zaf.length by omega)
  have w1:yb4 .i64 ((i:Int)+1)=((i+1:Nat):Int):=by rw[zc]<;>omega
  generalize zaf[i]=y at *
  by_cases he:s=y
  ·subst he
   simp[zdX,a0,a1,a7,a8,hlt',ho,hg]
   refine h i ?_ hlt
   unfold zjc
   rw[ycL]
   obtain⟨hb,he⟩:=yaq.1 hg
   refine⟨hb,by simp[he],fun j hj=>?_⟩
   have:=hn j hj
   rw[yau (show j<zaf.length by omega)]at this
   simpa using this
  ·simp[zdX,a0,a1,a7,a8,hlt',ho,hg,he,w1]
   refine⟨⟨i+1,by omega,by simp[a0],by simp[a1],by simp[a7],by simp,rfl,fun j hj hs=>?_⟩,?_⟩
   ·rcases ycM j i with h1|h1
    ·exact hn j h1 hs
    ·have:j=i:=by omega
     subst this
     rw[hg]at hs
     exact he (by cases hs;rfl)
   ·simp only[MU,a8];simp;omega
 ·have hie:i=16:=by omega
  subst hie
  simp[zdX,zl1,a0,a1,a7,a8]
  refine h0 ?_
  unfold zjc
  rw[List.findIdx?_eq_none_iff]
  intro y hy
  obtain⟨j,hj,rfl⟩:=ya9 hy
  have:=hn j (by omega)
  rw[yau hj]at this
  simpa using this
def MpI(σ:AS)(l:List (UInt8 × W))(w:W)(k n:Nat)(v33:AV)(a:Nat→AV)(τ:AS):Prop:=∃f zbo,a 1=.ptr k 0∧a 3=.int .i64 (zr1 w)∧a 33=v33∧a 34=.int .i64 2∧a 35=.int .i64 (n:Int)∧a 40=.itr f (zbd l) (zbS l) zbo∧σ.nf≤f∧f<τ.nf∧τ.F f=.alive∧zd σ τ∧k<τ.no∧τ.objs k=some w.cs∧∀i∈zbo,∀p,l[i]?=some p→zdC w p=false
def MLf(n:Nat)(a:Nat→AV)(_:AS):Nat:=match a 40 with
 | .itr _ _ _ zbo=>left zbo n
 | _=>0
def MpO(σ:AS)(ls:List (List (UInt8 × W)))(w:W)(k:Nat)(v33:AV)(a:Nat→AV)(τ:AS):Prop:=∃n:Nat,n≤2∧a 1=.ptr k 0∧a 3=.int .i64 (zr1 w)∧a 33=v33∧a 34=.int .i64 2∧a 35=.int .i64 (n:Int)∧zd σ τ∧k<τ.no∧τ.objs k=some w.cs∧∀l∈ls.take n,∀p∈l,zdC w p=false
@[simp] theorem zGL(f ks vs zbo)(K:AV→AV→AS→Prop):zok (.itr f ks vs zbo) σ K=(σ.F f=.alive∧((∀i,i<ks.length→i∈zbo)→K (.itr f ks vs zbo) (.tuple [.bool false]) σ) ∧
   ∀i k x,ks[i]?=some k→vs[i]?=some x→i∉zbo→K (.itr σ.nf ks vs (zbo++[i])) (.tuple [.bool true,k,x]) (σ.setF f .dead).newF):=rfl
@[simp] theorem zBw:AV.undef.cells=[.undef]:=rfl
@[simp] theorem zGM(ks vs)(K:AV→AS→Prop):zhw yb9 184 (.mp ks vs) σ K=K (.itr σ.nf ks vs []) σ.newF:=by
 have h:yb9.underlying 184=some (.map 5 53):=by kernel_rfl
 simp[zhw,h]
@[simp] theorem zC9(f ks vs zbo)(K:AV→Prop):zhx (.itr f ks vs zbo) σ K=(σ.F f=.alive∧zS zbo.getLast? fun i=>zS ks[i]? fun k=>zS vs[i]? fun x=>K (.tuple [k,x])):=by
 simp only[zhx,zS]
 refine propext ⟨fun⟨h,i,k,x,h1,h2,h3,h4⟩=>⟨h,i,h1,k,h2,x,h3,h4⟩,fun⟨h,i,h1,k,h2,x,h3,h4⟩=>⟨h,i,k,x,h1,h2,h3,h4⟩⟩
theorem zwA{l:List (UInt8 × W)}{i:Nat}{k x:AV}(hk:(zbd l)[i]?=some k)(hv:(zbS l)[i]?=some x):∃p,l[i]?=some p∧k=.int .u8 (p.1.toNat:Int)∧x=p.2.av:=by
 simp only[zbd,zbS,ycB,ybB]at hk hv
 obtain⟨p,h1,rfl⟩:=hk
 obtain⟨q,h2,rfl⟩:=hv
 rw[h1]at h2
 cases h2
 exact⟨p,h1,rfl,rfl⟩
theorem ztk{l1 l2:List (UInt8 × W)}{w:W}{k:Nat}(p1:∀p,p∈l1↔p∈zag)(p2:∀p,p∈l2↔p∈zf8)(h:∀σ',zd σ σ'→R (.ret (.int .u8 ((zkb w).toNat:Int))) σ'){a:Nat→AV}{τ:AS}
  (hI:MpO σ [l1,l2] w k (.sl (.stat true) 1 [.mp (zbd l1) (zbS l1),.mp (zbd l2) (zbS l2)]) a τ) :
  avc yb9 G 71 zgl (z7 (fun a' σ'=>MpO σ [l1,l2] w k (.sl (.stat true) 1 [.mp (zbd l1) (zbS l1),.mp (zbd l2) (zbS l2)]) a' σ'∧MU 35 3 a' σ'<MU 35 3 a τ)
   (z8 0 (z7 (avc yb9 G 71 zh9 (zba yb9 [.tmp 2] R)) (zba yb9 [.tmp 2] R)))) a τ:=by
 obtain⟨n,hn,a1,a3,a33,a34,a35,hA,hk,ho,hno⟩:=hI
 rcases ycM n 2 with hlt|hge
 ·have hlt':(n:Int)<2:=by omega
  have w1:yb4 .i64 ((n:Int)+1)=((n+1:Nat):Int):=by rw[zc]<;>omega
  obtain⟨l,hl,hlx,hsub⟩:∃l,[AV.mp (zbd l1) (zbS l1),.mp (zbd l2) (zbS l2)][n]?=some (.mp (zbd l) (zbS l))∧([l1,l2]:List _)[n]?=some l∧∀p∈l,p∈zag++zf8:=by
   rcases ycM n 1 with h1|h1
   ·have:n=0:=by omega
    subst this
    exact⟨l1,rfl,rfl,fun p hp=>ybh.2 (.inl ((p1 p).1 hp))⟩
   ·have:n=1:=by omega
    subst this
    exact⟨l2,rfl,rfl,fun p hp=>ybh.2 (.inr ((p2 p).1 hp))⟩
  have htk:=za0 hlx
  simp[zgl,a1,a3,a33,a34,a35,hlt',hl]
  have hnf:=hA.nf
  refine zH (MpI σ l w k n (.sl (.stat true) 1 [.mp (zbd l1) (zbS l1),.mp (zbd l2) (zbS l2)])) (MLf l.length) ⟨τ.nf,[],by simp[a1],by simp[a3],by simp[a33],by simp[a34],by simp[a35],by simp,hnf,by simp,by simp,hA.newF,by simpa using hk,by simpa using ho,by simp⟩ fun b τ2 hI2=>?_
  obtain⟨f,zbo,b1,b3,b33,b34,b35,b40,f1,f2,f3,hA2,hk2,ho2,hs⟩:=hI2
  simp[zpT,b40,f3]
  refine⟨fun hall=>?_,fun i k' x' hk' hx' hni=>?_⟩
  ·simp[zpU,b1,b3,b33,b34,b35,w1]
   refine⟨⟨n+1,by omega,by simp[b1],by simp[b3],by simp[b33],by simp[b34],by simp,hA2,hk2,ho2,fun l' hl' q hq=>?_⟩,?_⟩
   ·rw[htk]at hl'
    rcases ybh.1 hl' with h1|h1
    ·exact hno l' h1 q hq
    ·simp only[ycD]at h1
     subst h1
     obtain⟨i,hi,rfl⟩:=ya9 hq
     exact hs i (hall i (by simpa [zbd]using hi)) _ (yau hi)
   ·simp only[MU,a35];simp;omega
  ·obtain⟨p,hp,rfl,rfl⟩:=zwA hk' hx'
   have hks:(zbd l)[i]?=some (.int .u8 (p.1.toNat:Int)):=hk'
   have hnf2:=hA2.nf
   have hmem:=hsub p (yct hp)
   have kne:¬k=τ2.no:=by omega
   have kne':¬τ2.no=k:=by omega
   have hil:i<l.length:=(yaq.1 hp).1
   have ho2':=ho2
   simp only[W.cs]at ho2'
   have hlk:=zpf hni l.length hil
   have go:zdC w p=false→∀b':Nat→AV,(∀r,r∈[1,3,33,34,35]→b' r=b r)→b' 40=.itr τ2.nf (zbd l) (zbS l) (zbo++[i]) →
     MpI σ l w k n (.sl (.stat true) 1 [.mp (zbd l1) (zbS l1),.mp (zbd l2) (zbS l2)]) b' (((τ2.setF f .dead).newF.newO [.int .i64 0,.int .i64 0,.int .i64 0,.int .i64 0,.int .i64 0,.str []]).setO τ2.no p.2.cs)∧MLf l.length b' (((τ2.setF f .dead).newF.newO [.int .i64 0,.int .i64 0,.int .i64 0,.int .i64 0,.int .i64 0,.str []]).setO τ2.no p.2.cs)<MLf l.length b τ2:=fun hh b' hb h40=>by
    refine⟨⟨τ2.nf,zbo++[i],by rw[hb 1 (by simp),b1],by rw[hb 3 (by simp),b3],by rw[hb 33 (by simp),b33],by rw[hb 34 (by simp),b34],by rw[hb 35 (by simp),b35],h40,by omega,by simp,by simp,?_,by simp;omega,by simp[kne];exact ho2,fun j hj q hq=>?_⟩,?_⟩
    ·exact(((hA2.setF f1).newF (σ':=τ2.setF f .dead)).newO).setO hA2.no
    ·rcases ybh.1 hj with h1|h1
     ·exact hs j h1 q hq
     ·simp only[ycD]at h1
      subst h1
      rw[hp]at hq
      cases hq
      exact hh
    ·simp only[MLf,h40,b40]
     exact hlk
   have fin:zdC w p=true→∀σ',zd σ σ'→R (.ret (.int .u8 (p.1.toNat:Int))) σ':=fun hh σ' A'=>by
    have:=h σ' A'
    rwa [zwz hmem hh]at this
   have hAf:zd σ (((τ2.setF f .dead).newF.newO [.int .i64 0,.int .i64 0,.int .i64 0,.int .i64 0,.int .i64 0,.str []]).setO τ2.no p.2.cs):=(((hA2.setF f1).newF (σ':=τ2.setF f .dead)).newO).setO hA2.no
   simp only[W.cs]at go hAf
   by_cases c1:w.op=p.2.op
   ·by_cases c2:zr1 w=p.2.n
    ·by_cases c3:p.2.ty=0
     ·simp[b1,b3,b33,b34,b35,hk',hx',W.av,W.cs,splice,ho2',kne,kne',c1,c2,c3]
      refine fin (by simp[zdC,c1,c2,c3]) _ ?_
      simpa [c3]using hAf
     ·by_cases c4:w.ty=p.2.ty
      ·simp[b1,b3,b33,b34,b35,hk',hx',W.av,W.cs,splice,ho2',kne,kne',c1,c2,c3,c4]
       exact fin (by simp[zdC,c1,c2,c3,c4]) _ hAf
      ·have c4':¬p.2.ty=w.ty:=fun e=>c4 e.symm
       simp[b1,b3,b33,b34,b35,hk',hx',W.av,W.cs,splice,ho2',kne,kne',c1,c2,c3,c4,c4']
       refine go (by simp[zdC,c3,c4']) _ (fun r hr=>?_) (by simp)
       simp at hr;rcases hr with rfl|rfl|rfl|rfl|rfl<;>simp
    ·have c2':¬p.2.n=zr1 w:=fun e=>c2 e.symm
     simp[b1,b3,b33,b34,b35,hk',hx',W.av,W.cs,splice,ho2',kne,kne',c1,c2,c2']
     refine go (by simp[zdC,c2']) _ (fun r hr=>?_) (by simp)
     simp at hr;rcases hr with rfl|rfl|rfl|rfl|rfl<;>simp
   ·have c1':¬p.2.op=w.op:=fun e=>c1 e.symm
    simp[b1,b3,b33,b34,b35,hk',hx',W.av,W.cs,splice,ho2',kne,kne',c1,c1']
    refine go (by simp[zdC,c1']) _ (fun r hr=>?_) (by simp)
    simp at hr;rcases hr with rfl|rfl|rfl|rfl|rfl<;>simp
 ·have:n=2:=by omega
  subst this
  have hz:zkb w=0:=ztj fun p hp=>by
   rcases ybh.1 hp with hp|hp
   ·exact hno l1 (by simp) p ((p1 p).2 hp)
   ·exact hno l2 (by simp) p ((p2 p).2 hp)
  simp[zgl,zh9,a34,a35]
  have:=h _ hA
  rw[hz]at this
  simpa using this
theorem zrn(V:zd2 G){w:W}{c:UInt8}(hc:zrm w=some c)(h:∀σ',zd σ σ'→R (.ret (.int .u8 (c.toNat:Int))) σ'):zzQ G 104 [w.av] σ R:=by
 have v0:=V.bytes
 obtain⟨l1,hp1,v1⟩:=V.plain
 obtain⟨l2,hp2,v2⟩:=V.nums
 have A0:zd σ (σ.newO w.cs):=(zd.refl σ).newO
 have hlook:w.op≠4→zkb w=c:=fun h4=>by
  unfold zrm at hc
  rw[if_neg h4]at hc
  simpa using hc
 by_cases h4:w.op=4
 ·unfold zrm at hc
  rw[if_pos h4]at hc
  cases hx:zjc w.name with
  | none=>rw[hx]at hc;cases hc
  | some i =>
   rw[hx]at hc
   simp only at hc
   have hi:i<16:=by
    unfold zjc at hx
    rw[ycL]at hx
    exact hx.1
   have fin:∀(bs:List UInt8),bs.length=16→bs[i]?=some c→(w.ty=1∧bs=zpd∨w.ty=2∧bs=zpe)→zzQ G 104 [w.av] σ R:=fun bs hbl hbi hty=>by
    refine zpV rfl ?_
    have w1:yb4 .i64 0=0:=rfl
    have w2:yb4 .i64 1=1:=rfl
    have e1:(1:Int).toNat=1:=rfl
    rcases hty with ⟨hty,rfl⟩|⟨hty,rfl⟩ <;>
    ·simp[zsR,W.av,W.cs,h4,v0,hty,w1,w2]
     refine fields_calls V.space fun x σ1 A1 hx0 hx1 hxo=>?_
     have o1:=(A1.obj σ.no (by simp)).trans (show _=some w.cs by simp[W.cs,h4,hty])
     simp only[W.cs]at o1
     simp[o1,hty]
     refine zpg hxo (fun i' hi' hl'=>?_) (fun hn=>by rw[hx]at hn;cases hn)
     have:i'=i:=by rw[hx]at hi';cases hi';rfl
     subst this
     simp[o1,hty,hbi]
     exact h _ ((by simpa [W.cs,h4,hty]using A0:zd σ _).trans A1)
   by_cases t1:w.ty=1
   ·rw[if_pos t1]at hc
    exact fin _ rfl hc (.inl ⟨t1,rfl⟩)
   ·rw[if_neg t1]at hc
    by_cases t2:w.ty=2
    ·rw[if_pos t2]at hc
     exact fin _ rfl hc (.inr ⟨t2,rfl⟩)
    ·rw[if_neg t2]at hc
     cases hc
 ·have hlook:=hlook h4
  refine zpV rfl ?_
  have h':∀σ',zd σ σ'→R (.ret (.int .u8 ((zkb w).toNat:Int))) σ':=fun σ' A'=>by rw[hlook];exact h σ' A'
  have q1:∀p,p∈l1↔p∈zag:=fun p=>hp1.mem_iff
  have q2:∀p,p∈l2↔p∈zf8:=fun p=>hp2.mem_iff
  have key:∀a':Nat→AV,a' 1=.ptr σ.no 0→a' 3=.int .i64 (zr1 w)→a' 33=.sl (.stat true) 1 [.mp (zbd l1) (zbS l1),.mp (zbd l2) (zbS l2)]→a' 34=.int .i64 2→a' 35=.int .i64 0 →
    zj4 yb9 G 71 zgl (z8 0 (z7 (avc yb9 G 71 zh9 (zba yb9 [.tmp 2] R)) (zba yb9 [.tmp 2] R))) a' (σ.newO w.cs):=fun a' e1 e3 e33 e34 e35 =>
   zH (MpO σ [l1,l2] w σ.no (.sl (.stat true) 1 [.mp (zbd l1) (zbS l1),.mp (zbd l2) (zbS l2)])) (MU 35 3) ⟨0,by omega,e1,e3,e33,e34,by simpa using e35,A0,by simp,by simp,by simp⟩ fun b τ hI=>ztk q1 q2 h' hI
  simp only[W.cs]at key
  by_cases h8:w.op=8
  ·simp[zsR,W.av,W.cs,h4,h8,v1,v2]
   refine ?_
   simp only[←h8]
   exact key _ (by simp) (by simp[zr1,h8]) (by simp) (by simp) (by simp)
  ·by_cases h9:w.op=9
   ·simp[zsR,W.av,W.cs,h4,h8,h9,v1,v2]
    simp only[←h9]
    exact key _ (by simp) (by simp[zr1,h9]) (by simp) (by simp) (by simp)
   ·simp[zsR,W.av,W.cs,h4,h8,h9,v1,v2]
    exact key _ (by simp) (by simp[zr1,h8,h9]) (by simp) (by simp) (by simp)
theorem zcZ.keep{σ τ τ' v x}(h:zcZ σ τ v x)(A:zd τ τ'):zcZ σ τ' v x:=⟨h.1.keep A,h.2.trans A⟩
theorem zro{el:Option TypeId}{τ:AS}{v:AV}{ys:List AV}{x y:List UInt8}{K:AV→AS→Prop}(h1:zcZ σ τ v x)(e:ys=B y)(hl:x.length+y.length≤2^42)(h:∀v' σ',zcZ σ σ' v' (x++y)→K v' σ'):zbb el 1 1 v ys τ K:=by
 subst e
 obtain⟨ho,hA⟩:=h1
 have hgn:=hA.nf
 rcases ho with ⟨h0,rfl⟩|⟨g,rfl,g1,g2,g3⟩
 ·have hx:x=[]:=by simpa [B]using h0
  subst hx
  cases y with
  | nil=>simp[B];exact h _ _ ⟨.inl ⟨rfl,rfl⟩,hA⟩
  | cons c y =>
   have e1:B (c::y)=ycp .u8 (c.toNat:Int)::B y:=rfl
   rw[e1]
   simp
   refine⟨by simp at hl;omega,?_⟩
   exact h _ _ ⟨.inr ⟨τ.nf,by simp[B],hgn,by simp,by simp⟩,hA.newF⟩
 ·simp[g3]
  exact⟨by omega,h _ _ ⟨.inr ⟨τ.nf,by simp,hgn,by simp,by simp⟩,(hA.setF g1).newF (σ':=τ.setF g .dead)⟩⟩
def zob(T:Nat→Nat)(τ:AS)(v:AV)(bs:List UInt8):Prop:=(bs=[]∧v=.nilsl)∨∃φ,v=.sl φ 1 (B bs)∧Al.Rd τ φ∧∀r b,φ=.fam r b→T r=0
def zai(T:Nat→Nat)(i:Nat)(σ τ:AS)(v:AV)(l:List (List UInt8)):Prop:=(l=[]∧v=.nilsl)∨∃φ vs,v=.sl φ 1 vs∧(φ=.stat true∨∃g,φ=.fam g false∧σ.nf≤g∧g<τ.nf∧τ.F g=.alive∧T g=i)∧All2 (zob T τ) vs l
def zbK(T:Nat→Nat)(τ:AS):Prop:=∀f,τ.nf≤f→T f=0
theorem zob.keep{T τ τ' v bs}(h:zob T τ v bs)(A:zd τ τ'):zob T τ' v bs:=by
 rcases h with h|⟨φ,h,r,k⟩
 ·exact .inl h
 ·exact .inr ⟨φ,h,r.keep A,k⟩
theorem zai.keep{T i σ τ τ' v l}(h:zai T i σ τ v l)(A:zd τ τ'):zai T i σ τ' v l:=by
 rcases h with h|⟨φ,vs,h,r,k⟩
 ·exact .inl h
 ·refine .inr ⟨φ,vs,h,?_,Al.all2_mono k fun _ _ q=>q.keep A⟩
  rcases r with r|⟨g,h1,h2,h3,h4,h5⟩
  ·exact .inl r
  ·exact .inr ⟨g,h1,h2,by have:=A.nf;omega,(A.fam g h3).trans h4,h5⟩
theorem zob.byt{T τ v bs}(h:zob T τ v bs):zej τ v bs:=by
 rcases h with h|⟨φ,h,r,_⟩
 ·exact .inl h
 ·exact .inr ⟨φ,h,r⟩
theorem zai.bys{T i σ τ v l}(h:zai T i σ τ v l):zja τ v l:=by
 rcases h with h|⟨φ,vs,h,r,k⟩
 ·exact .inl h
 ·refine .inr ⟨φ,vs,h,?_,Al.all2_mono k fun _ _ q=>q.byt⟩
  rcases r with rfl|⟨g,rfl,h2,h3,h4,h5⟩
  ·exact trivial
  ·exact⟨h3,h4⟩
theorem zob.step{T τ1 v bs g i j}(h:zob T τ1 v bs)(hg:T g=i)(hi:1≤i):zob (upd T τ1.nf j) (τ1.setF g .dead).newF v bs:=by
 rcases h with h|⟨φ,h,r,k⟩
 ·exact .inl h
 ·refine .inr ⟨φ,h,?_,fun r' b e=>?_⟩
  ·cases φ with
   | stat b=>exact trivial
   | fam f b =>
    have h0:=k f b rfl
    obtain⟨h1,h2⟩:=r
    have hfg:f≠g:=fun e=>by rw[e]at h0;omega
    refine⟨by simp;omega,?_⟩
    have:¬f=τ1.nf:=by omega
    simp[zae,this,hfg,h2]
  ·subst e
   have:=r.1
   have:¬r'=τ1.nf:=by omega
   simp[zae,this]
   exact k r' b rfl
theorem zob.new{T τ1 v bs j}(h:zob T τ1 v bs):zob (upd T τ1.nf j) τ1.newF v bs:=by
 rcases h with h|⟨φ,h,r,k⟩
 ·exact .inl h
 ·refine .inr ⟨φ,h,r.keep (zd.refl _).newF,fun r' b e=>?_⟩
  subst e
  have:=r.1
  have:¬r'=τ1.nf:=by omega
  simp[zae,this]
  exact k r' b rfl
theorem zai.step{T σ τ1 v l g i j k}(h:zai T j σ τ1 v l)(hg:T g=i)(hi:1≤i)(hij:j≠i):zai (upd T τ1.nf k) j σ (τ1.setF g .dead).newF v l:=by
 rcases h with h|⟨φ,vs,h,r,q⟩
 ·exact .inl h
 ·refine .inr ⟨φ,vs,h,?_,Al.all2_mono q fun _ _ q=>q.step hg hi⟩
  rcases r with r|⟨f,h1,h2,h3,h4,h5⟩
  ·exact .inl r
  ·have hne:¬f=τ1.nf:=by omega
   have hfg:f≠g:=fun e=>by rw[e]at h5;omega
   exact .inr ⟨f,h1,h2,by simp;omega,by simp[zae,hne,hfg,h4],by simp[zae,hne,h5]⟩
theorem zai.new{T σ τ1 v l j k}(h:zai T j σ τ1 v l):zai (upd T τ1.nf k) j σ τ1.newF v l:=by
 rcases h with h|⟨φ,vs,h,r,q⟩
 ·exact .inl h
 ·refine .inr ⟨φ,vs,h,?_,Al.all2_mono q fun _ _ q=>q.new⟩
  rcases r with r|⟨f,h1,h2,h3,h4,h5⟩
  ·exact .inl r
  ·have hne:¬f=τ1.nf:=by omega
   exact .inr ⟨f,h1,h2,by simp;omega,by simp[zae,hne,h4],by simp[zae,hne,h5]⟩
theorem zcZ.row{T τ τ1 v bs}(h:zcZ τ τ1 v bs)(hT:zbK T τ):zob T τ1 v bs:=by
 rcases h.1 with ⟨h1,h2⟩|⟨g,h1,h2,h3,h4⟩
 ·exact .inl ⟨by simpa [B]using h1,h2⟩
 ·exact .inr ⟨_,h1,⟨h3,h4⟩,fun r b e=>by cases e;exact hT g h2⟩
theorem zwB{el:Option TypeId}{T:Nat→Nat}{i:Nat}{τ:AS}{v row:AV}{l:List (List UInt8)}{bs:List UInt8}{K:AV→AS→Prop}(hi:1≤i)(hG:zai T i σ τ v l)(hN:zob T τ row bs)(hT:zbK T τ)(A:zd σ τ)(hl:l.length<2^40)
  (h:∀v' τ' T',zai T' i σ τ' v' (l++[bs])→zbK T' τ'→zd σ τ'→(∀j v2 l2,j≠i→zai T j σ τ v2 l2→zai T' j σ τ' v2 l2)→K v' τ'):zbb el 24 1 v [row] τ K:=by
 have hgn:=A.nf
 have fr:zbK (upd T τ.nf i) τ.newF:=fun f hf=>by
  have hf':τ.nf+1≤f:=hf
  have:¬f=τ.nf:=by omega
  simp[zae,this]
  exact hT f (by omega)
 rcases hG with ⟨rfl,rfl⟩|⟨φ,vs,rfl,hφ,hv⟩
 ·simp
  refine h _ _ (upd T τ.nf i) (.inr ⟨_,[row],rfl,.inr ⟨τ.nf,rfl,hgn,by simp,by simp,by simp[zae]⟩,.cons hN.new .nil⟩) fr A.newF fun j v2 l2 hj h2=>h2.new
 ·have hvl:=hv.length
  rcases hφ with rfl|⟨g,rfl,g1,g2,g3,g4⟩
  ·simp[zbb]
   refine⟨by omega,?_⟩
   exact h _ _ (upd T τ.nf i) (.inr ⟨_,_,rfl,.inr ⟨τ.nf,rfl,hgn,by simp,by simp,by simp[zae]⟩,(Al.all2_mono hv fun _ _ q=>q.new).append (.cons hN.new .nil)⟩) fr A.newF fun j v2 l2 hj h2=>h2.new
  ·simp[g3]
   refine⟨by omega,?_⟩
   refine h _ _ (upd T τ.nf i) (.inr ⟨_,_,rfl,.inr ⟨τ.nf,rfl,hgn,by simp,by simp,by simp[zae]⟩,(Al.all2_mono hv fun _ _ q=>q.step g4 hi).append (.cons (hN.step g4 hi) .nil)⟩) (fun f hf=>fr f hf) ((A.setF g1).newF (σ':=τ.setF g .dead)) fun j v2 l2 hj h2=>h2.step g4 hi hj
end
def zkA(t:Int):List Int→Nat
 | []=>0
 | x::r=>if x=t then zkA t r+1 else 0
def zJ:Nat→List Int→List (List UInt8)
 | 0,_=>[]
 | _+1,[]=>[]
 | k+1,t::r=>(uI ((zkA t r+1:Nat):Int)++[zaw (128-t)])::zJ k (r.drop (zkA t r))
def zdi(l:List Int):List UInt8:=zbO (zJ l.length l)
theorem ztl(t:Int):∀l,zkA t l≤l.length
 | []=>yah _
 | x::r=>by
  have:=ztl t r
  simp only[zkA,yac]
  split<;>omega
theorem ztm{t:Int}:∀{l:List Int} {i:Nat},i<zkA t l→l[i]?=some t
 | [],i,h=>by simp[zkA]at h
 | x::r,i,h=>by
  simp only[zkA]at h
  split at h
  ·rename_i e
   cases i with
   | zero=>simp[e]
   | succ i=>simp;exact ztm (by omega)
  ·omega
theorem zqn{t:Int}:∀{l:List Int},zkA t l<l.length→l[zkA t l]?≠some t
 | [],h=>by simp at h
 | x::r,h=>by
  simp only[zkA]at h ⊢
  split
  ·rename_i e
   simp only[e,if_true,yac]at h
   simp
   exact zqn (by omega)
  ·rename_i e
   simp[e]
theorem zeS:∀(k j:Nat) (l:List Int),l.length≤k→l.length≤j→zJ k l=zJ j l
 | 0,j,[],_,_=>by cases j<;>rfl
 | k+1,j,[],_,_=>by cases j<;>rfl
 | 0,_,t::r,h,_=>by simp at h
 | k+1,0,t::r,_,h=>by simp at h
 | k+1,j+1,t::r,h,h'=>by
  simp only[zJ]
  simp at h h'
  rw[zeS k j _ (by simp;omega) (by simp;omega)]
theorem zdj:∀(k:Nat) (l:List Int),(zJ k l).length≤l.length∧zdN (zJ k l)≤11*l.length
 | 0,l=>by simp[zJ,zdN]
 | k+1,[]=>by simp[zJ,zdN]
 | k+1,t::r=>by
  have ih:=zdj k (r.drop (zkA t r))
  have hu:=zay ((zkA t r+1:Nat):Int)
  simp only[zJ,yac,zdN,yaL,yck,yab,ybl]at *
  simp only[ycj]at ih
  omega
theorem IntsO.drop{σ:AS}{v:AV}{l:List Int}{n:Nat}(h:Al.IntsO σ v l)(hl:l≠[])(hn:n≤l.length):∃φ,v=.sl φ 1 (l.map (.int .i64))∧Al.Rd σ φ:=by
 rcases h with ⟨rfl,_⟩|h
 ·exact absurd rfl hl
 ·exact h
section
variable {G : Env} {σ : AS} {R : Out → AS → Prop}
def LoI(σ:AS)(l0:List Int)(a:Nat→AV)(τ:AS):Prop:=∃(l:List Int) (done:List (List UInt8)) (T:Nat→Nat),done++zJ l.length l=zJ l0.length l0∧l.length≤l0.length∧done.length+l.length≤l0.length∧Al.IntsO σ (a 0) l∧zai T 1 σ τ (a 3) done∧zbK T τ∧zd σ τ
def MLo(a:Nat→AV)(_:AS):Nat:=match a 0 with
 | .sl _ _ xs=>xs.length
 | _=>0
def LoJ(v0 v3:AV)(τ0:AS)(t:Int)(r:List Int)(a:Nat→AV)(τ:AS):Prop:=∃i:Nat,i≤zkA t r∧a 0=v0∧a 3=v3∧a 4=.int .i64 ((i+1:Nat):Int)∧τ=τ0
theorem zns{v:AV}{l:List Int}(hv:Al.IntsO σ v l)(hl:l.length≤2^34)(h:∀v' σ',zcZ σ σ' v' (zdi l)→R (.ret v') σ'):zzQ G 47 [v] σ R:=by
 refine zAB rfl ?_
 have v1:=hv.one
 simp[zMK]
 refine zH (LoI σ l) MLo ⟨l,[],fun _=>0,by simp,by omega,by simp,by simpa using hv,.inl ⟨rfl,by simp⟩,fun _ _=>rfl,.refl _⟩ fun a τ hI=>?_
 obtain⟨l',done,T,he,hl',hdl,hi0,hG,hT,hA⟩:=hI
 have hi:=hi0.keep hA
 have i1:=hi.one
 have i2:=hi.len
 cases l' with
 | nil =>
  simp at i2
  simp[zoF,zoG,i1,i2]
  have hd:done=zJ l.length l:=by simpa [zJ]using he
  subst hd
  obtain⟨r1,r2⟩:=zdj l.length l
  have g1:=hG.bys.one
  simp[g1]
  refine zdA hG.bys (by omega) (by omega) fun v' σ' h'=>?_
  simp
  exact h _ _ ⟨h'.1.imp (fun q=>q) (fun⟨g,q1,q2,q3⟩=>⟨g,q1,by have:=hA.nf;omega,q3⟩),hA.trans h'.2⟩
 | cons t r =>
  obtain⟨φ,hvs,hrd0⟩:=IntsO.drop (n:=0) hi0 (by simp) (by simp)
  have hrd:=hrd0.keep hA
  have hr':=hrd.read
  have g1:=hG.bys.one
  simp[zoF,hvs]
  refine zH (LoJ (a 0) (a 3) τ t r) (MU 4 (r.length+2)) ⟨0,by omega,by simp,by simp,by simp,rfl⟩ fun b τ2 hJ=>?_
  obtain⟨i,hi1,b0,b3,b4,rfl⟩:=hJ
  have hrl:=ztl t r
  rw[hvs]at b0
  have w1:yb4 .i64 ((i:Int)+1+1)=((i+1+1:Nat):Int):=by rw[zc]<;>simp at hl'<;>omega
  have hz:yb4 .i64 0=0:=rfl
  simp only[ycG,ycH]at b4
  have hout:∀c:Nat→AV,c 0=.sl φ 1 ((t::r).map (.int .i64))→c 3=a 3→c 4=.int .i64 ((zkA t r:Int)+1) →
    avc yb9 G 41 zoE (z8 1 (z7 (fun a' σ'=>LoI σ l a' σ'∧MLo a' σ'<MLo a τ2) (z8 0 (z7 (avc yb9 G 41 zoG (zba yb9 [.tmp 2] R)) (zba yb9 [.tmp 2] R))))) c τ2:=fun c c0 c3 c4=>by
   have hwt:yb4 .u8 (yb4 .i64 (128-t))=((zaw (128-t)).toNat:Int):=by
    rw[wrap_u8,zbI,zbI]
    simp[yb4,yao,yap]
    omega
   simp[zoE,c0,c3,c4,hr',hwt,g1]
   have hl3:(r.length:Int)+1≤2^34:=by simp at hl';omega
   refine⟨zcQ (by omega) fun u σ1 hu=>?_,zcQ (by omega) fun u σ1 hu=>?_⟩ <;>
   ·have hr1:=(hrd.keep hu.2).read
    have u1:=hu.byt.one
    have hul:=zay ((zkA t r:Int)+1)
    simp[hr1,u1,hwt]
    refine zro (y:=[zaw (128-t)]) hu rfl (by simp;omega) fun v' τ3 h3=>?_
    have q1:=h3.byt.one
    have g3:=(hG.keep h3.2).bys.one
    have hfr3:zbK T τ3:=fun f hf=>hT f (by have:=h3.2.nf;omega)
    simp[q1,g3]
    refine zwB (by omega) (hG.keep h3.2) (h3.row hT) hfr3 (hA.trans h3.2) (by simp at hdl;omega) fun v4 τ4 T4 hG4 hT4 hA4 _=>?_
    have hcut:cut φ φ.full=φ:=by cases φ<;>rfl
    have htk:ycJ r.length (ycA (ycp .i64) r)=r.map (.int .i64):=ycE (by simp)
    simp[c0,c4,hcut,htk]
    refine⟨by omega,hrl,⟨r.drop (zkA t r),done++[uI ((zkA t r+1:Nat):Int)++[zaw (128-t)]],T4,?_,?_,?_,?_,?_,hT4,hA4⟩,?_⟩
    ·rw[←he]
     simp only[zJ,yac,List.append_assoc,List.singleton_append]
     rw[zeS _ r.length _ (yah _) (by simp)]
    ·simp at hl' ⊢;omega
    ·simp at hdl ⊢;omega
    ·exact .inr ⟨φ,by simp,hrd0⟩
    ·simpa using hG4
    ·simp only[MLo,hvs];simp;omega
  by_cases hir:i<zkA t r
  ·have hx:=ztm hir
   have hlt:(i:Int)+1<(r.length:Int)+1:=by omega
   have hlt2:(i:Int)<(r.length:Int):=by omega
   simp[zlF,b0,b3,b4,hr',hx,w1,hlt,hlt2,hz]
   refine⟨by omega,⟨i+1,by omega,by simp[b0,hvs],by simp[b3],by simp,rfl⟩,?_⟩
   simp only[MU,b4];simp;omega
  ·have hie:i=zkA t r:=by omega
   by_cases hend:i=r.length
   ·have hlt:¬(i:Int)+1<(r.length:Int)+1:=by omega
    have hlt2:¬(i:Int)<(r.length:Int):=by omega
    simp[zlF,b0,b3,b4,hr',w1,hlt,hlt2,hz]
    exact hout _ (by simp[b0]) (by simp[b3]) (by simp[b4,hie])
   ·have hlt:(i:Int)+1<(r.length:Int)+1:=by omega
    have hlt2:(i:Int)<(r.length:Int):=by omega
    have hx:=zqn (t:=t) (l:=r) (by omega)
    have hg:=yau (show i<r.length by omega)
    rw[←hie,hg]at hx
    have hne:¬r[i]=t:=fun e=>hx (by rw[e])
    simp[zlF,b0,b3,b4,hr',hg,hne,w1,hlt,hlt2,hz]
    exact⟨by omega,hout _ (by simp[b0]) (by simp[b3]) (by simp[b4,hie])⟩
end
end Go.Proofs.YtohfclafhegadaaGreatDoor
