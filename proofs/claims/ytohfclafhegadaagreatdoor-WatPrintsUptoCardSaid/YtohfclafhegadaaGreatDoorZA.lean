/- Parts of the proof of the row WatPrintsUpto: contracts of functions, each under the conditions that its theorem names. -/
import Derived.Test.YtohfclafhegadaaGreatDoorAbsB
import Derived.Lib.IndexMore
import Derived.Lib.AtoiAll
import Derived.Lib.ItoaNum
import Derived.Test.YtohfclafhegadaaGreatDoorGenP
import Derived.Test.YtohfclafhegadaaGreatDoorShelf
import Derived.Lib.AppendIntMem
import Derived.Deep.LoopGhost
import Derived.Laws.Runes
import Derived.Laws.RangeString
import Derived.RegionTactic
import Derived.ChangeAlike
import Derived.Deep.RegionWith
set_option linter.unusedSimpArgs false
set_option linter.unusedVariables false
set_option maxRecDepth 100000
open List renaming replicate→yaj,all_cons→yca,dropWhile_sublist→ycb,length_cons→yac,length_nil→ybl,length→ycc,takeWhile_append_dropWhile→ycd,length_append→yab,getD_eq_getElem?_getD→yce,mem_append→ybh,flatMap_cons→yaa,drop_eq_nil_iff→ycf,getElem?_eq_none→yb2,drop→ycg,drop_drop→ych,getElem?_eq_some_iff→yaq,length_drop→yci,length_eq_zero_iff→ybS,map_cons→yaL,sum_cons→ycj,getElem?_replicate→ycl,length_take→ybf,getElem?_eq_getElem→yau,all_eq_true→yaM,getElem_mem→yaw,mem_cons→ybC,take_succ_eq_append_getElem→ycm,take_of_length_le→yco,take_length→ycr,length_pos_iff→ybm,drop_eq_getElem_cons→ycs,reverse_append→ycu,mem_of_getElem?→ycw,mem_flatMap→ycy,all_eq_false→ycz,mem_iff_getElem→ycA,getElem_take→yaE,replicate_succ→ycB,length_map→ybb,not_mem_nil→ycC,mem_map→yaV,mem_singleton→ycD,drop_eq_nil_of_le→ycE,length_replicate→yba,getElem_of_mem→ya9,append_assoc→ycG,getElem?_append_right→yaI,mem_replicate→ycH,take→ycI,dropWhile_cons→ycJ,eq_nil_or_concat→ybL,concat_eq_append→ycK,findIdx?_eq_none_iff→ycL
open Nat renaming le_refl→yah,zero_le→yck,le_trans→yai,lt_of_lt_of_le→yag,strongRecOn→ybI,le_succ_of_le→ycF
open Option renaming some→yaR,isSome_iff_exists→yay,map_eq_some_iff→ybB
open Array renaming ext→ycv,getElem?_eq_some_iff→yaU
open Int renaming toNat_natCast→ybe
open Go.Proofs.Tryz renaming prog→yb9,func236→ycM,ntmps236→ycN,func205→ycO,ntmps205→ycP
open Go.IntKind renaming wrap→yb4,i64→yam,signed→yao,bits→yap
open Go.Abs.AV renaming int→ycn,str→ycp,nilsl→ycq,ptr→yct,agg→ycx
namespace Go.Proofs.YtohfclafhegadaaGreatDoor
open Go Go.Abs
structure W where
 op:Int
 ty:Int
 n:Int
 body:Int
 other:Int
 name:List UInt8
deriving DecidableEq
abbrev To:=List (List W)
structure F where
 name:List UInt8
 params:List Int
 locals:List Int
 type:Int
 lists:To
structure M where
 funcs:List F
 memory:Int
 main:Int
structure St where
 stack:List Int
 any:Bool
abbrev Res:=Except Int
def zd5(s:St):Res St :=
 if s.stack.length=0 then(if s.any then .ok s else .error 14)else .ok { s with stack:=s.stack.dropLast }
def zV:List Int→St→Res St
 | [],s=>.ok s
 | t::ts,s=>if s.stack.length=0∨s.stack.getLast?=some t then
   match zd5 s with
   | .ok s'=>zV ts s'
   | .error e=>.error e
  else .error 14
def zeD(s:St)(t:Int):St:=if t=0 then s else { s with stack:=s.stack++[t] }
def zkX:St:=⟨[],true⟩
def zD(ty:Int)(s:St):Res St:=if ty=0 then .ok s else zV [ty] s
def zad(t:Int):Bool:=decide (t=1)||decide (t=2)
def signs:List (List UInt8 × List UInt8):=[
 ([97,100,100],[43]),([115,117,98],[45]),([109,117,108],[42]),([100,105,118,95,115],[47]),([114,101,109,95,115],[37]),([97,110,100],[38]),([111,114],[124]),([120,111,114],[94]),
 ([115,104,108],[60,60]),([115,104,114,95,115],[62,62]),([101,113],[61,61]),([110,101],[33,61]),([108,116,95,115],[60]),([108,101,95,115],[60,61]),([103,116,95,115],[62]),([103,101,95,115],[62,61])]
def zbe:List (List UInt8 × List UInt8)→List UInt8→List UInt8
 | [],_=>[]
 | (x,y)::r,s=>if x=s then y else zbe r s
def zhm(t n:Int):Bool:=decide (t=1)&&(decide (n=1)||decide (n=4))||decide (t=2)&&decide (n=8)
def zbu(w:W):Bool :=
 if w.op=1∨w.op=5 then zad w.ty
 else if w.op=4 then zad w.ty&&!(zbe signs w.name==[])
 else if w.op=8∨w.op=9 then zhm w.ty w.n
 else decide (1≤w.op)&&decide (w.op≤18)
def ze5(fs:List F)(n:Int):Option (List Int × Int) :=
 if n=0 then some ([],2)else if n=1 then some ([2],0)else if n=2 then some ([1],0)
 else if n<0 then none else(fs[(n-3).toNat]?).map fun f=>(f.params,f.type)
def zuw(t v:Int):Int:=if t=3 then IntKind.i8.wrap v else if t=1 then IntKind.i32.wrap v else if t=2 then v else 0
def zcc(fs:List F)(locals:List Int)(deep:Int)(w:W):Bool :=
 if w.op=1 then decide (zuw w.ty w.n=w.n)
 else if w.op=2∨w.op=3 then decide (0≤w.n)&&decide (w.n<(locals.length:Int))
 else if w.op=10 then(ze5 fs w.n).isSome
 else if w.op=14∨w.op=15 then decide (0≤w.n)&&decide (w.n≤deep)
 else true
def ziB(locals:List Int)(n:Int):Int:=locals.getD n.toNat 0
def zrf:List UInt8:=[32,101,113,32,110,101,32,108,116,95,115,32,108,101,95,115,32,103,116,95,115,32,103,101,95,115,32]
def zED(s:List UInt8):Bool:=Lib.contains zrf (32::(s++[32]))
def zfl(r:Res St)(t:Int):Res St:=match r with
 | .ok s=>.ok (zeD s t)
 | .error e=>.error e
def ze6(fs:List F)(locals:List Int)(w:W)(s:St):Res St :=
 if w.op=1 then .ok (zeD s w.ty)
 else if w.op=2 then .ok (zeD s (ziB locals w.n))
 else if w.op=3 then zV [ziB locals w.n] s
 else if w.op=4 then zfl (zV [w.ty,w.ty] s) (if zED w.name then 1 else w.ty)
 else if w.op=5 then zfl (zV [w.ty] s) 1
 else if w.op=6 then zfl (zV [2] s) 1
 else if w.op=7 then zfl (zV [1] s) 2
 else if w.op=8 then zfl (zV [1] s) w.ty
 else if w.op=9 then zV [w.ty,1] s
 else if w.op=10 then match ze5 fs w.n with
  | some (ts,g)=>zfl (zV ts.reverse s) g
  | none=>.ok s
 else if w.op=18 then zd5 s
 else .ok s
abbrev zpw:=Int→Int→Res Unit
def zcl(fs:List F)(locals:List Int)(ty deep:Int)(look:zpw)(w:W)(s:St):Res St :=
 if zbu w=false then .error 2
 else if zcc fs locals deep w=false then .error 11
 else if w.op=11∨w.op=12 then match look w.body (deep+1)with
  | .ok _=>.ok s
  | .error e=>.error e
 else if w.op=13 then match zV [1] s with
  | .error e=>.error e
  | .ok s1=>match look w.body (deep+1)with
   | .error e=>.error e
   | .ok _=>if 0≤w.other then match look w.other (deep+1)with
     | .error e=>.error e
     | .ok _=>.ok s1
    else .ok s1
 else if w.op=15 then match zV [1] s with
  | .error e=>.error e
  | .ok s1=>if w.n=deep then zfl (zD ty s1) ty else .ok s1
 else if w.op=14 then if w.n=deep then match zD ty s with
   | .error e=>.error e
   | .ok _=>.ok zkX
  else .ok zkX
 else if w.op=16 then match zD ty s with
  | .error e=>.error e
  | .ok _=>.ok zkX
 else if w.op=17 then .ok zkX
 else ze6 fs locals w s
def zbK(fs:List F)(locals:List Int)(ty deep:Int)(look:zpw):List W→St→Res St
 | [],s=>.ok s
 | w::ws,s=>match zcl fs locals ty deep look w s with
  | .error e=>.error e
  | .ok s'=>zbK fs locals ty deep look ws s'
def zEE(ty deep:Int)(s:St):Res Unit:=match (if deep=0 then zD ty s else .ok s)with
 | .error e=>.error e
 | .ok s'=>if s'.stack.length=0 then .ok ()else .error 14
def zcO(fs:List F)(locals:List Int)(ty:Int)(lists:To):Nat→zpw
 | 0,_,_=>.error (-1)
 | k+1,at_,deep=>match zbK fs locals ty deep (zcO fs locals ty lists k) (lists.getD at_.toNat []) ⟨[],false⟩with
  | .error e=>.error e
  | .ok s=>zEE ty deep s
def zt(w:W):List Int:=if w.op=11∨w.op=12∨(w.op=13∧w.other<0)then [w.body]else if w.op=13 then [w.body,w.other]else []
def zdj(at_:Int)(named:List Bool)(n:Int):Res (List Bool) :=
 if 0≤n∧n<at_∧named.getD n.toNat true=false then .ok (named.set n.toNat true)else .error 11
def zaq(at_:Int):List Int→List Bool→Res (List Bool)
 | [],named=>.ok named
 | n::ns,named=>match zdj at_ named n with
  | .error e=>.error e
  | .ok named'=>zaq at_ ns named'
def zgJ(at_:Int):List W→List Bool→Res (List Bool)
 | [],named=>.ok named
 | w::ws,named=>match zaq at_ (zt w) named with
  | .error e=>.error e
  | .ok named'=>zgJ at_ ws named'
def za7:Nat→To→List Bool→Res (List Bool)
 | _,[],named=>.ok named
 | k,l::ls,named=>match zgJ (k:Int) l named with
  | .error e=>.error e
  | .ok named'=>za7 (k+1) ls named'
def zbS(ls:To):Res Unit :=
 if ls.length=0 then .error 11 else match za7 0 ls (yaj ls.length false)with
  | .error e=>.error e
  | .ok named=>if(named.take (ls.length-1)).all (·==true)then .ok ()else .error 11
def zC(fs:List F)(f:F):Res Unit :=
 if((f.params++f.locals).all zad&&decide (0≤f.type)&&decide (f.type≤2))=false then .error 6 else match zbS f.lists with
  | .error e=>.error e
  | .ok _=>zcO fs (f.params++f.locals) f.type f.lists f.lists.length ((f.lists.length:Int)-1) 0
def zP(fs:List F):List F→Res Unit
 | []=>.ok ()
 | f::r=>match zC fs f with
  | .error e=>.error e
  | .ok _=>zP fs r
def zkY(m:M):Bool:=decide (0≤m.main)&&match m.funcs[m.main.toNat]? with
 | some f=>decide (f.type=1)&&decide (f.params.length=0)
 | none=>false
def zbv(m:M):Res Unit :=
 if(decide (0≤m.memory)&&decide (m.memory≤4096))=false then .error 11 else match zP m.funcs m.funcs with
  | .error e=>.error e
  | .ok _=>if zkY m then .ok ()else .error 12
def zmS:Res Unit→Int
 | .ok _=>0
 | .error e=>e
def zQ(c:UInt8):Bool:=decide (48≤c.toNat)&&decide (c.toNat≤57)
def zjH(acc:Nat)(d:List UInt8):Nat:=d.foldl (fun a c=>a*10+(c.toNat-48)) acc
def zbj(t:List UInt8):List UInt8:=if t.head?=some 45 then t.tail else t
def zwd(t:List UInt8):Int:=if t.head?=some 45 then -(zjH 0 (zbj t):Int)else zjH 0 (zbj t)
def zsK(t:List UInt8):Res Int :=
 if(zbj t).isEmpty||!(zbj t).all zQ then .error 2
 else match Lib.atoiAll t with
  | .ok n=>if Lib.itoa n=t then .ok n else .error 11
  | _=>.error 11
theorem zjI:∀(d:List UInt8) (acc:Nat),acc≤zjH acc d
 | [],acc=>yah _
 | c::d,acc=>by
  have:=zjI d (acc*10+(c.toNat-48))
  show acc≤zjH (acc*10+(c.toNat-48)) d
  omega
theorem zl2:∀(d:List UInt8) (acc:Nat),d.all zQ=true→acc<18446744073709551616→Lib.parseUint10 acc d=if zjH acc d<18446744073709551616 then .ok (zjH acc d)else .range
 | [],acc,_,ha=>by simp[Lib.parseUint10,zjH,ha]
 | c::d,acc,h,ha=>by
  simp only[yca,Bool.and_eq_true,zQ,decide_eq_true_eq]at h
  obtain⟨⟨h1,h2⟩,h3⟩:=h
  have e:zjH acc (c::d)=zjH (acc*10+(c.toNat-48)) d:=rfl
  have m:=zjI d (acc*10+(c.toNat-48))
  rw[Lib.parseUint10,if_pos ⟨h1,h2⟩,e]
  by_cases o1:1844674407370955162≤acc
  ·rw[if_pos o1,if_neg (by omega)]
  ·rw[if_neg o1]
   by_cases o2:18446744073709551616≤acc*10+(c.toNat-48)
   ·rw[if_pos o2,if_neg (by omega)]
   ·rw[if_neg o2]
    exact zl2 d _ (by simpa [zQ]using h3) (by omega)
theorem zog{t:List UInt8}(h1:zbj t≠[])(h2:(zbj t).all zQ=true):Lib.atoiAll t=if -(2^63)≤zwd t∧zwd t<2^63 then .ok (zwd t)else .range:=by
 cases t with
 | nil=>exact absurd rfl h1
 | cons c r =>
  have hp:∀d:List UInt8,d≠[]→d.all zQ=true→Lib.parseMag d=if zjH 0 d<18446744073709551616 then .ok (zjH 0 d)else .range:=fun d hd ha=>by
   rw[Lib.parseMag,if_neg hd,zl2 d 0 ha (by omega)]
  unfold Lib.atoiAll
  simp only
  by_cases hc:c=45
  ·subst hc
   have hb:zbj (45::r)=r:=rfl
   rw[hb]at h1 h2
   have hv:zwd (45::r)=-(zjH 0 r:Int):=rfl
   rw[hv,if_pos (show((45:UInt8).toNat=43∨(45:UInt8).toNat=45) from .inr rfl),hp r h1 h2]
   have e:((45:UInt8).toNat=45)=True:=eq_true rfl
   simp only[e,not_true,false_and,true_and,if_false,if_true]
   by_cases o:zjH 0 r<18446744073709551616
   ·rw[if_pos o]
    simp only
    by_cases o2:9223372036854775808<zjH 0 r
    ·rw[if_pos o2,if_neg (by omega)]
    ·rw[if_neg o2,if_pos (by omega)]
   ·rw[if_neg o,if_neg (by omega)]
  ·have hb:zbj (c::r)=c::r:=by unfold zbj;rw[if_neg (by simpa using hc)]
   rw[hb]at h1 h2
   have hv:zwd (c::r)=(zjH 0 (c::r):Int):=by unfold zwd;rw[if_neg (by simpa using hc),hb]
   have hn45:¬c.toNat=45:=fun e=>hc (UInt8.toNat_inj.1 e)
   have hn43:¬c.toNat=43:=fun e=>by
    simp only[yca,Bool.and_eq_true,zQ,decide_eq_true_eq]at h2
    omega
   rw[hv,if_neg (by omega),hp _ h1 h2]
   simp only[hn45,not_false_eq_true,true_and,false_and,if_false]
   by_cases o:zjH 0 (c::r)<18446744073709551616
   ·rw[if_pos o]
    simp only
    by_cases o2:9223372036854775808≤zjH 0 (c::r)
    ·rw[if_pos o2,if_neg (by omega)]
    ·rw[if_neg o2,if_pos (by omega)]
   ·rw[if_neg o,if_neg (by omega)]
def zoh(c:UInt8):Bool:=[32,10].contains c
def zeE(c:UInt8):Bool:=[32,10,40,41,34].contains c
def zoi(c:UInt8):Bool:=[34,10].contains c
def zjJ(r:List UInt8):Option (List UInt8 × List UInt8):=match r.dropWhile fun c=>!zoi c with
 | []=>none
 | x::z=>if x=34 then some (34::(r.takeWhile (fun c=>!zoi c)++[34]),z)else none
def ziY(s:List UInt8):Option (List UInt8 × List UInt8):=match s.dropWhile zoh with
 | []=>none
 | c::r=>if c=40∨c=41 then some ([c],r)else if c=34 then zjJ r else some (c::r.takeWhile (fun x=>!zeE x),r.dropWhile fun x=>!zeE x)
theorem zbF{s t r:List UInt8}(h:ziY s=some (t,r)):t.length+r.length≤s.length∧t≠[]:=by
 have hd:=(ycb zoh (l:=s)).length_le
 unfold ziY at h
 split at h
 ·cases h
 ·rename_i c z e
  rw[e]at hd
  simp only[yac]at hd
  split at h
  ·cases h
   exact⟨by simp only[yac,ybl];omega,by simp⟩
  ·split at h
   ·unfold zjJ at h
    split at h
    ·cases h
    ·rename_i x y e2
     split at h
     ·cases h
      have h3:=congrArg ycc (ycd (p:=fun c=>!zoi c) (l:=z))
      rw[e2]at h3
      simp only[yab,yac,ybl]at h3 ⊢
      exact⟨by omega,by simp⟩
     ·cases h
   ·cases h
    have h3:=congrArg ycc (ycd (p:=fun x=>!zeE x) (l:=z))
    simp only[yab,yac]at h3 ⊢
    exact⟨by omega,by simp⟩
def zav:List UInt8:=[40,32,109,111,100,117,108,101,32,40,32,105,109,112,111,114,116,32,34,101,110,118,34,32,34,105,110,34,32,40,32,102,117,110,99,32,40,32,114,101,115,117,108,116,32,105,54,52,32,41,32,41,32,41,32,40,32,105,109,112,111,114,116,32,34,101,110,118,34,32,34,111,117,116,34,32,40,32,102,117,110,99,32,40,32,112,97,114,97,109,32,105,54,52,32,41,32,41,32,41,32,40,32,105,109,112,111,114,116,32,34,101,110,118,34,32,34,116,114,97,112,34,32,40,32,102,117,110,99,32,40,32,112,97,114,97,109,32,105,51,50,32,41,32,41,32,41,32,40,32,109,101,109,111,114,121,32,49,32,41,32,40,32,103,108,111,98,97,108,32,105,51,50,32,40,32,105,51,50,46,99,111,110,115,116]
def zjK:List (List UInt8):=[[40],[109,111,100,117,108,101],[40],[105,109,112,111,114,116],[34,101,110,118,34],[34,105,110,34],[40],[102,117,110,99],[40],[114,101,115,117,108,116],[105,54,52],[41],[41],[41],[40],[105,109,112,111,114,116],[34,101,110,118,34],[34,111,117,116,34],[40],[102,117,110,99],[40],[112,97,114,97,109],[105,54,52],[41],[41],[41],[40],[105,109,112,111,114,116],[34,101,110,118,34],[34,116,114,97,112,34],[40],[102,117,110,99],[40],[112,97,114,97,109],[105,51,50],[41],[41],[41],[40],[109,101,109,111,114,121],[49],[41],[40],[103,108,111,98,97,108],[105,51,50],[40],[105,51,50,46,99,111,110,115,116]]
def zr:List UInt8:=[40]
def zk:List UInt8:=[41]
def zah:List UInt8:=[102,117,110,99]
def zaP:List UInt8:=[112,97,114,97,109]
def zcP:List UInt8:=[114,101,115,117,108,116]
def zaQ:List UInt8:=[108,111,99,97,108]
def zaW:List UInt8:=[101,120,112,111,114,116]
def zeF:List UInt8:=[34,109,97,105,110,34]
def zAu:List UInt8:=[105,51,50]
def zAv:List UInt8:=[105,54,52]
def zgk:List UInt8:=[98,108,111,99,107]
def zkZ:List UInt8:=[108,111,111,112]
def tIf:List UInt8:=[105,102]
def zbk:List UInt8:=[101,108,115,101]
def zbw:List UInt8:=[101,110,100]
def zW:List (List UInt8):=[[97,100,100],[115,117,98],[109,117,108],[100,105,118,95,115],[114,101,109,95,115],[97,110,100],[111,114],[120,111,114],[115,104,108],[115,104,114,95,115],[101,113],[110,101],[108,116,95,115],[108,101,95,115],[103,116,95,115],[103,101,95,115]]
def zeG:List (List UInt8 × W):=[([105,51,50,46,119,114,97,112,95,105,54,52],{ op:=6,ty:=0,n:=0,body:=0,other:=0,name:=[] }),([105,54,52,46,101,120,116,101,110,100,95,105,51,50,95,115],{ op:=7,ty:=0,n:=0,body:=0,other:=0,name:=[] }),([105,51,50,46,108,111,97,100,56,95,115],{ op:=8,ty:=1,n:=1,body:=0,other:=0,name:=[] }),([105,51,50,46,108,111,97,100],{ op:=8,ty:=1,n:=4,body:=0,other:=0,name:=[] }),([105,54,52,46,108,111,97,100],{ op:=8,ty:=2,n:=8,body:=0,other:=0,name:=[] }),([105,51,50,46,115,116,111,114,101,56],{ op:=9,ty:=1,n:=1,body:=0,other:=0,name:=[] }),([105,51,50,46,115,116,111,114,101],{ op:=9,ty:=1,n:=4,body:=0,other:=0,name:=[] }),([105,54,52,46,115,116,111,114,101],{ op:=9,ty:=2,n:=8,body:=0,other:=0,name:=[] }),([114,101,116,117,114,110],{ op:=16,ty:=0,n:=0,body:=0,other:=0,name:=[] }),([117,110,114,101,97,99,104,97,98,108,101],{ op:=17,ty:=0,n:=0,body:=0,other:=0,name:=[] }),([100,114,111,112],{ op:=18,ty:=0,n:=0,body:=0,other:=0,name:=[] })]
def zp(t:Int):List UInt8:=if t=1 then zAu else zAv
def zbf(t:Int):List (List UInt8 × W):=(zW.map fun s=>(zp t++46::s,{ op:=4,ty:=t,n:=0,body:=0,other:=0,name:=s }))++[(zp t++[46,101,113,122],{ op:=5,ty:=t,n:=0,body:=0,other:=0,name:=[] })]
def zaX:List (List UInt8 × W):=zeG++(zbf 1++zbf 2)
def zaL:List (List UInt8 × W):=[([105,51,50,46,99,111,110,115,116],{ op:=1,ty:=1,n:=0,body:=0,other:=0,name:=[] }),([105,54,52,46,99,111,110,115,116],{ op:=1,ty:=2,n:=0,body:=0,other:=0,name:=[] }),([108,111,99,97,108,46,103,101,116],{ op:=2,ty:=0,n:=0,body:=0,other:=0,name:=[] }),([108,111,99,97,108,46,115,101,116],{ op:=3,ty:=0,n:=0,body:=0,other:=0,name:=[] }),([99,97,108,108],{ op:=10,ty:=0,n:=0,body:=0,other:=0,name:=[] }),([98,114],{ op:=14,ty:=0,n:=0,body:=0,other:=0,name:=[] }),([98,114,95,105,102],{ op:=15,ty:=0,n:=0,body:=0,other:=0,name:=[] })]
def zE(l:List (List UInt8 × W))(t:List UInt8):Option W:=(l.find? fun p=>p.1==t).map (·.2)
structure Ts where
 b:List UInt8
 ls:To
def zcQ(s:Ts):Res (List UInt8 × Ts):=match ziY s.b with
 | none=>.error 2
 | some p=>.ok (p.1,{ s with b:=p.2 })
def za2:List (List UInt8)→Ts→Res Ts
 | [],s=>.ok s
 | t::ts,s=>(zcQ s).bind fun p=>if p.1=t then za2 ts p.2 else .error 2
def zoj(w:List UInt8)(s:Ts):Option Ts:=match ziY s.b with
 | none=>none
 | some p=>if p.1=zr then(match ziY p.2 with
  | none=>none
  | some q=>if q.1=w then some { s with b:=q.2 }else none)else none
def za8(s:Ts):Res (Int × Ts):=(zcQ s).bind fun p=>(zsK p.1).map fun n=>(n,p.2)
def zbT:Nat→List Int→Ts→Res (List Int × Ts)
 | 0,_,_=>.error (-1)
 | k+1,l,s=>(zcQ s).bind fun p =>
  if p.1=zAu then zbT k (l++[1]) p.2 else if p.1=zAv then zbT k (l++[2]) p.2 else if p.1=zk∧l≠[]then .ok (l,p.2)else .error 2
def zgl(t:List UInt8)(s:Ts):Res (W × Ts):=match zE zaL t with
 | some w=>(za8 s).map fun p=>({ w with n:=p.1 },p.2)
 | none=>match zE zaX t with
  | some w=>.ok (w,s)
  | none=>.error 2
def zcm(t:List UInt8):Int:=if t=zgk then 11 else if t=zkZ then 12 else if t=tIf then 13 else 0
abbrev zC7:=Nat→Bool→Ts→Res ((Int × List UInt8) × Ts)
def zbx(rec:zC7)(op:Int)(d:Nat)(s:Ts):Res (W × Ts) :=
 if 400<d then .error 3
 else(rec d (decide (op=13)) s).bind fun p =>
  if op=13 then(if p.1.2=zbk then(rec d false p.2).map fun q=>({ op:=13,ty:=0,n:=0,body:=p.1.1,other:=q.1.1,name:=[] },q.2)
   else .ok ({ op:=13,ty:=0,n:=0,body:=p.1.1,other:=-1,name:=[] },p.2))
  else .ok ({ op:=op,ty:=0,n:=0,body:=p.1.1,other:=0,name:=[] },p.2)
def zd6(rec:zC7)(t:List UInt8)(d:Nat)(s:Ts):Res (W × Ts):=if zcm t=0 then zgl t s else zbx rec (zcm t) (d+1) s
def zux(d:Nat)(other:Bool)(t:List UInt8):Bool:=(decide (t=zbw)&&decide (0<d))||((decide (t=zk)&&decide (d=0))||(decide (t=zbk)&&other))
def zX:Nat→Nat→Bool→List W→Ts→Res ((Int × List UInt8) × Ts)
 | 0,_,_,_,_=>.error (-1)
 | k+1,d,o,l,s=>(zcQ s).bind fun p =>
  if zux d o p.1=true then .ok (((p.2.ls.length:Int),p.1),{ p.2 with ls:=p.2.ls++[l] })
  else(zd6 (fun d o s=>zX k d o [] s) p.1 d p.2).bind fun q=>zX k d o (l++[q.1]) q.2
def zU(c:UInt8):Bool:=(decide (97≤c.toNat)&&decide (c.toNat≤122))||c==95
def zgW(m:Nat)(t:List UInt8):Bool:=match t with
 | []=>false
 | c::r=>decide (t.length≤m)&&(zU c&&r.all fun x=>zU x||zQ x)
def zd7(w:List UInt8)(s:Ts):Res (List Int × Ts):=match zoj w s with
 | some s'=>zbT (s'.b.length+1) [] s'
 | none=>.ok ([],s)
def zrg(s:Ts):Res (Int × Ts):=match zoj zcP s with
 | some s'=>(zbT (s'.b.length+1) [] s').bind fun r=>if r.1.length=1 then .ok (r.1.headD 0,r.2)else .error 2
 | none=>.ok (0,s)
def zcR(mx:Nat)(s:Ts):Res (F × Ts):=(zcQ s).bind fun p =>
 if p.1.head?=some 36∧zgW mx p.1.tail=true then(zd7 zaP p.2).bind fun q=>(zrg q.2).bind fun r=>(zd7 zaQ r.2).bind fun u=>(zX (u.2.b.length+1) 0 false [] { u.2 with ls:=[] }).map fun(v:(Int × List UInt8) × Ts) =>
   ({ name:=p.1.tail,params:=q.1,locals:=u.1,type:=r.1,lists:=v.2.ls },v.2)
 else .error 2
def zaz(mx:Nat):Nat→List F→Ts→Res (List F × Ts)
 | 0,_,_=>.error (-1)
 | k+1,l,s=>match zoj zah s with
  | none=>.ok (l,s)
  | some s'=>(zcR mx s').bind fun p=>zaz mx k (l++[p.1]) p.2
def zgm(mx:Nat)(s:Ts):Res (M × Ts):=(za2 zjK s).bind fun s=>(za8 s).bind fun mem=>(za2 [zk,zk] mem.2).bind fun s=>(zaz mx (s.b.length+1) [] s).bind fun fs =>
 (za2 [zr,zaW,zeF,zr,zah] fs.2).bind fun s=>(za8 s).bind fun mn=>(za2 [zk,zk,zk] mn.2).bind fun s =>
  if s.b.all zoh=true then .ok ({ funcs:=fs.1,memory:=mem.1,main:=yb4 .i64 (mn.1-3) },s)else .error 2
def zhn(mx:Nat)(b:List UInt8):Res M:=(zgm mx ⟨b,[]⟩).map (·.1)
def zaI(f:Nat→Nat):Nat→Nat
 | 0=>0
 | k+1=>zaI f k+f k
theorem zdI{f g:Nat→Nat}:∀k,(∀i,i<k→f i=g i)→zaI f k=zaI g k
 | 0,_=>rfl
 | k+1,h=>by rw[zaI,zaI,zdI k fun i hi=>h i (by omega),h k (by omega)]
def rt(T:Nat→Nat)(named:List Bool)(i:Nat):Nat:=if named.getD i true then 0 else T i
theorem ziC(named:List Bool)(n i:Nat):(named.set n true).getD i true=if i=n then true else named.getD i true:=by
 rw[yce,yce,List.getElem?_set]
 by_cases h:n=i
 ·subst h
  rw[if_pos rfl,if_pos rfl]
  split<;>rfl
 ·rw[if_neg h,if_neg (fun e=>h e.symm)]
theorem zjL(T:Nat→Nat)(named:List Bool){n i:Nat}(h:i≠n):rt T (named.set n true) i=rt T named i:=by
 have e:(named.set n true).getD i true=named.getD i true:=by rw[ziC,if_neg h]
 unfold rt;rw[e]
theorem zjM(T:Nat→Nat)(named:List Bool)(n:Nat)(h:named.getD n true=false):∀k,n<k→zaI (rt T (named.set n true)) k+T n=zaI (rt T named) k
 | 0,hk=>by omega
 | k+1,hk=>by
  simp only[zaI]
  by_cases e:n=k
  ·subst e
   have h1:zaI (rt T (named.set n true)) n=zaI (rt T named) n:=zdI n fun i hi=>zjL T named (Nat.ne_of_lt hi)
   have h2:rt T (named.set n true) n=0:=by
    have e:(named.set n true).getD n true=true:=by rw[ziC,if_pos rfl]
    unfold rt;rw[e];rfl
   have h3:rt T named n=T n:=by unfold rt;rw[h];rfl
   omega
  ·have ih:=zjM T named n h k (by omega)
   have h2:rt T (named.set n true) k=rt T named k:=zjL T named (fun q=>e q.symm)
   omega
def zho(l:List Int)(T:Nat→Nat):Nat:=(l.map fun n=>T n.toNat).sum
theorem zdJ(a b:List Int)(T):zho (a++b) T=zho a T+zho b T:=by simp[zho]
structure ziD(T:Nat→Nat)(k:Nat)(named named':List Bool)(ns:List Int):Prop where
 inside:∀n∈ns,0≤n∧n<(k:Int)
 sum:zaI (rt T named') k+zho ns T=zaI (rt T named) k
 rest:∀i,k≤i→named'.getD i true=named.getD i true
 len:named'.length=named.length
theorem ziD.nil{T k named}:ziD T k named named []:=⟨by simp,by simp[zho],fun _ _=>rfl,rfl⟩
theorem ziD.trans{T k a b c l m}(h:ziD T k a b l)(h':ziD T k b c m):ziD T k a c (l++m) where
 inside n hn:=(ybh.1 hn).elim (h.inside n) (h'.inside n)
 sum:=by rw[zdJ];have:=h.sum;have:=h'.sum;omega
 rest i hi:=(h'.rest i hi).trans (h.rest i hi)
 len:=h'.len.trans h.len
theorem zrh{T k named n named'}(h:zdj (k:Nat) named n=.ok named'):ziD T k named named' [n]:=by
 unfold zdj at h
 split at h
 ·rename_i hc
  cases h
  obtain⟨h0,h1,h2⟩:=hc
  have hk:n.toNat<k:=by omega
  refine⟨by simp;exact⟨h0,h1⟩,by simpa [zho]using zjM T named n.toNat h2 k hk,fun i hi=>by rw[ziC,if_neg (by omega)],by simp⟩
 ·cases h
theorem zjN{T k}:∀{ns named named'},zaq (k:Nat) ns named=.ok named'→ziD T k named named' ns
 | [],_,_,h=>by simp[zaq]at h;subst h;exact .nil
 | n::ns,named,named',h=>by
  rw[zaq]at h
  split at h
  ·cases h
  ·rename_i named1 h1
   exact(zrh h1).trans (zjN h)
theorem zk0{T k}:∀{ws named named'},zgJ (k:Nat) ws named=.ok named'→ziD T k named named' (ws.flatMap zt)
 | [],_,_,h=>by simp[zgJ]at h;subst h;exact .nil
 | w::ws,named,named',h=>by
  rw[zgJ]at h
  split at h
  ·cases h
  ·rename_i named1 h1
   rw[yaa]
   exact(zjN h1).trans (zk0 h)
def zk1(ls:To):Prop:=∀(k:Nat) (row:List W),ls[k]?=some row→∀n∈row.flatMap zt,0≤n∧n<(k:Int)
theorem zgn(ls:To):∀(r:To) (k:Nat) (named named':List Bool),ls.drop k=r→za7 k r named=.ok named'→∀j row,k≤j→ls[j]?=some row→∀n∈row.flatMap zt,0≤n∧n<(j:Int)
 | [],k,_,_,hd,_,j,row,hj,hr=>by
  have:ls.length≤k:=ycf.1 hd
  rw[yb2 (by omega)]at hr;cases hr
 | l::r,k,named,named',hd,h,j,row,hj,hr=>by
  rw[za7]at h
  split at h
  ·cases h
  ·rename_i named1 h1
   have hl:ls[k]?=some l:=by
    have:=congrArg (·[0]?) hd
    simpa using this
   have hd':ls.drop (k+1)=r:=by
    have:=congrArg (ycg 1) hd
    simpa [ych]using this
   by_cases e:j=k
   ·subst e
    rw[hl]at hr;cases hr
    exact(zk0 (T:=fun _=>0) h1).inside
   ·exact zgn ls r (k+1) named1 named' hd' h j row (by omega) hr
theorem zjO(ls:To)(T g:Nat→Nat)(hT:∀k row,ls[k]?=some row→T k=g k+zho (row.flatMap zt) T):∀(r:To) (k:Nat) (named named':List Bool),ls.drop k=r→za7 k r named=.ok named'→k≤ls.length →
  zaI (rt T named) k=zaI g k→named.length=ls.length→(∀i,k≤i→i<ls.length→named.getD i true=false) →
  zaI (rt T named') ls.length=zaI g ls.length∧named'.length=ls.length∧(0<ls.length→k<ls.length→named'.getD (ls.length-1) true=false)
 | [],k,named,named',hd,h,hk,hs,hl,hf=>by
  have hlen:ls.length≤k:=ycf.1 hd
  simp[za7]at h
  subst h
  obtain rfl:k=ls.length:=by omega
  exact⟨hs,hl,fun _ h=>by omega⟩
 | l::r,k,named,named',hd,h,hk,hs,hlen,hf=>by
  rw[za7]at h
  split at h
  ·cases h
  ·rename_i named1 h1
   have hl:ls[k]?=some l:=by
    have:=congrArg (·[0]?) hd
    simpa using this
   have hd':ls.drop (k+1)=r:=by
    have:=congrArg (ycg 1) hd
    simpa [ych]using this
   have hk':k<ls.length:=(yaq.1 hl).1
   have N:=zk0 (T:=T) h1
   have hkk:named1.getD k true=false:=(N.rest k (yah _)).trans (hf k (yah _) hk')
   have hsum:zaI (rt T named1) (k+1)=zaI g (k+1):=by
    simp only[zaI]
    have h3:rt T named1 k=T k:=by unfold rt;rw[hkk];rfl
    have:=N.sum
    have:=hT k l hl
    omega
   have key:=zjO ls T g hT r (k+1) named1 named' hd' h hk' hsum (N.len.trans hlen) fun i hi hil=>(N.rest i (by omega)).trans (hf i (by omega) hil)
   refine⟨key.1,key.2.1,fun h0 _=>?_⟩
   by_cases e:k+1<ls.length
   ·exact key.2.2 h0 e
   ·have:r=[]:=by
     have hdl:=congrArg ycc hd'
     rw[yci]at hdl
     exact ybS.1 (by omega)
    subst this
    simp[za7]at h
    subst h
    rw[show ls.length-1=k from by omega]
    exact hkk
def tot(g:Nat→Nat)(ls:To):Nat→Nat→Nat
 | 0,_=>0
 | f+1,k=>g k+zho ((ls.getD k []).flatMap zt) (tot g ls f)
theorem zmT{l:List Int}{T U:Nat→Nat}(h:∀n∈l,T n.toNat=U n.toNat):zho l T=zho l U:=by
 induction l with
 | nil=>rfl
 | cons n l ih =>
  simp only[zho,yaL,ycj]at ih ⊢
  rw[h n (by simp),ih fun m hm=>h m (by simp[hm])]
theorem zmU(g:Nat→Nat){ls:To}(ha:zk1 ls):∀(f:Nat) (k:Nat),k<f→tot g ls (f+1) k=tot g ls f k:=by
 intro f
 induction f with
 | zero=>intro k h;omega
 | succ f ih =>
  intro k hk
  rw[tot,tot]
  congr 1
  refine zmT fun n hn=>?_
  cases hr:ls[k]? with
  | none=>rw[yce,hr]at hn;simp at hn
  | some row =>
   rw[yce,hr]at hn
   have:=ha k row hr n hn
   exact ih n.toNat (by omega)
def zjP(g:Nat→Nat)(ls:To)(k:Nat):Nat:=tot g ls ls.length k
theorem zk2(g:Nat→Nat){ls:To}(ha:zk1 ls){k:Nat}{row:List W}(h:ls[k]?=some row):zjP g ls k=g k+zho (row.flatMap zt) (zjP g ls):=by
 have hk:=(yaq.1 h).1
 unfold zjP
 rw[←zmU g ha ls.length k hk,tot,yce,h]
 rfl
theorem zhp:∀k,zaI (fun _=>0) k=0
 | 0=>rfl
 | k+1=>by rw[zaI,zhp k]
theorem zd8{ls:To}(h:zbS ls=.ok ()):0<ls.length∧zk1 ls∧∀g,zjP g ls (ls.length-1)=zaI g ls.length:=by
 unfold zbS at h
 split at h
 ·cases h
 ·rename_i h0
  split at h
  ·cases h
  ·rename_i named hr
   split at h
   ·rename_i hall
    have ha:zk1 ls:=fun k row hk=>zgn ls ls 0 _ _ (by simp) hr k row (yck _) hk
    refine⟨by omega,ha,fun g=>?_⟩
    obtain⟨h1,h2,h3⟩:=zjO ls (zjP g ls) g (fun k row hk=>zk2 g ha hk) ls 0 _ _ (by simp) hr (yck _) rfl (by simp) fun i _ hi=>by
     rw[yce,ycl,if_pos hi];rfl
    obtain⟨L,hL⟩:∃L,ls.length=L+1:=⟨ls.length-1,by omega⟩
    have h3':=h3 (by omega) (by omega)
    rw[hL]at h1 h3' hall ⊢
    simp only[Nat.add_sub_cancel]at h3' hall ⊢
    rw[←h1,zaI]
    have z:zaI (rt (zjP g ls) named) L=0:=by
     have:zaI (rt (zjP g ls) named) L=zaI (fun _=>0) L:=zdI L fun i hi=>by
      have hm:(named.take L)[i]?=some true:=by
       have hlt:i<(named.take L).length:=by rw[ybf];omega
       rw[yau hlt]
       have:=yaM.1 hall _ (yaw hlt)
       simpa using this
      rw[List.getElem?_take,if_pos hi]at hm
      have e:named.getD i true=true:=by rw[yce,hm];rfl
      unfold rt;rw[e];rfl
     rw[this,zhp]
    have e:rt (zjP g ls) named L=zjP g ls L:=by unfold rt;rw[h3'];rfl
    rw[z,e];omega
   ·cases h
def zfm(c:Nat→Nat)(ls:To):Nat:=(ls.map fun l=>c l.length).sum
theorem zgo(c a b):zfm c (a++b)=zfm c a+zfm c b:=by simp[zfm]
theorem zby{fs:List F}{f:F}(h:zC fs f=.ok ()):zbS f.lists=.ok ():=by
 unfold zC at h
 split at h
 ·cases h
 ·split at h
  ·cases h
  ·assumption
theorem zdt{fs:List F}:∀{r:List F},zP fs r=.ok ()→∀f∈r,zC fs f=.ok ()
 | [],_,f,hf=>by simp at hf
 | g::r,h,f,hf=>by
  rw[zP]at h
  split at h
  ·cases h
  ·rename_i u hg
   rcases ybC.1 hf with rfl|hf
   ·exact hg
   ·exact zdt h f hf
theorem zfn{m:M}(h:zbv m=.ok ()):∀f∈m.funcs,zC m.funcs f=.ok ():=by
 unfold zbv at h
 split at h
 ·cases h
 ·split at h
  ·cases h
  ·rename_i u hf
   exact zdt hf
def W.cs(w:W):List AV:=[.int .i64 w.op,.int .i64 w.ty,.int .i64 w.n,.int .i64 w.body,.int .i64 w.other,.str w.name]
def W.av(w:W):AV:=.agg w.cs
inductive All2{α β:Type}(R:α→β→Prop):List α→List β→Prop
 | nil:All2 R [] []
 | cons {x y xs ys} (h:R x y) (r:All2 R xs ys):All2 R (x::xs) (y::ys)
def ziE(v:AV)(l:List W):Prop:=(l=[]∧v=.nilsl)∨∃b,v=.sl (.stat b) 6 (l.map W.av)
def zuy(v:AV)(frm:To):Prop:=∃b rows,v=.sl (.stat b) 1 rows∧All2 ziE rows frm
def zbU:AV→Option Nat
 | .sl (.fam g _) _ _=>some g
 | _=>none
end Go.Proofs.YtohfclafhegadaaGreatDoor


namespace Go.Proofs.YtohfclafhegadaaGreatDoor
open Go Go.Abs
theorem All2.length{α β:Type}{R:α→β→Prop}{xs ys}(h:All2 R xs ys):xs.length=ys.length:=by
 induction h<;>simp_all
theorem All2.get{α β:Type}{R:α→β→Prop}{xs ys}(h:All2 R xs ys){i:Nat}{y}(hy:ys[i]?=some y):∃x,xs[i]?=some x∧R x y:=by
 induction h generalizing i with
 | nil=>simp at hy
 | cons h r ih =>
  cases i with
  | zero=>simp at hy;subst hy;exact⟨_,by simp,h⟩
  | succ i=>simp at hy;simpa using ih hy
theorem All2.append{α β:Type}{R:α→β→Prop}{xs ys xs' ys'}(h:All2 R xs ys)(h':All2 R xs' ys'):All2 R (xs++xs') (ys++ys'):=by
 induction h with
 | nil=>exact h'
 | cons h r ih=>exact .cons h ih
theorem zri{P:Program}{G:Env}{f:FuncId}{args:List AV}{σ:AS}{R:Out→AS→Prop}
  (h:ACalls P G f args σ fun o σ'=>R o σ'∨∃v g p,o=.ret v∧σ'.F g=.alive∧R (.ret (frz g v)) (σ'.frz g p)):ACalls P G f args σ R:=by
 intro M w cargs S g c
 refine(h M w cargs S g c).mono fun e w' ⟨o,σ',M',hR,h2,h3,h4⟩=>?_
 rcases hR with hR|⟨v,k,p,ho,ha,hR⟩
 ·exact⟨o,σ',M',hR,h2,h3,h4⟩
 subst ho
 refine⟨_,_,M'.frz k,hR,?_,h3.frz ha,h4.trans (zkG ha)⟩
 cases e<;>simp only[zbD]at h2 ⊢
 exact h2.frz ha
theorem zEF(f:Nat)(w:W):frz f w.av=w.av:=by simp[W.av,W.cs]
theorem zsL(f:Nat)(l:List W):(l.map W.av).map (frz f)=l.map W.av:=by simp[Function.comp_def,zEF]
theorem ziE.frz{v l}(h:ziE v l)(f:Nat):frz f v=v:=by
 rcases h with ⟨_,rfl⟩|⟨b,rfl⟩
 ·simp
 ·rw[zca,zsL]
theorem zl3{tos tO}(h:All2 ziE tos tO)(f:Nat):tos.map (frz f)=tos:=by
 induction h with
 | nil=>rfl
 | cons h r ih=>simp[h.frz f,ih]
theorem zuy.frz{v frm}(h:zuy v frm)(f:Nat):frz f v=v:=by
 obtain⟨b,rows,rfl,h⟩:=h
 rw[zca,zl3 h]
end Go.Proofs.YtohfclafhegadaaGreatDoor


namespace Go.Proofs.YtohfclafhegadaaGreatDoor
open Go Go.Abs
structure zf(σ σ':AS):Prop where
 no:σ.no≤σ'.no
 nf:σ.nf≤σ'.nf
 obj:∀o,o<σ.no→σ'.objs o=σ.objs o
 fam:∀f,f<σ.nf→σ'.F f=σ.F f
theorem zf.refl(σ):zf σ σ:=⟨yah _,yah _,fun _ _=>rfl,fun _ _=>rfl⟩
theorem zf.trans{σ σ1 σ2}(h:zf σ σ1)(h':zf σ1 σ2):zf σ σ2 where
 no:=yai h.no h'.no
 nf:=yai h.nf h'.nf
 obj o a:=by rw[h'.obj o (yag a h.no),h.obj o a]
 fam f a:=by rw[h'.fam f (yag a h.nf),h.fam f a]
theorem zf.newO{σ σ' cs}(h:zf σ σ'):zf σ (σ'.newO cs) where
 no:=yai h.no (by simp)
 nf:=h.nf
 obj o a:=by have:=h.no;simp;rw[if_neg (by omega)];exact h.obj o a
 fam:=h.fam
theorem zf.setO{σ σ' o cs}(h:zf σ σ')(ho:σ.no≤o):zf σ (σ'.setO o cs) where
 no:=h.no
 nf:=h.nf
 obj p a:=by simp;rw[if_neg (by omega)];exact h.obj p a
 fam:=h.fam
theorem zf.newF{σ σ'}(h:zf σ σ'):zf σ σ'.newF where
 no:=h.no
 nf:=yai h.nf (by simp)
 obj:=h.obj
 fam f a:=by have:=h.nf;simp;rw[if_neg (by omega)];exact h.fam f a
theorem zf.setF{σ σ' f s}(h:zf σ σ')(hf:σ.nf≤f):zf σ (σ'.setF f s) where
 no:=h.no
 nf:=h.nf
 obj:=h.obj
 fam g a:=by simp;rw[if_neg (by omega)];exact h.fam g a
theorem zf.frz{σ σ' f p}(h:zf σ σ')(hf:σ.nf≤f)(hp:∀o,o<σ.no→p o=false):zf σ (σ'.frz f p) where
 no:=h.no
 nf:=h.nf
 obj o a:=by simp[AS.frz,hp o a];exact h.obj o a
 fam g a:=by simp[AS.frz,zmM];rw[if_neg (by omega)];exact h.fam g a
def zaM(v:AV)(l:List Int):Prop:=(l=[]∧v=.nilsl)∨∃b,v=.sl (.stat b) 1 (l.map (.int .i64))
theorem zaM.frz{v l}(h:zaM v l)(f:Nat):frz f v=v:=by
 rcases h with ⟨_,rfl⟩|⟨b,rfl⟩<;>simp[Function.comp_def]
theorem zaM.one{v l}(h:zaM v l):v.known=true∧v.one=true∧v.cells=[v]:=by
 rcases h with ⟨_,rfl⟩|⟨b,rfl⟩<;>simp
def zrj(R:Out→AS→Prop)(o:Out)(σ':AS):Prop:=R o σ'∨∃v g p,o=.ret v∧σ'.F g=.alive∧R (.ret (frz g v)) (σ'.frz g p)
theorem zd9{P:Program}{G:Env}{f:FuncId}{args:List AV}{σ:AS}{R:Out→AS→Prop}(h:ACalls P G f args σ (zrj R)):ACalls P G f args σ R:=zri h
theorem zrj.froze{R:Out→AS→Prop}{v:AV}{σ':AS}(g:Nat)(p:Nat→Bool)(h:σ'.F g=.alive)(h2:R (.ret (frz g v)) (σ'.frz g p)):zrj R (.ret v) σ':=.inr ⟨v,g,p,rfl,h,h2⟩
def zbz(v:AV)(tO:To):Prop:=(tO=[]∧v=.nilsl)∨zuy v tO
theorem zbz.one{v l}(h:zbz v l):v.known=true∧v.one=true∧v.cells=[v]:=by
 rcases h with ⟨_,rfl⟩|⟨b,_,rfl,_⟩<;>simp
theorem zbz.frz{v l}(h:zbz v l)(f:Nat):frz f v=v:=by
 rcases h with ⟨_,rfl⟩|h
 ·simp
 ·exact h.frz f
def FV(v:AV)(f:F):Prop:=∃pv lv tv,v=.agg [.str f.name,pv,lv,.int .i64 f.type,tv]∧zaM pv f.params∧zaM lv f.locals∧zbz tv f.lists
def FsV(v:AV)(fs:List F):Prop:=(fs=[]∧v=.nilsl)∨∃b rows,v=.sl (.stat b) 5 rows∧All2 FV rows fs
def MV(v:AV)(m:M):Prop:=∃fv,v=.agg [fv,.int .i64 m.memory,.int .i64 m.main]∧FsV fv m.funcs
theorem FV.frz{v f}(h:FV v f)(g:Nat):frz g v=v:=by
 obtain⟨pv,lv,tv,rfl,h1,h2,h3⟩:=h
 simp[h1.frz,h2.frz,h3.frz]
end Go.Proofs.YtohfclafhegadaaGreatDoor

namespace Go.Proofs.YtohfclafhegadaaGreatDoor
open Go Go.Abs
theorem FsV.one{v l}(h:FsV v l):v.known=true∧v.one=true∧v.cells=[v]:=by
 rcases h with ⟨_,rfl⟩|⟨b,_,rfl,_⟩<;>simp
def MU(r n:Nat)(a:Nat→AV)(_:AS):Nat:=match a r with|.int _ i=>n-i.toNat|_=>0
theorem zaM.len{tv:AV}{ts:List Int}(h:zaM tv ts)(K:AV→Prop):zgI yb9 44 tv K=K (.int .i64 (ts.length:Int)):=by
 rcases h with ⟨rfl,rfl⟩|⟨b,rfl⟩<;>simp
theorem FsV.len{fv:AV}{fs:List F}(h:FsV fv fs)(K:AV→Prop):zgI yb9 26 fv K=K (.int .i64 (fs.length:Int)):=by
 rcases h with ⟨rfl,rfl⟩|⟨b,rows,rfl,hr⟩
 ·simp
 ·simp[hr.length]
theorem zbz.len{tv:AV}{ls:To}(h:zbz tv ls)(K:AV→Prop):zgI yb9 55 tv K=K (.int .i64 (ls.length:Int)):=by
 rcases h with ⟨rfl,rfl⟩|⟨b,rows,rfl,hr⟩
 ·simp
 ·simp[hr.length]
theorem ziE.len{v:AV}{l:List W}(h:ziE v l)(K:AV→Prop):zgI yb9 54 v K=K (.int .i64 (l.length:Int)):=by
 rcases h with ⟨rfl,rfl⟩|⟨b,rfl⟩<;>simp
theorem ziE.one{v l}(h:ziE v l):v.known=true∧v.one=true∧v.cells=[v]:=by
 rcases h with ⟨_,rfl⟩|⟨b,rfl⟩<;>simp
theorem ziE.at{v:AV}{l:List W}(h:ziE v l){i:Nat}(hi:i<l.length):∃b,∀K:AV→Prop,zu yb9 54 v (.int .i64 (i:Int)) K=K (.pv (.stat b) l[i].av):=by
 rcases h with ⟨rfl,_⟩|⟨b,rfl⟩
 ·simp at hi
 ·exact⟨b,fun K=>by simp[hi]⟩
theorem zaM.at{v:AV}{l:List Int}(h:zaM v l){i:Nat}(hi:i<l.length):∃b,∀K:AV→Prop,zu yb9 44 v (.int .i64 (i:Int)) K=K (.pv (.stat b) (.int .i64 l[i])):=by
 rcases h with ⟨rfl,_⟩|⟨b,rfl⟩
 ·simp at hi
 ·exact⟨b,fun K=>by simp[hi]⟩
theorem zbz.at{v:AV}{l:To}(h:zbz v l){i:Nat}(hi:i<l.length):∃b rv,ziE rv l[i]∧∀K:AV→Prop,zu yb9 55 v (.int .i64 (i:Int)) K=K (.pv (.stat b) rv):=by
 rcases h with ⟨rfl,_⟩|⟨b,rows,rfl,hr⟩
 ·simp at hi
 ·obtain⟨rv,h1,h2⟩:=hr.get (yau hi)
  exact⟨b,rv,h2,fun K=>by simp[h1]⟩
theorem FsV.at{v:AV}{l:List F}(h:FsV v l){i:Nat}(hi:i<l.length):∃b fv,FV fv l[i]∧∀K:AV→Prop,zu yb9 26 v (.int .i64 (i:Int)) K=K (.pv (.stat b) fv):=by
 rcases h with ⟨rfl,_⟩|⟨b,rows,rfl,hr⟩
 ·simp at hi
 ·obtain⟨fv,h1,h2⟩:=hr.get (yau hi)
  exact⟨b,fv,h2,fun K=>by simp[h1]⟩
def zwe(τ:AS)(base sz:Nat)(v:AV)(ys:List AV):Prop:=(ys=[]∧v=.nilsl)∨∃g,v=.sl (.fam g false) sz ys∧base≤g∧g<τ.nf∧τ.F g=.alive
theorem zwe.keep{τ τ':AS}{base sz:Nat}{v:AV}{ys:List AV}(h:zwe τ base sz v ys)(A:zf τ τ'):zwe τ' base sz v ys:=by
 rcases h with h|⟨g,rfl,h1,h2,h3⟩
 ·exact .inl h
 ·have:=A.nf
  exact .inr ⟨g,rfl,h1,by omega,(A.fam g h2).trans h3⟩
def CpI(sz:Nat)(v:AV)(xs:List AV)(σ:AS)(a:Nat→AV)(τ:AS):Prop:=∃i:Nat,i≤xs.length∧a 0=v∧a 4=.int .i64 (i:Int)∧zwe τ σ.nf sz (a 3) (xs.take i)∧zf σ τ
theorem zcS{α:Type}{l:List α}{i:Nat}{x:α}(h:l[i]?=some x):l.take (i+1)=l.take i++[x]:=by
 obtain⟨hi,rfl⟩:=yaq.1 h
 exact ycm hi
theorem zdu{G:Env}{v:AV}{l:List Int}{σ:AS}{R:Out→AS→Prop}(hv:zaM v l)(hl:l.length≤2^40)(h:∀v' σ',zaM v' l→zf σ σ'→R (.ret v') σ'):zzQ G 184 [v] σ R:=by
 refine zd9 (zqS rfl ?_)
 have v1:=hv.one
 have v2:=hv.len
 simp[zxR]
 refine zI (CpI 1 v (l.map (.int .i64)) σ) (MU 4 (l.length+1)) ⟨0,by omega,by simp,by simp,.inl ⟨by simp,by simp⟩,.refl _⟩ fun a τ hI=>?_
 obtain⟨i,hi,a0,a4,hO,hA⟩:=hI
 have hi:i≤l.length:=by simpa using hi
 by_cases hlt:i<l.length
 ·obtain⟨b,hix⟩:=hv.at hlt
  have hget:(l.map (ycn .i64))[i]?=some (.int .i64 l[i]):=by simp[hlt]
  have w1:yb4 .i64 ((i:Int)+1)=((i+1:Nat):Int):=by rw[wrap_i64]<;>omega
  have htl:(l.take i).length=i:=by simp;omega
  have ts:=zcS hget
  generalize l[i]=x at *
  rcases hO with ⟨he,h3⟩|⟨g,h3,h4,h5,h6⟩
  ·simp[zd3,a0,a4,v1,v2,hlt,hix,h3,w1]
   refine⟨⟨i+1,by simp;omega,by simp[a0],by simp,.inr ⟨τ.nf,?_,hA.nf,by simp,by simp⟩,hA.newF⟩,?_⟩
   ·rw[ts,he];simp
   ·simp only[MU,a4];simp;omega
  ·simp[zd3,a0,a4,v1,v2,hlt,hix,h3,w1,h6]
   have hgn:=hA.nf
   refine⟨by omega,⟨i+1,by simp;omega,by simp[a0],by simp,.inr ⟨τ.nf,?_,hgn,by simp,by simp⟩,?_⟩,?_⟩
   ·rw[ts];simp
   ·exact⟨by simpa using hA.no,by simp;omega,fun o ho=>by simpa using hA.obj o ho,fun f hf=>by
     have:f≠g:=by omega
     simp[this]
     rw[if_neg (by omega)]
     exact hA.fam f hf⟩
   ·simp only[MU,a4];simp;omega
 ·have he:i=l.length:=by omega
  have hlt':¬(i:Int)<(l.length:Int):=by omega
  have htk:(l.map (ycn .i64)).take i=l.map (ycn .i64):=yco (by simp;omega)
  rw[htk]at hO
  rcases hO with ⟨hn,h3⟩|⟨g,h3,h4,h5,h6⟩
  ·simp[zd3,ziu,a0,a4,v1,v2,hlt,h3]
   exact .inl (h _ _ (.inl ⟨by simpa using hn,rfl⟩) hA)
  ·simp[zd3,ziu,a0,a4,v1,v2,hlt,h3]
   refine .froze g (fun _=>false) h6 ?_
   have:=h (.sl (.stat false) 1 (l.map (.int .i64))) (τ.frz g fun _=>false) (.inr ⟨_,rfl⟩) (hA.frz h4 fun _ _=>rfl)
   simpa [Function.comp_def]using this
theorem zjQ{G:Env}{v:AV}{l:List W}{σ:AS}{R:Out→AS→Prop}(hv:ziE v l)(hl:l.length≤2^40)(h:∀v' σ',ziE v' l→zf σ σ'→R (.ret v') σ'):zzQ G 224 [v] σ R:=by
 refine zd9 (zq8 rfl ?_)
 have v1:=hv.one
 have v2:=hv.len
 simp[zx0]
 refine zI (CpI 6 v (l.map W.av) σ) (MU 4 (l.length+1)) ⟨0,by omega,by simp,by simp,.inl ⟨by simp,by simp⟩,.refl _⟩ fun a τ hI=>?_
 obtain⟨i,hi,a0,a4,hO,hA⟩:=hI
 have hi:i≤l.length:=by simpa using hi
 by_cases hlt:i<l.length
 ·obtain⟨b,hix⟩:=hv.at hlt
  have hget:(l.map W.av)[i]?=some l[i].av:=by simp[hlt]
  have w1:yb4 .i64 ((i:Int)+1)=((i+1:Nat):Int):=by rw[wrap_i64]<;>omega
  have ts:=zcS hget
  generalize l[i]=x at *
  rcases hO with ⟨he,h3⟩|⟨g,h3,h4,h5,h6⟩
  ·simp[zd4,a0,a4,v1,v2,hlt,hix,h3,w1,W.av,W.cs]
   refine⟨⟨i+1,by simp;omega,by simp[a0],by simp,.inr ⟨τ.nf,?_,hA.nf,by simp,by simp⟩,hA.newF⟩,?_⟩
   ·rw[ts,he];simp[W.av,W.cs]
   ·simp only[MU,a4];simp;omega
  ·have htl:((l.map W.av).take i).length=i:=by simp;omega
   generalize (l.map W.av).take i=done at *
   simp[zd4,a0,a4,v1,v2,hlt,hix,h3,w1,h6,W.av,W.cs]
   have hgn:=hA.nf
   refine⟨by omega,⟨i+1,by simp;omega,by simp[a0],by simp,.inr ⟨τ.nf,?_,hgn,by simp,by simp⟩,?_⟩,?_⟩
   ·rw[ts];simp[W.av,W.cs]
   ·exact⟨by simpa using hA.no,by simp;omega,fun o ho=>by simpa using hA.obj o ho,fun f hf=>by
     have:f≠g:=by omega
     simp[this]
     rw[if_neg (by omega)]
     exact hA.fam f hf⟩
   ·simp only[MU,a4];simp;omega
 ·have he:i=l.length:=by omega
  have hlt':¬(i:Int)<(l.length:Int):=by omega
  have htk:(l.map W.av).take i=l.map W.av:=yco (by simp;omega)
  rw[htk]at hO
  rcases hO with ⟨hn,h3⟩|⟨g,h3,h4,h5,h6⟩
  ·simp[zd4,ziA,a0,a4,v1,v2,hlt,h3]
   exact .inl (h _ _ (.inl ⟨by simpa using hn,rfl⟩) hA)
  ·simp[zd4,ziA,a0,a4,v1,v2,hlt,h3]
   refine .froze g (fun _=>false) h6 ?_
   have:=h (.sl (.stat false) 6 (l.map W.av)) (τ.frz g fun _=>false) (.inr ⟨_,rfl⟩) (hA.frz h4 fun _ _=>rfl)
   rw[zc5,if_pos rfl,zsL]
   exact this
def CpL(v:AV)(l:To)(σ:AS)(a:Nat→AV)(τ:AS):Prop:=∃(i:Nat) (rows:List AV),i≤l.length∧a 0=v∧a 4=.int .i64 (i:Int)∧All2 ziE rows (l.take i)∧zwe τ σ.nf 1 (a 3) rows∧zf σ τ
theorem zgp{G:Env}{v:AV}{l:To}{σ:AS}{R:Out→AS→Prop}(hv:zbz v l)(hl:l.length≤2^40)(hr:∀r∈l,r.length≤2^40)(h:∀v' σ',zbz v' l→zf σ σ'→R (.ret v') σ'):zzQ G 185 [v] σ R:=by
 refine zd9 (zqT rfl ?_)
 have v1:=hv.one
 have v2:=hv.len
 simp[zxS]
 refine zI (CpL v l σ) (MU 4 (l.length+1)) ⟨0,[],by omega,by simp,by simp,by simpa using All2.nil,.inl ⟨rfl,by simp⟩,.refl _⟩ fun a τ hI=>?_
 obtain⟨i,rows,hi,a0,a4,hR,hO,hA⟩:=hI
 by_cases hlt:i<l.length
 ·obtain⟨b,rv,hrv,hix⟩:=hv.at hlt
  have hget:l[i]?=some l[i]:=yau hlt
  have w1:yb4 .i64 ((i:Int)+1)=((i+1:Nat):Int):=by rw[wrap_i64]<;>omega
  have ts:=zcS hget
  have hrl:=hr _ (yaw hlt)
  generalize l[i]=row at *
  have r1:=hrv.one
  have hlen:rows.length=i:=by rw[hR.length];simp;omega
  simp[zfB,a0,a4,v1,v2,hlt,hix,r1]
  refine zjQ hrv hrl fun rv' σ1 hrv' A1=>?_
  have q1:=hrv'.one
  have hO1:=hO.keep A1
  have hA1:=hA.trans A1
  have hR1:All2 ziE (rows++[rv']) (l.take (i+1)):=by rw[ts];exact hR.append (.cons hrv' .nil)
  have hgn:=hA1.nf
  rcases hO1 with ⟨rfl,h3⟩|⟨g,h3,h4,h5,h6⟩
  ·simp[q1,h3,w1,a4]
   refine⟨⟨i+1,[rv'],by omega,by simp[a0],by simp,by simpa using hR1,.inr ⟨σ1.nf,by simp,hgn,by simp,by simp⟩,hA1.newF⟩,?_⟩
   simp only[MU,a4];simp;omega
  ·simp[q1,h3,w1,h6,a4]
   refine⟨by omega,⟨i+1,rows++[rv'],by omega,by simp[a0],by simp,hR1,.inr ⟨σ1.nf,by simp,hgn,by simp,by simp⟩,?_⟩,?_⟩
   ·exact⟨by simpa using hA1.no,by simp;omega,fun o ho=>by simpa using hA1.obj o ho,fun f hf=>by
     have:f≠g:=by omega
     simp[this]
     rw[if_neg (by omega)]
     exact hA1.fam f hf⟩
   ·simp only[MU,a4];simp;omega
 ·have hlt':¬(i:Int)<(l.length:Int):=by omega
  have htk:l.take i=l:=yco (by omega)
  rw[htk]at hR
  rcases hO with ⟨rfl,h3⟩|⟨g,h3,h4,h5,h6⟩
  ·simp[zfB,ziv,a0,a4,v1,v2,hlt,h3]
   have hn:l=[]:=by have:=hR.length;exact ybS.1 (by simpa using this.symm)
   exact .inl (h _ _ (.inl ⟨hn,rfl⟩) hA)
  ·simp[zfB,ziv,a0,a4,v1,v2,hlt,h3]
   refine .froze g (fun _=>false) h6 ?_
   have:=h (.sl (.stat false) 1 rows) (τ.frz g fun _=>false) (.inr ⟨_,_,rfl,hR⟩) (hA.frz h4 fun _ _=>rfl)
   rw[zc5,if_pos rfl,zl3 hR]
   exact this
theorem zk3{G:Env}{v:AV}{f:F}{σ:AS}{R:Out→AS→Prop}(hv:FV v f)(h1:f.params.length≤2^40)(h2:f.locals.length≤2^40)(h3:f.lists.length≤2^40)(h4:∀r∈f.lists,r.length≤2^40)(h:∀v' σ',FV v' f→zf σ σ'→R (.ret v') σ'):zzQ G 148 [v] σ R:=by
 refine zqB rfl ?_
 obtain⟨pv,lv,tv,rfl,hp,hl,ht⟩:=hv
 have p1:=hp.one
 have l1:=hl.one
 have t1:=ht.one
 simp[zxG,p1,l1,t1]
 have o1:((σ.newO [ycp f.name,pv,lv,ycn yam f.type,tv]).newO [ycp [],ycq,ycq,ycn yam 0,ycq]).objs σ.no=some [ycp f.name,pv,lv,ycn yam f.type,tv]:=by simp
 have o2:((σ.newO [ycp f.name,pv,lv,ycn yam f.type,tv]).newO [ycp [],ycq,ycq,ycn yam 0,ycq]).objs (σ.no+1)=some [ycp [],ycq,ycq,ycn yam 0,ycq]:=by simp
 have n1:((σ.newO [ycp f.name,pv,lv,ycn yam f.type,tv]).newO [ycp [],ycq,ycq,ycn yam 0,ycq]).no=σ.no+2:=by simp
 have A1:zf σ ((σ.newO [ycp f.name,pv,lv,ycn yam f.type,tv]).newO [ycp [],ycq,ycq,ycn yam 0,ycq]):=(zf.refl σ).newO.newO
 generalize (σ.newO [ycp f.name,pv,lv,ycn yam f.type,tv]).newO [ycp [],ycq,ycq,ycn yam 0,ycq]=σ1 at *
 refine zdu hp h1 fun pv' σ2 hp' A2=>?_
 have p2:=hp'.one
 have o1:=(A2.obj _ (by omega)).trans o1
 have o2:=(A2.obj _ (by omega)).trans o2
 have n2:=A2.no
 have A2:=A1.trans A2
 simp[p2,o1,l1,splice]
 have o1:(σ2.setO σ.no [ycp f.name,pv',lv,ycn yam f.type,tv]).objs σ.no=some [ycp f.name,pv',lv,ycn yam f.type,tv]:=by simp
 have o2:(σ2.setO σ.no [ycp f.name,pv',lv,ycn yam f.type,tv]).objs (σ.no+1)=some [ycp [],ycq,ycq,ycn yam 0,ycq]:=by simp[o2]
 have n3:(σ2.setO σ.no [ycp f.name,pv',lv,ycn yam f.type,tv]).no=σ2.no:=by simp
 have A3:zf σ (σ2.setO σ.no [ycp f.name,pv',lv,ycn yam f.type,tv]):=A2.setO (yah _)
 generalize σ2.setO σ.no [ycp f.name,pv',lv,ycn yam f.type,tv]=σ3 at *
 refine zdu hl h2 fun lv' σ4 hl' A4=>?_
 have l2:=hl'.one
 have o1:=(A4.obj _ (by omega)).trans o1
 have o2:=(A4.obj _ (by omega)).trans o2
 have n4:=A4.no
 have A4:=A3.trans A4
 simp[p2,l2,o1,t1,splice]
 have o1:(σ4.setO σ.no [ycp f.name,pv',lv',ycn yam f.type,tv]).objs σ.no=some [ycp f.name,pv',lv',ycn yam f.type,tv]:=by simp
 have o2:(σ4.setO σ.no [ycp f.name,pv',lv',ycn yam f.type,tv]).objs (σ.no+1)=some [ycp [],ycq,ycq,ycn yam 0,ycq]:=by simp[o2]
 have n5:(σ4.setO σ.no [ycp f.name,pv',lv',ycn yam f.type,tv]).no=σ4.no:=by simp
 have A5:zf σ (σ4.setO σ.no [ycp f.name,pv',lv',ycn yam f.type,tv]):=A4.setO (yah _)
 generalize σ4.setO σ.no [ycp f.name,pv',lv',ycn yam f.type,tv]=σ5 at *
 refine zgp ht h3 h4 fun tv' σ6 ht' A6=>?_
 have t2:=ht'.one
 have o1:=(A6.obj _ (by omega)).trans o1
 have o2:=(A6.obj _ (by omega)).trans o2
 have n6:=A6.no
 have A6:=A5.trans A6
 simp[p2,l2,t2,o1,o2,splice]
 exact h _ _ ⟨pv',lv',tv',rfl,hp',hl',ht'⟩ ((A6.setO (yah _)).setO (by omega))
def CpF(v:AV)(l:List F)(σ:AS)(a:Nat→AV)(τ:AS):Prop:=∃(i:Nat) (rows:List AV),i≤l.length∧a 0=v∧a 4=.int .i64 (i:Int)∧All2 FV rows (l.take i)∧zwe τ σ.nf 5 (a 3) rows∧zf σ τ
theorem zAw{rows:List AV}{l:List F}(h:All2 FV rows l)(g:Nat):rows.map (frz g)=rows:=by
 induction h with
 | nil=>rfl
 | cons h r ih=>simp[h.frz g,ih]
theorem zjR{G:Env}{v:AV}{l:List F}{σ:AS}{R:Out→AS→Prop}(hv:FsV v l)(hl:l.length≤2^40)(h1:∀f∈l,f.params.length≤2^40)(h2:∀f∈l,f.locals.length≤2^40)(h3:∀f∈l,f.lists.length≤2^40)(h4:∀f∈l,∀r∈f.lists,r.length≤2^40)
  (h:∀v' σ',FsV v' l→zf σ σ'→R (.ret v') σ'):zzQ G 82 [v] σ R:=by
 refine zd9 (zue rfl ?_)
 have v1:=hv.one
 have v2:=hv.len
 simp[zFA]
 refine zI (CpF v l σ) (MU 4 (l.length+1)) ⟨0,[],by omega,by simp,by simp,by simpa using All2.nil,.inl ⟨rfl,by simp⟩,.refl _⟩ fun a τ hI=>?_
 obtain⟨i,rows,hi,a0,a4,hR,hO,hA⟩:=hI
 by_cases hlt:i<l.length
 ·obtain⟨b,rv,hrv,hix⟩:=hv.at hlt
  have hget:l[i]?=some l[i]:=yau hlt
  have w1:yb4 .i64 ((i:Int)+1)=((i+1:Nat):Int):=by rw[wrap_i64]<;>omega
  have ts:=zcS hget
  have hm:=yaw hlt
  have b1:=h1 _ hm
  have b2:=h2 _ hm
  have b3:=h3 _ hm
  have b4:=h4 _ hm
  generalize l[i]=f at *
  have hlen:rows.length=i:=by rw[hR.length];simp;omega
  have hrv0:=hrv
  obtain⟨pv,lv,tv,rfl,hp,hll,ht⟩:=hrv
  have p1:=hp.one
  have l1:=hll.one
  have t1:=ht.one
  simp[zif,a0,a4,v1,v2,hlt,hix,p1,l1,t1]
  refine zk3 hrv0 b1 b2 b3 b4 fun rv' σ1 hrv' A1=>?_
  have hO1:=hO.keep A1
  have hA1:=hA.trans A1
  have hR1:All2 FV (rows++[rv']) (l.take (i+1)):=by rw[ts];exact hR.append (.cons hrv' .nil)
  have hgn:=hA1.nf
  obtain⟨pv',lv',tv',rfl,hp',hl',ht'⟩:=hrv'
  have p2:=hp'.one
  have l2:=hl'.one
  have t2:=ht'.one
  rcases hO1 with ⟨rfl,h3⟩|⟨g,h3,h4,h5,h6⟩
  ·simp[p2,l2,t2,h3,w1,a4]
   refine⟨⟨i+1,_,by omega,by simp[a0],by simp,by simpa using hR1,.inr ⟨σ1.nf,by simp,hgn,by simp,by simp⟩,hA1.newF⟩,?_⟩
   simp only[MU,a4];simp;omega
  ·simp[p2,l2,t2,h3,w1,h6,a4]
   refine⟨by omega,⟨i+1,_,by omega,by simp[a0],by simp,hR1,.inr ⟨σ1.nf,by simp,hgn,by simp,by simp⟩,?_⟩,?_⟩
   ·exact⟨by simpa using hA1.no,by simp;omega,fun o ho=>by simpa using hA1.obj o ho,fun f hf=>by
     have:f≠g:=by omega
     simp[this]
     rw[if_neg (by omega)]
     exact hA1.fam f hf⟩
   ·simp only[MU,a4];simp;omega
 ·have hlt':¬(i:Int)<(l.length:Int):=by omega
  have htk:l.take i=l:=yco (by omega)
  rw[htk]at hR
  rcases hO with ⟨rfl,h3⟩|⟨g,h3,h4,h5,h6⟩
  ·simp[zif,zkR,a0,a4,v1,v2,hlt,h3]
   have hn:l=[]:=by have:=hR.length;exact ybS.1 (by simpa using this.symm)
   exact .inl (h _ _ (.inl ⟨hn,rfl⟩) hA)
  ·simp[zif,zkR,a0,a4,v1,v2,hlt,h3]
   refine .froze g (fun _=>false) h6 ?_
   have:=h (.sl (.stat false) 5 rows) (τ.frz g fun _=>false) (.inr ⟨_,_,rfl,hR⟩) (hA.frz h4 fun _ _=>rfl)
   rw[zc5,if_pos rfl,zAw hR]
   exact this
theorem zk4{G:Env}{mv:AV}{m:M}{σ:AS}{R:Out→AS→Prop}(hm:MV mv m)(hl:m.funcs.length≤2^40)(h1:∀f∈m.funcs,f.params.length≤2^40)(h2:∀f∈m.funcs,f.locals.length≤2^40)(h3:∀f∈m.funcs,f.lists.length≤2^40)(h4:∀f∈m.funcs,∀r∈f.lists,r.length≤2^40)
  (h:∀v' σ',MV v' m→zf σ σ'→R (.ret v') σ'):zzQ G 31 [mv] σ R:=by
 refine ztW rfl ?_
 obtain⟨fv,rfl,hfs⟩:=hm
 have f1:=hfs.one
 simp[zFn,f1]
 refine zjR hfs hl h1 h2 h3 h4 fun fv' σ2 hfs' A2=>?_
 have f2:=hfs'.one
 have o1:=A2.obj σ.no (by simp;omega)
 have o2:=A2.obj (σ.no+1) (by simp)
 have hn:=A2.no
 simp at o1 o2
 simp at hn
 simp[f2,o1,o2,splice]
 have A:zf σ σ2:=(zf.refl σ).newO.newO.trans A2
 exact h _ _ ⟨fv',rfl,hfs'⟩ ((A.setO (yah _)).setO (by omega))
def SlW(σ:AS)(v:AV)(l:List W):Prop:=(l=[]∧v=.nilsl)∨∃φ,v=.sl φ 6 (l.map W.av)∧zi σ.F φ
theorem zGd(w u:W):aeq yb9 53 (.agg [.int .i64 w.op,.int .i64 w.ty,.int .i64 w.n,.int .i64 w.body,.int .i64 w.other,.str w.name]) (.agg [.int .i64 u.op,.int .i64 u.ty,.int .i64 u.n,.int .i64 u.body,.int .i64 u.other,.str u.name])=some (decide (w=u)):=by
 simp[aeq,zmz]
 have key:(w=u)↔(w.op=u.op∧w.ty=u.ty∧w.n=u.n∧w.body=u.body∧w.other=u.other∧w.name=u.name):=by
  constructor
  ·rintro rfl;simp
  ·rintro ⟨h1,h2,h3,h4,h5,h6⟩
   cases w;cases u;simp_all
 by_cases h1:w.op=u.op<;>by_cases h2:w.ty=u.ty<;>by_cases h3:w.n=u.n<;>by_cases h4:w.body=u.body<;>by_cases h5:w.other=u.other<;>by_cases h6:w.name=u.name<;>simp[key,h1,h2,h3,h4,h5,h6]
def SI(va vb:AV)(a b:List W)(σ:AS)(f:Nat→AV)(τ:AS):Prop:=∃i:Nat,i≤a.length∧f 0=va∧f 1=vb∧f 5=.int .i64 (i:Int)∧a.take i=b.take i∧τ=σ
def SM(a:List W)(f:Nat→AV)(_:AS):Nat:=match f 5 with
 | .int _ n=>a.length-n.toNat
 | _=>0
theorem zmV{G:Env}{va vb:AV}{a b:List W}{σ:AS}{R:Out→AS→Prop}(ha:SlW σ va a)(hb:SlW σ vb b)(hl:a.length≤2^30)(h:R (.ret (.bool (decide (a=b)))) σ):zzQ G 216 [va,vb] σ R:=by
 refine zq5 rfl ?_
 by_cases hab:a.length=b.length
 ·have loop:∀f,f 0=va→f 1=vb→f 5=.int .i64 0→zjy yb9 G 27 zc9 (zaG 0 (zaF (avc yb9 G 27 zfD (zep yb9 [.tmp 4] R)) (zep yb9 [.tmp 4] R))) f σ:=by
   intro f f0 f1 f5
   refine zI (SI va vb a b σ) (SM a) ⟨0,yck _,f0,f1,by simpa using f5,by simp,rfl⟩ fun f τ ⟨i,hi,f0,f1,f5,ht,hτ⟩=>?_
   subst hτ
   have hmu:SM a f τ=a.length-i:=by simp[SM,f5]
   by_cases hlt:i<a.length
   ·have hltb:i<b.length:=by omega
    obtain⟨φ,rfl,hφ⟩:∃φ,va=.sl φ 6 (a.map W.av)∧zi τ.F φ:=by
     rcases ha with ⟨rfl,_⟩|ha
     ·simp at hlt
     ·exact ha
    obtain⟨ψ,rfl,hψ⟩:∃φ,vb=.sl φ 6 (b.map W.av)∧zi τ.F φ:=by
     rcases hb with ⟨rfl,_⟩|hb
     ·simp at hltb
     ·exact hb
    have hw2:yb4 .i64 ((i:Int)+1)=(i:Int)+1:=by rw[wrap_i64]<;>omega
    have ea:a.take (i+1)=a.take i++[a[i]]:=by simp
    have eb:b.take (i+1)=b.take i++[b[i]]:=by simp
    by_cases hw:a[i]=b[i]
    ·simp[zc9,f0,f1,f5,hlt,hltb,W.av,W.cs,hφ,hψ,zGd,hw,hw2]
     refine⟨⟨i+1,hlt,by simp[f0,W.av,W.cs],by simp[f1,W.av,W.cs],by simp,by rw[ea,eb,ht,hw],rfl⟩,?_⟩
     rw[hmu]
     have:((i:Int)+1).toNat=i+1:=by omega
     simp[SM,this];omega
    ·have hne:¬a=b:=fun e=>hw (by subst e;rfl)
     simp[hne]at h
     simp[zc9,f0,f1,f5,hlt,hltb,W.av,W.cs,hφ,hψ,zGd,hw,hw2,h]
   ·have he:i=a.length:=by omega
    subst he
    have e:a=b:=by rw[ycr,hab,ycr]at ht;exact ht
    have hla:a.length=b.length:=hab
    simp[e]at h
    rcases ha with ⟨rfl,rfl⟩|⟨φ,rfl,hφ⟩
    ·simp[zc9,zfD,f0,f1,f5,h]
    ·simp[zc9,zfD,f0,f1,f5,h]
  rcases ha with ⟨rfl,rfl⟩|⟨φ,rfl,hφ⟩<;>rcases hb with ⟨rfl,rfl⟩|⟨ψ,rfl,hψ⟩
  ·simp[zjG]
   refine loop _ ?_ ?_ ?_<;>simp
  ·simp at hab
   simp[zjG,←hab]
   refine loop _ ?_ ?_ ?_<;>simp
  ·simp at hab
   subst hab
   simp[zjG]
   refine loop _ ?_ ?_ ?_<;>simp
  ·simp[zjG,hab]
   refine loop _ ?_ ?_ ?_<;>simp
 ·have hne:¬a=b:=fun e=>hab (by rw[e])
  have hi:¬(a.length:Int)=b.length:=by omega
  simp[hne]at h
  rcases ha with ⟨rfl,rfl⟩|⟨φ,rfl,hφ⟩<;>rcases hb with ⟨rfl,rfl⟩|⟨ψ,rfl,hψ⟩
  ·simp at hab
  ·simp at hab
   have hi':¬(0:Int)=b.length:=by simpa using hi
   simp[zjG,hi',h]
  ·simp at hab
   have hi':¬(a.length:Int)=0:=by simpa using hi
   simp[zjG,hab,h]
  ·simp[zjG,hi,h]
end Go.Proofs.YtohfclafhegadaaGreatDoor
namespace Go.Proofs.YtohfclafhegadaaGreatDoor.Al
open Go Go.Abs Go.Proofs.YtohfclafhegadaaGreatDoor
def RepE(v:AV)(l:List W):Prop:=(l=[]∧v=.nilsl)∨∃b,v=.sl (.fam 0 b) 6 (l.map W.av)
end Go.Proofs.YtohfclafhegadaaGreatDoor.Al
namespace Go.Proofs.YtohfclafhegadaaGreatDoor.Al
open Go Go.Abs Go.Proofs.YtohfclafhegadaaGreatDoor
theorem mrg_W(f:Nat)(w:W):mrg f w.av=w.av:=by simp[W.av,W.cs]
theorem zAx(f:Nat)(l:List W):(l.map W.av).map (mrg f)=l.map W.av:=by simp[Function.comp_def,mrg_W]
theorem RepE.mrg{v l}(h:RepE v l){f:Nat}:mrg f v=v:=by
 rcases h with ⟨_,rfl⟩|⟨b,rfl⟩
 ·simp
 ·rw[zhl,zAx];split<;>rfl
theorem mrg_rows{tos tO}(h:All2 RepE tos tO)(f:Nat):tos.map (mrg f)=tos:=by
 induction h with
 | nil=>rfl
 | cons h r ih=>simp[h.mrg,ih]
end Go.Proofs.YtohfclafhegadaaGreatDoor.Al

namespace Go.Proofs.YtohfclafhegadaaGreatDoor.Al
open Go Go.Abs Go.Proofs.YtohfclafhegadaaGreatDoor
def IntsE(v:AV)(l:List Int):Prop:=(l=[]∧(v=.nilsl∨∃b,v=.sl (.stat b) 1 []))∨∃b,v=.sl (.fam 0 b) 1 (l.map (.int .i64))
theorem IntsE.one{v l}(h:IntsE v l):v.known=true∧v.one=true∧v.cells=[v]:=by
 rcases h with ⟨_,rfl|⟨b,rfl⟩⟩|⟨b,rfl⟩<;>simp
def MrgOr(R:Out→AS→Prop)(o:Out)(σ':AS):Prop:=R o σ'∨∃v g p,o=.ret v∧0<σ'.nf∧σ'.F g=.alive∧R (.ret (mrg g v)) (σ'.mrg g p)
theorem merging{P:Program}{G:Env}{f:FuncId}{args:List AV}{σ:AS}{R:Out→AS→Prop}(h:ACalls P G f args σ (MrgOr R)):ACalls P G f args σ R:=ztL h
theorem MrgOr.merged{R:Out→AS→Prop}{v:AV}{σ':AS}(g:Nat)(p:Nat→Bool)(hn:0<σ'.nf)(h:σ'.F g=.alive)(h2:R (.ret (mrg g v)) (σ'.mrg g p)):MrgOr R (.ret v) σ':=.inr ⟨v,g,p,rfl,hn,h,h2⟩
def zGr(g:Nat)(v:AV)(tO:To):Prop:=(tO=[]∧v=.nilsl)∨∃tos,v=.sl (.fam g false) 1 tos∧All2 RepE tos tO
def FVE(v:AV)(p:F × Nat):Prop:=∃pv lv tv,v=.agg [.str p.1.name,pv,lv,.int .i64 p.1.type,tv]∧IntsE pv p.1.params∧IntsE lv p.1.locals∧zGr p.2 tv p.1.lists
structure Gs(τ:AS)(base:Nat)(g:Nat)(gs:List Nat):Prop where
 nd:gs.Nodup
 each:∀x∈gs,base≤x∧x<τ.nf∧τ.F x=.alive∧x≠g
def OutE(τ:AS)(base:Nat)(v:AV)(l:List F):Prop :=
 (l=[]∧v=.nilsl)∨∃g rows ps,v=.sl (.fam g false) 5 rows∧base≤g∧g<τ.nf∧τ.F g=.alive∧ps.map Prod.fst=l∧All2 FVE rows ps∧Gs τ base g (ps.map Prod.snd)
end Go.Proofs.YtohfclafhegadaaGreatDoor.Al
namespace Go.Proofs.YtohfclafhegadaaGreatDoor.Al
open Go Go.Abs Go.Proofs.YtohfclafhegadaaGreatDoor
def ME(τ:AS)(base:Nat)(v:AV)(m:M):Prop:=∃fv,v=.agg [fv,.int .i64 m.memory,.int .i64 m.main]∧OutE τ base fv m.funcs
end Go.Proofs.YtohfclafhegadaaGreatDoor.Al


namespace Go.Proofs.YtohfclafhegadaaGreatDoor.Al
open Go Go.Abs Go.Proofs.YtohfclafhegadaaGreatDoor
def Rd(σ:AS):Go.Abs.Own→Prop
 | .stat _=>True
 | .fam f _=>f<σ.nf∧σ.F f=.alive
theorem Rd.read{σ φ}(h:Rd σ φ):zi σ.F φ:=by
 cases φ with
 | stat b=>exact trivial
 | fam f b=>exact h.2
theorem Rd.keep{σ σ' φ}(h:Rd σ φ)(A:zf σ σ'):Rd σ' φ:=by
 cases φ with
 | stat b=>exact trivial
 | fam f b=>exact⟨by have:=A.nf;have:=h.1;omega,(A.fam f h.1).trans h.2⟩
def IntsO(σ:AS)(v:AV)(l:List Int):Prop:=(l=[]∧v=.nilsl)∨∃φ,v=.sl φ 1 (l.map (.int .i64))∧Rd σ φ
def RepO(σ:AS)(v:AV)(l:List W):Prop:=(l=[]∧v=.nilsl)∨∃φ,v=.sl φ 6 (l.map W.av)∧Rd σ φ
def LstO(σ:AS)(v:AV)(l:To):Prop:=(l=[]∧v=.nilsl)∨∃φ rows,v=.sl φ 1 rows∧Rd σ φ∧All2 (RepO σ) rows l
def FVO(σ:AS)(v:AV)(f:F):Prop:=∃pv lv tv,v=.agg [.str f.name,pv,lv,.int .i64 f.type,tv]∧IntsO σ pv f.params∧IntsO σ lv f.locals∧LstO σ tv f.lists
def FsO(σ:AS)(v:AV)(l:List F):Prop:=(l=[]∧v=.nilsl)∨∃φ rows,v=.sl φ 5 rows∧Rd σ φ∧All2 (FVO σ) rows l
def MO(σ:AS)(v:AV)(m:M):Prop:=∃fv,v=.agg [fv,.int .i64 m.memory,.int .i64 m.main]∧FsO σ fv m.funcs
theorem IntsO.one{σ v l}(h:IntsO σ v l):v.known=true∧v.one=true∧v.cells=[v]:=by rcases h with ⟨_,rfl⟩|⟨b,rfl,_⟩<;>simp
theorem RepO.one{σ v l}(h:RepO σ v l):v.known=true∧v.one=true∧v.cells=[v]:=by rcases h with ⟨_,rfl⟩|⟨b,rfl,_⟩<;>simp
theorem LstO.one{σ v l}(h:LstO σ v l):v.known=true∧v.one=true∧v.cells=[v]:=by rcases h with ⟨_,rfl⟩|⟨b,_,rfl,_⟩<;>simp
theorem FsO.one{σ v l}(h:FsO σ v l):v.known=true∧v.one=true∧v.cells=[v]:=by rcases h with ⟨_,rfl⟩|⟨b,_,rfl,_⟩<;>simp
theorem IntsO.keep{σ σ' v l}(h:IntsO σ v l)(A:zf σ σ'):IntsO σ' v l:=by
 rcases h with h|⟨φ,h,r⟩
 ·exact .inl h
 ·exact .inr ⟨φ,h,r.keep A⟩
theorem RepO.keep{σ σ' v l}(h:RepO σ v l)(A:zf σ σ'):RepO σ' v l:=by
 rcases h with h|⟨φ,h,r⟩
 ·exact .inl h
 ·exact .inr ⟨φ,h,r.keep A⟩
theorem zcT{α β:Type}{R S:α→β→Prop}{xs ys}(h:All2 R xs ys)(hs:∀x y,R x y→S x y):All2 S xs ys:=by
 induction h with
 | nil=>exact .nil
 | cons h r ih=>exact .cons (hs _ _ h) ih
theorem LstO.keep{σ σ' v l}(h:LstO σ v l)(A:zf σ σ'):LstO σ' v l:=by
 rcases h with h|⟨φ,rows,h,r,k⟩
 ·exact .inl h
 ·exact .inr ⟨φ,rows,h,r.keep A,zcT k fun _ _ q=>q.keep A⟩
theorem FVO.keep{σ σ' v l}(h:FVO σ v l)(A:zf σ σ'):FVO σ' v l:=by
 obtain⟨pv,lv,tv,h,a,b,c⟩:=h
 exact⟨pv,lv,tv,h,a.keep A,b.keep A,c.keep A⟩
theorem FsO.keep{σ σ' v l}(h:FsO σ v l)(A:zf σ σ'):FsO σ' v l:=by
 rcases h with h|⟨φ,rows,h,r,k⟩
 ·exact .inl h
 ·exact .inr ⟨φ,rows,h,r.keep A,zcT k fun _ _ q=>q.keep A⟩
theorem IntsO.len{σ v l}(h:IntsO σ v l)(K:AV→Prop):zgI yb9 44 v K=K (.int .i64 (l.length:Int)):=by rcases h with ⟨rfl,rfl⟩|⟨b,rfl,_⟩<;>simp
theorem LstO.len{σ v l}(h:LstO σ v l)(K:AV→Prop):zgI yb9 55 v K=K (.int .i64 (l.length:Int)):=by
 rcases h with ⟨rfl,rfl⟩|⟨b,rows,rfl,_,hr⟩
 ·simp
 ·simp[hr.length]
theorem FsO.len{σ v l}(h:FsO σ v l)(K:AV→Prop):zgI yb9 26 v K=K (.int .i64 (l.length:Int)):=by
 rcases h with ⟨rfl,rfl⟩|⟨b,rows,rfl,_,hr⟩
 ·simp
 ·simp[hr.length]
theorem IntsO.at{σ v l}(h:IntsO σ v l){i:Nat}(hi:i<l.length):∃φ,Rd σ φ∧∀K:AV→Prop,zu yb9 44 v (.int .i64 (i:Int)) K=K (.pv φ (.int .i64 l[i])):=by
 rcases h with ⟨rfl,_⟩|⟨φ,rfl,r⟩
 ·simp at hi
 ·exact⟨φ,r,fun K=>by simp[hi]⟩
theorem LstO.at{σ v l}(h:LstO σ v l){i:Nat}(hi:i<l.length):∃φ rv,Rd σ φ∧RepO σ rv l[i]∧∀K:AV→Prop,zu yb9 55 v (.int .i64 (i:Int)) K=K (.pv φ rv):=by
 rcases h with ⟨rfl,_⟩|⟨φ,rows,rfl,r,hr⟩
 ·simp at hi
 ·obtain⟨rv,h1,h2⟩:=hr.get (yau hi)
  exact⟨φ,rv,r,h2,fun K=>by simp[h1]⟩
theorem FsO.at{σ v l}(h:FsO σ v l){i:Nat}(hi:i<l.length):∃φ rv,Rd σ φ∧FVO σ rv l[i]∧∀K:AV→Prop,zu yb9 26 v (.int .i64 (i:Int)) K=K (.pv φ rv):=by
 rcases h with ⟨rfl,_⟩|⟨φ,rows,rfl,r,hr⟩
 ·simp at hi
 ·obtain⟨rv,h1,h2⟩:=hr.get (yau hi)
  exact⟨φ,rv,r,h2,fun K=>by simp[h1]⟩
def EI(va vb:AV)(n:Nat)(σ:AS)(a:Nat→AV)(τ:AS):Prop:=∃i:Nat,i≤n∧a 0=va∧a 1=vb∧a 5=.int .i64 (i:Int)∧zf σ τ
theorem ze7{G:Env}{σ:AS}{R:Out→AS→Prop}{va vb:AV}{l:List Int}(ha:IntsO σ va l)(hb:IntsO σ vb l)(hl:l.length≤2^40)(h:∀σ',zf σ σ'→R (.ret (.bool true)) σ'):zzQ G 79 [va,vb] σ R:=by
 refine zud rfl ?_
 have hal:=ha.len
 have hbl:=hb.len
 simp[zFz,hal,hbl]
 refine zI (EI va vb l.length σ) (MU 5 (l.length+1)) ⟨0,by omega,by simp,by simp,by simp,.refl _⟩ fun a τ hI=>?_
 obtain⟨i,hi,a0,a1,a5,A⟩:=hI
 by_cases hlt:i<l.length
 ·obtain⟨φ,r1,hx1⟩:=(ha.keep A).at hlt
  obtain⟨ψ,r2,hx2⟩:=(hb.keep A).at hlt
  have q1:=r1.read
  have q2:=r2.read
  have w5:yb4 .i64 ((i:Int)+1)=((i+1:Nat):Int):=by rw[wrap_i64]<;>omega
  simp[zkQ,a0,a1,a5,hal,hlt,hx1,hx2,w5,q1,q2]
  refine⟨⟨i+1,by omega,by simp[a0],by simp[a1],by simp,A⟩,?_⟩
  simp only[MU,a5];simp;omega
 ·simp[zkQ,zn9,a0,a1,a5,hal,hlt]
  exact h _ A
theorem ziF{G:Env}{σ:AS}{R:Out→AS→Prop}{va vb:AV}{l:To}(ha:LstO σ va l)(hb:LstO σ vb l)(hl:l.length≤2^40)(hr:∀r∈l,r.length≤2^30)(h:∀σ',zf σ σ'→R (.ret (.bool true)) σ'):zzQ G 180 [va,vb] σ R:=by
 refine zqR rfl ?_
 have hal:=ha.len
 have hbl:=hb.len
 simp[zxQ,hal,hbl]
 refine zI (EI va vb l.length σ) (MU 5 (l.length+1)) ⟨0,by omega,by simp,by simp,by simp,.refl _⟩ fun a τ hI=>?_
 obtain⟨i,hi,a0,a1,a5,A⟩:=hI
 by_cases hlt:i<l.length
 ·obtain⟨φ,rv1,r1,e1,hx1⟩:=(ha.keep A).at hlt
  obtain⟨ψ,rv2,r2,e2,hx2⟩:=(hb.keep A).at hlt
  have q1:=r1.read
  have q2:=r2.read
  have o1:=e1.one
  have o2:=e2.one
  have hrl:=hr _ (yaw hlt)
  have w5:yb4 .i64 ((i:Int)+1)=((i+1:Nat):Int):=by rw[wrap_i64]<;>omega
  have sl:∀{v:AV} {r:List W},RepO τ v r→SlW τ v r:=fun h=>by
   rcases h with ⟨h1,h2⟩|⟨φ,h1,h2⟩
   ·exact .inl ⟨h1,h2⟩
   ·exact .inr ⟨φ,h1,h2.read⟩
  simp[zit,a0,a1,a5,hal,hlt,hx1,hx2,q1,q2,o1,o2]
  refine zmV (sl e1) (sl e2) hrl ?_
  simp[w5,a5]
  refine⟨⟨i+1,by omega,by simp[a0],by simp[a1],by simp,A⟩,?_⟩
  simp only[MU,a5];simp;omega
 ·simp[zit,zlT,a0,a1,a5,hal,hlt]
  exact h _ A
structure SzE(f:F):Prop where
 params:f.params.length≤2^40
 locals:f.locals.length≤2^40
 lists:f.lists.length≤2^40
 rows:∀r∈f.lists,r.length≤2^30
theorem zok{G:Env}{σ:AS}{R:Out→AS→Prop}{va vb:AV}{f:F}(ha:FVO σ va f)(hb:FVO σ vb f)(hs:SzE f)(h:∀σ',zf σ σ'→R (.ret (.bool true)) σ'):zzQ G 140 [va,vb] σ R:=by
 refine zqA rfl ?_
 obtain⟨pa,la,ta,rfl,hpa,hla,hta⟩:=ha
 obtain⟨pb,lb,tb,rfl,hpb,hlb,htb⟩:=hb
 have a1:=hpa.one
 have a2:=hla.one
 have a3:=hta.one
 have b1:=hpb.one
 have b2:=hlb.one
 have b3:=htb.one
 simp[zxF,a1,a2,a3,b1,b2,b3]
 have A1:zf σ ((σ.newO [ycp f.name,pa,la,ycn yam f.type,ta]).newO [ycp f.name,pb,lb,ycn yam f.type,tb]):=(zf.refl σ).newO.newO
 have oa:((σ.newO [ycp f.name,pa,la,ycn yam f.type,ta]).newO [ycp f.name,pb,lb,ycn yam f.type,tb]).objs σ.no=some [ycp f.name,pa,la,ycn yam f.type,ta]:=by simp
 have ob:((σ.newO [ycp f.name,pa,la,ycn yam f.type,ta]).newO [ycp f.name,pb,lb,ycn yam f.type,tb]).objs (σ.no+1)=some [ycp f.name,pb,lb,ycn yam f.type,tb]:=by simp
 have n1:((σ.newO [ycp f.name,pa,la,ycn yam f.type,ta]).newO [ycp f.name,pb,lb,ycn yam f.type,tb]).no=σ.no+2:=by simp
 generalize (σ.newO [ycp f.name,pa,la,ycn yam f.type,ta]).newO [ycp f.name,pb,lb,ycn yam f.type,tb]=σ1 at *
 refine ze7 (hpa.keep A1) (hpb.keep A1) hs.params fun σ2 A2=>?_
 have oa2:=(A2.obj _ (by omega)).trans oa
 have ob2:=(A2.obj _ (by omega)).trans ob
 have n2:=A2.no
 have B2:=A1.trans A2
 simp[oa2,ob2,a1,a2,a3,b1,b2,b3]
 refine ze7 (hla.keep B2) (hlb.keep B2) hs.locals fun σ3 A3=>?_
 have oa3:=(A3.obj _ (by omega)).trans oa2
 have ob3:=(A3.obj _ (by omega)).trans ob2
 have B3:=B2.trans A3
 simp[oa3,ob3,a1,a2,a3,b1,b2,b3]
 refine ziF (hta.keep B3) (htb.keep B3) hs.lists hs.rows fun σ4 A4=>?_
 simp
 exact h _ (B3.trans A4)
theorem zmW{G:Env}{σ:AS}{R:Out→AS→Prop}{va vb:AV}{l:List F}(ha:FsO σ va l)(hb:FsO σ vb l)(hl:l.length≤2^40)(hs:∀f∈l,SzE f)(h:∀σ',zf σ σ'→R (.ret (.bool true)) σ'):zzQ G 74 [va,vb] σ R:=by
 refine zuc rfl ?_
 have hal:=ha.len
 have hbl:=hb.len
 simp[zFy,hal,hbl]
 refine zI (EI va vb l.length σ) (MU 5 (l.length+1)) ⟨0,by omega,by simp,by simp,by simp,.refl _⟩ fun a τ hI=>?_
 obtain⟨i,hi,a0,a1,a5,A⟩:=hI
 by_cases hlt:i<l.length
 ·obtain⟨φ,rv1,r1,e1,hx1⟩:=(ha.keep A).at hlt
  obtain⟨ψ,rv2,r2,e2,hx2⟩:=(hb.keep A).at hlt
  have q1:=r1.read
  have q2:=r2.read
  have hsz:=hs _ (yaw hlt)
  generalize l[i]=f at *
  have w5:yb4 .i64 ((i:Int)+1)=((i+1:Nat):Int):=by rw[wrap_i64]<;>omega
  have f1:=e1
  have f2:=e2
  obtain⟨pa,la,ta,rfl,hpa,hla,hta⟩:=e1
  obtain⟨pb,lb,tb,rfl,hpb,hlb,htb⟩:=e2
  have o1:=hpa.one
  have o2:=hla.one
  have o3:=hta.one
  have o4:=hpb.one
  have o5:=hlb.one
  have o6:=htb.one
  simp[zkP,a0,a1,a5,hal,hlt,hx1,hx2,q1,q2,o1,o2,o3,o4,o5,o6]
  refine zok f1 f2 hsz fun σ2 A2=>?_
  simp[w5,a5]
  refine⟨⟨i+1,by omega,by simp[a0],by simp[a1],by simp,A.trans A2⟩,?_⟩
  simp only[MU,a5];simp;omega
 ·simp[zkP,zn8,a0,a1,a5,hal,hlt]
  exact h _ A
theorem eqM_calls{G:Env}{σ:AS}{R:Out→AS→Prop}{va vb:AV}{m:M}(ha:MO σ va m)(hb:MO σ vb m)(hl:m.funcs.length≤2^40)(hs:∀f∈m.funcs,SzE f)(h:∀σ',zf σ σ'→R (.ret (.bool true)) σ'):zzQ G 22 [va,vb] σ R:=by
 refine ztU rfl ?_
 obtain⟨fa,rfl,hfa⟩:=ha
 obtain⟨fb,rfl,hfb⟩:=hb
 have a1:=hfa.one
 have b1:=hfb.one
 simp[zFl,a1,b1]
 have A1:zf σ ((σ.newO [fa,ycn yam m.memory,ycn yam m.main]).newO [fb,ycn yam m.memory,ycn yam m.main]):=(zf.refl σ).newO.newO
 refine zmW (hfa.keep A1) (hfb.keep A1) hl hs fun σ2 A2=>?_
 simp
 exact h _ (A1.trans A2)
theorem zEG{σ:AS}{v l}(h:ziE v l):RepO σ v l:=by
 rcases h with h|⟨b,h⟩
 ·exact .inl h
 ·exact .inr ⟨_,h,trivial⟩
theorem zsM{σ:AS}{v l}(h:zaM v l):IntsO σ v l:=by
 rcases h with h|⟨b,h⟩
 ·exact .inl h
 ·exact .inr ⟨_,h,trivial⟩
theorem zuz{σ:AS}{v l}(h:zbz v l):LstO σ v l:=by
 rcases h with h|⟨b,rows,h,k⟩
 ·exact .inl h
 ·exact .inr ⟨_,rows,h,trivial,zcT k fun _ _ q=>zEG q⟩
theorem m_o{σ:AS}{v m}(h:MV v m):MO σ v m:=by
 obtain⟨fv,rfl,hf⟩:=h
 refine⟨fv,rfl,?_⟩
 rcases hf with h|⟨b,rows,h,k⟩
 ·exact .inl h
 ·refine .inr ⟨_,rows,h,trivial,zcT k fun _ _ q=>?_⟩
  obtain⟨pv,lv,tv,h,a,b,c⟩:=q
  exact⟨pv,lv,tv,h,zsM a,zsM b,zuz c⟩
end Go.Proofs.YtohfclafhegadaaGreatDoor.Al
namespace Go.Proofs.YtohfclafhegadaaGreatDoor.Al
open Go Go.Abs Go.Proofs.YtohfclafhegadaaGreatDoor
theorem zEH{σ:AS}(h0:0<σ.nf∧σ.F 0=.alive){v l}(h:RepE v l):RepO σ v l:=by
 rcases h with h|⟨b,h⟩
 ·exact .inl h
 ·exact .inr ⟨_,h,h0⟩
theorem zsN{σ:AS}(h0:0<σ.nf∧σ.F 0=.alive){v l}(h:IntsE v l):IntsO σ v l:=by
 rcases h with ⟨rfl,h|⟨b,h⟩⟩|⟨b,h⟩
 ·exact .inl ⟨rfl,h⟩
 ·exact .inr ⟨_,h,trivial⟩
 ·exact .inr ⟨_,h,h0⟩
theorem zrk{R:AV→F × Nat→Prop}{S:AV→F→Prop}{rows:List AV}{ps:List (F × Nat)}(h:All2 R rows ps)(hs:∀v p,p∈ps→R v p→S v p.1):All2 S rows (ps.map Prod.fst):=by
 induction h with
 | nil=>exact .nil
 | cons h r ih=>exact .cons (hs _ _ (by simp) h) (ih fun v p hp=>hs v p (by simp[hp]))
theorem m_e{σ:AS}{base:Nat}(h0:0<σ.nf∧σ.F 0=.alive){v m}(h:ME σ base v m):MO σ v m:=by
 obtain⟨fv,rfl,hf⟩:=h
 refine⟨fv,rfl,?_⟩
 rcases hf with h|⟨g,rows,ps,rfl,q1,q2,q3,q4,q5,q6⟩
 ·exact .inl h
 ·refine .inr ⟨_,rows,rfl,⟨q2,q3⟩,?_⟩
  rw[←q4]
  refine zrk q5 fun v p hp ⟨pv,lv,tv,e,a,b,c⟩=>⟨pv,lv,tv,e,zsN h0 a,zsN h0 b,?_⟩
  obtain⟨u1,u2,u3,u4⟩:=q6.each p.2 (List.mem_map_of_mem hp)
  rcases c with c|⟨tos,rfl,c⟩
  ·exact .inl c
  ·exact .inr ⟨_,tos,rfl,⟨u2,u3⟩,zcT c fun _ _ q=>zEH h0 q⟩
end Go.Proofs.YtohfclafhegadaaGreatDoor.Al
namespace Go.Proofs.YtohfclafhegadaaGreatDoor
open Go Go.Abs
def okT(t:List UInt8):Bool:=match t with
 | []=>true
 | c::r=>zU c&&r.all fun x=>zU x||zQ x
theorem zol(t:List UInt8):zgW 24 t=(decide (1≤t.length∧t.length≤24)&&okT t):=by
 cases t with
 | nil=>rfl
 | cons c r =>
  have:(1≤(c::r).length)=True:=by simp
  simp only[zgW,okT,this,true_and]
theorem zrl(d:List UInt8)(c:UInt8):okT (d++[c])=(okT d&&(if d=[]then zU c else zU c||zQ c)):=by
 cases d with
 | nil=>simp[okT]
 | cons x r=>simp[okT,Bool.and_assoc]
theorem zuA(d r:List UInt8)(h:okT d=false):okT (d++r)=false:=by
 cases d with
 | nil=>cases h
 | cons x y =>
  simp only[okT,List.cons_append,List.all_append]at *
  cases h1:zU x with
  | false=>simp
  | true=>simp[h1]at h;simp;intro a;exact absurd a (by simpa using h)
section
variable {G : Env} {σ : AS} {R : Out → AS → Prop}
def TgI(t:List UInt8)(σ:AS)(a:Nat→AV)(τ:AS):Prop:=∃(d r:List UInt8),t=d++r∧okT d=true∧a 0=.str t∧a 3=.int .i64 (d.length:Int)∧τ=σ
theorem zAy{t:List UInt8}(hl:t.length<2^40)(h:R (.ret (.bool (zgW 24 t))) σ):zzQ G 51 [.str t] σ R:=by
 refine ztY rfl ?_
 rw[zol]at h
 simp[zFp]
 refine zI (TgI t σ) (MU 3 (t.length+1)) ⟨[],t,rfl,rfl,by simp,by simp,rfl⟩ fun a τ hI=>?_
 obtain⟨d,r,hdr,hok,a0,a3,rfl⟩:=hI
 cases r with
 | nil =>
  have e:t=d:=by simpa using hdr
  have e2:d.length=t.length:=by rw[e]
  rw[e2]at a3
  rw[e,hok]at h
  rw[←e]at h
  by_cases h1:1≤t.length
  ·have h1i:(1:Int)≤(t.length:Int):=by omega
   by_cases h2:t.length≤24
   ·have h2i:(t.length:Int)≤24:=by omega
    simp[za6,zid,a0,a3,h1,h1i,h2,h2i]
    simpa [h1,h2]using h
   ·have h2i:¬(t.length:Int)≤24:=by omega
    simp[za6,zid,a0,a3,h1,h1i,h2,h2i]
    simpa [h1,h2]using h
  ·have h1i:¬(1:Int)≤(t.length:Int):=by omega
   simp[za6,zid,a0,a3,h1,h1i]
   simpa [h1]using h
 | cons c r =>
  have hlt:d.length<t.length:=by simp[hdr]
  have hlti:(d.length:Int)<(t.length:Int):=by omega
  have hi:t[d.length]'hlt=c:=by simp[hdr]
  have w1:yb4 .i64 ((d.length:Int)+1)=((d.length+1:Nat):Int):=by rw[wrap_i64]<;>omega
  have e1:t=(d++[c])++r:=by simp[hdr]
  have bad:okT (d++[c])=false→R (.ret (.bool false)) τ:=fun q=>by
   have:okT t=false:=by rw[e1];exact zuA _ _ q
   rw[this]at h
   simpa using h
  have good:∀a':Nat→AV,okT (d++[c])=true→a' 0=.str t→a' 3=.int .i64 ((d.length+1:Nat):Int)→TgI t τ a' τ∧MU 3 (t.length+1) a' τ<MU 3 (t.length+1) a τ:=fun a' q q0 q3=>by
   refine⟨⟨d++[c],r,e1,q,q0,by simpa using q3,rfl⟩,?_⟩
   simp[MU,a3,q3];omega
  rw[zrl,hok,Bool.true_and]at bad good
  have hc255:=c.toNat_lt
  by_cases hL:97≤c.toNat∧c.toNat≤122
  ·have l1:(97:Int)≤(c.toNat:Int):=by omega
   have l2:(c.toNat:Int)≤122:=by omega
   have hl:zU c=true:=by simp[zU,hL]
   simp[za6,a0,a3,hlt,hlti,hi,hL,l1,l2,w1]
   refine good _ ?_ ?_ ?_
   ·rw[hl];split<;>rfl
   ·simp[a0]
   ·simp
  ·by_cases h95:c=95
   ·subst h95
    simp[za6,a0,a3,hlt,hlti,hi,w1]
    refine good _ ?_ ?_ ?_
    ·have:zU 95=true:=by decide
     rw[this];split<;>rfl
    ·simp[a0]
    ·simp
   ·have h95i:¬(c.toNat:Int)=95:=fun e=>h95 (UInt8.toNat_inj.1 (show c.toNat=(95:UInt8).toNat by have:(95:UInt8).toNat=95:=rfl;omega))
    have h95n:¬c.toNat=95:=by omega
    have hl:zU c=false:=by
     simp only[zU,Bool.or_eq_false_iff,beq_eq_false_iff_ne,ne_eq,h95,not_false_iff,and_true]
     by_cases q:97≤c.toNat
     ·have:¬c.toNat≤122:=fun q2=>hL ⟨q,q2⟩
      simp[this]
     ·simp[q]
    have pre:∀b97:Bool,decide ((97:Int)≤(c.toNat:Int))=b97→(b97=true→¬(c.toNat:Int)≤122):=fun b e q=>by
     subst q
     have:=of_decide_eq_true e
     omega
    by_cases h97:(97:Int)≤(c.toNat:Int)
    ·have h122:¬(c.toNat:Int)≤122:=by omega
     have h97n:97≤c.toNat:=by omega
     have h122n:¬c.toNat≤122:=by omega
     have hdg:zQ c=false:=by simp[zQ];omega
     by_cases hd0:d=[]
     ·subst hd0
      simp at a3
      have hi0:t[0]'hlt=c:=hi
      have hlt0:0<t.length:=hlt
      have hlti0:(0:Int)<(t.length:Int):=by omega
      simp[za6,a0,a3,hlt0,hlti0,hi0,h97,h122,h97n,h122n,h95i,h95n,h95,w1]
      exact bad (by simp[hl])
     ·have hdi:¬(d.length:Int)=0:=by have:=ybm.2 hd0;omega
      have hdn:¬d.length=0:=by omega
      have h48:¬(c.toNat:Int)<48:=by omega
      have h48n:¬c.toNat<48:=by omega
      have h57:(57:Int)<(c.toNat:Int):=by omega
      have h57n:57<c.toNat:=by omega
      simp[za6,a0,a3,hlt,hlti,hi,h97,h122,h97n,h122n,h95i,h95n,h95,w1,hdi,hdn,hd0,h48,h48n,h57,h57n]
      exact bad (by simp[hl,hd0,hdg])
    ·have h97n:¬97≤c.toNat:=by omega
     by_cases hd0:d=[]
     ·subst hd0
      simp at a3
      have hi0:t[0]'hlt=c:=hi
      have hlt0:0<t.length:=hlt
      have hlti0:(0:Int)<(t.length:Int):=by omega
      simp[za6,a0,a3,hlt0,hlti0,hi0,h97,h97n,h95i,h95n,h95,w1]
      exact bad (by simp[hl])
     ·have hdi:¬(d.length:Int)=0:=by have:=ybm.2 hd0;omega
      have hdn:¬d.length=0:=by omega
      by_cases h48:(c.toNat:Int)<48
      ·have h48n:c.toNat<48:=by omega
       have hdg:zQ c=false:=by simp[zQ];omega
       simp[za6,a0,a3,hlt,hlti,hi,h97,h97n,h95i,h95n,h95,w1,hdi,hdn,hd0,h48,h48n]
       exact bad (by simp[hl,hd0,hdg])
      ·have h48n:¬c.toNat<48:=by omega
       by_cases h57:(57:Int)<(c.toNat:Int)
       ·have h57n:57<c.toNat:=by omega
        have hdg:zQ c=false:=by simp[zQ];omega
        simp[za6,a0,a3,hlt,hlti,hi,h97,h97n,h95i,h95n,h95,w1,hdi,hdn,hd0,h48,h48n,h57,h57n]
        exact bad (by simp[hl,hd0,hdg])
       ·have h57n:¬57<c.toNat:=by omega
        have hdg:zQ c=true:=by simp[zQ];omega
        simp[za6,a0,a3,hlt,hlti,hi,h97,h97n,h95i,h95n,h95,w1,hdi,hdn,hd0,h48,h48n,h57,h57n]
        refine good _ ?_ ?_ ?_
        ·simp[hl,hd0,hdg]
        ·simp[a0]
        ·simp
end
def zbV:List AV:=(signs.map fun p=>[ycp p.1,ycp p.2]).flatten
structure zk5(G:Env):Prop where
 signs:G.g 10=.pv (.stat true) (.agg zbV)
 max:∃m,G.g 11=.pv (.stat true) (.int .i64 m)
theorem zaZ{G:Env}{σ:AS}{R:Out→AS→Prop}{t:Int}(h:R (.ret (.bool (zad t))) σ):zzQ G 107 [.int .i64 t] σ R:=by
 refine zqe rfl ?_
 unfold zad at h
 by_cases h1:t=1
 ·simp[h1]at h
  simp[zqd,h1];exact h
 ·by_cases h2:t=2
  ·simp[h2]at h
   simp[zqd,h2];exact h
  ·simp[h1,h2]at h
   simp[zqd,h1,h2];exact h
def zgX(e:Int):AV:=.iface 71 (.agg [.int .i64 e])
theorem zd{G:Env}{σ:AS}{R:Out→AS→Prop}{b:Bool}{e:Int}(h1:b=true→R (.ret (.tuple [])) σ)(h2:b=false→R (.panic (zgX e)) σ):zzQ G 53 [.bool b,.int .i64 e] σ R:=by
 refine ztZ rfl ?_
 cases b with
 | true=>simp[zD3,splice];exact h1 rfl
 | false=>simp[zD3,splice];exact h2 rfl
theorem zgq{G:Env}{σ:AS}{R:Out→AS→Prop}{t n:Int}(h:R (.ret (.bool (zhm t n))) σ):zzQ G 228 [.int .i64 t,.int .i64 n] σ R:=by
 refine zq9 rfl ?_
 unfold zhm at h
 by_cases h1:t=1
 ·by_cases h2:n=1
  ·simp[h1,h2]at h;simp[zkU,h1,h2];exact h
  ·by_cases h4:n=4
   ·simp[h1,h4]at h;simp[zkU,h1,h4];exact h
   ·simp[h1,h2,h4]at h;simp[zkU,h1,h2,h4];exact h
 ·by_cases h2:t=2
  ·by_cases h8:n=8
   ·simp[h2,h8]at h;simp[zkU,h2,h8];exact h
   ·simp[h2,h8]at h;simp[zkU,h2,h8];exact h
  ·simp[h1,h2]at h;simp[zkU,h1,h2];exact h
theorem zjS(k:IntKind)(n:Int)(h:k=.i8∨k=.i32):yb4 .i64 (k.wrap n)=k.wrap n:=by
 have hb:-2147483648≤k.wrap n∧k.wrap n≤2147483647:=by
  rcases h with rfl|rfl<;>simp only[yb4,yao,yap]<;>simp<;>omega
 rw[wrap_i64]<;>omega
theorem zmX{G:Env}{σ:AS}{R:Out→AS→Prop}{t v:Int}(h:R (.ret (.int .i64 (zuw t v))) σ):zzQ G 220 [.int .i64 t,.int .i64 v] σ R:=by
 refine zq7 rfl ?_
 unfold zuw at h
 by_cases h3:t=3
 ·simp[h3]at h;simp[zoe,h3,zjS];exact h
 ·by_cases h1:t=1
  ·simp[h1]at h;simp[zoe,h1,zjS];exact h
  ·by_cases h2:t=2
   ·simp[h2]at h;simp[zoe,h2];exact h
   ·simp[h1,h2,h3]at h;simp[zoe,h1,h2,h3];exact h
def GI(s:List UInt8)(σ:AS)(a:Nat→AV)(τ:AS):Prop:=∃i:Nat,i≤16∧a 0=.str s∧a 5=.agg zbV∧a 6=.int .i64 (i:Int)∧zbe (signs.drop i) s=zbe signs s∧zf σ τ
theorem zl4:∀(l:List (List UInt8 × List UInt8)) (i:Nat) (p:List UInt8 × List UInt8),l[i]?=some p→(((l.map fun p=>[ycp p.1,ycp p.2]).flatten).drop (i*2)).take 2=[.str p.1,.str p.2]
 | [],i,p,h=>by simp at h
 | q::l,0,p,h=>by simp at h;subst h;rfl
 | q::l,i+1,p,h=>by
  have:=zl4 l i p (by simpa using h)
  rw[show(i+1)*2=i*2+1+1 from by omega]
  simpa using this
theorem zrm(i:Nat)(h:i<16):∃p,signs[i]?=some p∧(zbV.drop (i*2)).take 2=[.str p.1,.str p.2] :=
 ⟨_,yau h,zl4 signs i _ (yau h)⟩
theorem zmY{G:Env}(V:zk5 G){σ:AS}{R:Out→AS→Prop}{s:List UInt8}(h:∀σ',zf σ σ'→R (.ret (.str (zbe signs s))) σ'):zzQ G 219 [.str s] σ R:=by
 refine zq6 rfl ?_
 have hg:=V.signs
 have hl:zbV.length=32:=rfl
 simp[zxZ,hg,hl]
 refine zI (GI s σ) (MU 6 17) ⟨0,by omega,by simp,by simp,by simp,rfl,.refl _⟩ fun a τ hI=>?_
 obtain⟨i,hi,a0,a5,a6,hs,A⟩:=hI
 by_cases hlt:i<16
 ·obtain⟨p,hp,hc⟩:=zrm i hlt
  have hd:signs.drop i=p::signs.drop (i+1):=by
   obtain⟨hi',e⟩:=yaq.1 hp
   rw[ycs hi',e]
  have hlt':(i:Int)<16:=by omega
  have hw3:yb4 .i64 ((i:Int)+1)=((i+1:Nat):Int):=by rw[wrap_i64]<;>omega
  have hle:i*2+2≤32:=by omega
  obtain⟨x,y⟩:=p
  rw[hd,zbe]at hs
  by_cases he:x=s
  ·rw[if_pos he]at hs
   simp[zfE,a0,a5,a6,hlt',hl,hle,z9,hc,splice,he]
   rw[hs]
   exact h _ ((A.newO).setO (by have:=A.no;omega))
  ·rw[if_neg he]at hs
   simp[zfE,a0,a5,a6,hlt',hl,hle,z9,hc,splice,he,hw3]
   refine⟨⟨i+1,by omega,by simp[a0],by simp[a5],by simp,hs,(A.newO).setO (by have:=A.no;omega)⟩,?_⟩
   simp[MU,a6];omega
 ·have he:i=16:=by omega
  subst he
  have:zbe signs s=[]:=by rw[←hs];rfl
  rw[this]at h
  simp[zfE,zl1,a6]
  exact h _ A
@[simp] theorem grown_full_cons{KS:AV→AS→Prop}{σ:AS}(el bs sz f s' xs y ys):zbJ el bs sz (.sl (.fam f true) s' xs) (y::ys) σ KS=(s'=sz∧(xs.length+(y::ys).length)*bs≤2^47∧σ.F f=.alive∧KS (.sl (.fam σ.nf false) sz (xs++y::ys)) σ.newF):=by simp[zbJ]
@[simp] theorem zuB{P:Program}{G:Env}{n:Nat}{pa pb:PC}{ps:List Nat}{f0:Nat}{a:Nat→AV}{l:Nat}{args:List AV}{σ:AS}{K PK:AV→AS→Prop}:
  zjn P (G.under P n pa pb ps f0 a l) (.fn (.yield l) [] []) args σ K PK=(args.length=ps.length∧σ.F f0=.alive∧avc P G n pa (zaF (fun a1 σ1=>σ1.F f0=.alive∧avc P G n pb (rq f0 K PK) a1 σ1) fun _ _ _=>False) (upds a ps args) σ):=by
 simp[zjn,Env.under,zsx]
@[simp] theorem zAz(f0:Nat)(K PK:AV→AS→Prop)(a:Nat→AV)(σ:AS):rq f0 K PK .normal a σ=(σ.F f0=.alive∧K (.bool true) σ):=Eq.trans rfl rfl
@[simp] theorem zC8(f0:Nat)(K PK:AV→AS→Prop)(v:AV)(a:Nat→AV)(σ:AS):rq f0 K PK (.panic v) a σ=(σ.F f0=.alive∧PK v { σ with F:=upd σ.F f0 .dead }):=Eq.trans rfl rfl
def zaY(l:List Int):List AV:=l.map (.int .i64)
def SV(σ:AS)(sv:AV)(st:List Int):Prop:=(st=[]∧sv=.nilsl)∨∃g b,sv=.sl (.fam g b) 1 (zaY st)∧g<σ.nf∧σ.F g=.alive
def zk6(σ:AS)(x f:Nat):Prop:=∃cs v,σ.objs x=some cs∧cs[1]?=some v∧zbU v=some f
structure zam(x:Nat)(σ σ':AS):Prop where
 no:σ.no≤σ'.no
 nf:σ.nf≤σ'.nf
 obj:∀o,o<σ.no→o≠x→σ'.objs o=σ.objs o
 fam:∀f,f<σ.nf→¬zk6 σ x f→σ'.F f=σ.F f
 use:∀f,f<σ.nf→zk6 σ' x f→zk6 σ x f
theorem zam.refl(x σ):zam x σ σ:=⟨yah _,yah _,fun _ _ _=>rfl,fun _ _ _=>rfl,fun _ _ h=>h⟩
theorem zam.trans{x σ σ1 σ2}(h:zam x σ σ1)(h':zam x σ1 σ2):zam x σ σ2 where
 no:=yai h.no h'.no
 nf:=yai h.nf h'.nf
 obj o a b:=by rw[h'.obj o (yag a h.no) b,h.obj o a b]
 fam f a b:=by rw[h'.fam f (yag a h.nf) fun u=>b (h.use f a u),h.fam f a b]
 use f a u:=h.use f a (h'.use f (yag a h.nf) u)
theorem zf.keepL{x σ σ'}(h:zf σ σ')(hx:x<σ.no):zam x σ σ' where
 no:=h.no
 nf:=h.nf
 obj o a _:=h.obj o a
 fam f a _:=h.fam f a
 use f _ u:=by unfold zk6 at *;rwa [h.obj x hx]at u
def LS(σ:AS)(x c:Nat)(s:St)(deep:Int):Prop:=x<σ.no∧∃sv,σ.objs x=some [.ptr c 0,sv,.bool s.any,.int .i64 deep]∧SV σ sv s.stack
theorem LS.adds{σ σ' x c s deep}(h:LS σ x c s deep)(A:zf σ σ'):LS σ' x c s deep:=by
 obtain⟨hx,sv,ho,hs⟩:=h
 refine⟨yag hx A.no,sv,(A.obj x hx).trans ho,?_⟩
 rcases hs with hs|⟨g,b,e,h1,h2⟩
 ·exact .inl hs
 ·exact .inr ⟨g,b,e,yag h1 A.nf,(A.fam g h1).trans h2⟩
def zpx(R:Out→AS→Prop)(x c:Nat)(deep:Int)(σ:AS):Res St→Prop
 | .ok s'=>∀σ',zam x σ σ'→LS σ' x c s' deep→R (.ret (.tuple [])) σ'
 | .error e=>∀σ',zam x σ σ'→R (.panic (zgX e)) σ'
theorem zam.set{x σ cs}(hx:x<σ.no)(h:∀f v,f<σ.nf→cs[1]?=some v→zbU v=some f→zk6 σ x f):zam x σ (σ.setO x cs) where
 no:=yah _
 nf:=yah _
 obj o _ ho:=by simp[ho]
 fam f _ _:=rfl
 use f hf u:=by
  obtain⟨cs',v,h1,h2,h3⟩:=u
  simp at h1
  subst h1
  exact h f v hf h2 h3
theorem zeH{G:Env}{σ:AS}{R:Out→AS→Prop}{x c:Nat}{s:St}{deep:Int}(L:LS σ x c s deep)(hb:s.stack.length≤2^40)(h:zpx R x c deep σ (zd5 s)):zzQ G 231 [.ptr x 0] σ R:=by
 refine zrc rfl ?_
 have L0:=L
 obtain⟨hx,sv,ho,hs⟩:=L
 unfold zd5 at h
 rcases hs with ⟨hnil,rfl⟩|⟨g,b,rfl,hg1,hg2⟩
 ·have hl:s.stack.length=0:=by rw[hnil];rfl
  rw[if_pos hl]at h
  cases ha:s.any with
  | true =>
   rw[ha]at ho h
   rw[if_pos rfl]at h
   simp[zkW,ho]
   exact h σ (.refl _ _) L0
  | false =>
   rw[ha]at ho h
   rw[if_neg (by simp)]at h
   simp[zkW,ho]
   refine zd (fun q=>by simp at q) fun _=>?_
   exact h σ (.refl _ _)
 ·have hlA:(zaY s.stack).length=s.stack.length:=by simp[zaY]
  by_cases hl:s.stack.length=0
  ·rw[if_pos hl]at h
   have hl2:zaY s.stack=[]:=ybS.1 (by omega)
   cases ha:s.any with
   | true =>
    rw[ha]at ho h
    rw[if_pos rfl]at h
    simp[zkW,ho,hl2]
    exact h σ (.refl _ _) L0
   | false =>
    rw[ha]at ho h
    rw[if_neg (by simp)]at h
    simp[zkW,ho,hl2]
    refine zd (fun q=>by simp at q) fun _=>?_
    exact h σ (.refl _ _)
  ·rw[if_neg hl]at h
   have hl2:¬((zaY s.stack).length:Int)=0:=by omega
   have hl3:(0:Int)<((zaY s.stack).length:Int):=by omega
   have hne:¬zaY s.stack=[]:=fun q=>by rw[q]at hl2;simp at hl2
   have hpos:0<(zaY s.stack).length:=by omega
   have hw:yb4 .i64 (((zaY s.stack).length:Int)-1)=(((zaY s.stack).length-1:Nat):Int):=by rw[wrap_i64]<;>omega
   have e:(zaY s.stack).take ((zaY s.stack).length-1)=zaY s.stack.dropLast:=by
    rw[hlA];unfold zaY;rw[←List.map_take,List.dropLast_eq_take]
   simp[zkW,ho,hne,hpos,splice]
   refine zd (fun _=>?_) (fun q=>by simp at q)
   simp[zkW,ho,hne,hpos,splice,hw]
   rw[e]
   refine h _ (.set hx fun f v hf hv hfam=>?_) ⟨by simpa using hx,_,by simp,.inr ⟨g,true,rfl,hg1,hg2⟩⟩
   simp at hv
   subst hv
   simp[zbU]at hfam
   subst hfam
   exact⟨_,_,ho,rfl,rfl⟩
theorem zom(σ:AS)(x:Nat)(a b:List AV):(σ.setO x a).setO x b=σ.setO x b:=by
 unfold AS.setO
 congr 1
 funext j
 simp only[upd]
 split<;>rfl
theorem zbl{G:Env}{σ:AS}{R:Out→AS→Prop}{x c:Nat}{s:St}{deep:Int}(L:LS σ x c s deep)(h:∀σ',zam x σ σ'→LS σ' x c zkX deep→R (.ret (.tuple [])) σ'):zzQ G 195 [.ptr x 0] σ R:=by
 refine zq0 rfl ?_
 obtain⟨hx,sv,ho,hs⟩:=L
 simp[zxW,ho,splice]
 rw[zom]
 refine h _ ((zam.set (cs:=[.ptr c 0,.nilsl,.bool true,.int .i64 deep]) hx fun f v hf hv hfam=>?_)) ⟨by simpa using hx,_,by simp[zkX],.inl ⟨rfl,rfl⟩⟩
 simp at hv
 subst hv
 simp[zbU]at hfam
theorem zam.grow{x:Nat}{σ σ1:AS}{cs:List AV}(hx:x<σ.no)(ho:σ1.objs=σ.objs)(hno:σ1.no=σ.no)(hnf:σ.nf≤σ1.nf)(hF:∀f,f<σ.nf→¬zk6 σ x f→σ1.F f=σ.F f)(h:∀f v,f<σ.nf→cs[1]?=some v→zbU v=some f→False):zam x σ (σ1.setO x cs) where
 no:=by simp[hno]
 nf:=by simpa using hnf
 obj o _ hne:=by simp[hne,ho]
 fam f hf hu:=hF f hf hu
 use f hf u:=by
  obtain⟨cs',v,h1,h2,h3⟩:=u
  simp at h1
  subst h1
  exact(h f v hf h2 h3).elim
theorem zR{G:Env}{σ:AS}{R:Out→AS→Prop}{x c:Nat}{s:St}{deep t:Int}(L:LS σ x c s deep)(hb:s.stack.length≤2^40)(h:∀σ',zam x σ σ'→LS σ' x c (zeD s t) deep→R (.ret (.tuple [])) σ'):zzQ G 194 [.ptr x 0,.int .i64 t] σ R:=by
 refine zqZ rfl ?_
 have L0:=L
 obtain⟨hx,sv,ho,hs⟩:=L
 by_cases ht:t=0
 ·have e:zeD s t=s:=by simp[zeD,ht]
  rw[e]at h
  simp[zod,ht]
  exact h σ (.refl _ _) L0
 ·have e:zeD s t={ s with stack:=s.stack++[t] }:=by simp[zeD,ht]
  rw[e]at h
  rcases hs with ⟨hnil,rfl⟩|⟨g,b,rfl,hg1,hg2⟩
  ·simp[zod,ht,ho,splice]
   refine h _ (.grow hx rfl rfl (by simp) (fun f hf _=>by simp;omega) fun f v hf hv hfam=>?_) ⟨by simpa using hx,.sl (.fam σ.nf false) 1 (zaY (s.stack++[t])),by simp[hnil,zaY],.inr ⟨σ.nf,false,rfl,by simp,by simp⟩⟩
   ·simp at hv;subst hv;simp[zbU]at hfam;omega
  ·have hlA:(zaY s.stack).length=s.stack.length:=by simp[zaY]
   have ea:zaY s.stack++[.int .i64 t]=zaY (s.stack++[t]):=by simp[zaY]
   cases b with
   | true =>
    simp[zod,ht,ho,splice,hg2,hlA]
    refine⟨by omega,h _ (.grow hx rfl rfl (by simp) (fun f hf _=>by simp;omega) fun f v hf hv hfam=>?_) ⟨by simpa using hx,.sl (.fam σ.nf false) 1 (zaY (s.stack++[t])),by simp[zaY],.inr ⟨σ.nf,false,rfl,by simp,by simp⟩⟩⟩
    ·simp at hv;subst hv;simp[zbU]at hfam;omega
   | false =>
    simp[zod,ht,ho,splice,hg2,hlA]
    refine⟨by omega,h _ (.grow hx rfl rfl (by simp) (fun f hf hu=>?_) fun f v hf hv hfam=>?_) ⟨by simpa using hx,.sl (.fam σ.nf false) 1 (zaY (s.stack++[t])),by simp[zaY],.inr ⟨σ.nf,false,rfl,by simp,by simp⟩⟩⟩
    ·have:f≠g:=by rintro rfl;exact hu ⟨_,_,ho,rfl,rfl⟩
     simp[this];omega
    ·simp at hv;subst hv;simp[zbU]at hfam;omega
theorem zgY{G:Env}{σ:AS}{R:Out→AS→Prop}{tv:AV}(hk:tv.known=true)(hc:tv.cells=[tv])(h:R (.ret (.fn (.func 250) [] [.ptr σ.no 0])) (σ.newO [tv])):zzQ G 230 [tv] σ R:=by
 refine zrb rfl ?_
 simp[zx1,hk,hc]
 exact h
theorem zmZ(t:Int)(ts:List Int)(s:St):zV (t::ts) s=if s.stack.length=0∨s.stack.getLast?=some t then(match zd5 s with|.ok s'=>zV ts s'|.error e=>.error e)else .error 14:=rfl
theorem zfF{s s':St}(h:zd5 s=.ok s'):s'.stack.length≤s.stack.length:=by
 unfold zd5 at h
 split at h
 ·split at h
  ·cases h;exact yah _
  ·cases h
 ·cases h;simp
@[simp] theorem zC9(a:Nat→AV)(p q:Nat)(x y:AV):upds a [p,q] [x,y]=upd (upd a p x) q y:=Eq.trans rfl rfl
theorem SV.len{σ:AS}{sv:AV}{st:List Int}(h:SV σ sv st)(K:AV→Prop):zgI yb9 44 sv K=K (.int .i64 (st.length:Int)):=by
 rcases h with ⟨rfl,rfl⟩|⟨g,b,rfl,_⟩
 ·simp
 ·simp[zaY]
theorem SV.last{σ:AS}{sv:AV}{st:List Int}(h:SV σ sv st)(hn:0<st.length):∃φ v,zi σ.F φ∧st.getLast?=some v∧∀(n:Int),n=(st.length:Int)-1→∀K:AV→Prop,zu yb9 44 sv (.int .i64 n) K=K (.pv φ (.int .i64 v)):=by
 rcases h with ⟨rfl,_⟩|⟨g,b,rfl,_,hg⟩
 ·simp at hn
 ·refine⟨.fam g b,st[st.length-1],hg,by rw[List.getLast?_eq_getElem?,yau (by omega)],fun n hn2 K=>?_⟩
  have e:n.toNat=st.length-1:=by omega
  have h0:0≤n:=by omega
  have hlt:st.length-1<st.length:=by omega
  simp[zaY,e,h0,hlt]
def TI(x c:Nat)(deep:Int)(o f0 l:Nat)(σN:AS)(ts:List Int)(s0:St)(a:Nat→AV)(τ:AS):Prop:=∃(i:Nat) (s:St),i≤ts.length∧a 0=.fn (.yield l) [] []∧a 1=.ptr o 0∧a 3=.int .i64 ((i:Int)-1)∧LS τ x c s deep∧zam x σN τ∧s.stack.length≤s0.stack.length ∧
 zV (ts.take i).reverse s=zV ts.reverse s0
def TM(a:Nat→AV)(_:AS):Nat:=match a 3 with|.int _ n=>(n+1).toNat|_=>0
theorem zaA{G:Env}{σ:AS}{R:Out→AS→Prop}{x c:Nat}{s:St}{deep:Int}{ts:List Int}{tv:AV}(hv:zaM tv ts)(hts:ts.length≤2^40)(L:LS σ x c s deep)(hb:s.stack.length≤2^40)(h:zpx R x c deep σ (zV ts.reverse s)):zzQ G 193 [.ptr x 0,tv] σ R:=by
 obtain⟨v1,v2,v3⟩:=hv.one
 refine zjC (px:=zoc) (py:=zlY) (pa:=zcM) (pb:=zcN) zj Tryz.func193 (n:=33) (res:=[]) rfl rfl rfl (by kernel_rfl) (by kernel_rfl) (by kernel_rfl) (by kernel_rfl) (by decide) (by simp) ?_
 simp[zoc,zlY]
 refine zgY v1 v3 ?_
 simp
 generalize hσ2:(σ.newO [yct x 0]).newO [tv]=σ2
 have hno2:σ2.no=σ.no+2:=by rw[←hσ2];simp
 have hnf2:σ2.nf=σ.nf:=by rw[←hσ2];simp
 have A2:zf σ σ2:=by rw[←hσ2];exact(zf.refl σ).newO.newO
 have hb0:σ2.objs σ.no=some [.ptr x 0]:=by rw[←hσ2];simp
 have ho0:σ2.objs (σ.no+1)=some [tv]:=by rw[←hσ2];simp
 have hxl:=L.1
 refine⟨250,[.ptr (σ.no+1) 0],by simp,by simp,fun l=>?_⟩
 refine zre rfl ?_
 have L2:LS σ2.newF x c s deep:=(L.adds A2).adds (zf.refl σ2).newF
 have AN:zf σ σ2.newF:=A2.newF
 have hnu:∀τ,zam x σ2.newF τ→τ.F σ2.nf=.alive:=fun τ K=>by
  rw[K.fam σ2.nf (by simp) ?_]
  ·simp
  ·rintro ⟨cs,v,e1,e2,e3⟩
   obtain⟨hx,sv,e4,e5⟩:=L
   have:σ2.newF.objs x=some [.ptr c 0,sv,.bool s.any,.int .i64 deep]:=(AN.obj x hx).trans e4
   rw[this]at e1
   cases e1
   simp at e2
   subst e2
   rcases e5 with ⟨_,rfl⟩|⟨g,b,rfl,hg,_⟩
   ·simp[zbU]at e3
   ·simp[zbU]at e3;omega
 -- a state behind the loop
 have back:∀τ,zam x σ2.newF τ→zam x σ { τ with F:=upd τ.F σ2.nf .dead }:=by
  intro τ K
  have K':=(AN.keepL hxl).trans K
  exact⟨K'.no,K'.nf,K'.obj,fun f hf hu=>by simp only[upd];rw[if_neg (by omega)];exact K'.fam f hf hu,K'.use⟩
 have backL:∀τ s',zam x σ2.newF τ→LS τ x c s' deep→LS { τ with F:=upd τ.F σ2.nf .dead } x c s' deep:=by
  intro τ s' K ⟨e1,sv,e2,e3⟩
  refine⟨e1,sv,e2,?_⟩
  rcases e3 with e3|⟨g,b,e4,e5,e6⟩
  ·exact .inl e3
  ·refine .inr ⟨g,b,e4,e5,?_⟩
   have hne:g≠σ2.nf:=by
    rintro rfl
    have u:zk6 τ x σ2.nf:=⟨_,_,e2,rfl,by rw[e4];rfl⟩
    obtain⟨cs,v,q1,q2,q3⟩:=K.use σ2.nf (by simp) u
    obtain⟨hx,sv',q4,q5⟩:=L2
    rw[q4]at q1
    cases q1
    simp at q2
    subst q2
    rcases q5 with ⟨_,rfl⟩|⟨g',b',rfl,hg',_⟩
    ·simp[zbU]at q3
    ·obtain⟨hx1,sv1,p1,p2⟩:=L
     have:σ2.newF.objs x=some [.ptr c 0,sv1,.bool s.any,.int .i64 deep]:=(AN.obj x hx1).trans p1
     rw[q4]at this
     simp at this
     subst this
     rcases p2 with ⟨_,p3⟩|⟨g2,b2,p3,p4,_⟩
     ·cases p3
     ·simp at p3;simp[zbU]at q3;omega
   simp only[upd];rw[if_neg hne];exact e6
 have ho1:σ2.newF.objs (σ.no+1)=some [tv]:=by simpa using ho0
 have hw0:yb4 .i64 ((ts.length:Int)-1)=(ts.length:Int)-1:=by rw[wrap_i64]<;>omega
 have start:∀a,TI x c deep (σ.no+1) σ2.nf l σ2.newF ts s a σ2.newF→zjy yb9 (Env.under G yb9 33 zcM zcN [9,10] σ2.nf (upd (upd (upd (za1 [yct x 0,tv]) 2 (yct σ.no 0)) 7 tv) 8 (AV.fn (Fn.func 250) [] [yct (σ.no+1) 0])) l) 19 zda
   (zaG 0 (zep yb9 [] fun o σ'=>match o with
    | .ret v=>σ'.F σ2.nf=.alive∧R (.ret (.tuple [])) { σ' with F:=upd σ'.F σ2.nf .dead }
    | .panic v=>R (.panic v) σ')) a σ2.newF:=by
  intro a hI
  refine zI (TI x c deep (σ.no+1) σ2.nf l σ2.newF ts s) TM hI fun a τ hI=>?_
  obtain⟨i,s1,hi,a0,a1,a3,L1,K1,hle,hq⟩:=hI
  have hal:=hnu τ K1
  have hob:τ.objs (σ.no+1)=some [tv]:=by
   rw[K1.obj (σ.no+1) (by simp;omega) (by omega)];exact ho1
  have hob0:τ.objs σ.no=some [.ptr x 0]:=by
   rw[K1.obj σ.no (by simp;omega) (by omega)];simpa using hb0
  cases i with
  | zero =>
   simp[zV]at hq
   rw[←hq]at h
   simp[zda,a3]
   exact⟨hal,h _ (back τ K1) (backL τ s1 K1 L1)⟩
  | succ j =>
   have hj:j<ts.length:=by omega
   rcases hv with ⟨rfl,_⟩|⟨b,rfl⟩
   ·simp at hj
   have hrev:(ts.take (j+1)).reverse=ts[j]::(ts.take j).reverse:=by rw[ycm hj,ycu];rfl
   rw[hrev,zmZ]at hq
   obtain⟨hx1,sv1,hs1,hs2⟩:=L1
   have L1':LS τ x c s1 deep:=⟨hx1,sv1,hs1,hs2⟩
   have hf0:=hal
   have hsl:=hs2.len
   have hwj:yb4 .i64 ((j:Int)-1)=(j:Int)-1:=by rw[wrap_i64]<;>omega
   have next:∀(a':Nat→AV) (τ':AS) (s':St),zam x τ τ'→LS τ' x c s' deep→zV (ts.take j).reverse s'=zV ts.reverse s→s'.stack.length≤s1.stack.length→a' 0=.fn (.yield l) [] []→a' 1=.ptr (σ.no+1) 0→a' 3=.int .i64 ((j:Int)-1) →
     TI x c deep (σ.no+1) σ2.nf l σ2.newF ts s a' τ'∧TM a' τ'<TM a τ:=by
    intro a' τ' s' K' L' e' l' b0 b1 b3
    refine⟨⟨j,s',by omega,b0,b1,b3,L',K1.trans K',by omega,e'⟩,?_⟩
    simp only[TM,a3,b3]
    omega
   by_cases hn:s1.stack.length=0
   ·have hn':s1.stack=[]:=ybS.1 hn
    rw[if_pos (.inl hn)]at hq
    simp[zda,a0,a1,a3,hob,hj,zcM,zcN,hal,hob0,hs1,hsl,hn']
    refine zd (fun _=>?_) (fun q=>by simp at q)
    simp[hob0]
    refine zeH L1' (by omega) ?_
    cases hd:zd5 s1 with
    | ok s' =>
     rw[hd]at hq
     intro τ' K' L'
     simp[hal,hnu τ' (K1.trans K'),a0,a1,a3,hwj]
     exact next _ τ' s' K' L' hq (zfF hd) (by simp[a0]) (by simp[a1]) (by simp)
    | error e =>
     rw[hd]at hq
     simp only at hq
     rw[←hq]at h
     intro τ' K'
     simp[hal,hnu τ' (K1.trans K')]
     exact h _ (back τ' (K1.trans K'))
   ·obtain⟨φ,v,hrd,hlast,hix⟩:=hs2.last (by omega)
    have hix':=hix _ rfl
    have hw1:yb4 .i64 ((s1.stack.length:Int)-1)=(s1.stack.length:Int)-1:=by rw[wrap_i64]<;>omega
    have hne:¬s1.stack=[]:=fun q=>hn (by rw[q];rfl)
    by_cases hvt:v=ts[j]
    ·rw[if_pos (.inr (by rw[hlast,hvt]))]at hq
     subst hvt
     simp[zda,a0,a1,a3,hob,hj,zcM,zcN,hal,hob0,hs1,hsl,hne,hix',hw1,hrd]
     refine zd (fun _=>?_) (fun q=>by simp at q)
     simp[hob0]
     refine zeH L1' (by omega) ?_
     cases hd:zd5 s1 with
     | ok s' =>
      rw[hd]at hq
      intro τ' K' L'
      simp[hal,hnu τ' (K1.trans K'),a0,a1,a3,hwj]
      exact next _ τ' s' K' L' hq (zfF hd) (by simp[a0]) (by simp[a1]) (by simp)
     | error e =>
      rw[hd]at hq
      simp only at hq
      rw[←hq]at h
      intro τ' K'
      simp[hal,hnu τ' (K1.trans K')]
      exact h _ (back τ' (K1.trans K'))
    ·rw[if_neg (by rintro (q|q);exact hn q;rw[hlast]at q;exact hvt (yaR.inj q))]at hq
     rw[←hq]at h
     simp[zda,a0,a1,a3,hob,hj,zcM,zcN,hal,hob0,hs1,hsl,hne,hix',hw1,hrd,hvt]
     refine zd (fun q=>by simp at q) (fun _=>?_)
     simp[hal]
     exact h _ (back τ K1)
 simp[zx3,ho1,hv.len,hw0]
 exact start _ ⟨ts.length,s,yah _,by simp,by simp,by simp,L2,.refl _ _,yah _,by rw[ycr]⟩
def zl5(σ:AS)(c:Nat)(m:M)(f:F)(ls:List Int):Prop:=c<σ.no∧∃fsv pv lv tv sv,σ.objs c=some [fsv,.int .i64 m.memory,.int .i64 m.main,.str f.name,pv,lv,.int .i64 f.type,tv,sv]∧FsV fsv m.funcs∧zaM pv f.params∧zaM lv f.locals∧zbz tv f.lists∧zaM sv ls
theorem zl5.adds{σ σ' c m f ls}(h:zl5 σ c m f ls)(A:zf σ σ'):zl5 σ' c m f ls:=by
 obtain⟨hc,fsv,pv,lv,tv,sv,ho,r⟩:=h
 exact⟨yag hc A.no,fsv,pv,lv,tv,sv,(A.obj c hc).trans ho,r⟩
theorem zl5.keep{σ σ' x c m f ls}(h:zl5 σ c m f ls)(K:zam x σ σ')(hx:c≠x):zl5 σ' c m f ls:=by
 obtain⟨hc,fsv,pv,lv,tv,sv,ho,r⟩:=h
 exact⟨yag hc K.no,fsv,pv,lv,tv,sv,(K.obj c hc hx).trans ho,r⟩
theorem zcd{G:Env}{σ:AS}{R:Out→AS→Prop}{x c:Nat}{s:St}{deep:Int}{m:M}{f:F}{ls:List Int}(L:LS σ x c s deep)(C:zl5 σ c m f ls)(hb:s.stack.length≤2^40)(h:zpx R x c deep σ (zD f.type s)):zzQ G 162 [.ptr x 0] σ R:=by
 refine zqJ rfl ?_
 obtain⟨hc,fsv,pv,lv,tv,lsv,hco,_⟩:=C
 obtain⟨hx,sv,ho,hs⟩:=L
 unfold zD at h
 by_cases ht:f.type=0
 ·rw[if_pos ht]at h
  simp[zun,ho,hco,ht]
  exact h σ (.refl _ _) ⟨hx,sv,ho,hs⟩
 ·rw[if_neg ht]at h
  simp[zun,ho,hco,ht]
  refine zaA (ts:=[f.type]) (.inr ⟨_,rfl⟩) (by simp) ⟨hx,sv,ho,hs⟩ hb ?_
  have e:[f.type].reverse=[f.type]:=rfl
  rw[e]
  revert h
  cases zV [f.type] s with
  | ok s'=>intro h σ' K L;simp;exact h σ' K L
  | error e=>intro h σ' K;simp;exact h σ' K
theorem zm0{G:Env}(V:zk5 G){σ:AS}{R:Out→AS→Prop}{w:W}(h:∀σ',zf σ σ'→R (.ret (.bool (zbu w))) σ'):zzQ G 191 [w.av] σ R:=by
 refine zqX rfl ?_
 unfold zbu at h
 have A:zf σ (σ.newO w.cs):=(zf.refl σ).newO
 simp only[W.cs]at A
 by_cases h1:w.op=1
 ·rw[if_pos (.inl h1)]at h
  simp[ziy,W.av,W.cs,h1]
  refine zaZ ?_
  simp
  simpa [h1]using h _ A
 by_cases h5:w.op=5
 ·rw[if_pos (.inr h5)]at h
  simp[ziy,W.av,W.cs,h5]
  refine zaZ ?_
  simp
  simpa [h5]using h _ A
 rw[if_neg (by omega)]at h
 by_cases h4:w.op=4
 ·rw[if_pos h4]at h
  simp[ziy,W.av,W.cs,h4]
  refine zaZ ?_
  cases hn:zad w.ty with
  | false =>
   rw[hn]at h
   simp
   simpa [h4]using h _ A
  | true =>
   rw[hn]at h
   simp
   refine zmY V fun σ1 A1=>?_
   simp
   have:=h _ ((by simpa [h4]using A:zf σ _).trans A1)
   cases hq:zbe signs w.name with
   | nil=>rw[hq]at this;simpa using this
   | cons a l=>rw[hq]at this;simpa using this
 rw[if_neg h4]at h
 by_cases h8:w.op=8
 ·rw[if_pos (.inl h8)]at h
  simp[ziy,W.av,W.cs,h8]
  refine zgq ?_
  simp
  simpa [h8]using h _ A
 by_cases h9:w.op=9
 ·rw[if_pos (.inr h9)]at h
  simp[ziy,W.av,W.cs,h9]
  refine zgq ?_
  simp
  simpa [h9]using h _ A
 rw[if_neg (by omega)]at h
 by_cases k1:1≤w.op
 ·by_cases k2:w.op≤18
  ·simp[k1,k2]at h
   simp[ziy,W.av,W.cs,h1,h5,h4,h8,h9,k1,k2]
   exact h _ A
  ·simp[k1,k2]at h
   simp[ziy,W.av,W.cs,h1,h5,h4,h8,h9,k1,k2]
   exact h _ A
 ·simp[k1]at h
  simp[ziy,W.av,W.cs,h1,h5,h4,h8,h9,k1]
  exact h _ A
def zuC(v:AV)(r:Option (List Int × Int)):Prop:=match r with
 | some (ts,g)=>∃tv,v=.tuple [.agg [tv,.int .i64 g],.bool true]∧zaM tv ts
 | none=>v=.tuple [.agg [.nilsl,.int .i64 0],.bool false]
theorem zbG{G:Env}{σ:AS}{R:Out→AS→Prop}{mv:AV}{m:M}{n:Int}(hm:MV mv m)(hb:n≤2^63-1)(h:∀v σ',zuC v (ze5 m.funcs n)→zf σ σ'→R (.ret v) σ'):zzQ G 229 [mv,.int .i64 n] σ R:=by
 refine zra rfl ?_
 obtain⟨fv,rfl,hf⟩:=hm
 unfold ze5 at h
 have A0:∀c1 c2 c3:List AV,zf σ (((σ.newO c1).newO c2).setO (σ.no+1) c3):=fun _ _ _=>((zf.refl σ).newO.newO).setO (by omega)
 by_cases n0:n=0
 ·rw[if_pos n0]at h
  simp[zkV,n0,splice]
  exact h _ _ ⟨_,rfl,.inl ⟨rfl,rfl⟩⟩ (A0 _ _ _)
 rw[if_neg n0]at h
 by_cases n1:n=1
 ·rw[if_pos n1]at h
  simp[zkV,n1,splice]
  exact h _ _ ⟨_,rfl,.inr ⟨_,rfl⟩⟩ (A0 _ _ _)
 rw[if_neg n1]at h
 by_cases n2:n=2
 ·rw[if_pos n2]at h
  simp[zkV,n2,splice]
  exact h _ _ ⟨_,rfl,.inr ⟨_,rfl⟩⟩ (A0 _ _ _)
 rw[if_neg n2]at h
 by_cases n3:n<0
 ·rw[if_pos n3]at h
  simp[zkV,n0,n1,n2,n3,splice]
  exact h _ _ rfl (A0 _ _ _)
 rw[if_neg n3]at h
 have hw:yb4 .i64 (n-3)=n-3:=by rw[wrap_i64]<;>omega
 have hl:=hf.len
 by_cases n4:(m.funcs.length:Int)≤n-3
 ·have e:m.funcs[(n-3).toNat]?=none:=yb2 (by omega)
  rw[e]at h
  simp[zkV,n0,n1,n2,n3,n4,splice,hl,hw]
  exact h _ _ rfl (A0 _ _ _)
 ·rcases hf with ⟨e0,rfl⟩|⟨b,rows,rfl,hr⟩
  ·rw[e0]at n4;simp at n4;omega
  have hlt:(n-3).toNat<m.funcs.length:=by omega
  have hg:m.funcs[(n-3).toNat]?=some m.funcs[(n-3).toNat]:=yau hlt
  obtain⟨row,hrow,pv,lv,tv,rfl,hp,hlv,htv⟩:=hr.get hg
  rw[hg]at h
  have h3:0≤n-3:=by omega
  have p1:=hp.one
  simp[zkV,n0,n1,n2,n3,n4,splice,hl,hw,hrow,h3,p1]
  refine⟨by omega,⟨hlv.one.2.1,htv.one.2.1⟩,h _ _ ⟨_,rfl,hp⟩ ?_⟩
  exact(((zf.refl σ).newO.newO.newO).setO (by omega)).setO (by omega)
theorem zgZ{G:Env}{σ:AS}{R:Out→AS→Prop}{x c:Nat}{s:St}{deep:Int}{m:M}{f:F}{ls:List Int}{w:W}(L:LS σ x c s deep)(C:zl5 σ c m f ls)(hb:w.n≤2^63-1)(h:∀σ',zf σ σ'→R (.ret (.bool (zcc m.funcs ls deep w))) σ'):zzQ G 192 [.ptr x 0,w.av] σ R:=by
 refine zqY rfl ?_
 obtain⟨hc,fsv,pv,lv,tv,lsv,hco,hfs,hpv,hlv,htv,hls⟩:=C
 obtain⟨hx,sv,ho,hs⟩:=L
 have A:zf σ (σ.newO w.cs):=(zf.refl σ).newO
 simp only[W.cs]at A
 have hx':x≠σ.no:=by omega
 have hc':c≠σ.no:=by omega
 unfold zcc at h
 by_cases h1:w.op=1
 ·rw[if_pos h1]at h
  simp[zgV,W.av,W.cs,h1]
  refine zmX ?_
  simp
  simpa [h1]using h _ A
 rw[if_neg h1]at h
 by_cases h2:w.op=2∨w.op=3
 ·rw[if_pos h2]at h
  have hl:=hls.len
  by_cases k1:0≤w.n
  ·by_cases k2:w.n<(ls.length:Int)
   ·simp[k1,k2]at h
    rcases h2 with h2|h2<;>simp[zgV,W.av,W.cs,h1,h2,ho,hco,hx',hc',hl,k1,k2]<;>exact h _ (by simpa [h2]using A)
   ·simp[k1,k2]at h
    rcases h2 with h2|h2<;>simp[zgV,W.av,W.cs,h1,h2,ho,hco,hx',hc',hl,k1,k2]<;>exact h _ (by simpa [h2]using A)
  ·simp[k1]at h
   rcases h2 with h2|h2<;>simp[zgV,W.av,W.cs,h1,h2,ho,hco,hx',hc',hl,k1]<;>exact h _ (by simpa [h2]using A)
 rw[if_neg h2]at h
 have h2a:¬w.op=2:=fun q=>h2 (.inl q)
 have h2b:¬w.op=3:=fun q=>h2 (.inr q)
 by_cases h10:w.op=10
 ·rw[if_pos h10]at h
  simp[zgV,W.av,W.cs,h10,ho,hco,hx',hc']
  have hx'':x≠σ.no+1:=by omega
  have hc'':c≠σ.no+1:=by omega
  have A':zf σ (σ.newO [.int .i64 10,.int .i64 w.ty,.int .i64 w.n,.int .i64 w.body,.int .i64 w.other,.str w.name]):=by simpa [h10]using A
  constructor
  ·refine zbG (m:=m) ⟨_,rfl,hfs⟩ hb fun v σ1 hv A1=>?_
   have A2:=A'.trans A1
   cases hq:ze5 m.funcs w.n with
   | none =>
    rw[hq]at hv h
    simp only[zuC]at hv
    subst hv
    simp[splice]
    exact h _ (A2.newO.setO A2.no)
   | some p =>
    rw[hq]at hv h
    obtain⟨y,rfl,hy⟩:=hv
    have y1:=hy.one
    simp[splice,y1]
    exact h _ (A2.newO.setO A2.no)
  ·simp[ho,hco,hx',hc',hx'',hc'']
   refine zbG (m:=m) ⟨_,rfl,hfs⟩ hb fun v σ1 hv A1=>?_
   have A2:zf σ σ1:=(A'.newO).trans A1
   have hnew:σ1.objs (σ.no+1)=some [.nilsl,.int .i64 0]:=(A1.obj (σ.no+1) (by simp)).trans (by simp)
   cases hq:ze5 m.funcs w.n with
   | none =>
    rw[hq]at hv h
    simp only[zuC]at hv
    subst hv
    simp[splice,hnew]
    exact h _ (A2.setO (by omega))
   | some p =>
    rw[hq]at hv h
    obtain⟨y,rfl,hy⟩:=hv
    have y1:=hy.one
    simp[splice,y1,hnew]
    exact h _ (A2.setO (by omega))
 rw[if_neg h10]at h
 by_cases h14:w.op=14∨w.op=15
 ·rw[if_pos h14]at h
  by_cases k1:0≤w.n
  ·by_cases k2:w.n≤deep
   ·simp[k1,k2]at h
    rcases h14 with h14|h14<;>simp[zgV,W.av,W.cs,h14,ho,hco,hx',hc',k1,k2]<;>exact h _ (by simpa [h14]using A)
   ·simp[k1,k2]at h
    rcases h14 with h14|h14<;>simp[zgV,W.av,W.cs,h14,ho,hco,hx',hc',k1,k2]<;>exact h _ (by simpa [h14]using A)
  ·simp[k1]at h
   rcases h14 with h14|h14<;>simp[zgV,W.av,W.cs,h14,ho,hco,hx',hc',k1]<;>exact h _ (by simpa [h14]using A)
 rw[if_neg h14]at h
 have h14a:¬w.op=14:=fun q=>h14 (.inl q)
 have h14b:¬w.op=15:=fun q=>h14 (.inr q)
 simp[zgV,W.av,W.cs,h1,h2a,h2b,h10,h14a,h14b]
 exact h _ A
@[simp] theorem zsO{P:Program}(t)(x y:List UInt8){K:AV→Prop}:zbh P .add t (.str x) (.str y) K=(x.length+y.length<2^62∧K (.str (x++y))):=by simp only[zbh,zfM]
theorem zk5.cell{G:Env}(V:zk5 G){M F w}(g:GOk yb9 G M F w):∃m,w.cell? ⟨11,0,none⟩=some (.int .i64 m):=by
 obtain⟨m,hm⟩:=V.max
 have h:=g.vars 11
 rw[hm]at h
 cases h with
 | pv φ v B off cs hmem hc hv =>
  have h1:=hc trivial 0 (by simp)
  have h2:=hv trivial 0 (by simp)
  simp at h2
  generalize cs 0=c at h1 h2
  cases h2
  exact⟨m,h1⟩
theorem zg0{G:Env}(V:zk5 G){s t:List UInt8}{σ:AS}{R:Out→AS→Prop}(hl:s.length<4294967281)(h:R (.ret (.bool (Lib.contains s t))) σ):zzQ G 232 [.str s,.str t] σ R:=by
 refine ACalls.of_below fun M w cargs S g hc=>?_
 obtain⟨m,hm⟩:=V.cell g
 obtain⟨c0,e0,v0⟩:=hc.2 0 _ rfl
 obtain⟨c1,e1,v1⟩:=hc.2 1 _ rfl
 obtain⟨b0,rfl,rfl⟩:=v0.str_inv
 obtain⟨b1,rfl,rfl⟩:=v1.str_inv
 have hcargs:cargs=#[.string b0,.string b1]:=by
  have hsz:cargs.size=2:=hc.1
  apply ycv
  ·simpa using hsz
  ·intro i h1 h2
   match i,h1 with
   | 0,_=>simpa using (yaU.1 e0).2
   | 1,_=>simpa using (yaU.1 e1).2
   | i+2,h=>omega
 rw[hcargs]
 refine(Tryz.strings_Contains b0 b1 m w (by simpa using hl) hm).mono fun e w' ⟨he,hw⟩=>?_
 subst he hw
 exact⟨⟨.bool _,_,rfl,fun M F w=>.bool _,h⟩,rfl,rfl,rfl,yah _,fun _ _=>rfl⟩
theorem zbm:∀{ts:List Int} {s s':St},zV ts s=.ok s'→s'.stack.length≤s.stack.length
 | [],s,s',h=>by simp[zV]at h;subst h;exact yah _
 | t::ts,s,s',h=>by
  rw[zV]at h
  split at h
  ·cases hd:zd5 s with
   | error e=>rw[hd]at h;cases h
   | ok s1=>rw[hd]at h;exact yai (zbm h) (zfF hd)
  ·cases h
theorem zeI:∀s,zbe signs s≠[]→s.length≤5:=by
 have key:∀(l:List (List UInt8 × List UInt8)),(∀p∈l,p.1.length≤5)→∀s,zbe l s≠[]→s.length≤5:=by
  intro l
  induction l with
  | nil=>intro _ s h;simp[zbe]at h
  | cons p l ih =>
   intro hp s h
   obtain⟨x,y⟩:=p
   rw[zbe]at h
   by_cases e:x=s
   ·subst e;exact hp (x,y) (by simp)
   ·rw[if_neg e]at h;exact ih (fun q hq=>hp q (by simp[hq])) s h
 exact key signs (by decide)
section
variable {G : Env} {σ : AS} {R : Out → AS → Prop} {x c : Nat} {s : St} {deep : Int} {m : M} {f : F} {ls : List Int} {w : W}
theorem zk7(V:zk5 G)(L:LS σ x c s deep)(C:zl5 σ c m f ls)(hcx:c≠x)(hb:s.stack.length≤2^39)(hn:w.n≤2^63-1)(hps:∀g∈m.funcs,g.params.length≤2^30)(hf:zbu w=true)(hr:zcc m.funcs ls deep w=true)
  (h:zpx R x c deep σ (ze6 m.funcs ls w s)):zzQ G 196 [.ptr x 0,w.av] σ R:=by
 refine zq1 rfl ?_
 have A:zf σ (σ.newO w.cs):=(zf.refl σ).newO
 have La:=L.adds A
 have Ca:=C.adds A
 have Ka:=A.keepL L.1
 have hwo:(σ.newO w.cs).objs σ.no=some [.int .i64 w.op,.int .i64 w.ty,.int .i64 w.n,.int .i64 w.body,.int .i64 w.other,.str w.name]:=by simp[W.cs]
 have hwl:σ.no<(σ.newO w.cs).no:=by simp
 have hxw:σ.no≠x:=by have:=L.1;omega
 simp[zxX,W.av,W.cs]
 rw[show σ.newO [ycn yam w.op,ycn yam w.ty,ycn yam w.n,ycn yam w.body,ycn yam w.other,ycp w.name]=σ.newO w.cs from rfl]
 generalize hσa:σ.newO w.cs=σa at *
 obtain⟨hc,fsv,pv,lv,tv,lsv,hco,hfs,hpv,hlv,htv,hls⟩:=Ca
 obtain⟨hx,sv,ho,hs⟩:=La
 have La:LS σa x c s deep:=⟨hx,sv,ho,hs⟩
 -- the zsw
 have fin:∀r:Res St,zpx R x c deep σ r→zpx (zsw (fun v σ'=>R (.ret (.tuple [])) σ') fun v σ'=>R (.panic v) σ') x c deep σa r:=by
  intro r hr
  cases r with
  | ok s'=>intro σ' K L';simp;exact hr σ' (Ka.trans K) L'
  | error e=>intro σ' K;simp;exact hr σ' (Ka.trans K)
 unfold ze6 at h
 by_cases h1:w.op=1
 ·rw[if_pos h1]at h
  simp[h1,hwo]
  refine zR La (by omega) fun σ' K L'=>?_
  simp
  exact h σ' (Ka.trans K) L'
 rw[if_neg h1]at h
 by_cases h2:w.op=2
 ·rw[if_pos h2]at h
  have hr2:0≤w.n∧w.n<(ls.length:Int):=by simpa [zcc,h1,h2]using hr
  rcases hls with ⟨e,_⟩|⟨b,rfl⟩
  ·rw[e]at hr2;simp at hr2;omega
  have hlt:w.n.toNat<ls.length:=by omega
  have e1:ls.getD w.n.toNat 0=ls[w.n.toNat]:=by rw[yce,yau hlt];rfl
  simp[h2,hwo,ho,hco,hr2.1,hlt]
  refine zR La (by omega) fun σ' K L'=>?_
  simp
  unfold ziB at h
  rw[e1]at h
  exact h σ' (Ka.trans K) L'
 rw[if_neg h2]at h
 by_cases h3:w.op=3
 ·rw[if_pos h3]at h
  have hr2:0≤w.n∧w.n<(ls.length:Int):=by simpa [zcc,h1,h2,h3]using hr
  rcases hls with ⟨e,_⟩|⟨b,rfl⟩
  ·rw[e]at hr2;simp at hr2;omega
  have hlt:w.n.toNat<ls.length:=by omega
  have e1:ls.getD w.n.toNat 0=ls[w.n.toNat]:=by rw[yce,yau hlt];rfl
  simp[h3,hwo,ho,hco,hr2.1,hlt]
  unfold ziB at h
  rw[e1]at h
  refine zaA (ts:=[ls[w.n.toNat]]) (.inr ⟨_,rfl⟩) (by simp) La (by omega) ?_
  have e:[ls[w.n.toNat]].reverse=[ls[w.n.toNat]]:=rfl
  rw[e]
  revert h
  cases zV [ls[w.n.toNat]] s with
  | ok s'=>intro h σ' K L;simp;exact h σ' (Ka.trans K) L
  | error e=>intro h σ' K;simp;exact h σ' (Ka.trans K)
 rw[if_neg h3]at h
 -- takes,and zfl
 have tgB:∀{R':Out→AS→Prop} {σb:AS} (Kb:zam x σ σb) (Lb:LS σb x c s deep) (o:Nat) (cs:List AV) (ts:List Int) (tv:AV) (t:Int),σb.objs o=some cs→o<σb.no→o≠x→zaM tv ts→ts.length≤2^30→zpx R x c deep σ (zfl (zV ts.reverse s) t) →
   (∀σ1 s1,s1.stack.length≤2^39→zam x σb σ1→LS σ1 x c s1 deep→σ1.objs o=some cs→(∀σ2,zam x σ1 σ2→LS σ2 x c (zeD s1 t) deep→R (.ret (.tuple [])) σ2)→R' (.ret (.tuple [])) σ1) →
   (∀e σ1,R (.panic (zgX e)) σ1→R' (.panic (zgX e)) σ1)→zzQ G 193 [.ptr x 0,tv] σb R':=by
  intro R' σb Kb Lb o cs ts tv t hob hlo hox hv hl hr k1 k2
  refine zaA hv (by omega) Lb (by omega) ?_
  cases hq:zV ts.reverse s with
  | error e =>
   rw[hq]at hr
   exact fun σ1 K=>k2 e σ1 (hr σ1 (Kb.trans K))
  | ok s1 =>
   rw[hq]at hr
   exact fun σ1 K L'=>k1 σ1 s1 (by have:=zbm hq;omega) K L' ((K.obj o hlo hox).trans hob) fun σ2 K2 L2=>hr σ2 (Kb.trans (K.trans K2)) L2
 have tg:∀{R':Out→AS→Prop} (ts:List Int) (tv:AV) (t:Int),zaM tv ts→ts.length≤2^30→zpx R x c deep σ (zfl (zV ts.reverse s) t) →
   (∀σ1 s1,s1.stack.length≤2^39→zam x σa σ1→LS σ1 x c s1 deep→σ1.objs σ.no=some [.int .i64 w.op,.int .i64 w.ty,.int .i64 w.n,.int .i64 w.body,.int .i64 w.other,.str w.name]→(∀σ2,zam x σ1 σ2→LS σ2 x c (zeD s1 t) deep→R (.ret (.tuple [])) σ2)→R' (.ret (.tuple [])) σ1) →
   (∀e σ1,R (.panic (zgX e)) σ1→R' (.panic (zgX e)) σ1)→zzQ G 193 [.ptr x 0,tv] σa R':=fun ts tv t hv hl hr k1 k2=>tgB Ka La σ.no _ ts tv t hwo hwl hxw hv hl hr k1 k2
 by_cases h4:w.op=4
 ·rw[if_pos h4]at h
  have hsig:w.name.length≤5:=by
   refine zeI _ fun q=>?_
   simp[zbu,h4,q]at hf
  simp[h4,hwo]
  refine tg [w.ty,w.ty] _ _ (.inr ⟨_,rfl⟩) (by simp) h (fun σ1 s1 hb1 K1 L1 hw1 fin1=>?_) (fun e σ1 hh=>by simp;exact hh)
  simp[hw1]
  refine⟨by omega,by omega,zg0 V ?_ ?_⟩
  ·decide
  have hcmp:Lib.contains [32,101,113,32,110,101,32,108,116,95,115,32,108,101,95,115,32,103,116,95,115,32,103,101,95,115,32] (32::(w.name++[32]))=zED w.name:=rfl
  simp[hcmp]
  cases hq:zED w.name with
  | true =>
   rw[hq]at fin1
   simp[hw1]
   refine zR L1 (by omega) fun σ2 K2 L2=>?_
   simp
   exact fin1 σ2 K2 L2
  | false =>
   rw[hq]at fin1
   simp[hw1]
   refine zR L1 (by omega) fun σ2 K2 L2=>?_
   simp
   exact fin1 σ2 K2 L2
 rw[if_neg h4]at h
 by_cases h5:w.op=5
 ·rw[if_pos h5]at h
  simp[h5,hwo]
  refine tg [w.ty] _ _ (.inr ⟨_,rfl⟩) (by simp) h (fun σ1 s1 hb1 K1 L1 hw1 fin1=>?_) (fun e σ1 hh=>by simp;exact hh)
  simp[hw1]
  refine zR L1 (by omega) fun σ2 K2 L2=>?_
  simp
  exact fin1 σ2 K2 L2
 rw[if_neg h5]at h
 by_cases h6:w.op=6
 ·rw[if_pos h6]at h
  simp[h6,hwo]
  refine tg [2] _ _ (.inr ⟨_,rfl⟩) (by simp) h (fun σ1 s1 hb1 K1 L1 hw1 fin1=>?_) (fun e σ1 hh=>by simp;exact hh)
  simp[hw1]
  refine zR L1 (by omega) fun σ2 K2 L2=>?_
  simp
  exact fin1 σ2 K2 L2
 rw[if_neg h6]at h
 by_cases h7:w.op=7
 ·rw[if_pos h7]at h
  simp[h7,hwo]
  refine tg [1] _ _ (.inr ⟨_,rfl⟩) (by simp) h (fun σ1 s1 hb1 K1 L1 hw1 fin1=>?_) (fun e σ1 hh=>by simp;exact hh)
  simp[hw1]
  refine zR L1 (by omega) fun σ2 K2 L2=>?_
  simp
  exact fin1 σ2 K2 L2
 rw[if_neg h7]at h
 by_cases h8:w.op=8
 ·rw[if_pos h8]at h
  simp[h8,hwo]
  refine tg [1] _ _ (.inr ⟨_,rfl⟩) (by simp) h (fun σ1 s1 hb1 K1 L1 hw1 fin1=>?_) (fun e σ1 hh=>by simp;exact hh)
  simp[hw1]
  refine zR L1 (by omega) fun σ2 K2 L2=>?_
  simp
  exact fin1 σ2 K2 L2
 rw[if_neg h8]at h
 by_cases h9:w.op=9
 ·rw[if_pos h9]at h
  simp[h9,hwo]
  refine zaA (ts:=[1,w.ty]) (.inr ⟨_,rfl⟩) (by simp) La (by omega) ?_
  have e:[1,w.ty].reverse=[w.ty,1]:=rfl
  rw[e]
  revert h
  cases zV [w.ty,1] s with
  | ok s'=>intro h σ' K L;simp;exact h σ' (Ka.trans K) L
  | error e=>intro h σ' K;simp;exact h σ' (Ka.trans K)
 rw[if_neg h9]at h
 by_cases h10:w.op=10
 ·rw[if_pos h10]at h
  have hh:(ze5 m.funcs w.n).isSome=true:=by simpa [zcc,h1,h2,h3,h10]using hr
  obtain⟨⟨ts,g⟩,hq⟩:=yay.1 hh
  rw[hq]at h
  simp only at h
  have htl:ts.length≤2^30:=by
   unfold ze5 at hq
   split at hq
   ·cases hq;simp
   ·split at hq
    ·cases hq;simp
    ·split at hq
     ·cases hq;simp
     ·split at hq
      ·cases hq
      ·obtain⟨fn,hfn,e⟩:=ybB.1 hq
       cases e
       exact hps _ (ycw hfn)
  have hcw:c≠σa.no:=by omega
  have hxw':x≠σa.no:=by omega
  simp[h10,hwo,ho,hco]
  constructor
  ·refine zbG (m:=m) ⟨_,rfl,hfs⟩ hn fun v σ1 hv A1=>?_
   rw[hq]at hv
   obtain⟨y,rfl,hy⟩:=hv
   have y1:=hy.one
   simp[splice,y1]
   have A2:zf σa ((σ1.newO [.nilsl,.int .i64 0]).setO σ1.no [y,.int .i64 g]):=A1.newO.setO A1.no
   have Lb:=La.adds A2
   refine tgB (Ka.trans (A2.keepL hx)) Lb σ1.no [y,.int .i64 g] ts y g (by simp) (by simp) (by have:=A1.no;omega) hy htl h (fun σ3 s1 hb1 K1 L1 hw1 fin1=>?_) (fun e σ1 hh=>by simp;exact hh)
   simp[hw1]
   refine zR L1 (by omega) fun σ2 K2 L2=>?_
   simp
   exact fin1 σ2 K2 L2
  ·have hx2:x≠σ.no:=fun q=>hxw q.symm
   simp[ho,hco,hcw,hxw',hwo,show σ.no≠σa.no from by omega]
   refine zbG (m:=m) ⟨_,rfl,hfs⟩ hn fun v σ1 hv A1=>?_
   rw[hq]at hv
   obtain⟨y,rfl,hy⟩:=hv
   have y1:=hy.one
   have hnew:σ1.objs σa.no=some [.nilsl,.int .i64 0]:=(A1.obj σa.no (by simp)).trans (by simp)
   simp[splice,y1,hnew]
   have hle:σa.no+1≤σ1.no:=by have:=A1.no;simpa using this
   have A2:zf σa (σ1.setO σa.no [y,.int .i64 g]):=(((zf.refl σa).newO).trans A1).setO (yah _)
   have Lb:=La.adds A2
   refine tgB (Ka.trans (A2.keepL hx)) Lb σa.no [y,.int .i64 g] ts y g (by simp) (by simp;omega) (fun q=>hxw' q.symm) hy htl h (fun σ3 s1 hb1 K1 L1 hw1 fin1=>?_) (fun e σ1 hh=>by simp;exact hh)
   simp[hw1]
   refine zR L1 (by omega) fun σ2 K2 L2=>?_
   simp
   exact fin1 σ2 K2 L2
 rw[if_neg h10]at h
 by_cases h18:w.op=18
 ·rw[if_pos h18]at h
  simp[h18,hwo]
  refine zeH La (by omega) ?_
  revert h
  cases zd5 s with
  | ok s'=>intro h σ' K L;simp;exact h σ' (Ka.trans K) L
  | error e=>intro h σ' K;simp;exact h σ' (Ka.trans K)
 rw[if_neg h18]at h
 simp[h1,h2,h3,h4,h5,h6,h7,h8,h9,h10,h18,hwo]
 exact h σa Ka La
end
def zDa(R:Out→AS→Prop)(σ:AS):Res Unit→Prop
 | .ok _=>∀σ',zf σ σ'→R (.ret (.tuple [])) σ'
 | .error e=>∀σ',zf σ σ'→R (.panic (zgX e)) σ'
def zsP(G:Env)(m:M)(f:F)(ls:List Int)(B:Int)(lk:zpw):Prop:=∀(c:Nat) (σ:AS) (at_ deep:Int) (R:Out→AS→Prop),zl5 σ c m f ls→0≤at_→at_<B→0≤deep→deep+at_≤2^40→zDa R σ (lk at_ deep)→zzQ G 109 [.ptr c 0,.int .i64 at_,.int .i64 deep] σ R
section
variable {G : Env} {σ : AS} {R : Out → AS → Prop} {x c : Nat} {s : St} {deep : Int} {m : M} {f : F} {ls : List Int} {w : W} {lk : zpw} {B : Int}
theorem ziG(V:zk5 G)(IH:zsP G m f ls B lk)(L:LS σ x c s deep)(C:zl5 σ c m f ls)(hcx:c≠x)(hb:s.stack.length≤2^38)(hd0:0≤deep)(hd1:deep≤2^40)(hn:w.n≤2^63-1)(hps:∀g∈m.funcs,g.params.length≤2^30)
  (hnm:∀n∈zt w,0≤n∧n<B∧deep+1+n≤2^40) (h:zpx R x c deep σ (zcl m.funcs ls f.type deep lk w s)):zzQ G 161 [.ptr x 0,w.av] σ R:=by
 refine zqI rfl ?_
 have A:zf σ (σ.newO w.cs):=(zf.refl σ).newO
 have La:=L.adds A
 have Ca:=C.adds A
 have Ka:=A.keepL L.1
 have hwo:(σ.newO w.cs).objs σ.no=some [.int .i64 w.op,.int .i64 w.ty,.int .i64 w.n,.int .i64 w.body,.int .i64 w.other,.str w.name]:=by simp[W.cs]
 have hwl:σ.no<(σ.newO w.cs).no:=by simp
 have hxw:σ.no≠x:=by have:=L.1;omega
 have hcs:w.cs=[.int .i64 w.op,.int .i64 w.ty,.int .i64 w.n,.int .i64 w.body,.int .i64 w.other,.str w.name]:=rfl
 simp[zxL,W.av,hcs]
 rw[show σ.newO [ycn yam w.op,ycn yam w.ty,ycn yam w.n,ycn yam w.body,ycn yam w.other,ycp w.name]=σ.newO w.cs from rfl]
 rw[show ycx [ycn yam w.op,ycn yam w.ty,ycn yam w.n,ycn yam w.body,ycn yam w.other,ycp w.name]=w.av from rfl]
 generalize σ.newO w.cs=σa at *
 unfold zcl at h
 refine zm0 V fun σ1 A1=>?_
 cases hf:zbu w with
 | false =>
  rw[if_pos hf]at h
  simp
  refine zd (fun q=>by simp at q) fun _=>?_
  simp
  exact h _ (Ka.trans (A1.keepL La.1))
 | true =>
 rw[if_neg (by rw[hf];simp)]at h
 have hw1:=(A1.obj σ.no hwl).trans hwo
 simp
 refine zd (fun _=>?_) (fun q=>by simp at q)
 simp[hw1]
 rw[show ycx [ycn yam w.op,ycn yam w.ty,ycn yam w.n,ycn yam w.body,ycn yam w.other,ycp w.name]=w.av from rfl]
 refine zgZ (La.adds A1) (Ca.adds A1) hn fun σ2 A2=>?_
 have A12:=A1.trans A2
 cases hr:zcc m.funcs ls deep w with
 | false =>
  rw[if_pos hr]at h
  simp
  refine zd (fun q=>by simp at q) fun _=>?_
  simp
  exact h _ (Ka.trans (A12.keepL La.1))
 | true =>
 rw[if_neg (by rw[hr];simp)]at h
 have hw2:=(A2.obj σ.no (yag hwl A1.no)).trans hw1
 have L2:=La.adds A12
 have C2:=Ca.adds A12
 have K2:=Ka.trans (A12.keepL La.1)
 have hwl2:σ.no<σ2.no:=yag hwl A12.no
 simp
 refine zd (fun _=>?_) (fun q=>by simp at q)
 simp[hw2]
 clear A1 A2 hw1 hwo A12 Ka La Ca
 have keepW:∀{σ3},zam x σ2 σ3→σ3.objs σ.no=some [.int .i64 w.op,.int .i64 w.ty,.int .i64 w.n,.int .i64 w.body,.int .i64 w.other,.str w.name]:=fun K=>(K.obj σ.no hwl2 hxw).trans hw2
 have L2':=L2
 have C2':=C2
 obtain⟨hc2,fsv,pv,lv,tv,lsv,hco,_⟩:=C2'
 obtain⟨hx2,sv,ho,_⟩:=L2'
 have hwd:yb4 .i64 (deep+1)=deep+1:=by rw[wrap_i64]<;>omega
 by_cases h11:w.op=11∨w.op=12
 ·rw[if_pos h11]at h
  have hnn:zt w=[w.body]:=by unfold zt;rw[if_pos (by omega)]
  rw[hnn]at hnm
  have hb0:=hnm w.body (by simp)
  have go:zDa (zsw (fun v σ'=>R (.ret (.tuple [])) σ') fun v σ'=>R (.panic v) σ') σ2 (lk w.body (deep+1)):=by
   cases hq:lk w.body (deep+1)with
   | ok u=>rw[hq]at h;intro σ3 A3;simp;exact h σ3 (K2.trans (A3.keepL hx2)) (L2.adds A3)
   | error e=>rw[hq]at h;intro σ3 A3;simp;exact h σ3 (K2.trans (A3.keepL hx2))
  rcases h11 with h11|h11
  ·simp[h11,hw2,ho,hco,hwd]
   refine IH c σ2 w.body (deep+1) _ C2 hb0.1 hb0.2.1 (by omega) hb0.2.2 ?_
   revert go
   cases lk w.body (deep+1)with
   | ok u=>intro go σ3 A3;have:=go σ3 A3;simpa using this
   | error e=>intro go σ3 A3;have:=go σ3 A3;simpa using this
  ·simp[h11,hw2,ho,hco,hwd]
   refine IH c σ2 w.body (deep+1) _ C2 hb0.1 hb0.2.1 (by omega) hb0.2.2 ?_
   revert go
   cases lk w.body (deep+1)with
   | ok u=>intro go σ3 A3;have:=go σ3 A3;simpa using this
   | error e=>intro go σ3 A3;have:=go σ3 A3;simpa using this
 rw[if_neg h11]at h
 have h11a:¬w.op=11:=fun q=>h11 (.inl q)
 have h11b:¬w.op=12:=fun q=>h11 (.inr q)
 by_cases h13:w.op=13
 ·rw[if_pos h13]at h
  simp[h13,hw2]
  refine zaA (ts:=[1]) (.inr ⟨_,rfl⟩) (by simp) L2 (by omega) ?_
  rw[show [(1:Int)].reverse=[1] from rfl]
  cases ht:zV [1] s with
  | error e =>
   rw[ht]at h
   intro σ3 K3
   simp
   exact h σ3 (K2.trans K3)
  | ok s1 =>
   rw[ht]at h
   simp only at h
   intro σ3 K3 L3
   have C3:=C2.keep K3 hcx
   have hw3:=keepW K3
   have hwl3:σ.no<σ3.no:=yag hwl2 K3.no
   have C3':=C3
   have L3':=L3
   obtain⟨hc3,fsv3,pv3,lv3,tv3,lsv3,hco3,_⟩:=C3'
   obtain⟨hx3,sv3,ho3,_⟩:=L3'
   have hb0:0≤w.body∧w.body<B∧deep+1+w.body≤2^40:=hnm w.body (by
    unfold zt
    by_cases ho:w.other<0
    ·rw[if_pos (by omega)];simp
    ·rw[if_neg (by omega),if_pos h13];simp)
   simp[hw3,ho3,hco3,hwd]
   refine IH c σ3 w.body (deep+1) _ C3 hb0.1 hb0.2.1 (by omega) hb0.2.2 ?_
   cases hq:lk w.body (deep+1)with
   | error e =>
    rw[hq]at h
    intro σ4 A4
    simp
    exact h σ4 (K2.trans (K3.trans (A4.keepL hx3)))
   | ok u =>
    rw[hq]at h
    simp only at h
    intro σ4 A4
    have hw4:=(A4.obj σ.no hwl3).trans hw3
    have ho4:=(A4.obj x hx3).trans ho3
    have hco4:=(A4.obj c hc3).trans hco3
    have L4:=L3.adds A4
    have C4:=C3.adds A4
    by_cases ho:0≤w.other
    ·rw[if_pos ho]at h
     have hb1:0≤w.other∧w.other<B∧deep+1+w.other≤2^40:=hnm w.other (by unfold zt;rw[if_neg (by omega),if_pos h13];simp)
     simp[hw4,ho,ho4,hco4,hwd]
     refine IH c σ4 w.other (deep+1) _ C4 hb1.1 hb1.2.1 (by omega) hb1.2.2 ?_
     cases hq2:lk w.other (deep+1)with
     | error e =>
      rw[hq2]at h
      intro σ5 A5
      simp
      exact h σ5 (K2.trans (K3.trans ((A4.trans A5).keepL hx3)))
     | ok u =>
      rw[hq2]at h
      intro σ5 A5
      simp
      exact h σ5 (K2.trans (K3.trans ((A4.trans A5).keepL hx3))) (L4.adds A5)
    ·rw[if_neg ho]at h
     simp[hw4,ho]
     exact h σ4 (K2.trans (K3.trans (A4.keepL hx3))) L4
 rw[if_neg h13]at h
 by_cases h15:w.op=15
 ·rw[if_pos h15]at h
  simp[h15,hw2]
  refine zaA (ts:=[1]) (.inr ⟨_,rfl⟩) (by simp) L2 (by omega) ?_
  rw[show [(1:Int)].reverse=[1] from rfl]
  cases ht:zV [1] s with
  | error e =>
   rw[ht]at h
   intro σ3 K3
   simp
   exact h σ3 (K2.trans K3)
  | ok s1 =>
   rw[ht]at h
   simp only at h
   intro σ3 K3 L3
   have hs1:=zbm ht
   have C3:=C2.keep K3 hcx
   have hw3:=keepW K3
   have L3':=L3
   obtain⟨hx3,sv3,ho3,_⟩:=L3'
   by_cases hq:w.n=deep
   ·rw[if_pos hq]at h
    simp[hw3,ho3,hq]
    refine zcd L3 C3 (by omega) ?_
    cases hq2:zD f.type s1 with
    | error e =>
     rw[hq2]at h
     intro σ4 K4
     simp
     exact h σ4 (K2.trans (K3.trans K4))
    | ok s2 =>
     rw[hq2]at h
     intro σ4 K4 L4
     have hs2:s2.stack.length≤s1.stack.length:=by
      unfold zD at hq2
      split at hq2
      ·cases hq2;exact yah _
      ·exact zbm hq2
     have C4:=C3.keep K4 hcx
     have C4':=C4
     have L4':=L4
     obtain⟨hc4,fsv4,pv4,lv4,tv4,lsv4,hco4,_⟩:=C4'
     obtain⟨hx4,sv4,ho4,_⟩:=L4'
     simp[ho4,hco4]
     refine zR L4 (by omega) fun σ5 K5 L5=>?_
     simp
     exact h σ5 (K2.trans (K3.trans (K4.trans K5))) L5
   ·rw[if_neg hq]at h
    simp[hw3,ho3,hq]
    exact h σ3 (K2.trans K3) L3
 rw[if_neg h15]at h
 have ret:∀{R':Out→AS→Prop},zpx R' x c deep σ2 (zD f.type s)→zzQ G 162 [.ptr x 0] σ2 R':=fun hh=>zcd L2 C2 (by omega) hh
 by_cases h14:w.op=14
 ·rw[if_pos h14]at h
  by_cases hq:w.n=deep
  ·rw[if_pos hq]at h
   simp[h14,hw2,ho,hq]
   refine ret ?_
   cases hq2:zD f.type s with
   | error e =>
    rw[hq2]at h
    intro σ4 K4
    simp
    exact h σ4 (K2.trans K4)
   | ok s2 =>
    rw[hq2]at h
    intro σ4 K4 L4
    simp
    refine zbl L4 fun σ5 K5 L5=>?_
    simp
    exact h σ5 (K2.trans (K4.trans K5)) L5
  ·rw[if_neg hq]at h
   simp[h14,hw2,ho,hq]
   refine zbl L2 fun σ5 K5 L5=>?_
   simp
   exact h σ5 (K2.trans K5) L5
 rw[if_neg h14]at h
 by_cases h16:w.op=16
 ·rw[if_pos h16]at h
  simp[h16,hw2]
  refine ret ?_
  cases hq2:zD f.type s with
  | error e =>
   rw[hq2]at h
   intro σ4 K4
   simp
   exact h σ4 (K2.trans K4)
  | ok s2 =>
   rw[hq2]at h
   intro σ4 K4 L4
   simp
   refine zbl L4 fun σ5 K5 L5=>?_
   simp
   exact h σ5 (K2.trans (K4.trans K5)) L5
 rw[if_neg h16]at h
 by_cases h17:w.op=17
 ·rw[if_pos h17]at h
  simp[h17,hw2]
  refine zbl L2 fun σ5 K5 L5=>?_
  simp
  exact h σ5 (K2.trans K5) L5
 rw[if_neg h17]at h
 simp[h11a,h11b,h13,h15,h14,h16,h17,hw2]
 rw[show ycx [ycn yam w.op,ycn yam w.ty,ycn yam w.n,ycn yam w.body,ycn yam w.other,ycp w.name]=w.av from rfl]
 refine zk7 V L2 C2 hcx (by omega) hn hps hf hr ?_
 revert h
 cases ze6 m.funcs ls w s with
 | ok s'=>intro h σ3 K3 L3;simp;exact h σ3 (K2.trans K3) L3
 | error e=>intro h σ3 K3;simp;exact h σ3 (K2.trans K3)
end
theorem ziH(s:St)(t:Int):(zeD s t).stack.length≤s.stack.length+1:=by unfold zeD;split<;>simp
theorem zrn{ts:List Int}{s s':St}{t:Int}(h:zfl (zV ts s) t=.ok s'):s'.stack.length≤s.stack.length+1:=by
 obtain⟨s1,e,rfl⟩:∃s1,zV ts s=.ok s1∧s'=zeD s1 t:=by
  cases hq:zV ts s with
  | error e=>rw[hq]at h;cases h
  | ok s1=>rw[hq]at h;cases h;exact⟨s1,rfl,rfl⟩
 have:=zbm e
 have:=ziH s1 t
 omega
theorem zon{fs:List F}{ls:List Int}{w:W}{s s':St}(h:ze6 fs ls w s=.ok s'):s'.stack.length≤s.stack.length+1:=by
 unfold ze6 at h
 repeat' split at h
 all_goals first
  | (cases h;first|exact ziH _ _|omega)
  | exact zrn h
  | (have:=zbm h;omega)
  | (have:=zfF h;omega)
theorem zk8{ty:Int}{s s':St}(h:zD ty s=.ok s'):s'.stack.length≤s.stack.length:=by
 unfold zD at h
 split at h
 ·cases h;exact yah _
 ·exact zbm h
theorem zoo{fs:List F}{ls:List Int}{ty deep:Int}{lk:zpw}{w:W}{s s':St}(h:zcl fs ls ty deep lk w s=.ok s'):s'.stack.length≤s.stack.length+1:=by
 unfold zcl at h
 by_cases h1:zbu w=false
 ·rw[if_pos h1]at h;cases h
 rw[if_neg h1]at h
 by_cases h2:zcc fs ls deep w=false
 ·rw[if_pos h2]at h;cases h
 rw[if_neg h2]at h
 by_cases h3:w.op=11∨w.op=12
 ·rw[if_pos h3]at h
  split at h
  ·cases h;omega
  ·cases h
 rw[if_neg h3]at h
 by_cases h4:w.op=13
 ·rw[if_pos h4]at h
  split at h
  ·cases h
  ·rename_i s1 hs1
   have:=zbm hs1
   split at h
   ·cases h
   ·split at h
    ·split at h
     ·cases h
     ·cases h;omega
    ·cases h;omega
 rw[if_neg h4]at h
 by_cases h5:w.op=15
 ·rw[if_pos h5]at h
  split at h
  ·cases h
  ·rename_i s1 hs1
   have:=zbm hs1
   split at h
   ·cases hq:zD ty s1 with
    | error e=>rw[hq]at h;cases h
    | ok s2 =>
     rw[hq]at h
     cases h
     have:=zk8 hq
     have:=ziH s2 ty
     omega
   ·cases h;omega
 rw[if_neg h5]at h
 have hl:zkX.stack.length=0:=rfl
 by_cases h6:w.op=14
 ·rw[if_pos h6]at h
  split at h
  ·split at h
   ·cases h
   ·cases h;omega
  ·cases h;omega
 rw[if_neg h6]at h
 by_cases h7:w.op=16
 ·rw[if_pos h7]at h
  split at h
  ·cases h
  ·cases h;omega
 rw[if_neg h7]at h
 by_cases h8:w.op=17
 ·rw[if_pos h8]at h;cases h;omega
 rw[if_neg h8]at h
 exact zon h
structure zop(m:M):Prop where
 funcs:m.funcs.length≤2^20
 params:∀f∈m.funcs,f.params.length≤2^20
 locals:∀f∈m.funcs,f.locals.length≤2^20
 lists:∀f∈m.funcs,f.lists.length≤2^20
 rows:∀f∈m.funcs,∀l∈f.lists,l.length≤2^20
 nums:∀f∈m.funcs,∀l∈f.lists,∀w∈l,w.n≤2^63-1
theorem zam.made{x:Nat}{σ σ':AS}{cs:List AV}(K:zam x (σ.newO cs) σ')(hx:x=σ.no)(hn:∀v f,cs[1]?=some v→zbU v≠some f):zf σ σ' where
 no:=yai (by simp) K.no
 nf:=by have:=K.nf;simpa using this
 obj o ho:=by
  rw[K.obj o (by simp;omega) (by omega)]
  simp;omega
 fam f hf:=by
  rw[K.fam f (by simpa using hf) ?_]
  ·rfl
  ·rintro ⟨cs',v,h1,h2,h3⟩
   subst hx
   simp at h1
   subst h1
   exact hn v f h2 h3
def KI(x c:Nat)(deep:Int)(rv:AV)(row:List W)(σ1:AS)(run:List W→St→Res St)(a:Nat→AV)(τ:AS):Prop:=∃(i:Nat) (s:St),i≤row.length∧a 2=.int .i64 deep∧a 6=.ptr x 0∧a 20=rv∧a 21=.int .i64 (row.length:Int)∧a 22=.int .i64 (i:Int)∧LS τ x c s deep∧zam x σ1 τ∧s.stack.length≤i ∧
 run (row.drop i) s=run row ⟨[],false⟩
theorem zoq{G:Env}(V:zk5 G){m:M}(sm:zop m){f:F}(hfm:f∈m.funcs)(ha:zk1 f.lists)(ls:List Int):∀k:Nat,zsP G m f ls (min (k:Int) (f.lists.length:Int)) (zcO m.funcs ls f.type f.lists k)
 | 0=>fun c σ at_ deep R _ h0 h1=>by omega
 | k+1=>by
  have IH:=zoq V sm hfm ha ls k
  intro c σ at_ deep R C h0 h1 hd0 hd1 h
  refine zqg rfl ?_
  rw[zcO]at h
  obtain⟨j,rfl⟩:∃j:Nat,at_=(j:Int):=⟨at_.toNat,by omega⟩
  have hj:j<f.lists.length:=by omega
  have hjk:j<k+1:=by omega
  rw[ybe]at h
  have hrow:f.lists.getD j []=f.lists[j]:=by rw[yce,yau hj];rfl
  rw[hrow]at h
  have hahead:=ha j _ (yau hj)
  have hrl:=sm.rows f hfm f.lists[j] (yaw hj)
  have hnums:=sm.nums f hfm f.lists[j] (yaw hj)
  have C0:=C
  obtain⟨hc,fsv,pv,lv,tv,lsv,hco,hfs,hpv,hlv,htv,hls⟩:=C
  rcases htv with ⟨e,_⟩|⟨b,rows,rfl,hrows⟩
  ·rw[e]at hj;simp at hj
  obtain⟨rv,hrv,hrep⟩:=hrows.get (yau hj)
  generalize f.lists[j]=row at *
  have hlen:=hrep.len
  have hcx:c≠σ.no:=by omega
  simp[zxs,hco,hcx,hrv,hlen,splice]
  refine⟨hrep.one.2.2,?_⟩
  generalize hσ1:σ.newO [yct c 0,ycq,AV.bool false,ycn yam deep]=σ1
  have hno1:σ1.no=σ.no+1:=by rw[←hσ1];simp
  have ho1:σ1.objs σ.no=some [.ptr c 0,.nilsl,.bool false,.int .i64 deep]:=by rw[←hσ1];simp
  have L1:LS σ1 σ.no c ⟨[],false⟩ deep:=⟨by omega,_,ho1,.inl ⟨rfl,rfl⟩⟩
  have A1:zf σ σ1:=by rw[←hσ1];exact(zf.refl σ).newO
  have C1:=C0.adds A1
  have made:∀{σ'},zam σ.no σ1 σ'→zf σ σ':=fun K=>by
   rw[←hσ1]at K
   exact K.made rfl fun v f hv hf=>by simp at hv;subst hv;simp[zbU]at hf
  refine zI (KI σ.no c deep rv row σ1 (zbK m.funcs ls f.type deep (zcO m.funcs ls f.type f.lists k))) (MU 22 (row.length+1)) ⟨0,⟨[],false⟩,by omega,by simp,by simp,by simp,by simp,by simp,L1,.refl _ _,by simp,by simp⟩ fun a τ hI=>?_
  obtain⟨i,s,hi,a2,a6,a20,a21,a22,L,K,hsl,hrun⟩:=hI
  have C2:=C1.keep K hcx
  by_cases hlt:i<row.length
  ·obtain⟨b2,hix2⟩:=hrep.at hlt
   have hlt':(i:Int)<(row.length:Int):=by omega
   rw[ycs hlt,zbK]at hrun
   simp[zd1,a6,a20,a21,a22,hlt,hix2,W.av,W.cs,splice]
   have hw3:yb4 .i64 ((i:Int)+1)=((i+1:Nat):Int):=by rw[wrap_i64]<;>omega
   have hmem:=yaw hlt
   have A3:zf τ ((τ.newO [ycn yam 0,ycn yam 0,ycn yam 0,ycn yam 0,ycn yam 0,ycp []]).setO τ.no row[i].cs):=((zf.refl τ).newO).setO (yah _)
   refine ziG (w:=row[i]) V IH (L.adds A3) (C2.adds A3) hcx (by omega) hd0 (by omega) (hnums _ hmem) (fun g hg=>by have:=sm.params g hg;omega) (fun n hn=>?_) ?_
   ·have:=hahead n (ycy.2 ⟨_,hmem,hn⟩)
    exact⟨this.1,by omega,by omega⟩
   ·have KA:=K.trans (A3.keepL L.1)
    cases hq:zcl m.funcs ls f.type deep (zcO m.funcs ls f.type f.lists k) row[i] s with
    | error e =>
     rw[hq]at hrun
     simp only at hrun
     rw[←hrun]at h
     intro σ' K'
     simp
     exact h σ' (made (KA.trans K'))
    | ok s' =>
     rw[hq]at hrun
     simp only at hrun
     have hle:=zoo hq
     intro σ' K' L'
     simp[a22,hw3]
     refine⟨⟨i+1,s',by omega,by simp[a2],by simp[a6],by simp[a20],by simp[a21],by simp,L',KA.trans K',by omega,hrun⟩,?_⟩
     simp only[MU,a22]
     simp;omega
  ·have he:i=row.length:=by omega
   subst he
   simp[zbK]at hrun
   rw[←hrun]at h
   simp only at h
   have L':=L
   obtain⟨hx,sv,ho,hs⟩:=L'
   unfold zEE at h
   by_cases hdz:deep=0
   ·rw[if_pos hdz]at h
    simp[zd1,zfy,a2,a6,a21,a22,hdz]
    refine zcd (by rw[hdz]at L;exact L) C2 (by omega) ?_
    cases hq:zD f.type s with
    | error e =>
     rw[hq]at h
     intro σ' K'
     simp
     exact h σ' (made (K.trans K'))
    | ok s3 =>
     rw[hq]at h
     intro σ' K' L3
     obtain⟨hx3,sv3,ho3,hs3⟩:=L3
     have hsl3:=hs3.len
     by_cases hz:s3.stack.length=0
     ·simp only[if_pos hz]at h
      have hz':s3.stack=[]:=ybS.1 hz
      simp[a6,ho3,hsl3,hz']
      refine zd (fun _=>?_) (fun q=>by simp at q)
      simp
      exact h σ' (made (K.trans K'))
     ·simp only[if_neg hz]at h
      have hz':¬s3.stack=[]:=fun q=>hz (by rw[q];rfl)
      simp[a6,ho3,hsl3,hz']
      refine zd (fun q=>by simp at q) (fun _=>?_)
      simp
      exact h σ' (made (K.trans K'))
   ·rw[if_neg hdz]at h
    have hsl3:=hs.len
    by_cases hz:s.stack.length=0
    ·simp only[if_pos hz]at h
     have hz':s.stack=[]:=ybS.1 hz
     simp[zd1,zfy,a2,a6,a21,a22,hdz,ho,hsl3,hz']
     refine zd (fun _=>?_) (fun q=>by simp at q)
     simp
     exact h τ (made K)
    ·simp only[if_neg hz]at h
     have hz':¬s.stack=[]:=fun q=>hz (by rw[q];rfl)
     simp[zd1,zfy,a2,a6,a21,a22,hdz,ho,hsl3,hz']
     refine zd (fun q=>by simp at q) (fun _=>?_)
     simp
     exact h τ (made K)
theorem zk9{G:Env}{σ:AS}{R:Out→AS→Prop}{w:W}(h:∀v σ',zaM v (zt w)→zf σ σ'→R (.ret v) σ'):zzQ G 159 [w.av] σ R:=by
 refine zqG rfl ?_
 have A:zf σ (σ.newO w.cs):=(zf.refl σ).newO
 simp only[W.cs]at A
 unfold zt at h
 by_cases h1:w.op=11
 ·rw[if_pos (.inl h1)]at h
  simp[zmR,W.av,W.cs,h1]
  exact h _ _ (.inr ⟨_,rfl⟩) (by simpa [h1]using A)
 by_cases h2:w.op=12
 ·rw[if_pos (.inr (.inl h2))]at h
  simp[zmR,W.av,W.cs,h2]
  exact h _ _ (.inr ⟨_,rfl⟩) (by simpa [h2]using A)
 by_cases h3:w.op=13
 ·by_cases ho:w.other<0
  ·rw[if_pos (.inr (.inr ⟨h3,ho⟩))]at h
   simp[zmR,W.av,W.cs,h3,ho]
   exact h _ _ (.inr ⟨_,rfl⟩) (by simpa [h3]using A)
  ·rw[if_neg (by omega),if_pos h3]at h
   simp[zmR,W.av,W.cs,h3,ho]
   exact h _ _ (.inr ⟨_,rfl⟩) (by simpa [h3]using A)
 ·rw[if_neg (by omega),if_neg h3]at h
  simp[zmR,W.av,W.cs,h1,h2,h3]
  exact h _ _ (.inl ⟨rfl,rfl⟩) A
@[simp] theorem zAA(x y:Bool):aeq yb9 4 (.bool x) (.bool y)=some (x==y):=by simp[aeq,zhH,show yb9.underlying 4=some .bool from by kernel_rfl]
@[simp] theorem zwf:za yb9 106=true:=by kernel_rfl
def zaj(l:List Bool):List AV:=l.map AV.bool
def CI(σ:AS)(o len:Nat)(named:List Bool)(a:Nat→AV)(τ:AS):Prop:=∃i:Nat,i≤len∧a 0=.slm o 0 1 len∧a 1=.bool false∧a 7=.int .i64 (len:Int)∧a 8=.int .i64 (i:Int)∧τ=σ∧∀j,j<i→named[j]?=some true
theorem zg1{G:Env}{σ:AS}{R:Out→AS→Prop}{o len:Nat}{named:List Bool}(ho:σ.objs o=some (zaj named))(hl:len≤named.length)(hb:len≤2^40)(h:R (.ret (.bool (!(named.take len).all (·==true)))) σ):zzQ G 160 [.slm o 0 1 len,.bool false] σ R:=by
 refine zqH rfl ?_
 simp[zxK]
 refine zqW rfl ?_
 simp[zxV]
 refine zI (CI σ o len named) (MU 8 (len+1)) ⟨0,by omega,by simp,by simp,by simp,by simp,rfl,fun j hj=>by omega⟩ fun a τ hI=>?_
 obtain⟨i,hi,a0,a1,a7,a8,rfl,hall⟩:=hI
 have hw3:yb4 .i64 ((i:Int)+1)=((i+1:Nat):Int):=by rw[wrap_i64]<;>omega
 by_cases hlt:i<len
 ·have hlt':(i:Int)<(len:Int):=by omega
  have hin:i<named.length:=by omega
  have hget:(zaj named)[i]?=some (.bool named[i]):=by simp[zaj,hin]
  have hge:∀q:i<(zaj named).length,(zaj named)[i]'q=.bool named[i]:=fun q=>by rw[yau q]at hget;exact yaR.inj hget
  have hlb:i<(zaj named).length:=by simp[zaj];exact hin
  cases hv:named[i]with
  | true =>
   rw[hv]at hget hge
   simp[zfC,a0,a1,a7,a8,hlt,ho,hlb,hge,hw3]
   refine⟨⟨i+1,by omega,by simp[a0],by simp[a1],by simp[a7],by simp,rfl,fun j hj=>?_⟩,?_⟩
   ·by_cases e:j=i
    ·subst e;rw[yau hin,hv]
    ·exact hall j (by omega)
   ·simp only[MU,a8];simp;omega
  | false =>
   rw[hv]at hget hge
   have e:(!(named.take len).all (·==true))=true:=by
    rw[Bool.not_eq_true',ycz]
    exact⟨false,ycA.2 ⟨i,by rw[ybf];omega,by rw[yaE];exact hv⟩,by simp⟩
   rw[e]at h
   simp[zfC,a0,a1,a7,a8,hlt,ho,hlb,hge]
   exact h
 ·have he:i=len:=by omega
  subst he
  have e:(!(named.take i).all (·==true))=false:=by
   rw[Bool.not_eq_false',yaM]
   intro b hb
   obtain⟨j,hj,rfl⟩:=ycA.1 hb
   rw[ybf]at hj
   have:=hall j (by omega)
   rw[yau (by omega)]at this
   rw[yaE]
   simp[yaR.inj this]
  rw[e]at h
  simp[zfC,zlX,a7,a8]
  exact h
def FI(σ:AS)(v:AV)(ls:List Int)(a:Nat→AV)(τ:AS):Prop:=∃i:Nat,i≤ls.length∧a 0=v∧a 1=.fn (.func 106) [] []∧a 7=.int .i64 (ls.length:Int)∧a 8=.int .i64 (i:Int)∧τ=σ∧∀j,j<i→∃t,ls[j]?=some t∧zad t=true
theorem zea{G:Env}{σ:AS}{R:Out→AS→Prop}{v:AV}{ls:List Int}(hv:zaM v ls)(hb:ls.length≤2^40)(h:R (.ret (.bool (!ls.all zad))) σ):zzQ G 95 [v,.fn (.func 106) [] []] σ R:=by
 refine zui rfl ?_
 simp[zFC]
 refine zqD rfl ?_
 simp[zxI,hv.len]
 refine zI (FI σ v ls) (MU 8 (ls.length+1)) ⟨0,by omega,by simp,by simp,by simp,by simp,rfl,fun j hj=>by omega⟩ fun a τ hI=>?_
 obtain⟨i,hi,a0,a1,a7,a8,rfl,hall⟩:=hI
 have hw3:yb4 .i64 ((i:Int)+1)=((i+1:Nat):Int):=by rw[wrap_i64]<;>omega
 by_cases hlt:i<ls.length
 ·rcases hv with ⟨rfl,_⟩|⟨b,rfl⟩
  ·simp at hlt
  simp[zir,a0,a1,a7,a8,hlt]
  refine zqc rfl ?_
  simp[zxr]
  refine zaZ ?_
  cases hn:zad ls[i]with
  | true =>
   simp[a8,hw3]
   refine⟨⟨i+1,by omega,by simp[a0],by simp[a1],by simp[a7],by simp,rfl,fun j hj=>?_⟩,?_⟩
   ·by_cases e:j=i
    ·subst e;exact⟨_,yau hlt,hn⟩
    ·exact hall j (by omega)
   ·simp only[MU,a8];simp;omega
  | false =>
   have e:(!ls.all zad)=true:=by
    rw[Bool.not_eq_true',ycz]
    exact⟨_,yaw hlt,by simp[hn]⟩
   rw[e]at h
   simp[a8]
   exact h
 ·have he:i=ls.length:=by omega
  subst he
  have e:(!ls.all zad)=false:=by
   rw[Bool.not_eq_false',yaM]
   intro t ht
   obtain⟨j,hj,rfl⟩:=ycA.1 ht
   obtain⟨t,h1,h2⟩:=hall j hj
   rw[yau hj]at h1
   cases h1
   exact h2
  rw[e]at h
  simp[zir,zlN,a7,a8]
  exact h
theorem zjT{G:Env}{σ:AS}{R:Out→AS→Prop}{pv lv:AV}{p l:List Int}(hp:zaM pv p)(hl:zaM lv l)(hb:p.length+l.length≤2^30)(h:∀v σ',zaM v (p++l)→zf σ σ'→R (.ret v) σ'):zzQ G 105 [.sl (.stat true) 1 [pv,lv]] σ R:=by
 refine zd9 (zqb rfl ?_)
 have p1:=hp.one
 have l1:=hl.one
 have hpl:=hp.len
 have hll:=hl.len
 have w1:yb4 .i64 (p.length:Int)=(p.length:Int):=by rw[wrap_i64]<;>omega
 have w2:yb4 .i64 ((p.length:Int)+(l.length:Int))=(p.length:Int)+(l.length:Int):=by rw[wrap_i64]<;>omega
 have w3:yb4 .i64 1=1:=rfl
 have w4:yb4 .i64 2=2:=rfl
 have n1:¬(p.length:Int)<0:=by omega
 have n2:¬(p.length:Int)+(l.length:Int)<0:=by omega
 simp[zxq]
 refine zcJ 3 ?_
 simp[zlE,p1,l1,hpl,hll,w1,w2,w3,w4,n1,n2,zfx,zlF]
 have hgrow:∀{R':Out→AS→Prop},(p.length+l.length=0→R' (.ret .nilsl) σ)→(0<p.length+l.length→R' (.ret (.sl (.fam σ.nf false) 1 [])) σ.newF)→zzQ G 158 [.nilsl,.int .i64 ((p.length:Int)+(l.length:Int))] σ R':=by
  intro R' g0 g1
  refine zqF rfl ?_
  have w5:yb4 .i64 0=0:=rfl
  by_cases hz:p.length+l.length=0
  ·have hz':¬(0:Int)<(p.length:Int)+(l.length:Int):=by omega
   simp[zum,n2,w5,w2,hz']
   exact g0 hz
  ·have hz':(0:Int)<(p.length:Int)+(l.length:Int):=by omega
   obtain⟨n,hn⟩:∃n,((p.length:Int)+(l.length:Int)).toNat=n+1:=⟨((p.length:Int)+(l.length:Int)).toNat-1,by omega⟩
   simp[zum,n2,w5,w2,hz',hn,ycB,zbM,za9]
   exact⟨by omega,by omega,by omega,by omega,g1 (by omega)⟩
 refine hgrow (fun hz=>?_) (fun hz=>?_)
 ·have e1:p=[]:=ybS.1 (by omega)
  have e2:l=[]:=ybS.1 (by omega)
  subst e1 e2
  have:=h .nilsl σ (.inl ⟨rfl,rfl⟩) (.refl _)
  have sta:∀K:AV→AS→Prop,∀v,zaM v []→zcw yb9 44 44 .nilsl v σ K=K .nilsl σ:=by
   intro K v hv
   rcases hv with ⟨_,rfl⟩|⟨b,rfl⟩<;>simp
  simp
  refine zcJ 3 ?_
  rcases hp with ⟨_,rfl⟩|⟨b,rfl⟩<;>rcases hl with ⟨_,rfl⟩|⟨b',rfl⟩<;>simp[zig,zfx,w3,w4]<;>exact .inl this
 ·simp
  refine zcJ 3 ?_
  have fin:∀σ',zf σ σ'→∀g,σ.nf≤g→σ'.F g=.alive→zrj R (.ret (.sl (.fam g false) 1 ((p++l).map (.int .i64)))) σ':=by
   intro σ' A' g hg ha
   refine .froze g (fun _=>false) ha ?_
   have:=h (.sl (.stat false) 1 ((p++l).map (.int .i64))) (σ'.frz g fun _=>false) (.inr ⟨_,rfl⟩) (A'.frz hg fun _ _=>rfl)
   simpa [Function.comp_def]using this
  have A3:zf σ ((σ.newF.setF σ.nf FSt.dead).newF.setF (σ.nf+1) FSt.dead).newF:=((((zf.refl σ).newF.setF (yah _)).newF).setF (by omega)).newF
  have key:=fin _ A3 (σ.nf+1+1) (by omega) (by simp)
  rcases hp with ⟨rfl,rfl⟩|⟨b,rfl⟩<;>rcases hl with ⟨rfl,rfl⟩|⟨b',rfl⟩<;>simp[zig,zfx,w3,w4]
  ·simp at hz
  ·exact⟨by simp at hb;omega,by simpa using key⟩
  ·exact⟨by simp at hb;omega,by simpa using key⟩
  ·exact⟨by omega,by omega,by simpa using key⟩
structure NS(σ1:AS)(o:Nat)(named:List Bool)(L:Nat)(τ:AS):Prop where
 obj:τ.objs o=some (zaj named)
 len:named.length=L
 no:σ1.no≤τ.no
 nf:σ1.nf≤τ.nf
 oth:∀p,p<σ1.no→p≠o→τ.objs p=σ1.objs p
 fam:∀f,f<σ1.nf→τ.F f=σ1.F f
theorem NS.adds{σ1 o named L τ τ'}(h:NS σ1 o named L τ)(ho:o<σ1.no)(A:zf τ τ'):NS σ1 o named L τ' where
 obj:=(A.obj o (yag ho h.no)).trans h.obj
 len:=h.len
 no:=yai h.no A.no
 nf:=yai h.nf A.nf
 oth p hp hne:=(A.obj p (yag hp h.no)).trans (h.oth p hp hne)
 fam f hf:=(A.fam f (yag hf h.nf)).trans (h.fam f hf)
theorem NS.set{σ1 o named named' L τ}(h:NS σ1 o named L τ)(hl:named'.length=L):NS σ1 o named' L (τ.setO o (zaj named')) where
 obj:=by simp
 len:=hl
 no:=h.no
 nf:=h.nf
 oth p hp hne:=by simp[hne];exact h.oth p hp hne
 fam f hf:=h.fam f hf
def zeb{α β:Type}(r:Res α)(k:α→Res β):Res β:=match r with
 | .error e=>.error e
 | .ok a=>k a
theorem zla(a n:Int)(ns:List Int)(named:List Bool):zaq a (n::ns) named=zeb (zdj a named n) fun m=>zaq a ns m:=by
 rw[zaq];unfold zeb;cases zdj a named n<;>rfl
theorem zor(a:Int)(w:W)(ws:List W)(named:List Bool):zgJ a (w::ws) named=zeb (zaq a (zt w) named) fun m=>zgJ a ws m:=by
 rw[zgJ];unfold zeb;cases zaq a (zt w) named<;>rfl
theorem zm1(k:Nat)(l:List W)(ls:To)(named:List Bool):za7 k (l::ls) named=zeb (zgJ (k:Int) l named) fun m=>za7 (k+1) ls m:=by
 rw[za7];unfold zeb;cases zgJ (k:Int) l named<;>rfl
def NI3(σ1:AS)(o L:Nat)(tv:AV)(ls:To)(goal:Res (List Bool))(a:Nat→AV)(τ:AS):Prop:=∃(i:Nat) (named:List Bool),i≤ls.length∧a 2=.slm o 0 1 L∧a 28=tv∧a 29=.int .i64 (ls.length:Int)∧a 30=.int .i64 (i:Int)∧NS σ1 o named L τ∧za7 i (ls.drop i) named=goal
def NI2(σ1:AS)(o L:Nat)(tv:AV)(ls:To)(k:Nat)(rv:AV)(row:List W)(goal:Res (List Bool))(a:Nat→AV)(τ:AS):Prop:=∃(j:Nat) (named:List Bool),j≤row.length∧a 2=.slm o 0 1 L∧a 28=tv∧a 29=.int .i64 (ls.length:Int)∧a 30=.int .i64 (k:Int)∧a 3=.int .i64 (k:Int)∧a 35=rv∧a 36=.int .i64 (row.length:Int)∧a 37=.int .i64 (j:Int)∧NS σ1 o named L τ ∧
 zeb (zgJ (k:Int) (row.drop j) named) (fun n=>za7 (k+1) (ls.drop (k+1)) n)=goal
def NI1(σ1:AS)(o L:Nat)(tv:AV)(ls:To)(k:Nat)(rv:AV)(row:List W)(j:Nat)(nv:AV)(ns:List Int)(goal:Res (List Bool))(a:Nat→AV)(τ:AS):Prop:=∃(q:Nat) (named:List Bool),q≤ns.length∧a 2=.slm o 0 1 L∧a 28=tv∧a 29=.int .i64 (ls.length:Int)∧a 30=.int .i64 (k:Int)∧a 3=.int .i64 (k:Int)∧a 35=rv∧a 36=.int .i64 (row.length:Int)∧a 37=.int .i64 (j:Int) ∧
 a 42=nv∧a 43=.int .i64 (ns.length:Int)∧a 44=.int .i64 (q:Int)∧NS σ1 o named L τ ∧
 zeb (zeb (zaq (k:Int) (ns.drop q) named) fun n=>zgJ (k:Int) (row.drop (j+1)) n) (fun n=>za7 (k+1) (ls.drop (k+1)) n)=goal
theorem zlb{named:List Bool}{n:Nat}(h:n<named.length)(b:Bool):splice (zaj named) n [.bool b]=zaj (named.set n b):=by
 unfold splice zaj
 rw[List.set_eq_take_append_cons_drop,if_pos h]
 simp
theorem zjU{G:Env}(V:zk5 G){σ:AS}{R:Out→AS→Prop}{c:Nat}{m:M}{f:F}{ls0:List Int}(C:zl5 σ c m f ls0)(hb:f.lists.length≤2^20)(hrows:∀l∈f.lists,l.length≤2^20)(h:zDa R σ (zbS f.lists)):zzQ G 108 [.ptr c 0] σ R:=by
 refine zqf rfl ?_
 obtain⟨hc,fsv,pv,lv,tv,lsv,hco,hfs,hpv,hlv,htv,hls⟩:=C
 have hlen:=htv.len
 unfold zbS at h
 by_cases hz:f.lists.length=0
 ·rw[if_pos hz]at h
  have hz':f.lists=[]:=ybS.1 hz
  simp[zuj,hco,hlen,hz']
  refine zd (fun q=>by simp at q) (fun _=>?_)
  simp
  exact h σ (.refl _)
 ·rw[if_neg hz]at h
  have hz':¬f.lists=[]:=fun q=>hz (by rw[q];rfl)
  have hpos:0<f.lists.length:=by omega
  simp[zuj,hco,hlen,hz',hpos]
  refine zd (fun _=>?_) (fun q=>by simp at q)
  simp[hco,hlen]
  have hto:((f.lists.length:Int)).toNat=f.lists.length:=by omega
  generalize hgoal:za7 0 f.lists (yaj f.lists.length false)=goal at h
  refine⟨1,1,.bool false,by simp,by simp,by simp,rfl,rfl,rfl,by omega,by omega,by omega,?_⟩
  have hflat:zy (yaj f.lists.length (AV.bool false))=zaj (yaj f.lists.length false):=by
   unfold zy zaj
   induction f.lists.length with
   | zero=>rfl
   | succ n ih=>rw[ycB,ycB,yaa,yaL,ih];rfl
  have hcn:c≠σ.no:=by omega
  simp[hflat,hcn,hco,hlen]
  generalize hσ1:σ.newO (zaj (yaj f.lists.length false))=σ1
  have hno1:σ1.no=σ.no+1:=by rw[←hσ1];simp
  have A1:zf σ σ1:=by rw[←hσ1];exact(zf.refl σ).newO
  have N1:NS σ1 σ.no (yaj f.lists.length false) f.lists.length σ1:=⟨by rw[←hσ1];simp,by simp,yah _,yah _,fun _ _ _=>rfl,fun _ _=>rfl⟩
  have toA:∀{named τ},NS σ1 σ.no named f.lists.length τ→zf σ τ:=fun N=>⟨by have:=N.no;omega,yai A1.nf N.nf,fun o ho=>(N.oth o (by omega) (by omega)).trans (A1.obj o ho),fun g hg=>(N.fam g (yag hg A1.nf)).trans (A1.fam g hg)⟩
  refine zI (NI3 σ1 σ.no f.lists.length tv f.lists goal) (MU 30 (f.lists.length+1)) ⟨0,_,by omega,by simp,by simp,by simp,by simp,N1,by simpa using hgoal⟩ fun a τ hI=>?_
  obtain⟨i,named0,hi,a2,a28,a29,a30,N0,hg0⟩:=hI
  by_cases hlt:i<f.lists.length
  ·obtain⟨b,rv,hrep,hix⟩:=htv.at hlt
   have hrl:=hrows _ (yaw hlt)
   rw[ycs hlt,zm1]at hg0
   generalize f.lists[i]=row at *
   have hrlen:=hrep.len
   have hr1:=hrep.one
   have hlt':(i:Int)<(f.lists.length:Int):=by omega
   simp[zii,a2,a28,a29,a30,hlt,hix,hr1,hrlen]
   refine zI (NI2 σ1 σ.no f.lists.length tv f.lists i rv row goal) (MU 37 (row.length+1)) ⟨0,named0,by omega,by simp[a2],by simp[a28],by simp[a29],by simp[a30],by simp,by simp,by simp,by simp,N0,by simpa using hg0⟩ fun b ρ hI=>?_
   obtain⟨j,named1,hj,b2,b28,b29,b30,b3,b35,b36,b37,N2,hg1⟩:=hI
   by_cases hjl:j<row.length
   ·obtain⟨q2,hix2⟩:=hrep.at hjl
    rw[ycs hjl,zor]at hg1
    simp[zih,b35,b36,b37,hjl,hix2,W.av,W.cs,splice]
    rw[show ycx [ycn yam row[j].op,ycn yam row[j].ty,ycn yam row[j].n,ycn yam row[j].body,ycn yam row[j].other,ycp row[j].name]=row[j].av from rfl]
    refine zk9 fun nv σ3 hnv A3=>?_
    have A3':zf ρ σ3:=(((zf.refl ρ).newO).setO (yah _)).trans A3
    have N3:=N2.adds (by omega) A3'
    have hnl:=hnv.len
    simp[hnl]
    refine zI (NI1 σ1 σ.no f.lists.length tv f.lists i rv row j nv (zt row[j]) goal) (MU 44 ((zt row[j]).length+1)) ⟨0,named1,by omega,by simp[b2],by simp[b28],by simp[b29],by simp[b30],by simp[b3],by simp[b35],by simp[b36],by simp[b37],by simp,by simp,by simp,N3,by simpa using hg1⟩ fun d π hI=>?_
    obtain⟨q,named,hq,d2,d28,d29,d30,d3,d35,d36,d37,d42,d43,d44,N,hg⟩:=hI
    have ho:=N.obj
    have hnlen:=N.len
    have hbl:(zaj named).length=f.lists.length:=by simp[zaj,hnlen]
    by_cases hql:q<(zt row[j]).length
    ·obtain⟨q3,hix3⟩:=hnv.at hql
     rw[ycs hql,zla]at hg
     have hw3:yb4 .i64 ((q:Int)+1)=((q+1:Nat):Int):=by
      have:(zt row[j]).length≤2:=by unfold zt;split<;>(try split)<;>simp
      rw[wrap_i64]<;>omega
     generalize hn:(zt row[j])[q]=n at *
     by_cases hok:0≤n∧n<(i:Int)
     ·have hnl2:n.toNat<f.lists.length:=by omega
      have hnn:n.toNat<named.length:=by omega
      have hget:(zaj named)[n.toNat]?=some (.bool named[n.toNat]):=by simp[zaj,hnn]
      have hge:∀p:n.toNat<(zaj named).length,(zaj named)[n.toNat]'p=.bool named[n.toNat]:=fun p=>by rw[yau p]at hget;exact yaR.inj hget
      have hlb:n.toNat<(zaj named).length:=by omega
      have hgd:named.getD n.toNat true=named[n.toNat]:=by rw[yce,yau hnn];rfl
      have hnL:n<(f.lists.length:Int):=by omega
      cases hv:named[n.toNat]with
      | true =>
       have hE:zdj (i:Int) named n=.error 11:=by unfold zdj;rw[if_neg (by rw[hgd,hv];simp)]
       rw[hE]at hg
       simp[zeb]at hg
       rw[←hg]at h
       rw[hv]at hget hge
       simp[zc7,d2,d3,d42,d43,d44,hql,hix3,hok.1,hok.2,ho,hlb,hge,hnL]
       refine zd (fun q=>by simp at q) (fun _=>?_)
       simp
       exact h _ (toA N)
      | false =>
       have hE:zdj (i:Int) named n=.ok (named.set n.toNat true):=by unfold zdj;rw[if_pos ⟨hok.1,hok.2,by rw[hgd,hv]⟩]
       rw[hE]at hg
       simp only[zeb]at hg
       rw[hv]at hget hge
       simp[zc7,d2,d3,d42,d43,d44,hql,hix3,hok.1,hok.2,ho,hlb,hge,hnL]
       refine zd (fun _=>?_) (fun q=>by simp at q)
       simp[d2,d44,hok.1,hnL,ho,hlb,hw3]
       rw[zlb hnn]
       refine⟨hlb,⟨q+1,named.set n.toNat true,by omega,by simp[d2],by simp[d28],by simp[d29],by simp[d30],by simp[d3],by simp[d35],by simp[d36],by simp[d37],by simp[d42],by simp[d43],by simp,N.set (by simp[hnlen]),hg⟩,?_⟩
       simp only[MU,d44];simp;omega
     ·have hE:zdj (i:Int) named n=.error 11:=by unfold zdj;rw[if_neg (fun q=>hok ⟨q.1,q.2.1⟩)]
      rw[hE]at hg
      simp[zeb]at hg
      rw[←hg]at h
      by_cases h0:0≤n
      ·have h1:¬n<(i:Int):=fun q=>hok ⟨h0,q⟩
       simp[zc7,d2,d3,d42,d43,d44,hql,hix3,h0,h1]
       refine zd (fun q=>by simp at q) (fun _=>?_)
       simp
       exact h _ (toA N)
      ·simp[zc7,d2,d3,d42,d43,d44,hql,hix3,h0]
       refine zd (fun q=>by simp at q) (fun _=>?_)
       simp
       exact h _ (toA N)
    ·have he:q=(zt row[j]).length:=by omega
     subst he
     have hnil:(zt row[j]).drop (zt row[j]).length=[]:=by simp
     rw[hnil]at hg
     simp only[zaq,zeb]at hg
     have hw3:yb4 .i64 ((j:Int)+1)=((j+1:Nat):Int):=by rw[wrap_i64]<;>omega
     simp[zc7,zlG,d37,d43,d44,hw3]
     refine⟨⟨j+1,named,by omega,by simp[d2],by simp[d28],by simp[d29],by simp[d30],by simp[d3],by simp[d35],by simp[d36],by simp,N,hg⟩,?_⟩
     simp only[MU,b37];simp;omega
   ·have he:j=row.length:=by omega
    subst he
    have hnil:row.drop row.length=[]:=by simp
    rw[hnil]at hg1
    simp only[zgJ,zeb]at hg1
    have hw3:yb4 .i64 ((i:Int)+1)=((i+1:Nat):Int):=by rw[wrap_i64]<;>omega
    simp[zih,zlH,b30,b36,b37,hw3]
    refine⟨⟨i+1,named1,by omega,by simp[b2],by simp[b28],by simp[b29],by simp,N2,hg1⟩,?_⟩
    simp only[MU,a30];simp;omega
  ·have he:i=f.lists.length:=by omega
   subst he
   have hnil:f.lists.drop f.lists.length=[]:=by simp
   rw[hnil]at hg0
   simp only[za7]at hg0
   rw[←hg0]at h
   simp only at h
   have hw3:yb4 .i64 ((f.lists.length:Int)-1)=((f.lists.length-1:Nat):Int):=by rw[wrap_i64]<;>omega
   simp[zii,zlI,a2,a29,a30,hw3]
   refine zg1 N0.obj (by rw[N0.len];omega) (by omega) ?_
   cases hq:(named0.take (f.lists.length-1)).all (·==true)with
   | true =>
    rw[if_pos hq]at h
    simp
    refine zd (fun _=>?_) (fun q=>by simp at q)
    simp
    exact h _ (toA N0)
   | false =>
    rw[if_neg (by rw[hq];simp)]at h
    simp
    refine zd (fun q=>by simp at q) (fun _=>?_)
    simp
    exact h _ (toA N0)
theorem zfo{G:Env}(V:zk5 G){m:M}(sm:zop m){f:F}(hfm:f∈m.funcs){σ0 σ:AS}{R:Out→AS→Prop}{c:Nat}(A0:zf σ0 σ)(hc0:σ0.no≤c)(C:zl5 σ c m f [])(h:zDa R σ0 (zC m.funcs f)):zzQ G 54 [.ptr c 0] σ R:=by
 refine zt0 rfl ?_
 have C0:=C
 obtain⟨hc,fsv,pv,lv,tv,lsv,hco,hfs,hpv,hlv,htv,hls⟩:=C
 have p1:=hpv.one
 have l1:=hlv.one
 have hpb:=sm.params f hfm
 have hlb:=sm.locals f hfm
 simp[zFq,hco,p1,l1]
 refine zjT hpv hlv (by omega) fun v σ1 hv A1=>?_
 have v1:=hv.one
 have hco1:=(A1.obj c hc).trans hco
 simp[hco1,v1,splice]
 generalize hσ2:σ1.setO c [fsv,ycn yam m.memory,ycn yam m.main,ycp f.name,pv,lv,ycn yam f.type,tv,v]=σ2
 have hc1:c<σ1.no:=yag hc A1.no
 have hco2:σ2.objs c=some [fsv,.int .i64 m.memory,.int .i64 m.main,.str f.name,pv,lv,.int .i64 f.type,tv,v]:=by rw[←hσ2];simp
 have A2:zf σ0 σ2:=by rw[←hσ2];exact(A0.trans A1).setO hc0
 have C2:zl5 σ2 c m f (f.params++f.locals):=⟨by rw[←hσ2];simpa using hc1,_,_,_,_,_,hco2,hfs,hpv,hlv,htv,hv⟩
 unfold zC at h
 have hll:=sm.lists f hfm
 refine zea hv (by simp;omega) ?_
 have fail:((f.params++f.locals).all zad&&decide (0≤f.type)&&decide (f.type≤2))=false→∀σ',zf σ0 σ'→R (.panic (zgX 6)) σ':=fun q=>by
  rw[if_pos q]at h;exact h
 cases hn:(f.params++f.locals).all zad with
 | false =>
  simp
  refine zd (fun q=>by simp at q) (fun _=>?_)
  simp
  exact fail (by rw[hn];rfl) _ A2
 | true =>
 by_cases k0:0≤f.type
 ·by_cases k2:f.type≤2
  ·rw[if_neg (by rw[hn];simp[k0,k2])]at h
   simp[hco2,k0,k2]
   refine zd (fun _=>?_) (fun q=>by simp at q)
   simp
   refine zjU V C2 hll (fun l hl=>sm.rows f hfm l hl) ?_
   cases hq:zbS f.lists with
   | error e =>
    rw[hq]at h
    intro σ3 A3
    simp
    exact h σ3 (A2.trans A3)
   | ok u =>
    rw[hq]at h
    simp only at h
    intro σ3 A3
    have C3:=C2.adds A3
    have C3':=C3
    obtain⟨hc3,fsv3,pv3,lv3,tv3,lsv3,hco3,_,_,_,htv3,_⟩:=C3'
    obtain⟨hpos,hah,_⟩:=zd8 hq
    have hlen3:=htv3.len
    have hw3:yb4 .i64 ((f.lists.length:Int)-1)=(f.lists.length:Int)-1:=by rw[wrap_i64]<;>omega
    simp[hco3,hlen3,hw3]
    refine zoq V sm hfm hah (f.params++f.locals) f.lists.length c σ3 ((f.lists.length:Int)-1) 0 _ C3 (by omega) (by omega) (by omega) (by omega) ?_
    revert h
    cases zcO m.funcs (f.params++f.locals) f.type f.lists f.lists.length ((f.lists.length:Int)-1) 0 with
    | ok u=>intro h σ4 A4;simp;exact h σ4 ((A2.trans A3).trans A4)
    | error e=>intro h σ4 A4;simp;exact h σ4 ((A2.trans A3).trans A4)
  ·simp[hco2,k0,k2]
   refine zd (fun q=>by simp at q) (fun _=>?_)
   simp
   exact fail (by simp[k2]) _ A2
 ·simp[hco2,k0]
  refine zd (fun q=>by simp at q) (fun _=>?_)
  simp
  exact fail (by simp[k0]) _ A2
@[simp] theorem zDb(t:Nat)(v:AV):aeq yb9 20 (.iface t v) .nilif=some false:=by simp[aeq,zhH,show yb9.underlying 20=some (.interface #[]) from by kernel_rfl]
@[simp] theorem zAB(t:Nat)(v:AV)(K:AV→Prop):zbh yb9 .neq 20 (.iface t v) .nilif K=K (.bool true):=by simp[zbh]
@[simp] theorem zGe:z7 yb9 20=some true:=by kernel_rfl
@[simp] theorem zGf(H:Option AV→(Nat→AV)→AS→Prop)(a:Nat→AV)(σ:AS):aq H .ret a σ=H none a σ:=Eq.trans rfl rfl
@[simp] theorem zDc(H:Option AV→(Nat→AV)→AS→Prop)(v:AV)(a:Nat→AV)(σ:AS):aq H (.panic v) a σ=H (some v) a σ:=Eq.trans rfl rfl
def MI(σ1:AS)(mb eb:Nat)(fsv:AV)(m:M)(goal:Res Unit)(a:Nat→AV)(τ:AS):Prop:=∃i:Nat,i≤m.funcs.length∧a 1=.ptr mb 0∧a 2=.ptr eb 0∧a 16=fsv∧a 17=.int .i64 (m.funcs.length:Int)∧a 18=.int .i64 (i:Int)∧zf σ1 τ∧zP m.funcs (m.funcs.drop i)=goal
theorem zlc{G:Env}(V:zk5 G){m:M}(sm:zop m){σ:AS}{R:Out→AS→Prop}{mv:AV}(hm:MV mv m)(h:∀σ',zf σ σ'→R (.ret (.int .i64 (zmS (zbv m)))) σ'):zzQ G 18 [mv] σ R:=by
 refine zds (px:=zsH) (pz:=zlD) (k:=52) (py:=zjF) (n:=61) (nk:=8) (t:=5) (d0:=2) (d1:=1) (res:=[.cell 2 33]) zj Tryz.func18 rfl rfl rfl rfl (by kernel_rfl) (by kernel_rfl) (by simp) rfl rfl rfl rfl rfl rfl (by decide) Tryz.func52 rfl (by kernel_rfl) rfl rfl rfl rfl rfl rfl rfl rfl rfl (by kernel_rfl) (by decide) (by decide) (by decide) ?_
 obtain⟨fsv,rfl,hfs⟩:=hm
 have f1:=hfs.one
 have hfl:=hfs.len
 simp[zsH]
 have ecap:List.map (ev G (upd (upd (za1 [ycx [fsv,ycn yam m.memory,ycn yam m.main]]) 1 (yct σ.no 0)) 2 (yct (σ.no+1) 0))) #[Operand.tmp 2].toList=[.ptr (σ.no+1) 0]:=rfl
 rw[ecap]
 generalize hfr:upd (upd (upd (za1 [ycx [fsv,ycn yam m.memory,ycn yam m.main]]) 1 (yct σ.no 0)) 2 (yct (σ.no+1) 0)) 5 (AV.fn (Fn.func 52) [] [yct (σ.no+1) 0])=fr
 have fr1:fr 1=.ptr σ.no 0:=by rw[←hfr];simp
 have fr2:fr 2=.ptr (σ.no+1) 0:=by rw[←hfr];simp
 have hno1:((σ.newO [fsv,ycn yam m.memory,ycn yam m.main]).newO [ycn yam 0]).no=σ.no+2:=by simp
 have A1:zf σ ((σ.newO [fsv,ycn yam m.memory,ycn yam m.main]).newO [ycn yam 0]):=(zf.refl σ).newO.newO
 have hm1:((σ.newO [fsv,ycn yam m.memory,ycn yam m.main]).newO [ycn yam 0]).objs σ.no=some [fsv,.int .i64 m.memory,.int .i64 m.main]:=by simp
 have he1:((σ.newO [fsv,ycn yam m.memory,ycn yam m.main]).newO [ycn yam 0]).objs (σ.no+1)=some [.int .i64 0]:=by simp
 generalize (σ.newO [fsv,ycn yam m.memory,ycn yam m.main]).newO [ycn yam 0]=σ1 at *
 -- what is recovered
 have hand:∀(e:Int) (a:Nat→AV) (τ:AS),a 2=.ptr (σ.no+1) 0→zf σ1 τ→(∀σ',zf σ σ'→R (.ret (.int .i64 e)) σ')→zaV yb9 G 8 zjF 2 1 [.ptr (σ.no+1) 0] [.cell 2 33] R (some (zgX e)) a τ:=by
  intro e a τ a2 A hh
  have he:=(A.obj (σ.no+1) (by omega)).trans he1
  simp[zaV,zjF,zgX,he,splice,a2]
  exact hh _ ((A1.trans A).setO (by omega))
 have done:∀(a:Nat→AV) (τ:AS),a 2=.ptr (σ.no+1) 0→zf σ1 τ→(∀σ',zf σ σ'→R (.ret (.int .i64 0)) σ')→zaV yb9 G 8 zjF 2 1 [.ptr (σ.no+1) 0] [.cell 2 33] R none a (τ.setO (σ.no+1) [.int .i64 0]):=by
  intro a τ a2 A hh
  simp[zaV,zjF,splice,a2]
  exact hh _ ((A1.trans A).setO (by omega))
 unfold zbv at h
 by_cases k0:0≤m.memory
 ·by_cases k1:m.memory≤4096
  ·rw[if_neg (by simp[k0,k1])]at h
   simp[zlD,fr1,hm1,k0,k1]
   refine zd (fun _=>?_) (fun q=>by simp at q)
   simp[fr1,hm1,f1,hfl]
   generalize hgoal:zP m.funcs m.funcs=goal at h
   refine zI (MI σ1 σ.no (σ.no+1) fsv m goal) (MU 18 (m.funcs.length+1)) ⟨0,by omega,by simp[fr1],by simp[fr2],by simp,by simp,by simp,.refl _,by simpa using hgoal⟩ fun a τ hI=>?_
   obtain⟨i,hi,a1,a2,a16,a17,a18,A,hg⟩:=hI
   have hm2:=(A.obj σ.no (by omega)).trans hm1
   have he2:=(A.obj (σ.no+1) (by omega)).trans he1
   by_cases hlt:i<m.funcs.length
   ·obtain⟨b,fv,hfv,hix⟩:=hfs.at hlt
    have hmem:=yaw hlt
    rw[ycs hlt,zP]at hg
    generalize m.funcs[i]=f at *
    obtain⟨pv,lv,tv,rfl,hp,hl,ht⟩:=hfv
    have p1:=hp.one
    have l1:=hl.one
    have t1:=ht.one
    have hmn:σ.no≠τ.no:=by have:=A.no;omega
    simp[zbt,a1,a16,a17,a18,hlt,hix,p1,l1,t1,f1,splice,hm2,hmn]
    have A3:zf τ (((τ.newO [ycp [],ycq,ycq,ycn yam 0,ycq]).setO τ.no [ycp f.name,pv,lv,ycn yam f.type,tv]).newO [fsv,ycn yam m.memory,ycn yam m.main,ycp f.name,pv,lv,ycn yam f.type,tv,ycq]):=(((zf.refl τ).newO).setO (yah _)).newO
    refine zfo V sm hmem A3 (by omega) ⟨by simp,_,_,_,_,_,by simp,hfs,hp,hl,ht,.inl ⟨rfl,rfl⟩⟩ ?_
    have hw3:yb4 .i64 ((i:Int)+1)=((i+1:Nat):Int):=by have:=sm.funcs;rw[wrap_i64]<;>omega
    cases hq:zC m.funcs f with
    | error e =>
     rw[hq]at hg
     simp only at hg
     rw[←hg]at h
     intro σ4 A4
     simp
     exact hand e _ σ4 (by simp[zcp,a2]) (A.trans A4) h
    | ok u =>
     rw[hq]at hg
     simp only at hg
     intro σ4 A4
     simp[a18,hw3]
     refine⟨⟨i+1,by omega,by simp[a1],by simp[a2],by simp[a16],by simp[a17],by simp,A.trans A4,hg⟩,?_⟩
     simp only[MU,a18];simp;omega
   ·have he:i=m.funcs.length:=by omega
    subst he
    have hnil:m.funcs.drop m.funcs.length=[]:=by simp
    rw[hnil]at hg
    simp only[zP]at hg
    rw[←hg]at h
    simp only at h
    have good:zkY m=true→∀σ',zf σ σ'→R (.ret (.int .i64 0)) σ':=fun q=>by rw[if_pos q]at h;exact h
    have bad:zkY m=false→∀σ',zf σ σ'→R (.ret (.int .i64 12)) σ':=fun q=>by rw[if_neg (by rw[q];simp)]at h;exact h
    by_cases q0:0≤m.main
    ·by_cases q1:m.main<(m.funcs.length:Int)
     ·have hlt2:m.main.toNat<m.funcs.length:=by omega
      obtain⟨b,fv,hfv,hix⟩:=hfs.at hlt2
      have e1:((m.main.toNat:Nat):Int)=m.main:=by omega
      rw[e1]at hix
      have hfn:m.funcs[m.main.toNat]?=some m.funcs[m.main.toNat]:=yau hlt2
      have hmb:zkY m=(decide (m.funcs[m.main.toNat].type=1)&&decide (m.funcs[m.main.toNat].params.length=0)):=by
       unfold zkY;rw[hfn];simp[q0]
      generalize m.funcs[m.main.toNat]=f at *
      obtain⟨pv,lv,tv,rfl,hp,hl,ht⟩:=hfv
      have hpl:=hp.len
      have p1:=hp.one
      by_cases q2:f.type=1
      ·by_cases q3:f.params.length=0
       ·have q3':f.params=[]:=ybS.1 q3
        simp[zbt,zbR,a1,a2,a16,a17,a18,hm2,he2,hfl,f1,q0,q1,hix,q2,hpl,p1,q3',splice]
        refine zd (fun _=>?_) (fun q=>by simp at q)
        simp[a2,he2,splice]
        exact done _ τ (by simp[a2]) A (good (by rw[hmb];simp[q2,q3']))
       ·have q3':¬f.params=[]:=fun q=>q3 (by rw[q];rfl)
        simp[zbt,zbR,a1,a2,a16,a17,a18,hm2,he2,hfl,f1,q0,q1,hix,q2,hpl,p1,q3',splice]
        refine zd (fun q=>by simp at q) (fun _=>?_)
        simp
        exact hand 12 _ τ (by simp[zcp,a2]) A (bad (by rw[hmb];simp[q3']))
      ·simp[zbt,zbR,a1,a2,a16,a17,a18,hm2,he2,hfl,f1,q0,q1,hix,q2,splice]
       refine zd (fun q=>by simp at q) (fun _=>?_)
       simp
       exact hand 12 _ τ (by simp[zcp,a2]) A (bad (by rw[hmb];simp[q2]))
     ·simp[zbt,zbR,a1,a2,a16,a17,a18,hm2,he2,hfl,f1,q0,q1,splice]
      refine zd (fun q=>by simp at q) (fun _=>?_)
      simp
      refine hand 12 _ τ (by simp[zcp,a2]) A (bad ?_)
      unfold zkY
      rw[yb2 (by omega)]
      simp
    ·simp[zbt,zbR,a1,a2,a16,a17,a18,hm2,he2,hfl,f1,q0,splice]
     refine zd (fun q=>by simp at q) (fun _=>?_)
     simp
     exact hand 12 _ τ (by simp[zcp,a2]) A (bad (by simp[zkY,q0]))
  ·rw[if_pos (by simp[k1])]at h
   simp[zlD,fr1,hm1,k0,k1]
   refine zd (fun q=>by simp at q) (fun _=>?_)
   simp
   exact hand 11 _ σ1 (by simp[zcp,fr2]) (.refl _) h
 ·rw[if_pos (by simp[k0])]at h
  simp[zlD,fr1,hm1,k0]
  refine zd (fun q=>by simp at q) (fun _=>?_)
  simp
  exact hand 11 _ σ1 (by simp[zcp,fr2]) (.refl _) h
mutual
def clm:AV→AV
 | .sl φ sz xs=>.sl (.stat φ.full) sz (zwg xs)
 | .agg cs=>.agg (zwg cs)
 | v=>v
def zwg:List AV→List AV
 | []=>[]
 | v::vs=>clm v::zwg vs
end
theorem zld:∀l,zwg l=l.map clm
 | []=>by simp[zwg]
 | v::l=>by simp[zwg,zld l]
@[simp] theorem zsQ(φ sz xs):clm (.sl φ sz xs)=.sl (.stat φ.full) sz (xs.map clm):=by simp[clm,zld]
@[simp] theorem zuD(cs):clm (.agg cs)=.agg (cs.map clm):=by simp[clm,zld]
@[simp] theorem zuE(k n):clm (.int k n)=.int k n:=by simp[clm]
@[simp] theorem zuF(s):clm (.str s)=.str s:=by simp[clm]
@[simp] theorem zos:clm .nilsl=.nilsl:=by simp[clm]
@[simp] theorem zro(b):clm (.bool b)=.bool b:=by simp[clm]
theorem zjV(v:AV):(clm v).cells=v.cells.map clm:=by
 cases v with
 | agg cs=>simp
 | sl φ sz xs=>simp
 | _=>simp[clm,AV.cells]
theorem ziI(l:List AV):zy (l.map clm)=(zy l).map clm:=by
 simp[zy,List.flatMap_map,List.map_flatMap,zjV]
inductive Cb(F:Nat→FSt):AV→Prop
 | bool (b:Bool):Cb F (.bool b)
 | int (k:IntKind) (n:Int):Cb F (.int k n)
 | str (s:List UInt8):Cb F (.str s)
 | nilsl:Cb F .nilsl
 | sl (φ:Abs.Own) (sz:Nat) (xs:List AV) (hr:zi F φ) (h:∀c∈zy xs,Cb F c):Cb F (.sl φ sz xs)
 | agg (cs:List AV) (h:∀c∈cs,Cb F c):Cb F (.agg cs)
end Go.Proofs.YtohfclafhegadaaGreatDoor
namespace Go.Abs
open Go Go.Abs
open Go.Proofs.YtohfclafhegadaaGreatDoor
theorem VR.clmTo{M:Mp}{F:Nat→FSt}{w:World}{v:AV}{c:Value}(h:VR M F w v c){M':Mp}{F':Nat→FSt}(hst:∀B m,M.role B=some (.st m)→M'.role B=some (.st m))(hfm:∀B f,M.role B=some (.fam f)→∃m,M'.role B=some (.st m))(hs:Cb F v):VR M' F' w (clm v) c:=by
 induction h with
 | bool b=>rw[zro];exact .bool b
 | int k n=>rw[zuE];exact .int k n
 | str s=>rw[zuF];exact .str s
 | nilsl=>rw[zos];exact .nilsl
 | slz b sz a=>rw[zsQ];exact .slz _ sz a
 | sl φ sz xs B off cap cs hcap hlit hsz hm hc hv ih =>
  cases hs with
  | sl _ _ _ hr hs =>
  rw[zsQ]
  have hl:(xs.map Go.Proofs.YtohfclafhegadaaGreatDoor.clm).length=xs.length:=by simp
  have hm':∃m,M'.role B=some (.st m):=by
   cases φ with
   | stat b =>
    obtain⟨m,hm⟩:=hm
    exact⟨m,hst B m hm⟩
   | fam f b=>exact hfm B f (hm.2 (by rw[hr];simp)).1
  have:=VR.sl (M:=M') (F:=F') (w:=w) (.stat φ.full) sz (xs.map Go.Proofs.YtohfclafhegadaaGreatDoor.clm) B off cap cs (by simpa using hcap) (fun h=>by rw[hl];exact hlit h)
   (fun x hx=>by simp at hx;obtain⟨y,hy,rfl⟩:=hx;rw[zjV,ybb];exact hsz y hy) hm' (fun _ j hj=>hc hr j (by rw[ziI]at hj;simpa using hj))
   (fun _ j hj=>by
    have hj':j<(zy xs).length:=by rw[ziI]at hj;simpa using hj
    have:=ih hr j hj' (hs _ (yaw hj'))
    simp only[ziI,List.getElem_map]
    exact this)
  rw[hl]at this
  exact this
 | agg cs A hA va ih =>
  cases hs with
  | agg _ hs=>rw[zuD];exact .agg _ _ (by simpa using hA) (fun j h h'=>by simpa using ih j (by simpa using h) h' (hs _ (yaw _)))
 | _=>cases hs
end Go.Abs
namespace Go.Proofs.YtohfclafhegadaaGreatDoor
open Go Go.Abs
end Go.Proofs.YtohfclafhegadaaGreatDoor
namespace Go.Abs
open Go Go.Abs
open Go.Proofs.YtohfclafhegadaaGreatDoor
theorem VR.clm{M:Mp}{F:Nat→FSt}{w:World}{v:AV}{c:Value}(h:VR M F w v c)(hs:Cb F v):VR (M.calm 1) AS.bare.F w (clm v) c :=
 h.clmTo (fun _ _ h=>zh6 h) (fun _ _ h=>⟨false,zc6 h (fun m q=>by cases q)⟩) hs
end Go.Abs
namespace Go.Proofs.YtohfclafhegadaaGreatDoor
open Go Go.Abs
inductive Pln:AV→Prop
 | bool (b:Bool):Pln (.bool b)
 | int (k:IntKind) (n:Int):Pln (.int k n)
 | str (s:List UInt8):Pln (.str s)
 | nilsl:Pln .nilsl
 | agg (cs:List AV) (h:∀c∈cs,Pln c):Pln (.agg cs)
 | tuple (cs:List AV) (h:∀c∈cs,Pln c):Pln (.tuple cs)
end Go.Proofs.YtohfclafhegadaaGreatDoor
namespace Go.Abs
open Go Go.Abs
open Go.Proofs.YtohfclafhegadaaGreatDoor
theorem VR.pln{M M':Mp}{F F':Nat→FSt}{w w':World}{v:AV}{c:Value}(h:VR M F w v c)(hs:Pln v):VR M' F' w' v c:=by
 induction h with
 | bool b=>exact .bool b
 | int k n=>exact .int k n
 | str s=>exact .str s
 | nilsl=>exact .nilsl
 | agg cs A hA va ih =>
  cases hs with
  | agg _ hs=>exact .agg _ _ hA (fun j h h'=>ih j h h' (hs _ (yaw _)))
 | tuple cs A hA va ih =>
  cases hs with
  | tuple _ hs=>exact .tuple _ _ hA (fun j h h'=>ih j h h' (hs _ (yaw _)))
 | _=>cases hs
end Go.Abs
namespace Go.Proofs.YtohfclafhegadaaGreatDoor
open Go Go.Abs
inductive StillI:AV→Prop
 | undef:StillI .undef
 | int (k:IntKind) (n:Int):StillI (.int k n)
 | str (s:List UInt8):StillI (.str s)
 | pv (b:Bool) (v:AV) (h:∀c∈v.cells,StillI c):StillI (.pv (.stat b) v)
 | iface (t:TypeId) (v:AV) (h:StillI v):StillI (.iface t v)
 | mp (ks vs:List AV):StillI (.mp ks vs)
end Go.Proofs.YtohfclafhegadaaGreatDoor
namespace Go.Abs
open Go Go.Abs
open Go.Proofs.YtohfclafhegadaaGreatDoor
theorem VR.stillI{M:Mp}{F:Nat→FSt}{w:World}{v:AV}{c:Value}(h:VR M F w v c){M':Mp}{F':Nat→FSt}(hr:∀B m,M.role B=some (.st m)→M'.role B=some (.st m))(hs:StillI v):VR M' F' w v c:=by
 induction h with
 | undef c=>exact .undef c
 | int k n=>exact .int k n
 | str s=>exact .str s
 | pv φ v B off cs hm hc hv ih =>
  cases hs with
  | pv b _ hs =>
  obtain⟨m,hm⟩:=hm
  exact .pv _ v B off cs ⟨m,hr B m hm⟩ (fun _=>hc trivial) (fun _ j hj=>ih trivial j hj (hs _ (yaw hj)))
 | iface t v c h ih =>
  cases hs with
  | iface _ _ hs=>exact .iface t _ _ (ih hs)
 | mp ks vs b es c h1 h2 h3=>exact .mp ks vs b es c (hr b false h1) h2 h3
 | _=>cases hs
end Go.Abs
namespace Go.Proofs.YtohfclafhegadaaGreatDoor
open Go Go.Abs
theorem zEI{P:Program}{G:Env}{M:Mp}{σ:AS}{w:World}(g:GOk P G M σ.F w)(hG:∀k,StillI (G.g k))(hy:∀l,¬G.has l):GOk P G (M.calm 1) AS.bare.F w where
 vars k:=(g.vars k).stillI (fun _ _ h=>zh6 h) (hG k)
 yields l hl:=absurd hl (hy l)
 fixed B cs hB:=by
  obtain⟨h1,h2⟩:=g.fixed B cs hB
  exact⟨zh6 h1,h2⟩
theorem zot{P:Program}{G:Env}{f:FuncId}{σ:AS}{R:Out→AS→Prop}{vs:List AV}{Q:AV→Prop}(hG:∀k,StillI (G.g k))(hy:∀l,¬G.has l)(hv:∀v∈vs,Cb σ.F v)(h:ACalls P G f (vs.map clm) AS.bare fun o _=>∃x,o=.ret x∧Pln x∧Q x)(hR:∀x,Q x→R (.ret x) σ):ACalls P G f vs σ R:=by
 intro M w cargs S g c
 refine(h (M.calm 1) w cargs S.calm (zEI g hG hy) ⟨by rw[ybb];exact c.1,fun j v hj=>?_⟩).mono fun e w' ⟨o,σ',M',⟨x,ho,hx,hq⟩,h2,h3,h4⟩=>?_
 ·rw[List.getElem?_map,ybB]at hj
  obtain⟨v0,h1,rfl⟩:=hj
  obtain⟨c0,e0,q0⟩:=c.2 j v0 h1
  exact⟨c0,e0,q0.clm (hv v0 (ycw h1))⟩
 ·subst ho
  refine⟨_,σ,M,hR x hq,?_,S.calmed h4,Ext.calm S h4⟩
  cases e<;>simp only[zbD]at h2 ⊢
  exact h2.pln hx
theorem zEJ(w:W):clm w.av=w.av:=by simp[W.av,W.cs]
theorem zGs{F:Nat→FSt}(w:W):∀c∈w.av.cells,Cb F c:=by
 intro c hc
 simp only[W.av,W.cs,AV.cells,ybC,ycC,or_false]at hc
 rcases hc with rfl|rfl|rfl|rfl|rfl|rfl
 all_goals first|exact .int _ _|exact .str _
theorem zou{σ:AS}{v:AV}{l:List W}(h:Al.RepO σ v l):Cb σ.F v∧ziE (clm v) l:=by
 rcases h with ⟨rfl,rfl⟩|⟨φ,rfl,r⟩
 ·exact⟨.nilsl,.inl ⟨rfl,by simp⟩⟩
 ·refine⟨.sl _ _ _ r.read fun c hc=>?_,.inr ⟨φ.full,by simp[Function.comp_def,zEJ]⟩⟩
  simp only[zy,ycy,yaV]at hc
  obtain⟨x,⟨w,_,rfl⟩,hx⟩:=hc
  exact zGs w c hx
theorem zfG{σ:AS}{v:AV}{l:List Int}(h:Al.IntsO σ v l):Cb σ.F v∧zaM (clm v) l:=by
 rcases h with ⟨rfl,rfl⟩|⟨φ,rfl,r⟩
 ·exact⟨.nilsl,.inl ⟨rfl,by simp⟩⟩
 ·refine⟨.sl _ _ _ r.read fun c hc=>?_,.inr ⟨φ.full,by simp[Function.comp_def]⟩⟩
  simp only[zy,ycy,yaV]at hc
  obtain⟨x,⟨w,_,rfl⟩,hx⟩:=hc
  simp only[AV.cells,ycD]at hx
  subst hx
  exact .int _ _
theorem ziJ{α:Type}{Q Q':AV→α→Prop}{P:AV→Prop}(hq:∀v a,Q v a→P v∧Q' (clm v) a):∀{xs:List AV} {l:List α},All2 Q xs l→(∀x∈xs,P x)∧All2 Q' (xs.map clm) l
 | _,_,.nil=>⟨fun x h=>(by cases h),.nil⟩
 | _,_,.cons h hs=>by
  obtain⟨h1,h2⟩:=hq _ _ h
  obtain⟨h3,h4⟩:=ziJ hq hs
  exact⟨fun x hx=>by
   rcases ybC.1 hx with rfl|hx
   ·exact h1
   ·exact h3 x hx,.cons h2 h4⟩
theorem zov{v:AV}(h:v.cells=[v]):∀c∈v.cells,c=v:=fun c hc=>by rw[h]at hc;simpa using hc
theorem zow{σ:AS}{v:AV}{l:To}(h:Al.LstO σ v l):Cb σ.F v∧zbz (clm v) l:=by
 rcases h with ⟨rfl,rfl⟩|⟨φ,rows,rfl,r,k⟩
 ·exact⟨.nilsl,.inl ⟨rfl,by simp⟩⟩
 ·obtain⟨k1,k2⟩:=ziJ (P:=fun v=>Cb σ.F v∧v.cells=[v]) (Q':=ziE) (fun v a q=>⟨⟨(zou q).1,q.one.2.2⟩,(zou q).2⟩) k
  refine⟨.sl _ _ _ r.read fun c hc=>?_,.inr ⟨φ.full,rows.map clm,by simp,k2⟩⟩
  simp only[zy,ycy]at hc
  obtain⟨x,hx,hc⟩:=hc
  rw[zov (k1 x hx).2 c hc]
  exact(k1 x hx).1
theorem zAC{σ:AS}{v:AV}{f:F}(h:Al.FVO σ v f):(∀c∈v.cells,Cb σ.F c)∧FV (clm v) f:=by
 obtain⟨pv,lv,tv,rfl,a,b,c⟩:=h
 refine⟨fun x hx=>?_,clm pv,clm lv,clm tv,by simp,(zfG a).2,(zfG b).2,(zow c).2⟩
 simp only[AV.cells,ybC,ycC,or_false]at hx
 rcases hx with rfl|rfl|rfl|rfl|rfl
 ·exact .str _
 ·exact(zfG a).1
 ·exact(zfG b).1
 ·exact .int _ _
 ·exact(zow c).1
theorem zAD{σ:AS}{v:AV}{m:M}(h:Al.MO σ v m):Cb σ.F v∧MV (clm v) m:=by
 obtain⟨fv,rfl,h⟩:=h
 have key:Cb σ.F fv∧FsV (clm fv) m.funcs:=by
  rcases h with ⟨h,rfl⟩|⟨φ,rows,rfl,r,k⟩
  ·exact⟨.nilsl,.inl ⟨h,by simp⟩⟩
  ·obtain⟨k1,k2⟩:=ziJ (P:=fun v=>∀c∈v.cells,Cb σ.F c) (Q':=FV) (fun v a q=>zAC q) k
   refine⟨.sl _ _ _ r.read fun c hc=>?_,.inr ⟨φ.full,rows.map clm,by simp,k2⟩⟩
   simp only[zy,ycy]at hc
   obtain⟨x,hx,hc⟩:=hc
   exact k1 x hx c hc
 refine⟨.agg _ fun c hc=>?_,clm fv,by simp,key.2⟩
 simp only[ybC,ycC,or_false]at hc
 rcases hc with rfl|rfl|rfl
 ·exact key.1
 ·exact .int _ _
 ·exact .int _ _
section
variable {G : Env} {σ : AS} {R : Out → AS → Prop}
theorem zox{m:M}{mv:AV}(V:zk5 G)(hG:∀k,StillI (G.g k))(hy:∀l,¬G.has l)(hm:Al.MO σ mv m)(sm:zop m)(h:R (.ret (.int .i64 (zmS (zbv m)))) σ):zzQ G 18 [mv] σ R:=by
 obtain⟨h1,h2⟩:=zAD hm
 refine zot (vs:=[mv]) (Q:=fun x=>x=.int .i64 (zmS (zbv m))) hG hy (fun v hv=>by simp at hv;subst hv;exact h1) ?_ fun x hx=>by rw[hx];exact h
 exact zlc V sm h2 fun σ' _=>⟨_,rfl,.int _ _,rfl⟩
end
@[simp] theorem zDd(t i k r):zeR t ((i,.tmp k)::r)=false:=by simp[zeR]
@[simp] theorem zDe(t i n r):zeR t ((i,.const (.int .i64 n))::r)=false:=by simp[zeR]
@[simp] theorem zDf(t i n r):zeR t ((i,.const (.string n))::r)=false:=by simp[zeR]
theorem zrp(f:BitVec 8→BitVec 8→BitVec 8)(a b:UInt8):zb2 .u8 f (a.toNat:Int) (b.toNat:Int)=((f a.toBitVec b.toBitVec).toNat:Int):=by
 have e1:BitVec.ofInt 8 (a.toNat:Int)=a.toBitVec:=by
  apply BitVec.eq_of_toNat_eq
  simp
 have e2:BitVec.ofInt 8 (b.toNat:Int)=b.toBitVec:=by
  apply BitVec.eq_of_toNat_eq
  simp
 show yb4 .u8 ((f (BitVec.ofInt 8 (a.toNat:Int)) (BitVec.ofInt 8 (b.toNat:Int))).toNat:Int)=_
 rw[e1,e2]
 have:=(f a.toBitVec b.toBitVec).isLt
 simp[yb4,yao,yap]
 omega
@[simp] theorem zGt(bs:List UInt8):(B bs).length=bs.length:=by simp[B]
end Go.Proofs.YtohfclafhegadaaGreatDoor



namespace Go.Proofs.YtohfclafhegadaaGreatDoor
open Go Go.Abs
def zl6:List UInt8:=[97,100,100,32,115,117,98,32,109,117,108,32,100,105,118,95,115,32,114,101,109,95,115,32,97,110,100,32,111,114,32,120,111,114,32,115,104,108,32,115,104,114,95,115,32,101,113,32,110,101,32,108,116,95,115,32,103,116,95,115,32,108,101,95,115,32,103,101,95,115]
def zjW:List (List UInt8):=[[97,100,100],[115,117,98],[109,117,108],[100,105,118,95,115],[114,101,109,95,115],[97,110,100],[111,114],[120,111,114],[115,104,108],[115,104,114,95,115],[101,113],[110,101],[108,116,95,115],[103,116,95,115],[108,101,95,115],[103,101,95,115]]
def zdK(c:UInt8):Bool:=c==32||(9≤c&&c≤13)
def zdL:List AV:=(List.range 256).map fun c=>.int .u8 (if zdK (UInt8.ofNat c)then 1 else 0)
def pw(op ty n:Int):W:={ op:=op,ty:=ty,n:=n,body:=0,other:=0,name:=[] }
theorem zfH(c:UInt8):zdL[c.toNat]?=some (.int .u8 (if zdK c then 1 else 0)):=by
 have h:c.toNat<256:=c.toNat_lt
 have:∀k:Fin 256,zdL[k.1]?=some (.int .u8 (if zdK (UInt8.ofNat k.1)then 1 else 0)):=by
  intro k;simp[zdL]
 have:=this ⟨c.toNat,h⟩
 simpa using this
def fC(L:List UInt8):Nat→Nat × Bool × UInt8
 | 0=>(0,true,0)
 | i+1=>let c:=L.getD i 0;let p:=fC L i;(p.1+(if p.2.1&&!zdK c then 1 else 0),zdK c,p.2.2 ||| c)
def fS(L:List UInt8):Nat→Nat × Nat
 | 0=>(0,0)
 | i+1=>if zdK (L.getD i 0)then(i+1,(fS L i).2+1)else fS L i
theorem zrq(L:List UInt8):∀k,(fC L k).1≤k:=by
 intro k
 induction k with
 | zero=>simp[fC]
 | succ k ih=>simp only[fC];split<;>omega
def zbW(T:List (List UInt8))(k:Nat):List AV:=(T.take k).map ycp++yaj (T.length-k) (.str [])
structure zrr(L:List UInt8)(T:List (List UInt8))(e:Nat):Prop where
 len:L.length≤1000
 tl:T.length≤1000
 fact:∀i:Fin L.length,(zdK (L.getD i 0)=true→T[(fS L i).2]?=some ((L.take i).drop (fS L i).1)∧(fS L i).2<T.length∧(fS L i).1≤i∧i.1+1<L.length∧zdK (L.getD (i.1+1) 0)=false∧fS L (i.1+1)=(i.1+1,(fS L i).2+1))∧(zdK (L.getD i 0)=false→fS L (i.1+1)=fS L i)
 cnt:fC L L.length=(T.length,false,(fC L L.length).2.2)
 low:(fC L L.length).2.2.toNat<128
 head:∃c r,L=c::r∧zdK c=false
 fin:fS L L.length=(e,T.length-1)
 lt:e<L.length
 last:T[T.length-1]?=some (L.drop e)
theorem zgr{T:List (List UInt8)}{k:Nat}{b:List UInt8}(h:T[k]?=some b):splice (zbW T k) k [.str b]=zbW T (k+1):=by
 have hk:=(yaq.1 h).1
 have ht:=zcS h
 have hA:((T.take k).map ycp).length=k:=by simp;omega
 unfold splice zbW
 rw[List.take_left' hA,ht,List.map_append]
 have e:T.length-k=(T.length-(k+1))+1:=by omega
 have hd:((T.take k).map ycp++yaj (T.length-k) (ycp [])).drop (k+[ycp b].length)=yaj (T.length-(k+1)) (ycp []):=by
  rw[List.drop_append,ycE (by rw[hA];simp),hA,e]
  simp
 rw[hd]
 simp
theorem zm2{T:List (List UInt8)}(hT:T.length≤1000){σ:AS}{K:AV→AS→Prop}:zmE yb9 22 (.int .i64 (T.length:Int)) (.int .i64 (T.length:Int)) σ K=K (.slm σ.no 0 1 T.length) (σ.newO (zbW T 0)):=by
 have e1:zbq yb9 22=some 1:=by kernel_rfl
 have e2:zaR yb9 22=some 16:=by kernel_rfl
 have e3:zan yb9 22=some (.str []):=by kernel_rfl
 have e5:zy (yaj T.length (ycp []))=yaj T.length (ycp []):=by
  generalize T.length=n
  induction n with
  | zero=>rfl
  | succ n ih=>simp only[zy,ycB,yaa]at *;rw[ih];rfl
 simp[zmE,e1,e2,e3,AV.cells,AV.known,e5,zbW]
 exact⟨fun q=>q.2.2,fun q=>⟨by omega,by omega,q⟩⟩
section
variable {G : Env} {σ : AS} {R : Out → AS → Prop}
def F1(L:List UInt8)(σ:AS)(a:Nat→AV)(τ:AS):Prop:=∃i:Nat,i≤L.length∧a 0=.str L∧a 3=.int .i64 ((fC L i).1:Nat)∧a 4=.int .i64 (if(fC L i).2.1 then 1 else 0)∧a 5=.int .u8 ((fC L i).2.2.toNat:Nat)∧a 6=.int .i64 (i:Nat)∧τ=σ
def F4(L:List UInt8)(T:List (List UInt8))(σ:AS)(x:Nat)(a:Nat→AV)(τ:AS):Prop:=∃i:Nat,i≤L.length∧a 0=.str L∧a 9=.slm x 0 1 T.length∧a 10=.int .i64 ((fS L i).2:Nat)∧a 11=.int .i64 ((fS L i).1:Nat)∧a 12=.int .i64 (i:Nat)∧zf σ τ∧x<τ.no∧τ.objs x=some (zbW T (fS L i).2)
theorem zeJ{L:List UInt8}{T:List (List UInt8)}{e:Nat}(hok:zrr L T e)(v3:G.g 0=.pv (.stat true) (.agg zdL))(h:∀x σ',zf σ σ'→σ.no≤x→x<σ'.no→σ'.objs x=some (T.map ycp)→R (.ret (.slm x 0 1 T.length)) σ'):zzQ G 57 [.str L] σ R:=by
 refine zt2 rfl ?_
 have hL:=hok.len
 have hT:=hok.tl
 simp[zFr]
 refine zI (F1 L σ) (MU 6 (L.length+1)) ⟨0,by omega,by simp,by simp[fC],by simp[fC],by simp[fC],by simp,rfl⟩ fun a τ hI=>?_
 obtain⟨i,hi,a0,a3,a4,a5,a6,rfl⟩:=hI
 by_cases hlt:i<L.length
 ·have hlt':(i:Int)<(L.length:Int):=by omega
  have hg:=yau hlt
  have hf:fC L (i+1)=((fC L i).1+(if(fC L i).2.1&&!zdK L[i]then 1 else 0),zdK L[i],(fC L i).2.2 ||| L[i]):=by simp[fC,hg]
  have hn:=zrq L i
  generalize L[i]=c at *
  have hs:=zfH c
  have w1:yb4 .i64 ((i:Int)+1)=((i+1:Nat):Int):=by rw[wrap_i64]<;>omega
  have w0:∀b:UInt8,zb2 .u8 (· ||| ·) (b.toNat:Int) (c.toNat:Int)=((b ||| c).toNat:Int):=fun b=>zrp (· ||| ·) b c
  have c1:(c.toNat:Int)<256:=by have:=c.toNat_lt;omega
  generalize fC L i=p at *
  obtain⟨n,ws,b⟩:=p
  have w2:yb4 .i64 ((n:Int)+1)=((n+1:Nat):Int):=by rw[wrap_i64]<;>omega
  have w3:yb4 .i64 (n:Int)=(n:Int):=by rw[wrap_i64]<;>omega
  have w4:yb4 .i64 0=0:=rfl
  have w5:yb4 .i64 1=1:=rfl
  have z0:zb2 .i64 (· ^^^ ·) (-1) 0=-1:=by decide
  have z1:zb2 .i64 (· ^^^ ·) (-1) 1=-2:=by decide
  have z2:zb2 .i64 (· &&& ·) 1 (-1)=1:=by decide
  have z3:zb2 .i64 (· &&& ·) 1 (-2)=0:=by decide
  have z4:zb2 .i64 (· &&& ·) 0 (-1)=0:=by decide
  have z5:zb2 .i64 (· &&& ·) 0 (-2)=0:=by decide
  have z6:yao .i64=true:=rfl
  cases hsp:zdK c<;>cases ws<;>simp only[hsp,if_true,if_false,Bool.false_eq_true]at hs hf a4 ⊢<;>simp at hn a3 a5<;>simp[zkM,a0,a3,a4,a5,a6,hlt',hg,v3,hs,c1,w0,w1,w2,w3,w4,w5,z0,z1,z2,z3,z4,z5,z6,-UInt8.toNat_or]<;>refine⟨⟨i+1,by omega,by simp[a0],by simp[hf],by simp[hf,hsp],by simp[hf],by simp,rfl⟩,?_⟩<;>simp only[MU,a6]<;>simp<;>omega
 ·have hie:i=L.length:=by omega
  subst hie
  have e1:=hok.cnt
  have e2:¬(128:Int)≤((fC L L.length).2.2.toNat:Nat):=by have:=hok.low;omega
  rw[e1]at a3 a4 a5
  simp[zkM,zn6,a0,a3,a4,a5,a6,e2,zm2 hT]
  refine zI (fun a2 τ2=>a2 0=.str L∧a2 9=.slm τ.no 0 1 T.length∧a2 10=.int .i64 0∧a2 12=.int .i64 0∧τ2=τ.newO (zbW T 0)) (fun _ _=>0) ⟨by simp[a0],by simp,by simp,by simp,rfl⟩ fun a2 τ2 hI2=>?_
  obtain⟨b0,b9,b10,b12,rfl⟩:=hI2
  obtain⟨q0,r0,hLc,hsp0⟩:=hok.head
  have w5:0<L.length:=by rw[hLc];simp
  have g0:L[0]'w5=q0:=by simp[hLc]
  have t0:=zfH q0
  rw[hsp0]at t0
  have q256:(q0.toNat:Int)<256:=by have:=q0.toNat_lt;omega
  simp at t0
  simp[zn1,zn5,b0,b9,b10,b12,g0,t0,v3,w5,q256]
  refine zI (F4 L T τ τ.no) (MU 12 (L.length+1)) ⟨0,by omega,by simp[b0],by simp[b9],by simp[b10,fS],by simp[fS],by simp[b12],(zf.refl τ).newO,by simp,by simp[fS]⟩ fun a3 τ3 hI3=>?_
  obtain⟨i,hi,c0,c9,c10,c11,c12,hA,hx,ho⟩:=hI3
  by_cases hlt:i<L.length
  ·have hlt':(i:Int)<(L.length:Int):=by omega
   have hg:=yau hlt
   obtain⟨f1,f2⟩:=hok.fact ⟨i,hlt⟩
   have hgd:L.getD i 0=L[i]:=by simp[hg]
   simp only[hgd]at f1 f2
   have w1:yb4 .i64 ((i:Int)+1)=((i+1:Nat):Int):=by rw[wrap_i64]<;>omega
   generalize L[i]=c at *
   have hs:=zfH c
   have c1:(c.toNat:Int)<256:=by have:=c.toNat_lt;omega
   cases hsp:zdK c with
   | false =>
    rw[hsp]at hs
    have f2:=f2 hsp
    simp at hs
    simp[zie,c0,c9,c10,c11,c12,hlt',hg,v3,hs,c1,w1]
    refine⟨⟨i+1,by omega,by simp[c0],by simp[c9],by simp[c10,f2],by simp[c11,f2],by simp,hA,hx,by simp[ho,f2]⟩,?_⟩
    simp only[MU,c12];simp;omega
   | true =>
    rw[hsp]at hs
    obtain⟨g1,g2,g3,g4,g5,g6⟩:=f1 hsp
    simp at hs
    simp[zie,c0,c9,c10,c11,c12,hlt',hg,v3,hs,c1,w1,ho]
    have hlen:(zbW T (fS L i).2).length=T.length:=by
     simp only[zbW,yab,ybb,ybf,yba]
     omega
    refine⟨g3,by omega,by omega,by omega,?_⟩
    refine zI (fun b τ4=>b 0=.str L∧b 9=.slm τ.no 0 1 T.length∧b 10=.int .i64 (((fS L i).2+1:Nat):Int)∧b 12=.int .i64 ((i+1:Nat):Int)∧zf τ τ4∧τ.no<τ4.no∧τ4.objs τ.no=some (zbW T ((fS L i).2+1))) (fun _ _=>0) ⟨by simp[c0],by simp[c9],by simp;rw[wrap_i64]<;>omega,by simp,hA.setO (by omega),by simp;exact hx,by simp;exact zgr g1⟩ fun b τ4 hI4=>?_
    obtain⟨d0,d9,d10,d12,hA4,hx4,ho4⟩:=hI4
    have hlt2:(((i+1:Nat):Int))<(L.length:Int):=by omega
    have hlt3:i+1<L.length:=by omega
    have hg2:=yau hlt3
    have hgd2:L.getD (i+1) 0=L[i+1]:=by simp[hg2]
    simp only[hgd2]at g5
    generalize L[i+1]=c' at *
    have hs2:=zfH c'
    rw[g5]at hs2
    have c1':(c'.toNat:Int)<256:=by have:=c'.toNat_lt;omega
    simp at hs2
    simp only[Int.natCast_add,Int.natCast_one]at d12 hlt2
    simp[zn2,zn3,d0,d9,d10,d12,hlt2,hg2,v3,hs2,c1']
    refine⟨by omega,⟨i+1,by omega,by simp[d0],by simp[d9],by simp[d10,g6],by simp[g6],by simp[d12],hA4,hx4,by simp[ho4,g6]⟩,?_⟩
    simp only[MU,c12];simp[d12];omega
  ·have hie:i=L.length:=by omega
   subst hie
   have e3:=hok.fin
   have hlast:=hok.last
   obtain⟨n,hn⟩:∃n,T.length=n+1:=⟨T.length-1,by have:=(yaq.1 hlast).1;omega⟩
   have e4:T.length-1=n:=by omega
   rw[e4]at e3 hlast
   rw[e3]at c10 c11 ho
   have w7:=hok.lt
   have w6:(e:Int)<(L.length:Int):=by omega
   have hnT:n<T.length:=by omega
   have hnTi:(n:Int)<(T.length:Int):=by omega
   simp at c10 c11 ho
   simp[zie,zn4,c0,c9,c10,c11,c12,ho,w6,w7,hnT,hnTi]
   have hlen:(zbW T n).length=T.length:=by
    simp only[zbW,yab,ybb,ybf,yba]
    omega
   refine⟨by omega,by omega,?_⟩
   rw[zgr hlast]
   refine h τ.no _ (hA.setO (by omega)) (by omega) (by simpa using hx) ?_
   simp[zbW,←hn]
theorem zuG:zrr zl6 zjW 66:=⟨by decide,by decide,by decide,by decide,by decide,⟨97,_,rfl,by decide⟩,by decide,by decide,by decide⟩
theorem fields_calls(v3:G.g 0=.pv (.stat true) (.agg zdL))(h:∀x σ',zf σ σ'→σ.no≤x→x<σ'.no→σ'.objs x=some (zjW.map ycp)→R (.ret (.slm x 0 1 16)) σ'):zzQ G 57 [.str zl6] σ R:=zeJ zuG v3 h
end
end Go.Proofs.YtohfclafhegadaaGreatDoor



namespace Go.Proofs.YtohfclafhegadaaGreatDoor
open Go Go.Abs
def zcU(w:W):Bool:=decide (w.op=11)||decide (w.op=12)||decide (w.op=13)
end Go.Proofs.YtohfclafhegadaaGreatDoor








namespace Go.Proofs.YtohfclafhegadaaGreatDoor
open Go Go.Abs
theorem RepO.len{σ:AS}{v:AV}{l:List W}(h:Al.RepO σ v l)(K:AV→Prop):zgI yb9 54 v K=K (.int .i64 (l.length:Int)):=by
 rcases h with ⟨rfl,rfl⟩|⟨b,rfl,_⟩<;>simp
theorem RepO.at{σ:AS}{v:AV}{l:List W}(h:Al.RepO σ v l){i:Nat}(hi:i<l.length):∃φ,Al.Rd σ φ∧∀K:AV→Prop,zu yb9 54 v (.int .i64 (i:Int)) K=K (.pv φ l[i].av):=by
 rcases h with ⟨rfl,_⟩|⟨φ,rfl,r⟩
 ·simp at hi
 ·exact⟨φ,r,fun K=>by simp[hi]⟩
def RgW(w:W):Prop:=-(2^63)≤w.n∧w.n<2^63
def RgL(ls:To):Prop:=∀ws∈ls,∀w∈ws,RgW w
theorem zuH{w:W}(h:zcU w=true):w.op=11∨w.op=12∨w.op=13:=by
 simpa [zcU,or_assoc]using h
section
variable {G : Env} {σ : AS} {R : Out → AS → Prop}
end
end Go.Proofs.YtohfclafhegadaaGreatDoor
namespace Go.Proofs.YtohfclafhegadaaGreatDoor.Ck
open Go Go.Abs Go.Proofs.YtohfclafhegadaaGreatDoor
theorem zm3{a n:Int}{named named':List Bool}(h:zdj a named n=.ok named'){i:Nat}(hi:named'[i]?=some true):named[i]?=some true∨(i:Int)=n:=by
 unfold zdj at h
 split at h
 ·rename_i hc
  cases h
  by_cases hin:n.toNat=i
  ·right;omega
  ·left;rwa [List.getElem?_set_ne hin]at hi
 ·cases h
theorem zgs{a:Int}:∀{ns:List Int} {named named':List Bool},zaq a ns named=.ok named'→∀{i:Nat},named'[i]?=some true→named[i]?=some true∨(i:Int)∈ns
 | [],named,named',h,i,hi=>by rw[zaq]at h;cases h;exact .inl hi
 | n::ns,named,named',h,i,hi=>by
  rw[zaq]at h
  split at h
  ·cases h
  ·rename_i nm hnm
   rcases zgs h hi with h1|h1
   ·rcases zm3 hnm h1 with h2|h2
    ·exact .inl h2
    ·exact .inr (by simp[h2])
   ·exact .inr (by simp[h1])
theorem zjX{a:Int}:∀{r:List W} {named named':List Bool},zgJ a r named=.ok named'→∀{i:Nat},named'[i]?=some true→named[i]?=some true∨∃w∈r,(i:Int)∈zt w
 | [],named,named',h,i,hi=>by rw[zgJ]at h;cases h;exact .inl hi
 | w::r,named,named',h,i,hi=>by
  rw[zgJ]at h
  split at h
  ·cases h
  ·rename_i nm hnm
   rcases zjX h hi with h1|⟨w',h1,h2⟩
   ·rcases zgs hnm h1 with h2|h2
    ·exact .inl h2
    ·exact .inr ⟨w,by simp,h2⟩
   ·exact .inr ⟨w',by simp[h1],h2⟩
theorem zhq:∀{ls:To} {k:Nat} {named named':List Bool},za7 k ls named=.ok named'→∀{i:Nat},named'[i]?=some true→named[i]?=some true∨∃(j:Nat) (r:List W),ls[j]?=some r∧∃w∈r,(i:Int)∈zt w
 | [],k,named,named',h,i,hi=>by rw[za7]at h;cases h;exact .inl hi
 | r::ls,k,named,named',h,i,hi=>by
  rw[za7]at h
  split at h
  ·cases h
  ·rename_i nm hnm
   rcases zhq h hi with h1|⟨j,r',h1,h2⟩
   ·rcases zjX hnm h1 with h2|h2
    ·exact .inl h2
    ·exact .inr ⟨0,r,rfl,h2⟩
   ·exact .inr ⟨j+1,r',by simpa using h1,h2⟩
theorem zrs{a n:Int}{named named':List Bool}(h:zdj a named n=.ok named'):named'.length=named.length:=by
 unfold zdj at h
 split at h
 ·cases h;simp
 ·cases h
theorem zjY{a:Int}:∀{ns:List Int} {named named':List Bool},zaq a ns named=.ok named'→named'.length=named.length
 | [],named,named',h=>by rw[zaq]at h;cases h;rfl
 | n::ns,named,named',h=>by
  rw[zaq]at h
  split at h
  ·cases h
  ·rename_i nm hnm
   rw[zjY h,zrs hnm]
theorem zoy{a:Int}:∀{r:List W} {named named':List Bool},zgJ a r named=.ok named'→named'.length=named.length
 | [],named,named',h=>by rw[zgJ]at h;cases h;rfl
 | w::r,named,named',h=>by
  rw[zgJ]at h
  split at h
  ·cases h
  ·rename_i nm hnm
   rw[zoy h,zjY hnm]
theorem zl7:∀{ls:To} {k:Nat} {named named':List Bool},za7 k ls named=.ok named'→named'.length=named.length
 | [],k,named,named',h=>by rw[za7]at h;cases h;rfl
 | r::ls,k,named,named',h=>by
  rw[za7]at h
  split at h
  ·cases h
  ·rename_i nm hnm
   rw[zl7 h,zoy hnm]
theorem zjZ{ls:To}(h:zbS ls=.ok ()){i:Nat}(hi:i+1<ls.length):∃(j:Nat) (r:List W),ls[j]?=some r∧∃w∈r,(i:Int)∈zt w:=by
 unfold zbS at h
 split at h
 ·cases h
 split at h
 ·cases h
 rename_i nm hnm
 split at h
 ·rename_i hall
  rw[yaM]at hall
  have hlen:nm.length=ls.length:=by
   have:=(zl7 hnm)
   simpa using this
  have h1:nm[i]?=some true:=by
   have h2:=hall (nm[i]'(by omega)) (ycA.2 ⟨i,by simp;omega,by simp⟩)
   rw[yau (by omega)]
   simpa using h2
  rcases zhq hnm h1 with h2|h2
  ·rw[ycl]at h2
   split at h2<;>simp at h2
  ·exact h2
 ·cases h
theorem ze8{fs:List F}{ls:List Int}{ty deep:Int}{look:zpw}:∀{ws:List W} {s s':St},zbK fs ls ty deep look ws s=.ok s'→∀w∈ws,∃s0 s1,zcl fs ls ty deep look w s0=.ok s1
 | [],_,_,_,w,hw=>by simp at hw
 | v::ws,s,s',h,w,hw=>by
  rw[zbK]at h
  split at h
  ·cases h
  ·rename_i s1 h1
   rcases ybC.1 hw with rfl|hw
   ·exact⟨s,s1,h1⟩
   ·exact ze8 h w hw
theorem zle{fs:List F}{ls:List Int}{ty deep:Int}{look:zpw}{w:W}{s s':St}(h:zcl fs ls ty deep look w s=.ok s'):zbu w=true∧∀n∈zt w,look n (deep+1)=.ok ():=by
 unfold zcl at h
 split at h
 ·cases h
 rename_i hf
 refine⟨by simpa using hf,fun n hn=>?_⟩
 split at h
 ·cases h
 by_cases h1:w.op=11∨w.op=12
 ·rw[if_pos h1]at h
  unfold zt at hn
  rw[if_pos (by omega)]at hn
  simp at hn
  subst hn
  cases hl:look w.body (deep+1)with
  | ok u=>rfl
  | error e=>rw[hl]at h;cases h
 rw[if_neg h1]at h
 by_cases h2:w.op=13
 ·rw[if_pos h2]at h
  split at h
  ·cases h
  cases hl:look w.body (deep+1)with
  | error e=>rw[hl]at h;cases h
  | ok u =>
   rw[hl]at h
   simp only at h
   unfold zt at hn
   by_cases ho:w.other<0
   ·rw[if_pos (by omega)]at hn
    simp at hn
    subst hn
    exact hl
   ·rw[if_neg (by omega),if_pos h2]at hn
    rw[if_pos (by omega)]at h
    simp at hn
    rcases hn with rfl|rfl
    ·exact hl
    ·cases hl2:look w.other (deep+1)with
     | ok u=>rfl
     | error e=>rw[hl2]at h;cases h
 ·unfold zt at hn
  rw[if_neg (by omega),if_neg h2]at hn
  simp at hn
theorem zhr{fs:List F}{ls:List Int}{ty:Int}{lists:To}{k:Nat}{at_ deep:Int}(h:zcO fs ls ty lists (k+1) at_ deep=.ok ()):∀w∈lists.getD at_.toNat [],zbu w=true∧∀n∈zt w,zcO fs ls ty lists k n (deep+1)=.ok ():=by
 rw[zcO]at h
 split at h
 ·cases h
 ·rename_i s' hs
  intro w hw
  obtain⟨s0,s1,h1⟩:=ze8 hs w hw
  exact zle h1
theorem zdb{fs:List F}{ls:List Int}{ty:Int}{lists:To}(hl:zbS lists=.ok ())(h:zcO fs ls ty lists lists.length ((lists.length:Int)-1) 0=.ok ()):∀(d i:Nat),i+d+1=lists.length→∃(k:Nat) (deep:Int),zcO fs ls ty lists k (i:Int) deep=.ok ():=by
 intro d
 induction d using ybI with
 | _ d ih =>
  intro i hi
  by_cases h0:d=0
  ·subst h0
   refine⟨lists.length,0,?_⟩
   have:(i:Int)=(lists.length:Int)-1:=by omega
   rw[this];exact h
  ·obtain⟨j,r,h1,w,h2,h3⟩:=zjZ hl (i:=i) (by omega)
   obtain⟨_,ha,_⟩:=zd8 hl
   have hj:=(ha j r h1 _ (ycy.2 ⟨w,h2,h3⟩)).2
   have hjl:j<lists.length:=(yaq.1 h1).1
   obtain⟨k,deep,hk⟩:=ih (lists.length-1-j) (by omega) j (by omega)
   cases k with
   | zero=>rw[zcO]at hk;cases hk
   | succ k =>
    have hg:lists.getD (j:Int).toNat []=r:=by rw[ybe,yce,h1];rfl
    have:=zhr hk w (by rw[hg];exact h2)
    exact⟨k,deep+1,this.2 _ h3⟩
theorem forms_of{fs:List F}{f:F}(h:zC fs f=.ok ()):∀l∈f.lists,∀w∈l,zbu w=true:=by
 have hl:=zby h
 unfold zC at h
 split at h
 ·cases h
 rw[hl]at h
 simp only at h
 intro l hlm w hw
 obtain⟨i,hi,e⟩:=ya9 hlm
 obtain⟨k,deep,hk⟩:=zdb hl h (f.lists.length-1-i) i (by omega)
 cases k with
 | zero=>rw[zcO]at hk;cases hk
 | succ k =>
  have hg:f.lists.getD (i:Int).toNat []=l:=by rw[ybe,yce,yau hi,e];rfl
  exact(zhr hk w (by rw[hg];exact hw)).1
end Go.Proofs.YtohfclafhegadaaGreatDoor.Ck


namespace Go.Proofs.YtohfclafhegadaaGreatDoor
open Go Go.Abs
theorem zg2{ls:To}{k:Nat}(h:k<ls.length):zfm id (ls.take (k+1))=zfm id (ls.take k)+ls[k].length:=by
 rw[ycm h,zgo]
 simp[zfm]
theorem zm4{ls:To}{B:Nat}(h:∀l∈ls,l.length≤B):zfm id ls≤ls.length*B:=by
 induction ls with
 | nil=>simp[zfm]
 | cons l ls ih =>
  have h1:=h l (by simp)
  have h2:=ih fun x hx=>h x (by simp[hx])
  simp only[zfm,yaL,ycj,yac,id]at h2 ⊢
  rw[Nat.add_mul];omega
theorem zeK:∀{l:List (List UInt8 × List UInt8)} {s:List UInt8},zbe l s≠[]→s∈l.map (·.1)
 | [],s,h=>by simp[zbe]at h
 | (x,y)::r,s,h=>by
  rw[zbe]at h
  split at h
  ·rename_i e;simp[e]
  ·simp only[yaL,ybC];exact .inr (zeK h)
abbrev Tok:=List UInt8
def zo(w:W):Tok :=
 if w.op=1 then zp w.ty++[46,99,111,110,115,116]else if w.op=2 then [108,111,99,97,108,46,103,101,116]else if w.op=3 then [108,111,99,97,108,46,115,101,116]else if w.op=10 then [99,97,108,108]else if w.op=14 then [98,114]else if w.op=15 then [98,114,95,105,102]
 else if w.op=4 then zp w.ty++46::w.name else if w.op=5 then zp w.ty++[46,101,113,122]else if w.op=6 then [105,51,50,46,119,114,97,112,95,105,54,52]else if w.op=7 then [105,54,52,46,101,120,116,101,110,100,95,105,51,50,95,115]
 else if w.op=8 then zp w.ty++(if w.n=1 then [46,108,111,97,100,56,95,115]else [46,108,111,97,100])else if w.op=9 then zp w.ty++(if w.n=1 then [46,115,116,111,114,101,56]else [46,115,116,111,114,101])
 else if w.op=16 then [114,101,116,117,114,110]else if w.op=17 then [117,110,114,101,97,99,104,97,98,108,101]else [100,114,111,112]
def zae(w:W):Bool:=decide (w.op=1)||decide (w.op=2)||decide (w.op=3)||decide (w.op=10)||decide (w.op=14)||decide (w.op=15)
def zce(w:W):List Tok:=if zae w=true then [zo w,Lib.itoa w.n]else [zo w]
def zAE(w:W):W :=
 { op:=w.op,ty:=if w.op=1∨w.op=4∨w.op=5∨w.op=8∨w.op=9 then w.ty else 0,n:=if zae w=true∨w.op=8∨w.op=9 then w.n else 0,body:=0,other:=0,name:=if w.op=4 then w.name else [] }
def zAF(op b o:Int):W:={ op:=op,ty:=0,n:=0,body:=b,other:=o,name:=[] }
def zaC(op:Int):Tok:=if op=11 then zgk else if op=12 then zkZ else tIf
inductive PrB(B:Nat)(ls:To):Nat→List W→To→List Tok→List W→To→Prop
 | nil (d acc):PrB B ls d [] acc [] [] acc
 | leaf {d w r acc t r' acc'}:zcU w=false→zbu w=true→RgW w→PrB B ls d r acc t r' acc'→PrB B ls d (w::r) acc (zce w++t) (zAE w::r') acc'
 | one {d w b r acc tb b' acc1 t r' acc'}:(w.op=11∨w.op=12∨w.op=13∧w.other<0)→d<B→0≤w.body→ls[w.body.toNat]?=some b→PrB B ls (d+1) b acc tb b' acc1→PrB B ls d r (acc1++[b']) t r' acc' →
   PrB B ls d (w::r) acc (zaC w.op::(tb++zbw::t)) (zAF w.op acc1.length (if w.op=13 then -1 else 0)::r') acc'
 | two {d w b e r acc tb b' acc1 te e' acc2 t r' acc'}:w.op=13→0≤w.other→d<B→0≤w.body→ls[w.body.toNat]?=some b→ls[w.other.toNat]?=some e→PrB B ls (d+1) b acc tb b' acc1→PrB B ls (d+1) e (acc1++[b']) te e' acc2→PrB B ls d r (acc2++[e']) t r' acc' →
   PrB B ls d (w::r) acc (tIf::(tb++zbk::(te++zbw::t))) (zAF 13 acc1.length acc2.length::r') acc'
def zEK:List Tok:=[[34,101,110,118,34],[34,105,110,34],[34,111,117,116,34],[34,116,114,97,112,34],[34,109,97,105,110,34]]
def zEL(t:Tok):Bool:=(!t.isEmpty&&t.all fun c=>!zeE c)||((t==zr||t==zk)||zEK.contains t)
def zrt:List Tok→List UInt8
 | []=>[10]
 | t::r=>32::(t++zrt r)
def zEM(t:Tok):Bool:=zEL t&&(decide (zcm t=0)&&(!(t==zbw)&&(!(t==zk)&&(!(t==zbk)&&!(t==zr)))))
theorem zru:∀s∈signs.map (·.1),∀t∈[1,2],(zEM (zp t++46::s)=true∧zE zaL (zp t++46::s)=none∧zE zaX (zp t++46::s)=some { op:=4,ty:=t,n:=0,body:=0,other:=0,name:=s }):=by decide
theorem zrv{t:Tok}{w:W}(h1:zE zaL t=none)(h2:zE zaX t=some w)(s:Ts):zgl t s=.ok (w,s):=by
 unfold zgl
 rw[h1]
 simp only[h2]
theorem zAG{B:Nat}{ls:To}(ha:zk1 ls)(hf:∀l∈ls,∀w∈l,zbu w=true)(hr:RgL ls):∀(i:Nat) (d:Nat) (ws:List W) (acc:To),d+i<B→(∀w∈ws,zbu w=true)→(∀w∈ws,RgW w)→(∀n∈ws.flatMap zt,0≤n∧n<(i:Int)∧n<(ls.length:Int))→∃toks out acc',PrB B ls d ws acc toks out acc':=by
 intro i
 induction i using ybI with
 | _ i ih =>
  intro d ws
  induction ws with
  | nil=>intro acc _ _ _ _;exact⟨[],[],acc,.nil d acc⟩
  | cons w ws ihw =>
   intro acc hd h1 h2 h3
   have rest:=fun acc=>ihw acc hd (fun v hv=>h1 v (by simp[hv])) (fun v hv=>h2 v (by simp[hv])) fun n hn=>h3 n (by rw[yaa];simp[hn])
   have hn:∀n∈zt w,0≤n∧n<(i:Int)∧n<(ls.length:Int):=fun n hn=>h3 n (by rw[yaa];simp[hn])
   have sub:∀n:Int,(0≤n∧n<(i:Int)∧n<(ls.length:Int))→∃b,ls[n.toNat]?=some b∧∀acc,∃toks out acc',PrB B ls (d+1) b acc toks out acc':=fun n hn=>by
    have hlt:n.toNat<ls.length:=by omega
    have hb:ls[n.toNat]?=some ls[n.toNat]:=yau hlt
    refine⟨_,hb,fun acc=>ih n.toNat (by omega) (d+1) _ acc (by omega) (hf _ (yaw hlt)) (hr _ (yaw hlt)) fun m hm=>?_⟩
    have:=ha n.toNat _ hb m hm
    omega
   cases hw:zcU w with
   | false =>
    obtain⟨t,o,a,hp⟩:=rest acc
    exact⟨_,_,_,.leaf hw (h1 w (by simp)) (h2 w (by simp)) hp⟩
   | true =>
    have hop:w.op=11∨w.op=12∨w.op=13:=zuH hw
    by_cases h13:w.op=13∧0≤w.other
    ·have e:zt w=[w.body,w.other]:=by unfold zt;rw[if_neg (by omega),if_pos h13.1]
     rw[e]at hn
     have hb:=hn w.body (by simp)
     obtain⟨b,hb1,hb2⟩:=sub w.body hb
     obtain⟨e,he1,he2⟩:=sub w.other (hn w.other (by simp))
     obtain⟨tb,b',a1,p1⟩:=hb2 acc
     obtain⟨te,e',a2,p2⟩:=he2 (a1++[b'])
     obtain⟨t,o,a3,p3⟩:=rest (a2++[e'])
     exact⟨_,_,_,.two h13.1 h13.2 (by omega) hb.1 hb1 he1 p1 p2 p3⟩
    ·have e:zt w=[w.body]:=by unfold zt;rw[if_pos (by omega)]
     rw[e]at hn
     have hb:=hn w.body (by simp)
     obtain⟨b,hb1,hb2⟩:=sub w.body hb
     obtain⟨tb,b',a1,p1⟩:=hb2 acc
     obtain⟨t,o,a3,p3⟩:=rest (a1++[b'])
     exact⟨_,_,_,.one (by omega) (by omega) hb.1 hb1 p1 p3⟩
def zDg(B:Nat)(f:F)(toks:List Tok)(ls':To):Prop:=∃row out acc,f.lists[f.lists.length-1]?=some row∧PrB B f.lists 0 row [] toks out acc∧ls'=acc++[out]
theorem zrw{B:Nat}{fs:List F}{f:F}(h:zC fs f=.ok ())(hr:RgL f.lists)(hl:f.lists.length≤B):∃toks ls',zDg B f toks ls':=by
 obtain⟨h0,ha,_⟩:=zd8 (zby h)
 have hlt:f.lists.length-1<f.lists.length:=by omega
 have hb:f.lists[f.lists.length-1]?=some f.lists[f.lists.length-1]:=yau hlt
 have hf:=Ck.forms_of h
 obtain⟨t,o,a,hp⟩:=zAG (B:=B) ha hf hr (f.lists.length-1) 0 f.lists[f.lists.length-1] [] (by omega) (hf _ (yaw hlt)) (hr _ (yaw hlt)) fun m hm=>by
  have:=ha (f.lists.length-1) _ hb m hm
  omega
 exact⟨t,_,_,_,_,hb,hp,rfl⟩
def zG(kw:Tok)(l:List Int):List Tok:=if l=[]then []else zr::kw::(l.map zp++[zk])
def zhs(t:Int):List Tok:=if t=0 then []else [zr,zcP,zp t,zk]
def zdk(f:F)(toks:List Tok):List Tok:=zr::zah::(36::f.name)::(zG zaP f.params++(zhs f.type++(zG zaQ f.locals++(toks++[zk]))))
structure Pf(mx:Nat)(f:F):Prop where
 name:zgW mx f.name=true
 params:∀t∈f.params,t=1∨t=2
 locals:∀t∈f.locals,t=1∨t=2
 type:f.type=0∨f.type=1∨f.type=2
inductive PrFsB(B:Nat):List F→List Tok→List F→Prop
 | nil:PrFsB B [] [] []
 | cons {f fs toks ls' ts fs'}:zDg B f toks ls'→PrFsB B fs ts fs'→PrFsB B (f::fs) (zdk f toks++ts) ({ f with lists:=ls' }::fs')
abbrev zGu:=PrFsB 400
def zGg:List Tok:=[zr,zaW,zeF,zr,zah]
def zcf(m:M)(toks:List Tok):List Tok:=zjK++(Lib.itoa m.memory::zk::zk::(toks++(zGg++(Lib.itoa (yb4 .i64 (m.main+3))::[zk,zk,zk]))))
theorem zeL(x:Int):(-(2^63)≤yb4 .i64 x∧yb4 .i64 x<2^63)∧∃k:Int,yb4 .i64 x=x+2^64*k:=by
 simp only[yb4,yao,yap,Bool.true_and]
 split
 ·rename_i k
  have k:=of_decide_eq_true k
  exact⟨by omega,-(x/2^64)-1,by omega⟩
 ·rename_i k
  have k:=of_decide_eq_false (eq_false_of_ne_true k)
  exact⟨by omega,-(x/2^64),by omega⟩
def zj0(ts:List Tok):List UInt8:=(zrt ts).tail
theorem zrx(t:Tok):zcm t=0∨zcm t=11∨zcm t=12∨zcm t=13:=by
 unfold zcm
 split
 ·simp
 ·split
  ·simp
  ·split<;>simp
theorem bind_some{α β:Type}{r:Res α}{f:α→Res β}{y:β}(h:r.bind f=.ok y):∃x,r=.ok x∧f x=.ok y:=by
 cases r with
 | error e=>cases h
 | ok x=>exact⟨x,rfl,h⟩
theorem map_some{α β:Type}{r:Res α}{f:α→β}{y:β}(h:r.map f=.ok y):∃x,r=.ok x∧f x=y:=by
 cases r with
 | error e=>cases h
 | ok x=>simp only[Except.map,Except.ok.injEq]at h;exact⟨x,rfl,h⟩
end Go.Proofs.YtohfclafhegadaaGreatDoor

namespace Go.Proofs.YtohfclafhegadaaGreatDoor
open Go Go.Abs
def zbA(σ:AS)(x f:Nat):Prop:=∃cs v,σ.objs x=some cs∧cs[1]?=some v∧zbU v=some f
structure zK(x:Nat)(σ σ':AS):Prop where
 no:σ.no≤σ'.no
 nf:σ.nf≤σ'.nf
 obj:∀o,o<σ.no→o≠x→σ'.objs o=σ.objs o
 fam:∀f,f<σ.nf→¬zbA σ x f→σ'.F f=σ.F f
 use:∀f,f<σ.nf→zbA σ' x f→zbA σ x f
theorem zK.refl(x σ):zK x σ σ:=⟨yah _,yah _,fun _ _ _=>rfl,fun _ _ _=>rfl,fun _ _ h=>h⟩
theorem zK.trans{x σ σ1 σ2}(h:zK x σ σ1)(h':zK x σ1 σ2):zK x σ σ2 where
 no:=yai h.no h'.no
 nf:=yai h.nf h'.nf
 obj o a b:=by rw[h'.obj o (yag a h.no) b,h.obj o a b]
 fam f a b:=by rw[h'.fam f (yag a h.nf) fun u=>b (h.use f a u),h.fam f a b]
 use f a u:=h.use f a (h'.use f (yag a h.nf) u)
theorem zf.keepR{x σ σ'}(h:zf σ σ')(hx:x<σ.no):zK x σ σ' where
 no:=h.no
 nf:=h.nf
 obj o a _:=h.obj o a
 fam f a _:=h.fam f a
 use f _ u:=by unfold zbA at *;rwa [h.obj x hx]at u
structure zM(x:Nat)(σ σ':AS):Prop where
 no:σ.no≤σ'.no
 nf:σ.nf≤σ'.nf
 obj:∀o,o<σ.no→o≠x→σ'.objs o=σ.objs o
 fam:∀f,f<σ.nf→σ'.F f=σ.F f
 lst:∀cs,σ.objs x=some cs→∃cs',σ'.objs x=some cs'∧cs'[1]?=cs[1]?
 some:(σ.objs x).isSome=true
theorem zM.refl{x σ cs}(h:σ.objs x=yaR cs):zM x σ σ:=⟨yah _,yah _,fun _ _ _=>rfl,fun _ _=>rfl,fun cs h=>⟨cs,h,rfl⟩,by rw[h];rfl⟩
theorem zM.trans{x σ σ1 σ2}(h:zM x σ σ1)(h':zM x σ1 σ2):zM x σ σ2 where
 no:=yai h.no h'.no
 nf:=yai h.nf h'.nf
 obj o a b:=by rw[h'.obj o (yag a h.no) b,h.obj o a b]
 fam f a:=by rw[h'.fam f (yag a h.nf),h.fam f a]
 lst cs e:=by
  obtain⟨c1,e1,e2⟩:=h.lst cs e
  obtain⟨c2,e3,e4⟩:=h'.lst c1 e1
  exact⟨c2,e3,e4.trans e2⟩
 some:=h.some
theorem zM.r{x σ σ'}(h:zM x σ σ'):zK x σ σ' where
 no:=h.no
 nf:=h.nf
 obj:=h.obj
 fam f a _:=h.fam f a
 use f a u:=by
  obtain⟨cs,v,h1,h2,h3⟩:=u
  obtain⟨c0,hc0⟩:=yay.1 h.some
  obtain⟨c1,e1,e2⟩:=h.lst c0 hc0
  rw[h1]at e1
  cases e1
  exact⟨c0,v,hc0,by rw[←e2];exact h2,h3⟩
theorem zf.keepS{x σ σ' cs}(h:zf σ σ')(hx:x<σ.no)(ho:σ.objs x=yaR cs):zM x σ σ' where
 no:=h.no
 nf:=h.nf
 obj o a _:=h.obj o a
 fam f a:=h.fam f a
 lst cs e:=⟨cs,(h.obj x hx).trans e,rfl⟩
 some:=by rw[ho];rfl
theorem zM.set{x σ cs cs'}(ho:σ.objs x=yaR cs)(h:cs'[1]?=cs[1]?):zM x σ (σ.setO x cs') where
 no:=yah _
 nf:=yah _
 obj o _ ho:=by simp[ho]
 fam f _:=rfl
 lst c e:=⟨cs',by simp,by rw[h];rw[ho]at e;cases e;rfl⟩
 some:=by rw[ho];rfl
theorem zM.endF{x σ τ}(K:zM x σ τ){g:Nat}(hg:σ.nf≤g):zM x σ (τ.setF g .dead) where
 no:=K.no
 nf:=K.nf
 obj:=K.obj
 fam f a:=by
  have:¬f=g:=by omega
  simp[this]
  exact K.fam f a
 lst:=K.lst
 some:=K.some
theorem zM.newF{x σ τ}(K:zM x σ τ):zM x σ τ.newF where
 no:=K.no
 nf:=ycF K.nf
 obj:=K.obj
 fam f a:=by
  have:=K.nf
  have:¬f=τ.nf:=by omega
  simp[this]
  exact K.fam f a
 lst:=K.lst
 some:=K.some
theorem zM.mrg{x σ τ}(K:zM x σ τ){g:Nat}(hg:σ.nf≤g):zM x σ (τ.mrg g fun _=>false) where
 no:=K.no
 nf:=K.nf
 obj o a b:=by simpa [AS.mrg]using K.obj o a b
 fam f a:=by
  have:¬f=g:=by omega
  simp[AS.mrg,zjE,this]
  exact K.fam f a
 lst cs e:=by
  obtain⟨c1,e1,e2⟩:=K.lst cs e
  exact⟨c1,by simpa [AS.mrg]using e1,e2⟩
 some:=K.some
def zGB:Go.Abs.Own→Option Nat
 | .stat _=>none
 | .fam f _=>some f
def ToR(base:Nat)(σ:AS)(v:AV)(tO:To):Prop:=(tO=[]∧v=.nilsl)∨∃g tos,v=.sl (.fam g false) 1 tos∧base≤g∧g<σ.nf∧σ.F g=.alive∧All2 Al.RepE tos tO
theorem ToR.one{base σ v bs}(h:ToR base σ v bs):v.known=true∧v.one=true∧v.cells=[v]:=by rcases h with ⟨_,rfl⟩|⟨b,_,rfl,_⟩<;>simp
section
variable {G : Env} {σ : AS} {R : Out → AS → Prop}
end
def zg3(σ0:AS)(x sz:Nat)(τ:AS)(v:AV)(xs:List AV):Prop:=(xs=[]∧v=.nilsl)∨∃g,v=.sl (.fam g false) sz xs∧σ0.nf≤g∧g<τ.nf∧τ.F g=.alive∧¬zbA τ x g
theorem zg3.one{σ0 x sz τ v xs}(h:zg3 σ0 x sz τ v xs):v.known=true∧v.one=true∧v.cells=[v]:=by rcases h with ⟨_,rfl⟩|⟨b,rfl,_⟩<;>simp
theorem zg3.keep{σ0 x sz τ τ' v xs}(h:zg3 σ0 x sz τ v xs)(K:zK x τ τ'):zg3 σ0 x sz τ' v xs:=by
 rcases h with h|⟨g,h1,h2,h3,h4,h5⟩
 ·exact .inl h
 ·exact .inr ⟨g,h1,h2,yag h3 K.nf,(K.fam g h3 h5).trans h4,fun u=>h5 (K.use g h3 u)⟩
theorem zK.endF{x σ τ}(K:zK x σ τ){g:Nat}(hg:σ.nf≤g):zK x σ (τ.setF g .dead) where
 no:=K.no
 nf:=K.nf
 obj:=K.obj
 fam f a b:=by
  have:¬f=g:=by omega
  simp[this]
  exact K.fam f a b
 use f a u:=K.use f a u
theorem zK.newF{x σ τ}(K:zK x σ τ):zK x σ τ.newF where
 no:=K.no
 nf:=ycF K.nf
 obj:=K.obj
 fam f a b:=by
  have:=K.nf
  have:¬f=τ.nf:=by omega
  simp[this]
  exact K.fam f a b
 use f a u:=K.use f a u
section
variable {G : Env} {σ : AS} {R : Out → AS → Prop}
end
theorem zK.setO{x σ τ o cs}(K:zK x σ τ)(ho:σ.no≤o)(hox:o≠x):zK x σ (τ.setO o cs) where
 no:=K.no
 nf:=K.nf
 obj p a b:=by
  have:¬p=o:=by omega
  simp[this]
  exact K.obj p a b
 fam f a b:=K.fam f a b
 use f a u:=K.use f a (by
  obtain⟨cs',v,h1,h2,h3⟩:=u
  have:¬x=o:=fun e=>hox e.symm
  simp[this]at h1
  exact⟨cs',v,h1,h2,h3⟩)
section
variable {G : Env} {σ : AS} {R : Out → AS → Prop}
end
end Go.Proofs.YtohfclafhegadaaGreatDoor


namespace Go.Proofs.YtohfclafhegadaaGreatDoor
open Go Go.Abs
structure zeM(x fo:Nat)(σ σ':AS):Prop where
 no:σ.no≤σ'.no
 nf:σ.nf≤σ'.nf
 obj:∀o,o<σ.no→o≠x→o≠fo→σ'.objs o=σ.objs o
 fam:∀f,f<σ.nf→σ'.F f=σ.F f
theorem zeM.trans{x fo σ σ1 σ2}(h:zeM x fo σ σ1)(h':zeM x fo σ1 σ2):zeM x fo σ σ2 where
 no:=yai h.no h'.no
 nf:=yai h.nf h'.nf
 obj o a b c:=by rw[h'.obj o (yag a h.no) b c,h.obj o a b c]
 fam f a:=by rw[h'.fam f (yag a h.nf),h.fam f a]
theorem zM.f{x fo σ σ'}(h:zM x σ σ'):zeM x fo σ σ':=⟨h.no,h.nf,fun o a b _=>h.obj o a b,h.fam⟩
theorem zeM.setO{x fo σ σ' o cs}(h:zeM x fo σ σ')(ho:o=x∨o=fo∨σ.no≤o):zeM x fo σ (σ'.setO o cs) where
 no:=h.no
 nf:=h.nf
 obj p a b c:=by
  have:¬p=o:=by rcases ho with h|h|h<;>omega
  simp[this]
  exact h.obj p a b c
 fam:=h.fam
theorem zeM.adds0{x fo σ0 σ σ'}(K:zeM x fo σ σ')(A:zf σ0 σ)(hx:σ0.no≤x)(hf:σ0.no≤fo):zf σ0 σ':=⟨yai A.no K.no,yai A.nf K.nf,fun o ho=>by
 have:=A.no
 rw[K.obj o (by omega) (by omega) (by omega),A.obj o ho],fun f hf=>by
 have:=A.nf
 rw[K.fam f (by omega),A.fam f hf]⟩
section
variable {G : Env} {σ : AS} {R : Out → AS → Prop}
end
end Go.Proofs.YtohfclafhegadaaGreatDoor

namespace Go.Proofs.YtohfclafhegadaaGreatDoor
open Go Go.Abs
theorem zM.adds0{x σ0 σ σ'}(K:zM x σ σ')(A:zf σ0 σ)(hx:σ0.no≤x):zf σ0 σ':=⟨yai A.no K.no,yai A.nf K.nf,fun o ho=>by
 have:=A.no
 rw[K.obj o (by omega) (by omega),A.obj o ho],fun f hf=>by
 have:=A.nf
 rw[K.fam f (by omega),A.fam f hf]⟩
structure Fn(x mo fo:Nat)(C:List AV)(τ:AS):Prop where
 ob:τ.objs fo=some C
 lt:fo<τ.no
 fx:fo≠x
 fm:fo≠mo
section
variable {G : Env} {σ : AS} {R : Out → AS → Prop}
end
theorem zoz{v p}(h:Al.FVE v p):v.cells.length=5:=by
 obtain⟨pv,lv,tv,rfl,_⟩:=h
 rfl
section
variable {G : Env} {σ : AS} {R : Out → AS → Prop}
end
end Go.Proofs.YtohfclafhegadaaGreatDoor





namespace Go.Proofs.YtohfclafhegadaaGreatDoor
open Go Go.Abs
def zfp(ls:To):Nat:=(ls.map ycc).sum
theorem zbX(a:To)(l:List W):zfp (a++[l])=zfp a+l.length:=by simp[zfp]
end Go.Proofs.YtohfclafhegadaaGreatDoor
set_option maxRecDepth 100000
namespace Go.Proofs.YtohfclafhegadaaGreatDoor.Hd
open Go Go.Abs Go.Proofs.YtohfclafhegadaaGreatDoor
theorem fok:zrr zav zjK 176:=⟨by decide,by decide,by decide,by decide,by decide,⟨_,_,rfl,by decide⟩,by decide,by decide,by decide⟩
theorem fields_calls{G:Env}{σ:AS}{R:Out→AS→Prop}(v3:G.g 0=.pv (.stat true) (.agg zdL))(h:∀x σ',zf σ σ'→σ.no≤x→x<σ'.no→σ'.objs x=some (zjK.map ycp)→R (.ret (.slm x 0 1 47)) σ'):zzQ G 57 [.str zav] σ R:=zeJ fok v3 h
end Go.Proofs.YtohfclafhegadaaGreatDoor.Hd
namespace Go.Proofs.YtohfclafhegadaaGreatDoor
open Go Go.Abs
def inS(l:List UInt8)(c:UInt8):Bool:=l.contains c
def zry:List AV:=yaj 256 (.bool false)
theorem zcg:zry.length=256:=yba ..
theorem zrz{i:Nat}(h:i<256):zry[i]?=some (.bool false):=by
 unfold zry
 rw[ycl,if_pos h]
theorem zuI:zF yb9 151=some (.agg zry):=by kernel_rfl
attribute [simp] zuI
def zec:List UInt8→List AV→List AV
 | [],cs=>cs
 | c::r,cs=>zec r (splice cs c.toNat [.bool true])
def zht(l:List UInt8):List AV:=zec l zry
theorem zhu:∀(l:List UInt8) (cs:List AV),cs.length=256→(zec l cs).length=256
 | [],cs,h=>h
 | c::r,cs,h=>by
  have:=c.toNat_lt
  rw[zec]
  refine zhu r _ ?_
  simp only[splice,yab,ybf,yac,ybl,yci]
  omega
theorem zdc(l:List UInt8):(zht l).length=256:=zhu l _ zcg
theorem zlf{cs:List AV}{i j:Nat}{v:AV}(hi:i<cs.length):(splice cs i [v])[j]?=if j=i then some v else cs[j]?:=by
 unfold splice
 by_cases h:j<i
 ·rw[ycG,List.getElem?_append_left (by simp;omega),List.getElem?_take_of_lt h,if_neg (by omega)]
 ·by_cases h2:j=i
  ·subst h2
   rw[ycG,yaI (by simp;omega)]
   have:j-(cs.take j).length=0:=by simp;omega
   rw[this];simp
  ·rw[yaI (by simp;omega),if_neg h2,List.getElem?_drop]
   congr 1
   simp;omega
theorem zhv:∀(l:List UInt8) (cs:List AV) (b:UInt8),cs.length=256→(zec l cs)[b.toNat]?=if l.contains b=true then some (.bool true)else cs[b.toNat]?
 | [],cs,b,h=>by simp[zec]
 | c::r,cs,b,h=>by
  have hc:=c.toNat_lt
  rw[zec,zhv r _ b (by simp only[splice,yab,ybf,yac,ybl,yci];omega),zlf (by omega)]
  by_cases h1:r.contains b=true
  ·simp[h1]
   simp at h1
   simp[h1]
  ·by_cases h2:b=c
   ·subst h2;simp
   ·have:¬b.toNat=c.toNat:=fun e=>h2 (UInt8.toNat_inj.1 e)
    simp at h1
    simp[h1,h2,this]
theorem zrA(l:List UInt8)(b:UInt8):(zht l)[b.toNat]?=some (.bool (inS l b)):=by
 have:=b.toNat_lt
 rw[zht,zhv l _ b zcg,zrz this]
 unfold inS
 cases l.contains b<;>rfl
theorem zhw{cs:List AV}{i:Nat}{v:AV}(h:∀x∈cs,x.one=true)(hv:v.one=true):∀x∈splice cs i [v],x.one=true:=by
 intro x hx
 unfold splice at hx
 simp only[ybh,ycD]at hx
 rcases hx with (hx|hx)|hx
 ·exact h x (List.mem_of_mem_take hx)
 ·rw[hx];exact hv
 ·exact h x (List.mem_of_mem_drop hx)
theorem zhx:∀(l:List UInt8) (cs:List AV),(∀x∈cs,x.one=true)→∀x∈zec l cs,x.one=true
 | [],_,h=>h
 | c::r,cs,h=>zhx r _ (zhw h rfl)
theorem ziK(l:List UInt8):∀x∈zht l,x.one=true:=zhx l _ fun x hx=>by rw[(ycH.1 hx).2];rfl
theorem zgt:ycg 256 zry=[]:=ycE (by rw[zcg];exact yah _)
section
variable {G : Env} {σ : AS} {R : Out → AS → Prop}
def AsI(l:List UInt8)(σ:AS)(a:Nat→AV)(τ:AS):Prop:=∃(d r:List UInt8),l=d++r∧a 0=.str l∧a 2=.ptr σ.no 0∧a 4=.int .i64 (d.length:Int)∧zf σ τ∧σ.no<τ.no∧∃cs,cs.length=256∧(∀x∈cs,x.one=true)∧τ.objs σ.no=some cs∧zec r cs=zht l
theorem zch{l:List UInt8}(hl:∀c∈l,c.toNat<128)(hL:l.length≤1000)(h:∀σ',zf σ σ'→R (.ret (.tuple [.agg (zht l),.bool true])) σ'):zzQ G 122 [.str l] σ R:=by
 refine zqp rfl ?_
 simp[zxz]
 refine zI (AsI l σ) (MU 4 (l.length+1)) ⟨[],l,rfl,by simp,by simp,by simp,(zf.refl σ).newO,by simp,zry,zcg,fun x hx=>by rw[(ycH.1 hx).2];rfl,by simp,rfl⟩ fun a τ hI=>?_
 obtain⟨d,r,hlr,a0,a2,a4,hA,hno,cs,hcs,hone,ho,he⟩:=hI
 cases r with
 | nil =>
  have hd:d=l:=by simp[hlr]
  subst hd
  have hlt:¬((d.length:Int)<(d.length:Int)):=by omega
  have e1:cs=zht d:=he
  subst e1
  have ht:ycI 256 (zht d)=zht d:=yco (by rw[hcs];exact yah _)
  simp[zik,zlL,a0,a2,a4,hlt,ho,hcs,splice,ht]
  exact⟨hone,h _ (hA.setO (yah _))⟩
 | cons c r =>
  have hc:=hl c (by simp[hlr])
  have hlt:(d.length:Int)<(l.length:Int):=by simp[hlr];omega
  have hi:l[d.length]?=some c:=by simp[hlr]
  have hc2:¬(128:Int)≤(c.toNat:Int):=by omega
  have w1:yb4 .i64 ((d.length:Int)+1)=((d.length+1:Nat):Int):=by rw[wrap_i64]<;>omega
  simp[zik,a0,a2,a4,hlt,ho,hcs,hi,hc2,w1]
  refine⟨by omega,by omega,⟨d++[c],r,by simp[hlr],by simp[a0],by simp[a2],by simp,hA.setO (yah _),by simpa using hno,_,?_,zhw hone rfl,by simp,he⟩,?_⟩
  ·simp only[splice,yab,ybf,yac,ybl,yci]
   omega
  ·simp[MU,a4];omega
theorem zgu{l:List UInt8}{o:Nat}{b:UInt8}(ho:σ.objs o=some (zht l))(h:R (.ret (.bool (inS l b))) σ):zzQ G 172 [.ptr o 0,.int .u8 (b.toNat:Int)] σ R:=by
 refine zqO rfl ?_
 have hb:=b.toNat_lt
 have hb':(b.toNat:Int)<256:=by omega
 have hp:=zrA l b
 simp[zxP,ho,hb',hp]
 simpa using h
def TlI(l s:List UInt8)(o:Nat)(σ:AS)(a:Nat→AV)(τ:AS):Prop:=∃r:List UInt8,r.dropWhile (inS l)=s.dropWhile (inS l)∧a 0=.str r∧a 1=.ptr o 0∧τ=σ
def zDh(a:Nat→AV)(_:AS):Nat:=match a 0 with
 | .str r=>r.length
 | _=>0
theorem ze9{l s:List UInt8}{o:Nat}(ho:σ.objs o=some (zht l))(h:R (.ret (.str (s.dropWhile (inS l)))) σ):zzQ G 123 [.str s,.ptr o 0] σ R:=by
 refine zqq rfl ?_
 simp[zxA]
 refine zI (TlI l s o σ) zDh ⟨s,rfl,by simp,by simp,rfl⟩ fun a τ hI=>?_
 obtain⟨r,hr,a0,a1,rfl⟩:=hI
 cases r with
 | nil =>
  simp[zil,zim,a0,a1]
  rw[←hr]at h
  exact h
 | cons c r =>
  simp[zil,zim,a0,a1]
  refine zgu ho ?_
  rw[ycJ]at hr
  cases hc:inS l c with
  | true =>
   rw[if_pos hc]at hr
   simp[hc,a0,a1]
   exact⟨by omega,⟨r,hr,by simp,by simp[a1],rfl⟩,by simp[zDh,a0]⟩
  | false =>
   rw[if_neg (by simp[hc])]at hr
   rw[←hr]at h
   simp[hc,a0,a1]
   exact h
theorem zlg{l s:List UInt8}(hl:∀c∈l,c.toNat<128)(h2:2≤l.length)(hL:l.length≤1000)(h:∀σ',zf σ σ'→R (.ret (.str (s.dropWhile (inS l)))) σ'):zzQ G 167 [.str s,.str l] σ R:=by
 refine zqL rfl ?_
 have hne:¬l=[]:=by intro e;rw[e]at h2;simp at h2
 have h1:¬(l.length:Int)=1:=by omega
 cases s with
 | nil =>
  simp[zuo]
  exact h _ (.refl _)
 | cons c s =>
  simp[zuo,hne,h1]
  refine zch hl hL fun σ1 A1=>?_
  have ht:ycI 256 (zht l)=zht l:=yco (by rw[zdc];exact yah _)
  have hl6:=zdc l
  simp[hl6,splice,ht,zcg,zgt]
  refine⟨ziK l,ze9 (l:=l) (by simp) ?_⟩
  simp
  exact h _ (A1.newO.setO A1.no)
def zfq(p:UInt8→Bool)(s:List UInt8):List UInt8:=(s.reverse.dropWhile p).reverse
theorem zm5(p:UInt8→Bool)(s:List UInt8)(c:UInt8):zfq p (s++[c])=if p c=true then zfq p s else s++[c]:=by
 unfold zfq
 rw[ycu]
 simp only[List.reverse_cons,List.reverse_nil,List.nil_append,List.singleton_append,ycJ]
 split<;>simp
def TrI(l s:List UInt8)(o:Nat)(σ:AS)(a:Nat→AV)(τ:AS):Prop:=∃r:List UInt8,r.length≤s.length∧zfq (inS l) r=zfq (inS l) s∧a 0=.str r∧a 1=.ptr o 0∧τ=σ
theorem zj1{l s:List UInt8}{o:Nat}(hs:s.length<2^62)(ho:σ.objs o=some (zht l))(h:R (.ret (.str (zfq (inS l) s))) σ):zzQ G 124 [.str s,.ptr o 0] σ R:=by
 refine zqr rfl ?_
 simp[zxB]
 refine zI (TrI l s o σ) zDh ⟨s,yah _,rfl,by simp,by simp,rfl⟩ fun a τ hI=>?_
 obtain⟨r,hrl,hr,a0,a1,rfl⟩:=hI
 rcases ybL r with rfl|⟨r',c,rfl⟩
 ·simp[zin,zio,a0,a1]
  rw[←hr]at h
  exact h
 ·rw[ycK]at *
  have w1:yb4 .i64 (r'.length:Int)=(r'.length:Int):=by rw[wrap_i64]<;>simp at hrl<;>omega
  have hlt:(0:Int)<(r'.length:Int)+1:=by omega
  simp[zin,zio,a0,a1,w1,hlt]
  refine zgu ho ?_
  rw[zm5]at hr
  cases hc:inS l c with
  | true =>
   rw[if_pos hc]at hr
   simp[hc,a0,a1,w1]
   exact⟨by omega,⟨r',by simp at hrl;omega,hr,by simp,by simp[a1],rfl⟩,by simp[zDh,a0]⟩
  | false =>
   rw[if_neg (by simp[hc])]at hr
   rw[←hr]at h
   simp[hc,a0,a1]
   exact h
def zj2(l s:List UInt8):List UInt8:=(zfq (inS l) s).dropWhile (inS l)
theorem zcV{p:UInt8→Bool}:∀{s:List UInt8},s.dropWhile p=[]↔s.all p=true
 | []=>by simp
 | c::r=>by
  rw[ycJ]
  cases h:p c with
  | true=>simp only[if_true,yca,h,Bool.true_and];exact zcV
  | false=>simp[h]
theorem zbY(l s:List UInt8):zj2 l s=[]↔s.all (inS l)=true:=by
 unfold zj2
 rw[zcV]
 constructor
 ·intro h
  have hd:∀c∈zfq (inS l) s,inS l c=true:=yaM.1 h
  rcases ybL (zfq (inS l) s)with e|⟨d,x,e⟩
  ·unfold zfq at e
   rw[List.reverse_eq_nil_iff,zcV]at e
   rw[yaM]at e ⊢
   exact fun c hc=>e c (by simpa using hc)
  ·rw[ycK]at e
   have hx:inS l x=true:=hd x (by rw[e];simp)
   have e2:s.reverse.dropWhile (inS l)=x::d.reverse:=by
    have:=congrArg List.reverse e
    unfold zfq at this
    simpa using this
   have:=List.head?_dropWhile_not (inS l) s.reverse
   rw[e2]at this
   simp at this hx
   rw[this]at hx;cases hx
 ·intro h
  rw[yaM]at h ⊢
  intro c hc
  unfold zfq at hc
  rw[List.mem_reverse]at hc
  exact h c (by have:=(ycb _).mem hc;simpa using this)
theorem zeN{l s:List UInt8}(hl:∀c∈l,c.toNat<128)(h2:2≤l.length)(hL:l.length≤1000)(hs:s.length<2^62)(h:∀σ',zf σ σ'→R (.ret (.str (zj2 l s))) σ'):zzQ G 62 [.str s,.str l] σ R:=by
 refine zt7 rfl ?_
 have hne:¬l=[]:=by intro e;rw[e]at h2;simp at h2
 have h1:¬(l.length:Int)=1:=by omega
 cases s with
 | nil =>
  simp[zD6]
  exact h _ (.refl _)
 | cons c s =>
  simp[zD6,hne,h1]
  refine zch hl hL fun σ1 A1=>?_
  have ht:ycI 256 (zht l)=zht l:=yco (by rw[zdc];exact yah _)
  have hl6:=zdc l
  simp[hl6,splice,ht,zcg,zgt]
  refine⟨ziK l,zj1 (l:=l) hs (by simp) ?_⟩
  simp
  refine ze9 (l:=l) (by simp) ?_
  simp
  exact h _ (A1.newO.setO A1.no)
def zkk(l s:List UInt8):Int:=match s.findIdx? (inS l)with
 | some i=>i
 | none=>-1
def IaI(l s:List UInt8)(σ:AS)(σ1:AS)(a:Nat→AV)(τ:AS):Prop:=∃(d r:List UInt8),s=d++r∧(∀c∈d,inS l c=false)∧a 0=.str s∧a 6=.ptr σ1.no 0∧a 8=.int .i64 (d.length:Int)∧τ=(σ1.newO zry).setO σ1.no (zht l)
theorem zoA{l d r:List UInt8}{c:UInt8}(hd:∀c∈d,inS l c=false)(hc:inS l c=true):zkk l (d++c::r)=d.length:=by
 unfold zkk
 rw[List.findIdx?_append,ycL.2 hd]
 simp[List.findIdx?_cons,hc]
theorem zj3{l s:List UInt8}(h:∀c∈s,inS l c=false):zkk l s=-1:=by
 unfold zkk
 rw[ycL.2 h]
theorem zgv{l s:List UInt8}(hl:∀c∈l,c.toNat<128)(h2:2≤l.length)(hL:l.length≤1000)(h8:8<s.length)(hs:s.length<2^62)(h:∀σ',zf σ σ'→R (.ret (.int .i64 (zkk l s))) σ'):zzQ G 168 [.str s,.str l] σ R:=by
 refine zlS rfl ?_
 have hne:¬l=[]:=by intro e;rw[e]at h2;simp at h2
 have h1:¬(l.length:Int)=1:=by omega
 have h8':(8:Int)<(s.length:Int):=by omega
 simp[zup,hne,h1]
 refine zlZ rfl ?_
 simp[zur,h8']
 refine zch hl hL fun σ1 A1=>?_
 have ht:ycI 256 (zht l)=zht l:=yco (by rw[zdc];exact yah _)
 have hl6:=zdc l
 simp[hl6,splice,ht,zcg,zgt]
 refine⟨ziK l,?_⟩
 have A2:zf σ ((σ1.newO zry).setO σ1.no (zht l)):=A1.newO.setO A1.no
 refine zI (IaI l s σ σ1) (MU 8 (s.length+1)) ⟨[],s,rfl,by simp,by simp,by simp,by simp,rfl⟩ fun a τ hI=>?_
 obtain⟨d,r,hsr,hd,a0,a6,a8,rfl⟩:=hI
 cases r with
 | nil =>
  have e:d=s:=by simp[hsr]
  subst e
  simp[zis,zlP,a0,a6,a8]
  rw[←zj3 hd]
  exact h _ A2
 | cons c r =>
  have hlt:(d.length:Int)<(s.length:Int):=by simp[hsr];omega
  have hi:s[d.length]?=some c:=by simp[hsr]
  have w1:yb4 .i64 ((d.length:Int)+1)=((d.length+1:Nat):Int):=by rw[wrap_i64]<;>omega
  simp[zis,a0,a6,a8,hlt,hi]
  refine zgu (l:=l) (by simp) ?_
  cases hc:inS l c with
  | true =>
   simp[hc,a0,a6,a8]
   have:=zoA (r:=r) hd hc
   rw[hsr]at h
   rw[←this]
   exact h _ A2
  | false =>
   simp[hc,a0,a6,a8,w1]
   refine⟨⟨d++[c],r,by simp[hsr],?_,by simp[a0],by simp[a6],by simp,rfl⟩,?_⟩
   ·intro x hx
    rcases ybh.1 hx with hx|hx
    ·exact hd x hx
    ·simp at hx;subst hx;exact hc
   ·simp[MU,a8];omega
end
structure zbn(G:Env):Prop where
 pow:G.fix 9=some (Lib.pow10Tab.map fun z=>Value.int .u64 z).toArray
 errR:∃t v,G.g 6=.pv (.stat true) (.iface t v)
 space:G.g 0=.pv (.stat true) (.agg zdL)
section
variable {G : Env} {σ : AS} {R : Out → AS → Prop}
theorem zfa{s p:List UInt8}(h:R (.ret (.bool (decide (p.length≤s.length∧s.take p.length=p)))) σ):zzQ G 199 [.str s,.str p] σ R:=by
 refine zq2 rfl ?_
 by_cases hl:p.length≤s.length
 ·have hl':(p.length:Int)≤(s.length:Int):=by omega
  simp[zuq,hl']
  simpa [hl]using h
 ·have hl':¬(p.length:Int)≤(s.length:Int):=by omega
  simp[zuq,hl']
  simpa [hl]using h
def zg4(p s:List UInt8):Bool:=decide (p.length≤s.length∧s.take p.length=p)
theorem zgw(c:UInt8)(s:List UInt8):zg4 [c] s=decide (s.head?=some c):=by
 cases s with
 | nil=>simp[zg4]
 | cons d s=>simp[zg4,eq_comm]
theorem zfb{s p:List UInt8}(h:R (.ret (.tuple [.str (if zg4 p s=true then s.drop p.length else s),.bool (zg4 p s)])) σ):zzQ G 116 [.str s,.str p] σ R:=by
 refine zqk rfl ?_
 simp[zxw]
 refine zqM rfl ?_
 simp[zxN]
 refine zfa ?_
 rw[show decide (p.length≤s.length∧s.take p.length=p)=zg4 p s from rfl]
 cases hp:zg4 p s with
 | false =>
  rw[hp]at h
  simp
  simpa using h
 | true =>
  rw[hp]at h
  have hl:p.length≤s.length:=(of_decide_eq_true hp).1
  simp
  exact⟨by omega,by simpa using h⟩
theorem ziL{s p:List UInt8}(h:R (.ret (.str (if zg4 p s=true then s.drop p.length else s))) σ):zzQ G 113 [.str s,.str p] σ R:=by
 refine zqi rfl ?_
 simp[zxu]
 refine zqK rfl ?_
 simp[zxM]
 refine zfa ?_
 rw[show decide (p.length≤s.length∧s.take p.length=p)=zg4 p s from rfl]
 cases hp:zg4 p s with
 | false =>
  rw[hp]at h
  simp
  simpa using h
 | true =>
  rw[hp]at h
  have hl:p.length≤s.length:=(of_decide_eq_true hp).1
  simp
  exact⟨by omega,by simpa using h⟩
theorem zuJ{M:Mp}{F:Nat→FSt}{w:World}{v:AV}{cargs:Array Value}(hc:Cells M F w [v] cargs):∃c,cargs=#[c]∧VR M F w v c:=by
 obtain⟨c0,e0,v0⟩:=hc.2 0 _ rfl
 refine⟨c0,?_,v0⟩
 have hsz:cargs.size=1:=hc.1
 apply ycv
 ·simpa using hsz
 ·intro i h1 h2
  match i,h1 with
  | 0,_=>simpa using (yaU.1 e0).2
  | i+1,h=>omega
theorem zuK{M:Mp}{F:Nat→FSt}{w:World}{v u:AV}{cargs:Array Value}(hc:Cells M F w [v,u] cargs):∃c d,cargs=#[c,d]∧VR M F w v c∧VR M F w u d:=by
 obtain⟨c0,e0,v0⟩:=hc.2 0 _ rfl
 obtain⟨c1,e1,v1⟩:=hc.2 1 _ rfl
 refine⟨c0,c1,?_,v0,v1⟩
 have hsz:cargs.size=2:=hc.1
 apply ycv
 ·simpa using hsz
 ·intro i h1 h2
  match i,h1 with
  | 0,_=>simpa using (yaU.1 e0).2
  | 1,_=>simpa using (yaU.1 e1).2
  | i+2,h=>omega
theorem zdd(V:zbn G){n:Int}(hn:-(2^63)≤n∧n<2^63)(h:R (.ret (.str (Lib.itoa n))) σ):zzQ G 64 [.int .i64 n] σ R:=by
 refine ACalls.of_below fun M w cargs S g hc=>?_
 obtain⟨c,rfl,hv⟩:=zuJ hc
 rw[hv.int_inv]
 obtain⟨_,t,fr,hh⟩:=g.fixed 9 _ V.pow
 have hn9 : Tryz.prog.globalNamed "internal/strconv.uint64pow10" = some 9 := by kernel_rfl
 have htab : Lib.TabIs Tryz.prog w "internal/strconv.uint64pow10" .u64 Lib.pow10Tab := by simp [Lib.TabIs, World.var?, hn9, hh]
 refine(Tryz.strconv_Itoa n (by omega) (by omega) w htab).mono fun e w' ⟨he,k,os,hw'⟩=>?_
 subst he hw'
 exact⟨⟨.str (Lib.itoa n),_,rfl,fun M F w=>VR.str' rfl,h⟩,Lib.below_grow _ w (yah _) k os⟩
theorem zm6(V:zbn G){t:List UInt8}(h0:zbj t≠[])(h1:(zbj t).all zQ=true)(hl:t.length<2^40)
  (hs:∀n,Lib.atoiAll t=.ok n→R (.ret (.tuple [.int .i64 n,.nilif])) σ) (hr:Lib.atoiAll t=.range→∀k,R (.ret (.tuple [.int .i64 k,.iface 238 .undef])) σ):zzQ G 114 [.str t] σ R:=by
 refine ACalls.of_below fun M w cargs S g hc=>?_
 obtain⟨c,rfl,hv⟩:=zuJ hc
 obtain⟨b,rfl,rfl⟩:=hv.str_inv
 have hbl:b.size=b.data.toList.length:=by simp
 cases hq:Lib.atoiAll b.data.toList with
 | ok n =>
  refine(Tryz.strconv_Atoi_ok b (by omega) n hq w).mono fun e w' ⟨he,hw'⟩=>?_
  subst he
  refine⟨⟨.tuple [.int .i64 n,.nilif],_,rfl,fun M F w=>.tuple _ _ rfl fun j h h'=>?_,hs n hq⟩,?_⟩
  ·match j,h with
   | 0,_=>exact .int ..
   | 1,_=>exact .nilif
  ·rcases hw' with rfl|⟨t,rfl⟩
   ·exact RowKit.Below.refl _ _
   ·exact⟨rfl,rfl,rfl,by rw[Lib.bytesWorld_size];omega,fun k hk=>Lib.bytesWorld_at_old w 5 t k hk⟩
 | range =>
  obtain⟨te,v,he6⟩:=V.errR
  have h6:=g.vars 6
  rw[he6]at h6
  obtain⟨ev,hcell,hev⟩:∃ev,w.cell? ⟨6,0,none⟩=some ev∧(ev=.nilIface∨∃te pe,ev=.iface te pe):=by
   cases h6 with
   | pv φ v B off cs hmem hc hv =>
    have h1:=hc trivial 0 (by simp[AV.cells])
    have h2:=hv trivial 0 (by simp[AV.cells])
    simp only[AV.cells,List.getElem_cons_zero]at h2
    generalize cs 0=c at h1 h2
    cases h2
    exact⟨_,h1,.inr ⟨_,_,rfl⟩⟩
  refine(Tryz.strconv_Atoi_range b (by omega) hq ev w hcell hev).mono fun e w' ⟨N,he,_,_,hb⟩=>?_
  subst he
  refine⟨⟨.tuple [.int .i64 (Lib.atoiSat b.data.toList),.iface 238 .undef],_,rfl,fun M F w=>.tuple _ _ rfl fun j h h'=>?_,hr hq _⟩,hb⟩
  match j,h with
  | 0,_=>exact .int ..
  | 1,_=>exact .iface _ _ _ (.undef _)
 | _ =>
  rw[zog h0 h1]at hq
  split at hq<;>cases hq
theorem zed{s:List UInt8}{c:UInt8}(hc:c.toNat<128)(h:R (.ret (.bool (s.contains c))) σ):zzQ G 170 [.str s,.int .i32 (c.toNat:Int)] σ R:=by
 refine ACalls.of_below fun M w cargs S g hcc=>?_
 obtain⟨x,y,rfl,hv,hu⟩:=zuK hcc
 obtain⟨b,rfl,rfl⟩:=hv.str_inv
 rw[hu.int_inv]
 refine(Tryz.strings_ContainsRune_ascii b (c.toNat:Int) w (by omega) (by omega)).mono fun e w' ⟨he,hw'⟩=>?_
 subst he hw'
 refine⟨⟨.bool _,_,rfl,fun M F w=>.bool _,?_⟩,RowKit.Below.refl _ _⟩
 have e0:∀l:List UInt8,(0≤Lib.indexByte l c)↔c∈l:=fun l=>by
  induction l with
  | nil=>simp[Lib.indexByte]
  | cons x l ih =>
   have hge:=Lib.indexByte_ge l c
   by_cases hx:x=c
   ·subst hx;simp[Lib.indexByte]
   ·have hx':¬c=x:=fun e=>hx e.symm
    simp only[Lib.indexByte,beq_iff_eq,hx,if_false,ybC,hx',false_or,←ih]
    split<;>omega
 have e:decide (0≤Lib.indexByte b.data.toList ((c.toNat:Int).toNat.toUInt8))=b.data.toList.contains c:=by
  have e1:((c.toNat:Int).toNat.toUInt8)=c:=by simp
  rw[e1,Bool.eq_iff_iff]
  simp[e0]
 rw[e]
 exact h
end
end Go.Proofs.YtohfclafhegadaaGreatDoor
namespace Go.Proofs.YtohfclafhegadaaGreatDoor
open Go Go.Abs Go.Shelf Go.RowKit Go.Lib
set_option maxHeartbeats 1000000 in
theorem zm7(r:Int)(w:World)(h1:128≤r)(h2:r≤1114111)(h3:r<55296∨57343<r):
  Calls yb9 236 #[.int .i32 r] w fun e w'=>e=.returned (.bool true)∧w'=w:=by
 by_cases h4:r<55296
 ·go_enter ycM,ycN
  go_wp2
  go_ret
  exact⟨rfl,rfl⟩
 ·have h5:57343<r:=by omega
  go_enter ycM,ycN
  go_wp2
  go_ret
  exact⟨rfl,rfl⟩
theorem zoB:∀{l:List UInt8} {c:UInt8},(∀b∈l,b≠c)→Lib.indexByte l c=-1
 | [],_,_=>rfl
 | x::l,c,h=>by
  have hx:¬x=c:=h x (by simp)
  have ih:=zoB (l:=l) (c:=c) fun b hb=>h b (by simp[hb])
  simp[Lib.indexByte,hx,ih]
set_option maxHeartbeats 2000000 in
theorem zrB(s:ByteArray)(r:Int)(w:World)(h1:128≤r)(h2:r≤1114111)(h3:r<55296∨57343<r)(h4:r≠65533)(hs:∀(j:Nat) b,s.data.toList[j]?=some b→b.toNat<128):
  Calls yb9 205 #[.string s,.int .i32 r] w fun e w'=>e=.returned (.int .i64 (-1))∧Below w.heap.size w w':=by
 have e236:∀args w,(callFunc 236 args).run yb9 w=.ok (.enter 236 args) w:=enters_of ycM (by kernel_rfl) rfl
 have e227:∀args w,(callFunc 227 args).run yb9 w=.ok (.enter 227 args) w:=enters_of Tryz.func227 (by kernel_rfl) rfl
 have HA:Aside (∀(j:Nat) b,s.data.toList[j]?=some b→b.toNat<128):=hs
 clear hs
 obtain⟨q1,q2,q3⟩:=encode_facts r (by rw[validRune_eq];unfold validRune;exact decide_eq_true (by omega)) h1
 generalize hrs:Utf8.encode r=rs at q1 q2 q3
 obtain⟨n,hn⟩:∃n,rs.size=n+1:=⟨rs.size-1,by omega⟩
 have hz:(rs.size:Int)-1=(n:Int):=by omega
 have hnr:n<rs.size:=by omega
 have q4:128≤(rs[n]'hnr).toNat:=by
  have:=q3 (by omega)
  simpa [hn]using this
 clear q3
 go_enter ycO,ycP
 go_wp2_with (go_at_fn 236;refine(zm7 r _ h1 h2 h3).mono ?_;rintro e w' ⟨rfl,hw⟩;rw[hw])
 subst hw
 go_step3
 go_wp2
 go_loopg [4,9,10,11,12] 0 (fun g _ v9 _ _ _ wx=>v9=.int .i64 (n:Int)∧wx=w')
 case atStart=>exact⟨rfl,rfl⟩
 case round =>
  obtain⟨rfl,rfl⟩:=hrel
  by_cases hlt:n<s.size
  ·have hlt':(n:Int)<(s.size:Int):=by omega
   go_wp2
   go_step3
   go_wp2
   have hnr':(n:Int)<(rs.size:Int):=by omega
   have hne:(((s[n]'hlt).toNat:Int) != ((rs[n]'hnr).toNat:Int))=true:=by
    have:=HA.out n (s[n]'hlt) (Lib.data_getElem? s n hlt)
    simp only[bne_iff_ne,ne_eq]
    omega
   have hib:∀a e:Nat,Lib.indexByte (s.extract a e).data.toList (((rs[n]'hnr).toNat:Int).toNat.toUInt8)=-1:=fun a e=>zoB fun b hb q=>by
    obtain⟨j,hj,e⟩:=ya9 (mem_extract hb)
    have:=HA.out j b (by rw[yau hj,e])
    rw[q]at this
    simp at this
    omega
   have hle1:((n:Int)+1)≤(s.size:Int):=by omega
   have hle2:n+1≤s.size:=by omega
   have hwr:yb4 .i64 ((n:Int)+1)=(n:Int)+1:=by rw[Go.Abs.wrap_i64]<;>omega
   have hn3:(n:Int)≤3:=by omega
   have hle0:(0:Int)≤(n:Int)+1:=by omega
   have hle3:(0:Int)≤(n:Int)+1∧(n:Int)+1≤(s.size:Int):=⟨hle0,hle1⟩
   clear hn hz hrs q1 q2
   go_region
   go_wp2
   go_region_with (go_at_call 227;refine(Tryz.strings_IndexByte _ _ _).mono ?_;rintro e w' ⟨rfl,hw⟩;rw[hw,hib])
   go_wp2
   try rw[Exit.noGoto_ret]
   go_wp2
   try rw[Exit.noGoto_ret]
   go_ret
   exact⟨rfl,((Below.refl _ _).drew).drew⟩
  ·have hlt':¬(n:Int)<(s.size:Int):=by omega
   go_wp2
   go_ret
   exact⟨rfl,.refl ..⟩
set_option maxHeartbeats 2000000 in
theorem zuL(s:ByteArray)(w:World)(hs:∀(j:Nat) b,s.data.toList[j]?=some b→b.toNat<128):
  Calls yb9 205 #[.string s,.int .i32 65533] w fun e w'=>e=.returned (.int .i64 (-1))∧Below w.heap.size w w':=by
 have HA:Aside (∀(j:Nat) b,s.data.toList[j]?=some b→b.toNat<128):=hs
 clear hs
 go_enter ycO,ycP
 go_wp2
 go_loopg [4,5,6] s.size (fun g _ _ _ wx=>∃i:Nat,i+g=s.size∧wx=w.iter s i)
 case atStart=>exact⟨0,by omega,rfl⟩
 case round =>
  obtain⟨i,hig,rfl⟩:=hrel
  cases gk with
  | zero =>
   obtain rfl:i=s.size:=by omega
   have hnx:=run_next_end (P:=yb9) w s s.size
   go_wp2
   try rw[Exit.noGoto_ret]
   go_ret
   exact⟨rfl,(Below.refl _ _).alloc (yah _) _⟩
  | succ g =>
   have hi:i<s.size:=by omega
   obtain⟨x,hx⟩:∃x:UInt8,s[i]'hi=x:=⟨_,rfl⟩
   have hxl:s.data.toList[i]?=some x:=by rw[←hx];exact Lib.data_getElem? s i hi
   have hx128:x.toNat<128:=HA.out i x hxl
   have hnx:=fun ty=>run_next_ascii (P:=yb9) w s i ty hi (by rw[hx];exact hx128)
   rw[hx]at hnx
   have hxe:((x.toNat:Int)==65533)=false:=by rw[beq_eq_false_iff_ne];omega
   clear hxl hx
   go_wp2
   go_roundg g
   case measure=>omega
   case rel=>exact⟨i+1,by omega,rfl⟩
end Go.Proofs.YtohfclafhegadaaGreatDoor
