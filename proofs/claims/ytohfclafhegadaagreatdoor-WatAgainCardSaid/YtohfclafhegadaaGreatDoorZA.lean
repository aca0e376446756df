/- Parts of the proof of the row WatAgain: contracts of functions, each under the conditions that its theorem names. -/
import Derived.Test.YtohfclafhegadaaGreatDoorAbsB
import Derived.Lib.IndexMore
import Derived.Lib.AtoiAll
import Derived.Lib.ItoaNum
import Derived.Test.YtohfclafhegadaaGreatDoorGenP
import Derived.Test.YtohfclafhegadaaGreatDoorShelf
set_option linter.unusedSimpArgs false
set_option linter.unusedVariables false
set_option maxRecDepth 100000
open List renaming replicate→yaj,all_cons→yca,all_append→ycb,head?_cons→ycc,dropWhile_sublist→ycd,length_cons→yac,length_nil→ybl,length→yce,takeWhile_append_dropWhile→ycf,length_append→yab,getD_eq_getElem?_getD→ycg,mem_append→ybh,flatMap_cons→yaa,drop_eq_nil_iff→ych,getElem?_eq_none→yb2,drop→yci,drop_drop→ycj,getElem?_eq_some_iff→yaq,length_drop→yck,length_eq_zero_iff→ybS,map_cons→yaL,sum_cons→ycl,getElem?_replicate→ycn,length_take→ybf,getElem?_eq_getElem→yau,all_eq_true→yaM,getElem_mem→yaw,mem_cons→ybC,take_succ_eq_append_getElem→ycp,take_length→ycq,cons_append→yct,length_pos_iff→ybm,drop_eq_getElem_cons→ycu,reverse_append→ycw,mem_of_getElem?→ycx,mem_flatMap→ycA,all_eq_false→ycB,mem_iff_getElem→ycC,getElem_take→yaE,replicate_succ→ycD,length_map→ybb,not_mem_nil→ycE,mem_map→yaV,mem_singleton→ycF,drop_eq_nil_of_le→ycG,length_replicate→yba,dropWhile_cons→ycH,contains_cons→ycI,contains_nil→ycJ,nil_append→ycK,append_nil→yb7,append_assoc→ycL,map_nil→ycM,getElem?_append_right→yaI,prefix_refl→ycN,prefix_append→ycO,mem_replicate→ycQ,take→ycR,take_of_length_le→ycS,eq_nil_or_concat→ybL,concat_eq_append→ycT,findIdx?_eq_none_iff→ycU
open Nat renaming le_refl→yah,strongRecOn→ybI,zero_le→ycm,add_sub_cancel→yco,le_trans→yai,lt_of_lt_of_le→yag,le_succ_of_le→ycP
open Option renaming some→yaR,isSome_iff_exists→yay,map_eq_some_iff→ybB
open Array renaming getElem?_eq_some_iff→yaU
open Go.Proofs.Tryz renaming prog→yb9
open Go.IntKind renaming wrap→yb4,signed→yao,bits→yap,i64→yam
open Go.Abs.AV renaming str→ycr,int→ycs,ptr→ycv,agg→ycy,nilsl→ycz
namespace Go.Proofs.YtohfclafhegadaaGreatDoor
open Go Go.Abs
structure W where
 op:Int
 ty:Int
 n:Int
 body:Int
 other:Int
 name:List UInt8
deriving DecidableEq
abbrev To:=List (List W)
structure F where
 name:List UInt8
 params:List Int
 locals:List Int
 type:Int
 lists:To
structure M where
 funcs:List F
 memory:Int
 main:Int
structure St where
 stack:List Int
 any:Bool
abbrev Res:=Except Int
def zd9(s:St):Res St :=
 if s.stack.length=0 then(if s.any then .ok s else .error 14)else .ok { s with stack:=s.stack.dropLast }
def z7:List Int→St→Res St
 | [],s=>.ok s
 | t::ts,s=>if s.stack.length=0∨s.stack.getLast?=some t then
   match zd9 s with
   | .ok s'=>z7 ts s'
   | .error e=>.error e
  else .error 14
def zeG(s:St)(t:Int):St:=if t=0 then s else { s with stack:=s.stack++[t] }
def zk1:St:=⟨[],true⟩
def zC(ty:Int)(s:St):Res St:=if ty=0 then .ok s else z7 [ty] s
def zab(t:Int):Bool:=decide (t=1)||decide (t=2)
def signs:List (List UInt8 × List UInt8):=[
 ([97,100,100],[43]),([115,117,98],[45]),([109,117,108],[42]),([100,105,118,95,115],[47]),([114,101,109,95,115],[37]),([97,110,100],[38]),([111,114],[124]),([120,111,114],[94]),
 ([115,104,108],[60,60]),([115,104,114,95,115],[62,62]),([101,113],[61,61]),([110,101],[33,61]),([108,116,95,115],[60]),([108,101,95,115],[60,61]),([103,116,95,115],[62]),([103,101,95,115],[62,61])]
def zbf:List (List UInt8 × List UInt8)→List UInt8→List UInt8
 | [],_=>[]
 | (x,y)::r,s=>if x=s then y else zbf r s
def zhB(t n:Int):Bool:=decide (t=1)&&(decide (n=1)||decide (n=4))||decide (t=2)&&decide (n=8)
def zce(w:W):Bool :=
 if w.op=1∨w.op=5 then zab w.ty
 else if w.op=4 then zab w.ty&&!(zbf signs w.name==[])
 else if w.op=8∨w.op=9 then zhB w.ty w.n
 else decide (1≤w.op)&&decide (w.op≤18)
def ze7(fs:List F)(n:Int):Option (List Int × Int) :=
 if n=0 then some ([],2)else if n=1 then some ([2],0)else if n=2 then some ([1],0)
 else if n<0 then none else(fs[(n-3).toNat]?).map fun f=>(f.params,f.type)
def zug(t v:Int):Int:=if t=3 then IntKind.i8.wrap v else if t=1 then IntKind.i32.wrap v else if t=2 then v else 0
def zcf(fs:List F)(locals:List Int)(deep:Int)(w:W):Bool :=
 if w.op=1 then decide (zug w.ty w.n=w.n)
 else if w.op=2∨w.op=3 then decide (0≤w.n)&&decide (w.n<(locals.length:Int))
 else if w.op=10 then(ze7 fs w.n).isSome
 else if w.op=14∨w.op=15 then decide (0≤w.n)&&decide (w.n≤deep)
 else true
def ziF(locals:List Int)(n:Int):Int:=locals.getD n.toNat 0
def zra:List UInt8:=[32,101,113,32,110,101,32,108,116,95,115,32,108,101,95,115,32,103,116,95,115,32,103,101,95,115,32]
def zDu(s:List UInt8):Bool:=Lib.contains zra (32::(s++[32]))
def zfo(r:Res St)(t:Int):Res St:=match r with
 | .ok s=>.ok (zeG s t)
 | .error e=>.error e
def ze8(fs:List F)(locals:List Int)(w:W)(s:St):Res St :=
 if w.op=1 then .ok (zeG s w.ty)
 else if w.op=2 then .ok (zeG s (ziF locals w.n))
 else if w.op=3 then z7 [ziF locals w.n] s
 else if w.op=4 then zfo (z7 [w.ty,w.ty] s) (if zDu w.name then 1 else w.ty)
 else if w.op=5 then zfo (z7 [w.ty] s) 1
 else if w.op=6 then zfo (z7 [2] s) 1
 else if w.op=7 then zfo (z7 [1] s) 2
 else if w.op=8 then zfo (z7 [1] s) w.ty
 else if w.op=9 then z7 [w.ty,1] s
 else if w.op=10 then match ze7 fs w.n with
  | some (ts,g)=>zfo (z7 ts.reverse s) g
  | none=>.ok s
 else if w.op=18 then zd9 s
 else .ok s
abbrev zsD:=Int→Int→Res Unit
def zea(fs:List F)(locals:List Int)(ty deep:Int)(look:zsD)(w:W)(s:St):Res St :=
 if zce w=false then .error 2
 else if zcf fs locals deep w=false then .error 11
 else if w.op=11∨w.op=12 then match look w.body (deep+1)with
  | .ok _=>.ok s
  | .error e=>.error e
 else if w.op=13 then match z7 [1] s with
  | .error e=>.error e
  | .ok s1=>match look w.body (deep+1)with
   | .error e=>.error e
   | .ok _=>if 0≤w.other then match look w.other (deep+1)with
     | .error e=>.error e
     | .ok _=>.ok s1
    else .ok s1
 else if w.op=15 then match z7 [1] s with
  | .error e=>.error e
  | .ok s1=>if w.n=deep then zfo (zC ty s1) ty else .ok s1
 else if w.op=14 then if w.n=deep then match zC ty s with
   | .error e=>.error e
   | .ok _=>.ok zk1
  else .ok zk1
 else if w.op=16 then match zC ty s with
  | .error e=>.error e
  | .ok _=>.ok zk1
 else if w.op=17 then .ok zk1
 else ze8 fs locals w s
def zcX(fs:List F)(locals:List Int)(ty deep:Int)(look:zsD):List W→St→Res St
 | [],s=>.ok s
 | w::ws,s=>match zea fs locals ty deep look w s with
  | .error e=>.error e
  | .ok s'=>zcX fs locals ty deep look ws s'
def zDv(ty deep:Int)(s:St):Res Unit:=match (if deep=0 then zC ty s else .ok s)with
 | .error e=>.error e
 | .ok s'=>if s'.stack.length=0 then .ok ()else .error 14
def zg7(fs:List F)(locals:List Int)(ty:Int)(lists:To):Nat→zsD
 | 0,_,_=>.error (-1)
 | k+1,at_,deep=>match zcX fs locals ty deep (zg7 fs locals ty lists k) (lists.getD at_.toNat []) ⟨[],false⟩with
  | .error e=>.error e
  | .ok s=>zDv ty deep s
def zD(w:W):List Int:=if w.op=11∨w.op=12∨(w.op=13∧w.other<0)then [w.body]else if w.op=13 then [w.body,w.other]else []
def zfp(at_:Int)(named:List Bool)(n:Int):Res (List Bool) :=
 if 0≤n∧n<at_∧named.getD n.toNat true=false then .ok (named.set n.toNat true)else .error 11
def zbt(at_:Int):List Int→List Bool→Res (List Bool)
 | [],named=>.ok named
 | n::ns,named=>match zfp at_ named n with
  | .error e=>.error e
  | .ok named'=>zbt at_ ns named'
def zkp(at_:Int):List W→List Bool→Res (List Bool)
 | [],named=>.ok named
 | w::ws,named=>match zbt at_ (zD w) named with
  | .error e=>.error e
  | .ok named'=>zkp at_ ws named'
def zcg:Nat→To→List Bool→Res (List Bool)
 | _,[],named=>.ok named
 | k,l::ls,named=>match zkp (k:Int) l named with
  | .error e=>.error e
  | .ok named'=>zcg (k+1) ls named'
def zdx(ls:To):Res Unit :=
 if ls.length=0 then .error 11 else match zcg 0 ls (yaj ls.length false)with
  | .error e=>.error e
  | .ok named=>if(named.take (ls.length-1)).all (·==true)then .ok ()else .error 11
def zS(fs:List F)(f:F):Res Unit :=
 if((f.params++f.locals).all zab&&decide (0≤f.type)&&decide (f.type≤2))=false then .error 6 else match zdx f.lists with
  | .error e=>.error e
  | .ok _=>zg7 fs (f.params++f.locals) f.type f.lists f.lists.length ((f.lists.length:Int)-1) 0
def zT(fs:List F):List F→Res Unit
 | []=>.ok ()
 | f::r=>match zS fs f with
  | .error e=>.error e
  | .ok _=>zT fs r
def zk2(m:M):Bool:=decide (0≤m.main)&&match m.funcs[m.main.toNat]? with
 | some f=>decide (f.type=1)&&decide (f.params.length=0)
 | none=>false
def zbW(m:M):Res Unit :=
 if(decide (0≤m.memory)&&decide (m.memory≤4096))=false then .error 11 else match zT m.funcs m.funcs with
  | .error e=>.error e
  | .ok _=>if zk2 m then .ok ()else .error 12
def zmR:Res Unit→Int
 | .ok _=>0
 | .error e=>e
def zE(c:UInt8):Bool:=decide (48≤c.toNat)&&decide (c.toNat≤57)
def zfH(acc:Nat)(d:List UInt8):Nat:=d.foldl (fun a c=>a*10+(c.toNat-48)) acc
def zaL(t:List UInt8):List UInt8:=if t.head?=some 45 then t.tail else t
def zjL(t:List UInt8):Int:=if t.head?=some 45 then -(zfH 0 (zaL t):Int)else zfH 0 (zaL t)
def zkq(t:List UInt8):Res Int :=
 if(zaL t).isEmpty||!(zaL t).all zE then .error 2
 else match Lib.atoiAll t with
  | .ok n=>if Lib.itoa n=t then .ok n else .error 11
  | _=>.error 11
theorem zk3(acc:Nat)(x y:List UInt8):zfH acc (x++y)=zfH (zfH acc x) y:=by simp[zfH]
theorem zjM:∀(d:List UInt8) (acc:Nat),acc≤zfH acc d
 | [],acc=>yah _
 | c::d,acc=>by
  have:=zjM d (acc*10+(c.toNat-48))
  show acc≤zfH (acc*10+(c.toNat-48)) d
  omega
theorem zl2:∀(d:List UInt8) (acc:Nat),d.all zE=true→acc<18446744073709551616→Lib.parseUint10 acc d=if zfH acc d<18446744073709551616 then .ok (zfH acc d)else .range
 | [],acc,_,ha=>by simp[Lib.parseUint10,zfH,ha]
 | c::d,acc,h,ha=>by
  simp only[yca,Bool.and_eq_true,zE,decide_eq_true_eq]at h
  obtain⟨⟨h1,h2⟩,h3⟩:=h
  have e:zfH acc (c::d)=zfH (acc*10+(c.toNat-48)) d:=rfl
  have m:=zjM d (acc*10+(c.toNat-48))
  rw[Lib.parseUint10,if_pos ⟨h1,h2⟩,e]
  by_cases o1:1844674407370955162≤acc
  ·rw[if_pos o1,if_neg (by omega)]
  ·rw[if_neg o1]
   by_cases o2:18446744073709551616≤acc*10+(c.toNat-48)
   ·rw[if_pos o2,if_neg (by omega)]
   ·rw[if_neg o2]
    exact zl2 d _ (by simpa [zE]using h3) (by omega)
theorem zk4(u:Nat):zfH 0 (Lib.decDigits u)=u:=by
 induction u using ybI with
 | _ u ih =>
  rw[Lib.decDigits]
  split
  ·rename_i h
   simp[zfH]
   omega
  ·rename_i h
   rw[zk3,ih (u/10) (by omega)]
   simp[zfH]
   omega
theorem zeH(u:Nat):(Lib.decDigits u).all zE=true:=by
 induction u using ybI with
 | _ u ih =>
  rw[Lib.decDigits]
  split
  ·simp[zE];omega
  ·rw[ycb,ih (u/10) (by omega)]
   simp[zE];omega
theorem zgm(u:Nat):Lib.decDigits u≠[]:=by
 rw[Lib.decDigits]
 split<;>simp
theorem zgn(u:Nat):(Lib.decDigits u).head?≠some 45:=by
 intro h
 have h1:=zeH u
 cases hd:Lib.decDigits u with
 | nil=>exact zgm u hd
 | cons c r =>
  rw[hd]at h h1
  simp only[ycc,yaR.injEq]at h
  subst h
  simp[zE]at h1
theorem zjN(n:Int):zaL (Lib.itoa n)=Lib.decDigits n.natAbs:=by
 unfold Lib.itoa zaL
 split
 ·simp
 ·rename_i h
  rw[if_neg (zgn _)]
  congr 1;omega
theorem zl3(n:Int):zjL (Lib.itoa n)=n:=by
 have h1:=zjN n
 unfold zjL
 rw[h1,zk4]
 unfold Lib.itoa
 split
 ·simp;omega
 ·rw[if_neg (zgn _)];omega
theorem ziG{t:List UInt8}(h1:zaL t≠[])(h2:(zaL t).all zE=true):Lib.atoiAll t=if -(2^63)≤zjL t∧zjL t<2^63 then .ok (zjL t)else .range:=by
 cases t with
 | nil=>exact absurd rfl h1
 | cons c r =>
  have hp:∀d:List UInt8,d≠[]→d.all zE=true→Lib.parseMag d=if zfH 0 d<18446744073709551616 then .ok (zfH 0 d)else .range:=fun d hd ha=>by
   rw[Lib.parseMag,if_neg hd,zl2 d 0 ha (by omega)]
  unfold Lib.atoiAll
  simp only
  by_cases hc:c=45
  ·subst hc
   have hb:zaL (45::r)=r:=rfl
   rw[hb]at h1 h2
   have hv:zjL (45::r)=-(zfH 0 r:Int):=rfl
   rw[hv,if_pos (show((45:UInt8).toNat=43∨(45:UInt8).toNat=45) from .inr rfl),hp r h1 h2]
   have e:((45:UInt8).toNat=45)=True:=eq_true rfl
   simp only[e,not_true,false_and,true_and,if_false,if_true]
   by_cases o:zfH 0 r<18446744073709551616
   ·rw[if_pos o]
    simp only
    by_cases o2:9223372036854775808<zfH 0 r
    ·rw[if_pos o2,if_neg (by omega)]
    ·rw[if_neg o2,if_pos (by omega)]
   ·rw[if_neg o,if_neg (by omega)]
  ·have hb:zaL (c::r)=c::r:=by unfold zaL;rw[if_neg (by simpa using hc)]
   rw[hb]at h1 h2
   have hv:zjL (c::r)=(zfH 0 (c::r):Int):=by unfold zjL;rw[if_neg (by simpa using hc),hb]
   have hn45:¬c.toNat=45:=fun e=>hc (UInt8.toNat_inj.1 e)
   have hn43:¬c.toNat=43:=fun e=>by
    simp only[yca,Bool.and_eq_true,zE,decide_eq_true_eq]at h2
    omega
   rw[hv,if_neg (by omega),hp _ h1 h2]
   simp only[hn45,not_false_eq_true,true_and,false_and,if_false]
   by_cases o:zfH 0 (c::r)<18446744073709551616
   ·rw[if_pos o]
    simp only
    by_cases o2:9223372036854775808≤zfH 0 (c::r)
    ·rw[if_pos o2,if_neg (by omega)]
    ·rw[if_neg o2,if_pos (by omega)]
   ·rw[if_neg o,if_neg (by omega)]
theorem zuh{t:List UInt8}(h1:zaL t≠[])(h2:(zaL t).all zE=true):zkq t=if Lib.itoa (yb4 .i64 (zjL t))=t then .ok (yb4 .i64 (zjL t))else .error 11:=by
 have hw:∀x:Int,-(2^63)≤x→x<2^63→yb4 .i64 x=x:=fun x a b=>by rw[wrap_i64]<;>omega
 unfold zkq
 rw[if_neg (by simp[h1,h2]),ziG h1 h2]
 by_cases o:-(2^63)≤zjL t∧zjL t<2^63
 ·rw[if_pos o,hw _ o.1 o.2]
 ·rw[if_neg o,if_neg]
  intro e
  have h3:=congrArg zjL e
  rw[zl3]at h3
  have h4:-(2^63)≤yb4 .i64 (zjL t)∧yb4 .i64 (zjL t)<2^63:=by
   have q:∀x:Int,-(2^63)≤yb4 .i64 x∧yb4 .i64 x<2^63:=fun x=>by
    simp only[yb4,yao,yap,Bool.true_and,decide_eq_true_eq]
    have a1:=Int.emod_nonneg x (show(2:Int)^64≠0 by decide)
    have a2:=Int.emod_lt_of_pos x (show(0:Int)<2^64 by decide)
    split
    ·rename_i k
     have k:=of_decide_eq_true k
     omega
    ·rename_i k
     have k:=of_decide_eq_false (eq_false_of_ne_true k)
     omega
   exact q _
  rw[h3]at h4
  exact o h4
theorem zog{n:Int}(h:-(2^63)≤n∧n<2^63):zkq (Lib.itoa n)=.ok n:=by
 have hb:=zjN n
 rw[zuh (by rw[hb];exact zgm _) (by rw[hb];exact zeH _),zl3]
 have hw:yb4 .i64 n=n:=by rw[wrap_i64]<;>omega
 rw[hw,if_pos rfl]
def zk5(c:UInt8):Bool:=[32,10].contains c
def zaF(c:UInt8):Bool:=[32,10,40,41,34].contains c
def zoh(c:UInt8):Bool:=[34,10].contains c
def zjO(r:List UInt8):Option (List UInt8 × List UInt8):=match r.dropWhile fun c=>!zoh c with
 | []=>none
 | x::z=>if x=34 then some (34::(r.takeWhile (fun c=>!zoh c)++[34]),z)else none
def zcz(s:List UInt8):Option (List UInt8 × List UInt8):=match s.dropWhile zk5 with
 | []=>none
 | c::r=>if c=40∨c=41 then some ([c],r)else if c=34 then zjO r else some (c::r.takeWhile (fun x=>!zaF x),r.dropWhile fun x=>!zaF x)
theorem zbI{s t r:List UInt8}(h:zcz s=some (t,r)):t.length+r.length≤s.length∧t≠[]:=by
 have hd:=(ycd zk5 (l:=s)).length_le
 unfold zcz at h
 split at h
 ·cases h
 ·rename_i c z e
  rw[e]at hd
  simp only[yac]at hd
  split at h
  ·cases h
   exact⟨by simp only[yac,ybl];omega,by simp⟩
  ·split at h
   ·unfold zjO at h
    split at h
    ·cases h
    ·rename_i x y e2
     split at h
     ·cases h
      have h3:=congrArg yce (ycf (p:=fun c=>!zoh c) (l:=z))
      rw[e2]at h3
      simp only[yab,yac,ybl]at h3 ⊢
      exact⟨by omega,by simp⟩
     ·cases h
   ·cases h
    have h3:=congrArg yce (ycf (p:=fun x=>!zaF x) (l:=z))
    simp only[yab,yac]at h3 ⊢
    exact⟨by omega,by simp⟩
def za5:List UInt8:=[40,32,109,111,100,117,108,101,32,40,32,105,109,112,111,114,116,32,34,101,110,118,34,32,34,105,110,34,32,40,32,102,117,110,99,32,40,32,114,101,115,117,108,116,32,105,54,52,32,41,32,41,32,41,32,40,32,105,109,112,111,114,116,32,34,101,110,118,34,32,34,111,117,116,34,32,40,32,102,117,110,99,32,40,32,112,97,114,97,109,32,105,54,52,32,41,32,41,32,41,32,40,32,105,109,112,111,114,116,32,34,101,110,118,34,32,34,116,114,97,112,34,32,40,32,102,117,110,99,32,40,32,112,97,114,97,109,32,105,51,50,32,41,32,41,32,41,32,40,32,109,101,109,111,114,121,32,49,32,41,32,40,32,103,108,111,98,97,108,32,105,51,50,32,40,32,105,51,50,46,99,111,110,115,116]
def zbB:List (List UInt8):=[[40],[109,111,100,117,108,101],[40],[105,109,112,111,114,116],[34,101,110,118,34],[34,105,110,34],[40],[102,117,110,99],[40],[114,101,115,117,108,116],[105,54,52],[41],[41],[41],[40],[105,109,112,111,114,116],[34,101,110,118,34],[34,111,117,116,34],[40],[102,117,110,99],[40],[112,97,114,97,109],[105,54,52],[41],[41],[41],[40],[105,109,112,111,114,116],[34,101,110,118,34],[34,116,114,97,112,34],[40],[102,117,110,99],[40],[112,97,114,97,109],[105,51,50],[41],[41],[41],[40],[109,101,109,111,114,121],[49],[41],[40],[103,108,111,98,97,108],[105,51,50],[40],[105,51,50,46,99,111,110,115,116]]
def zu:List UInt8:=[40]
def zf:List UInt8:=[41]
def za6:List UInt8:=[102,117,110,99]
def zbg:List UInt8:=[112,97,114,97,109]
def zcY:List UInt8:=[114,101,115,117,108,116]
def zat:List UInt8:=[108,111,99,97,108]
def zbM:List UInt8:=[101,120,112,111,114,116]
def zg8:List UInt8:=[34,109,97,105,110,34]
def zvR:List UInt8:=[105,51,50]
def zvS:List UInt8:=[105,54,52]
def zhC:List UInt8:=[98,108,111,99,107]
def zmS:List UInt8:=[108,111,111,112]
def tIf:List UInt8:=[105,102]
def za7:List UInt8:=[101,108,115,101]
def zbO:List UInt8:=[101,110,100]
def zeb:List (List UInt8):=[[97,100,100],[115,117,98],[109,117,108],[100,105,118,95,115],[114,101,109,95,115],[97,110,100],[111,114],[120,111,114],[115,104,108],[115,104,114,95,115],[101,113],[110,101],[108,116,95,115],[108,101,95,115],[103,116,95,115],[103,101,95,115]]
def zgo:List (List UInt8 × W):=[([105,51,50,46,119,114,97,112,95,105,54,52],{ op:=6,ty:=0,n:=0,body:=0,other:=0,name:=[] }),([105,54,52,46,101,120,116,101,110,100,95,105,51,50,95,115],{ op:=7,ty:=0,n:=0,body:=0,other:=0,name:=[] }),([105,51,50,46,108,111,97,100,56,95,115],{ op:=8,ty:=1,n:=1,body:=0,other:=0,name:=[] }),([105,51,50,46,108,111,97,100],{ op:=8,ty:=1,n:=4,body:=0,other:=0,name:=[] }),([105,54,52,46,108,111,97,100],{ op:=8,ty:=2,n:=8,body:=0,other:=0,name:=[] }),([105,51,50,46,115,116,111,114,101,56],{ op:=9,ty:=1,n:=1,body:=0,other:=0,name:=[] }),([105,51,50,46,115,116,111,114,101],{ op:=9,ty:=1,n:=4,body:=0,other:=0,name:=[] }),([105,54,52,46,115,116,111,114,101],{ op:=9,ty:=2,n:=8,body:=0,other:=0,name:=[] }),([114,101,116,117,114,110],{ op:=16,ty:=0,n:=0,body:=0,other:=0,name:=[] }),([117,110,114,101,97,99,104,97,98,108,101],{ op:=17,ty:=0,n:=0,body:=0,other:=0,name:=[] }),([100,114,111,112],{ op:=18,ty:=0,n:=0,body:=0,other:=0,name:=[] })]
def zw(t:Int):List UInt8:=if t=1 then zvR else zvS
def zl4(t:Int):List (List UInt8 × W):=(zeb.map fun s=>(zw t++46::s,{ op:=4,ty:=t,n:=0,body:=0,other:=0,name:=s }))++[(zw t++[46,101,113,122],{ op:=5,ty:=t,n:=0,body:=0,other:=0,name:=[] })]
def zfq:List (List UInt8 × W):=zgo++(zl4 1++zl4 2)
def zch:List (List UInt8 × W):=[([105,51,50,46,99,111,110,115,116],{ op:=1,ty:=1,n:=0,body:=0,other:=0,name:=[] }),([105,54,52,46,99,111,110,115,116],{ op:=1,ty:=2,n:=0,body:=0,other:=0,name:=[] }),([108,111,99,97,108,46,103,101,116],{ op:=2,ty:=0,n:=0,body:=0,other:=0,name:=[] }),([108,111,99,97,108,46,115,101,116],{ op:=3,ty:=0,n:=0,body:=0,other:=0,name:=[] }),([99,97,108,108],{ op:=10,ty:=0,n:=0,body:=0,other:=0,name:=[] }),([98,114],{ op:=14,ty:=0,n:=0,body:=0,other:=0,name:=[] }),([98,114,95,105,102],{ op:=15,ty:=0,n:=0,body:=0,other:=0,name:=[] })]
def zA(l:List (List UInt8 × W))(t:List UInt8):Option W:=(l.find? fun p=>p.1==t).map (·.2)
structure Ts where
 b:List UInt8
 ls:To
def zaG(s:Ts):Res (List UInt8 × Ts):=match zcz s.b with
 | none=>.error 2
 | some p=>.ok (p.1,{ s with b:=p.2 })
def zP:List (List UInt8)→Ts→Res Ts
 | [],s=>.ok s
 | t::ts,s=>(zaG s).bind fun p=>if p.1=t then zP ts p.2 else .error 2
def zeI(w:List UInt8)(s:Ts):Option Ts:=match zcz s.b with
 | none=>none
 | some p=>if p.1=zu then(match zcz p.2 with
  | none=>none
  | some q=>if q.1=w then some { s with b:=q.2 }else none)else none
def zU(s:Ts):Res (Int × Ts):=(zaG s).bind fun p=>(zkq p.1).map fun n=>(n,p.2)
def zal:Nat→List Int→Ts→Res (List Int × Ts)
 | 0,_,_=>.error (-1)
 | k+1,l,s=>(zaG s).bind fun p =>
  if p.1=zvR then zal k (l++[1]) p.2 else if p.1=zvS then zal k (l++[2]) p.2 else if p.1=zf∧l≠[]then .ok (l,p.2)else .error 2
def zci(t:List UInt8)(s:Ts):Res (W × Ts):=match zA zch t with
 | some w=>(zU s).map fun p=>({ w with n:=p.1 },p.2)
 | none=>match zA zfq t with
  | some w=>.ok (w,s)
  | none=>.error 2
def zaM(t:List UInt8):Int:=if t=zhC then 11 else if t=zmS then 12 else if t=tIf then 13 else 0
abbrev zvT:=Nat→Bool→Ts→Res ((Int × List UInt8) × Ts)
def zap(rec:zvT)(op:Int)(d:Nat)(s:Ts):Res (W × Ts) :=
 if 400<d then .error 3
 else(rec d (decide (op=13)) s).bind fun p =>
  if op=13 then(if p.1.2=za7 then(rec d false p.2).map fun q=>({ op:=13,ty:=0,n:=0,body:=p.1.1,other:=q.1.1,name:=[] },q.2)
   else .ok ({ op:=13,ty:=0,n:=0,body:=p.1.1,other:=-1,name:=[] },p.2))
  else .ok ({ op:=op,ty:=0,n:=0,body:=p.1.1,other:=0,name:=[] },p.2)
def za0(rec:zvT)(t:List UInt8)(d:Nat)(s:Ts):Res (W × Ts):=if zaM t=0 then zci t s else zap rec (zaM t) (d+1) s
def zdp(d:Nat)(other:Bool)(t:List UInt8):Bool:=(decide (t=zbO)&&decide (0<d))||((decide (t=zf)&&decide (d=0))||(decide (t=za7)&&other))
def zI:Nat→Nat→Bool→List W→Ts→Res ((Int × List UInt8) × Ts)
 | 0,_,_,_,_=>.error (-1)
 | k+1,d,o,l,s=>(zaG s).bind fun p =>
  if zdp d o p.1=true then .ok (((p.2.ls.length:Int),p.1),{ p.2 with ls:=p.2.ls++[l] })
  else(za0 (fun d o s=>zI k d o [] s) p.1 d p.2).bind fun q=>zI k d o (l++[q.1]) q.2
def zO(c:UInt8):Bool:=(decide (97≤c.toNat)&&decide (c.toNat≤122))||c==95
def zgU(m:Nat)(t:List UInt8):Bool:=match t with
 | []=>false
 | c::r=>decide (t.length≤m)&&(zO c&&r.all fun x=>zO x||zE x)
def zbC(w:List UInt8)(s:Ts):Res (List Int × Ts):=match zeI w s with
 | some s'=>zal (s'.b.length+1) [] s'
 | none=>.ok ([],s)
def zk6(s:Ts):Res (Int × Ts):=match zeI zcY s with
 | some s'=>(zal (s'.b.length+1) [] s').bind fun r=>if r.1.length=1 then .ok (r.1.headD 0,r.2)else .error 2
 | none=>.ok (0,s)
def zV(mx:Nat)(s:Ts):Res (F × Ts):=(zaG s).bind fun p =>
 if p.1.head?=some 36∧zgU mx p.1.tail=true then(zbC zbg p.2).bind fun q=>(zk6 q.2).bind fun r=>(zbC zat r.2).bind fun u=>(zI (u.2.b.length+1) 0 false [] { u.2 with ls:=[] }).map fun(v:(Int × List UInt8) × Ts) =>
   ({ name:=p.1.tail,params:=q.1,locals:=u.1,type:=r.1,lists:=v.2.ls },v.2)
 else .error 2
def zx(mx:Nat):Nat→List F→Ts→Res (List F × Ts)
 | 0,_,_=>.error (-1)
 | k+1,l,s=>match zeI za6 s with
  | none=>.ok (l,s)
  | some s'=>(zV mx s').bind fun p=>zx mx k (l++[p.1]) p.2
def zcj(mx:Nat)(s:Ts):Res (M × Ts):=(zP zbB s).bind fun s=>(zU s).bind fun mem=>(zP [zf,zf] mem.2).bind fun s=>(zx mx (s.b.length+1) [] s).bind fun fs =>
 (zP [zu,zbM,zg8,zu,za6] fs.2).bind fun s=>(zU s).bind fun mn=>(zP [zf,zf,zf] mn.2).bind fun s =>
  if s.b.all zk5=true then .ok ({ funcs:=fs.1,memory:=mem.1,main:=yb4 .i64 (mn.1-3) },s)else .error 2
def zbu(mx:Nat)(b:List UInt8):Res M:=(zcj mx ⟨b,[]⟩).map (·.1)
def zaN(f:Nat→Nat):Nat→Nat
 | 0=>0
 | k+1=>zaN f k+f k
theorem zdM{f g:Nat→Nat}:∀k,(∀i,i<k→f i=g i)→zaN f k=zaN g k
 | 0,_=>rfl
 | k+1,h=>by rw[zaN,zaN,zdM k fun i hi=>h i (by omega),h k (by omega)]
def rt(T:Nat→Nat)(named:List Bool)(i:Nat):Nat:=if named.getD i true then 0 else T i
theorem ziH(named:List Bool)(n i:Nat):(named.set n true).getD i true=if i=n then true else named.getD i true:=by
 rw[ycg,ycg,List.getElem?_set]
 by_cases h:n=i
 ·subst h
  rw[if_pos rfl,if_pos rfl]
  split<;>rfl
 ·rw[if_neg h,if_neg (fun e=>h e.symm)]
theorem zjP(T:Nat→Nat)(named:List Bool){n i:Nat}(h:i≠n):rt T (named.set n true) i=rt T named i:=by
 have e:(named.set n true).getD i true=named.getD i true:=by rw[ziH,if_neg h]
 unfold rt;rw[e]
theorem zjQ(T:Nat→Nat)(named:List Bool)(n:Nat)(h:named.getD n true=false):∀k,n<k→zaN (rt T (named.set n true)) k+T n=zaN (rt T named) k
 | 0,hk=>by omega
 | k+1,hk=>by
  simp only[zaN]
  by_cases e:n=k
  ·subst e
   have h1:zaN (rt T (named.set n true)) n=zaN (rt T named) n:=zdM n fun i hi=>zjP T named (Nat.ne_of_lt hi)
   have h2:rt T (named.set n true) n=0:=by
    have e:(named.set n true).getD n true=true:=by rw[ziH,if_pos rfl]
    unfold rt;rw[e];rfl
   have h3:rt T named n=T n:=by unfold rt;rw[h];rfl
   omega
  ·have ih:=zjQ T named n h k (by omega)
   have h2:rt T (named.set n true) k=rt T named k:=zjP T named (fun q=>e q.symm)
   omega
def zhD(l:List Int)(T:Nat→Nat):Nat:=(l.map fun n=>T n.toNat).sum
theorem zdN(a b:List Int)(T):zhD (a++b) T=zhD a T+zhD b T:=by simp[zhD]
structure ziI(T:Nat→Nat)(k:Nat)(named named':List Bool)(ns:List Int):Prop where
 inside:∀n∈ns,0≤n∧n<(k:Int)
 sum:zaN (rt T named') k+zhD ns T=zaN (rt T named) k
 rest:∀i,k≤i→named'.getD i true=named.getD i true
 len:named'.length=named.length
theorem ziI.nil{T k named}:ziI T k named named []:=⟨by simp,by simp[zhD],fun _ _=>rfl,rfl⟩
theorem ziI.trans{T k a b c l m}(h:ziI T k a b l)(h':ziI T k b c m):ziI T k a c (l++m) where
 inside n hn:=(ybh.1 hn).elim (h.inside n) (h'.inside n)
 sum:=by rw[zdN];have:=h.sum;have:=h'.sum;omega
 rest i hi:=(h'.rest i hi).trans (h.rest i hi)
 len:=h'.len.trans h.len
theorem zrb{T k named n named'}(h:zfp (k:Nat) named n=.ok named'):ziI T k named named' [n]:=by
 unfold zfp at h
 split at h
 ·rename_i hc
  cases h
  obtain⟨h0,h1,h2⟩:=hc
  have hk:n.toNat<k:=by omega
  refine⟨by simp;exact⟨h0,h1⟩,by simpa [zhD]using zjQ T named n.toNat h2 k hk,fun i hi=>by rw[ziH,if_neg (by omega)],by simp⟩
 ·cases h
theorem zjR{T k}:∀{ns named named'},zbt (k:Nat) ns named=.ok named'→ziI T k named named' ns
 | [],_,_,h=>by simp[zbt]at h;subst h;exact .nil
 | n::ns,named,named',h=>by
  rw[zbt]at h
  split at h
  ·cases h
  ·rename_i named1 h1
   exact(zrb h1).trans (zjR h)
theorem zk7{T k}:∀{ws named named'},zkp (k:Nat) ws named=.ok named'→ziI T k named named' (ws.flatMap zD)
 | [],_,_,h=>by simp[zkp]at h;subst h;exact .nil
 | w::ws,named,named',h=>by
  rw[zkp]at h
  split at h
  ·cases h
  ·rename_i named1 h1
   rw[yaa]
   exact(zjR h1).trans (zk7 h)
def zmT(ls:To):Prop:=∀(k:Nat) (row:List W),ls[k]?=some row→∀n∈row.flatMap zD,0≤n∧n<(k:Int)
theorem zgp(ls:To):∀(r:To) (k:Nat) (named named':List Bool),ls.drop k=r→zcg k r named=.ok named'→∀j row,k≤j→ls[j]?=some row→∀n∈row.flatMap zD,0≤n∧n<(j:Int)
 | [],k,_,_,hd,_,j,row,hj,hr=>by
  have:ls.length≤k:=ych.1 hd
  rw[yb2 (by omega)]at hr;cases hr
 | l::r,k,named,named',hd,h,j,row,hj,hr=>by
  rw[zcg]at h
  split at h
  ·cases h
  ·rename_i named1 h1
   have hl:ls[k]?=some l:=by
    have:=congrArg (·[0]?) hd
    simpa using this
   have hd':ls.drop (k+1)=r:=by
    have:=congrArg (yci 1) hd
    simpa [ycj]using this
   by_cases e:j=k
   ·subst e
    rw[hl]at hr;cases hr
    exact(zk7 (T:=fun _=>0) h1).inside
   ·exact zgp ls r (k+1) named1 named' hd' h j row (by omega) hr
theorem zjS(ls:To)(T g:Nat→Nat)(hT:∀k row,ls[k]?=some row→T k=g k+zhD (row.flatMap zD) T):∀(r:To) (k:Nat) (named named':List Bool),ls.drop k=r→zcg k r named=.ok named'→k≤ls.length →
  zaN (rt T named) k=zaN g k→named.length=ls.length→(∀i,k≤i→i<ls.length→named.getD i true=false) →
  zaN (rt T named') ls.length=zaN g ls.length∧named'.length=ls.length∧(0<ls.length→k<ls.length→named'.getD (ls.length-1) true=false)
 | [],k,named,named',hd,h,hk,hs,hl,hf=>by
  have hlen:ls.length≤k:=ych.1 hd
  simp[zcg]at h
  subst h
  obtain rfl:k=ls.length:=by omega
  exact⟨hs,hl,fun _ h=>by omega⟩
 | l::r,k,named,named',hd,h,hk,hs,hlen,hf=>by
  rw[zcg]at h
  split at h
  ·cases h
  ·rename_i named1 h1
   have hl:ls[k]?=some l:=by
    have:=congrArg (·[0]?) hd
    simpa using this
   have hd':ls.drop (k+1)=r:=by
    have:=congrArg (yci 1) hd
    simpa [ycj]using this
   have hk':k<ls.length:=(yaq.1 hl).1
   have N:=zk7 (T:=T) h1
   have hkk:named1.getD k true=false:=(N.rest k (yah _)).trans (hf k (yah _) hk')
   have hsum:zaN (rt T named1) (k+1)=zaN g (k+1):=by
    simp only[zaN]
    have h3:rt T named1 k=T k:=by unfold rt;rw[hkk];rfl
    have:=N.sum
    have:=hT k l hl
    omega
   have key:=zjS ls T g hT r (k+1) named1 named' hd' h hk' hsum (N.len.trans hlen) fun i hi hil=>(N.rest i (by omega)).trans (hf i (by omega) hil)
   refine⟨key.1,key.2.1,fun h0 _=>?_⟩
   by_cases e:k+1<ls.length
   ·exact key.2.2 h0 e
   ·have:r=[]:=by
     have hdl:=congrArg yce hd'
     rw[yck]at hdl
     exact ybS.1 (by omega)
    subst this
    simp[zcg]at h
    subst h
    rw[show ls.length-1=k from by omega]
    exact hkk
def tot(g:Nat→Nat)(ls:To):Nat→Nat→Nat
 | 0,_=>0
 | f+1,k=>g k+zhD ((ls.getD k []).flatMap zD) (tot g ls f)
theorem zmU{l:List Int}{T U:Nat→Nat}(h:∀n∈l,T n.toNat=U n.toNat):zhD l T=zhD l U:=by
 induction l with
 | nil=>rfl
 | cons n l ih =>
  simp only[zhD,yaL,ycl]at ih ⊢
  rw[h n (by simp),ih fun m hm=>h m (by simp[hm])]
theorem zmV(g:Nat→Nat){ls:To}(ha:zmT ls):∀(f:Nat) (k:Nat),k<f→tot g ls (f+1) k=tot g ls f k:=by
 intro f
 induction f with
 | zero=>intro k h;omega
 | succ f ih =>
  intro k hk
  rw[tot,tot]
  congr 1
  refine zmU fun n hn=>?_
  cases hr:ls[k]? with
  | none=>rw[ycg,hr]at hn;simp at hn
  | some row =>
   rw[ycg,hr]at hn
   have:=ha k row hr n hn
   exact ih n.toNat (by omega)
def zjT(g:Nat→Nat)(ls:To)(k:Nat):Nat:=tot g ls ls.length k
theorem zk8(g:Nat→Nat){ls:To}(ha:zmT ls){k:Nat}{row:List W}(h:ls[k]?=some row):zjT g ls k=g k+zhD (row.flatMap zD) (zjT g ls):=by
 have hk:=(yaq.1 h).1
 unfold zjT
 rw[←zmV g ha ls.length k hk,tot,ycg,h]
 rfl
theorem zhE:∀k,zaN (fun _=>0) k=0
 | 0=>rfl
 | k+1=>by rw[zaN,zhE k]
theorem zjU{ls:To}(h:zdx ls=.ok ()):0<ls.length∧zmT ls∧∀g,zjT g ls (ls.length-1)=zaN g ls.length:=by
 unfold zdx at h
 split at h
 ·cases h
 ·rename_i h0
  split at h
  ·cases h
  ·rename_i named hr
   split at h
   ·rename_i hall
    have ha:zmT ls:=fun k row hk=>zgp ls ls 0 _ _ (by simp) hr k row (ycm _) hk
    refine⟨by omega,ha,fun g=>?_⟩
    obtain⟨h1,h2,h3⟩:=zjS ls (zjT g ls) g (fun k row hk=>zk8 g ha hk) ls 0 _ _ (by simp) hr (ycm _) rfl (by simp) fun i _ hi=>by
     rw[ycg,ycn,if_pos hi];rfl
    obtain⟨L,hL⟩:∃L,ls.length=L+1:=⟨ls.length-1,by omega⟩
    have h3':=h3 (by omega) (by omega)
    rw[hL]at h1 h3' hall ⊢
    simp only[yco]at h3' hall ⊢
    rw[←h1,zaN]
    have z:zaN (rt (zjT g ls) named) L=0:=by
     have:zaN (rt (zjT g ls) named) L=zaN (fun _=>0) L:=zdM L fun i hi=>by
      have hm:(named.take L)[i]?=some true:=by
       have hlt:i<(named.take L).length:=by rw[ybf];omega
       rw[yau hlt]
       have:=yaM.1 hall _ (yaw hlt)
       simpa using this
      rw[List.getElem?_take,if_pos hi]at hm
      have e:named.getD i true=true:=by rw[ycg,hm];rfl
      unfold rt;rw[e];rfl
     rw[this,zhE]
    have e:rt (zjT g ls) named L=zjT g ls L:=by unfold rt;rw[h3'];rfl
    rw[z,e];omega
   ·cases h
def zfr(c:Nat→Nat)(ls:To):Nat:=(ls.map fun l=>c l.length).sum
theorem zgq(c a b):zfr c (a++b)=zfr c a+zfr c b:=by simp[zfr]
theorem zgr{fs:List F}{f:F}(h:zS fs f=.ok ()):zdx f.lists=.ok ():=by
 unfold zS at h
 split at h
 ·cases h
 ·split at h
  ·cases h
  ·assumption
theorem zdy{fs:List F}:∀{r:List F},zT fs r=.ok ()→∀f∈r,zS fs f=.ok ()
 | [],_,f,hf=>by simp at hf
 | g::r,h,f,hf=>by
  rw[zT]at h
  split at h
  ·cases h
  ·rename_i u hg
   rcases ybC.1 hf with rfl|hf
   ·exact hg
   ·exact zdy h f hf
theorem zfs{m:M}(h:zbW m=.ok ()):∀f∈m.funcs,zS m.funcs f=.ok ():=by
 unfold zbW at h
 split at h
 ·cases h
 ·split at h
  ·cases h
  ·rename_i u hf
   exact zdy hf
def W.cs(w:W):List AV:=[.int .i64 w.op,.int .i64 w.ty,.int .i64 w.n,.int .i64 w.body,.int .i64 w.other,.str w.name]
def W.av(w:W):AV:=.agg w.cs
inductive All2{α β:Type}(R:α→β→Prop):List α→List β→Prop
 | nil:All2 R [] []
 | cons {x y xs ys} (h:R x y) (r:All2 R xs ys):All2 R (x::xs) (y::ys)
def zpy(v:AV)(l:List W):Prop:=(l=[]∧v=.nilsl)∨∃b,v=.sl (.stat b) 6 (l.map W.av)
def zDw(v:AV)(frm:To):Prop:=∃b rows,v=.sl (.stat b) 1 rows∧All2 zpy rows frm
def zbX:AV→Option Nat
 | .sl (.fam g _) _ _=>some g
 | _=>none
end Go.Proofs.YtohfclafhegadaaGreatDoor


namespace Go.Proofs.YtohfclafhegadaaGreatDoor
open Go Go.Abs
theorem All2.length{α β:Type}{R:α→β→Prop}{xs ys}(h:All2 R xs ys):xs.length=ys.length:=by
 induction h<;>simp_all
theorem All2.get{α β:Type}{R:α→β→Prop}{xs ys}(h:All2 R xs ys){i:Nat}{y}(hy:ys[i]?=some y):∃x,xs[i]?=some x∧R x y:=by
 induction h generalizing i with
 | nil=>simp at hy
 | cons h r ih =>
  cases i with
  | zero=>simp at hy;subst hy;exact⟨_,by simp,h⟩
  | succ i=>simp at hy;simpa using ih hy
theorem All2.append{α β:Type}{R:α→β→Prop}{xs ys xs' ys'}(h:All2 R xs ys)(h':All2 R xs' ys'):All2 R (xs++xs') (ys++ys'):=by
 induction h with
 | nil=>exact h'
 | cons h r ih=>exact .cons h ih
theorem zrc{P:Program}{G:Env}{f:FuncId}{args:List AV}{σ:AS}{R:Out→AS→Prop}
  (h:ACalls P G f args σ fun o σ'=>R o σ'∨∃v g p,o=.ret v∧σ'.F g=.alive∧R (.ret (frz g v)) (σ'.frz g p)):ACalls P G f args σ R:=by
 intro M w cargs S g c
 refine(h M w cargs S g c).mono fun e w' ⟨o,σ',M',hR,h2,h3,h4⟩=>?_
 rcases hR with hR|⟨v,k,p,ho,ha,hR⟩
 ·exact⟨o,σ',M',hR,h2,h3,h4⟩
 subst ho
 refine⟨_,_,M'.frz k,hR,?_,h3.frz ha,h4.trans (zkN ha)⟩
 cases e<;>simp only[zbG]at h2 ⊢
 exact h2.frz ha
end Go.Proofs.YtohfclafhegadaaGreatDoor


namespace Go.Proofs.YtohfclafhegadaaGreatDoor
open Go Go.Abs
structure zg(σ σ':AS):Prop where
 no:σ.no≤σ'.no
 nf:σ.nf≤σ'.nf
 obj:∀o,o<σ.no→σ'.objs o=σ.objs o
 fam:∀f,f<σ.nf→σ'.F f=σ.F f
theorem zg.refl(σ):zg σ σ:=⟨yah _,yah _,fun _ _=>rfl,fun _ _=>rfl⟩
theorem zg.trans{σ σ1 σ2}(h:zg σ σ1)(h':zg σ1 σ2):zg σ σ2 where
 no:=yai h.no h'.no
 nf:=yai h.nf h'.nf
 obj o a:=by rw[h'.obj o (yag a h.no),h.obj o a]
 fam f a:=by rw[h'.fam f (yag a h.nf),h.fam f a]
theorem zg.newO{σ σ' cs}(h:zg σ σ'):zg σ (σ'.newO cs) where
 no:=yai h.no (by simp)
 nf:=h.nf
 obj o a:=by have:=h.no;simp;rw[if_neg (by omega)];exact h.obj o a
 fam:=h.fam
theorem zg.setO{σ σ' o cs}(h:zg σ σ')(ho:σ.no≤o):zg σ (σ'.setO o cs) where
 no:=h.no
 nf:=h.nf
 obj p a:=by simp;rw[if_neg (by omega)];exact h.obj p a
 fam:=h.fam
theorem zg.newF{σ σ'}(h:zg σ σ'):zg σ σ'.newF where
 no:=h.no
 nf:=yai h.nf (by simp)
 obj:=h.obj
 fam f a:=by have:=h.nf;simp;rw[if_neg (by omega)];exact h.fam f a
theorem zg.setF{σ σ' f s}(h:zg σ σ')(hf:σ.nf≤f):zg σ (σ'.setF f s) where
 no:=h.no
 nf:=h.nf
 obj:=h.obj
 fam g a:=by simp;rw[if_neg (by omega)];exact h.fam g a
theorem zg.frz{σ σ' f p}(h:zg σ σ')(hf:σ.nf≤f)(hp:∀o,o<σ.no→p o=false):zg σ (σ'.frz f p) where
 no:=h.no
 nf:=h.nf
 obj o a:=by simp[AS.frz,hp o a];exact h.obj o a
 fam g a:=by simp[AS.frz,zmM];rw[if_neg (by omega)];exact h.fam g a
def zbD(v:AV)(l:List Int):Prop:=(l=[]∧v=.nilsl)∨∃b,v=.sl (.stat b) 1 (l.map (.int .i64))
theorem zbD.one{v l}(h:zbD v l):v.known=true∧v.one=true∧v.cells=[v]:=by
 rcases h with ⟨_,rfl⟩|⟨b,rfl⟩<;>simp
def zrd(R:Out→AS→Prop)(o:Out)(σ':AS):Prop:=R o σ'∨∃v g p,o=.ret v∧σ'.F g=.alive∧R (.ret (frz g v)) (σ'.frz g p)
theorem zre{P:Program}{G:Env}{f:FuncId}{args:List AV}{σ:AS}{R:Out→AS→Prop}(h:ACalls P G f args σ (zrd R)):ACalls P G f args σ R:=zrc h
theorem zrd.froze{R:Out→AS→Prop}{v:AV}{σ':AS}(g:Nat)(p:Nat→Bool)(h:σ'.F g=.alive)(h2:R (.ret (frz g v)) (σ'.frz g p)):zrd R (.ret v) σ':=.inr ⟨v,g,p,rfl,h,h2⟩
def zec(v:AV)(tO:To):Prop:=(tO=[]∧v=.nilsl)∨zDw v tO
theorem zec.one{v l}(h:zec v l):v.known=true∧v.one=true∧v.cells=[v]:=by
 rcases h with ⟨_,rfl⟩|⟨b,_,rfl,_⟩<;>simp
def FV(v:AV)(f:F):Prop:=∃pv lv tv,v=.agg [.str f.name,pv,lv,.int .i64 f.type,tv]∧zbD pv f.params∧zbD lv f.locals∧zec tv f.lists
def FsV(v:AV)(fs:List F):Prop:=(fs=[]∧v=.nilsl)∨∃b rows,v=.sl (.stat b) 5 rows∧All2 FV rows fs
def MV(v:AV)(m:M):Prop:=∃fv,v=.agg [fv,.int .i64 m.memory,.int .i64 m.main]∧FsV fv m.funcs
end Go.Proofs.YtohfclafhegadaaGreatDoor

namespace Go.Proofs.YtohfclafhegadaaGreatDoor
open Go Go.Abs
theorem FsV.one{v l}(h:FsV v l):v.known=true∧v.one=true∧v.cells=[v]:=by
 rcases h with ⟨_,rfl⟩|⟨b,_,rfl,_⟩<;>simp
def MU(r n:Nat)(a:Nat→AV)(_:AS):Nat:=match a r with|.int _ i=>n-i.toNat|_=>0
theorem zbD.len{tv:AV}{ts:List Int}(h:zbD tv ts)(K:AV→Prop):zgT yb9 44 tv K=K (.int .i64 (ts.length:Int)):=by
 rcases h with ⟨rfl,rfl⟩|⟨b,rfl⟩<;>simp
theorem FsV.len{fv:AV}{fs:List F}(h:FsV fv fs)(K:AV→Prop):zgT yb9 26 fv K=K (.int .i64 (fs.length:Int)):=by
 rcases h with ⟨rfl,rfl⟩|⟨b,rows,rfl,hr⟩
 ·simp
 ·simp[hr.length]
theorem zec.len{tv:AV}{ls:To}(h:zec tv ls)(K:AV→Prop):zgT yb9 55 tv K=K (.int .i64 (ls.length:Int)):=by
 rcases h with ⟨rfl,rfl⟩|⟨b,rows,rfl,hr⟩
 ·simp
 ·simp[hr.length]
theorem zpy.len{v:AV}{l:List W}(h:zpy v l)(K:AV→Prop):zgT yb9 54 v K=K (.int .i64 (l.length:Int)):=by
 rcases h with ⟨rfl,rfl⟩|⟨b,rfl⟩<;>simp
theorem zpy.one{v l}(h:zpy v l):v.known=true∧v.one=true∧v.cells=[v]:=by
 rcases h with ⟨_,rfl⟩|⟨b,rfl⟩<;>simp
theorem zpy.at{v:AV}{l:List W}(h:zpy v l){i:Nat}(hi:i<l.length):∃b,∀K:AV→Prop,zq yb9 54 v (.int .i64 (i:Int)) K=K (.pv (.stat b) l[i].av):=by
 rcases h with ⟨rfl,_⟩|⟨b,rfl⟩
 ·simp at hi
 ·exact⟨b,fun K=>by simp[hi]⟩
theorem zbD.at{v:AV}{l:List Int}(h:zbD v l){i:Nat}(hi:i<l.length):∃b,∀K:AV→Prop,zq yb9 44 v (.int .i64 (i:Int)) K=K (.pv (.stat b) (.int .i64 l[i])):=by
 rcases h with ⟨rfl,_⟩|⟨b,rfl⟩
 ·simp at hi
 ·exact⟨b,fun K=>by simp[hi]⟩
theorem zec.at{v:AV}{l:To}(h:zec v l){i:Nat}(hi:i<l.length):∃b rv,zpy rv l[i]∧∀K:AV→Prop,zq yb9 55 v (.int .i64 (i:Int)) K=K (.pv (.stat b) rv):=by
 rcases h with ⟨rfl,_⟩|⟨b,rows,rfl,hr⟩
 ·simp at hi
 ·obtain⟨rv,h1,h2⟩:=hr.get (yau hi)
  exact⟨b,rv,h2,fun K=>by simp[h1]⟩
theorem FsV.at{v:AV}{l:List F}(h:FsV v l){i:Nat}(hi:i<l.length):∃b fv,FV fv l[i]∧∀K:AV→Prop,zq yb9 26 v (.int .i64 (i:Int)) K=K (.pv (.stat b) fv):=by
 rcases h with ⟨rfl,_⟩|⟨b,rows,rfl,hr⟩
 ·simp at hi
 ·obtain⟨fv,h1,h2⟩:=hr.get (yau hi)
  exact⟨b,fv,h2,fun K=>by simp[h1]⟩
theorem zoi{α:Type}{l:List α}{i:Nat}{x:α}(h:l[i]?=some x):l.take (i+1)=l.take i++[x]:=by
 obtain⟨hi,rfl⟩:=yaq.1 h
 exact ycp hi
def SlW(σ:AS)(v:AV)(l:List W):Prop:=(l=[]∧v=.nilsl)∨∃φ,v=.sl φ 6 (l.map W.av)∧zj σ.F φ
theorem zEP(w u:W):aeq yb9 53 (.agg [.int .i64 w.op,.int .i64 w.ty,.int .i64 w.n,.int .i64 w.body,.int .i64 w.other,.str w.name]) (.agg [.int .i64 u.op,.int .i64 u.ty,.int .i64 u.n,.int .i64 u.body,.int .i64 u.other,.str u.name])=some (decide (w=u)):=by
 simp[aeq,zmy]
 have key:(w=u)↔(w.op=u.op∧w.ty=u.ty∧w.n=u.n∧w.body=u.body∧w.other=u.other∧w.name=u.name):=by
  constructor
  ·rintro rfl;simp
  ·rintro ⟨h1,h2,h3,h4,h5,h6⟩
   cases w;cases u;simp_all
 by_cases h1:w.op=u.op<;>by_cases h2:w.ty=u.ty<;>by_cases h3:w.n=u.n<;>by_cases h4:w.body=u.body<;>by_cases h5:w.other=u.other<;>by_cases h6:w.name=u.name<;>simp[key,h1,h2,h3,h4,h5,h6]
def SI(va vb:AV)(a b:List W)(σ:AS)(f:Nat→AV)(τ:AS):Prop:=∃i:Nat,i≤a.length∧f 0=va∧f 1=vb∧f 5=.int .i64 (i:Int)∧a.take i=b.take i∧τ=σ
def SM(a:List W)(f:Nat→AV)(_:AS):Nat:=match f 5 with
 | .int _ n=>a.length-n.toNat
 | _=>0
theorem zmW{G:Env}{va vb:AV}{a b:List W}{σ:AS}{R:Out→AS→Prop}(ha:SlW σ va a)(hb:SlW σ vb b)(hl:a.length≤2^30)(h:R (.ret (.bool (decide (a=b)))) σ):zzQ G 216 [va,vb] σ R:=by
 refine zq1 rfl ?_
 by_cases hab:a.length=b.length
 ·have loop:∀f,f 0=va→f 1=vb→f 5=.int .i64 0→zjC yb9 G 27 zde (zbe 0 (zbr (avc yb9 G 27 zfF (zg5 yb9 [.tmp 4] R)) (zg5 yb9 [.tmp 4] R))) f σ:=by
   intro f f0 f1 f5
   refine zae (SI va vb a b σ) (SM a) ⟨0,ycm _,f0,f1,by simpa using f5,by simp,rfl⟩ fun f τ ⟨i,hi,f0,f1,f5,ht,hτ⟩=>?_
   subst hτ
   have hmu:SM a f τ=a.length-i:=by simp[SM,f5]
   by_cases hlt:i<a.length
   ·have hltb:i<b.length:=by omega
    obtain⟨φ,rfl,hφ⟩:∃φ,va=.sl φ 6 (a.map W.av)∧zj τ.F φ:=by
     rcases ha with ⟨rfl,_⟩|ha
     ·simp at hlt
     ·exact ha
    obtain⟨ψ,rfl,hψ⟩:∃φ,vb=.sl φ 6 (b.map W.av)∧zj τ.F φ:=by
     rcases hb with ⟨rfl,_⟩|hb
     ·simp at hltb
     ·exact hb
    have hw2:yb4 .i64 ((i:Int)+1)=(i:Int)+1:=by rw[wrap_i64]<;>omega
    have ea:a.take (i+1)=a.take i++[a[i]]:=by simp
    have eb:b.take (i+1)=b.take i++[b[i]]:=by simp
    by_cases hw:a[i]=b[i]
    ·simp[zde,f0,f1,f5,hlt,hltb,W.av,W.cs,hφ,hψ,zEP,hw,hw2]
     refine⟨⟨i+1,hlt,by simp[f0,W.av,W.cs],by simp[f1,W.av,W.cs],by simp,by rw[ea,eb,ht,hw],rfl⟩,?_⟩
     rw[hmu]
     have:((i:Int)+1).toNat=i+1:=by omega
     simp[SM,this];omega
    ·have hne:¬a=b:=fun e=>hw (by subst e;rfl)
     simp[hne]at h
     simp[zde,f0,f1,f5,hlt,hltb,W.av,W.cs,hφ,hψ,zEP,hw,hw2,h]
   ·have he:i=a.length:=by omega
    subst he
    have e:a=b:=by rw[ycq,hab,ycq]at ht;exact ht
    have hla:a.length=b.length:=hab
    simp[e]at h
    rcases ha with ⟨rfl,rfl⟩|⟨φ,rfl,hφ⟩
    ·simp[zde,zfF,f0,f1,f5,h]
    ·simp[zde,zfF,f0,f1,f5,h]
  rcases ha with ⟨rfl,rfl⟩|⟨φ,rfl,hφ⟩<;>rcases hb with ⟨rfl,rfl⟩|⟨ψ,rfl,hψ⟩
  ·simp[zjK]
   refine loop _ ?_ ?_ ?_<;>simp
  ·simp at hab
   simp[zjK,←hab]
   refine loop _ ?_ ?_ ?_<;>simp
  ·simp at hab
   subst hab
   simp[zjK]
   refine loop _ ?_ ?_ ?_<;>simp
  ·simp[zjK,hab]
   refine loop _ ?_ ?_ ?_<;>simp
 ·have hne:¬a=b:=fun e=>hab (by rw[e])
  have hi:¬(a.length:Int)=b.length:=by omega
  simp[hne]at h
  rcases ha with ⟨rfl,rfl⟩|⟨φ,rfl,hφ⟩<;>rcases hb with ⟨rfl,rfl⟩|⟨ψ,rfl,hψ⟩
  ·simp at hab
  ·simp at hab
   have hi':¬(0:Int)=b.length:=by simpa using hi
   simp[zjK,hi',h]
  ·simp at hab
   have hi':¬(a.length:Int)=0:=by simpa using hi
   simp[zjK,hab,h]
  ·simp[zjK,hi,h]
end Go.Proofs.YtohfclafhegadaaGreatDoor
namespace Go.Proofs.YtohfclafhegadaaGreatDoor.Al
open Go Go.Abs Go.Proofs.YtohfclafhegadaaGreatDoor
def RepE(v:AV)(l:List W):Prop:=(l=[]∧v=.nilsl)∨∃b,v=.sl (.fam 0 b) 6 (l.map W.av)
end Go.Proofs.YtohfclafhegadaaGreatDoor.Al
namespace Go.Proofs.YtohfclafhegadaaGreatDoor.Al
open Go Go.Abs Go.Proofs.YtohfclafhegadaaGreatDoor
theorem mrg_W(f:Nat)(w:W):mrg f w.av=w.av:=by simp[W.av,W.cs]
theorem zyP(f:Nat)(l:List W):(l.map W.av).map (mrg f)=l.map W.av:=by simp[Function.comp_def,mrg_W]
theorem RepE.mrg{v l}(h:RepE v l){f:Nat}:mrg f v=v:=by
 rcases h with ⟨_,rfl⟩|⟨b,rfl⟩
 ·simp
 ·rw[zhA,zyP];split<;>rfl
theorem mrg_rows{tos tO}(h:All2 RepE tos tO)(f:Nat):tos.map (mrg f)=tos:=by
 induction h with
 | nil=>rfl
 | cons h r ih=>simp[h.mrg,ih]
end Go.Proofs.YtohfclafhegadaaGreatDoor.Al

namespace Go.Proofs.YtohfclafhegadaaGreatDoor.Al
open Go Go.Abs Go.Proofs.YtohfclafhegadaaGreatDoor
def IntsE(v:AV)(l:List Int):Prop:=(l=[]∧(v=.nilsl∨∃b,v=.sl (.stat b) 1 []))∨∃b,v=.sl (.fam 0 b) 1 (l.map (.int .i64))
theorem IntsE.one{v l}(h:IntsE v l):v.known=true∧v.one=true∧v.cells=[v]:=by
 rcases h with ⟨_,rfl|⟨b,rfl⟩⟩|⟨b,rfl⟩<;>simp
def MrgOr(R:Out→AS→Prop)(o:Out)(σ':AS):Prop:=R o σ'∨∃v g p,o=.ret v∧0<σ'.nf∧σ'.F g=.alive∧R (.ret (mrg g v)) (σ'.mrg g p)
theorem merging{P:Program}{G:Env}{f:FuncId}{args:List AV}{σ:AS}{R:Out→AS→Prop}(h:ACalls P G f args σ (MrgOr R)):ACalls P G f args σ R:=ztC h
theorem MrgOr.merged{R:Out→AS→Prop}{v:AV}{σ':AS}(g:Nat)(p:Nat→Bool)(hn:0<σ'.nf)(h:σ'.F g=.alive)(h2:R (.ret (mrg g v)) (σ'.mrg g p)):MrgOr R (.ret v) σ':=.inr ⟨v,g,p,rfl,hn,h,h2⟩
def zE1(g:Nat)(v:AV)(tO:To):Prop:=(tO=[]∧v=.nilsl)∨∃tos,v=.sl (.fam g false) 1 tos∧All2 RepE tos tO
def FVE(v:AV)(p:F × Nat):Prop:=∃pv lv tv,v=.agg [.str p.1.name,pv,lv,.int .i64 p.1.type,tv]∧IntsE pv p.1.params∧IntsE lv p.1.locals∧zE1 p.2 tv p.1.lists
structure Gs(τ:AS)(base:Nat)(g:Nat)(gs:List Nat):Prop where
 nd:gs.Nodup
 each:∀x∈gs,base≤x∧x<τ.nf∧τ.F x=.alive∧x≠g
def OutE(τ:AS)(base:Nat)(v:AV)(l:List F):Prop :=
 (l=[]∧v=.nilsl)∨∃g rows ps,v=.sl (.fam g false) 5 rows∧base≤g∧g<τ.nf∧τ.F g=.alive∧ps.map Prod.fst=l∧All2 FVE rows ps∧Gs τ base g (ps.map Prod.snd)
end Go.Proofs.YtohfclafhegadaaGreatDoor.Al
namespace Go.Proofs.YtohfclafhegadaaGreatDoor.Al
open Go Go.Abs Go.Proofs.YtohfclafhegadaaGreatDoor
def ME(τ:AS)(base:Nat)(v:AV)(m:M):Prop:=∃fv,v=.agg [fv,.int .i64 m.memory,.int .i64 m.main]∧OutE τ base fv m.funcs
end Go.Proofs.YtohfclafhegadaaGreatDoor.Al


namespace Go.Proofs.YtohfclafhegadaaGreatDoor.Al
open Go Go.Abs Go.Proofs.YtohfclafhegadaaGreatDoor
def Rd(σ:AS):Go.Abs.Own→Prop
 | .stat _=>True
 | .fam f _=>f<σ.nf∧σ.F f=.alive
theorem Rd.read{σ φ}(h:Rd σ φ):zj σ.F φ:=by
 cases φ with
 | stat b=>exact trivial
 | fam f b=>exact h.2
theorem Rd.keep{σ σ' φ}(h:Rd σ φ)(A:zg σ σ'):Rd σ' φ:=by
 cases φ with
 | stat b=>exact trivial
 | fam f b=>exact⟨by have:=A.nf;have:=h.1;omega,(A.fam f h.1).trans h.2⟩
def IntsO(σ:AS)(v:AV)(l:List Int):Prop:=(l=[]∧v=.nilsl)∨∃φ,v=.sl φ 1 (l.map (.int .i64))∧Rd σ φ
def RepO(σ:AS)(v:AV)(l:List W):Prop:=(l=[]∧v=.nilsl)∨∃φ,v=.sl φ 6 (l.map W.av)∧Rd σ φ
def LstO(σ:AS)(v:AV)(l:To):Prop:=(l=[]∧v=.nilsl)∨∃φ rows,v=.sl φ 1 rows∧Rd σ φ∧All2 (RepO σ) rows l
def FVO(σ:AS)(v:AV)(f:F):Prop:=∃pv lv tv,v=.agg [.str f.name,pv,lv,.int .i64 f.type,tv]∧IntsO σ pv f.params∧IntsO σ lv f.locals∧LstO σ tv f.lists
def FsO(σ:AS)(v:AV)(l:List F):Prop:=(l=[]∧v=.nilsl)∨∃φ rows,v=.sl φ 5 rows∧Rd σ φ∧All2 (FVO σ) rows l
def MO(σ:AS)(v:AV)(m:M):Prop:=∃fv,v=.agg [fv,.int .i64 m.memory,.int .i64 m.main]∧FsO σ fv m.funcs
theorem IntsO.one{σ v l}(h:IntsO σ v l):v.known=true∧v.one=true∧v.cells=[v]:=by rcases h with ⟨_,rfl⟩|⟨b,rfl,_⟩<;>simp
theorem RepO.one{σ v l}(h:RepO σ v l):v.known=true∧v.one=true∧v.cells=[v]:=by rcases h with ⟨_,rfl⟩|⟨b,rfl,_⟩<;>simp
theorem LstO.one{σ v l}(h:LstO σ v l):v.known=true∧v.one=true∧v.cells=[v]:=by rcases h with ⟨_,rfl⟩|⟨b,_,rfl,_⟩<;>simp
theorem FsO.one{σ v l}(h:FsO σ v l):v.known=true∧v.one=true∧v.cells=[v]:=by rcases h with ⟨_,rfl⟩|⟨b,_,rfl,_⟩<;>simp
theorem IntsO.keep{σ σ' v l}(h:IntsO σ v l)(A:zg σ σ'):IntsO σ' v l:=by
 rcases h with h|⟨φ,h,r⟩
 ·exact .inl h
 ·exact .inr ⟨φ,h,r.keep A⟩
theorem RepO.keep{σ σ' v l}(h:RepO σ v l)(A:zg σ σ'):RepO σ' v l:=by
 rcases h with h|⟨φ,h,r⟩
 ·exact .inl h
 ·exact .inr ⟨φ,h,r.keep A⟩
theorem zgs{α β:Type}{R S:α→β→Prop}{xs ys}(h:All2 R xs ys)(hs:∀x y,R x y→S x y):All2 S xs ys:=by
 induction h with
 | nil=>exact .nil
 | cons h r ih=>exact .cons (hs _ _ h) ih
theorem LstO.keep{σ σ' v l}(h:LstO σ v l)(A:zg σ σ'):LstO σ' v l:=by
 rcases h with h|⟨φ,rows,h,r,k⟩
 ·exact .inl h
 ·exact .inr ⟨φ,rows,h,r.keep A,zgs k fun _ _ q=>q.keep A⟩
theorem FVO.keep{σ σ' v l}(h:FVO σ v l)(A:zg σ σ'):FVO σ' v l:=by
 obtain⟨pv,lv,tv,h,a,b,c⟩:=h
 exact⟨pv,lv,tv,h,a.keep A,b.keep A,c.keep A⟩
theorem FsO.keep{σ σ' v l}(h:FsO σ v l)(A:zg σ σ'):FsO σ' v l:=by
 rcases h with h|⟨φ,rows,h,r,k⟩
 ·exact .inl h
 ·exact .inr ⟨φ,rows,h,r.keep A,zgs k fun _ _ q=>q.keep A⟩
theorem MO.keep{σ σ' v m}(h:MO σ v m)(A:zg σ σ'):MO σ' v m:=by
 obtain⟨fv,h,k⟩:=h
 exact⟨fv,h,k.keep A⟩
theorem IntsO.len{σ v l}(h:IntsO σ v l)(K:AV→Prop):zgT yb9 44 v K=K (.int .i64 (l.length:Int)):=by rcases h with ⟨rfl,rfl⟩|⟨b,rfl,_⟩<;>simp
theorem LstO.len{σ v l}(h:LstO σ v l)(K:AV→Prop):zgT yb9 55 v K=K (.int .i64 (l.length:Int)):=by
 rcases h with ⟨rfl,rfl⟩|⟨b,rows,rfl,_,hr⟩
 ·simp
 ·simp[hr.length]
theorem FsO.len{σ v l}(h:FsO σ v l)(K:AV→Prop):zgT yb9 26 v K=K (.int .i64 (l.length:Int)):=by
 rcases h with ⟨rfl,rfl⟩|⟨b,rows,rfl,_,hr⟩
 ·simp
 ·simp[hr.length]
theorem IntsO.at{σ v l}(h:IntsO σ v l){i:Nat}(hi:i<l.length):∃φ,Rd σ φ∧∀K:AV→Prop,zq yb9 44 v (.int .i64 (i:Int)) K=K (.pv φ (.int .i64 l[i])):=by
 rcases h with ⟨rfl,_⟩|⟨φ,rfl,r⟩
 ·simp at hi
 ·exact⟨φ,r,fun K=>by simp[hi]⟩
theorem LstO.at{σ v l}(h:LstO σ v l){i:Nat}(hi:i<l.length):∃φ rv,Rd σ φ∧RepO σ rv l[i]∧∀K:AV→Prop,zq yb9 55 v (.int .i64 (i:Int)) K=K (.pv φ rv):=by
 rcases h with ⟨rfl,_⟩|⟨φ,rows,rfl,r,hr⟩
 ·simp at hi
 ·obtain⟨rv,h1,h2⟩:=hr.get (yau hi)
  exact⟨φ,rv,r,h2,fun K=>by simp[h1]⟩
theorem FsO.at{σ v l}(h:FsO σ v l){i:Nat}(hi:i<l.length):∃φ rv,Rd σ φ∧FVO σ rv l[i]∧∀K:AV→Prop,zq yb9 26 v (.int .i64 (i:Int)) K=K (.pv φ rv):=by
 rcases h with ⟨rfl,_⟩|⟨φ,rows,rfl,r,hr⟩
 ·simp at hi
 ·obtain⟨rv,h1,h2⟩:=hr.get (yau hi)
  exact⟨φ,rv,r,h2,fun K=>by simp[h1]⟩
def EI(va vb:AV)(n:Nat)(σ:AS)(a:Nat→AV)(τ:AS):Prop:=∃i:Nat,i≤n∧a 0=va∧a 1=vb∧a 5=.int .i64 (i:Int)∧zg σ τ
theorem ze9{G:Env}{σ:AS}{R:Out→AS→Prop}{va vb:AV}{l:List Int}(ha:IntsO σ va l)(hb:IntsO σ vb l)(hl:l.length≤2^40)(h:∀σ',zg σ σ'→R (.ret (.bool true)) σ'):zzQ G 79 [va,vb] σ R:=by
 refine zt2 rfl ?_
 have hal:=ha.len
 have hbl:=hb.len
 simp[zEe,hal,hbl]
 refine zae (EI va vb l.length σ) (MU 5 (l.length+1)) ⟨0,by omega,by simp,by simp,by simp,.refl _⟩ fun a τ hI=>?_
 obtain⟨i,hi,a0,a1,a5,A⟩:=hI
 by_cases hlt:i<l.length
 ·obtain⟨φ,r1,hx1⟩:=(ha.keep A).at hlt
  obtain⟨ψ,r2,hx2⟩:=(hb.keep A).at hlt
  have q1:=r1.read
  have q2:=r2.read
  have w5:yb4 .i64 ((i:Int)+1)=((i+1:Nat):Int):=by rw[wrap_i64]<;>omega
  simp[zkX,a0,a1,a5,hal,hlt,hx1,hx2,w5,q1,q2]
  refine⟨⟨i+1,by omega,by simp[a0],by simp[a1],by simp,A⟩,?_⟩
  simp only[MU,a5];simp;omega
 ·simp[zkX,zob,a0,a1,a5,hal,hlt]
  exact h _ A
theorem ziJ{G:Env}{σ:AS}{R:Out→AS→Prop}{va vb:AV}{l:To}(ha:LstO σ va l)(hb:LstO σ vb l)(hl:l.length≤2^40)(hr:∀r∈l,r.length≤2^30)(h:∀σ',zg σ σ'→R (.ret (.bool true)) σ'):zzQ G 180 [va,vb] σ R:=by
 refine zqR rfl ?_
 have hal:=ha.len
 have hbl:=hb.len
 simp[zxq,hal,hbl]
 refine zae (EI va vb l.length σ) (MU 5 (l.length+1)) ⟨0,by omega,by simp,by simp,by simp,.refl _⟩ fun a τ hI=>?_
 obtain⟨i,hi,a0,a1,a5,A⟩:=hI
 by_cases hlt:i<l.length
 ·obtain⟨φ,rv1,r1,e1,hx1⟩:=(ha.keep A).at hlt
  obtain⟨ψ,rv2,r2,e2,hx2⟩:=(hb.keep A).at hlt
  have q1:=r1.read
  have q2:=r2.read
  have o1:=e1.one
  have o2:=e2.one
  have hrl:=hr _ (yaw hlt)
  have w5:yb4 .i64 ((i:Int)+1)=((i+1:Nat):Int):=by rw[wrap_i64]<;>omega
  have sl:∀{v:AV} {r:List W},RepO τ v r→SlW τ v r:=fun h=>by
   rcases h with ⟨h1,h2⟩|⟨φ,h1,h2⟩
   ·exact .inl ⟨h1,h2⟩
   ·exact .inr ⟨φ,h1,h2.read⟩
  simp[ziC,a0,a1,a5,hal,hlt,hx1,hx2,q1,q2,o1,o2]
  refine zmW (sl e1) (sl e2) hrl ?_
  simp[w5,a5]
  refine⟨⟨i+1,by omega,by simp[a0],by simp[a1],by simp,A⟩,?_⟩
  simp only[MU,a5];simp;omega
 ·simp[ziC,zlW,a0,a1,a5,hal,hlt]
  exact h _ A
structure SzE(f:F):Prop where
 params:f.params.length≤2^40
 locals:f.locals.length≤2^40
 lists:f.lists.length≤2^40
 rows:∀r∈f.lists,r.length≤2^30
theorem zoj{G:Env}{σ:AS}{R:Out→AS→Prop}{va vb:AV}{f:F}(ha:FVO σ va f)(hb:FVO σ vb f)(hs:SzE f)(h:∀σ',zg σ σ'→R (.ret (.bool true)) σ'):zzQ G 140 [va,vb] σ R:=by
 refine zqC rfl ?_
 obtain⟨pa,la,ta,rfl,hpa,hla,hta⟩:=ha
 obtain⟨pb,lb,tb,rfl,hpb,hlb,htb⟩:=hb
 have a1:=hpa.one
 have a2:=hla.one
 have a3:=hta.one
 have b1:=hpb.one
 have b2:=hlb.one
 have b3:=htb.one
 simp[zxh,a1,a2,a3,b1,b2,b3]
 have A1:zg σ ((σ.newO [ycr f.name,pa,la,ycs yam f.type,ta]).newO [ycr f.name,pb,lb,ycs yam f.type,tb]):=(zg.refl σ).newO.newO
 have oa:((σ.newO [ycr f.name,pa,la,ycs yam f.type,ta]).newO [ycr f.name,pb,lb,ycs yam f.type,tb]).objs σ.no=some [ycr f.name,pa,la,ycs yam f.type,ta]:=by simp
 have ob:((σ.newO [ycr f.name,pa,la,ycs yam f.type,ta]).newO [ycr f.name,pb,lb,ycs yam f.type,tb]).objs (σ.no+1)=some [ycr f.name,pb,lb,ycs yam f.type,tb]:=by simp
 have n1:((σ.newO [ycr f.name,pa,la,ycs yam f.type,ta]).newO [ycr f.name,pb,lb,ycs yam f.type,tb]).no=σ.no+2:=by simp
 generalize (σ.newO [ycr f.name,pa,la,ycs yam f.type,ta]).newO [ycr f.name,pb,lb,ycs yam f.type,tb]=σ1 at *
 refine ze9 (hpa.keep A1) (hpb.keep A1) hs.params fun σ2 A2=>?_
 have oa2:=(A2.obj _ (by omega)).trans oa
 have ob2:=(A2.obj _ (by omega)).trans ob
 have n2:=A2.no
 have B2:=A1.trans A2
 simp[oa2,ob2,a1,a2,a3,b1,b2,b3]
 refine ze9 (hla.keep B2) (hlb.keep B2) hs.locals fun σ3 A3=>?_
 have oa3:=(A3.obj _ (by omega)).trans oa2
 have ob3:=(A3.obj _ (by omega)).trans ob2
 have B3:=B2.trans A3
 simp[oa3,ob3,a1,a2,a3,b1,b2,b3]
 refine ziJ (hta.keep B3) (htb.keep B3) hs.lists hs.rows fun σ4 A4=>?_
 simp
 exact h _ (B3.trans A4)
theorem zmX{G:Env}{σ:AS}{R:Out→AS→Prop}{va vb:AV}{l:List F}(ha:FsO σ va l)(hb:FsO σ vb l)(hl:l.length≤2^40)(hs:∀f∈l,SzE f)(h:∀σ',zg σ σ'→R (.ret (.bool true)) σ'):zzQ G 74 [va,vb] σ R:=by
 refine zt1 rfl ?_
 have hal:=ha.len
 have hbl:=hb.len
 simp[zEd,hal,hbl]
 refine zae (EI va vb l.length σ) (MU 5 (l.length+1)) ⟨0,by omega,by simp,by simp,by simp,.refl _⟩ fun a τ hI=>?_
 obtain⟨i,hi,a0,a1,a5,A⟩:=hI
 by_cases hlt:i<l.length
 ·obtain⟨φ,rv1,r1,e1,hx1⟩:=(ha.keep A).at hlt
  obtain⟨ψ,rv2,r2,e2,hx2⟩:=(hb.keep A).at hlt
  have q1:=r1.read
  have q2:=r2.read
  have hsz:=hs _ (yaw hlt)
  generalize l[i]=f at *
  have w5:yb4 .i64 ((i:Int)+1)=((i+1:Nat):Int):=by rw[wrap_i64]<;>omega
  have f1:=e1
  have f2:=e2
  obtain⟨pa,la,ta,rfl,hpa,hla,hta⟩:=e1
  obtain⟨pb,lb,tb,rfl,hpb,hlb,htb⟩:=e2
  have o1:=hpa.one
  have o2:=hla.one
  have o3:=hta.one
  have o4:=hpb.one
  have o5:=hlb.one
  have o6:=htb.one
  simp[zkW,a0,a1,a5,hal,hlt,hx1,hx2,q1,q2,o1,o2,o3,o4,o5,o6]
  refine zoj f1 f2 hsz fun σ2 A2=>?_
  simp[w5,a5]
  refine⟨⟨i+1,by omega,by simp[a0],by simp[a1],by simp,A.trans A2⟩,?_⟩
  simp only[MU,a5];simp;omega
 ·simp[zkW,zoa,a0,a1,a5,hal,hlt]
  exact h _ A
theorem eqM_calls{G:Env}{σ:AS}{R:Out→AS→Prop}{va vb:AV}{m:M}(ha:MO σ va m)(hb:MO σ vb m)(hl:m.funcs.length≤2^40)(hs:∀f∈m.funcs,SzE f)(h:∀σ',zg σ σ'→R (.ret (.bool true)) σ'):zzQ G 22 [va,vb] σ R:=by
 refine ztL rfl ?_
 obtain⟨fa,rfl,hfa⟩:=ha
 obtain⟨fb,rfl,hfb⟩:=hb
 have a1:=hfa.one
 have b1:=hfb.one
 simp[zD2,a1,b1]
 have A1:zg σ ((σ.newO [fa,ycs yam m.memory,ycs yam m.main]).newO [fb,ycs yam m.memory,ycs yam m.main]):=(zg.refl σ).newO.newO
 refine zmX (hfa.keep A1) (hfb.keep A1) hl hs fun σ2 A2=>?_
 simp
 exact h _ (A1.trans A2)
end Go.Proofs.YtohfclafhegadaaGreatDoor.Al
namespace Go.Proofs.YtohfclafhegadaaGreatDoor.Al
open Go Go.Abs Go.Proofs.YtohfclafhegadaaGreatDoor
theorem zDx{σ:AS}(h0:0<σ.nf∧σ.F 0=.alive){v l}(h:RepE v l):RepO σ v l:=by
 rcases h with h|⟨b,h⟩
 ·exact .inl h
 ·exact .inr ⟨_,h,h0⟩
theorem zsE{σ:AS}(h0:0<σ.nf∧σ.F 0=.alive){v l}(h:IntsE v l):IntsO σ v l:=by
 rcases h with ⟨rfl,h|⟨b,h⟩⟩|⟨b,h⟩
 ·exact .inl ⟨rfl,h⟩
 ·exact .inr ⟨_,h,trivial⟩
 ·exact .inr ⟨_,h,h0⟩
theorem zrf{R:AV→F × Nat→Prop}{S:AV→F→Prop}{rows:List AV}{ps:List (F × Nat)}(h:All2 R rows ps)(hs:∀v p,p∈ps→R v p→S v p.1):All2 S rows (ps.map Prod.fst):=by
 induction h with
 | nil=>exact .nil
 | cons h r ih=>exact .cons (hs _ _ (by simp) h) (ih fun v p hp=>hs v p (by simp[hp]))
theorem m_e{σ:AS}{base:Nat}(h0:0<σ.nf∧σ.F 0=.alive){v m}(h:ME σ base v m):MO σ v m:=by
 obtain⟨fv,rfl,hf⟩:=h
 refine⟨fv,rfl,?_⟩
 rcases hf with h|⟨g,rows,ps,rfl,q1,q2,q3,q4,q5,q6⟩
 ·exact .inl h
 ·refine .inr ⟨_,rows,rfl,⟨q2,q3⟩,?_⟩
  rw[←q4]
  refine zrf q5 fun v p hp ⟨pv,lv,tv,e,a,b,c⟩=>⟨pv,lv,tv,e,zsE h0 a,zsE h0 b,?_⟩
  obtain⟨u1,u2,u3,u4⟩:=q6.each p.2 (List.mem_map_of_mem hp)
  rcases c with c|⟨tos,rfl,c⟩
  ·exact .inl c
  ·exact .inr ⟨_,tos,rfl,⟨u2,u3⟩,zgs c fun _ _ q=>zDx h0 q⟩
end Go.Proofs.YtohfclafhegadaaGreatDoor.Al
namespace Go.Proofs.YtohfclafhegadaaGreatDoor
open Go Go.Abs
def okT(t:List UInt8):Bool:=match t with
 | []=>true
 | c::r=>zO c&&r.all fun x=>zO x||zE x
theorem zok(t:List UInt8):zgU 24 t=(decide (1≤t.length∧t.length≤24)&&okT t):=by
 cases t with
 | nil=>rfl
 | cons c r =>
  have:(1≤(c::r).length)=True:=by simp
  simp only[zgU,okT,this,true_and]
theorem zrg(d:List UInt8)(c:UInt8):okT (d++[c])=(okT d&&(if d=[]then zO c else zO c||zE c)):=by
 cases d with
 | nil=>simp[okT]
 | cons x r=>simp[okT,Bool.and_assoc]
theorem zui(d r:List UInt8)(h:okT d=false):okT (d++r)=false:=by
 cases d with
 | nil=>cases h
 | cons x y =>
  simp only[okT,yct,ycb]at *
  cases h1:zO x with
  | false=>simp
  | true=>simp[h1]at h;simp;intro a;exact absurd a (by simpa using h)
section
variable {G : Env} {σ : AS} {R : Out → AS → Prop}
def TgI(t:List UInt8)(σ:AS)(a:Nat→AV)(τ:AS):Prop:=∃(d r:List UInt8),t=d++r∧okT d=true∧a 0=.str t∧a 3=.int .i64 (d.length:Int)∧τ=σ
theorem zyQ{t:List UInt8}(hl:t.length<2^40)(h:R (.ret (.bool (zgU 24 t))) σ):zzQ G 51 [.str t] σ R:=by
 refine ztN rfl ?_
 rw[zok]at h
 simp[zD4]
 refine zae (TgI t σ) (MU 3 (t.length+1)) ⟨[],t,rfl,rfl,by simp,by simp,rfl⟩ fun a τ hI=>?_
 obtain⟨d,r,hdr,hok,a0,a3,rfl⟩:=hI
 cases r with
 | nil =>
  have e:t=d:=by simpa using hdr
  have e2:d.length=t.length:=by rw[e]
  rw[e2]at a3
  rw[e,hok]at h
  rw[←e]at h
  by_cases h1:1≤t.length
  ·have h1i:(1:Int)≤(t.length:Int):=by omega
   by_cases h2:t.length≤24
   ·have h2i:(t.length:Int)≤24:=by omega
    simp[za4,zio,a0,a3,h1,h1i,h2,h2i]
    simpa [h1,h2]using h
   ·have h2i:¬(t.length:Int)≤24:=by omega
    simp[za4,zio,a0,a3,h1,h1i,h2,h2i]
    simpa [h1,h2]using h
  ·have h1i:¬(1:Int)≤(t.length:Int):=by omega
   simp[za4,zio,a0,a3,h1,h1i]
   simpa [h1]using h
 | cons c r =>
  have hlt:d.length<t.length:=by simp[hdr]
  have hlti:(d.length:Int)<(t.length:Int):=by omega
  have hi:t[d.length]'hlt=c:=by simp[hdr]
  have w1:yb4 .i64 ((d.length:Int)+1)=((d.length+1:Nat):Int):=by rw[wrap_i64]<;>omega
  have e1:t=(d++[c])++r:=by simp[hdr]
  have bad:okT (d++[c])=false→R (.ret (.bool false)) τ:=fun q=>by
   have:okT t=false:=by rw[e1];exact zui _ _ q
   rw[this]at h
   simpa using h
  have good:∀a':Nat→AV,okT (d++[c])=true→a' 0=.str t→a' 3=.int .i64 ((d.length+1:Nat):Int)→TgI t τ a' τ∧MU 3 (t.length+1) a' τ<MU 3 (t.length+1) a τ:=fun a' q q0 q3=>by
   refine⟨⟨d++[c],r,e1,q,q0,by simpa using q3,rfl⟩,?_⟩
   simp[MU,a3,q3];omega
  rw[zrg,hok,Bool.true_and]at bad good
  have hc255:=c.toNat_lt
  by_cases hL:97≤c.toNat∧c.toNat≤122
  ·have l1:(97:Int)≤(c.toNat:Int):=by omega
   have l2:(c.toNat:Int)≤122:=by omega
   have hl:zO c=true:=by simp[zO,hL]
   simp[za4,a0,a3,hlt,hlti,hi,hL,l1,l2,w1]
   refine good _ ?_ ?_ ?_
   ·rw[hl];split<;>rfl
   ·simp[a0]
   ·simp
  ·by_cases h95:c=95
   ·subst h95
    simp[za4,a0,a3,hlt,hlti,hi,w1]
    refine good _ ?_ ?_ ?_
    ·have:zO 95=true:=by decide
     rw[this];split<;>rfl
    ·simp[a0]
    ·simp
   ·have h95i:¬(c.toNat:Int)=95:=fun e=>h95 (UInt8.toNat_inj.1 (show c.toNat=(95:UInt8).toNat by have:(95:UInt8).toNat=95:=rfl;omega))
    have h95n:¬c.toNat=95:=by omega
    have hl:zO c=false:=by
     simp only[zO,Bool.or_eq_false_iff,beq_eq_false_iff_ne,ne_eq,h95,not_false_iff,and_true]
     by_cases q:97≤c.toNat
     ·have:¬c.toNat≤122:=fun q2=>hL ⟨q,q2⟩
      simp[this]
     ·simp[q]
    have pre:∀b97:Bool,decide ((97:Int)≤(c.toNat:Int))=b97→(b97=true→¬(c.toNat:Int)≤122):=fun b e q=>by
     subst q
     have:=of_decide_eq_true e
     omega
    by_cases h97:(97:Int)≤(c.toNat:Int)
    ·have h122:¬(c.toNat:Int)≤122:=by omega
     have h97n:97≤c.toNat:=by omega
     have h122n:¬c.toNat≤122:=by omega
     have hdg:zE c=false:=by simp[zE];omega
     by_cases hd0:d=[]
     ·subst hd0
      simp at a3
      have hi0:t[0]'hlt=c:=hi
      have hlt0:0<t.length:=hlt
      have hlti0:(0:Int)<(t.length:Int):=by omega
      simp[za4,a0,a3,hlt0,hlti0,hi0,h97,h122,h97n,h122n,h95i,h95n,h95,w1]
      exact bad (by simp[hl])
     ·have hdi:¬(d.length:Int)=0:=by have:=ybm.2 hd0;omega
      have hdn:¬d.length=0:=by omega
      have h48:¬(c.toNat:Int)<48:=by omega
      have h48n:¬c.toNat<48:=by omega
      have h57:(57:Int)<(c.toNat:Int):=by omega
      have h57n:57<c.toNat:=by omega
      simp[za4,a0,a3,hlt,hlti,hi,h97,h122,h97n,h122n,h95i,h95n,h95,w1,hdi,hdn,hd0,h48,h48n,h57,h57n]
      exact bad (by simp[hl,hd0,hdg])
    ·have h97n:¬97≤c.toNat:=by omega
     by_cases hd0:d=[]
     ·subst hd0
      simp at a3
      have hi0:t[0]'hlt=c:=hi
      have hlt0:0<t.length:=hlt
      have hlti0:(0:Int)<(t.length:Int):=by omega
      simp[za4,a0,a3,hlt0,hlti0,hi0,h97,h97n,h95i,h95n,h95,w1]
      exact bad (by simp[hl])
     ·have hdi:¬(d.length:Int)=0:=by have:=ybm.2 hd0;omega
      have hdn:¬d.length=0:=by omega
      by_cases h48:(c.toNat:Int)<48
      ·have h48n:c.toNat<48:=by omega
       have hdg:zE c=false:=by simp[zE];omega
       simp[za4,a0,a3,hlt,hlti,hi,h97,h97n,h95i,h95n,h95,w1,hdi,hdn,hd0,h48,h48n]
       exact bad (by simp[hl,hd0,hdg])
      ·have h48n:¬c.toNat<48:=by omega
       by_cases h57:(57:Int)<(c.toNat:Int)
       ·have h57n:57<c.toNat:=by omega
        have hdg:zE c=false:=by simp[zE];omega
        simp[za4,a0,a3,hlt,hlti,hi,h97,h97n,h95i,h95n,h95,w1,hdi,hdn,hd0,h48,h48n,h57,h57n]
        exact bad (by simp[hl,hd0,hdg])
       ·have h57n:¬57<c.toNat:=by omega
        have hdg:zE c=true:=by simp[zE];omega
        simp[za4,a0,a3,hlt,hlti,hi,h97,h97n,h95i,h95n,h95,w1,hdi,hdn,hd0,h48,h48n,h57,h57n]
        refine good _ ?_ ?_ ?_
        ·simp[hl,hd0,hdg]
        ·simp[a0]
        ·simp
end
def zbY:List AV:=(signs.map fun p=>[ycr p.1,ycr p.2]).flatten
structure zk9(G:Env):Prop where
 signs:G.g 10=.pv (.stat true) (.agg zbY)
 max:∃m,G.g 11=.pv (.stat true) (.int .i64 m)
theorem zaX{G:Env}{σ:AS}{R:Out→AS→Prop}{t:Int}(h:R (.ret (.bool (zab t))) σ):zzQ G 107 [.int .i64 t] σ R:=by
 refine zqg rfl ?_
 unfold zab at h
 by_cases h1:t=1
 ·simp[h1]at h
  simp[zqf,h1];exact h
 ·by_cases h2:t=2
  ·simp[h2]at h
   simp[zqf,h2];exact h
  ·simp[h1,h2]at h
   simp[zqf,h1,h2];exact h
def zg9(e:Int):AV:=.iface 71 (.agg [.int .i64 e])
theorem zc{G:Env}{σ:AS}{R:Out→AS→Prop}{b:Bool}{e:Int}(h1:b=true→R (.ret (.tuple [])) σ)(h2:b=false→R (.panic (zg9 e)) σ):zzQ G 53 [.bool b,.int .i64 e] σ R:=by
 refine ztO rfl ?_
 cases b with
 | true=>simp[zC0,splice];exact h1 rfl
 | false=>simp[zC0,splice];exact h2 rfl
theorem zgt{G:Env}{σ:AS}{R:Out→AS→Prop}{t n:Int}(h:R (.ret (.bool (zhB t n))) σ):zzQ G 228 [.int .i64 t,.int .i64 n] σ R:=by
 refine zq4 rfl ?_
 unfold zhB at h
 by_cases h1:t=1
 ·by_cases h2:n=1
  ·simp[h1,h2]at h;simp[zkY,h1,h2];exact h
  ·by_cases h4:n=4
   ·simp[h1,h4]at h;simp[zkY,h1,h4];exact h
   ·simp[h1,h2,h4]at h;simp[zkY,h1,h2,h4];exact h
 ·by_cases h2:t=2
  ·by_cases h8:n=8
   ·simp[h2,h8]at h;simp[zkY,h2,h8];exact h
   ·simp[h2,h8]at h;simp[zkY,h2,h8];exact h
  ·simp[h1,h2]at h;simp[zkY,h1,h2];exact h
theorem zjV(k:IntKind)(n:Int)(h:k=.i8∨k=.i32):yb4 .i64 (k.wrap n)=k.wrap n:=by
 have hb:-2147483648≤k.wrap n∧k.wrap n≤2147483647:=by
  rcases h with rfl|rfl<;>simp only[yb4,yao,yap]<;>simp<;>omega
 rw[wrap_i64]<;>omega
theorem zmY{G:Env}{σ:AS}{R:Out→AS→Prop}{t v:Int}(h:R (.ret (.int .i64 (zug t v))) σ):zzQ G 220 [.int .i64 t,.int .i64 v] σ R:=by
 refine zq3 rfl ?_
 unfold zug at h
 by_cases h3:t=3
 ·simp[h3]at h;simp[zoe,h3,zjV];exact h
 ·by_cases h1:t=1
  ·simp[h1]at h;simp[zoe,h1,zjV];exact h
  ·by_cases h2:t=2
   ·simp[h2]at h;simp[zoe,h2];exact h
   ·simp[h1,h2,h3]at h;simp[zoe,h1,h2,h3];exact h
def GI(s:List UInt8)(σ:AS)(a:Nat→AV)(τ:AS):Prop:=∃i:Nat,i≤16∧a 0=.str s∧a 5=.agg zbY∧a 6=.int .i64 (i:Int)∧zbf (signs.drop i) s=zbf signs s∧zg σ τ
theorem zl5:∀(l:List (List UInt8 × List UInt8)) (i:Nat) (p:List UInt8 × List UInt8),l[i]?=some p→(((l.map fun p=>[ycr p.1,ycr p.2]).flatten).drop (i*2)).take 2=[.str p.1,.str p.2]
 | [],i,p,h=>by simp at h
 | q::l,0,p,h=>by simp at h;subst h;rfl
 | q::l,i+1,p,h=>by
  have:=zl5 l i p (by simpa using h)
  rw[show(i+1)*2=i*2+1+1 from by omega]
  simpa using this
theorem zrh(i:Nat)(h:i<16):∃p,signs[i]?=some p∧(zbY.drop (i*2)).take 2=[.str p.1,.str p.2] :=
 ⟨_,yau h,zl5 signs i _ (yau h)⟩
theorem zmZ{G:Env}(V:zk9 G){σ:AS}{R:Out→AS→Prop}{s:List UInt8}(h:∀σ',zg σ σ'→R (.ret (.str (zbf signs s))) σ'):zzQ G 219 [.str s] σ R:=by
 refine zq2 rfl ?_
 have hg:=V.signs
 have hl:zbY.length=32:=rfl
 simp[zxv,hg,hl]
 refine zae (GI s σ) (MU 6 17) ⟨0,by omega,by simp,by simp,by simp,rfl,.refl _⟩ fun a τ hI=>?_
 obtain⟨i,hi,a0,a5,a6,hs,A⟩:=hI
 by_cases hlt:i<16
 ·obtain⟨p,hp,hc⟩:=zrh i hlt
  have hd:signs.drop i=p::signs.drop (i+1):=by
   obtain⟨hi',e⟩:=yaq.1 hp
   rw[ycu hi',e]
  have hlt':(i:Int)<16:=by omega
  have hw3:yb4 .i64 ((i:Int)+1)=((i+1:Nat):Int):=by rw[wrap_i64]<;>omega
  have hle:i*2+2≤32:=by omega
  obtain⟨x,y⟩:=p
  rw[hd,zbf]at hs
  by_cases he:x=s
  ·rw[if_pos he]at hs
   simp[zfG,a0,a5,a6,hlt',hl,hle,zad,hc,splice,he]
   rw[hs]
   exact h _ ((A.newO).setO (by have:=A.no;omega))
  ·rw[if_neg he]at hs
   simp[zfG,a0,a5,a6,hlt',hl,hle,zad,hc,splice,he,hw3]
   refine⟨⟨i+1,by omega,by simp[a0],by simp[a5],by simp,hs,(A.newO).setO (by have:=A.no;omega)⟩,?_⟩
   simp[MU,a6];omega
 ·have he:i=16:=by omega
  subst he
  have:zbf signs s=[]:=by rw[←hs];rfl
  rw[this]at h
  simp[zfG,zl1,a6]
  exact h _ A
@[simp] theorem grown_full_cons{KS:AV→AS→Prop}{σ:AS}(el bs sz f s' xs y ys):zcy el bs sz (.sl (.fam f true) s' xs) (y::ys) σ KS=(s'=sz∧(xs.length+(y::ys).length)*bs≤2^47∧σ.F f=.alive∧KS (.sl (.fam σ.nf false) sz (xs++y::ys)) σ.newF):=by simp[zcy]
@[simp] theorem zuj{P:Program}{G:Env}{n:Nat}{pa pb:PC}{ps:List Nat}{f0:Nat}{a:Nat→AV}{l:Nat}{args:List AV}{σ:AS}{K PK:AV→AS→Prop}:
  zjr P (G.under P n pa pb ps f0 a l) (.fn (.yield l) [] []) args σ K PK=(args.length=ps.length∧σ.F f0=.alive∧avc P G n pa (zbr (fun a1 σ1=>σ1.F f0=.alive∧avc P G n pb (rq f0 K PK) a1 σ1) fun _ _ _=>False) (upds a ps args) σ):=by
 simp[zjr,Env.under,zsq]
@[simp] theorem zyR(f0:Nat)(K PK:AV→AS→Prop)(a:Nat→AV)(σ:AS):rq f0 K PK .normal a σ=(σ.F f0=.alive∧K (.bool true) σ):=Eq.trans rfl rfl
@[simp] theorem zB7(f0:Nat)(K PK:AV→AS→Prop)(v:AV)(a:Nat→AV)(σ:AS):rq f0 K PK (.panic v) a σ=(σ.F f0=.alive∧PK v { σ with F:=upd σ.F f0 .dead }):=Eq.trans rfl rfl
def zaW(l:List Int):List AV:=l.map (.int .i64)
def SV(σ:AS)(sv:AV)(st:List Int):Prop:=(st=[]∧sv=.nilsl)∨∃g b,sv=.sl (.fam g b) 1 (zaW st)∧g<σ.nf∧σ.F g=.alive
def zla(σ:AS)(x f:Nat):Prop:=∃cs v,σ.objs x=some cs∧cs[1]?=some v∧zbX v=some f
structure zaq(x:Nat)(σ σ':AS):Prop where
 no:σ.no≤σ'.no
 nf:σ.nf≤σ'.nf
 obj:∀o,o<σ.no→o≠x→σ'.objs o=σ.objs o
 fam:∀f,f<σ.nf→¬zla σ x f→σ'.F f=σ.F f
 use:∀f,f<σ.nf→zla σ' x f→zla σ x f
theorem zaq.refl(x σ):zaq x σ σ:=⟨yah _,yah _,fun _ _ _=>rfl,fun _ _ _=>rfl,fun _ _ h=>h⟩
theorem zaq.trans{x σ σ1 σ2}(h:zaq x σ σ1)(h':zaq x σ1 σ2):zaq x σ σ2 where
 no:=yai h.no h'.no
 nf:=yai h.nf h'.nf
 obj o a b:=by rw[h'.obj o (yag a h.no) b,h.obj o a b]
 fam f a b:=by rw[h'.fam f (yag a h.nf) fun u=>b (h.use f a u),h.fam f a b]
 use f a u:=h.use f a (h'.use f (yag a h.nf) u)
theorem zg.keepL{x σ σ'}(h:zg σ σ')(hx:x<σ.no):zaq x σ σ' where
 no:=h.no
 nf:=h.nf
 obj o a _:=h.obj o a
 fam f a _:=h.fam f a
 use f _ u:=by unfold zla at *;rwa [h.obj x hx]at u
def LS(σ:AS)(x c:Nat)(s:St)(deep:Int):Prop:=x<σ.no∧∃sv,σ.objs x=some [.ptr c 0,sv,.bool s.any,.int .i64 deep]∧SV σ sv s.stack
theorem LS.adds{σ σ' x c s deep}(h:LS σ x c s deep)(A:zg σ σ'):LS σ' x c s deep:=by
 obtain⟨hx,sv,ho,hs⟩:=h
 refine⟨yag hx A.no,sv,(A.obj x hx).trans ho,?_⟩
 rcases hs with hs|⟨g,b,e,h1,h2⟩
 ·exact .inl hs
 ·exact .inr ⟨g,b,e,yag h1 A.nf,(A.fam g h1).trans h2⟩
def zpz(R:Out→AS→Prop)(x c:Nat)(deep:Int)(σ:AS):Res St→Prop
 | .ok s'=>∀σ',zaq x σ σ'→LS σ' x c s' deep→R (.ret (.tuple [])) σ'
 | .error e=>∀σ',zaq x σ σ'→R (.panic (zg9 e)) σ'
theorem zaq.set{x σ cs}(hx:x<σ.no)(h:∀f v,f<σ.nf→cs[1]?=some v→zbX v=some f→zla σ x f):zaq x σ (σ.setO x cs) where
 no:=yah _
 nf:=yah _
 obj o _ ho:=by simp[ho]
 fam f _ _:=rfl
 use f hf u:=by
  obtain⟨cs',v,h1,h2,h3⟩:=u
  simp at h1
  subst h1
  exact h f v hf h2 h3
theorem zeJ{G:Env}{σ:AS}{R:Out→AS→Prop}{x c:Nat}{s:St}{deep:Int}(L:LS σ x c s deep)(hb:s.stack.length≤2^40)(h:zpz R x c deep σ (zd9 s)):zzQ G 231 [.ptr x 0] σ R:=by
 refine zq7 rfl ?_
 have L0:=L
 obtain⟨hx,sv,ho,hs⟩:=L
 unfold zd9 at h
 rcases hs with ⟨hnil,rfl⟩|⟨g,b,rfl,hg1,hg2⟩
 ·have hl:s.stack.length=0:=by rw[hnil];rfl
  rw[if_pos hl]at h
  cases ha:s.any with
  | true =>
   rw[ha]at ho h
   rw[if_pos rfl]at h
   simp[zk0,ho]
   exact h σ (.refl _ _) L0
  | false =>
   rw[ha]at ho h
   rw[if_neg (by simp)]at h
   simp[zk0,ho]
   refine zc (fun q=>by simp at q) fun _=>?_
   exact h σ (.refl _ _)
 ·have hlA:(zaW s.stack).length=s.stack.length:=by simp[zaW]
  by_cases hl:s.stack.length=0
  ·rw[if_pos hl]at h
   have hl2:zaW s.stack=[]:=ybS.1 (by omega)
   cases ha:s.any with
   | true =>
    rw[ha]at ho h
    rw[if_pos rfl]at h
    simp[zk0,ho,hl2]
    exact h σ (.refl _ _) L0
   | false =>
    rw[ha]at ho h
    rw[if_neg (by simp)]at h
    simp[zk0,ho,hl2]
    refine zc (fun q=>by simp at q) fun _=>?_
    exact h σ (.refl _ _)
  ·rw[if_neg hl]at h
   have hl2:¬((zaW s.stack).length:Int)=0:=by omega
   have hl3:(0:Int)<((zaW s.stack).length:Int):=by omega
   have hne:¬zaW s.stack=[]:=fun q=>by rw[q]at hl2;simp at hl2
   have hpos:0<(zaW s.stack).length:=by omega
   have hw:yb4 .i64 (((zaW s.stack).length:Int)-1)=(((zaW s.stack).length-1:Nat):Int):=by rw[wrap_i64]<;>omega
   have e:(zaW s.stack).take ((zaW s.stack).length-1)=zaW s.stack.dropLast:=by
    rw[hlA];unfold zaW;rw[←List.map_take,List.dropLast_eq_take]
   simp[zk0,ho,hne,hpos,splice]
   refine zc (fun _=>?_) (fun q=>by simp at q)
   simp[zk0,ho,hne,hpos,splice,hw]
   rw[e]
   refine h _ (.set hx fun f v hf hv hfam=>?_) ⟨by simpa using hx,_,by simp,.inr ⟨g,true,rfl,hg1,hg2⟩⟩
   simp at hv
   subst hv
   simp[zbX]at hfam
   subst hfam
   exact⟨_,_,ho,rfl,rfl⟩
theorem zol(σ:AS)(x:Nat)(a b:List AV):(σ.setO x a).setO x b=σ.setO x b:=by
 unfold AS.setO
 congr 1
 funext j
 simp only[upd]
 split<;>rfl
theorem zbi{G:Env}{σ:AS}{R:Out→AS→Prop}{x c:Nat}{s:St}{deep:Int}(L:LS σ x c s deep)(h:∀σ',zaq x σ σ'→LS σ' x c zk1 deep→R (.ret (.tuple [])) σ'):zzQ G 195 [.ptr x 0] σ R:=by
 refine zqW rfl ?_
 obtain⟨hx,sv,ho,hs⟩:=L
 simp[zxs,ho,splice]
 rw[zol]
 refine h _ ((zaq.set (cs:=[.ptr c 0,.nilsl,.bool true,.int .i64 deep]) hx fun f v hf hv hfam=>?_)) ⟨by simpa using hx,_,by simp[zk1],.inl ⟨rfl,rfl⟩⟩
 simp at hv
 subst hv
 simp[zbX]at hfam
theorem zaq.grow{x:Nat}{σ σ1:AS}{cs:List AV}(hx:x<σ.no)(ho:σ1.objs=σ.objs)(hno:σ1.no=σ.no)(hnf:σ.nf≤σ1.nf)(hF:∀f,f<σ.nf→¬zla σ x f→σ1.F f=σ.F f)(h:∀f v,f<σ.nf→cs[1]?=some v→zbX v=some f→False):zaq x σ (σ1.setO x cs) where
 no:=by simp[hno]
 nf:=by simpa using hnf
 obj o _ hne:=by simp[hne,ho]
 fam f hf hu:=hF f hf hu
 use f hf u:=by
  obtain⟨cs',v,h1,h2,h3⟩:=u
  simp at h1
  subst h1
  exact(h f v hf h2 h3).elim
theorem zW{G:Env}{σ:AS}{R:Out→AS→Prop}{x c:Nat}{s:St}{deep t:Int}(L:LS σ x c s deep)(hb:s.stack.length≤2^40)(h:∀σ',zaq x σ σ'→LS σ' x c (zeG s t) deep→R (.ret (.tuple [])) σ'):zzQ G 194 [.ptr x 0,.int .i64 t] σ R:=by
 refine zqV rfl ?_
 have L0:=L
 obtain⟨hx,sv,ho,hs⟩:=L
 by_cases ht:t=0
 ·have e:zeG s t=s:=by simp[zeG,ht]
  rw[e]at h
  simp[zod,ht]
  exact h σ (.refl _ _) L0
 ·have e:zeG s t={ s with stack:=s.stack++[t] }:=by simp[zeG,ht]
  rw[e]at h
  rcases hs with ⟨hnil,rfl⟩|⟨g,b,rfl,hg1,hg2⟩
  ·simp[zod,ht,ho,splice]
   refine h _ (.grow hx rfl rfl (by simp) (fun f hf _=>by simp;omega) fun f v hf hv hfam=>?_) ⟨by simpa using hx,.sl (.fam σ.nf false) 1 (zaW (s.stack++[t])),by simp[hnil,zaW],.inr ⟨σ.nf,false,rfl,by simp,by simp⟩⟩
   ·simp at hv;subst hv;simp[zbX]at hfam;omega
  ·have hlA:(zaW s.stack).length=s.stack.length:=by simp[zaW]
   have ea:zaW s.stack++[.int .i64 t]=zaW (s.stack++[t]):=by simp[zaW]
   cases b with
   | true =>
    simp[zod,ht,ho,splice,hg2,hlA]
    refine⟨by omega,h _ (.grow hx rfl rfl (by simp) (fun f hf _=>by simp;omega) fun f v hf hv hfam=>?_) ⟨by simpa using hx,.sl (.fam σ.nf false) 1 (zaW (s.stack++[t])),by simp[zaW],.inr ⟨σ.nf,false,rfl,by simp,by simp⟩⟩⟩
    ·simp at hv;subst hv;simp[zbX]at hfam;omega
   | false =>
    simp[zod,ht,ho,splice,hg2,hlA]
    refine⟨by omega,h _ (.grow hx rfl rfl (by simp) (fun f hf hu=>?_) fun f v hf hv hfam=>?_) ⟨by simpa using hx,.sl (.fam σ.nf false) 1 (zaW (s.stack++[t])),by simp[zaW],.inr ⟨σ.nf,false,rfl,by simp,by simp⟩⟩⟩
    ·have:f≠g:=by rintro rfl;exact hu ⟨_,_,ho,rfl,rfl⟩
     simp[this];omega
    ·simp at hv;subst hv;simp[zbX]at hfam;omega
theorem zha{G:Env}{σ:AS}{R:Out→AS→Prop}{tv:AV}(hk:tv.known=true)(hc:tv.cells=[tv])(h:R (.ret (.fn (.func 250) [] [.ptr σ.no 0])) (σ.newO [tv])):zzQ G 230 [tv] σ R:=by
 refine zq6 rfl ?_
 simp[zxw,hk,hc]
 exact h
theorem zm0(t:Int)(ts:List Int)(s:St):z7 (t::ts) s=if s.stack.length=0∨s.stack.getLast?=some t then(match zd9 s with|.ok s'=>z7 ts s'|.error e=>.error e)else .error 14:=rfl
theorem zfI{s s':St}(h:zd9 s=.ok s'):s'.stack.length≤s.stack.length:=by
 unfold zd9 at h
 split at h
 ·split at h
  ·cases h;exact yah _
  ·cases h
 ·cases h;simp
@[simp] theorem zB8(a:Nat→AV)(p q:Nat)(x y:AV):upds a [p,q] [x,y]=upd (upd a p x) q y:=Eq.trans rfl rfl
theorem SV.len{σ:AS}{sv:AV}{st:List Int}(h:SV σ sv st)(K:AV→Prop):zgT yb9 44 sv K=K (.int .i64 (st.length:Int)):=by
 rcases h with ⟨rfl,rfl⟩|⟨g,b,rfl,_⟩
 ·simp
 ·simp[zaW]
theorem SV.last{σ:AS}{sv:AV}{st:List Int}(h:SV σ sv st)(hn:0<st.length):∃φ v,zj σ.F φ∧st.getLast?=some v∧∀(n:Int),n=(st.length:Int)-1→∀K:AV→Prop,zq yb9 44 sv (.int .i64 n) K=K (.pv φ (.int .i64 v)):=by
 rcases h with ⟨rfl,_⟩|⟨g,b,rfl,_,hg⟩
 ·simp at hn
 ·refine⟨.fam g b,st[st.length-1],hg,by rw[List.getLast?_eq_getElem?,yau (by omega)],fun n hn2 K=>?_⟩
  have e:n.toNat=st.length-1:=by omega
  have h0:0≤n:=by omega
  have hlt:st.length-1<st.length:=by omega
  simp[zaW,e,h0,hlt]
def TI(x c:Nat)(deep:Int)(o f0 l:Nat)(σN:AS)(ts:List Int)(s0:St)(a:Nat→AV)(τ:AS):Prop:=∃(i:Nat) (s:St),i≤ts.length∧a 0=.fn (.yield l) [] []∧a 1=.ptr o 0∧a 3=.int .i64 ((i:Int)-1)∧LS τ x c s deep∧zaq x σN τ∧s.stack.length≤s0.stack.length ∧
 z7 (ts.take i).reverse s=z7 ts.reverse s0
def TM(a:Nat→AV)(_:AS):Nat:=match a 3 with|.int _ n=>(n+1).toNat|_=>0
theorem zaD{G:Env}{σ:AS}{R:Out→AS→Prop}{x c:Nat}{s:St}{deep:Int}{ts:List Int}{tv:AV}(hv:zbD tv ts)(hts:ts.length≤2^40)(L:LS σ x c s deep)(hb:s.stack.length≤2^40)(h:zpz R x c deep σ (z7 ts.reverse s)):zzQ G 193 [.ptr x 0,tv] σ R:=by
 obtain⟨v1,v2,v3⟩:=hv.one
 refine zjG (px:=zoc) (py:=zlY) (pa:=zcV) (pb:=zcW) zn Tryz.func193 (n:=33) (res:=[]) rfl rfl rfl (by kernel_rfl) (by kernel_rfl) (by kernel_rfl) (by kernel_rfl) (by decide) (by simp) ?_
 simp[zoc,zlY]
 refine zha v1 v3 ?_
 simp
 generalize hσ2:(σ.newO [ycv x 0]).newO [tv]=σ2
 have hno2:σ2.no=σ.no+2:=by rw[←hσ2];simp
 have hnf2:σ2.nf=σ.nf:=by rw[←hσ2];simp
 have A2:zg σ σ2:=by rw[←hσ2];exact(zg.refl σ).newO.newO
 have hb0:σ2.objs σ.no=some [.ptr x 0]:=by rw[←hσ2];simp
 have ho0:σ2.objs (σ.no+1)=some [tv]:=by rw[←hσ2];simp
 have hxl:=L.1
 refine⟨250,[.ptr (σ.no+1) 0],by simp,by simp,fun l=>?_⟩
 refine zq9 rfl ?_
 have L2:LS σ2.newF x c s deep:=(L.adds A2).adds (zg.refl σ2).newF
 have AN:zg σ σ2.newF:=A2.newF
 have hnu:∀τ,zaq x σ2.newF τ→τ.F σ2.nf=.alive:=fun τ K=>by
  rw[K.fam σ2.nf (by simp) ?_]
  ·simp
  ·rintro ⟨cs,v,e1,e2,e3⟩
   obtain⟨hx,sv,e4,e5⟩:=L
   have:σ2.newF.objs x=some [.ptr c 0,sv,.bool s.any,.int .i64 deep]:=(AN.obj x hx).trans e4
   rw[this]at e1
   cases e1
   simp at e2
   subst e2
   rcases e5 with ⟨_,rfl⟩|⟨g,b,rfl,hg,_⟩
   ·simp[zbX]at e3
   ·simp[zbX]at e3;omega
 -- a state behind the loop
 have back:∀τ,zaq x σ2.newF τ→zaq x σ { τ with F:=upd τ.F σ2.nf .dead }:=by
  intro τ K
  have K':=(AN.keepL hxl).trans K
  exact⟨K'.no,K'.nf,K'.obj,fun f hf hu=>by simp only[upd];rw[if_neg (by omega)];exact K'.fam f hf hu,K'.use⟩
 have backL:∀τ s',zaq x σ2.newF τ→LS τ x c s' deep→LS { τ with F:=upd τ.F σ2.nf .dead } x c s' deep:=by
  intro τ s' K ⟨e1,sv,e2,e3⟩
  refine⟨e1,sv,e2,?_⟩
  rcases e3 with e3|⟨g,b,e4,e5,e6⟩
  ·exact .inl e3
  ·refine .inr ⟨g,b,e4,e5,?_⟩
   have hne:g≠σ2.nf:=by
    rintro rfl
    have u:zla τ x σ2.nf:=⟨_,_,e2,rfl,by rw[e4];rfl⟩
    obtain⟨cs,v,q1,q2,q3⟩:=K.use σ2.nf (by simp) u
    obtain⟨hx,sv',q4,q5⟩:=L2
    rw[q4]at q1
    cases q1
    simp at q2
    subst q2
    rcases q5 with ⟨_,rfl⟩|⟨g',b',rfl,hg',_⟩
    ·simp[zbX]at q3
    ·obtain⟨hx1,sv1,p1,p2⟩:=L
     have:σ2.newF.objs x=some [.ptr c 0,sv1,.bool s.any,.int .i64 deep]:=(AN.obj x hx1).trans p1
     rw[q4]at this
     simp at this
     subst this
     rcases p2 with ⟨_,p3⟩|⟨g2,b2,p3,p4,_⟩
     ·cases p3
     ·simp at p3;simp[zbX]at q3;omega
   simp only[upd];rw[if_neg hne];exact e6
 have ho1:σ2.newF.objs (σ.no+1)=some [tv]:=by simpa using ho0
 have hw0:yb4 .i64 ((ts.length:Int)-1)=(ts.length:Int)-1:=by rw[wrap_i64]<;>omega
 have start:∀a,TI x c deep (σ.no+1) σ2.nf l σ2.newF ts s a σ2.newF→zjC yb9 (Env.under G yb9 33 zcV zcW [9,10] σ2.nf (upd (upd (upd (zaZ [ycv x 0,tv]) 2 (ycv σ.no 0)) 7 tv) 8 (AV.fn (Fn.func 250) [] [ycv (σ.no+1) 0])) l) 19 zdf
   (zbe 0 (zg5 yb9 [] fun o σ'=>match o with
    | .ret v=>σ'.F σ2.nf=.alive∧R (.ret (.tuple [])) { σ' with F:=upd σ'.F σ2.nf .dead }
    | .panic v=>R (.panic v) σ')) a σ2.newF:=by
  intro a hI
  refine zae (TI x c deep (σ.no+1) σ2.nf l σ2.newF ts s) TM hI fun a τ hI=>?_
  obtain⟨i,s1,hi,a0,a1,a3,L1,K1,hle,hq⟩:=hI
  have hal:=hnu τ K1
  have hob:τ.objs (σ.no+1)=some [tv]:=by
   rw[K1.obj (σ.no+1) (by simp;omega) (by omega)];exact ho1
  have hob0:τ.objs σ.no=some [.ptr x 0]:=by
   rw[K1.obj σ.no (by simp;omega) (by omega)];simpa using hb0
  cases i with
  | zero =>
   simp[z7]at hq
   rw[←hq]at h
   simp[zdf,a3]
   exact⟨hal,h _ (back τ K1) (backL τ s1 K1 L1)⟩
  | succ j =>
   have hj:j<ts.length:=by omega
   rcases hv with ⟨rfl,_⟩|⟨b,rfl⟩
   ·simp at hj
   have hrev:(ts.take (j+1)).reverse=ts[j]::(ts.take j).reverse:=by rw[ycp hj,ycw];rfl
   rw[hrev,zm0]at hq
   obtain⟨hx1,sv1,hs1,hs2⟩:=L1
   have L1':LS τ x c s1 deep:=⟨hx1,sv1,hs1,hs2⟩
   have hf0:=hal
   have hsl:=hs2.len
   have hwj:yb4 .i64 ((j:Int)-1)=(j:Int)-1:=by rw[wrap_i64]<;>omega
   have next:∀(a':Nat→AV) (τ':AS) (s':St),zaq x τ τ'→LS τ' x c s' deep→z7 (ts.take j).reverse s'=z7 ts.reverse s→s'.stack.length≤s1.stack.length→a' 0=.fn (.yield l) [] []→a' 1=.ptr (σ.no+1) 0→a' 3=.int .i64 ((j:Int)-1) →
     TI x c deep (σ.no+1) σ2.nf l σ2.newF ts s a' τ'∧TM a' τ'<TM a τ:=by
    intro a' τ' s' K' L' e' l' b0 b1 b3
    refine⟨⟨j,s',by omega,b0,b1,b3,L',K1.trans K',by omega,e'⟩,?_⟩
    simp only[TM,a3,b3]
    omega
   by_cases hn:s1.stack.length=0
   ·have hn':s1.stack=[]:=ybS.1 hn
    rw[if_pos (.inl hn)]at hq
    simp[zdf,a0,a1,a3,hob,hj,zcV,zcW,hal,hob0,hs1,hsl,hn']
    refine zc (fun _=>?_) (fun q=>by simp at q)
    simp[hob0]
    refine zeJ L1' (by omega) ?_
    cases hd:zd9 s1 with
    | ok s' =>
     rw[hd]at hq
     intro τ' K' L'
     simp[hal,hnu τ' (K1.trans K'),a0,a1,a3,hwj]
     exact next _ τ' s' K' L' hq (zfI hd) (by simp[a0]) (by simp[a1]) (by simp)
    | error e =>
     rw[hd]at hq
     simp only at hq
     rw[←hq]at h
     intro τ' K'
     simp[hal,hnu τ' (K1.trans K')]
     exact h _ (back τ' (K1.trans K'))
   ·obtain⟨φ,v,hrd,hlast,hix⟩:=hs2.last (by omega)
    have hix':=hix _ rfl
    have hw1:yb4 .i64 ((s1.stack.length:Int)-1)=(s1.stack.length:Int)-1:=by rw[wrap_i64]<;>omega
    have hne:¬s1.stack=[]:=fun q=>hn (by rw[q];rfl)
    by_cases hvt:v=ts[j]
    ·rw[if_pos (.inr (by rw[hlast,hvt]))]at hq
     subst hvt
     simp[zdf,a0,a1,a3,hob,hj,zcV,zcW,hal,hob0,hs1,hsl,hne,hix',hw1,hrd]
     refine zc (fun _=>?_) (fun q=>by simp at q)
     simp[hob0]
     refine zeJ L1' (by omega) ?_
     cases hd:zd9 s1 with
     | ok s' =>
      rw[hd]at hq
      intro τ' K' L'
      simp[hal,hnu τ' (K1.trans K'),a0,a1,a3,hwj]
      exact next _ τ' s' K' L' hq (zfI hd) (by simp[a0]) (by simp[a1]) (by simp)
     | error e =>
      rw[hd]at hq
      simp only at hq
      rw[←hq]at h
      intro τ' K'
      simp[hal,hnu τ' (K1.trans K')]
      exact h _ (back τ' (K1.trans K'))
    ·rw[if_neg (by rintro (q|q);exact hn q;rw[hlast]at q;exact hvt (yaR.inj q))]at hq
     rw[←hq]at h
     simp[zdf,a0,a1,a3,hob,hj,zcV,zcW,hal,hob0,hs1,hsl,hne,hix',hw1,hrd,hvt]
     refine zc (fun q=>by simp at q) (fun _=>?_)
     simp[hal]
     exact h _ (back τ K1)
 simp[zxy,ho1,hv.len,hw0]
 exact start _ ⟨ts.length,s,yah _,by simp,by simp,by simp,L2,.refl _ _,yah _,by rw[ycq]⟩
def zl6(σ:AS)(c:Nat)(m:M)(f:F)(ls:List Int):Prop:=c<σ.no∧∃fsv pv lv tv sv,σ.objs c=some [fsv,.int .i64 m.memory,.int .i64 m.main,.str f.name,pv,lv,.int .i64 f.type,tv,sv]∧FsV fsv m.funcs∧zbD pv f.params∧zbD lv f.locals∧zec tv f.lists∧zbD sv ls
theorem zl6.adds{σ σ' c m f ls}(h:zl6 σ c m f ls)(A:zg σ σ'):zl6 σ' c m f ls:=by
 obtain⟨hc,fsv,pv,lv,tv,sv,ho,r⟩:=h
 exact⟨yag hc A.no,fsv,pv,lv,tv,sv,(A.obj c hc).trans ho,r⟩
theorem zl6.keep{σ σ' x c m f ls}(h:zl6 σ c m f ls)(K:zaq x σ σ')(hx:c≠x):zl6 σ' c m f ls:=by
 obtain⟨hc,fsv,pv,lv,tv,sv,ho,r⟩:=h
 exact⟨yag hc K.no,fsv,pv,lv,tv,sv,(K.obj c hc hx).trans ho,r⟩
theorem zck{G:Env}{σ:AS}{R:Out→AS→Prop}{x c:Nat}{s:St}{deep:Int}{m:M}{f:F}{ls:List Int}(L:LS σ x c s deep)(C:zl6 σ c m f ls)(hb:s.stack.length≤2^40)(h:zpz R x c deep σ (zC f.type s)):zzQ G 162 [.ptr x 0] σ R:=by
 refine zqJ rfl ?_
 obtain⟨hc,fsv,pv,lv,tv,lsv,hco,_⟩:=C
 obtain⟨hx,sv,ho,hs⟩:=L
 unfold zC at h
 by_cases ht:f.type=0
 ·rw[if_pos ht]at h
  simp[zt8,ho,hco,ht]
  exact h σ (.refl _ _) ⟨hx,sv,ho,hs⟩
 ·rw[if_neg ht]at h
  simp[zt8,ho,hco,ht]
  refine zaD (ts:=[f.type]) (.inr ⟨_,rfl⟩) (by simp) ⟨hx,sv,ho,hs⟩ hb ?_
  have e:[f.type].reverse=[f.type]:=rfl
  rw[e]
  revert h
  cases z7 [f.type] s with
  | ok s'=>intro h σ' K L;simp;exact h σ' K L
  | error e=>intro h σ' K;simp;exact h σ' K
theorem zm1{G:Env}(V:zk9 G){σ:AS}{R:Out→AS→Prop}{w:W}(h:∀σ',zg σ σ'→R (.ret (.bool (zce w))) σ'):zzQ G 191 [w.av] σ R:=by
 refine zqT rfl ?_
 unfold zce at h
 have A:zg σ (σ.newO w.cs):=(zg.refl σ).newO
 simp only[W.cs]at A
 by_cases h1:w.op=1
 ·rw[if_pos (.inl h1)]at h
  simp[ziD,W.av,W.cs,h1]
  refine zaX ?_
  simp
  simpa [h1]using h _ A
 by_cases h5:w.op=5
 ·rw[if_pos (.inr h5)]at h
  simp[ziD,W.av,W.cs,h5]
  refine zaX ?_
  simp
  simpa [h5]using h _ A
 rw[if_neg (by omega)]at h
 by_cases h4:w.op=4
 ·rw[if_pos h4]at h
  simp[ziD,W.av,W.cs,h4]
  refine zaX ?_
  cases hn:zab w.ty with
  | false =>
   rw[hn]at h
   simp
   simpa [h4]using h _ A
  | true =>
   rw[hn]at h
   simp
   refine zmZ V fun σ1 A1=>?_
   simp
   have:=h _ ((by simpa [h4]using A:zg σ _).trans A1)
   cases hq:zbf signs w.name with
   | nil=>rw[hq]at this;simpa using this
   | cons a l=>rw[hq]at this;simpa using this
 rw[if_neg h4]at h
 by_cases h8:w.op=8
 ·rw[if_pos (.inl h8)]at h
  simp[ziD,W.av,W.cs,h8]
  refine zgt ?_
  simp
  simpa [h8]using h _ A
 by_cases h9:w.op=9
 ·rw[if_pos (.inr h9)]at h
  simp[ziD,W.av,W.cs,h9]
  refine zgt ?_
  simp
  simpa [h9]using h _ A
 rw[if_neg (by omega)]at h
 by_cases k1:1≤w.op
 ·by_cases k2:w.op≤18
  ·simp[k1,k2]at h
   simp[ziD,W.av,W.cs,h1,h5,h4,h8,h9,k1,k2]
   exact h _ A
  ·simp[k1,k2]at h
   simp[ziD,W.av,W.cs,h1,h5,h4,h8,h9,k1,k2]
   exact h _ A
 ·simp[k1]at h
  simp[ziD,W.av,W.cs,h1,h5,h4,h8,h9,k1]
  exact h _ A
def zuk(v:AV)(r:Option (List Int × Int)):Prop:=match r with
 | some (ts,g)=>∃tv,v=.tuple [.agg [tv,.int .i64 g],.bool true]∧zbD tv ts
 | none=>v=.tuple [.agg [.nilsl,.int .i64 0],.bool false]
theorem zbJ{G:Env}{σ:AS}{R:Out→AS→Prop}{mv:AV}{m:M}{n:Int}(hm:MV mv m)(hb:n≤2^63-1)(h:∀v σ',zuk v (ze7 m.funcs n)→zg σ σ'→R (.ret v) σ'):zzQ G 229 [mv,.int .i64 n] σ R:=by
 refine zq5 rfl ?_
 obtain⟨fv,rfl,hf⟩:=hm
 unfold ze7 at h
 have A0:∀c1 c2 c3:List AV,zg σ (((σ.newO c1).newO c2).setO (σ.no+1) c3):=fun _ _ _=>((zg.refl σ).newO.newO).setO (by omega)
 by_cases n0:n=0
 ·rw[if_pos n0]at h
  simp[zkZ,n0,splice]
  exact h _ _ ⟨_,rfl,.inl ⟨rfl,rfl⟩⟩ (A0 _ _ _)
 rw[if_neg n0]at h
 by_cases n1:n=1
 ·rw[if_pos n1]at h
  simp[zkZ,n1,splice]
  exact h _ _ ⟨_,rfl,.inr ⟨_,rfl⟩⟩ (A0 _ _ _)
 rw[if_neg n1]at h
 by_cases n2:n=2
 ·rw[if_pos n2]at h
  simp[zkZ,n2,splice]
  exact h _ _ ⟨_,rfl,.inr ⟨_,rfl⟩⟩ (A0 _ _ _)
 rw[if_neg n2]at h
 by_cases n3:n<0
 ·rw[if_pos n3]at h
  simp[zkZ,n0,n1,n2,n3,splice]
  exact h _ _ rfl (A0 _ _ _)
 rw[if_neg n3]at h
 have hw:yb4 .i64 (n-3)=n-3:=by rw[wrap_i64]<;>omega
 have hl:=hf.len
 by_cases n4:(m.funcs.length:Int)≤n-3
 ·have e:m.funcs[(n-3).toNat]?=none:=yb2 (by omega)
  rw[e]at h
  simp[zkZ,n0,n1,n2,n3,n4,splice,hl,hw]
  exact h _ _ rfl (A0 _ _ _)
 ·rcases hf with ⟨e0,rfl⟩|⟨b,rows,rfl,hr⟩
  ·rw[e0]at n4;simp at n4;omega
  have hlt:(n-3).toNat<m.funcs.length:=by omega
  have hg:m.funcs[(n-3).toNat]?=some m.funcs[(n-3).toNat]:=yau hlt
  obtain⟨row,hrow,pv,lv,tv,rfl,hp,hlv,htv⟩:=hr.get hg
  rw[hg]at h
  have h3:0≤n-3:=by omega
  have p1:=hp.one
  simp[zkZ,n0,n1,n2,n3,n4,splice,hl,hw,hrow,h3,p1]
  refine⟨by omega,⟨hlv.one.2.1,htv.one.2.1⟩,h _ _ ⟨_,rfl,hp⟩ ?_⟩
  exact(((zg.refl σ).newO.newO.newO).setO (by omega)).setO (by omega)
theorem zhb{G:Env}{σ:AS}{R:Out→AS→Prop}{x c:Nat}{s:St}{deep:Int}{m:M}{f:F}{ls:List Int}{w:W}(L:LS σ x c s deep)(C:zl6 σ c m f ls)(hb:w.n≤2^63-1)(h:∀σ',zg σ σ'→R (.ret (.bool (zcf m.funcs ls deep w))) σ'):zzQ G 192 [.ptr x 0,w.av] σ R:=by
 refine zqU rfl ?_
 obtain⟨hc,fsv,pv,lv,tv,lsv,hco,hfs,hpv,hlv,htv,hls⟩:=C
 obtain⟨hx,sv,ho,hs⟩:=L
 have A:zg σ (σ.newO w.cs):=(zg.refl σ).newO
 simp only[W.cs]at A
 have hx':x≠σ.no:=by omega
 have hc':c≠σ.no:=by omega
 unfold zcf at h
 by_cases h1:w.op=1
 ·rw[if_pos h1]at h
  simp[zg6,W.av,W.cs,h1]
  refine zmY ?_
  simp
  simpa [h1]using h _ A
 rw[if_neg h1]at h
 by_cases h2:w.op=2∨w.op=3
 ·rw[if_pos h2]at h
  have hl:=hls.len
  by_cases k1:0≤w.n
  ·by_cases k2:w.n<(ls.length:Int)
   ·simp[k1,k2]at h
    rcases h2 with h2|h2<;>simp[zg6,W.av,W.cs,h1,h2,ho,hco,hx',hc',hl,k1,k2]<;>exact h _ (by simpa [h2]using A)
   ·simp[k1,k2]at h
    rcases h2 with h2|h2<;>simp[zg6,W.av,W.cs,h1,h2,ho,hco,hx',hc',hl,k1,k2]<;>exact h _ (by simpa [h2]using A)
  ·simp[k1]at h
   rcases h2 with h2|h2<;>simp[zg6,W.av,W.cs,h1,h2,ho,hco,hx',hc',hl,k1]<;>exact h _ (by simpa [h2]using A)
 rw[if_neg h2]at h
 have h2a:¬w.op=2:=fun q=>h2 (.inl q)
 have h2b:¬w.op=3:=fun q=>h2 (.inr q)
 by_cases h10:w.op=10
 ·rw[if_pos h10]at h
  simp[zg6,W.av,W.cs,h10,ho,hco,hx',hc']
  have hx'':x≠σ.no+1:=by omega
  have hc'':c≠σ.no+1:=by omega
  have A':zg σ (σ.newO [.int .i64 10,.int .i64 w.ty,.int .i64 w.n,.int .i64 w.body,.int .i64 w.other,.str w.name]):=by simpa [h10]using A
  constructor
  ·refine zbJ (m:=m) ⟨_,rfl,hfs⟩ hb fun v σ1 hv A1=>?_
   have A2:=A'.trans A1
   cases hq:ze7 m.funcs w.n with
   | none =>
    rw[hq]at hv h
    simp only[zuk]at hv
    subst hv
    simp[splice]
    exact h _ (A2.newO.setO A2.no)
   | some p =>
    rw[hq]at hv h
    obtain⟨y,rfl,hy⟩:=hv
    have y1:=hy.one
    simp[splice,y1]
    exact h _ (A2.newO.setO A2.no)
  ·simp[ho,hco,hx',hc',hx'',hc'']
   refine zbJ (m:=m) ⟨_,rfl,hfs⟩ hb fun v σ1 hv A1=>?_
   have A2:zg σ σ1:=(A'.newO).trans A1
   have hnew:σ1.objs (σ.no+1)=some [.nilsl,.int .i64 0]:=(A1.obj (σ.no+1) (by simp)).trans (by simp)
   cases hq:ze7 m.funcs w.n with
   | none =>
    rw[hq]at hv h
    simp only[zuk]at hv
    subst hv
    simp[splice,hnew]
    exact h _ (A2.setO (by omega))
   | some p =>
    rw[hq]at hv h
    obtain⟨y,rfl,hy⟩:=hv
    have y1:=hy.one
    simp[splice,y1,hnew]
    exact h _ (A2.setO (by omega))
 rw[if_neg h10]at h
 by_cases h14:w.op=14∨w.op=15
 ·rw[if_pos h14]at h
  by_cases k1:0≤w.n
  ·by_cases k2:w.n≤deep
   ·simp[k1,k2]at h
    rcases h14 with h14|h14<;>simp[zg6,W.av,W.cs,h14,ho,hco,hx',hc',k1,k2]<;>exact h _ (by simpa [h14]using A)
   ·simp[k1,k2]at h
    rcases h14 with h14|h14<;>simp[zg6,W.av,W.cs,h14,ho,hco,hx',hc',k1,k2]<;>exact h _ (by simpa [h14]using A)
  ·simp[k1]at h
   rcases h14 with h14|h14<;>simp[zg6,W.av,W.cs,h14,ho,hco,hx',hc',k1]<;>exact h _ (by simpa [h14]using A)
 rw[if_neg h14]at h
 have h14a:¬w.op=14:=fun q=>h14 (.inl q)
 have h14b:¬w.op=15:=fun q=>h14 (.inr q)
 simp[zg6,W.av,W.cs,h1,h2a,h2b,h10,h14a,h14b]
 exact h _ A
@[simp] theorem zsF{P:Program}(t)(x y:List UInt8){K:AV→Prop}:zbA P .add t (.str x) (.str y) K=(x.length+y.length<2^62∧K (.str (x++y))):=by simp only[zbA,zfN]
theorem zk9.cell{G:Env}(V:zk9 G){M F w}(g:GOk yb9 G M F w):∃m,w.cell? ⟨11,0,none⟩=some (.int .i64 m):=by
 obtain⟨m,hm⟩:=V.max
 have h:=g.vars 11
 rw[hm]at h
 cases h with
 | pv φ v B off cs hmem hc hv =>
  have h1:=hc trivial 0 (by simp)
  have h2:=hv trivial 0 (by simp)
  simp at h2
  generalize cs 0=c at h1 h2
  cases h2
  exact⟨m,h1⟩
theorem zhc{G:Env}(V:zk9 G){s t:List UInt8}{σ:AS}{R:Out→AS→Prop}(hl:s.length<4294967281)(h:R (.ret (.bool (Lib.contains s t))) σ):zzQ G 232 [.str s,.str t] σ R:=by
 refine ACalls.of_below fun M w cargs S g hc=>?_
 obtain⟨m,hm⟩:=V.cell g
 obtain⟨c0,e0,v0⟩:=hc.2 0 _ rfl
 obtain⟨c1,e1,v1⟩:=hc.2 1 _ rfl
 obtain⟨b0,rfl,rfl⟩:=v0.str_inv
 obtain⟨b1,rfl,rfl⟩:=v1.str_inv
 have hcargs:cargs=#[.string b0,.string b1]:=by
  have hsz:cargs.size=2:=hc.1
  apply Array.ext
  ·simpa using hsz
  ·intro i h1 h2
   match i,h1 with
   | 0,_=>simpa using (yaU.1 e0).2
   | 1,_=>simpa using (yaU.1 e1).2
   | i+2,h=>omega
 rw[hcargs]
 refine(Tryz.strings_Contains b0 b1 m w (by simpa using hl) hm).mono fun e w' ⟨he,hw⟩=>?_
 subst he hw
 exact⟨⟨.bool _,_,rfl,fun M F w=>.bool _,h⟩,rfl,rfl,rfl,yah _,fun _ _=>rfl⟩
theorem zbj:∀{ts:List Int} {s s':St},z7 ts s=.ok s'→s'.stack.length≤s.stack.length
 | [],s,s',h=>by simp[z7]at h;subst h;exact yah _
 | t::ts,s,s',h=>by
  rw[z7]at h
  split at h
  ·cases hd:zd9 s with
   | error e=>rw[hd]at h;cases h
   | ok s1=>rw[hd]at h;exact yai (zbj h) (zfI hd)
  ·cases h
theorem zeK:∀s,zbf signs s≠[]→s.length≤5:=by
 have key:∀(l:List (List UInt8 × List UInt8)),(∀p∈l,p.1.length≤5)→∀s,zbf l s≠[]→s.length≤5:=by
  intro l
  induction l with
  | nil=>intro _ s h;simp[zbf]at h
  | cons p l ih =>
   intro hp s h
   obtain⟨x,y⟩:=p
   rw[zbf]at h
   by_cases e:x=s
   ·subst e;exact hp (x,y) (by simp)
   ·rw[if_neg e]at h;exact ih (fun q hq=>hp q (by simp[hq])) s h
 exact key signs (by decide)
section
variable {G : Env} {σ : AS} {R : Out → AS → Prop} {x c : Nat} {s : St} {deep : Int} {m : M} {f : F} {ls : List Int} {w : W}
theorem zlb(V:zk9 G)(L:LS σ x c s deep)(C:zl6 σ c m f ls)(hcx:c≠x)(hb:s.stack.length≤2^39)(hn:w.n≤2^63-1)(hps:∀g∈m.funcs,g.params.length≤2^30)(hf:zce w=true)(hr:zcf m.funcs ls deep w=true)
  (h:zpz R x c deep σ (ze8 m.funcs ls w s)):zzQ G 196 [.ptr x 0,w.av] σ R:=by
 refine zqX rfl ?_
 have A:zg σ (σ.newO w.cs):=(zg.refl σ).newO
 have La:=L.adds A
 have Ca:=C.adds A
 have Ka:=A.keepL L.1
 have hwo:(σ.newO w.cs).objs σ.no=some [.int .i64 w.op,.int .i64 w.ty,.int .i64 w.n,.int .i64 w.body,.int .i64 w.other,.str w.name]:=by simp[W.cs]
 have hwl:σ.no<(σ.newO w.cs).no:=by simp
 have hxw:σ.no≠x:=by have:=L.1;omega
 simp[zxt,W.av,W.cs]
 rw[show σ.newO [ycs yam w.op,ycs yam w.ty,ycs yam w.n,ycs yam w.body,ycs yam w.other,ycr w.name]=σ.newO w.cs from rfl]
 generalize hσa:σ.newO w.cs=σa at *
 obtain⟨hc,fsv,pv,lv,tv,lsv,hco,hfs,hpv,hlv,htv,hls⟩:=Ca
 obtain⟨hx,sv,ho,hs⟩:=La
 have La:LS σa x c s deep:=⟨hx,sv,ho,hs⟩
 -- the zsp
 have fin:∀r:Res St,zpz R x c deep σ r→zpz (zsp (fun v σ'=>R (.ret (.tuple [])) σ') fun v σ'=>R (.panic v) σ') x c deep σa r:=by
  intro r hr
  cases r with
  | ok s'=>intro σ' K L';simp;exact hr σ' (Ka.trans K) L'
  | error e=>intro σ' K;simp;exact hr σ' (Ka.trans K)
 unfold ze8 at h
 by_cases h1:w.op=1
 ·rw[if_pos h1]at h
  simp[h1,hwo]
  refine zW La (by omega) fun σ' K L'=>?_
  simp
  exact h σ' (Ka.trans K) L'
 rw[if_neg h1]at h
 by_cases h2:w.op=2
 ·rw[if_pos h2]at h
  have hr2:0≤w.n∧w.n<(ls.length:Int):=by simpa [zcf,h1,h2]using hr
  rcases hls with ⟨e,_⟩|⟨b,rfl⟩
  ·rw[e]at hr2;simp at hr2;omega
  have hlt:w.n.toNat<ls.length:=by omega
  have e1:ls.getD w.n.toNat 0=ls[w.n.toNat]:=by rw[ycg,yau hlt];rfl
  simp[h2,hwo,ho,hco,hr2.1,hlt]
  refine zW La (by omega) fun σ' K L'=>?_
  simp
  unfold ziF at h
  rw[e1]at h
  exact h σ' (Ka.trans K) L'
 rw[if_neg h2]at h
 by_cases h3:w.op=3
 ·rw[if_pos h3]at h
  have hr2:0≤w.n∧w.n<(ls.length:Int):=by simpa [zcf,h1,h2,h3]using hr
  rcases hls with ⟨e,_⟩|⟨b,rfl⟩
  ·rw[e]at hr2;simp at hr2;omega
  have hlt:w.n.toNat<ls.length:=by omega
  have e1:ls.getD w.n.toNat 0=ls[w.n.toNat]:=by rw[ycg,yau hlt];rfl
  simp[h3,hwo,ho,hco,hr2.1,hlt]
  unfold ziF at h
  rw[e1]at h
  refine zaD (ts:=[ls[w.n.toNat]]) (.inr ⟨_,rfl⟩) (by simp) La (by omega) ?_
  have e:[ls[w.n.toNat]].reverse=[ls[w.n.toNat]]:=rfl
  rw[e]
  revert h
  cases z7 [ls[w.n.toNat]] s with
  | ok s'=>intro h σ' K L;simp;exact h σ' (Ka.trans K) L
  | error e=>intro h σ' K;simp;exact h σ' (Ka.trans K)
 rw[if_neg h3]at h
 -- takes,and zfo
 have tgB:∀{R':Out→AS→Prop} {σb:AS} (Kb:zaq x σ σb) (Lb:LS σb x c s deep) (o:Nat) (cs:List AV) (ts:List Int) (tv:AV) (t:Int),σb.objs o=some cs→o<σb.no→o≠x→zbD tv ts→ts.length≤2^30→zpz R x c deep σ (zfo (z7 ts.reverse s) t) →
   (∀σ1 s1,s1.stack.length≤2^39→zaq x σb σ1→LS σ1 x c s1 deep→σ1.objs o=some cs→(∀σ2,zaq x σ1 σ2→LS σ2 x c (zeG s1 t) deep→R (.ret (.tuple [])) σ2)→R' (.ret (.tuple [])) σ1) →
   (∀e σ1,R (.panic (zg9 e)) σ1→R' (.panic (zg9 e)) σ1)→zzQ G 193 [.ptr x 0,tv] σb R':=by
  intro R' σb Kb Lb o cs ts tv t hob hlo hox hv hl hr k1 k2
  refine zaD hv (by omega) Lb (by omega) ?_
  cases hq:z7 ts.reverse s with
  | error e =>
   rw[hq]at hr
   exact fun σ1 K=>k2 e σ1 (hr σ1 (Kb.trans K))
  | ok s1 =>
   rw[hq]at hr
   exact fun σ1 K L'=>k1 σ1 s1 (by have:=zbj hq;omega) K L' ((K.obj o hlo hox).trans hob) fun σ2 K2 L2=>hr σ2 (Kb.trans (K.trans K2)) L2
 have tg:∀{R':Out→AS→Prop} (ts:List Int) (tv:AV) (t:Int),zbD tv ts→ts.length≤2^30→zpz R x c deep σ (zfo (z7 ts.reverse s) t) →
   (∀σ1 s1,s1.stack.length≤2^39→zaq x σa σ1→LS σ1 x c s1 deep→σ1.objs σ.no=some [.int .i64 w.op,.int .i64 w.ty,.int .i64 w.n,.int .i64 w.body,.int .i64 w.other,.str w.name]→(∀σ2,zaq x σ1 σ2→LS σ2 x c (zeG s1 t) deep→R (.ret (.tuple [])) σ2)→R' (.ret (.tuple [])) σ1) →
   (∀e σ1,R (.panic (zg9 e)) σ1→R' (.panic (zg9 e)) σ1)→zzQ G 193 [.ptr x 0,tv] σa R':=fun ts tv t hv hl hr k1 k2=>tgB Ka La σ.no _ ts tv t hwo hwl hxw hv hl hr k1 k2
 by_cases h4:w.op=4
 ·rw[if_pos h4]at h
  have hsig:w.name.length≤5:=by
   refine zeK _ fun q=>?_
   simp[zce,h4,q]at hf
  simp[h4,hwo]
  refine tg [w.ty,w.ty] _ _ (.inr ⟨_,rfl⟩) (by simp) h (fun σ1 s1 hb1 K1 L1 hw1 fin1=>?_) (fun e σ1 hh=>by simp;exact hh)
  simp[hw1]
  refine⟨by omega,by omega,zhc V ?_ ?_⟩
  ·decide
  have hcmp:Lib.contains [32,101,113,32,110,101,32,108,116,95,115,32,108,101,95,115,32,103,116,95,115,32,103,101,95,115,32] (32::(w.name++[32]))=zDu w.name:=rfl
  simp[hcmp]
  cases hq:zDu w.name with
  | true =>
   rw[hq]at fin1
   simp[hw1]
   refine zW L1 (by omega) fun σ2 K2 L2=>?_
   simp
   exact fin1 σ2 K2 L2
  | false =>
   rw[hq]at fin1
   simp[hw1]
   refine zW L1 (by omega) fun σ2 K2 L2=>?_
   simp
   exact fin1 σ2 K2 L2
 rw[if_neg h4]at h
 by_cases h5:w.op=5
 ·rw[if_pos h5]at h
  simp[h5,hwo]
  refine tg [w.ty] _ _ (.inr ⟨_,rfl⟩) (by simp) h (fun σ1 s1 hb1 K1 L1 hw1 fin1=>?_) (fun e σ1 hh=>by simp;exact hh)
  simp[hw1]
  refine zW L1 (by omega) fun σ2 K2 L2=>?_
  simp
  exact fin1 σ2 K2 L2
 rw[if_neg h5]at h
 by_cases h6:w.op=6
 ·rw[if_pos h6]at h
  simp[h6,hwo]
  refine tg [2] _ _ (.inr ⟨_,rfl⟩) (by simp) h (fun σ1 s1 hb1 K1 L1 hw1 fin1=>?_) (fun e σ1 hh=>by simp;exact hh)
  simp[hw1]
  refine zW L1 (by omega) fun σ2 K2 L2=>?_
  simp
  exact fin1 σ2 K2 L2
 rw[if_neg h6]at h
 by_cases h7:w.op=7
 ·rw[if_pos h7]at h
  simp[h7,hwo]
  refine tg [1] _ _ (.inr ⟨_,rfl⟩) (by simp) h (fun σ1 s1 hb1 K1 L1 hw1 fin1=>?_) (fun e σ1 hh=>by simp;exact hh)
  simp[hw1]
  refine zW L1 (by omega) fun σ2 K2 L2=>?_
  simp
  exact fin1 σ2 K2 L2
 rw[if_neg h7]at h
 by_cases h8:w.op=8
 ·rw[if_pos h8]at h
  simp[h8,hwo]
  refine tg [1] _ _ (.inr ⟨_,rfl⟩) (by simp) h (fun σ1 s1 hb1 K1 L1 hw1 fin1=>?_) (fun e σ1 hh=>by simp;exact hh)
  simp[hw1]
  refine zW L1 (by omega) fun σ2 K2 L2=>?_
  simp
  exact fin1 σ2 K2 L2
 rw[if_neg h8]at h
 by_cases h9:w.op=9
 ·rw[if_pos h9]at h
  simp[h9,hwo]
  refine zaD (ts:=[1,w.ty]) (.inr ⟨_,rfl⟩) (by simp) La (by omega) ?_
  have e:[1,w.ty].reverse=[w.ty,1]:=rfl
  rw[e]
  revert h
  cases z7 [w.ty,1] s with
  | ok s'=>intro h σ' K L;simp;exact h σ' (Ka.trans K) L
  | error e=>intro h σ' K;simp;exact h σ' (Ka.trans K)
 rw[if_neg h9]at h
 by_cases h10:w.op=10
 ·rw[if_pos h10]at h
  have hh:(ze7 m.funcs w.n).isSome=true:=by simpa [zcf,h1,h2,h3,h10]using hr
  obtain⟨⟨ts,g⟩,hq⟩:=yay.1 hh
  rw[hq]at h
  simp only at h
  have htl:ts.length≤2^30:=by
   unfold ze7 at hq
   split at hq
   ·cases hq;simp
   ·split at hq
    ·cases hq;simp
    ·split at hq
     ·cases hq;simp
     ·split at hq
      ·cases hq
      ·obtain⟨fn,hfn,e⟩:=ybB.1 hq
       cases e
       exact hps _ (ycx hfn)
  have hcw:c≠σa.no:=by omega
  have hxw':x≠σa.no:=by omega
  simp[h10,hwo,ho,hco]
  constructor
  ·refine zbJ (m:=m) ⟨_,rfl,hfs⟩ hn fun v σ1 hv A1=>?_
   rw[hq]at hv
   obtain⟨y,rfl,hy⟩:=hv
   have y1:=hy.one
   simp[splice,y1]
   have A2:zg σa ((σ1.newO [.nilsl,.int .i64 0]).setO σ1.no [y,.int .i64 g]):=A1.newO.setO A1.no
   have Lb:=La.adds A2
   refine tgB (Ka.trans (A2.keepL hx)) Lb σ1.no [y,.int .i64 g] ts y g (by simp) (by simp) (by have:=A1.no;omega) hy htl h (fun σ3 s1 hb1 K1 L1 hw1 fin1=>?_) (fun e σ1 hh=>by simp;exact hh)
   simp[hw1]
   refine zW L1 (by omega) fun σ2 K2 L2=>?_
   simp
   exact fin1 σ2 K2 L2
  ·have hx2:x≠σ.no:=fun q=>hxw q.symm
   simp[ho,hco,hcw,hxw',hwo,show σ.no≠σa.no from by omega]
   refine zbJ (m:=m) ⟨_,rfl,hfs⟩ hn fun v σ1 hv A1=>?_
   rw[hq]at hv
   obtain⟨y,rfl,hy⟩:=hv
   have y1:=hy.one
   have hnew:σ1.objs σa.no=some [.nilsl,.int .i64 0]:=(A1.obj σa.no (by simp)).trans (by simp)
   simp[splice,y1,hnew]
   have hle:σa.no+1≤σ1.no:=by have:=A1.no;simpa using this
   have A2:zg σa (σ1.setO σa.no [y,.int .i64 g]):=(((zg.refl σa).newO).trans A1).setO (yah _)
   have Lb:=La.adds A2
   refine tgB (Ka.trans (A2.keepL hx)) Lb σa.no [y,.int .i64 g] ts y g (by simp) (by simp;omega) (fun q=>hxw' q.symm) hy htl h (fun σ3 s1 hb1 K1 L1 hw1 fin1=>?_) (fun e σ1 hh=>by simp;exact hh)
   simp[hw1]
   refine zW L1 (by omega) fun σ2 K2 L2=>?_
   simp
   exact fin1 σ2 K2 L2
 rw[if_neg h10]at h
 by_cases h18:w.op=18
 ·rw[if_pos h18]at h
  simp[h18,hwo]
  refine zeJ La (by omega) ?_
  revert h
  cases zd9 s with
  | ok s'=>intro h σ' K L;simp;exact h σ' (Ka.trans K) L
  | error e=>intro h σ' K;simp;exact h σ' (Ka.trans K)
 rw[if_neg h18]at h
 simp[h1,h2,h3,h4,h5,h6,h7,h8,h9,h10,h18,hwo]
 exact h σa Ka La
end
def zB9(R:Out→AS→Prop)(σ:AS):Res Unit→Prop
 | .ok _=>∀σ',zg σ σ'→R (.ret (.tuple [])) σ'
 | .error e=>∀σ',zg σ σ'→R (.panic (zg9 e)) σ'
def zsG(G:Env)(m:M)(f:F)(ls:List Int)(B:Int)(lk:zsD):Prop:=∀(c:Nat) (σ:AS) (at_ deep:Int) (R:Out→AS→Prop),zl6 σ c m f ls→0≤at_→at_<B→0≤deep→deep+at_≤2^40→zB9 R σ (lk at_ deep)→zzQ G 109 [.ptr c 0,.int .i64 at_,.int .i64 deep] σ R
section
variable {G : Env} {σ : AS} {R : Out → AS → Prop} {x c : Nat} {s : St} {deep : Int} {m : M} {f : F} {ls : List Int} {w : W} {lk : zsD} {B : Int}
theorem ziK(V:zk9 G)(IH:zsG G m f ls B lk)(L:LS σ x c s deep)(C:zl6 σ c m f ls)(hcx:c≠x)(hb:s.stack.length≤2^38)(hd0:0≤deep)(hd1:deep≤2^40)(hn:w.n≤2^63-1)(hps:∀g∈m.funcs,g.params.length≤2^30)
  (hnm:∀n∈zD w,0≤n∧n<B∧deep+1+n≤2^40) (h:zpz R x c deep σ (zea m.funcs ls f.type deep lk w s)):zzQ G 161 [.ptr x 0,w.av] σ R:=by
 refine zqI rfl ?_
 have A:zg σ (σ.newO w.cs):=(zg.refl σ).newO
 have La:=L.adds A
 have Ca:=C.adds A
 have Ka:=A.keepL L.1
 have hwo:(σ.newO w.cs).objs σ.no=some [.int .i64 w.op,.int .i64 w.ty,.int .i64 w.n,.int .i64 w.body,.int .i64 w.other,.str w.name]:=by simp[W.cs]
 have hwl:σ.no<(σ.newO w.cs).no:=by simp
 have hxw:σ.no≠x:=by have:=L.1;omega
 have hcs:w.cs=[.int .i64 w.op,.int .i64 w.ty,.int .i64 w.n,.int .i64 w.body,.int .i64 w.other,.str w.name]:=rfl
 simp[zxl,W.av,hcs]
 rw[show σ.newO [ycs yam w.op,ycs yam w.ty,ycs yam w.n,ycs yam w.body,ycs yam w.other,ycr w.name]=σ.newO w.cs from rfl]
 rw[show ycy [ycs yam w.op,ycs yam w.ty,ycs yam w.n,ycs yam w.body,ycs yam w.other,ycr w.name]=w.av from rfl]
 generalize σ.newO w.cs=σa at *
 unfold zea at h
 refine zm1 V fun σ1 A1=>?_
 cases hf:zce w with
 | false =>
  rw[if_pos hf]at h
  simp
  refine zc (fun q=>by simp at q) fun _=>?_
  simp
  exact h _ (Ka.trans (A1.keepL La.1))
 | true =>
 rw[if_neg (by rw[hf];simp)]at h
 have hw1:=(A1.obj σ.no hwl).trans hwo
 simp
 refine zc (fun _=>?_) (fun q=>by simp at q)
 simp[hw1]
 rw[show ycy [ycs yam w.op,ycs yam w.ty,ycs yam w.n,ycs yam w.body,ycs yam w.other,ycr w.name]=w.av from rfl]
 refine zhb (La.adds A1) (Ca.adds A1) hn fun σ2 A2=>?_
 have A12:=A1.trans A2
 cases hr:zcf m.funcs ls deep w with
 | false =>
  rw[if_pos hr]at h
  simp
  refine zc (fun q=>by simp at q) fun _=>?_
  simp
  exact h _ (Ka.trans (A12.keepL La.1))
 | true =>
 rw[if_neg (by rw[hr];simp)]at h
 have hw2:=(A2.obj σ.no (yag hwl A1.no)).trans hw1
 have L2:=La.adds A12
 have C2:=Ca.adds A12
 have K2:=Ka.trans (A12.keepL La.1)
 have hwl2:σ.no<σ2.no:=yag hwl A12.no
 simp
 refine zc (fun _=>?_) (fun q=>by simp at q)
 simp[hw2]
 clear A1 A2 hw1 hwo A12 Ka La Ca
 have keepW:∀{σ3},zaq x σ2 σ3→σ3.objs σ.no=some [.int .i64 w.op,.int .i64 w.ty,.int .i64 w.n,.int .i64 w.body,.int .i64 w.other,.str w.name]:=fun K=>(K.obj σ.no hwl2 hxw).trans hw2
 have L2':=L2
 have C2':=C2
 obtain⟨hc2,fsv,pv,lv,tv,lsv,hco,_⟩:=C2'
 obtain⟨hx2,sv,ho,_⟩:=L2'
 have hwd:yb4 .i64 (deep+1)=deep+1:=by rw[wrap_i64]<;>omega
 by_cases h11:w.op=11∨w.op=12
 ·rw[if_pos h11]at h
  have hnn:zD w=[w.body]:=by unfold zD;rw[if_pos (by omega)]
  rw[hnn]at hnm
  have hb0:=hnm w.body (by simp)
  have go:zB9 (zsp (fun v σ'=>R (.ret (.tuple [])) σ') fun v σ'=>R (.panic v) σ') σ2 (lk w.body (deep+1)):=by
   cases hq:lk w.body (deep+1)with
   | ok u=>rw[hq]at h;intro σ3 A3;simp;exact h σ3 (K2.trans (A3.keepL hx2)) (L2.adds A3)
   | error e=>rw[hq]at h;intro σ3 A3;simp;exact h σ3 (K2.trans (A3.keepL hx2))
  rcases h11 with h11|h11
  ·simp[h11,hw2,ho,hco,hwd]
   refine IH c σ2 w.body (deep+1) _ C2 hb0.1 hb0.2.1 (by omega) hb0.2.2 ?_
   revert go
   cases lk w.body (deep+1)with
   | ok u=>intro go σ3 A3;have:=go σ3 A3;simpa using this
   | error e=>intro go σ3 A3;have:=go σ3 A3;simpa using this
  ·simp[h11,hw2,ho,hco,hwd]
   refine IH c σ2 w.body (deep+1) _ C2 hb0.1 hb0.2.1 (by omega) hb0.2.2 ?_
   revert go
   cases lk w.body (deep+1)with
   | ok u=>intro go σ3 A3;have:=go σ3 A3;simpa using this
   | error e=>intro go σ3 A3;have:=go σ3 A3;simpa using this
 rw[if_neg h11]at h
 have h11a:¬w.op=11:=fun q=>h11 (.inl q)
 have h11b:¬w.op=12:=fun q=>h11 (.inr q)
 by_cases h13:w.op=13
 ·rw[if_pos h13]at h
  simp[h13,hw2]
  refine zaD (ts:=[1]) (.inr ⟨_,rfl⟩) (by simp) L2 (by omega) ?_
  rw[show [(1:Int)].reverse=[1] from rfl]
  cases ht:z7 [1] s with
  | error e =>
   rw[ht]at h
   intro σ3 K3
   simp
   exact h σ3 (K2.trans K3)
  | ok s1 =>
   rw[ht]at h
   simp only at h
   intro σ3 K3 L3
   have C3:=C2.keep K3 hcx
   have hw3:=keepW K3
   have hwl3:σ.no<σ3.no:=yag hwl2 K3.no
   have C3':=C3
   have L3':=L3
   obtain⟨hc3,fsv3,pv3,lv3,tv3,lsv3,hco3,_⟩:=C3'
   obtain⟨hx3,sv3,ho3,_⟩:=L3'
   have hb0:0≤w.body∧w.body<B∧deep+1+w.body≤2^40:=hnm w.body (by
    unfold zD
    by_cases ho:w.other<0
    ·rw[if_pos (by omega)];simp
    ·rw[if_neg (by omega),if_pos h13];simp)
   simp[hw3,ho3,hco3,hwd]
   refine IH c σ3 w.body (deep+1) _ C3 hb0.1 hb0.2.1 (by omega) hb0.2.2 ?_
   cases hq:lk w.body (deep+1)with
   | error e =>
    rw[hq]at h
    intro σ4 A4
    simp
    exact h σ4 (K2.trans (K3.trans (A4.keepL hx3)))
   | ok u =>
    rw[hq]at h
    simp only at h
    intro σ4 A4
    have hw4:=(A4.obj σ.no hwl3).trans hw3
    have ho4:=(A4.obj x hx3).trans ho3
    have hco4:=(A4.obj c hc3).trans hco3
    have L4:=L3.adds A4
    have C4:=C3.adds A4
    by_cases ho:0≤w.other
    ·rw[if_pos ho]at h
     have hb1:0≤w.other∧w.other<B∧deep+1+w.other≤2^40:=hnm w.other (by unfold zD;rw[if_neg (by omega),if_pos h13];simp)
     simp[hw4,ho,ho4,hco4,hwd]
     refine IH c σ4 w.other (deep+1) _ C4 hb1.1 hb1.2.1 (by omega) hb1.2.2 ?_
     cases hq2:lk w.other (deep+1)with
     | error e =>
      rw[hq2]at h
      intro σ5 A5
      simp
      exact h σ5 (K2.trans (K3.trans ((A4.trans A5).keepL hx3)))
     | ok u =>
      rw[hq2]at h
      intro σ5 A5
      simp
      exact h σ5 (K2.trans (K3.trans ((A4.trans A5).keepL hx3))) (L4.adds A5)
    ·rw[if_neg ho]at h
     simp[hw4,ho]
     exact h σ4 (K2.trans (K3.trans (A4.keepL hx3))) L4
 rw[if_neg h13]at h
 by_cases h15:w.op=15
 ·rw[if_pos h15]at h
  simp[h15,hw2]
  refine zaD (ts:=[1]) (.inr ⟨_,rfl⟩) (by simp) L2 (by omega) ?_
  rw[show [(1:Int)].reverse=[1] from rfl]
  cases ht:z7 [1] s with
  | error e =>
   rw[ht]at h
   intro σ3 K3
   simp
   exact h σ3 (K2.trans K3)
  | ok s1 =>
   rw[ht]at h
   simp only at h
   intro σ3 K3 L3
   have hs1:=zbj ht
   have C3:=C2.keep K3 hcx
   have hw3:=keepW K3
   have L3':=L3
   obtain⟨hx3,sv3,ho3,_⟩:=L3'
   by_cases hq:w.n=deep
   ·rw[if_pos hq]at h
    simp[hw3,ho3,hq]
    refine zck L3 C3 (by omega) ?_
    cases hq2:zC f.type s1 with
    | error e =>
     rw[hq2]at h
     intro σ4 K4
     simp
     exact h σ4 (K2.trans (K3.trans K4))
    | ok s2 =>
     rw[hq2]at h
     intro σ4 K4 L4
     have hs2:s2.stack.length≤s1.stack.length:=by
      unfold zC at hq2
      split at hq2
      ·cases hq2;exact yah _
      ·exact zbj hq2
     have C4:=C3.keep K4 hcx
     have C4':=C4
     have L4':=L4
     obtain⟨hc4,fsv4,pv4,lv4,tv4,lsv4,hco4,_⟩:=C4'
     obtain⟨hx4,sv4,ho4,_⟩:=L4'
     simp[ho4,hco4]
     refine zW L4 (by omega) fun σ5 K5 L5=>?_
     simp
     exact h σ5 (K2.trans (K3.trans (K4.trans K5))) L5
   ·rw[if_neg hq]at h
    simp[hw3,ho3,hq]
    exact h σ3 (K2.trans K3) L3
 rw[if_neg h15]at h
 have ret:∀{R':Out→AS→Prop},zpz R' x c deep σ2 (zC f.type s)→zzQ G 162 [.ptr x 0] σ2 R':=fun hh=>zck L2 C2 (by omega) hh
 by_cases h14:w.op=14
 ·rw[if_pos h14]at h
  by_cases hq:w.n=deep
  ·rw[if_pos hq]at h
   simp[h14,hw2,ho,hq]
   refine ret ?_
   cases hq2:zC f.type s with
   | error e =>
    rw[hq2]at h
    intro σ4 K4
    simp
    exact h σ4 (K2.trans K4)
   | ok s2 =>
    rw[hq2]at h
    intro σ4 K4 L4
    simp
    refine zbi L4 fun σ5 K5 L5=>?_
    simp
    exact h σ5 (K2.trans (K4.trans K5)) L5
  ·rw[if_neg hq]at h
   simp[h14,hw2,ho,hq]
   refine zbi L2 fun σ5 K5 L5=>?_
   simp
   exact h σ5 (K2.trans K5) L5
 rw[if_neg h14]at h
 by_cases h16:w.op=16
 ·rw[if_pos h16]at h
  simp[h16,hw2]
  refine ret ?_
  cases hq2:zC f.type s with
  | error e =>
   rw[hq2]at h
   intro σ4 K4
   simp
   exact h σ4 (K2.trans K4)
  | ok s2 =>
   rw[hq2]at h
   intro σ4 K4 L4
   simp
   refine zbi L4 fun σ5 K5 L5=>?_
   simp
   exact h σ5 (K2.trans (K4.trans K5)) L5
 rw[if_neg h16]at h
 by_cases h17:w.op=17
 ·rw[if_pos h17]at h
  simp[h17,hw2]
  refine zbi L2 fun σ5 K5 L5=>?_
  simp
  exact h σ5 (K2.trans K5) L5
 rw[if_neg h17]at h
 simp[h11a,h11b,h13,h15,h14,h16,h17,hw2]
 rw[show ycy [ycs yam w.op,ycs yam w.ty,ycs yam w.n,ycs yam w.body,ycs yam w.other,ycr w.name]=w.av from rfl]
 refine zlb V L2 C2 hcx (by omega) hn hps hf hr ?_
 revert h
 cases ze8 m.funcs ls w s with
 | ok s'=>intro h σ3 K3 L3;simp;exact h σ3 (K2.trans K3) L3
 | error e=>intro h σ3 K3;simp;exact h σ3 (K2.trans K3)
end
theorem ziL(s:St)(t:Int):(zeG s t).stack.length≤s.stack.length+1:=by unfold zeG;split<;>simp
theorem zri{ts:List Int}{s s':St}{t:Int}(h:zfo (z7 ts s) t=.ok s'):s'.stack.length≤s.stack.length+1:=by
 obtain⟨s1,e,rfl⟩:∃s1,z7 ts s=.ok s1∧s'=zeG s1 t:=by
  cases hq:z7 ts s with
  | error e=>rw[hq]at h;cases h
  | ok s1=>rw[hq]at h;cases h;exact⟨s1,rfl,rfl⟩
 have:=zbj e
 have:=ziL s1 t
 omega
theorem zom{fs:List F}{ls:List Int}{w:W}{s s':St}(h:ze8 fs ls w s=.ok s'):s'.stack.length≤s.stack.length+1:=by
 unfold ze8 at h
 repeat' split at h
 all_goals first
  | (cases h;first|exact ziL _ _|omega)
  | exact zri h
  | (have:=zbj h;omega)
  | (have:=zfI h;omega)
theorem zlc{ty:Int}{s s':St}(h:zC ty s=.ok s'):s'.stack.length≤s.stack.length:=by
 unfold zC at h
 split at h
 ·cases h;exact yah _
 ·exact zbj h
theorem zon{fs:List F}{ls:List Int}{ty deep:Int}{lk:zsD}{w:W}{s s':St}(h:zea fs ls ty deep lk w s=.ok s'):s'.stack.length≤s.stack.length+1:=by
 unfold zea at h
 by_cases h1:zce w=false
 ·rw[if_pos h1]at h;cases h
 rw[if_neg h1]at h
 by_cases h2:zcf fs ls deep w=false
 ·rw[if_pos h2]at h;cases h
 rw[if_neg h2]at h
 by_cases h3:w.op=11∨w.op=12
 ·rw[if_pos h3]at h
  split at h
  ·cases h;omega
  ·cases h
 rw[if_neg h3]at h
 by_cases h4:w.op=13
 ·rw[if_pos h4]at h
  split at h
  ·cases h
  ·rename_i s1 hs1
   have:=zbj hs1
   split at h
   ·cases h
   ·split at h
    ·split at h
     ·cases h
     ·cases h;omega
    ·cases h;omega
 rw[if_neg h4]at h
 by_cases h5:w.op=15
 ·rw[if_pos h5]at h
  split at h
  ·cases h
  ·rename_i s1 hs1
   have:=zbj hs1
   split at h
   ·cases hq:zC ty s1 with
    | error e=>rw[hq]at h;cases h
    | ok s2 =>
     rw[hq]at h
     cases h
     have:=zlc hq
     have:=ziL s2 ty
     omega
   ·cases h;omega
 rw[if_neg h5]at h
 have hl:zk1.stack.length=0:=rfl
 by_cases h6:w.op=14
 ·rw[if_pos h6]at h
  split at h
  ·split at h
   ·cases h
   ·cases h;omega
  ·cases h;omega
 rw[if_neg h6]at h
 by_cases h7:w.op=16
 ·rw[if_pos h7]at h
  split at h
  ·cases h
  ·cases h;omega
 rw[if_neg h7]at h
 by_cases h8:w.op=17
 ·rw[if_pos h8]at h;cases h;omega
 rw[if_neg h8]at h
 exact zom h
structure zoo(m:M):Prop where
 funcs:m.funcs.length≤2^20
 params:∀f∈m.funcs,f.params.length≤2^20
 locals:∀f∈m.funcs,f.locals.length≤2^20
 lists:∀f∈m.funcs,f.lists.length≤2^20
 rows:∀f∈m.funcs,∀l∈f.lists,l.length≤2^20
 nums:∀f∈m.funcs,∀l∈f.lists,∀w∈l,w.n≤2^63-1
theorem zaq.made{x:Nat}{σ σ':AS}{cs:List AV}(K:zaq x (σ.newO cs) σ')(hx:x=σ.no)(hn:∀v f,cs[1]?=some v→zbX v≠some f):zg σ σ' where
 no:=yai (by simp) K.no
 nf:=by have:=K.nf;simpa using this
 obj o ho:=by
  rw[K.obj o (by simp;omega) (by omega)]
  simp;omega
 fam f hf:=by
  rw[K.fam f (by simpa using hf) ?_]
  ·rfl
  ·rintro ⟨cs',v,h1,h2,h3⟩
   subst hx
   simp at h1
   subst h1
   exact hn v f h2 h3
def KI(x c:Nat)(deep:Int)(rv:AV)(row:List W)(σ1:AS)(run:List W→St→Res St)(a:Nat→AV)(τ:AS):Prop:=∃(i:Nat) (s:St),i≤row.length∧a 2=.int .i64 deep∧a 6=.ptr x 0∧a 20=rv∧a 21=.int .i64 (row.length:Int)∧a 22=.int .i64 (i:Int)∧LS τ x c s deep∧zaq x σ1 τ∧s.stack.length≤i ∧
 run (row.drop i) s=run row ⟨[],false⟩
theorem zop{G:Env}(V:zk9 G){m:M}(sm:zoo m){f:F}(hfm:f∈m.funcs)(ha:zmT f.lists)(ls:List Int):∀k:Nat,zsG G m f ls (min (k:Int) (f.lists.length:Int)) (zg7 m.funcs ls f.type f.lists k)
 | 0=>fun c σ at_ deep R _ h0 h1=>by omega
 | k+1=>by
  have IH:=zop V sm hfm ha ls k
  intro c σ at_ deep R C h0 h1 hd0 hd1 h
  refine zqi rfl ?_
  rw[zg7]at h
  obtain⟨j,rfl⟩:∃j:Nat,at_=(j:Int):=⟨at_.toNat,by omega⟩
  have hj:j<f.lists.length:=by omega
  have hjk:j<k+1:=by omega
  rw[Int.toNat_natCast]at h
  have hrow:f.lists.getD j []=f.lists[j]:=by rw[ycg,yau hj];rfl
  rw[hrow]at h
  have hahead:=ha j _ (yau hj)
  have hrl:=sm.rows f hfm f.lists[j] (yaw hj)
  have hnums:=sm.nums f hfm f.lists[j] (yaw hj)
  have C0:=C
  obtain⟨hc,fsv,pv,lv,tv,lsv,hco,hfs,hpv,hlv,htv,hls⟩:=C
  rcases htv with ⟨e,_⟩|⟨b,rows,rfl,hrows⟩
  ·rw[e]at hj;simp at hj
  obtain⟨rv,hrv,hrep⟩:=hrows.get (yau hj)
  generalize f.lists[j]=row at *
  have hlen:=hrep.len
  have hcx:c≠σ.no:=by omega
  simp[zw4,hco,hcx,hrv,hlen,splice]
  refine⟨hrep.one.2.2,?_⟩
  generalize hσ1:σ.newO [ycv c 0,ycz,AV.bool false,ycs yam deep]=σ1
  have hno1:σ1.no=σ.no+1:=by rw[←hσ1];simp
  have ho1:σ1.objs σ.no=some [.ptr c 0,.nilsl,.bool false,.int .i64 deep]:=by rw[←hσ1];simp
  have L1:LS σ1 σ.no c ⟨[],false⟩ deep:=⟨by omega,_,ho1,.inl ⟨rfl,rfl⟩⟩
  have A1:zg σ σ1:=by rw[←hσ1];exact(zg.refl σ).newO
  have C1:=C0.adds A1
  have made:∀{σ'},zaq σ.no σ1 σ'→zg σ σ':=fun K=>by
   rw[←hσ1]at K
   exact K.made rfl fun v f hv hf=>by simp at hv;subst hv;simp[zbX]at hf
  refine zae (KI σ.no c deep rv row σ1 (zcX m.funcs ls f.type deep (zg7 m.funcs ls f.type f.lists k))) (MU 22 (row.length+1)) ⟨0,⟨[],false⟩,by omega,by simp,by simp,by simp,by simp,by simp,L1,.refl _ _,by simp,by simp⟩ fun a τ hI=>?_
  obtain⟨i,s,hi,a2,a6,a20,a21,a22,L,K,hsl,hrun⟩:=hI
  have C2:=C1.keep K hcx
  by_cases hlt:i<row.length
  ·obtain⟨b2,hix2⟩:=hrep.at hlt
   have hlt':(i:Int)<(row.length:Int):=by omega
   rw[ycu hlt,zcX]at hrun
   simp[zd7,a6,a20,a21,a22,hlt,hix2,W.av,W.cs,splice]
   have hw3:yb4 .i64 ((i:Int)+1)=((i+1:Nat):Int):=by rw[wrap_i64]<;>omega
   have hmem:=yaw hlt
   have A3:zg τ ((τ.newO [ycs yam 0,ycs yam 0,ycs yam 0,ycs yam 0,ycs yam 0,ycr []]).setO τ.no row[i].cs):=((zg.refl τ).newO).setO (yah _)
   refine ziK (w:=row[i]) V IH (L.adds A3) (C2.adds A3) hcx (by omega) hd0 (by omega) (hnums _ hmem) (fun g hg=>by have:=sm.params g hg;omega) (fun n hn=>?_) ?_
   ·have:=hahead n (ycA.2 ⟨_,hmem,hn⟩)
    exact⟨this.1,by omega,by omega⟩
   ·have KA:=K.trans (A3.keepL L.1)
    cases hq:zea m.funcs ls f.type deep (zg7 m.funcs ls f.type f.lists k) row[i] s with
    | error e =>
     rw[hq]at hrun
     simp only at hrun
     rw[←hrun]at h
     intro σ' K'
     simp
     exact h σ' (made (KA.trans K'))
    | ok s' =>
     rw[hq]at hrun
     simp only at hrun
     have hle:=zon hq
     intro σ' K' L'
     simp[a22,hw3]
     refine⟨⟨i+1,s',by omega,by simp[a2],by simp[a6],by simp[a20],by simp[a21],by simp,L',KA.trans K',by omega,hrun⟩,?_⟩
     simp only[MU,a22]
     simp;omega
  ·have he:i=row.length:=by omega
   subst he
   simp[zcX]at hrun
   rw[←hrun]at h
   simp only at h
   have L':=L
   obtain⟨hx,sv,ho,hs⟩:=L'
   unfold zDv at h
   by_cases hdz:deep=0
   ·rw[if_pos hdz]at h
    simp[zd7,zfB,a2,a6,a21,a22,hdz]
    refine zck (by rw[hdz]at L;exact L) C2 (by omega) ?_
    cases hq:zC f.type s with
    | error e =>
     rw[hq]at h
     intro σ' K'
     simp
     exact h σ' (made (K.trans K'))
    | ok s3 =>
     rw[hq]at h
     intro σ' K' L3
     obtain⟨hx3,sv3,ho3,hs3⟩:=L3
     have hsl3:=hs3.len
     by_cases hz:s3.stack.length=0
     ·simp only[if_pos hz]at h
      have hz':s3.stack=[]:=ybS.1 hz
      simp[a6,ho3,hsl3,hz']
      refine zc (fun _=>?_) (fun q=>by simp at q)
      simp
      exact h σ' (made (K.trans K'))
     ·simp only[if_neg hz]at h
      have hz':¬s3.stack=[]:=fun q=>hz (by rw[q];rfl)
      simp[a6,ho3,hsl3,hz']
      refine zc (fun q=>by simp at q) (fun _=>?_)
      simp
      exact h σ' (made (K.trans K'))
   ·rw[if_neg hdz]at h
    have hsl3:=hs.len
    by_cases hz:s.stack.length=0
    ·simp only[if_pos hz]at h
     have hz':s.stack=[]:=ybS.1 hz
     simp[zd7,zfB,a2,a6,a21,a22,hdz,ho,hsl3,hz']
     refine zc (fun _=>?_) (fun q=>by simp at q)
     simp
     exact h τ (made K)
    ·simp only[if_neg hz]at h
     have hz':¬s.stack=[]:=fun q=>hz (by rw[q];rfl)
     simp[zd7,zfB,a2,a6,a21,a22,hdz,ho,hsl3,hz']
     refine zc (fun q=>by simp at q) (fun _=>?_)
     simp
     exact h τ (made K)
theorem zld{G:Env}{σ:AS}{R:Out→AS→Prop}{w:W}(h:∀v σ',zbD v (zD w)→zg σ σ'→R (.ret v) σ'):zzQ G 159 [w.av] σ R:=by
 refine zqG rfl ?_
 have A:zg σ (σ.newO w.cs):=(zg.refl σ).newO
 simp only[W.cs]at A
 unfold zD at h
 by_cases h1:w.op=11
 ·rw[if_pos (.inl h1)]at h
  simp[zmQ,W.av,W.cs,h1]
  exact h _ _ (.inr ⟨_,rfl⟩) (by simpa [h1]using A)
 by_cases h2:w.op=12
 ·rw[if_pos (.inr (.inl h2))]at h
  simp[zmQ,W.av,W.cs,h2]
  exact h _ _ (.inr ⟨_,rfl⟩) (by simpa [h2]using A)
 by_cases h3:w.op=13
 ·by_cases ho:w.other<0
  ·rw[if_pos (.inr (.inr ⟨h3,ho⟩))]at h
   simp[zmQ,W.av,W.cs,h3,ho]
   exact h _ _ (.inr ⟨_,rfl⟩) (by simpa [h3]using A)
  ·rw[if_neg (by omega),if_pos h3]at h
   simp[zmQ,W.av,W.cs,h3,ho]
   exact h _ _ (.inr ⟨_,rfl⟩) (by simpa [h3]using A)
 ·rw[if_neg (by omega),if_neg h3]at h
  simp[zmQ,W.av,W.cs,h1,h2,h3]
  exact h _ _ (.inl ⟨rfl,rfl⟩) A
@[simp] theorem zyS(x y:Bool):aeq yb9 4 (.bool x) (.bool y)=some (x==y):=by simp[aeq,zhV,show yb9.underlying 4=some .bool from by kernel_rfl]
@[simp] theorem zvU:za yb9 106=true:=by kernel_rfl
def zam(l:List Bool):List AV:=l.map AV.bool
def CI(σ:AS)(o len:Nat)(named:List Bool)(a:Nat→AV)(τ:AS):Prop:=∃i:Nat,i≤len∧a 0=.slm o 0 1 len∧a 1=.bool false∧a 7=.int .i64 (len:Int)∧a 8=.int .i64 (i:Int)∧τ=σ∧∀j,j<i→named[j]?=some true
theorem zhd{G:Env}{σ:AS}{R:Out→AS→Prop}{o len:Nat}{named:List Bool}(ho:σ.objs o=some (zam named))(hl:len≤named.length)(hb:len≤2^40)(h:R (.ret (.bool (!(named.take len).all (·==true)))) σ):zzQ G 160 [.slm o 0 1 len,.bool false] σ R:=by
 refine zqH rfl ?_
 simp[zxk]
 refine zqS rfl ?_
 simp[zxr]
 refine zae (CI σ o len named) (MU 8 (len+1)) ⟨0,by omega,by simp,by simp,by simp,by simp,rfl,fun j hj=>by omega⟩ fun a τ hI=>?_
 obtain⟨i,hi,a0,a1,a7,a8,rfl,hall⟩:=hI
 have hw3:yb4 .i64 ((i:Int)+1)=((i+1:Nat):Int):=by rw[wrap_i64]<;>omega
 by_cases hlt:i<len
 ·have hlt':(i:Int)<(len:Int):=by omega
  have hin:i<named.length:=by omega
  have hget:(zam named)[i]?=some (.bool named[i]):=by simp[zam,hin]
  have hge:∀q:i<(zam named).length,(zam named)[i]'q=.bool named[i]:=fun q=>by rw[yau q]at hget;exact yaR.inj hget
  have hlb:i<(zam named).length:=by simp[zam];exact hin
  cases hv:named[i]with
  | true =>
   rw[hv]at hget hge
   simp[zfE,a0,a1,a7,a8,hlt,ho,hlb,hge,hw3]
   refine⟨⟨i+1,by omega,by simp[a0],by simp[a1],by simp[a7],by simp,rfl,fun j hj=>?_⟩,?_⟩
   ·by_cases e:j=i
    ·subst e;rw[yau hin,hv]
    ·exact hall j (by omega)
   ·simp only[MU,a8];simp;omega
  | false =>
   rw[hv]at hget hge
   have e:(!(named.take len).all (·==true))=true:=by
    rw[Bool.not_eq_true',ycB]
    exact⟨false,ycC.2 ⟨i,by rw[ybf];omega,by rw[yaE];exact hv⟩,by simp⟩
   rw[e]at h
   simp[zfE,a0,a1,a7,a8,hlt,ho,hlb,hge]
   exact h
 ·have he:i=len:=by omega
  subst he
  have e:(!(named.take i).all (·==true))=false:=by
   rw[Bool.not_eq_false',yaM]
   intro b hb
   obtain⟨j,hj,rfl⟩:=ycC.1 hb
   rw[ybf]at hj
   have:=hall j (by omega)
   rw[yau (by omega)]at this
   rw[yaE]
   simp[yaR.inj this]
  rw[e]at h
  simp[zfE,zlX,a7,a8]
  exact h
def FI(σ:AS)(v:AV)(ls:List Int)(a:Nat→AV)(τ:AS):Prop:=∃i:Nat,i≤ls.length∧a 0=v∧a 1=.fn (.func 106) [] []∧a 7=.int .i64 (ls.length:Int)∧a 8=.int .i64 (i:Int)∧τ=σ∧∀j,j<i→∃t,ls[j]?=some t∧zab t=true
theorem zed{G:Env}{σ:AS}{R:Out→AS→Prop}{v:AV}{ls:List Int}(hv:zbD v ls)(hb:ls.length≤2^40)(h:R (.ret (.bool (!ls.all zab))) σ):zzQ G 95 [v,.fn (.func 106) [] []] σ R:=by
 refine zt3 rfl ?_
 simp[zEf]
 refine zqD rfl ?_
 simp[zxi,hv.len]
 refine zae (FI σ v ls) (MU 8 (ls.length+1)) ⟨0,by omega,by simp,by simp,by simp,by simp,rfl,fun j hj=>by omega⟩ fun a τ hI=>?_
 obtain⟨i,hi,a0,a1,a7,a8,rfl,hall⟩:=hI
 have hw3:yb4 .i64 ((i:Int)+1)=((i+1:Nat):Int):=by rw[wrap_i64]<;>omega
 by_cases hlt:i<ls.length
 ·rcases hv with ⟨rfl,_⟩|⟨b,rfl⟩
  ·simp at hlt
  simp[ziA,a0,a1,a7,a8,hlt]
  refine zqe rfl ?_
  simp[zw3]
  refine zaX ?_
  cases hn:zab ls[i]with
  | true =>
   simp[a8,hw3]
   refine⟨⟨i+1,by omega,by simp[a0],by simp[a1],by simp[a7],by simp,rfl,fun j hj=>?_⟩,?_⟩
   ·by_cases e:j=i
    ·subst e;exact⟨_,yau hlt,hn⟩
    ·exact hall j (by omega)
   ·simp only[MU,a8];simp;omega
  | false =>
   have e:(!ls.all zab)=true:=by
    rw[Bool.not_eq_true',ycB]
    exact⟨_,yaw hlt,by simp[hn]⟩
   rw[e]at h
   simp[a8]
   exact h
 ·have he:i=ls.length:=by omega
  subst he
  have e:(!ls.all zab)=false:=by
   rw[Bool.not_eq_false',yaM]
   intro t ht
   obtain⟨j,hj,rfl⟩:=ycC.1 ht
   obtain⟨t,h1,h2⟩:=hall j hj
   rw[yau hj]at h1
   cases h1
   exact h2
  rw[e]at h
  simp[ziA,zlQ,a7,a8]
  exact h
theorem zjW{G:Env}{σ:AS}{R:Out→AS→Prop}{pv lv:AV}{p l:List Int}(hp:zbD pv p)(hl:zbD lv l)(hb:p.length+l.length≤2^30)(h:∀v σ',zbD v (p++l)→zg σ σ'→R (.ret v) σ'):zzQ G 105 [.sl (.stat true) 1 [pv,lv]] σ R:=by
 refine zre (zqd rfl ?_)
 have p1:=hp.one
 have l1:=hl.one
 have hpl:=hp.len
 have hll:=hl.len
 have w1:yb4 .i64 (p.length:Int)=(p.length:Int):=by rw[wrap_i64]<;>omega
 have w2:yb4 .i64 ((p.length:Int)+(l.length:Int))=(p.length:Int)+(l.length:Int):=by rw[wrap_i64]<;>omega
 have w3:yb4 .i64 1=1:=rfl
 have w4:yb4 .i64 2=2:=rfl
 have n1:¬(p.length:Int)<0:=by omega
 have n2:¬(p.length:Int)+(l.length:Int)<0:=by omega
 simp[zw2]
 refine zcT 3 ?_
 simp[zlI,p1,l1,hpl,hll,w1,w2,w3,w4,n1,n2,zfA,zlJ]
 have hgrow:∀{R':Out→AS→Prop},(p.length+l.length=0→R' (.ret .nilsl) σ)→(0<p.length+l.length→R' (.ret (.sl (.fam σ.nf false) 1 [])) σ.newF)→zzQ G 158 [.nilsl,.int .i64 ((p.length:Int)+(l.length:Int))] σ R':=by
  intro R' g0 g1
  refine zqF rfl ?_
  have w5:yb4 .i64 0=0:=rfl
  by_cases hz:p.length+l.length=0
  ·have hz':¬(0:Int)<(p.length:Int)+(l.length:Int):=by omega
   simp[zt7,n2,w5,w2,hz']
   exact g0 hz
  ·have hz':(0:Int)<(p.length:Int)+(l.length:Int):=by omega
   obtain⟨n,hn⟩:∃n,((p.length:Int)+(l.length:Int)).toNat=n+1:=⟨((p.length:Int)+(l.length:Int)).toNat-1,by omega⟩
   simp[zt7,n2,w5,w2,hz',hn,ycD,zbQ,za9]
   exact⟨by omega,by omega,by omega,by omega,g1 (by omega)⟩
 refine hgrow (fun hz=>?_) (fun hz=>?_)
 ·have e1:p=[]:=ybS.1 (by omega)
  have e2:l=[]:=ybS.1 (by omega)
  subst e1 e2
  have:=h .nilsl σ (.inl ⟨rfl,rfl⟩) (.refl _)
  have sta:∀K:AV→AS→Prop,∀v,zbD v []→zcG yb9 44 44 .nilsl v σ K=K .nilsl σ:=by
   intro K v hv
   rcases hv with ⟨_,rfl⟩|⟨b,rfl⟩<;>simp
  simp
  refine zcT 3 ?_
  rcases hp with ⟨_,rfl⟩|⟨b,rfl⟩<;>rcases hl with ⟨_,rfl⟩|⟨b',rfl⟩<;>simp[zir,zfA,w3,w4]<;>exact .inl this
 ·simp
  refine zcT 3 ?_
  have fin:∀σ',zg σ σ'→∀g,σ.nf≤g→σ'.F g=.alive→zrd R (.ret (.sl (.fam g false) 1 ((p++l).map (.int .i64)))) σ':=by
   intro σ' A' g hg ha
   refine .froze g (fun _=>false) ha ?_
   have:=h (.sl (.stat false) 1 ((p++l).map (.int .i64))) (σ'.frz g fun _=>false) (.inr ⟨_,rfl⟩) (A'.frz hg fun _ _=>rfl)
   simpa [Function.comp_def]using this
  have A3:zg σ ((σ.newF.setF σ.nf FSt.dead).newF.setF (σ.nf+1) FSt.dead).newF:=((((zg.refl σ).newF.setF (yah _)).newF).setF (by omega)).newF
  have key:=fin _ A3 (σ.nf+1+1) (by omega) (by simp)
  rcases hp with ⟨rfl,rfl⟩|⟨b,rfl⟩<;>rcases hl with ⟨rfl,rfl⟩|⟨b',rfl⟩<;>simp[zir,zfA,w3,w4]
  ·simp at hz
  ·exact⟨by simp at hb;omega,by simpa using key⟩
  ·exact⟨by simp at hb;omega,by simpa using key⟩
  ·exact⟨by omega,by omega,by simpa using key⟩
structure NS(σ1:AS)(o:Nat)(named:List Bool)(L:Nat)(τ:AS):Prop where
 obj:τ.objs o=some (zam named)
 len:named.length=L
 no:σ1.no≤τ.no
 nf:σ1.nf≤τ.nf
 oth:∀p,p<σ1.no→p≠o→τ.objs p=σ1.objs p
 fam:∀f,f<σ1.nf→τ.F f=σ1.F f
theorem NS.adds{σ1 o named L τ τ'}(h:NS σ1 o named L τ)(ho:o<σ1.no)(A:zg τ τ'):NS σ1 o named L τ' where
 obj:=(A.obj o (yag ho h.no)).trans h.obj
 len:=h.len
 no:=yai h.no A.no
 nf:=yai h.nf A.nf
 oth p hp hne:=(A.obj p (yag hp h.no)).trans (h.oth p hp hne)
 fam f hf:=(A.fam f (yag hf h.nf)).trans (h.fam f hf)
theorem NS.set{σ1 o named named' L τ}(h:NS σ1 o named L τ)(hl:named'.length=L):NS σ1 o named' L (τ.setO o (zam named')) where
 obj:=by simp
 len:=hl
 no:=h.no
 nf:=h.nf
 oth p hp hne:=by simp[hne];exact h.oth p hp hne
 fam f hf:=h.fam f hf
def zee{α β:Type}(r:Res α)(k:α→Res β):Res β:=match r with
 | .error e=>.error e
 | .ok a=>k a
theorem zle(a n:Int)(ns:List Int)(named:List Bool):zbt a (n::ns) named=zee (zfp a named n) fun m=>zbt a ns m:=by
 rw[zbt];unfold zee;cases zfp a named n<;>rfl
theorem zoq(a:Int)(w:W)(ws:List W)(named:List Bool):zkp a (w::ws) named=zee (zbt a (zD w) named) fun m=>zkp a ws m:=by
 rw[zkp];unfold zee;cases zbt a (zD w) named<;>rfl
theorem zm2(k:Nat)(l:List W)(ls:To)(named:List Bool):zcg k (l::ls) named=zee (zkp (k:Int) l named) fun m=>zcg (k+1) ls m:=by
 rw[zcg];unfold zee;cases zkp (k:Int) l named<;>rfl
def NI3(σ1:AS)(o L:Nat)(tv:AV)(ls:To)(goal:Res (List Bool))(a:Nat→AV)(τ:AS):Prop:=∃(i:Nat) (named:List Bool),i≤ls.length∧a 2=.slm o 0 1 L∧a 28=tv∧a 29=.int .i64 (ls.length:Int)∧a 30=.int .i64 (i:Int)∧NS σ1 o named L τ∧zcg i (ls.drop i) named=goal
def NI2(σ1:AS)(o L:Nat)(tv:AV)(ls:To)(k:Nat)(rv:AV)(row:List W)(goal:Res (List Bool))(a:Nat→AV)(τ:AS):Prop:=∃(j:Nat) (named:List Bool),j≤row.length∧a 2=.slm o 0 1 L∧a 28=tv∧a 29=.int .i64 (ls.length:Int)∧a 30=.int .i64 (k:Int)∧a 3=.int .i64 (k:Int)∧a 35=rv∧a 36=.int .i64 (row.length:Int)∧a 37=.int .i64 (j:Int)∧NS σ1 o named L τ ∧
 zee (zkp (k:Int) (row.drop j) named) (fun n=>zcg (k+1) (ls.drop (k+1)) n)=goal
def NI1(σ1:AS)(o L:Nat)(tv:AV)(ls:To)(k:Nat)(rv:AV)(row:List W)(j:Nat)(nv:AV)(ns:List Int)(goal:Res (List Bool))(a:Nat→AV)(τ:AS):Prop:=∃(q:Nat) (named:List Bool),q≤ns.length∧a 2=.slm o 0 1 L∧a 28=tv∧a 29=.int .i64 (ls.length:Int)∧a 30=.int .i64 (k:Int)∧a 3=.int .i64 (k:Int)∧a 35=rv∧a 36=.int .i64 (row.length:Int)∧a 37=.int .i64 (j:Int) ∧
 a 42=nv∧a 43=.int .i64 (ns.length:Int)∧a 44=.int .i64 (q:Int)∧NS σ1 o named L τ ∧
 zee (zee (zbt (k:Int) (ns.drop q) named) fun n=>zkp (k:Int) (row.drop (j+1)) n) (fun n=>zcg (k+1) (ls.drop (k+1)) n)=goal
theorem zlf{named:List Bool}{n:Nat}(h:n<named.length)(b:Bool):splice (zam named) n [.bool b]=zam (named.set n b):=by
 unfold splice zam
 rw[List.set_eq_take_append_cons_drop,if_pos h]
 simp
theorem zjX{G:Env}(V:zk9 G){σ:AS}{R:Out→AS→Prop}{c:Nat}{m:M}{f:F}{ls0:List Int}(C:zl6 σ c m f ls0)(hb:f.lists.length≤2^20)(hrows:∀l∈f.lists,l.length≤2^20)(h:zB9 R σ (zdx f.lists)):zzQ G 108 [.ptr c 0] σ R:=by
 refine zqh rfl ?_
 obtain⟨hc,fsv,pv,lv,tv,lsv,hco,hfs,hpv,hlv,htv,hls⟩:=C
 have hlen:=htv.len
 unfold zdx at h
 by_cases hz:f.lists.length=0
 ·rw[if_pos hz]at h
  have hz':f.lists=[]:=ybS.1 hz
  simp[zt4,hco,hlen,hz']
  refine zc (fun q=>by simp at q) (fun _=>?_)
  simp
  exact h σ (.refl _)
 ·rw[if_neg hz]at h
  have hz':¬f.lists=[]:=fun q=>hz (by rw[q];rfl)
  have hpos:0<f.lists.length:=by omega
  simp[zt4,hco,hlen,hz',hpos]
  refine zc (fun _=>?_) (fun q=>by simp at q)
  simp[hco,hlen]
  have hto:((f.lists.length:Int)).toNat=f.lists.length:=by omega
  generalize hgoal:zcg 0 f.lists (yaj f.lists.length false)=goal at h
  refine⟨1,1,.bool false,by simp,by simp,by simp,rfl,rfl,rfl,by omega,by omega,by omega,?_⟩
  have hflat:zy (yaj f.lists.length (AV.bool false))=zam (yaj f.lists.length false):=by
   unfold zy zam
   induction f.lists.length with
   | zero=>rfl
   | succ n ih=>rw[ycD,ycD,yaa,yaL,ih];rfl
  have hcn:c≠σ.no:=by omega
  simp[hflat,hcn,hco,hlen]
  generalize hσ1:σ.newO (zam (yaj f.lists.length false))=σ1
  have hno1:σ1.no=σ.no+1:=by rw[←hσ1];simp
  have A1:zg σ σ1:=by rw[←hσ1];exact(zg.refl σ).newO
  have N1:NS σ1 σ.no (yaj f.lists.length false) f.lists.length σ1:=⟨by rw[←hσ1];simp,by simp,yah _,yah _,fun _ _ _=>rfl,fun _ _=>rfl⟩
  have toA:∀{named τ},NS σ1 σ.no named f.lists.length τ→zg σ τ:=fun N=>⟨by have:=N.no;omega,yai A1.nf N.nf,fun o ho=>(N.oth o (by omega) (by omega)).trans (A1.obj o ho),fun g hg=>(N.fam g (yag hg A1.nf)).trans (A1.fam g hg)⟩
  refine zae (NI3 σ1 σ.no f.lists.length tv f.lists goal) (MU 30 (f.lists.length+1)) ⟨0,_,by omega,by simp,by simp,by simp,by simp,N1,by simpa using hgoal⟩ fun a τ hI=>?_
  obtain⟨i,named0,hi,a2,a28,a29,a30,N0,hg0⟩:=hI
  by_cases hlt:i<f.lists.length
  ·obtain⟨b,rv,hrep,hix⟩:=htv.at hlt
   have hrl:=hrows _ (yaw hlt)
   rw[ycu hlt,zm2]at hg0
   generalize f.lists[i]=row at *
   have hrlen:=hrep.len
   have hr1:=hrep.one
   have hlt':(i:Int)<(f.lists.length:Int):=by omega
   simp[zit,a2,a28,a29,a30,hlt,hix,hr1,hrlen]
   refine zae (NI2 σ1 σ.no f.lists.length tv f.lists i rv row goal) (MU 37 (row.length+1)) ⟨0,named0,by omega,by simp[a2],by simp[a28],by simp[a29],by simp[a30],by simp,by simp,by simp,by simp,N0,by simpa using hg0⟩ fun b ρ hI=>?_
   obtain⟨j,named1,hj,b2,b28,b29,b30,b3,b35,b36,b37,N2,hg1⟩:=hI
   by_cases hjl:j<row.length
   ·obtain⟨q2,hix2⟩:=hrep.at hjl
    rw[ycu hjl,zoq]at hg1
    simp[zis,b35,b36,b37,hjl,hix2,W.av,W.cs,splice]
    rw[show ycy [ycs yam row[j].op,ycs yam row[j].ty,ycs yam row[j].n,ycs yam row[j].body,ycs yam row[j].other,ycr row[j].name]=row[j].av from rfl]
    refine zld fun nv σ3 hnv A3=>?_
    have A3':zg ρ σ3:=(((zg.refl ρ).newO).setO (yah _)).trans A3
    have N3:=N2.adds (by omega) A3'
    have hnl:=hnv.len
    simp[hnl]
    refine zae (NI1 σ1 σ.no f.lists.length tv f.lists i rv row j nv (zD row[j]) goal) (MU 44 ((zD row[j]).length+1)) ⟨0,named1,by omega,by simp[b2],by simp[b28],by simp[b29],by simp[b30],by simp[b3],by simp[b35],by simp[b36],by simp[b37],by simp,by simp,by simp,N3,by simpa using hg1⟩ fun d π hI=>?_
    obtain⟨q,named,hq,d2,d28,d29,d30,d3,d35,d36,d37,d42,d43,d44,N,hg⟩:=hI
    have ho:=N.obj
    have hnlen:=N.len
    have hbl:(zam named).length=f.lists.length:=by simp[zam,hnlen]
    by_cases hql:q<(zD row[j]).length
    ·obtain⟨q3,hix3⟩:=hnv.at hql
     rw[ycu hql,zle]at hg
     have hw3:yb4 .i64 ((q:Int)+1)=((q+1:Nat):Int):=by
      have:(zD row[j]).length≤2:=by unfold zD;split<;>(try split)<;>simp
      rw[wrap_i64]<;>omega
     generalize hn:(zD row[j])[q]=n at *
     by_cases hok:0≤n∧n<(i:Int)
     ·have hnl2:n.toNat<f.lists.length:=by omega
      have hnn:n.toNat<named.length:=by omega
      have hget:(zam named)[n.toNat]?=some (.bool named[n.toNat]):=by simp[zam,hnn]
      have hge:∀p:n.toNat<(zam named).length,(zam named)[n.toNat]'p=.bool named[n.toNat]:=fun p=>by rw[yau p]at hget;exact yaR.inj hget
      have hlb:n.toNat<(zam named).length:=by omega
      have hgd:named.getD n.toNat true=named[n.toNat]:=by rw[ycg,yau hnn];rfl
      have hnL:n<(f.lists.length:Int):=by omega
      cases hv:named[n.toNat]with
      | true =>
       have hE:zfp (i:Int) named n=.error 11:=by unfold zfp;rw[if_neg (by rw[hgd,hv];simp)]
       rw[hE]at hg
       simp[zee]at hg
       rw[←hg]at h
       rw[hv]at hget hge
       simp[zdd,d2,d3,d42,d43,d44,hql,hix3,hok.1,hok.2,ho,hlb,hge,hnL]
       refine zc (fun q=>by simp at q) (fun _=>?_)
       simp
       exact h _ (toA N)
      | false =>
       have hE:zfp (i:Int) named n=.ok (named.set n.toNat true):=by unfold zfp;rw[if_pos ⟨hok.1,hok.2,by rw[hgd,hv]⟩]
       rw[hE]at hg
       simp only[zee]at hg
       rw[hv]at hget hge
       simp[zdd,d2,d3,d42,d43,d44,hql,hix3,hok.1,hok.2,ho,hlb,hge,hnL]
       refine zc (fun _=>?_) (fun q=>by simp at q)
       simp[d2,d44,hok.1,hnL,ho,hlb,hw3]
       rw[zlf hnn]
       refine⟨hlb,⟨q+1,named.set n.toNat true,by omega,by simp[d2],by simp[d28],by simp[d29],by simp[d30],by simp[d3],by simp[d35],by simp[d36],by simp[d37],by simp[d42],by simp[d43],by simp,N.set (by simp[hnlen]),hg⟩,?_⟩
       simp only[MU,d44];simp;omega
     ·have hE:zfp (i:Int) named n=.error 11:=by unfold zfp;rw[if_neg (fun q=>hok ⟨q.1,q.2.1⟩)]
      rw[hE]at hg
      simp[zee]at hg
      rw[←hg]at h
      by_cases h0:0≤n
      ·have h1:¬n<(i:Int):=fun q=>hok ⟨h0,q⟩
       simp[zdd,d2,d3,d42,d43,d44,hql,hix3,h0,h1]
       refine zc (fun q=>by simp at q) (fun _=>?_)
       simp
       exact h _ (toA N)
      ·simp[zdd,d2,d3,d42,d43,d44,hql,hix3,h0]
       refine zc (fun q=>by simp at q) (fun _=>?_)
       simp
       exact h _ (toA N)
    ·have he:q=(zD row[j]).length:=by omega
     subst he
     have hnil:(zD row[j]).drop (zD row[j]).length=[]:=by simp
     rw[hnil]at hg
     simp only[zbt,zee]at hg
     have hw3:yb4 .i64 ((j:Int)+1)=((j+1:Nat):Int):=by rw[wrap_i64]<;>omega
     simp[zdd,zlK,d37,d43,d44,hw3]
     refine⟨⟨j+1,named,by omega,by simp[d2],by simp[d28],by simp[d29],by simp[d30],by simp[d3],by simp[d35],by simp[d36],by simp,N,hg⟩,?_⟩
     simp only[MU,b37];simp;omega
   ·have he:j=row.length:=by omega
    subst he
    have hnil:row.drop row.length=[]:=by simp
    rw[hnil]at hg1
    simp only[zkp,zee]at hg1
    have hw3:yb4 .i64 ((i:Int)+1)=((i+1:Nat):Int):=by rw[wrap_i64]<;>omega
    simp[zis,zlL,b30,b36,b37,hw3]
    refine⟨⟨i+1,named1,by omega,by simp[b2],by simp[b28],by simp[b29],by simp,N2,hg1⟩,?_⟩
    simp only[MU,a30];simp;omega
  ·have he:i=f.lists.length:=by omega
   subst he
   have hnil:f.lists.drop f.lists.length=[]:=by simp
   rw[hnil]at hg0
   simp only[zcg]at hg0
   rw[←hg0]at h
   simp only at h
   have hw3:yb4 .i64 ((f.lists.length:Int)-1)=((f.lists.length-1:Nat):Int):=by rw[wrap_i64]<;>omega
   simp[zit,zlM,a2,a29,a30,hw3]
   refine zhd N0.obj (by rw[N0.len];omega) (by omega) ?_
   cases hq:(named0.take (f.lists.length-1)).all (·==true)with
   | true =>
    rw[if_pos hq]at h
    simp
    refine zc (fun _=>?_) (fun q=>by simp at q)
    simp
    exact h _ (toA N0)
   | false =>
    rw[if_neg (by rw[hq];simp)]at h
    simp
    refine zc (fun q=>by simp at q) (fun _=>?_)
    simp
    exact h _ (toA N0)
theorem zft{G:Env}(V:zk9 G){m:M}(sm:zoo m){f:F}(hfm:f∈m.funcs){σ0 σ:AS}{R:Out→AS→Prop}{c:Nat}(A0:zg σ0 σ)(hc0:σ0.no≤c)(C:zl6 σ c m f [])(h:zB9 R σ0 (zS m.funcs f)):zzQ G 54 [.ptr c 0] σ R:=by
 refine ztP rfl ?_
 have C0:=C
 obtain⟨hc,fsv,pv,lv,tv,lsv,hco,hfs,hpv,hlv,htv,hls⟩:=C
 have p1:=hpv.one
 have l1:=hlv.one
 have hpb:=sm.params f hfm
 have hlb:=sm.locals f hfm
 simp[zD5,hco,p1,l1]
 refine zjW hpv hlv (by omega) fun v σ1 hv A1=>?_
 have v1:=hv.one
 have hco1:=(A1.obj c hc).trans hco
 simp[hco1,v1,splice]
 generalize hσ2:σ1.setO c [fsv,ycs yam m.memory,ycs yam m.main,ycr f.name,pv,lv,ycs yam f.type,tv,v]=σ2
 have hc1:c<σ1.no:=yag hc A1.no
 have hco2:σ2.objs c=some [fsv,.int .i64 m.memory,.int .i64 m.main,.str f.name,pv,lv,.int .i64 f.type,tv,v]:=by rw[←hσ2];simp
 have A2:zg σ0 σ2:=by rw[←hσ2];exact(A0.trans A1).setO hc0
 have C2:zl6 σ2 c m f (f.params++f.locals):=⟨by rw[←hσ2];simpa using hc1,_,_,_,_,_,hco2,hfs,hpv,hlv,htv,hv⟩
 unfold zS at h
 have hll:=sm.lists f hfm
 refine zed hv (by simp;omega) ?_
 have fail:((f.params++f.locals).all zab&&decide (0≤f.type)&&decide (f.type≤2))=false→∀σ',zg σ0 σ'→R (.panic (zg9 6)) σ':=fun q=>by
  rw[if_pos q]at h;exact h
 cases hn:(f.params++f.locals).all zab with
 | false =>
  simp
  refine zc (fun q=>by simp at q) (fun _=>?_)
  simp
  exact fail (by rw[hn];rfl) _ A2
 | true =>
 by_cases k0:0≤f.type
 ·by_cases k2:f.type≤2
  ·rw[if_neg (by rw[hn];simp[k0,k2])]at h
   simp[hco2,k0,k2]
   refine zc (fun _=>?_) (fun q=>by simp at q)
   simp
   refine zjX V C2 hll (fun l hl=>sm.rows f hfm l hl) ?_
   cases hq:zdx f.lists with
   | error e =>
    rw[hq]at h
    intro σ3 A3
    simp
    exact h σ3 (A2.trans A3)
   | ok u =>
    rw[hq]at h
    simp only at h
    intro σ3 A3
    have C3:=C2.adds A3
    have C3':=C3
    obtain⟨hc3,fsv3,pv3,lv3,tv3,lsv3,hco3,_,_,_,htv3,_⟩:=C3'
    obtain⟨hpos,hah,_⟩:=zjU hq
    have hlen3:=htv3.len
    have hw3:yb4 .i64 ((f.lists.length:Int)-1)=(f.lists.length:Int)-1:=by rw[wrap_i64]<;>omega
    simp[hco3,hlen3,hw3]
    refine zop V sm hfm hah (f.params++f.locals) f.lists.length c σ3 ((f.lists.length:Int)-1) 0 _ C3 (by omega) (by omega) (by omega) (by omega) ?_
    revert h
    cases zg7 m.funcs (f.params++f.locals) f.type f.lists f.lists.length ((f.lists.length:Int)-1) 0 with
    | ok u=>intro h σ4 A4;simp;exact h σ4 ((A2.trans A3).trans A4)
    | error e=>intro h σ4 A4;simp;exact h σ4 ((A2.trans A3).trans A4)
  ·simp[hco2,k0,k2]
   refine zc (fun q=>by simp at q) (fun _=>?_)
   simp
   exact fail (by simp[k2]) _ A2
 ·simp[hco2,k0]
  refine zc (fun q=>by simp at q) (fun _=>?_)
  simp
  exact fail (by simp[k0]) _ A2
@[simp] theorem zCa(t:Nat)(v:AV):aeq yb9 20 (.iface t v) .nilif=some false:=by simp[aeq,zhV,show yb9.underlying 20=some (.interface #[]) from by kernel_rfl]
@[simp] theorem zyT(t:Nat)(v:AV)(K:AV→Prop):zbA yb9 .neq 20 (.iface t v) .nilif K=K (.bool true):=by simp[zbA]
@[simp] theorem zEQ:zaa yb9 20=some true:=by kernel_rfl
@[simp] theorem zER(H:Option AV→(Nat→AV)→AS→Prop)(a:Nat→AV)(σ:AS):aq H .ret a σ=H none a σ:=Eq.trans rfl rfl
@[simp] theorem zCb(H:Option AV→(Nat→AV)→AS→Prop)(v:AV)(a:Nat→AV)(σ:AS):aq H (.panic v) a σ=H (some v) a σ:=Eq.trans rfl rfl
def MI(σ1:AS)(mb eb:Nat)(fsv:AV)(m:M)(goal:Res Unit)(a:Nat→AV)(τ:AS):Prop:=∃i:Nat,i≤m.funcs.length∧a 1=.ptr mb 0∧a 2=.ptr eb 0∧a 16=fsv∧a 17=.int .i64 (m.funcs.length:Int)∧a 18=.int .i64 (i:Int)∧zg σ1 τ∧zT m.funcs (m.funcs.drop i)=goal
theorem zlg{G:Env}(V:zk9 G){m:M}(sm:zoo m){σ:AS}{R:Out→AS→Prop}{mv:AV}(hm:MV mv m)(h:∀σ',zg σ σ'→R (.ret (.int .i64 (zmR (zbW m)))) σ'):zzQ G 18 [mv] σ R:=by
 refine zdw (px:=zsA) (pz:=zlH) (k:=52) (py:=zjJ) (n:=61) (nk:=8) (t:=5) (d0:=2) (d1:=1) (res:=[.cell 2 33]) zn Tryz.func18 rfl rfl rfl rfl (by kernel_rfl) (by kernel_rfl) (by simp) rfl rfl rfl rfl rfl rfl (by decide) Tryz.func52 rfl (by kernel_rfl) rfl rfl rfl rfl rfl rfl rfl rfl rfl (by kernel_rfl) (by decide) (by decide) (by decide) ?_
 obtain⟨fsv,rfl,hfs⟩:=hm
 have f1:=hfs.one
 have hfl:=hfs.len
 simp[zsA]
 have ecap:List.map (ev G (upd (upd (zaZ [ycy [fsv,ycs yam m.memory,ycs yam m.main]]) 1 (ycv σ.no 0)) 2 (ycv (σ.no+1) 0))) #[Operand.tmp 2].toList=[.ptr (σ.no+1) 0]:=rfl
 rw[ecap]
 generalize hfr:upd (upd (upd (zaZ [ycy [fsv,ycs yam m.memory,ycs yam m.main]]) 1 (ycv σ.no 0)) 2 (ycv (σ.no+1) 0)) 5 (AV.fn (Fn.func 52) [] [ycv (σ.no+1) 0])=fr
 have fr1:fr 1=.ptr σ.no 0:=by rw[←hfr];simp
 have fr2:fr 2=.ptr (σ.no+1) 0:=by rw[←hfr];simp
 have hno1:((σ.newO [fsv,ycs yam m.memory,ycs yam m.main]).newO [ycs yam 0]).no=σ.no+2:=by simp
 have A1:zg σ ((σ.newO [fsv,ycs yam m.memory,ycs yam m.main]).newO [ycs yam 0]):=(zg.refl σ).newO.newO
 have hm1:((σ.newO [fsv,ycs yam m.memory,ycs yam m.main]).newO [ycs yam 0]).objs σ.no=some [fsv,.int .i64 m.memory,.int .i64 m.main]:=by simp
 have he1:((σ.newO [fsv,ycs yam m.memory,ycs yam m.main]).newO [ycs yam 0]).objs (σ.no+1)=some [.int .i64 0]:=by simp
 generalize (σ.newO [fsv,ycs yam m.memory,ycs yam m.main]).newO [ycs yam 0]=σ1 at *
 -- what is recovered
 have hand:∀(e:Int) (a:Nat→AV) (τ:AS),a 2=.ptr (σ.no+1) 0→zg σ1 τ→(∀σ',zg σ σ'→R (.ret (.int .i64 e)) σ')→zaV yb9 G 8 zjJ 2 1 [.ptr (σ.no+1) 0] [.cell 2 33] R (some (zg9 e)) a τ:=by
  intro e a τ a2 A hh
  have he:=(A.obj (σ.no+1) (by omega)).trans he1
  simp[zaV,zjJ,zg9,he,splice,a2]
  exact hh _ ((A1.trans A).setO (by omega))
 have done:∀(a:Nat→AV) (τ:AS),a 2=.ptr (σ.no+1) 0→zg σ1 τ→(∀σ',zg σ σ'→R (.ret (.int .i64 0)) σ')→zaV yb9 G 8 zjJ 2 1 [.ptr (σ.no+1) 0] [.cell 2 33] R none a (τ.setO (σ.no+1) [.int .i64 0]):=by
  intro a τ a2 A hh
  simp[zaV,zjJ,splice,a2]
  exact hh _ ((A1.trans A).setO (by omega))
 unfold zbW at h
 by_cases k0:0≤m.memory
 ·by_cases k1:m.memory≤4096
  ·rw[if_neg (by simp[k0,k1])]at h
   simp[zlH,fr1,hm1,k0,k1]
   refine zc (fun _=>?_) (fun q=>by simp at q)
   simp[fr1,hm1,f1,hfl]
   generalize hgoal:zT m.funcs m.funcs=goal at h
   refine zae (MI σ1 σ.no (σ.no+1) fsv m goal) (MU 18 (m.funcs.length+1)) ⟨0,by omega,by simp[fr1],by simp[fr2],by simp,by simp,by simp,.refl _,by simpa using hgoal⟩ fun a τ hI=>?_
   obtain⟨i,hi,a1,a2,a16,a17,a18,A,hg⟩:=hI
   have hm2:=(A.obj σ.no (by omega)).trans hm1
   have he2:=(A.obj (σ.no+1) (by omega)).trans he1
   by_cases hlt:i<m.funcs.length
   ·obtain⟨b,fv,hfv,hix⟩:=hfs.at hlt
    have hmem:=yaw hlt
    rw[ycu hlt,zT]at hg
    generalize m.funcs[i]=f at *
    obtain⟨pv,lv,tv,rfl,hp,hl,ht⟩:=hfv
    have p1:=hp.one
    have l1:=hl.one
    have t1:=ht.one
    have hmn:σ.no≠τ.no:=by have:=A.no;omega
    simp[zbs,a1,a16,a17,a18,hlt,hix,p1,l1,t1,f1,splice,hm2,hmn]
    have A3:zg τ (((τ.newO [ycr [],ycz,ycz,ycs yam 0,ycz]).setO τ.no [ycr f.name,pv,lv,ycs yam f.type,tv]).newO [fsv,ycs yam m.memory,ycs yam m.main,ycr f.name,pv,lv,ycs yam f.type,tv,ycz]):=(((zg.refl τ).newO).setO (yah _)).newO
    refine zft V sm hmem A3 (by omega) ⟨by simp,_,_,_,_,_,by simp,hfs,hp,hl,ht,.inl ⟨rfl,rfl⟩⟩ ?_
    have hw3:yb4 .i64 ((i:Int)+1)=((i+1:Nat):Int):=by have:=sm.funcs;rw[wrap_i64]<;>omega
    cases hq:zS m.funcs f with
    | error e =>
     rw[hq]at hg
     simp only at hg
     rw[←hg]at h
     intro σ4 A4
     simp
     exact hand e _ σ4 (by simp[zcx,a2]) (A.trans A4) h
    | ok u =>
     rw[hq]at hg
     simp only at hg
     intro σ4 A4
     simp[a18,hw3]
     refine⟨⟨i+1,by omega,by simp[a1],by simp[a2],by simp[a16],by simp[a17],by simp,A.trans A4,hg⟩,?_⟩
     simp only[MU,a18];simp;omega
   ·have he:i=m.funcs.length:=by omega
    subst he
    have hnil:m.funcs.drop m.funcs.length=[]:=by simp
    rw[hnil]at hg
    simp only[zT]at hg
    rw[←hg]at h
    simp only at h
    have good:zk2 m=true→∀σ',zg σ σ'→R (.ret (.int .i64 0)) σ':=fun q=>by rw[if_pos q]at h;exact h
    have bad:zk2 m=false→∀σ',zg σ σ'→R (.ret (.int .i64 12)) σ':=fun q=>by rw[if_neg (by rw[q];simp)]at h;exact h
    by_cases q0:0≤m.main
    ·by_cases q1:m.main<(m.funcs.length:Int)
     ·have hlt2:m.main.toNat<m.funcs.length:=by omega
      obtain⟨b,fv,hfv,hix⟩:=hfs.at hlt2
      have e1:((m.main.toNat:Nat):Int)=m.main:=by omega
      rw[e1]at hix
      have hfn:m.funcs[m.main.toNat]?=some m.funcs[m.main.toNat]:=yau hlt2
      have hmb:zk2 m=(decide (m.funcs[m.main.toNat].type=1)&&decide (m.funcs[m.main.toNat].params.length=0)):=by
       unfold zk2;rw[hfn];simp[q0]
      generalize m.funcs[m.main.toNat]=f at *
      obtain⟨pv,lv,tv,rfl,hp,hl,ht⟩:=hfv
      have hpl:=hp.len
      have p1:=hp.one
      by_cases q2:f.type=1
      ·by_cases q3:f.params.length=0
       ·have q3':f.params=[]:=ybS.1 q3
        simp[zbs,zbV,a1,a2,a16,a17,a18,hm2,he2,hfl,f1,q0,q1,hix,q2,hpl,p1,q3',splice]
        refine zc (fun _=>?_) (fun q=>by simp at q)
        simp[a2,he2,splice]
        exact done _ τ (by simp[a2]) A (good (by rw[hmb];simp[q2,q3']))
       ·have q3':¬f.params=[]:=fun q=>q3 (by rw[q];rfl)
        simp[zbs,zbV,a1,a2,a16,a17,a18,hm2,he2,hfl,f1,q0,q1,hix,q2,hpl,p1,q3',splice]
        refine zc (fun q=>by simp at q) (fun _=>?_)
        simp
        exact hand 12 _ τ (by simp[zcx,a2]) A (bad (by rw[hmb];simp[q3']))
      ·simp[zbs,zbV,a1,a2,a16,a17,a18,hm2,he2,hfl,f1,q0,q1,hix,q2,splice]
       refine zc (fun q=>by simp at q) (fun _=>?_)
       simp
       exact hand 12 _ τ (by simp[zcx,a2]) A (bad (by rw[hmb];simp[q2]))
     ·simp[zbs,zbV,a1,a2,a16,a17,a18,hm2,he2,hfl,f1,q0,q1,splice]
      refine zc (fun q=>by simp at q) (fun _=>?_)
      simp
      refine hand 12 _ τ (by simp[zcx,a2]) A (bad ?_)
      unfold zk2
      rw[yb2 (by omega)]
      simp
    ·simp[zbs,zbV,a1,a2,a16,a17,a18,hm2,he2,hfl,f1,q0,splice]
     refine zc (fun q=>by simp at q) (fun _=>?_)
     simp
     exact hand 12 _ τ (by simp[zcx,a2]) A (bad (by simp[zk2,q0]))
  ·rw[if_pos (by simp[k1])]at h
   simp[zlH,fr1,hm1,k0,k1]
   refine zc (fun q=>by simp at q) (fun _=>?_)
   simp
   exact hand 11 _ σ1 (by simp[zcx,fr2]) (.refl _) h
 ·rw[if_pos (by simp[k0])]at h
  simp[zlH,fr1,hm1,k0]
  refine zc (fun q=>by simp at q) (fun _=>?_)
  simp
  exact hand 11 _ σ1 (by simp[zcx,fr2]) (.refl _) h
mutual
def clm:AV→AV
 | .sl φ sz xs=>.sl (.stat φ.full) sz (zvV xs)
 | .agg cs=>.agg (zvV cs)
 | v=>v
def zvV:List AV→List AV
 | []=>[]
 | v::vs=>clm v::zvV vs
end
theorem zlh:∀l,zvV l=l.map clm
 | []=>by simp[zvV]
 | v::l=>by simp[zvV,zlh l]
@[simp] theorem zsH(φ sz xs):clm (.sl φ sz xs)=.sl (.stat φ.full) sz (xs.map clm):=by simp[clm,zlh]
@[simp] theorem zul(cs):clm (.agg cs)=.agg (cs.map clm):=by simp[clm,zlh]
@[simp] theorem zum(k n):clm (.int k n)=.int k n:=by simp[clm]
@[simp] theorem zun(s):clm (.str s)=.str s:=by simp[clm]
@[simp] theorem zor:clm .nilsl=.nilsl:=by simp[clm]
@[simp] theorem zrj(b):clm (.bool b)=.bool b:=by simp[clm]
theorem zjY(v:AV):(clm v).cells=v.cells.map clm:=by
 cases v with
 | agg cs=>simp
 | sl φ sz xs=>simp
 | _=>simp[clm,AV.cells]
theorem ziM(l:List AV):zy (l.map clm)=(zy l).map clm:=by
 simp[zy,List.flatMap_map,List.map_flatMap,zjY]
inductive Cb(F:Nat→FSt):AV→Prop
 | bool (b:Bool):Cb F (.bool b)
 | int (k:IntKind) (n:Int):Cb F (.int k n)
 | str (s:List UInt8):Cb F (.str s)
 | nilsl:Cb F .nilsl
 | sl (φ:Abs.Own) (sz:Nat) (xs:List AV) (hr:zj F φ) (h:∀c∈zy xs,Cb F c):Cb F (.sl φ sz xs)
 | agg (cs:List AV) (h:∀c∈cs,Cb F c):Cb F (.agg cs)
end Go.Proofs.YtohfclafhegadaaGreatDoor
namespace Go.Abs
open Go Go.Abs
open Go.Proofs.YtohfclafhegadaaGreatDoor
theorem VR.clmTo{M:Mp}{F:Nat→FSt}{w:World}{v:AV}{c:Value}(h:VR M F w v c){M':Mp}{F':Nat→FSt}(hst:∀B m,M.role B=some (.st m)→M'.role B=some (.st m))(hfm:∀B f,M.role B=some (.fam f)→∃m,M'.role B=some (.st m))(hs:Cb F v):VR M' F' w (clm v) c:=by
 induction h with
 | bool b=>rw[zrj];exact .bool b
 | int k n=>rw[zum];exact .int k n
 | str s=>rw[zun];exact .str s
 | nilsl=>rw[zor];exact .nilsl
 | slz b sz a=>rw[zsH];exact .slz _ sz a
 | sl φ sz xs B off cap cs hcap hlit hsz hm hc hv ih =>
  cases hs with
  | sl _ _ _ hr hs =>
  rw[zsH]
  have hl:(xs.map Go.Proofs.YtohfclafhegadaaGreatDoor.clm).length=xs.length:=by simp
  have hm':∃m,M'.role B=some (.st m):=by
   cases φ with
   | stat b =>
    obtain⟨m,hm⟩:=hm
    exact⟨m,hst B m hm⟩
   | fam f b=>exact hfm B f (hm.2 (by rw[hr];simp)).1
  have:=VR.sl (M:=M') (F:=F') (w:=w) (.stat φ.full) sz (xs.map Go.Proofs.YtohfclafhegadaaGreatDoor.clm) B off cap cs (by simpa using hcap) (fun h=>by rw[hl];exact hlit h)
   (fun x hx=>by simp at hx;obtain⟨y,hy,rfl⟩:=hx;rw[zjY,ybb];exact hsz y hy) hm' (fun _ j hj=>hc hr j (by rw[ziM]at hj;simpa using hj))
   (fun _ j hj=>by
    have hj':j<(zy xs).length:=by rw[ziM]at hj;simpa using hj
    have:=ih hr j hj' (hs _ (yaw hj'))
    simp only[ziM,List.getElem_map]
    exact this)
  rw[hl]at this
  exact this
 | agg cs A hA va ih =>
  cases hs with
  | agg _ hs=>rw[zul];exact .agg _ _ (by simpa using hA) (fun j h h'=>by simpa using ih j (by simpa using h) h' (hs _ (yaw _)))
 | _=>cases hs
end Go.Abs
namespace Go.Proofs.YtohfclafhegadaaGreatDoor
open Go Go.Abs
end Go.Proofs.YtohfclafhegadaaGreatDoor
namespace Go.Abs
open Go Go.Abs
open Go.Proofs.YtohfclafhegadaaGreatDoor
theorem VR.clm{M:Mp}{F:Nat→FSt}{w:World}{v:AV}{c:Value}(h:VR M F w v c)(hs:Cb F v):VR (M.calm 1) AS.bare.F w (clm v) c :=
 h.clmTo (fun _ _ h=>zij h) (fun _ _ h=>⟨false,zdc h (fun m q=>by cases q)⟩) hs
end Go.Abs
namespace Go.Proofs.YtohfclafhegadaaGreatDoor
open Go Go.Abs
inductive Pln:AV→Prop
 | bool (b:Bool):Pln (.bool b)
 | int (k:IntKind) (n:Int):Pln (.int k n)
 | str (s:List UInt8):Pln (.str s)
 | nilsl:Pln .nilsl
 | agg (cs:List AV) (h:∀c∈cs,Pln c):Pln (.agg cs)
 | tuple (cs:List AV) (h:∀c∈cs,Pln c):Pln (.tuple cs)
end Go.Proofs.YtohfclafhegadaaGreatDoor
namespace Go.Abs
open Go Go.Abs
open Go.Proofs.YtohfclafhegadaaGreatDoor
theorem VR.pln{M M':Mp}{F F':Nat→FSt}{w w':World}{v:AV}{c:Value}(h:VR M F w v c)(hs:Pln v):VR M' F' w' v c:=by
 induction h with
 | bool b=>exact .bool b
 | int k n=>exact .int k n
 | str s=>exact .str s
 | nilsl=>exact .nilsl
 | agg cs A hA va ih =>
  cases hs with
  | agg _ hs=>exact .agg _ _ hA (fun j h h'=>ih j h h' (hs _ (yaw _)))
 | tuple cs A hA va ih =>
  cases hs with
  | tuple _ hs=>exact .tuple _ _ hA (fun j h h'=>ih j h h' (hs _ (yaw _)))
 | _=>cases hs
end Go.Abs
namespace Go.Proofs.YtohfclafhegadaaGreatDoor
open Go Go.Abs
inductive StillI:AV→Prop
 | undef:StillI .undef
 | int (k:IntKind) (n:Int):StillI (.int k n)
 | str (s:List UInt8):StillI (.str s)
 | pv (b:Bool) (v:AV) (h:∀c∈v.cells,StillI c):StillI (.pv (.stat b) v)
 | iface (t:TypeId) (v:AV) (h:StillI v):StillI (.iface t v)
 | mp (ks vs:List AV):StillI (.mp ks vs)
end Go.Proofs.YtohfclafhegadaaGreatDoor
namespace Go.Abs
open Go Go.Abs
open Go.Proofs.YtohfclafhegadaaGreatDoor
theorem VR.stillI{M:Mp}{F:Nat→FSt}{w:World}{v:AV}{c:Value}(h:VR M F w v c){M':Mp}{F':Nat→FSt}(hr:∀B m,M.role B=some (.st m)→M'.role B=some (.st m))(hs:StillI v):VR M' F' w v c:=by
 induction h with
 | undef c=>exact .undef c
 | int k n=>exact .int k n
 | str s=>exact .str s
 | pv φ v B off cs hm hc hv ih =>
  cases hs with
  | pv b _ hs =>
  obtain⟨m,hm⟩:=hm
  exact .pv _ v B off cs ⟨m,hr B m hm⟩ (fun _=>hc trivial) (fun _ j hj=>ih trivial j hj (hs _ (yaw hj)))
 | iface t v c h ih =>
  cases hs with
  | iface _ _ hs=>exact .iface t _ _ (ih hs)
 | mp ks vs b es c h1 h2 h3=>exact .mp ks vs b es c (hr b false h1) h2 h3
 | _=>cases hs
end Go.Abs
namespace Go.Proofs.YtohfclafhegadaaGreatDoor
open Go Go.Abs
theorem zDy{P:Program}{G:Env}{M:Mp}{σ:AS}{w:World}(g:GOk P G M σ.F w)(hG:∀k,StillI (G.g k))(hy:∀l,¬G.has l):GOk P G (M.calm 1) AS.bare.F w where
 vars k:=(g.vars k).stillI (fun _ _ h=>zij h) (hG k)
 yields l hl:=absurd hl (hy l)
 fixed B cs hB:=by
  obtain⟨h1,h2⟩:=g.fixed B cs hB
  exact⟨zij h1,h2⟩
theorem zos{P:Program}{G:Env}{f:FuncId}{σ:AS}{R:Out→AS→Prop}{vs:List AV}{Q:AV→Prop}(hG:∀k,StillI (G.g k))(hy:∀l,¬G.has l)(hv:∀v∈vs,Cb σ.F v)(h:ACalls P G f (vs.map clm) AS.bare fun o _=>∃x,o=.ret x∧Pln x∧Q x)(hR:∀x,Q x→R (.ret x) σ):ACalls P G f vs σ R:=by
 intro M w cargs S g c
 refine(h (M.calm 1) w cargs S.calm (zDy g hG hy) ⟨by rw[ybb];exact c.1,fun j v hj=>?_⟩).mono fun e w' ⟨o,σ',M',⟨x,ho,hx,hq⟩,h2,h3,h4⟩=>?_
 ·rw[List.getElem?_map,ybB]at hj
  obtain⟨v0,h1,rfl⟩:=hj
  obtain⟨c0,e0,q0⟩:=c.2 j v0 h1
  exact⟨c0,e0,q0.clm (hv v0 (ycx h1))⟩
 ·subst ho
  refine⟨_,σ,M,hR x hq,?_,S.calmed h4,Ext.calm S h4⟩
  cases e<;>simp only[zbG]at h2 ⊢
  exact h2.pln hx
theorem zDz(w:W):clm w.av=w.av:=by simp[W.av,W.cs]
theorem zE2{F:Nat→FSt}(w:W):∀c∈w.av.cells,Cb F c:=by
 intro c hc
 simp only[W.av,W.cs,AV.cells,ybC,ycE,or_false]at hc
 rcases hc with rfl|rfl|rfl|rfl|rfl|rfl
 all_goals first|exact .int _ _|exact .str _
theorem zot{σ:AS}{v:AV}{l:List W}(h:Al.RepO σ v l):Cb σ.F v∧zpy (clm v) l:=by
 rcases h with ⟨rfl,rfl⟩|⟨φ,rfl,r⟩
 ·exact⟨.nilsl,.inl ⟨rfl,by simp⟩⟩
 ·refine⟨.sl _ _ _ r.read fun c hc=>?_,.inr ⟨φ.full,by simp[Function.comp_def,zDz]⟩⟩
  simp only[zy,ycA,yaV]at hc
  obtain⟨x,⟨w,_,rfl⟩,hx⟩:=hc
  exact zE2 w c hx
theorem zfJ{σ:AS}{v:AV}{l:List Int}(h:Al.IntsO σ v l):Cb σ.F v∧zbD (clm v) l:=by
 rcases h with ⟨rfl,rfl⟩|⟨φ,rfl,r⟩
 ·exact⟨.nilsl,.inl ⟨rfl,by simp⟩⟩
 ·refine⟨.sl _ _ _ r.read fun c hc=>?_,.inr ⟨φ.full,by simp[Function.comp_def]⟩⟩
  simp only[zy,ycA,yaV]at hc
  obtain⟨x,⟨w,_,rfl⟩,hx⟩:=hc
  simp only[AV.cells,ycF]at hx
  subst hx
  exact .int _ _
theorem ziN{α:Type}{Q Q':AV→α→Prop}{P:AV→Prop}(hq:∀v a,Q v a→P v∧Q' (clm v) a):∀{xs:List AV} {l:List α},All2 Q xs l→(∀x∈xs,P x)∧All2 Q' (xs.map clm) l
 | _,_,.nil=>⟨fun x h=>(by cases h),.nil⟩
 | _,_,.cons h hs=>by
  obtain⟨h1,h2⟩:=hq _ _ h
  obtain⟨h3,h4⟩:=ziN hq hs
  exact⟨fun x hx=>by
   rcases ybC.1 hx with rfl|hx
   ·exact h1
   ·exact h3 x hx,.cons h2 h4⟩
theorem zou{v:AV}(h:v.cells=[v]):∀c∈v.cells,c=v:=fun c hc=>by rw[h]at hc;simpa using hc
theorem zov{σ:AS}{v:AV}{l:To}(h:Al.LstO σ v l):Cb σ.F v∧zec (clm v) l:=by
 rcases h with ⟨rfl,rfl⟩|⟨φ,rows,rfl,r,k⟩
 ·exact⟨.nilsl,.inl ⟨rfl,by simp⟩⟩
 ·obtain⟨k1,k2⟩:=ziN (P:=fun v=>Cb σ.F v∧v.cells=[v]) (Q':=zpy) (fun v a q=>⟨⟨(zot q).1,q.one.2.2⟩,(zot q).2⟩) k
  refine⟨.sl _ _ _ r.read fun c hc=>?_,.inr ⟨φ.full,rows.map clm,by simp,k2⟩⟩
  simp only[zy,ycA]at hc
  obtain⟨x,hx,hc⟩:=hc
  rw[zou (k1 x hx).2 c hc]
  exact(k1 x hx).1
theorem zyU{σ:AS}{v:AV}{f:F}(h:Al.FVO σ v f):(∀c∈v.cells,Cb σ.F c)∧FV (clm v) f:=by
 obtain⟨pv,lv,tv,rfl,a,b,c⟩:=h
 refine⟨fun x hx=>?_,clm pv,clm lv,clm tv,by simp,(zfJ a).2,(zfJ b).2,(zov c).2⟩
 simp only[AV.cells,ybC,ycE,or_false]at hx
 rcases hx with rfl|rfl|rfl|rfl|rfl
 ·exact .str _
 ·exact(zfJ a).1
 ·exact(zfJ b).1
 ·exact .int _ _
 ·exact(zov c).1
theorem zyV{σ:AS}{v:AV}{m:M}(h:Al.MO σ v m):Cb σ.F v∧MV (clm v) m:=by
 obtain⟨fv,rfl,h⟩:=h
 have key:Cb σ.F fv∧FsV (clm fv) m.funcs:=by
  rcases h with ⟨h,rfl⟩|⟨φ,rows,rfl,r,k⟩
  ·exact⟨.nilsl,.inl ⟨h,by simp⟩⟩
  ·obtain⟨k1,k2⟩:=ziN (P:=fun v=>∀c∈v.cells,Cb σ.F c) (Q':=FV) (fun v a q=>zyU q) k
   refine⟨.sl _ _ _ r.read fun c hc=>?_,.inr ⟨φ.full,rows.map clm,by simp,k2⟩⟩
   simp only[zy,ycA]at hc
   obtain⟨x,hx,hc⟩:=hc
   exact k1 x hx c hc
 refine⟨.agg _ fun c hc=>?_,clm fv,by simp,key.2⟩
 simp only[ybC,ycE,or_false]at hc
 rcases hc with rfl|rfl|rfl
 ·exact key.1
 ·exact .int _ _
 ·exact .int _ _
section
variable {G : Env} {σ : AS} {R : Out → AS → Prop}
theorem zow{m:M}{mv:AV}(V:zk9 G)(hG:∀k,StillI (G.g k))(hy:∀l,¬G.has l)(hm:Al.MO σ mv m)(sm:zoo m)(h:R (.ret (.int .i64 (zmR (zbW m)))) σ):zzQ G 18 [mv] σ R:=by
 obtain⟨h1,h2⟩:=zyV hm
 refine zos (vs:=[mv]) (Q:=fun x=>x=.int .i64 (zmR (zbW m))) hG hy (fun v hv=>by simp at hv;subst hv;exact h1) ?_ fun x hx=>by rw[hx];exact h
 exact zlg V sm h2 fun σ' _=>⟨_,rfl,.int _ _,rfl⟩
end
@[simp] theorem zCc(t i k r):zeT t ((i,.tmp k)::r)=false:=by simp[zeT]
@[simp] theorem zCd(t i n r):zeT t ((i,.const (.int .i64 n))::r)=false:=by simp[zeT]
@[simp] theorem zCe(t i n r):zeT t ((i,.const (.string n))::r)=false:=by simp[zeT]
theorem zrk(f:BitVec 8→BitVec 8→BitVec 8)(a b:UInt8):zb5 .u8 f (a.toNat:Int) (b.toNat:Int)=((f a.toBitVec b.toBitVec).toNat:Int):=by
 have e1:BitVec.ofInt 8 (a.toNat:Int)=a.toBitVec:=by
  apply BitVec.eq_of_toNat_eq
  simp
 have e2:BitVec.ofInt 8 (b.toNat:Int)=b.toBitVec:=by
  apply BitVec.eq_of_toNat_eq
  simp
 show yb4 .u8 ((f (BitVec.ofInt 8 (a.toNat:Int)) (BitVec.ofInt 8 (b.toNat:Int))).toNat:Int)=_
 rw[e1,e2]
 have:=(f a.toBitVec b.toBitVec).isLt
 simp[yb4,yao,yap]
 omega
@[simp] theorem zE3(bs:List UInt8):(B bs).length=bs.length:=by simp[B]
end Go.Proofs.YtohfclafhegadaaGreatDoor



namespace Go.Proofs.YtohfclafhegadaaGreatDoor
open Go Go.Abs
def zl7:List UInt8:=[97,100,100,32,115,117,98,32,109,117,108,32,100,105,118,95,115,32,114,101,109,95,115,32,97,110,100,32,111,114,32,120,111,114,32,115,104,108,32,115,104,114,95,115,32,101,113,32,110,101,32,108,116,95,115,32,103,116,95,115,32,108,101,95,115,32,103,101,95,115]
def zjZ:List (List UInt8):=[[97,100,100],[115,117,98],[109,117,108],[100,105,118,95,115],[114,101,109,95,115],[97,110,100],[111,114],[120,111,114],[115,104,108],[115,104,114,95,115],[101,113],[110,101],[108,116,95,115],[103,116,95,115],[108,101,95,115],[103,101,95,115]]
def zdO(c:UInt8):Bool:=c==32||(9≤c&&c≤13)
def zdP:List AV:=(List.range 256).map fun c=>.int .u8 (if zdO (UInt8.ofNat c)then 1 else 0)
def pw(op ty n:Int):W:={ op:=op,ty:=ty,n:=n,body:=0,other:=0,name:=[] }
theorem zfK(c:UInt8):zdP[c.toNat]?=some (.int .u8 (if zdO c then 1 else 0)):=by
 have h:c.toNat<256:=c.toNat_lt
 have:∀k:Fin 256,zdP[k.1]?=some (.int .u8 (if zdO (UInt8.ofNat k.1)then 1 else 0)):=by
  intro k;simp[zdP]
 have:=this ⟨c.toNat,h⟩
 simpa using this
def fC(L:List UInt8):Nat→Nat × Bool × UInt8
 | 0=>(0,true,0)
 | i+1=>let c:=L.getD i 0;let p:=fC L i;(p.1+(if p.2.1&&!zdO c then 1 else 0),zdO c,p.2.2 ||| c)
def fS(L:List UInt8):Nat→Nat × Nat
 | 0=>(0,0)
 | i+1=>if zdO (L.getD i 0)then(i+1,(fS L i).2+1)else fS L i
theorem zrl(L:List UInt8):∀k,(fC L k).1≤k:=by
 intro k
 induction k with
 | zero=>simp[fC]
 | succ k ih=>simp only[fC];split<;>omega
def zbZ(T:List (List UInt8))(k:Nat):List AV:=(T.take k).map ycr++yaj (T.length-k) (.str [])
structure zrm(L:List UInt8)(T:List (List UInt8))(e:Nat):Prop where
 len:L.length≤1000
 tl:T.length≤1000
 fact:∀i:Fin L.length,(zdO (L.getD i 0)=true→T[(fS L i).2]?=some ((L.take i).drop (fS L i).1)∧(fS L i).2<T.length∧(fS L i).1≤i∧i.1+1<L.length∧zdO (L.getD (i.1+1) 0)=false∧fS L (i.1+1)=(i.1+1,(fS L i).2+1))∧(zdO (L.getD i 0)=false→fS L (i.1+1)=fS L i)
 cnt:fC L L.length=(T.length,false,(fC L L.length).2.2)
 low:(fC L L.length).2.2.toNat<128
 head:∃c r,L=c::r∧zdO c=false
 fin:fS L L.length=(e,T.length-1)
 lt:e<L.length
 last:T[T.length-1]?=some (L.drop e)
theorem zgu{T:List (List UInt8)}{k:Nat}{b:List UInt8}(h:T[k]?=some b):splice (zbZ T k) k [.str b]=zbZ T (k+1):=by
 have hk:=(yaq.1 h).1
 have ht:=zoi h
 have hA:((T.take k).map ycr).length=k:=by simp;omega
 unfold splice zbZ
 rw[List.take_left' hA,ht,List.map_append]
 have e:T.length-k=(T.length-(k+1))+1:=by omega
 have hd:((T.take k).map ycr++yaj (T.length-k) (ycr [])).drop (k+[ycr b].length)=yaj (T.length-(k+1)) (ycr []):=by
  rw[List.drop_append,ycG (by rw[hA];simp),hA,e]
  simp
 rw[hd]
 simp
theorem zm3{T:List (List UInt8)}(hT:T.length≤1000){σ:AS}{K:AV→AS→Prop}:zmD yb9 22 (.int .i64 (T.length:Int)) (.int .i64 (T.length:Int)) σ K=K (.slm σ.no 0 1 T.length) (σ.newO (zbZ T 0)):=by
 have e1:zbz yb9 22=some 1:=by kernel_rfl
 have e2:za2 yb9 22=some 16:=by kernel_rfl
 have e3:zaz yb9 22=some (.str []):=by kernel_rfl
 have e5:zy (yaj T.length (ycr []))=yaj T.length (ycr []):=by
  generalize T.length=n
  induction n with
  | zero=>rfl
  | succ n ih=>simp only[zy,ycD,yaa]at *;rw[ih];rfl
 simp[zmD,e1,e2,e3,AV.cells,AV.known,e5,zbZ]
 exact⟨fun q=>q.2.2,fun q=>⟨by omega,by omega,q⟩⟩
section
variable {G : Env} {σ : AS} {R : Out → AS → Prop}
def F1(L:List UInt8)(σ:AS)(a:Nat→AV)(τ:AS):Prop:=∃i:Nat,i≤L.length∧a 0=.str L∧a 3=.int .i64 ((fC L i).1:Nat)∧a 4=.int .i64 (if(fC L i).2.1 then 1 else 0)∧a 5=.int .u8 ((fC L i).2.2.toNat:Nat)∧a 6=.int .i64 (i:Nat)∧τ=σ
def F4(L:List UInt8)(T:List (List UInt8))(σ:AS)(x:Nat)(a:Nat→AV)(τ:AS):Prop:=∃i:Nat,i≤L.length∧a 0=.str L∧a 9=.slm x 0 1 T.length∧a 10=.int .i64 ((fS L i).2:Nat)∧a 11=.int .i64 ((fS L i).1:Nat)∧a 12=.int .i64 (i:Nat)∧zg σ τ∧x<τ.no∧τ.objs x=some (zbZ T (fS L i).2)
theorem zeL{L:List UInt8}{T:List (List UInt8)}{e:Nat}(hok:zrm L T e)(v3:G.g 0=.pv (.stat true) (.agg zdP))(h:∀x σ',zg σ σ'→σ.no≤x→x<σ'.no→σ'.objs x=some (T.map ycr)→R (.ret (.slm x 0 1 T.length)) σ'):zzQ G 57 [.str L] σ R:=by
 refine ztR rfl ?_
 have hL:=hok.len
 have hT:=hok.tl
 simp[zD6]
 refine zae (F1 L σ) (MU 6 (L.length+1)) ⟨0,by omega,by simp,by simp[fC],by simp[fC],by simp[fC],by simp,rfl⟩ fun a τ hI=>?_
 obtain⟨i,hi,a0,a3,a4,a5,a6,rfl⟩:=hI
 by_cases hlt:i<L.length
 ·have hlt':(i:Int)<(L.length:Int):=by omega
  have hg:=yau hlt
  have hf:fC L (i+1)=((fC L i).1+(if(fC L i).2.1&&!zdO L[i]then 1 else 0),zdO L[i],(fC L i).2.2 ||| L[i]):=by simp[fC,hg]
  have hn:=zrl L i
  generalize L[i]=c at *
  have hs:=zfK c
  have w1:yb4 .i64 ((i:Int)+1)=((i+1:Nat):Int):=by rw[wrap_i64]<;>omega
  have w0:∀b:UInt8,zb5 .u8 (· ||| ·) (b.toNat:Int) (c.toNat:Int)=((b ||| c).toNat:Int):=fun b=>zrk (· ||| ·) b c
  have c1:(c.toNat:Int)<256:=by have:=c.toNat_lt;omega
  generalize fC L i=p at *
  obtain⟨n,ws,b⟩:=p
  have w2:yb4 .i64 ((n:Int)+1)=((n+1:Nat):Int):=by rw[wrap_i64]<;>omega
  have w3:yb4 .i64 (n:Int)=(n:Int):=by rw[wrap_i64]<;>omega
  have w4:yb4 .i64 0=0:=rfl
  have w5:yb4 .i64 1=1:=rfl
  have z0:zb5 .i64 (· ^^^ ·) (-1) 0=-1:=by decide
  have z1:zb5 .i64 (· ^^^ ·) (-1) 1=-2:=by decide
  have z2:zb5 .i64 (· &&& ·) 1 (-1)=1:=by decide
  have z3:zb5 .i64 (· &&& ·) 1 (-2)=0:=by decide
  have z4:zb5 .i64 (· &&& ·) 0 (-1)=0:=by decide
  have z5:zb5 .i64 (· &&& ·) 0 (-2)=0:=by decide
  have z6:yao .i64=true:=rfl
  cases hsp:zdO c<;>cases ws<;>simp only[hsp,if_true,if_false,Bool.false_eq_true]at hs hf a4 ⊢<;>simp at hn a3 a5<;>simp[zkT,a0,a3,a4,a5,a6,hlt',hg,v3,hs,c1,w0,w1,w2,w3,w4,w5,z0,z1,z2,z3,z4,z5,z6,-UInt8.toNat_or]<;>refine⟨⟨i+1,by omega,by simp[a0],by simp[hf],by simp[hf,hsp],by simp[hf],by simp,rfl⟩,?_⟩<;>simp only[MU,a6]<;>simp<;>omega
 ·have hie:i=L.length:=by omega
  subst hie
  have e1:=hok.cnt
  have e2:¬(128:Int)≤((fC L L.length).2.2.toNat:Nat):=by have:=hok.low;omega
  rw[e1]at a3 a4 a5
  simp[zkT,zn8,a0,a3,a4,a5,a6,e2,zm3 hT]
  refine zae (fun a2 τ2=>a2 0=.str L∧a2 9=.slm τ.no 0 1 T.length∧a2 10=.int .i64 0∧a2 12=.int .i64 0∧τ2=τ.newO (zbZ T 0)) (fun _ _=>0) ⟨by simp[a0],by simp,by simp,by simp,rfl⟩ fun a2 τ2 hI2=>?_
  obtain⟨b0,b9,b10,b12,rfl⟩:=hI2
  obtain⟨q0,r0,hLc,hsp0⟩:=hok.head
  have w5:0<L.length:=by rw[hLc];simp
  have g0:L[0]'w5=q0:=by simp[hLc]
  have t0:=zfK q0
  rw[hsp0]at t0
  have q256:(q0.toNat:Int)<256:=by have:=q0.toNat_lt;omega
  simp at t0
  simp[zn3,zn7,b0,b9,b10,b12,g0,t0,v3,w5,q256]
  refine zae (F4 L T τ τ.no) (MU 12 (L.length+1)) ⟨0,by omega,by simp[b0],by simp[b9],by simp[b10,fS],by simp[fS],by simp[b12],(zg.refl τ).newO,by simp,by simp[fS]⟩ fun a3 τ3 hI3=>?_
  obtain⟨i,hi,c0,c9,c10,c11,c12,hA,hx,ho⟩:=hI3
  by_cases hlt:i<L.length
  ·have hlt':(i:Int)<(L.length:Int):=by omega
   have hg:=yau hlt
   obtain⟨f1,f2⟩:=hok.fact ⟨i,hlt⟩
   have hgd:L.getD i 0=L[i]:=by simp[hg]
   simp only[hgd]at f1 f2
   have w1:yb4 .i64 ((i:Int)+1)=((i+1:Nat):Int):=by rw[wrap_i64]<;>omega
   generalize L[i]=c at *
   have hs:=zfK c
   have c1:(c.toNat:Int)<256:=by have:=c.toNat_lt;omega
   cases hsp:zdO c with
   | false =>
    rw[hsp]at hs
    have f2:=f2 hsp
    simp at hs
    simp[ziq,c0,c9,c10,c11,c12,hlt',hg,v3,hs,c1,w1]
    refine⟨⟨i+1,by omega,by simp[c0],by simp[c9],by simp[c10,f2],by simp[c11,f2],by simp,hA,hx,by simp[ho,f2]⟩,?_⟩
    simp only[MU,c12];simp;omega
   | true =>
    rw[hsp]at hs
    obtain⟨g1,g2,g3,g4,g5,g6⟩:=f1 hsp
    simp at hs
    simp[ziq,c0,c9,c10,c11,c12,hlt',hg,v3,hs,c1,w1,ho]
    have hlen:(zbZ T (fS L i).2).length=T.length:=by
     simp only[zbZ,yab,ybb,ybf,yba]
     omega
    refine⟨g3,by omega,by omega,by omega,?_⟩
    refine zae (fun b τ4=>b 0=.str L∧b 9=.slm τ.no 0 1 T.length∧b 10=.int .i64 (((fS L i).2+1:Nat):Int)∧b 12=.int .i64 ((i+1:Nat):Int)∧zg τ τ4∧τ.no<τ4.no∧τ4.objs τ.no=some (zbZ T ((fS L i).2+1))) (fun _ _=>0) ⟨by simp[c0],by simp[c9],by simp;rw[wrap_i64]<;>omega,by simp,hA.setO (by omega),by simp;exact hx,by simp;exact zgu g1⟩ fun b τ4 hI4=>?_
    obtain⟨d0,d9,d10,d12,hA4,hx4,ho4⟩:=hI4
    have hlt2:(((i+1:Nat):Int))<(L.length:Int):=by omega
    have hlt3:i+1<L.length:=by omega
    have hg2:=yau hlt3
    have hgd2:L.getD (i+1) 0=L[i+1]:=by simp[hg2]
    simp only[hgd2]at g5
    generalize L[i+1]=c' at *
    have hs2:=zfK c'
    rw[g5]at hs2
    have c1':(c'.toNat:Int)<256:=by have:=c'.toNat_lt;omega
    simp at hs2
    simp only[Int.natCast_add,Int.natCast_one]at d12 hlt2
    simp[zn4,zn5,d0,d9,d10,d12,hlt2,hg2,v3,hs2,c1']
    refine⟨by omega,⟨i+1,by omega,by simp[d0],by simp[d9],by simp[d10,g6],by simp[g6],by simp[d12],hA4,hx4,by simp[ho4,g6]⟩,?_⟩
    simp only[MU,c12];simp[d12];omega
  ·have hie:i=L.length:=by omega
   subst hie
   have e3:=hok.fin
   have hlast:=hok.last
   obtain⟨n,hn⟩:∃n,T.length=n+1:=⟨T.length-1,by have:=(yaq.1 hlast).1;omega⟩
   have e4:T.length-1=n:=by omega
   rw[e4]at e3 hlast
   rw[e3]at c10 c11 ho
   have w7:=hok.lt
   have w6:(e:Int)<(L.length:Int):=by omega
   have hnT:n<T.length:=by omega
   have hnTi:(n:Int)<(T.length:Int):=by omega
   simp at c10 c11 ho
   simp[ziq,zn6,c0,c9,c10,c11,c12,ho,w6,w7,hnT,hnTi]
   have hlen:(zbZ T n).length=T.length:=by
    simp only[zbZ,yab,ybb,ybf,yba]
    omega
   refine⟨by omega,by omega,?_⟩
   rw[zgu hlast]
   refine h τ.no _ (hA.setO (by omega)) (by omega) (by simpa using hx) ?_
   simp[zbZ,←hn]
theorem zuo:zrm zl7 zjZ 66:=⟨by decide,by decide,by decide,by decide,by decide,⟨97,_,rfl,by decide⟩,by decide,by decide,by decide⟩
theorem fields_calls(v3:G.g 0=.pv (.stat true) (.agg zdP))(h:∀x σ',zg σ σ'→σ.no≤x→x<σ'.no→σ'.objs x=some (zjZ.map ycr)→R (.ret (.slm x 0 1 16)) σ'):zzQ G 57 [.str zl7] σ R:=zeL zuo v3 h
end
end Go.Proofs.YtohfclafhegadaaGreatDoor



namespace Go.Proofs.YtohfclafhegadaaGreatDoor
open Go Go.Abs
def zdQ(w:W):Bool:=decide (w.op=11)||decide (w.op=12)||decide (w.op=13)
end Go.Proofs.YtohfclafhegadaaGreatDoor








namespace Go.Proofs.YtohfclafhegadaaGreatDoor
open Go Go.Abs
theorem RepO.len{σ:AS}{v:AV}{l:List W}(h:Al.RepO σ v l)(K:AV→Prop):zgT yb9 54 v K=K (.int .i64 (l.length:Int)):=by
 rcases h with ⟨rfl,rfl⟩|⟨b,rfl,_⟩<;>simp
theorem RepO.at{σ:AS}{v:AV}{l:List W}(h:Al.RepO σ v l){i:Nat}(hi:i<l.length):∃φ,Al.Rd σ φ∧∀K:AV→Prop,zq yb9 54 v (.int .i64 (i:Int)) K=K (.pv φ l[i].av):=by
 rcases h with ⟨rfl,_⟩|⟨φ,rfl,r⟩
 ·simp at hi
 ·exact⟨φ,r,fun K=>by simp[hi]⟩
def RgW(w:W):Prop:=-(2^63)≤w.n∧w.n<2^63
def RgL(ls:To):Prop:=∀ws∈ls,∀w∈ws,RgW w
section
variable {G : Env} {σ : AS} {R : Out → AS → Prop}
end
end Go.Proofs.YtohfclafhegadaaGreatDoor



namespace Go.Proofs.YtohfclafhegadaaGreatDoor
open Go Go.Abs
theorem zhe{ls:To}{k:Nat}(h:k<ls.length):zfr id (ls.take (k+1))=zfr id (ls.take k)+ls[k].length:=by
 rw[ycp h,zgq]
 simp[zfr]
theorem zm4{ls:To}{B:Nat}(h:∀l∈ls,l.length≤B):zfr id ls≤ls.length*B:=by
 induction ls with
 | nil=>simp[zfr]
 | cons l ls ih =>
  have h1:=h l (by simp)
  have h2:=ih fun x hx=>h x (by simp[hx])
  simp only[zfr,yaL,ycl,yac,id]at h2 ⊢
  rw[Nat.add_mul];omega
theorem zeM:∀{l:List (List UInt8 × List UInt8)} {s:List UInt8},zbf l s≠[]→s∈l.map (·.1)
 | [],s,h=>by simp[zbf]at h
 | (x,y)::r,s,h=>by
  rw[zbf]at h
  split at h
  ·rename_i e;simp[e]
  ·simp only[yaL,ybC];exact .inr (zeM h)
abbrev Tok:=List UInt8
def zF(w:W):Tok :=
 if w.op=1 then zw w.ty++[46,99,111,110,115,116]else if w.op=2 then [108,111,99,97,108,46,103,101,116]else if w.op=3 then [108,111,99,97,108,46,115,101,116]else if w.op=10 then [99,97,108,108]else if w.op=14 then [98,114]else if w.op=15 then [98,114,95,105,102]
 else if w.op=4 then zw w.ty++46::w.name else if w.op=5 then zw w.ty++[46,101,113,122]else if w.op=6 then [105,51,50,46,119,114,97,112,95,105,54,52]else if w.op=7 then [105,54,52,46,101,120,116,101,110,100,95,105,51,50,95,115]
 else if w.op=8 then zw w.ty++(if w.n=1 then [46,108,111,97,100,56,95,115]else [46,108,111,97,100])else if w.op=9 then zw w.ty++(if w.n=1 then [46,115,116,111,114,101,56]else [46,115,116,111,114,101])
 else if w.op=16 then [114,101,116,117,114,110]else if w.op=17 then [117,110,114,101,97,99,104,97,98,108,101]else [100,114,111,112]
def za8(w:W):Bool:=decide (w.op=1)||decide (w.op=2)||decide (w.op=3)||decide (w.op=10)||decide (w.op=14)||decide (w.op=15)
def zdR(w:W):List Tok:=if za8 w=true then [zF w,Lib.itoa w.n]else [zF w]
def ziO(w:W):W :=
 { op:=w.op,ty:=if w.op=1∨w.op=4∨w.op=5∨w.op=8∨w.op=9 then w.ty else 0,n:=if za8 w=true∨w.op=8∨w.op=9 then w.n else 0,body:=0,other:=0,name:=if w.op=4 then w.name else [] }
def zj0(op b o:Int):W:={ op:=op,ty:=0,n:=0,body:=b,other:=o,name:=[] }
def zaH(op:Int):Tok:=if op=11 then zhC else if op=12 then zmS else tIf
inductive PrB(B:Nat)(ls:To):Nat→List W→To→List Tok→List W→To→Prop
 | nil (d acc):PrB B ls d [] acc [] [] acc
 | leaf {d w r acc t r' acc'}:zdQ w=false→zce w=true→RgW w→PrB B ls d r acc t r' acc'→PrB B ls d (w::r) acc (zdR w++t) (ziO w::r') acc'
 | one {d w b r acc tb b' acc1 t r' acc'}:(w.op=11∨w.op=12∨w.op=13∧w.other<0)→d<B→0≤w.body→ls[w.body.toNat]?=some b→PrB B ls (d+1) b acc tb b' acc1→PrB B ls d r (acc1++[b']) t r' acc' →
   PrB B ls d (w::r) acc (zaH w.op::(tb++zbO::t)) (zj0 w.op acc1.length (if w.op=13 then -1 else 0)::r') acc'
 | two {d w b e r acc tb b' acc1 te e' acc2 t r' acc'}:w.op=13→0≤w.other→d<B→0≤w.body→ls[w.body.toNat]?=some b→ls[w.other.toNat]?=some e→PrB B ls (d+1) b acc tb b' acc1→PrB B ls (d+1) e (acc1++[b']) te e' acc2→PrB B ls d r (acc2++[e']) t r' acc' →
   PrB B ls d (w::r) acc (tIf::(tb++za7::(te++zbO::t))) (zj0 13 acc1.length acc2.length::r') acc'
abbrev Pr:=PrB 400
def zyW:List Tok:=[[34,101,110,118,34],[34,105,110,34],[34,111,117,116,34],[34,116,114,97,112,34],[34,109,97,105,110,34]]
def zb0(t:Tok):Bool:=(!t.isEmpty&&t.all fun c=>!zaF c)||((t==zu||t==zf)||zyW.contains t)
def zp:List Tok→List UInt8
 | []=>[10]
 | t::r=>32::(t++zp r)
theorem zm5(ts:List Tok):∃c r,zp ts=c::r∧zk5 c=true∧zaF c=true:=by
 cases ts with
 | nil=>exact⟨10,[],rfl,by decide,by decide⟩
 | cons t r=>exact⟨32,_,rfl,by decide,by decide⟩
theorem zdg{c:UInt8}(h:zk5 c=true)(r:List UInt8):zcz (c::r)=zcz r:=by
 unfold zcz
 rw[ycH,if_pos h]
theorem zrn{c:UInt8}(h:zaF c=false):zk5 c=false∧c≠40∧c≠41∧c≠34:=by
 simp only[zaF,zk5,ycI,ycJ,Bool.or_false,Bool.or_eq_false_iff,beq_eq_false_iff_ne,ne_eq]at h ⊢
 exact⟨⟨h.1,h.2.1⟩,h.2.2.1,h.2.2.2.1,h.2.2.2.2⟩
theorem zox{t:List UInt8}(h:∀c∈t,zaF c=false){c:UInt8}(hc:zaF c=true)(r:List UInt8):(t++c::r).takeWhile (fun x=>!zaF x)=t∧(t++c::r).dropWhile (fun x=>!zaF x)=c::r:=by
 induction t with
 | nil=>simp[hc]
 | cons x t ih =>
  have hx:=h x (by simp)
  obtain⟨i1,i2⟩:=ih fun c hc=>h c (by simp[hc])
  simp[hx,i1,i2]
theorem zdh{t:Tok}(h:zb0 t=true)(ts:List Tok):zcz (t++zp ts)=some (t,zp ts):=by
 obtain⟨c,r,e,h1,h2⟩:=zm5 ts
 rw[e]
 unfold zb0 at h
 rw[Bool.or_eq_true]at h
 rcases h with h|h
 ·rw[Bool.and_eq_true]at h
  cases t with
  | nil=>simp at h
  | cons x t =>
   have ha:∀y∈x::t,zaF y=false:=fun y hy=>by
    have:=yaM.1 h.2 y hy
    simpa using this
   obtain⟨s1,s2,s3,s4⟩:=zrn (ha x (by simp))
   obtain⟨k1,k2⟩:=zox (t:=t) (fun c hc=>ha c (by simp[hc])) h2 r
   unfold zcz
   rw[yct,ycH,if_neg (by simp[s1])]
   simp only
   rw[if_neg (by simp[s2,s3]),if_neg s4,k1,k2]
 ·rw[Bool.or_eq_true,Bool.or_eq_true,beq_iff_eq,beq_iff_eq,List.contains_iff_mem]at h
  rcases h with (rfl|rfl)|h
  ·rfl
  ·rfl
  ·simp only[zyW,ybC,ycE,or_false]at h
   rcases h with rfl|rfl|rfl|rfl|rfl<;>rfl
theorem zaO{t:Tok}(h:zb0 t=true)(ts:List Tok)(ls:To):zaG ⟨zp (t::ts),ls⟩=.ok (t,⟨zp ts,ls⟩):=by
 have e:zcz (zp (t::ts))=some (t,zp ts):=by
  show zcz (32::(t++zp ts))=_
  rw[zdg (by decide),zdh h]
 simp only[zaG,e]
theorem zhF{c:UInt8}(h:zE c=true):zaF c=false:=by
 simp only[zE,Bool.and_eq_true,decide_eq_true_eq]at h
 simp only[zaF,ycI,ycJ,Bool.or_false,Bool.or_eq_false_iff,beq_eq_false_iff_ne,ne_eq]
 refine⟨?_,?_,?_,?_,?_⟩<;>(rintro rfl;simp at h)
theorem zm6(n:Int):zb0 (Lib.itoa n)=true:=by
 have h1:∀u,((Lib.decDigits u).all fun c=>!zaF c)=true:=fun u=>by
  rw[yaM]
  intro c hc
  have:=yaM.1 (zeH u) c hc
  simp[zhF this]
 have h2:∀u,(Lib.decDigits u).isEmpty=false:=fun u=>by
  have:=zgm u
  cases h:Lib.decDigits u<;>simp_all
 unfold Lib.itoa zb0
 split
 ·have h3:zaF 45=false:=by decide
  simp[h1,h3]
 ·rw[h1,h2];rfl
theorem zcZ{n:Int}(h:-(2^63)≤n∧n<2^63)(ts:List Tok)(ls:To):zU ⟨zp (Lib.itoa n::ts),ls⟩=.ok (n,⟨zp ts,ls⟩):=by
 unfold zU
 rw[zaO (zm6 n)]
 simp only[Except.bind,zog h,Except.map]
def zm7(t:Tok):Bool:=zb0 t&&(decide (zaM t=0)&&(!(t==zbO)&&(!(t==zf)&&(!(t==za7)&&!(t==zu)))))
theorem zl8:∀s∈signs.map (·.1),∀t∈[1,2],(zm7 (zw t++46::s)=true∧zA zch (zw t++46::s)=none∧zA zfq (zw t++46::s)=some { op:=4,ty:=t,n:=0,body:=0,other:=0,name:=s }):=by decide
theorem zl9{t:Tok}(h:zm7 t=true)(d:Nat)(o:Bool):zb0 t=true∧zaM t=0∧zdp d o t=false:=by
 simp only[zm7,Bool.and_eq_true,decide_eq_true_eq,Bool.not_eq_true',beq_eq_false_iff_ne,ne_eq]at h
 obtain⟨h1,h2,h3,h4,h5,_⟩:=h
 exact⟨h1,h2,by simp[zdp,h3,h4,h5]⟩
def zgv(op ty:Int):W:={ op:=op,ty:=ty,n:=0,body:=0,other:=0,name:=[] }
theorem zoy{t:Tok}(h:zm7 t=true):t≠zu:=by
 simp only[zm7,Bool.and_eq_true,decide_eq_true_eq,Bool.not_eq_true',beq_eq_false_iff_ne,ne_eq]at h
 exact h.2.2.2.2.2
theorem zZ{t:Tok}{w:W}(h1:zA zch t=none)(h2:zA zfq t=some w)(s:Ts):zci t s=.ok (w,s):=by
 unfold zci
 rw[h1]
 simp only[h2]
theorem zbv{t:Tok}{w:W}{n:Int}(h1:zA zch t=some w)(hn:-(2^63)≤n∧n<2^63)(ts:List Tok)(ls:To):zci t ⟨zp (Lib.itoa n::ts),ls⟩=.ok ({ w with n:=n },⟨zp ts,ls⟩):=by
 unfold zci
 rw[h1]
 simp only[zcZ hn,Except.map]
theorem zj1{w:W}(hf:zce w=true)(hn:zdQ w=false)(hr:RgW w):∃t r,zdR w=t::r∧zm7 t=true∧∀(ts:List Tok) (ls:To),zci t ⟨zp (r++ts),ls⟩=.ok (ziO w,⟨zp ts,ls⟩):=by
 obtain⟨op,ty,n,body,other,name⟩:=w
 simp only[zdQ,Bool.or_eq_false_iff,decide_eq_false_iff_not]at hn
 unfold zce at hf
 simp only at hf
 by_cases h1:op=1∨op=5
 ·rw[if_pos h1]at hf
  simp only[zab,Bool.or_eq_true,decide_eq_true_eq]at hf
  rcases h1 with rfl|rfl<;>rcases hf with rfl|rfl
  ·exact⟨[105,51,50,46,99,111,110,115,116],[Lib.itoa n],rfl,by decide,fun ts ls=>zbv (t:=[105,51,50,46,99,111,110,115,116]) (w:=zgv 1 1) (by decide) hr ts ls⟩
  ·exact⟨[105,54,52,46,99,111,110,115,116],[Lib.itoa n],rfl,by decide,fun ts ls=>zbv (t:=[105,54,52,46,99,111,110,115,116]) (w:=zgv 1 2) (by decide) hr ts ls⟩
  ·exact⟨[105,51,50,46,101,113,122],[],rfl,by decide,fun ts ls=>zZ (by rfl) (by rfl) _⟩
  ·exact⟨[105,54,52,46,101,113,122],[],rfl,by decide,fun ts ls=>zZ (by rfl) (by rfl) _⟩
 ·rw[if_neg h1]at hf
  by_cases h4:op=4
  ·subst h4
   rw[if_pos rfl]at hf
   simp only[Bool.and_eq_true,Bool.not_eq_true',beq_eq_false_iff_ne,ne_eq,zab,Bool.or_eq_true,decide_eq_true_eq]at hf
   obtain⟨a1,a2,a3⟩:=zl8 name (zeM hf.2) ty (by simpa using hf.1)
   exact⟨_,_,rfl,a1,fun ts ls=>zZ a2 a3 _⟩
  ·rw[if_neg h4]at hf
   by_cases h8:op=8∨op=9
   ·rw[if_pos h8]at hf
    simp only[zhB,Bool.or_eq_true,Bool.and_eq_true,decide_eq_true_eq]at hf
    rcases h8 with rfl|rfl<;>rcases hf with ⟨rfl,rfl|rfl⟩|⟨rfl,rfl⟩
    ·exact⟨[105,51,50,46,108,111,97,100,56,95,115],[],rfl,by decide,fun ts ls=>zZ (by rfl) (by rfl) _⟩
    ·exact⟨[105,51,50,46,108,111,97,100],[],rfl,by decide,fun ts ls=>zZ (by rfl) (by rfl) _⟩
    ·exact⟨[105,54,52,46,108,111,97,100],[],rfl,by decide,fun ts ls=>zZ (by rfl) (by rfl) _⟩
    ·exact⟨[105,51,50,46,115,116,111,114,101,56],[],rfl,by decide,fun ts ls=>zZ (by rfl) (by rfl) _⟩
    ·exact⟨[105,51,50,46,115,116,111,114,101],[],rfl,by decide,fun ts ls=>zZ (by rfl) (by rfl) _⟩
    ·exact⟨[105,54,52,46,115,116,111,114,101],[],rfl,by decide,fun ts ls=>zZ (by rfl) (by rfl) _⟩
   ·rw[if_neg h8]at hf
    simp only[Bool.and_eq_true,decide_eq_true_eq]at hf
    rcases(show op=2∨op=3∨op=10∨op=14∨op=15∨op=6∨op=7∨op=16∨op=17∨op=18 by omega)with rfl|rfl|rfl|rfl|rfl|rfl|rfl|rfl|rfl|rfl
    ·exact⟨[108,111,99,97,108,46,103,101,116],[Lib.itoa n],rfl,by decide,fun ts ls=>zbv (t:=[108,111,99,97,108,46,103,101,116]) (w:=zgv 2 0) (by decide) hr ts ls⟩
    ·exact⟨[108,111,99,97,108,46,115,101,116],[Lib.itoa n],rfl,by decide,fun ts ls=>zbv (t:=[108,111,99,97,108,46,115,101,116]) (w:=zgv 3 0) (by decide) hr ts ls⟩
    ·exact⟨[99,97,108,108],[Lib.itoa n],rfl,by decide,fun ts ls=>zbv (t:=[99,97,108,108]) (w:=zgv 10 0) (by decide) hr ts ls⟩
    ·exact⟨[98,114],[Lib.itoa n],rfl,by decide,fun ts ls=>zbv (t:=[98,114]) (w:=zgv 14 0) (by decide) hr ts ls⟩
    ·exact⟨[98,114,95,105,102],[Lib.itoa n],rfl,by decide,fun ts ls=>zbv (t:=[98,114,95,105,102]) (w:=zgv 15 0) (by decide) hr ts ls⟩
    ·exact⟨[105,51,50,46,119,114,97,112,95,105,54,52],[],rfl,by decide,fun ts ls=>zZ (by rfl) (by rfl) _⟩
    ·exact⟨[105,54,52,46,101,120,116,101,110,100,95,105,51,50,95,115],[],rfl,by decide,fun ts ls=>zZ (by rfl) (by rfl) _⟩
    ·exact⟨[114,101,116,117,114,110],[],rfl,by decide,fun ts ls=>zZ (by rfl) (by rfl) _⟩
    ·exact⟨[117,110,114,101,97,99,104,97,98,108,101],[],rfl,by decide,fun ts ls=>zZ (by rfl) (by rfl) _⟩
    ·exact⟨[100,114,111,112],[],rfl,by decide,fun ts ls=>zZ (by rfl) (by rfl) _⟩
theorem ziP{op:Int}(h:op=11∨op=12∨op=13)(d:Nat)(o:Bool):zb0 (zaH op)=true∧zaM (zaH op)=op∧zdp d o (zaH op)=false:=by
 rcases h with rfl|rfl|rfl
 ·exact⟨by decide,by decide,by simp[zdp,zaH,zhC,zbO,zf,za7]⟩
 ·exact⟨by decide,by decide,by simp[zdp,zaH,zmS,zbO,zf,za7]⟩
 ·exact⟨by decide,by decide,by simp[zdp,zaH,tIf,zbO,zf,za7]⟩
theorem zoz{ls:To}{d:Nat}{ws:List W}{acc acc':To}{toks:List Tok}{out:List W}(h:Pr ls d ws acc toks out acc'):∀(k:Nat) (o:Bool) (l:List W) (e:Tok) (rest:List Tok),toks.length<k→zb0 e=true→zdp d o e=true →
  zI k d o l ⟨zp (toks++e::rest),acc⟩=.ok (((acc'.length:Int),e),⟨zp rest,acc'++[l++out]⟩):=by
 induction h with
 | nil d acc =>
  intro k o l e rest hk he hd
  obtain⟨k,rfl⟩:∃j,k=j+1:=⟨k-1,by simp at hk;omega⟩
  rw[zI,ycK,zaO he]
  simp only[Except.bind]
  rw[if_pos hd,yb7]
 | @leaf d w r acc t r' acc' hn hf hr _ ih =>
  intro k o l e rest hk he hd
  obtain⟨u,z,e1,e2,e3⟩:=zj1 hf hn hr
  rw[e1]at hk ⊢
  simp only[yct,ycL,yac,yab]at hk ⊢
  obtain⟨k,rfl⟩:∃j,k=j+1:=⟨k-1,by omega⟩
  obtain⟨q1,q2,q3⟩:=zl9 e2 d o
  rw[zI,zaO q1]
  simp only[Except.bind]
  rw[if_neg (by simp[q3]),za0,if_pos q2,e3]
  simp only
  rw[ih k o (l++[ziO w]) e rest (by omega) he hd]
  simp
 | @one d w b r acc tb b' acc1 t r' acc' ho hd4 hb0 hb _ _ ih1 ih2 =>
  intro k o l e rest hk he hd
  simp only[yct,ycL,yac,yab]at hk ⊢
  obtain⟨k,rfl⟩:∃j,k=j+1:=⟨k-1,by omega⟩
  have ho':w.op=11∨w.op=12∨w.op=13:=by omega
  obtain⟨q1,q2,q3⟩:=ziP ho' d o
  rw[zI,zaO q1]
  simp only[Except.bind]
  rw[if_neg (by simp[q3]),za0,q2,if_neg (by omega),zap,if_neg (by omega)]
  rw[ih1 k (decide (w.op=13)) [] zbO (t++e::rest) (by omega) (by decide) (by simp[zdp])]
  simp only[Except.bind]
  by_cases h13:w.op=13
  ·rw[if_pos h13,if_neg (by decide)]
   simp only[ycK]
   have:=ih2 k o (l++[zj0 w.op acc1.length (if w.op=13 then -1 else 0)]) e rest (by omega) he hd
   rw[if_pos h13,h13]at this
   rw[if_pos h13,h13]
   simp only[zj0,ycL,yct,ycK]at this ⊢
   exact this
  ·rw[if_neg h13]
   simp only[ycK]
   have:=ih2 k o (l++[zj0 w.op acc1.length (if w.op=13 then -1 else 0)]) e rest (by omega) he hd
   rw[if_neg h13]at this
   rw[if_neg h13]
   simp only[zj0,ycL,yct,ycK]at this ⊢
   exact this
 | @two d w b f r acc tb b' acc1 te e' acc2 t r' acc' ho ho2 hd4 hb0 hb hf _ _ _ ih1 ih2 ih3 =>
  intro k o l e rest hk he hd
  simp only[yct,ycL,yac,yab]at hk ⊢
  obtain⟨k,rfl⟩:∃j,k=j+1:=⟨k-1,by omega⟩
  obtain⟨q1,q2,q3⟩:=ziP (op:=13) (by omega) d o
  have e13:zaH 13=tIf:=rfl
  rw[e13]at q1 q2 q3
  rw[zI,zaO q1]
  simp only[Except.bind]
  rw[if_neg (by simp[q3]),za0,q2,if_neg (by omega),zap,if_neg (by omega)]
  simp only
  rw[ih1 k (decide True) [] za7 (te++zbO::(t++e::rest)) (by omega) (by decide) (by simp[zdp])]
  simp only[Except.bind,ycK]
  rw[if_pos trivial,if_pos trivial,ih2 k false [] zbO (t++e::rest) (by omega) (by decide) (by simp[zdp])]
  simp only[Except.map,ycK]
  have:=ih3 k o (l++[zj0 13 acc1.length acc2.length]) e rest (by omega) he hd
  simp only[zj0,ycL,yct,ycK]at this ⊢
  exact this
def zDA(B:Nat)(f:F)(toks:List Tok)(ls':To):Prop:=∃row out acc,f.lists[f.lists.length-1]?=some row∧PrB B f.lists 0 row [] toks out acc∧ls'=acc++[out]
abbrev PrF:=zDA 400
def zB(kw:Tok)(l:List Int):List Tok:=if l=[]then []else zu::kw::(l.map zw++[zf])
def ziQ(t:Int):List Tok:=if t=0 then []else [zu,zcY,zw t,zf]
def zgw(f:F)(toks:List Tok):List Tok:=zu::za6::(36::f.name)::(zB zbg f.params++(ziQ f.type++(zB zat f.locals++(toks++[zf]))))
theorem ziR{w:Tok}(hw:zb0 w=true)(ts:List Tok)(ls:To):zeI w ⟨zp (zu::w::ts),ls⟩=some ⟨zp ts,ls⟩:=by
 have e1:zcz (zp (zu::w::ts))=some (zu,zp (w::ts)):=by
  show zcz (32::(zu++zp (w::ts)))=_
  rw[zdg (by decide),zdh (by decide)]
 have e2:zcz (zp (w::ts))=some (w,zp ts):=by
  show zcz (32::(w++zp ts))=_
  rw[zdg (by decide),zdh hw]
 simp only[zeI,e1,if_pos,e2]
theorem zli{w u v:Tok}(hu:zb0 u=true)(hv:zb0 v=true)(h:u≠zu∨v≠w)(ts:List Tok)(ls:To):zeI w ⟨zp (u::v::ts),ls⟩=none:=by
 have e1:zcz (zp (u::v::ts))=some (u,zp (v::ts)):=by
  show zcz (32::(u++zp (v::ts)))=_
  rw[zdg (by decide),zdh hu]
 have e2:zcz (zp (v::ts))=some (v,zp ts):=by
  show zcz (32::(v++zp ts))=_
  rw[zdg (by decide),zdh hv]
 unfold zeI
 simp only[e1]
 by_cases hu':u=zu
 ·rw[if_pos hu']
  simp only[e2]
  rw[if_neg (by rcases h with h|h;exact absurd hu' h;exact h)]
 ·rw[if_neg hu']
theorem zma{w u:Tok}(hu:zb0 u=true)(h:u≠zu)(ts:List Tok)(ls:To):zeI w ⟨zp (u::ts),ls⟩=none:=by
 have e1:zcz (zp (u::ts))=some (u,zp ts):=by
  show zcz (32::(u++zp ts))=_
  rw[zdg (by decide),zdh hu]
 simp only[zeI,e1,if_neg h]
theorem zro{t:Int}(h:t=1∨t=2):zb0 (zw t)=true∧(zw t=zvR∧t=1∨zw t=zvS∧t=2):=by
 rcases h with rfl|rfl
 ·exact⟨by decide,.inl ⟨rfl,rfl⟩⟩
 ·exact⟨by decide,.inr ⟨rfl,rfl⟩⟩
theorem zcl:∀(l:List Int) (acc:List Int) (k:Nat) (ts:List Tok) (ls:To),(∀t∈l,t=1∨t=2)→acc++l≠[]→l.length<k→zal k acc ⟨zp (l.map zw++zf::ts),ls⟩=.ok (acc++l,⟨zp ts,ls⟩)
 | [],acc,k,ts,ls,_,hne,hk=>by
  obtain⟨k,rfl⟩:∃j,k=j+1:=⟨k-1,by simp at hk;omega⟩
  rw[zal,ycM,ycK,zaO (by decide)]
  simp only[Except.bind]
  rw[if_neg (by decide),if_neg (by decide),if_pos ⟨trivial,by simpa using hne⟩,yb7]
 | t::l,acc,k,ts,ls,h,hne,hk=>by
  obtain⟨k,rfl⟩:∃j,k=j+1:=⟨k-1,by simp at hk;omega⟩
  obtain⟨h1,h2⟩:=zro (h t (by simp))
  rw[zal,yaL,yct,zaO h1]
  simp only[Except.bind]
  simp only[yac]at hk
  rcases h2 with ⟨e1,e2⟩|⟨e1,e2⟩
  ·rw[if_pos e1,zcl l (acc++[1]) k ts ls (fun x hx=>h x (by simp[hx])) (by simp) (by omega),←e2]
   simp
  ·rw[e1,if_neg (by decide),if_pos rfl,zcl l (acc++[2]) k ts ls (fun x hx=>h x (by simp[hx])) (by simp) (by omega),←e2]
   simp
theorem zc0:∀ts:List Tok,ts.length+1≤(zp ts).length
 | []=>by simp[zp]
 | t::r=>by
  have:=zc0 r
  simp only[zp,yac,yab]
  omega
theorem zhG{kw:Tok}(hkw:zb0 kw=true){l:List Int}(h:∀t∈l,t=1∨t=2)(ts:List Tok)(ls:To)(hno:zeI kw ⟨zp ts,ls⟩=none):zbC kw ⟨zp (zB kw l++ts),ls⟩=.ok (l,⟨zp ts,ls⟩):=by
 unfold zbC zB
 by_cases hl:l=[]
 ·rw[if_pos hl,ycK,hno,hl]
 ·rw[if_neg hl]
  simp only[yct,ycL,ycK]
  rw[ziR hkw]
  simp only
  have:=zc0 (l.map zw++zf::ts)
  rw[zcl l [] _ ts ls h (by simpa using hl) (by simp at this ⊢;omega)]
  rfl
theorem zup{ls:To}{d:Nat}{ws:List W}{acc acc':To}{toks:List Tok}{out:List W}(h:Pr ls d ws acc toks out acc'):toks=[]∨∃t r,toks=t::r∧zb0 t=true∧t≠zu:=by
 cases h with
 | nil=>exact .inl rfl
 | leaf hn hf hr _ =>
  obtain⟨u,z,e1,e2,_⟩:=zj1 hf hn hr
  rw[e1]
  exact .inr ⟨u,_,rfl,(zl9 e2 0 false).1,zoy e2⟩
 | one ho _ _ _ _ _ =>
  refine .inr ⟨_,_,rfl,(ziP (by omega) 0 false).1,?_⟩
  rcases ho with e|e|e
  ·rw[e];decide
  ·rw[e];decide
  ·rw[e.1];decide
 | two=>exact .inr ⟨_,_,rfl,by decide,by decide⟩
theorem zyX{ls:To}{d:Nat}{ws:List W}{acc acc':To}{toks:List Tok}{out:List W}(h:Pr ls d ws acc toks out acc')(w:Tok)(ts:List Tok)(l:To):zeI w ⟨zp (toks++zf::ts),l⟩=none:=by
 rcases zup h with rfl|⟨t,r,rfl,h1,h2⟩
 ·exact zma (by decide) (by decide) _ _
 ·exact zma h1 h2 _ _
theorem zj2{kw w:Tok}(hkw:zb0 kw=true)(hne:kw≠w){l:List Int}{ts:List Tok}{ls:To}(h:zeI w ⟨zp ts,ls⟩=none):zeI w ⟨zp (zB kw l++ts),ls⟩=none:=by
 unfold zB
 split
 ·exact h
 ·exact zli (by decide) hkw (.inr hne) _ _
theorem zuq{w:Tok}(hne:zcY≠w){t:Int}{ts:List Tok}{ls:To}(h:zeI w ⟨zp ts,ls⟩=none):zeI w ⟨zp (ziQ t++ts),ls⟩=none:=by
 unfold ziQ
 split
 ·exact h
 ·exact zli (by decide) (by decide) (.inr hne) _ _
theorem zgx{c:UInt8}(h:(zO c||zE c)=true):zaF c=false:=by
 rw[Bool.or_eq_true]at h
 rcases h with h|h
 ·simp only[zO,Bool.or_eq_true,Bool.and_eq_true,decide_eq_true_eq,beq_iff_eq]at h
  simp only[zaF,ycI,ycJ,Bool.or_false,Bool.or_eq_false_iff,beq_eq_false_iff_ne,ne_eq]
  refine⟨?_,?_,?_,?_,?_⟩<;>(rintro rfl;rcases h with h|h;simp at h;simp at h)
 ·exact zhF h
theorem zrp{mx:Nat}{n:Tok}(h:zgU mx n=true):zb0 (36::n)=true:=by
 have ha:∀c∈n,zaF c=false:=fun c hc=>by
  cases n with
  | nil=>simp at hc
  | cons x r =>
   simp only[zgU,Bool.and_eq_true,decide_eq_true_eq]at h
   rcases ybC.1 hc with rfl|hc
   ·exact zgx (by rw[h.2.1];rfl)
   ·exact zgx (yaM.1 h.2.2 c hc)
 have h1:(n.all fun c=>!zaF c)=true:=by
  rw[yaM]
  intro c hc
  simp[ha c hc]
 have h2:zaF 36=false:=by decide
 unfold zb0
 simp[h1,h2]
structure Pf(mx:Nat)(f:F):Prop where
 name:zgU mx f.name=true
 params:∀t∈f.params,t=1∨t=2
 locals:∀t∈f.locals,t=1∨t=2
 type:f.type=0∨f.type=1∨f.type=2
theorem zhf{mx:Nat}{f:F}{toks:List Tok}{ls':To}(hf:Pf mx f)(hp:PrF f toks ls')(ts:List Tok)(ls:To):
  zV mx ⟨zp ((36::f.name)::(zB zbg f.params++(ziQ f.type++(zB zat f.locals++(toks++zf::ts))))),ls⟩=.ok ({ f with lists:=ls' },⟨zp ts,ls'⟩):=by
 obtain⟨row,out,acc,h1,h2,rfl⟩:=hp
 have a3:∀w l,zeI w ⟨zp (toks++zf::ts),l⟩=none:=fun w l=>zyX h2 w ts l
 have a2:∀l,zeI zcY ⟨zp (zB zat f.locals++(toks++zf::ts)),l⟩=none:=fun l=>zj2 (by decide) (by decide) (a3 _ l)
 have a1:∀l,zeI zbg ⟨zp (ziQ f.type++(zB zat f.locals++(toks++zf::ts))),l⟩=none:=fun l=>zuq (by decide) (zj2 (by decide) (by decide) (a3 _ l))
 unfold zV
 rw[zaO (zrp hf.name)]
 simp only[Except.bind,ycc,List.tail_cons]
 rw[if_pos ⟨trivial,hf.name⟩,zhG (by decide) hf.params _ _ (a1 ls)]
 simp only
 have hres:zk6 ⟨zp (ziQ f.type++(zB zat f.locals++(toks++zf::ts))),ls⟩=.ok (f.type,⟨zp (zB zat f.locals++(toks++zf::ts)),ls⟩):=by
  unfold zk6
  by_cases ht:f.type=0
  ·have e:ziQ f.type=[]:=if_pos ht
   rw[e,ycK,a2 ls,ht]
  ·have e:ziQ f.type=[zu,zcY,zw f.type,zf]:=if_neg ht
   rw[e]
   simp only[yct,ycK]
   rw[ziR (by decide)]
   simp only
   have:=zc0 (zw f.type::zf::(zB zat f.locals++(toks++zf::ts)))
   have q:=zcl [f.type] [] ((zp (zw f.type::zf::(zB zat f.locals++(toks++zf::ts)))).length+1) (zB zat f.locals++(toks++zf::ts)) ls (fun t ht'=>by have:=hf.type;simp only[ycF]at ht';subst ht';omega) (by simp) (by simp at this ⊢;omega)
   simp only[yaL,ycM,yct,ycK]at q
   rw[q]
   simp[Except.bind]
 rw[hres]
 simp only
 rw[zhG (by decide) hf.locals _ _ (a3 _ ls)]
 simp only
 have hlen:=zc0 (toks++zf::ts)
 rw[zoz h2 _ false [] zf ts (by simp at hlen;omega) (by decide) (by simp[zdp])]
 simp[Except.map]
inductive PrFsB(B:Nat):List F→List Tok→List F→Prop
 | nil:PrFsB B [] [] []
 | cons {f fs toks ls' ts fs'}:zDA B f toks ls'→PrFsB B fs ts fs'→PrFsB B (f::fs) (zgw f toks++ts) ({ f with lists:=ls' }::fs')
abbrev zsI:=PrFsB 400
theorem zgy{mx:Nat}{fs fs':List F}{toks:List Tok}(h:zsI fs toks fs'):∀(hf:∀f∈fs,Pf mx f) (k:Nat) (acc:List F) (ts:List Tok) (ls:To),fs.length<k→(∀l,zeI za6 ⟨zp ts,l⟩=none)→∃l',zx mx k acc ⟨zp (toks++ts),ls⟩=.ok (acc++fs',⟨zp ts,l'⟩):=by
 induction h with
 | nil =>
  intro hf k acc ts ls hk hn
  obtain⟨k,rfl⟩:∃j,k=j+1:=⟨k-1,by simp at hk;omega⟩
  refine⟨ls,?_⟩
  rw[zx,ycK,hn]
  simp
 | @cons f fs toks ls' t fs' hp _ ih =>
  intro hf k acc ts ls hk hn
  simp only[yac]at hk
  obtain⟨k,rfl⟩:∃j,k=j+1:=⟨k-1,by omega⟩
  obtain⟨l',hl'⟩:=ih (fun g hg=>hf g (by simp[hg])) k (acc++[{ f with lists:=ls' }]) ts ls' (by omega) hn
  refine⟨l',?_⟩
  rw[zx]
  simp only[zgw,yct,ycL,ycK]
  rw[ziR (by decide)]
  simp only
  rw[zhf (hf f (by simp)) hp]
  simp only[Except.bind]
  rw[hl']
  simp
theorem zbw:∀(l:List Tok) (ts:List Tok) (ls:To),(∀t∈l,zb0 t=true)→zP l ⟨zp (l++ts),ls⟩=.ok ⟨zp ts,ls⟩
 | [],ts,ls,_=>rfl
 | t::l,ts,ls,h=>by
  rw[zP,yct,zaO (h t (by simp))]
  simp only[Except.bind]
  rw[if_pos trivial]
  exact zbw l ts ls fun x hx=>h x (by simp[hx])
def zsJ:List Tok:=[zu,zbM,zg8,zu,za6]
def zcm(m:M)(toks:List Tok):List Tok:=zbB++(Lib.itoa m.memory::zf::zf::(toks++(zsJ++(Lib.itoa (yb4 .i64 (m.main+3))::[zf,zf,zf]))))
theorem zeN(x:Int):(-(2^63)≤yb4 .i64 x∧yb4 .i64 x<2^63)∧∃k:Int,yb4 .i64 x=x+2^64*k:=by
 simp only[yb4,yao,yap,Bool.true_and]
 split
 ·rename_i k
  have k:=of_decide_eq_true k
  exact⟨by omega,-(x/2^64)-1,by omega⟩
 ·rename_i k
  have k:=of_decide_eq_false (eq_false_of_ne_true k)
  exact⟨by omega,-(x/2^64),by omega⟩
theorem zm8{n d:Int}(h:-(2^63)≤n∧n<2^63):yb4 .i64 (yb4 .i64 (n+d)-d)=n:=by
 obtain⟨_,k,e⟩:=zeN (n+d)
 obtain⟨r,j,e2⟩:=zeN (yb4 .i64 (n+d)-d)
 rw[e]at e2 r ⊢
 omega
def zhg(ts:List Tok):List UInt8:=(zp ts).tail
theorem zj3{mx:Nat}{m:M}{toks:List Tok}{fs':List F}(h:zsI m.funcs toks fs')(hf:∀f∈m.funcs,Pf mx f)(hm:-(2^63)≤m.memory∧m.memory<2^63)(hn:-(2^63)≤m.main∧m.main<2^63):zbu mx (zhg (zcm m toks))=.ok ⟨fs',m.memory,m.main⟩:=by
 have hcut:∀ts,zbB++ts≠[]→zaG ⟨zhg (zbB++ts),[]⟩=zaG ⟨zp (zbB++ts),[]⟩:=fun ts _=>by
  have e:zcz (zhg (zbB++ts))=zcz (zp (zbB++ts)):=rfl
  simp only[zaG,e]
 have hw:∀ts,zP zbB ⟨zhg (zbB++ts),[]⟩=zP zbB ⟨zp (zbB++ts),[]⟩:=fun ts=>by
  have e:=hcut ts (by simp[zbB])
  have e2:∀s s':Ts,zaG s=zaG s'→zP zbB s=zP zbB s':=fun s s' q=>by
   simp only[zbB,zP,q]
  exact e2 _ _ e
 have w4:yb4 .i64 (yb4 .i64 (m.main+3)-3)=m.main:=zm8 hn
 unfold zbu zcj zcm
 rw[hw,zbw zbB _ _ (by decide)]
 simp only[Except.bind]
 rw[zcZ hm]
 simp only
 have e1:=zbw [zf,zf] (toks++(zsJ++(Lib.itoa (yb4 .i64 (m.main+3))::[zf,zf,zf]))) [] (by decide)
 simp only[yct,ycK]at e1
 rw[e1]
 simp only
 have hlen:=zc0 (toks++(zsJ++(Lib.itoa (yb4 .i64 (m.main+3))::[zf,zf,zf])))
 have hfl:∀{gs gs':List F} {us:List Tok},zsI gs us gs'→gs.length≤us.length:=fun {gs gs' us} q=>by
  induction q with
  | nil=>simp
  | cons _ _ ih=>simp only[zgw,yac,yab,yct];omega
 have:=hfl h
 obtain⟨l',e2⟩:=zgy h hf ((zp (toks++(zsJ++(Lib.itoa (yb4 .i64 (m.main+3))::[zf,zf,zf])))).length+1) [] (zsJ++(Lib.itoa (yb4 .i64 (m.main+3))::[zf,zf,zf])) [] (by simp only[yab]at hlen;omega)
  (fun l=>zli (by decide) (by decide) (.inr (by decide)) _ _)
 rw[e2]
 simp only[ycK]
 have e3:=zbw zsJ (Lib.itoa (yb4 .i64 (m.main+3))::[zf,zf,zf]) l' (by decide)
 have ee:[zu,zbM,zg8,zu,za6]=zsJ:=rfl
 rw[ee,e3]
 simp only
 rw[zcZ (zeN _).1]
 simp only
 have e4:=zbw [zf,zf,zf] [] l' (by decide)
 rw[yb7]at e4
 rw[e4]
 simp only[zp,w4]
 rfl
theorem zm9{t:Tok}{n:Int}(h:zkq t=.ok n):-(2^63)≤n∧n<2^63:=by
 have h0:=h
 unfold zkq at h0
 split at h0
 ·cases h0
 ·rename_i hb
  simp only[Bool.or_eq_true,Bool.not_eq_true',not_or,Bool.not_eq_true,Bool.not_eq_false]at hb
  have hne:zaL t≠[]:=fun e=>by rw[e]at hb;simp at hb
  rw[ziG hne hb.2]at h0
  by_cases o:-(2^63)≤zjL t∧zjL t<2^63
  ·rw[if_pos o]at h0
   simp only at h0
   split at h0
   ·cases h0;exact o
   ·cases h0
  ·rw[if_neg o]at h0
   simp at h0
theorem zfa{s s':Ts}{n:Int}(h:zU s=.ok (n,s')):(-(2^63)≤n∧n<2^63)∧s'.ls=s.ls:=by
 unfold zU zaG at h
 split at h
 ·cases h
 ·rename_i p _
  simp only[Except.bind]at h
  cases hn:zkq p.1 with
  | error e=>rw[hn]at h;cases h
  | ok m =>
   rw[hn]at h
   simp only[Except.map,Except.ok.injEq,Prod.mk.injEq]at h
   obtain⟨rfl,rfl⟩:=h
   exact⟨zm9 hn,rfl⟩
def zna(w:W):Bool:=zce w&&(!zdQ w&&(decide (ziO w=w)&&(decide (-(2^63)≤w.n)&&decide (w.n<2^63))))
theorem zoA:∀p∈zfq,zna p.2=true:=by decide
theorem zrq:∀p∈zch,((p.2.op=1∧(p.2.ty=1∨p.2.ty=2))∨((p.2.op=2∨p.2.op=3∨p.2.op=10∨p.2.op=14∨p.2.op=15)∧p.2.ty=0))∧p.2.body=0∧p.2.other=0∧p.2.name=[]:=by decide
theorem zoB{w:W}(h:zna w=true):zce w=true∧zdQ w=false∧ziO w=w∧RgW w:=by
 simp only[zna,Bool.and_eq_true,Bool.not_eq_true',decide_eq_true_eq]at h
 exact⟨h.1,h.2.1,h.2.2.1,h.2.2.2.1,h.2.2.2.2⟩
theorem zoC{w:W}(h:∃p∈zch,p.2=w){n:Int}(hn:-(2^63)≤n∧n<2^63):zna { w with n:=n }=true:=by
 obtain⟨p,hp,rfl⟩:=h
 obtain⟨h1,h2,h3,h4⟩:=zrq p hp
 obtain⟨t,op,ty,m,body,other,name⟩:=p
 simp only at h1 h2 h3 h4
 subst h2 h3 h4
 rcases h1 with ⟨rfl,rfl|rfl⟩|⟨rfl|rfl|rfl|rfl|rfl,rfl⟩<;>(simp[zna,zce,zdQ,ziO,za8,zab];omega)
theorem zj4{l:List (List UInt8 × W)}{t:Tok}{w:W}(h:zA l t=some w):∃p∈l,p.2=w:=by
 unfold zA at h
 rw[ybB]at h
 obtain⟨p,h1,h2⟩:=h
 exact⟨p,List.mem_of_find?_eq_some h1,h2⟩
theorem znb{t:Tok}{s s':Ts}{w:W}(h:zci t s=.ok (w,s')):zna w=true∧s'.ls=s.ls:=by
 unfold zci at h
 split at h
 ·rename_i v hv
  cases hq:zU s with
  | error e=>rw[hq]at h;cases h
  | ok p =>
   rw[hq]at h
   obtain⟨n,s1⟩:=p
   simp only[Except.map,Except.ok.injEq,Prod.mk.injEq]at h
   obtain⟨rfl,rfl⟩:=h
   obtain⟨h1,h2⟩:=zfa hq
   exact⟨zoC (zj4 hv) h1,h2⟩
 ·split at h
  ·rename_i v hv
   cases h
   obtain⟨p,hp,rfl⟩:=zj4 hv
   exact⟨zoA p hp,rfl⟩
  ·cases h
theorem zmb(t:Tok):zaM t=0∨zaM t=11∨zaM t=12∨zaM t=13:=by
 unfold zaM
 split
 ·simp
 ·split
  ·simp
  ·split<;>simp
theorem bind_some{α β:Type}{r:Res α}{f:α→Res β}{y:β}(h:r.bind f=.ok y):∃x,r=.ok x∧f x=.ok y:=by
 cases r with
 | error e=>cases h
 | ok x=>exact⟨x,rfl,h⟩
theorem map_some{α β:Type}{r:Res α}{f:α→β}{y:β}(h:r.map f=.ok y):∃x,r=.ok x∧f x=y:=by
 cases r with
 | error e=>cases h
 | ok x=>simp only[Except.map,Except.ok.injEq]at h;exact⟨x,rfl,h⟩
theorem zrr{s s':Ts}{t:Tok}(h:zaG s=.ok (t,s')):s'.ls=s.ls:=by
 unfold zaG at h
 split at h
 ·cases h
 ·cases h;rfl
theorem zcn{α:Type}{a:List α}{x:α}{fin:List α}(h:a++[x]<+:fin):fin[a.length]?=some x:=by
 obtain⟨z,rfl⟩:=h
 rw[ycL,yaI (yah _)]
 simp
theorem zj5{ls:To}{d:Nat}{ws:List W}{acc acc':To}{toks:List Tok}{out:List W}(h:Pr ls d ws acc toks out acc'):acc<+:acc':=by
 induction h with
 | nil=>exact ycN _
 | leaf _ _ _ _ ih=>exact ih
 | one _ _ _ _ _ _ ih1 ih2=>exact ih1.trans ((ycO _ _).trans ih2)
 | two _ _ _ _ _ _ _ _ _ ih1 ih2 ih3=>exact ih1.trans ((ycO _ _).trans (ih2.trans ((ycO _ _).trans ih3)))
theorem zdi{fin:To}:∀(k d:Nat) (o:Bool) (l:List W) (s:Ts) (n:Int) (e:Tok) (s':Ts),zI k d o l s=.ok ((n,e),s')→s'.ls<+:fin→∃out toks acc',s'.ls=acc'++[l++out]∧n=acc'.length∧Pr fin d out s.ls toks out acc'∧zdp d o e=true
 | 0,d,o,l,s,n,e,s',h,_=>by cases h
 | k+1,d,o,l,s,n,e,s',h,hp=>by
  rw[zI]at h
  obtain⟨⟨t,s1⟩,h1,h2⟩:=bind_some h
  have e1:=zrr h1
  simp only at h2
  by_cases hd:zdp d o t=true
  ·rw[if_pos hd]at h2
   cases h2
   exact⟨[],[],s1.ls,by simp,rfl,by rw[←e1];exact .nil d s1.ls,hd⟩
  ·rw[if_neg hd]at h2
   obtain⟨⟨w,s2⟩,h3,h4⟩:=bind_some h2
   simp only at h4
   obtain⟨out,toks,acc',q1,q2,q3,q4⟩:=zdi k d o (l++[w]) s2 n e s' h4 hp
   unfold za0 at h3
   by_cases h0:zaM t=0
   ·rw[if_pos h0]at h3
    obtain⟨g1,g2⟩:=znb h3
    obtain⟨b1,b2,b3,b4⟩:=zoB g1
    refine⟨w::out,zdR w++toks,acc',by rw[q1];simp,q2,?_,q4⟩
    rw[g2,e1]at q3
    have:=PrB.leaf b2 b1 b4 q3
    rw[b3]at this
    exact this
   ·rw[if_neg h0]at h3
    unfold zap at h3
    by_cases h400:400<d+1
    ·rw[if_pos h400]at h3;cases h3
    ·rw[if_neg h400]at h3
     obtain⟨⟨⟨n1,t1⟩,s3⟩,h5,h6⟩:=bind_some h3
     simp only at h6
     have hpre:s2.ls<+:fin:=(zj5 q3).trans ((ycO _ _).trans (q1▸hp))
     have hop:=zmb t
     by_cases h13:zaM t=13
     ·rw[if_pos h13]at h6
      by_cases hel:t1=za7
      ·rw[if_pos hel]at h6
       obtain⟨⟨⟨n2,t2⟩,s4⟩,h7,h8⟩:=map_some h6
       simp only[Prod.mk.injEq]at h8
       obtain⟨rfl,rfl⟩:=h8
       obtain⟨o2,u2,a2,r1,r2,r3,r4⟩:=zdi k (d+1) false [] s3 n2 t2 s4 h7 hpre
       have hpre3:s3.ls<+:fin:=(zj5 r3).trans ((ycO _ _).trans (r1▸hpre))
       obtain⟨o1,u1,a1,p1,p2,p3,p4⟩:=zdi k (d+1) _ [] s1 n1 t1 s3 h5 hpre3
       simp only[ycK]at p1 r1
       have f1:=zcn (p1▸hpre3)
       have f2:=zcn (r1▸hpre)
       rw[e1]at p3
       rw[p1]at r3
       rw[r1]at q3
       refine⟨{ op:=13,ty:=0,n:=0,body:=n1,other:=n2,name:=[] }::out,tIf::(u1++za7::(u2++zbO::toks)),acc',by rw[q1];simp only[ycL,yct,ycK],q2,?_,q4⟩
       have:=PrB.two (ls:=fin) (w:={ op:=13,ty:=0,n:=0,body:=n1,other:=n2,name:=[] }) rfl (by rw[r2];simp) (show d<400 by omega) (by rw[p2];simp) (by rw[p2];simpa using f1) (by rw[r2];simpa using f2) p3 r3 q3
       rw[←p2,←r2]at this
       exact this
      ·rw[if_neg hel]at h6
       simp only[Except.ok.injEq,Prod.mk.injEq]at h6
       obtain⟨rfl,rfl⟩:=h6
       obtain⟨o1,u1,a1,p1,p2,p3,p4⟩:=zdi k (d+1) _ [] s1 n1 t1 s3 h5 hpre
       simp only[ycK]at p1
       have f1:=zcn (p1▸hpre)
       rw[e1]at p3
       rw[p1]at q3
       refine⟨{ op:=13,ty:=0,n:=0,body:=n1,other:=-1,name:=[] }::out,zaH 13::(u1++zbO::toks),acc',by rw[q1];simp only[ycL,yct,ycK],q2,?_,q4⟩
       have:=PrB.one (ls:=fin) (w:={ op:=13,ty:=0,n:=0,body:=n1,other:=-1,name:=[] }) (.inr (.inr ⟨rfl,by simp⟩)) (show d<400 by omega) (by rw[p2];simp) (by rw[p2];simpa using f1) p3 q3
       rw[←p2]at this
       exact this
     ·rw[if_neg h13]at h6
      simp only[Except.ok.injEq,Prod.mk.injEq]at h6
      obtain⟨rfl,rfl⟩:=h6
      obtain⟨o1,u1,a1,p1,p2,p3,p4⟩:=zdi k (d+1) _ [] s1 n1 t1 s3 h5 hpre
      simp only[ycK]at p1
      have f1:=zcn (p1▸hpre)
      rw[e1]at p3
      rw[p1]at q3
      refine⟨{ op:=zaM t,ty:=0,n:=0,body:=n1,other:=0,name:=[] }::out,zaH (zaM t)::(u1++zbO::toks),acc',by rw[q1];simp only[ycL,yct,ycK],q2,?_,q4⟩
      have:=PrB.one (ls:=fin) (w:={ op:=zaM t,ty:=0,n:=0,body:=n1,other:=0,name:=[] }) (by simp only;omega) (show d<400 by omega) (by rw[p2];simp) (by rw[p2];simpa using f1) p3 q3
      rw[if_neg (by simpa using h13),←p2]at this
      exact this
theorem zco:∀(k:Nat) (l:List Int) (s:Ts) (r:List Int) (s':Ts),zal k l s=.ok (r,s')→(∀t∈l,t=1∨t=2)→r≠[]∧∀t∈r,t=1∨t=2
 | 0,l,s,r,s',h,_=>by cases h
 | k+1,l,s,r,s',h,hl=>by
  rw[zal]at h
  obtain⟨⟨t,s1⟩,_,h2⟩:=bind_some h
  simp only at h2
  split at h2
  ·exact zco k _ _ r s' h2 fun x hx=>by
    rcases ybh.1 hx with hx|hx
    ·exact hl x hx
    ·simp at hx;exact .inl hx
  ·split at h2
   ·exact zco k _ _ r s' h2 fun x hx=>by
     rcases ybh.1 hx with hx|hx
     ·exact hl x hx
     ·simp at hx;exact .inr hx
   ·split at h2
    ·rename_i hc
     cases h2
     exact⟨hc.2,hl⟩
    ·cases h2
theorem zhH{kw:Tok}{s s':Ts}{r:List Int}(h:zbC kw s=.ok (r,s')):∀t∈r,t=1∨t=2:=by
 unfold zbC at h
 split at h
 ·exact(zco _ _ _ _ _ h (by simp)).2
 ·cases h;simp
theorem zoD{s s':Ts}{t:Int}(h:zk6 s=.ok (t,s')):t=0∨t=1∨t=2:=by
 unfold zk6 at h
 split at h
 ·obtain⟨⟨r,s1⟩,h1,h2⟩:=bind_some h
  have h3:=(zco _ _ _ _ _ h1 (by simp)).2
  simp only at h2
  split at h2
  ·rename_i hl
   cases h2
   match r,hl with
   | [x],_=>have:=h3 x (by simp);simp;omega
  ·cases h2
 ·cases h;exact .inl rfl
theorem zhh{mx:Nat}{s s':Ts}{f:F}(h:zV mx s=.ok (f,s')):Pf mx f∧∃toks,PrF f toks f.lists:=by
 unfold zV at h
 obtain⟨⟨t,s1⟩,_,h⟩:=bind_some h
 simp only at h
 split at h
 ·rename_i hn
  obtain⟨⟨ps,s2⟩,h2,h⟩:=bind_some h
  obtain⟨⟨ty,s3⟩,h3,h⟩:=bind_some h
  obtain⟨⟨ls,s4⟩,h4,h⟩:=bind_some h
  obtain⟨⟨⟨n,e⟩,s5⟩,h5,h⟩:=map_some h
  simp only[Prod.mk.injEq]at h
  obtain⟨rfl,rfl⟩:=h
  obtain⟨out,toks,acc',q1,q2,q3,q4⟩:=zdi (fin:=s5.ls) _ _ _ _ _ _ _ _ h5 (ycN _)
  simp only[ycK]at q1
  refine⟨⟨hn.2,zhH h2,zhH h4,zoD h3⟩,toks,out,out,acc',?_,q3,q1⟩
  simp only[q1,yab,yac,ybl,yco]
  simp
 ·cases h
theorem zc1{mx:Nat}:∀(k:Nat) (acc:List F) (s:Ts) (fs:List F) (s':Ts),zx mx k acc s=.ok (fs,s')→∃gs toks,fs=acc++gs∧zsI gs toks gs∧∀f∈gs,Pf mx f
 | 0,acc,s,fs,s',h=>by cases h
 | k+1,acc,s,fs,s',h=>by
  rw[zx]at h
  split at h
  ·cases h
   exact⟨[],[],by simp,.nil,by simp⟩
  ·obtain⟨⟨f,s2⟩,h1,h2⟩:=bind_some h
   obtain⟨p1,t1,p2⟩:=zhh h1
   obtain⟨gs,ts,e,q1,q2⟩:=zc1 k _ _ fs s' h2
   refine⟨f::gs,_,by rw[e];simp,.cons p2 q1,fun g hg=>?_⟩
   rcases ybC.1 hg with rfl|hg
   ·exact p1
   ·exact q2 g hg
theorem zoE{mx:Nat}{b:List UInt8}{m:M}(h:zbu mx b=.ok m):∃toks,zsI m.funcs toks m.funcs∧(∀f∈m.funcs,Pf mx f)∧(-(2^63)≤m.memory∧m.memory<2^63)∧(-(2^63)≤m.main∧m.main<2^63):=by
 unfold zbu at h
 obtain⟨⟨m',s0⟩,h0,e0⟩:=map_some h
 simp only at e0
 subst e0
 clear h
 unfold zcj at h0
 obtain⟨s1,_,h⟩:=bind_some h0
 obtain⟨⟨mem,s2⟩,hm,h⟩:=bind_some h
 obtain⟨s3,_,h⟩:=bind_some h
 obtain⟨⟨fs,s4⟩,hf,h⟩:=bind_some h
 obtain⟨s5,_,h⟩:=bind_some h
 obtain⟨⟨mn,s6⟩,hn,h⟩:=bind_some h
 obtain⟨s7,_,h⟩:=bind_some h
 split at h
 ·cases h
  obtain⟨gs,toks,e,q1,q2⟩:=zc1 _ _ _ _ _ hf
  simp only[ycK]at e
  subst e
  exact⟨toks,q1,q2,(zfa hm).1,(zeN _).1⟩
 ·cases h
def zbx(σ:AS)(x f:Nat):Prop:=∃cs v,σ.objs x=some cs∧cs[1]?=some v∧zbX v=some f
structure zM(x:Nat)(σ σ':AS):Prop where
 no:σ.no≤σ'.no
 nf:σ.nf≤σ'.nf
 obj:∀o,o<σ.no→o≠x→σ'.objs o=σ.objs o
 fam:∀f,f<σ.nf→¬zbx σ x f→σ'.F f=σ.F f
 use:∀f,f<σ.nf→zbx σ' x f→zbx σ x f
theorem zM.refl(x σ):zM x σ σ:=⟨yah _,yah _,fun _ _ _=>rfl,fun _ _ _=>rfl,fun _ _ h=>h⟩
theorem zM.trans{x σ σ1 σ2}(h:zM x σ σ1)(h':zM x σ1 σ2):zM x σ σ2 where
 no:=yai h.no h'.no
 nf:=yai h.nf h'.nf
 obj o a b:=by rw[h'.obj o (yag a h.no) b,h.obj o a b]
 fam f a b:=by rw[h'.fam f (yag a h.nf) fun u=>b (h.use f a u),h.fam f a b]
 use f a u:=h.use f a (h'.use f (yag a h.nf) u)
theorem zg.keepR{x σ σ'}(h:zg σ σ')(hx:x<σ.no):zM x σ σ' where
 no:=h.no
 nf:=h.nf
 obj o a _:=h.obj o a
 fam f a _:=h.fam f a
 use f _ u:=by unfold zbx at *;rwa [h.obj x hx]at u
structure zQ(x:Nat)(σ σ':AS):Prop where
 no:σ.no≤σ'.no
 nf:σ.nf≤σ'.nf
 obj:∀o,o<σ.no→o≠x→σ'.objs o=σ.objs o
 fam:∀f,f<σ.nf→σ'.F f=σ.F f
 lst:∀cs,σ.objs x=some cs→∃cs',σ'.objs x=some cs'∧cs'[1]?=cs[1]?
 some:(σ.objs x).isSome=true
theorem zQ.refl{x σ cs}(h:σ.objs x=yaR cs):zQ x σ σ:=⟨yah _,yah _,fun _ _ _=>rfl,fun _ _=>rfl,fun cs h=>⟨cs,h,rfl⟩,by rw[h];rfl⟩
theorem zQ.trans{x σ σ1 σ2}(h:zQ x σ σ1)(h':zQ x σ1 σ2):zQ x σ σ2 where
 no:=yai h.no h'.no
 nf:=yai h.nf h'.nf
 obj o a b:=by rw[h'.obj o (yag a h.no) b,h.obj o a b]
 fam f a:=by rw[h'.fam f (yag a h.nf),h.fam f a]
 lst cs e:=by
  obtain⟨c1,e1,e2⟩:=h.lst cs e
  obtain⟨c2,e3,e4⟩:=h'.lst c1 e1
  exact⟨c2,e3,e4.trans e2⟩
 some:=h.some
theorem zQ.r{x σ σ'}(h:zQ x σ σ'):zM x σ σ' where
 no:=h.no
 nf:=h.nf
 obj:=h.obj
 fam f a _:=h.fam f a
 use f a u:=by
  obtain⟨cs,v,h1,h2,h3⟩:=u
  obtain⟨c0,hc0⟩:=yay.1 h.some
  obtain⟨c1,e1,e2⟩:=h.lst c0 hc0
  rw[h1]at e1
  cases e1
  exact⟨c0,v,hc0,by rw[←e2];exact h2,h3⟩
theorem zg.keepS{x σ σ' cs}(h:zg σ σ')(hx:x<σ.no)(ho:σ.objs x=yaR cs):zQ x σ σ' where
 no:=h.no
 nf:=h.nf
 obj o a _:=h.obj o a
 fam f a:=h.fam f a
 lst cs e:=⟨cs,(h.obj x hx).trans e,rfl⟩
 some:=by rw[ho];rfl
theorem zQ.set{x σ cs cs'}(ho:σ.objs x=yaR cs)(h:cs'[1]?=cs[1]?):zQ x σ (σ.setO x cs') where
 no:=yah _
 nf:=yah _
 obj o _ ho:=by simp[ho]
 fam f _:=rfl
 lst c e:=⟨cs',by simp,by rw[h];rw[ho]at e;cases e;rfl⟩
 some:=by rw[ho];rfl
theorem zQ.endF{x σ τ}(K:zQ x σ τ){g:Nat}(hg:σ.nf≤g):zQ x σ (τ.setF g .dead) where
 no:=K.no
 nf:=K.nf
 obj:=K.obj
 fam f a:=by
  have:¬f=g:=by omega
  simp[this]
  exact K.fam f a
 lst:=K.lst
 some:=K.some
theorem zQ.newF{x σ τ}(K:zQ x σ τ):zQ x σ τ.newF where
 no:=K.no
 nf:=ycP K.nf
 obj:=K.obj
 fam f a:=by
  have:=K.nf
  have:¬f=τ.nf:=by omega
  simp[this]
  exact K.fam f a
 lst:=K.lst
 some:=K.some
theorem zQ.mrg{x σ τ}(K:zQ x σ τ){g:Nat}(hg:σ.nf≤g):zQ x σ (τ.mrg g fun _=>false) where
 no:=K.no
 nf:=K.nf
 obj o a b:=by simpa [AS.mrg]using K.obj o a b
 fam f a:=by
  have:¬f=g:=by omega
  simp[AS.mrg,zjI,this]
  exact K.fam f a
 lst cs e:=by
  obtain⟨c1,e1,e2⟩:=K.lst cs e
  exact⟨c1,by simpa [AS.mrg]using e1,e2⟩
 some:=K.some
def zFa:Go.Abs.Own→Option Nat
 | .stat _=>none
 | .fam f _=>some f
def ToR(base:Nat)(σ:AS)(v:AV)(tO:To):Prop:=(tO=[]∧v=.nilsl)∨∃g tos,v=.sl (.fam g false) 1 tos∧base≤g∧g<σ.nf∧σ.F g=.alive∧All2 Al.RepE tos tO
theorem ToR.one{base σ v bs}(h:ToR base σ v bs):v.known=true∧v.one=true∧v.cells=[v]:=by rcases h with ⟨_,rfl⟩|⟨b,_,rfl,_⟩<;>simp
section
variable {G : Env} {σ : AS} {R : Out → AS → Prop}
end
def zhi(σ0:AS)(x sz:Nat)(τ:AS)(v:AV)(xs:List AV):Prop:=(xs=[]∧v=.nilsl)∨∃g,v=.sl (.fam g false) sz xs∧σ0.nf≤g∧g<τ.nf∧τ.F g=.alive∧¬zbx τ x g
theorem zhi.one{σ0 x sz τ v xs}(h:zhi σ0 x sz τ v xs):v.known=true∧v.one=true∧v.cells=[v]:=by rcases h with ⟨_,rfl⟩|⟨b,rfl,_⟩<;>simp
theorem zhi.keep{σ0 x sz τ τ' v xs}(h:zhi σ0 x sz τ v xs)(K:zM x τ τ'):zhi σ0 x sz τ' v xs:=by
 rcases h with h|⟨g,h1,h2,h3,h4,h5⟩
 ·exact .inl h
 ·exact .inr ⟨g,h1,h2,yag h3 K.nf,(K.fam g h3 h5).trans h4,fun u=>h5 (K.use g h3 u)⟩
theorem zM.endF{x σ τ}(K:zM x σ τ){g:Nat}(hg:σ.nf≤g):zM x σ (τ.setF g .dead) where
 no:=K.no
 nf:=K.nf
 obj:=K.obj
 fam f a b:=by
  have:¬f=g:=by omega
  simp[this]
  exact K.fam f a b
 use f a u:=K.use f a u
theorem zM.newF{x σ τ}(K:zM x σ τ):zM x σ τ.newF where
 no:=K.no
 nf:=ycP K.nf
 obj:=K.obj
 fam f a b:=by
  have:=K.nf
  have:¬f=τ.nf:=by omega
  simp[this]
  exact K.fam f a b
 use f a u:=K.use f a u
section
variable {G : Env} {σ : AS} {R : Out → AS → Prop}
end
theorem zM.setO{x σ τ o cs}(K:zM x σ τ)(ho:σ.no≤o)(hox:o≠x):zM x σ (τ.setO o cs) where
 no:=K.no
 nf:=K.nf
 obj p a b:=by
  have:¬p=o:=by omega
  simp[this]
  exact K.obj p a b
 fam f a b:=K.fam f a b
 use f a u:=K.use f a (by
  obtain⟨cs',v,h1,h2,h3⟩:=u
  have:¬x=o:=fun e=>hox e.symm
  simp[this]at h1
  exact⟨cs',v,h1,h2,h3⟩)
section
variable {G : Env} {σ : AS} {R : Out → AS → Prop}
end
end Go.Proofs.YtohfclafhegadaaGreatDoor


namespace Go.Proofs.YtohfclafhegadaaGreatDoor
open Go Go.Abs
structure zeO(x fo:Nat)(σ σ':AS):Prop where
 no:σ.no≤σ'.no
 nf:σ.nf≤σ'.nf
 obj:∀o,o<σ.no→o≠x→o≠fo→σ'.objs o=σ.objs o
 fam:∀f,f<σ.nf→σ'.F f=σ.F f
theorem zeO.trans{x fo σ σ1 σ2}(h:zeO x fo σ σ1)(h':zeO x fo σ1 σ2):zeO x fo σ σ2 where
 no:=yai h.no h'.no
 nf:=yai h.nf h'.nf
 obj o a b c:=by rw[h'.obj o (yag a h.no) b c,h.obj o a b c]
 fam f a:=by rw[h'.fam f (yag a h.nf),h.fam f a]
theorem zQ.f{x fo σ σ'}(h:zQ x σ σ'):zeO x fo σ σ':=⟨h.no,h.nf,fun o a b _=>h.obj o a b,h.fam⟩
theorem zeO.setO{x fo σ σ' o cs}(h:zeO x fo σ σ')(ho:o=x∨o=fo∨σ.no≤o):zeO x fo σ (σ'.setO o cs) where
 no:=h.no
 nf:=h.nf
 obj p a b c:=by
  have:¬p=o:=by rcases ho with h|h|h<;>omega
  simp[this]
  exact h.obj p a b c
 fam:=h.fam
theorem zeO.adds0{x fo σ0 σ σ'}(K:zeO x fo σ σ')(A:zg σ0 σ)(hx:σ0.no≤x)(hf:σ0.no≤fo):zg σ0 σ':=⟨yai A.no K.no,yai A.nf K.nf,fun o ho=>by
 have:=A.no
 rw[K.obj o (by omega) (by omega) (by omega),A.obj o ho],fun f hf=>by
 have:=A.nf
 rw[K.fam f (by omega),A.fam f hf]⟩
section
variable {G : Env} {σ : AS} {R : Out → AS → Prop}
end
end Go.Proofs.YtohfclafhegadaaGreatDoor

namespace Go.Proofs.YtohfclafhegadaaGreatDoor
open Go Go.Abs
theorem zQ.adds0{x σ0 σ σ'}(K:zQ x σ σ')(A:zg σ0 σ)(hx:σ0.no≤x):zg σ0 σ':=⟨yai A.no K.no,yai A.nf K.nf,fun o ho=>by
 have:=A.no
 rw[K.obj o (by omega) (by omega),A.obj o ho],fun f hf=>by
 have:=A.nf
 rw[K.fam f (by omega),A.fam f hf]⟩
structure Fn(x mo fo:Nat)(C:List AV)(τ:AS):Prop where
 ob:τ.objs fo=some C
 lt:fo<τ.no
 fx:fo≠x
 fm:fo≠mo
section
variable {G : Env} {σ : AS} {R : Out → AS → Prop}
end
theorem zoF{v p}(h:Al.FVE v p):v.cells.length=5:=by
 obtain⟨pv,lv,tv,rfl,_⟩:=h
 rfl
section
variable {G : Env} {σ : AS} {R : Out → AS → Prop}
end
end Go.Proofs.YtohfclafhegadaaGreatDoor





namespace Go.Proofs.YtohfclafhegadaaGreatDoor
open Go Go.Abs
def zc2(ls:To):Nat:=(ls.map yce).sum
theorem zbo(a:To)(l:List W):zc2 (a++[l])=zc2 a+l.length:=by simp[zc2]
end Go.Proofs.YtohfclafhegadaaGreatDoor
set_option maxRecDepth 100000
namespace Go.Proofs.YtohfclafhegadaaGreatDoor.Hd
open Go Go.Abs Go.Proofs.YtohfclafhegadaaGreatDoor
theorem fok:zrm za5 zbB 176:=⟨by decide,by decide,by decide,by decide,by decide,⟨_,_,rfl,by decide⟩,by decide,by decide,by decide⟩
theorem fields_calls{G:Env}{σ:AS}{R:Out→AS→Prop}(v3:G.g 0=.pv (.stat true) (.agg zdP))(h:∀x σ',zg σ σ'→σ.no≤x→x<σ'.no→σ'.objs x=some (zbB.map ycr)→R (.ret (.slm x 0 1 47)) σ'):zzQ G 57 [.str za5] σ R:=zeL fok v3 h
end Go.Proofs.YtohfclafhegadaaGreatDoor.Hd
namespace Go.Proofs.YtohfclafhegadaaGreatDoor
open Go Go.Abs
def inS(l:List UInt8)(c:UInt8):Bool:=l.contains c
def zrs:List AV:=yaj 256 (.bool false)
theorem zcp:zrs.length=256:=yba ..
theorem zrt{i:Nat}(h:i<256):zrs[i]?=some (.bool false):=by
 unfold zrs
 rw[ycn,if_pos h]
theorem zur:zJ yb9 151=some (.agg zrs):=by kernel_rfl
attribute [simp] zur
def zef:List UInt8→List AV→List AV
 | [],cs=>cs
 | c::r,cs=>zef r (splice cs c.toNat [.bool true])
def zhI(l:List UInt8):List AV:=zef l zrs
theorem zhJ:∀(l:List UInt8) (cs:List AV),cs.length=256→(zef l cs).length=256
 | [],cs,h=>h
 | c::r,cs,h=>by
  have:=c.toNat_lt
  rw[zef]
  refine zhJ r _ ?_
  simp only[splice,yab,ybf,yac,ybl,yck]
  omega
theorem zdj(l:List UInt8):(zhI l).length=256:=zhJ l _ zcp
theorem zlj{cs:List AV}{i j:Nat}{v:AV}(hi:i<cs.length):(splice cs i [v])[j]?=if j=i then some v else cs[j]?:=by
 unfold splice
 by_cases h:j<i
 ·rw[ycL,List.getElem?_append_left (by simp;omega),List.getElem?_take_of_lt h,if_neg (by omega)]
 ·by_cases h2:j=i
  ·subst h2
   rw[ycL,yaI (by simp;omega)]
   have:j-(cs.take j).length=0:=by simp;omega
   rw[this];simp
  ·rw[yaI (by simp;omega),if_neg h2,List.getElem?_drop]
   congr 1
   simp;omega
theorem zhK:∀(l:List UInt8) (cs:List AV) (b:UInt8),cs.length=256→(zef l cs)[b.toNat]?=if l.contains b=true then some (.bool true)else cs[b.toNat]?
 | [],cs,b,h=>by simp[zef]
 | c::r,cs,b,h=>by
  have hc:=c.toNat_lt
  rw[zef,zhK r _ b (by simp only[splice,yab,ybf,yac,ybl,yck];omega),zlj (by omega)]
  by_cases h1:r.contains b=true
  ·simp[h1]
   simp at h1
   simp[h1]
  ·by_cases h2:b=c
   ·subst h2;simp
   ·have:¬b.toNat=c.toNat:=fun e=>h2 (UInt8.toNat_inj.1 e)
    simp at h1
    simp[h1,h2,this]
theorem zru(l:List UInt8)(b:UInt8):(zhI l)[b.toNat]?=some (.bool (inS l b)):=by
 have:=b.toNat_lt
 rw[zhI,zhK l _ b zcp,zrt this]
 unfold inS
 cases l.contains b<;>rfl
theorem zhL{cs:List AV}{i:Nat}{v:AV}(h:∀x∈cs,x.one=true)(hv:v.one=true):∀x∈splice cs i [v],x.one=true:=by
 intro x hx
 unfold splice at hx
 simp only[ybh,ycF]at hx
 rcases hx with (hx|hx)|hx
 ·exact h x (List.mem_of_mem_take hx)
 ·rw[hx];exact hv
 ·exact h x (List.mem_of_mem_drop hx)
theorem zhM:∀(l:List UInt8) (cs:List AV),(∀x∈cs,x.one=true)→∀x∈zef l cs,x.one=true
 | [],_,h=>h
 | c::r,cs,h=>zhM r _ (zhL h rfl)
theorem ziS(l:List UInt8):∀x∈zhI l,x.one=true:=zhM l _ fun x hx=>by rw[(ycQ.1 hx).2];rfl
theorem zgz:yci 256 zrs=[]:=ycG (by rw[zcp];exact yah _)
section
variable {G : Env} {σ : AS} {R : Out → AS → Prop}
def AsI(l:List UInt8)(σ:AS)(a:Nat→AV)(τ:AS):Prop:=∃(d r:List UInt8),l=d++r∧a 0=.str l∧a 2=.ptr σ.no 0∧a 4=.int .i64 (d.length:Int)∧zg σ τ∧σ.no<τ.no∧∃cs,cs.length=256∧(∀x∈cs,x.one=true)∧τ.objs σ.no=some cs∧zef r cs=zhI l
theorem zcq{l:List UInt8}(hl:∀c∈l,c.toNat<128)(hL:l.length≤1000)(h:∀σ',zg σ σ'→R (.ret (.tuple [.agg (zhI l),.bool true])) σ'):zzQ G 122 [.str l] σ R:=by
 refine zqr rfl ?_
 simp[zxb]
 refine zae (AsI l σ) (MU 4 (l.length+1)) ⟨[],l,rfl,by simp,by simp,by simp,(zg.refl σ).newO,by simp,zrs,zcp,fun x hx=>by rw[(ycQ.1 hx).2];rfl,by simp,rfl⟩ fun a τ hI=>?_
 obtain⟨d,r,hlr,a0,a2,a4,hA,hno,cs,hcs,hone,ho,he⟩:=hI
 cases r with
 | nil =>
  have hd:d=l:=by simp[hlr]
  subst hd
  have hlt:¬((d.length:Int)<(d.length:Int)):=by omega
  have e1:cs=zhI d:=he
  subst e1
  have ht:ycR 256 (zhI d)=zhI d:=ycS (by rw[hcs];exact yah _)
  simp[ziv,zlP,a0,a2,a4,hlt,ho,hcs,splice,ht]
  exact⟨hone,h _ (hA.setO (yah _))⟩
 | cons c r =>
  have hc:=hl c (by simp[hlr])
  have hlt:(d.length:Int)<(l.length:Int):=by simp[hlr];omega
  have hi:l[d.length]?=some c:=by simp[hlr]
  have hc2:¬(128:Int)≤(c.toNat:Int):=by omega
  have w1:yb4 .i64 ((d.length:Int)+1)=((d.length+1:Nat):Int):=by rw[wrap_i64]<;>omega
  simp[ziv,a0,a2,a4,hlt,ho,hcs,hi,hc2,w1]
  refine⟨by omega,by omega,⟨d++[c],r,by simp[hlr],by simp[a0],by simp[a2],by simp,hA.setO (yah _),by simpa using hno,_,?_,zhL hone rfl,by simp,he⟩,?_⟩
  ·simp only[splice,yab,ybf,yac,ybl,yck]
   omega
  ·simp[MU,a4];omega
theorem zgA{l:List UInt8}{o:Nat}{b:UInt8}(ho:σ.objs o=some (zhI l))(h:R (.ret (.bool (inS l b))) σ):zzQ G 172 [.ptr o 0,.int .u8 (b.toNat:Int)] σ R:=by
 refine zqO rfl ?_
 have hb:=b.toNat_lt
 have hb':(b.toNat:Int)<256:=by omega
 have hp:=zru l b
 simp[zxp,ho,hb',hp]
 simpa using h
def TlI(l s:List UInt8)(o:Nat)(σ:AS)(a:Nat→AV)(τ:AS):Prop:=∃r:List UInt8,r.dropWhile (inS l)=s.dropWhile (inS l)∧a 0=.str r∧a 1=.ptr o 0∧τ=σ
def zCf(a:Nat→AV)(_:AS):Nat:=match a 0 with
 | .str r=>r.length
 | _=>0
theorem zfb{l s:List UInt8}{o:Nat}(ho:σ.objs o=some (zhI l))(h:R (.ret (.str (s.dropWhile (inS l)))) σ):zzQ G 123 [.str s,.ptr o 0] σ R:=by
 refine zqs rfl ?_
 simp[zxc]
 refine zae (TlI l s o σ) zCf ⟨s,rfl,by simp,by simp,rfl⟩ fun a τ hI=>?_
 obtain⟨r,hr,a0,a1,rfl⟩:=hI
 cases r with
 | nil =>
  simp[ziw,zix,a0,a1]
  rw[←hr]at h
  exact h
 | cons c r =>
  simp[ziw,zix,a0,a1]
  refine zgA ho ?_
  rw[ycH]at hr
  cases hc:inS l c with
  | true =>
   rw[if_pos hc]at hr
   simp[hc,a0,a1]
   exact⟨by omega,⟨r,hr,by simp,by simp[a1],rfl⟩,by simp[zCf,a0]⟩
  | false =>
   rw[if_neg (by simp[hc])]at hr
   rw[←hr]at h
   simp[hc,a0,a1]
   exact h
theorem zlk{l s:List UInt8}(hl:∀c∈l,c.toNat<128)(h2:2≤l.length)(hL:l.length≤1000)(h:∀σ',zg σ σ'→R (.ret (.str (s.dropWhile (inS l)))) σ'):zzQ G 167 [.str s,.str l] σ R:=by
 refine zqL rfl ?_
 have hne:¬l=[]:=by intro e;rw[e]at h2;simp at h2
 have h1:¬(l.length:Int)=1:=by omega
 cases s with
 | nil =>
  simp[zt9]
  exact h _ (.refl _)
 | cons c s =>
  simp[zt9,hne,h1]
  refine zcq hl hL fun σ1 A1=>?_
  have ht:ycR 256 (zhI l)=zhI l:=ycS (by rw[zdj];exact yah _)
  have hl6:=zdj l
  simp[hl6,splice,ht,zcp,zgz]
  refine⟨ziS l,zfb (l:=l) (by simp) ?_⟩
  simp
  exact h _ (A1.newO.setO A1.no)
def zfu(p:UInt8→Bool)(s:List UInt8):List UInt8:=(s.reverse.dropWhile p).reverse
theorem znc(p:UInt8→Bool)(s:List UInt8)(c:UInt8):zfu p (s++[c])=if p c=true then zfu p s else s++[c]:=by
 unfold zfu
 rw[ycw]
 simp only[List.reverse_cons,List.reverse_nil,ycK,List.singleton_append,ycH]
 split<;>simp
def TrI(l s:List UInt8)(o:Nat)(σ:AS)(a:Nat→AV)(τ:AS):Prop:=∃r:List UInt8,r.length≤s.length∧zfu (inS l) r=zfu (inS l) s∧a 0=.str r∧a 1=.ptr o 0∧τ=σ
theorem zj6{l s:List UInt8}{o:Nat}(hs:s.length<2^62)(ho:σ.objs o=some (zhI l))(h:R (.ret (.str (zfu (inS l) s))) σ):zzQ G 124 [.str s,.ptr o 0] σ R:=by
 refine zqt rfl ?_
 simp[zxd]
 refine zae (TrI l s o σ) zCf ⟨s,yah _,rfl,by simp,by simp,rfl⟩ fun a τ hI=>?_
 obtain⟨r,hrl,hr,a0,a1,rfl⟩:=hI
 rcases ybL r with rfl|⟨r',c,rfl⟩
 ·simp[ziy,ziz,a0,a1]
  rw[←hr]at h
  exact h
 ·rw[ycT]at *
  have w1:yb4 .i64 (r'.length:Int)=(r'.length:Int):=by rw[wrap_i64]<;>simp at hrl<;>omega
  have hlt:(0:Int)<(r'.length:Int)+1:=by omega
  simp[ziy,ziz,a0,a1,w1,hlt]
  refine zgA ho ?_
  rw[znc]at hr
  cases hc:inS l c with
  | true =>
   rw[if_pos hc]at hr
   simp[hc,a0,a1,w1]
   exact⟨by omega,⟨r',by simp at hrl;omega,hr,by simp,by simp[a1],rfl⟩,by simp[zCf,a0]⟩
  | false =>
   rw[if_neg (by simp[hc])]at hr
   rw[←hr]at h
   simp[hc,a0,a1]
   exact h
def zj7(l s:List UInt8):List UInt8:=(zfu (inS l) s).dropWhile (inS l)
theorem zc3{p:UInt8→Bool}:∀{s:List UInt8},s.dropWhile p=[]↔s.all p=true
 | []=>by simp
 | c::r=>by
  rw[ycH]
  cases h:p c with
  | true=>simp only[if_true,yca,h,Bool.true_and];exact zc3
  | false=>simp[h]
theorem zb1(l s:List UInt8):zj7 l s=[]↔s.all (inS l)=true:=by
 unfold zj7
 rw[zc3]
 constructor
 ·intro h
  have hd:∀c∈zfu (inS l) s,inS l c=true:=yaM.1 h
  rcases ybL (zfu (inS l) s)with e|⟨d,x,e⟩
  ·unfold zfu at e
   rw[List.reverse_eq_nil_iff,zc3]at e
   rw[yaM]at e ⊢
   exact fun c hc=>e c (by simpa using hc)
  ·rw[ycT]at e
   have hx:inS l x=true:=hd x (by rw[e];simp)
   have e2:s.reverse.dropWhile (inS l)=x::d.reverse:=by
    have:=congrArg List.reverse e
    unfold zfu at this
    simpa using this
   have:=List.head?_dropWhile_not (inS l) s.reverse
   rw[e2]at this
   simp at this hx
   rw[this]at hx;cases hx
 ·intro h
  rw[yaM]at h ⊢
  intro c hc
  unfold zfu at hc
  rw[List.mem_reverse]at hc
  exact h c (by have:=(ycd _).mem hc;simpa using this)
theorem zeP{l s:List UInt8}(hl:∀c∈l,c.toNat<128)(h2:2≤l.length)(hL:l.length≤1000)(hs:s.length<2^62)(h:∀σ',zg σ σ'→R (.ret (.str (zj7 l s))) σ'):zzQ G 62 [.str s,.str l] σ R:=by
 refine ztW rfl ?_
 have hne:¬l=[]:=by intro e;rw[e]at h2;simp at h2
 have h1:¬(l.length:Int)=1:=by omega
 cases s with
 | nil =>
  simp[zC3]
  exact h _ (.refl _)
 | cons c s =>
  simp[zC3,hne,h1]
  refine zcq hl hL fun σ1 A1=>?_
  have ht:ycR 256 (zhI l)=zhI l:=ycS (by rw[zdj];exact yah _)
  have hl6:=zdj l
  simp[hl6,splice,ht,zcp,zgz]
  refine⟨ziS l,zj6 (l:=l) hs (by simp) ?_⟩
  simp
  refine zfb (l:=l) (by simp) ?_
  simp
  exact h _ (A1.newO.setO A1.no)
def zkr(l s:List UInt8):Int:=match s.findIdx? (inS l)with
 | some i=>i
 | none=>-1
def IaI(l s:List UInt8)(σ:AS)(σ1:AS)(a:Nat→AV)(τ:AS):Prop:=∃(d r:List UInt8),s=d++r∧(∀c∈d,inS l c=false)∧a 0=.str s∧a 6=.ptr σ1.no 0∧a 8=.int .i64 (d.length:Int)∧τ=(σ1.newO zrs).setO σ1.no (zhI l)
theorem zoG{l d r:List UInt8}{c:UInt8}(hd:∀c∈d,inS l c=false)(hc:inS l c=true):zkr l (d++c::r)=d.length:=by
 unfold zkr
 rw[List.findIdx?_append,ycU.2 hd]
 simp[List.findIdx?_cons,hc]
theorem zj8{l s:List UInt8}(h:∀c∈s,inS l c=false):zkr l s=-1:=by
 unfold zkr
 rw[ycU.2 h]
theorem zgB{l s:List UInt8}(hl:∀c∈l,c.toNat<128)(h2:2≤l.length)(hL:l.length≤1000)(h8:8<s.length)(hs:s.length<2^62)(h:∀σ',zg σ σ'→R (.ret (.int .i64 (zkr l s))) σ'):zzQ G 168 [.str s,.str l] σ R:=by
 refine zlV rfl ?_
 have hne:¬l=[]:=by intro e;rw[e]at h2;simp at h2
 have h1:¬(l.length:Int)=1:=by omega
 have h8':(8:Int)<(s.length:Int):=by omega
 simp[zua,hne,h1]
 refine zlZ rfl ?_
 simp[zuc,h8']
 refine zcq hl hL fun σ1 A1=>?_
 have ht:ycR 256 (zhI l)=zhI l:=ycS (by rw[zdj];exact yah _)
 have hl6:=zdj l
 simp[hl6,splice,ht,zcp,zgz]
 refine⟨ziS l,?_⟩
 have A2:zg σ ((σ1.newO zrs).setO σ1.no (zhI l)):=A1.newO.setO A1.no
 refine zae (IaI l s σ σ1) (MU 8 (s.length+1)) ⟨[],s,rfl,by simp,by simp,by simp,by simp,rfl⟩ fun a τ hI=>?_
 obtain⟨d,r,hsr,hd,a0,a6,a8,rfl⟩:=hI
 cases r with
 | nil =>
  have e:d=s:=by simp[hsr]
  subst e
  simp[ziB,zlS,a0,a6,a8]
  rw[←zj8 hd]
  exact h _ A2
 | cons c r =>
  have hlt:(d.length:Int)<(s.length:Int):=by simp[hsr];omega
  have hi:s[d.length]?=some c:=by simp[hsr]
  have w1:yb4 .i64 ((d.length:Int)+1)=((d.length+1:Nat):Int):=by rw[wrap_i64]<;>omega
  simp[ziB,a0,a6,a8,hlt,hi]
  refine zgA (l:=l) (by simp) ?_
  cases hc:inS l c with
  | true =>
   simp[hc,a0,a6,a8]
   have:=zoG (r:=r) hd hc
   rw[hsr]at h
   rw[←this]
   exact h _ A2
  | false =>
   simp[hc,a0,a6,a8,w1]
   refine⟨⟨d++[c],r,by simp[hsr],?_,by simp[a0],by simp[a6],by simp,rfl⟩,?_⟩
   ·intro x hx
    rcases ybh.1 hx with hx|hx
    ·exact hd x hx
    ·simp at hx;subst hx;exact hc
   ·simp[MU,a8];omega
end
end Go.Proofs.YtohfclafhegadaaGreatDoor
