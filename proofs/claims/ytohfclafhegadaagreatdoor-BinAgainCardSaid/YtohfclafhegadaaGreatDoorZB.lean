/- Parts of the proof of the row BinAgain: contracts of functions, each under the conditions that its theorem names. -/
import Derived.Test.YtohfclafhegadaaGreatDoorZA
import Derived.Test.YtohfclafhegadaaGreatDoorShelf
set_option linter.unusedSimpArgs false
set_option linter.unusedVariables false
set_option maxRecDepth 100000
open List renaming replicate→yaj,cons_append→ycP,nil_append→ycQ,find?_some→ycZ,mem_of_find?_eq_some→yc0,prefix_append→yc1,append_assoc→yc2,prefix_refl→yc3,getElem?_eq_some_iff→yaq,getElem?_append_left→yat,getElem?_append_right→yaI,mem_append→ybh,mem_singleton→ycD,getElem?_eq_getElem→yau,length_cons→yac,length_append→yab,length_nil→ybl,flatten_cons→yc4,mem_cons→ybC,mem_replicate→yc5,map_cons→yaL,length→yce,getElem_mem→yaw,mem_of_getElem?→yct,getElem?_set_ne→yc7,all_eq_true→yaM,take_length→ycn,dropWhile_cons→yc8,contains_cons→yc9,contains_nil→yda,append_nil→yb7,map_nil→ydb,take→ycJ,take_of_length_le→ycE,findIdx?_cons→ydf,find?_eq_none→ycK,findIdx?_eq_some_iff_getElem→ycL,flatMap_cons→yaa,length_replicate→yba,ext_getElem?→ydg,getElem?_set_self→ydh,length_map→ybb
open Nat renaming shiftLeft_eq→ycN,mod_eq_of_lt→ycO,mul_comm→ycR,lt_of_le_of_lt→ycS,mod_le→ycT,mul_le_mul_right→yax,mul_assoc→ycU,zero_add→ycX,le_refl→yah,le_trans→yai,lt_of_lt_of_le→yag,le_succ_of_le→ydc,mod_lt→yde,min→ybx
open Option renaming some→yaR,bind_some→ycY,map_eq_some_iff→ybB,map_some→yaG,bind_eq_some_iff→ybA
open Array renaming getElem?_eq_some_iff→yaU
open Int renaming natCast_pow→ycV,natCast_mul→ybd,mul_comm→ycW,toNat_natCast→ybe
open Go.Proofs.Tryz renaming prog→yb9
open Go.IntKind renaming wrap→yb4,i64→yam,signed→yao,bits→yap,u8→yc6,u64→ydd
open Go.Abs.AV renaming int→ycp,str→yco
namespace Go.Proofs.YtohfclafhegadaaGreatDoor
open Go Go.Abs
def zeq(w:W):List UInt8 :=
 if w.op=1 then sI w.n
 else if w.op=2∨w.op=3∨w.op=10∨w.op=14∨w.op=15 then uI w.n
 else if w.op=8∨w.op=9 then [0,0]else []
def zkc(w:W):Option UInt8:=if w.op=4 then zrm w else((zag++zf8).find? (zdC w)).map (·.1)
theorem zrp{w:W}{c:UInt8}(h:zkc w=some c):zrm w=some c:=by
 unfold zkc at h
 split at h
 ·exact h
 ·rename_i h4
  rw[zrm,if_neg h4,zkb,h]
  rfl
def zbj(w:W):Bool:=decide (w.op=11)||decide (w.op=12)||decide (w.op=13)
def ztn(rec:Int→Option (List UInt8))(w:W):Option (List UInt8) :=
 if zbj w=true then
  (rec w.body).bind fun b =>
   if w.op=13∧0≤w.other then(rec w.other).map fun o=>zaw (w.op-9)::64::(b++5::(o++[11]))
   else some (zaw (w.op-9)::64::(b++[11]))
 else(zkc w).map fun c=>c::zeq w
def zjd(rec:Int→Option (List UInt8)):List W→Option (List UInt8)
 | []=>some []
 | w::r=>(ztn rec w).bind fun a=>(zjd rec r).map (a++·)
def zmg(ls:To):Nat→Int→Option (List UInt8)
 | 0,_=>none
 | k+1,at_=>if at_<0 then none else match ls[at_.toNat]? with
  | none=>none
  | some ws=>zjd (zmg ls k) ws
def zmh(f:F):Option (List UInt8):=(zmg f.lists f.lists.length ((f.lists.length:Int)-1)).map fun b=>zx (zdi f.locals++b++[11])
def zce:List F→Option (List (List UInt8))
 | []=>some []
 | f::r=>(zmh f).bind fun a=>(zce r).map (a::·)
def zph(s:List UInt8)(i:UInt8):List UInt8:=zx [101,110,118]++zx s++[0,i]
def zak:List (List UInt8):=[zph [105,110] 0,zph [111,117,116] 1,zph [116,114,97,112] 2]
def zat(fs:List F):List (List UInt8):=[zd1 [] 2,zd1 [2] 0,zd1 [1] 0]++fs.map fun f=>zd1 f.params f.type
def zcf:Int→List F→List (List UInt8)
 | _,[]=>[]
 | i,_::r=>uI i::zcf (i+1) r
def zap:Int→List F→List (List UInt8)
 | _,[]=>[]
 | i,f::r=>(uI i++zx f.name)::zap (i+1) r
def zhK:List UInt8:=[0,97,115,109,1,0,0,0]
def zhi(m:M):Int:=yb4 .i64 (m.main+3)
def zto(m:M):Option (List UInt8):=(zce m.funcs).map fun codes =>
 zhK++(zj 1 (zbO (zat m.funcs))++(zj 2 (zbO zak)++(zj 3 (zbO (zcf 3 m.funcs))++(zj 5 [1,0,1] ++
  (zj 6 ([1,127,0,65]++sI m.memory++[11])++(zj 7 ([1]++zx [109,97,105,110]++[0]++uI (zhi m))++(zj 10 (zbO codes) ++
   zj 0 (zx [110,97,109,101]++[1]++zx (zbO (zap 3 m.funcs))))))))))
structure Rs where
 b:List UInt8
 ls:To
 n:Nat
def zcR(n:Int)(s:Rs):Option (List UInt8 × Rs):=if 0≤n∧n≤s.b.length then some (s.b.take n.toNat,{ s with b:=s.b.drop n.toNat })else none
def zcr(s:Rs):Option (UInt8 × Rs):=match s.b with
 | []=>none
 | c::r=>some (c,{ s with b:=r })
def zGN(u:Nat):Int:=yb4 .i64 (u:Int)
def orS(u:Nat)(x:Nat)(k:Nat):Nat:=(u ||| (x <<< k))%2^64
def zmi(signed:Bool):Nat→Nat→Nat→List UInt8→Option (Int × List UInt8)
 | 0,_,_,_=>none
 | _+1,_,_,[]=>none
 | k+1,sh,u,c::r =>
  let v:=orS u (c.toNat%128) sh
  if c.toNat<128 then some (zGN (if signed=true∧64≤c.toNat∧sh<57 then orS v (2^64-1) (sh+7)else v),r)
  else zmi signed k (sh+7) v r
def zBx(sg:Bool)(n:Int):List UInt8:=if sg=true then sI n else uI n
def zdq(st sg:Bool)(s:Rs):Option (Int × Rs):=(zmi sg 10 0 0 s.b).bind fun p =>
 if st=true∧(s.b≠zBx sg p.1++p.2∨(sg=false∧p.1<0))then none else some (p.1,{ s with b:=p.2 })
def zb8{α:Type}(f:Rs→Option (α × Rs)):Nat→Rs→Option (List α × Rs)
 | 0,s=>some ([],s)
 | n+1,s=>(f s).bind fun p=>(zb8 f n p.2).map fun q=>(p.1::q.1,q.2)
def zdD(st:Bool)(s:Rs):Option (Int × Rs):=(zcr s).bind fun p=>if st=true∧p.1≠126∧p.1≠127 then none else some (128-(p.1.toNat:Int),p.2)
def zek(st:Bool)(s:Rs):Option (List Int × Rs):=(zdq st false s).bind fun p=>zb8 (zdD st) p.1.toNat p.2
def zE(n:UInt8)(s:Rs):Option Rs:=(zcr s).bind fun p=>if p.1=n then(zdq false false p.2).map (·.2)else none
def zb2(l:List (UInt8 × W))(c:UInt8):Option W:=(l.find? (fun p=>p.1==c)).map (·.2)
def znt(ty:Int)(i:Nat):W:={ op:=4,ty:=ty,n:=0,body:=0,other:=0,name:=zaf.getD i [] }
def zhj(c:UInt8):Option W:=match zpd.findIdx? (·==c)with
 | some i=>some (znt 1 i)
 | none=>match zpe.findIdx? (·==c)with
  | some i=>some (znt 2 i)
  | none=>none
def zcg(op b o:Int):W:={ op:=op,ty:=0,n:=0,body:=b,other:=o,name:=[] }
abbrev zNP:=Nat→Rs→Option ((Int × UInt8) × Rs)
def zb3(rec:zNP)(d:Nat)(c:UInt8)(s:Rs):Option (W × Rs):=(zcr s).bind fun p=>(rec (d+1) p.2).bind fun q =>
 if c.toNat=4 then
  if q.1.2=5 then(rec (d+1) q.2).map fun r=>(zcg 13 q.1.1 r.1.1,r.2)else some (zcg 13 q.1.1 (-1),q.2)
 else some (zcg ((c.toNat:Int)+9) q.1.1 0,q.2)
def zgA(st:Bool)(c:UInt8)(s:Rs):Option (W × Rs):=match zb2 zf8 c with
 | some w=>(zdq st (decide (w.op=1)) s).map fun p=>({ w with n:=p.1 },p.2)
 | none=>match zb2 zag c with
  | some w=>if w.op=8∨w.op=9 then(zcR 2 s).map fun p=>(w,p.2)else some (w,s)
  | none=>(zhj c).map fun w=>(w,s)
def zbk(st:Bool)(rec:zNP)(d:Nat)(c:UInt8)(s:Rs):Option (W × Rs) :=
 if 2≤c.toNat∧c.toNat≤4 then if d<400 then zb3 rec d c s else none else zgA st c s
def zX(st:Bool):Nat→Nat→List W→Rs→Option ((Int × UInt8) × Rs)
 | 0,_,_,_=>none
 | k+1,d,l,s=>(zcr s).bind fun p =>
  if p.1=11∨p.1=5 then some (((p.2.ls.length:Int),p.1),{ p.2 with ls:=p.2.ls++[l] })
  else(zbk st (fun d s=>zX st k d [] s) d p.1 p.2).bind fun q=>zX st k d (l++[q.1]) q.2
def zbT(st:Bool)(s:Rs):Option (List Int × Rs):=(zdq st false s).bind fun p =>
 if 0≤p.1∧p.1≤65536-(p.2.n:Int)then(zdD st { p.2 with n:=p.2.n+p.1.toNat }).map fun q=>(yaj p.1.toNat q.1,q.2)else none
def z9(st:Bool)(f:F)(s:Rs):Option (F × Rs):=(zdq st false s).bind fun p=>(zdq st false p.2).bind fun q=>(zb8 (zbT st) q.1.toNat q.2).bind fun l =>
 (zX st (l.2.b.length+1) 0 [] { l.2 with ls:=[] }).map fun r=>({ f with locals:=f.locals++l.1.flatten,lists:=r.2.ls },r.2)
def zdE(st:Bool)(s:Rs):Option (F × Rs):=(zcr s).bind fun p=>(zek st p.2).bind fun q=>(zek st q.2).map fun r =>
 ({ name:=[],params:=q.1,locals:=[],type:=r.1.headD 0,lists:=[] },r.2)
def zda(s:Rs):Option (List F × Rs):=(zE 1 s).bind fun s=>(zdq false false s).bind fun p=>(zb8 (zdE false) p.1.toNat p.2).bind fun q =>
 if 3≤q.1.length then some (q.1.drop 3,q.2)else none
def zaT(n:Int)(s:Rs):Option Rs:=(zcR n s).map (·.2)
def zF(st:Bool):List F→Rs→Option (List F × Rs)
 | [],s=>some ([],s)
 | f::r,s=>(z9 st f s).bind fun p=>(zF st r p.2).map fun q=>(p.1::q.1,q.2)
def zeT(st:Bool):List F→Rs→Option (List F × Rs)
 | [],s=>some ([],s)
 | f::r,s=>(zdq st false s).bind fun p=>(zdq st false p.2).bind fun q=>(zcR q.1 q.2).bind fun t=>(zeT st r t.2).map fun u=>({ f with name:=t.1 }::u.1,u.2)
def zje(s:Rs):Option ((List F × Int × Int) × Rs):=(zaT 8 s).bind fun s=>(zda s).bind fun h=>(zE 2 h.2).bind fun s=>(zaT 1 s).bind fun s=>(zaT 9 s).bind fun s=>(zaT 10 s).bind fun s=>(zaT 11 s).bind fun s =>
 (zE 3 s).bind fun s=>(zdq false false s).bind fun p=>(zb8 (zdq false false) p.1.toNat p.2).bind fun r=>(zE 5 r.2).bind fun s=>(zaT 3 s).bind fun s=>(zE 6 s).bind fun s=>(zaT 4 s).bind fun s =>
 (zdq false true s).bind fun mem=>(zaT 1 mem.2).bind fun s=>(zE 7 s).bind fun s=>(zaT 7 s).bind fun s=>(zdq false false s).map fun mn=>((h.1,mem.1,mn.1),mn.2)
def zmj(h:List F)(s:Rs):Option (List F × Rs):=(zE 10 s).bind fun s=>(zdq false false s).bind fun c =>
 if c.1=h.length then(zF false h c.2).bind fun fs=>(zE 0 fs.2).bind fun s=>(zaT 6 s).bind fun s=>(zdq false false s).bind fun x=>(zdq false false x.2).bind fun y =>
  if y.1=h.length then zeT false fs.1 y.2 else none
 else none
def zb4(s:Rs):Option (M × Rs):=(zje s).bind fun p=>(zmj p.1.1 p.2).map fun q=>({ funcs:=q.1,memory:=p.1.2.1,main:=yb4 .i64 (p.1.2.2-3) },q.2)
def zoc(t:Int):Bool:=decide (t≠1)&&decide (t≠2)
def zdF(f:F):Bool:=!(f.params.any zoc||(f.locals.any zoc||(decide (f.type≠0)&&zoc f.type)))
def zaJ(w:W):Bool:=decide (w.n<0)&&decide (w.op≠1)
def zhk(m:M):Bool:=decide (-3≤m.main)&&!(m.funcs.any fun f=>f.lists.any fun l=>l.any zaJ)
def zd3(b:List UInt8):Option M:=(zb4 ⟨b,[],0⟩).bind fun p=>if p.2.b=[]∧p.1.funcs.all zdF=true∧zhk p.1=true∧zto p.1=some b then some p.1 else none
theorem zcJ{a b:Int}(h:a%2^64=b%2^64):yb4 .i64 a=yb4 .i64 b:=by
 have h':a%(2^yam.bits:Int)=b%(2^yam.bits:Int):=h
 unfold yb4
 rw[h']
theorem zfH{u x k:Nat}(h:u<2^k):orS u x k=(u+x*2^k)%2^64:=by
 unfold orS
 rw[Nat.or_comm,←Nat.shiftLeft_add_eq_or_of_lt h,ycN,Nat.add_comm]
theorem zwC{m:Nat}(h:m≤127):(zaw (m:Int)).toNat=m:=by
 have:=zbI (m:Int)
 omega
theorem zGO(b:UInt8):(b ||| 128).toNat=128+b.toNat%128:=by
 have:∀k:Fin 256,(UInt8.ofNat k.1 ||| 128).toNat=128+k.1%128:=by decide
 have:=this ⟨b.toNat,b.toNat_lt⟩
 simpa using this
theorem zx7(b:UInt8):(b &&& 127).toNat=b.toNat%128:=by
 have:∀k:Fin 256,(UInt8.ofNat k.1 &&& 127).toNat=k.1%128:=by decide
 have:=this ⟨b.toNat,b.toNat_lt⟩
 simpa using this
theorem zGP(k:Nat):2^(k+7)=2^k*128:=by rw[Nat.pow_add]
theorem zx8:∀(k sh u m:Nat) (rest:List UInt8),m<128^k→u<2^sh→1≤k→zmi false k sh u (uF k (m:Int)++rest)=some (yb4 .i64 ((u+m*2^sh:Nat):Int),rest)
 | 0,_,_,_,_,_,_,h=>by omega
 | k+1,sh,u,m,rest,hm,hu,_=>by
  rw[uF]
  by_cases h:m≤127
  ·have h':(m:Int)≤127:=by omega
   rw[if_pos h']
   have hb:=zwC h
   have hl:m<128:=by omega
   have hm':m%128=m:=ycO hl
   simp only[ycP,ycQ,zmi,hb,hl,if_true,hm',zGN,Bool.false_eq_true,false_and,if_false]
   rw[zfH hu]
   congr 2
   exact zcJ (by omega)
  ·have h':¬(m:Int)≤127:=by omega
   rw[if_neg h']
   have hb:(zaw (m:Int) ||| 128).toNat=128+m%128:=by
    rw[zGO]
    have:=zbI (m:Int)
    omega
   have hl:¬128+m%128<128:=by omega
   have hm':(128+m%128)%128=m%128:=by omega
   have hd:(m:Int)/128=((m/128:Nat):Int):=by omega
   have hk:1≤k:=by
    rcases Nat.eq_zero_or_pos k with rfl|h
    ·simp at hm;omega
    ·exact h
   have hlt:m/128<128^k:=by
    rw[Nat.pow_succ]at hm
    exact Nat.div_lt_of_lt_mul (by rw[ycR];exact hm)
   simp only[ycP,zmi,hb,hl,if_false,hm',hd]
   have hv:orS u (m%128) sh<2^(sh+7):=by
    rw[zfH hu]
    have hp:=zGP sh
    refine ycS (ycT _ _) ?_
    have:m%128*2^sh≤127*2^sh:=yax _ (by omega)
    omega
   rw[zx8 k (sh+7) _ (m/128) rest hlt hv hk]
   congr 2
   refine zcJ ?_
   rw[zfH hu,zGP sh]
   have e:m*2^sh=m%128*2^sh+m/128*(2^sh*128):=by
    conv=>lhs;rw[←Nat.mod_add_div m 128]
    rw[Nat.add_mul,ycR 128,ycU,ycR 128]
   rw[e]
   clear hv hl hb hm' hd hm h h' hlt e
   generalize m%128*2^sh=x
   generalize m/128*(2^sh*128)=y
   omega
theorem zx9:∀(k sh u:Nat) (n:Int) (rest:List UInt8),-(64*128^k)≤n→n<64*128^k→u<2^sh→zmi true (k+1) sh u (sF (k+1) n++rest)=some (yb4 .i64 ((u:Int)+n*2^sh),rest)
 | k,sh,u,n,rest,h1,h2,hu=>by
  rw[sF]
  by_cases h:-64≤n∧n≤63
  ·rw[if_pos h]
   have hb:((zaw n &&& 127).toNat:Int)=n%128:=by
    rw[zx7]
    have:=zbI n
    omega
   have hl:(zaw n &&& 127).toNat<128:=by omega
   generalize hc:(zaw n &&& 127).toNat=c at *
   have hm':c%128=c:=ycO hl
   simp only[ycP,ycQ,zmi,hc,hl,if_true,hm',zGN,true_and]
   have hp:(0:Int)<2^sh:=by exact_mod_cast Nat.two_pow_pos sh
   have he:((2^sh:Nat):Int)=2^sh:=by simp
   by_cases hx:64≤c
   ·have hn:n=(c:Int)-128:=by omega
    by_cases hs:sh<57
    ·rw[if_pos ⟨hx,hs⟩]
     have hv:orS u c sh<2^(sh+7):=by
      rw[zfH hu]
      have hp:=zGP sh
      refine ycS (ycT _ _) ?_
      have:c*2^sh≤127*2^sh:=yax _ (by omega)
      omega
     congr 2
     refine zcJ ?_
     rw[zfH hv,zfH hu,zGP sh,hn]
     have e:((c:Int)-128)*2^sh=((c*2^sh:Nat):Int)-((2^sh*128:Nat):Int):=by
      have hP:(2:Int)^sh=((2^sh:Nat):Int):=by rw[ycV];rfl
      rw[hP,Int.sub_mul,ybd c,ybd (2^sh) 128,ycW 128]
      rfl
     rw[e]
     generalize c*2^sh=x
     have e2:(2^64-1)*(2^sh*128)+(2^sh*128)=2^64*(2^sh*128):=by omega
     generalize 2^sh*128=y at *
     omega
    ·rw[if_neg (fun h=>hs h.2)]
     congr 2
     refine zcJ ?_
     rw[zfH hu,hn]
     obtain⟨j,rfl⟩:∃j,sh=57+j:=⟨sh-57,by omega⟩
     have e0:128*2^(57+j)=2^64*2^j:=by
      rw[Nat.pow_add,←ycU]
     have e:((c:Int)-128)*2^(57+j)=((c*2^(57+j):Nat):Int)-((2^64*2^j:Nat):Int):=by
      have hP:(2:Int)^(57+j)=((2^(57+j):Nat):Int):=by rw[ycV];rfl
      rw[hP,←e0,Int.sub_mul,ybd c,ybd 128]
      rfl
     rw[e]
     generalize c*2^(57+j)=x
     generalize 2^j=y at *
     omega
   ·rw[if_neg (fun h=>hx h.1)]
    have hn:n=(c:Int):=by omega
    congr 2
    refine zcJ ?_
    rw[zfH hu,hn]
    have hP:(2:Int)^sh=((2^sh:Nat):Int):=by rw[ycV];rfl
    rw[hP,←ybd]
    generalize c*2^sh=x
    omega
  ·rw[if_neg h]
   obtain⟨k,rfl⟩:∃j,k=j+1:=by
    cases k with
    | zero=>simp at h1 h2;omega
    | succ k=>exact⟨k,rfl⟩
   have hb:((zaw n ||| 128).toNat:Int)=128+n%128:=by
    rw[zGO]
    have:=zbI n
    omega
   generalize hc:(zaw n ||| 128).toNat=c at *
   have hl:¬c<128:=by omega
   have hlt:n/128<64*128^k:=by
    rw[Int.pow_succ]at h2
    omega
   have hle:-(64*128^k)≤n/128:=by
    rw[Int.pow_succ]at h1
    omega
   rw[ycP,zmi]
   simp only[hc,hl,if_false]
   have hv:orS u (c%128) sh<2^(sh+7):=by
    rw[zfH hu]
    have hp:=zGP sh
    refine ycS (ycT _ _) ?_
    have:c%128*2^sh≤127*2^sh:=yax _ (by omega)
    omega
   rw[zx9 k (sh+7) _ (n/128) rest hle hlt hv]
   congr 2
   refine zcJ ?_
   rw[zfH hu]
   have hcm:((c%128:Nat):Int)=n%128:=by omega
   have e:n*2^sh=((c%128*2^sh:Nat):Int)+n/128*2^(sh+7):=by
    rw[ybd,hcm,ycV,Int.pow_add]
    conv=>lhs;rw[←Int.emod_add_mul_ediv n 128]
    rw[Int.add_mul,ycW 128,Int.mul_assoc,ycW 128]
    rfl
   rw[e]
   generalize c%128*2^sh=x
   generalize n/128*2^(sh+7)=y
   omega
theorem wrap_nat{m:Nat}(h:m<2^63):yb4 .i64 (m:Int)=m:=by rw[zc]<;>omega
theorem zGQ(st:Bool){n:Int}(h0:0≤n)(h:n<2^63){s:Rs}{rest:List UInt8}(hb:s.b=uI n++rest):zdq st false s=some (n,{ s with b:=rest }):=by
 obtain⟨m,rfl⟩:∃m:Nat,n=m:=⟨n.toNat,by omega⟩
 have h128:(128:Nat)^10=2^70:=by decide
 have:=zx8 10 0 0 m rest (by rw[h128];omega) (by omega) (by omega)
 have w:yb4 .i64 (m:Int)=m:=wrap_nat (by omega)
 simp only[ycX,Nat.pow_zero,Nat.mul_one,w]at this
 unfold zdq
 rw[hb]
 unfold uI
 rw[this]
 have hm:¬(m:Int)<0:=by omega
 simp[zBx,uI,hm]
theorem zGR(st:Bool){n:Int}(h0:-(2^63)≤n)(h:n<2^63){s:Rs}{rest:List UInt8}(hb:s.b=sI n++rest):zdq st true s=some (n,{ s with b:=rest }):=by
 have h128:(128:Int)^9=2^63:=by decide
 have:=zx9 9 0 0 n rest (by rw[h128];omega) (by rw[h128];omega) (by omega)
 have w:yb4 .i64 n=n:=by rw[zc]<;>omega
 simp only[Int.natCast_zero,Int.zero_add,Int.pow_zero,Int.mul_one,w]at this
 unfold zdq
 rw[hb]
 unfold sI
 rw[this]
 simp[zBx,sI]
theorem zm{s:Rs}{c:UInt8}{s':Rs}(h:zcr s=some (c,s')):s.b=c::s'.b∧s'.ls=s.ls∧s'.n=s.n:=by
 unfold zcr at h
 split at h
 ·cases h
 ·rename_i c' r hb
  cases h
  exact⟨hb,rfl,rfl⟩
theorem zau{n:Int}{s:Rs}{p:List UInt8}{s':Rs}(h:zcR n s=some (p,s')):s.b=p++s'.b∧s'.ls=s.ls∧s'.n=s.n:=by
 unfold zcR at h
 split at h
 ·cases h
  exact⟨by simp,rfl,rfl⟩
 ·cases h
theorem ztp{n:Int}{s:Rs}{p r:List UInt8}(h:s.b=p++r)(hn:n=p.length):zcR n s=some (p,{ s with b:=r }):=by
 subst hn
 unfold zcR
 rw[h]
 rw[if_pos ⟨by omega,by simp;omega⟩]
 simp
theorem zkB(n:Int):-(2^63)≤yb4 .i64 n∧yb4 .i64 n<2^63:=by
 have h:yb4 .i64 n=(if n%2^64≥2^63 then n%2^64-2^64 else n%2^64):=by
  simp[yb4,yao,yap]
 rw[h]
 split<;>omega
theorem znu:∀{sg:Bool} {k sh u:Nat} {b:List UInt8} {n:Int} {r:List UInt8},zmi sg k sh u b=some (n,r)→(∃x,x≠[]∧b=x++r)∧-(2^63)≤n∧n<2^63
 | sg,0,_,_,_,_,_,h=>by simp[zmi]at h
 | sg,k+1,_,_,[],_,_,h=>by rw[zmi]at h;cases h
 | sg,k+1,sh,u,c::b,n,r,h=>by
  rw[zmi]at h
  split at h
  ·simp only[yaR.injEq,Prod.mk.injEq]at h
   obtain⟨h1,rfl⟩:=h
   refine⟨⟨[c],by simp,by simp⟩,?_⟩
   rw[←h1]
   generalize (if sg=true∧64≤c.toNat∧sh<57 then orS (orS u (c.toNat%128) sh) (2^64-1) (sh+7)else orS u (c.toNat%128) sh)=v
   exact zkB _
  ·obtain⟨⟨x,h1,h2⟩,h3⟩:=znu h
   exact⟨⟨c::x,by simp,by rw[h2];rfl⟩,h3⟩
theorem zu{st sg:Bool}{s s':Rs}{n:Int}(h:zdq st sg s=some (n,s')):(∃x,x≠[]∧s.b=x++s'.b)∧s'.ls=s.ls∧s'.n=s.n∧-(2^63)≤n∧n<2^63∧(st=true→sg=false→0≤n):=by
 unfold zdq at h
 cases hg:zmi sg 10 0 0 s.b with
 | none=>rw[hg]at h;cases h
 | some p =>
  rw[hg]at h
  simp only[ycY]at h
  obtain⟨m,r⟩:=p
  split at h
  ·cases h
  ·rename_i hno
   cases h
   obtain⟨h1,h2,h3⟩:=znu hg
   refine⟨h1,rfl,rfl,h2,h3,fun h4 h5=>?_⟩
   by_cases h0:0≤m
   ·exact h0
   ·exact absurd ⟨h4,.inr ⟨h5,by simp only;omega⟩⟩ hno
theorem zdG{l:List (UInt8 × W)}{c:UInt8}{w:W}(h:zb2 l c=some w):(c,w)∈l:=by
 unfold zb2 at h
 rw[ybB]at h
 obtain⟨p,h1,rfl⟩:=h
 have h2:=ycZ h1
 have h3:=yc0 h1
 simp only[beq_iff_eq]at h2
 rw[←h2];exact h3
theorem zgB:∀p∈zf8,zb2 zf8 p.1=some p.2∧p.1≠11∧p.1≠5∧¬(2≤p.1.toNat∧p.1.toNat≤4)∧p.2.op≠4∧p.2.op≠8∧p.2.op≠9∧zbj p.2=false∧zkc p.2=some p.1∧p.2.n=0∧(p.2.op=1∨(p.2.op=2∨p.2.op=3∨p.2.op=10∨p.2.op=14∨p.2.op=15)):=by decide
theorem zjf:∀p∈zag,zb2 zf8 p.1=none∧zb2 zag p.1=some p.2∧p.1≠11∧p.1≠5∧¬(2≤p.1.toNat∧p.1.toNat≤4)∧zbj p.2=false∧zkc p.2=some p.1∧zeq p.2=(if p.2.op=8∨p.2.op=9 then [0,0]else []):=by decide
def zmk:List (UInt8 × W):=(List.range 16).map (fun i=>(zpd.getD i 0,znt 1 i))++(List.range 16).map (fun i=>(zpe.getD i 0,znt 2 i))
theorem zjg:∀c:Fin 256,∀w,zhj (UInt8.ofNat c.1)=some w→(UInt8.ofNat c.1,w)∈zmk:=by
 have:∀c:Fin 256,(match zhj (UInt8.ofNat c.1)with|some w=>decide ((UInt8.ofNat c.1,w)∈zmk)|none=>true)=true:=by decide
 intro c w h
 have:=this c
 rw[h]at this
 simpa using this
theorem zrq:∀p∈zmk,zb2 zf8 p.1=none∧zb2 zag p.1=none∧zhj p.1=some p.2∧p.1≠11∧p.1≠5∧¬(2≤p.1.toNat∧p.1.toNat≤4)∧zbj p.2=false∧zkc p.2=some p.1∧zeq p.2=[]:=by decide
theorem ztq{p:UInt8 × W}(h:p∈zf8)(n:Int):zkc { p.2 with n:=n }=some p.1:=by
 obtain⟨_,_,_,_,h4,h8,h9,_,hl,hn,_⟩:=zgB p h
 have e:zdC { p.2 with n:=n }=zdC p.2:=by
  funext q
  have:zr1 { p.2 with n:=n }=zr1 p.2:=by simp[zr1,h8,h9]
  simp only[zdC,this]
 unfold zkc at hl ⊢
 rw[if_neg h4]at hl
 rw[if_neg h4,e,hl]
theorem zbw{st:Bool}{c:UInt8}{s s':Rs}{w:W}(h:zgA st c s=some (w,s')):(∃x,s.b=x++s'.b)∧s'.ls=s.ls∧s'.n=s.n∧zbj w=false∧zkc w=some c∧c≠11∧c≠5∧¬(2≤c.toNat∧c.toNat≤4) ∧
  (st=true→zaJ w=false) ∧
  ∀(st':Bool) (t:Rs) (r:List UInt8),zaJ w=false→t.b=zeq w++r→zgA st' c t=some (w,{ t with b:=r }):=by
 unfold zgA at h
 cases hf:zb2 zf8 c with
 | some w0 =>
  rw[hf]at h
  simp only[ybB]at h
  obtain⟨⟨n,s1⟩,hn,he⟩:=h
  cases he
  have hm:=zdG hf
  obtain⟨_,h11,h5,h24,h4,h8,h9,hnest,_,_,hops⟩:=zgB _ hm
  simp only at h11 h5 h24 h4 h8 h9 hnest hops
  obtain⟨⟨x,_,hx⟩,e1,e2,n1,n2,n3⟩:=zu hn
  refine⟨⟨x,hx⟩,e1,e2,hnest,ztq hm n,h11,h5,h24,fun hst=>?_,fun st' t r hb ht=>?_⟩
  ·unfold zaJ
   simp only[Bool.and_eq_false_iff,decide_eq_false_iff_not]
   by_cases h1:w0.op=1
   ·exact .inr (by simpa using h1)
   ·have:=n3 hst (by simpa using h1)
    exact .inl (by omega)
  ·unfold zgA
   rw[hf]
   simp only
   unfold zaJ at hb
   simp only[Bool.and_eq_false_iff,decide_eq_false_iff_not]at hb
   by_cases h1:w0.op=1
   ·have:zeq { w0 with n:=n }=sI n:=by simp[zeq,h1]
    rw[this]at ht
    simp only[h1,decide_true]
    rw[zGR st' n1 n2 ht]
    rfl
   ·have hops:w0.op=2∨w0.op=3∨w0.op=10∨w0.op=14∨w0.op=15:=by rcases hops with h|h;exact absurd h h1;exact h
    have:zeq { w0 with n:=n }=uI n:=by simp only[zeq,h1,if_false,hops,if_true]
    rw[this]at ht
    have h0:0≤n:=by
     rcases hb with h|h
     ·omega
     ·exact absurd h (by simpa using h1)
    simp only[h1,decide_false]
    rw[zGQ st' h0 n2 ht]
    rfl
 | none =>
  rw[hf]at h
  simp only at h
  cases hp:zb2 zag c with
  | some w0 =>
   rw[hp]at h
   simp only at h
   have hm:=zdG hp
   obtain⟨_,_,h11,h5,h24,hnest,hcode,htail⟩:=zjf _ hm
   simp only at h11 h5 h24 hnest hcode htail
   have hz:∀p∈zag,zaJ p.2=false:=by decide
   have hz:=hz _ hm
   by_cases h89:w0.op=8∨w0.op=9
   ·rw[if_pos h89,ybB]at h
    obtain⟨⟨p,s1⟩,hn,he⟩:=h
    cases he
    obtain⟨e0,e1,e2⟩:=zau hn
    refine⟨⟨p,e0⟩,e1,e2,hnest,hcode,h11,h5,h24,fun _=>hz,fun st' t r hb ht=>?_⟩
    rw[htail,if_pos h89]at ht
    unfold zgA
    rw[hf,hp]
    simp only[h89,if_true]
    rw[ztp (n:=2) ht rfl]
    rfl
   ·rw[if_neg h89]at h
    cases h
    refine⟨⟨[],by simp⟩,rfl,rfl,hnest,hcode,h11,h5,h24,fun _=>hz,fun st' t r hb ht=>?_⟩
    rw[htail,if_neg h89]at ht
    unfold zgA
    rw[hf,hp]
    simp only[h89,if_false]
    simp only[ycQ]at ht
    rw[←ht]
  | none =>
   rw[hp]at h
   simp only[ybB]at h
   obtain⟨w0,hn,he⟩:=h
   cases he
   have hm:(c,w)∈zmk:=by
    have:=zjg ⟨c.toNat,c.toNat_lt⟩ w (by simpa using hn)
    simpa using this
   obtain⟨_,_,_,h11,h5,h24,hnest,hcode,htail⟩:=zrq _ hm
   simp only at h11 h5 h24 hnest hcode htail
   have hz:∀p∈zmk,zaJ p.2=false:=by decide
   have hz:=hz _ hm
   refine⟨⟨[],by simp⟩,rfl,rfl,hnest,hcode,h11,h5,h24,fun _=>hz,fun st' t r hb ht=>?_⟩
   rw[htail]at ht
   unfold zgA
   rw[hf,hp]
   simp only[hn]
   simp only[ycQ]at ht
   rw[←ht]
   rfl
theorem zaO{x y z:List UInt8}(h:x=y++z):z.length≤x.length:=by rw[h];simp
theorem zaa:∀(st:Bool) (k d:Nat) (l:List W) (s:Rs) (n:Int) (e:UInt8) (s':Rs),zX st k d l s=some ((n,e),s') →
  s.ls<+:s'.ls∧(s'.ls.length:Int)=n+1∧(s.ls.length:Int)≤n∧(∃ws,s'.ls[n.toNat]?=some (l++ws))∧(e=11∨e=5)∧(∃x,x≠[]∧s.b=x++s'.b)∧s'.n=s.n
 | st,0,_,_,_,_,_,_,h=>by simp[zX]at h
 | st,k+1,d,l,s,n,e,s',h=>by
  rw[zX]at h
  cases hb:zcr s with
  | none=>rw[hb]at h;cases h
  | some p =>
   obtain⟨c,s1⟩:=p
   rw[hb]at h
   simp only[ycY]at h
   obtain⟨b1,b2,b3⟩:=zm hb
   split at h
   ·rename_i hc
    cases h
    refine⟨?_,?_,?_,⟨[],?_⟩,hc,⟨[_],by simp,b1⟩,b3⟩
    ·rw[b2];exact yc1 _ _
    ·simp
    ·rw[b2];exact Int.le_refl _
    ·simp
   ·rename_i hc
    cases hi:zbk st (fun d s=>zX st k d [] s) d c s1 with
    | none=>rw[hi]at h;cases h
    | some q =>
     obtain⟨w,s2⟩:=q
     rw[hi]at h
     simp only[ycY]at h
     obtain⟨i1,i2,i3,⟨ws,i4⟩,i5,⟨x,hx0,i6⟩,i7⟩:=zaa st k d _ s2 n e s' h
     have hq:s1.ls<+:s2.ls∧(∃x,s1.b=x++s2.b)∧s2.n=s1.n:=by
      unfold zbk at hi
      split at hi
      ·split at hi
       ·unfold zb3 at hi
        cases hb1:zcr s1 with
        | none=>rw[hb1]at hi;cases hi
        | some p1 =>
         obtain⟨c1,s3⟩:=p1
         rw[hb1]at hi
         simp only[ycY]at hi
         obtain⟨f1,f2,f3⟩:=zm hb1
         cases hl1:zX st k (d+1) [] s3 with
         | none=>rw[hl1]at hi;cases hi
         | some q1 =>
          obtain⟨⟨n1,e1⟩,s4⟩:=q1
          rw[hl1]at hi
          simp only[ycY]at hi
          obtain⟨j1,j2,j3,j4,j5,⟨x1,_,j6⟩,j7⟩:=zaa st k (d+1) [] s3 n1 e1 s4 hl1
          have base:s1.ls<+:s4.ls∧(∃x,s1.b=x++s4.b)∧s4.n=s1.n:=⟨by rw[←f2];exact j1,⟨c1::x1,by rw[f1,j6];rfl⟩,by rw[j7,f3]⟩
          split at hi
          ·split at hi
           ·rw[ybB]at hi
            obtain⟨⟨⟨n2,e2⟩,s5⟩,hl2,he2⟩:=hi
            cases he2
            obtain⟨g1,g2,g3,g4,g5,⟨x2,_,g6⟩,g7⟩:=zaa st k (d+1) [] s4 n2 e2 _ hl2
            obtain⟨o1,⟨x3,o2⟩,o3⟩:=base
            exact⟨o1.trans g1,⟨x3++x2,by rw[o2,g6,yc2]⟩,by rw[g7,o3]⟩
           ·cases hi;exact base
          ·cases hi;exact base
       ·cases hi
      ·obtain⟨a1,a2,a3,_⟩:=zbw hi
       exact⟨by rw[a2];exact yc3 _,a1,a3⟩
     obtain⟨q1,⟨x1,q2⟩,q3⟩:=hq
     have ql:=q1.length_le
     rw[b2]at q1 ql
     refine⟨q1.trans i1,i2,by omega,⟨w::ws,by rw[i4];simp⟩,i5,⟨c::(x1++x),by simp,by rw[b1,q2,i6];simp⟩,by rw[i7,q3,b3]⟩
theorem zjh{α:Type}{x y:List α}(h:x<+:y){i:Nat}{v:α}(hx:x[i]?=some v):y[i]?=some v:=by
 obtain⟨z,rfl⟩:=h
 have hi:=(yaq.1 hx).1
 rw[yat hi];exact hx
theorem zkC{rec:Int→Option (List UInt8)}{w:W}{r:List W}{y:List UInt8}(h:zjd rec (w::r)=some y):∃a b,ztn rec w=some a∧zjd rec r=some b∧y=a++b:=by
 rw[zjd]at h
 cases ha:ztn rec w with
 | none=>rw[ha]at h;cases h
 | some a =>
  rw[ha]at h
  simp only[ycY,ybB]at h
  obtain⟨b,hb,rfl⟩:=h
  exact⟨a,b,rfl,hb,rfl⟩
def Can(i:Int)(w:W):Prop:=(zbj w=true→0≤w.body∧w.body<i∧(w.op=13→w.other<i))∧(zbj w=false→∃c,zkc w=some c)
def zpi(ls:To):Prop:=∀(i:Nat) (ws:List W),ls[i]?=some ws→∀w∈ws,Can i w
theorem Can.mono{i j:Int}{w:W}(h:Can i w)(hij:i≤j):Can j w:=⟨fun q=>by
 obtain⟨a,b,c⟩:=h.1 q
 exact⟨a,by omega,fun r=>by have:=c r;omega⟩,h.2⟩
theorem zpi.snoc{ls:To}{l:List W}(h:zpi ls)(hl:∀w∈l,Can ls.length w):zpi (ls++[l]):=fun i ws hi w hw=>by
 rcases Nat.lt_or_ge i ls.length with h1|h1
 ·rw[yat h1]at hi
  exact h i ws hi w hw
 ·rw[yaI h1]at hi
  have:i=ls.length:=by
   rcases Nat.eq_or_lt_of_le h1 with h2|h2
   ·exact h2.symm
   ·rw[List.getElem?_eq_none (by simp;omega)]at hi;cases hi
  subst this
  simp only[Nat.sub_self,List.getElem?_cons_zero,yaR.injEq]at hi
  subst hi
  exact hl w hw
theorem zgC:∀(st:Bool) (k d:Nat) (l:List W) (s:Rs) (n:Int) (e:UInt8) (s':Rs),zX st k d l s=some ((n,e),s')→zpi s.ls→(∀w∈l,Can s.ls.length w)→zpi s'.ls
 | st,0,_,_,_,_,_,_,h,_,_=>by simp[zX]at h
 | st,k+1,d,l,s,n,e,s',h,hs,hl=>by
  rw[zX]at h
  cases hb:zcr s with
  | none=>rw[hb]at h;cases h
  | some p =>
   obtain⟨c,s1⟩:=p
   rw[hb]at h
   simp only[ycY]at h
   obtain⟨b1,b2,b3⟩:=zm hb
   rw[←b2]at hs hl
   split at h
   ·cases h
    exact hs.snoc hl
   ·cases hi:zbk st (fun d s=>zX st k d [] s) d c s1 with
    | none=>rw[hi]at h;cases h
    | some q =>
     obtain⟨w,s2⟩:=q
     rw[hi]at h
     simp only[ycY]at h
     have hq:zpi s2.ls∧s1.ls.length≤s2.ls.length∧Can s2.ls.length w:=by
      unfold zbk at hi
      split at hi
      ·rename_i hc2
       split at hi
       ·unfold zb3 at hi
        cases hb1:zcr s1 with
        | none=>rw[hb1]at hi;cases hi
        | some p1 =>
         obtain⟨c1,s3⟩:=p1
         rw[hb1]at hi
         simp only[ycY]at hi
         obtain⟨f1,f2,f3⟩:=zm hb1
         rw[←f2]at hs
         cases hl1:zX st k (d+1) [] s3 with
         | none=>rw[hl1]at hi;cases hi
         | some q1 =>
          obtain⟨⟨n1,e1⟩,s4⟩:=q1
          rw[hl1]at hi
          simp only[ycY]at hi
          obtain⟨j1,j2,j3,_⟩:=zaa st k (d+1) [] s3 n1 e1 s4 hl1
          have hs4:=zgC st k (d+1) [] s3 n1 e1 s4 hl1 hs (by simp)
          have hle:=j1.length_le
          rw[f2]at hle
          split at hi
          ·split at hi
           ·rw[ybB]at hi
            obtain⟨⟨⟨n2,e2⟩,s5⟩,hl2,he2⟩:=hi
            simp only[Prod.mk.injEq]at he2
            obtain⟨rfl,rfl⟩:=he2
            obtain⟨g1,g2,g3,_⟩:=zaa st k (d+1) [] s4 n2 e2 _ hl2
            have hs5:=zgC st k (d+1) [] s4 n2 e2 _ hl2 hs4 (by simp)
            have:=g1.length_le
            refine⟨hs5,by omega,⟨fun _=>⟨?_,?_,fun _=>?_⟩,fun q=>?_⟩⟩
            ·show 0≤n1;omega
            ·show n1<_;omega
            ·show n2<_;omega
            ·simp[zcg,zbj]at q
           ·cases hi
            refine⟨hs4,by omega,⟨fun _=>⟨?_,?_,fun _=>?_⟩,fun q=>?_⟩⟩
            ·show 0≤n1;omega
            ·show n1<_;omega
            ·show(-1:Int)<_;omega
            ·simp[zcg,zbj]at q
          ·rename_i h4
           cases hi
           refine⟨hs4,by omega,⟨fun _=>⟨?_,?_,fun h13=>?_⟩,fun q=>?_⟩⟩
           ·show 0≤n1;omega
           ·show n1<_;omega
           ·have:((c.toNat:Int)+9)=13:=h13
            omega
           ·have:((c.toNat:Int)+9=11∨(c.toNat:Int)+9=12):=by omega
            rcases this with e|e<;>simp[zcg,zbj,e]at q
       ·cases hi
      ·obtain⟨a1,a2,a3,a4,a5,_⟩:=zbw hi
       rw[a2]
       exact⟨hs,yah _,⟨fun q=>(by rw[a4]at q;cases q),fun _=>⟨c,a5⟩⟩⟩
     obtain⟨q1,q2,q3⟩:=hq
     refine zgC st k d _ s2 n e s' h q1 fun w' hw'=>?_
     rcases ybh.1 hw' with h1|h1
     ·exact(hl w' h1).mono (by omega)
     ·simp only[ycD]at h1
      subst h1
      exact q3
theorem zkD{rec:Int→Option (List UInt8)}:∀{ws:List W},(∀w∈ws,∃a,ztn rec w=some a)→∃y,zjd rec ws=some y
 | [],_=>⟨[],rfl⟩
 | w::r,h=>by
  obtain⟨a,ha⟩:=h w (by simp)
  obtain⟨y,hy⟩:=zkD (ws:=r) fun w' hw'=>h w' (by simp[hw'])
  exact⟨a++y,by rw[zjd,ha,ycY,hy];rfl⟩
theorem zji{ls:To}(h:zpi ls):∀(i j:Nat),i<ls.length→i<j→∃x,zmg ls j i=some x
 | i,0,_,hj=>by omega
 | i,j+1,hi,hj=>by
  have hg:=yau hi
  rw[zmg,if_neg (by omega)]
  simp only[ybe,hg]
  refine zkD fun w hw=>?_
  have hc:=h i _ hg w hw
  unfold ztn
  by_cases hn:zbj w=true
  ·obtain⟨h1,h2,h3⟩:=hc.1 hn
   rw[if_pos hn]
   obtain⟨x,hx⟩:=zji h w.body.toNat j (by omega) (by omega)
   rw[show((w.body.toNat:Nat):Int)=w.body from by omega]at hx
   rw[hx]
   simp only[ycY]
   by_cases h13:w.op=13∧0≤w.other
   ·rw[if_pos h13]
    have:=h3 h13.1
    obtain⟨o,ho⟩:=zji h w.other.toNat j (by omega) (by omega)
    rw[show((w.other.toNat:Nat):Int)=w.other from by omega]at ho
    rw[ho]
    exact⟨_,rfl⟩
   ·rw[if_neg h13]
    exact⟨_,rfl⟩
  ·rw[if_neg hn]
   obtain⟨c,hc⟩:=hc.2 (by simpa using hn)
   rw[hc]
   exact⟨_,rfl⟩
termination_by i j=>j
theorem znv(w:W):(zeq w).length≤10:=by
 have h1:=ztg w.n
 have h2:=zay w.n
 unfold zeq
 split
 ·exact h1
 ·split
  ·exact h2
  ·split<;>simp
theorem listP_len{st:Bool}{fin:To}:∀(k d:Nat) (l:List W) (s:Rs) (n:Int) (e:UInt8) (s':Rs),zX st k d l s=some ((n,e),s')→s'.ls<+:fin →
  ∀(j:Nat) (ws:List W) (y:List UInt8),fin[n.toNat]?=some (l++ws)→zjd (zmg fin j) ws=some y→y.length+11*s'.b.length+11≤11*s.b.length
 | 0,_,_,_,_,_,_,h,_,_,_,_,_,_=>by simp[zX]at h
 | k+1,d,l,s,n,e,s',h,hp,j,ws,y,hn,hy=>by
  have IH:=@listP_len st fin k
  rw[zX]at h
  cases hb0:zcr s with
  | none=>rw[hb0]at h;cases h
  | some p =>
   obtain⟨c,s1⟩:=p
   rw[hb0]at h
   simp only[ycY]at h
   obtain⟨b1,b2,b3⟩:=zm hb0
   rw[b1]
   simp only[yac]
   split at h
   ·rename_i hc
    cases h
    have hat:=zjh hp (i:=s1.ls.length) (v:=l) (by simp)
    simp only[ybe]at hn
    rw[hat]at hn
    have hws:ws=[]:=by simpa using hn
    subst hws
    simp only[zjd,yaR.injEq]at hy
    subst hy
    simp
    omega
   ·rename_i hc
    cases hi:zbk st (fun d s=>zX st k d [] s) d c s1 with
    | none=>rw[hi]at h;cases h
    | some q =>
     obtain⟨w,s2⟩:=q
     rw[hi]at h
     simp only[ycY]at h
     obtain⟨i1,i2,i3,⟨ws2,i4⟩,_,_,_⟩:=zaa st k d _ s2 n e s' h
     have hat:=zjh hp i4
     have hn':=hn
     rw[hat]at hn
     have hws:ws=w::ws2:=by
      simp only[yaR.injEq,yc2,List.append_cancel_left_eq]at hn
      exact hn.symm
     subst hws
     obtain⟨a,y2,ha,hy2,rfl⟩:=zkC hy
     have h2:=IH d _ s2 n e s' h hp j ws2 y2 (by rw[hat]) hy2
     have body:∀(d':Nat) (u u':Rs) (n1:Int) (e1:UInt8) (x:List UInt8),zX st k d' [] u=some ((n1,e1),u')→u'.ls<+:fin→zmg fin j n1=some x→x.length+11*u'.b.length+11≤11*u.b.length:=by
      intro d' u u' n1 e1 x hl1 hp1 hx
      obtain⟨j1,j2,j3,⟨ws1,j4⟩,_⟩:=zaa st k d' [] u n1 e1 u' hl1
      cases j with
      | zero=>simp[zmg]at hx
      | succ j =>
       have hat1:=zjh hp1 j4
       rw[zmg,if_neg (by omega),hat1]at hx
       exact IH d' [] u n1 e1 u' hl1 hp1 j ws1 x (by simpa using hat1) (by simpa using hx)
     have key:a.length+11*s2.b.length≤11*s1.b.length+11:=by
      unfold zbk at hi
      split at hi
      ·rename_i hc2
       split at hi
       ·unfold zb3 at hi
        cases hb1:zcr s1 with
        | none=>rw[hb1]at hi;cases hi
        | some p1 =>
         obtain⟨c1,s3⟩:=p1
         rw[hb1]at hi
         simp only[ycY]at hi
         obtain⟨f1,f2,f3⟩:=zm hb1
         rw[f1]
         simp only[yac]
         cases hl1:zX st k (d+1) [] s3 with
         | none=>rw[hl1]at hi;cases hi
         | some q1 =>
          obtain⟨⟨n1,e1⟩,s4⟩:=q1
          rw[hl1]at hi
          simp only[ycY]at hi
          split at hi
          ·split at hi
           ·rw[ybB]at hi
            obtain⟨⟨⟨n2,e2⟩,s5⟩,hl2,he2⟩:=hi
            simp only[Prod.mk.injEq]at he2
            obtain⟨rfl,rfl⟩:=he2
            obtain⟨g1,g2,g3,_⟩:=zaa st k (d+1) [] s4 n2 e2 _ hl2
            obtain⟨j1,j2,j3,_⟩:=zaa st k (d+1) [] s3 n1 e1 s4 hl1
            have hn2:0≤n2:=by omega
            unfold ztn at ha
            simp only[zcg,zbj,decide_true,Bool.or_true,if_true,hn2,and_self]at ha
            cases hx:zmg fin j n1 with
            | none=>rw[hx]at ha;cases ha
            | some x =>
             rw[hx]at ha
             simp only[ycY,ybB]at ha
             obtain⟨o,ho,rfl⟩:=ha
             have hx':=body _ _ _ _ _ _ hl1 (g1.trans (i1.trans hp)) hx
             have ho':=body _ _ _ _ _ _ hl2 (i1.trans hp) ho
             simp only[yac,yab,ybl]
             omega
           ·cases hi
            unfold ztn at ha
            have hm1:¬(0:Int)≤-1:=by omega
            simp only[zcg,zbj,decide_true,Bool.or_true,if_true,hm1,and_false,if_false]at ha
            cases hx:zmg fin j n1 with
            | none=>rw[hx]at ha;cases ha
            | some x =>
             rw[hx]at ha
             simp only[ycY,yaR.injEq]at ha
             subst ha
             have hx':=body _ _ _ _ _ _ hl1 (i1.trans hp) hx
             simp only[yac,yab,ybl]
             omega
          ·rename_i h4
           cases hi
           unfold ztn at ha
           have h13:¬((c.toNat:Int)+9=13):=by omega
           have hnest:zbj (zcg ((c.toNat:Int)+9) n1 0)=true:=by
            have:((c.toNat:Int)+9=11∨(c.toNat:Int)+9=12):=by omega
            rcases this with e|e<;>simp[zcg,zbj,e]
           rw[if_pos hnest]at ha
           simp only[zcg,h13,false_and,if_false]at ha
           cases hx:zmg fin j n1 with
           | none=>rw[hx]at ha;cases ha
           | some x =>
            rw[hx]at ha
            simp only[ycY,yaR.injEq]at ha
            subst ha
            have hx':=body _ _ _ _ _ _ hl1 (i1.trans hp) hx
            simp only[yac,yab,ybl]
            omega
       ·cases hi
      ·obtain⟨⟨x,l1⟩,l2,l3',l3,l4,_⟩:=zbw hi
       unfold ztn at ha
       rw[l3,l4]at ha
       simp only[Bool.false_eq_true,if_false,yaG,yaR.injEq]at ha
       subst ha
       have:=znv w
       rw[l1]
       simp
       omega
     simp only[yab]
     omega
theorem zb5:∀(st:Bool) (k d:Nat) (l:List W) (s:Rs) (n:Int) (e:UInt8) (s':Rs),zX st k d l s=some ((n,e),s') →
  s'.ls.length+s'.b.length≤s.ls.length+s.b.length∧∀B:Nat,l.length+s.b.length≤B→(∀ws∈s.ls,ws.length≤B)→∀ws∈s'.ls,ws.length≤B
 | st,0,_,_,_,_,_,_,h=>by simp[zX]at h
 | st,k+1,d,l,s,n,e,s',h=>by
  rw[zX]at h
  cases hb:zcr s with
  | none=>rw[hb]at h;cases h
  | some p =>
   obtain⟨c,s1⟩:=p
   rw[hb]at h
   simp only[ycY]at h
   obtain⟨b1,b2,b3⟩:=zm hb
   rw[←b2,b1]
   simp only[yac]
   split at h
   ·cases h
    refine⟨by simp;omega,fun B hB hs ws hw=>?_⟩
    rcases ybh.1 hw with h1|h1
    ·exact hs ws h1
    ·simp only[ycD]at h1
     subst h1
     omega
   ·cases hi:zbk st (fun d s=>zX st k d [] s) d c s1 with
    | none=>rw[hi]at h;cases h
    | some q =>
     obtain⟨w,s2⟩:=q
     rw[hi]at h
     simp only[ycY]at h
     have hq:s2.ls.length+s2.b.length≤s1.ls.length+s1.b.length∧s2.b.length≤s1.b.length∧∀B:Nat,s1.b.length≤B→(∀ws∈s1.ls,ws.length≤B)→∀ws∈s2.ls,ws.length≤B:=by
      unfold zbk at hi
      split at hi
      ·split at hi
       ·unfold zb3 at hi
        cases hb1:zcr s1 with
        | none=>rw[hb1]at hi;cases hi
        | some p1 =>
         obtain⟨c1,s3⟩:=p1
         rw[hb1]at hi
         simp only[ycY]at hi
         obtain⟨f1,f2,f3⟩:=zm hb1
         rw[←f2,f1]
         simp only[yac]
         cases hl1:zX st k (d+1) [] s3 with
         | none=>rw[hl1]at hi;cases hi
         | some q1 =>
          obtain⟨⟨n1,e1⟩,s4⟩:=q1
          rw[hl1]at hi
          simp only[ycY]at hi
          obtain⟨z1,z2⟩:=zb5 st k (d+1) [] s3 n1 e1 s4 hl1
          obtain⟨_,_,_,_,_,⟨x,_,z3⟩,_⟩:=zaa st k (d+1) [] s3 n1 e1 s4 hl1
          have z4:=zaO z3
          simp only[ybl,ycX]at z2
          split at hi
          ·split at hi
           ·rw[ybB]at hi
            obtain⟨⟨⟨n2,e2⟩,s5⟩,hl2,he2⟩:=hi
            simp only[Prod.mk.injEq]at he2
            obtain⟨rfl,rfl⟩:=he2
            obtain⟨y1,y2⟩:=zb5 st k (d+1) [] s4 n2 e2 _ hl2
            obtain⟨_,_,_,_,_,⟨x,_,y3⟩,_⟩:=zaa st k (d+1) [] s4 n2 e2 _ hl2
            have y4:=zaO y3
            simp only[ybl,ycX]at y2
            exact⟨by omega,by omega,fun B hB hs=>y2 B (by omega) (z2 B (by omega) hs)⟩
           ·cases hi
            exact⟨by omega,by omega,fun B hB hs=>z2 B (by omega) hs⟩
          ·cases hi
           exact⟨by omega,by omega,fun B hB hs=>z2 B (by omega) hs⟩
       ·cases hi
      ·obtain⟨⟨x,a1⟩,a2,_⟩:=zbw hi
       have:=zaO a1
       rw[a2]
       exact⟨by omega,this,fun B _ hs=>hs⟩
     obtain⟨q1,q2,q3⟩:=hq
     obtain⟨g1,g2⟩:=zb5 st k d _ s2 n e s' h
     refine⟨by omega,fun B hB hs=>g2 B (by simp;omega) (q3 B (by omega) hs)⟩
theorem zBy{α:Type}{l:List (List α)}{x:List α}(h:x∈l):x.length≤l.flatten.length:=by
 induction l with
 | nil=>cases h
 | cons a l ih =>
  simp only[yc4,yab]
  rcases ybC.1 h with rfl|h
  ·omega
  ·have:=ih h;omega
structure zLV(f:F):Prop where
 typed:zdF f=true
 below:∀ws∈f.lists,∀w∈ws,zaJ w=false
 skel:∃st k s e s',zX st k 0 [] s=some (((f.lists.length:Int)-1,e),s')∧s.ls=[]∧s'.ls=f.lists
def zch(f:F):F:={ f with name:=[] }
def zdk(fs:List F):Nat:=(fs.map fun f=>f.locals.length).sum
theorem zjj:∀(fs:List F) (i:Int),(zcf i fs).length=fs.length
 | [],_=>rfl
 | _::fs,i=>by simp[zcf,zjj fs]
theorem zfh:∀(fs:List F) (i:Int),(zap i fs).length=fs.length
 | [],_=>rfl
 | _::fs,i=>by simp[zap,zfh fs]
theorem zhl:∀{fs:List F} {codes:List (List UInt8)},zce fs=some codes→codes.length=fs.length
 | [],_,h=>by simp only[zce,yaR.injEq]at h;subst h;rfl
 | f::fs,codes,h=>by
  rw[zce]at h
  cases hcf:zmh f with
  | none=>rw[hcf]at h;cases h
  | some c =>
   rw[hcf]at h
   simp only[ycY,ybB]at h
   obtain⟨cs,hcs,rfl⟩:=h
   simp[zhl hcs]
def ztr:List UInt8:=[1,4,109,97,105,110,0]
def zNQ(m:M):List UInt8:=[1,127,0,65]++(sI m.memory++[11])
def zts(m:M)(rest:List UInt8):List UInt8:=zhK++(zj 1 (zbO (zat m.funcs))++(zj 2 (zbO zak)++(zj 3 (zbO (zcf 3 m.funcs))++(zj 5 [1,0,1] ++
  (zj 6 (zNQ m)++(7::(uI (ztr++uI (zhi m)).length++(ztr++rest))))))))
def zLW(codes:List (List UInt8))(fs:List F):List UInt8:=zj 10 (zbO codes)++zj 0 ([4,110,97,109,101,1]++zx (zbO (zap 3 fs)))
theorem zkE{m:M}{b:List UInt8}(h:zto m=some b):∃codes,zce m.funcs=some codes∧b=zts m (uI (zhi m)++zLW codes m.funcs):=by
 unfold zto at h
 rw[ybB]at h
 obtain⟨codes,hc,rfl⟩:=h
 refine⟨codes,hc,?_⟩
 have e1:zx [109,97,105,110]=[4,109,97,105,110]:=by decide
 have e2:zx [110,97,109,101]=[4,110,97,109,101]:=by decide
 have e3:∀n bs (r:List UInt8),zj n bs++r=n::(uI bs.length++(bs++r)):=fun n bs r=>by simp[zj,zx]
 rw[e1,e2]
 unfold zts zLW zNQ ztr
 simp only[yc2]
 rw[e3 7]
 simp
def zLX(f:F):Prop:=(∀t∈f.params,t=1∨t=2)∧(f.type=0∨f.type=1∨f.type=2)∧f.params.length<2^62
theorem zkF(fs:List F):(zat fs).length=fs.length+3:=by simp[zat]
structure zOe(m:M):Prop where
 fs:∀f∈m.funcs,zLX f
 mem:-(2^63)≤m.memory∧m.memory<2^63
 many:m.funcs.length<2^60
 s1:(zbO (zat m.funcs)).length<2^62
 s3:(zbO (zcf 3 m.funcs)).length<2^62
structure zNR(m:M):Prop where
 fs:∀f∈m.funcs,zLV f
 many:zdk m.funcs≤65536
 mem:-(2^63)≤m.memory∧m.memory<2^63
 main0:0≤zhi m
 main:m.main=yb4 .i64 (zhi m-3)
theorem zd4:∀(k d:Nat) (l:List W) (s:Rs) (n:Int) (e:UInt8) (s':Rs),zX true k d l s=some ((n,e),s')→(∀ws∈s.ls,∀w∈ws,zaJ w=false)→(∀w∈l,zaJ w=false)→∀ws∈s'.ls,∀w∈ws,zaJ w=false
 | 0,_,_,_,_,_,_,h,_,_=>by simp[zX]at h
 | k+1,d,l,s,n,e,s',h,hs,hl=>by
  rw[zX]at h
  cases hb:zcr s with
  | none=>rw[hb]at h;cases h
  | some p =>
   obtain⟨c,s1⟩:=p
   rw[hb]at h
   simp only[ycY]at h
   obtain⟨b1,b2,b3⟩:=zm hb
   rw[←b2]at hs
   split at h
   ·cases h
    intro ws hw
    rcases ybh.1 hw with h1|h1
    ·exact hs ws h1
    ·simp only[ycD]at h1
     subst h1
     exact hl
   ·cases hi:zbk true (fun d s=>zX true k d [] s) d c s1 with
    | none=>rw[hi]at h;cases h
    | some q =>
     obtain⟨w,s2⟩:=q
     rw[hi]at h
     simp only[ycY]at h
     have hq:(∀ws∈s2.ls,∀w∈ws,zaJ w=false)∧zaJ w=false:=by
      unfold zbk at hi
      split at hi
      ·split at hi
       ·unfold zb3 at hi
        cases hb1:zcr s1 with
        | none=>rw[hb1]at hi;cases hi
        | some p1 =>
         obtain⟨c1,s3⟩:=p1
         rw[hb1]at hi
         simp only[ycY]at hi
         obtain⟨f1,f2,f3⟩:=zm hb1
         rw[←f2]at hs
         cases hl1:zX true k (d+1) [] s3 with
         | none=>rw[hl1]at hi;cases hi
         | some q1 =>
          obtain⟨⟨n1,e1⟩,s4⟩:=q1
          rw[hl1]at hi
          simp only[ycY]at hi
          have hs4:=zd4 k (d+1) [] s3 n1 e1 s4 hl1 hs (by simp)
          split at hi
          ·split at hi
           ·rw[ybB]at hi
            obtain⟨⟨⟨n2,e2⟩,s5⟩,hl2,he2⟩:=hi
            simp only[Prod.mk.injEq]at he2
            obtain⟨rfl,rfl⟩:=he2
            exact⟨zd4 k (d+1) [] s4 n2 e2 _ hl2 hs4 (by simp),by simp[zaJ,zcg]⟩
           ·cases hi
            exact⟨hs4,by simp[zaJ,zcg]⟩
          ·cases hi
           exact⟨hs4,by simp[zaJ,zcg]⟩
       ·cases hi
      ·obtain⟨_,a2,_,_,_,_,_,_,a3,_⟩:=zbw hi
       rw[a2]
       exact⟨hs,a3 rfl⟩
     refine zd4 k d _ s2 n e s' h hq.1 fun w' hw'=>?_
     rcases ybh.1 hw' with h1|h1
     ·exact hl w' h1
     ·simp only[ycD]at h1
      subst h1
      exact hq.2
def zBz(t:Int):Prop:=t=1∨t=2
theorem zkG{st:Bool}{s s':Rs}{t:Int}(h:zdD st s=some (t,s')):s'.ls=s.ls∧s'.n=s.n∧(st=true→zBz t):=by
 unfold zdD at h
 cases hb:zcr s with
 | none=>rw[hb]at h;cases h
 | some p =>
  obtain⟨c,s1⟩:=p
  rw[hb]at h
  simp only[ycY]at h
  obtain⟨b1,b2,b3⟩:=zm hb
  split at h
  ·cases h
  ·rename_i hno
   cases h
   refine⟨b2,b3,fun hst=>?_⟩
   by_cases h1:c=126
   ·subst h1;right;rfl
   ·by_cases h2:c=127
    ·subst h2;left;rfl
    ·exact absurd ⟨hst,h1,h2⟩ hno
theorem zkH{st:Bool}:∀{n:Nat} {s s':Rs} {l:List Int},zb8 (zdD st) n s=some (l,s')→s'.ls=s.ls∧s'.n=s.n∧(st=true→∀t∈l,zBz t)∧l.length=n
 | 0,s,s',l,h=>by
  cases h
  exact⟨rfl,rfl,fun _=>by simp,rfl⟩
 | n+1,s,s',l,h=>by
  rw[zb8]at h
  simp only[ybA,ybB]at h
  obtain⟨⟨t,s1⟩,h1,⟨l',s2⟩,h2,h3⟩:=h
  cases h3
  obtain⟨a1,a2,a3⟩:=zkG h1
  obtain⟨b1,b2,b3,b4⟩:=zkH h2
  refine⟨b1.trans a1,b2.trans a2,fun hst x hx=>?_,by simp[b4]⟩
  rcases ybC.1 hx with rfl|hx
  ·exact a3 hst
  ·exact b3 hst x hx
theorem zjk{st:Bool}{s s':Rs}{l:List Int}(h:zek st s=some (l,s')):s'.ls=s.ls∧s'.n=s.n∧(st=true→∀t∈l,zBz t):=by
 unfold zek at h
 simp only[ybA]at h
 obtain⟨⟨n,s1⟩,h1,h2⟩:=h
 obtain⟨_,a1,a2,_⟩:=zu h1
 obtain⟨b1,b2,b3,_⟩:=zkH h2
 exact⟨b1.trans a1,b2.trans a2,b3⟩
def zqo(st:Bool)(f:F):Prop:=f.locals=[]∧(st=true→(∀t∈f.params,zBz t)∧(f.type=0∨zBz f.type))
theorem zrr{st:Bool}{s s':Rs}{f:F}(h:zdE st s=some (f,s')):s'.ls=s.ls∧s'.n=s.n∧zqo st f:=by
 unfold zdE at h
 simp only[ybA,ybB]at h
 obtain⟨⟨c,s1⟩,h1,⟨l,s2⟩,h2,⟨r,s3⟩,h3,h4⟩:=h
 cases h4
 obtain⟨_,a1,a2⟩:=zm h1
 obtain⟨b1,b2,b3⟩:=zjk h2
 obtain⟨c1,c2,c3⟩:=zjk h3
 refine⟨c1.trans (b1.trans a1),c2.trans (b2.trans a2),rfl,fun hst=>⟨b3 hst,?_⟩⟩
 cases r with
 | nil=>exact .inl rfl
 | cons t r=>exact .inr (c3 hst t (by simp))
theorem zhm{st:Bool}:∀{n:Nat} {s s':Rs} {l:List F},zb8 (zdE st) n s=some (l,s')→s'.ls=s.ls∧s'.n=s.n∧∀f∈l,zqo st f
 | 0,s,s',l,h=>by
  cases h
  exact⟨rfl,rfl,by simp⟩
 | n+1,s,s',l,h=>by
  rw[zb8]at h
  simp only[ybA,ybB]at h
  obtain⟨⟨t,s1⟩,h1,⟨l',s2⟩,h2,h3⟩:=h
  cases h3
  obtain⟨a1,a2,a3⟩:=zrr h1
  obtain⟨b1,b2,b3⟩:=zhm h2
  refine⟨b1.trans a1,b2.trans a2,fun x hx=>?_⟩
  rcases ybC.1 hx with rfl|hx
  ·exact a3
  ·exact b3 x hx
theorem zjl{st:Bool}:∀{n:Nat} {s s':Rs} {l:List (List Int)},zb8 (zbT st) n s=some (l,s')→s'.n=s.n+l.flatten.length∧(s.n≤65536→s'.n≤65536)∧(st=true→∀t∈l.flatten,zBz t)
 | 0,s,s',l,h=>by
  cases h
  exact⟨rfl,fun h=>h,fun _=>by simp⟩
 | n+1,s,s',l,h=>by
  rw[zb8]at h
  simp only[ybA,ybB]at h
  obtain⟨⟨g,s1⟩,h1,⟨l',s2⟩,h2,h3⟩:=h
  cases h3
  unfold zbT at h1
  simp only[ybA]at h1
  obtain⟨⟨m,s3⟩,h4,h5⟩:=h1
  obtain⟨_,_,a2,_⟩:=zu h4
  split at h5
  ·rename_i hm
   rw[ybB]at h5
   obtain⟨⟨t,s4⟩,h6,h7⟩:=h5
   simp only[Prod.mk.injEq]at h7
   obtain⟨rfl,rfl⟩:=h7
   obtain⟨_,c2,c3⟩:=zkG h6
   obtain⟨b1,b2,b3⟩:=zjl h2
   simp only at c2 hm b1 b2 a2
   refine⟨?_,fun h0=>b2 (by omega),fun hst x hx=>?_⟩
   ·rw[b1]
    simp
    omega
   ·rw[yc4,ybh]at hx
    rcases hx with hx|hx
    ·rw[(yc5.1 hx).2]
     exact c3 hst
    ·exact b3 hst x hx
  ·cases h5
def zOf(f:F):Prop:=∃st k s e s',zX st k 0 [] s=some (((f.lists.length:Int)-1,e),s')∧s.ls=[]∧s'.ls=f.lists
def zml(st:Bool)(h f:F):Prop:=f.params=h.params∧f.type=h.type∧zOf f∧(st=true→(∀t∈f.locals,zBz t)∧∀ws∈f.lists,∀w∈ws,zaJ w=false)
theorem zdl{st:Bool}{f f':F}{s s':Rs}(h:z9 st f s=some (f',s'))(hl:f.locals=[]):zml st f f'∧s'.n=s.n+f'.locals.length∧(s.n≤65536→s'.n≤65536)∧f'.name=f.name:=by
 unfold z9 at h
 simp only[ybA,ybB]at h
 obtain⟨⟨n1,s1⟩,h1,⟨n2,s2⟩,h2,⟨gs,s3⟩,h3,⟨⟨n,e⟩,s4⟩,h4,h5⟩:=h
 simp only[Prod.mk.injEq]at h5
 obtain⟨hf',hs'⟩:=h5
 subst hf'
 subst hs'
 obtain⟨_,_,a2,_⟩:=zu h1
 obtain⟨_,_,b2,_⟩:=zu h2
 obtain⟨c1,c2,c3⟩:=zjl h3
 obtain⟨_,d2,_,_,_,_,d7⟩:=zaa _ _ _ _ _ _ _ _ h4
 simp only at a2 b2 c1 c2 d7
 have hn:n=(s4.ls.length:Int)-1:=by omega
 subst hn
 refine⟨⟨rfl,rfl,⟨st,_,_,e,s4,h4,rfl,rfl⟩,fun hst=>⟨?_,?_⟩⟩,?_,fun h0=>by rw[d7];exact c2 (by omega),rfl⟩
 ·simp only[hl,ycQ]
  exact c3 hst
 ·subst hst
  exact zd4 _ _ _ _ _ _ _ h4 (by simp) (by simp)
 ·simp only[hl,ycQ]
  omega
theorem zav{st:Bool}:∀{hs fs:List F} {s s':Rs},zF st hs s=some (fs,s')→(∀f∈hs,f.locals=[])→(∀f∈fs,∃h∈hs,zml st h f)∧s'.n=s.n+zdk fs∧(s.n≤65536→s'.n≤65536)∧fs.length=hs.length
 | [],fs,s,s',h,_=>by
  cases h
  exact⟨by simp,rfl,fun h=>h,rfl⟩
 | f::hs,fs,s,s',h,hl=>by
  rw[zF]at h
  simp only[ybA,ybB]at h
  obtain⟨⟨f',s1⟩,h1,⟨fs',s2⟩,h2,h3⟩:=h
  cases h3
  obtain⟨a1,a2,a3,_⟩:=zdl h1 (hl f (by simp))
  obtain⟨b1,b2,b3,b4⟩:=zav h2 fun g hg=>hl g (by simp[hg])
  simp only at b2 b3 a2 a3
  refine⟨fun g hg=>?_,?_,fun h0=>b3 (a3 h0),by simp[b4]⟩
  ·rcases ybC.1 hg with rfl|hg
   ·exact⟨f,by simp,a1⟩
   ·obtain⟨x,hx,q⟩:=b1 g hg
    exact⟨x,by simp[hx],q⟩
  ·have:zdk (f'::fs')=f'.locals.length+zdk fs':=rfl
   simp only
   omega
theorem zcS{st:Bool}:∀{fs fs':List F} {s s':Rs},zeT st fs s=some (fs',s')→fs'.map zch=fs.map zch
 | [],fs',s,s',h=>by
  cases h
  rfl
 | f::fs,fs',s,s',h=>by
  rw[zeT]at h
  simp only[ybA,ybB]at h
  obtain⟨⟨n1,s1⟩,h1,⟨n2,s2⟩,h2,⟨p,s3⟩,h3,⟨fs2,s4⟩,h4,h5⟩:=h
  cases h5
  simp only[yaL,zcS h4]
  rfl
theorem zf0{fs fs':List F}(h:fs'.map zch=fs.map zch):zdk fs'=zdk fs:=by
 have:∀l:List F,zdk l=((l.map zch).map fun f=>f.locals.length).sum:=fun l=>by simp only[zdk,List.map_map];rfl
 rw[this,this,h]
theorem zfi{fs fs':List F}(h:fs'.map zch=fs.map zch){f:F}(hf:f∈fs'):∃g∈fs,zch g=zch f:=by
 have:zch f∈fs.map zch:=by rw[←h];exact List.mem_map_of_mem hf
 obtain⟨g,hg,e⟩:=List.mem_map.1 this
 exact⟨g,hg,e⟩
theorem zjm{s s':Rs}{l:List F}(h:zda s=some (l,s')):∀f∈l,zqo false f:=by
 unfold zda at h
 simp only[ybA]at h
 obtain⟨s1,h1,⟨n,s2⟩,h2,⟨hs,s3⟩,h3,h4⟩:=h
 split at h4
 ·cases h4
  intro f hf
  exact(zhm h3).2.2 f (List.mem_of_mem_drop hf)
 ·cases h4
theorem zdH{c:UInt8}{s s':Rs}(h:zE c s=some s'):s'.n=s.n:=by
 unfold zE at h
 simp only[ybA]at h
 obtain⟨⟨x,s1⟩,h1,h2⟩:=h
 split at h2
 ·rw[ybB]at h2
  obtain⟨⟨y,s2⟩,h3,rfl⟩:=h2
  exact(zu h3).2.2.1.trans (zm h1).2.2
 ·cases h2
theorem zd5{n:Int}{s s':Rs}(h:zaT n s=some s'):s'.n=s.n:=by
 unfold zaT at h
 rw[ybB]at h
 obtain⟨⟨p,s1⟩,h1,rfl⟩:=h
 exact(zau h1).2.2
theorem ztt{s s':Rs}{l:List F}(h:zda s=some (l,s')):s'.n=s.n:=by
 unfold zda at h
 simp only[ybA]at h
 obtain⟨s1,h1,⟨n,s2⟩,h2,⟨hs,s3⟩,h3,h4⟩:=h
 split at h4
 ·cases h4
  have:=(zhm h3).2.1
  have:=(zu h2).2.2.1
  have:=zdH h1
  simp only at *
  omega
 ·cases h4
theorem zya{st:Bool}:∀{n:Nat} {s s':Rs} {l:List Int},zb8 (zdq st false) n s=some (l,s')→s'.n=s.n
 | 0,_,_,_,h=>by cases h;rfl
 | n+1,s,s',l,h=>by
  rw[zb8]at h
  simp only[ybA,ybB]at h
  obtain⟨⟨t,s1⟩,h1,⟨l',s2⟩,h2,h3⟩:=h
  cases h3
  exact(zya h2).trans (zu h1).2.2.1
theorem zf1{s s':Rs}{hs:List F}{mem mn:Int}(h:zje s=some ((hs,mem,mn),s')):(∀f∈hs,zqo false f)∧(-(2^63)≤mem∧mem<2^63)∧(-(2^63)≤mn∧mn<2^63)∧s'.n=s.n:=by
 unfold zje at h
 simp only[ybA,ybB]at h
 obtain⟨s1,h1,⟨hs',s2⟩,h2,s3,h3,s4,h4,s5,h5,s6,h6,s7,h7,s8,h8,⟨n9,s9⟩,h9,⟨l10,s10⟩,h10,s11,h11,s12,h12,s13,h13,s14,h14,⟨mem',s15⟩,h15,s16,h16,s17,h17,s18,h18,⟨mn',s19⟩,h19,h20⟩:=h
 cases h20
 obtain⟨_,_,a3,a4,a5,_⟩:=zu h15
 obtain⟨_,_,b3,b4,b5,_⟩:=zu h19
 refine⟨zjm h2,⟨a4,a5⟩,⟨b4,b5⟩,?_⟩
 have:=(zu h9).2.2.1
 simp only at *
 rw[b3,zd5 h18,zdH h17,zd5 h16,a3,zd5 h14,zdH h13,zd5 h12,zdH h11,zya h10,this,zdH h8,zd5 h7,zd5 h6,zd5 h5,zd5 h4,zdH h3,ztt h2,zd5 h1]
theorem zhn{hs fs:List F}{s s':Rs}(h:zmj hs s=some (fs,s'))(hl:∀f∈hs,f.locals=[]):(∀f∈fs,∃h∈hs,zml false h f)∧(s.n=0→zdk fs≤65536):=by
 unfold zmj at h
 simp only[ybA]at h
 obtain⟨s1,h1,⟨c,s2⟩,h2,h3⟩:=h
 split at h3
 ·simp only[ybA]at h3
  obtain⟨⟨fs1,s3⟩,h4,s4,h5,s5,h6,⟨x,s6⟩,h7,⟨y,s7⟩,h8,h9⟩:=h3
  split at h9
  ·obtain⟨a1,a2,a3,_⟩:=zav h4 hl
   have hn:=zcS h9
   refine⟨fun f hf=>?_,fun h0=>?_⟩
   ·obtain⟨g,hg,e⟩:=zfi hn hf
    obtain⟨k,hk,q1,q2,⟨st,k0,s0,e0,s0',q3,q4,q5⟩,q6⟩:=a1 g hg
    have e1:g.params=f.params:=by
     have:=congrArg F.params e
     exact this
    have e2:g.type=f.type:=by
     have:=congrArg F.type e
     exact this
    have e3:g.lists=f.lists:=by
     have:=congrArg F.lists e
     exact this
    exact⟨k,hk,by rw[←e1];exact q1,by rw[←e2];exact q2,⟨st,k0,s0,e0,s0',by rw[←e3];exact q3,q4,by rw[←e3];exact q5⟩,fun h=>by cases h⟩
   ·rw[zf0 hn]
    have:=(zu h2).2.2.1
    have:=zdH h1
    simp only at *
    have:=a3 (by omega)
    omega
  ·cases h9
 ·cases h3
theorem RepO.len{σ:AS}{v:AV}{l:List W}(h:Al.RepO σ v l)(K:AV→Prop):zh5 yb9 54 v K=K (.int .i64 (l.length:Int)):=by
 rcases h with ⟨rfl,rfl⟩|⟨b,rfl,_⟩<;>simp
theorem RepO.at{σ:AS}{v:AV}{l:List W}(h:Al.RepO σ v l){i:Nat}(hi:i<l.length):∃φ,Al.Rd σ φ∧∀K:AV→Prop,zA yb9 54 v (.int .i64 (i:Int)) K=K (.pv φ l[i].av):=by
 rcases h with ⟨rfl,_⟩|⟨φ,rfl,r⟩
 ·simp at hi
 ·exact⟨φ,r,fun K=>by simp[hi]⟩
@[simp] theorem zOg:zax 32 [(0,Operand.const (.int .u8 5))]=false:=by decide
@[simp] theorem zNS:zax 32 [(0,Operand.const (.int .u8 11))]=false:=by decide
@[simp] theorem zNT:zax 32 [(0,Operand.const (.int .u8 0)),(1,Operand.const (.int .u8 0))]=false:=by decide
def RgW(w:W):Prop:=-(2^63)≤w.n∧w.n<2^63
def RgL(ls:To):Prop:=∀ws∈ls,∀w∈ws,RgW w
def FCs(f:F)(pv lv tv:AV):List AV:=[.str f.name,pv,lv,.int .i64 f.type,tv]
def zGS(G:Env)(ls:To)(k:Nat):Prop:=∀(σ:AS) (R:Out→AS→Prop) (f:F) (pv lv tv:AV) (at_:Int) (bs:List UInt8),f.lists=ls→Al.IntsO σ pv f.params→Al.IntsO σ lv f.locals→Al.LstO σ tv f.lists→zmg ls k at_=some bs→bs.length≤2^38 →
 (∀v σ',zcZ σ σ' v bs→R (.ret v) σ')→zzQ G 48 [.agg (FCs f pv lv tv),.int .i64 at_] σ R
def LiI(ls:To)(k:Nat)(σ:AS)(o:Nat)(fc:List AV)(rv:AV)(ws:List W)(bs:List UInt8)(a:Nat→AV)(τ:AS):Prop:=∃(i:Nat) (done r:List UInt8),i≤ws.length∧zjd (zmg ls k) (ws.drop i)=some r∧done++r=bs∧a 2=.ptr o 0∧a 11=rv∧a 12=.int .i64 (ws.length:Int)∧a 13=.int .i64 (i:Int)∧zcZ σ τ (a 4) done∧o<τ.no∧σ.no≤o∧τ.objs o=some fc
theorem zBA{w:W}(h:zbj w=true):w.op=11∨w.op=12∨w.op=13:=by
 simpa [zbj,or_assoc]using h
section
variable {G : Env} {σ : AS} {R : Out → AS → Prop}
theorem zO{el:Option TypeId}{τ:AS}{v:AV}{ys:List AV}{x y:List UInt8}{K:AV→AS→Prop}(h1:zcZ σ τ v x)(e:ys=B y)(hl:x.length+y.length≤2^42)(h:∀v' σ',zcZ σ σ' v' (x++y)→σ'.objs=τ.objs→σ'.no=τ.no→K v' σ'):zbb el 1 1 v ys τ K:=by
 subst e
 obtain⟨ho,hA⟩:=h1
 have hgn:=hA.nf
 rcases ho with ⟨h0,rfl⟩|⟨g,rfl,g1,g2,g3⟩
 ·have hx:x=[]:=by simpa [B]using h0
  subst hx
  cases y with
  | nil=>simp[B];exact h _ _ ⟨.inl ⟨rfl,rfl⟩,hA⟩ rfl rfl
  | cons c y =>
   have e1:B (c::y)=ycp .u8 (c.toNat:Int)::B y:=rfl
   rw[e1]
   simp
   refine⟨by simp at hl;omega,?_⟩
   exact h _ _ ⟨.inr ⟨τ.nf,by simp[B],hgn,by simp,by simp⟩,hA.newF⟩ (by simp) (by simp)
 ·simp[g3]
  exact⟨by omega,h _ _ ⟨.inr ⟨τ.nf,by simp,hgn,by simp,by simp⟩,(hA.setF g1).newF (σ':=τ.setF g .dead)⟩ (by simp) (by simp)⟩
theorem zbL{τ:AS}{v v2:AV}{x y:List UInt8}{K:AV→AS→Prop}(h1:zcZ σ τ v x)(h2:zej τ v2 y)(hl:x.length+y.length≤2^42)(h:∀v' σ',zcZ σ σ' v' (x++y)→σ'.objs=τ.objs→σ'.no=τ.no→K v' σ'):
  zbU yb9 32 (.int .u8 0) 1 v2 τ.F fun ys=>(∀y,y∈ys→y.cells.length=1∧∀c,c∈y.cells→c.one=true)∧zbb (elT yb9 32) 1 1 v ys τ K:=by
 rcases h2 with ⟨rfl,rfl⟩|⟨φ,rfl,hr⟩
 ·simp
  exact zO h1 rfl hl h
 ·have hr':=hr.read
  simp[hr']
  exact⟨zo9 y,zO h1 rfl hl h⟩
theorem ztu(V:zd2 G){ls:To}{k:Nat}(IH:zGS G ls k){f:F}{pv lv tv rv:AV}{ws:List W}{bs:List UInt8}{o:Nat}(hls:f.lists=ls)(hp:Al.IntsO σ pv f.params)(hl:Al.IntsO σ lv f.locals)(ht:Al.LstO σ tv f.lists)(hrv:Al.RepO σ rv ws)(hws:ws.length≤2^40)(hbs:bs.length≤2^38)(hrg:∀w∈ws,RgW w)
  (h:∀v σ',zcZ σ σ' v bs→R (.ret v) σ') {a:Nat→AV} {τ:AS} (hI:LiI ls k σ o (FCs f pv lv tv) rv ws bs a τ) :
  avc yb9 G 89 zeN (z7 (fun a' σ'=>LiI ls k σ o (FCs f pv lv tv) rv ws bs a' σ'∧MU 13 (ws.length+1) a' σ'<MU 13 (ws.length+1) a τ) (z8 0 (z7 (avc yb9 G 89 zoH (zba yb9 [.tmp 4] R)) (zba yb9 [.tmp 4] R)))) a τ:=by
 obtain⟨i,done,r,hi,hr,hbsd,a2,a11,a12,a13,hN,ho1,ho2,ho⟩:=hI
 have n1:=hN.byt.one
 have hpl:=congrArg yce hbsd
 simp only[yab]at hpl
 by_cases hlt:i<ws.length
 ·have hlt':(i:Int)<(ws.length:Int):=by omega
  obtain⟨φ,hrd,hix⟩:=RepO.at (hrv.keep hN.2) hlt
  have hrd:=hrd.read
  rw[List.drop_eq_getElem_cons hlt]at hr
  have hrw:=hrg _ (yaw hlt)
  generalize ws[i]=w at *
  obtain⟨x,y,hx,hy,rfl⟩:=zkC hr
  have w1:yb4 .i64 ((i:Int)+1)=((i+1:Nat):Int):=by rw[zc]<;>omega
  have next:∀(a':Nat→AV) (σ':AS),a' 2=.ptr o 0→a' 11=rv→a' 12=.int .i64 (ws.length:Int)→a' 13=.int .i64 ((i:Int)+1)→zcZ σ σ' (a' 4) (done++x)→τ.no≤σ'.no→σ'.objs o=some (FCs f pv lv tv) →
    LiI ls k σ o (FCs f pv lv tv) rv ws bs a' σ'∧MU 13 (ws.length+1) a' σ'<MU 13 (ws.length+1) a τ:=fun a' σ' e2 e11 e12 e13 e4 e5 e6=>by
   refine⟨⟨i+1,done++x,y,hlt,hy,by rw[←hbsd];simp,e2,e11,e12,by rw[e13];rfl,e4,by omega,ho2,e6⟩,?_⟩
   simp only[MU,a13,e13];omega
  have kobj:∀{c1:List AV} {σ':AS},zd ((τ.newO c1).setO τ.no w.cs) σ'→σ'.objs o=some (FCs f pv lv tv)∧σ'.objs τ.no=some w.cs∧τ.no<σ'.no:=fun {c1 σ'} A=>by
   have:=A.no
   simp at this
   refine⟨?_,?_,by omega⟩
   ·rw[A.obj o (by simp;omega)]
    have:¬o=τ.no:=by omega
    simp[this,ho]
   ·rw[A.obj τ.no (by simp)]
    simp
  have hA0:∀c1,zd τ ((τ.newO c1).setO τ.no w.cs):=fun c1=>.mk1
  have hlen:done.length+(x.length+y.length)=bs.length:=by rw[←hpl];simp
  have sub:∀{τ':AS} {z:List UInt8} {at_:Int} {R':Out→AS→Prop},zd σ τ'→zmg ls k at_=some z→z.length≤2^38→(∀v σ',zcZ τ' σ' v z→R' (.ret v) σ')→zzQ G 48 [.agg (FCs f pv lv tv),.int .i64 at_] τ' R' :=
   fun A he hz hR=>IH _ _ f pv lv tv _ _ hls (hp.keep A) (hl.keep A) (ht.keep A) he hz hR
  have hwcs:w.cs=[.int .i64 w.op,.int .i64 w.ty,.int .i64 w.n,.int .i64 w.body,.int .i64 w.other,.str w.name]:=rfl
  by_cases hn:zbj w=true
  ·unfold ztn at hx
   rw[if_pos hn]at hx
   cases hb:zmg ls k w.body with
   | none=>rw[hb]at hx;cases hx
   | some b =>
    rw[hb]at hx
    simp only[ycY]at hx
    have hop:=zBA hn
    have q2:yc6.wrap (yam.wrap (yam.wrap 13-11))=2:=by decide
    have q3:yc6.wrap (yam.wrap (yam.wrap 14-11))=3:=by decide
    have q4:yc6.wrap (yam.wrap (yam.wrap 15-11))=4:=by decide
    have c2:zaw (11-9)=2:=by decide
    have c3:zaw (12-9)=3:=by decide
    have c4:zaw (13-9)=4:=by decide
    rcases hop with e|e|e
    ·have h13:¬(w.op=13∧0≤w.other):=by omega
     rw[if_neg h13,e]at hx
     simp only[yaR.injEq,c2,c3,c4]at hx
     subst hx
     simp only[yac,yab,ybl]at hlen
     have A1':=hA0 [ycp yam 0,ycp yam 0,ycp yam 0,ycp yam 0,ycp yam 0,yco []]
     have hk:=kobj (zd.refl ((τ.newO [ycp yam 0,ycp yam 0,ycp yam 0,ycp yam 0,ycp yam 0,yco []]).setO τ.no w.cs))
     simp only[hwcs,e]at hk A1'
     obtain⟨k1,k2,k3⟩:=hk
     simp[zeN,a2,a11,a12,a13,hlt',hix,hrd,W.av,W.cs,e,n1,splice,q2]
     refine zO (y:=[2,64]) (hN.keep A1') rfl (by simp;omega) fun v1 σ1 h1 u1 r1=>?_
     have k1':=(congrFun u1 o).trans k1
     have k2':=(congrFun u1 τ.no).trans k2
     have n2:=h1.byt.one
     have hno1:=A1'.no
     simp only[FCs]at k1'
     simp[a2,k1',k2',n2]
     refine sub h1.2 hb (by omega) fun v2 σ2 h2=>?_
     have n3:=h2.byt.one
     have k1'':=(h2.2.obj o (by omega)).trans k1'
     have k2'':=(h2.2.obj τ.no (by omega)).trans k2'
     have hno2:=h2.2.no
     simp
     refine zbL (h1.keep h2.2) h2.byt (by simp;omega) fun v3 σ3 h3 u3 r3=>?_
     have k1a:=(congrFun u3 o).trans k1''
     have k2a:=(congrFun u3 τ.no).trans k2''
     have n4:=h3.byt.one
     simp[k2a,n4]
     refine zO (y:=[11]) h3 rfl (by simp;omega) fun v4 σ4 h4 u4 r4=>?_
     have k1b:=(congrFun u4 o).trans k1a
     simp[w1,a13]
     exact next _ _ (by simp[a2]) (by simp[a11]) (by simp[a12]) (by simp) (by simpa using h4) (by omega) k1b
    ·have h13:¬(w.op=13∧0≤w.other):=by omega
     rw[if_neg h13,e]at hx
     simp only[yaR.injEq,c2,c3,c4]at hx
     subst hx
     simp only[yac,yab,ybl]at hlen
     have A1':=hA0 [ycp yam 0,ycp yam 0,ycp yam 0,ycp yam 0,ycp yam 0,yco []]
     have hk:=kobj (zd.refl ((τ.newO [ycp yam 0,ycp yam 0,ycp yam 0,ycp yam 0,ycp yam 0,yco []]).setO τ.no w.cs))
     simp only[hwcs,e]at hk A1'
     obtain⟨k1,k2,k3⟩:=hk
     simp[zeN,a2,a11,a12,a13,hlt',hix,hrd,W.av,W.cs,e,n1,splice,q3]
     refine zO (y:=[3,64]) (hN.keep A1') rfl (by simp;omega) fun v1 σ1 h1 u1 r1=>?_
     have k1':=(congrFun u1 o).trans k1
     have k2':=(congrFun u1 τ.no).trans k2
     have n2:=h1.byt.one
     have hno1:=A1'.no
     simp only[FCs]at k1'
     simp[a2,k1',k2',n2]
     refine sub h1.2 hb (by omega) fun v2 σ2 h2=>?_
     have n3:=h2.byt.one
     have k1'':=(h2.2.obj o (by omega)).trans k1'
     have k2'':=(h2.2.obj τ.no (by omega)).trans k2'
     have hno2:=h2.2.no
     simp
     refine zbL (h1.keep h2.2) h2.byt (by simp;omega) fun v3 σ3 h3 u3 r3=>?_
     have k1a:=(congrFun u3 o).trans k1''
     have k2a:=(congrFun u3 τ.no).trans k2''
     have n4:=h3.byt.one
     simp[k2a,n4]
     refine zO (y:=[11]) h3 rfl (by simp;omega) fun v4 σ4 h4 u4 r4=>?_
     have k1b:=(congrFun u4 o).trans k1a
     simp[w1,a13]
     exact next _ _ (by simp[a2]) (by simp[a11]) (by simp[a12]) (by simp) (by simpa using h4) (by omega) k1b
    ·by_cases h0:0≤w.other
     ·have h13:w.op=13∧0≤w.other:=⟨e,h0⟩
      rw[if_pos h13,e]at hx
      simp only[ybB,c4]at hx
      obtain⟨ot,hot,rfl⟩:=hx
      simp only[yac,yab,ybl]at hlen
      have A1':=hA0 [ycp yam 0,ycp yam 0,ycp yam 0,ycp yam 0,ycp yam 0,yco []]
      have hk:=kobj (zd.refl ((τ.newO [ycp yam 0,ycp yam 0,ycp yam 0,ycp yam 0,ycp yam 0,yco []]).setO τ.no w.cs))
      simp only[hwcs,e]at hk A1'
      obtain⟨k1,k2,k3⟩:=hk
      simp[zeN,a2,a11,a12,a13,hlt',hix,hrd,W.av,W.cs,e,n1,splice,q4]
      refine zO (y:=[4,64]) (hN.keep A1') rfl (by simp;omega) fun v1 σ1 h1 u1 r1=>?_
      have k1':=(congrFun u1 o).trans k1
      have k2':=(congrFun u1 τ.no).trans k2
      have n2:=h1.byt.one
      have hno1:=A1'.no
      simp only[FCs]at k1'
      simp[a2,k1',k2',n2]
      refine sub h1.2 hb (by omega) fun v2 σ2 h2=>?_
      have n3:=h2.byt.one
      have k1'':=(h2.2.obj o (by omega)).trans k1'
      have k2'':=(h2.2.obj τ.no (by omega)).trans k2'
      have hno2:=h2.2.no
      simp
      refine zbL (h1.keep h2.2) h2.byt (by simp;omega) fun v3 σ3 h3 u3 r3=>?_
      have k1a:=(congrFun u3 o).trans k1''
      have k2a:=(congrFun u3 τ.no).trans k2''
      have n4:=h3.byt.one
      simp[a2,k1a,k2a,n4,h0]
      refine zO (y:=[5]) h3 rfl (by simp;omega) fun v4 σ4 h4 u4 r4=>?_
      have k1b:=(congrFun u4 o).trans k1a
      have k2b:=(congrFun u4 τ.no).trans k2a
      have n5:=h4.byt.one
      simp[a2,k1b,k2b,n5]
      refine sub h4.2 hot (by omega) fun v5 σ5 h5=>?_
      have n6:=h5.byt.one
      have k1c:=(h5.2.obj o (by omega)).trans k1b
      have hno3:=h5.2.no
      simp
      refine zbL (h4.keep h5.2) h5.byt (by simp;omega) fun v6 σ6 h6 u6 r6=>?_
      have k1d:=(congrFun u6 o).trans k1c
      have n7:=h6.byt.one
      simp[n7]
      refine zO (y:=[11]) h6 rfl (by simp;omega) fun v7 σ7 h7 u7 r7=>?_
      have k1e:=(congrFun u7 o).trans k1d
      simp[w1,a13]
      exact next _ _ (by simp[a2]) (by simp[a11]) (by simp[a12]) (by simp) (by simpa using h7) (by omega) k1e
     ·have h13:¬(w.op=13∧0≤w.other):=by omega
      rw[if_neg h13,e]at hx
      simp only[yaR.injEq,c2,c3,c4]at hx
      subst hx
      simp only[yac,yab,ybl]at hlen
      have A1':=hA0 [ycp yam 0,ycp yam 0,ycp yam 0,ycp yam 0,ycp yam 0,yco []]
      have hk:=kobj (zd.refl ((τ.newO [ycp yam 0,ycp yam 0,ycp yam 0,ycp yam 0,ycp yam 0,yco []]).setO τ.no w.cs))
      simp only[hwcs,e]at hk A1'
      obtain⟨k1,k2,k3⟩:=hk
      simp[zeN,a2,a11,a12,a13,hlt',hix,hrd,W.av,W.cs,e,n1,splice,q4]
      refine zO (y:=[4,64]) (hN.keep A1') rfl (by simp;omega) fun v1 σ1 h1 u1 r1=>?_
      have k1':=(congrFun u1 o).trans k1
      have k2':=(congrFun u1 τ.no).trans k2
      have n2:=h1.byt.one
      have hno1:=A1'.no
      simp only[FCs]at k1'
      simp[a2,k1',k2',n2]
      refine sub h1.2 hb (by omega) fun v2 σ2 h2=>?_
      have n3:=h2.byt.one
      have k1'':=(h2.2.obj o (by omega)).trans k1'
      have k2'':=(h2.2.obj τ.no (by omega)).trans k2'
      have hno2:=h2.2.no
      simp
      refine zbL (h1.keep h2.2) h2.byt (by simp;omega) fun v3 σ3 h3 u3 r3=>?_
      have k1a:=(congrFun u3 o).trans k1''
      have k2a:=(congrFun u3 τ.no).trans k2''
      have n4:=h3.byt.one
      simp[k2a,n4,h0]
      refine zO (y:=[11]) h3 rfl (by simp;omega) fun v4 σ4 h4 u4 r4=>?_
      have k1b:=(congrFun u4 o).trans k1a
      simp[w1,a13]
      exact next _ _ (by simp[a2]) (by simp[a11]) (by simp[a12]) (by simp) (by simpa using h4) (by omega) k1b
  ·unfold ztn at hx
   rw[if_neg hn]at hx
   simp only[ybB]at hx
   obtain⟨c,hc,rfl⟩:=hx
   have hno:¬w.op=11∧¬w.op=12∧¬w.op=13:=by simpa [zbj,not_or,and_assoc]using hn
   obtain⟨o11,o12,o13⟩:=hno
   simp only[yac]at hlen
   have htl:=znv w
   simp[zeN,a2,a11,a12,a13,hlt',hix,hrd,W.av,W.cs,o11,o12,o13,n1,splice]
   refine zrn V (w:=w) (zrp hc) fun σ1 A1=>?_
   obtain⟨k1,k2,k3⟩:=kobj A1
   have A1':=(hA0 _).trans A1
   simp only[hwcs]at k2
   simp[n1]
   refine zO (y:=[c]) (hN.keep A1') rfl (by simp;omega) fun v2 σ2 h2 u2 r2=>?_
   have k2':=(congrFun u2 τ.no).trans k2
   have k1':=(congrFun u2 o).trans k1
   have n2:=h2.byt.one
   have hno1:=A1'.no
   simp[k2']
   by_cases p1:w.op=1
   ·have et:zeq w=sI w.n:=by simp[zeq,p1]
    rw[et]at next htl
    simp[p1,n2,k2']
    refine zo8 hrw fun v3 σ3 h3=>?_
    have k1'':=(h3.2.obj o (by omega)).trans k1'
    have hno2:=h3.2.no
    simp
    refine zbL (h2.keep h3.2) h3.byt (by simp;omega) fun v4 σ4 h4 u4 r4=>?_
    have k1a:=(congrFun u4 o).trans k1''
    simp[w1,a13]
    exact next _ _ (by simp[a2]) (by simp[a11]) (by simp[a12]) (by simp) (by simpa using h4) (by omega) k1a
   ·by_cases p2:w.op=2∨w.op=3∨w.op=10∨w.op=14∨w.op=15
    ·have et:zeq w=uI w.n:=by simp only[zeq,p1,if_false,p2,if_true]
     rw[et]at next htl
     rcases p2 with p2|p2|p2|p2|p2 <;>
     ·simp[p2,n2,k2']
      refine zcQ hrw.2 fun v3 σ3 h3=>?_
      have k1'':=(h3.2.obj o (by omega)).trans k1'
      have hno2:=h3.2.no
      simp
      refine zbL (h2.keep h3.2) h3.byt (by simp;omega) fun v4 σ4 h4 u4 r4=>?_
      have k1a:=(congrFun u4 o).trans k1''
      simp[w1,a13]
      exact next _ _ (by simp[a2]) (by simp[a11]) (by simp[a12]) (by simp) (by simpa using h4) (by omega) k1a
    ·simp only[not_or]at p2
     obtain⟨p2,p3,p10,p14,p15⟩:=p2
     by_cases p8:w.op=8∨w.op=9
     ·have et:zeq w=[0,0]:=by simp only[zeq,p1,p2,p3,p10,p14,p15,if_false,or_self,p8,if_true]
      rw[et]at next htl
      rcases p8 with p8|p8 <;>
      ·simp[p8,n2,k2']
       refine zO (y:=[0,0]) h2 rfl (by simp;omega) fun v4 σ4 h4 u4 r4=>?_
       have k1a:=(congrFun u4 o).trans k1'
       simp[w1,a13]
       exact next _ _ (by simp[a2]) (by simp[a11]) (by simp[a12]) (by simp) (by simpa using h4) (by omega) k1a
     ·simp only[not_or]at p8
      obtain⟨p8,p9⟩:=p8
      have et:zeq w=[]:=by simp only[zeq,p1,p2,p3,p10,p14,p15,p8,p9,if_false,or_self]
      rw[et]at next htl
      simp[p1,p2,p3,p10,p14,p15,p8,p9,n2,w1,a13]
      exact next _ _ (by simp[a2]) (by simp[a11]) (by simp[a12]) (by simp) (by simpa using h2) (by omega) k1'
 ·have hie:i=ws.length:=by omega
  subst hie
  simp only[List.drop_length,zjd,yaR.injEq]at hr
  subst hr
  have:done=bs:=by rw[←hbsd];simp
  subst this
  simp[zeN,zoH,a12,a13,n1]
  exact h _ _ hN
theorem ztv{G:Env}(V:zd2 G){ls:To}(hw:∀ws∈ls,ws.length≤2^40)(hrg:RgL ls):∀k,zGS G ls k
 | 0=>fun _ _ _ _ _ _ _ _ _ _ _ _ h=>by simp[zmg]at h
 | k+1=>fun σ R f pv lv tv at_ bs hls hp hl ht h hb hR=>by
  have IH:=ztv V hw hrg k
  rw[zmg]at h
  split at h
  ·cases h
  rename_i h0
  have h0:¬at_<0:=h0
  obtain⟨n,rfl⟩:∃n:Nat,at_=n:=⟨at_.toNat,by omega⟩
  simp only[ybe]at h
  cases hg:ls[n]? with
  | none=>rw[hg]at h;cases h
  | some ws =>
   rw[hg]at h
   simp only at h
   obtain⟨hn,hge⟩:=yaq.1 hg
   subst hls
   obtain⟨φ,rv,hrd,hrv,hix⟩:=ht.at hn
   rw[hge]at hrv
   have hrd:=hrd.read
   have p1:=hp.one
   have l1:=hl.one
   have t1:=ht.one
   have r1:=hrv.one
   have rl:=RepO.len hrv
   refine zAC rfl ?_
   simp[zML,FCs,p1,l1,t1,hix,hrd,r1,rl]
   refine zH (LiI f.lists k σ σ.no (FCs f pv lv tv) rv ws bs) (MU 13 (ws.length+1)) ⟨0,[],bs,by omega,by simpa using h,rfl,by simp,by simp,by simp,by simp,⟨.inl ⟨rfl,by simp⟩,(zd.refl σ).newO⟩,by simp,by omega,by simp[FCs]⟩ fun a τ hI=>?_
   exact ztu V IH rfl hp hl ht hrv (hw ws (yct hg)) hb (hrg ws (yct hg)) hR hI
end
end Go.Proofs.YtohfclafhegadaaGreatDoor
namespace Go.Proofs.YtohfclafhegadaaGreatDoor.Ck
open Go Go.Abs Go.Proofs.YtohfclafhegadaaGreatDoor
theorem zrs{a n:Int}{named named':List Bool}(h:zfy a named n=.ok named'){i:Nat}(hi:named'[i]?=some true):named[i]?=some true∨(i:Int)=n:=by
 unfold zfy at h
 split at h
 ·rename_i hc
  cases h
  by_cases hin:n.toNat=i
  ·right;omega
  ·left;rwa [yc7 hin]at hi
 ·cases h
theorem zjn{a:Int}:∀{ns:List Int} {named named':List Bool},zbh a ns named=.ok named'→∀{i:Nat},named'[i]?=some true→named[i]?=some true∨(i:Int)∈ns
 | [],named,named',h,i,hi=>by rw[zbh]at h;cases h;exact .inl hi
 | n::ns,named,named',h,i,hi=>by
  rw[zbh]at h
  split at h
  ·cases h
  ·rename_i nm hnm
   rcases zjn h hi with h1|h1
   ·rcases zrs hnm h1 with h2|h2
    ·exact .inl h2
    ·exact .inr (by simp[h2])
   ·exact .inr (by simp[h1])
theorem znw{a:Int}:∀{r:List W} {named named':List Bool},zjT a r named=.ok named'→∀{i:Nat},named'[i]?=some true→named[i]?=some true∨∃w∈r,(i:Int)∈zU w
 | [],named,named',h,i,hi=>by rw[zjT]at h;cases h;exact .inl hi
 | w::r,named,named',h,i,hi=>by
  rw[zjT]at h
  split at h
  ·cases h
  ·rename_i nm hnm
   rcases znw h hi with h1|⟨w',h1,h2⟩
   ·rcases zjn hnm h1 with h2|h2
    ·exact .inl h2
    ·exact .inr ⟨w,by simp,h2⟩
   ·exact .inr ⟨w',by simp[h1],h2⟩
theorem zkI:∀{ls:To} {k:Nat} {named named':List Bool},zcp k ls named=.ok named'→∀{i:Nat},named'[i]?=some true→named[i]?=some true∨∃(j:Nat) (r:List W),ls[j]?=some r∧∃w∈r,(i:Int)∈zU w
 | [],k,named,named',h,i,hi=>by rw[zcp]at h;cases h;exact .inl hi
 | r::ls,k,named,named',h,i,hi=>by
  rw[zcp]at h
  split at h
  ·cases h
  ·rename_i nm hnm
   rcases zkI h hi with h1|⟨j,r',h1,h2⟩
   ·rcases znw hnm h1 with h2|h2
    ·exact .inl h2
    ·exact .inr ⟨0,r,rfl,h2⟩
   ·exact .inr ⟨j+1,r',by simpa using h1,h2⟩
theorem zwD{a n:Int}{named named':List Bool}(h:zfy a named n=.ok named'):named'.length=named.length:=by
 unfold zfy at h
 split at h
 ·cases h;simp
 ·cases h
theorem znx{a:Int}:∀{ns:List Int} {named named':List Bool},zbh a ns named=.ok named'→named'.length=named.length
 | [],named,named',h=>by rw[zbh]at h;cases h;rfl
 | n::ns,named,named',h=>by
  rw[zbh]at h
  split at h
  ·cases h
  ·rename_i nm hnm
   rw[znx h,zwD hnm]
theorem ztw{a:Int}:∀{r:List W} {named named':List Bool},zjT a r named=.ok named'→named'.length=named.length
 | [],named,named',h=>by rw[zjT]at h;cases h;rfl
 | w::r,named,named',h=>by
  rw[zjT]at h
  split at h
  ·cases h
  ·rename_i nm hnm
   rw[ztw h,znx hnm]
theorem zqp:∀{ls:To} {k:Nat} {named named':List Bool},zcp k ls named=.ok named'→named'.length=named.length
 | [],k,named,named',h=>by rw[zcp]at h;cases h;rfl
 | r::ls,k,named,named',h=>by
  rw[zcp]at h
  split at h
  ·cases h
  ·rename_i nm hnm
   rw[zqp h,ztw hnm]
theorem zny{ls:To}(h:zeh ls=.ok ()){i:Nat}(hi:i+1<ls.length):∃(j:Nat) (r:List W),ls[j]?=some r∧∃w∈r,(i:Int)∈zU w:=by
 unfold zeh at h
 split at h
 ·cases h
 split at h
 ·cases h
 rename_i nm hnm
 split at h
 ·rename_i hall
  rw[yaM]at hall
  have hlen:nm.length=ls.length:=by
   have:=(zqp hnm)
   simpa using this
  have h1:nm[i]?=some true:=by
   have h2:=hall (nm[i]'(by omega)) (List.mem_iff_getElem.2 ⟨i,by simp;omega,by simp⟩)
   rw[yau (by omega)]
   simpa using h2
  rcases zkI hnm h1 with h2|h2
  ·rw[List.getElem?_replicate]at h2
   split at h2<;>simp at h2
  ·exact h2
 ·cases h
theorem zhL{fs:List F}{ls:List Int}{ty deep:Int}{look:zuw}:∀{ws:List W} {s s':St},zdh fs ls ty deep look ws s=.ok s'→∀w∈ws,∃s0 s1,zeg fs ls ty deep look w s0=.ok s1
 | [],_,_,_,w,hw=>by simp at hw
 | v::ws,s,s',h,w,hw=>by
  rw[zdh]at h
  split at h
  ·cases h
  ·rename_i s1 h1
   rcases ybC.1 hw with rfl|hw
   ·exact⟨s,s1,h1⟩
   ·exact zhL h w hw
theorem zpj{fs:List F}{ls:List Int}{ty deep:Int}{look:zuw}{w:W}{s s':St}(h:zeg fs ls ty deep look w s=.ok s'):zdg w=true∧∀n∈zU w,look n (deep+1)=.ok ():=by
 unfold zeg at h
 split at h
 ·cases h
 rename_i hf
 refine⟨by simpa using hf,fun n hn=>?_⟩
 split at h
 ·cases h
 by_cases h1:w.op=11∨w.op=12
 ·rw[if_pos h1]at h
  unfold zU at hn
  rw[if_pos (by omega)]at hn
  simp at hn
  subst hn
  cases hl:look w.body (deep+1)with
  | ok u=>rfl
  | error e=>rw[hl]at h;cases h
 rw[if_neg h1]at h
 by_cases h2:w.op=13
 ·rw[if_pos h2]at h
  split at h
  ·cases h
  cases hl:look w.body (deep+1)with
  | error e=>rw[hl]at h;cases h
  | ok u =>
   rw[hl]at h
   simp only at h
   unfold zU at hn
   by_cases ho:w.other<0
   ·rw[if_pos (by omega)]at hn
    simp at hn
    subst hn
    exact hl
   ·rw[if_neg (by omega),if_pos h2]at hn
    rw[if_pos (by omega)]at h
    simp at hn
    rcases hn with rfl|rfl
    ·exact hl
    ·cases hl2:look w.other (deep+1)with
     | ok u=>rfl
     | error e=>rw[hl2]at h;cases h
 ·unfold zU at hn
  rw[if_neg (by omega),if_neg h2]at hn
  simp at hn
theorem zrt{fs:List F}{ls:List Int}{ty:Int}{lists:To}{k:Nat}{at_ deep:Int}(h:zfx fs ls ty lists (k+1) at_ deep=.ok ()):∀w∈lists.getD at_.toNat [],zdg w=true∧∀n∈zU w,zfx fs ls ty lists k n (deep+1)=.ok ():=by
 rw[zfx]at h
 split at h
 ·cases h
 ·rename_i s' hs
  intro w hw
  obtain⟨s0,s1,h1⟩:=zhL hs w hw
  exact zpj h1
theorem zbo{fs:List F}{ls:List Int}{ty:Int}{lists:To}(hl:zeh lists=.ok ())(h:zfx fs ls ty lists lists.length ((lists.length:Int)-1) 0=.ok ()):∀(d i:Nat),i+d+1=lists.length→∃(k:Nat) (deep:Int),zfx fs ls ty lists k (i:Int) deep=.ok ():=by
 intro d
 induction d using Nat.strongRecOn with
 | _ d ih =>
  intro i hi
  by_cases h0:d=0
  ·subst h0
   refine⟨lists.length,0,?_⟩
   have:(i:Int)=(lists.length:Int)-1:=by omega
   rw[this];exact h
  ·obtain⟨j,r,h1,w,h2,h3⟩:=zny hl (i:=i) (by omega)
   obtain⟨_,ha,_⟩:=znn hl
   have hj:=(ha j r h1 _ (List.mem_flatMap.2 ⟨w,h2,h3⟩)).2
   have hjl:j<lists.length:=(yaq.1 h1).1
   obtain⟨k,deep,hk⟩:=ih (lists.length-1-j) (by omega) j (by omega)
   cases k with
   | zero=>rw[zfx]at hk;cases hk
   | succ k =>
    have hg:lists.getD (j:Int).toNat []=r:=by rw[ybe,List.getD_eq_getElem?_getD,h1];rfl
    have:=zrt hk w (by rw[hg];exact h2)
    exact⟨k,deep+1,this.2 _ h3⟩
end Go.Proofs.YtohfclafhegadaaGreatDoor.Ck
namespace Go.Proofs.YtohfclafhegadaaGreatDoor
open Go Go.Abs
section
variable {G : Env} {σ : AS} {R : Out → AS → Prop}
theorem zdI{el:Option TypeId}{T:Nat→Nat}{i:Nat}{τ:AS}{v row:AV}{l:List (List UInt8)}{bs:List UInt8}{K:AV→AS→Prop}(hi:1≤i)(hG:zai T i σ τ v l)(hN:zob T τ row bs)(hT:zbK T τ)(A:zd σ τ)(hl:l.length<2^40)
  (h:∀v' τ' T',zai T' i σ τ' v' (l++[bs])→zbK T' τ'→zd σ τ'→(∀j v2 l2,j≠i→zai T j σ τ v2 l2→zai T' j σ τ' v2 l2)→τ'.objs=τ.objs→τ'.no=τ.no→K v' τ'):zbb el 24 1 v [row] τ K:=by
 have hgn:=A.nf
 have fr:zbK (upd T τ.nf i) τ.newF:=fun f hf=>by
  have hf':τ.nf+1≤f:=hf
  have:¬f=τ.nf:=by omega
  simp[zae,this]
  exact hT f (by omega)
 rcases hG with ⟨rfl,rfl⟩|⟨φ,vs,rfl,hφ,hv⟩
 ·simp
  refine h _ _ (upd T τ.nf i) (.inr ⟨_,[row],rfl,.inr ⟨τ.nf,rfl,hgn,by simp,by simp,by simp[zae]⟩,.cons hN.new .nil⟩) fr A.newF (fun j v2 l2 hj h2=>h2.new) (by simp) (by simp)
 ·have hvl:=hv.length
  rcases hφ with rfl|⟨g,rfl,g1,g2,g3,g4⟩
  ·simp[zbb]
   refine⟨by omega,?_⟩
   exact h _ _ (upd T τ.nf i) (.inr ⟨_,_,rfl,.inr ⟨τ.nf,rfl,hgn,by simp,by simp,by simp[zae]⟩,(Al.all2_mono hv fun _ _ q=>q.new).append (.cons hN.new .nil)⟩) fr A.newF (fun j v2 l2 hj h2=>h2.new) (by simp) (by simp)
  ·simp[g3]
   refine⟨by omega,?_⟩
   refine h _ _ (upd T τ.nf i) (.inr ⟨_,_,rfl,.inr ⟨τ.nf,rfl,hgn,by simp,by simp,by simp[zae]⟩,(Al.all2_mono hv fun _ _ q=>q.step g4 hi).append (.cons (hN.step g4 hi) .nil)⟩) (fun f hf=>fr f hf) ((A.setF g1).newF (σ':=τ.setF g .dead)) (fun j v2 l2 hj h2=>h2.step g4 hi hj) (by simp) (by simp)
theorem zbK.keep{T τ τ'}(h:zbK T τ)(A:zd τ τ'):zbK T τ':=fun f hf=>h f (by have:=A.nf;omega)
theorem B_inj:∀{x y:List UInt8},B x=B y→x=y
 | [],[],_=>rfl
 | [],_::_,h=>by cases h
 | _::_,[],h=>by cases h
 | a::x,b::y,h=>by
  have h1:ycp .u8 (a.toNat:Int)::B x=ycp .u8 (b.toNat:Int)::B y:=h
  injection h1 with h1 h2
  injection h1 with _ h3
  have h4:a=b:=UInt8.toNat_inj.1 (by omega)
  rw[B_inj h2,h4]
theorem zqq{K:AV→Prop}{xs:List AV}(x:List UInt8)(e:xs=B x):(∃bs,xs=B bs∧K (.lit bs))↔K (.lit x):=by
 subst e
 refine⟨fun⟨bs,h,k⟩=>?_,fun k=>⟨x,rfl,k⟩⟩
 rw[B_inj h];exact k
@[simp] theorem zLY:zax 32 [(0,Operand.const (.int .u8 101)),(1,Operand.const (.int .u8 110)),(2,Operand.const (.int .u8 118))]=true:=by decide
@[simp] theorem zNU{a:Nat→AV}{K:AV→Prop}:zaX yb9 32 3 (ev G a) [(0,Operand.const (.int .u8 101)),(1,Operand.const (.int .u8 110)),(2,Operand.const (.int .u8 118))] K=K (.lit [101,110,118]):=by
 unfold zaX
 simp
 exact zqq [101,110,118] rfl
@[simp] theorem zKe:zax 32 [(0,Operand.const (.int .u8 109)),(1,Operand.const (.int .u8 97)),(2,Operand.const (.int .u8 105)),(3,Operand.const (.int .u8 110))]=true:=by decide
@[simp] theorem zLZ{a:Nat→AV}{K:AV→Prop}:zaX yb9 32 4 (ev G a) [(0,Operand.const (.int .u8 109)),(1,Operand.const (.int .u8 97)),(2,Operand.const (.int .u8 105)),(3,Operand.const (.int .u8 110))] K=K (.lit [109,97,105,110]):=by
 unfold zaX
 simp
 exact zqq [109,97,105,110] rfl
@[simp] theorem zKf:zax 32 [(0,Operand.const (.int .u8 110)),(1,Operand.const (.int .u8 97)),(2,Operand.const (.int .u8 109)),(3,Operand.const (.int .u8 101))]=true:=by decide
@[simp] theorem zL0{a:Nat→AV}{K:AV→Prop}:zaX yb9 32 4 (ev G a) [(0,Operand.const (.int .u8 110)),(1,Operand.const (.int .u8 97)),(2,Operand.const (.int .u8 109)),(3,Operand.const (.int .u8 101))] K=K (.lit [110,97,109,101]):=by
 unfold zaX
 simp
 exact zqq [110,97,109,101] rfl
@[simp] theorem zGT:zax 32 [(0,Operand.const (.int .u8 0)),(1,Operand.const (.int .u8 97)),(2,Operand.const (.int .u8 115)),(3,Operand.const (.int .u8 109)),(4,Operand.const (.int .u8 1)),(5,Operand.const (.int .u8 0)),(6,Operand.const (.int .u8 0)),(7,Operand.const (.int .u8 0))]=true:=by decide
@[simp] theorem zKg{a:Nat→AV}{K:AV→Prop}:zaX yb9 32 8 (ev G a) [(0,Operand.const (.int .u8 0)),(1,Operand.const (.int .u8 97)),(2,Operand.const (.int .u8 115)),(3,Operand.const (.int .u8 109)),(4,Operand.const (.int .u8 1)),(5,Operand.const (.int .u8 0)),(6,Operand.const (.int .u8 0)),(7,Operand.const (.int .u8 0))] K=K (.lit zhK):=by
 unfold zaX
 simp
 exact zqq zhK rfl
@[simp] theorem zOh:zax 32 [(0,Operand.const (.int .u8 1))]=false:=by decide
@[simp] theorem zOi:zax 32 [(0,Operand.const (.int .u8 0))]=false:=by decide
@[simp] theorem zL1:zax 32 [(0,Operand.const (.int .u8 1)),(1,Operand.const (.int .u8 0)),(2,Operand.const (.int .u8 1))]=false:=by decide
@[simp] theorem zL2:zax 32 [(0,Operand.const (.int .u8 1)),(1,Operand.const (.int .u8 127)),(2,Operand.const (.int .u8 0)),(3,Operand.const (.int .u8 65))]=false:=by decide
@[simp] theorem zNV{t:Nat}:zax 32 [(0,Operand.const (.int .u8 0)),(1,Operand.tmp t)]=false:=by simp[zax]
theorem zej.lit(σ:AS)(bs:List UInt8){xs:List AV}(e:xs=B bs):zej σ (.sl (.stat true) 1 xs) bs:=.inr ⟨.stat true,by rw[e],trivial⟩
def zgD:List (List UInt8):=[[105,110],[111,117,116],[116,114,97,112]]
def En1(σ:AS)(o:Nat)(oc:List AV)(a:Nat→AV)(τ:AS):Prop:=∃(i:Nat) (T:Nat→Nat),i≤3∧a 1=.ptr o 0∧zai T 1 σ τ (a 3) (zat [])∧zai T 2 σ τ (a 4) (zak.take i)∧a 5=.nilsl∧a 6=.nilsl∧a 7=.nilsl∧a 18=.sl (.stat true) 1 (zgD.map yco)∧a 19=.int .i64 3∧a 20=.int .i64 (i:Int)∧zbK T τ∧zd σ τ∧σ.no≤o∧o<τ.no∧τ.objs o=some oc
theorem zpk{o:Nat}{oc:List AV}{a:Nat→AV}{τ:AS}(hI:En1 σ o oc a τ)(fin:∀a τ,(∃T,a 1=.ptr o 0∧zai T 1 σ τ (a 3) (zat [])∧zai T 2 σ τ (a 4) zak∧a 5=.nilsl∧a 6=.nilsl∧a 7=.nilsl∧zbK T τ∧zd σ τ∧o<τ.no∧τ.objs o=some oc)→avc yb9 G 140 zly (zba yb9 [.tmp 2] R) a τ):
  avc yb9 G 140 zlw (z7 (fun a' σ'=>En1 σ o oc a' σ'∧MU 20 4 a' σ'<MU 20 4 a τ) (z8 0 (z7 (avc yb9 G 140 zly (zba yb9 [.tmp 2] R)) (zba yb9 [.tmp 2] R)))) a τ:=by
 obtain⟨i,T,hi,a1,h3,h4,a5,a6,a7,a18,a19,a20,hT,hA,ho1,ho2,ho⟩:=hI
 by_cases hlt:i<3
 ·have hlt':(i:Int)<3:=by omega
  obtain⟨s,hs,hse⟩:∃s,zgD[i]?=some s∧zak[i]?=some (zx [101,110,118]++zx s++[0,zaw i]):=by
   rcases i with _|_|_|i
   ·exact⟨_,rfl,by decide⟩
   ·exact⟨_,rfl,by decide⟩
   ·exact⟨_,rfl,by decide⟩
   ·omega
  have hs2:(zgD.map yco)[i]?=some (.str s):=by simp[hs]
  have w1:yb4 .i64 ((i:Int)+1)=((i+1:Nat):Int):=by rw[zc]<;>omega
  have htk:=za0 hse
  have g4:=h4.bys.one
  simp[zlw,a18,a19,a20,hlt',hs2,g4]
  refine zaE (bs:=[101,110,118]) (.lit _ _ rfl) (by simp) fun v1 σ1 h1=>?_
  simp
  refine .inl ?_
  simp
  have hsl:s.length≤4:=by
   have:∀x∈zgD,x.length≤4:=by decide
   exact this _ (yct hs)
  refine zaE (σ:=σ1.newF) (bs:=s) (.inr ⟨.fam σ1.nf false,rfl,by simp,by simp⟩) (by omega) fun v2 σ2 h2=>?_
  have A2:=(zd.refl σ1).newF.trans h2.2
  have wi:yb4 .u8 (i:Int)=((zaw i).toNat:Int):=wrap_u8 _
  have n1:=(h1.byt.keep A2).one
  have n2:=h2.byt.one
  simp[n1,n2,wi]
  refine za4 (l:=[zx [101,110,118],zx s,[0,zaw i]]) (zja.lit (.cons (h1.byt.keep A2) (.cons h2.byt (.cons (.lit _ _ rfl) .nil)))) ?_ (by simp) fun v3 σ3 h3'=>?_
  ·have:=zay s.length
   have:=zay 3
   simp[zdN,zx];omega
  have A3:=(h1.2.trans A2).trans h3'.2
  have n3:=h3'.byt.one
  simp[n3]
  have AA:zd τ σ3:=A3
  have eb:([zx [101,110,118],zx s,[0,zaw i]]:List (List UInt8)).flatten=zx [101,110,118]++zx s++[0,zaw i]:=by simp
  rw[eb]at h3'
  refine zdI (i:=2) (by omega) (h4.keep AA) ((zcZ.behind ((h1.2.trans A2)) h3').row hT) (hT.keep AA) (hA.trans AA) (by simp;omega) fun v4 τ4 T4 g4 f4 a4' oth u4 r4=>?_
  simp[w1,a20]
  refine⟨⟨i+1,T4,by omega,by simp[a1],by simpa using oth 1 _ _ (by omega) (h3.keep AA),by rw[htk];simpa using g4,by simp[a5],by simp[a6],by simp[a7],by simp[a18],by simp[a19],by simp,f4,a4',ho1,?_,?_⟩,?_⟩
  ·have:=AA.no;omega
  ·rw[u4];exact(AA.obj o ho2).trans ho
  ·simp only[MU,a20];simp;omega
 ·have:i=3:=by omega
  subst this
  simp[zlw,a19,a20]
  exact fin _ _ ⟨T,by simpa using a1,by simpa using h3,by simpa [zak]using h4,by simpa using a5,by simpa using a6,by simpa using a7,hT,hA,ho2,ho⟩
theorem zkJ:∀(xs:List F) (i:Int) (f:F),zcf i (xs++[f])=zcf i xs++[uI (i+xs.length)]
 | [],i,f=>by simp[zcf]
 | x::xs,i,f=>by
  simp only[ycP,zcf,zkJ xs (i+1) f,yac]
  congr 4
  omega
theorem zjo:∀(xs:List F) (i:Int) (f:F),zap i (xs++[f])=zap i xs++[uI (i+xs.length)++zx f.name]
 | [],i,f=>by simp[zap]
 | x::xs,i,f=>by
  simp only[ycP,zap,zjo xs (i+1) f,yac]
  congr 5
  omega
theorem znz:∀{fs:List F} {cs:List (List UInt8)},zce fs=some cs→∀{i:Nat} {f:F},fs[i]?=some f→∃c,zmh f=some c∧cs[i]?=some c
 | [],_,_,i,f,h=>by simp at h
 | g::fs,cs,h,i,f,hf=>by
  rw[zce]at h
  simp only[ybA,ybB]at h
  obtain⟨c,h1,cs',h2,rfl⟩:=h
  cases i with
  | zero =>
   simp at hf
   subst hf
   exact⟨c,h1,rfl⟩
  | succ i=>exact znz h2 (by simpa using hf)
structure SzB(f:F):Prop where
 params:f.params.length≤2^38
 locals:f.locals.length≤2^34
 name:f.name.length<2^38
 rows:∀ws∈f.lists,ws.length≤2^40
 many:f.lists.length≤2^40
 rg:RgL f.lists
def En2(σ:AS)(fs:List F)(codes:List (List UInt8))(fsv:AV)(o:Nat)(oc:List AV)(a:Nat→AV)(τ:AS):Prop:=∃(i:Nat) (T:Nat→Nat),i≤fs.length∧a 1=.ptr o 0∧zai T 1 σ τ (a 3) (zat (fs.take i))∧zai T 2 σ τ (a 4) zak∧zai T 3 σ τ (a 5) (zcf 3 (fs.take i))∧zai T 4 σ τ (a 6) (codes.take i)∧zai T 5 σ τ (a 7) (zap 3 (fs.take i)) ∧
 a 41=fsv∧a 42=.int .i64 (fs.length:Int)∧a 43=.int .i64 (i:Int)∧zbK T τ∧zd σ τ∧σ.no≤o∧o<τ.no∧τ.objs o=some oc
theorem ztx(V:zd2 G){fs:List F}{codes:List (List UInt8)}{fsv:AV}{o:Nat}{oc:List AV}(hfs:Al.FsO σ fsv fs)(hlen:fs.length≤2^30)(hsz:∀f∈fs,SzB f)(hc:zce fs=some codes)(hcl:∀c∈codes,c.length≤2^36){a:Nat→AV}{τ:AS}(hI:En2 σ fs codes fsv o oc a τ)
  (fin:∀a τ,(∃T,a 1=.ptr o 0∧zai T 1 σ τ (a 3) (zat fs)∧zai T 2 σ τ (a 4) zak∧zai T 3 σ τ (a 5) (zcf 3 fs)∧zai T 4 σ τ (a 6) codes∧zai T 5 σ τ (a 7) (zap 3 fs)∧zbK T τ∧zd σ τ∧o<τ.no∧τ.objs o=some oc)→avc yb9 G 140 ziU (zba yb9 [.tmp 2] R) a τ) :
  avc yb9 G 140 zlx (z7 (fun a' σ'=>En2 σ fs codes fsv o oc a' σ'∧MU 43 (fs.length+1) a' σ'<MU 43 (fs.length+1) a τ) (z8 2 (z7 (avc yb9 G 140 ziU (zba yb9 [.tmp 2] R)) (zba yb9 [.tmp 2] R)))) a τ:=by
 obtain⟨i,T,hi,a1,g1,g2,g3,g4,g5,a41,a42,a43,hT,hA,ho1,ho2,ho⟩:=hI
 have hcl':=zhl hc
 by_cases hlt:i<fs.length
 ·have hlt':(i:Int)<(fs.length:Int):=by omega
  obtain⟨φ,rv,hrd0,hfv,hix⟩:=hfs.at hlt
  have hrd:=(hrd0.keep hA).read
  have hg:=yau hlt
  have htk:=za0 hg
  have hszf:=hsz _ (yaw hlt)
  obtain⟨c,hcf,hcc⟩:=znz hc hg
  have hck:=za0 hcc
  have hclen:=hcl c (yct hcc)
  generalize fs[i]=f at *
  obtain⟨pv,lv,tv,rfl,hp,hl,ht⟩:=hfv
  have p1:=hp.one
  have l1:=hl.one
  have t1:=ht.one
  have tl:=ht.len
  have n3:=g1.bys.one
  have w1:yb4 .i64 ((i:Int)+1)=((i+1:Nat):Int):=by rw[zc]<;>omega
  have w3:yb4 .i64 ((i:Int)+3)=(i:Int)+3:=by rw[zc]<;>omega
  have hA0:∀c1 c2,zd τ ((τ.newO c1).setO τ.no c2):=fun c1 c2=>.mk1
  have hsi:(fs.take i).length=i:=by simp;omega
  simp[zlx,a41,a42,a43,hlt',hix,hrd,p1,l1,t1,splice,n3]
  have ec:∀(τ':AS) (x:Nat),(τ'.objs x=τ'.objs x):=fun _ _=>rfl
  refine zfg (hp.keep (hA.trans (hA0 _ _))) hszf.params fun v1 σ1 h1=>?_
  have A1:=(hA0 _ _).trans h1.2
  have q1:=h1.byt.one
  have c1:=h1.2.obj τ.no (by simp)
  have c2:=A1.obj o ho2
  rw[ho]at c2
  simp at c1
  have m1:=A1.no
  have m1':=h1.2.no
  simp at m1'
  simp[q1]
  have hrow1:zob T σ1 v1 (zd1 f.params f.type):=h1.row (hT.keep (hA0 _ _))
  refine zdI (i:=1) (by omega) (g1.keep A1) hrow1 (hT.keep A1) (hA.trans A1) (by rw[zkF];simp;omega) fun v2 τ2 T2 e1 f2 A2 oth2 u2 r2=>?_
  have x2:=oth2 2 _ _ (by omega) (g2.keep A1)
  have x3:=oth2 3 _ _ (by omega) (g3.keep A1)
  have x4:=oth2 4 _ _ (by omega) (g4.keep A1)
  have x5:=oth2 5 _ _ (by omega) (g5.keep A1)
  have d1:τ2.objs τ.no=_:=(congrFun u2 _).trans c1
  have d2:τ2.objs o=_:=(congrFun u2 _).trans c2
  have q5:=x3.bys.one
  simp[w3,q5]
  refine zcQ (n:=(i:Int)+3) (by omega) fun v3 σ3 h3=>?_
  have q3:=h3.byt.one
  have d1':=(h3.2.obj τ.no (by omega)).trans d1
  have d2':=(h3.2.obj o (by omega)).trans d2
  have m3:=h3.2.no
  simp[q3]
  refine zdI (i:=3) (by omega) (x3.keep h3.2) (h3.row f2) (f2.keep h3.2) (A2.trans h3.2) (by rw[zjj];simp;omega) fun v4 τ4 T4 e3 f4 A4 oth4 u4 r4=>?_
  have y1:=oth4 1 _ _ (by omega) (e1.keep h3.2)
  have y2:=oth4 2 _ _ (by omega) (x2.keep h3.2)
  have y4:=oth4 4 _ _ (by omega) (x4.keep h3.2)
  have y5:=oth4 5 _ _ (by omega) (x5.keep h3.2)
  have d3:τ4.objs τ.no=_:=(congrFun u4 _).trans d1'
  have d4:τ4.objs o=_:=(congrFun u4 _).trans d2'
  have q6:=y4.bys.one
  have wl:yb4 .i64 ((f.lists.length:Int)-1)=(f.lists.length:Int)-1:=by have:=hszf.many;rw[zc]<;>omega
  unfold zmh at hcf
  rw[ybB]at hcf
  obtain⟨x,hx,rfl⟩:=hcf
  have hxl:x.length≤2^36∧(zdi f.locals).length≤2^36:=by
   simp only[zx,yab]at hclen
   omega
  simp[d3,q6,p1,l1,t1,tl,wl]
  refine zns (hl.keep A4) hszf.locals fun v5 σ5 h5=>?_
  have q7:=h5.byt.one
  have d5:=(h5.2.obj τ.no (by omega)).trans d3
  have d6:=(h5.2.obj o (by omega)).trans d4
  have m5:=h5.2.no
  simp[d5,p1,l1,t1]
  refine ztv V hszf.rows hszf.rg f.lists.length σ5 _ f pv lv tv _ x rfl (hp.keep (A4.trans h5.2)) (hl.keep (A4.trans h5.2)) (ht.keep (A4.trans h5.2)) hx (by omega) fun v6 σ6 h6=>?_
  have q8:=h6.byt.one
  have q9:=(h5.byt.keep h6.2).one
  have d7:=(h6.2.obj τ.no (by omega)).trans d5
  have d8:=(h6.2.obj o (by omega)).trans d6
  have m6:=h6.2.no
  simp[q8,q9]
  refine za4 (l:=[zdi f.locals,x,[11]]) (zja.lit (.cons (h5.byt.keep h6.2) (.cons h6.byt (.cons (.lit _ _ rfl) .nil)))) (by simp[zdN];omega) (by simp) fun v7 σ7 h7=>?_
  have d9:=(h7.2.obj τ.no (by omega)).trans d7
  have d10:=(h7.2.obj o (by omega)).trans d8
  have m7:=h7.2.no
  have ecat:([zdi f.locals,x,[11]]:List (List UInt8)).flatten=zdi f.locals++x++[11]:=by simp
  rw[ecat]at h7
  simp
  refine zaE h7.byt (by simp;omega) fun v8 σ8 h8=>?_
  have q10:=h8.byt.one
  have d11:=(h8.2.obj τ.no (by omega)).trans d9
  have d12:=(h8.2.obj o (by omega)).trans d10
  have m8:=h8.2.no
  have B8:zd τ4 σ8:=((h5.2.trans h6.2).trans h7.2).trans h8.2
  simp[q10]
  refine zdI (i:=4) (by omega) (y4.keep B8) ((zcZ.behind ((h5.2.trans h6.2).trans h7.2) h8).row f4) (f4.keep B8) (A4.trans B8) (by have:=hcl';simp;omega) fun v9 τ9 T9 e9 f9 A9 oth9 u9 r9=>?_
  have z1:=oth9 1 _ _ (by omega) (y1.keep B8)
  have z2:=oth9 2 _ _ (by omega) (y2.keep B8)
  have z3:=oth9 3 _ _ (by omega) (e3.keep B8)
  have z5:=oth9 5 _ _ (by omega) (y5.keep B8)
  have d13:τ9.objs τ.no=_:=(congrFun u9 _).trans d11
  have d14:τ9.objs o=_:=(congrFun u9 _).trans d12
  have q11:=z5.bys.one
  have last:∀(a':Nat→AV) (τ':AS) (T':Nat→Nat),a' 1=.ptr o 0→zai T' 1 σ τ' (a' 3) (zat (fs.take i)++[zd1 f.params f.type])→zai T' 2 σ τ' (a' 4) zak→zai T' 3 σ τ' (a' 5) (zcf 3 (fs.take i)++[uI ((i:Int)+3)])→zai T' 4 σ τ' (a' 6) (codes.take i++[zx (zdi f.locals++x++[11])])→zai T' 5 σ τ' (a' 7) (zap 3 (fs.take i)++[uI ((i:Int)+3)++zx f.name]) →
    a' 41=fsv→a' 42=.int .i64 (fs.length:Int)→a' 43=.int .i64 ((i:Int)+1)→zbK T' τ'→zd σ τ'→o<τ'.no→τ'.objs o=some oc→En2 σ fs codes fsv o oc a' τ'∧MU 43 (fs.length+1) a' τ'<MU 43 (fs.length+1) a τ:=by
   intro a' τ' T' k1 k3 k4 k5 k6 k7 k41 k42 k43 kf kA ko koo
   have es:((fs.take i).length:Int)=i:=by rw[hsi]
   refine⟨⟨i+1,T',by omega,k1,?_,k4,?_,by rw[hck];exact k6,?_,k41,k42,by rw[k43];rfl,kf,kA,ho1,ko,koo⟩,?_⟩
   ·rw[htk]
    have:zat (fs.take i++[f])=zat (fs.take i)++[zd1 f.params f.type]:=by simp[zat]
    rw[this];exact k3
   ·rw[htk,zkJ,es,Int.add_comm];exact k5
   ·rw[htk,zjo,es,Int.add_comm];exact k7
   ·simp only[MU,k43,a43];omega
  have hnl:=hszf.name
  simp[d13,q11,w3]
  refine⟨?_,.inl ?_⟩
  ·refine zcQ (n:=(i:Int)+3) (by omega) fun v10 σ10 h10=>?_
   have c1:=(h10.2.obj τ.no (by omega)).trans d13
   have c2:=(h10.2.obj o (by omega)).trans d14
   have m10:=h10.2.no
   simp[c1]
   refine .inl ?_
   simp
   refine zaE (σ:=σ10.newF) (bs:=f.name) (.inr ⟨.fam σ10.nf false,rfl,by simp,by simp⟩) (by omega) fun v11 σ11 h11=>?_
   have A11:=(zd.refl σ10).newF.trans h11.2
   have c3:=(A11.obj o (by omega)).trans c2
   have m11:=A11.no
   simp
   have hul:=zay ((i:Int)+3)
   refine zbL (h10.keep A11) h11.byt (by have:=zay f.name.length;simp[zx];omega) fun v12 σ12 h12 u12 r12=>?_
   have q12:=h12.byt.one
   have c4:=(congrFun u12 o).trans c3
   simp[q12]
   refine zdI (i:=5) (by omega) (z5.keep h12.2) (h12.row f9) (f9.keep h12.2) (A9.trans h12.2) (by rw[zfh];simp;omega) fun v13 τ13 T13 e13 f13 A13 oth13 u13 r13=>?_
   simp[a43,w1]
   exact last _ _ T13 (by simp[a1]) (by simpa using oth13 1 _ _ (by omega) (z1.keep h12.2)) (by simpa using oth13 2 _ _ (by omega) (z2.keep h12.2)) (by simpa using oth13 3 _ _ (by omega) (z3.keep h12.2)) (by simpa using oth13 4 _ _ (by omega) (e9.keep h12.2)) (by simpa using e13) (by simp[a41]) (by simp[a42]) (by simp) f13 A13 (by omega) ((congrFun u13 o).trans c4)
  ·simp
   have A0:zd τ9 τ9.newF:=(zd.refl τ9).newF
   refine zcQ (σ:=τ9.newF) (n:=(i:Int)+3) (by omega) fun v10 σ10 h10=>?_
   have A10:=A0.trans h10.2
   have c2:=(A10.obj o (by omega)).trans d14
   have m10:=A10.no
   simp
   have hnb:zej σ10 (.sl (.fam τ9.nf false) 1 (B f.name)) f.name:=.inr ⟨.fam τ9.nf false,rfl,(show Al.Rd τ9.newF (.fam τ9.nf false) from⟨by simp,by simp⟩).keep h10.2⟩
   refine zaE (bs:=f.name) hnb (by omega) fun v11 σ11 h11=>?_
   have c3:=(h11.2.obj o (by omega)).trans c2
   have m11:=h11.2.no
   simp
   have hul:=zay ((i:Int)+3)
   refine zbL ((zcZ.behind A0 h10).keep h11.2) h11.byt (by have:=zay f.name.length;simp[zx];omega) fun v12 σ12 h12 u12 r12=>?_
   have q12:=h12.byt.one
   have c4:=(congrFun u12 o).trans c3
   simp[q12]
   refine zdI (i:=5) (by omega) (z5.keep h12.2) (h12.row f9) (f9.keep h12.2) (A9.trans h12.2) (by rw[zfh];simp;omega) fun v13 τ13 T13 e13 f13 A13 oth13 u13 r13=>?_
   simp[a43,w1]
   exact last _ _ T13 (by simp[a1]) (by simpa using oth13 1 _ _ (by omega) (z1.keep h12.2)) (by simpa using oth13 2 _ _ (by omega) (z2.keep h12.2)) (by simpa using oth13 3 _ _ (by omega) (z3.keep h12.2)) (by simpa using oth13 4 _ _ (by omega) (e9.keep h12.2)) (by simpa using e13) (by simp[a41]) (by simp[a42]) (by simp) f13 A13 (by omega) ((congrFun u13 o).trans c4)
 ·have:i=fs.length:=by omega
  subst this
  rw[ycn]at g1 g3 g5
  rw[←hcl',ycn]at g4
  simp[zlx,a42,a43]
  exact fin _ _ ⟨T,by simpa using a1,by simpa using g1,by simpa using g2,by simpa using g3,by simpa using g4,by simpa using g5,hT,hA,ho2,ho⟩
theorem zeU(n:UInt8)(bs:List UInt8):(zj n bs).length≤bs.length+11:=by
 have:=zay bs.length
 simp[zj,zx]
 omega
theorem zeV(bs:List UInt8):(zx bs).length≤bs.length+10:=by
 have:=zay bs.length
 simp[zx]
 omega
theorem znA{n:UInt8}{v:AV}{bs:List UInt8}(hv:zej σ v bs)(hs:bs.length<2^38)(h:∀v' σ',zcZ σ σ' v' (zj n bs)→R (.ret v') σ'):zzQ G 49 [.int .u8 (n.toNat:Int),.sl (.stat true) 1 [v]] σ R:=by
 refine zcF (l:=[bs]) (zja.lit (.cons hv .nil)) (by simp[zdN];omega) (by simp) fun v' σ' h'=>?_
 simp at h'
 exact h _ _ h'
set_option maxHeartbeats 1000000 in
theorem zBB{m:M}{codes:List (List UInt8)}{bs:List UInt8}{o:Nat}{fsv:AV}(he:zto m=some bs)(hc:zce m.funcs=some codes)(hl:bs.length≤2^36)(hmem:-(2^63)≤m.memory∧m.memory<2^63)(h:∀v σ',zcZ σ σ' v bs→R (.ret v) σ'){a:Nat→AV}{τ:AS}{T:Nat→Nat}(hn:m.funcs.length≤2^30)
  (a1:a 1=.ptr o 0) (g1:zai T 1 σ τ (a 3) (zat m.funcs)) (g2:zai T 2 σ τ (a 4) zak) (g3:zai T 3 σ τ (a 5) (zcf 3 m.funcs)) (g4:zai T 4 σ τ (a 6) codes) (g5:zai T 5 σ τ (a 7) (zap 3 m.funcs)) (hA:zd σ τ) (ho:o<τ.no) (hoo:τ.objs o=some [fsv,.int .i64 m.memory,.int .i64 m.main]) :
  avc yb9 G 140 ziU (zba yb9 [.tmp 2] R) a τ:=by
 obtain⟨codes',hc',hbs⟩:=zkE he
 rw[hc]at hc'
 cases hc'
 have b1:=g1.bys
 have b2:=g2.bys
 have b3:=g3.bys
 have b4:=g4.bys
 have b5:=g5.bys
 have e:bs=zhK++(zj 1 (zbO (zat m.funcs))++(zj 2 (zbO zak)++(zj 3 (zbO (zcf 3 m.funcs))++(zj 5 [1,0,1]++(zj 6 ([1,127,0,65]++sI m.memory++[11])++(zj 7 ([1]++zx [109,97,105,110]++[0]++uI (zhi m))++(zj 10 (zbO codes) ++
   zj 0 (zx [110,97,109,101]++[1]++zx (zbO (zap 3 m.funcs)))))))))):=by
  unfold zto at he
  rw[hc]at he
  simpa using he.symm
 clear hbs
 have hbl:=congrArg yce e
 simp only[yab,zj,yac,ybl,zx]at hbl
 have r1:(zbO (zat m.funcs)).length≤2^36:=by omega
 have r2:(zbO zak).length≤2^36:=by omega
 have r3:(zbO (zcf 3 m.funcs)).length≤2^36:=by omega
 have r4:(zbO codes).length≤2^36:=by omega
 have r5:(zbO (zap 3 m.funcs)).length≤2^36:=by omega
 have s1:zdN (zat m.funcs)<2^37:=by rw[←zaI];unfold zbO at r1;simp only[yab]at r1;omega
 have s2:zdN zak<2^37:=by rw[←zaI];unfold zbO at r2;simp only[yab]at r2;omega
 have s3:zdN (zcf 3 m.funcs)<2^37:=by rw[←zaI];unfold zbO at r3;simp only[yab]at r3;omega
 have s4:zdN codes<2^37:=by rw[←zaI];unfold zbO at r4;simp only[yab]at r4;omega
 have s5:zdN (zap 3 m.funcs)<2^37:=by rw[←zaI];unfold zbO at r5;simp only[yab]at r5;omega
 have t4:=zhl hc
 have t5:=zfh m.funcs 3
 have t3:=zjj m.funcs 3
 have t1:=zkF m.funcs
 clear hbl
 have n1:=b1.one
 have n2:=b2.one
 have n3:=b3.one
 have n4:=b4.one
 have n5:=b5.one
 simp[ziU,a1,hoo]
 refine zdA b1 (by omega) (by omega) fun v1 σ1 h1=>?_
 have k1:=h1.byt.one
 have o1:=(h1.2.obj o ho).trans hoo
 have m1:=h1.2.no
 simp[o1,k1]
 refine znA (n:=1) h1.byt (by omega) fun v2 σ2 h2=>?_
 have B2:=h1.2.trans h2.2
 have o2:=(h2.2.obj o (by omega)).trans o1
 have m2:=h2.2.no
 simp[o2]
 refine zdA (b2.keep B2) (by omega) (by decide) fun v3 σ3 h3=>?_
 have B3:=B2.trans h3.2
 have k3:=h3.byt.one
 have o3:=(h3.2.obj o (by omega)).trans o2
 have m3:=h3.2.no
 simp[o3,k3]
 refine znA (n:=2) h3.byt (by omega) fun v4 σ4 h4=>?_
 have B4:=B3.trans h4.2
 have o4:=(h4.2.obj o (by omega)).trans o3
 have m4:=h4.2.no
 simp[o4]
 refine zdA (b3.keep B4) (by omega) (by omega) fun v5 σ5 h5=>?_
 have B5:=B4.trans h5.2
 have k5:=h5.byt.one
 have o5:=(h5.2.obj o (by omega)).trans o4
 have m5:=h5.2.no
 simp[o5,k5]
 refine znA (n:=3) h5.byt (by omega) fun v6 σ6 h6=>?_
 have B6:=B5.trans h6.2
 have o6:=(h6.2.obj o (by omega)).trans o5
 have m6:=h6.2.no
 simp[o6]
 refine znA (n:=5) (bs:=[1,0,1]) (.lit _ _ rfl) (by simp) fun v7 σ7 h7=>?_
 have B7:=B6.trans h7.2
 have o7:=(h7.2.obj o (by omega)).trans o6
 have m7:=h7.2.no
 simp[o7]
 refine zo8 hmem fun v8 σ8 h8=>?_
 have B8:=B7.trans h8.2
 have k8:=h8.byt.one
 have o8:=(h8.2.obj o (by omega)).trans o7
 have m8:=h8.2.no
 simp[o8,k8]
 refine zcF (n:=6) (l:=[[1,127,0,65],sI m.memory,[11]]) (zja.lit (.cons (.lit _ _ rfl) (.cons h8.byt (.cons (.lit _ _ rfl) .nil)))) (by have:=ztg m.memory;simp[zdN];omega) (by simp) fun v9 σ9 h9=>?_
 have B9:=B8.trans h9.2
 have o9:=(h9.2.obj o (by omega)).trans o8
 have m9:=h9.2.no
 simp[o9]
 refine zaE (bs:=[109,97,105,110]) (.lit _ _ rfl) (by simp) fun v10 σ10 h10=>?_
 have B10:=B9.trans h10.2
 have k10:=h10.byt.one
 have o10:=(h10.2.obj o (by omega)).trans o9
 have m10:=h10.2.no
 have hmr:=zkB (m.main+3)
 simp[o10,k10]
 refine zcQ (n:=zhi m) hmr.2 fun v11 σ11 h11=>?_
 have B11:=B10.trans h11.2
 have k11:=h11.byt.one
 have k10':=(h10.byt.keep h11.2).one
 have o11:=(h11.2.obj o (by omega)).trans o10
 have m11:=h11.2.no
 simp[o11,k11,k10']
 refine zcF (n:=7) (l:=[[1],zx [109,97,105,110],[0],uI (zhi m)]) (zja.lit (.cons (.lit _ _ rfl) (.cons (h10.byt.keep h11.2) (.cons (.lit _ _ rfl) (.cons h11.byt .nil))))) (by have:=zay (zhi m);have:=zeV [109,97,105,110];simp[zdN]at *;omega) (by simp) fun v12 σ12 h12=>?_
 have B12:=B11.trans h12.2
 have o12:=(h12.2.obj o (by omega)).trans o11
 have m12:=h12.2.no
 simp[o12]
 refine zdA (b4.keep B12) (by omega) (by omega) fun v13 σ13 h13=>?_
 have B13:=B12.trans h13.2
 have k13:=h13.byt.one
 have o13:=(h13.2.obj o (by omega)).trans o12
 have m13:=h13.2.no
 simp[o13,k13]
 refine znA (n:=10) h13.byt (by omega) fun v14 σ14 h14=>?_
 have B14:=B13.trans h14.2
 have o14:=(h14.2.obj o (by omega)).trans o13
 have m14:=h14.2.no
 simp[o14]
 refine zaE (bs:=[110,97,109,101]) (.lit _ _ rfl) (by simp) fun v15 σ15 h15=>?_
 have B15:=B14.trans h15.2
 have k15:=h15.byt.one
 have o15:=(h15.2.obj o (by omega)).trans o14
 have m15:=h15.2.no
 simp[o15,k15]
 refine zdA (b5.keep B15) (by omega) (by omega) fun v16 σ16 h16=>?_
 have B16:=B15.trans h16.2
 have k16:=h16.byt.one
 have o16:=(h16.2.obj o (by omega)).trans o15
 have m16:=h16.2.no
 simp[o16,k16]
 refine zaE h16.byt (by omega) fun v17 σ17 h17=>?_
 have B17:=B16.trans h17.2
 have k17:=h17.byt.one
 have k15':=(h15.byt.keep (h16.2.trans h17.2)).one
 have o17:=(h17.2.obj o (by omega)).trans o16
 have m17:=h17.2.no
 simp[o17,k17,k15']
 refine zcF (n:=0) (l:=[zx [110,97,109,101],[1],zx (zbO (zap 3 m.funcs))]) (zja.lit (.cons (h15.byt.keep (h16.2.trans h17.2)) (.cons (.lit _ _ rfl) (.cons h17.byt .nil)))) (by have:=zeV (zbO (zap 3 m.funcs));have:=zeV [110,97,109,101];simp[zdN]at *;omega) (by simp) fun v18 σ18 h18=>?_
 have B18:=B17.trans h18.2
 have D17:=h18.2
 have D16:=h17.2.trans D17
 have D15:=h16.2.trans D16
 have D14:=h15.2.trans D15
 have D13:=h14.2.trans D14
 have D12:=h13.2.trans D13
 have D11:=h12.2.trans D12
 have D10:=h11.2.trans D11
 have D9:=h10.2.trans D10
 have D8:=h9.2.trans D9
 have D7:=h8.2.trans D8
 have D6:=h7.2.trans D7
 have D5:=h6.2.trans D6
 have D4:=h5.2.trans D5
 have D3:=h4.2.trans D4
 have D2:=h3.2.trans D3
 have k2z:=h2.byt.one
 have k4z:=h4.byt.one
 have k6z:=h6.byt.one
 have k7z:=h7.byt.one
 have k9z:=h9.byt.one
 have k12z:=h12.byt.one
 have k14z:=h14.byt.one
 have k18z:=h18.byt.one
 simp[k2z,k4z,k6z,k7z,k9z,k12z,k14z,k18z]
 have ef:([zhK,zj 1 (zbO (zat m.funcs)),zj 2 (zbO zak),zj 3 (zbO (zcf 3 m.funcs)),zj 5 [1,0,1],zj 6 [[1,127,0,65],sI m.memory,[11]].flatten,zj 7 [[1],zx [109,97,105,110],[0],uI (zhi m)].flatten,zj 10 (zbO codes),zj 0 [zx [110,97,109,101],[1],zx (zbO (zap 3 m.funcs))].flatten]:List (List UInt8)).flatten=bs:=by
  rw[e]
  simp
 refine za4 (l:=[zhK,zj 1 (zbO (zat m.funcs)),zj 2 (zbO zak),zj 3 (zbO (zcf 3 m.funcs)),zj 5 [1,0,1],zj 6 [[1,127,0,65],sI m.memory,[11]].flatten,zj 7 [[1],zx [109,97,105,110],[0],uI (zhi m)].flatten,zj 10 (zbO codes),zj 0 [zx [110,97,109,101],[1],zx (zbO (zap 3 m.funcs))].flatten]) (zja.lit (.cons (.lit _ _ rfl) (.cons (h2.byt.keep D2) (.cons (h4.byt.keep D4) (.cons (h6.byt.keep D6) (.cons (h7.byt.keep D7) (.cons (h9.byt.keep D9) (.cons (h12.byt.keep D12) (.cons (h14.byt.keep D14) (.cons h18.byt .nil)))))))))) (by rw[←zaI,ef];omega) (by simp) fun v19 σ19 h19=>?_
 rw[ef]at h19
 simp
 exact h _ _ (zcZ.behind (hA.trans B18) h19)
theorem zdb(V:zd2 G){m:M}{mv:AV}{bs:List UInt8}(hm:Al.MO σ mv m)(he:zto m=some bs)(hl:bs.length≤2^36)(hn:m.funcs.length≤2^30)(hsz:∀f∈m.funcs,SzB f)(hmem:-(2^63)≤m.memory∧m.memory<2^63)(h:∀v σ',zcZ σ σ' v bs→R (.ret v) σ'):zzQ G 16 [mv] σ R:=by
 obtain⟨fsv,rfl,hfs⟩:=hm
 obtain⟨codes,hc,hbs⟩:=zkE he
 have hcl:∀c∈codes,c.length≤2^36:=fun c hcm=>by
  have h1:=zBy hcm
  have h2:=congrArg yce hbs
  simp only[zts,zLW,yab,zj,zx,zbO,yac]at h2
  omega
 clear hbs
 refine zAl rfl ?_
 have f1:=hfs.one
 have fl:=hfs.len
 have hA0:∀c1,zd σ (σ.newO c1):=fun c1=>(zd.refl σ).newO
 simp[zMz,f1]
 refine zfg (l:=[]) (.inl ⟨rfl,rfl⟩) (by simp) fun v1 σ1 h1=>?_
 have k1:=h1.byt.one
 have o1:=h1.2.obj σ.no (by simp)
 have m1:=h1.2.no
 simp at m1 o1
 simp
 refine zfg (l:=[2]) (.inr ⟨.stat true,rfl,trivial⟩) (by simp) fun v2 σ2 h2=>?_
 have k2:=h2.byt.one
 have o2:=(h2.2.obj σ.no (by omega)).trans o1
 have m2:=h2.2.no
 simp
 refine zfg (l:=[1]) (.inr ⟨.stat true,rfl,trivial⟩) (by simp) fun v3 σ3 h3=>?_
 have k3:=h3.byt.one
 have k1':=(h1.byt.keep (h2.2.trans h3.2)).one
 have k2':=(h2.byt.keep h3.2).one
 have o3:=(h3.2.obj σ.no (by omega)).trans o2
 have m3:=h3.2.no
 have A3:zd σ σ3:=((hA0 _).trans h1.2).trans (h2.2.trans h3.2)
 simp[k1',k2',k3]
 have hT:zbK (fun _=>0) σ3:=fun _ _=>rfl
 have hT0:∀τ:AS,zbK (fun _=>0) τ:=fun _ _ _=>rfl
 have hg1:zai (fun _=>0) 1 σ σ3 (.sl (.stat true) 1 [v1,v2,v3]) (zat []):=.inr ⟨_,_,rfl,.inl rfl,.cons ((h1.row (hT0 _)).keep (h2.2.trans h3.2)) (.cons ((h2.row (hT0 _)).keep h3.2) (.cons (h3.row (hT0 _)) .nil))⟩
 refine zH (En1 σ σ.no [fsv,.int .i64 m.memory,.int .i64 m.main]) (MU 20 4) ⟨0,fun _=>0,by omega,by simp,by simpa using hg1,.inl ⟨rfl,by simp⟩,by simp,by simp,by simp,by simp[zgD],by simp,by simp,hT,A3,by omega,by omega,o3⟩ fun a τ hI=>?_
 refine zpk hI fun a τ ⟨T,a1,g1,g2,a5,a6,a7,hT,hA,ho,hoo⟩=>?_
 simp[zly,a1,hoo,fl]
 refine zH (En2 σ m.funcs codes fsv σ.no [fsv,.int .i64 m.memory,.int .i64 m.main]) (MU 43 (m.funcs.length+1)) ⟨0,T,by omega,by simp[a1],by simpa using g1,by simpa using g2,.inl ⟨rfl,by simp[a5]⟩,.inl ⟨rfl,by simp[a6]⟩,.inl ⟨rfl,by simp[a7]⟩,by simp,by simp,by simp,hT,hA,by omega,ho,hoo⟩ fun a τ hI=>?_
 refine ztx V hfs hn hsz hc hcl hI fun a τ ⟨T,a1,g1,g2,g3,g4,g5,hT,hA,ho,hoo⟩=>?_
 exact zBB he hc hl hmem h hn a1 g1 g2 g3 g4 g5 hA ho hoo
end
end Go.Proofs.YtohfclafhegadaaGreatDoor
namespace Go.Proofs.YtohfclafhegadaaGreatDoor
open Go Go.Abs
structure zOp(m:M):Prop where
 funcs:m.funcs.length≤2^47
 params:∀f∈m.funcs,f.params.length≤2^47
 locals:∀f∈m.funcs,f.locals.length≤2^47
 lists:∀f∈m.funcs,f.lists.length≤2^47
 rows:∀f∈m.funcs,∀l∈f.lists,l.length≤2^47
structure zNW(f:F):Prop where
 params:f.params.length≤3000
 locals:f.locals.length≤3000
 lists:f.lists.length≤300
 rows:∀l∈f.lists,l.length≤3000
theorem zho:∀{l:List (List UInt8 × List UInt8)} {s:List UInt8},zcx l s≠[]→s∈l.map (·.1)
 | [],s,h=>by simp[zcx]at h
 | (x,y)::r,s,h=>by
  rw[zcx]at h
  split at h
  ·rename_i e;simp[e]
  ·simp only[yaL,ybC];exact .inr (zho h)
abbrev Tok:=List UInt8
def zY(w:W):Tok :=
 if w.op=1 then zI w.ty++[46,99,111,110,115,116]else if w.op=2 then [108,111,99,97,108,46,103,101,116]else if w.op=3 then [108,111,99,97,108,46,115,101,116]else if w.op=10 then [99,97,108,108]else if w.op=14 then [98,114]else if w.op=15 then [98,114,95,105,102]
 else if w.op=4 then zI w.ty++46::w.name else if w.op=5 then zI w.ty++[46,101,113,122]else if w.op=6 then [105,51,50,46,119,114,97,112,95,105,54,52]else if w.op=7 then [105,54,52,46,101,120,116,101,110,100,95,105,51,50,95,115]
 else if w.op=8 then zI w.ty++(if w.n=1 then [46,108,111,97,100,56,95,115]else [46,108,111,97,100])else if w.op=9 then zI w.ty++(if w.n=1 then [46,115,116,111,114,101,56]else [46,115,116,111,114,101])
 else if w.op=16 then [114,101,116,117,114,110]else if w.op=17 then [117,110,114,101,97,99,104,97,98,108,101]else [100,114,111,112]
def zcs(w:W):Bool:=decide (w.op=1)||decide (w.op=2)||decide (w.op=3)||decide (w.op=10)||decide (w.op=14)||decide (w.op=15)
def zgE(w:W):List Tok:=if zcs w=true then [zY w,Lib.itoa w.n]else [zY w]
def zru(w:W):W :=
 { op:=w.op,ty:=if w.op=1∨w.op=4∨w.op=5∨w.op=8∨w.op=9 then w.ty else 0,n:=if zcs w=true∨w.op=8∨w.op=9 then w.n else 0,body:=0,other:=0,name:=if w.op=4 then w.name else [] }
def znB(op b o:Int):W:={ op:=op,ty:=0,n:=0,body:=b,other:=o,name:=[] }
def zbz(op:Int):Tok:=if op=11 then zky else if op=12 then zq8 else tIf
inductive Pr(ls:To):Nat→List W→To→List Tok→List W→To→Prop
 | nil (d acc):Pr ls d [] acc [] [] acc
 | leaf {d w r acc t r' acc'}:zbj w=false→zdg w=true→RgW w→Pr ls d r acc t r' acc'→Pr ls d (w::r) acc (zgE w++t) (zru w::r') acc'
 | one {d w b r acc tb b' acc1 t r' acc'}:(w.op=11∨w.op=12∨w.op=13∧w.other<0)→d<400→0≤w.body→ls[w.body.toNat]?=some b→Pr ls (d+1) b acc tb b' acc1→Pr ls d r (acc1++[b']) t r' acc' →
   Pr ls d (w::r) acc (zbz w.op::(tb++zdp::t)) (znB w.op acc1.length (if w.op=13 then -1 else 0)::r') acc'
 | two {d w b e r acc tb b' acc1 te e' acc2 t r' acc'}:w.op=13→0≤w.other→d<400→0≤w.body→ls[w.body.toNat]?=some b→ls[w.other.toNat]?=some e→Pr ls (d+1) b acc tb b' acc1→Pr ls (d+1) e (acc1++[b']) te e' acc2→Pr ls d r (acc2++[e']) t r' acc' →
   Pr ls d (w::r) acc (tIf::(tb++zcB::(te++zdp::t))) (znB 13 acc1.length acc2.length::r') acc'
def zGU:List Tok:=[[34,101,110,118,34],[34,105,110,34],[34,111,117,116,34],[34,116,114,97,112,34],[34,109,97,105,110,34]]
def zdJ(t:Tok):Bool:=(!t.isEmpty&&t.all fun c=>!zby c)||((t==zC||t==zh)||zGU.contains t)
def zB:List Tok→List UInt8
 | []=>[10]
 | t::r=>32::(t++zB r)
theorem zrv(ts:List Tok):∃c r,zB ts=c::r∧zoX c=true∧zby c=true:=by
 cases ts with
 | nil=>exact⟨10,[],rfl,by decide,by decide⟩
 | cons t r=>exact⟨32,_,rfl,by decide,by decide⟩
theorem zfj{c:UInt8}(h:zoX c=true)(r:List UInt8):zep (c::r)=zep r:=by
 unfold zep
 rw[yc8,if_pos h]
theorem zwE{c:UInt8}(h:zby c=false):zoX c=false∧c≠40∧c≠41∧c≠34:=by
 simp only[zby,zoX,yc9,yda,Bool.or_false,Bool.or_eq_false_iff,beq_eq_false_iff_ne,ne_eq]at h ⊢
 exact⟨⟨h.1,h.2.1⟩,h.2.2.1,h.2.2.2.1,h.2.2.2.2⟩
theorem zty{t:List UInt8}(h:∀c∈t,zby c=false){c:UInt8}(hc:zby c=true)(r:List UInt8):(t++c::r).takeWhile (fun x=>!zby x)=t∧(t++c::r).dropWhile (fun x=>!zby x)=c::r:=by
 induction t with
 | nil=>simp[hc]
 | cons x t ih =>
  have hx:=h x (by simp)
  obtain⟨i1,i2⟩:=ih fun c hc=>h c (by simp[hc])
  simp[hx,i1,i2]
theorem zfk{t:Tok}(h:zdJ t=true)(ts:List Tok):zep (t++zB ts)=some (t,zB ts):=by
 obtain⟨c,r,e,h1,h2⟩:=zrv ts
 rw[e]
 unfold zdJ at h
 rw[Bool.or_eq_true]at h
 rcases h with h|h
 ·rw[Bool.and_eq_true]at h
  cases t with
  | nil=>simp at h
  | cons x t =>
   have ha:∀y∈x::t,zby y=false:=fun y hy=>by
    have:=yaM.1 h.2 y hy
    simpa using this
   obtain⟨s1,s2,s3,s4⟩:=zwE (ha x (by simp))
   obtain⟨k1,k2⟩:=zty (t:=t) (fun c hc=>ha c (by simp[hc])) h2 r
   unfold zep
   rw[ycP,yc8,if_neg (by simp[s1])]
   simp only
   rw[if_neg (by simp[s2,s3]),if_neg s4,k1,k2]
 ·rw[Bool.or_eq_true,Bool.or_eq_true,beq_iff_eq,beq_iff_eq,List.contains_iff_mem]at h
  rcases h with (rfl|rfl)|h
  ·rfl
  ·rfl
  ·simp only[zGU,ybC,List.not_mem_nil,or_false]at h
   rcases h with rfl|rfl|rfl|rfl|rfl<;>rfl
theorem zbM{t:Tok}(h:zdJ t=true)(ts:List Tok)(ls:To):zcC ⟨zB (t::ts),ls⟩=.ok (t,⟨zB ts,ls⟩):=by
 have e:zep (zB (t::ts))=some (t,zB ts):=by
  show zep (32::(t++zB ts))=_
  rw[zfj (by decide),zfk h]
 simp only[zcC,e]
theorem zkK{c:UInt8}(h:zQ c=true):zby c=false:=by
 simp only[zQ,Bool.and_eq_true,decide_eq_true_eq]at h
 simp only[zby,yc9,yda,Bool.or_false,Bool.or_eq_false_iff,beq_eq_false_iff_ne,ne_eq]
 refine⟨?_,?_,?_,?_,?_⟩<;>(rintro rfl;simp at h)
theorem zkL(n:Int):zdJ (Lib.itoa n)=true:=by
 have h1:∀u,((Lib.decDigits u).all fun c=>!zby c)=true:=fun u=>by
  rw[yaM]
  intro c hc
  have:=yaM.1 (zfe u) c hc
  simp[zkK this]
 have h2:∀u,(Lib.decDigits u).isEmpty=false:=fun u=>by
  have:=zgs u
  cases h:Lib.decDigits u<;>simp_all
 unfold Lib.itoa zdJ
 split
 ·have h3:zby 45=false:=by decide
  simp[h1,h3]
 ·rw[h1,h2];rfl
theorem zeW{n:Int}(h:-(2^63)≤n∧n<2^63)(ts:List Tok)(ls:To):zbH ⟨zB (Lib.itoa n::ts),ls⟩=.ok (n,⟨zB ts,ls⟩):=by
 unfold zbH
 rw[zbM (zkL n)]
 simp only[Except.bind,zsX h,Except.map]
def zrw(t:Tok):Bool:=zdJ t&&(decide (zc8 t=0)&&(!(t==zdp)&&(!(t==zh)&&(!(t==zcB)&&!(t==zC)))))
theorem zqr:∀s∈signs.map (·.1),∀t∈[1,2],(zrw (zI t++46::s)=true∧zV zdy (zI t++46::s)=none∧zV zi6 (zI t++46::s)=some { op:=4,ty:=t,n:=0,body:=0,other:=0,name:=s }):=by decide
theorem zqs{t:Tok}(h:zrw t=true)(d:Nat)(o:Bool):zdJ t=true∧zc8 t=0∧zgv d o t=false:=by
 simp only[zrw,Bool.and_eq_true,decide_eq_true_eq,Bool.not_eq_true',beq_eq_false_iff_ne,ne_eq]at h
 obtain⟨h1,h2,h3,h4,h5,_⟩:=h
 exact⟨h1,h2,by simp[zgv,h3,h4,h5]⟩
def zjp(op ty:Int):W:={ op:=op,ty:=ty,n:=0,body:=0,other:=0,name:=[] }
theorem ztz{t:Tok}(h:zrw t=true):t≠zC:=by
 simp only[zrw,Bool.and_eq_true,decide_eq_true_eq,Bool.not_eq_true',beq_eq_false_iff_ne,ne_eq]at h
 exact h.2.2.2.2.2
theorem zaF{t:Tok}{w:W}(h1:zV zdy t=none)(h2:zV zi6 t=some w)(s:Ts):zgu t s=.ok (w,s):=by
 unfold zgu
 rw[h1]
 simp only[h2]
theorem zcT{t:Tok}{w:W}{n:Int}(h1:zV zdy t=some w)(hn:-(2^63)≤n∧n<2^63)(ts:List Tok)(ls:To):zgu t ⟨zB (Lib.itoa n::ts),ls⟩=.ok ({ w with n:=n },⟨zB ts,ls⟩):=by
 unfold zgu
 rw[h1]
 simp only[zeW hn,Except.map]
theorem znC{w:W}(hf:zdg w=true)(hn:zbj w=false)(hr:RgW w):∃t r,zgE w=t::r∧zrw t=true∧∀(ts:List Tok) (ls:To),zgu t ⟨zB (r++ts),ls⟩=.ok (zru w,⟨zB ts,ls⟩):=by
 obtain⟨op,ty,n,body,other,name⟩:=w
 simp only[zbj,Bool.or_eq_false_iff,decide_eq_false_iff_not]at hn
 unfold zdg at hf
 simp only at hf
 by_cases h1:op=1∨op=5
 ·rw[if_pos h1]at hf
  simp only[zaN,Bool.or_eq_true,decide_eq_true_eq]at hf
  rcases h1 with rfl|rfl<;>rcases hf with rfl|rfl
  ·exact⟨[105,51,50,46,99,111,110,115,116],[Lib.itoa n],rfl,by decide,fun ts ls=>zcT (t:=[105,51,50,46,99,111,110,115,116]) (w:=zjp 1 1) (by decide) hr ts ls⟩
  ·exact⟨[105,54,52,46,99,111,110,115,116],[Lib.itoa n],rfl,by decide,fun ts ls=>zcT (t:=[105,54,52,46,99,111,110,115,116]) (w:=zjp 1 2) (by decide) hr ts ls⟩
  ·exact⟨[105,51,50,46,101,113,122],[],rfl,by decide,fun ts ls=>zaF (by rfl) (by rfl) _⟩
  ·exact⟨[105,54,52,46,101,113,122],[],rfl,by decide,fun ts ls=>zaF (by rfl) (by rfl) _⟩
 ·rw[if_neg h1]at hf
  by_cases h4:op=4
  ·subst h4
   rw[if_pos rfl]at hf
   simp only[Bool.and_eq_true,Bool.not_eq_true',beq_eq_false_iff_ne,ne_eq,zaN,Bool.or_eq_true,decide_eq_true_eq]at hf
   obtain⟨a1,a2,a3⟩:=zqr name (zho hf.2) ty (by simpa using hf.1)
   exact⟨_,_,rfl,a1,fun ts ls=>zaF a2 a3 _⟩
  ·rw[if_neg h4]at hf
   by_cases h8:op=8∨op=9
   ·rw[if_pos h8]at hf
    simp only[zkx,Bool.or_eq_true,Bool.and_eq_true,decide_eq_true_eq]at hf
    rcases h8 with rfl|rfl<;>rcases hf with ⟨rfl,rfl|rfl⟩|⟨rfl,rfl⟩
    ·exact⟨[105,51,50,46,108,111,97,100,56,95,115],[],rfl,by decide,fun ts ls=>zaF (by rfl) (by rfl) _⟩
    ·exact⟨[105,51,50,46,108,111,97,100],[],rfl,by decide,fun ts ls=>zaF (by rfl) (by rfl) _⟩
    ·exact⟨[105,54,52,46,108,111,97,100],[],rfl,by decide,fun ts ls=>zaF (by rfl) (by rfl) _⟩
    ·exact⟨[105,51,50,46,115,116,111,114,101,56],[],rfl,by decide,fun ts ls=>zaF (by rfl) (by rfl) _⟩
    ·exact⟨[105,51,50,46,115,116,111,114,101],[],rfl,by decide,fun ts ls=>zaF (by rfl) (by rfl) _⟩
    ·exact⟨[105,54,52,46,115,116,111,114,101],[],rfl,by decide,fun ts ls=>zaF (by rfl) (by rfl) _⟩
   ·rw[if_neg h8]at hf
    simp only[Bool.and_eq_true,decide_eq_true_eq]at hf
    rcases(show op=2∨op=3∨op=10∨op=14∨op=15∨op=6∨op=7∨op=16∨op=17∨op=18 by omega)with rfl|rfl|rfl|rfl|rfl|rfl|rfl|rfl|rfl|rfl
    ·exact⟨[108,111,99,97,108,46,103,101,116],[Lib.itoa n],rfl,by decide,fun ts ls=>zcT (t:=[108,111,99,97,108,46,103,101,116]) (w:=zjp 2 0) (by decide) hr ts ls⟩
    ·exact⟨[108,111,99,97,108,46,115,101,116],[Lib.itoa n],rfl,by decide,fun ts ls=>zcT (t:=[108,111,99,97,108,46,115,101,116]) (w:=zjp 3 0) (by decide) hr ts ls⟩
    ·exact⟨[99,97,108,108],[Lib.itoa n],rfl,by decide,fun ts ls=>zcT (t:=[99,97,108,108]) (w:=zjp 10 0) (by decide) hr ts ls⟩
    ·exact⟨[98,114],[Lib.itoa n],rfl,by decide,fun ts ls=>zcT (t:=[98,114]) (w:=zjp 14 0) (by decide) hr ts ls⟩
    ·exact⟨[98,114,95,105,102],[Lib.itoa n],rfl,by decide,fun ts ls=>zcT (t:=[98,114,95,105,102]) (w:=zjp 15 0) (by decide) hr ts ls⟩
    ·exact⟨[105,51,50,46,119,114,97,112,95,105,54,52],[],rfl,by decide,fun ts ls=>zaF (by rfl) (by rfl) _⟩
    ·exact⟨[105,54,52,46,101,120,116,101,110,100,95,105,51,50,95,115],[],rfl,by decide,fun ts ls=>zaF (by rfl) (by rfl) _⟩
    ·exact⟨[114,101,116,117,114,110],[],rfl,by decide,fun ts ls=>zaF (by rfl) (by rfl) _⟩
    ·exact⟨[117,110,114,101,97,99,104,97,98,108,101],[],rfl,by decide,fun ts ls=>zaF (by rfl) (by rfl) _⟩
    ·exact⟨[100,114,111,112],[],rfl,by decide,fun ts ls=>zaF (by rfl) (by rfl) _⟩
theorem zmm{op:Int}(h:op=11∨op=12∨op=13)(d:Nat)(o:Bool):zdJ (zbz op)=true∧zc8 (zbz op)=op∧zgv d o (zbz op)=false:=by
 rcases h with rfl|rfl|rfl
 ·exact⟨by decide,by decide,by simp[zgv,zbz,zky,zdp,zh,zcB]⟩
 ·exact⟨by decide,by decide,by simp[zgv,zbz,zq8,zdp,zh,zcB]⟩
 ·exact⟨by decide,by decide,by simp[zgv,zbz,tIf,zdp,zh,zcB]⟩
theorem ztA{ls:To}{d:Nat}{ws:List W}{acc acc':To}{toks:List Tok}{out:List W}(h:Pr ls d ws acc toks out acc'):∀(k:Nat) (o:Bool) (l:List W) (e:Tok) (rest:List Tok),toks.length<k→zdJ e=true→zgv d o e=true →
  zan k d o l ⟨zB (toks++e::rest),acc⟩=.ok (((acc'.length:Int),e),⟨zB rest,acc'++[l++out]⟩):=by
 induction h with
 | nil d acc =>
  intro k o l e rest hk he hd
  obtain⟨k,rfl⟩:∃j,k=j+1:=⟨k-1,by simp at hk;omega⟩
  rw[zan,ycQ,zbM he]
  simp only[Except.bind]
  rw[if_pos hd,yb7]
 | @leaf d w r acc t r' acc' hn hf hr _ ih =>
  intro k o l e rest hk he hd
  obtain⟨u,z,e1,e2,e3⟩:=znC hf hn hr
  rw[e1]at hk ⊢
  simp only[ycP,yc2,yac,yab]at hk ⊢
  obtain⟨k,rfl⟩:∃j,k=j+1:=⟨k-1,by omega⟩
  obtain⟨q1,q2,q3⟩:=zqs e2 d o
  rw[zan,zbM q1]
  simp only[Except.bind]
  rw[if_neg (by simp[q3]),zei,if_pos q2,e3]
  simp only
  rw[ih k o (l++[zru w]) e rest (by omega) he hd]
  simp
 | @one d w b r acc tb b' acc1 t r' acc' ho hd4 hb0 hb _ _ ih1 ih2 =>
  intro k o l e rest hk he hd
  simp only[ycP,yc2,yac,yab]at hk ⊢
  obtain⟨k,rfl⟩:∃j,k=j+1:=⟨k-1,by omega⟩
  have ho':w.op=11∨w.op=12∨w.op=13:=by omega
  obtain⟨q1,q2,q3⟩:=zmm ho' d o
  rw[zan,zbM q1]
  simp only[Except.bind]
  rw[if_neg (by simp[q3]),zei,q2,if_neg (by omega),zb0,if_neg (by omega)]
  rw[ih1 k (decide (w.op=13)) [] zdp (t++e::rest) (by omega) (by decide) (by simp[zgv])]
  simp only[Except.bind]
  by_cases h13:w.op=13
  ·rw[if_pos h13,if_neg (by decide)]
   simp only[ycQ]
   have:=ih2 k o (l++[znB w.op acc1.length (if w.op=13 then -1 else 0)]) e rest (by omega) he hd
   rw[if_pos h13,h13]at this
   rw[if_pos h13,h13]
   simp only[znB,yc2,ycP,ycQ]at this ⊢
   exact this
  ·rw[if_neg h13]
   simp only[ycQ]
   have:=ih2 k o (l++[znB w.op acc1.length (if w.op=13 then -1 else 0)]) e rest (by omega) he hd
   rw[if_neg h13]at this
   rw[if_neg h13]
   simp only[znB,yc2,ycP,ycQ]at this ⊢
   exact this
 | @two d w b f r acc tb b' acc1 te e' acc2 t r' acc' ho ho2 hd4 hb0 hb hf _ _ _ ih1 ih2 ih3 =>
  intro k o l e rest hk he hd
  simp only[ycP,yc2,yac,yab]at hk ⊢
  obtain⟨k,rfl⟩:∃j,k=j+1:=⟨k-1,by omega⟩
  obtain⟨q1,q2,q3⟩:=zmm (op:=13) (by omega) d o
  have e13:zbz 13=tIf:=rfl
  rw[e13]at q1 q2 q3
  rw[zan,zbM q1]
  simp only[Except.bind]
  rw[if_neg (by simp[q3]),zei,q2,if_neg (by omega),zb0,if_neg (by omega)]
  simp only
  rw[ih1 k (decide True) [] zcB (te++zdp::(t++e::rest)) (by omega) (by decide) (by simp[zgv])]
  simp only[Except.bind,ycQ]
  rw[if_pos trivial,if_pos trivial,ih2 k false [] zdp (t++e::rest) (by omega) (by decide) (by simp[zgv])]
  simp only[Except.map,ycQ]
  have:=ih3 k o (l++[znB 13 acc1.length acc2.length]) e rest (by omega) he hd
  simp only[znB,yc2,ycP,ycQ]at this ⊢
  exact this
def PrF(f:F)(toks:List Tok)(ls':To):Prop:=∃row out acc,f.lists[f.lists.length-1]?=some row∧Pr f.lists 0 row [] toks out acc∧ls'=acc++[out]
def zR(kw:Tok)(l:List Int):List Tok:=if l=[]then []else zC::kw::(l.map zI++[zh])
def zmn(t:Int):List Tok:=if t=0 then []else [zC,zeR,zI t,zh]
def zjq(f:F)(toks:List Tok):List Tok:=zC::zbR::(36::f.name)::(zR zcy f.params++(zmn f.type++(zR zbi f.locals++(toks++[zh]))))
theorem zmo{w:Tok}(hw:zdJ w=true)(ts:List Tok)(ls:To):zhd w ⟨zB (zC::w::ts),ls⟩=some ⟨zB ts,ls⟩:=by
 have e1:zep (zB (zC::w::ts))=some (zC,zB (w::ts)):=by
  show zep (32::(zC++zB (w::ts)))=_
  rw[zfj (by decide),zfk (by decide)]
 have e2:zep (zB (w::ts))=some (w,zB ts):=by
  show zep (32::(w++zB ts))=_
  rw[zfj (by decide),zfk hw]
 simp only[zhd,e1,if_pos,e2]
theorem zpl{w u v:Tok}(hu:zdJ u=true)(hv:zdJ v=true)(h:u≠zC∨v≠w)(ts:List Tok)(ls:To):zhd w ⟨zB (u::v::ts),ls⟩=none:=by
 have e1:zep (zB (u::v::ts))=some (u,zB (v::ts)):=by
  show zep (32::(u++zB (v::ts)))=_
  rw[zfj (by decide),zfk hu]
 have e2:zep (zB (v::ts))=some (v,zB ts):=by
  show zep (32::(v++zB ts))=_
  rw[zfj (by decide),zfk hv]
 unfold zhd
 simp only[e1]
 by_cases hu':u=zC
 ·rw[if_pos hu']
  simp only[e2]
  rw[if_neg (by rcases h with h|h;exact absurd hu' h;exact h)]
 ·rw[if_neg hu']
theorem zqt{w u:Tok}(hu:zdJ u=true)(h:u≠zC)(ts:List Tok)(ls:To):zhd w ⟨zB (u::ts),ls⟩=none:=by
 have e1:zep (zB (u::ts))=some (u,zB ts):=by
  show zep (32::(u++zB ts))=_
  rw[zfj (by decide),zfk hu]
 simp only[zhd,e1,if_neg h]
theorem zwF{t:Int}(h:t=1∨t=2):zdJ (zI t)=true∧(zI t=zC4∧t=1∨zI t=zC5∧t=2):=by
 rcases h with rfl|rfl
 ·exact⟨by decide,.inl ⟨rfl,rfl⟩⟩
 ·exact⟨by decide,.inr ⟨rfl,rfl⟩⟩
theorem zd6:∀(l:List Int) (acc:List Int) (k:Nat) (ts:List Tok) (ls:To),(∀t∈l,t=1∨t=2)→acc++l≠[]→l.length<k→zcz k acc ⟨zB (l.map zI++zh::ts),ls⟩=.ok (acc++l,⟨zB ts,ls⟩)
 | [],acc,k,ts,ls,_,hne,hk=>by
  obtain⟨k,rfl⟩:∃j,k=j+1:=⟨k-1,by simp at hk;omega⟩
  rw[zcz,ydb,ycQ,zbM (by decide)]
  simp only[Except.bind]
  rw[if_neg (by decide),if_neg (by decide),if_pos ⟨trivial,by simpa using hne⟩,yb7]
 | t::l,acc,k,ts,ls,h,hne,hk=>by
  obtain⟨k,rfl⟩:∃j,k=j+1:=⟨k-1,by simp at hk;omega⟩
  obtain⟨h1,h2⟩:=zwF (h t (by simp))
  rw[zcz,yaL,ycP,zbM h1]
  simp only[Except.bind]
  simp only[yac]at hk
  rcases h2 with ⟨e1,e2⟩|⟨e1,e2⟩
  ·rw[if_pos e1,zd6 l (acc++[1]) k ts ls (fun x hx=>h x (by simp[hx])) (by simp) (by omega),←e2]
   simp
  ·rw[e1,if_neg (by decide),if_pos rfl,zd6 l (acc++[2]) k ts ls (fun x hx=>h x (by simp[hx])) (by simp) (by omega),←e2]
   simp
theorem zeX:∀ts:List Tok,ts.length+1≤(zB ts).length
 | []=>by simp[zB]
 | t::r=>by
  have:=zeX r
  simp only[zB,yac,yab]
  omega
theorem zkM{kw:Tok}(hkw:zdJ kw=true){l:List Int}(h:∀t∈l,t=1∨t=2)(ts:List Tok)(ls:To)(hno:zhd kw ⟨zB ts,ls⟩=none):zfz kw ⟨zB (zR kw l++ts),ls⟩=.ok (l,⟨zB ts,ls⟩):=by
 unfold zfz zR
 by_cases hl:l=[]
 ·rw[if_pos hl,ycQ,hno,hl]
 ·rw[if_neg hl]
  simp only[ycP,yc2,ycQ]
  rw[zmo hkw]
  simp only
  have:=zeX (l.map zI++zh::ts)
  rw[zd6 l [] _ ts ls h (by simpa using hl) (by simp at this ⊢;omega)]
  rfl
theorem zBC{ls:To}{d:Nat}{ws:List W}{acc acc':To}{toks:List Tok}{out:List W}(h:Pr ls d ws acc toks out acc'):toks=[]∨∃t r,toks=t::r∧zdJ t=true∧t≠zC:=by
 cases h with
 | nil=>exact .inl rfl
 | leaf hn hf hr _ =>
  obtain⟨u,z,e1,e2,_⟩:=znC hf hn hr
  rw[e1]
  exact .inr ⟨u,_,rfl,(zqs e2 0 false).1,ztz e2⟩
 | one ho _ _ _ _ _ =>
  refine .inr ⟨_,_,rfl,(zmm (by omega) 0 false).1,?_⟩
  rcases ho with e|e|e
  ·rw[e];decide
  ·rw[e];decide
  ·rw[e.1];decide
 | two=>exact .inr ⟨_,_,rfl,by decide,by decide⟩
theorem zGV{ls:To}{d:Nat}{ws:List W}{acc acc':To}{toks:List Tok}{out:List W}(h:Pr ls d ws acc toks out acc')(w:Tok)(ts:List Tok)(l:To):zhd w ⟨zB (toks++zh::ts),l⟩=none:=by
 rcases zBC h with rfl|⟨t,r,rfl,h1,h2⟩
 ·exact zqt (by decide) (by decide) _ _
 ·exact zqt h1 h2 _ _
theorem znD{kw w:Tok}(hkw:zdJ kw=true)(hne:kw≠w){l:List Int}{ts:List Tok}{ls:To}(h:zhd w ⟨zB ts,ls⟩=none):zhd w ⟨zB (zR kw l++ts),ls⟩=none:=by
 unfold zR
 split
 ·exact h
 ·exact zpl (by decide) hkw (.inr hne) _ _
theorem zBD{w:Tok}(hne:zeR≠w){t:Int}{ts:List Tok}{ls:To}(h:zhd w ⟨zB ts,ls⟩=none):zhd w ⟨zB (zmn t++ts),ls⟩=none:=by
 unfold zmn
 split
 ·exact h
 ·exact zpl (by decide) (by decide) (.inr hne) _ _
theorem zjr{c:UInt8}(h:(zao c||zQ c)=true):zby c=false:=by
 rw[Bool.or_eq_true]at h
 rcases h with h|h
 ·simp only[zao,Bool.or_eq_true,Bool.and_eq_true,decide_eq_true_eq,beq_iff_eq]at h
  simp only[zby,yc9,yda,Bool.or_false,Bool.or_eq_false_iff,beq_eq_false_iff_ne,ne_eq]
  refine⟨?_,?_,?_,?_,?_⟩<;>(rintro rfl;rcases h with h|h;simp at h;simp at h)
 ·exact zkK h
theorem zwG{mx:Nat}{n:Tok}(h:zh2 mx n=true):zdJ (36::n)=true:=by
 have ha:∀c∈n,zby c=false:=fun c hc=>by
  cases n with
  | nil=>simp at hc
  | cons x r =>
   simp only[zh2,Bool.and_eq_true,decide_eq_true_eq]at h
   rcases ybC.1 hc with rfl|hc
   ·exact zjr (by rw[h.2.1];rfl)
   ·exact zjr (yaM.1 h.2.2 c hc)
 have h1:(n.all fun c=>!zby c)=true:=by
  rw[yaM]
  intro c hc
  simp[ha c hc]
 have h2:zby 36=false:=by decide
 unfold zdJ
 simp[h1,h2]
structure Pf(mx:Nat)(f:F):Prop where
 name:zh2 mx f.name=true
 params:∀t∈f.params,t=1∨t=2
 locals:∀t∈f.locals,t=1∨t=2
 type:f.type=0∨f.type=1∨f.type=2
theorem zkd{mx:Nat}{f:F}{toks:List Tok}{ls':To}(hf:Pf mx f)(hp:PrF f toks ls')(ts:List Tok)(ls:To):
  zcP mx ⟨zB ((36::f.name)::(zR zcy f.params++(zmn f.type++(zR zbi f.locals++(toks++zh::ts))))),ls⟩=.ok ({ f with lists:=ls' },⟨zB ts,ls'⟩):=by
 obtain⟨row,out,acc,h1,h2,rfl⟩:=hp
 have a3:∀w l,zhd w ⟨zB (toks++zh::ts),l⟩=none:=fun w l=>zGV h2 w ts l
 have a2:∀l,zhd zeR ⟨zB (zR zbi f.locals++(toks++zh::ts)),l⟩=none:=fun l=>znD (by decide) (by decide) (a3 _ l)
 have a1:∀l,zhd zcy ⟨zB (zmn f.type++(zR zbi f.locals++(toks++zh::ts))),l⟩=none:=fun l=>zBD (by decide) (znD (by decide) (by decide) (a3 _ l))
 unfold zcP
 rw[zbM (zwG hf.name)]
 simp only[Except.bind,List.head?_cons,List.tail_cons]
 rw[if_pos ⟨trivial,hf.name⟩,zkM (by decide) hf.params _ _ (a1 ls)]
 simp only
 have hres:zsZ ⟨zB (zmn f.type++(zR zbi f.locals++(toks++zh::ts))),ls⟩=.ok (f.type,⟨zB (zR zbi f.locals++(toks++zh::ts)),ls⟩):=by
  unfold zsZ
  by_cases ht:f.type=0
  ·have e:zmn f.type=[]:=if_pos ht
   rw[e,ycQ,a2 ls,ht]
  ·have e:zmn f.type=[zC,zeR,zI f.type,zh]:=if_neg ht
   rw[e]
   simp only[ycP,ycQ]
   rw[zmo (by decide)]
   simp only
   have:=zeX (zI f.type::zh::(zR zbi f.locals++(toks++zh::ts)))
   have q:=zd6 [f.type] [] ((zB (zI f.type::zh::(zR zbi f.locals++(toks++zh::ts)))).length+1) (zR zbi f.locals++(toks++zh::ts)) ls (fun t ht'=>by have:=hf.type;simp only[ycD]at ht';subst ht';omega) (by simp) (by simp at this ⊢;omega)
   simp only[yaL,ydb,ycP,ycQ]at q
   rw[q]
   simp[Except.bind]
 rw[hres]
 simp only
 rw[zkM (by decide) hf.locals _ _ (a3 _ ls)]
 simp only
 have hlen:=zeX (toks++zh::ts)
 rw[ztA h2 _ false [] zh ts (by simp at hlen;omega) (by decide) (by simp[zgv])]
 simp[Except.map]
inductive PrFs:List F→List Tok→List F→Prop
 | nil:PrFs [] [] []
 | cons {f fs toks ls' ts fs'}:PrF f toks ls'→PrFs fs ts fs'→PrFs (f::fs) (zjq f toks++ts) ({ f with lists:=ls' }::fs')
theorem zjs{mx:Nat}{fs fs':List F}{toks:List Tok}(h:PrFs fs toks fs'):∀(hf:∀f∈fs,Pf mx f) (k:Nat) (acc:List F) (ts:List Tok) (ls:To),fs.length<k→(∀l,zhd zbR ⟨zB ts,l⟩=none)→∃l',zar mx k acc ⟨zB (toks++ts),ls⟩=.ok (acc++fs',⟨zB ts,l'⟩):=by
 induction h with
 | nil =>
  intro hf k acc ts ls hk hn
  obtain⟨k,rfl⟩:∃j,k=j+1:=⟨k-1,by simp at hk;omega⟩
  refine⟨ls,?_⟩
  rw[zar,ycQ,hn]
  simp
 | @cons f fs toks ls' t fs' hp _ ih =>
  intro hf k acc ts ls hk hn
  simp only[yac]at hk
  obtain⟨k,rfl⟩:∃j,k=j+1:=⟨k-1,by omega⟩
  obtain⟨l',hl'⟩:=ih (fun g hg=>hf g (by simp[hg])) k (acc++[{ f with lists:=ls' }]) ts ls' (by omega) hn
  refine⟨l',?_⟩
  rw[zar]
  simp only[zjq,ycP,yc2,ycQ]
  rw[zmo (by decide)]
  simp only
  rw[zkd (hf f (by simp)) hp]
  simp only[Except.bind]
  rw[hl']
  simp
theorem zcU:∀(l:List Tok) (ts:List Tok) (ls:To),(∀t∈l,zdJ t=true)→zaS l ⟨zB (l++ts),ls⟩=.ok ⟨zB ts,ls⟩
 | [],ts,ls,_=>rfl
 | t::l,ts,ls,h=>by
  rw[zaS,ycP,zbM (h t (by simp))]
  simp only[Except.bind]
  rw[if_pos trivial]
  exact zcU l ts ls fun x hx=>h x (by simp[hx])
def zyb:List Tok:=[zC,zbZ,zhc,zC,zbR]
def zdm(m:M)(toks:List Tok):List Tok:=zc0++(Lib.itoa m.memory::zh::zh::(toks++(zyb++(Lib.itoa (yb4 .i64 (m.main+3))::[zh,zh,zh]))))
theorem zf2(x:Int):(-(2^63)≤yb4 .i64 x∧yb4 .i64 x<2^63)∧∃k:Int,yb4 .i64 x=x+2^64*k:=by
 simp only[yb4,yao,yap,Bool.true_and]
 split
 ·rename_i k
  have k:=of_decide_eq_true k
  exact⟨by omega,-(x/2^64)-1,by omega⟩
 ·rename_i k
  have k:=of_decide_eq_false (eq_false_of_ne_true k)
  exact⟨by omega,-(x/2^64),by omega⟩
theorem zrx{n d:Int}(h:-(2^63)≤n∧n<2^63):yb4 .i64 (yb4 .i64 (n+d)-d)=n:=by
 obtain⟨_,k,e⟩:=zf2 (n+d)
 obtain⟨r,j,e2⟩:=zf2 (yb4 .i64 (n+d)-d)
 rw[e]at e2 r ⊢
 omega
def zjt(ts:List Tok):List UInt8:=(zB ts).tail
theorem znE{mx:Nat}{m:M}{toks:List Tok}{fs':List F}(h:PrFs m.funcs toks fs')(hf:∀f∈m.funcs,Pf mx f)(hm:-(2^63)≤m.memory∧m.memory<2^63)(hn:-(2^63)≤m.main∧m.main<2^63):zni mx (zjt (zdm m toks))=.ok ⟨fs',m.memory,m.main⟩:=by
 have hcut:∀ts,zc0++ts≠[]→zcC ⟨zjt (zc0++ts),[]⟩=zcC ⟨zB (zc0++ts),[]⟩:=fun ts _=>by
  have e:zep (zjt (zc0++ts))=zep (zB (zc0++ts)):=rfl
  simp only[zcC,e]
 have hw:∀ts,zaS zc0 ⟨zjt (zc0++ts),[]⟩=zaS zc0 ⟨zB (zc0++ts),[]⟩:=fun ts=>by
  have e:=hcut ts (by simp[zc0])
  have e2:∀s s':Ts,zcC s=zcC s'→zaS zc0 s=zaS zc0 s':=fun s s' q=>by
   simp only[zc0,zaS,q]
  exact e2 _ _ e
 have w4:yb4 .i64 (yb4 .i64 (m.main+3)-3)=m.main:=zrx hn
 unfold zni zhe zdm
 rw[hw,zcU zc0 _ _ (by decide)]
 simp only[Except.bind]
 rw[zeW hm]
 simp only
 have e1:=zcU [zh,zh] (toks++(zyb++(Lib.itoa (yb4 .i64 (m.main+3))::[zh,zh,zh]))) [] (by decide)
 simp only[ycP,ycQ]at e1
 rw[e1]
 simp only
 have hlen:=zeX (toks++(zyb++(Lib.itoa (yb4 .i64 (m.main+3))::[zh,zh,zh])))
 have hfl:∀{gs gs':List F} {us:List Tok},PrFs gs us gs'→gs.length≤us.length:=fun {gs gs' us} q=>by
  induction q with
  | nil=>simp
  | cons _ _ ih=>simp only[zjq,yac,yab,ycP];omega
 have:=hfl h
 obtain⟨l',e2⟩:=zjs h hf ((zB (toks++(zyb++(Lib.itoa (yb4 .i64 (m.main+3))::[zh,zh,zh])))).length+1) [] (zyb++(Lib.itoa (yb4 .i64 (m.main+3))::[zh,zh,zh])) [] (by simp only[yab]at hlen;omega)
  (fun l=>zpl (by decide) (by decide) (.inr (by decide)) _ _)
 rw[e2]
 simp only[ycQ]
 have e3:=zcU zyb (Lib.itoa (yb4 .i64 (m.main+3))::[zh,zh,zh]) l' (by decide)
 have ee:[zC,zbZ,zhc,zC,zbR]=zyb:=rfl
 rw[ee,e3]
 simp only
 rw[zeW (zf2 _).1]
 simp only
 have e4:=zcU [zh,zh,zh] [] l' (by decide)
 rw[yb7]at e4
 rw[e4]
 simp only[zB,w4]
 rfl
def zpm(w:W):Bool:=zdg w&&(!zbj w&&(decide (zru w=w)&&(decide (-(2^63)≤w.n)&&decide (w.n<2^63))))
theorem zwH:∀p∈zdy,((p.2.op=1∧(p.2.ty=1∨p.2.ty=2))∨((p.2.op=2∨p.2.op=3∨p.2.op=10∨p.2.op=14∨p.2.op=15)∧p.2.ty=0))∧p.2.body=0∧p.2.other=0∧p.2.name=[]:=by decide
theorem ztB{w:W}(h:zpm w=true):zdg w=true∧zbj w=false∧zru w=w∧RgW w:=by
 simp only[zpm,Bool.and_eq_true,Bool.not_eq_true',decide_eq_true_eq]at h
 exact⟨h.1,h.2.1,h.2.2.1,h.2.2.2.1,h.2.2.2.2⟩
theorem ztC{w:W}(h:∃p∈zdy,p.2=w){n:Int}(hn:-(2^63)≤n∧n<2^63):zpm { w with n:=n }=true:=by
 obtain⟨p,hp,rfl⟩:=h
 obtain⟨h1,h2,h3,h4⟩:=zwH p hp
 obtain⟨t,op,ty,m,body,other,name⟩:=p
 simp only at h1 h2 h3 h4
 subst h2 h3 h4
 rcases h1 with ⟨rfl,rfl|rfl⟩|⟨rfl|rfl|rfl|rfl|rfl,rfl⟩<;>(simp[zpm,zdg,zbj,zru,zcs,zaN];omega)
theorem zwI(t:Tok):zc8 t=0∨zc8 t=11∨zc8 t=12∨zc8 t=13:=by
 unfold zc8
 split
 ·simp
 ·split
  ·simp
  ·split<;>simp
theorem bind_some{α β:Type}{r:Res α}{f:α→Res β}{y:β}(h:r.bind f=.ok y):∃x,r=.ok x∧f x=.ok y:=by
 cases r with
 | error e=>cases h
 | ok x=>exact⟨x,rfl,h⟩
theorem map_some{α β:Type}{r:Res α}{f:α→β}{y:β}(h:r.map f=.ok y):∃x,r=.ok x∧f x=y:=by
 cases r with
 | error e=>cases h
 | ok x=>simp only[Except.map,Except.ok.injEq]at h;exact⟨x,rfl,h⟩
theorem zd7{α:Type}{a:List α}{x:α}{fin:List α}(h:a++[x]<+:fin):fin[a.length]?=some x:=by
 obtain⟨z,rfl⟩:=h
 rw[yc2,yaI (yah _)]
 simp
theorem znF{ls:To}{d:Nat}{ws:List W}{acc acc':To}{toks:List Tok}{out:List W}(h:Pr ls d ws acc toks out acc'):acc<+:acc':=by
 induction h with
 | nil=>exact yc3 _
 | leaf _ _ _ _ ih=>exact ih
 | one _ _ _ _ _ _ ih1 ih2=>exact ih1.trans ((yc1 _ _).trans ih2)
 | two _ _ _ _ _ _ _ _ _ ih1 ih2 ih3=>exact ih1.trans ((yc1 _ _).trans (ih2.trans ((yc1 _ _).trans ih3)))
end Go.Proofs.YtohfclafhegadaaGreatDoor
namespace Go.Proofs.YtohfclafhegadaaGreatDoor
open Go Go.Abs
def zaj(σ:AS)(x f:Nat):Prop:=∃cs v,σ.objs x=some cs∧cs[1]?=some v∧zcq v=some f
structure zM(x:Nat)(σ σ':AS):Prop where
 no:σ.no≤σ'.no
 nf:σ.nf≤σ'.nf
 obj:∀o,o<σ.no→o≠x→σ'.objs o=σ.objs o
 fam:∀f,f<σ.nf→¬zaj σ x f→σ'.F f=σ.F f
 use:∀f,f<σ.nf→zaj σ' x f→zaj σ x f
theorem zM.refl(x σ):zM x σ σ:=⟨yah _,yah _,fun _ _ _=>rfl,fun _ _ _=>rfl,fun _ _ h=>h⟩
theorem zM.trans{x σ σ1 σ2}(h:zM x σ σ1)(h':zM x σ1 σ2):zM x σ σ2 where
 no:=yai h.no h'.no
 nf:=yai h.nf h'.nf
 obj o a b:=by rw[h'.obj o (yag a h.no) b,h.obj o a b]
 fam f a b:=by rw[h'.fam f (yag a h.nf) fun u=>b (h.use f a u),h.fam f a b]
 use f a u:=h.use f a (h'.use f (yag a h.nf) u)
theorem zd.keepR{x σ σ'}(h:zd σ σ')(hx:x<σ.no):zM x σ σ' where
 no:=h.no
 nf:=h.nf
 obj o a _:=h.obj o a
 fam f a _:=h.fam f a
 use f _ u:=by unfold zaj at *;rwa [h.obj x hx]at u
structure zK(x:Nat)(σ σ':AS):Prop where
 no:σ.no≤σ'.no
 nf:σ.nf≤σ'.nf
 obj:∀o,o<σ.no→o≠x→σ'.objs o=σ.objs o
 fam:∀f,f<σ.nf→σ'.F f=σ.F f
 lst:∀cs,σ.objs x=some cs→∃cs',σ'.objs x=some cs'∧cs'[1]?=cs[1]?
 some:(σ.objs x).isSome=true
theorem zK.refl{x σ cs}(h:σ.objs x=yaR cs):zK x σ σ:=⟨yah _,yah _,fun _ _ _=>rfl,fun _ _=>rfl,fun cs h=>⟨cs,h,rfl⟩,by rw[h];rfl⟩
theorem zK.trans{x σ σ1 σ2}(h:zK x σ σ1)(h':zK x σ1 σ2):zK x σ σ2 where
 no:=yai h.no h'.no
 nf:=yai h.nf h'.nf
 obj o a b:=by rw[h'.obj o (yag a h.no) b,h.obj o a b]
 fam f a:=by rw[h'.fam f (yag a h.nf),h.fam f a]
 lst cs e:=by
  obtain⟨c1,e1,e2⟩:=h.lst cs e
  obtain⟨c2,e3,e4⟩:=h'.lst c1 e1
  exact⟨c2,e3,e4.trans e2⟩
 some:=h.some
theorem zK.r{x σ σ'}(h:zK x σ σ'):zM x σ σ' where
 no:=h.no
 nf:=h.nf
 obj:=h.obj
 fam f a _:=h.fam f a
 use f a u:=by
  obtain⟨cs,v,h1,h2,h3⟩:=u
  obtain⟨c0,hc0⟩:=Option.isSome_iff_exists.1 h.some
  obtain⟨c1,e1,e2⟩:=h.lst c0 hc0
  rw[h1]at e1
  cases e1
  exact⟨c0,v,hc0,by rw[←e2];exact h2,h3⟩
theorem zd.keepS{x σ σ' cs}(h:zd σ σ')(hx:x<σ.no)(ho:σ.objs x=yaR cs):zK x σ σ' where
 no:=h.no
 nf:=h.nf
 obj o a _:=h.obj o a
 fam f a:=h.fam f a
 lst cs e:=⟨cs,(h.obj x hx).trans e,rfl⟩
 some:=by rw[ho];rfl
theorem zK.set{x σ cs cs'}(ho:σ.objs x=yaR cs)(h:cs'[1]?=cs[1]?):zK x σ (σ.setO x cs') where
 no:=yah _
 nf:=yah _
 obj o _ ho:=by simp[ho]
 fam f _:=rfl
 lst c e:=⟨cs',by simp,by rw[h];rw[ho]at e;cases e;rfl⟩
 some:=by rw[ho];rfl
theorem zK.endF{x σ τ}(K:zK x σ τ){g:Nat}(hg:σ.nf≤g):zK x σ (τ.setF g .dead) where
 no:=K.no
 nf:=K.nf
 obj:=K.obj
 fam f a:=by
  have:¬f=g:=by omega
  simp[this]
  exact K.fam f a
 lst:=K.lst
 some:=K.some
theorem zK.newF{x σ τ}(K:zK x σ τ):zK x σ τ.newF where
 no:=K.no
 nf:=ydc K.nf
 obj:=K.obj
 fam f a:=by
  have:=K.nf
  have:¬f=τ.nf:=by omega
  simp[this]
  exact K.fam f a
 lst:=K.lst
 some:=K.some
theorem zK.mrg{x σ τ}(K:zK x σ τ){g:Nat}(hg:σ.nf≤g):zK x σ (τ.mrg g fun _=>false) where
 no:=K.no
 nf:=K.nf
 obj o a b:=by simpa [AS.mrg]using K.obj o a b
 fam f a:=by
  have:¬f=g:=by omega
  simp[AS.mrg,zg8,this]
  exact K.fam f a
 lst cs e:=by
  obtain⟨c1,e1,e2⟩:=K.lst cs e
  exact⟨c1,by simpa [AS.mrg]using e1,e2⟩
 some:=K.some
def famO:Go.Abs.Own→Option Nat
 | .stat _=>none
 | .fam f _=>some f
def BV(β:Option Nat)(v:AV)(bs:List UInt8):Prop:=(bs=[]∧v=.nilsl)∨∃φ,famO φ=β∧v=.sl φ 1 (B bs)
theorem BV.one{β v bs}(h:BV β v bs):v.known=true∧v.one=true∧v.cells=[v]:=by rcases h with ⟨_,rfl⟩|⟨b,_,rfl⟩<;>simp
def ToR(base:Nat)(σ:AS)(v:AV)(tO:To):Prop:=(tO=[]∧v=.nilsl)∨∃g tos,v=.sl (.fam g false) 1 tos∧base≤g∧g<σ.nf∧σ.F g=.alive∧All2 Al.RepE tos tO
theorem ToR.one{base σ v bs}(h:ToR base σ v bs):v.known=true∧v.one=true∧v.cells=[v]:=by rcases h with ⟨_,rfl⟩|⟨b,_,rfl,_⟩<;>simp
structure Rdr(base:Nat)(β:Option Nat)(x:Nat)(s:Rs)(σ:AS):Prop where
 hx:x<σ.no
 hb:0<base∧base≤σ.nf
 h0:σ.F 0=.alive
 hβ:∀f,β=some f→f<base∧σ.F f=.alive
 cells:∃bv lv,σ.objs x=some [bv,lv,.int .i64 (s.n:Int)]∧BV β bv s.b∧ToR base σ lv s.ls
theorem Rdr.uses{base β x s σ}(h:Rdr base β x s σ){f:Nat}(hf:f<base):¬zaj σ x f:=fun⟨cs,v,h1,h2,h3⟩=>by
 obtain⟨bv,lv,ho,_,hl⟩:=h.cells
 rw[ho]at h1
 cases h1
 simp at h2
 subst h2
 rcases hl with ⟨_,rfl⟩|⟨g,tos,rfl,hg,_⟩
 ·cases h3
 ·simp only[zcq,yaR.injEq]at h3
  omega
theorem BV.byt{base β x s σ}(h:Rdr base β x s σ){v bs}(hv:BV β v bs):zej σ v bs:=by
 rcases hv with h1|⟨φ,h1,h2⟩
 ·exact .inl h1
 ·refine .inr ⟨φ,h2,?_⟩
  cases φ with
  | stat b=>exact trivial
  | fam f b =>
   obtain⟨h3,h4⟩:=h.hβ f h1.symm
   exact⟨by have:=h.hb.2;omega,h4⟩
theorem Rdr.set{base β x s σ bv lv s'}(h:Rdr base β x s σ)(hv:BV β bv s'.b)(hl:ToR base σ lv s'.ls):Rdr base β x s' (σ.setO x [bv,lv,.int .i64 (s'.n:Int)]):=by
 refine⟨h.hx,h.hb,h.h0,h.hβ,bv,lv,by simp,hv,?_⟩
 rcases hl with h1|⟨g,tos,h1,h2,h3,h4,h5⟩
 ·exact .inl h1
 ·exact .inr ⟨g,tos,h1,h2,h3,h4,h5⟩
theorem Rdr.adds{base β x s σ σ'}(h:Rdr base β x s σ)(A:zd σ σ'):Rdr base β x s σ':=by
 obtain⟨bv,lv,ho,hv,hl⟩:=h.cells
 have hn:=A.nf
 have hb:=h.hb
 refine⟨yag h.hx A.no,⟨hb.1,by omega⟩,(A.fam 0 (by omega)).trans h.h0,fun f hf=>?_,bv,lv,(A.obj x h.hx).trans ho,hv,?_⟩
 ·obtain⟨h1,h2⟩:=h.hβ f hf
  exact⟨h1,(A.fam f (by omega)).trans h2⟩
 ·rcases hl with h1|⟨g,tos,h1,h2,h3,h4,h5⟩
  ·exact .inl h1
  ·exact .inr ⟨g,tos,h1,h2,by omega,(A.fam g h3).trans h4,h5⟩
def zDa(e:Int):AV:=.iface 33 (.int .i64 e)
def zL3(v:AV):Prop:=v=zDa 2∨v=zDa 3∨v=zDa 9
section
variable {G : Env} {σ : AS} {R : Out → AS → Prop}
theorem zy{b:Bool}{e:Int}(h1:b=true→R (.ret (.tuple [])) σ)(h2:b=false→R (.panic (zDa e)) σ):zzQ G 40 [.bool b,.int .i64 e] σ R:=by
 refine zAu rfl ?_
 cases b with
 | true =>
  simp[zK7]
  exact h1 rfl
 | false =>
  simp[zK7]
  exact h2 rfl
def zaK(R:Out→AS→Prop)(x:Nat)(σ:AS):Prop:=∀e σ',zL3 e→zM x σ σ'→R (.panic e) σ'
theorem zaK.mono{R x σ σ'}(h:zaK R x σ)(K:zM x σ σ'):zaK R x σ':=fun e τ he k=>h e τ he (K.trans k)
theorem zqu(φ:Go.Abs.Own)(b:Bool):famO (cut φ b)=famO φ:=by cases φ<;>rfl
theorem zGW(bs:List UInt8)(n:Nat):(B bs).take n=B (bs.take n):=by simp[B]
theorem zGX(bs:List UInt8)(n:Nat):(B bs).drop n=B (bs.drop n):=by simp[B]
theorem zah{base β x s}{n:Int}(h:Rdr base β x s σ)(hn:zcR n s=none→zaK R x σ)(hs:∀p s',zcR n s=some (p,s')→∀v σ',BV β v p→Rdr base β x s' σ'→zK x σ σ'→R (.ret v) σ'):zzQ G 87 [.ptr x 0,.int .i64 n] σ R:=by
 refine zAV rfl ?_
 obtain⟨bv,lv,ho,hv,hl⟩:=h.cells
 have b1:=hv.one
 have l1:=hl.one
 have bl:=(BV.byt h hv).len
 have hx:=h.hx
 by_cases h0:0≤n
 ·by_cases hlen:n≤s.b.length
  ·have ht:zcR n s=some (s.b.take n.toNat,{ s with b:=s.b.drop n.toNat }):=by unfold zcR;rw[if_pos ⟨h0,hlen⟩]
   simp[zIt,ho,bl,h0,hlen]
   refine zy (fun _=>?_) (fun q=>by cases q)
   obtain⟨k,rfl⟩:∃k:Nat,n=k:=⟨n.toNat,by omega⟩
   simp only[ybe]at ht
   rcases hv with ⟨hs0,rfl⟩|⟨φ,hφ,rfl⟩
   ·have hk:k=0:=by rw[hs0]at hlen;simp at hlen;exact hlen
    subst hk
    have hd:List.drop 0 s.b=s.b:=by simp
    simp[ho,splice]
    exact hs _ _ ht _ _ (.inl ⟨by simp,rfl⟩) (h.set (bv:=.nilsl) (.inl ⟨by simp[hs0],rfl⟩) hl) (.set ho rfl)
   ·simp[ho,splice]
    refine⟨by omega,?_⟩
    have e1:List.drop k (ycJ s.b.length (B s.b))=B (s.b.drop k):=by rw[ycE (by simp)];exact zGX _ _
    rw[e1,zGW]
    exact hs _ _ ht _ _ (.inr ⟨_,by rw[zqu];exact hφ,rfl⟩) (h.set (s':={ s with b:=s.b.drop k }) (.inr ⟨_,by rw[zqu];exact hφ,rfl⟩) hl) (.set ho rfl)
  ·have ht:zcR n s=none:=by unfold zcR;rw[if_neg (fun q=>hlen q.2)]
   simp[zIt,ho,bl,h0,hlen]
   refine zy (fun q=>by cases q) (fun _=>?_)
   simp
   exact hn ht _ _ (.inl rfl) (.refl ..)
 ·have ht:zcR n s=none:=by unfold zcR;rw[if_neg (fun q=>h0 q.1)]
  simp[zIt,ho,h0]
  refine zy (fun q=>by cases q) (fun _=>?_)
  simp
  exact hn ht _ _ (.inl rfl) (.refl ..)
theorem zfl{base β x s}{n:Int}(h:Rdr base β x s σ)(hn:zcR n s=none→zaK R x σ)(hs:∀p s',zcR n s=some (p,s')→∀v σ',BV β v p→Rdr base β x s' σ'→zM x σ σ'→R (.ret v) σ'):zzQ G 87 [.ptr x 0,.int .i64 n] σ R :=
 zah h hn fun p s' q v σ' a b c=>hs p s' q v σ' a b c.r
theorem zqv{s:Rs}:zcR 1 s=(zcr s).map fun p=>([p.1],p.2):=by
 unfold zcR zcr
 cases h:s.b with
 | nil=>simp
 | cons c r =>
  simp
  omega
theorem zbx{base β x s}(h:Rdr base β x s σ)(hn:zcr s=none→zaK R x σ)(hs:∀c s',zcr s=some (c,s')→∀v σ',(∃φ,famO φ=β∧v=.sl φ 1 [.int .u8 (c.toNat:Int)])→Rdr base β x s' σ'→zK x σ σ'→R (.ret v) σ'):zzQ G 87 [.ptr x 0,.int .i64 1] σ R:=by
 refine zah h (fun q=>hn ?_) (fun p s' q v σ' hv hr hk=>?_)
 ·rw[zqv,Option.map_eq_none_iff]at q
  exact q
 ·rw[zqv,ybB]at q
  obtain⟨⟨c,s1⟩,h1,h2⟩:=q
  simp only[Prod.mk.injEq]at h2
  obtain⟨rfl,rfl⟩:=h2
  refine hs c _ h1 v σ' ?_ hr hk
  rcases hv with ⟨h3,_⟩|⟨φ,h3,h4⟩
  ·cases h3
  ·exact⟨φ,h3,h4⟩
theorem zju{base β x s}(h:Rdr base β x s σ)(hn:zcr s=none→zaK R x σ)(hs:∀c s',zcr s=some (c,s')→∀v σ',(∃φ,famO φ=β∧v=.sl φ 1 [.int .u8 (c.toNat:Int)])→Rdr base β x s' σ'→zM x σ σ'→R (.ret v) σ'):zzQ G 87 [.ptr x 0,.int .i64 1] σ R :=
 zbx h hn fun c s' q v σ' a b d=>hs c s' q v σ' a b d.r
theorem zry{base β x s}(h:Rdr base β x s σ){φ:Go.Abs.Own}(hφ:famO φ=β):zn σ.F φ:=by
 cases φ with
 | stat b=>exact trivial
 | fam f b=>exact(h.hβ f hφ.symm).2
theorem wrap_u64(n:Nat):yb4 .u64 (n:Int)=((n%2^64:Nat):Int):=by
 simp[yb4,yao,yap]
theorem zyc{a b:Nat}(ha:a<2^64)(hb:b<2^64):zca .u64 (fun x1 x2=>x1 ||| x2) (a:Int) (b:Int)=((a ||| b:Nat):Int):=by
 have e:∀n:Nat,n<2^64→(BitVec.ofInt 64 (n:Int)).toNat=n:=fun n hn=>by
  rw[BitVec.toNat_ofInt]
  omega
 show yb4 .u64 (((BitVec.ofInt 64 (a:Int) ||| BitVec.ofInt 64 (b:Int)).toNat:Nat):Int)=_
 rw[BitVec.toNat_or,e a ha,e b hb,wrap_u64,ycO (Nat.or_lt_two_pow ha hb)]
theorem zyd{u x k:Nat}(hu:u<2^64):orS u x k=u ||| (x*2^k)%2^64:=by
 unfold orS
 rw[Nat.or_mod_two_pow,ycO hu,ycN]
theorem zBE{u i:Nat}{c:UInt8}(hu:u<2^64)(hi:i<10):zca .u64 (fun x1 x2=>x1 ||| x2) (u:Int) (ydd.wrap (ydd.wrap (zca .u8 (fun x1 x2=>x1 &&& x2) (c.toNat:Int) 127)*2^min (7*(i:Int)).toNat ydd.bits))=((orS u (c.toNat%128) (7*i):Nat):Int):=by
 have e1:zca .u8 (fun x1 x2=>x1 &&& x2) (c.toNat:Int) 127=((c.toNat%128:Nat):Int):=by
  have:=ztf c
  rw[zx7]at this
  exact this
 have e2:(7*(i:Int)).toNat=7*i:=by omega
 have e3:min (7*i) ydd.bits=7*i:=by
  have:ydd.bits=64:=rfl
  rw[this]
  omega
 have hp:((2:Int)^(7*i))=((2^(7*i):Nat):Int):=by rw[ycV];rfl
 rw[e1,wrap_u64,e2,e3,hp,←ybd,wrap_u64,ycO (a:=c.toNat%128) (by omega),zyc hu (yde _ (by decide)),zyd hu]
theorem zGY(u x k:Nat):orS u x k<2^64:=yde _ (by decide)
theorem zwJ{u i:Nat}(hu:u<2^64)(hi:i<9):zca .u64 (fun x1 x2=>x1 ||| x2) (u:Int) (ydd.wrap (18446744073709551615*2^min (7*(i:Int)+7).toNat ydd.bits))=((orS u (2^64-1) (7*i+7):Nat):Int):=by
 have e2:(7*(i:Int)+7).toNat=7*i+7:=by omega
 have e3:min (7*i+7) ydd.bits=7*i+7:=by
  have:ydd.bits=64:=rfl
  rw[this]
  omega
 have hp:((2:Int)^(7*i+7))=((2^(7*i+7):Nat):Int):=by rw[ycV];rfl
 have e4:(18446744073709551615:Int)=((2^64-1:Nat):Int):=by decide
 rw[e2,e3,hp,e4,←ybd,wrap_u64,zyc hu (yde _ (by decide)),zyd hu]
def NuI(base:Nat)(β:Option Nat)(x:Nat)(sg:Bool)(s:Rs)(σ:AS)(a:Nat→AV)(τ:AS):Prop:=∃(i u:Nat) (r:List UInt8),i≤10∧zmi sg 10 0 0 s.b=zmi sg (10-i) (7*i) u r∧u<2^64∧a 0=.ptr x 0∧a 1=.bool sg∧a 5=.int .u64 (u:Int)∧a 6=.int .i64 (7*(i:Int))∧Rdr base β x { s with b:=r } τ∧zK x σ τ
theorem zw{base β x s}{sg:Bool}(h:Rdr base β x s σ)(hn:zdq false sg s=none→zaK R x σ)(hs:∀n s',zdq false sg s=some (n,s')→∀σ',Rdr base β x s' σ'→zK x σ σ'→R (.ret (.int .i64 n)) σ'):zzQ G 90 [.ptr x 0,.bool sg] σ R:=by
 refine zAY rfl ?_
 have hnp:zdq false sg s=(zmi sg 10 0 0 s.b).map fun p=>(p.1,{ s with b:=p.2 }):=by
  unfold zdq
  cases zmi sg 10 0 0 s.b with
  | none=>rfl
  | some p=>simp
 simp[zM1]
 refine zH (NuI base β x sg s σ) (fun a _=>match a 6 with|.int _ n=>100-n.toNat|_=>0) ⟨0,0,s.b,by omega,rfl,by omega,by simp,by simp,by simp,by simp,h,.refl h.cells.choose_spec.choose_spec.1⟩ fun a τ hI=>?_
 obtain⟨i,u,r,hi,hg,hu,a0,a1,a5,a6,hr,hk⟩:=hI
 by_cases hlt:i<10
 ·have hlt':7*(i:Int)<70:=by omega
  obtain⟨k,hk10⟩:∃k,10-i=k+1:=⟨9-i,by omega⟩
  rw[hk10]at hg
  simp[zoN,a0,a1,a5,a6,hlt']
  refine zy (fun _=>?_) (fun q=>by cases q)
  simp[a0]
  refine zbx hr (fun q=>?_) (fun c s' q v σ1 hv hr1 hk1=>?_)
  ·refine zaK.mono (hn ?_) hk.r
   rw[hnp,hg]
   have:r=[]:=by
    unfold zcr at q
    cases r with
    | nil=>rfl
    | cons c r=>cases q
   subst this
   rw[zmi]
   rfl
  ·obtain⟨φ,hφ,rfl⟩:=hv
   have hrd:=zry hr1 hφ
   obtain⟨q1,q2,q3⟩:=zm q
   simp only at q1 q2 q3
   rw[q1,zmi]at hg
   have hE:=zBE (c:=c) hu hlt
   have hlv:=zGY u (c.toNat%128) (7*i)
   generalize orS u (c.toNat%128) (7*i)=u' at *
   by_cases hc:c.toNat<128
   ·have hc':(c.toNat:Int)<128:=by omega
    simp only[hc,if_true]at hg
    have fin:∀(n:Nat) σ',zGN (if sg=true∧64≤c.toNat∧7*i<57 then orS u' (2^64-1) (7*i+7)else u')=yb4 .i64 (n:Int)→Rdr base β x s' σ'→zK x τ σ'→R (.ret (.int .i64 (yb4 .i64 (n:Int)))) σ':=fun n σ' e1 e2 e3=>by
     refine hs _ { s with b:=s'.b } ?_ σ' ?_ (hk.trans e3)
     ·rw[hnp,hg,e1]
      rfl
     ·have:s'={ s with b:=s'.b }:=by
       obtain⟨b',l',n'⟩:=s'
       try simp only at q2 q3
       rw[q2,q3]
      rw[←this];exact e2
    cases sg with
    | false =>
     simp[hrd,a0,a1,a5,a6,hc',hE]
     exact⟨by omega,fin _ _ (by simp[zGN]) hr1 hk1⟩
    | true =>
     by_cases h64:64≤c.toNat
     ·have h64':64≤(c.toNat:Int):=by omega
      by_cases h57:7*i<57
      ·have h57':7*(i:Int)<57:=by omega
       have w7:yb4 .i64 (7*(i:Int)+7)=7*(i:Int)+7:=by rw[zc]<;>omega
       have hX:=zwJ (i:=i) hlv (by omega)
       simp[hrd,a0,a1,a5,a6,hc',hE,h64',h57',w7,hX]
       exact⟨by omega,by omega,fin _ _ (by rw[if_pos ⟨rfl,h64,h57⟩];rfl) hr1 hk1⟩
      ·have h57':¬7*(i:Int)<57:=by omega
       simp[hrd,a0,a1,a5,a6,hc',hE,h64',h57']
       exact⟨by omega,fin _ _ (by rw[if_neg (fun q=>h57 q.2.2)];rfl) hr1 hk1⟩
     ·have h64':¬64≤(c.toNat:Int):=by omega
      simp[hrd,a0,a1,a5,a6,hc',hE,h64']
      exact⟨by omega,fin _ _ (by rw[if_neg (fun q=>h64 q.2.1)];rfl) hr1 hk1⟩
   ·have hc':¬(c.toNat:Int)<128:=by omega
    simp only[hc,if_false]at hg
    have w7:yb4 .i64 (7*(i:Int)+7)=7*(i:Int)+7:=by rw[zc]<;>omega
    simp[hrd,a0,a1,a5,a6,hc',hE,w7]
    have e7:7*(i:Int)+7=7*((i+1:Nat):Int):=by omega
    refine⟨by omega,⟨i+1,u',s'.b,by omega,?_,hlv,by simp[a0],by simp[a1],by simp,by simp[e7],?_,hk.trans hk1⟩,?_⟩
    ·rw[hg]
     have:10-(i+1)=k:=by omega
     rw[this]
     rfl
    ·have:s'={ s with b:=s'.b }:=by
      obtain⟨b',l',n'⟩:=s'
      try simp only at q2 q3
      rw[q2,q3]
     rw[←this];exact hr1
    ·omega
 ·have:i=10:=by omega
  subst this
  have hnone:zdq false sg s=none:=by rw[hnp,hg];rfl
  simp[zoN,a0,a1,a5,a6]
  refine zy (fun q=>by cases q) (fun _=>?_)
  simp
  exact hn hnone _ _ (.inl rfl) hk.r
theorem zhM{base β x s}{sg:Bool}(h:Rdr base β x s σ)(hn:zdq false sg s=none→zaK R x σ)(hs:∀n s',zdq false sg s=some (n,s')→∀σ',Rdr base β x s' σ'→zM x σ σ'→R (.ret (.int .i64 n)) σ'):zzQ G 90 [.ptr x 0,.bool sg] σ R :=
 zw h hn fun n s' q σ' a b=>hs n s' q σ' a b.r
end
def zbr(σ0:AS)(x sz:Nat)(τ:AS)(v:AV)(xs:List AV):Prop:=(xs=[]∧v=.nilsl)∨∃g,v=.sl (.fam g false) sz xs∧σ0.nf≤g∧g<τ.nf∧τ.F g=.alive∧¬zaj τ x g
theorem zbr.one{σ0 x sz τ v xs}(h:zbr σ0 x sz τ v xs):v.known=true∧v.one=true∧v.cells=[v]:=by rcases h with ⟨_,rfl⟩|⟨b,rfl,_⟩<;>simp
theorem zbr.keep{σ0 x sz τ τ' v xs}(h:zbr σ0 x sz τ v xs)(K:zM x τ τ'):zbr σ0 x sz τ' v xs:=by
 rcases h with h|⟨g,h1,h2,h3,h4,h5⟩
 ·exact .inl h
 ·exact .inr ⟨g,h1,h2,yag h3 K.nf,(K.fam g h3 h5).trans h4,fun u=>h5 (K.use g h3 u)⟩
theorem Rdr.lt{base β x s σ}(h:Rdr base β x s σ){f:Nat}(u:zaj σ x f):f<σ.nf:=by
 obtain⟨cs,v,h1,h2,h3⟩:=u
 obtain⟨bv,lv,ho,_,hl⟩:=h.cells
 rw[ho]at h1
 cases h1
 simp at h2
 subst h2
 rcases hl with ⟨_,rfl⟩|⟨g,tos,rfl,hg,hg2,_⟩
 ·cases h3
 ·simp only[zcq,yaR.injEq]at h3
  omega
theorem Rdr.newF{base β x s τ}(h:Rdr base β x s τ):Rdr base β x s τ.newF:=h.adds (zd.refl τ).newF
theorem Rdr.endF{base β x s τ}(h:Rdr base β x s τ){g:Nat}(hg:base≤g)(hu:¬zaj τ x g):Rdr base β x s (τ.setF g .dead):=by
 obtain⟨bv,lv,ho,hv,hl⟩:=h.cells
 have hb:=h.hb
 refine⟨h.hx,hb,?_,fun f hf=>?_,bv,lv,ho,hv,?_⟩
 ·have:¬0=g:=by omega
  simp[this,h.h0]
 ·obtain⟨h1,h2⟩:=h.hβ f hf
  have:¬f=g:=by omega
  exact⟨h1,by simp[this,h2]⟩
 ·rcases hl with h1|⟨f,tos,h1,h2,h3,h4,h5⟩
  ·exact .inl h1
  ·have:¬f=g:=fun e=>hu ⟨_,_,ho,rfl,by rw[h1,←e];rfl⟩
   exact .inr ⟨f,tos,h1,h2,h3,by simp[this,h4],h5⟩
theorem zM.endF{x σ τ}(K:zM x σ τ){g:Nat}(hg:σ.nf≤g):zM x σ (τ.setF g .dead) where
 no:=K.no
 nf:=K.nf
 obj:=K.obj
 fam f a b:=by
  have:¬f=g:=by omega
  simp[this]
  exact K.fam f a b
 use f a u:=K.use f a u
theorem zM.newF{x σ τ}(K:zM x σ τ):zM x σ τ.newF where
 no:=K.no
 nf:=ydc K.nf
 obj:=K.obj
 fam f a b:=by
  have:=K.nf
  have:¬f=τ.nf:=by omega
  simp[this]
  exact K.fam f a b
 use f a u:=K.use f a u
theorem zqw{el:Option TypeId}{base β x s}{σ0 τ:AS}{v row:AV}{xs:List AV}{bsz sz:Nat}{K:AV→AS→Prop}(hG:zbr σ0 x sz τ v xs)(hR:Rdr base β x s τ)(hK:zM x σ0 τ)(hb:base≤σ0.nf)(hrow:row.cells.length=sz)(hl:(xs.length+1)*bsz≤2^47)
  (h:∀v' τ',zbr σ0 x sz τ' v' (xs++[row])→Rdr base β x s τ'→zM x σ0 τ'→τ'.objs=τ.objs→τ'.no=τ.no→(zK x σ0 τ→zK x σ0 τ')→K v' τ'):zbb el bsz sz v [row] τ K:=by
 have hn:=hK.nf
 rcases hG with ⟨rfl,rfl⟩|⟨g,rfl,h2,h3,h4,h5⟩
 ·have hnu:¬zaj τ.newF x τ.nf:=fun u=>by have:=hR.lt (f:=τ.nf) u;omega
  have:=h (.sl (.fam τ.nf false) sz [row]) τ.newF (.inr ⟨τ.nf,rfl,hn,by simp,by simp,hnu⟩) hR.newF hK.newF (by simp) (by simp) (fun q=>q.newF)
  simp at hl
  simp
  first|exact this|exact⟨by omega,this⟩
 ·have hR':=(hR.endF (by omega) h5).newF
  have hK':=(hK.endF h2).newF
  have hnu:¬zaj (τ.setF g .dead).newF x τ.nf:=fun u=>by have:=hR.lt (f:=τ.nf) u;omega
  have:=h (.sl (.fam τ.nf false) sz (xs++[row])) (τ.setF g .dead).newF (.inr ⟨τ.nf,rfl,hn,by simp,by simp,hnu⟩) hR' hK' (by simp) (by simp) (fun q=>(q.endF h2).newF)
  simp[h4]
  exact⟨hl,this⟩
section
variable {G : Env} {σ : AS} {R : Out → AS → Prop}
theorem zaz{base β x s}{n:UInt8}(h:Rdr base β x s σ)(hn:zE n s=none→zaK R x σ)(hs:∀s',zE n s=some s'→∀σ',Rdr base β x s' σ'→zK x σ σ'→R (.ret (.tuple [])) σ'):zzQ G 89 [.ptr x 0,.int .u8 (n.toNat:Int)] σ R:=by
 refine zAX rfl ?_
 simp[zM0]
 refine zbx h (fun q=>hn (by unfold zE;rw[q];rfl)) (fun c s1 q v σ1 hv hr hk=>?_)
 obtain⟨φ,hφ,rfl⟩:=hv
 have hrd:=zry hr hφ
 by_cases hc:c=n
 ·have hc':(c.toNat:Int)=(n.toNat:Int):=by rw[hc]
  simp[hrd,hc']
  refine zy (fun _=>?_) (fun q=>by cases q)
  simp
  refine zw hr (fun q2=>zaK.mono (hn ?_) hk.r) (fun m s2 q2 σ2 hr2 hk2=>?_)
  ·unfold zE
   rw[q]
   simp only[ycY]
   rw[if_pos hc,q2]
   rfl
  ·simp
   refine hs s2 ?_ σ2 hr2 (hk.trans hk2)
   unfold zE
   rw[q]
   simp only[ycY]
   rw[if_pos hc,q2]
   rfl
 ·have hc':¬(c.toNat:Int)=(n.toNat:Int):=fun e=>hc (UInt8.toNat_inj.1 (by omega))
  simp[hrd,hc']
  refine zy (fun q=>by cases q) (fun _=>?_)
  simp
  refine hn ?_ _ _ (.inl rfl) hk.r
  unfold zE
  rw[q]
  simp only[ycY]
  rw[if_neg hc]
theorem zcV{α:Type}{f:Rs→Option (α × Rs)}{n:Nat}{s:Rs}(hn:1≤n)(h:f s=none):zb8 f n s=none:=by
 obtain⟨n,rfl⟩:∃k,n=k+1:=⟨n-1,by omega⟩
 rw[zb8,h]
 rfl
theorem zgF{α:Type}{f:Rs→Option (α × Rs)}{n:Nat}{s s':Rs}{a:α}(hn:1≤n)(h:f s=some (a,s')):zb8 f n s=(zb8 f (n-1) s').map fun q=>(a::q.1,q.2):=by
 obtain⟨n,rfl⟩:∃k,n=k+1:=⟨n-1,by omega⟩
 rw[zb8,h]
 rfl
def TyR(base:Nat)(β:Option Nat)(x:Nat)(N:Int)(s1:Rs)(σ:AS)(a:Nat→AV)(τ:AS):Prop:=∃(i:Nat) (done:List Int) (s:Rs),(i:Int)≤max N 0∧zb8 (zdD false) N.toNat s1=(zb8 (zdD false) (N.toNat-i) s).map (fun q=>(done++q.1,q.2))∧s.b.length+done.length≤s1.b.length∧a 0=.ptr x 0∧a 4=.int .i64 N∧a 5=.int .i64 (i:Int)∧zbr σ x 1 τ (a 2) (done.map (.int .i64))∧Rdr base β x s τ∧zK x σ τ
theorem zrz{base β x}{N:Int}{s1:Rs}(hN:N<2^63)(hb1:s1.b.length≤2^38)(hbase:base≤σ.nf)(hnone:zb8 (zdD false) N.toNat s1=none→zaK R x σ)(fin:∀l s',zb8 (zdD false) N.toNat s1=some (l,s')→∀a τ,zbr σ x 1 τ (a 2) (l.map (.int .i64))→Rdr base β x s' τ→zK x σ τ→avc yb9 G 18 zgo (zba yb9 [.tmp 2] R) a τ)
  {a:Nat→AV} {τ:AS} (hI:TyR base β x N s1 σ a τ):avc yb9 G 18 zic (z7 (fun a' σ'=>TyR base β x N s1 σ a' σ'∧MU 5 (N.toNat+1) a' σ'<MU 5 (N.toNat+1) a τ) (z8 0 (z7 (avc yb9 G 18 zgo (zba yb9 [.tmp 2] R)) (zba yb9 [.tmp 2] R)))) a τ:=by
 obtain⟨i,done,s,hi,he,hlen,a0,a4,a5,hG,hR,hK⟩:=hI
 have g1:=hG.one
 by_cases hlt:(i:Int)<N
 ·have w1:yb4 .i64 ((i:Int)+1)=((i+1:Nat):Int):=by rw[zc]<;>omega
  simp[zic,a0,a4,a5,hlt,g1]
  refine zbx hR (fun q=>?_) (fun c s' q v σ1 hv hr1 hk1=>?_)
  ·refine zaK.mono (hnone ?_) hK.r
   rw[he,zcV (by omega) (by unfold zdD;rw[q];rfl)]
   rfl
  ·obtain⟨φ,hφ,rfl⟩:=hv
   have hrd:=zry hr1 hφ
   obtain⟨q1,q2,q3⟩:=zm q
   have w2:yb4 .i64 (c.toNat:Int)=(c.toNat:Int):=by have:=c.toNat_lt;rw[zc]<;>omega
   have w3:yb4 .i64 (128-(c.toNat:Int))=128-(c.toNat:Int):=by have:=c.toNat_lt;rw[zc]<;>omega
   have hK1:=hK.trans hk1
   rw[q1]at hlen
   simp only[yac]at hlen
   simp[hrd,w2,w3,g1]
   refine zqw (hG.keep hk1.r) hr1 hK1.r hbase (by simp) (by simp;omega) fun v' τ' e1 e2 e3 e4 e5 e6=>?_
   simp[a5,w1]
   refine⟨⟨i+1,done++[128-(c.toNat:Int)],s',by omega,?_,by simp;omega,by simp[a0],by simp[a4],by simp,by simpa using e1,e2,e6 hK1⟩,?_⟩
   ·rw[he,zgF (s':=s') (a:=128-(c.toNat:Int)) (by omega) (by unfold zdD;rw[q];simp)]
    have:N.toNat-i-1=N.toNat-(i+1):=by omega
    rw[this]
    cases zb8 (zdD false) (N.toNat-(i+1)) s' with
    | none=>rfl
    | some p=>simp
   ·simp only[MU,a5];simp;omega
 ·simp[zic,a4,a5,hlt]
  have hz:N.toNat-i=0:=by omega
  rw[hz]at he
  simp only[zb8,yaG,yb7]at he
  exact fin _ _ he _ _ (by simpa using hG) hR hK
theorem Rdr.mrg{base β x s τ}(h:Rdr base β x s τ){g:Nat}(hg:base≤g)(hu:¬zaj τ x g):Rdr base β x s (τ.mrg g fun _=>false):=by
 obtain⟨bv,lv,ho,hv,hl⟩:=h.cells
 have hb:=h.hb
 refine⟨h.hx,hb,?_,fun f hf=>?_,bv,lv,by simpa [AS.mrg]using ho,hv,?_⟩
 ·have:¬0=g:=by omega
  simp[AS.mrg,zg8,this,h.h0]
 ·obtain⟨h1,h2⟩:=h.hβ f hf
  have:¬f=g:=by omega
  exact⟨h1,by simp[AS.mrg,zg8,this,h2]⟩
 ·rcases hl with h1|⟨f,tos,h1,h2,h3,h4,h5⟩
  ·exact .inl h1
  ·have:¬f=g:=fun e=>hu ⟨_,_,ho,rfl,by rw[h1,←e];rfl⟩
   exact .inr ⟨f,tos,h1,h2,h3,by simp[AS.mrg,zg8,this,h4],h5⟩
theorem zfI{base β x s}(h:Rdr base β x s σ)(hb1:s.b.length≤2^38)(hn:zek false s=none→zaK R x σ)(hs:∀l s',zek false s=some (l,s')→∀v σ',Al.IntsE v l→Rdr base β x s' σ'→zK x σ σ'→R (.ret v) σ'):zzQ G 150 [.ptr x 0] σ R:=by
 refine Al.merging (zvD rfl ?_)
 simp[zEH]
 refine zw h (fun q=>?_) (fun N s1 q σ1 hr1 hk1=>?_)
 ·intro e σ' h1 h2
  exact .inl (hn (by unfold zek;rw[q];rfl) e σ' h1 h2)
 ·obtain⟨⟨xx,_,hxx⟩,_,_,n1,n2,_⟩:=zu q
  have hsl:=zaO hxx
  have hsplit:∀l s',zb8 (zdD false) N.toNat s1=some (l,s')→zek false s=some (l,s'):=fun l s' e=>by
   unfold zek
   rw[q]
   exact e
  simp
  refine zH (TyR base β x N s1 σ1) (MU 5 (N.toNat+1)) ⟨0,[],s1,by omega,by cases hh:zb8 (zdD false) N.toNat s1<;>simp[hh],by simp,by simp,by simp,by simp,.inl ⟨rfl,by simp⟩,hr1,.refl hr1.cells.choose_spec.choose_spec.1⟩ fun a τ hI=>?_
  refine zrz n2 (by omega) hr1.hb.2 (fun q2=>?_) (fun l s' q2 a τ hG hR hK=>?_) hI
  ·intro e σ' h1 h2
   refine .inl (hn ?_ e σ' h1 (hk1.r.trans h2))
   unfold zek
   rw[q]
   exact q2
  ·have g1:=hG.one
   have he:=hsplit l s' q2
   have hK':=hk1.trans hK
   rcases hG with ⟨h1,h2⟩|⟨g,h1,h2,h3,h4,h5⟩
   ·have hl:l=[]:=by simpa using h1
    subst hl
    simp[zgo,h2]
    exact .inl (hs _ _ he _ _ (.inl ⟨rfl,.inl rfl⟩) hR hK')
   ·have hb:=hr1.hb.2
    have hnf:=hk1.nf
    have:=hs _ _ he (.sl (.fam 0 false) 1 (l.map (.int .i64))) (τ.mrg g fun _=>false) (.inr ⟨_,rfl⟩) (hR.mrg (by omega) h5) (hK'.mrg (by omega))
    simp[zgo,h1]
    refine Al.MrgOr.merged g (fun _=>false) (by omega) h4 ?_
    simpa [Function.comp_def]using this
end
theorem zGZ(l:List UInt8)(c:UInt8):Lib.indexByte l c=match l.findIdx? (·==c)with|some i=>(i:Int)|none=>-1:=by
 induction l with
 | nil=>rfl
 | cons b l ih =>
  rw[Lib.indexByte,ih,ydf]
  by_cases h:(b==c)=true
  ·simp[h]
  ·simp only[h,if_false,Bool.false_eq_true]
   cases hq:l.findIdx? (·==c)with
   | none=>simp
   | some i =>
    have:¬((i:Int)==-1)=true:=by simp
    simp[this]
theorem zwK{l T:List (UInt8 × W)}(hp:l.Perm T)(hT:∀p∈T,zb2 T p.1=some p.2)(c:UInt8):zb2 l c=zb2 T c:=by
 unfold zb2
 cases h:l.find? (fun p=>p.1==c)with
 | none =>
  have h1:=ycK.1 h
  have:T.find? (fun p=>p.1==c)=none:=ycK.2 fun p hp'=>h1 p (hp.mem_iff.2 hp')
  rw[this]
 | some p =>
  have h1:=ycZ h
  have h2:=hp.mem_iff.1 (yc0 h)
  simp only[beq_iff_eq]at h1
  have h3:=hT p h2
  unfold zb2 at h3
  rw[h1]at h3
  rw[h3]
  rfl
theorem zkN(c:UInt8):∀(l:List (UInt8 × W)) (i:Nat),zjZ (.int .u8 (c.toNat:Int)) (zbd l) i=some ((l.findIdx? (fun p=>p.1==c)).map (·+i))
 | [],i=>rfl
 | p::l,i=>by
  have e:zbd (p::l)=.int .u8 (p.1.toNat:Int)::zbd l:=rfl
  rw[e,zjZ,ydf]
  have hs:zhY (.int .u8 (c.toNat:Int)) (.int .u8 (p.1.toNat:Int))=some (p.1==c):=by
   simp only[zhY,if_true,yaR.injEq]
   by_cases h:p.1=c
   ·simp[h]
   ·have h':¬(c.toNat:Int)=(p.1.toNat:Int):=fun e=>h (UInt8.toNat_inj.1 (by omega))
    rw[beq_eq_false_iff_ne.2 h,beq_eq_false_iff_ne.2 h']
  rw[hs]
  cases h:(p.1==c)with
  | true=>simp
  | false =>
   simp only[Bool.false_eq_true,if_false]
   rw[zkN c l (i+1)]
   cases l.findIdx? (fun p=>p.1==c)with
   | none=>rfl
   | some j=>simp;omega
theorem zG0:zP yb9 53=some (.agg [.int .i64 0,.int .i64 0,.int .i64 0,.int .i64 0,.int .i64 0,.str []]):=by kernel_rfl
theorem zG1:yb9.underlying 184=some (.map 5 53):=by kernel_rfl
theorem zG2(n:Int):zey yb9 5 (.int .u8 n)=true:=by
 have:yb9.underlying 5=some (.int .u8):=by kernel_rfl
 simp[zey,this]
theorem znG{l T:List (UInt8 × W)}(hp:l.Perm T)(hT:∀p∈T,zb2 T p.1=some p.2)(c:UInt8)(K:AV→Prop):za8 yb9 184 (.mp (zbd l) (zbS l)) (.int .u8 (c.toNat:Int)) true K=(match zb2 T c with
  | some w=>K (.tuple [w.av,.bool true])
  | none=>K (.tuple [.agg [.int .i64 0,.int .i64 0,.int .i64 0,.int .i64 0,.int .i64 0,.str []],.bool false])):=by
 rw[←zwK hp hT c]
 unfold za8
 rw[zG1]
 simp only[zG2,true_and,zkN,yaR.injEq,if_true,exists_eq_left']
 unfold zb2
 cases h:l.findIdx? (fun p=>p.1==c)with
 | none =>
  have:l.find? (fun p=>p.1==c)=none:=by
   rw[List.findIdx?_eq_none_iff]at h
   exact ycK.2 fun p hp=>by simp[h p hp]
  rw[this]
  simp[zG0]
 | some i =>
  rw[ycL]at h
  obtain⟨hi,h1,h2⟩:=h
  have:l.find? (fun p=>p.1==c)=some l[i]:=by
   rw[List.find?_eq_some_iff_getElem]
   exact⟨h1,i,hi,rfl,fun j hj=>by simpa using h2 j hj⟩
  rw[this]
  simp[zbS,hi]
section
variable {G : Env} {σ : AS} {R : Out → AS → Prop}
theorem zeY{s:List UInt8}{c:UInt8}(h:R (.ret (.int .i64 (match s.findIdx? (·==c)with|some i=>(i:Int)|none=>-1))) σ):zzQ G 227 [.str s,.int .u8 (c.toNat:Int)] σ R:=by
 refine ACalls.of_below fun M w cargs S g hc=>?_
 obtain⟨c0,e0,v0⟩:=hc.2 0 _ rfl
 obtain⟨c1,e1,v1⟩:=hc.2 1 _ rfl
 obtain⟨b0,rfl,rfl⟩:=v0.str_inv
 have:c1=.int .u8 (c.toNat:Int):=by cases v1;rfl
 subst this
 have hcargs:cargs=#[.string b0,.int .u8 (c.toNat:Int)]:=by
  have hsz:cargs.size=2:=hc.1
  apply Array.ext
  ·simpa using hsz
  ·intro i h1 h2
   match i,h1 with
   | 0,_=>simpa using (yaU.1 e0).2
   | 1,_=>simpa using (yaU.1 e1).2
   | i+2,h=>omega
 rw[hcargs]
 refine(Tryz.strings_IndexByte b0 (c.toNat:Int) w).mono fun e w' ⟨he,hw⟩=>?_
 subst he hw
 have hcc:(c.toNat:Int).toNat.toUInt8=c:=by simp
 rw[hcc,zGZ]
 exact⟨⟨.int .i64 _,_,rfl,fun M F w=>.int _ _,h⟩,rfl,rfl,rfl,yah _,fun _ _=>rfl⟩
end
theorem Rdr.setO{base β x s σ o cs}(h:Rdr base β x s σ)(ho:o≠x):Rdr base β x s (σ.setO o cs):=by
 obtain⟨bv,lv,hox,hv,hl⟩:=h.cells
 refine⟨h.hx,h.hb,h.h0,h.hβ,bv,lv,?_,hv,?_⟩
 ·have:¬x=o:=fun e=>ho e.symm
  simp[this,hox]
 ·rcases hl with h1|⟨g,tos,h1,h2,h3,h4,h5⟩
  ·exact .inl h1
  ·exact .inr ⟨g,tos,h1,h2,h3,h4,h5⟩
theorem zM.setO{x σ τ o cs}(K:zM x σ τ)(ho:σ.no≤o)(hox:o≠x):zM x σ (τ.setO o cs) where
 no:=K.no
 nf:=K.nf
 obj p a b:=by
  have:¬p=o:=by omega
  simp[this]
  exact K.obj p a b
 fam f a b:=K.fam f a b
 use f a u:=K.use f a (by
  obtain⟨cs',v,h1,h2,h3⟩:=u
  have:¬x=o:=fun e=>hox e.symm
  simp[this]at h1
  exact⟨cs',v,h1,h2,h3⟩)
abbrev zW:List AV:=[.int .i64 0,.int .i64 0,.int .i64 0,.int .i64 0,.int .i64 0,.str []]
def zpn(G:Env)(base:Nat)(β:Option Nat)(x k:Nat):Prop:=∀(σ:AS) (R:Out→AS→Prop) (s:Rs) (d:Nat),Rdr base β x s σ→s.b.length<k→s.ls.length+s.b.length≤2^38→d≤400→(zX false k d [] s=none→zaK R x σ) →
 (∀n e s',zX false k d [] s=some ((n,e),s')→∀σ',Rdr base β x s' σ'→zM x σ σ'→R (.ret (.tuple [.int .i64 n,.int .u8 (e.toNat:Int)])) σ')→zzQ G 152 [.ptr x 0,.int .i64 (d:Int)] σ R
section
variable {G : Env} {σ : AS} {R : Out → AS → Prop}
def FtI(c:UInt8)(o:Nat)(σ3:AS)(a:Nat→AV)(τ:AS):Prop:=∃i:Nat,i≤2∧a 1=.int .u8 (c.toNat:Int)∧a 6=.ptr o 0∧a 86=.agg [.str zpd,.str zpe]∧a 87=.int .i64 (i:Int)∧τ=σ3∧(1≤i→zpd.findIdx? (·==c)=none)∧(2≤i→zpe.findIdx? (·==c)=none)
theorem ztD(V:zd2 G){c:UInt8}{o:Nat}{σ3:AS}(ho:o<σ3.no)(hoo:σ3.objs o=some zW)(hn:zhj c=none→∀σ',σ'=σ3→R (.panic (zDa 2)) σ')(hs:∀w,zhj c=some w→∀σ',zd σ3 σ'→R (.ret w.av) (σ'.setO o w.cs)){a:Nat→AV}{τ:AS}(hI:FtI c o σ3 a τ):
  avc yb9 G 105 zfb (z7 (fun a' σ'=>FtI c o σ3 a' σ'∧MU 87 3 a' σ'<MU 87 3 a τ) (z8 0 (z7 (avc yb9 G 105 zid (zba yb9 [.cell 6 53] R)) (zba yb9 [.cell 6 53] R)))) a τ:=by
 obtain⟨i,hi,a1,a6,a86,a87,rfl,f1,f2⟩:=hI
 have hl:zaf.length=16:=rfl
 have hit:∀(tab:List UInt8) (ty:Int) (j:Nat),tab.findIdx? (·==c)=some j→tab.length=16→j<16:=fun tab ty j h ht=>by
  rw[ycL]at h
  obtain⟨h,_⟩:=h
  omega
 rcases i with _|_|_|i
 ·simp[zfb,a1,a6,a86,a87]
  refine zeY ?_
  cases hf:zpd.findIdx? (·==c)with
  | none =>
   simp[a87]
   refine⟨⟨1,by omega,by simp[a1],by simp[a6],by simp[a86],by simp;rfl,rfl,fun _=>hf,fun h=>by omega⟩,?_⟩
   have w1:yb4 .i64 1=1:=rfl
   simp only[MU,a87];simp[w1]
  | some j =>
   have hj:=hit zpd 1 j hf rfl
   have hg:=yau (show j<zaf.length by omega)
   have hsp:zhj c=some (znt 1 j):=by unfold zhj;rw[hf]
   have hj0:0≤(j:Int):=by omega
   simp[hj0]
   refine fields_calls V.space fun x σ' A h1 h2 h3=>?_
   have w1:yb4 .i64 1=1:=rfl
   have o1:=(A.obj o ho).trans hoo
   generalize hnm:zaf[j]=nm at *
   simp[h3,hg,w1,a6,o1,splice]
   refine⟨by omega,?_⟩
   have:=hs _ hsp σ' A
   simpa [znt,W.av,W.cs,hg]using this
 ·have f1:=f1 (by omega)
  simp only[ycX,Int.natCast_one]at a87
  simp[zfb,a1,a6,a86,a87]
  refine zeY ?_
  cases hf:zpe.findIdx? (·==c)with
  | none =>
   simp[a87]
   refine⟨⟨2,by omega,by simp[a1],by simp[a6],by simp[a86],by simp;rfl,rfl,fun _=>f1,fun _=>hf⟩,?_⟩
   have w1:yb4 .i64 2=2:=rfl
   simp only[MU,a87];simp[w1]
  | some j =>
   have hj:=hit zpe 2 j hf rfl
   have hg:=yau (show j<zaf.length by omega)
   have hsp:zhj c=some (znt 2 j):=by unfold zhj;rw[f1,hf]
   have hj0:0≤(j:Int):=by omega
   simp[hj0]
   refine fields_calls V.space fun x σ' A h1 h2 h3=>?_
   have w1:yb4 .i64 2=2:=rfl
   have o1:=(A.obj o ho).trans hoo
   generalize hnm:zaf[j]=nm at *
   simp[h3,hg,w1,a6,o1,splice]
   refine⟨by omega,?_⟩
   have:=hs _ hsp σ' A
   simpa [znt,W.av,W.cs,hg]using this
 ·have f1:=f1 (by omega)
  have f2:=f2 (by omega)
  have hsp:zhj c=none:=by unfold zhj;rw[f1,f2]
  simp only[ycX,Nat.reduceAdd]at a87
  simp[zfb,zid,a87]
  exact hn hsp _ rfl
 ·omega
theorem zpo(V:zd2 G){base β x s}{k d:Nat}{c:UInt8}(h:Rdr base β x s σ)(hd:d≤400)(IH:zpn G base β x k)(hk:s.b.length≤k)(hz:s.ls.length+s.b.length≤2^38)(hn:zbk false (fun d s=>zX false k d [] s) d c s=none→zaK R x σ)
  (hs:∀w s',zbk false (fun d s=>zX false k d [] s) d c s=some (w,s')→∀σ',Rdr base β x s' σ'→zM x σ σ'→R (.ret w.av) σ'):zzQ G 189 [.ptr x 0,.int .u8 (c.toNat:Int),.int .i64 (d:Int)] σ R:=by
 obtain⟨ln,hln,vn⟩:=V.nums
 obtain⟨lp,hlp,vp⟩:=V.plain
 have v0:=V.bytes
 have hx:=h.hx
 have lkn:=fun c K=>znG hln (fun p hp=>(zgB p hp).1) c K
 have lkp:=fun c K=>znG hlp (fun p hp=>(zjf p hp).2.1) c K
 refine zv0 rfl ?_
 have hc2:((2:Int)≤(c.toNat:Int))=(2≤c.toNat):=by simp;omega
 have hc4:((c.toNat:Int)≤4)=(c.toNat≤4):=by simp;omega
 by_cases hc:2≤c.toNat∧c.toNat≤4
 ·have h2:(2:Int)≤(c.toNat:Int):=by omega
  have h4:(c.toNat:Int)≤4:=by omega
  have hin:zbk false (fun d s=>zX false k d [] s) d c s=if d<400 then zb3 (fun d s=>zX false k d [] s) d c s else none:=by
   unfold zbk
   rw[if_pos hc]
  rw[hin]at hn
  simp only[hin]at hs
  have A1:zd σ (σ.newO zW):=(zd.refl σ).newO
  have hA1n:(σ.newO zW).no=σ.no+1:=by simp
  have hox:¬x=σ.no:=by omega
  have hox':¬σ.no=x:=by omega
  by_cases hd2:d<400
  ·have hd2':(d:Int)<400:=by omega
   rw[if_pos hd2]at hn
   simp only[hd2,if_true]at hs
   simp[zha,h2,h4,hd2']
   refine zy (fun _=>?_) (fun q=>by cases q)
   simp
   refine zju (h.adds A1) (fun q=>?_) (fun c1 s2 q v σ2 hv hr2 hk2=>?_)
   ·exact zaK.mono (hn (by unfold zb3;rw[q];rfl)) (A1.keepR hx)
   ·obtain⟨q1,q2,q3⟩:=zm q
    have K2:=(A1.keepR hx).trans hk2
    have m2:=hk2.no
    simp at m2
    have o2:=hk2.obj σ.no (by simp) hox'
    have w1:yb4 .i64 (c.toNat:Int)=(c.toNat:Int):=by rw[zc]<;>omega
    have w2:yb4 .i64 (11+(c.toNat:Int))=11+(c.toNat:Int):=by rw[zc]<;>omega
    have w3:yb4 .i64 (11+(c.toNat:Int)-2)=(c.toNat:Int)+9:=by rw[zc]<;>omega
    have w4:yb4 .i64 ((d:Int)+1)=((d+1:Nat):Int):=by rw[zc]<;>omega
    have A3:zd σ2 ((σ2.newO zW).setO σ2.no [.int .i64 ((c.toNat:Int)+9),.int .i64 0,.int .i64 0,.int .i64 0,.int .i64 0,.str []]):=.mk1
    have hx2:=hr2.hx
    have hr3:=hr2.adds A3
    have K3:=K2.trans (A3.keepR hx2)
    rw[q1]at hk hz
    simp only[yac]at hk hz
    simp at o2 hA1n
    have hox2:¬x=σ2.no:=by omega
    have hox2':¬σ2.no=x:=by omega
    have hne:¬σ.no=σ2.no:=by omega
    have hne':¬σ2.no=σ.no:=by omega
    have o3:((σ2.newO zW).setO σ2.no [.int .i64 ((c.toNat:Int)+9),.int .i64 0,.int .i64 0,.int .i64 0,.int .i64 0,.str []]).objs σ.no=some zW:=by simp[hne,o2]
    have o3':((σ2.newO zW).setO σ2.no [.int .i64 ((c.toNat:Int)+9),.int .i64 0,.int .i64 0,.int .i64 0,.int .i64 0,.str []]).objs σ2.no=some [.int .i64 ((c.toNat:Int)+9),.int .i64 0,.int .i64 0,.int .i64 0,.int .i64 0,.str []]:=by simp
    have n3:((σ2.newO zW).setO σ2.no [.int .i64 ((c.toNat:Int)+9),.int .i64 0,.int .i64 0,.int .i64 0,.int .i64 0,.str []]).no=σ2.no+1:=by simp
    simp[w1,w2,w3,w4,splice]
    generalize hσ3:(σ2.newO zW).setO σ2.no [.int .i64 ((c.toNat:Int)+9),.int .i64 0,.int .i64 0,.int .i64 0,.int .i64 0,.str []]=σ3 at *
    have wi:∀q5,zX false k (d+1) [] s2=q5→zb3 (fun d s=>zX false k d [] s) d c s=q5.bind fun q =>
      if c.toNat=4 then
       if q.1.2=5 then(zX false k (d+1) [] q.2).map fun r=>(zcg 13 q.1.1 r.1.1,r.2)else some (zcg 13 q.1.1 (-1),q.2)
      else some (zcg ((c.toNat:Int)+9) q.1.1 0,q.2):=fun q5 e=>by
     unfold zb3
     rw[q]
     simp only[ycY]
     rw[e]
    refine IH σ3 _ s2 (d+1) hr3 (by omega) (by rw[q2];omega) (by omega) (fun q5=>?_) (fun n e s4 q5 σ4 hr4 hk4=>?_)
    ·exact zaK.mono (hn (by rw[wi _ q5];rfl)) K3
    ·have hw:=wi _ q5
     simp only[ycY]at hw
     obtain⟨i1,i2,i3,_,i5,⟨xx,hxx0,i6⟩,_⟩:=zaa _ _ _ _ _ _ _ _ q5
     have i7:=zaO i6
     have i8:s4.b.length<s2.b.length:=by
      rw[i6]
      have:=List.length_pos_iff.2 hxx0
      simp
      omega
     have isz:=(zb5 _ _ _ _ _ _ _ _ q5).1
     rw[q2]at isz
     have K4:=K3.trans hk4
     have m4:=hk4.no
     rw[n3]at m4
     have o4:=(hk4.obj σ.no (by omega) hox').trans o3
     have o4':=(hk4.obj σ2.no (by omega) hox2').trans o3'
     by_cases hc4':c.toNat=4
     ·have hc4i:(c.toNat:Int)=4:=by omega
      rw[if_pos hc4']at hw
      simp[o4,o4',splice,hc4i]
      by_cases he5:e=5
      ·subst he5
       simp only[if_true]at hw
       have h5:(UInt8.toNat 5:Int)=5:=rfl
       simp[hne,hne',o4,o4',splice,w4]
       have hr4a:Rdr base β x s4 ((σ4.setO σ2.no [.int .i64 13,.int .i64 0,.int .i64 0,.int .i64 n,.int .i64 0,.str []]).setO σ2.no [.int .i64 13,.int .i64 0,.int .i64 0,.int .i64 n,.int .i64 (-1),.str []]):=(hr4.setO hox2').setO hox2'
       have K4a:zM x σ ((σ4.setO σ2.no [.int .i64 13,.int .i64 0,.int .i64 0,.int .i64 n,.int .i64 0,.str []]).setO σ2.no [.int .i64 13,.int .i64 0,.int .i64 0,.int .i64 n,.int .i64 (-1),.str []]):=(K4.setO (by omega) hox2').setO (by omega) hox2'
       refine IH _ _ s4 (d+1) hr4a (by omega) (by omega) (by omega) (fun q6=>?_) (fun n2 e2 s6 q6 σ6 hr6 hk6=>?_)
       ·exact zaK.mono (hn (by rw[hw,q6];rfl)) K4a
       ·rw[q6]at hw
        simp only[yaG]at hw
        have o6:=(hk6.obj σ.no (by simp;omega) hox').trans (show _=some zW by simp[hne,o4])
        have o6':=(hk6.obj σ2.no (by simp;omega) hox2').trans (show _=some [.int .i64 13,.int .i64 0,.int .i64 0,.int .i64 n,.int .i64 (-1),.str []]by simp)
        simp[hne,hne',o6,o6',splice]
        refine hs _ s6 hw _ ((hr6.setO hox2').setO hox') (((K4a.trans hk6).setO (by omega) hox2').setO (by omega) hox')
      ·rw[if_neg he5]at hw
       have h5:¬(e.toNat:Int)=5:=fun q=>he5 (UInt8.toNat_inj.1 (show e.toNat=(5:UInt8).toNat by have:(5:UInt8).toNat=5:=rfl;omega))
       simp[hne,hne',o4,o4',splice,w4,h5]
       exact hs _ s4 hw _ (((hr4.setO hox2').setO hox2').setO hox') (((K4.setO (by omega) hox2').setO (by omega) hox2').setO (by omega) hox')
     ·have hc4i:¬(c.toNat:Int)=4:=by omega
      rw[if_neg hc4']at hw
      simp[hne,hne',o4,o4',splice,hc4i]
      exact hs _ s4 hw _ ((hr4.setO hox2').setO hox') ((K4.setO (by omega) hox2').setO (by omega) hox')
  ·have hd2':¬(d:Int)<400:=by omega
   rw[if_neg hd2]at hn
   simp[zha,h2,h4,hd2']
   refine zy (fun q=>by cases q) (fun _=>?_)
   simp
   exact hn rfl _ _ (.inr (.inl rfl)) (A1.keepR hx)
 ·have hin:zbk false (fun d s=>zX false k d [] s) d c s=zgA false c s:=by
   unfold zbk
   rw[if_neg hc]
  rw[hin]at hn
  simp only[hin]at hs
  have hlf:zgA false c s=match zb2 zf8 c with
   | some w=>(zdq false (decide (w.op=1)) s).map fun p=>({ w with n:=p.1 },p.2)
   | none=>match zb2 zag c with
    | some w=>if w.op=8∨w.op=9 then(zcR 2 s).map fun p=>(w,p.2)else some (w,s)
    | none=>(zhj c).map fun w=>(w,s):=rfl
  have A1:zd σ (σ.newO zW):=(zd.refl σ).newO
  have A2:∀cs,zd σ (((σ.newO zW).newO zW).setO (σ.no+1) cs):=fun cs=>((zd.refl σ).newO.newO).setO (by omega)
  have hox:¬x=σ.no:=by omega
  have hox':¬σ.no=x:=by omega
  have hox1:¬x=σ.no+1:=by omega
  have hox1':¬σ.no+1=x:=by omega
  have hbr:(2≤(c.toNat:Int)∧(c.toNat:Int)≤4)=False:=by simp;omega
  have start:∀(Q:Prop),(¬(2:Int)≤(c.toNat:Int)→Q)→((2:Int)≤(c.toNat:Int)→¬(c.toNat:Int)≤4→Q)→Q:=fun Q f g=>by
   by_cases h2:(2:Int)≤(c.toNat:Int)
   ·exact g h2 (by omega)
   ·exact f h2
  cases hf:zb2 zf8 c with
  | some w =>
   rw[hf]at hlf
   simp only at hlf
   have lk:=fun K=>lkn c K
   simp only[hf]at lk
   obtain⟨_,_,_,_,_,_,_,_,_,hwn,hops⟩:=zgB _ (zdG hf)
   refine start _ (fun h2=>?_) (fun h2 h4=>?_)
   ·simp[zha,h2,vn,lk,W.av,W.cs,splice]
    refine zhM (h.adds (A2 _)) (fun q=>?_) (fun m s1 q σ1 hr1 hk1=>?_)
    ·exact zaK.mono (hn (by rw[hlf,q];rfl)) ((A2 _).keepR hx)
    ·rw[q]at hlf
     have m1:=hk1.no
     simp at m1
     have o1:=(hk1.obj σ.no (by simp;omega) hox').trans (show _=some zW by simp)
     have o1':=(hk1.obj (σ.no+1) (by simp) hox1').trans (show _=some w.cs by simp[W.cs])
     simp only[W.cs]at o1'
     simp[o1,o1',splice]
     exact hs _ s1 hlf _ ((hr1.setO hox1').setO hox') (((((A2 _).keepR hx).trans hk1).setO (by omega) hox1').setO (by omega) hox')
   ·simp[zha,h2,h4,vn,lk,W.av,W.cs,splice]
    refine zhM (h.adds (A2 _)) (fun q=>?_) (fun m s1 q σ1 hr1 hk1=>?_)
    ·exact zaK.mono (hn (by rw[hlf,q];rfl)) ((A2 _).keepR hx)
    ·rw[q]at hlf
     have m1:=hk1.no
     simp at m1
     have o1:=(hk1.obj σ.no (by simp;omega) hox').trans (show _=some zW by simp)
     have o1':=(hk1.obj (σ.no+1) (by simp) hox1').trans (show _=some w.cs by simp[W.cs])
     simp only[W.cs]at o1'
     simp[o1,o1',splice]
     exact hs _ s1 hlf _ ((hr1.setO hox1').setO hox') (((((A2 _).keepR hx).trans hk1).setO (by omega) hox1').setO (by omega) hox')
  | none =>
   rw[hf]at hlf
   simp only at hlf
   have lk:=fun K=>lkn c K
   simp only[hf]at lk
   have A3:∀cs,zd σ ((((σ.newO zW).newO zW).setO (σ.no+1) zW).newO zW |>.setO (σ.no+1+1) cs):=fun cs=>((((zd.refl σ).newO.newO).setO (by omega)).newO).setO (by omega)
   have hox2':¬σ.no+1+1=x:=by omega
   have hq:¬σ.no=σ.no+1+1:=by omega
   cases hp:zb2 zag c with
   | some w =>
    rw[hp]at hlf
    simp only at hlf
    have lk2:=fun K=>lkp c K
    simp only[hp]at lk2
    by_cases h89:w.op=8∨w.op=9
    ·rw[if_pos h89]at hlf
     rcases h89 with e8|e8
     ·refine start _ (fun h2=>?_) (fun h2 h4=>?_)
      ·simp[zha,h2,vn,lk,vp,lk2,W.av,W.cs,splice,e8]
       refine zfl (h.adds (A3 _)) (fun q=>?_) (fun p s1 q v σ1 hv hr1 hk1=>?_)
       ·exact zaK.mono (hn (by rw[hlf,q];rfl)) ((A3 _).keepR hx)
       ·rw[q]at hlf
        have m1:=hk1.no
        simp at m1
        have o1:=(hk1.obj σ.no (by simp;omega) hox').trans (show _=some zW by simp;omega)
        have o1':=(hk1.obj (σ.no+1+1) (by simp) hox2').trans (show _=some w.cs by simp[W.cs,e8])
        simp only[W.cs,e8]at o1'
        simp[o1,o1',splice]
        have:=hs w s1 hlf (σ1.setO σ.no w.cs) (hr1.setO hox') ((((A3 _).keepR hx).trans hk1).setO (by omega) hox')
        simpa [W.av,W.cs,e8]using this
      ·simp[zha,h2,h4,vn,lk,vp,lk2,W.av,W.cs,splice,e8]
       refine zfl (h.adds (A3 _)) (fun q=>?_) (fun p s1 q v σ1 hv hr1 hk1=>?_)
       ·exact zaK.mono (hn (by rw[hlf,q];rfl)) ((A3 _).keepR hx)
       ·rw[q]at hlf
        have m1:=hk1.no
        simp at m1
        have o1:=(hk1.obj σ.no (by simp;omega) hox').trans (show _=some zW by simp;omega)
        have o1':=(hk1.obj (σ.no+1+1) (by simp) hox2').trans (show _=some w.cs by simp[W.cs,e8])
        simp only[W.cs,e8]at o1'
        simp[o1,o1',splice]
        have:=hs w s1 hlf (σ1.setO σ.no w.cs) (hr1.setO hox') ((((A3 _).keepR hx).trans hk1).setO (by omega) hox')
        simpa [W.av,W.cs,e8]using this
     ·refine start _ (fun h2=>?_) (fun h2 h4=>?_)
      ·simp[zha,h2,vn,lk,vp,lk2,W.av,W.cs,splice,e8]
       refine zfl (h.adds (A3 _)) (fun q=>?_) (fun p s1 q v σ1 hv hr1 hk1=>?_)
       ·exact zaK.mono (hn (by rw[hlf,q];rfl)) ((A3 _).keepR hx)
       ·rw[q]at hlf
        have m1:=hk1.no
        simp at m1
        have o1:=(hk1.obj σ.no (by simp;omega) hox').trans (show _=some zW by simp;omega)
        have o1':=(hk1.obj (σ.no+1+1) (by simp) hox2').trans (show _=some w.cs by simp[W.cs,e8])
        simp only[W.cs,e8]at o1'
        simp[o1,o1',splice]
        have:=hs w s1 hlf (σ1.setO σ.no w.cs) (hr1.setO hox') ((((A3 _).keepR hx).trans hk1).setO (by omega) hox')
        simpa [W.av,W.cs,e8]using this
      ·simp[zha,h2,h4,vn,lk,vp,lk2,W.av,W.cs,splice,e8]
       refine zfl (h.adds (A3 _)) (fun q=>?_) (fun p s1 q v σ1 hv hr1 hk1=>?_)
       ·exact zaK.mono (hn (by rw[hlf,q];rfl)) ((A3 _).keepR hx)
       ·rw[q]at hlf
        have m1:=hk1.no
        simp at m1
        have o1:=(hk1.obj σ.no (by simp;omega) hox').trans (show _=some zW by simp;omega)
        have o1':=(hk1.obj (σ.no+1+1) (by simp) hox2').trans (show _=some w.cs by simp[W.cs,e8])
        simp only[W.cs,e8]at o1'
        simp[o1,o1',splice]
        have:=hs w s1 hlf (σ1.setO σ.no w.cs) (hr1.setO hox') ((((A3 _).keepR hx).trans hk1).setO (by omega) hox')
        simpa [W.av,W.cs,e8]using this
    ·rw[if_neg h89]at hlf
     simp only[not_or]at h89
     obtain⟨e8,e9⟩:=h89
     refine start _ (fun h2=>?_) (fun h2 h4=>?_)
     ·simp[zha,h2,vn,lk,vp,lk2,W.av,W.cs,splice,e8,e9,hq]
      exact hs _ s hlf _ ((h.adds (A3 _)).setO hox') (((A3 _).keepR hx).setO (by omega) hox')
     ·simp[zha,h2,h4,vn,lk,vp,lk2,W.av,W.cs,splice,e8,e9,hq]
      exact hs _ s hlf _ ((h.adds (A3 _)).setO hox') (((A3 _).keepR hx).setO (by omega) hox')
   | none =>
    rw[hp]at hlf
    simp only at hlf
    have lk2:=fun K=>lkp c K
    simp only[hp]at lk2
    have hq1:¬σ.no=σ.no+1:=by omega
    have go:∀a,a 1=.int .u8 (c.toNat:Int)→a 6=.ptr σ.no 0→a 86=.agg [.str zpd,.str zpe]→a 87=.int .i64 0 →
      zj4 yb9 G 105 zfb (z8 0 (z7 (avc yb9 G 105 zid (zba yb9 [.cell 6 53] R)) (zba yb9 [.cell 6 53] R))) a (((((σ.newO zW).newO zW).setO (σ.no+1) zW).newO zW).setO (σ.no+1+1) zW):=fun a e1 e6 e86 e87=>by
     refine zH (FtI c σ.no _) (MU 87 3) ⟨0,by omega,e1,e6,e86,by simpa using e87,rfl,fun h=>by omega,fun h=>by omega⟩ fun b τ hI=>?_
     refine ztD V (by simp;omega) (by simp[hq,hq1]) (fun q σ' e=>?_) (fun w q σ' A=>?_) hI
     ·subst e
      exact hn (by rw[hlf,q];rfl) _ _ (.inl rfl) ((A3 _).keepR hx)
     ·have AA:=(A3 zW).trans A
      have:=AA.no
      exact hs w s (by rw[hlf,q];rfl) _ ((h.adds AA).setO hox') ((AA.keepR hx).setO (by omega) hox')
    refine start _ (fun h2=>?_) (fun h2 h4=>?_)
    ·simp[zha,h2,vn,lk,vp,lk2,v0,splice]
     exact go _ (by simp) (by simp) (by simp) (by simp)
    ·simp[zha,h2,h4,vn,lk,vp,lk2,v0,splice]
     exact go _ (by simp) (by simp) (by simp) (by simp)
theorem Rdr.push{base β x s τ bv g tos lv l}(h:Rdr base β x s τ)(hv:BV β bv s.b)(ht:All2 Al.RepE tos s.ls)(hG:zbr σ x 6 τ lv (l.map W.av))(hσ:base≤σ.nf){τ':AS}(e1:τ'.objs=upd τ.objs x (some [bv,.sl (.fam τ.nf false) 1 (tos++[lv]),.int .i64 (s.n:Int)]))(e2:τ'.no=τ.no)(e3:τ'.nf=τ.nf+1)(e4:τ'.F τ.nf=.alive)
  (e5:∀f,f<τ.nf→¬zaj τ x f→τ'.F f=τ.F f) (K:zM x σ τ) (hg:∀f,zaj τ x f→f=g) {v:AV} (hmv:∀f,Go.Abs.mrg f v=v) (hR:∀σ',Rdr base β x { s with ls:=s.ls++[l] } σ'→zM x σ σ'→R (.ret v) σ'):Al.MrgOr R (.ret v) τ':=by
 have hb:=h.hb
 have hn:=K.nf
 have base0:∀σ':AS,σ'.no=τ.no→σ'.nf=τ.nf+1→(∀o,o≠x→σ'.objs o=τ.objs o)→(∃bv' tos',σ'.objs x=some [bv',.sl (.fam τ.nf false) 1 tos',.int .i64 (s.n:Int)]∧BV β bv' s.b∧All2 Al.RepE tos' (s.ls++[l]))→σ'.F τ.nf=.alive →
   (∀f,f<τ.nf→¬zaj τ x f→f<σ.nf∨f<base→σ'.F f=τ.F f)→R (.ret v) σ':=by
  intro σ' a1 a2 a3 ⟨bv',tos',a4,a5,a6⟩ a7 a8
  have nb:∀f,f<base→¬zaj τ x f:=fun f hf=>h.uses hf
  refine hR σ' ⟨by rw[a1];exact h.hx,⟨hb.1,by omega⟩,?_,fun f hf=>?_,bv',_,a4,a5,.inr ⟨τ.nf,tos',rfl,hb.2,by omega,a7,a6⟩⟩ ⟨by rw[a1];exact K.no,by omega,fun o h1 h2=>(a3 o h2).trans (K.obj o h1 h2),fun f h1 h2=>?_,fun f h1 h2=>?_⟩
  ·rw[a8 0 (by omega) (nb 0 hb.1) (.inr hb.1)];exact h.h0
  ·obtain⟨h1,h2⟩:=h.hβ f hf
   exact⟨h1,by rw[a8 f (by omega) (nb f h1) (.inr h1)];exact h2⟩
  ·have hu:¬zaj τ x f:=fun u=>h2 (K.use f h1 u)
   rw[a8 f (by omega) hu (.inl h1)]
   exact K.fam f h1 h2
  ·obtain⟨cs,v,q1,q2,q3⟩:=h2
   rw[a4]at q1
   cases q1
   simp at q2
   subst q2
   simp[zcq]at q3
   omega
 rcases hG with ⟨h1,rfl⟩|⟨f,rfl,h2,h3,h4,h5⟩
 ·have hl:l=[]:=by simpa using h1
  subst hl
  exact .inl (base0 τ' e2 e3 (fun o ho=>by rw[e1];simp[ho]) ⟨bv,tos++[.nilsl],by rw[e1];simp,hv,ht.append (.cons (.inl ⟨rfl,rfl⟩) .nil)⟩ e4 (fun f q1 q2 _=>e5 f q1 q2))
 ·refine Al.MrgOr.merged f (fun o=>o==x) (by omega) (by rw[e5 f h3 h5];exact h4) ?_
  rw[hmv]
  have hbf:Go.Abs.mrg f bv=bv:=by
   rcases hv with ⟨_,rfl⟩|⟨φ,hφ,rfl⟩
   ·simp
   ·cases φ with
    | stat b=>simp[B,Function.comp_def]
    | fam g' b =>
     obtain⟨q1,_⟩:=h.hβ g' hφ.symm
     have:¬g'=f:=by omega
     simp[this,B,Function.comp_def]
  refine base0 _ e2 e3 (fun o ho=>by simp[AS.mrg,e1,ho]) ⟨bv,tos++[.sl (.fam 0 false) 6 (l.map W.av)],?_,hv,ht.append (.cons (.inr ⟨_,rfl⟩) .nil)⟩ ?_ (fun f' q1 q2 q3=>?_)
  ·have:¬τ.nf=f:=by omega
   simp[AS.mrg,e1,hbf,Al.mrg_rows ht,this,Function.comp_def,Al.mrg_W]
  ·have:¬τ.nf=f:=by omega
   simp[AS.mrg,zg8,this,e4]
  ·have:¬f'=f:=by omega
   simp only[AS.mrg,zg8,zae,this,if_false]
   exact e5 f' q1 q2
theorem ztE{st:Bool}{k d:Nat}{c:UInt8}{s s':Rs}{w:W}(h:zbk st (fun d s=>zX st k d [] s) d c s=some (w,s')):s'.ls.length+s'.b.length≤s.ls.length+s.b.length∧s'.b.length≤s.b.length:=by
 unfold zbk at h
 split at h
 ·split at h
  ·unfold zb3 at h
   simp only[ybA]at h
   obtain⟨⟨c1,s1⟩,h1,⟨⟨n,e⟩,s2⟩,h2,h3⟩:=h
   obtain⟨f1,f2,f3⟩:=zm h1
   have z1:=(zb5 _ _ _ _ _ _ _ _ h2).1
   obtain⟨_,_,_,_,_,⟨xx,_,z3⟩,_⟩:=zaa _ _ _ _ _ _ _ _ h2
   have z4:=zaO z3
   have f2':s1.ls.length=s.ls.length:=congrArg yce f2
   have f1':s.b.length=s1.b.length+1:=by rw[f1];rfl
   simp only at z1 z4
   split at h3
   ·split at h3
    ·rw[ybB]at h3
     obtain⟨⟨⟨n2,e2⟩,s5⟩,h4,h5⟩:=h3
     simp only[Prod.mk.injEq]at h5
     obtain⟨rfl,rfl⟩:=h5
     have y1:=(zb5 _ _ _ _ _ _ _ _ h4).1
     obtain⟨_,_,_,_,_,⟨xx,_,y3⟩,_⟩:=zaa _ _ _ _ _ _ _ _ h4
     have y4:=zaO y3
     simp only at y1 y4
     exact⟨by omega,by omega⟩
    ·cases h3
     refine⟨?_,?_⟩<;>simp only<;>omega
   ·cases h3
    refine⟨?_,?_⟩<;>simp only<;>omega
  ·cases h
 ·obtain⟨⟨xx,a1⟩,a2,_⟩:=zbw h
  have:=zaO a1
  rw[a2]
  omega
def MBx(x:Nat)(_:Nat→AV)(τ:AS):Nat:=match τ.objs x with
 | some (.sl _ _ xs::_)=>xs.length
 | _=>0
theorem zqx{base β x s τ}(h:Rdr base β x s τ)(a:Nat→AV):MBx x a τ=s.b.length:=by
 obtain⟨bv,lv,ho,hv,hl⟩:=h.cells
 unfold MBx
 rw[ho]
 rcases hv with ⟨h1,rfl⟩|⟨φ,_,rfl⟩
 ·simp[h1]
 ·simp
def LsR(base:Nat)(β:Option Nat)(x d k0:Nat)(s0:Rs)(σ:AS)(a:Nat→AV)(τ:AS):Prop:=∃(k:Nat) (l:List W) (s:Rs),zX false k0 d [] s0=zX false k d l s∧k≤k0∧s.b.length<k∧l.length+s.b.length≤2^38∧s.ls.length+s.b.length≤2^38∧a 0=.ptr x 0∧a 1=.int .i64 (d:Int)∧zbr σ x 6 τ (a 6) (l.map W.av)∧Rdr base β x s τ∧zM x σ τ
theorem zpp(V:zd2 G){base β x s0}{k0 d:Nat}(hd:d≤400)(hσ:base≤σ.nf)(IH:∀j,j<k0→zpn G base β x j)(hn:zX false k0 d [] s0=none→zaK R x σ)(hs:∀n e s',zX false k0 d [] s0=some ((n,e),s')→∀σ',Rdr base β x s' σ'→zM x σ σ'→R (.ret (.tuple [.int .i64 n,.int .u8 (e.toNat:Int)])) σ')
  {a:Nat→AV} {τ:AS} (hI:LsR base β x d k0 s0 σ a τ):avc yb9 G 42 zlW (z7 (fun a' σ'=>LsR base β x d k0 s0 σ a' σ'∧MBx x a' σ'<MBx x a τ) (z8 0 (zba yb9 [.tmp 4,.tmp 5] (Al.MrgOr R)))) a τ:=by
 obtain⟨k,l,s,he,hk,hkb,hlb,hsb,a0,a1,hG,hR,hK⟩:=hI
 have hmb:=zqx hR a
 obtain⟨k,rfl⟩:∃j,k=j+1:=⟨k-1,by omega⟩
 rw[zX]at he
 simp[zlW,a0]
 refine zju hR (fun q=>?_) (fun c s1 q v σ1 hv hr1 hk1=>?_)
 ·intro e σ' h1 h2
  exact .inl (hn (by rw[he,q];rfl) e σ' h1 (hK.trans h2))
 ·obtain⟨φ,hφ,rfl⟩:=hv
  have hrd:=zry hr1 hφ
  obtain⟨q1,q2,q3⟩:=zm q
  rw[q]at he
  simp only[ycY]at he
  have hK1:=hK.trans hk1
  have hG1:=hG.keep hk1
  have hmb1:=zqx hr1 a
  rw[q1]at hkb hlb hsb hmb
  simp only[yac]at hkb hlb hsb hmb
  by_cases hc:c=11∨c=5
  ·rw[if_pos hc]at he
   obtain⟨bv,lv,ho,hbv,hlv⟩:=hr1.cells
   have l1:=hlv.one
   have b1:=hbv.one
   have g1:=hG1.one
   have wl:yb4 .i64 (s1.ls.length:Int)=(s1.ls.length:Int):=by rw[zc]<;>(rw[q2];omega)
   have fin:∀τ':AS,∀tos g,All2 Al.RepE tos s1.ls→(∀f,zaj σ1 x f→f=g)→τ'.objs=upd σ1.objs x (some [bv,.sl (.fam σ1.nf false) 1 (tos++[a 6]),.int .i64 (s1.n:Int)])→τ'.no=σ1.no→τ'.nf=σ1.nf+1→τ'.F σ1.nf=.alive→(∀f,f<σ1.nf→¬zaj σ1 x f→τ'.F f=σ1.F f) →
     Al.MrgOr R (.ret (.tuple [.int .i64 (s1.ls.length:Int),.int .u8 (c.toNat:Int)])) τ':=fun τ' tos g t1 t2 t3 t4 t5 t6 t7 =>
    Rdr.push hr1 hbv t1 hG1 hσ t3 t4 t5 t6 t7 hK1 t2 (by intro f;simp) fun σ' r1 r2=>hs _ _ _ he σ' r1 r2
   have hcc:(c.toNat:Int)=11∨¬(c.toNat:Int)=11∧(c.toNat:Int)=5:=by
    rcases hc with rfl|rfl
    ·exact .inl rfl
    ·exact .inr ⟨by decide,rfl⟩
   have hlen:s1.ls.length≤2^38:=by rw[q2];omega
   rcases hlv with ⟨hl0,rfl⟩|⟨g,tos,rfl,t1,t2,t3,t4⟩
   ·have wl':yb4 .i64 0=0:=rfl
    have key:=fin ((σ1.newF).setO x [bv,.sl (.fam σ1.nf false) 1 ([]++[a 6]),.int .i64 (s1.n:Int)]) [] 0 (by rw[hl0];exact .nil) (fun f ⟨cs,v,u1,u2,u3⟩=>by rw[ho]at u1;cases u1;simp at u2;subst u2;cases u3) (by simp) (by simp) (by simp) (by simp) (fun f h1 h2=>by
     have:¬f=σ1.nf:=by omega
     simp[this])
    rw[hl0]at key
    rcases hcc with h1|⟨h1,h2⟩
    ·simp[hrd,a0,ho,h1,g1,splice,wl']
     simpa [h1]using key
    ·simp[hrd,a0,ho,h1,h2,g1,splice,wl']
     simpa [h2]using key
   ·have tl:=t4.length
    have key:=fin (((σ1.setF g .dead).newF).setO x [bv,.sl (.fam σ1.nf false) 1 (tos++[a 6]),.int .i64 (s1.n:Int)]) tos g t4 (fun f ⟨cs,v,u1,u2,u3⟩=>by rw[ho]at u1;cases u1;simp at u2;subst u2;simpa [zcq]using u3.symm) (by simp) (by simp) (by simp) (by simp) (fun f h1 h2=>by
     have:¬f=σ1.nf:=by omega
     have:¬f=g:=fun e=>h2 ⟨_,_,ho,rfl,by rw[e];rfl⟩
     simp[*])
    rcases hcc with h1|⟨h1,h2⟩
    ·simp[hrd,a0,ho,h1,g1,splice,t3,tl,wl]
     refine⟨by omega,?_⟩
     simpa [h1]using key
    ·simp[hrd,a0,ho,h1,h2,g1,splice,t3,tl,wl]
     refine⟨by omega,?_⟩
     simpa [h2]using key
  ·rw[if_neg hc]at he
   have h11:¬(c.toNat:Int)=11:=fun e=>hc (.inl (UInt8.toNat_inj.1 (show c.toNat=(11:UInt8).toNat by have:(11:UInt8).toNat=11:=rfl;omega)))
   have h5:¬(c.toNat:Int)=5:=fun e=>hc (.inr (UInt8.toNat_inj.1 (show c.toNat=(5:UInt8).toNat by have:(5:UInt8).toNat=5:=rfl;omega)))
   have g1:=hG1.one
   simp[hrd,a0,a1,h11,h5,g1]
   refine zpo V hr1 hd (IH k (by omega)) (by omega) (by rw[q2];omega) (fun q5=>?_) (fun w s2 q5 σ2 hr2 hk2=>?_)
   ·intro e σ' e1 e2
    exact .inl (hn (by rw[he,q5];rfl) e σ' e1 (hK1.trans e2))
   ·rw[q5]at he
    simp only[ycY]at he
    have hin:s2.ls.length+s2.b.length≤s1.ls.length+s1.b.length∧s2.b.length≤s1.b.length:=by
     have hx:=ztE q5
     exact hx
    rw[q2]at hin
    have hmb2:=zqx hr2 a
    have g2:=(hG1.keep hk2).one
    simp[W.av,W.cs,g2]
    refine zqw (row:=w.av) (hG1.keep hk2) hr2 (hK1.trans hk2) hσ (by simp[W.av,W.cs]) (by simp;omega) fun v' τ' e1 e2 e3 e4 e5 _=>?_
    simp
    refine⟨⟨k,l++[w],s2,he,by omega,by omega,by simp;omega,by omega,by simp[a0],by simp[a1],by simpa using e1,e2,e3⟩,?_⟩
    rw[zqx e2,hmb]
    omega
theorem zqy(V:zd2 G){base β x}:∀k j:Nat,j≤k→zpn G base β x j
 | 0,j,hj=>fun σ R s d h hk=>by omega
 | k+1,j,hj=>by
  have IH:=zqy V (base:=base) (β:=β) (x:=x) k
  intro σ R s d h hk hz hd hn hs
  refine Al.merging (zvF rfl ?_)
  have hb:=h.hb
  simp[zEJ]
  refine zH (LsR base β x d j s σ) (MBx x) ⟨j,[],s,rfl,yah _,hk,by simp;omega,hz,by simp,by simp,.inl ⟨rfl,by simp⟩,h,.refl ..⟩ fun a τ hI=>?_
  exact zpp V hd hb.2 (fun i hi=>IH i (by omega)) hn hs hI
theorem ztF{x y:Nat}(hx:x<18446744073709551616)(hy:y<18446744073709551616)(h:R (.ret (.tuple [.int .u64 ((x*y/18446744073709551616:Nat):Int),.int .u64 ((x*y%18446744073709551616:Nat):Int)])) σ):zzQ G 188 [.int .u64 (x:Int),.int .u64 (y:Int)] σ R:=by
 refine ACalls.of_below fun M w cargs S g hc=>?_
 obtain⟨c0,e0,v0⟩:=hc.2 0 _ rfl
 obtain⟨c1,e1,v1⟩:=hc.2 1 _ rfl
 have h0:c0=.int .u64 (x:Int):=by cases v0;rfl
 have h1:c1=.int .u64 (y:Int):=by cases v1;rfl
 subst h0
 subst h1
 have hcargs:cargs=#[.int .u64 (x:Int),.int .u64 (y:Int)]:=by
  have hsz:cargs.size=2:=hc.1
  apply Array.ext
  ·simpa using hsz
  ·intro i h1 h2
   match i,h1 with
   | 0,_=>simpa using (yaU.1 e0).2
   | 1,_=>simpa using (yaU.1 e1).2
   | i+2,h=>omega
 rw[hcargs]
 refine(Tryz.bits_Mul x y hx hy w).mono fun e w' ⟨he,hw⟩=>?_
 subst he hw
 refine⟨⟨.tuple [.int .u64 _,.int .u64 _],_,rfl,fun M F w=>.tuple _ _ rfl fun j hj hj'=>?_,h⟩,rfl,rfl,rfl,yah _,fun _ _=>rfl⟩
 match j,hj with
 | 0,_=>exact .int _ _
 | 1,_=>exact .int _ _
 | j+2,h=>simp at h;omega
theorem zrA{n:Nat}(hn:n<2^40){K:AV→AS→Prop}:zmX yb9 44 (.int .i64 (n:Int)) (.int .i64 (n:Int)) σ K=K (.slm σ.no 0 1 n) (σ.newO (yaj n (.int .i64 0))):=by
 have e1:zcl yb9 44=some 1:=by kernel_rfl
 have e2:zbE yb9 44=some 8:=by kernel_rfl
 have e3:zaV yb9 44=some (.int .i64 0):=by kernel_rfl
 have e5:zt (yaj n (ycp .i64 0))=yaj n (ycp .i64 0):=by
  induction n with
  | zero=>rfl
  | succ n ih =>
   have:=ih (by omega)
   simp only[zt,List.replicate_succ,yaa]at *
   rw[this]
   rfl
 simp[zmX,e1,e2,e3,AV.cells,AV.known,e5]
 exact⟨fun q=>q.2.2,fun q=>⟨by omega,by omega,q⟩⟩
theorem zrB{n:Nat}(hn:n≤65536)(h:R (.ret (.tuple [.int .u64 0,.int .u64 (n:Int)])) σ):zzQ G 188 [.int .u64 1,.int .u64 (n:Int)] σ R:=by
 refine ztF (x:=1) (y:=n) (by decide) (by omega) ?_
 have e1:1*n/18446744073709551616=0:=by omega
 have e2:1*n%18446744073709551616=n:=by omega
 rw[e1,e2]
 exact h
theorem zkO(t z:AV){n k m:Nat}(h:k+m≤n):splice (yaj k t++yaj (n-k) z) k (yaj m t)=yaj (k+m) t++yaj (n-(k+m)) z:=by
 unfold splice
 rw[List.take_left' (by simp),List.drop_append,List.drop_eq_nil_of_le (by simp)]
 simp only[yba,ycQ,List.drop_replicate,List.replicate_append_replicate]
 congr 2
 omega
theorem zG3{P:Program}{f:FuncId}{args:List AV}
  (h:ACalls P G f args σ fun o σ'=>R o σ'∨∃ob sz rows,o=.ret (.slm ob 0 sz rows.length)∧σ'.objs ob=some (zt rows)∧(∀x∈rows,x.cells.length=sz)∧R (.ret (.sl (.fam σ'.nf false) sz rows)) (σ'.famO ob)):ACalls P G f args σ R:=by
 intro M w cargs S g c
 refine(h M w cargs S g c).mono fun e w' ⟨o,σ',M',hR,h2,h3,h4⟩=>?_
 rcases hR with hR|⟨ob,sz,rows,ho,hob,hsz,hR⟩
 ·exact⟨o,σ',M',hR,h2,h3,h4⟩
 subst ho
 cases e<;>simp only[zbf]at h2
 have hrole:=(h3.obj ob _ hob).2.1
 have E:=zlt (M:=M') (F:=σ'.F) (w:=w') hrole
 have hF:(σ'.famO ob).F=upd σ'.F M'.nf .alive:=by rw[h3.nf];rfl
 cases h2 with
 | slm _ _ _ _ cap hob' hcap hr =>
 obtain⟨S',v'⟩:=h3.famO hob hsz hcap (fun j hj=>by simpa using hr (fun m e=>by rw[hrole]at e;cases e) j hj)
 exact⟨_,_,M'.famO (M'.obj ob).1,hR,v',S',by rw[hF];exact h4.trans E⟩
theorem flat_one:∀(l:List AV),(∀x∈l,x.cells=[x])→zt l=l
 | [],_=>rfl
 | x::l,h=>by
  have:=flat_one l fun y hy=>h y (by simp[hy])
  simp only[zt,yaa]at *
  rw[this,h x (by simp)]
  rfl
def ReI(t:Int)(n o:Nat)(σ:AS)(a:Nat→AV)(τ:AS):Prop:=∃k:Nat,k≤n∧(1≤n→1≤k)∧a 7=.slm o 0 1 n∧a 8=.int .i64 (k:Int)∧zd σ τ∧o=σ.no∧o<τ.no∧τ.objs o=some (yaj k (.int .i64 t)++yaj (n-k) (.int .i64 0))
theorem znH{t:Int}{n:Nat}(hn:n≤65536)(h:∀σ' g,zd σ σ'→σ.nf≤g→g<σ'.nf→σ'.F g=.alive→R (.ret (.sl (.fam g false) 1 (yaj n (.int .i64 t)))) σ'):zzQ G 151 [.sl (.stat true) 1 [.int .i64 t],.int .i64 (n:Int)] σ R:=by
 refine zG3 (zvE rfl ?_)
 have w0:¬(n:Int)<0:=by omega
 have w1:yb4 .u64 1=((1:Nat):Int):=rfl
 have w2:yb4 .u64 (n:Int)=((n:Nat):Int):=by rw[wrap_u64];omega
 simp[zEI,w0,w1,w2]
 refine zrB hn ?_
 have w3:yb4 .i64 (n:Int)=(n:Int):=by rw[zc]<;>omega
 have w4:¬(9223372036854775807:Int)<(n:Int):=by omega
 simp[w3,w4,zrA (show n<2^40 by omega),zkw]
 have hst:∀cs,zd σ ((σ.newO (yaj n (.int .i64 0))).setO σ.no cs):=fun cs=>.mk1
 have hmin:ybx 1 n=if n=0 then 0 else 1:=by
  split
  ·rename_i h0;subst h0;rfl
  ·exact Nat.min_eq_left (by omega)
 refine zH (ReI t n σ.no σ) (MU 8 (n+1)) ⟨ybx 1 n,Nat.min_le_right _ _,fun h=>by rw[hmin,if_neg (by omega)];omega,by simp,by simp,hst _,rfl,by simp,?_⟩ fun a τ hI=>?_
 ·have e1:ycJ n [ycp .i64 t]=yaj (ybx 1 n) (.int .i64 t):=by
   rw[hmin]
   cases n with
   | zero=>rfl
   | succ n=>simp
  have:=zkO (.int .i64 t) (.int .i64 0) (n:=n) (k:=0) (m:=ybx 1 n) (by rw[hmin];split<;>omega)
  simp at this
  simp[e1,this]
 ·obtain⟨k,hk,hk1,a7,a8,hA,_,ho1,ho⟩:=hI
  by_cases hlt:k<n
  ·have hlt':(k:Int)<(n:Int):=by omega
   have hk1:=hk1 (by omega)
   obtain⟨m,hm,hm1,hm2,hm3⟩:∃m,k.min (n-k)=m∧min (n-k) k=m∧k+m≤n∧1≤m:=by
    refine⟨min k (n-k),rfl,Nat.min_comm _ _,?_,?_⟩<;>omega
   have w5:yb4 .i64 ((k:Int)+(m:Int))=((k+m:Nat):Int):=by rw[zc]<;>omega
   simp[zlV,a7,a8,hlt',zkw,ho,hm,hm1,w5]
   refine⟨by omega,.inl hlt,by omega,⟨k+m,hm2,fun _=>by omega,by simp[a7],by simp,hA.setO (yah _),rfl,by simpa using ho1,?_⟩,?_⟩
   ·rw[zkO _ _ hm2]
    simp
   ·simp only[MU,a8];simp;omega
  ·have:k=n:=by omega
   subst this
   simp[zlV,zp4,a7,a8]
   refine .inr ⟨σ.no,1,yaj k (.int .i64 t),by simp,?_,fun x hx=>by rw[(yc5.1 hx).2];rfl,?_⟩
   ·rw[flat_one _ (fun x hx=>by rw[(yc5.1 hx).2];rfl)]
    simpa using ho
   ·have hn:=hA.nf
    refine h _ τ.nf ⟨by simpa using hA.no,by simp;omega,fun o ho=>?_,fun f hf=>?_⟩ hn (by simp) (by simp)
    ·have:¬o=σ.no:=by omega
     simp[this]
     exact hA.obj o ho
    ·have:¬f=τ.nf:=by omega
     simp[this]
     exact hA.fam f hf
end
structure zaG(x fo:Nat)(σ σ':AS):Prop where
 no:σ.no≤σ'.no
 nf:σ.nf≤σ'.nf
 obj:∀o,o<σ.no→o≠x→o≠fo→σ'.objs o=σ.objs o
 fam:∀f,f<σ.nf→σ'.F f=σ.F f
theorem zaG.refl(x fo σ):zaG x fo σ σ:=⟨yah _,yah _,fun _ _ _ _=>rfl,fun _ _=>rfl⟩
theorem zaG.trans{x fo σ σ1 σ2}(h:zaG x fo σ σ1)(h':zaG x fo σ1 σ2):zaG x fo σ σ2 where
 no:=yai h.no h'.no
 nf:=yai h.nf h'.nf
 obj o a b c:=by rw[h'.obj o (yag a h.no) b c,h.obj o a b c]
 fam f a:=by rw[h'.fam f (yag a h.nf),h.fam f a]
theorem zK.f{x fo σ σ'}(h:zK x σ σ'):zaG x fo σ σ':=⟨h.no,h.nf,fun o a b _=>h.obj o a b,h.fam⟩
theorem zaG.setO{x fo σ σ' o cs}(h:zaG x fo σ σ')(ho:o=x∨o=fo∨σ.no≤o):zaG x fo σ (σ'.setO o cs) where
 no:=h.no
 nf:=h.nf
 obj p a b c:=by
  have:¬p=o:=by rcases ho with h|h|h<;>omega
  simp[this]
  exact h.obj p a b c
 fam:=h.fam
theorem zaG.adds{x fo σ σ1 σ2}(h:zaG x fo σ σ1)(A:zd σ1 σ2):zaG x fo σ σ2:=h.trans ⟨A.no,A.nf,fun o a _ _=>A.obj o a,A.fam⟩
theorem zaG.endF{x fo σ τ}(K:zaG x fo σ τ){g:Nat}(hg:σ.nf≤g):zaG x fo σ (τ.setF g .dead) where
 no:=K.no
 nf:=K.nf
 obj:=K.obj
 fam f a:=by
  have:¬f=g:=by omega
  simp[this]
  exact K.fam f a
theorem zaG.newF{x fo σ τ}(K:zaG x fo σ τ):zaG x fo σ τ.newF where
 no:=K.no
 nf:=ydc K.nf
 obj:=K.obj
 fam f a:=by
  have:=K.nf
  have:¬f=τ.nf:=by omega
  simp[this]
  exact K.fam f a
def zer(R:Out→AS→Prop)(σ0:AS):Prop:=∀e σ',zL3 e→zd σ0 σ'→R (.panic e) σ'
theorem zgG{R σ0 σ base β x s}(h:zer R σ0)(A:zd σ0 σ)(hx:σ0.no≤x)(hb:σ0.nf≤base)(hR:Rdr base β x s σ):zaK R x σ:=fun e σ' he K=>h e σ' he ⟨yai A.no K.no,yai A.nf K.nf,fun o ho=>by
 have:=A.no
 rw[K.obj o (by omega) (by omega),A.obj o ho],fun f hf=>by
 have:=A.nf
 rw[K.fam f (by omega) (hR.uses (by omega)),A.fam f hf]⟩
theorem zaG.adds0{x fo σ0 σ σ'}(K:zaG x fo σ σ')(A:zd σ0 σ)(hx:σ0.no≤x)(hf:σ0.no≤fo):zd σ0 σ':=⟨yai A.no K.no,yai A.nf K.nf,fun o ho=>by
 have:=A.no
 rw[K.obj o (by omega) (by omega) (by omega),A.obj o ho],fun f hf=>by
 have:=A.nf
 rw[K.fam f (by omega),A.fam f hf]⟩
theorem ztG{cs:List AV}{i:Nat}{v:AV}(h:i<cs.length):(splice cs i [v])[i]?=some v:=by
 unfold splice
 rw[yc2,yaI (by simp;omega)]
 have:i-(cs.take i).length=0:=by simp;omega
 rw[this]
 rfl
theorem zfm{cs:List AV}{i:Nat}{v:AV}(h:i<cs.length):(splice cs i [v]).length=cs.length:=by
 unfold splice
 simp
 omega
theorem zb6{cs:List AV}{i:Nat}{v:AV}(h:i<cs.length):splice cs i [v]=cs.set i v:=by
 unfold splice
 apply ydg
 intro j
 rw[yc2]
 rcases Nat.lt_trichotomy j i with h1|h1|h1
 ·rw[yat (by simp;omega),List.getElem?_take_of_lt h1,yc7 (by omega)]
 ·subst h1
  rw[yaI (by simp;omega),ydh h]
  have:j-(cs.take j).length=0:=by simp;omega
  rw[this]
  rfl
 ·rw[yaI (by simp;omega),yc7 (by omega)]
  have e:j-(cs.take i).length=(j-i-1)+1:=by simp;omega
  rw[e]
  simp only[List.singleton_append,List.getElem?_cons_succ,yac,ybl,ycX,List.getElem?_drop]
  congr 1
  omega
theorem zBF{el:Option TypeId}{base β x s}{σ0 τ:AS}{v:AV}{xs ys:List AV}{bsz:Nat}{K:AV→AS→Prop}(hG:zbr σ0 x 1 τ v xs)(hR:Rdr base β x s τ)(hn:σ0.nf≤τ.nf)(hb:base≤σ0.nf)(hl:(xs.length+ys.length)*bsz≤2^47)
  (h:∀v' τ',zbr σ0 x 1 τ' v' (xs++ys)→Rdr base β x s τ'→τ'.objs=τ.objs→τ'.no=τ.no→(∀fo,zaG x fo σ0 τ→zaG x fo σ0 τ')→K v' τ'):zbb el bsz 1 v ys τ K:=by
 rcases hG with ⟨rfl,rfl⟩|⟨g,rfl,h2,h3,h4,h5⟩
 ·cases ys with
  | nil =>
   simp
   exact h _ _ (.inl ⟨rfl,rfl⟩) hR rfl rfl fun _ q=>q
  | cons y ys =>
   have hnu:¬zaj τ.newF x τ.nf:=fun u=>by have:=hR.lt (f:=τ.nf) u;omega
   have:=h (.sl (.fam τ.nf false) 1 (y::ys)) τ.newF (.inr ⟨τ.nf,rfl,hn,by simp,by simp,hnu⟩) hR.newF (by simp) (by simp) (fun _ q=>q.newF)
   simp at hl
   simp
   exact⟨by omega,this⟩
 ·have hR':=(hR.endF (by omega) h5).newF
  have hnu:¬zaj (τ.setF g .dead).newF x τ.nf:=fun u=>by have:=hR.lt (f:=τ.nf) u;omega
  have:=h (.sl (.fam τ.nf false) 1 (xs++ys)) (τ.setF g .dead).newF (.inr ⟨τ.nf,rfl,hn,by simp,by simp,hnu⟩) hR' (by simp) (by simp) (fun _ q=>(q.endF h2).newF)
  simp[h4]
  exact⟨hl,this⟩
section
variable {G : Env} {σ : AS} {R : Out → AS → Prop}
theorem zbr.setO{σ0 x sz τ v xs o cs}(h:zbr σ0 x sz τ v xs)(ho:o≠x):zbr σ0 x sz (τ.setO o cs) v xs:=by
 rcases h with h|⟨g,h1,h2,h3,h4,h5⟩
 ·exact .inl h
 ·refine .inr ⟨g,h1,h2,h3,h4,fun⟨cs',v,u1,u2,u3⟩=>h5 ?_⟩
  have:¬x=o:=fun e=>ho e.symm
  simp[this]at u1
  exact⟨cs',v,u1,u2,u3⟩
def GpR(base:Nat)(β:Option Nat)(x fo off:Nat)(cs:List AV)(N:Int)(s1:Rs)(σ:AS)(a:Nat→AV)(τ:AS):Prop:=∃(i:Nat) (done:List (List Int)) (s:Rs) (lv:AV),(i:Int)≤max N 0∧zb8 (zbT false) N.toNat s1=(zb8 (zbT false) (N.toNat-i) s).map (fun q=>(done++q.1,q.2))∧s.n=s1.n+done.flatten.length∧s.b.length≤s1.b.length∧s.n≤65536∧s.ls=s1.ls ∧
 a 0=.ptr x 0∧a 1=.ptr fo off∧a 8=.int .i64 N∧a 9=.int .i64 (i:Int)∧τ.objs fo=some (splice cs (off+2) [lv])∧zbr σ x 1 τ lv (done.flatten.map (.int .i64))∧Rdr base β x s τ∧zaG x fo σ τ∧fo<τ.no
theorem zrC{base β x fo off cs σ0}{N:Int}{s1:Rs}(hN:N<2^63)(hbase:base≤σ.nf)(hfx:fo≠x)(hlen:off+5≤cs.length)(hA:zd σ0 σ)(hx0:σ0.no≤x)(hf0:σ0.no≤fo)(hb0:σ0.nf≤base)(hnone:zb8 (zbT false) N.toNat s1=none→zer R σ0)
  (fin:∀l s',zb8 (zbT false) N.toNat s1=some (l,s')→∀a τ lv,a 0=.ptr x 0→a 1=.ptr fo off→τ.objs fo=some (splice cs (off+2) [lv])→zbr σ x 1 τ lv (l.flatten.map (.int .i64))→Rdr base β x s' τ→zaG x fo σ τ→fo<τ.no→s'.b.length≤s1.b.length→s'.ls=s1.ls→avc yb9 G 63 zlK (zba yb9 [] R) a τ)
  {a:Nat→AV} {τ:AS} (hI:GpR base β x fo off cs N s1 σ a τ):avc yb9 G 63 zlJ (z7 (fun a' σ'=>GpR base β x fo off cs N s1 σ a' σ'∧MU 9 (N.toNat+1) a' σ'<MU 9 (N.toNat+1) a τ) (z8 0 (z7 (avc yb9 G 63 zlK (zba yb9 [] R)) (zba yb9 [] R)))) a τ:=by
 obtain⟨i,done,s,lv,hi,he,hsn,hsb,hs65,hsl,a0,a1,a8,a9,hfo,hG,hR,hK,hfn⟩:=hI
 have g1:=hG.one
 have hNA:∀{τ' s'},Rdr base β x s' τ'→zaG x fo σ τ'→zb8 (zbT false) N.toNat s1=none→zaK R x τ':=fun hr hk hq=>zgG (hnone hq) (hk.adds0 hA hx0 hf0) hx0 hb0 hr
 by_cases hlt:(i:Int)<N
 ·have w1:yb4 .i64 ((i:Int)+1)=((i+1:Nat):Int):=by rw[zc]<;>omega
  simp[zlJ,a0,a1,a8,a9,hlt]
  refine zw hR (fun q=>?_) (fun m s2 q τ2 hr2 hk2=>?_)
  ·exact hNA hR hK (by rw[he,zcV (by omega) (by unfold zbT;rw[q];rfl)];rfl)
  ·have hK2:=hK.trans hk2.f
   obtain⟨⟨xx,_,hxx⟩,e1',e2,n1,n2,_⟩:=zu q
   have hsl2:=zaO hxx
   obtain⟨bv,lsv,ho2,hbv,hlv⟩:=hr2.cells
   have b1:=hbv.one
   have l1:=hlv.one
   have hfo2:=(hk2.obj fo hfn hfx).trans hfo
   have w6:yb4 .i64 (65536-(s2.n:Int))=65536-(s2.n:Int):=by rw[zc]<;>omega
   have gno:∀q,¬(0≤m∧m≤65536-(s2.n:Int))→zbT false s=q→q=none:=fun q' hno hq=>by
    rw[←hq]
    unfold zbT
    rw[q]
    simp only[ycY]
    rw[if_neg hno]
   by_cases hm0:0≤m
   ·by_cases hm1:m≤65536-(s2.n:Int)
    ·obtain⟨k,rfl⟩:∃k:Nat,m=k:=⟨m.toNat,by omega⟩
     have hk65:s2.n+k≤65536:=by omega
     have w7:yb4 .i64 ((s2.n:Int)+(k:Int))=((s2.n+k:Nat):Int):=by rw[zc]<;>omega
     have hgr:zbT false s=(zdD false { s2 with n:=s2.n+k }).map fun q=>(yaj k q.1,q.2):=by
      unfold zbT
      rw[q]
      simp only[ycY,ybe]
      rw[if_pos ⟨hm0,hm1⟩]
     simp[a0,a1,hm0,ho2,w6,hm1]
     refine zy (fun _=>?_) (fun q=>by cases q)
     have hr3:Rdr base β x { s2 with n:=s2.n+k } (τ2.setO x [bv,lsv,.int .i64 ((s2.n+k:Nat):Int)]):=hr2.set (s':={ s2 with n:=s2.n+k }) hbv hlv
     have hK3:zaG x fo σ (τ2.setO x [bv,lsv,.int .i64 ((s2.n+k:Nat):Int)]):=hK2.setO (.inl rfl)
     have hfx':¬fo=x:=hfx
     have hxf':¬x=fo:=fun e=>hfx e.symm
     have hfo3:(τ2.setO x [bv,lsv,.int .i64 ((s2.n+k:Nat):Int)]).objs fo=some (splice cs (off+2) [lv]):=by simp[hfx',hfo2]
     have hfn2:=hk2.no
     have hget:(splice cs (off+2) [lv])[off+2]?=some lv:=ztG (by omega)
     have hset:∀v',splice (splice cs (off+2) [lv]) (off+2) [v']=splice cs (off+2) [v']:=fun v'=>by
      rw[zb6 (by rw[zfm (by omega)];omega),zb6 (by omega),zb6 (by omega),List.set_set]
     have hCl:(splice cs (off+2) [lv]).length=cs.length:=zfm (by omega)
     generalize splice cs (off+2) [lv]=C at *
     simp[a0,a1,ho2,b1,l1,w7,splice,hfx',hxf',hfo2,hget]
     generalize hτ3:τ2.setO x [bv,lsv,.int .i64 ((s2.n:Int)+(k:Int))]=τ3 at *
     have hτ3':τ2.setO x [bv,lsv,.int .i64 ((s2.n+k:Nat):Int)]=τ3:=hτ3
     rw[hτ3']at hr3 hK3 hfo3
     have hn3:τ3.no=τ2.no:=by rw[←hτ3];simp
     refine zbx hr3 (fun q4=>?_) (fun c s4 q4 v τ4 hv hr4 hk4=>?_)
     ·refine hNA hr3 hK3 ?_
      rw[he,zcV (by omega) (by rw[hgr];unfold zdD;rw[q4];rfl)]
      rfl
     ·obtain⟨φ,hφ,rfl⟩:=hv
      have hrd:=zry hr4 hφ
      obtain⟨z1,z2,z3⟩:=zm q4
      simp only at z1 z2 z3
      have hfo4:=(hk4.obj fo (by omega) hfx).trans hfo3
      have hK4:=hK3.trans hk4.f
      have hn4:=hk4.no
      have w8:yb4 .i64 (c.toNat:Int)=(c.toNat:Int):=by have:=c.toNat_lt;rw[zc]<;>omega
      have w9:yb4 .i64 (128-(c.toNat:Int))=128-(c.toNat:Int):=by have:=c.toNat_lt;rw[zc]<;>omega
      simp[a0,a1,hfo4,hget,hrd,w8,w9]
      refine znH (by omega) fun τ5 g5 A5 ng5 lg5 al5=>?_
      have hr5:=hr4.adds A5
      have hK5:=hK4.adds A5
      have hfo5:=(A5.obj fo (by omega)).trans hfo4
      have hn5:=A5.no
      have hG5:zbr σ x 1 τ5 lv (done.flatten.map (.int .i64)):=by
       have h1:zbr σ x 1 τ2 lv (done.flatten.map (.int .i64)):=hG.keep hk2.r
       have h2:zbr σ x 1 τ3 lv (done.flatten.map (.int .i64)):=by
        rw[←hτ3]
        rcases h1 with h|⟨g,q1,q2,q3,q4,q5⟩
        ·exact .inl h
        ·refine .inr ⟨g,q1,q2,q3,q4,fun⟨cs',v,u1,u2,u3⟩=>q5 ?_⟩
         simp at u1
         subst u1
         exact⟨_,_,ho2,u2,u3⟩
       exact(h2.keep hk4.r).keep (A5.keepR hr4.hx)
      have hmp:yaj k (ycp .i64 (128-(c.toNat:Int)))=(yaj k (128-(c.toNat:Int))).map (.int .i64):=by simp
      have hdl:done.flatten.length≤65536:=by omega
      simp[hfo5,hget,al5]
      rw[hmp]
      refine zBF hG5 hr5 hK5.nf hbase (by rw[ybb,ybb,yba];omega) fun v' τ6 e1 e2' e3 e4 e5=>?_
      have hv1:=e1.one
      have hfo6:τ6.objs fo=some C:=(congrFun e3 fo).trans hfo5
      simp[a1,a9,hfo6,hv1,w1,hCl]
      refine⟨by omega,⟨i+1,done++[yaj k (128-(c.toNat:Int))],s4,v',by omega,?_,?_,?_,?_,?_,by simp[a0],by simp[a1],by simp[a8],by simp,?_,?_,?_,?_,?_⟩,?_⟩
      ·rw[he,zgF (s':=s4) (a:=yaj k (128-(c.toNat:Int))) (by omega) (by rw[hgr];unfold zdD;rw[q4];simp)]
       have:N.toNat-i-1=N.toNat-(i+1):=by omega
       rw[this]
       cases zb8 (zbT false) (N.toNat-(i+1)) s4 with
       | none=>rfl
       | some p=>simp
      ·rw[List.flatten_append,yab,z3,e2,hsn]
       simp
       omega
      ·rw[z1]at hsl2
       simp only[yac]at hsl2
       omega
      ·omega
      ·rw[z2,e1',hsl]
      ·simp[hset]
      ·have e7:(done++[yaj k (128-(c.toNat:Int))]).flatten.map (ycp .i64)=done.flatten.map (.int .i64)++(yaj k (128-(c.toNat:Int))).map (.int .i64):=by simp
       rw[e7]
       exact e1.setO hfx
      ·exact e2'.setO hfx
      ·exact(e5 fo hK5).setO (.inr (.inl rfl))
      ·simp;omega
      ·simp only[MU,a9];simp;omega
    ·have hg:=gno _ (fun h=>hm1 h.2) rfl
     simp[a0,a1,hm0,ho2,w6,hm1]
     refine zy (fun q=>by cases q) (fun _=>?_)
     simp
     exact hNA hr2 hK2 (by rw[he,zcV (by omega) hg];rfl) _ _ (.inr (.inr rfl)) (.refl ..)
   ·have hg:=gno _ (fun h=>hm0 h.1) rfl
    simp[a0,a1,hm0]
    refine zy (fun q=>by cases q) (fun _=>?_)
    simp
    exact hNA hr2 hK2 (by rw[he,zcV (by omega) hg];rfl) _ _ (.inr (.inr rfl)) (.refl ..)
 ·simp[zlJ,a8,a9,hlt]
  have hz:N.toNat-i=0:=by omega
  rw[hz]at he
  simp only[zb8,yaG,yb7]at he
  exact fin _ _ he _ _ lv (by simpa using a0) (by simpa using a1) hfo hG hR hK hfn hsb hsl
theorem Rdr.mrgP{base β x s τ}(h:Rdr base β x s τ){g:Nat}{p:Nat→Bool}(hp:p x=false)(hg:base≤g)(hu:¬zaj τ x g):Rdr base β x s (τ.mrg g p):=by
 obtain⟨bv,lv,ho,hv,hl⟩:=h.cells
 have hb:=h.hb
 refine⟨h.hx,hb,?_,fun f hf=>?_,bv,lv,by simpa [AS.mrg,hp]using ho,hv,?_⟩
 ·have:¬0=g:=by omega
  simp[AS.mrg,zg8,this,h.h0]
 ·obtain⟨h1,h2⟩:=h.hβ f hf
  have:¬f=g:=by omega
  exact⟨h1,by simp[AS.mrg,zg8,this,h2]⟩
 ·rcases hl with h1|⟨f,tos,h1,h2,h3,h4,h5⟩
  ·exact .inl h1
  ·have:¬f=g:=fun e=>hu ⟨_,_,ho,rfl,by rw[h1,←e];rfl⟩
   exact .inr ⟨f,tos,h1,h2,h3,by simp[AS.mrg,zg8,this,h4],h5⟩
theorem zaG.mrg{x fo σ τ}(K:zaG x fo σ τ){g:Nat}(hg:σ.nf≤g):zaG x fo σ (τ.mrg g fun o=>o==fo) where
 no:=K.no
 nf:=K.nf
 obj o a b c:=by
  have:¬o=fo:=c
  simpa [AS.mrg,this]using K.obj o a b c
 fam f a:=by
  have:¬f=g:=by omega
  simp[AS.mrg,zg8,this]
  exact K.fam f a
theorem zrD(f:AV→AV)(cs:List AV)(i:Nat)(v:AV):(splice cs i [v]).map f=splice (cs.map f) i [f v]:=by
 simp[splice]
theorem zke(V:zd2 G){base β x s fo off cs f σ0}(h:Rdr base β x s σ)(hfx:fo≠x)(hfn:fo<σ.no)(ho:σ.objs fo=some cs)(hc2:cs[off+2]?=some .nilsl)(hlen:off+5≤cs.length)(hfl:f.locals=[])(hsz:s.b.length≤2^37)(hs65:s.n≤65536)(hmr:∀g,σ.nf≤g→cs.map (Go.Abs.mrg g)=cs)
  (hA:zd σ0 σ) (hx0:σ0.no≤x) (hf0:σ0.no≤fo) (hb0:σ0.nf≤base) (hn:z9 false f s=none→zer R σ0)
  (hs:∀f' s',z9 false f s=some (f',s')→∀σ' lv tv g,Al.IntsE lv f'.locals→Al.LstE g tv f'.lists→(f'.lists≠[]→σ.nf≤g∧g<σ'.nf∧σ'.F g=.alive)→Rdr base β x s' σ'→zaG x fo σ σ'→σ'.objs fo=some (splice (splice cs (off+2) [lv]) (off+4) [tv])→R (.ret (.tuple [])) σ'):zzQ G 91 [.ptr x 0,.ptr fo off] σ R:=by
 have hnM:zer R σ0→zer (Al.MrgOr R) σ0:=fun q e σ' a b=>.inl (q e σ' a b)
 refine Al.merging (zAZ rfl ?_)
 have hbase:=h.hb.2
 simp[zM2]
 refine zw h (fun q=>zgG (hnM (hn (by unfold z9;rw[q];rfl))) hA hx0 hb0 h) (fun m1 s1 q1 σ1 hr1 hk1=>?_)
 have K1:zaG x fo σ σ1:=hk1.f
 simp
 refine zw hr1 (fun q=>zgG (hnM (hn (by unfold z9;rw[q1];simp only[ycY];rw[q];rfl))) (K1.adds0 hA hx0 hf0) hx0 hb0 hr1) (fun N s2 q2 σ2 hr2 hk2=>?_)
 have K2:zaG x fo σ σ2:=K1.trans hk2.f
 obtain⟨⟨xx,_,hxx⟩,z1,z2,_⟩:=zu q1
 obtain⟨⟨yy,_,hyy⟩,z3,z4,n1,n2,_⟩:=zu q2
 have l1:=zaO hxx
 have l2:=zaO hyy
 have hfn1:=hk1.no
 have hfn2:=hk2.no
 have ho2:σ2.objs fo=some cs:=(hk2.obj fo (by omega) hfx).trans ((hk1.obj fo hfn hfx).trans ho)
 have A2:=K2.adds0 hA hx0 hf0
 have hfp:z9 false f s=(zb8 (zbT false) N.toNat s2).bind fun l=>(zX false (l.2.b.length+1) 0 [] { l.2 with ls:=[] }).map fun r=>({ f with locals:=f.locals++l.1.flatten,lists:=r.2.ls },r.2):=by
  unfold z9
  rw[q1]
  simp only[ycY]
  rw[q2]
  rfl
 have hcs0:splice cs (off+2) [.nilsl]=cs:=by
  rw[zb6 (by omega)]
  apply ydg
  intro j
  by_cases hj:j=off+2
  ·subst hj
   rw[ydh (by omega),hc2]
  ·rw[yc7 (by omega)]
 simp
 refine zH (GpR base β x fo off cs N s2 σ2) (MU 9 (N.toNat+1)) ⟨0,[],s2,.nilsl,by omega,by cases hh:zb8 (zbT false) N.toNat s2<;>simp[hh],by simp,yah _,by omega,rfl,by simp,by simp,by simp,by simp,by rw[hcs0];exact ho2,.inl ⟨rfl,rfl⟩,hr2,.refl ..,by omega⟩ fun a τ hI=>?_
 refine zrC n2 hr2.hb.2 hfx hlen A2 hx0 hf0 hb0 (fun q=>hnM (hn (by rw[hfp,q];rfl))) (fun l s3 q3 a τ lv a0 a1 hfo hG hR hK hfn3 hl3 hls3=>?_) hI
 rw[q3]at hfp
 simp only[ycY]at hfp
 have K3:=K2.trans hK
 obtain⟨bv,lsv,hox,hbv,hlv⟩:=hR.cells
 have b1:=hbv.one
 have hfx':¬fo=x:=hfx
 have hxf':¬x=fo:=fun e=>hfx e.symm
 simp[zlK,a0,a1,hox,splice]
 have hr4:Rdr base β x { s3 with ls:=[] } (τ.setO x [bv,.nilsl,.int .i64 (s3.n:Int)]):=hR.set (s':={ s3 with ls:=[] }) hbv (.inl ⟨rfl,rfl⟩)
 have K4:zaG x fo σ (τ.setO x [bv,.nilsl,.int .i64 (s3.n:Int)]):=K3.setO (.inl rfl)
 have nou:∀g,¬zaj (τ.setO x [bv,.nilsl,.int .i64 (s3.n:Int)]) x g:=fun g ⟨cs',v,u1,u2,u3⟩=>by
  simp at u1
  subst u1
  simp at u2
  subst u2
  cases u3
 have hfo4:(τ.setO x [bv,.nilsl,.int .i64 (s3.n:Int)]).objs fo=some (splice cs (off+2) [lv]):=by simp[hfx',hfo]
 have hG4:zbr σ2 x 1 (τ.setO x [bv,.nilsl,.int .i64 (s3.n:Int)]) lv (l.flatten.map (.int .i64)):=by
  rcases hG with h|⟨g,h1,h2,h3,h4,h5⟩
  ·exact .inl h
  ·exact .inr ⟨g,h1,h2,h3,h4,nou g⟩
 have hn4:(τ.setO x [bv,.nilsl,.int .i64 (s3.n:Int)]).no=τ.no:=by simp
 have hnf4:(τ.setO x [bv,.nilsl,.int .i64 (s3.n:Int)]).nf=τ.nf:=by simp
 generalize τ.setO x [bv,.nilsl,.int .i64 (s3.n:Int)]=τ4 at *
 refine zqy V (s3.b.length+1) (s3.b.length+1) (yah _) τ4 _ { s3 with ls:=[] } 0 hr4 (by simp) (by simp;omega) (by omega) (fun q4=>zgG (hnM (hn (by rw[hfp,q4];rfl))) (K4.adds0 hA hx0 hf0) hx0 hb0 hr4) (fun n e s5 q5 τ5 hr5 hk5=>?_)
 rw[q5]at hfp
 simp only[yaG]at hfp
 have K5:zaG x fo σ τ5:=K4.trans ⟨hk5.no,hk5.nf,fun o a b _=>hk5.obj o a b,fun f a=>hk5.fam f a (nou f)⟩
 have hn5:=hk5.no
 have hfo5:=(hk5.obj fo (by omega) hfx).trans hfo4
 obtain⟨bv5,tv,hox5,hbv5,htv⟩:=hr5.cells
 have t1:=htv.one
 have hG5:=hG4.keep hk5
 have hLst:∃g,Al.LstE g tv s5.ls∧(s5.ls≠[]→τ4.nf≤g∧g<τ5.nf∧τ5.F g=.alive∧zaj τ5 x g):=by
  rcases htv with ⟨h1,h2⟩|⟨g,tos,h1,h2,h3,h4,h5⟩
  ·exact⟨0,.inl ⟨h1,h2⟩,fun q=>absurd h1 q⟩
  ·have hu:zaj τ5 x g:=⟨_,_,hox5,rfl,by rw[h1];rfl⟩
   refine⟨g,.inr ⟨tos,h1,h5⟩,fun _=>⟨?_,h3,h4,hu⟩⟩
   by_cases hlt:g<τ4.nf
   ·exact absurd (hk5.use g hlt hu) (nou g)
   ·omega
 obtain⟨g,hL,hLg⟩:=hLst
 have hsl:(splice cs (off+2) [lv]).length=cs.length:=zfm (by omega)
 have fin:∀(τ6:AS) (lv':AV),Al.IntsE lv' (f.locals++l.flatten)→Rdr base β x s5 τ6→zaG x fo σ τ6→τ6.objs fo=some (splice (splice cs (off+2) [lv']) (off+4) [tv])→(s5.ls≠[]→σ.nf≤g∧g<τ6.nf∧τ6.F g=.alive)→R (.ret (.tuple [])) τ6:=fun τ6 lv' e1 e2 e3 e4 e5 =>
  hs _ _ hfp τ6 lv' tv g e1 hL e5 e2 e3 e4
 simp[a0,a1,hox5,t1,hfo5]
 refine⟨by rw[hsl];omega,?_⟩
 have hr6:=hr5.setO (o:=fo) (cs:=splice (splice cs (off+2) [lv]) (off+4) [tv]) hfx
 have K6:=K5.setO (o:=fo) (cs:=splice (splice cs (off+2) [lv]) (off+4) [tv]) (.inr (.inl rfl))
 have hnfs:σ.nf≤σ2.nf:=K2.nf
 rcases hG5 with ⟨e1,rfl⟩|⟨gl,rfl,e2,e3,e4,e5⟩
 ·have hl0:l.flatten=[]:=by simpa using e1
  refine .inl (fin _ .nilsl (.inl ⟨by rw[hl0,hfl];rfl,.inl rfl⟩) hr6 K6 (by simp) fun q=>?_)
  obtain⟨u1,u2,u3,_⟩:=hLg q
  have:=K4.nf
  exact⟨by omega,by simpa using u2,by simpa using u3⟩
 ·have hne:s5.ls≠[]→¬g=gl:=fun q e=>by
   subst e
   exact e5 (hLg q).2.2.2
  have hnu6:¬zaj (τ5.setO fo (splice (splice cs (off+2) [AV.sl (.fam gl false) 1 (l.flatten.map (.int .i64))]) (off+4) [tv])) x gl :=
   fun⟨cs',v,u1,u2,u3⟩=>e5 ⟨cs',v,by simpa [hxf']using u1,u2,u3⟩
  have hne5:s5.ls≠[]:=fun q=>by
   obtain⟨_,y1,y2,_⟩:=zaa _ _ _ _ _ _ _ _ q5
   rw[q]at y1
   simp at y1 y2
   omega
  have htvm:Go.Abs.mrg gl tv=tv:=by
   rcases hL with ⟨_,rfl⟩|⟨tos,rfl,ht⟩
   ·simp
   ·rw[zdw,Al.mrg_rows ht]
    rw[if_neg (hne hne5)]
  refine Al.MrgOr.merged gl (fun o=>o==fo) (by simp;omega) (by simpa using e4) ?_
  have hmm:Go.Abs.mrg gl (.tuple [])=.tuple []:=by simp
  rw[hmm]
  refine fin _ (.sl (.fam 0 false) 1 (l.flatten.map (.int .i64))) (.inr ⟨false,by rw[hfl];rfl⟩) (hr6.mrgP (by simpa using hxf') (by omega) hnu6) (K6.mrg (by omega)) ?_ fun q=>?_
  ·simp[AS.mrg,zrD,hmr gl (by omega),htvm,Function.comp_def]
  ·obtain⟨u1,u2,u3,_⟩:=hLg q
   have:=K4.nf
   have:=hne q
   exact⟨by omega,by simpa [AS.mrg]using u2,by simpa [AS.mrg,zg8,this]using u3⟩
end
def HV(v:AV)(f:F):Prop:=∃pv,v=.agg [.str [],pv,.nilsl,.int .i64 f.type,.nilsl]∧Al.IntsE pv f.params∧f.name=[]∧f.locals=[]∧f.lists=[]
theorem zfn{st:Bool}{s s':Rs}{l:List Int}(h:zek st s=some (l,s')):s'.b.length+l.length≤s.b.length:=by
 unfold zek at h
 simp only[ybA]at h
 obtain⟨⟨n,s1⟩,h1,h2⟩:=h
 obtain⟨⟨xx,_,hx⟩,_⟩:=zu h1
 have hl:=zaO hx
 have key:∀{n:Nat} {s s':Rs} {l:List Int},zb8 (zdD st) n s=some (l,s')→s'.b.length+l.length≤s.b.length:=by
  intro n
  induction n with
  | zero=>intro s s' l h;cases h;simp
  | succ n ih =>
   intro s s' l h
   rw[zb8]at h
   simp only[ybA,ybB]at h
   obtain⟨⟨t,s1⟩,h1,⟨l',s2⟩,h2,h3⟩:=h
   cases h3
   have:=ih h2
   unfold zdD at h1
   simp only[ybA]at h1
   obtain⟨⟨c,s3⟩,h4,h5⟩:=h1
   obtain⟨b1,_,_⟩:=zm h4
   have b2:s.b.length=s3.b.length+1:=by rw[b1];rfl
   split at h5
   ·cases h5
   ·cases h5
    simp only[yac]at *
    omega
 have:=key h2
 simp only at *
 omega
theorem ztH{st:Bool}{s s':Rs}{f:F}(h:zdE st s=some (f,s')):s'.b.length+1+f.params.length≤s.b.length:=by
 unfold zdE at h
 simp only[ybA,ybB]at h
 obtain⟨⟨c,s1⟩,h1,⟨l,s2⟩,h2,⟨r,s3⟩,h3,h4⟩:=h
 cases h4
 obtain⟨a0,a1,a2⟩:=zm h1
 have b2:s.b.length=s1.b.length+1:=by rw[a0];rfl
 have:=zfn h2
 have:=zfn h3
 simp only at *
 omega
section
variable {G : Env} {σ : AS} {R : Out → AS → Prop}
def HdI(base:Nat)(β:Option Nat)(x:Nat)(N:Int)(s1:Rs)(σ:AS)(a:Nat→AV)(τ:AS):Prop:=∃(i:Nat) (done:List F) (rows:List AV) (s:Rs),(i:Int)≤max N 0∧zb8 (zdE false) N.toNat s1=(zb8 (zdE false) (N.toNat-i) s).map (fun q=>(done++q.1,q.2))∧s.b.length+done.length≤s1.b.length∧a 0=.ptr x 0∧a 8=.int .i64 N∧a 9=.int .i64 (i:Int)∧All2 HV rows done∧zbr σ x 5 τ (a 2) rows∧Rdr base β x s τ∧zK x σ τ
theorem zrE{base β x}{N:Int}{s1:Rs}(hN:N<2^63)(hb1:s1.b.length≤2^37)(hbase:base≤σ.nf)(hnone:zb8 (zdE false) N.toNat s1=none→zaK R x σ)(fin:∀l s',zb8 (zdE false) N.toNat s1=some (l,s')→∀a τ rows,All2 HV rows l→zbr σ x 5 τ (a 2) rows→Rdr base β x s' τ→zK x σ τ→s'.b.length+l.length≤s1.b.length→avc yb9 G 36 zi2 (zba yb9 [.tmp 2] R) a τ)
  {a:Nat→AV} {τ:AS} (hI:HdI base β x N s1 σ a τ):avc yb9 G 36 zlI (z7 (fun a' σ'=>HdI base β x N s1 σ a' σ'∧MU 9 (N.toNat+1) a' σ'<MU 9 (N.toNat+1) a τ) (z8 0 (z7 (avc yb9 G 36 zi2 (zba yb9 [.tmp 2] R)) (zba yb9 [.tmp 2] R)))) a τ:=by
 obtain⟨i,done,rows,s,hi,he,hlen,a0,a8,a9,hrows,hG,hR,hK⟩:=hI
 have g1:=hG.one
 have hx:=hR.hx
 by_cases hlt:(i:Int)<N
 ·have w1:yb4 .i64 ((i:Int)+1)=((i+1:Nat):Int):=by rw[zc]<;>omega
  have hnn:zdE false s=none→zaK R x σ:=fun q=>hnone (by rw[he,zcV (by omega) q];rfl)
  simp[zlI,a0,a8,a9,hlt]
  refine zbx hR (fun q=>zaK.mono (hnn (by unfold zdE;rw[q];rfl)) hK.r) (fun c s2 q v τ2 hv hr2 hk2=>?_)
  obtain⟨z1,z2,z3⟩:=zm q
  have hsl:s.b.length=s2.b.length+1:=by rw[z1];rfl
  have K2:=hK.trans hk2
  simp[a0]
  refine zfI hr2 (by omega) (fun q3=>zaK.mono (hnn (by unfold zdE;rw[q];simp only[ycY];rw[q3];rfl)) K2.r) (fun ps s3 q3 pv τ3 hpv hr3 hk3=>?_)
  have hl3:=zfn q3
  have K3:=K2.trans hk3
  have p1:=hpv.one
  have hx3:=hr3.hx
  obtain⟨bv3,lsv3,ho3,_⟩:=hr3.cells
  have A4:zd τ3 ((τ3.newO [.str [],.nilsl,.nilsl,.int .i64 0,.nilsl]).setO τ3.no [.str [],pv,.nilsl,.int .i64 0,.nilsl]):=.mk1
  have K4:=K3.trans (A4.keepS hx3 ho3)
  have hr4:=hr3.adds A4
  simp[a0,p1,splice]
  refine zfI hr4 (by omega) (fun q5=>zaK.mono (hnn (by unfold zdE;rw[q];simp only[ycY];rw[q3];simp only[ycY];rw[q5];rfl)) K4.r) (fun gs s5 q5 gv τ5 hgv hr5 hk5=>?_)
  have hl5:=zfn q5
  have K5:=K4.trans hk5
  have gv1:=hgv.one
  have gvo:=Al.ints_e (σ:=τ5) ⟨by have:=hr5.hb;omega,hr5.h0⟩ hgv
  have gvl:=gvo.len
  have hxo:¬x=τ3.no:=by omega
  have hxo':¬τ3.no=x:=by omega
  have o5:=(hk5.obj τ3.no (by simp) hxo').trans (show _=some [.str [],pv,.nilsl,.int .i64 0,.nilsl]by simp)
  have n5:=hk5.no
  simp at n5
  have hh:zdE false s=some ({ name:=[],params:=ps,locals:=[],type:=gs.headD 0,lists:=[] },s5):=by
   unfold zdE
   rw[q]
   simp only[ycY]
   rw[q3]
   simp only[ycY]
   rw[q5]
   rfl
  have hG5:zbr σ x 5 τ5 (a 2) rows:=((hG.keep hk2.r).keep hk3.r).keep ((A4.keepR hx3).trans hk5.r)
  have next:∀(a':Nat→AV) (τ':AS) rows',a' 0=.ptr x 0→a' 8=.int .i64 N→a' 9=.int .i64 ((i+1:Nat):Int)→All2 HV rows' (done++[{ name:=[],params:=ps,locals:=[],type:=gs.headD 0,lists:=[] }])→zbr σ x 5 τ' (a' 2) rows'→Rdr base β x s5 τ'→zK x σ τ'→HdI base β x N s1 σ a' τ'∧MU 9 (N.toNat+1) a' τ'<MU 9 (N.toNat+1) a τ:=by
   intro a' τ' rows' e0 e8 e9 eR eG eD eK
   refine⟨⟨i+1,_,rows',s5,by omega,?_,by simp;omega,e0,e8,e9,eR,eG,eD,eK⟩,?_⟩
   ·rw[he,zgF (s':=s5) (a:=_) (by omega) hh]
    have:N.toNat-i-1=N.toNat-(i+1):=by omega
    rw[this]
    cases zb8 (zdE false) (N.toNat-(i+1)) s5 with
    | none=>rfl
    | some p=>simp
   ·simp only[MU,e9,a9];omega
  have hrl:=hrows.length
  cases gs with
  | nil =>
   simp at gvl
   simp[gvl,o5,p1]
   refine zqw (row:=.agg [.str [],pv,.nilsl,.int .i64 0,.nilsl]) hG5 hr5 K5.r hbase (by simp) (by rw[hrl];omega) fun v' τ6 e1 e2 e3 e4 e5 e6=>?_
   simp[a9,w1]
   exact next _ _ _ (by simp[a0]) (by simp[a8]) (by simp) (hrows.append (.cons ⟨pv,rfl,hpv,rfl,rfl,rfl⟩ .nil)) (by simpa using e1) e2 (e6 K5)
  | cons t gs =>
   obtain⟨φ,hrd,hix⟩:=gvo.at (i:=0) (by simp)
   have hrd:=hrd.read
   simp at gvl hix
   have hpos:(0:Int)<(gs.length:Int)+1:=by omega
   simp[gvl,hpos,hix,hrd,o5,p1,splice]
   have hr6:=hr5.setO (o:=τ3.no) (cs:=[.str [],pv,.nilsl,.int .i64 t,.nilsl]) hxo'
   have K6:zK x σ (τ5.setO τ3.no [.str [],pv,.nilsl,.int .i64 t,.nilsl]):=by
    refine⟨K5.no,K5.nf,fun o h1 h2=>?_,K5.fam,fun cs' h1=>?_,K5.some⟩
    ·have:=K3.no
     have:¬o=τ3.no:=by omega
     simp[this]
     exact K5.obj o h1 h2
    ·obtain⟨c1,h2,h3⟩:=K5.lst cs' h1
     exact⟨c1,by simp[hxo,h2],h3⟩
   refine zqw (row:=.agg [.str [],pv,.nilsl,.int .i64 t,.nilsl]) (hG5.setO hxo') hr6 K6.r hbase (by simp) (by rw[hrl];omega) fun v' τ6 e1 e2 e3 e4 e5 e6=>?_
   simp[a9,w1]
   exact next _ _ _ (by simp[a0]) (by simp[a8]) (by simp) (hrows.append (.cons ⟨pv,rfl,hpv,rfl,rfl,rfl⟩ .nil)) (by simpa using e1) e2 (e6 K6)
 ·simp[zlI,a8,a9,hlt]
  have hz:N.toNat-i=0:=by omega
  rw[hz]at he
  simp only[zb8,yaG,yb7]at he
  exact fin _ _ he _ _ rows hrows (by simpa using hG) hR hK hlen
theorem znI{α β:Type}{Q:α→β→Prop}:∀{xs:List α} {ys:List β} (n:Nat),All2 Q xs ys→All2 Q (xs.drop n) (ys.drop n)
 | _,_,0,h=>by simpa using h
 | _,_,n+1,.nil=>by simpa using All2.nil
 | _,_,n+1,.cons h r=>by simpa using znI n r
theorem zmp{base β x s}(h:Rdr base β x s σ)(hb1:s.b.length≤2^37)(hn:zda s=none→zaK R x σ)(hs:∀l s',zda s=some (l,s')→∀σ' rows g,All2 HV rows l→σ.nf≤g→g<σ'.nf→σ'.F g=.alive→¬zaj σ' x g→Rdr base β x s' σ'→zK x σ σ'→s'.b.length+l.length≤s.b.length→R (.ret (.sl (.fam g false) 5 rows)) σ'):zzQ G 88 [.ptr x 0] σ R:=by
 refine zAW rfl ?_
 simp[zMZ]
 refine zaz (n:=1) h (fun q=>hn (by unfold zda;rw[q];rfl)) (fun s1 q1 σ1 hr1 hk1=>?_)
 have hsl1:s1.b.length≤s.b.length:=by
  unfold zE at q1
  simp only[ybA]at q1
  obtain⟨⟨c,s2⟩,h1,h2⟩:=q1
  obtain⟨b1,_⟩:=zm h1
  split at h2
  ·rw[ybB]at h2
   obtain⟨⟨m,s3⟩,h3,rfl⟩:=h2
   obtain⟨⟨xx,_,hxx⟩,_⟩:=zu h3
   have:=zaO hxx
   have:s.b.length=s2.b.length+1:=by rw[b1];rfl
   simp only at *
   omega
  ·cases h2
 simp
 refine zw hr1 (fun q=>zaK.mono (hn (by unfold zda;rw[q1];simp only[ycY];rw[q];rfl)) hk1.r) (fun N s2 q2 σ2 hr2 hk2=>?_)
 obtain⟨⟨xx,_,hxx⟩,_,_,n1,n2,_⟩:=zu q2
 have hsl2:=zaO hxx
 have K2:=hk1.trans hk2
 have hh:zda s=(zb8 (zdE false) N.toNat s2).bind fun q=>if 3≤q.1.length then some (q.1.drop 3,q.2)else none:=by
  unfold zda
  rw[q1]
  simp only[ycY]
  rw[q2]
  rfl
 obtain⟨_,_,ho2,_⟩:=hr2.cells
 simp
 refine zH (HdI base β x N s2 σ2) (MU 9 (N.toNat+1)) ⟨0,[],[],s2,by omega,by cases hq:zb8 (zdE false) N.toNat s2<;>simp[hq],by simp,by simp,by simp,by simp,.nil,.inl ⟨rfl,by simp⟩,hr2,.refl ho2⟩ fun a τ hI=>?_
 refine zrE n2 (by omega) hr2.hb.2 (fun q=>zaK.mono (hn (by rw[hh,q];rfl)) K2.r) (fun l s' q a τ rows hrows hG hR hK hlen=>?_) hI
 rw[q]at hh
 simp only[ycY]at hh
 have hrl:=hrows.length
 have K3:=K2.trans hK
 by_cases h3:3≤l.length
 ·rw[if_pos h3]at hh
  rcases hG with ⟨e1,_⟩|⟨g,e1,e2,e3,e4,e5⟩
  ·rw[e1]at hrl
   simp at hrl
   omega
  ·have h3':(3:Int)≤(l.length:Int):=by omega
   simp[zi2,e1,hrl,h3']
   refine zy (fun _=>?_) (fun q=>by cases q)
   have hcut:cut (.fam g false) false=.fam g false:=rfl
   have htk:ycJ l.length rows=rows:=ycE (by omega)
   simp[e1,hrl,htk]
   refine⟨by omega,?_⟩
   have:=K2.nf
   exact hs _ _ hh _ _ g (znI 3 hrows) (by omega) e3 e4 e5 hR K3 (by simp;omega)
 ·have h3':¬(3:Int)≤(l.length:Int):=by omega
  rw[if_neg h3]at hh
  have hln:∀K:AV→Prop,zh5 yb9 26 (a 2) K=K (.int .i64 (l.length:Int)):=fun K=>by
   rcases hG with ⟨e1,e2⟩|⟨g,e1,_⟩
   ·rw[e2,←hrl,e1];simp
   ·rw[e1,←hrl];simp
  simp[zi2,hln,h3']
  refine zy (fun q=>by cases q) (fun _=>?_)
  simp
  exact hn hh _ _ (.inl rfl) K3.r
end
structure Md(σ0:AS)(base:Nat)(β:Option Nat)(x mo:Nat)(mc:List AV)(s:Rs)(τ:AS):Prop where
 rd:Rdr base β x s τ
 ad:zd σ0 τ
 ob:τ.objs mo=some mc
 lt:mo<τ.no
 mx:mo≠x
 x0:σ0.no≤x
 m0:σ0.no≤mo
 b0:σ0.nf≤base
 len:s.b.length≤2^37
theorem zK.adds0{x σ0 σ σ'}(K:zK x σ σ')(A:zd σ0 σ)(hx:σ0.no≤x):zd σ0 σ':=⟨yai A.no K.no,yai A.nf K.nf,fun o ho=>by
 have:=A.no
 rw[K.obj o (by omega) (by omega),A.obj o ho],fun f hf=>by
 have:=A.nf
 rw[K.fam f (by omega),A.fam f hf]⟩
theorem Md.keepS{σ0 base β x mo mc s s' τ τ'}(M:Md σ0 base β x mo mc s τ)(K:zK x τ τ')(h:Rdr base β x s' τ')(hl:s'.b.length≤s.b.length):Md σ0 base β x mo mc s' τ' :=
 ⟨h,K.adds0 M.ad M.x0,(K.obj mo M.lt M.mx).trans M.ob,yag M.lt K.no,M.mx,M.x0,M.m0,M.b0,by have:=M.len;omega⟩
theorem Md.none{σ0 base β x mo mc s τ}(M:Md σ0 base β x mo mc s τ){R:Out→AS→Prop}(h:zer R σ0):zaK R x τ:=zgG h M.ad M.x0 M.b0 M.rd
theorem Md.setM{σ0 base β x mo mc mc' s τ}(M:Md σ0 base β x mo mc s τ):Md σ0 base β x mo mc' s (τ.setO mo mc') :=
 ⟨M.rd.setO M.mx,M.ad.setO M.m0,by simp,M.lt,M.mx,M.x0,M.m0,M.b0,M.len⟩
theorem zci{n:Int}{s:Rs}(h:zcR n s=none):zaT n s=none:=by unfold zaT;rw[h];rfl
theorem zcj{n:Int}{s s':Rs}{p:List UInt8}(h:zcR n s=some (p,s')):zaT n s=some s':=by unfold zaT;rw[h];rfl
theorem zb9{n:Int}{s s':Rs}{p:List UInt8}(h:zcR n s=some (p,s')):s'.b.length≤s.b.length:=zaO (zau h).1
theorem zL{st sg:Bool}{n:Int}{s s':Rs}(h:zdq st sg s=some (n,s')):s'.b.length≤s.b.length:=by
 obtain⟨⟨xx,_,hx⟩,_⟩:=zu h
 exact zaO hx
theorem zal{n:UInt8}{s s':Rs}(h:zE n s=some s'):s'.b.length≤s.b.length:=by
 unfold zE at h
 simp only[ybA]at h
 obtain⟨⟨c,s2⟩,h1,h2⟩:=h
 obtain⟨b1,_⟩:=zm h1
 have:s.b.length=s2.b.length+1:=by rw[b1];rfl
 split at h2
 ·rw[ybB]at h2
  obtain⟨⟨m,s3⟩,h3,rfl⟩:=h2
  have:=zL h3
  simp only at *
  omega
 ·cases h2
structure Fn(x mo fo:Nat)(C:List AV)(τ:AS):Prop where
 ob:τ.objs fo=some C
 lt:fo<τ.no
 fx:fo≠x
 fm:fo≠mo
theorem Fn.keepS{x mo fo C τ τ'}(h:Fn x mo fo C τ)(K:zK x τ τ'):Fn x mo fo C τ':=⟨(K.obj fo h.lt h.fx).trans h.ob,yag h.lt K.no,h.fx,h.fm⟩
theorem Fn.setM{x mo fo C τ cs}(h:Fn x mo fo C τ):Fn x mo fo C (τ.setO mo cs):=⟨by have:¬fo=mo:=h.fm;simp[this,h.ob],h.lt,h.fx,h.fm⟩
def znJ(h:List F)(s:Rs):Option ((List F × Int × Int) × Rs):=(zE 5 s).bind fun s=>(zaT 3 s).bind fun s=>(zE 6 s).bind fun s=>(zaT 4 s).bind fun s =>
 (zdq false true s).bind fun mem=>(zaT 1 mem.2).bind fun s=>(zE 7 s).bind fun s=>(zaT 7 s).bind fun s=>(zdq false false s).map fun mn=>((h,mem.1,mn.1),mn.2)
def zhN(h:List F)(s:Rs):Option ((List F × Int × Int) × Rs):=(zE 3 s).bind fun s=>(zdq false false s).bind fun p=>(zb8 (zdq false false) p.1.toNat p.2).bind fun r=>znJ h r.2
theorem ztI(s:Rs):zje s=(zaT 8 s).bind fun s=>(zda s).bind fun h=>(zE 2 h.2).bind fun s=>(zaT 1 s).bind fun s=>(zaT 9 s).bind fun s=>(zaT 10 s).bind fun s=>(zaT 11 s).bind fun s=>zhN h.1 s:=rfl
def zBG(p:(List F × Int × Int) × Rs):Option (M × Rs):=(zmj p.1.1 p.2).map fun q=>({ funcs:=q.1,memory:=p.1.2.1,main:=yb4 .i64 (p.1.2.2-3) },q.2)
theorem zrF(s:Rs):zb4 s=(zje s).bind zBG:=rfl
def znK(h:List F)(fs:List F)(s:Rs):Option (List F × Rs):=(zE 0 s).bind fun s=>(zaT 6 s).bind fun s=>(zdq false false s).bind fun x=>(zdq false false x.2).bind fun y =>
  if y.1=h.length then zeT false fs y.2 else none
def zL4(h:List F)(s:Rs):Option (List F × Rs):=(zF false h s).bind fun fs=>znK h fs.1 fs.2
theorem zwL(h:List F)(s:Rs):zmj h s=(zE 10 s).bind fun s=>(zdq false false s).bind fun c=>if c.1=h.length then zL4 h c.2 else none:=rfl
section
variable {G : Env} {σ : AS} {R : Out → AS → Prop}
def imK(h:List F)(i:Nat)(s:Rs):Option ((List F × Int × Int) × Rs):=match i with
 | 0=>(zaT 9 s).bind fun s=>(zaT 10 s).bind fun s=>(zaT 11 s).bind fun s=>zhN h s
 | 1=>(zaT 10 s).bind fun s=>(zaT 11 s).bind fun s=>zhN h s
 | 2=>(zaT 11 s).bind fun s=>zhN h s
 | _=>zhN h s
def Im1(σ0:AS)(base:Nat)(β:Option Nat)(x mo fo:Nat)(mc C:List AV)(h:List F)(res:Option (M × Rs))(n0:Nat)(a:Nat→AV)(τ:AS):Prop:=∃(i:Nat) (s:Rs),i≤3∧a 0=.ptr x 0∧a 2=.ptr mo 0∧a 16=.sl (.stat true) 1 (zgD.map yco)∧a 17=.int .i64 3∧a 18=.int .i64 (i:Int)∧Md σ0 base β x mo mc s τ∧Fn x mo fo C τ∧s.n=n0∧res=(imK h i s).bind zBG
theorem znL{σ0 base β x mo fo mc C}{h:List F}{res:Option (M × Rs)}{n0:Nat}(hn:res=none→zer R σ0)(fin:∀s a τ,a 0=.ptr x 0→a 2=.ptr mo 0→Md σ0 base β x mo mc s τ→Fn x mo fo C τ→s.n=n0→res=(zhN h s).bind zBG→avc yb9 G 114 zi0 (zba yb9 [.cell 2 28] R) a τ)
  {a:Nat→AV} {τ:AS} (hI:Im1 σ0 base β x mo fo mc C h res n0 a τ):avc yb9 G 114 zlB (z7 (fun a' σ'=>Im1 σ0 base β x mo fo mc C h res n0 a' σ'∧MU 18 4 a' σ'<MU 18 4 a τ) (z8 0 (z7 (avc yb9 G 114 zi0 (zba yb9 [.cell 2 28] R)) (zba yb9 [.cell 2 28] R)))) a τ:=by
 obtain⟨i,s,hi,a0,a2,a16,a17,a18,hM,hF,hs,he⟩:=hI
 by_cases hlt:i<3
 ·have hlt':(i:Int)<3:=by omega
  have w1:yb4 .i64 ((i:Int)+1)=((i+1:Nat):Int):=by rw[zc]<;>omega
  obtain⟨w,k,hw,hk1,hk2,hk3⟩:∃(w:List UInt8) (k:Nat),zgD[i]?=some w∧yb4 .i64 (yb4 .i64 (5+(w.length:Int))+2)=(k:Int)∧(zaT (k:Int) s=none→imK h i s=none)∧(∀s',zaT (k:Int) s=some s'→imK h i s=imK h (i+1) s'):=by
   rcases i with _|_|_|i
   ·exact⟨[105,110],9,rfl,rfl,fun q=>by unfold imK;rw[show((9:Nat):Int)=9 from rfl]at q;rw[q];rfl,fun s' q=>by rw[show((9:Nat):Int)=9 from rfl]at q;simp only[imK];rw[q];rfl⟩
   ·exact⟨[111,117,116],10,rfl,rfl,fun q=>by unfold imK;rw[show((10:Nat):Int)=10 from rfl]at q;rw[q];rfl,fun s' q=>by rw[show((10:Nat):Int)=10 from rfl]at q;simp only[imK];rw[q];rfl⟩
   ·exact⟨[116,114,97,112],11,rfl,rfl,fun q=>by unfold imK;rw[show((11:Nat):Int)=11 from rfl]at q;rw[q];rfl,fun s' q=>by rw[show((11:Nat):Int)=11 from rfl]at q;simp only[imK];rw[q];rfl⟩
   ·omega
  have hw2:(zgD.map yco)[i]?=some (.str w):=by simp[hw]
  simp[zlB,a0,a16,a17,a18,hlt',hw2,hk1]
  refine zah hM.rd (fun q=>hM.none (hn (by rw[he,hk2 (zci q)];rfl))) (fun p s1 q v τ1 _ hr hk=>?_)
  have hM1:=hM.keepS hk hr (zb9 q)
  simp[a18,w1]
  refine⟨⟨i+1,s1,by omega,by simp[a0],by simp[a2],by simp[a16],by simp[a17],by simp,hM1,hF.keepS hk,by rw[(zau q).2.2,hs],by rw[he,hk3 s1 (zcj q)]⟩,?_⟩
  simp only[MU,a18];simp;omega
 ·have:i=3:=by omega
  subst this
  simp[zlB,a17,a18]
  exact fin s _ _ (by simpa using a0) (by simpa using a2) hM hF hs he
def Nm2(σ0:AS)(base:Nat)(β:Option Nat)(x mo fo:Nat)(mc C:List AV)(h:List F)(res:Option (M × Rs))(n0:Nat)(N:Int)(a:Nat→AV)(τ:AS):Prop:=∃(i:Nat) (s:Rs),(i:Int)≤max N 0∧a 0=.ptr x 0∧a 2=.ptr mo 0∧a 32=.int .i64 N∧a 33=.int .i64 (i:Int)∧Md σ0 base β x mo mc s τ∧Fn x mo fo C τ∧s.n=n0∧res=((zb8 (zdq false false) (N.toNat-i) s).bind fun r=>znJ h r.2).bind zBG
theorem znM{σ0 base β x mo fo mc C}{h:List F}{res:Option (M × Rs)}{n0:Nat}{N:Int}(hN:N<2^63)(hn:res=none→zer R σ0)(fin:∀s a τ,a 0=.ptr x 0→a 2=.ptr mo 0→Md σ0 base β x mo mc s τ→Fn x mo fo C τ→s.n=n0→res=(znJ h s).bind zBG→avc yb9 G 114 ziZ (zba yb9 [.cell 2 28] R) a τ)
  {a:Nat→AV} {τ:AS} (hI:Nm2 σ0 base β x mo fo mc C h res n0 N a τ):avc yb9 G 114 zlC (z7 (fun a' σ'=>Nm2 σ0 base β x mo fo mc C h res n0 N a' σ'∧MU 33 (N.toNat+1) a' σ'<MU 33 (N.toNat+1) a τ) (z8 2 (z7 (avc yb9 G 114 ziZ (zba yb9 [.cell 2 28] R)) (zba yb9 [.cell 2 28] R)))) a τ:=by
 obtain⟨i,s,hi,a0,a2,a32,a33,hM,hF,hs,he⟩:=hI
 by_cases hlt:(i:Int)<N
 ·have w1:yb4 .i64 ((i:Int)+1)=((i+1:Nat):Int):=by rw[zc]<;>omega
  simp[zlC,a0,a32,a33,hlt]
  refine zw hM.rd (fun q=>hM.none (hn (by rw[he,zcV (by omega) q];rfl))) (fun n s1 q τ1 hr hk=>?_)
  have hM1:=hM.keepS hk hr (zL q)
  simp[a33,w1]
  refine⟨⟨i+1,s1,by omega,by simp[a0],by simp[a2],by simp[a32],by simp,hM1,hF.keepS hk,by rw[(zu q).2.2.1,hs],?_⟩,?_⟩
  ·rw[he,zgF (s':=s1) (a:=n) (by omega) q]
   have:N.toNat-i-1=N.toNat-(i+1):=by omega
   rw[this]
   cases zb8 (zdq false false) (N.toNat-(i+1)) s1 with
   | none=>rfl
   | some p=>rfl
  ·simp only[MU,a33];simp;omega
 ·simp[zlC,a32,a33,hlt]
  have hz:N.toNat-i=0:=by omega
  rw[hz]at he
  exact fin s _ _ (by simpa using a0) (by simpa using a2) hM hF hs he
end
end Go.Proofs.YtohfclafhegadaaGreatDoor
