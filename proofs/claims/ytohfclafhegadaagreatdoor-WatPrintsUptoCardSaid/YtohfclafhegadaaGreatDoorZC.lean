/- Parts of the proof of the row WatPrintsUpto: contracts of functions, each under the conditions that its theorem names. -/
import Derived.Test.YtohfclafhegadaaGreatDoorZB
import Derived.Test.YtohfclafhegadaaGreatDoorZA
import Derived.Lib.ItoaLen
set_option linter.unusedSimpArgs false
set_option linter.unusedVariables false
set_option maxRecDepth 100000
open List renaming getD_eq_getElem?_getD→yce,flatMap_cons→yaa,length_cons→yac,length_append→yab,length_nil→ybl,take_succ_eq_append_getElem→ycm,getElem?_eq_getElem→yau,getElem_mem→yaw,length_take→ybf,append_assoc→ycG,take_of_length_le→yco,drop_eq_getElem_cons→ycs,find?_eq_none→ycW,getElem?_eq_some_iff→yaq,drop_eq_nil_of_le→ycE,append_nil→yb7
open Nat renaming le_refl→yah,lt_of_lt_of_le→yag
open Go.Proofs.Tryz renaming prog→yb9
open Go.IntKind renaming wrap→yb4
open Go.Abs.AV renaming int→ycn,str→ycp,nilsl→ycq
namespace Go.Proofs.YtohfclafhegadaaGreatDoor
open Go Go.Abs
theorem zng{w:W}(h:zcU w=false):zt w=[]:=by
 simp only[zcU,Bool.or_eq_false_iff,decide_eq_false_iff_not]at h
 unfold zt
 rw[if_neg (by omega),if_neg (by omega)]
theorem zo9{w:W}(h:w.op=11∨w.op=12∨w.op=13∧w.other<0):zt w=[w.body]:=by
 unfold zt
 rw[if_pos h]
theorem zpa{w:W}(h:w.op=13)(ho:0≤w.other):zt w=[w.body,w.other]:=by
 unfold zt
 rw[if_neg (by omega),if_pos h]
def gL(ls:To)(k:Nat):Nat:=(ls.getD k []).length
theorem zrS{B:Nat}{ls:To}(ha:zk1 ls){d:Nat}{ws:List W}{acc acc':To}{toks:List Tok}{out:List W}(h:PrB B ls d ws acc toks out acc'):
  out.length+zfp acc'=zfp acc+ws.length+zho (ws.flatMap zt) (zjP (gL ls) ls)∧acc'.length+2*zfp acc≤acc.length+2*(out.length+zfp acc'):=by
 have tot:∀{n:Int} {b:List W},ls[n.toNat]?=some b→zjP (gL ls) ls n.toNat=b.length+zho (b.flatMap zt) (zjP (gL ls) ls):=fun {n b} hb=>by
  rw[zk2 (gL ls) ha hb]
  have:gL ls n.toNat=b.length:=by unfold gL;rw[yce,hb];rfl
  rw[this]
 induction h with
 | nil=>simp[zho]
 | @leaf d w r acc t r' acc' hn hf hr _ ih =>
  rw[yaa,zng hn,List.nil_append]
  simp only[yac]
  omega
 | @one d w b r acc tb b' acc1 t r' acc' ho hd hb0 hb p1 p2 ih1 ih2 =>
  have e:=tot hb
  rw[yaa,zo9 ho,zdJ]
  rw[zbX]at ih2
  have e2:zho [w.body] (zjP (gL ls) ls)=zjP (gL ls) ls w.body.toNat:=by simp[zho]
  rw[e2,e]
  simp only[yac,yab,ybl]at *
  omega
 | @two d w b e r acc tb b' acc1 te e' acc2 t r' acc' ho hoo hd hb0 hb he p1 p2 p3 ih1 ih2 ih3 =>
  have q1:=tot hb
  have q2:=tot he
  rw[yaa,zpa ho hoo,zdJ]
  rw[zbX]at ih2 ih3
  have e2:zho [w.body,w.other] (zjP (gL ls) ls)=zjP (gL ls) ls w.body.toNat+zjP (gL ls) ls w.other.toNat:=by simp[zho]
  rw[e2,q1,q2]
  simp only[yac,yab,ybl]at *
  omega
theorem zmt:∀(ls:To) (k:Nat),k≤ls.length→zaI (gL ls) k=zfm id (ls.take k)
 | ls,0,_=>by simp[zaI,zfm]
 | ls,k+1,h=>by
  rw[zaI,zmt ls k (by omega),ycm (by omega),zgo]
  have:gL ls k=ls[k].length:=by unfold gL;rw[yce,yau (by omega)];rfl
  rw[this]
  simp[zfm]
theorem zpb{B:Nat}{fs:List F}{f:F}(h:zC fs f=.ok ()){toks:List Tok}{ls':To}(hp:zDg B f toks ls'):zfp ls'=zfm id f.lists∧ls'.length≤1+2*zfm id f.lists∧(spT toks).length≤64*zfm id f.lists:=by
 obtain⟨h0,ha,ht⟩:=zd8 (zby h)
 obtain⟨row,out,acc,h1,h2,rfl⟩:=hp
 have e:=ht (gL f.lists)
 rw[zk2 (gL f.lists) ha h1,zmt _ _ (yah _),List.take_length]at e
 have e1:gL f.lists (f.lists.length-1)=row.length:=by unfold gL;rw[yce,h1];rfl
 rw[e1]at e
 obtain⟨c1,c2⟩:=zrS ha h2
 have c3:=zAT h2
 have r0:zfp []=0:=rfl
 rw[r0]at c1 c2 c3
 rw[zbX]
 simp only[yab,yac,ybl]at *
 omega
theorem zki{B:Nat}{gs:List F}:∀(fs:List F),(∀f∈fs,zC gs f=.ok ()∧RgL f.lists∧f.lists.length≤B∧f.name.length≤24∧f.params.length+f.locals.length+zfm id f.lists≤3000) →
  ∃toks fs2,PrFsB B fs toks fs2∧(spT toks).length≤200000*fs.length∧∀f'∈fs2,∃f∈fs,∃t ls',zDg B f t ls'∧f'={ f with lists:=ls' }∧zfp ls'≤3000∧ls'.length≤6001
 | [],_=>⟨[],[],.nil,by simp[spT],fun f hf=>by cases hf⟩
 | f::fs,h=>by
  obtain⟨h1,h2,h3,h4,h5⟩:=h f (by simp)
  obtain⟨t1,ls',p1⟩:=zrw h1 h2 h3
  obtain⟨c1,c2,c3⟩:=zpb h1 p1
  obtain⟨t2,fs2,q1,q2,q3⟩:=zki fs fun g hg=>h g (by simp[hg])
  refine⟨zdk f t1++t2,_,.cons p1 q1,?_,fun f' hf'=>?_⟩
  ·have e:zdk f t1=[zr,zah,36::f.name]++(zG zaP f.params++(zhs f.type++(zG zaQ f.locals++(t1++[zk])))):=rfl
   have e1:(spT [zr,zah,36::f.name]).length=9+f.name.length:=by
    have:spT [zr,zah,36::f.name]=spT [zr,zah]++spT [36::f.name]:=by rw[←zc];rfl
    rw[this,yab]
    have a:(spT [zr,zah]).length=7:=rfl
    have b:(spT [36::f.name]).length=f.name.length+2:=by simp[spT]
    omega
   have e2:=zhC zaP f.params (by decide)
   have e3:=zhC zaQ f.locals (by decide)
   have e4:(spT (zhs f.type)).length≤20:=by
    unfold zhs zp
    split
    ·decide
    ·split<;>decide
   have e5:(spT [zk]).length=2:=rfl
   rw[zc,yab,e,zc,zc,zc,zc,zc]
   simp only[yab,yac]at *
   omega
  ·rcases List.mem_cons.1 hf' with rfl|hf'
   ·exact⟨f,by simp,t1,ls',p1,rfl,by omega,by omega⟩
   ·obtain⟨g,hg,r⟩:=q3 f' hf'
    exact⟨g,by simp[hg],r⟩
end Go.Proofs.YtohfclafhegadaaGreatDoor









namespace Go.Proofs.YtohfclafhegadaaGreatDoor
open Go Go.Abs
theorem zE2{gs:List F}{f:F}(h:zC gs f=.ok ())(ht:zgW 24 f.name=true):Pf 24 f:=by
 unfold zC at h
 split at h
 ·cases h
 rename_i hb
 simp only[Bool.not_eq_false,Bool.and_eq_true,List.all_append,decide_eq_true_eq]at hb
 obtain⟨⟨⟨h1,h2⟩,h3⟩,h4⟩:=hb
 have key:∀l:List Int,l.all zad=true→∀t∈l,t=1∨t=2:=fun l hl x hx=>by
  have:=List.all_eq_true.1 hl x hx
  simpa only[zad,Bool.or_eq_true,decide_eq_true_eq]using this
 exact⟨ht,key _ h1,key _ h2,by omega⟩
theorem zu8{t:List UInt8}(h:zgW 24 t=true):t.length≤24:=by
 rw[zol]at h
 simp only[Bool.and_eq_true,decide_eq_true_eq]at h
 exact h.1.2
theorem zrT(m:M)(toks:List Tok)(h1:-(2^63)≤m.memory)(h2:m.memory<2^63):(zj0 (zcf m toks)).length≤(spT toks).length+400:=by
 have hw:=(zeL (m.main+3)).1
 have i1:=Lib.itoa_length_le m.memory (by omega) (by omega)
 have i2:=Lib.itoa_length_le (yb4 .i64 (m.main+3)) (by omega) (by omega)
 have hh:zav.length=185:=by rfl
 have e1:(spT [Lib.itoa m.memory,zk,zk]).length=(Lib.itoa m.memory).length+5:=by simp[spT,zk]
 have e2:(spT [zr,zaW,zeF,zr,zah,Lib.itoa (yb4 .i64 (m.main+3)),zk,zk,zk]).length≤(Lib.itoa (yb4 .i64 (m.main+3))).length+60:=by
  simp[spT,zk,zr,zaW,zeF,zah]
 rw[ziS]
 simp only[yab,yac,ybl]
 omega
section
variable {G : Env} {σ : AS} {R : Out → AS → Prop}
theorem zs5(V:zbn G)(hG:∀k,StillI (G.g k))(hy:∀l,¬G.has l)(h:R (.ret (.bool true)) σ):zzQ G 12 [] σ R :=
 zot (vs:=[]) (Q:=fun x=>x=.bool true) hG hy (fun v hv=>by cases hv) (zu3 V ⟨by decide,rfl⟩ fun _ _=>⟨_,rfl,.bool _,rfl⟩) fun x hx=>by rw[hx];exact h
end
theorem zrU{n:Int}(h:n<0):Lib.itoa n=45::Lib.itoa (-n):=by
 unfold Lib.itoa
 rw[if_pos h,if_neg (by omega)]
 congr 2
 omega
theorem zhG{n:Int}(h0:0≤n)(h:n<10):Lib.itoa n=[UInt8.ofNat (48+n.toNat)]:=by
 unfold Lib.itoa
 rw[if_neg (by omega),Lib.decDigits,dif_pos (by omega)]
theorem zpc{n:Int}(h:10≤n):Lib.itoa n=Lib.itoa (n/10)++Lib.itoa (n%10):=by
 rw[zhG (n:=n%10) (by omega) (by omega)]
 unfold Lib.itoa
 rw[if_neg (by omega),if_neg (by omega),Lib.decDigits,dif_neg (by omega)]
 have e1:(n/10).toNat=n.toNat/10:=by omega
 have e2:(n%10).toNat=n.toNat%10:=by omega
 rw[e1,e2]
theorem znh:Lib.itoa (-(2^63))=[45,57,50,50,51,51,55,50,48,51,54,56,53,52,55,55,53,56,48,56]:=by decide +kernel
section
variable {G : Env} {σ : AS} {R : Out → AS → Prop}
theorem zen:∀(k:Nat) {n:Int} {σ:AS} {R:Out→AS→Prop},0≤n→n<2^63→n.toNat<k→R (.ret (.str (Lib.itoa n))) σ→zzQ G 83 [.int .i64 n] σ R
 | 0,_,_,_,_,_,h,_=>by omega
 | k+1,n,σ,R,h0,h1,hk,h=>by
  refine zoa rfl ?_
  have hm:¬n=-9223372036854775808:=by omega
  have hn:¬n<0:=by omega
  by_cases h10:n<10
  ·have w1:yb4 .i64 (48+n)=48+n:=by rw[wrap_i64]<;>omega
   have e:=zhG h0 h10
   have hB:[ycn .u8 (yb4 .u8 (48+n))]=B (Lib.itoa n):=by
    rw[e]
    have w8:yb4 .u8 (48+n)=((UInt8.ofNat (48+n.toNat)).toNat:Int):=by
     simp[yb4,IntKind.signed,IntKind.bits]
     omega
    rw[w8]
    rfl
   simp[zxp,hm,hn,h10,w1]
   rw[zmQ hB]
   simp
   exact h
  ·have e:=zpc (n:=n) (by omega)
   have t1:n.tdiv 10=n/10:=Int.tdiv_eq_ediv_of_nonneg h0
   have t2:n.tmod 10=n%10:=Int.tmod_eq_emod_of_nonneg h0
   have w1:yb4 .i64 (n/10)=n/10:=by rw[wrap_i64]<;>omega
   have w2:yb4 .i64 (n%10)=n%10:=by rw[wrap_i64]<;>omega
   have i1:=Lib.itoa_length_le (n/10) (by omega) (by omega)
   have i2:=Lib.itoa_length_le (n%10) (by omega) (by omega)
   simp[zxp,hm,hn,h10,t1,w1]
   refine zen k (by omega) (by omega) (by omega) ?_
   simp[t2,w2]
   refine zen k (by omega) (by omega) (by omega) ?_
   simp
   rw[←e]
   exact⟨by omega,h⟩
theorem zfL{n:Int}(h0:-(2^63)≤n)(h1:n<2^63)(h:R (.ret (.str (Lib.itoa n))) σ):zzQ G 83 [.int .i64 n] σ R:=by
 by_cases hn:n<0
 ·refine zoa rfl ?_
  by_cases hm:n=-9223372036854775808
  ·have e:Lib.itoa n=[45,57,50,50,51,51,55,50,48,51,54,56,53,52,55,55,53,56,48,56]:=by rw[hm];exact znh
   rw[e]at h
   simp[zxp,hm]
   exact h
  ·have w1:yb4 .i64 (-n)=-n:=by rw[wrap_i64]<;>omega
   have e:=zrU hn
   have i1:=Lib.itoa_length_le (-n) (by omega) (by omega)
   simp[zxp,hm,hn,w1]
   refine zen ((-n).toNat+1) (by omega) (by omega) (by omega) ?_
   simp
   rw[←e]
   exact⟨by omega,h⟩
 ·exact zen (n.toNat+1) (by omega) h1 (by omega) h
theorem zmu{t:Int}(h:R (.ret (.str (zp (if t=2 then 2 else 1)))) σ):zzQ G 85 [.int .i64 t] σ R:=by
 refine zug rfl ?_
 by_cases h2:t=2
 ·simp[h2]at h
  simp[zD9,h2]
  exact h
 ·simp[h2]at h
  simp[zD9,h2]
  exact h
end
def zdQ(p:List UInt8 × W):AV:=.agg (.str p.1::p.2.cs)
section
variable {G : Env} {σ : AS} {R : Out → AS → Prop}
theorem zA2(h:R (.ret (.sl (.stat true) 7 (zaL.map zdQ))) σ):zzQ G 186 [] σ R:=by
 refine zqU rfl ?_
 simp[zxT,splice]
 exact h
def zu9(σ0 τ:AS)(v:AV)(l:List (List UInt8 × W)):Prop:=v=.sl (.stat true) 7 (l.map zdQ)∨∃g,v=.sl (.fam g false) 7 (l.map zdQ)∧σ0.nf≤g∧g<τ.nf∧τ.F g=.alive
def zni(t:Int):List (List UInt8 × W):=if t=1 then zeG else if t=2 then zeG++zbf 1 else zaX
def RoI(σ:AS)(a:Nat→AV)(τ:AS):Prop:=∃t:Int,1≤t∧t≤3∧a 3=.int .i64 t∧a 2=.sl (.stat true) 1 (zW.map ycp)∧zu9 σ τ (a 1) (zni t)∧zf σ τ
def RiI(σ:AS)(t:Int)(a:Nat→AV)(τ:AS):Prop:=∃i:Nat,i≤16∧a 4=.int .i64 (i:Int)∧a 3=.int .i64 t∧a 2=.sl (.stat true) 1 (zW.map ycp)∧zu9 σ τ (a 1) (zni t++(zbf t).take i)∧zf σ τ
theorem zpd{σ0 τ:AS}{v:AV}{l:List (List UInt8 × W)}{p:List UInt8 × W}{el:Option TypeId}{sz:Nat}{K:AV→AS→Prop}(hv:zu9 σ0 τ v l)(A:zf σ0 τ)(hl:(l.length+1)*sz≤2^47)(h:∀v' τ',zu9 σ0 τ' v' (l++[p])→zf σ0 τ'→K v' τ'):zbJ el sz 7 v [zdQ p] τ K:=by
 have hn:=A.nf
 rcases hv with rfl|⟨g,rfl,g1,g2,g3⟩
 ·have:=h (.sl (.fam τ.nf false) 7 ((l++[p]).map zdQ)) τ.newF (.inr ⟨_,rfl,by omega,by simp,by simp⟩) A.newF
  simp at this
  simp
  refine⟨by omega,?_⟩
  first|exact this|exact⟨by omega,this⟩
 ·have hgg:¬g=τ.nf:=by omega
  have:=h (.sl (.fam τ.nf false) 7 ((l++[p]).map zdQ)) (τ.setF g .dead).newF (.inr ⟨_,rfl,by simpa using (by omega:σ0.nf≤τ.nf),by simp,by simp⟩) ⟨A.no,by simp;omega,A.obj,fun f hf=>by
   have e1:¬f=τ.nf:=by omega
   have e2:¬f=g:=by omega
   simp[e1,e2]
   exact A.fam f hf⟩
  simp at this
  simp[g3]
  first|exact this|exact⟨by omega,this⟩
theorem zA3:zaX.length=45:=by decide
theorem zpe(t:Int):(zbf t).length=17:=by simp[zbf,zW]
theorem zrV{t:Int}{i:Nat}(h:i<zW.length)(h':i<(zbf t).length):(zbf t)[i]=(zp t++46::zW[i],{ op:=4,ty:=t,n:=0,body:=0,other:=0,name:=zW[i] }):=by
 have e:(zbf t)[i]?=some (zp t++46::zW[i],{ op:=4,ty:=t,n:=0,body:=0,other:=0,name:=zW[i] }):=by
  unfold zbf
  rw[List.getElem?_append_left (by simpa using h),List.getElem?_map,yau h]
  rfl
 rw[yau h']at e
 exact Option.some.inj e
theorem zrW:∀s∈zW,s.length≤5:=by decide
theorem zeo(t:Int):(zp t).length=3:=by unfold zp;split<;>rfl
theorem zA4(h:∀v σ',zu9 σ σ' v zaX→zf σ σ'→R (.ret v) σ'):zzQ G 187 [] σ R:=by
 refine zqV rfl ?_
 simp[zxU,splice]
 refine zI (RoI σ) (MU 3 4) ⟨1,by omega,by omega,by simp,by simp;rfl,.inl (by simp;rfl),.refl _⟩ fun a τ hI=>?_
 obtain⟨t,t1,t3,a3,a2,hv,hA⟩:=hI
 have v1:(a 1).known=true∧(a 1).one=true∧(a 1).cells=[a 1]:=by
  rcases hv with e|⟨g,e,_⟩<;>rw[e]<;>simp
 by_cases h3:t≤2
 ·have w1:yb4 .i64 (t+1)=t+1:=by rw[wrap_i64]<;>omega
  have hty:zp (if t=2 then 2 else 1)=zp t:=by
   have:t=1∨t=2:=by omega
   rcases this with rfl|rfl<;>rfl
  have hdl:(zni t).length≤45:=by
   have:t=1∨t=2:=by omega
   rcases this with rfl|rfl<;>decide
  have tl:=zeo t
  simp[zix,a3,h3]
  refine zI (RiI σ t) (MU 4 17) ⟨0,by omega,by simp,by simp[a3],by simp[a2],by simpa using hv,hA⟩ fun b ρ hJ=>?_
  obtain⟨i,hi,b4,b3,b2,hv2,hB⟩:=hJ
  have v2:(b 1).known=true∧(b 1).one=true∧(b 1).cells=[b 1]:=by
   rcases hv2 with e|⟨g,e,_⟩<;>rw[e]<;>simp
  have sl:zW.length=16:=by decide
  by_cases hlt:i<16
  ·have hlt':(i:Int)<16:=by omega
   have wi:yb4 .i64 ((i:Int)+1)=((i+1:Nat):Int):=by rw[wrap_i64]<;>omega
   have hat:=zrV (t:=t) (i:=i) (by omega) (by rw[zpe];omega)
   have hsg:=zrW zW[i] (yaw (by omega))
   simp[ziw,b4,b3,b2,sl,hlt,hlt',splice]
   refine zmu ?_
   rw[hty]
   simp[splice,v2]
   refine⟨by omega,by omega,zpd (p:=(zp t++46::zW[i],{ op:=4,ty:=t,n:=0,body:=0,other:=0,name:=zW[i] })) hv2 hB (by simp only[yab,ybf];omega) fun v' τ' hv' A'=>?_⟩
   simp[b4,b3,b2,wi]
   refine⟨⟨i+1,hlt,by simp,by simp[b3],by simp[b2],?_,A'⟩,?_⟩
   ·rw[ycm (by rw[zpe];omega),hat,←ycG]
    exact hv'
   ·simp[MU,b4];omega
  ·have e:i=16:=by omega
   subst e
   simp[ziw,zlU,b4,b3,b2,sl]
   refine zmu ?_
   rw[hty]
   have heq:(zbf t).take 16++[(zp t++[46,101,113,122],{ op:=5,ty:=t,n:=0,body:=0,other:=0,name:=[] })]=zbf t:=by
    unfold zbf
    rw[List.take_append_of_le_length (by simp[sl]),yco (by simp[sl])]
   simp[splice,v2,b3]
   refine⟨by omega,zpd (p:=(zp t++[46,101,113,122],{ op:=5,ty:=t,n:=0,body:=0,other:=0,name:=[] })) hv2 hB (by simp only[yab,ybf];omega) fun v' τ' hv' A'=>?_⟩
   simp[zlV,b4,b3,b2,w1]
   refine⟨⟨t+1,by omega,by omega,by simp,by simp[b2],?_,A'⟩,?_⟩
   ·have hd:zni t++(zbf t).take 16++[(zp t++[46,101,113,122],{ op:=5,ty:=t,n:=0,body:=0,other:=0,name:=[] })]=zni (t+1):=by
     rw[ycG,heq]
     have:t=1∨t=2:=by omega
     rcases this with rfl|rfl
     ·rfl
     ·simp[zni,zaX]
    rw[←hd]
    simpa using hv'
   ·simp[MU,a3];omega
 ·have e:t=3:=by omega
  subst e
  simp[zix,zlW,a3]
  exact h _ _ hv hA
end
def ziZ(w x:W):Bool:=decide (x.op=w.op)&&(decide (w.op≠1)||decide (x.ty=w.ty))
def zfs(w x:W):Bool:=decide (x.op=w.op)&&((!(w.op==4||w.op==5||w.op==8||w.op==9)||decide (x.ty=w.ty))&&((decide (w.op≠4)||decide (x.name=w.name))&&(!(w.op==8||w.op==9)||decide (x.n=w.n))))
def zi0(w:W):Option (List UInt8):=(zaL.find? fun p=>ziZ w p.2).map (·.1)
def zpf(w:W):Option (List UInt8):=(zaX.find? fun p=>zfs w p.2).map (·.1)
theorem zpg{w w0:W}(h:w.op=w0.op)(h1:w.op=1→w.ty=w0.ty):zi0 w=zi0 w0:=by
 have:(fun p:List UInt8 × W=>ziZ w p.2)=fun p=>ziZ w0 p.2:=by
  funext p
  unfold ziZ
  by_cases e:w.op=1
  ·rw[h1 e,h]
  ·rw[h]
   have e':w0.op≠1:=by rw[←h];exact e
   simp[e']
 unfold zi0
 rw[this]
theorem zva{w w0:W}(h:w.op=w0.op)(h1:w.op=4∨w.op=5∨w.op=8∨w.op=9→w.ty=w0.ty)(h2:w.op=4→w.name=w0.name)(h3:w.op=8∨w.op=9→w.n=w0.n):zpf w=zpf w0:=by
 have:(fun p:List UInt8 × W=>zfs w p.2)=fun p=>zfs w0 p.2:=by
  funext p
  unfold zfs
  have a:(!(w.op==4||w.op==5||w.op==8||w.op==9)||decide (p.2.ty=w.ty))=(!(w0.op==4||w0.op==5||w0.op==8||w0.op==9)||decide (p.2.ty=w0.ty)):=by
   by_cases e:w.op=4∨w.op=5∨w.op=8∨w.op=9
   ·rw[h1 e,h]
   ·have e':¬(w0.op=4∨w0.op=5∨w0.op=8∨w0.op=9):=by rw[←h];exact e
    simp only[not_or]at e e'
    have q:∀x:Int,¬x=4∧¬x=5∧¬x=8∧¬x=9→(x==4||x==5||x==8||x==9)=false:=fun x hx=>by
     simp only[Bool.or_eq_false_iff,beq_eq_false_iff_ne,ne_eq]
     exact⟨⟨⟨hx.1,hx.2.1⟩,hx.2.2.1⟩,hx.2.2.2⟩
    rw[q _ e,q _ e']
    rfl
  have b:(decide (w.op≠4)||decide (p.2.name=w.name))=(decide (w0.op≠4)||decide (p.2.name=w0.name)):=by
   by_cases e:w.op=4
   ·rw[h2 e,h]
   ·have e':w0.op≠4:=by rw[←h];exact e
    simp[e,e']
  have c:(!(w.op==8||w.op==9)||decide (p.2.n=w.n))=(!(w0.op==8||w0.op==9)||decide (p.2.n=w0.n)):=by
   by_cases e:w.op=8∨w.op=9
   ·rw[h3 e,h]
   ·have e':¬(w0.op=8∨w0.op=9):=by rw[←h];exact e
    simp only[not_or]at e e'
    have q:∀x:Int,¬x=8∧¬x=9→(x==8||x==9)=false:=fun x hx=>by
     simp only[Bool.or_eq_false_iff,beq_eq_false_iff_ne,ne_eq]
     exact hx
    rw[q _ e,q _ e']
    rfl
  rw[a,b,c,h]
 unfold zpf
 rw[this]
theorem zph:∀s∈zW,∀t∈[(1:Int),2],zpf ⟨4,t,0,0,0,s⟩=some (zp t++46::s)∧zi0 ⟨4,t,0,0,0,s⟩=none:=by decide
theorem zpi:signs.map (·.1)=zW:=by decide
theorem zpj{w:W}(h:zbu w=true)(ho:w.op=8∨w.op=9):(w.ty=1∧w.n=1)∨(w.ty=1∧w.n=4)∨(w.ty=2∧w.n=8):=by
 unfold zbu at h
 rw[if_neg (by omega),if_neg (by omega),if_pos ho]at h
 simp only[zhm,Bool.or_eq_true,Bool.and_eq_true,decide_eq_true_eq]at h
 omega
theorem zrX{w:W}(hf:zbu w=true)(hn:zcU w=false):(zae w=true∧zi0 w=some (zo w))∨(zae w=false∧zi0 w=none∧zpf w=some (zo w)):=by
 obtain⟨f1,f2,f3,f4,f5⟩:=ziR hf
 have hn':w.op≠11∧w.op≠12∧w.op≠13:=by simpa [zcU,and_assoc]using hn
 have hc:w.op=1∨w.op=2∨w.op=3∨w.op=4∨w.op=5∨w.op=6∨w.op=7∨w.op=8∨w.op=9∨w.op=10∨w.op=14∨w.op=15∨w.op=16∨w.op=17∨w.op=18:=by omega
 have N:∀w0:W,w.op=w0.op→(w.op=1→w.ty=w0.ty)→zae w0=true→zi0 w0=some (zo w0)→zo w=zo w0→(zae w=true∧zi0 w=some (zo w))∨(zae w=false∧zi0 w=none∧zpf w=some (zo w)):=fun w0 a b c d e=>.inl ⟨by unfold zae at *;rw[a];exact c,by rw[zpg a b,d,e]⟩
 have Q:∀w0:W,w.op=w0.op→w.op≠1→(w.op=4∨w.op=5∨w.op=8∨w.op=9→w.ty=w0.ty)→(w.op=4→w.name=w0.name)→(w.op=8∨w.op=9→w.n=w0.n)→zae w0=false→zi0 w0=none→zpf w0=some (zo w0)→zo w=zo w0→(zae w=true∧zi0 w=some (zo w))∨(zae w=false∧zi0 w=none∧zpf w=some (zo w)):=fun w0 a a1 b b1 b2 c d d1 e=>.inr ⟨by unfold zae at *;rw[a];exact c,by rw[zpg a fun q=>absurd q a1,d],by rw[zva a b b1 b2,d1,e]⟩
 rcases hc with e|e|e|e|e|e|e|e|e|e|e|e|e|e|e
 ·rcases f3 (by omega)with t|t
  ·exact N ⟨1,1,0,0,0,[]⟩ e (fun _=>t) (by decide) (by decide) (by simp[zo,e,t])
  ·exact N ⟨1,2,0,0,0,[]⟩ e (fun _=>t) (by decide) (by decide) (by simp[zo,e,t])
 ·exact N ⟨2,0,0,0,0,[]⟩ e (by omega) (by decide) (by decide) (by simp[zo,e])
 ·exact N ⟨3,0,0,0,0,[]⟩ e (by omega) (by decide) (by decide) (by simp[zo,e])
 ·have ht:=f3 (by omega)
  have hs:w.name∈zW:=by rw[←zpi];exact zeK (f5 e)
  obtain⟨z1,z2⟩:=zph w.name hs w.ty (by simpa using ht)
  exact Q ⟨4,w.ty,0,0,0,w.name⟩ e (by omega) (fun _=>rfl) (fun _=>rfl) (by omega) (by simp[zae]) z2 (by rw[z1];simp[zo]) (by simp[zo,e])
 ·rcases f3 (by omega)with t|t
  ·exact Q ⟨5,1,0,0,0,[]⟩ e (by omega) (fun _=>t) (by omega) (by omega) (by decide) (by decide) (by decide) (by simp[zo,e,t])
  ·exact Q ⟨5,2,0,0,0,[]⟩ e (by omega) (fun _=>t) (by omega) (by omega) (by decide) (by decide) (by decide) (by simp[zo,e,t])
 ·exact Q ⟨6,0,0,0,0,[]⟩ e (by omega) (by omega) (by omega) (by omega) (by decide) (by decide) (by decide) (by simp[zo,e])
 ·exact Q ⟨7,0,0,0,0,[]⟩ e (by omega) (by omega) (by omega) (by omega) (by decide) (by decide) (by decide) (by simp[zo,e])
 ·have hb:(w.ty=1∧w.n=1)∨(w.ty=1∧w.n=4)∨(w.ty=2∧w.n=8):=zpj hf (by omega)
  rcases hb with ⟨a,b⟩|⟨a,b⟩|⟨a,b⟩
  ·exact Q ⟨8,1,1,0,0,[]⟩ e (by omega) (fun _=>a) (by omega) (fun _=>b) (by decide) (by decide) (by decide) (by simp[zo,e,a,b])
  ·exact Q ⟨8,1,4,0,0,[]⟩ e (by omega) (fun _=>a) (by omega) (fun _=>b) (by decide) (by decide) (by decide) (by simp[zo,e,a,b])
  ·exact Q ⟨8,2,8,0,0,[]⟩ e (by omega) (fun _=>a) (by omega) (fun _=>b) (by decide) (by decide) (by decide) (by simp[zo,e,a,b])
 ·have hb:(w.ty=1∧w.n=1)∨(w.ty=1∧w.n=4)∨(w.ty=2∧w.n=8):=zpj hf (by omega)
  rcases hb with ⟨a,b⟩|⟨a,b⟩|⟨a,b⟩
  ·exact Q ⟨9,1,1,0,0,[]⟩ e (by omega) (fun _=>a) (by omega) (fun _=>b) (by decide) (by decide) (by decide) (by simp[zo,e,a,b])
  ·exact Q ⟨9,1,4,0,0,[]⟩ e (by omega) (fun _=>a) (by omega) (fun _=>b) (by decide) (by decide) (by decide) (by simp[zo,e,a,b])
  ·exact Q ⟨9,2,8,0,0,[]⟩ e (by omega) (fun _=>a) (by omega) (fun _=>b) (by decide) (by decide) (by decide) (by simp[zo,e,a,b])
 ·exact N ⟨10,0,0,0,0,[]⟩ e (by omega) (by decide) (by decide) (by simp[zo,e])
 ·exact N ⟨14,0,0,0,0,[]⟩ e (by omega) (by decide) (by decide) (by simp[zo,e])
 ·exact N ⟨15,0,0,0,0,[]⟩ e (by omega) (by decide) (by decide) (by simp[zo,e])
 ·exact Q ⟨16,0,0,0,0,[]⟩ e (by omega) (by omega) (by omega) (by omega) (by decide) (by decide) (by decide) (by simp[zo,e])
 ·exact Q ⟨17,0,0,0,0,[]⟩ e (by omega) (by omega) (by omega) (by omega) (by decide) (by decide) (by decide) (by simp[zo,e])
 ·exact Q ⟨18,0,0,0,0,[]⟩ e (by omega) (by omega) (by omega) (by omega) (by decide) (by decide) (by decide) (by simp[zo,e])
def zeP(w:W):List UInt8:=match zi0 w with
 | some t=>32::(t++32::Lib.itoa w.n)
 | none=>match zpf w with
  | some t=>32::t
  | none=>[]
theorem zmv{α:Type}{p:α→Bool}{l:List α}{i:Nat}(hi:i<l.length)(hb:∀x∈l.take i,p x=false)(h:p l[i]=true):l.find? p=some l[i]:=by
 have e:l=l.take i++l[i]::l.drop (i+1):=by rw[←ycs hi,List.take_append_drop]
 have hn:(l.take i).find? p=none:=by
  rw[ycW]
  intro x hx
  simp[hb x hx]
 have:=congrArg (List.find? p) e
 rw[List.find?_append,hn,List.find?_cons,h]at this
 simpa using this
theorem zmw{α:Type}{p:α→Bool}{l:List α}(hb:∀x∈l,p x=false):l.find? p=none:=by
 rw[ycW]
 intro x hx
 simp[hb x hx]
theorem zmx{α:Type}{p:α→Bool}{l:List α}{i:Nat}(hi:i<l.length)(hb:∀x∈l.take i,p x=false)(h:p l[i]=false):∀x∈l.take (i+1),p x=false:=fun x hx=>by
 rw[ycm hi,List.mem_append,List.mem_singleton]at hx
 rcases hx with hx|rfl
 ·exact hb x hx
 ·exact h
theorem zA5:zaL.length=7:=by decide
theorem zA6:∀p∈zaL,p.1.length≤20:=by decide
theorem zA7:∀p∈zaX,p.1.length≤20:=by decide
theorem zpk{φ:Abs.Own}{l:List (List UInt8 × W)}{i:Nat}(hi:i<l.length)(K:AV→Prop):zu yb9 215 (.sl φ 7 (l.map zdQ)) (.int .i64 (i:Int)) K=K (.pv φ (zdQ l[i])):=by
 have hlt:(i:Int)<(l.length:Int):=by omega
 simp[hi,hlt]
theorem zu9.rd{σ τ:AS}{v:AV}{l:List (List UInt8 × W)}(h:zu9 σ τ v l):∃φ,v=.sl φ 7 (l.map zdQ)∧Al.Rd τ φ:=by
 rcases h with h|⟨g,h,_,h2,h3⟩
 ·exact⟨_,h,trivial⟩
 ·exact⟨_,h,h2,h3⟩
section
variable {G : Env} {σ : AS} {R : Out → AS → Prop}
def PrI(w:W)(σ:AS)(v:AV)(a:Nat→AV)(τ:AS):Prop:=∃i:Nat,i≤45∧(∀p∈zaX.take i,zfs w p.2=false)∧a 1=.ptr σ.no 0∧a 3=v∧a 5=.int .i64 (i:Int)∧τ.objs σ.no=some w.cs∧zf σ τ∧σ.no<τ.no∧∃φ,v=.sl φ 7 (zaX.map zdQ)∧Al.Rd τ φ
theorem zA8{w:W}{v:AV}(hnone:zi0 w=none)(h:∀σ',zf σ σ'→R (.ret (.str (zeP w))) σ'){a:Nat→AV}{τ:AS}(hI:PrI w σ v a τ):
  avc yb9 G 133 zN (zaF (fun a' σ'=>PrI w σ v a' σ'∧MU 5 46 a' σ'<MU 5 46 a τ) (zaG 2 (zaF (avc yb9 G 133 ziq (zep yb9 [.tmp 2] R)) (zep yb9 [.tmp 2] R)))) a τ:=by
 obtain⟨i,hi,hno,a1,a3,a5,ho,hA,hlo,φ,rfl,hrd⟩:=hI
 have hrd':=hrd.read
 have ho':=ho
 simp only[W.cs]at ho'
 have nl:=zA3
 by_cases hlt:i<45
 ·have hlt':(i:Int)<45:=by omega
  have hin:i<zaX.length:=by omega
  have w1:yb4 .i64 ((i:Int)+1)=((i+1:Nat):Int):=by rw[wrap_i64]<;>omega
  have hat:=zpk (φ:=φ) hin
  have hsl:=zA7 _ (yaw hin)
  have hno1:zfs w zaX[i].2=false→∀p∈zaX.take (i+1),zfs w p.2=false:=fun q=>zmx (p:=fun p=>zfs w p.2) hin hno q
  have hyes:zfs w zaX[i].2=true→zeP w=32::zaX[i].1:=fun q=>by
   unfold zeP zpf
   rw[hnone,zmv (p:=fun p=>zfs w p.2) hin hno q]
   rfl
  generalize zaX[i]=p at *
  obtain⟨t,x⟩:=p
  have A3:zf τ ((τ.newO zaJ.cs).setO τ.no x.cs):=(zf.refl τ).newO.setO (yah _)
  have hon:¬σ.no=τ.no:=by omega
  have miss:zfs w x=false→∀(a':Nat→AV) (τ':AS),zf τ τ'→a' 1=.ptr σ.no 0→a' 3=.sl φ 7 (zaX.map zdQ)→a' 5=.int .i64 ((i+1:Nat):Int)→PrI w σ (.sl φ 7 (zaX.map zdQ)) a' τ'∧MU 5 46 a' τ'<MU 5 46 a τ:=fun q a' τ' A q1 q3 q5 =>
   ⟨⟨i+1,hlt,hno1 q,q1,q3,q5,(A.obj _ hlo).trans ho,hA.trans A,yag hlo A.no,φ,rfl,hrd.keep A⟩,by simp[MU,q5,a5];omega⟩
  have hits:zfs w x=true→∀τ',zf τ τ'→1+t.length<4611686018427387904∧R (.ret (.str (32::t))) τ':=fun q τ' A=>by
   have hh:=h _ (hA.trans A)
   rw[hyes q]at hh
   exact⟨by simp only at hsl;omega,hh⟩
  by_cases e1:x.op=w.op
  ·by_cases e4:w.op=4
   ·by_cases e2:x.ty=w.ty
    ·by_cases e3:x.name=w.name
     ·have hq:=hits (by simp[zfs,e1,e2,e3,e4])
      simp[zN,a1,a3,a5,nl,hlt,hlt',hat,hrd',zdQ,W.cs,splice,ho',hon,w1,e1,e2,e3,e4]
      exact hq _ ((zf.refl τ).newO.setO (yah _))
     ·have hq:=miss (by simp[zfs,e1,e2,e3,e4])
      simp[zN,a1,a3,a5,nl,hlt,hlt',hat,hrd',zdQ,W.cs,splice,ho',hon,w1,e1,e2,e3,e4]
      exact hq _ _ ((zf.refl τ).newO.setO (yah _)) (by simp[a1]) (by simp[a3]) (by simp)
    ·have hq:=miss (by simp[zfs,e1,e2,e4])
     simp[zN,a1,a3,a5,nl,hlt,hlt',hat,hrd',zdQ,W.cs,splice,ho',hon,w1,e1,e2,e4]
     exact hq _ _ ((zf.refl τ).newO.setO (yah _)) (by simp[a1]) (by simp[a3]) (by simp)
   ·by_cases e5:w.op=5
    ·by_cases e2:x.ty=w.ty
     ·have hq:=hits (by simp[zfs,e1,e2,e5])
      simp[zN,a1,a3,a5,nl,hlt,hlt',hat,hrd',zdQ,W.cs,splice,ho',hon,w1,e1,e2,e5]
      exact hq _ ((zf.refl τ).newO.setO (yah _))
     ·have hq:=miss (by simp[zfs,e1,e2,e5])
      simp[zN,a1,a3,a5,nl,hlt,hlt',hat,hrd',zdQ,W.cs,splice,ho',hon,w1,e1,e2,e5]
      exact hq _ _ ((zf.refl τ).newO.setO (yah _)) (by simp[a1]) (by simp[a3]) (by simp)
    ·by_cases e8:w.op=8
     ·by_cases e2:x.ty=w.ty
      ·by_cases e3:x.n=w.n
       ·have hq:=hits (by simp[zfs,e1,e2,e3,e8])
        simp[zN,a1,a3,a5,nl,hlt,hlt',hat,hrd',zdQ,W.cs,splice,ho',hon,w1,e1,e2,e3,e8]
        exact hq _ ((zf.refl τ).newO.setO (yah _))
       ·have hq:=miss (by simp[zfs,e1,e2,e3,e8])
        simp[zN,a1,a3,a5,nl,hlt,hlt',hat,hrd',zdQ,W.cs,splice,ho',hon,w1,e1,e2,e3,e8]
        exact hq _ _ ((zf.refl τ).newO.setO (yah _)) (by simp[a1]) (by simp[a3]) (by simp)
      ·have hq:=miss (by simp[zfs,e1,e2,e8])
       simp[zN,a1,a3,a5,nl,hlt,hlt',hat,hrd',zdQ,W.cs,splice,ho',hon,w1,e1,e2,e8]
       exact hq _ _ ((zf.refl τ).newO.setO (yah _)) (by simp[a1]) (by simp[a3]) (by simp)
     ·by_cases e9:w.op=9
      ·by_cases e2:x.ty=w.ty
       ·by_cases e3:x.n=w.n
        ·have hq:=hits (by simp[zfs,e1,e2,e3,e9])
         simp[zN,a1,a3,a5,nl,hlt,hlt',hat,hrd',zdQ,W.cs,splice,ho',hon,w1,e1,e2,e3,e9]
         exact hq _ ((zf.refl τ).newO.setO (yah _))
        ·have hq:=miss (by simp[zfs,e1,e2,e3,e9])
         simp[zN,a1,a3,a5,nl,hlt,hlt',hat,hrd',zdQ,W.cs,splice,ho',hon,w1,e1,e2,e3,e9]
         exact hq _ _ ((zf.refl τ).newO.setO (yah _)) (by simp[a1]) (by simp[a3]) (by simp)
       ·have hq:=miss (by simp[zfs,e1,e2,e9])
        simp[zN,a1,a3,a5,nl,hlt,hlt',hat,hrd',zdQ,W.cs,splice,ho',hon,w1,e1,e2,e9]
        exact hq _ _ ((zf.refl τ).newO.setO (yah _)) (by simp[a1]) (by simp[a3]) (by simp)
      ·have hq:=hits (by simp[zfs,e1,e4,e5,e8,e9])
       simp[zN,a1,a3,a5,nl,hlt,hlt',hat,hrd',zdQ,W.cs,splice,ho',hon,w1,e1,e4,e5,e8,e9]
       exact hq _ ((zf.refl τ).newO.setO (yah _))
  ·have hq:=miss (by simp[zfs,e1])
   simp[zN,a1,a3,a5,nl,hlt,hlt',hat,hrd',zdQ,W.cs,splice,ho',hon,w1,e1]
   exact hq _ _ ((zf.refl τ).newO.setO (yah _)) (by simp[a1]) (by simp[a3]) (by simp)
 ·have e:i=45:=by omega
  subst e
  rw[yco (by omega)]at hno
  have hsay:zeP w=[]:=by
   unfold zeP zpf
   rw[hnone,zmw hno]
   rfl
  have hh:=h _ hA
  rw[hsay]at hh
  simp[zN,ziq,a1,a3,a5,nl]
  exact hh
def PnI(w:W)(σ:AS)(a:Nat→AV)(τ:AS):Prop:=∃i:Nat,i≤7∧(∀p∈zaL.take i,ziZ w p.2=false)∧a 1=.ptr σ.no 0∧a 3=.sl (.stat true) 7 (zaL.map zdQ)∧a 4=.int .i64 (i:Int)∧τ.objs σ.no=some w.cs∧zf σ τ∧σ.no<τ.no
theorem zrY{w:W}(hr:RgW w)(h:∀σ',zf σ σ'→R (.ret (.str (zeP w))) σ'):zzQ G 149 [w.av] σ R:=by
 refine zqC rfl ?_
 have A1:zf σ (σ.newO w.cs):=(zf.refl σ).newO
 have o1:(σ.newO w.cs).objs σ.no=some w.cs:=by simp
 simp[zxH,W.av]
 refine zA2 ?_
 simp
 refine zI (PnI w σ) (MU 4 8) ⟨0,by omega,by simp,by simp,by simp,by simp,by simp,A1,by simp⟩ fun a τ hI=>?_
 obtain⟨i,hi,hno,a1,a3,a4,ho,hA,hlo⟩:=hI
 have ho':=ho
 simp only[W.cs]at ho'
 have nl:=zA5
 by_cases hlt:i<7
 ·have hlt':(i:Int)<7:=by omega
  have hin:i<zaL.length:=by omega
  have w1:yb4 .i64 ((i:Int)+1)=((i+1:Nat):Int):=by rw[wrap_i64]<;>omega
  have hat:=zpk (φ:=.stat true) hin
  have hsl:=zA6 _ (yaw hin)
  have hno1:ziZ w zaL[i].2=false→∀p∈zaL.take (i+1),ziZ w p.2=false:=fun q=>zmx (p:=fun p=>ziZ w p.2) hin hno q
  have hyes:ziZ w zaL[i].2=true→zi0 w=some zaL[i].1:=fun q=>by
   unfold zi0
   rw[zmv (p:=fun p=>ziZ w p.2) hin hno q]
   rfl
  generalize zaL[i]=p at *
  obtain⟨t,x⟩:=p
  by_cases e1:x.op=w.op
  ·by_cases e2:w.op=1
   ·by_cases e3:x.ty=w.ty
    ·simp[zc8,a1,a3,a4,nl,hlt,hlt',hat,zdQ,W.cs,ho',w1,e1,e2,e3]
     have hq:ziZ w x=true:=by simp[ziZ,e1,e2,e3]
     have hsay:zeP w=32::(t++32::Lib.itoa w.n):=by unfold zeP;rw[hyes hq]
     have il:=Lib.itoa_length_le w.n (by have:=hr.1;omega) (by have:=hr.2;omega)
     simp only at hsl
     refine⟨by omega,by omega,zfL hr.1 hr.2 ?_⟩
     have hh:=h _ hA
     rw[hsay]at hh
     simp
     exact⟨by omega,hh⟩
    ·simp[zc8,a1,a3,a4,nl,hlt,hlt',hat,zdQ,W.cs,ho',w1,e1,e2,e3]
     have hq:ziZ w x=false:=by simp[ziZ,e1,e2,e3]
     refine⟨⟨i+1,hlt,hno1 hq,by simp[a1],by simp[a3],by simp,ho,hA,hlo⟩,?_⟩
     simp[MU,a4];omega
   ·simp[zc8,a1,a3,a4,nl,hlt,hlt',hat,zdQ,W.cs,ho',w1,e1,e2]
    have hq:ziZ w x=true:=by simp[ziZ,e1,e2]
    have hsay:zeP w=32::(t++32::Lib.itoa w.n):=by unfold zeP;rw[hyes hq]
    have il:=Lib.itoa_length_le w.n (by have:=hr.1;omega) (by have:=hr.2;omega)
    simp only at hsl
    refine⟨by omega,by omega,zfL hr.1 hr.2 ?_⟩
    have hh:=h _ hA
    rw[hsay]at hh
    simp
    exact⟨by omega,hh⟩
  ·simp[zc8,a1,a3,a4,nl,hlt,hlt',hat,zdQ,W.cs,ho',w1,e1]
   have hq:ziZ w x=false:=by simp[ziZ,e1]
   refine⟨⟨i+1,hlt,hno1 hq,by simp[a1],by simp[a3],by simp,ho,hA,hlo⟩,?_⟩
   simp[MU,a4];omega
 ·have e:i=7:=by omega
  subst e
  rw[yco (by omega)]at hno
  have hnone:zi0 w=none:=by
   unfold zi0
   rw[zmw hno]
   rfl
  simp[zc8,zlM,a1,a3,a4,nl]
  refine zA4 fun v σ2 hv A2=>?_
  have ho2:=(A2.obj _ hlo).trans ho
  have hA2:=hA.trans A2
  have hl2:σ.no<σ2.no:=by have:=A2.no;omega
  simp
  refine zI (PrI w σ v) (MU 5 46) ⟨0,by omega,by simp,by simp[a1],by simp,by simp,ho2,hA2,hl2,hv.rd⟩ fun b ρ hJ=>?_
  exact zA8 hnone h hJ
end
theorem zpl{w:W}(hf:zbu w=true)(hn:zcU w=false):zeP w=spT (zce w):=by
 rcases zrX hf hn with ⟨a,b⟩|⟨a,b,c⟩
 ·unfold zeP zce
  rw[b,a]
  simp[spT]
 ·unfold zeP zce
  rw[b,c,a]
  simp[spT]
section
variable {G : Env} {σ : AS} {R : Out → AS → Prop}
def TdI(kw:List UInt8)(v:AV)(l:List Int)(σ:AS)(a:Nat→AV)(τ:AS):Prop:=∃i:Nat,i≤l.length∧a 1=v∧a 5=.str (spT [zr,kw]++spT ((l.take i).map zp))∧a 6=.int .i64 (i:Int)∧τ=σ
theorem zmy(l:List Int):(spT (l.map zp)).length=4*l.length:=by
 induction l with
 | nil=>rfl
 | cons t l ih =>
  have:=zeo t
  simp only[List.map_cons,spT,yaa,yab,yac]at *
  omega
theorem ziW{kw:List UInt8}{v:AV}{l:List Int}(hv:Al.IntsO σ v l)(hk:kw.length≤10)(hl:l.length≤2^40)(ht:∀t∈l,t=1∨t=2)(h:R (.ret (.str (spT (zG kw l)))) σ):zzQ G 84 [.str kw,v] σ R:=by
 refine zuf rfl ?_
 have vl:=hv.len
 by_cases h0:l=[]
 ·subst h0
  simp[zG,spT]at h
  simp[zD8,vl]
  exact h
 ·have hne:¬l.length=0:=fun q=>h0 (List.length_eq_zero_iff.1 q)
  have hnei:¬(l.length:Int)=0:=by omega
  have hsp:spT (zG kw l)=spT [zr,kw]++spT (l.map zp)++[32,41]:=by
   unfold zG
   rw[if_neg h0]
   have:zr::kw::(l.map zp++[zk])=[zr,kw]++(l.map zp++[zk]):=rfl
   rw[this,zc,zc,ycG]
   rfl
  rw[hsp]at h
  simp[zD8,vl,h0,hne,hnei]
  refine⟨by omega,zI (TdI kw v l σ) (MU 6 (l.length+1)) ⟨0,by omega,by simp,by simp[spT,zr],by simp,rfl⟩ fun a τ hI=>?_⟩
  obtain⟨i,hi,a1,a5,a6,rfl⟩:=hI
  by_cases hlt:i<l.length
  ·obtain⟨φ,hr,hat⟩:=hv.at hlt
   have hr':=hr.read
   have hlti:(i:Int)<(l.length:Int):=by omega
   have w1:yb4 .i64 ((i:Int)+1)=((i+1:Nat):Int):=by rw[wrap_i64]<;>omega
   have htt:zp (if l[i]=2 then 2 else 1)=zp l[i]:=by
    rcases ht _ (yaw hlt)with e|e<;>rw[e]<;>rfl
   have hsl:=zmy (l.take i)
   have hs2:(spT [zr,kw]).length≤20:=by simp[spT,zr];omega
   have tl:=zeo l[i]
   rw[ybf]at hsl
   have hnx:spT ((l.take (i+1)).map zp)=spT ((l.take i).map zp)++32::zp l[i]:=by
    rw[ycm hlt,List.map_append,zc]
    simp[spT]
   generalize hX:spT [zr,kw]++spT ((l.take i).map zp)=X at a5
   have hXl:X.length≤20+4*i:=by rw[←hX,yab];omega
   simp[zkS,a1,a5,a6,vl,hlt,hlti,hat,hr']
   refine⟨by omega,zmu ?_⟩
   rw[htt]
   simp[a1,a6,w1]
   refine⟨by omega,⟨i+1,hlt,by simp[a1],?_,by simp,rfl⟩,?_⟩
   ·rw[hnx,←ycG,hX]
    simp
   ·simp[MU,a6];omega
  ·have e:i=l.length:=by omega
   subst e
   have hsl:=zmy l
   have hs2:(spT [zr,kw]).length≤20:=by simp[spT,zr];omega
   rw[yco (yah _)]at a5
   generalize hX:spT [zr,kw]++spT (l.map zp)=X at a5 h
   have hXl:X.length≤20+4*l.length:=by rw[←hX,yab];omega
   simp[zkS,zob,a1,a5,a6,vl]
   exact⟨by omega,h⟩
def zDn(B:Nat)(G:Env)(σ0:AS)(ls:To)(d:Nat):Prop:=∀(σ:AS) (R:Out→AS→Prop) (fv:AV) (f:F) (i:Int) (ws:List W) (toks:List Tok) (acc:To) (out:List W) (acc':To),f.lists=ls→Al.FVO σ0 fv f→zf σ0 σ→0≤i→ls[i.toNat]?=some ws→PrB B ls d ws acc toks out acc'→(spT toks).length<2^44 →
 (∀σ',zf σ σ'→R (.ret (.str (spT toks))) σ')→zzQ G 86 [fv,.int .i64 i] σ R
def LdI(B:Nat)(ls:To)(d:Nat)(fc:List AV)(i:Int)(ws:List W)(toks:List Tok)(acc':To)(σ:AS)(a:Nat→AV)(τ:AS):Prop:=∃(j:Nat) (t1 t2:List Tok) (acc1:To) (out1:List W),j≤ws.length∧toks=t1++t2∧PrB B ls d (ws.drop j) acc1 t2 out1 acc' ∧
 a 1=.int .i64 i∧a 2=.ptr σ.no 0∧a 5=.str (spT t1)∧a 6=.int .i64 (j:Int)∧τ.objs σ.no=some fc∧σ.no<τ.no∧zf σ τ
theorem znj{B:Nat}{σ0 ls d}(IH:d<B→zDn B G σ0 ls (d+1)){f:F}{pv lv tv:AV}{i:Int}{ws:List W}{toks:List Tok}{acc':To}(hls:f.lists=ls)(hf:Al.FVO σ0 (.agg [.str f.name,pv,lv,.int .i64 f.type,tv]) f)(h1:pv.known=true∧pv.one=true∧pv.cells=[pv])(h2:lv.known=true∧lv.one=true∧lv.cells=[lv])(h3:tv.known=true∧tv.one=true∧tv.cells=[tv])
  (hA0:zf σ0 σ) (hi0:0≤i) (hws:ls[i.toNat]?=some ws) (hwl:ws.length≤2^40) (hl:(spT toks).length<2^44) (hR:∀σ',zf σ σ'→R (.ret (.str (spT toks))) σ') {a:Nat→AV} {τ:AS} (hI:LdI B ls d [.str f.name,pv,lv,.int .i64 f.type,tv] i ws toks acc' σ a τ) :
  avc yb9 G 74 zcL (zaF (fun a' σ'=>LdI B ls d [.str f.name,pv,lv,.int .i64 f.type,tv] i ws toks acc' σ a' σ'∧MU 6 (ws.length+1) a' σ'<MU 6 (ws.length+1) a τ) (zaG 0 (zaF (avc yb9 G 74 zkT (zep yb9 [.tmp 4] R)) (zep yb9 [.tmp 4] R)))) a τ:=by
 obtain⟨j,t1,t2,acc1,out1,hj,ht,hpr,a1,a2,a5,a6,ho,hon,hA⟩:=hI
 have hft:=hf.keep (hA0.trans hA)
 obtain⟨_,_,_,q,i1,i2,i3⟩:=hft
 simp only[AV.agg.injEq,List.cons.injEq,and_true,true_and]at q
 obtain⟨rfl,rfl,rfl⟩:=q
 obtain⟨hlt0,hget⟩:=yaq.1 hws
 rw[←hls]at hlt0
 obtain⟨φ,rv,hr,hrv,hat⟩:=i3.at hlt0
 subst hls
 rw[hget]at hrv
 rw[Int.toNat_of_nonneg hi0]at hat
 have hrd:=hr.read
 have v1:=hrv.one
 have vl:=zmq hrv
 have hlt1:(spT toks).length=(spT t1).length+(spT t2).length:=by rw[ht,zc,yab]
 by_cases hlt:j<ws.length
 ·have hdrop:ws.drop j=ws[j]::ws.drop (j+1):=ycs hlt
  obtain⟨φ2,hr2,hat2⟩:=RepO.at hrv hlt
  have hrd2:=hr2.read
  have hlti:(j:Int)<(ws.length:Int):=by omega
  have w1:yb4 .i64 ((j:Int)+1)=((j+1:Nat):Int):=by rw[wrap_i64]<;>omega
  rw[hdrop]at hpr
  generalize hw:ws[j]=w at *
  have A1:zf τ ((τ.newO zaJ.cs).setO τ.no w.cs):=(zf.refl τ).newO.setO (yah _)
  have o1:((τ.newO zaJ.cs).setO τ.no w.cs).objs τ.no=some w.cs:=by simp
  have ho1:=(A1.obj _ hon).trans ho
  have n1:((τ.newO zaJ.cs).setO τ.no w.cs).no=τ.no+1:=by simp
  have hne:¬σ.no=τ.no:=by omega
  simp only[W.cs,zaJ]at A1 o1 ho1 n1
  have fin:∀(a':Nat→AV) (τ':AS) (t2a t2b:List Tok) (acc2 out2),t2=t2a++t2b→PrB B f.lists d (ws.drop (j+1)) acc2 t2b out2 acc'→zf τ τ'→a' 1=.int .i64 i→a' 2=.ptr σ.no 0→a' 5=.str (spT t1++spT t2a)→a' 6=.int .i64 ((j+1:Nat):Int) →
    LdI B f.lists d [.str f.name,pv,lv,.int .i64 f.type,tv] i ws toks acc' σ a' τ'∧MU 6 (ws.length+1) a' τ'<MU 6 (ws.length+1) a τ:=by
   intro a' τ' t2a t2b acc2 out2 q1 q2 q3 q4 q5 q6 q7
   refine⟨⟨j+1,t1++t2a,t2b,acc2,out2,hlt,by rw[ht,q1,ycG],q2,q4,q5,by rw[zc];exact q6,q7,(q3.obj _ hon).trans ho,yag hon q3.no,hA.trans q3⟩,?_⟩
   simp[MU,a6,q7];omega
  have hB0:=hA0.trans hA
  cases hpr with
  | @leaf _ _ _ _ t r' _ hn hform hrg hpr' =>
   have hn':¬w.op=11∧¬w.op=12∧¬w.op=13:=by simpa [zcU,and_assoc]using hn
   have hsp:(spT (zce w++t)).length=(spT (zce w)).length+(spT t).length:=by rw[zc,yab]
   simp[zcL,a1,a2,a5,a6,ho,h3,hat,hrd,v1,vl,hlt,hlti,hat2,hrd2,W.av,W.cs,splice,hne,hn']
   generalize (τ.newO [ycn .i64 0,ycn .i64 0,ycn .i64 0,ycn .i64 0,ycn .i64 0,ycp []]).setO τ.no [ycn .i64 w.op,ycn .i64 w.ty,ycn .i64 w.n,ycn .i64 w.body,ycn .i64 w.other,ycp w.name]=τ1 at *
   refine zrY hrg fun τ2 A2=>?_
   rw[zpl hform hn]
   simp[a1,a2,a6,w1]
   refine⟨by omega,fin _ _ (zce w) t acc1 r' rfl hpr' (A1.trans A2) (by simp[a1]) (by simp[a2]) (by simp) (by simp)⟩
  | @one _ _ b _ _ tb b' acc2 t r' _ hop hd hb0 hbs hpb hpr' =>
   have hnest:w.op=11∨w.op=12∨w.op=13:=by omega
   have hol:(zaC w.op).length≤5:=by unfold zaC;split<;>(try split)<;>decide
   have hsp:(spT (zaC w.op::(tb++zbw::t))).length=(zaC w.op).length+1+((spT tb).length+(4+(spT t).length)):=by
    have e1:zaC w.op::(tb++zbw::t)=[zaC w.op]++(tb++([zbw]++t)):=rfl
    rw[e1,zc,zc,zc]
    simp only[yab,zA]
    rfl
   rcases hnest with e|e|e
   ·obtain⟨op,ty,n,body,other,name⟩:=w
    dsimp only at *
    subst e
    simp[zcL,a1,a2,a5,a6,ho,h1,h2,h3,hat,hrd,v1,vl,hlt,hlti,hat2,hrd2,W.av,W.cs,splice,hne]
    generalize (τ.newO [ycn .i64 0,ycn .i64 0,ycn .i64 0,ycn .i64 0,ycn .i64 0,ycp []]).setO τ.no [ycn .i64 11,ycn .i64 ty,ycn .i64 n,ycn .i64 body,ycn .i64 other,ycp name]=τ1 at *
    refine⟨by omega,IH hd _ _ _ f body b tb _ _ _ rfl hf (hB0.trans A1) hb0 hbs hpb (by omega) fun τ2 A2=>?_⟩
    have q2:=(A2.obj τ.no (by omega)).trans o1
    simp[a1,a2,a6,w1,q2]
    refine⟨by omega,by omega,fin _ _ ([zgk]++tb++[zbw]) t (acc2++[b']) r' (by simp[zaC]) hpr' (A1.trans A2) (by simp[a1]) (by simp[a2]) ?_ (by simp)⟩
    simp[spT,zgk,zbw]
   ·obtain⟨op,ty,n,body,other,name⟩:=w
    dsimp only at *
    subst e
    simp[zcL,a1,a2,a5,a6,ho,h1,h2,h3,hat,hrd,v1,vl,hlt,hlti,hat2,hrd2,W.av,W.cs,splice,hne]
    generalize (τ.newO [ycn .i64 0,ycn .i64 0,ycn .i64 0,ycn .i64 0,ycn .i64 0,ycp []]).setO τ.no [ycn .i64 12,ycn .i64 ty,ycn .i64 n,ycn .i64 body,ycn .i64 other,ycp name]=τ1 at *
    refine⟨by omega,IH hd _ _ _ f body b tb _ _ _ rfl hf (hB0.trans A1) hb0 hbs hpb (by omega) fun τ2 A2=>?_⟩
    have q2:=(A2.obj τ.no (by omega)).trans o1
    simp[a1,a2,a6,w1,q2]
    refine⟨by omega,by omega,fin _ _ ([zkZ]++tb++[zbw]) t (acc2++[b']) r' (by simp[zaC]) hpr' (A1.trans A2) (by simp[a1]) (by simp[a2]) ?_ (by simp)⟩
    simp[spT,zkZ,zbw]
   ·obtain⟨op,ty,n,body,other,name⟩:=w
    dsimp only at *
    subst e
    have hno:¬0≤other:=by omega
    simp[zcL,a1,a2,a5,a6,ho,h1,h2,h3,hat,hrd,v1,vl,hlt,hlti,hat2,hrd2,W.av,W.cs,splice,hne]
    generalize (τ.newO [ycn .i64 0,ycn .i64 0,ycn .i64 0,ycn .i64 0,ycn .i64 0,ycp []]).setO τ.no [ycn .i64 13,ycn .i64 ty,ycn .i64 n,ycn .i64 body,ycn .i64 other,ycp name]=τ1 at *
    refine⟨by omega,IH hd _ _ _ f body b tb _ _ _ rfl hf (hB0.trans A1) hb0 hbs hpb (by omega) fun τ2 A2=>?_⟩
    have q2:=(A2.obj τ.no (by omega)).trans o1
    simp[a1,a2,a6,w1,q2,hno]
    refine⟨by omega,by omega,fin _ _ ([tIf]++tb++[zbw]) t (acc2++[b']) r' (by simp[zaC]) hpr' (A1.trans A2) (by simp[a1]) (by simp[a2]) ?_ (by simp)⟩
    simp[spT,tIf,zbw]
  | @two _ _ b e _ _ tb b' acc2 te e' acc3 t r' _ hop hot hd hb0 hbs hes hpb hpe hpr' =>
   have hsp:(spT (tIf::(tb++zbk::(te++zbw::t)))).length=3+((spT tb).length+(5+((spT te).length+(4+(spT t).length)))):=by
    have e1:tIf::(tb++zbk::(te++zbw::t))=[tIf]++(tb++([zbk]++(te++([zbw]++t)))):=rfl
    rw[e1,zc,zc,zc,zc,zc]
    simp only[yab,zA]
    rfl
   obtain⟨op,ty,n,body,other,name⟩:=w
   dsimp only at *
   subst hop
   simp[zcL,a1,a2,a5,a6,ho,h1,h2,h3,hat,hrd,v1,vl,hlt,hlti,hat2,hrd2,W.av,W.cs,splice,hne]
   generalize (τ.newO [ycn .i64 0,ycn .i64 0,ycn .i64 0,ycn .i64 0,ycn .i64 0,ycp []]).setO τ.no [ycn .i64 13,ycn .i64 ty,ycn .i64 n,ycn .i64 body,ycn .i64 other,ycp name]=τ1 at *
   refine⟨by omega,IH hd _ _ _ f body b tb _ _ _ rfl hf (hB0.trans A1) hb0 hbs hpb (by omega) fun τ2 A2=>?_⟩
   have n2:=A2.no
   have q2:=(A2.obj τ.no (by omega)).trans o1
   have r2:=(A2.obj σ.no (by omega)).trans ho1
   simp[a1,a2,a6,w1,q2,r2,hot,h1,h2,h3]
   refine⟨by omega,by omega,IH hd _ _ _ f other e te _ _ _ rfl hf ((hB0.trans A1).trans A2) hot hes hpe (by omega) fun τ3 A3=>?_⟩
   simp[a1,a2,a6,w1]
   refine⟨by omega,by omega,fin _ _ ([tIf]++tb++[zbk]++te++[zbw]) t (acc3++[e']) r' (by simp) hpr' ((A1.trans A2).trans A3) (by simp[a1]) (by simp[a2]) ?_ (by simp)⟩
   simp[spT,tIf,zbk,zbw]
 ·have e:j=ws.length:=by omega
  rw[ycE (by omega)]at hpr
  cases hpr
  rw[yb7]at ht
  subst ht
  simp[zcL,zkT,a1,a2,a5,a6,ho,h3,hat,hrd,v1,vl,e]
  exact hR _ hA
theorem zkj{B:Nat}{σ0 ls d}(hsz:∀ws∈ls,ws.length≤2^40)(IH:d<B→zDn B G σ0 ls (d+1)):zDn B G σ0 ls d:=by
 intro σ R fv f i ws toks acc out acc' hls hf hA hi hws hpr hl hR
 have hf0:=hf
 obtain⟨pv,lv,tv,rfl,i1,i2,i3⟩:=hf
 have h1:=i1.one
 have h2:=i2.one
 have h3:=i3.one
 have hwl:=hsz ws (List.mem_of_getElem? hws)
 refine zuh rfl ?_
 simp[zFB,h1,h2,h3]
 have A:zf σ (σ.newO [.str f.name,pv,lv,.int .i64 f.type,tv]):=(zf.refl σ).newO
 refine zI (LdI B ls d [.str f.name,pv,lv,.int .i64 f.type,tv] i ws toks acc' σ) (MU 6 (ws.length+1)) ⟨0,[],toks,acc,out,Nat.zero_le _,rfl,by simpa using hpr,by simp,by simp,by simp[spT],by simp,by simp,by simp,A⟩ fun a τ hI=>?_
 exact znj IH hls hf0 h1 h2 h3 hA hi hws hwl hl hR hI
theorem ziX{B:Nat}{σ0 ls}(hsz:∀ws∈ls,ws.length≤2^40):∀k d:Nat,B≤d+k→zDn B G σ0 ls d
 | 0,d,hd=>zkj hsz (fun h=>by omega)
 | k+1,d,hd=>zkj hsz (fun _=>ziX hsz k (d+1) (by omega))
def FdI(B:Nat)(fv:AV)(m:M)(toks:List Tok)(X0:List UInt8)(σ:AS)(a:Nat→AV)(τ:AS):Prop:=∃(j:Nat) (t1 t2:List Tok) (fs2:List F),j≤m.funcs.length∧toks=t1++t2∧PrFsB B (m.funcs.drop j) t2 fs2∧a 1=.ptr σ.no 0∧a 3=.str (X0++spT t1)∧a 4=.int .i64 (j:Int) ∧
 τ.objs σ.no=some [fv,.int .i64 m.memory,.int .i64 m.main]∧σ.no<τ.no∧zf σ τ
theorem zlq{B:Nat}{fv}{m:M}{toks:List Tok}{X0:List UInt8}{mx:Nat}(hfv:Al.FsO σ fv m.funcs)(hf:∀f∈m.funcs,Pf mx f)(hsz:∀f∈m.funcs,f.params.length≤2^40∧f.locals.length≤2^40∧f.lists.length≤2^40∧∀ws∈f.lists,ws.length≤2^40)(hfl:m.funcs.length≤2^40)(hl:(X0++spT toks).length<2^43)
  (fin:∀(a:Nat→AV) (τ:AS),a 1=.ptr σ.no 0→a 3=.str (X0++spT toks)→τ.objs σ.no=some [fv,.int .i64 m.memory,.int .i64 m.main]→zf σ τ→avc yb9 G 63 zic (zep yb9 [.tmp 2] R) a τ) {a:Nat→AV} {τ:AS} (hI:FdI B fv m toks X0 σ a τ) :
  avc yb9 G 63 zib (zaF (fun a' σ'=>FdI B fv m toks X0 σ a' σ'∧MU 4 (m.funcs.length+1) a' σ'<MU 4 (m.funcs.length+1) a τ) (zaG 0 (zaF (avc yb9 G 63 zic (zep yb9 [.tmp 2] R)) (zep yb9 [.tmp 2] R)))) a τ:=by
 obtain⟨j,t1,t2,fs2,hj,ht,hpr,a1,a3,a4,ho,hon,hA⟩:=hI
 have f1:=hfv.one
 have hft:=hfv.keep hA
 have fl:=hft.len
 have hlt1:(X0++spT toks).length=X0.length+(spT t1).length+(spT t2).length:=by rw[ht,zc];simp only[yab];omega
 by_cases hlt:j<m.funcs.length
 ·have hdrop:m.funcs.drop j=m.funcs[j]::m.funcs.drop (j+1):=ycs hlt
  have hmem:m.funcs[j]∈m.funcs:=yaw hlt
  obtain⟨φ,row,hr,hrow,hat⟩:=hft.at hlt
  have hr':=hr.read
  have hlti:(j:Int)<(m.funcs.length:Int):=by omega
  have w1:yb4 .i64 ((j:Int)+1)=((j+1:Nat):Int):=by rw[wrap_i64]<;>omega
  rw[hdrop]at hpr
  generalize hw:m.funcs[j]=f at *
  have hpf:=hf f hmem
  obtain⟨s1,s2,s3,s4⟩:=hsz f hmem
  have hrow0:=hrow
  obtain⟨pv,lv,tv,rfl,i1,i2,i3⟩:=hrow
  have p1:=i1.one
  have l1:=i2.one
  have v1:=i3.one
  have i3len:=i3.len
  have A1:zf τ ((τ.newO [.str [],.nilsl,.nilsl,.int .i64 0,.nilsl]).setO τ.no [.str f.name,pv,lv,.int .i64 f.type,tv]):=(zf.refl τ).newO.setO (yah _)
  have q1:((τ.newO [.str [],.nilsl,.nilsl,.int .i64 0,.nilsl]).setO τ.no [.str f.name,pv,lv,.int .i64 f.type,tv]).objs τ.no=some [.str f.name,pv,lv,.int .i64 f.type,tv]:=by simp
  have i1k:=i1.keep A1
  have i2k:=i2.keep A1
  have i3k:=i3.keep A1
  generalize hX:X0++spT t1=X at *
  have hXl:X.length=X0.length+(spT t1).length:=by rw[←hX,yab]
  cases hpr with
  | @cons _ _ tf ls' ts fs' hpF hprs =>
  obtain⟨rw0,out,acc,h1,h2,_⟩:=hpF
  have hl1:f.lists.length-1<f.lists.length:=(yaq.1 h1).1
  have wl:yb4 .i64 ((f.lists.length:Int)-1)=((f.lists.length-1:Nat):Int):=by rw[wrap_i64]<;>omega
  have hl0:(0:Int)≤((f.lists.length-1:Nat):Int):=by omega
  have hln:((f.lists.length-1:Nat):Int).toNat=f.lists.length-1:=by omega
  have hft1:spT (zdk f tf)=spT [zr,zah,36::f.name]++spT (zG zaP f.params)++spT (zhs f.type)++spT (zG zaQ f.locals)++spT tf++spT [zk]:=by
   have:zdk f tf=[zr,zah,36::f.name]++zG zaP f.params++zhs f.type++zG zaQ f.locals++tf++[zk]:=by simp[zdk]
   rw[this,zc,zc,zc,zc,zc]
  have hl2:(spT (zdk f tf++ts)).length=(spT [zr,zah,36::f.name]).length+(spT (zG zaP f.params)).length+(spT (zhs f.type)).length+(spT (zG zaQ f.locals)).length+(spT tf).length+(spT [zk]).length+(spT ts).length:=by
   rw[zc,hft1]
   simp only[yab]
  have e3:(spT [zr,zah,36::f.name]).length=9+f.name.length:=by simp[spT,zr,zah];omega
  have e4:(spT [zk]).length=2:=rfl
  simp[zib,a1,a3,a4,ho,f1,fl,hlt,hlti,hat,hr',p1,l1,v1,splice]
  refine⟨by omega,by omega,?_⟩
  generalize (τ.newO [.str [],.nilsl,.nilsl,.int .i64 0,.nilsl]).setO τ.no [.str f.name,pv,lv,.int .i64 f.type,tv]=τ1 at *
  refine ziW (kw:=zaP) i1k (by decide) s1 hpf.params ?_
  simp[q1,p1,a1,a3]
  have fin2:∀(τ2:AS) (a':Nat→AV),zf τ1 τ2→a' 1=.ptr σ.no 0→a' 3=.str (X++spT (zdk f tf))→a' 4=.int .i64 ((j+1:Nat):Int) →
    FdI B fv m toks X0 σ a' τ2∧MU 4 (m.funcs.length+1) a' τ2<MU 4 (m.funcs.length+1) a τ:=by
   intro τ2 a' A2 q1 q2 q3
   have A3:=A1.trans A2
   refine⟨⟨j+1,t1++zdk f tf,ts,fs',hlt,by rw[ht,ycG],hprs,q1,by rw[q2,zc,←ycG,hX],q3,(A3.obj _ hon).trans ho,yag hon A3.no,hA.trans A3⟩,?_⟩
   simp[MU,a4,q3];omega
  have A0:=hA.trans A1
  have e5:spT [zr,zah,36::f.name]=[32,40,32,102,117,110,99,32,36]++f.name:=by simp[spT,zr,zah]
  by_cases hty:f.type=0
  ·have hrz:zhs f.type=[]:=by unfold zhs;rw[if_pos hty]
   have hty':(f.type=0)=True:=eq_true hty
   simp[q1,p1,l1,v1,a1,a3,hty',i3len,wl]
   refine⟨by omega,?_⟩
   refine ziW (kw:=zaQ) i2k (by decide) s2 hpf.locals ?_
   simp[q1,p1,l1,v1,a1,a3,i3len,wl,i3k.len]
   refine⟨by omega,?_⟩
   refine ziX (B:=B) s4 B 0 (by omega) _ _ _ f _ rw0 tf [] out acc rfl hrow0 A1 hl0 (by rw[hln];exact h1) h2 (by omega) fun τ2 A2=>?_
   simp[a1,a3,a4,w1]
   refine⟨by omega,by omega,fin2 _ _ A2 (by simp[a1]) ?_ (by simp)⟩
   rw[hft1,e5,hrz]
   simp[spT,zk]
  ·have hrz:zhs f.type=[zr,zcP,zp f.type,zk]:=by unfold zhs;rw[if_neg hty]
   have hrl:(spT (zhs f.type)).length=15:=by
    have:=zeo f.type
    rw[hrz]
    simp[spT,zr,zcP,zk]
    omega
   have hty':(f.type=0)=False:=eq_false hty
   have htt:zp (if f.type=2 then 2 else 1)=zp f.type:=by
    have:=hpf.type
    have e:f.type=1∨f.type=2:=by omega
    rcases e with e|e<;>rw[e]<;>rfl
   have tl:=zeo f.type
   simp[q1,p1,l1,v1,a1,a3,hty',i3len,wl]
   refine⟨by omega,by omega,?_⟩
   refine zmu ?_
   rw[htt]
   simp[q1,p1,l1,v1,a1,a3,i3len,wl]
   refine⟨by omega,by omega,?_⟩
   refine ziW (kw:=zaQ) i2k (by decide) s2 hpf.locals ?_
   simp[q1,p1,l1,v1,a1,a3,i3len,wl,i3k.len]
   refine⟨by omega,?_⟩
   refine ziX (B:=B) s4 B 0 (by omega) _ _ _ f _ rw0 tf [] out acc rfl hrow0 A1 hl0 (by rw[hln];exact h1) h2 (by omega) fun τ2 A2=>?_
   simp[a1,a3,a4,w1]
   refine⟨by omega,by omega,fin2 _ _ A2 (by simp[a1]) ?_ (by simp)⟩
   rw[hft1,e5,hrz]
   simp[spT,zk,zr,zcP]
 ·have e:j=m.funcs.length:=by omega
  rw[ycE (by omega)]at hpr
  cases hpr
  rw[yb7]at ht
  subst ht
  simp[zib,a1,a3,a4,ho,f1,fl,e]
  exact fin _ _ (by simp[a1]) (by simp[a3]) ho hA
theorem zrZ{B:Nat}{m:M}{mv:AV}{toks:List Tok}{fs2:List F}{mx:Nat}(hm:Al.MO σ mv m)(hpr:PrFsB B m.funcs toks fs2)(hf:∀f∈m.funcs,Pf mx f)(hsz:∀f∈m.funcs,f.params.length≤2^40∧f.locals.length≤2^40∧f.lists.length≤2^40∧∀ws∈f.lists,ws.length≤2^40)(hfl:m.funcs.length≤2^40)
  (hmem:-(2^63)≤m.memory∧m.memory<2^63) (hl:(zj0 (zcf m toks)).length<2^43) (h:∀σ',zf σ σ'→R (.ret (.str (zj0 (zcf m toks)))) σ'):zzQ G 32 [mv] σ R:=by
 refine ztX rfl ?_
 obtain⟨fv,rfl,hfv⟩:=hm
 have f1:=hfv.one
 have fl:=hfv.len
 rw[ziS]at hl h
 have hh:zav.length=185:=by rfl
 have i1:=Lib.itoa_length_le m.memory hmem.1 (by omega)
 have i2:=Lib.itoa_length_le (yb4 .i64 (m.main+3)) (zeL _).1.1 (by have:=(zeL (m.main+3)).1.2;omega)
 have e3:(spT [zr,zaW,zeF,zr,zah]).length=23:=by rfl
 have e1:spT [Lib.itoa m.memory,zk,zk]=32::(Lib.itoa m.memory++[32,41,32,41]):=by simp[spT,zk]
 have e2:spT [zr,zaW,zeF,zr,zah,Lib.itoa (yb4 .i64 (m.main+3)),zk,zk,zk]=spT [zr,zaW,zeF,zr,zah]++32::(Lib.itoa (yb4 .i64 (m.main+3))++[32,41,32,41,32,41]):=by simp[spT,zk]
 rw[e1,e2]at hl h
 simp only[yab,yac,ybl]at hl
 simp[zFo,f1]
 have A1:zf σ (σ.newO [fv,.int .i64 m.memory,.int .i64 m.main]):=(zf.refl σ).newO
 refine zfL hmem.1 hmem.2 ?_
 simp
 refine⟨by omega,by omega,?_⟩
 refine zI (FdI B fv m toks (zav++32::(Lib.itoa m.memory++[32,41,32,41])) σ) (MU 4 (m.funcs.length+1)) ⟨0,[],toks,fs2,Nat.zero_le _,rfl,by simpa using hpr,by simp,?_,by simp,by simp,by simp,A1⟩ fun a τ hI=>?_
 ·simp[spT,zav]
 refine zlq hfv hf hsz hfl ?_ (fun a τ a1 a3 ho hA=>?_) hI
 ·simp only[yab,yac,ybl]
  omega
 simp[zic,a1,a3,ho,f1]
 refine⟨by omega,?_⟩
 refine zfL (zeL _).1.1 (zeL _).1.2 ?_
 simp
 refine⟨?_,?_,?_⟩
 ·omega
 ·omega
 ·have:=h _ hA
  have e4:spT [zr,zaW,zeF,zr,zah]=[32,40,32,101,120,112,111,114,116,32,34,109,97,105,110,34,32,40,32,102,117,110,99]:=by decide
  rw[e4]at this
  simpa [ycG]using this
theorem zlr(VT:zbn G)(VC:zk5 G)(hG:∀k,StillI (G.g k))(hy:∀l,¬G.has l){mv:AV}{m:M}(hm:MV mv m)(hfl:m.funcs.length≤2^20)(hf:∀f∈m.funcs,zu5 f)(hrg:∀f∈m.funcs,RgL f.lists)(h:∀σ',R (.ret (.bool true)) σ'):zzQ G 7 [mv] σ R:=by
 refine zxo rfl ?_
 have hm0:=hm
 obtain⟨fv,rfl,hfs⟩:=hm
 have f1:=hfs.one
 have A1:zf σ (σ.newO [fv,.int .i64 m.memory,.int .i64 m.main]):=(zf.refl σ).newO
 have o1:(σ.newO [fv,.int .i64 m.memory,.int .i64 m.main]).objs σ.no=some [fv,.int .i64 m.memory,.int .i64 m.main]:=by simp
 have hl1:σ.no<(σ.newO [fv,.int .i64 m.memory,.int .i64 m.main]).no:=by simp
 simp[pc7,f1]
 generalize σ.newO [fv,.int .i64 m.memory,.int .i64 m.main]=σ1 at *
 refine zEV VC hG hy (Al.m_o hm0) hfl hf fun b σ2 hb A2=>?_
 have ho2:=(A2.obj σ.no hl1).trans o1
 cases b with
 | true =>
  simp[ho2,f1]
  refine zs5 VT hG hy ?_
  simp
  exact h _
 | false =>
  have hF:=hb rfl
  have hfn:=zfn hF.good
  obtain⟨toks,fs2,w1,w2,_⟩:=zki (B:=3001) (gs:=m.funcs) m.funcs fun f q=>⟨hfn f q,hrg f q,by have:=(hF.each f q).1;omega,zu8 (hF.each f q).2,by have:=(hF.each f q).1;omega⟩
  have hmem:=zkh hF.good
  have h40:=hF.funcs
  have htl:=zrT m toks (by omega) (by omega)
  have hpf:∀f∈m.funcs,Pf 24 f:=fun f q=>zE2 (hfn f q) (hF.each f q).2
  have hsz:∀f∈m.funcs,f.lists.length≤2^40∧∀ws∈f.lists,ws.length≤2^40:=fun f q=>⟨by have:=(hf f q).lists;omega,fun ws hw=>by have:=(hf f q).rows ws hw;omega⟩
  have hsz2:∀f∈m.funcs,f.params.length≤2^40∧f.locals.length≤2^40∧f.lists.length≤2^40∧∀ws∈f.lists,ws.length≤2^40:=fun f q=>⟨by have:=(hf f q).params;omega,by have:=(hf f q).locals;omega,hsz f q⟩
  simp[ho2,f1]
  refine zk4 hm0 (by omega) (fun f q=>(hsz2 f q).1) (fun f q=>(hsz2 f q).2.1) (fun f q=>(hsz2 f q).2.2.1) (fun f q=>(hsz2 f q).2.2.2) fun mv3 σ3 hm3 A3=>?_
  have ho3:=(A3.obj σ.no (by have:=A2.no;omega)).trans ho2
  have hl3:σ.no<σ3.no:=by have:=A2.no;have:=A3.no;omega
  have hm4:=hm3
  obtain⟨gv,rfl,hgs⟩:=hm3
  have g1:=hgs.one
  have B3:zf σ3 ((σ3.newO [ycq,.int .i64 0,.int .i64 0]).setO σ3.no [gv,.int .i64 m.memory,.int .i64 m.main]):=(zf.refl σ3).newO.setO (yah _)
  have hp3:((σ3.newO [ycq,.int .i64 0,.int .i64 0]).setO σ3.no [gv,.int .i64 m.memory,.int .i64 m.main]).objs σ3.no=some [gv,.int .i64 m.memory,.int .i64 m.main]:=by simp
  have hq3:=(B3.obj σ.no hl3).trans ho3
  have hn3:σ3.no<((σ3.newO [ycq,.int .i64 0,.int .i64 0]).setO σ3.no [gv,.int .i64 m.memory,.int .i64 m.main]).no:=by simp
  have hne:¬σ.no=σ3.no:=by omega
  simp[ho3,f1,g1,splice,hne]
  generalize (σ3.newO [ycq,.int .i64 0,.int .i64 0]).setO σ3.no [gv,.int .i64 m.memory,.int .i64 m.main]=σ4 at *
  refine zoY VT (Al.m_o hm4) w1 hpf (by decide) hsz (by omega) ⟨by omega,by omega⟩ (by omega) fun σ5 A5=>?_
  have ho5:=(A5.obj σ.no (by omega)).trans hq3
  have hp5:=(A5.obj σ3.no hn3).trans hp3
  simp[ho5,hp5,f1,g1]
  refine zrZ (Al.m_o hm0) w1 hpf hsz2 (by omega) ⟨by omega,by omega⟩ (by omega) fun σ6 A6=>?_
  have n5:=A5.no
  have ho6:=(A6.obj σ.no (by omega)).trans ho5
  have hp6:=(A6.obj σ3.no (by omega)).trans hp5
  simp[ho6,hp6,f1,g1]
  refine Al.eqM_calls (Al.m_o hm4) (Al.m_o hm0) (by omega) (fun f q=>?_) fun σ7 A7=>?_
  ·have:=hf f q
   exact⟨by have:=this.params;omega,by have:=this.locals;omega,by have:=this.lists;omega,fun r hr=>by have:=this.rows r hr;omega⟩
  ·simp
   refine zs5 VT hG hy ?_
   simp
   exact h _
end
end Go.Proofs.YtohfclafhegadaaGreatDoor
