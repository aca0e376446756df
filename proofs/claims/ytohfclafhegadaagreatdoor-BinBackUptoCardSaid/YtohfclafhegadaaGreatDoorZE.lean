/- Parts of the proof of the row BinBackUpto: contracts of functions, each under the conditions that its theorem names. -/
import Derived.Test.YtohfclafhegadaaGreatDoorZD
import Derived.Test.YtohfclafhegadaaGreatDoorZC
import Derived.Test.YtohfclafhegadaaGreatDoorZB
set_option linter.unusedSimpArgs false
set_option linter.unusedVariables false
set_option maxRecDepth 100000
open List renaming prefix_append->ydA,all_eq_true->yaM,length_append->yab,length_cons->yac,length_nil->ybl,mem_cons->ybC,map_cons->yaL,sum_cons->ycV,mem_flatMap->yc8,mem_map->yaV,mem_singleton->ydf,getElem_mem->yaw,getElem?_eq_getElem->yau,length_take->ybf
open Nat renaming lt_of_lt_of_le->yag
open Int renaming tmod_lt_of_pos->yeu
open Go.IntKind renaming wrap->yb4
open Go.Abs.AV renaming nilsl->yc7
namespace Go.Proofs.YtohfclafhegadaaGreatDoor
open Go Go.Abs
theorem zwl{w:W}(hf:zT w=true)(hn:zR w=false):zT (zJ w)=true/\ze5 (zJ w)=ze5 w/\zJ (zJ w)=zJ w:=by
 obtain⟨op,ty,n,body,other,name⟩:=w
 simp only[zR,Bool.or_eq_false_iff,decide_eq_false_iff_not]at hn
 by_cases h1:op=1\/op=5
 .rcases h1 with rfl|rfl<;>simpa [zT,ze5,zZ,zJ,zaM]using hf
 .by_cases h4:op=4
  .subst h4
   simpa [zT,ze5,zZ,zJ,zaM]using hf
  .by_cases h8:op=8\/op=9
   .rcases h8 with rfl|rfl<;>simpa [zT,ze5,zZ,zJ,zaM]using hf
   .have hf':=hf
    unfold zT at hf'
    simp only at hf'
    rw[if_neg h1,if_neg h4,if_neg h8]at hf'
    simp only[Bool.and_eq_true,decide_eq_true_eq]at hf'
    rcases(show op=2\/op=3\/op=10\/op=14\/op=15\/op=6\/op=7\/op=16\/op=17\/op=18 by omega)with rfl|rfl|rfl|rfl|rfl|rfl|rfl|rfl|rfl|rfl<;>simp[zT,ze5,zZ,zJ,zaM]
theorem zwm{w:W}(h:RgW w):RgW (zJ w):=by
 have h1:=h.1
 have h2:=h.2
 unfold RgW zJ
 simp only
 split
 .exact h
 .omega
theorem zEe{ls fin:To}{d:Nat}{ws:List W}{acc acc':To}{toks:List Tok}{out:List W}(h:Pr ls d ws acc toks out acc'):acc'<+:fin->Pr fin d out acc toks out acc':=by
 induction h with
 | nil d acc=>intro _;exact .nil d acc
 | leaf hn hf hr _ ih =>
  intro hp
  obtain⟨e1,e2,e3⟩:=zwl hf hn
  have q:=PrB.leaf (w:=zJ _) hn e1 (zwm hr) (ih hp)
  rw[e2,e3]at q
  exact q
 | @one d w b r acc tb b' acc1 t r' acc' ho hd hb0 hb p1 p2 ih1 ih2 =>
  intro hp
  have hp1:acc1++[b']<+:fin:=(zaw p2).trans hp
  have hv:(zaf w.op acc1.length (if w.op=13 then -1 else 0)).op=11\/(zaf w.op acc1.length (if w.op=13 then -1 else 0)).op=12\/(zaf w.op acc1.length (if w.op=13 then -1 else 0)).op=13/\(zaf w.op acc1.length (if w.op=13 then -1 else 0)).other<0:=by
   simp only[zaf]
   rcases ho with e|e|e
   .exact .inl e
   .exact .inr (.inl e)
   .exact .inr (.inr ⟨e.1,by rw[if_pos e.1];omega⟩)
  exact PrB.one (w:=zaf w.op acc1.length (if w.op=13 then -1 else 0)) hv hd (by simp[zaf]) (by simpa [zaf]using zbz hp1) (ih1 ((ydA _ _).trans hp1)) (ih2 hp)
 | @two d w b f r acc tb b' acc1 te e' acc2 t r' acc' ho hoo hd hb0 hb hf p1 p2 p3 ih1 ih2 ih3 =>
  intro hp
  have hp2:acc2++[e']<+:fin:=(zaw p3).trans hp
  have hp1:acc1++[b']<+:fin:=(zaw p2).trans ((ydA _ _).trans hp2)
  exact PrB.two (w:=zaf 13 acc1.length acc2.length) rfl (by simp[zaf]) hd (by simp[zaf]) (by simpa [zaf]using zbz hp1) (by simpa [zaf]using zbz hp2) (ih1 ((ydA _ _).trans hp1)) (ih2 ((ydA _ _).trans hp2)) (ih3 hp)
theorem zAp{f:F}{toks:List Tok}{ls':To}(h:PrF f toks ls'):PrF { f with lists:=ls' } toks ls':=by
 obtain⟨row,out,acc,h1,h2,rfl⟩:=h
 exact⟨out,out,acc,by simp,zEe h2 (ydA _ _),rfl⟩
theorem zwn{fs fs':List F}{toks:List Tok}(h:zrS fs toks fs'):zrS fs' toks fs':=by
 induction h with
 | nil=>exact .nil
 | cons p _ ih=>exact .cons (zAp p) ih
theorem zLc{gs:List F}{f:F}(h:zk gs f=.ok ())(ht:ztH 24 f.name=true):Pf 24 f:=by
 unfold zk at h
 split at h
 .cases h
 rename_i hb
 simp only[Bool.not_eq_false,Bool.and_eq_true,List.all_append,decide_eq_true_eq]at hb
 obtain⟨⟨⟨h1,h2⟩,h3⟩,h4⟩:=hb
 have key:∀l:List Int,l.all zac=true->∀t∈l,t=1\/t=2:=λl hl x hx=>by
  have:=yaM.1 hl x hx
  simpa only[zac,Bool.or_eq_true,decide_eq_true_eq]using this
 exact⟨ht,key _ h1,key _ h2,by omega⟩
theorem zAq(m:M)(toks:List Tok)(h1:-(2^63)<=m.memory)(h2:m.memory<2^63):(zqD (zfJ m toks)).length<=(spT toks).length+400:=by
 have hw:=(zvj (m.main+3)).1
 have i1:=Lib.itoa_length_le m.memory (by omega) (by omega)
 have i2:=Lib.itoa_length_le (yb4 .i64 (m.main+3)) (by omega) (by omega)
 have hh:zdY.length=185:=by rfl
 have e1:(spT [Lib.itoa m.memory,zad,zad]).length=(Lib.itoa m.memory).length+5:=by simp[spT,zad]
 have e2:(spT [za2,zic,zsJ,za2,ze3,Lib.itoa (yb4 .i64 (m.main+3)),zad,zad,zad]).length<=(Lib.itoa (yb4 .i64 (m.main+3))).length+60:=by
  simp[spT,zad,za2,zic,zsJ,ze3]
 rw[zkT]
 simp only[yab,yac,ybl]
 omega
theorem zwo(op b o:Int):RgW { op:=op,ty:=0,n:=0,body:=b,other:=o,name:=[] }:=⟨by simp,by simp⟩
theorem znG{acc:To}{b:List W}(h1:∀l∈acc,∀w∈l,RgW w)(h2:∀w∈b,RgW w):∀l∈acc++[b],∀w∈l,RgW w:=λl hl=>by
 rcases List.mem_append.1 hl with hl|hl
 .exact h1 l hl
 .simp at hl;subst hl;exact h2
theorem zq7{w:W}{l:List W}(h1:RgW w)(h2:∀w∈l,RgW w):∀v∈w::l,RgW v:=λv hv=>by
 rcases ybC.1 hv with rfl|hv
 .exact h1
 .exact h2 v hv
theorem zLd{ls:To}{d:Nat}{ws:List W}{acc acc':To}{toks:List Tok}{out:List W}(h:Pr ls d ws acc toks out acc'):(∀l∈acc,∀w∈l,RgW w)->(∀w∈out,RgW w)/\∀l∈acc',∀w∈l,RgW w:=by
 induction h with
 | nil=>exact λh=>⟨by simp,h⟩
 | leaf hn hf hr _ ih =>
  intro h
  obtain⟨a,b⟩:=ih h
  exact⟨zq7 (zwm hr) a,b⟩
 | one _ _ _ _ _ _ ih1 ih2 =>
  intro h
  obtain⟨a1,b1⟩:=ih1 h
  obtain⟨a2,b2⟩:=ih2 (znG b1 a1)
  exact⟨zq7 (zwo ..) a2,b2⟩
 | two _ _ _ _ _ _ _ _ _ ih1 ih2 ih3 =>
  intro h
  obtain⟨a1,b1⟩:=ih1 h
  obtain⟨a2,b2⟩:=ih2 (znG b1 a1)
  obtain⟨a3,b3⟩:=ih3 (znG b2 a2)
  exact⟨zq7 (zwo ..) a3,b3⟩
theorem zpt{l:List W}:∀{ls:To},l∈ls->l.length<=zhD ls
 | x::ls,h=>by
  simp only[zhD,yaL,ycV]
  rcases ybC.1 h with rfl|h
  .omega
  .have:=zpt h
   simp only[zhD]at this
   omega
section
variable {G : Env} {J : AS} {R : Out -> AS -> Prop}
theorem zH8{n k:Int}(hn:-(2^63)<=n/\n<2^63)(hk:1<=k/\k<=2^40)(h:∀r,0<=r->r<k->R (.ret (.int .i64 r)) J):zzQ G 26 [.int .i64 n,.int .i64 k] J R:=by
 refine zCF rfl ?_
 have h1:¬k<1:=by omega
 have h0:¬k=0:=by omega
 have t1:=yeu n (show 0<k by omega)
 have t2:-k<n.tmod k:=by
  have:=yeu (-n) (show 0<k by omega)
  rw[Int.neg_tmod]at this
  omega
 have w1:yb4 .i64 (n.tmod k)=n.tmod k:=by rw[zb]<;>omega
 by_cases hneg:n.tmod k<0
 .have w2:yb4 .i64 (n.tmod k+k)=n.tmod k+k:=by rw[zb]<;>omega
  simp[zKp,h1,h0,w1,hneg,w2]
  exact h _ (by omega) (by omega)
 .simp[zKp,h1,h0,w1,hneg]
  exact h _ (by omega) (by omega)
theorem zwp{va vb:AV}{p:List Int}{s c:Int}(ha:zaR va p)(hb:zaR vb p)(hl:p.length<=2^40)(h:∀J',zd J J'->R (.ret (.bool true)) J'):
  zzQ G 27 [.agg [va,.int .i64 s,.int .i64 c],.agg [vb,.int .i64 s,.int .i64 c]] J R:=by
 refine zCG rfl ?_
 have a1:=ha.one
 have b1:=hb.one
 have A:zd J ((J.newO [va,.int .i64 s,.int .i64 c]).newO [vb,.int .i64 s,.int .i64 c]):=(zd.refl J).newO.newO
 have k:=h _ A
 simp[zLD,a1,b1]
 refine zlz ha hb hl ?_
 simp
 exact k
end
theorem zwq{M:Mp}{F:Nat->FSt}{w:World}{b:Bool}{bs:List UInt8}{c:Value}(h:VR M F w (.sl (.stat b) 1 (B bs)) c):VR (zpz M) AS.bare.F w (.sl (.stat b) 1 (B bs)) c:=by
 generalize hq:AV.sl (.stat b) 1 (B bs)=v at h
 cases h with
 | slz b sz a=>exact .slz _ sz a
 | sl φ sz xs Bk off cap cs hcap hlit hsz hm hc hv =>
  cases hq
  obtain⟨m,hm⟩:=hm
  refine .sl _ _ _ Bk off cap cs hcap hlit hsz ⟨m,zpc hm⟩ (λ_=>hc trivial) λ_ j hj=>(hv trivial j hj).pln ?_
  have key:∀x∈zu (B bs),Pln x:=λx hx=>by
   simp only[zu,B,yc8,yaV]at hx
   obtain⟨y,⟨u,_,rfl⟩,hx⟩:=hx
   simp only[AV.cells,ydf]at hx
   subst hx
   exact .int _ _
  exact key _ (yaw hj)
 | _=>cases hq
theorem zsl{F:Nat->FSt}(bs:List UInt8):∀c∈zu (B bs),Cb F c:=λx hx=>by
 simp only[zu,B,yc8,yaV]at hx
 obtain⟨y,⟨u,_,rfl⟩,hx⟩:=hx
 simp only[AV.cells,ydf]at hx
 subst hx
 exact .int _ _
theorem zH9(bs:List UInt8):(B bs).map clm=B bs:=by simp[B,Function.comp_def]
theorem zAr{J:AS}{v:AV}{bs:List UInt8}(h:zd9 J v bs):Cb J.F v/\zd9 AS.bare (clm v) bs:=by
 rcases h with ⟨rfl,rfl⟩|⟨φ,rfl,r⟩
 .exact⟨.nilsl,.inl ⟨rfl,by simp⟩⟩
 .exact⟨.sl _ _ _ r.read (zsl bs),.inr ⟨.stat φ.full,by rw[zrE,zH9],trivial⟩⟩
structure ztD(f:F):Prop where
 params:f.params.length<=3000
 locals:f.locals.length<=3000
 lists:f.lists.length<=6001
 rows:∀l∈f.lists,l.length<=3000
 rg:∀l∈f.lists,∀w∈l,RgW w
 name:f.name.length<=2^20
theorem zsm{fs:List F}(h:∀f∈fs,ztD f):ztK fs:=λf hf=>by
 obtain⟨h1,h2,h3,h4,h5,_⟩:=h f hf
 exact⟨by omega,by omega,by omega,λl hl=>by have:=h4 l hl;omega,λl hl w hw=>by have:=(h5 l hl w hw).2;omega⟩
theorem zk8{m:M}(hl:m.funcs.length<=12)(h:∀f∈m.funcs,ztD f):zuK m :=
 ⟨by omega,λf hf=>by have:=(h f hf).params;omega,λf hf=>by have:=(h f hf).locals;omega,λf hf=>by have:=(h f hf).lists;omega,λf hf l hl=>by have:=(h f hf).rows l hl;omega,λf hf l hl w hw=>by have:=((h f hf).rg l hl w hw).2;omega⟩
theorem zpu{fs:List F}(h:∀f∈fs,ztD f):∀f∈fs,SzB f:=λf hf=>by
 obtain⟨h1,h2,h3,h4,h5,h6⟩:=h f hf
 exact⟨by omega,by omega,by omega,λl hl=>by have:=h4 l hl;omega,by omega,h5⟩
theorem zsn{fs:List F}(h:∀f∈fs,ztD f):∀f∈fs,f.lists.length<=2^40/\∀ws∈f.lists,ws.length<=2^40:=λf hf =>
 ⟨by have:=(h f hf).lists;omega,λws hw=>by have:=(h f hf).rows ws hw;omega⟩
theorem zso{gs:List F}:∀(fs:List F),(∀f∈fs,zk gs f=.ok ()/\RgL f.lists/\f.lists.length<=400/\f.name.length<=2^20/\f.params.length+f.locals.length+zjv id f.lists<=3000) ->
  ∃toks fs2,zrS fs toks fs2/\(spT toks).length<=2^21*fs.length/\∀f'∈fs2,ztD f'
 | [],_=>⟨[],[],.nil,by simp[spT],λf hf=>by cases hf⟩
 | f::fs,h=>by
  obtain⟨h1,h2,h3,h4,h5⟩:=h f (by simp)
  obtain⟨t1,ls',p1⟩:=zyP h1 h2 h3
  obtain⟨c1,c2,c3⟩:=zv2 h1 p1
  obtain⟨t2,fs2,q1,q2,q3⟩:=zso fs λg hg=>h g (by simp[hg])
  refine⟨znp f t1++t2,_,.cons p1 q1,?_,λf' hf'=>?_⟩
  .have e:znp f t1=[za2,ze3,36::f.name]++(zby zhp f.params++(ztI f.type++(zby ziJ f.locals++(t1++[zad])))):=rfl
   have e1:(spT [za2,ze3,36::f.name]).length=9+f.name.length:=by
    have:spT [za2,ze3,36::f.name]=spT [za2,ze3]++spT [36::f.name]:=by rw[<-zj];rfl
    rw[this,yab]
    have a:(spT [za2,ze3]).length=7:=rfl
    have b:(spT [36::f.name]).length=f.name.length+2:=by simp[spT]
    omega
   have e2:=zmb zhp f.params (by decide)
   have e3:=zmb ziJ f.locals (by decide)
   have e4:(spT (ztI f.type)).length<=20:=by
    unfold ztI zaK
    split
    .decide
    .split<;>decide
   have e5:(spT [zad]).length=2:=rfl
   rw[zj,yab,e,zj,zj,zj,zj,zj]
   simp only[yab,yac]at *
   omega
  .rcases ybC.1 hf' with rfl|hf'
   .obtain⟨row,out,acc,q1,q2,rfl⟩:=p1
    obtain⟨g1,g2⟩:=zLd q2 (λl hl=>by cases hl)
    exact⟨by simp only;omega,by simp only;omega,by simp only;omega,λl hl=>Nat.le_trans (zpt hl) (by simp only;omega),znG g2 g1,h4⟩
   .exact q3 f' hf'
theorem zEf{fs:List F}:(∀f∈fs,f.locals.length<=3000)->zbX fs<=3000*fs.length:=by
 intro h
 induction fs with
 | nil=>simp[zbX]
 | cons f fs ih =>
  have h1:=h f (by simp)
  have h2:=ih λg hg=>h g (by simp[hg])
  simp only[zbX,yaL,ycV,yac]at h2 ⊢
  omega
section
variable {G : Env} {J : AS} {R : Out -> AS -> Prop}
theorem zpv(V:zdI G){m:M}{mv:AV}{bs:List UInt8}(hm:Al.MO J mv m)(he:zkr m=some bs)(hne:bs≠[])(hl:bs.length<=2^36)(hn:m.funcs.length<=2^30)(hsz:∀f∈m.funcs,SzB f)(hmem:-(2^63)<=m.memory/\m.memory<2^63)
  (h:∀J',zd J J'->R (.ret (.sl (.stat false) 1 (B bs))) (znw J')):zzQ G 16 [mv] J R:=by
 refine zH2 (zdP V hm he hl hn hsz hmem λv J' h2=>.inr (.inl ?_))
 rcases h2.1 with ⟨q,_⟩|⟨g,rfl,_,g2,g3⟩
 .exact absurd (List.length_eq_zero_iff.1 (by have:=congrArg List.length q;rwa [zHp]at this)) hne
 .refine⟨_,rfl,.sl _ _ _ g3 (zsl bs),?_⟩
  have e:clm (.sl (.fam g false) 1 (B bs))=.sl (.stat false) 1 (B bs):=by rw[zrE,zH9];rfl
  rw[e]
  exact h _ h2.2
def zLe(b:List UInt8)(xs:List AV):Prop:=(∃e,zaC b=none/\e≠0/\xs=[ziS,.int .i64 e])\/∃m mv,zaC b=some m/\xs=[mv,.int .i64 0]/\MV (clm mv) m
theorem zpw(V:zdI G)(hG:∀k,StillI (G.g k))(hy:∀l,¬G.has l){bs:List UInt8}{m:M}(hl:bs.length<=2^29)(hd:zaC bs=some m)(h:∀mv,MV mv m->R (.ret (.tuple [mv,.int .i64 0])) J):zzQ G 14 [.sl (.stat false) 1 (B bs)] J R:=by
 refine zy9 (Q:=zLe bs) hG hy (λv hv M F w c q=>by simp at hv;subst hv;exact zwq q) (zfM V ztm (.inr ⟨_,rfl,trivial⟩) hl (λq e J1 he A1=>?_) (λn hn mv J1 hmv A1=>?_)) λxs hq=>?_
 .rw[hd]at q;cases q
 .have h01:0<J1.nf/\J1.F 0=.alive:=⟨by have:=A1.nf;have:=ztm.1;omega,(A1.fam 0 ztm.1).trans ztm.2⟩
  obtain⟨hcb,hmv2⟩:=zBk (Al.m_e h01 hmv)
  exact⟨_,rfl,λv hv=>by simp at hv;rcases hv with rfl|rfl;exact hcb;exact .int _ _,.inr ⟨n,mv,hn,rfl,hmv2⟩⟩
 .rcases hq with ⟨e,q,_,rfl⟩|⟨n,mv,hn,rfl,hmv⟩
  .rw[hd]at q;cases q
  .rw[hd]at hn;cases hn
   simp only[yaL,List.map_nil,zuN]
   exact h _ hmv
theorem zpx(V:zdI G)(hG:∀k,StillI (G.g k))(hy:∀l,¬G.has l){v:AV}{bs:List UInt8}(hv:zd9 J v bs)(hl:bs.length<=2^29)(hd:zaC bs=none)(h:∀e,e≠0->R (.ret (.tuple [ziS,.int .i64 e])) J):zzQ G 14 [v] J R:=by
 obtain⟨c1,c2⟩:=zAr hv
 refine zqk (vs:=[v]) (Q:=λx=>∃e,e≠0/\x=.tuple [ziS,.int .i64 e]) hG hy (λu hu=>by simp at hu;subst hu;exact c1) ?_ λx ⟨e,he,hx⟩=>by rw[hx];exact h e he
 refine zfM V ztm c2 hl (λq e J1 he A1=>⟨_,rfl,.tuple _ λc hc=>?_,e,by omega,rfl⟩) (λn hn=>by rw[hd]at hn;cases hn)
 simp at hc
 rcases hc with rfl|rfl
 .exact .agg _ λc hc=>by
   simp at hc
   rcases hc with rfl|rfl
   .exact .nilsl
   .exact .int _ _
 .exact .int _ _
end
end Go.Proofs.YtohfclafhegadaaGreatDoor

namespace Go.Proofs.YtohfclafhegadaaGreatDoor
open Go Go.Abs
def SmI(m:M)(o:Nat)(fv:AV)(J:AS)(a:Nat->AV)(Z:AS):Prop:=∃(i z:Nat),i<=m.funcs.length/\z<=3000*i/\a 1=.ptr o 0/\a 3=.int .i64 (z:Int)/\a 4=.int .i64 (i:Int)/\Z.objs o=some [fv,.int .i64 m.memory,.int .i64 m.main]/\Z=J
def CbQ(v:AV)(bs:List UInt8)(J:AS)(a:Nat->AV)(Z:AS):Prop:=∃i:Nat,i<=bs.length/\a 0=v/\a 4=.int .i64 (i:Int)/\zdx J Z (a 3) (bs.take i)
section
variable {G : Env} {J : AS} {R : Out -> AS -> Prop}
theorem zEg{m:M}{mv:AV}(hm:MV mv m)(hl:m.funcs.length<=12)(hf:∀f∈m.funcs,f.locals.length<=3000/\f.lists.length<=300)(h:∀J',zd J J'->R (.ret (.bool true)) J'):zzQ G 25 [mv] J R:=by
 refine zCE rfl ?_
 obtain⟨fv,rfl,hfv⟩:=hm
 have f1:=hfv.one
 have fl:=hfv.len
 have A1:zd J (J.newO [fv,.int .i64 m.memory,.int .i64 m.main]):=(zd.refl J).newO
 have o1:(J.newO [fv,.int .i64 m.memory,.int .i64 m.main]).objs J.no=some [fv,.int .i64 m.memory,.int .i64 m.main]:=by simp
 simp[zLC,f1]
 generalize J.newO [fv,.int .i64 m.memory,.int .i64 m.main]=J1 at *
 refine zS (SmI m J.no fv J1) (MU 4 (m.funcs.length+1)) ⟨0,0,Nat.zero_le _,Nat.zero_le _,by simp,by simp,by simp,o1,rfl⟩ λa Z hI=>?_
 obtain⟨i,z,hi,hz,a1,a3,a4,ho,rfl⟩:=hI
 by_cases hlt:i<m.funcs.length
 .obtain⟨bb,rv,hrow,hat⟩:=hfv.at hlt
  have hlti:(i:Int)<(m.funcs.length:Int):=by omega
  have w1:yb4 .i64 ((i:Int)+1)=((i+1:Nat):Int):=by rw[zb]<;>omega
  obtain⟨k1,k2⟩:=hf _ (yaw hlt)
  generalize m.funcs[i]=f at *
  obtain⟨pv,lv,tv,rfl,hp,hlv,ht⟩:=hrow
  have l1:=hlv.one
  have t1:=ht.one
  have ll:=hlv.len
  have tl:=ht.len
  have w2:yb4 .i64 ((z:Int)+(f.locals.length:Int))=((z+f.locals.length:Nat):Int):=by rw[zb]<;>omega
  have hn:¬(400:Int)<(f.lists.length:Int):=by omega
  simp[zmX,a1,a3,a4,ho,f1,fl,hlt,hlti,hat,l1,t1,ll,tl,w1,w2,hn]
  refine⟨⟨i+1,z+f.locals.length,hlt,by omega,by simp[a1],by simp,by simp,ho,rfl⟩,?_⟩
  simp[MU,a4];omega
 .have e:i=m.funcs.length:=by omega
  have hz2:(z:Int)<=65536:=by omega
  simp[zmX,zut,a1,a3,a4,ho,f1,fl,e,hz2]
  exact h _ A1
theorem zEh{v:AV}{bs:List UInt8}(hv:zd9 J v bs)(hl:bs.length<=2^40)(h:∀v' J',zdx J J' v' bs->R (.ret v') J'):zzQ G 29 [v] J R:=by
 refine zCH rfl ?_
 have v1:=hv.one
 simp[zLE,v1]
 refine zS (CbQ v bs J) (MU 4 (bs.length+1)) ⟨0,by omega,by simp,by simp,⟨.inl ⟨rfl,by simp⟩,.refl _⟩⟩ λa Z hI=>?_
 obtain⟨i,hi,a0,a4,hL⟩:=hI
 have hvk:=hv.keep hL.2
 have vl:=hvk.len
 have l1:=hL.byt.one
 by_cases hlt:i<bs.length
 .have hlt':(i:Int)<(bs.length:Int):=by omega
  obtain⟨φ,hrd,hix⟩:=hvk.at hlt
  have hrd:=hrd.read
  have w1:yb4 .i64 ((i:Int)+1)=((i+1:Nat):Int):=by rw[zb]<;>omega
  simp[zmY,a0,a4,vl,hlt',hix,hrd,l1]
  refine zij (y:=[bs[i]]) hL rfl (by simp;omega) λv' Z' h'=>?_
  have q1:=h'.byt.one
  simp[a0,a4,q1,w1]
  refine⟨⟨i+1,by omega,by simp[a0],by simp,?_⟩,?_⟩
  .rw[List.take_add_one,yau hlt]
   simpa using h'
  .simp only[MU,a4];simp;omega
 .have e:i=bs.length:=by omega
  subst e
  simp[zmY,a0,a4,vl,zuv,l1]
  rw[List.take_length]at hL
  exact h _ _ hL
theorem zwr(V:zdI G)(VP:zDV G)(VC:znH G)(hG:∀k,StillI (G.g k))(hy:∀l,¬G.has l){mv iv:AV}{m:M}{input:List Int}{steps:Int}(hm:MV mv m)(hf:zKQ m)(hrg:∀f∈m.funcs,RgL f.lists)(hnm:∀f∈m.funcs,f.name.length<=2^20)(hi:zaR iv input)(hst:-(2^63)<=steps/\steps<2^63)(h:∀J',R (.ret (.bool true)) J'):zzQ G 6 [mv,iv,.int .i64 steps] J R:=by
 refine zGw rfl ?_
 have hm0:=hm
 obtain⟨fv,rfl,hfs⟩:=hm
 have f1:=hfs.one
 have il:=hi.len
 have i1:=hi.one
 have o1:(J.newO [fv,.int .i64 m.memory,.int .i64 m.main]).objs J.no=some [fv,.int .i64 m.memory,.int .i64 m.main]:=by simp
 have hl1:J.no<(J.newO [fv,.int .i64 m.memory,.int .i64 m.main]).no:=by simp
 simp[pc6,f1]
 generalize J.newO [fv,.int .i64 m.memory,.int .i64 m.main]=J1 at *
 refine zvg hm0 hf λb J2 hb A2=>?_
 have ho2:=(A2.obj J.no hl1).trans o1
 have hl2:J.no<J2.no:=yag hl1 A2.no
 cases b with
 | true =>
  simp
  refine zhH V hG hy ?_
  simp
  exact h _
 | false =>
  obtain⟨b1,b2⟩:=hb rfl
  have tin:∀f∈m.funcs,ztD f:=λf hf=>⟨(b2 f hf).params,(b2 f hf).locals,by have:=(b2 f hf).lists;omega,(b2 f hf).rows,hrg f hf,hnm f hf⟩
  simp[ho2,f1]
  refine zoz VC hG hy (Al.m_o hm0) (zk8 b1 tin) ?_
  by_cases he:zsI (zaP m)=0
  .have hck:=zy1 he
   simp[he,ho2,f1]
   refine zEg hm0 b1 (λf hf=>⟨(b2 f hf).locals,(b2 f hf).lists⟩) λJ3 A3=>?_
   have ho3:=(A3.obj J.no hl2).trans ho2
   have hl3:J.no<J3.no:=yag hl2 A3.no
   by_cases hin:(100:Int)<(input.length:Int)
   .have hin':100<input.length:=by omega
    simp[ho3,f1,il,hin,hin']
    refine zhH V hG hy ?_
    simp
    exact h _
   .have hin':¬100<input.length:=by omega
    obtain⟨bs,hbs,hbl⟩:=zvi hck b1 b2 hnm
    have hfn:=zbb hck
    have hmem:=ziU hck
    obtain⟨mn0,g0,hg0,_,_⟩:=zmn hck
    have hmn1:m.main.toNat<m.funcs.length:=(List.getElem?_eq_some_iff.1 hg0).1
    have hne:bs≠[]:=by
     rintro rfl
     obtain⟨cs,_,e⟩:=zdz hbs
     simp[zeh,zeX]at e
    have hbp:0<bs.length:=List.length_pos_iff.2 hne
    obtain⟨toks,fs2,w1,w2,w3⟩:=zso (gs:=m.funcs) m.funcs λf hf=>⟨hfn f hf,hrg f hf,by have:=(b2 f hf).lists;omega,hnm f hf,(b2 f hf).sum⟩
    have hfl2:=(ziu w1).1
    have hmany:=zEf λf hf=>(b2 f hf).locals
    have hdec:zb5 bs=some ⟨fs2,m.memory,m.main⟩:=ztB hck w1 (by omega) (by omega) hbs (by omega)
    have hdecP:zaC bs=some ⟨fs2,m.memory,m.main⟩:=by rw[zkE (by omega)];exact hdec
    have hlong:zaC (bs++[0])=none:=by rw[zkE (by simp only[yab,yac,ybl];omega)];exact zk7 hdec (by simp)
    have hshort:zaC (bs.take (bs.length-1))=none:=by
     rw[zkE (by rw[ybf];omega)]
     refine zq6 (r:=bs.drop (bs.length-1)) (by rw[List.take_append_drop];exact hdec) λe=>?_
     have:=congrArg List.length e
     simp at this
     omega
    have henc2:=zwd w1 hbs
    have hck2:zaP ⟨fs2,m.memory,m.main⟩=.ok ():=zv4 hck w1
    have hbv:∀Z,zd9 Z (.sl (.stat false) 1 (B bs)) bs:=λZ=>.inr ⟨_,rfl,trivial⟩
    have hv1:=(hbv AS.bare).one
    have hvl:=λK=>(hbv AS.bare).len (K:=K)
    have hbi:¬(bs.length:Int)=0:=by omega
    have wl:yb4 .i64 ((bs.length:Int)-1)=((bs.length-1:Nat):Int):=by rw[zb]<;>omega
    simp[ho3,f1,il,hin,hin']
    refine zpv V (Al.m_o hm0) hbs hne (by omega) (by omega) (zpu tin) ⟨by omega,by omega⟩ λJ4 A4=>?_
    have ho4:(znw J4).objs J.no=some [fv,.int .i64 m.memory,.int .i64 m.main]:=(A4.obj J.no hl3).trans ho3
    have hl4:J.no<(znw J4).no:=yag hl3 A4.no
    generalize znw J4=Z4 at *
    simp[hvl,hbi,hne]
    refine zpw V hG hy (by omega) hdecP λdv hdv=>?_
    have hpv:=hdv
    obtain⟨gv,rfl,hgs⟩:=hdv
    have g1:=hgs.one
    simp[g1,splice]
    have B6:zd Z4 ((Z4.newO [yc7,.int .i64 0,.int .i64 0]).setO Z4.no [gv,.int .i64 m.memory,.int .i64 m.main]):=(zd.refl Z4).newO.setO (Nat.le_refl _)
    have hp7:((Z4.newO [yc7,.int .i64 0,.int .i64 0]).setO Z4.no [gv,.int .i64 m.memory,.int .i64 m.main]).objs Z4.no=some [gv,.int .i64 m.memory,.int .i64 m.main]:=by simp
    have ho7:=(B6.obj J.no hl4).trans ho4
    have hn7:Z4.no<((Z4.newO [yc7,.int .i64 0,.int .i64 0]).setO Z4.no [gv,.int .i64 m.memory,.int .i64 m.main]).no:=by simp
    have hl7:J.no<((Z4.newO [yc7,.int .i64 0,.int .i64 0]).setO Z4.no [gv,.int .i64 m.memory,.int .i64 m.main]).no:=by simp;omega
    generalize (Z4.newO [yc7,.int .i64 0,.int .i64 0]).setO Z4.no [gv,.int .i64 m.memory,.int .i64 m.main]=Z7 at *
    refine zH8 (k:=2000) hst ⟨by decide,by decide⟩ λr hr0 hr1=>?_
    simp[hp7,g1]
    refine zoz VC hG hy (m:=⟨fs2,m.memory,m.main⟩) (Al.m_o hpv) (zk8 (by simp only;omega) w3) ?_
    rw[hck2]
    simp[zsI,hp7,g1]
    refine zdP V (Al.m_o hpv) henc2 (by omega) (by simp only;omega) (zpu w3) ⟨by simp only;omega,by simp only;omega⟩ λu J8 h8=>?_
    have u1:=h8.byt.one
    have hp8:=(h8.2.obj _ hn7).trans hp7
    have ho8:=(h8.2.obj _ hl7).trans ho7
    have hn8:=yag hn7 h8.2.no
    have hl8:=yag hl7 h8.2.no
    simp
    refine zdD h8.byt (hbv _) (by omega) ?_
    simp[ho8,f1]
    refine zHo (Al.m_o hm0) (by omega) (λf hf=>by have:=hnm f hf;omega) λJ9 A9=>?_
    have hp9:=(A9.obj _ hn8).trans hp8
    have ho9:=(A9.obj _ hl8).trans ho8
    have hn9:=yag hn8 A9.no
    have hl9:=yag hl8 A9.no
    cases htg:m.funcs.all λf=>ztH 24 f.name
    case' false =>
     simp[hp9,ho9,g1,f1]
     generalize J9=JB at *
    case' true =>
     have htx:zqD (zfJ ⟨fs2,m.memory,m.main⟩ toks)=zqD (zfJ m toks):=by rw[zkT,zkT]
     have htl:=zAq m toks (by omega) (by omega)
     have hpf:∀f∈m.funcs,Pf 24 f:=λf hf=>zLc (hfn f hf) (yaM.1 htg f hf)
     have hpf2:∀f∈fs2,Pf 24 f:=λf' hf'=>by
      obtain⟨i,hi,rfl⟩:=List.mem_iff_getElem.1 hf'
      obtain⟨f,t,ls',q1,q2,q3⟩:=(ziu w1).2 i _ (yau hi)
      have q:=hpf f (List.mem_of_getElem? q1)
      rw[q3]
      exact⟨q.name,q.params,q.locals,q.type⟩
     simp[hp9,ho9,g1,f1]
     refine zvE VP (Al.m_o hpv) (zwn w1) hpf2 (by decide) (zsn w3) (by simp only;omega) ⟨by simp only;omega,by simp only;omega⟩ (by rw[htx];omega) λJA AA=>?_
     rw[htx]
     have hpA:=(AA.obj _ hn9).trans hp9
     have hoA:=(AA.obj _ hl9).trans ho9
     have hnA:=yag hn9 AA.no
     have hlA:=yag hl9 AA.no
     simp[hpA,hoA,g1,f1]
     refine zvE VP (Al.m_o hm0) w1 hpf (by decide) (zsn tin) (by omega) ⟨by omega,by omega⟩ (by omega) λJB AB=>?_
     have hpB:=(AB.obj _ hnA).trans hpA
     have hoB:=(AB.obj _ hlA).trans hoA
     have hnB:=yag hnA AB.no
     have hlB:=yag hlA AB.no
     clear hp9 ho9 hn9 hl9 hpA hoA hnA hlA
     simp[hpB,hoB,g1,f1]
     have hp9:=hpB
     have ho9:=hoB
     have hn9:=hnB
     have hl9:=hlB
    all_goals
     refine zpi (steps:=r) VC hpv hck2 (zsm w3) hi (by omega) (by omega) λov out st code JC he ho AC=>?_
     rw[zD9 w1]at he
     have hoC:=(AC.obj _ hl9).trans ho9
     have ov1:=ho.one
     simp[hoC,f1]
     refine zpi (steps:=r) VC hm0 hck (zsm tin) hi (by omega) (by omega) λov2 out2 st2 code2 JD he2 ho2 AD=>?_
     rw[he]at he2
     cases he2
     have ov2':=ho2.one
     obtain⟨_,_,_,q1,_,q2⟩:=zmi hck input r (r.toNat+1) (by omega)
     rw[he]at q1
     cases q1
     simp
     refine zwp ho ho2 (by omega) λJE AE=>?_
     simp
     refine zEh (hbv _) (by omega) λcv JF hc=>?_
     have c1:=hc.byt.one
     simp[c1]
     refine zij (y:=[0]) hc rfl (by simp only[yac,ybl];omega) λkv JG hk=>?_
     have k1:=hk.byt.one
     simp[k1]
     refine zpx V hG hy hk.byt (by simp only[yab,yac,ybl];omega) hlong λe1 he1=>?_
     simp[ziS,splice,hvl,wl]
     refine zpx V hG hy (.inr ⟨.stat false,by rw[zBs],trivial⟩) (by rw[ybf];omega) hshort λe2 he2=>?_
     simp[ziS,splice,he1,he2]
     refine zhH V hG hy ?_
     simp
     exact h _
  .simp[he]
   refine zhH V hG hy ?_
   simp
   exact h _
end
end Go.Proofs.YtohfclafhegadaaGreatDoor
