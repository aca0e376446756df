/- Parts of the proof of the row WatKnown: contracts of functions, each under the conditions that its theorem names. -/
import Derived.Test.YtohfclafhegadaaGreatDoorZA
import Derived.Test.YtohfclafhegadaaGreatDoorShelf
import Derived.Lib.AppendIntMem
import Derived.Deep.LoopGhost
import Derived.Laws.Runes
import Derived.Laws.RangeString
import Derived.RegionTactic
import Derived.ChangeAlike
import Derived.Deep.RegionWith
import Derived.Lib.ItoaLen
set_option linter.unusedSimpArgs false
set_option linter.unusedVariables false
set_option maxRecDepth 100000
open List renaming mem_cons->ybC,all_eq_true->yaM,tail_cons->ydq,nil_append->ydo,cons_append->ydc,mem_singleton->ydr,map_cons->yaL,map_nil->yds,length_cons->yac,append_assoc->ydp,length_append->yab,append_nil->yb7,mem_of_find?_eq_some->ydt,getElem?_append_right->yaI,prefix_refl->ydu,prefix_append->ydv,mem_append->ybh,length_nil->ybl,length->ycX,replicate->yaj,length_take->ybf,length_drop->ydx,getElem?_take_of_lt->ydy,mem_replicate->ydz,drop_eq_nil_of_le->ydA,take->ydB,take_of_length_le->yc7,dropWhile_cons->ydl,eq_nil_or_concat->ybL,concat_eq_append->ydC,all_cons->ycV,head?_dropWhile_not->ydD,findIdx?_eq_none_iff->ydE,findIdx?_cons->ydF,getElem_cons_zero->yaz,getElem_of_mem->ya9,getElem?_eq_getElem->yau,getElem?_eq_some_iff->yaq,mem_of_getElem?->ydb,drop_eq_getElem_cons->ydd,take_append_drop->ydK,findIdx?_eq_some_iff_getElem->ydL,suffix_cons->ydM,length_pos_iff->ybm,getElem_mem->yaw,find?_eq_none->ydO,find?_some->ydP,map_append->ydQ,flatMap_cons->yaa
open Nat renaming le_refl->yah,le_trans->yai,lt_of_lt_of_le->yag,le_succ_of_le->ydw,lt_of_le_of_lt->ydN,add_zero->yaK,not_lt_zero->yaA
open Option renaming map_eq_some_iff->ybB,some->yaR
open Array renaming getElem?_eq_some_iff->yaU
open Int renaming toNat_natCast->ybe
open Go.Proofs.Tryz renaming prog->yb9,func236->ydG,ntmps236->ydH,func205->ydI,ntmps205->ydJ,func175->ydR,ntmps175->ydS
open Go.IntKind renaming wrap->yb4,signed->yao,bits->yap,i64->yam
open Go.Abs.AV renaming str->yc8,int->yc6,ptr->yde,nilsl->yc9,pv->ydT
namespace Go.Proofs.YtohfclafhegadaaGreatDoor
open Go Go.Abs
theorem zDX{ls:To}{d:Nat}{ws:List W}{acc acc':To}{toks:List Tok}{out:List W}(h:Pr ls d ws acc toks out acc'):toks=[]\/∃t r,toks=t::r/\zdm t=true/\t≠zj:=by
 cases h with
 | nil=>exact .inl rfl
 | leaf hn hf hr _ =>
  obtain⟨u,z,e1,e2,_⟩:=zoB hf hn hr
  rw[e1]
  exact .inr ⟨u,_,rfl,(zrw e2 0 false).1,zuy e2⟩
 | one ho _ _ _ _ _ =>
  refine .inr ⟨_,_,rfl,(zm1 (by omega) 0 false).1,?_⟩
  rcases ho with e|e|e
  .rw[e];decide
  .rw[e];decide
  .rw[e.1];decide
 | two=>exact .inr ⟨_,_,rfl,by decide,by decide⟩
theorem zId{ls:To}{d:Nat}{ws:List W}{acc acc':To}{toks:List Tok}{out:List W}(h:Pr ls d ws acc toks out acc')(w:Tok)(ts:List Tok)(l:To):zfm w ⟨zE (toks++zd::ts),l⟩=none:=by
 rcases zDX h with rfl|⟨t,r,rfl,h1,h2⟩
 .exact zrx (by decide) (by decide) _ _
 .exact zrx h1 h2 _ _
theorem zoC{kw w:Tok}(hkw:zdm kw=true)(hne:kw≠w){l:List Int}{ts:List Tok}{ls:To}(h:zfm w ⟨zE ts,ls⟩=none):zfm w ⟨zE (zD kw l++ts),ls⟩=none:=by
 unfold zD
 split
 .exact h
 .exact zqd (by decide) hkw (.inr hne) _ _
theorem zDY{w:Tok}(hne:zcv≠w){t:Int}{ts:List Tok}{ls:To}(h:zfm w ⟨zE ts,ls⟩=none):zfm w ⟨zE (zgq t++ts),ls⟩=none:=by
 unfold zgq
 split
 .exact h
 .exact zqd (by decide) (by decide) (.inr hne) _ _
theorem zj2{c:UInt8}(h:(zN c||zB c)=true):zas c=false:=by
 rw[Bool.or_eq_true]at h
 rcases h with h|h
 .simp only[zN,Bool.or_eq_true,Bool.and_eq_true,decide_eq_true_eq,beq_iff_eq]at h
  simp only[zas,List.contains_cons,List.contains_nil,Bool.or_false,Bool.or_eq_false_iff,beq_eq_false_iff_ne,ne_eq]
  refine⟨?_,?_,?_,?_,?_⟩<;>(rintro rfl;rcases h with h|h;simp at h;simp at h)
 .exact zlB h
theorem zyV{mx:Nat}{n:Tok}(h:zeg mx n=true):zdm (36::n)=true:=by
 have ha:∀c∈n,zas c=false:=λc hc=>by
  cases n with
  | nil=>simp at hc
  | cons x r =>
   simp only[zeg,Bool.and_eq_true,decide_eq_true_eq]at h
   rcases ybC.1 hc with rfl|hc
   .exact zj2 (by rw[h.2.1];rfl)
   .exact zj2 (yaM.1 h.2.2 c hc)
 have h1:(n.all λc=>!zas c)=true:=by
  rw[yaM]
  intro c hc
  simp[ha c hc]
 have h2:zas 36=false:=by decide
 unfold zdm
 simp[h1,h2]
structure Pf(mx:Nat)(f:F):Prop where
 name:zeg mx f.name=true
 params:∀t∈f.params,t=1\/t=2
 locals:∀t∈f.locals,t=1\/t=2
 type:f.type=0\/f.type=1\/f.type=2
theorem zk5{mx:Nat}{f:F}{toks:List Tok}{ls':To}(hf:Pf mx f)(hp:PrF f toks ls')(ts:List Tok)(ls:To):
  zL mx ⟨zE ((36::f.name)::(zD zaW f.params++(zgq f.type++(zD zaf f.locals++(toks++zd::ts))))),ls⟩=.ok ({ f with lists:=ls' },⟨zE ts,ls'⟩):=by
 obtain⟨row,out,acc,h1,h2,rfl⟩:=hp
 have a3:∀w l,zfm w ⟨zE (toks++zd::ts),l⟩=none:=λw l=>zId h2 w ts l
 have a2:∀l,zfm zcv ⟨zE (zD zaf f.locals++(toks++zd::ts)),l⟩=none:=λl=>zoC (by decide) (by decide) (a3 _ l)
 have a1:∀l,zfm zaW ⟨zE (zgq f.type++(zD zaf f.locals++(toks++zd::ts))),l⟩=none:=λl=>zDY (by decide) (zoC (by decide) (by decide) (a3 _ l))
 unfold zL
 rw[zbY (zyV hf.name)]
 simp only[Except.bind,List.head?_cons,ydq]
 rw[if_pos ⟨trivial,hf.name⟩,zlC (by decide) hf.params _ _ (a1 ls)]
 simp only
 have hres:zjT ⟨zE (zgq f.type++(zD zaf f.locals++(toks++zd::ts))),ls⟩=.ok (f.type,⟨zE (zD zaf f.locals++(toks++zd::ts)),ls⟩):=by
  unfold zjT
  by_cases ht:f.type=0
  .have e:zgq f.type=[]:=if_pos ht
   rw[e,ydo,a2 ls,ht]
  .have e:zgq f.type=[zj,zcv,zr f.type,zd]:=if_neg ht
   rw[e]
   simp only[ydc,ydo]
   rw[zm2 (by decide)]
   simp only
   have:=zeO (zr f.type::zd::(zD zaf f.locals++(toks++zd::ts)))
   have q:=zdS [f.type] [] ((zE (zr f.type::zd::(zD zaf f.locals++(toks++zd::ts)))).length+1) (zD zaf f.locals++(toks++zd::ts)) ls (λt ht'=>by have:=hf.type;simp only[ydr]at ht';subst ht';omega) (by simp) (by simp at this ⊢;omega)
   simp only[yaL,yds,ydc,ydo]at q
   rw[q]
   simp[Except.bind]
 rw[hres]
 simp only
 rw[zlC (by decide) hf.locals _ _ (a3 _ ls)]
 simp only
 have hlen:=zeO (toks++zd::ts)
 rw[zuz h2 _ false [] zd ts (by simp at hlen;omega) (by decide) (by simp[zcS])]
 simp[Except.map]
inductive PrFsB(B:Nat):List F->List Tok->List F->Prop
 | nil:PrFsB B [] [] []
 | cons {f fs toks ls' ts fs'}:zIc B f toks ls'->PrFsB B fs ts fs'->PrFsB B (f::fs) (zdR f toks++ts) ({ f with lists:=ls' }::fs')
abbrev zpk:=PrFsB 400
theorem zj3{mx:Nat}{fs fs':List F}{toks:List Tok}(h:zpk fs toks fs'):∀(hf:∀f∈fs,Pf mx f) (k:Nat) (acc:List F) (ts:List Tok) (ls:To),fs.length<k->(∀l,zfm zap ⟨zE ts,l⟩=none)->∃l',zC mx k acc ⟨zE (toks++ts),ls⟩=.ok (acc++fs',⟨zE ts,l'⟩):=by
 induction h with
 | nil =>
  intro hf k acc ts ls hk hn
  obtain⟨k,rfl⟩:∃j,k=j+1:=⟨k-1,by simp at hk;omega⟩
  refine⟨ls,?_⟩
  rw[zC,ydo,hn]
  simp
 | @cons f fs toks ls' t fs' hp _ ih =>
  intro hf k acc ts ls hk hn
  simp only[yac]at hk
  obtain⟨k,rfl⟩:∃j,k=j+1:=⟨k-1,by omega⟩
  obtain⟨l',hl'⟩:=ih (λg hg=>hf g (by simp[hg])) k (acc++[{ f with lists:=ls' }]) ts ls' (by omega) hn
  refine⟨l',?_⟩
  rw[zC]
  simp only[zdR,ydc,ydp,ydo]
  rw[zm2 (by decide)]
  simp only
  rw[zk5 (hf f (by simp)) hp]
  simp only[Except.bind]
  rw[hl']
  simp
theorem zcV:∀(l:List Tok) (ts:List Tok) (ls:To),(∀t∈l,zdm t=true)->zx l ⟨zE (l++ts),ls⟩=.ok ⟨zE ts,ls⟩
 | [],ts,ls,_=>rfl
 | t::l,ts,ls,h=>by
  rw[zx,ydc,zbY (h t (by simp))]
  simp only[Except.bind]
  rw[if_pos trivial]
  exact zcV l ts ls λx hx=>h x (by simp[hx])
def zBH:List Tok:=[zj,zbe,zeK,zj,zap]
def zbZ(m:M)(toks:List Tok):List Tok:=zaF++(Lib.itoa m.memory::zd::zd::(toks++(zBH++(Lib.itoa (yb4 .i64 (m.main+3))::[zd,zd,zd]))))
theorem zcw(x:Int):(-(2^63)<=yb4 .i64 x/\yb4 .i64 x<2^63)/\∃k:Int,yb4 .i64 x=x+2^64*k:=by
 simp only[yb4,yao,yap,Bool.true_and]
 split
 .rename_i k
  have k:=of_decide_eq_true k
  exact⟨by omega,-(x/2^64)-1,by omega⟩
 .rename_i k
  have k:=of_decide_eq_false (eq_false_of_ne_true k)
  exact⟨by omega,-(x/2^64),by omega⟩
theorem zsJ{n d:Int}(h:-(2^63)<=n/\n<2^63):yb4 .i64 (yb4 .i64 (n+d)-d)=n:=by
 obtain⟨_,k,e⟩:=zcw (n+d)
 obtain⟨r,j,e2⟩:=zcw (yb4 .i64 (n+d)-d)
 rw[e]at e2 r ⊢
 omega
def zgg(ts:List Tok):List UInt8:=(zE ts).tail
theorem zh4{mx:Nat}{m:M}{toks:List Tok}{fs':List F}(h:zpk m.funcs toks fs')(hf:∀f∈m.funcs,Pf mx f)(hm:-(2^63)<=m.memory/\m.memory<2^63)(hn:-(2^63)<=m.main/\m.main<2^63):za8 mx (zgg (zbZ m toks))=.ok ⟨fs',m.memory,m.main⟩:=by
 have hcut:∀ts,zaF++ts≠[]->zaj ⟨zgg (zaF++ts),[]⟩=zaj ⟨zE (zaF++ts),[]⟩:=λts _=>by
  have e:zcr (zgg (zaF++ts))=zcr (zE (zaF++ts)):=rfl
  simp only[zaj,e]
 have hw:∀ts,zx zaF ⟨zgg (zaF++ts),[]⟩=zx zaF ⟨zE (zaF++ts),[]⟩:=λts=>by
  have e:=hcut ts (by simp[zaF])
  have e2:∀s s':Ts,zaj s=zaj s'->zx zaF s=zx zaF s':=λs s' q=>by
   simp only[zaF,zx,q]
  exact e2 _ _ e
 have w4:yb4 .i64 (yb4 .i64 (m.main+3)-3)=m.main:=zsJ hn
 unfold za8 zcb zbZ
 rw[hw,zcV zaF _ _ (by decide)]
 simp only[Except.bind]
 rw[zeN hm]
 simp only
 have e1:=zcV [zd,zd] (toks++(zBH++(Lib.itoa (yb4 .i64 (m.main+3))::[zd,zd,zd]))) [] (by decide)
 simp only[ydc,ydo]at e1
 rw[e1]
 simp only
 have hlen:=zeO (toks++(zBH++(Lib.itoa (yb4 .i64 (m.main+3))::[zd,zd,zd])))
 have hfl:∀{gs gs':List F} {us:List Tok},zpk gs us gs'->gs.length<=us.length:=λ{gs gs' us} q=>by
  induction q with
  | nil=>simp
  | cons _ _ ih=>simp only[zdR,yac,yab,ydc];omega
 have:=hfl h
 obtain⟨l',e2⟩:=zj3 h hf ((zE (toks++(zBH++(Lib.itoa (yb4 .i64 (m.main+3))::[zd,zd,zd])))).length+1) [] (zBH++(Lib.itoa (yb4 .i64 (m.main+3))::[zd,zd,zd])) [] (by simp only[yab]at hlen;omega)
  (λl=>zqd (by decide) (by decide) (.inr (by decide)) _ _)
 rw[e2]
 simp only[ydo]
 have e3:=zcV zBH (Lib.itoa (yb4 .i64 (m.main+3))::[zd,zd,zd]) l' (by decide)
 have ee:[zj,zbe,zeK,zj,zap]=zBH:=rfl
 rw[ee,e3]
 simp only
 rw[zeN (zcw _).1]
 simp only
 have e4:=zcV [zd,zd,zd] [] l' (by decide)
 rw[yb7]at e4
 rw[e4]
 simp only[zE,w4]
 rfl
theorem zsK{t:Tok}{n:Int}(h:zh0 t=.ok n):-(2^63)<=n/\n<2^63:=by
 have h0:=h
 unfold zh0 at h0
 split at h0
 .cases h0
 .rename_i hb
  simp only[Bool.or_eq_true,Bool.not_eq_true',not_or,Bool.not_eq_true,Bool.not_eq_false]at hb
  have hne:zaE t≠[]:=λe=>by rw[e]at hb;simp at hb
  rw[zjS hne hb.2]at h0
  by_cases o:-(2^63)<=zef t/\zef t<2^63
  .rw[if_pos o]at h0
   simp only at h0
   split at h0
   .cases h0;exact o
   .cases h0
  .rw[if_neg o]at h0
   simp at h0
theorem zh5{s s':Ts}{n:Int}(h:zR s=.ok (n,s')):(-(2^63)<=n/\n<2^63)/\s'.ls=s.ls:=by
 unfold zR zaj at h
 split at h
 .cases h
 .rename_i p _
  simp only[Except.bind]at h
  cases hn:zh0 p.1 with
  | error e=>rw[hn]at h;cases h
  | ok m =>
   rw[hn]at h
   simp only[Except.map,Except.ok.injEq,Prod.mk.injEq]at h
   obtain⟨rfl,rfl⟩:=h
   exact⟨zsK hn,rfl⟩
def zsL(w:W):Bool:=zT w&&(!zbv w&&(decide (za9 w=w)&&(decide (-(2^63)<=w.n)&&decide (w.n<2^63))))
theorem zuA:∀p∈zaG,zsL p.2=true:=by decide
theorem zyW:∀p∈zaA,((p.2.op=1/\(p.2.ty=1\/p.2.ty=2))\/((p.2.op=2\/p.2.op=3\/p.2.op=10\/p.2.op=14\/p.2.op=15)/\p.2.ty=0))/\p.2.body=0/\p.2.other=0/\p.2.name=[]:=by decide
theorem zuB{w:W}(h:zsL w=true):zT w=true/\zbv w=false/\za9 w=w/\RgW w:=by
 simp only[zsL,Bool.and_eq_true,Bool.not_eq_true',decide_eq_true_eq]at h
 exact⟨h.1,h.2.1,h.2.2.1,h.2.2.2.1,h.2.2.2.2⟩
theorem zuC{w:W}(h:∃p∈zaA,p.2=w){n:Int}(hn:-(2^63)<=n/\n<2^63):zsL { w with n:=n }=true:=by
 obtain⟨p,hp,rfl⟩:=h
 obtain⟨h1,h2,h3,h4⟩:=zyW p hp
 obtain⟨t,op,ty,m,body,other,name⟩:=p
 simp only at h1 h2 h3 h4
 subst h2 h3 h4
 rcases h1 with ⟨rfl,rfl|rfl⟩|⟨rfl|rfl|rfl|rfl|rfl,rfl⟩<;>(simp[zsL,zT,zbv,za9,zah,zac];omega)
theorem zoD{l:List (List UInt8 × W)}{t:Tok}{w:W}(h:zK l t=some w):∃p∈l,p.2=w:=by
 unfold zK at h
 rw[ybB]at h
 obtain⟨p,h1,h2⟩:=h
 exact⟨p,ydt h1,h2⟩
theorem zsM{t:Tok}{s s':Ts}{w:W}(h:zbA t s=.ok (w,s')):zsL w=true/\s'.ls=s.ls:=by
 unfold zbA at h
 split at h
 .rename_i v hv
  cases hq:zR s with
  | error e=>rw[hq]at h;cases h
  | ok p =>
   rw[hq]at h
   obtain⟨n,s1⟩:=p
   simp only[Except.map,Except.ok.injEq,Prod.mk.injEq]at h
   obtain⟨rfl,rfl⟩:=h
   obtain⟨h1,h2⟩:=zh5 hq
   exact⟨zuC (zoD hv) h1,h2⟩
 .split at h
  .rename_i v hv
   cases h
   obtain⟨p,hp,rfl⟩:=zoD hv
   exact⟨zuA p hp,rfl⟩
  .cases h
theorem zry(t:Tok):zag t=0\/zag t=11\/zag t=12\/zag t=13:=by
 unfold zag
 split
 .simp
 .split
  .simp
  .split<;>simp
theorem bind_some{α β:Type}{r:Res α}{f:α->Res β}{y:β}(h:r.bind f=.ok y):∃x,r=.ok x/\f x=.ok y:=by
 cases r with
 | error e=>cases h
 | ok x=>exact⟨x,rfl,h⟩
theorem map_some{α β:Type}{r:Res α}{f:α->β}{y:β}(h:r.map f=.ok y):∃x,r=.ok x/\f x=y:=by
 cases r with
 | error e=>cases h
 | ok x=>simp only[Except.map,Except.ok.injEq]at h;exact⟨x,rfl,h⟩
theorem zyX{s s':Ts}{t:Tok}(h:zaj s=.ok (t,s')):s'.ls=s.ls:=by
 unfold zaj at h
 split at h
 .cases h
 .cases h;rfl
theorem zaz{α:Type}{a:List α}{x:α}{fin:List α}(h:a++[x]<+:fin):fin[a.length]?=some x:=by
 obtain⟨z,rfl⟩:=h
 rw[ydp,yaI (yah _)]
 simp
theorem zbf{ls:To}{d:Nat}{ws:List W}{acc acc':To}{toks:List Tok}{out:List W}(h:Pr ls d ws acc toks out acc'):acc<+:acc':=by
 induction h with
 | nil=>exact ydu _
 | leaf _ _ _ _ ih=>exact ih
 | one _ _ _ _ _ _ ih1 ih2=>exact ih1.trans ((ydv _ _).trans ih2)
 | two _ _ _ _ _ _ _ _ _ ih1 ih2 ih3=>exact ih1.trans ((ydv _ _).trans (ih2.trans ((ydv _ _).trans ih3)))
theorem zfs{fin:To}:∀(k d:Nat) (o:Bool) (l:List W) (s:Ts) (n:Int) (e:Tok) (s':Ts),zw k d o l s=.ok ((n,e),s')->s'.ls<+:fin->∃out toks acc',s'.ls=acc'++[l++out]/\n=acc'.length/\Pr fin d out s.ls toks out acc'/\zcS d o e=true
 | 0,d,o,l,s,n,e,s',h,_=>by cases h
 | k+1,d,o,l,s,n,e,s',h,hp=>by
  rw[zw]at h
  obtain⟨⟨t,s1⟩,h1,h2⟩:=bind_some h
  have e1:=zyX h1
  simp only at h2
  by_cases hd:zcS d o t=true
  .rw[if_pos hd]at h2
   cases h2
   exact⟨[],[],s1.ls,by simp,rfl,by rw[<-e1];exact .nil d s1.ls,hd⟩
  .rw[if_neg hd]at h2
   obtain⟨⟨w,s2⟩,h3,h4⟩:=bind_some h2
   simp only at h4
   obtain⟨out,toks,acc',q1,q2,q3,q4⟩:=zfs k d o (l++[w]) s2 n e s' h4 hp
   unfold zaI at h3
   by_cases h0:zag t=0
   .rw[if_pos h0]at h3
    obtain⟨g1,g2⟩:=zsM h3
    obtain⟨b1,b2,b3,b4⟩:=zuB g1
    refine⟨w::out,zcd w++toks,acc',by rw[q1];simp,q2,?_,q4⟩
    rw[g2,e1]at q3
    have:=PrB.leaf b2 b1 b4 q3
    rw[b3]at this
    exact this
   .rw[if_neg h0]at h3
    unfold zad at h3
    by_cases h400:400<d+1
    .rw[if_pos h400]at h3;cases h3
    .rw[if_neg h400]at h3
     obtain⟨⟨⟨n1,t1⟩,s3⟩,h5,h6⟩:=bind_some h3
     simp only at h6
     have hpre:s2.ls<+:fin:=(zbf q3).trans ((ydv _ _).trans (q1▸hp))
     have hop:=zry t
     by_cases h13:zag t=13
     .rw[if_pos h13]at h6
      by_cases hel:t1=zaX
      .rw[if_pos hel]at h6
       obtain⟨⟨⟨n2,t2⟩,s4⟩,h7,h8⟩:=map_some h6
       simp only[Prod.mk.injEq]at h8
       obtain⟨rfl,rfl⟩:=h8
       obtain⟨o2,u2,a2,r1,r2,r3,r4⟩:=zfs k (d+1) false [] s3 n2 t2 s4 h7 hpre
       have hpre3:s3.ls<+:fin:=(zbf r3).trans ((ydv _ _).trans (r1▸hpre))
       obtain⟨o1,u1,a1,p1,p2,p3,p4⟩:=zfs k (d+1) _ [] s1 n1 t1 s3 h5 hpre3
       simp only[ydo]at p1 r1
       have f1:=zaz (p1▸hpre3)
       have f2:=zaz (r1▸hpre)
       rw[e1]at p3
       rw[p1]at r3
       rw[r1]at q3
       refine⟨{ op:=13,ty:=0,n:=0,body:=n1,other:=n2,name:=[] }::out,tIf::(u1++zaX::(u2++zbE::toks)),acc',by rw[q1];simp only[ydp,ydc,ydo],q2,?_,q4⟩
       have:=PrB.two (ls:=fin) (w:={ op:=13,ty:=0,n:=0,body:=n1,other:=n2,name:=[] }) rfl (by rw[r2];simp) (show d<400 by omega) (by rw[p2];simp) (by rw[p2];simpa using f1) (by rw[r2];simpa using f2) p3 r3 q3
       rw[<-p2,<-r2]at this
       exact this
      .rw[if_neg hel]at h6
       simp only[Except.ok.injEq,Prod.mk.injEq]at h6
       obtain⟨rfl,rfl⟩:=h6
       obtain⟨o1,u1,a1,p1,p2,p3,p4⟩:=zfs k (d+1) _ [] s1 n1 t1 s3 h5 hpre
       simp only[ydo]at p1
       have f1:=zaz (p1▸hpre)
       rw[e1]at p3
       rw[p1]at q3
       refine⟨{ op:=13,ty:=0,n:=0,body:=n1,other:=-1,name:=[] }::out,zaT 13::(u1++zbE::toks),acc',by rw[q1];simp only[ydp,ydc,ydo],q2,?_,q4⟩
       have:=PrB.one (ls:=fin) (w:={ op:=13,ty:=0,n:=0,body:=n1,other:=-1,name:=[] }) (.inr (.inr ⟨rfl,by simp⟩)) (show d<400 by omega) (by rw[p2];simp) (by rw[p2];simpa using f1) p3 q3
       rw[<-p2]at this
       exact this
     .rw[if_neg h13]at h6
      simp only[Except.ok.injEq,Prod.mk.injEq]at h6
      obtain⟨rfl,rfl⟩:=h6
      obtain⟨o1,u1,a1,p1,p2,p3,p4⟩:=zfs k (d+1) _ [] s1 n1 t1 s3 h5 hpre
      simp only[ydo]at p1
      have f1:=zaz (p1▸hpre)
      rw[e1]at p3
      rw[p1]at q3
      refine⟨{ op:=zag t,ty:=0,n:=0,body:=n1,other:=0,name:=[] }::out,zaT (zag t)::(u1++zbE::toks),acc',by rw[q1];simp only[ydp,ydc,ydo],q2,?_,q4⟩
      have:=PrB.one (ls:=fin) (w:={ op:=zag t,ty:=0,n:=0,body:=n1,other:=0,name:=[] }) (by simp only;omega) (show d<400 by omega) (by rw[p2];simp) (by rw[p2];simpa using f1) p3 q3
      rw[if_neg (by simpa using h13),<-p2]at this
      exact this
theorem zdT:∀(k:Nat) (l:List Int) (s:Ts) (r:List Int) (s':Ts),zaH k l s=.ok (r,s')->(∀t∈l,t=1\/t=2)->r≠[]/\∀t∈r,t=1\/t=2
 | 0,l,s,r,s',h,_=>by cases h
 | k+1,l,s,r,s',h,hl=>by
  rw[zaH]at h
  obtain⟨⟨t,s1⟩,_,h2⟩:=bind_some h
  simp only at h2
  split at h2
  .exact zdT k _ _ r s' h2 λx hx=>by
    rcases ybh.1 hx with hx|hx
    .exact hl x hx
    .simp at hx;exact .inl hx
  .split at h2
   .exact zdT k _ _ r s' h2 λx hx=>by
     rcases ybh.1 hx with hx|hx
     .exact hl x hx
     .simp at hx;exact .inr hx
   .split at h2
    .rename_i hc
     cases h2
     exact⟨hc.2,hl⟩
    .cases h2
theorem zlD{kw:Tok}{s s':Ts}{r:List Int}(h:zbB kw s=.ok (r,s')):∀t∈r,t=1\/t=2:=by
 unfold zbB at h
 split at h
 .exact(zdT _ _ _ _ _ h (by simp)).2
 .cases h;simp
theorem zuD{s s':Ts}{t:Int}(h:zjT s=.ok (t,s')):t=0\/t=1\/t=2:=by
 unfold zjT at h
 split at h
 .obtain⟨⟨r,s1⟩,h1,h2⟩:=bind_some h
  have h3:=(zdT _ _ _ _ _ h1 (by simp)).2
  simp only at h2
  split at h2
  .rename_i hl
   cases h2
   match r,hl with
   | [x],_=>have:=h3 x (by simp);simp;omega
  .cases h2
 .cases h;exact .inl rfl
theorem zk6{mx:Nat}{s s':Ts}{f:F}(h:zL mx s=.ok (f,s')):Pf mx f/\∃toks,PrF f toks f.lists:=by
 unfold zL at h
 obtain⟨⟨t,s1⟩,_,h⟩:=bind_some h
 simp only at h
 split at h
 .rename_i hn
  obtain⟨⟨ps,s2⟩,h2,h⟩:=bind_some h
  obtain⟨⟨ty,s3⟩,h3,h⟩:=bind_some h
  obtain⟨⟨ls,s4⟩,h4,h⟩:=bind_some h
  obtain⟨⟨⟨n,e⟩,s5⟩,h5,h⟩:=map_some h
  simp only[Prod.mk.injEq]at h
  obtain⟨rfl,rfl⟩:=h
  obtain⟨out,toks,acc',q1,q2,q3,q4⟩:=zfs (fin:=s5.ls) _ _ _ _ _ _ _ _ h5 (ydu _)
  simp only[ydo]at q1
  refine⟨⟨hn.2,zlD h2,zlD h4,zuD h3⟩,toks,out,out,acc',?_,q3,q1⟩
  simp only[q1,yab,yac,ybl,Nat.add_sub_cancel]
  simp
 .cases h
theorem zeP{mx:Nat}:∀(k:Nat) (acc:List F) (s:Ts) (fs:List F) (s':Ts),zC mx k acc s=.ok (fs,s')->∃gs toks,fs=acc++gs/\zpk gs toks gs/\∀f∈gs,Pf mx f
 | 0,acc,s,fs,s',h=>by cases h
 | k+1,acc,s,fs,s',h=>by
  rw[zC]at h
  split at h
  .cases h
   exact⟨[],[],by simp,.nil,by simp⟩
  .obtain⟨⟨f,s2⟩,h1,h2⟩:=bind_some h
   obtain⟨p1,t1,p2⟩:=zk6 h1
   obtain⟨gs,ts,e,q1,q2⟩:=zeP k _ _ fs s' h2
   refine⟨f::gs,_,by rw[e];simp,.cons p2 q1,λg hg=>?_⟩
   rcases ybC.1 hg with rfl|hg
   .exact p1
   .exact q2 g hg
theorem zoE{mx:Nat}{b:List UInt8}{m:M}(h:za8 mx b=.ok m):∃toks,zpk m.funcs toks m.funcs/\(∀f∈m.funcs,Pf mx f)/\(-(2^63)<=m.memory/\m.memory<2^63)/\(-(2^63)<=m.main/\m.main<2^63):=by
 unfold za8 at h
 obtain⟨⟨m',s0⟩,h0,e0⟩:=map_some h
 simp only at e0
 subst e0
 clear h
 unfold zcb at h0
 obtain⟨s1,_,h⟩:=bind_some h0
 obtain⟨⟨mem,s2⟩,hm,h⟩:=bind_some h
 obtain⟨s3,_,h⟩:=bind_some h
 obtain⟨⟨fs,s4⟩,hf,h⟩:=bind_some h
 obtain⟨s5,_,h⟩:=bind_some h
 obtain⟨⟨mn,s6⟩,hn,h⟩:=bind_some h
 obtain⟨s7,_,h⟩:=bind_some h
 split at h
 .cases h
  obtain⟨gs,toks,e,q1,q2⟩:=zeP _ _ _ _ _ hf
  simp only[ydo]at e
  subst e
  exact⟨toks,q1,q2,(zh5 hm).1,(zcw _).1⟩
 .cases h
def zcW(J:AS)(x f:Nat):Prop:=∃cs v,J.objs x=some cs/\cs[1]?=some v/\zcJ v=some f
structure zat(x:Nat)(J J':AS):Prop where
 no:J.no<=J'.no
 nf:J.nf<=J'.nf
 obj:∀o,o<J.no->o≠x->J'.objs o=J.objs o
 fam:∀f,f<J.nf->¬zcW J x f->J'.F f=J.F f
 use:∀f,f<J.nf->zcW J' x f->zcW J x f
theorem zat.refl(x J):zat x J J:=⟨yah _,yah _,λ_ _ _=>rfl,λ_ _ _=>rfl,λ_ _ h=>h⟩
theorem zat.trans{x J J1 J2}(h:zat x J J1)(h':zat x J1 J2):zat x J J2 where
 no:=yai h.no h'.no
 nf:=yai h.nf h'.nf
 obj o a b:=by rw[h'.obj o (yag a h.no) b,h.obj o a b]
 fam f a b:=by rw[h'.fam f (yag a h.nf) λu=>b (h.use f a u),h.fam f a b]
 use f a u:=h.use f a (h'.use f (yag a h.nf) u)
theorem zb.keepR{x J J'}(h:zb J J')(hx:x<J.no):zat x J J' where
 no:=h.no
 nf:=h.nf
 obj o a _:=h.obj o a
 fam f a _:=h.fam f a
 use f _ u:=by unfold zcW at *;rwa [h.obj x hx]at u
structure zaB(x:Nat)(J J':AS):Prop where
 no:J.no<=J'.no
 nf:J.nf<=J'.nf
 obj:∀o,o<J.no->o≠x->J'.objs o=J.objs o
 fam:∀f,f<J.nf->J'.F f=J.F f
 lst:∀cs,J.objs x=some cs->∃cs',J'.objs x=some cs'/\cs'[1]?=cs[1]?
 some:(J.objs x).isSome=true
theorem zaB.refl{x J cs}(h:J.objs x=yaR cs):zaB x J J:=⟨yah _,yah _,λ_ _ _=>rfl,λ_ _=>rfl,λcs h=>⟨cs,h,rfl⟩,by rw[h];rfl⟩
theorem zaB.trans{x J J1 J2}(h:zaB x J J1)(h':zaB x J1 J2):zaB x J J2 where
 no:=yai h.no h'.no
 nf:=yai h.nf h'.nf
 obj o a b:=by rw[h'.obj o (yag a h.no) b,h.obj o a b]
 fam f a:=by rw[h'.fam f (yag a h.nf),h.fam f a]
 lst cs e:=by
  obtain⟨c1,e1,e2⟩:=h.lst cs e
  obtain⟨c2,e3,e4⟩:=h'.lst c1 e1
  exact⟨c2,e3,e4.trans e2⟩
 some:=h.some
theorem zaB.r{x J J'}(h:zaB x J J'):zat x J J' where
 no:=h.no
 nf:=h.nf
 obj:=h.obj
 fam f a _:=h.fam f a
 use f a u:=by
  obtain⟨cs,v,h1,h2,h3⟩:=u
  obtain⟨c0,hc0⟩:=Option.isSome_iff_exists.1 h.some
  obtain⟨c1,e1,e2⟩:=h.lst c0 hc0
  rw[h1]at e1
  cases e1
  exact⟨c0,v,hc0,by rw[<-e2];exact h2,h3⟩
theorem zb.keepS{x J J' cs}(h:zb J J')(hx:x<J.no)(ho:J.objs x=yaR cs):zaB x J J' where
 no:=h.no
 nf:=h.nf
 obj o a _:=h.obj o a
 fam f a:=h.fam f a
 lst cs e:=⟨cs,(h.obj x hx).trans e,rfl⟩
 some:=by rw[ho];rfl
theorem zaB.set{x J cs cs'}(ho:J.objs x=yaR cs)(h:cs'[1]?=cs[1]?):zaB x J (J.setO x cs') where
 no:=yah _
 nf:=yah _
 obj o _ ho:=by simp[ho]
 fam f _:=rfl
 lst c e:=⟨cs',by simp,by rw[h];rw[ho]at e;cases e;rfl⟩
 some:=by rw[ho];rfl
theorem zaB.endF{x J Z}(K:zaB x J Z){g:Nat}(hg:J.nf<=g):zaB x J (Z.setF g .dead) where
 no:=K.no
 nf:=K.nf
 obj:=K.obj
 fam f a:=by
  have:¬f=g:=by omega
  simp[this]
  exact K.fam f a
 lst:=K.lst
 some:=K.some
theorem zaB.newF{x J Z}(K:zaB x J Z):zaB x J Z.newF where
 no:=K.no
 nf:=ydw K.nf
 obj:=K.obj
 fam f a:=by
  have:=K.nf
  have:¬f=Z.nf:=by omega
  simp[this]
  exact K.fam f a
 lst:=K.lst
 some:=K.some
theorem zaB.mrg{x J Z}(K:zaB x J Z){g:Nat}(hg:J.nf<=g):zaB x J (Z.mrg g λ_=>false) where
 no:=K.no
 nf:=K.nf
 obj o a b:=by simpa [AS.mrg]using K.obj o a b
 fam f a:=by
  have:¬f=g:=by omega
  simp[AS.mrg,zkJ,this]
  exact K.fam f a
 lst cs e:=by
  obtain⟨c1,e1,e2⟩:=K.lst cs e
  exact⟨c1,by simpa [AS.mrg]using e1,e2⟩
 some:=K.some
def zMo:Go.Abs.Own->Option Nat
 | .stat _=>none
 | .fam f _=>some f
def ToR(base:Nat)(J:AS)(v:AV)(tO:To):Prop:=(tO=[]/\v=.nilsl)\/∃g tos,v=.sl (.fam g false) 1 tos/\base<=g/\g<J.nf/\J.F g=.alive/\All2 Al.RepE tos tO
theorem ToR.one{base J v bs}(h:ToR base J v bs):v.known=true/\v.one=true/\v.cells=[v]:=by rcases h with ⟨_,rfl⟩|⟨b,_,rfl,_⟩<;>simp
section
variable {G : Env} {J : AS} {R : Out -> AS -> Prop}
end
def zk7(J0:AS)(x sz:Nat)(Z:AS)(v:AV)(xs:List AV):Prop:=(xs=[]/\v=.nilsl)\/∃g,v=.sl (.fam g false) sz xs/\J0.nf<=g/\g<Z.nf/\Z.F g=.alive/\¬zcW Z x g
theorem zk7.one{J0 x sz Z v xs}(h:zk7 J0 x sz Z v xs):v.known=true/\v.one=true/\v.cells=[v]:=by rcases h with ⟨_,rfl⟩|⟨b,rfl,_⟩<;>simp
theorem zk7.keep{J0 x sz Z Z' v xs}(h:zk7 J0 x sz Z v xs)(K:zat x Z Z'):zk7 J0 x sz Z' v xs:=by
 rcases h with h|⟨g,h1,h2,h3,h4,h5⟩
 .exact .inl h
 .exact .inr ⟨g,h1,h2,yag h3 K.nf,(K.fam g h3 h5).trans h4,λu=>h5 (K.use g h3 u)⟩
theorem zat.endF{x J Z}(K:zat x J Z){g:Nat}(hg:J.nf<=g):zat x J (Z.setF g .dead) where
 no:=K.no
 nf:=K.nf
 obj:=K.obj
 fam f a b:=by
  have:¬f=g:=by omega
  simp[this]
  exact K.fam f a b
 use f a u:=K.use f a u
theorem zat.newF{x J Z}(K:zat x J Z):zat x J Z.newF where
 no:=K.no
 nf:=ydw K.nf
 obj:=K.obj
 fam f a b:=by
  have:=K.nf
  have:¬f=Z.nf:=by omega
  simp[this]
  exact K.fam f a b
 use f a u:=K.use f a u
section
variable {G : Env} {J : AS} {R : Out -> AS -> Prop}
end
theorem zat.setO{x J Z o cs}(K:zat x J Z)(ho:J.no<=o)(hox:o≠x):zat x J (Z.setO o cs) where
 no:=K.no
 nf:=K.nf
 obj p a b:=by
  have:¬p=o:=by omega
  simp[this]
  exact K.obj p a b
 fam f a b:=K.fam f a b
 use f a u:=K.use f a (by
  obtain⟨cs',v,h1,h2,h3⟩:=u
  have:¬x=o:=λe=>hox e.symm
  simp[this]at h1
  exact⟨cs',v,h1,h2,h3⟩)
section
variable {G : Env} {J : AS} {R : Out -> AS -> Prop}
end
end Go.Proofs.YtohfclafhegadaaGreatDoor


namespace Go.Proofs.YtohfclafhegadaaGreatDoor
open Go Go.Abs
structure zhw(x fo:Nat)(J J':AS):Prop where
 no:J.no<=J'.no
 nf:J.nf<=J'.nf
 obj:∀o,o<J.no->o≠x->o≠fo->J'.objs o=J.objs o
 fam:∀f,f<J.nf->J'.F f=J.F f
theorem zhw.trans{x fo J J1 J2}(h:zhw x fo J J1)(h':zhw x fo J1 J2):zhw x fo J J2 where
 no:=yai h.no h'.no
 nf:=yai h.nf h'.nf
 obj o a b c:=by rw[h'.obj o (yag a h.no) b c,h.obj o a b c]
 fam f a:=by rw[h'.fam f (yag a h.nf),h.fam f a]
theorem zaB.f{x fo J J'}(h:zaB x J J'):zhw x fo J J':=⟨h.no,h.nf,λo a b _=>h.obj o a b,h.fam⟩
theorem zhw.setO{x fo J J' o cs}(h:zhw x fo J J')(ho:o=x\/o=fo\/J.no<=o):zhw x fo J (J'.setO o cs) where
 no:=h.no
 nf:=h.nf
 obj p a b c:=by
  have:¬p=o:=by rcases ho with h|h|h<;>omega
  simp[this]
  exact h.obj p a b c
 fam:=h.fam
theorem zhw.adds0{x fo J0 J J'}(K:zhw x fo J J')(A:zb J0 J)(hx:J0.no<=x)(hf:J0.no<=fo):zb J0 J':=⟨yai A.no K.no,yai A.nf K.nf,λo ho=>by
 have:=A.no
 rw[K.obj o (by omega) (by omega) (by omega),A.obj o ho],λf hf=>by
 have:=A.nf
 rw[K.fam f (by omega),A.fam f hf]⟩
section
variable {G : Env} {J : AS} {R : Out -> AS -> Prop}
end
end Go.Proofs.YtohfclafhegadaaGreatDoor

namespace Go.Proofs.YtohfclafhegadaaGreatDoor
open Go Go.Abs
theorem zaB.adds0{x J0 J J'}(K:zaB x J J')(A:zb J0 J)(hx:J0.no<=x):zb J0 J':=⟨yai A.no K.no,yai A.nf K.nf,λo ho=>by
 have:=A.no
 rw[K.obj o (by omega) (by omega),A.obj o ho],λf hf=>by
 have:=A.nf
 rw[K.fam f (by omega),A.fam f hf]⟩
structure Fn(x mo fo:Nat)(C:List AV)(Z:AS):Prop where
 ob:Z.objs fo=some C
 lt:fo<Z.no
 fx:fo≠x
 fm:fo≠mo
section
variable {G : Env} {J : AS} {R : Out -> AS -> Prop}
end
theorem zuE{v p}(h:Al.FVE v p):v.cells.length=5:=by
 obtain⟨pv,lv,tv,rfl,_⟩:=h
 rfl
section
variable {G : Env} {J : AS} {R : Out -> AS -> Prop}
end
end Go.Proofs.YtohfclafhegadaaGreatDoor





namespace Go.Proofs.YtohfclafhegadaaGreatDoor
open Go Go.Abs
def zeh(ls:To):Nat:=(ls.map ycX).sum
theorem zcO(a:To)(l:List W):zeh (a++[l])=zeh a+l.length:=by simp[zeh]
end Go.Proofs.YtohfclafhegadaaGreatDoor
set_option maxRecDepth 100000
namespace Go.Proofs.YtohfclafhegadaaGreatDoor.Hd
open Go Go.Abs Go.Proofs.YtohfclafhegadaaGreatDoor
theorem fok:zyP za3 zaF 176:=⟨by decide,by decide,by decide,by decide,by decide,⟨_,_,rfl,by decide⟩,by decide,by decide,by decide⟩
theorem fields_calls{G:Env}{J:AS}{R:Out->AS->Prop}(v3:G.g 0=.pv (.stat true) (.agg zgf))(h:∀x J',zb J J'->J.no<=x->x<J'.no->J'.objs x=some (zaF.map yc8)->R (.ret (.slm x 0 1 47)) J'):zzQ G 57 [.str za3] J R:=zhv fok v3 h
end Go.Proofs.YtohfclafhegadaaGreatDoor.Hd
namespace Go.Proofs.YtohfclafhegadaaGreatDoor
open Go Go.Abs
def inS(l:List UInt8)(c:UInt8):Bool:=l.contains c
def zyY:List AV:=yaj 256 (.bool false)
theorem zdU:zyY.length=256:=List.length_replicate ..
theorem zyZ{i:Nat}(h:i<256):zyY[i]?=some (.bool false):=by
 unfold zyY
 rw[List.getElem?_replicate,if_pos h]
theorem zDZ:zO yb9 151=some (.agg zyY):=by kernel_rfl
attribute [simp] zDZ
def zgO:List UInt8->List AV->List AV
 | [],cs=>cs
 | c::r,cs=>zgO r (splice cs c.toNat [.bool true])
def zlE(l:List UInt8):List AV:=zgO l zyY
theorem zlF:∀(l:List UInt8) (cs:List AV),cs.length=256->(zgO l cs).length=256
 | [],cs,h=>h
 | c::r,cs,h=>by
  have:=c.toNat_lt
  rw[zgO]
  refine zlF r _ ?_
  simp only[splice,yab,ybf,yac,ybl,ydx]
  omega
theorem zft(l:List UInt8):(zlE l).length=256:=zlF l _ zdU
theorem zqe{cs:List AV}{i j:Nat}{v:AV}(hi:i<cs.length):(splice cs i [v])[j]?=if j=i then some v else cs[j]?:=by
 unfold splice
 by_cases h:j<i
 .rw[ydp,List.getElem?_append_left (by simp;omega),ydy h,if_neg (by omega)]
 .by_cases h2:j=i
  .subst h2
   rw[ydp,yaI (by simp;omega)]
   have:j-(cs.take j).length=0:=by simp;omega
   rw[this];simp
  .rw[yaI (by simp;omega),if_neg h2,List.getElem?_drop]
   congr 1
   simp;omega
theorem zlG:∀(l:List UInt8) (cs:List AV) (b:UInt8),cs.length=256->(zgO l cs)[b.toNat]?=if l.contains b=true then some (.bool true)else cs[b.toNat]?
 | [],cs,b,h=>by simp[zgO]
 | c::r,cs,b,h=>by
  have hc:=c.toNat_lt
  rw[zgO,zlG r _ b (by simp only[splice,yab,ybf,yac,ybl,ydx];omega),zqe (by omega)]
  by_cases h1:r.contains b=true
  .simp[h1]
   simp at h1
   simp[h1]
  .by_cases h2:b=c
   .subst h2;simp
   .have:¬b.toNat=c.toNat:=λe=>h2 (UInt8.toNat_inj.1 e)
    simp at h1
    simp[h1,h2,this]
theorem zy0(l:List UInt8)(b:UInt8):(zlE l)[b.toNat]?=some (.bool (inS l b)):=by
 have:=b.toNat_lt
 rw[zlE,zlG l _ b zdU,zyZ this]
 unfold inS
 cases l.contains b<;>rfl
theorem zlH{cs:List AV}{i:Nat}{v:AV}(h:∀x∈cs,x.one=true)(hv:v.one=true):∀x∈splice cs i [v],x.one=true:=by
 intro x hx
 unfold splice at hx
 simp only[ybh,ydr]at hx
 rcases hx with (hx|hx)|hx
 .exact h x (List.mem_of_mem_take hx)
 .rw[hx];exact hv
 .exact h x (List.mem_of_mem_drop hx)
theorem zlI:∀(l:List UInt8) (cs:List AV),(∀x∈cs,x.one=true)->∀x∈zgO l cs,x.one=true
 | [],_,h=>h
 | c::r,cs,h=>zlI r _ (zlH h rfl)
theorem zm3(l:List UInt8):∀x∈zlE l,x.one=true:=zlI l _ λx hx=>by rw[(ydz.1 hx).2];rfl
theorem zj4:List.drop 256 zyY=[]:=ydA (by rw[zdU];exact yah _)
section
variable {G : Env} {J : AS} {R : Out -> AS -> Prop}
def AsI(l:List UInt8)(J:AS)(a:Nat->AV)(Z:AS):Prop:=∃(d r:List UInt8),l=d++r/\a 0=.str l/\a 2=.ptr J.no 0/\a 4=.int .i64 (d.length:Int)/\zb J Z/\J.no<Z.no/\∃cs,cs.length=256/\(∀x∈cs,x.one=true)/\Z.objs J.no=some cs/\zgO r cs=zlE l
theorem zdV{l:List UInt8}(hl:∀c∈l,c.toNat<128)(hL:l.length<=1000)(h:∀J',zb J J'->R (.ret (.tuple [.agg (zlE l),.bool true])) J'):zzQ G 122 [.str l] J R:=by
 refine zxc rfl ?_
 simp[zG7]
 refine zy (AsI l J) (MU 4 (l.length+1)) ⟨[],l,rfl,by simp,by simp,by simp,(zb.refl J).newO,by simp,zyY,zdU,λx hx=>by rw[(ydz.1 hx).2];rfl,by simp,rfl⟩ λa Z hI=>?_
 obtain⟨d,r,hlr,a0,a2,a4,hA,hno,cs,hcs,hone,ho,he⟩:=hI
 cases r with
 | nil =>
  have hd:d=l:=by simp[hlr]
  subst hd
  have hlt:¬((d.length:Int)<(d.length:Int)):=by omega
  have e1:cs=zlE d:=he
  subst e1
  have ht:ydB 256 (zlE d)=zlE d:=yc7 (by rw[hcs];exact yah _)
  simp[ziD,zq8,a0,a2,a4,hlt,ho,hcs,splice,ht]
  exact⟨hone,h _ (hA.setO (yah _))⟩
 | cons c r =>
  have hc:=hl c (by simp[hlr])
  have hlt:(d.length:Int)<(l.length:Int):=by simp[hlr];omega
  have hi:l[d.length]?=some c:=by simp[hlr]
  have hc2:¬(128:Int)<=(c.toNat:Int):=by omega
  have w1:yb4 .i64 ((d.length:Int)+1)=((d.length+1:Nat):Int):=by rw[wrap_i64]<;>omega
  simp[ziD,a0,a2,a4,hlt,ho,hcs,hi,hc2,w1]
  refine⟨by omega,by omega,⟨d++[c],r,by simp[hlr],by simp[a0],by simp[a2],by simp,hA.setO (yah _),by simpa using hno,_,?_,zlH hone rfl,by simp,he⟩,?_⟩
  .simp only[splice,yab,ybf,yac,ybl,ydx]
   omega
  .simp[MU,a4];omega
theorem zj5{l:List UInt8}{o:Nat}{b:UInt8}(ho:J.objs o=some (zlE l))(h:R (.ret (.bool (inS l b))) J):zzQ G 172 [.ptr o 0,.int .u8 (b.toNat:Int)] J R:=by
 refine zxO rfl ?_
 have hb:=b.toNat_lt
 have hb':(b.toNat:Int)<256:=by omega
 have hp:=zy0 l b
 simp[zHw,ho,hb',hp]
 simpa using h
def TlI(l s:List UInt8)(o:Nat)(J:AS)(a:Nat->AV)(Z:AS):Prop:=∃r:List UInt8,r.dropWhile (inS l)=s.dropWhile (inS l)/\a 0=.str r/\a 1=.ptr o 0/\Z=J
def zJ3(a:Nat->AV)(_:AS):Nat:=match a 0 with
 | .str r=>r.length
 | _=>0
theorem zh6{l s:List UInt8}{o:Nat}(ho:J.objs o=some (zlE l))(h:R (.ret (.str (s.dropWhile (inS l)))) J):zzQ G 123 [.str s,.ptr o 0] J R:=by
 refine zxd rfl ?_
 simp[zG8]
 refine zy (TlI l s o J) zJ3 ⟨s,rfl,by simp,by simp,rfl⟩ λa Z hI=>?_
 obtain⟨r,hr,a0,a1,rfl⟩:=hI
 cases r with
 | nil =>
  simp[ziE,zmF,a0,a1]
  rw[<-hr]at h
  exact h
 | cons c r =>
  simp[ziE,zmF,a0,a1]
  refine zj5 ho ?_
  rw[ydl]at hr
  cases hc:inS l c with
  | true =>
   rw[if_pos hc]at hr
   simp[hc,a0,a1]
   exact⟨by omega,⟨r,hr,by simp,by simp[a1],rfl⟩,by simp[zJ3,a0]⟩
  | false =>
   rw[if_neg (by simp[hc])]at hr
   rw[<-hr]at h
   simp[hc,a0,a1]
   exact h
theorem zqf{l s:List UInt8}(hl:∀c∈l,c.toNat<128)(h2:2<=l.length)(hL:l.length<=1000)(h:∀J',zb J J'->R (.ret (.str (s.dropWhile (inS l)))) J'):zzQ G 167 [.str s,.str l] J R:=by
 refine zxL rfl ?_
 have hne:¬l=[]:=by intro e;rw[e]at h2;simp at h2
 have h1:¬(l.length:Int)=1:=by omega
 cases s with
 | nil =>
  simp[zDE]
  exact h _ (.refl _)
 | cons c s =>
  simp[zDE,hne,h1]
  refine zdV hl hL λJ1 A1=>?_
  have ht:ydB 256 (zlE l)=zlE l:=yc7 (by rw[zft];exact yah _)
  have hl6:=zft l
  simp[hl6,splice,ht,zdU,zj4]
  refine⟨zm3 l,zh6 (l:=l) (by simp) ?_⟩
  simp
  exact h _ (A1.newO.setO A1.no)
def zis(p:UInt8->Bool)(s:List UInt8):List UInt8:=(s.reverse.dropWhile p).reverse
theorem zsN(p:UInt8->Bool)(s:List UInt8)(c:UInt8):zis p (s++[c])=if p c=true then zis p s else s++[c]:=by
 unfold zis
 rw[List.reverse_append]
 simp only[List.reverse_cons,List.reverse_nil,ydo,List.singleton_append,ydl]
 split<;>simp
def TrI(l s:List UInt8)(o:Nat)(J:AS)(a:Nat->AV)(Z:AS):Prop:=∃r:List UInt8,r.length<=s.length/\zis (inS l) r=zis (inS l) s/\a 0=.str r/\a 1=.ptr o 0/\Z=J
theorem zoF{l s:List UInt8}{o:Nat}(hs:s.length<2^62)(ho:J.objs o=some (zlE l))(h:R (.ret (.str (zis (inS l) s))) J):zzQ G 124 [.str s,.ptr o 0] J R:=by
 refine zxe rfl ?_
 simp[zG9]
 refine zy (TrI l s o J) zJ3 ⟨s,yah _,rfl,by simp,by simp,rfl⟩ λa Z hI=>?_
 obtain⟨r,hrl,hr,a0,a1,rfl⟩:=hI
 rcases ybL r with rfl|⟨r',c,rfl⟩
 .simp[ziF,zmG,a0,a1]
  rw[<-hr]at h
  exact h
 .rw[ydC]at *
  have w1:yb4 .i64 (r'.length:Int)=(r'.length:Int):=by rw[wrap_i64]<;>simp at hrl<;>omega
  have hlt:(0:Int)<(r'.length:Int)+1:=by omega
  simp[ziF,zmG,a0,a1,w1,hlt]
  refine zj5 ho ?_
  rw[zsN]at hr
  cases hc:inS l c with
  | true =>
   rw[if_pos hc]at hr
   simp[hc,a0,a1,w1]
   exact⟨by omega,⟨r',by simp at hrl;omega,hr,by simp,by simp[a1],rfl⟩,by simp[zJ3,a0]⟩
  | false =>
   rw[if_neg (by simp[hc])]at hr
   rw[<-hr]at h
   simp[hc,a0,a1]
   exact h
def zoG(l s:List UInt8):List UInt8:=(zis (inS l) s).dropWhile (inS l)
theorem zdn{p:UInt8->Bool}:∀{s:List UInt8},s.dropWhile p=[]↔s.all p=true
 | []=>by simp
 | c::r=>by
  rw[ydl]
  cases h:p c with
  | true=>simp only[if_true,ycV,h,Bool.true_and];exact zdn
  | false=>simp[h]
theorem zdo(l s:List UInt8):zoG l s=[]↔s.all (inS l)=true:=by
 unfold zoG
 rw[zdn]
 constructor
 .intro h
  have hd:∀c∈zis (inS l) s,inS l c=true:=yaM.1 h
  rcases ybL (zis (inS l) s)with e|⟨d,x,e⟩
  .unfold zis at e
   rw[List.reverse_eq_nil_iff,zdn]at e
   rw[yaM]at e ⊢
   exact λc hc=>e c (by simpa using hc)
  .rw[ydC]at e
   have hx:inS l x=true:=hd x (by rw[e];simp)
   have e2:s.reverse.dropWhile (inS l)=x::d.reverse:=by
    have:=congrArg List.reverse e
    unfold zis at this
    simpa using this
   have:=ydD (inS l) s.reverse
   rw[e2]at this
   simp at this hx
   rw[this]at hx;cases hx
 .intro h
  rw[yaM]at h ⊢
  intro c hc
  unfold zis at hc
  rw[List.mem_reverse]at hc
  exact h c (by have:=(List.dropWhile_sublist _).mem hc;simpa using this)
theorem zhx{l s:List UInt8}(hl:∀c∈l,c.toNat<128)(h2:2<=l.length)(hL:l.length<=1000)(hs:s.length<2^62)(h:∀J',zb J J'->R (.ret (.str (zoG l s))) J'):zzQ G 62 [.str s,.str l] J R:=by
 refine zDd rfl ?_
 have hne:¬l=[]:=by intro e;rw[e]at h2;simp at h2
 have h1:¬(l.length:Int)=1:=by omega
 cases s with
 | nil =>
  simp[zKZ]
  exact h _ (.refl _)
 | cons c s =>
  simp[zKZ,hne,h1]
  refine zdV hl hL λJ1 A1=>?_
  have ht:ydB 256 (zlE l)=zlE l:=yc7 (by rw[zft];exact yah _)
  have hl6:=zft l
  simp[hl6,splice,ht,zdU,zj4]
  refine⟨zm3 l,zoF (l:=l) hs (by simp) ?_⟩
  simp
  refine zh6 (l:=l) (by simp) ?_
  simp
  exact h _ (A1.newO.setO A1.no)
def zpl(l s:List UInt8):Int:=match s.findIdx? (inS l)with
 | some i=>i
 | none=>-1
def IaI(l s:List UInt8)(J:AS)(J1:AS)(a:Nat->AV)(Z:AS):Prop:=∃(d r:List UInt8),s=d++r/\(∀c∈d,inS l c=false)/\a 0=.str s/\a 6=.ptr J1.no 0/\a 8=.int .i64 (d.length:Int)/\Z=(J1.newO zyY).setO J1.no (zlE l)
theorem zuF{l d r:List UInt8}{c:UInt8}(hd:∀c∈d,inS l c=false)(hc:inS l c=true):zpl l (d++c::r)=d.length:=by
 unfold zpl
 rw[List.findIdx?_append,ydE.2 hd]
 simp[ydF,hc]
theorem zoH{l s:List UInt8}(h:∀c∈s,inS l c=false):zpl l s=-1:=by
 unfold zpl
 rw[ydE.2 h]
theorem zj6{l s:List UInt8}(hl:∀c∈l,c.toNat<128)(h2:2<=l.length)(hL:l.length<=1000)(h8:8<s.length)(hs:s.length<2^62)(h:∀J',zb J J'->R (.ret (.int .i64 (zpl l s))) J'):zzQ G 168 [.str s,.str l] J R:=by
 refine zrf rfl ?_
 have hne:¬l=[]:=by intro e;rw[e]at h2;simp at h2
 have h1:¬(l.length:Int)=1:=by omega
 have h8':(8:Int)<(s.length:Int):=by omega
 simp[zDF,hne,h1]
 refine zrk rfl ?_
 simp[zDI,h8']
 refine zdV hl hL λJ1 A1=>?_
 have ht:ydB 256 (zlE l)=zlE l:=yc7 (by rw[zft];exact yah _)
 have hl6:=zft l
 simp[hl6,splice,ht,zdU,zj4]
 refine⟨zm3 l,?_⟩
 have A2:zb J ((J1.newO zyY).setO J1.no (zlE l)):=A1.newO.setO A1.no
 refine zy (IaI l s J J1) (MU 8 (s.length+1)) ⟨[],s,rfl,by simp,by simp,by simp,by simp,rfl⟩ λa Z hI=>?_
 obtain⟨d,r,hsr,hd,a0,a6,a8,rfl⟩:=hI
 cases r with
 | nil =>
  have e:d=s:=by simp[hsr]
  subst e
  simp[zdL,zgG,a0,a6,a8]
  rw[<-zoH hd]
  exact h _ A2
 | cons c r =>
  have hlt:(d.length:Int)<(s.length:Int):=by simp[hsr];omega
  have hi:s[d.length]?=some c:=by simp[hsr]
  have w1:yb4 .i64 ((d.length:Int)+1)=((d.length+1:Nat):Int):=by rw[wrap_i64]<;>omega
  simp[zdL,a0,a6,a8,hlt,hi]
  refine zj5 (l:=l) (by simp) ?_
  cases hc:inS l c with
  | true =>
   simp[hc,a0,a6,a8]
   have:=zuF (r:=r) hd hc
   rw[hsr]at h
   rw[<-this]
   exact h _ A2
  | false =>
   simp[hc,a0,a6,a8,w1]
   refine⟨⟨d++[c],r,by simp[hsr],?_,by simp[a0],by simp[a6],by simp,rfl⟩,?_⟩
   .intro x hx
    rcases ybh.1 hx with hx|hx
    .exact hd x hx
    .simp at hx;subst hx;exact hc
   .simp[MU,a8];omega
end
abbrev zD0(G:Env):Prop:=G.fix 9=some (Lib.pow10Tab.map λz=>Value.int .u64 z).toArray
structure zb3(G:Env):Prop where
 pow:zD0 G
 errR:∃t v,G.g 6=.pv (.stat true) (.iface t v)
 space:G.g 0=.pv (.stat true) (.agg zgf)
section
variable {G : Env} {J : AS} {R : Out -> AS -> Prop}
theorem zh7{s p:List UInt8}(h:R (.ret (.bool (decide (p.length<=s.length/\s.take p.length=p)))) J):zzQ G 199 [.str s,.str p] J R:=by
 refine zx7 rfl ?_
 by_cases hl:p.length<=s.length
 .have hl':(p.length:Int)<=(s.length:Int):=by omega
  simp[zDH,hl']
  simpa [hl]using h
 .have hl':¬(p.length:Int)<=(s.length:Int):=by omega
  simp[zDH,hl']
  simpa [hl]using h
def zk8(p s:List UInt8):Bool:=decide (p.length<=s.length/\s.take p.length=p)
theorem zj7(c:UInt8)(s:List UInt8):zk8 [c] s=decide (s.head?=some c):=by
 cases s with
 | nil=>simp[zk8]
 | cons d s=>simp[zk8,eq_comm]
theorem zh8{s p:List UInt8}(h:R (.ret (.tuple [.str (if zk8 p s=true then s.drop p.length else s),.bool (zk8 p s)])) J):zzQ G 116 [.str s,.str p] J R:=by
 refine zw7 rfl ?_
 simp[zG4]
 refine zxM rfl ?_
 simp[zHu]
 refine zh7 ?_
 rw[show decide (p.length<=s.length/\s.take p.length=p)=zk8 p s from rfl]
 cases hp:zk8 p s with
 | false =>
  rw[hp]at h
  simp
  simpa using h
 | true =>
  rw[hp]at h
  have hl:p.length<=s.length:=(of_decide_eq_true hp).1
  simp
  exact⟨by omega,by simpa using h⟩
theorem zm4{s p:List UInt8}(h:R (.ret (.str (if zk8 p s=true then s.drop p.length else s))) J):zzQ G 113 [.str s,.str p] J R:=by
 refine zw5 rfl ?_
 simp[zG2]
 refine zxK rfl ?_
 simp[zHt]
 refine zh7 ?_
 rw[show decide (p.length<=s.length/\s.take p.length=p)=zk8 p s from rfl]
 cases hp:zk8 p s with
 | false =>
  rw[hp]at h
  simp
  simpa using h
 | true =>
  rw[hp]at h
  have hl:p.length<=s.length:=(of_decide_eq_true hp).1
  simp
  exact⟨by omega,by simpa using h⟩
theorem zD1{M:Mp}{F:Nat->FSt}{w:World}{v:AV}{cargs:Array Value}(hc:Cells M F w [v] cargs):∃c,cargs=#[c]/\VR M F w v c:=by
 obtain⟨c0,e0,v0⟩:=hc.2 0 _ rfl
 refine⟨c0,?_,v0⟩
 have hsz:cargs.size=1:=hc.1
 apply Array.ext
 .simpa using hsz
 .intro i h1 h2
  match i,h1 with
  | 0,_=>simpa using (yaU.1 e0).2
  | i+1,h=>omega
theorem zD2{M:Mp}{F:Nat->FSt}{w:World}{v u:AV}{cargs:Array Value}(hc:Cells M F w [v,u] cargs):∃c d,cargs=#[c,d]/\VR M F w v c/\VR M F w u d:=by
 obtain⟨c0,e0,v0⟩:=hc.2 0 _ rfl
 obtain⟨c1,e1,v1⟩:=hc.2 1 _ rfl
 refine⟨c0,c1,?_,v0,v1⟩
 have hsz:cargs.size=2:=hc.1
 apply Array.ext
 .simpa using hsz
 .intro i h1 h2
  match i,h1 with
  | 0,_=>simpa using (yaU.1 e0).2
  | 1,_=>simpa using (yaU.1 e1).2
  | i+2,h=>omega
theorem zfu(V:zD0 G){n:Int}(hn:-(2^63)<=n/\n<2^63)(h:R (.ret (.str (Lib.itoa n))) J):zzQ G 64 [.int .i64 n] J R:=by
 refine ACalls.of_below λM w cargs S g hc=>?_
 obtain⟨c,rfl,hv⟩:=zD1 hc
 rw[hv.int_inv]
 obtain⟨_,t,fr,hh⟩:=g.fixed 9 _ V
 have hn9 : Tryz.prog.globalNamed "internal/strconv.uint64pow10" = some 9 := by kernel_rfl
 have htab : Lib.TabIs Tryz.prog w "internal/strconv.uint64pow10" .u64 Lib.pow10Tab := by simp [Lib.TabIs, World.var?, hn9, hh]
 refine(Tryz.strconv_Itoa n (by omega) (by omega) w htab).mono λe w' ⟨he,k,os,hw'⟩=>?_
 subst he hw'
 exact⟨⟨.str (Lib.itoa n),_,rfl,λM F w=>VR.str' rfl,h⟩,Lib.below_grow _ w (yah _) k os⟩
theorem zsO(V:zb3 G){t:List UInt8}(h0:zaE t≠[])(h1:(zaE t).all zB=true)(hl:t.length<2^40)
  (hs:∀n,Lib.atoiAll t=.ok n->R (.ret (.tuple [.int .i64 n,.nilif])) J) (hr:Lib.atoiAll t=.range->∀k,R (.ret (.tuple [.int .i64 k,.iface 238 .undef])) J):zzQ G 114 [.str t] J R:=by
 refine ACalls.of_below λM w cargs S g hc=>?_
 obtain⟨c,rfl,hv⟩:=zD1 hc
 obtain⟨b,rfl,rfl⟩:=hv.str_inv
 have hbl:b.size=b.data.toList.length:=by simp
 cases hq:Lib.atoiAll b.data.toList with
 | ok n =>
  refine(Tryz.strconv_Atoi_ok b (by omega) n hq w).mono λe w' ⟨he,hw'⟩=>?_
  subst he
  refine⟨⟨.tuple [.int .i64 n,.nilif],_,rfl,λM F w=>.tuple _ _ rfl λj h h'=>?_,hs n hq⟩,?_⟩
  .match j,h with
   | 0,_=>exact .int ..
   | 1,_=>exact .nilif
  .rcases hw' with rfl|⟨t,rfl⟩
   .exact RowKit.Below.refl _ _
   .exact⟨rfl,rfl,rfl,by rw[Lib.bytesWorld_size];omega,λk hk=>Lib.bytesWorld_at_old w 5 t k hk⟩
 | range =>
  obtain⟨te,v,he6⟩:=V.errR
  have h6:=g.vars 6
  rw[he6]at h6
  obtain⟨ev,hcell,hev⟩:∃ev,w.cell? ⟨6,0,none⟩=some ev/\(ev=.nilIface\/∃te pe,ev=.iface te pe):=by
   cases h6 with
   | pv φ v B off cs hmem hc hv =>
    have h1:=hc trivial 0 (by simp[AV.cells])
    have h2:=hv trivial 0 (by simp[AV.cells])
    simp only[AV.cells,yaz]at h2
    generalize cs 0=c at h1 h2
    cases h2
    exact⟨_,h1,.inr ⟨_,_,rfl⟩⟩
  refine(Tryz.strconv_Atoi_range b (by omega) hq ev w hcell hev).mono λe w' ⟨N,he,_,_,hb⟩=>?_
  subst he
  refine⟨⟨.tuple [.int .i64 (Lib.atoiSat b.data.toList),.iface 238 .undef],_,rfl,λM F w=>.tuple _ _ rfl λj h h'=>?_,hr hq _⟩,hb⟩
  match j,h with
  | 0,_=>exact .int ..
  | 1,_=>exact .iface _ _ _ (.undef _)
 | _ =>
  rw[zjS h0 h1]at hq
  split at hq<;>cases hq
theorem zgP{s:List UInt8}{c:UInt8}(hc:c.toNat<128)(h:R (.ret (.bool (s.contains c))) J):zzQ G 170 [.str s,.int .i32 (c.toNat:Int)] J R:=by
 refine ACalls.of_below λM w cargs S g hcc=>?_
 obtain⟨x,y,rfl,hv,hu⟩:=zD2 hcc
 obtain⟨b,rfl,rfl⟩:=hv.str_inv
 rw[hu.int_inv]
 refine(Tryz.strings_ContainsRune_ascii b (c.toNat:Int) w (by omega) (by omega)).mono λe w' ⟨he,hw'⟩=>?_
 subst he hw'
 refine⟨⟨.bool _,_,rfl,λM F w=>.bool _,?_⟩,RowKit.Below.refl _ _⟩
 have e0:∀l:List UInt8,(0<=Lib.indexByte l c)↔c∈l:=λl=>by
  induction l with
  | nil=>simp[Lib.indexByte]
  | cons x l ih =>
   have hge:=Lib.indexByte_ge l c
   by_cases hx:x=c
   .subst hx;simp[Lib.indexByte]
   .have hx':¬c=x:=λe=>hx e.symm
    simp only[Lib.indexByte,beq_iff_eq,hx,if_false,ybC,hx',false_or,<-ih]
    split<;>omega
 have e:decide (0<=Lib.indexByte b.data.toList ((c.toNat:Int).toNat.toUInt8))=b.data.toList.contains c:=by
  have e1:((c.toNat:Int).toNat.toUInt8)=c:=by simp
  rw[e1,Bool.eq_iff_iff]
  simp[e0]
 rw[e]
 exact h
end
end Go.Proofs.YtohfclafhegadaaGreatDoor
namespace Go.Proofs.YtohfclafhegadaaGreatDoor
open Go Go.Abs Go.Shelf Go.RowKit Go.Lib
set_option maxHeartbeats 1000000 in
theorem zsP(r:Int)(w:World)(h1:128<=r)(h2:r<=1114111)(h3:r<55296\/57343<r):
  Calls yb9 236 #[.int .i32 r] w λe w'=>e=.returned (.bool true)/\w'=w:=by
 by_cases h4:r<55296
 .go_enter ydG,ydH
  go_wp2
  go_ret
  exact⟨rfl,rfl⟩
 .have h5:57343<r:=by omega
  go_enter ydG,ydH
  go_wp2
  go_ret
  exact⟨rfl,rfl⟩
theorem zuG:∀{l:List UInt8} {c:UInt8},(∀b∈l,b≠c)->Lib.indexByte l c=-1
 | [],_,_=>rfl
 | x::l,c,h=>by
  have hx:¬x=c:=h x (by simp)
  have ih:=zuG (l:=l) (c:=c) λb hb=>h b (by simp[hb])
  simp[Lib.indexByte,hx,ih]
set_option maxHeartbeats 2000000 in
theorem zy1(s:ByteArray)(r:Int)(w:World)(h1:128<=r)(h2:r<=1114111)(h3:r<55296\/57343<r)(h4:r≠65533)(hs:∀(j:Nat) b,s.data.toList[j]?=some b->b.toNat<128):
  Calls yb9 205 #[.string s,.int .i32 r] w λe w'=>e=.returned (.int .i64 (-1))/\Below w.heap.size w w':=by
 have e236:∀args w,(callFunc 236 args).run yb9 w=.ok (.enter 236 args) w:=enters_of ydG (by kernel_rfl) rfl
 have e227:∀args w,(callFunc 227 args).run yb9 w=.ok (.enter 227 args) w:=enters_of Tryz.func227 (by kernel_rfl) rfl
 have HA:Aside (∀(j:Nat) b,s.data.toList[j]?=some b->b.toNat<128):=hs
 clear hs
 obtain⟨q1,q2,q3⟩:=encode_facts r (by rw[validRune_eq];unfold validRune;exact decide_eq_true (by omega)) h1
 generalize hrs:Utf8.encode r=rs at q1 q2 q3
 obtain⟨n,hn⟩:∃n,rs.size=n+1:=⟨rs.size-1,by omega⟩
 have hz:(rs.size:Int)-1=(n:Int):=by omega
 have hnr:n<rs.size:=by omega
 have q4:128<=(rs[n]'hnr).toNat:=by
  have:=q3 (by omega)
  simpa [hn]using this
 clear q3
 go_enter ydI,ydJ
 go_wp2_with (go_at_fn 236;refine(zsP r _ h1 h2 h3).mono ?_;rintro e w' ⟨rfl,hw⟩;rw[hw])
 subst hw
 go_step3
 go_wp2
 go_loopg [4,9,10,11,12] 0 (λg _ v9 _ _ _ wx=>v9=.int .i64 (n:Int)/\wx=w')
 case atStart=>exact⟨rfl,rfl⟩
 case round =>
  obtain⟨rfl,rfl⟩:=hrel
  by_cases hlt:n<s.size
  .have hlt':(n:Int)<(s.size:Int):=by omega
   go_wp2
   go_step3
   go_wp2
   have hnr':(n:Int)<(rs.size:Int):=by omega
   have hne:(((s[n]'hlt).toNat:Int) != ((rs[n]'hnr).toNat:Int))=true:=by
    have:=HA.out n (s[n]'hlt) (Lib.data_getElem? s n hlt)
    simp only[bne_iff_ne,ne_eq]
    omega
   have hib:∀a e:Nat,Lib.indexByte (s.extract a e).data.toList (((rs[n]'hnr).toNat:Int).toNat.toUInt8)=-1:=λa e=>zuG λb hb q=>by
    obtain⟨j,hj,e⟩:=ya9 (mem_extract hb)
    have:=HA.out j b (by rw[yau hj,e])
    rw[q]at this
    simp at this
    omega
   have hle1:((n:Int)+1)<=(s.size:Int):=by omega
   have hle2:n+1<=s.size:=by omega
   have hwr:yb4 .i64 ((n:Int)+1)=(n:Int)+1:=by rw[Go.Abs.wrap_i64]<;>omega
   have hn3:(n:Int)<=3:=by omega
   have hle0:(0:Int)<=(n:Int)+1:=by omega
   have hle3:(0:Int)<=(n:Int)+1/\(n:Int)+1<=(s.size:Int):=⟨hle0,hle1⟩
   clear hn hz hrs q1 q2
   go_region
   go_wp2
   go_region_with (go_at_call 227;refine(Tryz.strings_IndexByte _ _ _).mono ?_;rintro e w' ⟨rfl,hw⟩;rw[hw,hib])
   go_wp2
   try rw[Exit.noGoto_ret]
   go_wp2
   try rw[Exit.noGoto_ret]
   go_ret
   exact⟨rfl,((Below.refl _ _).drew).drew⟩
  .have hlt':¬(n:Int)<(s.size:Int):=by omega
   go_wp2
   go_ret
   exact⟨rfl,.refl ..⟩
set_option maxHeartbeats 2000000 in
theorem zD3(s:ByteArray)(w:World)(hs:∀(j:Nat) b,s.data.toList[j]?=some b->b.toNat<128):
  Calls yb9 205 #[.string s,.int .i32 65533] w λe w'=>e=.returned (.int .i64 (-1))/\Below w.heap.size w w':=by
 have HA:Aside (∀(j:Nat) b,s.data.toList[j]?=some b->b.toNat<128):=hs
 clear hs
 go_enter ydI,ydJ
 go_wp2
 go_loopg [4,5,6] s.size (λg _ _ _ wx=>∃i:Nat,i+g=s.size/\wx=w.iter s i)
 case atStart=>exact⟨0,by omega,rfl⟩
 case round =>
  obtain⟨i,hig,rfl⟩:=hrel
  cases gk with
  | zero =>
   obtain rfl:i=s.size:=by omega
   have hnx:=run_next_end (P:=yb9) w s s.size
   go_wp2
   try rw[Exit.noGoto_ret]
   go_ret
   exact⟨rfl,(Below.refl _ _).alloc (yah _) _⟩
  | succ g =>
   have hi:i<s.size:=by omega
   obtain⟨x,hx⟩:∃x:UInt8,s[i]'hi=x:=⟨_,rfl⟩
   have hxl:s.data.toList[i]?=some x:=by rw[<-hx];exact Lib.data_getElem? s i hi
   have hx128:x.toNat<128:=HA.out i x hxl
   have hnx:=λty=>run_next_ascii (P:=yb9) w s i ty hi (by rw[hx];exact hx128)
   rw[hx]at hnx
   have hxe:((x.toNat:Int)==65533)=false:=by rw[beq_eq_false_iff_ne];omega
   clear hxl hx
   go_wp2
   go_roundg g
   case measure=>omega
   case rel=>exact⟨i+1,by omega,rfl⟩
structure zBI(bs:List UInt8)(pos:Nat)(d:Nat × Nat):Prop where
 lo:128<=d.1
 hi:d.1<=1114111
 ok:d.1<55296\/57343<d.1
 w1:1<=d.2
 wl:pos+d.2<=bs.length
 all:∀j c,pos<=j->j<pos+d.2->bs[j]?=some c->128<=c.toNat
theorem zBJ{bs:List UInt8}{j:Nat}{c:UInt8}(h:bs[j]?=some c):ByteArray.get! ⟨bs.toArray⟩ j=c:=by
 obtain⟨h1,h2⟩:=yaq.1 h
 show bs.toArray[j]! = c
 rw[getElem!_pos bs.toArray j (by simpa using h1)]
 simpa using h2
theorem zuH{bs:List UInt8}{pos:Nat}(h:pos<bs.length):(bs[pos].toNat<128/\Utf8.decode ⟨bs.toArray⟩ pos=(bs[pos].toNat,1))\/(128<=bs[pos].toNat/\zBI bs pos (Utf8.decode ⟨bs.toArray⟩ pos)):=by
 have h0:ByteArray.get! ⟨bs.toArray⟩ (pos+0)=bs[pos]:=zBJ (yau h)
 have hsz:ByteArray.size ⟨bs.toArray⟩=bs.length:=by simp[ByteArray.size]
 have hb:bs[pos].toNat<256:=bs[pos].toNat_lt
 have one:∀j c,pos<=j->j<pos+1->bs[j]?=some c->128<=bs[pos].toNat->128<=c.toNat:=λj c q1 q2 q3 q4=>by
  obtain rfl:j=pos:=by omega
  rw[yau h]at q3
  cases q3;exact q4
 have cont:∀k,(decide (pos+k<bs.length)&&(ByteArray.get! ⟨bs.toArray⟩ (pos+k)).toNat/64==2)=true->pos+k<bs.length/\128<=(ByteArray.get! ⟨bs.toArray⟩ (pos+k)).toNat/\(ByteArray.get! ⟨bs.toArray⟩ (pos+k)).toNat<192/\∀c,bs[pos+k]?=some c->128<=c.toNat:=λk q=>by
  simp only[Bool.and_eq_true,decide_eq_true_eq,beq_iff_eq]at q
  refine⟨q.1,by omega,by omega,λc hc=>?_⟩
  rw[zBJ hc]at q
  omega
 by_cases hlt:bs[pos].toNat<128
 .refine .inl ⟨hlt,?_⟩
  unfold Utf8.decode
  simp only[h0,hlt,if_true]
 .refine .inr ⟨by omega,?_⟩
  have bad:zBI bs pos (Utf8.runeError,1):=⟨by decide,by decide,by decide,by decide,by simp only;omega,λj c q1 q2 q3=>one j c q1 q2 q3 (by omega)⟩
  unfold Utf8.decode
  simp only[h0,hlt,if_false,hsz]
  generalize hf:(λk=>(ByteArray.get! ⟨bs.toArray⟩ (pos+k)).toNat)=f at *
  have hfk:∀k,(ByteArray.get! ⟨bs.toArray⟩ (pos+k)).toNat=f k:=λk=>by rw[<-hf]
  simp only[hfk]at cont ⊢
  split
  .rename_i c1
   rw[Bool.and_eq_true]at c1
   obtain⟨k1,k2,k3,k4⟩:=cont 1 c1.2
   have c0:bs[pos].toNat/32=6:=by simpa using c1.1
   split
   .refine⟨by simp only;omega,by simp only;omega,by simp only;omega,by simp,by simp only;omega,λj c q1 q2 q3=>?_⟩
    simp only at q2
    by_cases e:j=pos
    .exact one j c q1 (by omega) q3 (by omega)
    .obtain rfl:j=pos+1:=by omega
     exact k4 c q3
   .exact bad
  .split
   .rename_i _ c1
    simp only[Bool.and_eq_true]at c1
    obtain⟨⟨c0,c1⟩,c2⟩:=c1
    obtain⟨k1,k2,k3,k4⟩:=cont 1 (by simpa using c1)
    obtain⟨l1,l2,l3,l4⟩:=cont 2 (by simpa using c2)
    have c0:bs[pos].toNat/16=14:=by simpa using c0
    split
    .rename_i hv
     rw[Bool.and_eq_true]at hv
     have hv1:2048<=bs[pos].toNat%16*4096+f 1%64*64+f 2%64:=by simpa using hv.1
     have hv2:=hv.2
     rw[validRune_eq]at hv2
     have hv2:=of_decide_eq_true hv2
     refine⟨by simp only;omega,by simp only;omega,by simp only;omega,by simp,by simp only;omega,λj c q1 q2 q3=>?_⟩
     simp only at q2
     by_cases e:j=pos
     .exact one j c q1 (by omega) q3 (by omega)
     .by_cases e1:j=pos+1
      .subst e1;exact k4 c q3
      .obtain rfl:j=pos+2:=by omega
       exact l4 c q3
    .exact bad
   .split
    .rename_i _ _ c1
     simp only[Bool.and_eq_true]at c1
     obtain⟨⟨⟨c0,c1⟩,c2⟩,c3⟩:=c1
     obtain⟨k1,k2,k3,k4⟩:=cont 1 (by simpa using c1)
     obtain⟨l1,l2,l3,l4⟩:=cont 2 (by simpa using c2)
     obtain⟨m1,m2,m3,m4⟩:=cont 3 (by simpa using c3)
     have c0:bs[pos].toNat/8=30:=by simpa using c0
     split
     .rename_i hv
      rw[Bool.and_eq_true]at hv
      have hv1:65536<=bs[pos].toNat%8*262144+f 1%64*4096+f 2%64*64+f 3%64:=by simpa using hv.1
      have hv2:=hv.2
      rw[validRune_eq]at hv2
      have hv2:=of_decide_eq_true hv2
      refine⟨by simp only;omega,by simp only;omega,by simp only;omega,by simp,by simp only;omega,λj c q1 q2 q3=>?_⟩
      simp only at q2
      by_cases e:j=pos
      .exact one j c q1 (by omega) q3 (by omega)
      .by_cases e1:j=pos+1
       .subst e1;exact k4 c q3
       .by_cases e2:j=pos+2
        .subst e2;exact l4 c q3
        .obtain rfl:j=pos+3:=by omega
         exact m4 c q3
     .exact bad
    .exact bad
theorem zD4{J:AS}(bs:List UInt8)(K:AV->AS->Prop):zhP yb9 9 (.str bs) J K=K (.sit J.nf bs 0) J.newF:=by
 unfold zhP
 rw[Tryz.underlying9]
theorem zuI{J Z:AS}{f:Nat}(A:zb J Z)(hf:J.nf<=f):zb J (Z.turn f):=by
 have hn:=A.nf
 refine⟨A.no,by simp[AS.turn];omega,A.obj,λg hg=>?_⟩
 have h1:¬g=Z.nf:=by omega
 have h2:¬g=f:=by omega
 simp[AS.turn,h1,h2]
 exact A.fam g hg
theorem zrz{Z:AS}{f:Nat}:(Z.turn f).F Z.nf=.alive:=by simp[AS.turn]
section
variable {G : Env} {J : AS} {R : Out -> AS -> Prop}
theorem zqg{l:List UInt8}{r:Int}(hl:∀c∈l,c.toNat<128)(h1:128<=r)(h2:r<=1114111)(h3:r<55296\/57343<r)(h:R (.ret (.int .i64 (-1))) J):zzQ G 205 [.str l,.int .i32 r] J R:=by
 refine ACalls.of_below λM w cargs S g hcc=>?_
 obtain⟨x,y,rfl,hv,hu⟩:=zD2 hcc
 obtain⟨b,rfl,rfl⟩:=hv.str_inv
 rw[hu.int_inv]
 have hs:∀(j:Nat) c,b.data.toList[j]?=some c->c.toNat<128:=λj c hj=>hl c (ydb hj)
 have key:Calls yb9 205 #[.string b,.int .i32 r] w λe w'=>e=.returned (.int .i64 (-1))/\RowKit.Below w.heap.size w w':=by
  by_cases e:r=65533
  .subst e;exact zD3 b w hs
  .exact zy1 b r w h1 h2 h3 e hs
 refine key.mono λe w' ⟨he,hw'⟩=>?_
 subst he
 exact⟨⟨.int .i64 (-1),_,rfl,λM F w=>.int ..,h⟩,hw'⟩
theorem zqh{l:List UInt8}{c:UInt8}(hc:c.toNat<128)(h:∀n:Int,(0<=n↔inS l c=true)->R (.ret (.int .i64 n)) J):zzQ G 205 [.str l,.int .i32 (c.toNat:Int)] J R:=by
 refine ACalls.of_below λM w cargs S g hcc=>?_
 obtain⟨x,y,rfl,hv,hu⟩:=zD2 hcc
 obtain⟨b,rfl,rfl⟩:=hv.str_inv
 rw[hu.int_inv]
 refine(Tryz.strings_IndexRune_ascii b (c.toNat:Int) w (by omega) (by omega)).mono λe w' ⟨he,hw'⟩=>?_
 subst he hw'
 have e1:((c.toNat:Int).toNat.toUInt8)=c:=by simp
 rw[e1]
 refine⟨⟨.int .i64 _,_,rfl,λM F w=>.int ..,h _ ?_⟩,RowKit.Below.refl _ _⟩
 have:=Lib.contains_iff_indexByte b.data.toList c
 unfold inS
 rw[this]
 exact(decide_eq_true_iff).symm
def IrI(l s:List UInt8)(J:AS)(a:Nat->AV)(Z:AS):Prop:=∃(pos f:Nat),pos<=s.length/\(∀c∈s.take pos,inS l c=false)/\a 1=.str l/\a 45=.sit f s pos/\zb J Z/\J.nf<=f/\Z.F f=.alive
def IrM(s:List UInt8)(a:Nat->AV)(_:AS):Nat:=match a 45 with
 | .sit _ _ pos=>s.length-pos
 | _=>0
theorem zoI{l s:List UInt8}(hl:∀c∈l,c.toNat<128)(h2:2<=l.length)(hL:l.length<=1000)(hs:s.length<2^62)(h:∀J',zb J J'->R (.ret (.int .i64 (zpl l s))) J'):zzQ G 168 [.str s,.str l] J R:=by
 by_cases h8:8<s.length
 .exact zj6 hl h2 hL h8 hs h
 .refine zrf rfl ?_
  have hne:¬l=[]:=by intro e;rw[e]at h2;simp at h2
  have h1:¬(l.length:Int)=1:=by omega
  have h8':¬(8:Int)<(s.length:Int):=by omega
  simp[zDF,hne,h1]
  refine zrk rfl ?_
  simp[zDI,h8']
  simp[zre,zD4]
  refine zy (IrI l s J) (IrM s) ⟨0,J.nf,by omega,by simp,by simp,by simp,(zb.refl J).newF,by simp,by simp⟩ λa Z hI=>?_
  obtain⟨pos,f,hp,hd,a1,a45,hA,hf,ha⟩:=hI
  by_cases hlt:pos<s.length
  .have hi:s[pos]?=some s[pos]:=yau hlt
   have hsplit:s=s.take pos++s[pos]::s.drop (pos+1):=by rw[<-ydd hlt,ydK]
   have htl:(s.take pos).length=pos:=by rw[ybf];omega
   have hge:¬s.length<=pos:=by omega
   have hAt:=zuI hA hf
   have hnf:=hA.nf
   rcases zuH hlt with ⟨hc,hdec⟩|⟨hc,hdec⟩
   .simp[zff,a1,a45,ha,hlt,hge,hdec]
    refine zqh hc λn hn=>?_
    cases hin:inS l s[pos]with
    | true =>
     rw[hin]at hn
     have hn0:0<=n:=hn.2 rfl
     have:=zuF (r:=s.drop (pos+1)) hd hin
     rw[<-hsplit,htl]at this
     have hh:=h _ hAt
     rw[this]at hh
     simp[hn0]
     exact hh
    | false =>
     rw[hin]at hn
     have hn0:¬0<=n:=λq=>by have:=hn.1 q;cases this
     simp[hn0]
     refine⟨⟨pos+1,Z.nf,by omega,λc hc'=>?_,by simp[a1],by simp,hAt,by omega,zrz⟩,?_⟩
     .rw[List.take_succ_eq_append_getElem hlt,ybh,ydr]at hc'
      rcases hc' with hc'|rfl
      .exact hd c hc'
      .exact hin
     .simp[IrM,a45];omega
   .generalize hD:Utf8.decode ⟨s.toArray⟩ pos=D at hdec
    have hw1:=hdec.w1
    have hwl:=hdec.wl
    simp[zff,a1,a45,ha,hlt,hge,hD]
    refine zqg hl (by have:=hdec.lo;omega) (by have:=hdec.hi;omega) (by have:=hdec.ok;omega) ?_
    simp
    refine⟨⟨pos+D.2,Z.nf,hwl,λc hc'=>?_,by simp[a1],by simp,hAt,by omega,zrz⟩,?_⟩
    .obtain⟨j,hj,e⟩:=ya9 hc'
     have hjl:j<pos+D.2/\j<s.length:=by rw[ybf]at hj;omega
     have hjc:s[j]?=some c:=by
      rw[yau hjl.2,<-e]
      simp
     by_cases hjp:j<pos
     .exact hd c (ydb (by rw[ydy hjp];exact hjc))
     .have h128:=hdec.all j c (by omega) hjl.1 hjc
      cases hin:inS l c with
      | false=>rfl
      | true =>
       have:=hl c (by simpa [inS]using hin)
       omega
    .simp[IrM,a45];omega
  .have e:pos=s.length:=by omega
   subst e
   rw[yc7 (yah _)]at hd
   have hh:=h _ hA
   rw[zoH hd]at hh
   simp[zff,zmI,a1,a45,ha]
   exact hh
end
def zj8(_:List UInt8):Prop:=True
theorem zj8.end{s t:List UInt8}(h:zj8 s)(ht:t<:+s):zj8 t:=trivial
section
variable {G : Env} {J : AS} {R : Out -> AS -> Prop}
def zd6:List UInt8:=[32,10]
def zgh:List UInt8:=[32,10,40,41,34]
def zeQ:List UInt8:=[34,10]
theorem zcM(p:UInt8->Bool)(s:List UInt8):s.dropWhile p<:+s:=List.dropWhile_suffix p
theorem zoJ{l s:List UInt8}(h:0<=zpl l s):∃d c r,s=d++c::r/\(∀x∈d,inS l x=false)/\inS l c=true/\zpl l s=d.length:=by
 unfold zpl at h ⊢
 cases hf:s.findIdx? (inS l)with
 | none=>rw[hf]at h;simp at h
 | some i =>
  rw[ydL]at hf
  obtain⟨hi,hc,hd⟩:=hf
  refine⟨s.take i,s[i],s.drop (i+1),by simp,λx hx=>?_,hc,by simp;omega⟩
  obtain⟨j,hj,rfl⟩:=ya9 hx
  simp only[List.getElem_take]
  have hj':j<i:=by simp at hj;omega
  have:=hd j hj'
  simpa using this
theorem zBK{l s:List UInt8}(h:zpl l s<0):∀x∈s,inS l x=false:=by
 unfold zpl at h
 cases hf:s.findIdx? (inS l)with
 | none=>exact ydE.1 hf
 | some i=>rw[hf]at h;simp at h;omega
theorem zh9{p:UInt8->Bool}{d r:List UInt8}{c:UInt8}(hd:∀x∈d,p x=true)(hc:p c=false):(d++c::r).takeWhile p=d/\(d++c::r).dropWhile p=c::r:=by
 induction d with
 | nil=>simp[hc]
 | cons x d ih =>
  have hx:=hd x (by simp)
  obtain⟨i1,i2⟩:=ih λy hy=>hd y (by simp[hy])
  simp[hx,i1,i2]
theorem zia{L t r:List UInt8}(h:L=t++r){n m:Int}(hn:n=(t.length:Int))(hm:m=(L.length:Int)):L.take n.toNat=t/\(L.take m.toNat).drop n.toNat=r:=by
 subst hn hm h
 refine⟨by simp,?_⟩
 rw[ybe,ybe,yc7 (yah _),List.drop_left]
theorem zgQ{s:List UInt8}(hok:zj8 s)(hl:s.length<2^40)(hn:zcr s=none->∀r J',r<:+s->zb J J'->R (.ret (.tuple [.str [],.str r])) J')(hs:∀t r,zcr s=some (t,r)->∀J',zb J J'->R (.ret (.tuple [.str t,.str r])) J'):zzQ G 115 [.str s] J R:=by
 refine zw6 rfl ?_
 simp[zG3]
 refine zqf (l:=zd6) (by decide) (by decide) (by decide) λJ1 A1=>?_
 have hcut:zcr s=match s.dropWhile (inS zd6)with
  | []=>none
  | c::r=>if c=40\/c=41 then some ([c],r)else if c=34 then zc1 r else some (c::r.takeWhile (λx=>!zas x),r.dropWhile λx=>!zas x):=rfl
 have hsuf:=zcM (inS zd6) s
 have hlen:=hsuf.length_le
 have hhd:∀c r,s.dropWhile (inS zd6)=c::r->inS zd6 c=false:=λc r e=>by
  have:=ydD (inS zd6) s
  rw[e]at this
  exact this
 generalize s.dropWhile (inS zd6)=s1 at *
 have hok1:=hok.end hsuf
 cases s1 with
 | nil =>
  simp
  exact hn hcut _ _ hsuf A1
 | cons c r =>
  simp only at hcut
  simp only[yac]at hlen
  have hc0:=c.toNat_lt
  have hc2:(c=40↔(c.toNat:Int)=40)/\(c=41↔(c.toNat:Int)=41)/\(c=34↔(c.toNat:Int)=34):=by
   refine⟨⟨λe=>by rw[e];rfl,λe=>UInt8.toNat_inj.1 (by show c.toNat=40;omega)⟩,⟨λe=>by rw[e];rfl,λe=>UInt8.toNat_inj.1 (by show c.toNat=41;omega)⟩,⟨λe=>by rw[e];rfl,λe=>UInt8.toNat_inj.1 (by show c.toNat=34;omega)⟩⟩
  by_cases h40:c=40\/c=41
  .rw[if_pos h40]at hcut
   have hres:=hs _ _ hcut J1 A1
   have h40':(c.toNat:Int)=40\/¬(c.toNat:Int)=40/\(c.toNat:Int)=41:=by
    rcases h40 with e|e
    .exact .inl (hc2.1.1 e)
    .have:=hc2.2.1.1 e
     exact .inr ⟨by omega,this⟩
   rcases h40' with e|⟨e1,e2⟩
   .simp[e]
    exact⟨by omega,hres⟩
   .simp[e2]
    exact⟨by omega,hres⟩
  .rw[if_neg h40]at hcut
   have n40:¬(c.toNat:Int)=40:=λe=>h40 (.inl (hc2.1.2 e))
   have n41:¬(c.toNat:Int)=41:=λe=>h40 (.inr (hc2.2.1.2 e))
   by_cases h34:c=34
   .rw[if_pos h34]at hcut
    have e34:=hc2.2.2.1 h34
    have hr:r<:+c::r:=ydM _ _
    simp[n40,n41,e34]
    refine⟨by omega,zoI (l:=zeQ) (by decide) (by decide) (by decide) (by omega) λJ2 A2=>?_⟩
    have A12:=A1.trans A2
    have hq:zc1 r=match r.dropWhile (λc=>!zrp c)with
     | []=>none
     | x::z=>if x=34 then some (34::(r.takeWhile (λc=>!zrp c)++[34]),z)else none:=rfl
    by_cases hi:0<=zpl zeQ r
    .obtain⟨d,x,z,rfl,hd,hx,he⟩:=zoJ hi
     obtain⟨t1,t2⟩:=zh9 (p:=λc=>!zrp c) (d:=d) (r:=z) (c:=x) (λy hy=>by have:=hd y hy;simpa [inS,zeQ,zrp]using this) (by
      simp[inS,zeQ,zrp]at hx ⊢
      intro q
      exact hx.resolve_left q)
     rw[hq,t2,t1]at hcut
     simp only at hcut
     have w2:yb4 .i64 ((d.length:Int)+2)=(d.length:Int)+2:=by rw[wrap_i64]<;>simp at hlen<;>omega
     have w1:yb4 .i64 ((d.length:Int)+2-1)=((d.length+1:Nat):Int):=by rw[wrap_i64]<;>simp at hlen<;>omega
     have hlt:¬(d.length:Int)+2<2:=by omega
     have hx34:x=34↔(x.toNat:Int)=34:=⟨λe=>by rw[e];rfl,λe=>UInt8.toNat_inj.1 (by show x.toNat=34;omega)⟩
     have hxi:(c::(d++x::z))[d.length+1]?=some x:=by simp
     by_cases hx3:x=34
     .rw[if_pos hx3]at hcut
      have hx4:=hx34.1 hx3
      have hres:=hs _ _ hcut J2 A12
      simp[he,w2,w1,hlt,hx4]
      refine⟨by omega,by omega,?_⟩
      obtain⟨e1,e2⟩:=zia (L:=c::(d++x::z)) (t:=34::(d++[34])) (r:=z) (n:=(d.length:Int)+2) (m:=(d.length:Int)+((z.length:Int)+1)+1) (by rw[hx3,h34];simp) (by simp;omega) (by simp)
      rw[e1,e2]
      exact⟨by omega,by omega,by omega,hres⟩
     .rw[if_neg hx3]at hcut
      have hx4:¬(x.toNat:Int)=34:=λe=>hx3 (hx34.2 e)
      simp[he,w2,w1,hlt,hx4]
      exact⟨by omega,hn hcut _ _ hsuf A12⟩
    .have he:zpl zeQ r=-1:=by
      unfold zpl at hi ⊢
      cases hf:r.findIdx? (inS zeQ)with
      | none=>rfl
      | some i=>rw[hf]at hi;simp at hi
     have hno:=zBK (l:=zeQ) (s:=r) (by omega)
     have hdw:r.dropWhile (λc=>!zrp c)=[]:=by
      rw[zdn,yaM]
      intro y hy
      have:=hno y hy
      simpa [inS,zeQ,zrp]using this
     rw[hq,hdw]at hcut
     simp[he,show yb4 .i64 1=1 from rfl]
     exact hn hcut _ _ hsuf A12
   .rw[if_neg h34]at hcut
    have n34:¬(c.toNat:Int)=34:=λe=>h34 (hc2.2.2.2 e)
    simp[n40,n41,n34]
    refine zoI (l:=zgh) (by decide) (by decide) (by decide) (by simp;omega) λJ2 A2=>?_
    have A12:=A1.trans A2
    have hcs:zek c=false:=hhd c r rfl
    have hcn:inS zgh c=false:=by
     have e10:¬c=10/\¬c=32:=by simpa [zek,not_or,and_comm]using hcs
     simp[inS,zgh,e10,λe=>h40 (.inl e),λe=>h40 (.inr e),h34]
     exact⟨λe=>h40 (.inl e),λe=>h40 (.inr e)⟩
    have hst:∀y,inS zgh y=zas y:=λy=>rfl
    by_cases hi:0<=zpl zgh (c::r)
    .obtain⟨d,x,z,hcr,hd,hx,he⟩:=zoJ hi
     obtain⟨d',rfl⟩:∃d',d=c::d':=by
      cases d with
      | nil =>
       simp at hcr
       rw[<-hcr.1,hcn]at hx
       cases hx
      | cons y d' =>
       simp at hcr
       exact⟨d',by rw[hcr.1]⟩
     have hr2:r=d'++x::z:=by simpa using hcr
     subst hr2
     obtain⟨t1,t2⟩:=zh9 (p:=λc=>!zas c) (d:=d') (r:=z) (c:=x) (λy hy=>by have:=hd y (by simp[hy]);rw[hst]at this;simp[this]) (by rw[hst]at hx;simp[hx])
     rw[t1,t2]at hcut
     have hres:=hs _ _ hcut J2 A12
     have hlt:¬(d'.length:Int)+1<0:=by omega
     simp[he,hlt]
     obtain⟨e1,e2⟩:=zia (L:=c::(d'++x::z)) (t:=c::d') (r:=x::z) (n:=(d'.length:Int)+1) (m:=(d'.length:Int)+((z.length:Int)+1)+1) (by simp) (by simp) (by simp)
     have e3:((d'.length:Int)+1).toNat=d'.length+1:=by omega
     rw[e3]at e2
     rw[e2]
     exact⟨by omega,by omega,by omega,by omega,hres⟩
    .have hno:=zBK (l:=zgh) (s:=c::r) (by omega)
     have hw:r.takeWhile (λx=>!zas x)=r/\r.dropWhile (λx=>!zas x)=[]:=by
      have h1:∀y∈r,(!zas y)=true:=λy hy=>by have:=hno y (by simp[hy]);rw[hst]at this;simp[this]
      have h2:r.dropWhile (λx=>!zas x)=[]:=by rw[zdn,yaM];exact h1
      have h3:=List.takeWhile_append_dropWhile (p:=λx=>!zas x) (l:=r)
      rw[h2,yb7]at h3
      exact⟨h3,h2⟩
     rw[hw.1,hw.2]at hcut
     have hres:=hs _ _ hcut J2 A12
     have hlt:zpl zgh (c::r)<0:=by omega
     simp[hlt]
     exact⟨by omega,hres⟩
end
def zD5(e:Int):AV:=.iface 33 (.int .i64 e)
structure Wr(base x:Nat)(s:Ts)(J:AS):Prop where
 hx:x<J.no
 hb:0<base/\base<=J.nf
 h0:J.F 0=.alive
 ok:zj8 s.b
 len:s.b.length<2^36
 cells:∃lv,J.objs x=some [.str s.b,lv]/\ToR base J lv s.ls
theorem zm5{s t r:List UInt8}(h:zcr s=some (t,r)):r<:+s:=by
 have h0:=zcM zek s
 unfold zcr at h
 split at h
 .cases h
 .rename_i c z e
  rw[e]at h0
  have h1:=(ydM c z).trans h0
  split at h
  .cases h;exact h1
  .split at h
   .unfold zc1 at h
    have h2:=zcM (λc=>!zrp c) z
    split at h
    .cases h
    .rename_i x y e2
     rw[e2]at h2
     split at h
     .cases h;exact((ydM x r).trans h2).trans h1
     .cases h
   .cases h;exact(zcM _ z).trans h1
theorem Wr.uses{base x s J}(h:Wr base x s J){f:Nat}(hf:f<base):¬zcW J x f:=λ⟨cs,v,h1,h2,h3⟩=>by
 obtain⟨lv,ho,hl⟩:=h.cells
 rw[ho]at h1
 cases h1
 simp at h2
 subst h2
 rcases hl with ⟨_,rfl⟩|⟨g,tos,rfl,hg,_⟩
 .cases h3
 .simp only[zcJ,yaR.injEq]at h3
  omega
theorem Wr.lt{base x s J}(h:Wr base x s J){f:Nat}(u:zcW J x f):f<J.nf:=by
 obtain⟨cs,v,h1,h2,h3⟩:=u
 obtain⟨lv,ho,hl⟩:=h.cells
 rw[ho]at h1
 cases h1
 simp at h2
 subst h2
 rcases hl with ⟨_,rfl⟩|⟨g,tos,rfl,hg,hg2,_⟩
 .cases h3
 .simp only[zcJ,yaR.injEq]at h3
  omega
theorem Wr.set{base x s J lv b}(h:Wr base x s J)(hb:b<:+s.b)(hl:ToR base J lv s.ls):Wr base x { s with b:=b } (J.setO x [.str b,lv]):=by
 refine⟨h.hx,h.hb,h.h0,h.ok.end hb,ydN hb.length_le h.len,lv,by simp,?_⟩
 rcases hl with h1|⟨g,tos,h1,h2,h3,h4,h5⟩
 .exact .inl h1
 .exact .inr ⟨g,tos,h1,h2,h3,h4,h5⟩
theorem Wr.adds{base x s J J'}(h:Wr base x s J)(A:zb J J'):Wr base x s J':=by
 obtain⟨lv,ho,hl⟩:=h.cells
 have hn:=A.nf
 have hb:=h.hb
 refine⟨yag h.hx A.no,⟨hb.1,by omega⟩,(A.fam 0 (by omega)).trans h.h0,h.ok,h.len,lv,(A.obj x h.hx).trans ho,?_⟩
 rcases hl with h1|⟨g,tos,h1,h2,h3,h4,h5⟩
 .exact .inl h1
 .exact .inr ⟨g,tos,h1,h2,by omega,(A.fam g h3).trans h4,h5⟩
def zdd(R:Out->AS->Prop)(x:Nat)(J:AS)(e:Int):Prop:=∀J',zat x J J'->R (.panic (zD5 e)) J'
theorem zdd.mono{R x J J' e}(h:zdd R x J e)(K:zat x J J'):zdd R x J' e:=λZ k=>h Z (K.trans k)
section
variable {G : Env} {J : AS} {R : Out -> AS -> Prop}
theorem zau{b:Bool}{e:Int}(h1:b=true->R (.ret (.tuple [])) J)(h2:b=false->R (.panic (zD5 e)) J):zzQ G 61 [.bool b,.int .i64 e] J R:=by
 refine zDc rfl ?_
 cases b with
 | true =>
  simp[zKY]
  exact h1 rfl
 | false =>
  simp[zKY]
  exact h2 rfl
theorem zlJ{base x s}(h:Wr base x s J)(hn:zaj s=.error 2->zdd R x J 2)(hs:∀t s',zaj s=.ok (t,s')->∀J',Wr base x s' J'->zaB x J J'->R (.ret (.str t)) J'):zzQ G 110 [.ptr x 0] J R:=by
 refine zw4 rfl ?_
 obtain⟨lv,ho,hl⟩:=h.cells
 have l1:=hl.one
 have hx:=h.hx
 simp[zG1,ho]
 refine zgQ h.ok (yag h.len (by decide)) (λhq r J1 hr A1=>?_) (λt r hq J1 A1=>?_)
 .simp
  refine zau (λq=>by simp at q) (λ_=>?_)
  simp
  exact hn (by unfold zaj;rw[hq]) _ (A1.keepR hx)
 .obtain⟨_,hne⟩:=zbD hq
  have h1:=h.adds A1
  have hsuf:=zm5 hq
  simp[hne]
  refine zau (λ_=>?_) (λq=>by simp at q)
  obtain⟨lv1,ho1,hl1⟩:=h1.cells
  have l2:=hl1.one
  simp[ho1,splice]
  have hnx:zaj s=.ok (t,{ s with b:=r }):=by unfold zaj;rw[hq]
  exact hs t _ hnx _ (h1.set hsuf hl1) ((A1.keepS hx ho).trans (.set ho1 rfl))
end
@[simp] theorem zD6:zaQ yb9 139=some true:=by kernel_rfl
@[simp] theorem zFE(t:Nat)(v:AV)(K:AV->Prop):zb0 yb9 .eql 139 (.iface t v) .nilif K=K (.bool false):=by
 have h:=zD6
 unfold zaQ at h
 split at h
 .rename_i ms hu
  simp[zb0,aeq,zl3,hu]
 .cases h
 .cases h
def LW(x:Nat)(J:AS)(v:AV)(ts:List (List UInt8)):Prop:=(∃b,v=.sl (.stat b) 1 (ts.map yc8))\/∃ob,v=.slm ob 0 1 ts.length/\ob<J.no/\ob≠x/\J.objs ob=some (ts.map yc8)
theorem LW.keep{x J J' v ts}(h:LW x J v ts)(K:zaB x J J'):LW x J' v ts:=by
 rcases h with h|⟨ob,h1,h2,h3,h4⟩
 .exact .inl h
 .exact .inr ⟨ob,h1,yag h2 K.no,h3,(K.obj ob h2 h3).trans h4⟩
theorem Wr.isSome{base x s J}(h:Wr base x s J):∃cs,J.objs x=some cs:=by obtain⟨lv,ho,_⟩:=h.cells;exact⟨_,ho⟩
section
variable {G : Env} {J : AS} {R : Out -> AS -> Prop}
def WdI(base x:Nat)(ts:List (List UInt8))(s0:Ts)(J:AS)(v:AV)(a:Nat->AV)(Z:AS):Prop:=∃(d r:List (List UInt8)) (s:Ts),ts=d++r/\zx ts s0=zx r s/\a 0=.ptr x 0/\a 6=v/\a 7=.int .i64 (ts.length:Int)/\a 8=.int .i64 (d.length:Int)/\Wr base x s Z/\zaB x J Z/\LW x Z v ts
theorem zm6{base x s v ts}(h:Wr base x s J)(hv:LW x J v ts)(hl:ts.length<1000)(hn:∀e,zx ts s=.error e->zdd R x J e)(hs:∀s',zx ts s=.ok s'->∀J',Wr base x s' J'->zaB x J J'->R (.ret (.tuple [])) J'):zzQ G 56 [.ptr x 0,v] J R:=by
 refine zC7 rfl ?_
 obtain⟨cs0,hcs0⟩:=h.isSome
 have hlen:(∃b,v=.sl (.stat b) 1 (ts.map yc8))\/∃ob,v=.slm ob 0 1 ts.length:=by
  rcases hv with h|⟨ob,h,_⟩
  .exact .inl h
  .exact .inr ⟨ob,h⟩
 have go:avc yb9 G 18 (.block 0 (.loop zjI)) (zcq yb9 [] R) (upd (upd (upd (zb5 [.ptr x 0,v]) 6 v) 7 (.int .i64 (ts.length:Int))) 8 (.int .i64 0)) J:=by
  simp
  refine zy (WdI base x ts s J v) (MU 8 (ts.length+1)) ⟨[],ts,s,rfl,rfl,by simp,by simp,by simp,by simp,h,.refl hcs0,hv⟩ λa Z hI=>?_
  obtain⟨d,r,s1,hdr,he,a0,a6,a7,a8,hW,hK,hV⟩:=hI
  cases r with
  | nil =>
   have e:ts.length=d.length:=by simp[hdr]
   rw[e]at a7
   simp[zjI,a0,a6,a7,a8]
   exact hs s1 he _ hW hK
  | cons t r =>
   have hlt:(d.length:Int)<(ts.length:Int):=by simp[hdr];omega
   have hi:ts[d.length]?=some t:=by simp[hdr]
   have w1:yb4 .i64 ((d.length:Int)+1)=((d.length+1:Nat):Int):=by rw[wrap_i64]<;>omega
   have rest:∀(t':List UInt8) (s2:Ts) (Z2:AS),zaj s1=.ok (t',s2)->Wr base x s2 Z2->zaB x Z Z2->zx ts s=(if t'=t then zx r s2 else .error 2):=λt' s2 Z2 q _ _=>by
    rw[he,zx,q]
    rfl
   have hno:zaj s1=.error 2->zdd R x J 2:=λq=>hn 2 (by rw[he,zx,q];rfl)
   rcases hV with ⟨b,hv'⟩|⟨ob,hv',g1,g2,g3⟩
   .subst hv'
    have hv':True:=trivial
    simp[zjI,a0,a6,a7,a8,hv',hlt,hi]
    refine zlJ hW (λq=>(hno q).mono hK.r) (λt' s2 q Z2 hW2 hK2=>?_)
    have hr:=rest t' s2 Z2 q hW2 hK2
    have hK12:=hK.trans hK2
    by_cases ht:t'=t
    .rw[if_pos ht]at hr
     simp[ht]
     refine zau (λ_=>?_) (λq=>by cases q)
     simp[a0,a6,a7,a8,w1]
     refine⟨⟨d++[t],r,s2,by simp[hdr],hr,by simp[a0],by simp[a6,hv'],by simp[a7],by simp,hW2,hK12,(LW.keep (.inl ⟨b,rfl⟩) hK2)⟩,?_⟩
     simp[MU,a8];omega
    .rw[if_neg ht]at hr
     simp[ht]
     refine zau (λq=>by cases q) (λ_=>?_)
     simp
     exact hn 2 hr _ hK12.r
   .subst hv'
    have hv':True:=trivial
    simp[zjI,a0,a6,a7,a8,hv',hlt,hi,g3]
    refine zlJ hW (λq=>(hno q).mono hK.r) (λt' s2 q Z2 hW2 hK2=>?_)
    have hr:=rest t' s2 Z2 q hW2 hK2
    have hK12:=hK.trans hK2
    by_cases ht:t'=t
    .rw[if_pos ht]at hr
     simp[ht]
     refine zau (λ_=>?_) (λq=>by cases q)
     simp[a0,a6,a7,a8,w1]
     refine⟨⟨d++[t],r,s2,by simp[hdr],hr,by simp[a0],by simp[a6,hv'],by simp[a7],by simp,hW2,hK12,(LW.keep (.inr ⟨ob,rfl,g1,g2,g3⟩) hK2)⟩,?_⟩
     simp[MU,a8];omega
    .rw[if_neg ht]at hr
     simp[ht]
     refine zau (λq=>by cases q) (λ_=>?_)
     simp
     exact hn 2 hr _ hK12.r
 rcases hlen with ⟨b,rfl⟩|⟨ob,rfl⟩
 .simp[zKX]
  simpa using go
 .simp[zKX]
  simpa using go
theorem zy2{base x s w}(h:Wr base x s J)(hw:w≠[])(hn:zfm w s=none->∀J',Wr base x s J'->zaB x J J'->R (.ret (.bool false)) J')(hs:∀s',zfm w s=some s'->∀J',Wr base x s' J'->zaB x J J'->R (.ret (.bool true)) J'):zzQ G 59 [.ptr x 0,.str w] J R:=by
 refine zDa rfl ?_
 obtain⟨lv,ho,hl⟩:=h.cells
 have l1:=hl.one
 have hx:=h.hx
 have hlen:=h.len
 have hm:zfm w s=match zcr s.b with
  | none=>none
  | some p=>if p.1=zj then(match zcr p.2 with
   | none=>none
   | some q=>if q.1=w then some { s with b:=q.2 }else none)else none:=rfl
 simp[zLO,ho]
 refine zgQ h.ok (by omega) (λhq r J1 hr A1=>?_) (λt r hq J1 A1=>?_)
 .rw[hq]at hm
  simp
  have hrl:=hr.length_le
  refine zgQ (h.ok.end hr) (by omega) (λhq2 r2 J2 hr2 A2=>?_) (λt2 r2 hq2 J2 A2=>?_)
  .simp
   exact hn hm _ (h.adds (A1.trans A2)) ((A1.trans A2).keepS hx ho)
  .simp
   exact hn hm _ (h.adds (A1.trans A2)) ((A1.trans A2).keepS hx ho)
 .rw[hq]at hm
  simp only at hm
  have hr:=zm5 hq
  have hrl:=hr.length_le
  simp
  refine zgQ (h.ok.end hr) (by omega) (λhq2 r2 J2 hr2 A2=>?_) (λt2 r2 hq2 J2 A2=>?_)
  .have hA:=A1.trans A2
   have hno:zfm w s=none:=by
    rw[hm,hq2]
    split<;>rfl
   have fin:=hn hno _ (h.adds hA) (hA.keepS hx ho)
   by_cases ht:t=zj
   .have ht':t=[40]:=ht
    have hw':¬[]=w:=λe=>hw e.symm
    simp[ht',hw']
    exact fin
   .have ht':¬t=[40]:=ht
    simp[ht']
    exact fin
  .have hA:=A1.trans A2
   have h2:=h.adds hA
   obtain⟨lv2,ho2,hl2⟩:=h2.cells
   have l2:=hl2.one
   by_cases ht:t=zj
   .have ht':t=[40]:=ht
    rw[if_pos ht,hq2]at hm
    simp only at hm
    by_cases hw:t2=w
    .rw[if_pos hw]at hm
     simp[ht',hw,ho2,splice]
     exact hs _ hm _ (h2.set ((zm5 hq2).trans hr) hl2) ((hA.keepS hx ho).trans (.set ho2 rfl))
    .rw[if_neg hw]at hm
     simp[ht',hw]
     exact hn hm _ h2 (hA.keepS hx ho)
   .have ht':¬t=[40]:=ht
    rw[if_neg ht]at hm
    simp[ht']
    exact hn hm _ h2 (hA.keepS hx ho)
theorem zj9{t:List UInt8}(h:R (.ret (.str (zaE t))) J):zzQ G 113 [.str t,.str [45]] J R:=by
 refine zm4 ?_
 have hb:(if zk8 [45] t=true then t.drop [45].length else t)=zaE t:=by
  rw[zj7]
  unfold zaE
  cases t with
  | nil=>rfl
  | cons c r =>
   by_cases hc:c=45
   .subst hc;simp
   .simp[hc]
 exact(congrArg (λz=>R (.ret (.str z)) J) hb).mpr h
theorem zm7(V:zb3 G){base x s}(h:Wr base x s J)(hn:∀e,zR s=.error e->zdd R x J e)(hs:∀n s',zR s=.ok (n,s')->-(2^63)<=n->n<2^63->∀J',Wr base x s' J'->zaB x J J'->R (.ret (.int .i64 n)) J'):zzQ G 58 [.ptr x 0] J R:=by
 refine zC9 rfl ?_
 simp[zLN]
 refine zlJ h (λq=>hn 2 (by unfold zR;rw[q];rfl)) (λt s1 q J1 h1 K1=>?_)
 have hnum:zR s=(zh0 t).map λn=>(n,s1):=by unfold zR;rw[q];rfl
 have htl:t.length<2^36:=by
  have:=h.len
  unfold zaj at q
  cases hc:zcr s.b with
  | none=>rw[hc]at q;cases q
  | some p =>
   obtain⟨p1,p2⟩:=p
   rw[hc]at q
   cases q
   have:=(zbD hc).1
   show p1.length<2^36
   omega
 obtain⟨lv1,ho1,hl1⟩:=h1.cells
 have hx1:=h1.hx
 simp
 refine zj9 ?_
 have hbl:(zaE t).length<=t.length:=by
  unfold zaE
  split<;>simp
 have hdig:∀c,inS [48,49,50,51,52,53,54,55,56,57] c=zB c:=by
  have key:∀k:Fin 256,inS [48,49,50,51,52,53,54,55,56,57] (UInt8.ofNat k.1)=zB (UInt8.ofNat k.1):=by decide +kernel
  intro c
  have:=key ⟨c.toNat,c.toNat_lt⟩
  simpa using this
 by_cases hb0:zaE t=[]
 .have hv:zh0 t=.error 2:=by unfold zh0;rw[if_pos (by simp[hb0])]
  rw[hv]at hnum
  simp[hb0]
  refine zau (λq=>by cases q) (λ_=>?_)
  simp
  exact hn 2 hnum _ K1.r
 .simp[hb0]
  refine zhx (l:=[48,49,50,51,52,53,54,55,56,57]) (by decide) (by decide) (by decide) (by omega) λJ2 A2=>?_
  have K12:=K1.trans (A2.keepS hx1 ho1)
  cases hall:(zaE t).all zB with
  | false =>
   have hv:zh0 t=.error 2:=by unfold zh0;rw[if_pos (by simp[hall])]
   rw[hv]at hnum
   have hne:¬zoG [48,49,50,51,52,53,54,55,56,57] (zaE t)=[]:=by
    rw[zdo]
    have:(zaE t).all (inS [48,49,50,51,52,53,54,55,56,57])=(zaE t).all zB:=by congr 1;funext c;exact hdig c
    rw[this,hall]
    simp
   simp[hne]
   refine zau (λq=>by cases q) (λ_=>?_)
   simp
   exact hn 2 hnum _ K12.r
  | true =>
   have he:zoG [48,49,50,51,52,53,54,55,56,57] (zaE t)=[]:=by
    rw[zdo]
    have:(zaE t).all (inS [48,49,50,51,52,53,54,55,56,57])=(zaE t).all zB:=by congr 1;funext c;exact hdig c
    rw[this,hall]
   have hv:zh0 t=match Lib.atoiAll t with
     | .ok n=>if Lib.itoa n=t then .ok n else .error 11
     | _=>.error 11:=by
    unfold zh0
    rw[if_neg (by simp[hb0,hall])]
    try rfl
   simp[he]
   refine zau (λ_=>?_) (λq=>by cases q)
   simp
   refine zsO V hb0 hall (by omega) (λn hq2=>?_) (λhq2 k=>?_)
   .rw[hq2]at hv
    simp only at hv
    have hr:-(2^63)<=n/\n<2^63:=by
     rw[zjS hb0 hall]at hq2
     split at hq2
     .cases hq2;assumption
     .cases hq2
    simp
    refine zfu V.pow hr ?_
    by_cases hi:Lib.itoa n=t
    .rw[if_pos hi]at hv
     rw[hv]at hnum
     simp[hi]
     refine zau (λ_=>?_) (λq=>by cases q)
     simp
     exact hs n s1 hnum hr.1 hr.2 _ (h1.adds A2) K12
    .rw[if_neg hi]at hv
     rw[hv]at hnum
     simp[hi]
     refine zau (λq=>by cases q) (λ_=>?_)
     simp
     exact hn 11 hnum _ K12.r
   .rw[hq2]at hv
    simp only at hv
    rw[hv]at hnum
    simp
    refine zau (λq=>by cases q) (λ_=>?_)
    simp
    exact hn 11 hnum _ K12.r
end
theorem Wr.newF{base x s Z}(h:Wr base x s Z):Wr base x s Z.newF:=h.adds (zb.refl Z).newF
theorem Wr.endF{base x s Z}(h:Wr base x s Z){g:Nat}(hg:base<=g)(hu:¬zcW Z x g):Wr base x s (Z.setF g .dead):=by
 obtain⟨lv,ho,hl⟩:=h.cells
 have hb:=h.hb
 refine⟨h.hx,hb,?_,h.ok,h.len,lv,ho,?_⟩
 .have:¬0=g:=by omega
  simp[this,h.h0]
 .rcases hl with h1|⟨f,tos,h1,h2,h3,h4,h5⟩
  .exact .inl h1
  .have:¬f=g:=λe=>hu ⟨_,_,ho,rfl,by rw[h1,<-e];rfl⟩
   exact .inr ⟨f,tos,h1,h2,h3,by simp[this,h4],h5⟩
theorem Wr.mrg{base x s Z}(h:Wr base x s Z){g:Nat}(hg:base<=g)(hu:¬zcW Z x g):Wr base x s (Z.mrg g λ_=>false):=by
 obtain⟨lv,ho,hl⟩:=h.cells
 have hb:=h.hb
 refine⟨h.hx,hb,?_,h.ok,h.len,lv,by simpa [AS.mrg]using ho,?_⟩
 .have:¬0=g:=by omega
  simp[AS.mrg,zkJ,this,h.h0]
 .rcases hl with h1|⟨f,tos,h1,h2,h3,h4,h5⟩
  .exact .inl h1
  .have:¬f=g:=λe=>hu ⟨_,_,ho,rfl,by rw[h1,<-e];rfl⟩
   exact .inr ⟨f,tos,h1,h2,h3,by simp[AS.mrg,zkJ,this,h4],h5⟩
theorem Wr.setO{base x s J o cs}(h:Wr base x s J)(ho:o≠x):Wr base x s (J.setO o cs):=by
 obtain⟨lv,h1,hl⟩:=h.cells
 refine⟨h.hx,h.hb,h.h0,h.ok,h.len,lv,?_,?_⟩
 .have:¬x=o:=λe=>ho e.symm
  simp[this,h1]
 .rcases hl with h1|⟨g,tos,h1,h2,h3,h4,h5⟩
  .exact .inl h1
  .exact .inr ⟨g,tos,h1,h2,h3,h4,h5⟩
theorem zuJ{el:Option TypeId}{base x s}{J0 Z:AS}{v row:AV}{xs:List AV}{bsz sz:Nat}{K:AV->AS->Prop}(hG:zk7 J0 x sz Z v xs)(hR:Wr base x s Z)(hK:zat x J0 Z)(hb:base<=J0.nf)(hrow:row.cells.length=sz)(hl:(xs.length+1)*bsz<=2^47)
  (h:∀v' Z',zk7 J0 x sz Z' v' (xs++[row])->Wr base x s Z'->zat x J0 Z'->Z'.objs=Z.objs->Z'.no=Z.no->(zaB x J0 Z->zaB x J0 Z')->K v' Z'):zb8 el bsz sz v [row] Z K:=by
 have hn:=hK.nf
 rcases hG with ⟨rfl,rfl⟩|⟨g,rfl,h2,h3,h4,h5⟩
 .have hnu:¬zcW Z.newF x Z.nf:=λu=>by have:=hR.lt (f:=Z.nf) u;omega
  have:=h (.sl (.fam Z.nf false) sz [row]) Z.newF (.inr ⟨Z.nf,rfl,hn,by simp,by simp,hnu⟩) hR.newF hK.newF (by simp) (by simp) (λq=>q.newF)
  simp at hl
  simp
  first|exact this|exact⟨by omega,this⟩
 .have hR':=(hR.endF (by omega) h5).newF
  have hK':=(hK.endF h2).newF
  have hnu:¬zcW (Z.setF g .dead).newF x Z.nf:=λu=>by have:=hR.lt (f:=Z.nf) u;omega
  have:=h (.sl (.fam Z.nf false) sz (xs++[row])) (Z.setF g .dead).newF (.inr ⟨Z.nf,rfl,hn,by simp,by simp,hnu⟩) hR' hK' (by simp) (by simp) (λq=>(q.endF h2).newF)
  simp[h4]
  exact⟨hl,this⟩
theorem zco{s s':Ts}{t:List UInt8}(h:zaj s=.ok (t,s')):t.length+s'.b.length<=s.b.length/\t≠[]/\s'.ls=s.ls:=by
 unfold zaj at h
 cases hc:zcr s.b with
 | none=>rw[hc]at h;cases h
 | some p =>
  obtain⟨p1,p2⟩:=p
  rw[hc]at h
  cases h
  exact⟨(zbD hc).1,(zbD hc).2,rfl⟩
section
variable {G : Env} {J : AS} {R : Out -> AS -> Prop}
def TyW(base x:Nat)(k0:Nat)(s0:Ts)(J:AS)(a:Nat->AV)(Z:AS):Prop:=∃(k:Nat) (done:List Int) (s:Ts),zaH k0 [] s0=zaH k done s/\s.b.length<k/\done.length+s.b.length<=s0.b.length/\a 0=.ptr x 0/\zk7 J x 1 Z (a 2) (done.map (.int .i64))/\Wr base x s Z/\zaB x J Z
def MBt(x:Nat)(_:Nat->AV)(Z:AS):Nat:=match Z.objs x with
 | some (.str b::_)=>b.length
 | _=>0
theorem zfS{base x s Z}(h:Wr base x s Z)(a:Nat->AV):MBt x a Z=s.b.length:=by
 obtain⟨lv,ho,hl⟩:=h.cells
 unfold MBt
 rw[ho]
theorem zIe(l:List Int):(0:Int)<(l.length:Int)↔l≠[]:=by
 cases l<;>simp
theorem zqi{base x s}{k:Nat}(h:Wr base x s J)(hk:s.b.length<k)(hn:∀e,zaH k [] s=.error e->zdd R x J e)(hs:∀l s',zaH k [] s=.ok (l,s')->∀v J',Al.IntsE v l->Wr base x s' J'->zaB x J J'->R (.ret v) J'):zzQ G 118 [.ptr x 0] J R:=by
 refine Al.merging (zxa rfl ?_)
 obtain⟨cs0,hcs0⟩:=h.isSome
 simp[zG5]
 refine zy (TyW base x k s J) (MBt x) ⟨k,[],s,rfl,hk,by simp,by simp,.inl ⟨rfl,by simp⟩,h,.refl hcs0⟩ λa Z hI=>?_
 obtain⟨k1,done,s1,he,hk1,hlen,a0,hG,hW,hK⟩:=hI
 obtain⟨k1,rfl⟩:∃j,k1=j+1:=⟨k1-1,by omega⟩
 have hmb:=zfS hW a
 have hb:=h.hb.2
 have hl36:=h.len
 rw[zaH]at he
 simp[zq7,a0]
 refine zlJ hW (λq=>?_) (λt s2 q Z2 hW2 hK2=>?_)
 .intro J' h1
  exact .inl (hn 2 (by rw[he,q];rfl) J' (hK.r.trans h1))
 .rw[q]at he
  simp only[Except.bind]at he
  obtain⟨q1,q2,_⟩:=zco q
  have ht0:1<=t.length:=ybm.2 q2
  have hK12:=hK.trans hK2
  have hG2:=hG.keep hK2.r
  have g2:=hG2.one
  have hmb2:=zfS hW2 a
  by_cases h32:t=zBA
  .rw[if_pos h32]at he
   have h32':t=[105,51,50]:=h32
   simp[h32',g2]
   refine zuJ (row:=.int .i64 1) hG2 hW2 hK12.r hb (by simp) (by simp;omega) λv' Z' e1 e2 e3 e4 e5 e6=>?_
   simp
   refine⟨⟨k1,done++[1],s2,he,by omega,by simp;omega,by simp[a0],by simpa using e1,e2,e6 hK12⟩,?_⟩
   rw[zfS e2,hmb];omega
  .rw[if_neg h32]at he
   have h32':¬t=[105,51,50]:=h32
   by_cases h64:t=zBB
   .rw[if_pos h64]at he
    have h64':t=[105,54,52]:=h64
    simp[h64',g2]
    refine zuJ (row:=.int .i64 2) hG2 hW2 hK12.r hb (by simp) (by simp;omega) λv' Z' e1 e2 e3 e4 e5 e6=>?_
    simp
    refine⟨⟨k1,done++[2],s2,he,by omega,by simp;omega,by simp[a0],by simpa using e1,e2,e6 hK12⟩,?_⟩
    rw[zfS e2,hmb];omega
   .rw[if_neg h64]at he
    have h64':¬t=[105,54,52]:=h64
    by_cases hsh:t=zd
    .have hsh':t=[41]:=hsh
     by_cases hd:done=[]
     .rw[if_neg (λq=>q.2 hd)]at he
      subst hd
      rcases hG2 with ⟨_,e2⟩|⟨g,e1,_⟩
      .simp[hsh',e2]
       refine zau (λq=>by cases q) (λ_=>?_)
       simp
       exact .inl (hn 2 he _ hK12.r)
      .simp[hsh',e1]
       refine zau (λq=>by cases q) (λ_=>?_)
       simp
       exact .inl (hn 2 he _ hK12.r)
     .rw[if_pos ⟨hsh,hd⟩]at he
      rcases hG2 with ⟨e1,_⟩|⟨g,e1,e2,e3,e4,e5⟩
      .exact absurd (by simpa using e1) hd
      .have hpos:(0:Int)<(done.length:Int):=(zIe done).2 hd
       have hposN:0<done.length:=by omega
       simp[hsh',e1,hposN]
       refine zau (λ_=>?_) (λq=>by cases q)
       simp[e1]
       have:=hs _ _ he (.sl (.fam 0 false) 1 (done.map (.int .i64))) (Z2.mrg g λ_=>false) (.inr ⟨_,rfl⟩) (hW2.mrg (by omega) e5) (hK12.mrg e2)
       refine Al.MrgOr.merged g (λ_=>false) (by have:=hW2.hb;omega) e4 ?_
       simpa [Function.comp_def]using this
    .rw[if_neg (λq=>hsh q.1)]at he
     have hsh':¬t=[41]:=hsh
     simp[h32',h64',hsh']
     refine zau (λq=>by cases q) (λ_=>?_)
     simp
     exact .inl (hn 2 he _ hK12.r)
end
@[simp] theorem zMa(J:AS)(f g:Nat):(J.turn f).F g=if g=J.nf then .alive else if g=f then .dead else J.F g:=by simp[AS.turn,upd]
@[simp] theorem zLd(J:AS)(f:Nat):(J.turn f).nf=J.nf+1:=rfl
@[simp] theorem zLe(J:AS)(f:Nat):(J.turn f).no=J.no:=rfl
@[simp] theorem zIf(J:AS)(f:Nat):(J.turn f).objs=J.objs:=rfl
theorem zb.turn{J J':AS}(h:zb J J'){f:Nat}(hf:J.nf<=f):zb J (J'.turn f) where
 no:=h.no
 nf:=ydw h.nf
 obj:=h.obj
 fam g hg:=by
  have:=h.nf
  have h1:¬g=J'.nf:=by omega
  have h2:¬g=f:=by omega
  simp[h1,h2]
  exact h.fam g hg
theorem zBL:yb9.underlying 208=some (.map 9 53):=by kernel_rfl
theorem zBM:yb9.underlying 242=some (.map 9 3):=by kernel_rfl
theorem zrA(s:List UInt8):zf3 yb9 9 (.str s)=true:=by
 have:yb9.underlying 9=some .string:=by kernel_rfl
 simp[zf3,this]
def zpm(l:List (List UInt8)):List AV:=l.map yc8
theorem zeR(s:List UInt8):∀(l:List (List UInt8)) (i:Nat),znM (.str s) (zpm l) i=some ((l.findIdx? (λk=>k==s)).map (·+i))
 | [],i=>rfl
 | k::l,i=>by
  rw[show zpm (k::l)=.str k::zpm l from rfl,znM,ydF]
  by_cases h:s=k
  .subst h
   simp[zkP]
  .have h':¬k=s:=λe=>h e.symm
   have ih:=zeR s l (i+1)
   simp only[zkP,show(s==k)=false from by simpa using h]
   rw[ih]
   simp[h']
   cases l.findIdx? (λk=>k==s)with
   | none=>simp
   | some j=>simp;omega
@[simp] theorem zFF{J:AS}{f:Nat}{ks:List (List UInt8)}{vs:List AV}{k:List UInt8}{v:AV}{K:AV->AS->Prop}:zc8 yb9 208 (.mpo f (zpm ks) vs) (.str k) v J K=(J.F f=.alive/\v.plainV=true/\ks.contains k=false/\K (.mpo J.nf (zpm (ks++[k])) (vs++[v])) (J.turn f)):=by
 simp only[zc8,zBL,zrA,zeR,true_and]
 have e:(some ((ks.findIdx? (λx=>x==k)).map (·+0))=some none)↔ks.contains k=false:=by
  cases h:ks.findIdx? (λx=>x==k)with
  | none =>
   have:=ydE.1 h
   simp
   intro q
   have:=this k q
   simp at this
  | some i =>
   obtain⟨hi,hc,_⟩:=ydL.1 h
   have hc:ks[i]=k:=by simpa using hc
   simp
   rw[<-hc]
   exact yaw hi
 rw[propext e]
 rw[show zpm (ks++[k])=zpm ks++[.str k] from by simp[zpm]]
@[simp] theorem zFG{J:AS}{f:Nat}{ks:List (List UInt8)}{vs:List AV}{k:List UInt8}{v:AV}{K:AV->AS->Prop}:zc8 yb9 242 (.mpo f (zpm ks) vs) (.str k) v J K=(J.F f=.alive/\v.plainV=true/\ks.contains k=false/\K (.mpo J.nf (zpm (ks++[k])) (vs++[v])) (J.turn f)):=by
 simp only[zc8,zBM,zrA,zeR,true_and]
 have e:(some ((ks.findIdx? (λx=>x==k)).map (·+0))=some none)↔ks.contains k=false:=by
  cases h:ks.findIdx? (λx=>x==k)with
  | none =>
   have:=ydE.1 h
   simp
   intro q
   have:=this k q
   simp at this
  | some i =>
   obtain⟨hi,hc,_⟩:=ydL.1 h
   have hc:ks[i]=k:=by simpa using hc
   simp
   rw[<-hc]
   exact yaw hi
 rw[propext e]
 rw[show zpm (ks++[k])=zpm ks++[.str k] from by simp[zpm]]
@[simp] theorem zJ4{J:AS}{K:AV->AS->Prop}{r:Option AV}:ze8 r J K=(r=none/\K (.mpo J.nf (zpm []) []) J.newF):=rfl
def zbn:W:={ op:=0,ty:=0,n:=0,body:=0,other:=0,name:=[] }
theorem zoK(T:List (List UInt8 × W))(s:List UInt8)(K:AV->Prop):zb7 yb9 208 (.mp (zpm (T.map (·.1))) (T.map λp=>p.2.av)) (.str s) true K=K (.tuple [((zK T s).getD zbn).av,.bool (zK T s).isSome]):=by
 have hz:zO yb9 53=some zbn.av:=by kernel_rfl
 simp only[zb7,zBL,zrA,zeR,true_and,hz]
 have e:(T.map (·.1)).findIdx? (λk=>k==s)=T.findIdx? (λp=>p.1==s):=by rw[List.findIdx?_map];rfl
 rw[e]
 unfold zK
 cases h:T.findIdx? (λp=>p.1==s)with
 | none =>
  have hn:T.find? (λp=>p.1==s)=none:=ydO.2 λp hp=>by have:=ydE.1 h p hp;simp[this]
  rw[hn]
  simp
 | some i =>
  obtain⟨hi,hc,hlt⟩:=ydL.1 h
  have hf:T.find? (λp=>p.1==s)=some T[i]:=by
   rw[List.find?_eq_some_iff_getElem]
   exact⟨hc,i,hi,rfl,λj hj=>by simpa using hlt j hj⟩
  rw[hf]
  have hg:(T.map λp=>p.2.av)[i]?=some T[i].2.av:=by simp[hi]
  apply propext
  simp only[Option.map_some,yaK,Option.getD_some,Option.isSome_some,if_true]
  constructor
  .rintro ⟨r,h1,h2⟩
   cases h1
   obtain⟨v,h3,h4⟩:=h2
   rw[hg]at h3
   cases h3
   exact h4
  .exact λq=>⟨some i,rfl,_,hg,q⟩
section
variable {G : Env} {J : AS} {R : Out -> AS -> Prop}
theorem zlK{s:List UInt8}(h:∀J',zb J J'->R (.ret (.tuple [((zK zaA s).getD zbn).av,.bool (zK zaA s).isSome])) J'):zzQ G 134 [.str s] J R:=by
 refine zxm rfl ?_
 simp[zHc,splice,AV.plainV,AV.atom]
 refine(zoK zaA s _).mpr ?_
 have key:∀w b,(zK zaA s).getD zbn=w->(zK zaA s).isSome=b->∀J',zb J J'->R (.ret (.tuple [w.av,.bool b])) J':=λw b e1 e2=>e1▸e2▸h
 cases hf:zK zaA s with
 | none =>
  have:=key zbn false (by rw[hf];rfl) (by rw[hf];rfl)
  simp[splice,W.av,W.cs,zbn]
  simp[W.av,W.cs,zbn]at this
  refine this _ ?_
  repeat (first|exact zb.refl _|refine zb.setO ?_ (by simp)|refine zb.newO ?_|refine zb.newF ?_|refine zb.turn ?_ (by omega))
 | some w =>
  have:=key w true (by rw[hf];rfl) (by rw[hf];rfl)
  simp[W.av,W.cs]at this
  simp[splice,W.av,W.cs]
  refine this _ ?_
  repeat (first|exact zb.refl _|refine zb.setO ?_ (by simp)|refine zb.newO ?_|refine zb.newF ?_|refine zb.turn ?_ (by omega))
theorem zgi{t:Int}(ht:t=1\/t=2)(h:R (.ret (.str (zr t))) J):zzQ G 131 [.int .i64 t] J R:=by
 refine zxi rfl ?_
 rcases ht with rfl|rfl
 .simp[zDA]
  exact h
 .simp[zDA]
  exact h
end
end Go.Proofs.YtohfclafhegadaaGreatDoor
set_option maxRecDepth 100000
namespace Go.Proofs.YtohfclafhegadaaGreatDoor.Sg
open Go Go.Abs Go.Proofs.YtohfclafhegadaaGreatDoor
def zrB:List UInt8:=[97,100,100,32,115,117,98,32,109,117,108,32,100,105,118,95,115,32,114,101,109,95,115,32,97,110,100,32,111,114,32,120,111,114,32,115,104,108,32,115,104,114,95,115,32,101,113,32,110,101,32,108,116,95,115,32,108,101,95,115,32,103,116,95,115,32,103,101,95,115]
theorem fok:zyP zrB zaY 66:=⟨by decide,by decide,by decide,by decide,by decide,⟨_,_,rfl,by decide⟩,by decide,by decide,by decide⟩
theorem fields_calls{G:Env}{J:AS}{R:Out->AS->Prop}(v3:G.g 0=.pv (.stat true) (.agg zgf))(h:∀x J',zb J J'->J.no<=x->x<J'.no->J'.objs x=some (zaY.map yc8)->R (.ret (.slm x 0 1 16)) J'):zzQ G 57 [.str zrB] J R:=zhv fok v3 h
end Go.Proofs.YtohfclafhegadaaGreatDoor.Sg
namespace Go.Proofs.YtohfclafhegadaaGreatDoor
open Go Go.Abs
abbrev zJ5(t:Int):W:={ op:=5,ty:=t,n:=0,body:=0,other:=0,name:=[] }
abbrev zJ6(t:Int)(u:List UInt8):W:={ op:=4,ty:=t,n:=0,body:=0,other:=0,name:=u }
def zdp(t:Int)(s:List UInt8):Option W :=
 if zk8 (zr t++[46]) s=true then(if s.drop 4=[101,113,122]then some (zJ5 t)else if zaY.contains (s.drop 4)=true then some (zJ6 t (s.drop 4))else none)else none
theorem zrC{p s:List UInt8}:zk8 p s=true↔∃u,s=p++u:=by
 unfold zk8
 rw[decide_eq_true_eq]
 constructor
 .rintro ⟨_,h⟩
  exact⟨s.drop p.length,by conv=>lhs;rw[<-ydK p.length s,h]⟩
 .rintro ⟨u,rfl⟩
  simp
theorem zka(pre:List UInt8)(g:List UInt8->W)(s:List UInt8):∀L:List (List UInt8),zK (L.map λk=>(pre++k,g k)) s=if zk8 pre s=true/\s.drop pre.length∈L then some (g (s.drop pre.length))else none
 | []=>by simp[zK]
 | k::L=>by
  have ih:=zka pre g s L
  unfold zK at ih ⊢
  rw[yaL,List.find?_cons]
  by_cases h:pre++k=s
  .subst h
   have:zk8 pre (pre++k)=true:=zrC.2 ⟨k,rfl⟩
   simp[this]
  .have hb:(pre++k==s)=false:=by simpa using h
   simp only[hb]
   rw[ih]
   by_cases hp:zk8 pre s=true
   .obtain⟨u,rfl⟩:=zrC.1 hp
    have:¬u=k:=λe=>h (by rw[e])
    simp[hp,this]
   .simp[hp]
theorem zkb(a b:List (List UInt8 × W))(s:List UInt8):zK (a++b) s=(zK a s).or (zK b s):=by
 unfold zK
 rw[List.find?_append]
 cases a.find? (λp=>p.1==s)<;>simp
theorem zkc(t:Int)(s:List UInt8):zK (zcG t) s=zdp t s:=by
 have hl:(zr t++[46]).length=4:=by unfold zr;split<;>rfl
 have e1:(zaY.map λx=>(zr t++46::x,({ op:=4,ty:=t,n:=0,body:=0,other:=0,name:=x }:W)))=zaY.map λk=>((zr t++[46])++k,zJ6 t k):=by
  simp
 have e2:[(zr t++[46,101,113,122],({ op:=5,ty:=t,n:=0,body:=0,other:=0,name:=[] }:W))]=[[101,113,122]].map λk=>((zr t++[46])++k,zJ5 t):=by simp
 unfold zcG
 rw[zkb,e1,e2,zka,zka,hl]
 unfold zdp
 by_cases hp:zk8 (zr t++[46]) s=true
 .have hq:[101,113,122]∉zaY:=by decide
  by_cases h1:s.drop 4=[101,113,122]
  .simp[hp,h1,hq]
  .simp[hp,h1]
   try (split<;>simp)
 .simp[hp]
theorem zoL:∀p∈zhq,zdp 1 p.1=none/\zdp 2 p.1=none:=by decide
theorem zoM(s:List UInt8):zK zaG s=(zdp 1 s).or ((zdp 2 s).or (zK zhq s)):=by
 unfold zaG
 rw[zkb,zkb,zkc,zkc]
 cases hb:zK zhq s with
 | none=>simp
 | some w =>
  have:∃p∈zhq,p.1=s:=by
   unfold zK at hb
   rw[ybB]at hb
   obtain⟨p,hp,_⟩:=hb
   exact⟨p,ydt hp,by simpa using ydP hp⟩
  obtain⟨p,hp,rfl⟩:=this
  rw[(zoL p hp).1,(zoL p hp).2]
  rfl
def zib:List (List UInt8 × W):=zhq.take 2++(zhq.drop 8++(zhq.drop 2).take 6)
theorem zsQ{l T:List (List UInt8 × W)}(hm:∀p,p∈l↔p∈T)(hT:∀p∈T,zK T p.1=some p.2)(s:List UInt8):zK l s=zK T s:=by
 cases h:zK l s with
 | some w =>
  unfold zK at h
  rw[ybB]at h
  obtain⟨p,hp,rfl⟩:=h
  have h1:=hT p ((hm p).1 (ydt hp))
  have h2:p.1=s:=by simpa using ydP hp
  rw[h2]at h1
  exact h1.symm
 | none =>
  cases h2:zK T s with
  | none=>rfl
  | some w =>
   unfold zK at h h2
   rw[ybB]at h2
   obtain⟨p,hp,rfl⟩:=h2
   rw[Option.map_eq_none_iff,ydO]at h
   have:=h p ((hm p).2 (ydt hp))
   have h3:=ydP hp
   exact absurd h3 this
theorem zuK(s:List UInt8):zK zib s=zK zhq s:=zsQ (λp=>by
  have h1:∀p∈zib,p∈zhq:=by decide
  have h2:∀p∈zhq,p∈zib:=by decide
  exact⟨h1 p,h2 p⟩) (by decide) s
@[simp] theorem zy3{P:Program}(t)(x y:List UInt8){K:AV->Prop}:zb0 P .add t (.str x) (.str y) K=(x.length+y.length<2^62/\K (.str (x++y))):=by simp only[zb0,zi1]
section
variable {G : Env} {J : AS} {R : Out -> AS -> Prop}
def IxS(x:Nat)(L:List (List UInt8))(s:List UInt8)(J:AS)(a:Nat->AV)(Z:AS):Prop:=∃d r:List (List UInt8),L=d++r/\(∀y∈d,¬s=y)/\a 0=.slm x 0 1 L.length/\a 1=.str s/\a 7=.int .i64 (L.length:Int)/\a 8=.int .i64 (d.length:Int)/\Z=J
theorem zy4{x:Nat}{L:List (List UInt8)}{s:List UInt8}(hL:L.length<1000)(ho:J.objs x=some (L.map yc8))(h:∀n:Int,(0<=n↔s∈L)->R (.ret (.int .i64 n)) J):zzQ G 157 [.slm x 0 1 L.length,.str s] J R:=by
 refine zxE rfl ?_
 simp[zHq]
 refine zy (IxS x L s J) (MU 8 (L.length+1)) ⟨[],L,rfl,by simp,by simp,by simp,by simp,by simp,rfl⟩ λa Z hI=>?_
 obtain⟨d,r,hdr,hn,a0,a1,a7,a8,rfl⟩:=hI
 cases r with
 | nil =>
  have e:L.length=d.length:=by simp[hdr]
  rw[e]at a7
  simp[zgF,zrd,a0,a1,a7,a8]
  refine h _ ⟨λq=>by omega,λq=>?_⟩
  rw[hdr,yb7]at q
  exact absurd rfl (hn s q)
 | cons y r =>
  have hlt:(d.length:Int)<(L.length:Int):=by simp[hdr];omega
  have hi:L[d.length]?=some y:=by simp[hdr]
  have w1:yb4 .i64 ((d.length:Int)+1)=((d.length+1:Nat):Int):=by rw[wrap_i64]<;>omega
  by_cases he:s=y
  .simp[zgF,a0,a1,a7,a8,hlt,ho,hi,he]
   exact h _ ⟨λ_=>by rw[hdr,he];simp,λ_=>by omega⟩
  .simp[zgF,a0,a1,a7,a8,hlt,ho,hi,he,w1]
   refine⟨⟨d++[y],r,by simp[hdr],?_,by simp[a0],by simp[a1],by simp[a7],by simp,rfl⟩,?_⟩
   .intro z hz
    rcases ybh.1 hz with hz|hz
    .exact hn z hz
    .simp at hz;subst hz;exact he
   .simp[MU,a8];omega
theorem zqj{x:Nat}{L:List (List UInt8)}{s:List UInt8}(hL:L.length<1000)(ho:J.objs x=some (L.map yc8))(h:R (.ret (.bool (decide (s∈L)))) J):zzQ G 239 [.slm x 0 1 L.length,.str s] J R:=by
 refine zyp rfl ?_
 simp[zHL]
 refine zy4 hL ho λn hn=>?_
 simp[hn]
 exact h
def SgI(s:List UInt8)(J:AS)(a:Nat->AV)(Z:AS):Prop:=∃i:Nat,i<=2/\(1<=i->zdp 1 s=none)/\(2<=i->zdp 2 s=none)/\a 0=.str s/\a 2=.ptr J.no 0/\a 10=.sl (.stat true) 1 [.int .i64 1,.int .i64 2]/\a 11=.int .i64 2/\a 12=.int .i64 (i:Int)/\zb J Z/\J.no<Z.no/\Z.objs J.no=some zbn.cs
theorem zy5(V:zb3 G){s:List UInt8}(hl:s.length<2^40)(h:∀J',zb J J'->R (.ret (.tuple [((zK zaG s).getD zbn).av,.bool (zK zaG s).isSome])) J'):zzQ G 208 [.str s] J R:=by
 refine zx9 rfl ?_
 simp[zHG]
 refine zy (SgI s J) (MU 12 3) ⟨0,by omega,by omega,by omega,by simp,by simp,by simp,by simp,by simp,(zb.refl J).newO,by simp,by simp[zbn,W.cs]⟩ λa Z hI=>?_
 obtain⟨i,hi,n1,n2,a0,a2,a10,a11,a12,hA,hno,ho⟩:=hI
 have done:∀w,zK zaG s=some w->∀J',zb J J'->R (.ret (.tuple [w.av,.bool true])) J':=λw e=>by
  rw[e]at h
  exact h
 by_cases hlt:i<2
 .obtain⟨t,ht⟩:∃t:Int,t=(i:Int)+1:=⟨_,rfl⟩
  have ht12:t=1\/t=2:=by omega
  have hlt':(i:Int)<2:=by omega
  have hg:([yc6 .i64 1,.int .i64 2]:List AV)[i]?=some (.int .i64 t):=by
   match i,hlt with
   | 0,_=>subst ht;rfl
   | 1,_=>subst ht;rfl
  have w1:yb4 .i64 ((i:Int)+1)=((i+1:Nat):Int):=by rw[wrap_i64]<;>omega
  have htl:(zr t).length=3:=by rcases ht12 with rfl|rfl<;>rfl
  have hnext:zdp t s=none->(1<=i+1->zdp 1 s=none)/\(2<=i+1->zdp 2 s=none):=λe=>by
   match i,hlt with
   | 0,_=>subst ht;exact⟨λ_=>e,λq=>by omega⟩
   | 1,_=>subst ht;exact⟨λ_=>n1 (by omega),λ_=>e⟩
  have hrow:∀w,zdp t s=some w->zK zaG s=some w:=λw e=>by
   rw[zoM]
   match i,hlt with
   | 0,_=>subst ht;rw[show(((0:Nat):Int)+1)=1 from rfl]at e;rw[e];rfl
   | 1,_=>subst ht;rw[show(((1:Nat):Int)+1)=2 from rfl]at e;rw[n1 (by omega),e];rfl
  simp[ziO,a0,a2,a10,a11,a12,hlt',hg]
  refine zgi ht12 ?_
  simp[htl]
  refine zh8 ?_
  have h4:(zr t++[46]).length=4:=by simp[htl]
  rw[h4]
  cases hp:zk8 (zr t++[46]) s with
  | false =>
   have hs:zdp t s=none:=by unfold zdp;rw[hp];rfl
   obtain⟨m1,m2⟩:=hnext hs
   simp[a0,a2,a10,a11,a12,w1]
   refine⟨⟨i+1,by omega,m1,m2,by simp[a0],by simp[a2],by simp[a10],by simp[a11],by simp,hA,hno,ho⟩,?_⟩
   simp[MU,a12];omega
  | true =>
   by_cases hz:s.drop 4=[101,113,122]
   .have hs:zdp t s=some (zJ5 t):=by unfold zdp;rw[if_pos hp,if_pos hz]
    have fin:=done _ (hrow _ hs)
    simp[a0,a2,a10,a11,a12,hz,ho,splice,zbn,W.cs]
    simp[W.av,W.cs,zJ5]at fin
    exact fin _ (hA.setO (yah _))
   .simp[a0,a2,a10,a11,a12,hz]
    refine Sg.fields_calls V.space λx J1 A1 hx0 hx1 hxo=>?_
    have hA1:=hA.trans A1
    have ho1:=(A1.obj _ hno).trans ho
    have hno1:J.no<J1.no:=yag hno A1.no
    simp
    refine zqj (L:=zaY) (by decide) hxo ?_
    by_cases hm:s.drop 4∈zaY
    .have hs:zdp t s=some (zJ6 t (s.drop 4)):=by unfold zdp;rw[if_pos hp,if_neg hz,if_pos (by simpa using hm)]
     have fin:=done _ (hrow _ hs)
     simp[a0,a2,a10,a11,a12,hm,ho1,splice,zbn,W.cs]
     simp[W.av,W.cs,zJ6]at fin
     exact fin _ (hA1.setO (yah _))
    .have hs:zdp t s=none:=by unfold zdp;rw[if_pos hp,if_neg hz,if_neg (by simpa using hm)]
     obtain⟨m1,m2⟩:=hnext hs
     simp[a0,a2,a10,a11,a12,hm,w1]
     refine⟨⟨i+1,by omega,m1,m2,by simp[a0],by simp[a2],by simp[a10],by simp[a11],by simp,hA1,hno1,ho1⟩,?_⟩
     simp[MU,a12];omega
 .have e2:i=2:=by omega
  subst e2
  have hrow:zK zaG s=zK zib s:=by rw[zoM,n1 (by omega),n2 (by omega),zuK];rfl
  simp[ziO,zrl,a0,a2,a10,a11,a12,splice,AV.plainV,AV.atom]
  refine(zoK zib s _).mpr ?_
  rw[hrow]at h
  have hnf:=hA.nf
  have hno2:=hA.no
  have key:∀w b,(zK zib s).getD zbn=w->(zK zib s).isSome=b->∀J',zb J J'->R (.ret (.tuple [w.av,.bool b])) J':=λw b e1 e2=>e1▸e2▸h
  have hAll:zb J Z:=hA
  have hne:¬J.no=Z.no:=by omega
  have cT:=(((((((((((hAll.newF.turn (f:=Z.nf) (by omega)).turn (f:=Z.nf+1) (by omega)).turn (f:=Z.nf+1+1) (by omega)).turn (f:=Z.nf+1+1+1) (by omega)).turn (f:=Z.nf+1+1+1+1) (by omega)).turn (f:=Z.nf+1+1+1+1+1) (by omega)).turn (f:=Z.nf+1+1+1+1+1+1) (by omega)).turn (f:=Z.nf+1+1+1+1+1+1+1) (by omega)).turn (f:=Z.nf+1+1+1+1+1+1+1+1) (by omega)).turn (f:=Z.nf+1+1+1+1+1+1+1+1+1) (by omega)).turn (f:=Z.nf+1+1+1+1+1+1+1+1+1+1) (by omega))
  cases hf:zK zib s with
  | none =>
   have:=key zbn false (by rw[hf];rfl) (by rw[hf];rfl)
   simp[W.av,W.cs,zbn]at this
   simp[splice,W.av,W.cs,zbn,ho,a2,hne]
   refine this _ ?_
   exact(cT.newO.setO hno2).setO (yah _)
  | some w =>
   have:=key w true (by rw[hf];rfl) (by rw[hf];rfl)
   simp[W.av,W.cs]at this
   simp[splice,W.av,W.cs,zbn,ho,a2,hne]
   refine this _ ?_
   exact(cT.newO.setO hno2).setO (yah _)
end
def LeT(s s':Ts):Prop:=s'.b.length<=s.b.length/\s'.ls.length+s'.b.length<=s.ls.length+s.b.length
theorem LeT.trans{a b c:Ts}(h:LeT a b)(k:LeT b c):LeT a c:=⟨yai k.1 h.1,yai k.2 h.2⟩
theorem LeT.refl(a:Ts):LeT a a:=⟨yah _,yah _⟩
theorem zdW{s s':Ts}{t:List UInt8}(h:zaj s=.ok (t,s')):LeT s s':=by
 obtain⟨h1,_,h3⟩:=zco h
 exact⟨by omega,by rw[h3];omega⟩
theorem zy6{t:List UInt8}{s s':Ts}{w:W}(h:zbA t s=.ok (w,s')):LeT s s':=by
 unfold zbA at h
 split at h
 .obtain⟨p,h1,h2⟩:=map_some h
  cases h2
  unfold zR at h1
  obtain⟨q,h3,h4⟩:=bind_some h1
  obtain⟨n,_,h5⟩:=map_some h4
  cases h5
  exact zdW h3
 .split at h
  .cases h;exact .refl _
  .cases h
theorem zsR{rec:zDN}(hr:∀d o s r s',rec d o s=.ok (r,s')->LeT s s'){op:Int}{d:Nat}{s s':Ts}{w:W}(h:zad rec op d s=.ok (w,s')):LeT s s':=by
 unfold zad at h
 split at h
 .cases h
 .obtain⟨p,h1,h2⟩:=bind_some h
  have l1:=hr _ _ _ _ _ h1
  split at h2
  .split at h2
   .obtain⟨q,h3,h4⟩:=map_some h2
    cases h4
    exact l1.trans (hr _ _ _ _ _ h3)
   .cases h2;exact l1
  .cases h2;exact l1
theorem zkd{rec:zDN}(hr:∀d o s r s',rec d o s=.ok (r,s')->LeT s s'){t:List UInt8}{d:Nat}{s s':Ts}{w:W}(h:zaI rec t d s=.ok (w,s')):LeT s s':=by
 unfold zaI at h
 split at h
 .exact zy6 h
 .exact zsR hr h
theorem zdX:∀(k d:Nat) (o:Bool) (l:List W) (s:Ts) (r:Int × List UInt8) (s':Ts),zw k d o l s=.ok (r,s')->LeT s s'
 | 0,_,_,_,_,_,_,h=>by cases h
 | k+1,d,o,l,s,r,s',h=>by
  rw[zw]at h
  obtain⟨p,h1,h2⟩:=bind_some h
  obtain⟨q1,q2,q3⟩:=zco h1
  have ht:1<=p.1.length:=ybm.2 q2
  split at h2
  .cases h2
   refine⟨by simp only;omega,?_⟩
   simp only[yab,yac,ybl]
   rw[q3]
   omega
  .obtain⟨q,h3,h4⟩:=bind_some h2
   exact(zdW h1).trans ((zkd (λd o s r s'=>zdX k d o [] s r s') h3).trans (zdX k d o _ _ _ _ h4))
def zBN:List (List UInt8):=[zcF,zfH,tIf]
theorem zuL(t:List UInt8)(K:AV->Prop):zb7 yb9 242 (.mp (zpm zBN) [.int .i64 11,.int .i64 12,.int .i64 13]) (.str t) false K=K (.int .i64 (zag t)):=by
 have hz:zO yb9 3=some (.int .i64 0):=by kernel_rfl
 simp only[zb7,zBM,zrA,zeR,true_and,hz,zBN,ydF,List.findIdx?_nil]
 unfold zag
 by_cases h1:t=zcF
 .subst h1
  simp
 .have h1':(zcF==t)=false:=beq_eq_false_iff_ne.2 λe=>h1 e.symm
  by_cases h2:t=zfH
  .subst h2
   simp[h1,h1']
  .have h2':(zfH==t)=false:=beq_eq_false_iff_ne.2 λe=>h2 e.symm
   by_cases h3:t=tIf
   .subst h3
    simp[h1,h1',h2,h2']
   .have h3':(tIf==t)=false:=beq_eq_false_iff_ne.2 λe=>h3 e.symm
    simp[h1,h1',h2,h2',h3,h3']
def zgj(d:Nat)(o:Bool):List (List UInt8):=if d=0 then [zd]else if o=true then [zbE,zaX]else [zbE]
theorem zuM{d:Nat}{o:Bool}(h:o=true->0<d)(t:List UInt8):t∈zgj d o↔zcS d o t=true:=by
 unfold zgj zcS
 by_cases hd:d=0
 .have ho:o=false:=by
   cases o with
   | false=>rfl
   | true=>have:=h rfl;omega
  subst ho
  simp[hd]
 .have:0<d:=by omega
  cases o<;>simp[hd,this]
def zm8(G:Env)(base x k:Nat):Prop:=∀(J:AS) (R:Out->AS->Prop) (s:Ts) (d:Nat) (o:Bool),Wr base x s J->s.b.length<k->s.ls.length+s.b.length<=2^38->d<=400->(o=true->0<d)->(∀e,zw k d o [] s=.error e->zdd R x J e) ->
 (∀n t s',zw k d o [] s=.ok ((n,t),s')->∀J',Wr base x s' J'->zat x J J'->R (.ret (.tuple [.int .i64 n,.str t])) J')->zzQ G 119 [.ptr x 0,.int .i64 (d:Int),.sl (.stat true) 1 ((zgj d o).map yc8)] J R
section
variable {G : Env} {J : AS} {R : Out -> AS -> Prop}
theorem zy7{base x s}{k d:Nat}{op:Int}(h:Wr base x s J)(hop:op=11\/op=12\/op=13)(hd:1<=d)(hd4:d<=401)(IH:∀j,j<=k->zm8 G base x j)(hk:s.b.length<k)(hz:s.ls.length+s.b.length<=2^38)
  (hn:∀e,zad (λd o s=>zw k d o [] s) op d s=.error e->zdd R x J e) (hs:∀w s',zad (λd o s=>zw k d o [] s) op d s=.ok (w,s')->∀J',Wr base x s' J'->zat x J J'->R (.ret w.av) J'):zzQ G 207 [.ptr x 0,.int .i64 op,.int .i64 (d:Int)] J R:=by
 refine zx8 rfl ?_
 obtain⟨cs0,hcs0⟩:=h.isSome
 have hx:=h.hx
 by_cases h4:400<d
 .have h4':¬(d:Int)<=400:=by omega
  have he:zad (λd o s=>zw k d o [] s) op d s=.error 3:=by unfold zad;rw[if_pos h4]
  simp[zDJ,h4']
  refine zau (λq=>by cases q) (λ_=>?_)
  simp
  exact hn 3 he _ ((zb.refl J).newO.keepR hx)
 .have h4':(d:Int)<=400:=by omega
  have he:zad (λd o s=>zw k d o [] s) op d s=(zw k d (decide (op=13)) [] s).bind λp =>
    if op=13 then(if p.1.2=zaX then(zw k d false [] p.2).map λq=>({ op:=13,ty:=0,n:=0,body:=p.1.1,other:=q.1.1,name:=[] },q.2)
     else .ok ({ op:=13,ty:=0,n:=0,body:=p.1.1,other:=-1,name:=[] },p.2))
    else .ok ({ op:=op,ty:=0,n:=0,body:=p.1.1,other:=0,name:=[] },p.2):=by unfold zad;rw[if_neg h4]
  simp[zDJ,h4']
  refine zau (λ_=>?_) (λq=>by cases q)
  simp[splice]
  have hno1:(((J.newO [yc6 .i64 0,.int .i64 0,.int .i64 0,.int .i64 0,.int .i64 0,.str []]).newO [yc6 .i64 0,.int .i64 0,.int .i64 0,.int .i64 0,.int .i64 0,.str []]).setO (J.no+1) [yc6 .i64 op,.int .i64 0,.int .i64 0,.int .i64 0,.int .i64 0,.str []]).no=J.no+2:=by simp
  have A1:zb J (((J.newO [yc6 .i64 0,.int .i64 0,.int .i64 0,.int .i64 0,.int .i64 0,.str []]).newO [yc6 .i64 0,.int .i64 0,.int .i64 0,.int .i64 0,.int .i64 0,.str []]).setO (J.no+1) [yc6 .i64 op,.int .i64 0,.int .i64 0,.int .i64 0,.int .i64 0,.str []]):=(zb.refl J).newO.newO.setO (by omega)
  have o0:(((J.newO [yc6 .i64 0,.int .i64 0,.int .i64 0,.int .i64 0,.int .i64 0,.str []]).newO [yc6 .i64 0,.int .i64 0,.int .i64 0,.int .i64 0,.int .i64 0,.str []]).setO (J.no+1) [yc6 .i64 op,.int .i64 0,.int .i64 0,.int .i64 0,.int .i64 0,.str []]).objs J.no=some [.int .i64 0,.int .i64 0,.int .i64 0,.int .i64 0,.int .i64 0,.str []]:=by simp
  have o1:(((J.newO [yc6 .i64 0,.int .i64 0,.int .i64 0,.int .i64 0,.int .i64 0,.str []]).newO [yc6 .i64 0,.int .i64 0,.int .i64 0,.int .i64 0,.int .i64 0,.str []]).setO (J.no+1) [yc6 .i64 op,.int .i64 0,.int .i64 0,.int .i64 0,.int .i64 0,.str []]).objs (J.no+1)=some [.int .i64 op,.int .i64 0,.int .i64 0,.int .i64 0,.int .i64 0,.str []]:=by simp
  generalize hJ1:((J.newO [yc6 .i64 0,.int .i64 0,.int .i64 0,.int .i64 0,.int .i64 0,.str []]).newO [yc6 .i64 0,.int .i64 0,.int .i64 0,.int .i64 0,.int .i64 0,.str []]).setO (J.no+1) [yc6 .i64 op,.int .i64 0,.int .i64 0,.int .i64 0,.int .i64 0,.str []]=J1 at *
  have hW1:=h.adds A1
  have K1:=A1.keepR hx
  have hx0:¬x=J.no:=by omega
  have hx1:¬x=J.no+1:=by omega
  have hx0':J.no≠x:=by omega
  have hx1':J.no+1≠x:=by omega
  have fin:∀(w:W) (s':Ts) (J':AS),zad (λd o s=>zw k d o [] s) op d s=.ok (w,s')->Wr base x s' J'->zat x J1 J'->∀c1 c2,R (.ret w.av) ((J'.setO (J.no+1) c1).setO J.no c2):=λw s' J' q hW hK c1 c2 =>
   hs w s' q _ ((hW.setO hx1').setO hx0') (((K1.trans hK).setO (by omega) hx1').setO (yah _) hx0')
  by_cases h13:op=13
  .subst h13
   simp only[if_true,decide_true]at he
   simp
   rw[hJ1]
   have hl1:=IH k (yah _) J1
   have e1:zgj d true=[zbE,zaX]:=by unfold zgj;rw[if_neg (by omega),if_pos rfl]
   have e2:zgj d false=[zbE]:=by unfold zgj;rw[if_neg (by omega),if_neg (by simp)]
   have go1:∀R',(∀e,zw k d true [] s=.error e->zdd R' x J1 e)->(∀n t s',zw k d true [] s=.ok ((n,t),s')->∀J',Wr base x s' J'->zat x J1 J'->R' (.ret (.tuple [.int .i64 n,.str t])) J')->zzQ G 119 [.ptr x 0,.int .i64 (d:Int),.sl (.stat true) 1 [.str [101,110,100],.str [101,108,115,101]]] J1 R':=λR' a b=>by
    have:=IH k (yah _) J1 R' s d true hW1 hk hz (by omega) (λ_=>by omega) a b
    rw[e1]at this
    exact this
   refine go1 _ (λe q=>?_) (λn t s2 q J2 hW2 hK2=>?_)
   .intro J' K
    simp
    exact hn e (by rw[he,q];rfl) _ (K1.trans K)
   .rw[q]at he
    simp only[Except.bind]at he
    have hle:=zdX _ _ _ _ _ _ _ q
    have o0':=(hK2.obj J.no (by omega) hx0').trans o0
    have o1':=(hK2.obj (J.no+1) (by omega) hx1').trans o1
    by_cases ht:t=zaX
    .have ht':t=[101,108,115,101]:=ht
     rw[if_pos ht]at he
     simp[o1',splice,ht']
     have hW2':Wr base x s2 ((J2.setO (J.no+1) [yc6 .i64 13,.int .i64 0,.int .i64 0,.int .i64 n,.int .i64 0,.str []]).setO (J.no+1) [yc6 .i64 13,.int .i64 0,.int .i64 0,.int .i64 n,.int .i64 (-1),.str []]):=(hW2.setO hx1').setO hx1'
     have hK2':zat x J ((J2.setO (J.no+1) [yc6 .i64 13,.int .i64 0,.int .i64 0,.int .i64 n,.int .i64 0,.str []]).setO (J.no+1) [yc6 .i64 13,.int .i64 0,.int .i64 0,.int .i64 n,.int .i64 (-1),.str []]):=((K1.trans hK2).setO (by omega) hx1').setO (by omega) hx1'
     have p0:((J2.setO (J.no+1) [yc6 .i64 13,.int .i64 0,.int .i64 0,.int .i64 n,.int .i64 0,.str []]).setO (J.no+1) [yc6 .i64 13,.int .i64 0,.int .i64 0,.int .i64 n,.int .i64 (-1),.str []]).objs J.no=some [.int .i64 0,.int .i64 0,.int .i64 0,.int .i64 0,.int .i64 0,.str []]:=by simp[o0']
     have p1:((J2.setO (J.no+1) [yc6 .i64 13,.int .i64 0,.int .i64 0,.int .i64 n,.int .i64 0,.str []]).setO (J.no+1) [yc6 .i64 13,.int .i64 0,.int .i64 0,.int .i64 n,.int .i64 (-1),.str []]).objs (J.no+1)=some [.int .i64 13,.int .i64 0,.int .i64 0,.int .i64 n,.int .i64 (-1),.str []]:=by simp
     have pn:J.no+2<=((J2.setO (J.no+1) [yc6 .i64 13,.int .i64 0,.int .i64 0,.int .i64 n,.int .i64 0,.str []]).setO (J.no+1) [yc6 .i64 13,.int .i64 0,.int .i64 0,.int .i64 n,.int .i64 (-1),.str []]).no:=by have:=hK2.no;simp;omega
     generalize (J2.setO (J.no+1) [yc6 .i64 13,.int .i64 0,.int .i64 0,.int .i64 n,.int .i64 0,.str []]).setO (J.no+1) [yc6 .i64 13,.int .i64 0,.int .i64 0,.int .i64 n,.int .i64 (-1),.str []]=J3 at *
     have go2:∀R',(∀e,zw k d false [] s2=.error e->zdd R' x J3 e)->(∀n t s',zw k d false [] s2=.ok ((n,t),s')->∀J',Wr base x s' J'->zat x J3 J'->R' (.ret (.tuple [.int .i64 n,.str t])) J')->zzQ G 119 [.ptr x 0,.int .i64 (d:Int),.sl (.stat true) 1 [.str [101,110,100]]] J3 R':=λR' a b=>by
      have:=IH k (yah _) J3 R' s2 d false hW2' (ydN hle.1 hk) (yai hle.2 hz) (by omega) (λq=>by cases q) a b
      rw[e2]at this
      exact this
     refine go2 _ (λe q2=>?_) (λn2 t2 s4 q2 J4 hW4 hK4=>?_)
     .intro J' K
      simp
      exact hn e (by rw[he,q2];rfl) _ (hK2'.trans K)
     .rw[q2]at he
      have r0:=(hK4.obj J.no (by omega) hx0').trans p0
      have r1:=(hK4.obj (J.no+1) (by omega) hx1').trans p1
      simp[r0,r1,splice]
      have:=hs _ s4 he _ ((hW4.setO (cs:=[yc6 .i64 13,.int .i64 0,.int .i64 0,.int .i64 n,.int .i64 n2,.str []]) hx1').setO (cs:=[yc6 .i64 13,.int .i64 0,.int .i64 0,.int .i64 n,.int .i64 n2,.str []]) hx0') (((hK2'.trans hK4).setO (by omega) hx1').setO (yah _) hx0')
      simp[W.av,W.cs]at this
      exact this
    .have ht':¬t=[101,108,115,101]:=ht
     rw[if_neg ht]at he
     simp[o1',o0',splice,ht']
     have:=hs _ s2 he _ (((hW2.setO (cs:=[yc6 .i64 13,.int .i64 0,.int .i64 0,.int .i64 n,.int .i64 0,.str []]) hx1').setO (cs:=[yc6 .i64 13,.int .i64 0,.int .i64 0,.int .i64 n,.int .i64 (-1),.str []]) hx1').setO (cs:=[yc6 .i64 13,.int .i64 0,.int .i64 0,.int .i64 n,.int .i64 (-1),.str []]) hx0') ((((K1.trans hK2).setO (by omega) hx1').setO (by omega) hx1').setO (yah _) hx0')
     simp[W.av,W.cs]at this
     exact this
  .simp only[h13,if_false,decide_false]at he
   simp[h13]
   rw[hJ1]
   have e2:zgj d false=[zbE]:=by unfold zgj;rw[if_neg (by omega),if_neg (by simp)]
   have go2:∀R',(∀e,zw k d false [] s=.error e->zdd R' x J1 e)->(∀n t s',zw k d false [] s=.ok ((n,t),s')->∀J',Wr base x s' J'->zat x J1 J'->R' (.ret (.tuple [.int .i64 n,.str t])) J')->zzQ G 119 [.ptr x 0,.int .i64 (d:Int),.sl (.stat true) 1 [.str [101,110,100]]] J1 R':=λR' a b=>by
    have:=IH k (yah _) J1 R' s d false hW1 hk hz (by omega) (λq=>by cases q) a b
    rw[e2]at this
    exact this
   refine go2 _ (λe q=>?_) (λn t s2 q J2 hW2 hK2=>?_)
   .intro J' K
    simp
    exact hn e (by rw[he,q];rfl) _ (K1.trans K)
   .rw[q]at he
    have o0':=(hK2.obj J.no (by omega) hx0').trans o0
    have o1':=(hK2.obj (J.no+1) (by omega) hx1').trans o1
    simp[o1',o0',splice]
    have:=fin _ s2 J2 he hW2 hK2 [yc6 .i64 op,.int .i64 0,.int .i64 0,.int .i64 n,.int .i64 0,.str []] [yc6 .i64 op,.int .i64 0,.int .i64 0,.int .i64 n,.int .i64 0,.str []]
    simp[W.av,W.cs]at this
    exact this
theorem zD7(V:zb3 G){base x s}{k d:Nat}{t:List UInt8}(h:Wr base x s J)(htl:t.length<2^40)(hd4:d<=400)(IH:∀j,j<=k->zm8 G base x j)(hk:s.b.length<k)(hz:s.ls.length+s.b.length<=2^38)
  (hn:∀e,zaI (λd o s=>zw k d o [] s) t d s=.error e->zdd R x J e) (hs:∀w s',zaI (λd o s=>zw k d o [] s) t d s=.ok (w,s')->∀J',Wr base x s' J'->zat x J J'->R (.ret w.av) J'):zzQ G 171 [.ptr x 0,.str t,.int .i64 (d:Int)] J R:=by
 refine zxN rfl ?_
 have hx:=h.hx
 simp[zHv,AV.plainV,AV.atom]
 refine(zuL t _).mpr ?_
 have A1:zb J ((((J.newO [yc6 .i64 0,.int .i64 0,.int .i64 0,.int .i64 0,.int .i64 0,.str []]).newF.turn J.nf).turn (J.nf+1)).turn (J.nf+1+1)):=(((zb.refl J).newO.newF.turn (by omega)).turn (by omega)).turn (by omega)
 have hno1:((((J.newO [yc6 .i64 0,.int .i64 0,.int .i64 0,.int .i64 0,.int .i64 0,.str []]).newF.turn J.nf).turn (J.nf+1)).turn (J.nf+1+1)).no=J.no+1:=by simp
 have o1:((((J.newO [yc6 .i64 0,.int .i64 0,.int .i64 0,.int .i64 0,.int .i64 0,.str []]).newF.turn J.nf).turn (J.nf+1)).turn (J.nf+1+1)).objs J.no=some [.int .i64 0,.int .i64 0,.int .i64 0,.int .i64 0,.int .i64 0,.str []]:=by simp
 generalize hJ1:(((J.newO [yc6 .i64 0,.int .i64 0,.int .i64 0,.int .i64 0,.int .i64 0,.str []]).newF.turn J.nf).turn (J.nf+1)).turn (J.nf+1+1)=J1 at *
 have hW1:=h.adds A1
 have K1:=A1.keepR hx
 have hx0:¬x=J.no:=by omega
 have hx0':J.no≠x:=by omega
 by_cases ho:zag t=0
 .have he:zaI (λd o s=>zw k d o [] s) t d s=zbA t s:=by unfold zaI;rw[if_pos ho]
  simp[ho]
  refine zlK λJ2 A2=>?_
  have K12:=K1.trans (A2.keepR hW1.hx)
  have hW2:=hW1.adds A2
  have hn2:=A2.no
  have o2:=(A2.obj J.no (by omega)).trans o1
  cases hf:zK zaA t with
  | some w =>
   have hl:zbA t s=(zR s).map λp=>({ w with n:=p.1 },p.2):=by unfold zbA;rw[hf]
   simp[W.av,W.cs,splice]
   have A3:zb J2 ((J2.newO [yc6 .i64 0,yc6 .i64 0,yc6 .i64 0,yc6 .i64 0,yc6 .i64 0,yc8 []]).setO J2.no [yc6 .i64 w.op,yc6 .i64 w.ty,yc6 .i64 w.n,yc6 .i64 w.body,yc6 .i64 w.other,yc8 w.name]):=(zb.refl _).newO.setO (by omega)
   have hx2:J2.no≠x:=by omega
   have o3:((J2.newO [yc6 .i64 0,yc6 .i64 0,yc6 .i64 0,yc6 .i64 0,yc6 .i64 0,yc8 []]).setO J2.no [yc6 .i64 w.op,yc6 .i64 w.ty,yc6 .i64 w.n,yc6 .i64 w.body,yc6 .i64 w.other,yc8 w.name]).objs J2.no=some [yc6 .i64 w.op,yc6 .i64 w.ty,yc6 .i64 w.n,yc6 .i64 w.body,yc6 .i64 w.other,yc8 w.name]:=by simp
   have n3:J2.no<((J2.newO [yc6 .i64 0,yc6 .i64 0,yc6 .i64 0,yc6 .i64 0,yc6 .i64 0,yc8 []]).setO J2.no [yc6 .i64 w.op,yc6 .i64 w.ty,yc6 .i64 w.n,yc6 .i64 w.body,yc6 .i64 w.other,yc8 w.name]).no:=by simp
   generalize (J2.newO [yc6 .i64 0,yc6 .i64 0,yc6 .i64 0,yc6 .i64 0,yc6 .i64 0,yc8 []]).setO J2.no [yc6 .i64 w.op,yc6 .i64 w.ty,yc6 .i64 w.n,yc6 .i64 w.body,yc6 .i64 w.other,yc8 w.name]=J3 at *
   have K13:=K12.trans (A3.keepR hW2.hx)
   refine zm7 V (hW2.adds A3) (λe q=>?_) (λn s' q r1 r2 J4 hW4 K4=>?_)
   .intro J' K
    simp
    exact hn e (by rw[he,hl,q];rfl) _ (K13.trans K)
   .have o4:=(K4.r.obj J2.no n3 hx2).trans o3
    have hne:¬J.no=J2.no:=by omega
    have o5:=(K4.r.obj J.no (by omega) hx0').trans ((A3.obj J.no (by omega)).trans o2)
    have:=hs _ s' (by rw[he,hl,q];rfl) _ ((hW4.setO (cs:=[yc6 .i64 w.op,yc6 .i64 w.ty,yc6 .i64 n,yc6 .i64 w.body,yc6 .i64 w.other,yc8 w.name]) hx2).setO (cs:=[yc6 .i64 w.op,yc6 .i64 w.ty,yc6 .i64 n,yc6 .i64 w.body,yc6 .i64 w.other,yc8 w.name]) hx0') (((K13.trans K4.r).setO (by omega) hx2).setO (yah _) hx0')
    simp[W.av,W.cs]at this
    simp[o4,o5,hne,splice]
    exact this
  | none =>
   simp[W.av,W.cs,splice,zbn]
   have A3:zb J2 ((J2.newO [yc6 .i64 0,yc6 .i64 0,yc6 .i64 0,yc6 .i64 0,yc6 .i64 0,yc8 []]).setO J2.no [yc6 .i64 0,yc6 .i64 0,yc6 .i64 0,yc6 .i64 0,yc6 .i64 0,yc8 []]):=(zb.refl _).newO.setO (by omega)
   generalize (J2.newO [yc6 .i64 0,yc6 .i64 0,yc6 .i64 0,yc6 .i64 0,yc6 .i64 0,yc8 []]).setO J2.no [yc6 .i64 0,yc6 .i64 0,yc6 .i64 0,yc6 .i64 0,yc6 .i64 0,yc8 []]=J3 at *
   refine zy5 V htl λJ4 A4=>?_
   have hW3:=hW2.adds A3
   have hW4:=hW3.adds A4
   have K14:=(K12.trans (A3.keepR hW2.hx)).trans (A4.keepR hW3.hx)
   have o4:=(A4.obj J.no (by have:=A3.no;omega)).trans ((A3.obj J.no (by omega)).trans o2)
   have n4:=A3.no
   have n5:=A4.no
   cases hr:zK zaG t with
   | some w =>
    have hl:zbA t s=.ok (w,s):=zaU hf hr s
    simp[W.av,W.cs,splice,o4]
    refine zau (λ_=>?_) (λq=>by simp at q)
    have hx4:J4.no≠x:=by omega
    have:=hs w s (by rw[he,hl]) _ (((hW4.adds ((zb.refl J4).newO (cs:=[yc6 .i64 0,yc6 .i64 0,yc6 .i64 0,yc6 .i64 0,yc6 .i64 0,yc8 []]))).setO (cs:=w.cs) hx4).setO (cs:=w.cs) hx0') (((K14.trans (((zb.refl J4).newO (cs:=[yc6 .i64 0,yc6 .i64 0,yc6 .i64 0,yc6 .i64 0,yc6 .i64 0,yc8 []])).keepR hW4.hx)).setO (by omega) hx4).setO (yah _) hx0')
    simp[W.av,W.cs]at this
    have hne:¬J.no=J4.no:=by omega
    simp[splice,o4,hne]
    exact this
   | none =>
    have hl:zbA t s=.error 2:=by unfold zbA;rw[hf,hr]
    simp[W.av,W.cs,splice,zbn,o4]
    refine zau (λq=>by simp at q) (λ_=>?_)
    simp
    exact hn 2 (by rw[he,hl]) _ (K14.trans (zb.keepR ((zb.refl J4).newO.setO (yah _)) hW4.hx))
 .have he:zaI (λd o s=>zw k d o [] s) t d s=zad (λd o s=>zw k d o [] s) (zag t) (d+1) s:=by unfold zaI;rw[if_neg ho]
  have hop:=(zry t).resolve_left ho
  have w1:yb4 .i64 ((d:Int)+1)=((d+1:Nat):Int):=by rw[wrap_i64]<;>omega
  simp[ho,w1]
  refine zy7 (d:=d+1) hW1 hop (by omega) (by omega) IH hk hz (λe q=>?_) (λw s' q J' hW' hK'=>?_)
  .intro J' K
   simp
   exact hn e (by rw[he,q]) _ (K1.trans K)
  .have o2:=(hK'.obj J.no (by omega) hx0').trans o1
   have:=hs w s' (by rw[he,q]) _ (hW'.setO (cs:=w.cs) hx0') ((K1.trans hK').setO (yah _) hx0')
   simp[o2,W.av,W.cs,splice]
   simp[W.av,W.cs]at this
   exact this
theorem Wr.push{base x s Z g tos lv l}(h:Wr base x s Z)(ht:All2 Al.RepE tos s.ls)(hG:zk7 J x 6 Z lv (l.map W.av))(hσ:base<=J.nf){Z':AS}(e1:Z'.objs=upd Z.objs x (some [.str s.b,.sl (.fam Z.nf false) 1 (tos++[lv])]))(e2:Z'.no=Z.no)(e3:Z'.nf=Z.nf+1)(e4:Z'.F Z.nf=.alive)
  (e5:∀f,f<Z.nf->¬zcW Z x f->Z'.F f=Z.F f) (K:zat x J Z) (hg:∀f,zcW Z x f->f=g) {v:AV} (hmv:∀f,Go.Abs.mrg f v=v) (hR:∀J',Wr base x { s with ls:=s.ls++[l] } J'->zat x J J'->R (.ret v) J'):Al.MrgOr R (.ret v) Z':=by
 have hb:=h.hb
 have hn:=K.nf
 have base0:∀J':AS,J'.no=Z.no->J'.nf=Z.nf+1->(∀o,o≠x->J'.objs o=Z.objs o)->(∃tos',J'.objs x=some [.str s.b,.sl (.fam Z.nf false) 1 tos']/\All2 Al.RepE tos' (s.ls++[l]))->J'.F Z.nf=.alive ->
   (∀f,f<Z.nf->¬zcW Z x f->f<J.nf\/f<base->J'.F f=Z.F f)->R (.ret v) J':=by
  intro J' a1 a2 a3 ⟨tos',a4,a6⟩ a7 a8
  have nb:∀f,f<base->¬zcW Z x f:=λf hf=>h.uses hf
  refine hR J' ⟨by rw[a1];exact h.hx,⟨hb.1,by omega⟩,?_,h.ok,h.len,_,a4,.inr ⟨Z.nf,tos',rfl,hb.2,by omega,a7,a6⟩⟩ ⟨by rw[a1];exact K.no,by omega,λo h1 h2=>(a3 o h2).trans (K.obj o h1 h2),λf h1 h2=>?_,λf h1 h2=>?_⟩
  .rw[a8 0 (by omega) (nb 0 hb.1) (.inr hb.1)];exact h.h0
  .have hu:¬zcW Z x f:=λu=>h2 (K.use f h1 u)
   rw[a8 f (by omega) hu (.inl h1)]
   exact K.fam f h1 h2
  .obtain⟨cs,v,q1,q2,q3⟩:=h2
   rw[a4]at q1
   cases q1
   simp at q2
   subst q2
   simp[zcJ]at q3
   omega
 rcases hG with ⟨h1,rfl⟩|⟨f,rfl,h2,h3,h4,h5⟩
 .have hl:l=[]:=by simpa using h1
  subst hl
  exact .inl (base0 Z' e2 e3 (λo ho=>by rw[e1];simp[ho]) ⟨tos++[.nilsl],by rw[e1];simp,ht.append (.cons (.inl ⟨rfl,rfl⟩) .nil)⟩ e4 (λf q1 q2 _=>e5 f q1 q2))
 .refine Al.MrgOr.merged f (λo=>o==x) (by omega) (by rw[e5 f h3 h5];exact h4) ?_
  rw[hmv]
  refine base0 _ e2 e3 (λo ho=>by simp[AS.mrg,e1,ho]) ⟨tos++[.sl (.fam 0 false) 6 (l.map W.av)],?_,ht.append (.cons (.inr ⟨_,rfl⟩) .nil)⟩ ?_ (λf' q1 q2 q3=>?_)
  .have:¬Z.nf=f:=by omega
   simp[AS.mrg,e1,Al.mrg_rows ht,this,Function.comp_def,Al.mrg_W]
  .have:¬Z.nf=f:=by omega
   simp[AS.mrg,zkJ,this,e4]
  .have:¬f'=f:=by omega
   simp only[AS.mrg,zkJ,zeD,this,if_false]
   exact e5 f' q1 q2
def LsW(base x d k0:Nat)(o:Bool)(s0:Ts)(J:AS)(a:Nat->AV)(Z:AS):Prop:=∃(k:Nat) (l:List W) (s:Ts),zw k0 d o [] s0=zw k d o l s/\k<=k0/\s.b.length<k/\l.length+s.b.length<=2^38/\s.ls.length+s.b.length<=2^38/\a 0=.ptr x 0/\a 1=.int .i64 (d:Int)/\a 2=.sl (.stat true) 1 ((zgj d o).map yc8)/\zk7 J x 6 Z (a 8) (l.map W.av)/\Wr base x s Z/\zat x J Z
def EnI(L:List (List UInt8))(t:List UInt8)(x d:Nat)(v8:AV)(Z2:AS)(a:Nat->AV)(Z:AS):Prop:=∃i,i<=L.length/\(∀j,j<i->L[j]?≠some t)/\Z=Z2/\a 0=.ptr x 0/\a 1=.int .i64 (d:Int)/\a 2=.sl (.stat true) 1 (L.map yc8)/\a 8=v8/\a 9=.str t/\a 14=.sl (.stat true) 1 (L.map yc8)/\a 15=.int .i64 (L.length:Int)/\a 16=.int .i64 (i:Int)
theorem zuN(d:Nat)(o:Bool):(zgj d o).length<=2:=by
 unfold zgj
 split
 .simp
 .split<;>simp
theorem zsS(V:zb3 G){base x s0}{k0 d:Nat}{o:Bool}(ho0:o=true->0<d)(hd:d<=400)(hσ:base<=J.nf)(IH:∀j,j<k0->zm8 G base x j)(hn:∀e,zw k0 d o [] s0=.error e->zdd R x J e)(hs:∀n t s',zw k0 d o [] s0=.ok ((n,t),s')->∀J',Wr base x s' J'->zat x J J'->R (.ret (.tuple [.int .i64 n,.str t])) J')
  {a:Nat->AV} {Z:AS} (hI:LsW base x d k0 o s0 J a Z):avc yb9 G 48 zmE (zan (λa' J'=>LsW base x d k0 o s0 J a' J'/\MBt x a' J'<MBt x a Z) (zai 0 (zcq yb9 [.tmp 6,.tmp 7] (Al.MrgOr R)))) a Z:=by
 obtain⟨k,l,s,he,hk,hkb,hlb,hsb,a0,a1,a2,hG,hR,hK⟩:=hI
 have hmb:=zfS hR a
 have hl36:=hR.len
 obtain⟨k,rfl⟩:∃j,k=j+1:=⟨k-1,by omega⟩
 rw[zw]at he
 have hEl:=zuN d o
 have hmem:=zuM ho0
 simp[zmE,a0]
 refine zlJ hR (λq=>?_) (λt s1 q J1 hr1 hk1=>?_)
 .intro J' h1
  exact .inl (hn 2 (by rw[he,q];rfl) J' (hK.trans h1))
 .obtain⟨q1,q2,q3⟩:=zco q
  rw[q]at he
  simp only[Except.bind]at he
  have hK1:=hK.trans hk1.r
  have hG1:=hG.keep hk1.r
  have hmb1:=zfS hr1 a
  have ht0:1<=t.length:=ybm.2 q2
  simp[a2]
  refine zy (EnI (zgj d o) t x d (a 8) J1) (MU 16 3) ⟨0,by simp,by simp,rfl,by simp[a0],by simp[a1],by simp[a2],by simp,by simp,by simp,by simp,by simp⟩ λb Z2 hE=>?_
  obtain⟨i,hi,hno,rfl,b0,b1,b2,b8,b9,b14,b15,b16⟩:=hE
  generalize hL:zgj d o=L at *
  by_cases hlt:i<L.length
  .obtain⟨w,hw⟩:∃w,L[i]=w:=⟨L[i],rfl⟩
   have hw2:L[i]?=some w:=by rw[<-hw];simp[hlt]
   have wi:yb4 .i64 ((i:Int)+1)=((i+1:Nat):Int):=by rw[wrap_i64]<;>omega
   by_cases ht:t=w
   .subst ht
    have hin:t∈L:=ydb hw2
    rw[if_pos ((hmem t).1 hin)]at he
    obtain⟨lv,ho,hlv⟩:=hr1.cells
    have l1:=hlv.one
    have g1:=hG1.one
    have wl:yb4 .i64 (s1.ls.length:Int)=(s1.ls.length:Int):=by rw[wrap_i64]<;>(rw[q3];omega)
    have hlen:s1.ls.length<=2^38:=by rw[q3];omega
    have fin:∀Z':AS,∀tos g,All2 Al.RepE tos s1.ls->(∀f,zcW Z2 x f->f=g)->Z'.objs=upd Z2.objs x (some [.str s1.b,.sl (.fam Z2.nf false) 1 (tos++[a 8])])->Z'.no=Z2.no->Z'.nf=Z2.nf+1->Z'.F Z2.nf=.alive->(∀f,f<Z2.nf->¬zcW Z2 x f->Z'.F f=Z2.F f) ->
      Al.MrgOr R (.ret (.tuple [.int .i64 (s1.ls.length:Int),.str t])) Z':=λZ' tos g t1 t2 t3 t4 t5 t6 t7 =>
     Wr.push hr1 t1 hG1 hσ t3 t4 t5 t6 t7 hK1 t2 (by intro f;simp) λJ' r1 r2=>hs _ _ _ he J' r1 r2
    rcases hlv with ⟨hl0,rfl⟩|⟨g,tos,rfl,t1,t2,t3,t4⟩
    .have wl':yb4 .i64 0=0:=rfl
     have key:=fin ((Z2.newF).setO x [.str s1.b,.sl (.fam Z2.nf false) 1 ([]++[a 8])]) [] 0 (by rw[hl0];exact .nil) (λf ⟨cs,v,u1,u2,u3⟩=>by rw[ho]at u1;cases u1;simp at u2;subst u2;cases u3) (by simp) (by simp) (by simp) (by simp) (λf h1 h2=>by
      have:¬f=Z2.nf:=by omega
      simp[this])
     rw[hl0]at key
     simp[zdK,b0,b1,b2,b8,b9,b14,b15,b16,hlt,hw,ho,g1,splice,wl']
     simpa using key
    .have tl:=t4.length
     have key:=fin (((Z2.setF g .dead).newF).setO x [.str s1.b,.sl (.fam Z2.nf false) 1 (tos++[a 8])]) tos g t4 (λf ⟨cs,v,u1,u2,u3⟩=>by rw[ho]at u1;cases u1;simp at u2;subst u2;simpa [zcJ]using u3.symm) (by simp) (by simp) (by simp) (by simp) (λf h1 h2=>by
      have:¬f=Z2.nf:=by omega
      have:¬f=g:=λe=>h2 ⟨_,_,ho,rfl,by rw[e];rfl⟩
      simp[*])
     simp[zdK,b0,b1,b2,b8,b9,b14,b15,b16,hlt,hw,ho,g1,splice,t3,tl,wl]
     refine⟨by omega,?_⟩
     simpa using key
   .simp[zdK,b0,b1,b2,b8,b9,b14,b15,b16,hlt,hw,ht,wi]
    refine⟨⟨i+1,hlt,λj hj=>?_,rfl,by simp[b0],by simp[b1],by simp[b2],by simp[b8],by simp[b9],by simp[b14],by simp[b15],by simp⟩,?_⟩
    .by_cases e:j=i
     .subst e
      rw[hw2]
      intro q
      exact ht (yaR.inj q).symm
     .exact hno j (by omega)
    .simp[MU,b16]
     omega
  .have hiL:i=L.length:=by omega
   have hnin:t∉L:=λhin=>by
    obtain⟨j,hj,e⟩:=ya9 hin
    exact hno j (by omega) (by rw[<-e];simp[hj])
   rw[if_neg (λe=>hnin ((hmem t).2 e))]at he
   have g1:=hG1.one
   simp[zdK,b0,b1,b2,b8,b9,b14,b15,b16,hiL,zmD,g1]
   refine zD7 V hr1 (k:=k) (by omega) hd (λj hj=>IH j (by omega)) (by omega) (by rw[q3];omega) (λe q5=>?_) (λw s2 q5 J2 hr2 hk2=>?_)
   .intro J' e1
    exact .inl (hn e (by rw[he,q5]) J' (hK1.trans e1))
   .rw[q5]at he
    simp only[Except.bind]at he
    have hin:=zkd (λd o s r s'=>zdX k d o [] s r s') q5
    rw[LeT,q3]at hin
    have hmb2:=zfS hr2 a
    have g2:=(hG1.keep hk2).one
    simp[W.av,W.cs,g2]
    refine zuJ (row:=w.av) (hG1.keep hk2) hr2 (hK1.trans hk2) hσ (by simp[W.av,W.cs]) (by simp;omega) λv' Z' e1 e2 e3 e4 e5 _=>?_
    simp
    refine⟨⟨k,l++[w],s2,he,by omega,by omega,by simp;omega,by omega,by simp[b0],by simp[b1],by simp[b2,hL],by simpa using e1,e2,e3⟩,?_⟩
    rw[zfS e2,hmb]
    omega
theorem zrD(V:zb3 G){base x}:∀k j:Nat,j<=k->zm8 G base x j
 | 0,j,hj=>λJ R s d o h hk=>by omega
 | k+1,j,hj=>by
  have IH:=zrD V (base:=base) (x:=x) k
  intro J R s d o h hk hz hd ho hn hs
  refine Al.merging (zxb rfl ?_)
  have hb:=h.hb
  simp[zG6]
  refine zy (LsW base x d j o s J) (MBt x) ⟨j,[],s,rfl,yah _,hk,by simp;omega,hz,by simp,by simp,by simp,.inl ⟨rfl,by simp⟩,h,.refl ..⟩ λa Z hI=>?_
  exact zsS V ho hd hb.2 (λi hi=>IH i (by omega)) hn hs hI
end
theorem zuO(c:UInt8)(h:c.toNat<128):yb4 .i32 (c.toNat:Int)=(c.toNat:Int):=by
 unfold yb4
 simp[yap,yao]
 omega
def zIg:List UInt8:=[97,98,99,100,101,102,103,104,105,106,107,108,109,110,111,112,113,114,115,116,117,118,119,120,121,122,95]
def zke:List UInt8:=[97,98,99,100,101,102,103,104,105,106,107,108,109,110,111,112,113,114,115,116,117,118,119,120,121,122,95,48,49,50,51,52,53,54,55,56,57]
theorem zIh(c:UInt8):inS zke c=(zN c||zB c):=by
 have h:∀i:Fin 256,inS zke (UInt8.ofNat i.1)=(zN (UInt8.ofNat i.1)||zB (UInt8.ofNat i.1)):=by decide
 have:=h ⟨c.toNat,c.toNat_lt⟩
 simpa using this
theorem zLf(c:UInt8):inS zIg c=zN c:=by
 have h:∀i:Fin 256,inS zIg (UInt8.ofNat i.1)=zN (UInt8.ofNat i.1):=by decide
 have:=h ⟨c.toNat,c.toNat_lt⟩
 simpa using this
theorem zkf:∀c∈zke,c.toNat<128:=by decide
theorem zuP{c:UInt8}(h:inS zke c=true):c.toNat<128:=zkf c (by unfold inS at h;simpa using h)
theorem zlL:inS zke=λc=>(zN c||zB c):=funext zIh
section
variable {G : Env} {J : AS} {R : Out -> AS -> Prop}
theorem zLg{t:List UInt8}(hl:t.length<2^40)(h:∀J',zb J J'->R (.ret (.bool (zeg 24 t))) J'):zzQ G 117 [.str t] J R:=by
 refine zw9 rfl ?_
 cases t with
 | nil =>
  simp[zw8]
  exact h _ (.refl _)
 | cons c r =>
  have h1:(1:Int)<=(((c::r).length:Nat):Int):=by simp;omega
  generalize ht:c::r=t at *
  have hc0:t[0]?=some c:=by rw[<-ht];rfl
  have h1n:1<=t.length:=by omega
  by_cases h24:t.length<=24
  .have h24i:(t.length:Int)<=24:=by omega
   simp[zw8,h1,h1n,h24,h24i]
   refine zhx (l:=zke) zkf (by decide) (by decide) (by omega) λJ' A=>?_
   by_cases hall:t.all (inS zke)=true
   .have e:=(zdo zke t).2 hall
    have hc:inS zke c=true:=by rw[yaM]at hall;exact hall c (by rw[<-ht];simp)
    have hc8:=zuP hc
    have wc:yb4 .i32 (c.toNat:Int)=(c.toNat:Int):=zuO c hc8
    simp[e,hc0,wc]
    refine zgP (s:=zIg) hc8 ?_
    have e2:zIg.contains c=inS zIg c:=rfl
    rw[e2,zLf]
    have e3:zeg 24 t=zN c:=by
     rw[zlL,<-ht]at hall
     rw[<-ht]
     simp only[ycV,Bool.and_eq_true]at hall
     rw[<-ht]at h24
     simp only[zeg,hall.2,h24,decide_true,Bool.true_and,Bool.and_true]
    have:=h _ A
    rw[e3]at this
    simpa using this
   .have e:¬zoG zke t=[]:=λq=>hall ((zdo zke t).1 q)
    simp[e]
    have e3:zeg 24 t=false:=by
     rw[zlL,<-ht]at hall
     simp only[ycV,Bool.and_eq_true,not_and,Bool.not_eq_true]at hall
     rw[<-ht]
     simp only[zeg]
     cases hL:zN c with
     | false=>simp
     | true=>simp[hall (by simp[hL])]
    have:=h _ A
    rw[e3]at this
    exact this
  .have h24i:¬(t.length:Int)<=24:=by omega
   have e:zeg 24 t=false:=by rw[<-ht];simp[zeg];rw[<-ht]at h24;simp at h24;omega
   simp[zw8,h1,h1n,h24,h24i]
   have:=h _ (.refl _)
   rw[e]at this
   exact this
end
def zD8:PC:=(.seq (.ops [⟨some 42,.move (.tmp 0),none,[]⟩,
    ⟨some 43,.nilCheck (.tmp 42),none,[]⟩,
    ⟨some 44,.fieldAddr 77 (.tmp 43) 1,none,[]⟩,
    ⟨none,.store 55 (.tmp 44) (.const (.slice none 0 0)),none,[]⟩])
 (.seq (.ops [⟨some 45,.move (.tmp 0),none,[]⟩,
    ⟨some 46,.buildSlice 22 1 #[(0,(.const (.string ⟨#[41]⟩)))],none,[]⟩,
    ⟨some 47,.call ⟨.value (.func 119),#[(.tmp 45),(.const (.int .i64 0)),(.tmp 46)],#[75,3,22]⟩,none,[]⟩])
 (.seq (.ops [⟨some 48,.move (.tmp 0),none,[]⟩,
    ⟨some 49,.nilCheck (.tmp 48),none,[]⟩,
    ⟨some 50,.fieldAddr 77 (.tmp 49) 1,none,[]⟩,
    ⟨some 51,.load 55 (.tmp 50),none,[]⟩,
    ⟨some 52,.fieldAddr 57 (.tmp 2) 4,none,[]⟩,
    ⟨none,.store 55 (.tmp 52) (.tmp 51),none,[]⟩])
 (.seq (.ops [⟨some 53,.load 57 (.tmp 2),none,[]⟩,
    ⟨none,.store 57 (.tmp 2) (.tmp 53),none,[]⟩])
 .ret))))
def zD9:PC:=(.seq (.seq (.ops [⟨some 37,.move (.tmp 0),none,[]⟩,
    ⟨some 38,.call ⟨.value (.func 59),#[(.tmp 37),(.const (.string ⟨#[108,111,99,97,108]⟩))],#[75,9]⟩,none,[]⟩])
  (.cond (.tmp 38)
    (.ops [⟨some 39,.move (.tmp 0),none,[]⟩,
      ⟨some 40,.call ⟨.value (.func 118),#[(.tmp 39)],#[75]⟩,none,[]⟩,
      ⟨some 41,.fieldAddr 57 (.tmp 2) 2,none,[]⟩,
      ⟨none,.store 44 (.tmp 41) (.tmp 40),none,[]⟩])
    .skip))
 zD8)
def zEa:PC:=(.seq (.seq (.ops [⟨some 25,.move (.tmp 0),none,[]⟩,
    ⟨some 26,.call ⟨.value (.func 59),#[(.tmp 25),(.const (.string ⟨#[114,101,115,117,108,116]⟩))],#[75,9]⟩,none,[]⟩])
  (.cond (.tmp 26)
    (.seq (.ops [⟨some 27,.move (.tmp 0),none,[]⟩,
      ⟨some 28,.call ⟨.value (.func 118),#[(.tmp 27)],#[75]⟩,none,[]⟩,
      ⟨some 5,.assign (.tmp 28),none,[]⟩])
    (.seq (.ops [⟨some 29,.move (.tmp 5),none,[]⟩,
      ⟨some 30,.call ⟨.builtin .len,#[(.tmp 29)],#[44]⟩,none,[]⟩,
      ⟨some 31,.binOp .eql 3 (.tmp 30) (.const (.int .i64 1)) 3,none,[]⟩,
      ⟨some 32,.call ⟨.value (.func 61),#[(.tmp 31),(.const (.int .i64 2))],#[4,33]⟩,none,[]⟩])
    (.ops [⟨some 33,.move (.tmp 5),none,[]⟩,
      ⟨some 34,.indexAddr 44 (.tmp 33) (.const (.int .i64 0)),none,[]⟩,
      ⟨some 35,.load 3 (.tmp 34),none,[]⟩,
      ⟨some 36,.fieldAddr 57 (.tmp 2) 3,none,[]⟩,
      ⟨none,.store 3 (.tmp 36) (.tmp 35),none,[]⟩])))
    .skip))
 zD9)
def zEb:PC:=(.seq (.seq (.ops [⟨some 20,.move (.tmp 0),none,[]⟩,
    ⟨some 21,.call ⟨.value (.func 59),#[(.tmp 20),(.const (.string ⟨#[112,97,114,97,109]⟩))],#[75,9]⟩,none,[]⟩])
  (.cond (.tmp 21)
    (.ops [⟨some 22,.move (.tmp 0),none,[]⟩,
      ⟨some 23,.call ⟨.value (.func 118),#[(.tmp 22)],#[75]⟩,none,[]⟩,
      ⟨some 24,.fieldAddr 57 (.tmp 2) 1,none,[]⟩,
      ⟨none,.store 44 (.tmp 24) (.tmp 23),none,[]⟩])
    .skip))
 zEa)
theorem zEc:zLP=(.seq (.ops [⟨some 2,.alloc 57,none,[]⟩])
 (.seq (.ops [⟨some 7,.move (.tmp 0),none,[]⟩,
    ⟨some 8,.call ⟨.value (.func 110),#[(.tmp 7)],#[75]⟩,none,[]⟩,
    ⟨some 9,.call ⟨.value (.func 116),#[(.tmp 8),(.const (.string ⟨#[36]⟩))],#[9,9]⟩,none,[]⟩,
    ⟨some 6,.move (.tmp 9),none,[]⟩,
    ⟨some 10,.extract (.tmp 6) 0,none,[]⟩,
    ⟨some 11,.extract (.tmp 6) 1,none,[]⟩,
    ⟨some 3,.assign (.tmp 10),none,[]⟩,
    ⟨some 4,.assign (.tmp 11),none,[]⟩])
 (.seq (.ops [⟨some 12,.move (.tmp 4),none,[]⟩,
    ⟨some 13,.move (.tmp 12),none,[]⟩,
    ⟨some 14,.move (.tmp 3),(some (13,true)),[]⟩,
    ⟨some 15,.call ⟨.value (.func 117),#[(.tmp 14)],#[9]⟩,(some (13,true)),[]⟩,
    ⟨some 16,.pick (.tmp 13) (.tmp 15) (.const (.bool false)),none,[]⟩,
    ⟨some 17,.call ⟨.value (.func 61),#[(.tmp 16),(.const (.int .i64 2))],#[4,33]⟩,none,[]⟩])
 (.seq (.ops [⟨some 18,.move (.tmp 3),none,[]⟩,
    ⟨some 19,.fieldAddr 57 (.tmp 2) 0,none,[]⟩,
    ⟨none,.store 9 (.tmp 19) (.tmp 18),none,[]⟩])
 zEb)))):=rfl
def endF(nm:List UInt8)(P:List Int)(ty:Int)(s:Ts):Res (F × Ts):=(zbB zaf s).bind λu=>(zw (u.2.b.length+1) 0 false [] { u.2 with ls:=[] }).map λ(v:(Int × List UInt8) × Ts)=>({ name:=nm,params:=P,locals:=u.1,type:=ty,lists:=v.2.ls },v.2)
def zoN(nm:List UInt8)(P:List Int)(s:Ts):Res (F × Ts):=(zjT s).bind λr=>endF nm P r.1 r.2
def zsT(nm:List UInt8)(s:Ts):Res (F × Ts):=(zbB zaW s).bind λq=>zoN nm q.1 q.2
theorem zeS(mx:Nat)(s:Ts):zL mx s=(zaj s).bind λp=>if p.1.head?=some 36/\zeg mx p.1.tail=true then zsT p.1.tail p.2 else .error 2:=rfl
theorem zaB.setO{x J Z o cs}(K:zaB x J Z)(ho:J.no<=o)(hox:o≠x):zaB x J (Z.setO o cs) where
 no:=K.no
 nf:=K.nf
 obj p a b:=by
  have:¬p=o:=by omega
  simp[this]
  exact K.obj p a b
 fam:=K.fam
 lst cs' h:=by
  have:¬x=o:=λe=>hox e.symm
  simp[this]
  exact K.lst cs' h
 some:=K.some
theorem zat.nil{x Z b}:zat x Z (Z.setO x [b,.nilsl]) where
 no:=yah _
 nf:=yah _
 obj o _ h:=by simp[h]
 fam _ _ _:=rfl
 use f _:=λ⟨cs,v,h1,h2,h3⟩=>by
  simp at h1
  subst h1
  simp at h2
  subst h2
  cases h3
theorem zy8{x:Nat}{Z:AS}{b:AV}{f:Nat}:¬zcW (Z.setO x [b,.nilsl]) x f:=λ⟨cs,v,h1,h2,h3⟩=>by
 simp at h1
 subst h1
 simp at h2
 subst h2
 cases h3
theorem zat.full{x J Z}(K:zat x J Z)(h:∀f,¬zcW J x f):zhw x x J Z:=⟨K.no,K.nf,λo a b _=>K.obj o a b,λf a=>K.fam f a (h f)⟩
structure FnW(base x fo:Nat)(J0:AS)(s:Ts)(nm:List UInt8)(pv lv:AV)(ty:Int)(Z:AS):Prop where
 rd:Wr base x s Z
 ks:zaB x J0 Z
 fx:fo≠x
 f0:J0.no<=fo
 lt:fo<Z.no
 ob:Z.objs fo=some [.str nm,pv,lv,.int .i64 ty,.nilsl]
def zIi(R:Out->AS->Prop)(base x:Nat)(J0:AS)(r:Res (F × Ts)):Prop:=∀f s',r=.ok (f,s')->∀pv lv tv J',Al.IntsE pv f.params->Al.IntsE lv f.locals->Wr base x s' J'->J'.objs x=some [.str s'.b,tv]->zhw x x J0 J'->(∀g,zcJ tv=some g->J0.nf<=g) ->
 s'.ls=f.lists->R (.ret (.agg [.str f.name,pv,lv,.int .i64 f.type,tv])) J'
section
variable {G : Env} {R : Out -> AS -> Prop}
theorem zBO(V:zb3 G){base x fo s nm P L pv lv ty J0 Z}{a:Nat->AV}(hF:FnW base x fo J0 s nm pv lv ty Z)(hp:Al.IntsE pv P)(hl:Al.IntsE lv L)(a0:a 0=.ptr x 0)(a2:a 2=.ptr fo 0)
  (hn:∀e,((zw (s.b.length+1) 0 false [] { s with ls:=[] }).map λ(v:(Int × List UInt8) × Ts)=>(({ name:=nm,params:=P,locals:=L,type:=ty,lists:=v.2.ls }:F),v.2))=.error e->zdd R x J0 e)
  (hs:zIi R base x J0 ((zw (s.b.length+1) 0 false [] { s with ls:=[] }).map λ(v:(Int × List UInt8) × Ts)=>(({ name:=nm,params:=P,locals:=L,type:=ty,lists:=v.2.ls }:F),v.2))):avc yb9 G 54 zD8 (zcq yb9 [.cell 2 57] R) a Z:=by
 have p1:=hp.one
 have l1:=hl.one
 have hfx:=hF.fx
 have hx:=hF.rd.hx
 have hof:=hF.ob
 obtain⟨lv0,ho,hlv⟩:=hF.rd.cells
 have hlen:=hF.rd.len
 have hW1:Wr base x { s with ls:=[] } (Z.setO x [.str s.b,.nilsl]):=⟨hF.rd.hx,hF.rd.hb,hF.rd.h0,hF.rd.ok,hF.rd.len,.nilsl,by simp,.inl ⟨rfl,rfl⟩⟩
 have K1:zat x J0 (Z.setO x [.str s.b,.nilsl]):=hF.ks.r.trans zat.nil
 have of1:(Z.setO x [.str s.b,.nilsl]).objs fo=some [.str nm,pv,lv,.int .i64 ty,.nilsl]:=by simp[hfx,hof]
 have KF1:zhw x x J0 (Z.setO x [.str s.b,.nilsl]):=hF.ks.f.setO (.inl rfl)
 have nu1:∀f,¬zcW (Z.setO x [.str s.b,.nilsl]) x f:=λf=>zy8
 have n1:(Z.setO x [.str s.b,.nilsl]).no=Z.no:=rfl
 have m1:(Z.setO x [.str s.b,.nilsl]).nf=Z.nf:=rfl
 have hlt:=hF.lt
 have hnf:=hF.ks.nf
 simp[zD8,a0,a2,ho,splice]
 generalize Z.setO x [.str s.b,.nilsl]=Z1 at *
 have go:=zrD V (base:=base) (x:=x) (s.b.length+1) (s.b.length+1) (yah _) Z1
 have e2:zgj 0 false=[zd]:=rfl
 have go2:∀R',(∀e,zw (s.b.length+1) 0 false [] { s with ls:=[] }=.error e->zdd R' x Z1 e)->(∀n t s',zw (s.b.length+1) 0 false [] { s with ls:=[] }=.ok ((n,t),s')->∀J',Wr base x s' J'->zat x Z1 J'->R' (.ret (.tuple [.int .i64 n,.str t])) J')->zzQ G 119 [.ptr x 0,.int .i64 0,.sl (.stat true) 1 [.str [41]]] Z1 R':=λR' u v=>by
  have:=go R' { s with ls:=[] } 0 false hW1 (by simp) (by simp;omega) (by omega) (by simp) u v
  rw[e2]at this
  exact this
 refine go2 _ (λe q=>?_) (λn t s' q Z2 hW2 K2=>?_)
 .intro J' K
  simp
  exact hn e (by rw[q];rfl) _ (K1.trans K)
 .have of2:=(K2.obj fo (by omega) hfx).trans of1
  obtain⟨tv,ho2,htv⟩:=hW2.cells
  have t1:=htv.one
  have hxf:¬x=fo:=λe=>hfx e.symm
  have hfx':¬fo=x:=hfx
  simp[a0,a2,ho2,of2,splice,t1,p1,l1,hxf,hfx']
  have KF:=KF1.trans (K2.full nu1)
  have f0:=hF.f0
  refine hs _ s' (by rw[q];rfl) pv lv tv _ hp hl ((hW2.setO hfx).setO hfx) (by simp[hxf,ho2]) ((KF.setO (.inr (.inr f0))).setO (.inr (.inr f0))) (λg hg=>?_) rfl
  have hg1:zcW Z2 x g:=⟨_,_,ho2,rfl,hg⟩
  by_cases hlt2:g<Z1.nf
  .exact absurd (K2.use g hlt2 hg1) (nu1 g)
  .omega
end
def zoO(nm:List UInt8)(P L:List Int)(ty:Int)(s:Ts):Res (F × Ts):=(zw (s.b.length+1) 0 false [] { s with ls:=[] }).map λ(v:(Int × List UInt8) × Ts)=>(({ name:=nm,params:=P,locals:=L,type:=ty,lists:=v.2.ls }:F),v.2)
section
variable {G : Env} {R : Out -> AS -> Prop}
theorem FnW.keep{base x fo J0 s s' nm pv lv ty Z Z'}(hF:FnW base x fo J0 s nm pv lv ty Z)(hW:Wr base x s' Z')(K:zaB x Z Z'):FnW base x fo J0 s' nm pv lv ty Z' :=
 ⟨hW,hF.ks.trans K,hF.fx,hF.f0,yag hF.lt K.no,(K.obj fo hF.lt hF.fx).trans hF.ob⟩
theorem FnW.set{base x fo J0 s nm pv lv ty Z nm' pv' lv' ty'}(hF:FnW base x fo J0 s nm pv lv ty Z):FnW base x fo J0 s nm' pv' lv' ty' (Z.setO fo [.str nm',pv',lv',.int .i64 ty',.nilsl]) :=
 ⟨hF.rd.setO hF.fx,hF.ks.setO hF.f0 hF.fx,hF.fx,hF.f0,hF.lt,by simp⟩
theorem zrE(V:zb3 G){base x fo s nm P pv ty J0 Z}{a:Nat->AV}(hF:FnW base x fo J0 s nm pv .nilsl ty Z)(hp:Al.IntsE pv P)(a0:a 0=.ptr x 0)(a2:a 2=.ptr fo 0)
  (hn:∀e,endF nm P ty s=.error e->zdd R x J0 e) (hs:zIi R base x J0 (endF nm P ty s)):avc yb9 G 54 zD9 (zcq yb9 [.cell 2 57] R) a Z:=by
 have p1:=hp.one
 simp[zD9,a0]
 refine zy2 (w:=zaf) hF.rd (by decide) (λq Z1 hW1 K1=>?_) (λs1 q Z1 hW1 K1=>?_)
 .have e:zbB zaf s=.ok ([],s):=by unfold zbB;rw[q]
  have hF1:=hF.keep hW1 K1
  simp
  have e3:endF nm P ty s=zoO nm P [] ty s:=by unfold endF;rw[e];rfl
  rw[e3]at hs
  exact zBO V (L:=[]) hF1 hp (.inl ⟨rfl,.inl rfl⟩) (by simp[a0]) (by simp[a2]) (λe' q'=>hn e' (by rw[e3];exact q')) hs
 .have e:zbB zaf s=zaH (s1.b.length+1) [] s1:=by unfold zbB;rw[q]
  have hF1:=hF.keep hW1 K1
  simp[a0]
  refine zqi (k:=s1.b.length+1) hW1 (by omega) (λe' q'=>?_) (λl s2 q' v Z2 hv hW2 K2=>?_)
  .intro J' K
   simp
   exact hn e' (by unfold endF;rw[e,q'];rfl) _ (hF1.ks.r.trans K)
  .have hF2:=hF1.keep hW2 K2
   have v1:=hv.one
   have ob2:=hF2.ob
   simp[a0,a2,ob2,splice,v1]
   have e3:endF nm P ty s=zoO nm P l ty s2:=by unfold endF;rw[e,q'];rfl
   rw[e3]at hs
   exact zBO V (L:=l) hF2.set hp hv (by simp[a0]) (by simp[a2]) (λe' q3=>hn e' (by rw[e3];exact q3)) hs
theorem zBP(V:zb3 G){base x fo s nm P pv J0 Z}{a:Nat->AV}(hF:FnW base x fo J0 s nm pv .nilsl 0 Z)(hp:Al.IntsE pv P)(a0:a 0=.ptr x 0)(a2:a 2=.ptr fo 0)
  (hn:∀e,zoN nm P s=.error e->zdd R x J0 e) (hs:zIi R base x J0 (zoN nm P s)):avc yb9 G 54 zEa (zcq yb9 [.cell 2 57] R) a Z:=by
 have p1:=hp.one
 simp[zEa,a0]
 refine zy2 (w:=zcv) hF.rd (by decide) (λq Z1 hW1 K1=>?_) (λs1 q Z1 hW1 K1=>?_)
 .have e:zjT s=.ok (0,s):=by unfold zjT;rw[q]
  have hF1:=hF.keep hW1 K1
  simp
  have e3:zoN nm P s=endF nm P 0 s:=by unfold zoN;rw[e];rfl
  rw[e3]at hs
  exact zrE V hF1 hp (by simp[a0]) (by simp[a2]) (λe' q'=>hn e' (by rw[e3];exact q')) hs
 .have hF1:=hF.keep hW1 K1
  simp[a0]
  refine zqi (k:=s1.b.length+1) hW1 (by omega) (λe' q'=>?_) (λl s2 q' v Z2 hv hW2 K2=>?_)
  .intro J' K
   simp
   exact hn e' (by unfold zoN zjT;rw[q];simp only;rw[q'];rfl) _ (hF1.ks.r.trans K)
  .have hF2:=hF1.keep hW2 K2
   have v1:=hv.one
   have ob2:=hF2.ob
   have e:zjT s=if l.length=1 then .ok (l.headD 0,s2)else .error 2:=by unfold zjT;rw[q];simp only;rw[q'];rfl
   by_cases h1:l.length=1
   .obtain⟨n,rfl⟩:=List.length_eq_one_iff.1 h1
    rw[if_pos h1]at e
    have e3:zoN nm P s=endF nm P n s2:=by unfold zoN;rw[e];rfl
    rw[e3]at hs
    have hv':∃b,v=.sl (.fam 0 b) 1 [.int .i64 n]:=by
     rcases hv with ⟨h,_⟩|⟨b,h⟩
     .cases h
     .exact⟨b,h⟩
    obtain⟨b,rfl⟩:=hv'
    have h0:=hF2.rd.h0
    have hnf:=hF2.rd.hb
    have hnf0:0<Z2.nf:=by omega
    simp
    refine zau (λ_=>?_) (λq=>by cases q)
    simp[a0,a2,ob2,splice,h0,hnf0,p1]
    exact zrE V hF2.set hp (by simp[a0]) (by simp[a2]) (λe' q'=>hn e' (by rw[e3];exact q')) hs
   .rw[if_neg h1]at e
    have bad:∀J',zat x Z2 J'->R (.panic (zD5 2)) J':=λJ' K=>hn 2 (by unfold zoN;rw[e];rfl) _ (hF2.ks.r.trans K)
    rcases hv with ⟨h,rfl|⟨b,rfl⟩⟩|⟨b,rfl⟩
    .simp
     refine zau (λq=>by cases q) (λ_=>?_)
     simp
     exact bad _ (.refl ..)
    .simp
     refine zau (λq=>by cases q) (λ_=>?_)
     simp
     exact bad _ (.refl ..)
    .have h1i:¬(l.length:Int)=1:=by omega
     simp[h1,h1i]
     refine zau (λq=>by cases q) (λ_=>?_)
     simp
     exact bad _ (.refl ..)
theorem zIj(V:zb3 G){base x fo s nm J0 Z}{a:Nat->AV}(hF:FnW base x fo J0 s nm .nilsl .nilsl 0 Z)(a0:a 0=.ptr x 0)(a2:a 2=.ptr fo 0)
  (hn:∀e,zsT nm s=.error e->zdd R x J0 e) (hs:zIi R base x J0 (zsT nm s)):avc yb9 G 54 zEb (zcq yb9 [.cell 2 57] R) a Z:=by
 simp[zEb,a0]
 refine zy2 (w:=zaW) hF.rd (by decide) (λq Z1 hW1 K1=>?_) (λs1 q Z1 hW1 K1=>?_)
 .have e:zbB zaW s=.ok ([],s):=by unfold zbB;rw[q]
  have hF1:=hF.keep hW1 K1
  simp
  have e3:zsT nm s=zoN nm [] s:=by unfold zsT;rw[e];rfl
  rw[e3]at hs
  exact zBP V (P:=[]) hF1 (.inl ⟨rfl,.inl rfl⟩) (by simp[a0]) (by simp[a2]) (λe' q'=>hn e' (by rw[e3];exact q')) hs
 .have e:zbB zaW s=zaH (s1.b.length+1) [] s1:=by unfold zbB;rw[q]
  have hF1:=hF.keep hW1 K1
  simp[a0]
  refine zqi (k:=s1.b.length+1) hW1 (by omega) (λe' q'=>?_) (λl s2 q' v Z2 hv hW2 K2=>?_)
  .intro J' K
   simp
   exact hn e' (by unfold zsT;rw[e,q'];rfl) _ (hF1.ks.r.trans K)
  .have hF2:=hF1.keep hW2 K2
   have v1:=hv.one
   have ob2:=hF2.ob
   simp[a0,a2,ob2,splice,v1]
   have e3:zsT nm s=zoN nm l s2:=by unfold zsT;rw[e,q'];rfl
   rw[e3]at hs
   exact zBP V hF2.set hv (by simp[a0]) (by simp[a2]) (λe' q3=>hn e' (by rw[e3];exact q3)) hs
theorem zsU(V:zb3 G){base x s J}(h:Wr base x s J)(hn:∀e,zL 24 s=.error e->zdd R x J e)(hs:zIi R base x J (zL 24 s)):zzQ G 60 [.ptr x 0] J R:=by
 refine zDb rfl ?_
 rw[zeS]at hs
 simp only[zeS]at hn
 obtain⟨cs0,hcs0⟩:=h.isSome
 have hx:=h.hx
 rw[zEc]
 simp
 have A1:zb J (J.newO [.str [],.nilsl,.nilsl,.int .i64 0,.nilsl]):=(zb.refl J).newO
 have o1:(J.newO [.str [],.nilsl,.nilsl,.int .i64 0,.nilsl]).objs J.no=some [.str [],.nilsl,.nilsl,.int .i64 0,.nilsl]:=by simp
 have n1:(J.newO [.str [],.nilsl,.nilsl,.int .i64 0,.nilsl]).no=J.no+1:=by simp
 generalize J.newO [.str [],.nilsl,.nilsl,.int .i64 0,.nilsl]=J1 at *
 have hW1:=h.adds A1
 have K1:=A1.keepS hx hcs0
 refine zlJ hW1 (λq=>?_) (λt s1 q J2 hW2 K2=>?_)
 .intro J' K
  simp
  exact hn 2 (by rw[q];rfl) _ (K1.r.trans K)
 .rw[q]at hs
  simp only[q,Except.bind]at hn hs
  have htl:=(zco q).1
  have hlen:=hW1.len
  have hF:FnW base x J.no J s1 [] .nilsl .nilsl 0 J2:=⟨hW2,K1.trans K2,by omega,yah _,by have:=K2.no;omega,(K2.obj _ (by omega) (by omega)).trans o1⟩
  simp
  refine zh8 ?_
  have bad:¬(t.head?=some 36/\zeg 24 t.tail=true)->∀J',zat x J2 J'->R (.panic (zD5 2)) J':=λhc J' K=>hn 2 (by rw[if_neg hc]) _ (hF.ks.r.trans K)
  by_cases h36:t.head?=some 36
  .have e1:zk8 [36] t=true:=by rw[zj7];simpa using h36
   have e2:t.drop 1=t.tail:=by simp
   simp[e1]
   refine zLg (by simp;omega) λJ3 A3=>?_
   obtain⟨cs2,hcs2⟩:=hW2.isSome
   have K3:=A3.keepS hW2.hx hcs2
   have hF3:=hF.keep (hW2.adds A3) K3
   by_cases ht:zeg 24 t.tail=true
   .rw[if_pos ⟨h36,ht⟩]at hs
    simp only[if_pos (⟨h36,ht⟩:t.head?=some 36/\zeg 24 t.tail=true)]at hn
    simp[ht]
    refine zau (λ_=>?_) (λq=>by cases q)
    have ob3:=hF3.ob
    simp[ob3,splice]
    exact zIj V hF3.set (by simp) (by simp) hn hs
   .simp[ht]
    refine zau (λq=>by cases q) (λ_=>?_)
    simp
    exact bad (λq=>ht q.2) _ K3.r
  .have e1:zk8 [36] t=false:=by rw[zj7];simpa using h36
   simp[e1]
   refine zau (λq=>by cases q) (λ_=>?_)
   simp
   exact bad (λq=>h36 q.1) _ (.refl ..)
theorem zhy{Z Z':AS}{base v l}(h:Al.OutE Z base v l)(hn:Z.nf<=Z'.nf)(hF:∀f,f<Z.nf->Z'.F f=Z.F f):Al.OutE Z' base v l:=by
 rcases h with h|⟨g,rows,ps,h1,h2,h3,h4,h5,h6,h7⟩
 .exact .inl h
 .exact .inr ⟨g,rows,ps,h1,h2,by omega,(hF g h3).trans h4,h5,h6,h7.nd,λx hx=>by
   obtain⟨q1,q2,q3,q4⟩:=h7.each x hx
   exact⟨q1,by omega,(hF x q2).trans q3,q4⟩⟩
theorem zsV{Z Z':AS}{base v m}(h:Al.ME Z base v m)(hn:Z.nf<=Z'.nf)(hF:∀f,f<Z.nf->Z'.F f=Z.F f):Al.ME Z' base v m:=by
 obtain⟨fv,rfl,h⟩:=h
 exact⟨fv,rfl,zhy h hn hF⟩
def zaO:AV:=.agg [.nilsl,.int .i64 0,.int .i64 0]
end
def zm9(fs:List F)(mem:Int)(s:Ts):Res (M × Ts):=(zx [zj,zbe,zeK,zj,zap] s).bind λs=>(zR s).bind λmn=>(zx [zd,zd,zd] mn.2).bind λs =>
  if s.b.all zek=true then .ok (({ funcs:=fs,memory:=mem,main:=yb4 .i64 (mn.1-3) }:M),s)else .error 2
theorem zhz(mx:Nat)(s:Ts):zcb mx s=(zx zaF s).bind λs=>(zR s).bind λmem=>(zx [zd,zd] mem.2).bind λs=>(zC mx (s.b.length+1) [] s).bind λfs=>zm9 fs.1 mem.1 fs.2:=rfl
theorem zrF:∀(k d:Nat) (o:Bool) (l:List W) (s:Ts) (r:Int × List UInt8) (s':Ts),zw k d o l s=.ok (r,s')->s'.ls≠[]
 | 0,_,_,_,_,_,_,h=>by cases h
 | k+1,d,o,l,s,r,s',h=>by
  rw[zw]at h
  obtain⟨p,h1,h2⟩:=bind_some h
  split at h2
  .cases h2
   simp
  .obtain⟨q,h3,h4⟩:=bind_some h2
   exact zrF k d o _ _ _ _ h4
theorem zna{w:List UInt8}{s s':Ts}(h:zfm w s=some s'):s'.b.length<=s.b.length:=by
 unfold zfm at h
 cases e:zcr s.b with
 | none=>rw[e]at h;cases h
 | some p =>
  obtain⟨p1,p2⟩:=p
  rw[e]at h
  simp only at h
  split at h
  .cases e2:zcr p2 with
   | none=>rw[e2]at h;cases h
   | some q =>
    obtain⟨q1,q2⟩:=q
    rw[e2]at h
    simp only at h
    split at h
    .cases h
     have l1:=(zbD e).1
     have l2:=(zbD e2).1
     simp only
     omega
    .cases h
  .cases h
theorem zgR:∀(k:Nat) (l:List Int) (s:Ts) (r:List Int) (s':Ts),zaH k l s=.ok (r,s')->s'.b.length<=s.b.length
 | 0,_,_,_,_,h=>by cases h
 | k+1,l,s,r,s',h=>by
  rw[zaH]at h
  obtain⟨p,h1,h2⟩:=bind_some h
  have l1:=(zdW h1).1
  split at h2
  .exact yai (zgR k _ _ _ _ h2) l1
  .split at h2
   .exact yai (zgR k _ _ _ _ h2) l1
   .split at h2
    .cases h2;exact l1
    .cases h2
theorem zrG{w:List UInt8}{s s':Ts}{l:List Int}(h:zbB w s=.ok (l,s')):s'.b.length<=s.b.length:=by
 unfold zbB at h
 split at h
 .rename_i s1 e
  exact yai (zgR _ _ _ _ _ h) (zna e)
 .cases h;exact yah _
theorem zuQ{s s':Ts}{l:Int}(h:zjT s=.ok (l,s')):s'.b.length<=s.b.length:=by
 unfold zjT at h
 split at h
 .rename_i s1 e
  obtain⟨r,h1,h2⟩:=bind_some h
  split at h2
  .cases h2
   exact yai (zgR _ _ _ _ _ h1) (zna e)
  .cases h2
 .cases h;exact yah _
theorem zeT{mx s f s'}(h:zL mx s=.ok (f,s')):f.lists≠[]/\s'.b.length<=s.b.length:=by
 rw[zeS]at h
 obtain⟨p,h1,h2⟩:=bind_some h
 split at h2
 .unfold zsT at h2
  obtain⟨q,h3,h4⟩:=bind_some h2
  unfold zoN at h4
  obtain⟨r,h5,h6⟩:=bind_some h4
  unfold endF at h6
  obtain⟨u,h7,h8⟩:=bind_some h6
  have hl:=(map_some h8)
  obtain⟨v,h9,h10⟩:=hl
  cases h10
  refine⟨zrF _ _ _ _ _ _ _ h9,?_⟩
  have l1:=(zdW h1).1
  have l2:=(zdX _ _ _ _ _ _ _ h9).1
  have l3:=zrG h3
  have l4:=zuQ h5
  have l5:=zrG h7
  simp only at l2 l3 l4 l5 l1 ⊢
  omega
 .cases h2
theorem Wr.famF{base x s Z Z'}(h:Wr base x s Z)(e1:Z'.objs=Z.objs)(e2:Z'.no=Z.no)(e3:Z.nf<=Z'.nf)(e4:∀f,f=0\/zcW Z x f->Z'.F f=Z.F f):Wr base x s Z':=by
 obtain⟨lv,ho,hl⟩:=h.cells
 have hb:=h.hb
 refine⟨by rw[e2];exact h.hx,⟨hb.1,by omega⟩,(e4 0 (.inl rfl)).trans h.h0,h.ok,h.len,lv,by rw[e1];exact ho,?_⟩
 rcases hl with h1|⟨g,tos,rfl,h2,h3,h4,h5⟩
 .exact .inl h1
 .exact .inr ⟨g,tos,rfl,h2,by omega,(e4 g (.inr ⟨_,_,ho,rfl,rfl⟩)).trans h4,h5⟩
structure PsW(J:AS)(base x:Nat)(s:Ts)(fv:AV)(mem mn:Int)(Z:AS):Prop where
 rd:Wr base x s Z
 ad:zb J Z
 x0:J.no+2<=x
 b0:J.nf<=base
 mo:Z.objs J.no=some [fv,.int .i64 mem,.int .i64 mn]
 eo:Z.objs (J.no+1)=some [.int .i64 0]
theorem PsW.keepS{J base x s s' fv mem mn Z Z'}(h:PsW J base x s fv mem mn Z)(hW:Wr base x s' Z')(K:zaB x Z Z'):PsW J base x s' fv mem mn Z':=by
 have x0:=h.x0
 have hx:=h.rd.hx
 exact⟨hW,K.adds0 h.ad (by omega),h.x0,h.b0,(K.obj _ (by omega) (by omega)).trans h.mo,(K.obj _ (by omega) (by omega)).trans h.eo⟩
theorem PsW.adds{J base x s fv mem mn Z Z'}(h:PsW J base x s fv mem mn Z)(A:zb Z Z'):PsW J base x s fv mem mn Z':=by
 obtain⟨cs,hcs⟩:=h.rd.isSome
 exact h.keepS (h.rd.adds A) (A.keepS h.rd.hx hcs)
theorem PsW.setM{J base x s fv mem mn fv' mem' mn' Z}(h:PsW J base x s fv mem mn Z):PsW J base x s fv' mem' mn' (Z.setO J.no [fv',.int .i64 mem',.int .i64 mn']):=by
 have x0:=h.x0
 exact⟨h.rd.setO (by omega),h.ad.setO (yah _),h.x0,h.b0,by simp,by simp[h.eo]⟩
section
variable {G : Env} {J : AS} {R : Out -> AS -> Prop}
theorem zIk{Z:AS}{e:Int}{a:Nat->AV}{mc:List AV}(a2:a 2=.ptr J.no 0)(a3:a 3=.ptr (J.no+1) 0)(A:zb J Z)(hmc:Z.objs J.no=some mc)(hml:mc.length=3)(he:Z.objs (J.no+1)=some [.int .i64 0])
  (hh:∀J',zb J J'->R (.ret (.tuple [zaO,.int .i64 e])) J'):za2 yb9 G 9 zhZ 3 2 [.ptr J.no 0,.ptr (J.no+1) 0] [.cell 2 28,.cell 3 33] R (some (zD5 e)) a Z:=by
 obtain⟨x1,x2,x3,rfl⟩:∃x y z,mc=[x,y,z]:=by
  match mc,hml with
  | [x,y,z],_=>exact⟨x,y,z,rfl⟩
 simp[za2,zD5,zhZ,he,hmc,splice,a2,a3]
 exact hh _ ((A.setO (yah _)).setO (by omega))
theorem PsW.hand{base x s fv mem mn Z}(h:PsW J base x s fv mem mn Z){Z':AS}(K:zat x Z Z'){e:Int}{a:Nat->AV}(a2:a 2=.ptr J.no 0)(a3:a 3=.ptr (J.no+1) 0)
  (hh:∀J',zb J J'->R (.ret (.tuple [zaO,.int .i64 e])) J'):za2 yb9 G 9 zhZ 3 2 [.ptr J.no 0,.ptr (J.no+1) 0] [.cell 2 28,.cell 3 33] R (some (zD5 e)) a Z':=by
 have x0:=h.x0
 have b0:=h.b0
 have hx:=h.rd.hx
 have An:=h.ad.no
 have Af:=h.ad.nf
 refine zIk a2 a3 ⟨yai An K.no,yai Af K.nf,λo ho=>?_,λf hf=>?_⟩ ((K.obj _ (by omega) (by omega)).trans h.mo) rfl ((K.obj _ (by omega) (by omega)).trans h.eo) hh
 .rw[K.obj o (by omega) (by omega),h.ad.obj o ho]
 .rw[K.fam f (by omega) (h.rd.uses (by omega)),h.ad.fam f hf]
theorem zuR:inS zd6=zek:=by
 funext c
 have h:∀i:Fin 256,inS zd6 (UInt8.ofNat i.1)=zek (UInt8.ofNat i.1):=by decide
 have:=h ⟨c.toNat,c.toNat_lt⟩
 simpa using this
theorem zuS(V:zb3 G){base x s fv mem fs Z}{a:Nat->AV}(h:PsW J base x s fv mem 0 Z)(hfs:Al.OutE Z J.nf fv fs)(a2:a 2=.ptr J.no 0)(a3:a 3=.ptr (J.no+1) 0)(a4:a 4=.ptr x 0)
  (hn:∀e,zm9 fs mem s=.error e->∀J',zb J J'->R (.ret (.tuple [zaO,.int .i64 e])) J') (hs:∀m s',zm9 fs mem s=.ok (m,s')->∀mv J',Al.ME J' J.nf mv m->zb J J'->R (.ret (.tuple [mv,.int .i64 0])) J') :
  avc yb9 G 45 zgB (aq (za2 yb9 G 9 zhZ 3 2 [.ptr J.no 0,.ptr (J.no+1) 0] [.cell 2 28,.cell 3 33] R)) a Z:=by
 have hfv:fv.known=true/\fv.one=true/\fv.cells=[fv]:=by
  rcases hfs with ⟨_,rfl⟩|⟨_,_,_,rfl,_⟩<;>simp
 simp[zgB,a4]
 refine zm6 (ts:=[zj,zbe,zeK,zj,zap]) h.rd (.inl ⟨true,rfl⟩) (by decide) (λe q=>?_) (λs1 q Z1 hW1 K1=>?_)
 .intro J' K
  simp
  exact h.hand K (by simp[zd5,a2]) (by simp[zd5,a3]) (hn e (by unfold zm9;rw[q];rfl))
 .have h1:=h.keepS hW1 K1
  simp[a4]
  refine zm7 V hW1 (λe q2=>?_) (λn s2 q2 r1 r2 Z2 hW2 K2=>?_)
  .intro J' K
   simp
   exact h1.hand K (by simp[zd5,a2]) (by simp[zd5,a3]) (hn e (by unfold zm9;rw[q];simp only[Except.bind];rw[q2]))
  .have h2:=h1.keepS hW2 K2
   have mo2:=h2.mo
   simp[a2,a4,mo2,splice]
   have h3:=h2.setM (fv':=fv) (mem':=mem) (mn':=yb4 .i64 (n-3))
   have F3:(Z2.setO J.no [fv,.int .i64 mem,.int .i64 (yb4 .i64 (n-3))]).F=Z2.F:=rfl
   have N3:(Z2.setO J.no [fv,.int .i64 mem,.int .i64 (yb4 .i64 (n-3))]).nf=Z2.nf:=rfl
   generalize Z2.setO J.no [fv,.int .i64 mem,.int .i64 (yb4 .i64 (n-3))]=Z3 at *
   refine zm6 (ts:=[zd,zd,zd]) h3.rd (.inl ⟨true,rfl⟩) (by decide) (λe q3=>?_) (λs4 q3 Z4 hW4 K4=>?_)
   .intro J' K
    simp
    exact h3.hand K (by simp[zd5,a2]) (by simp[zd5,a3]) (hn e (by unfold zm9;rw[q];simp only[Except.bind];rw[q2];simp only;rw[q3]))
   .have h4:=h3.keepS hW4 K4
    obtain⟨lv4,ho4,hlv4⟩:=hW4.cells
    have hmod:zm9 fs mem s=if s4.b.all zek=true then .ok (({ funcs:=fs,memory:=mem,main:=yb4 .i64 (n-3) }:M),s4)else .error 2:=by
     unfold zm9;rw[q];simp only[Except.bind];rw[q2];simp only;rw[q3]
    have hl4:=hW4.len
    simp[a4,ho4]
    refine zhx (l:=zd6) (by decide) (by decide) (by decide) (by omega) λZ5 A5=>?_
    have h5:=h4.adds A5
    by_cases hall:s4.b.all zek=true
    .rw[if_pos hall]at hmod
     have e:zoG zd6 s4.b=[]:=(zdo _ _).2 (by rw[zuR];exact hall)
     simp[e]
     refine zau (λ_=>?_) (λq=>by cases q)
     have mo5:=h5.mo
     have eo5:=h5.eo
     simp[a2,a3,mo5,eo5,splice,za2,zhZ,hfv]
     have n1:=K1.nf
     have n2:=K2.nf
     have n4:=K4.nf
     have n5:=A5.nf
     have hfs5:Al.OutE Z5 J.nf fv fs:=zhy hfs (by omega) λf hf=>by
      rw[A5.fam f (by omega),K4.fam f (by omega),F3,K2.fam f (by omega),K1.fam f hf]
     have A6:zb J ((Z5.setO J.no [fv,.int .i64 mem,.int .i64 (yb4 .i64 (n-3))]).setO (J.no+1) [.int .i64 0]):=(h5.ad.setO (yah _)).setO (by omega)
     exact hs _ _ hmod _ _ ⟨fv,rfl,zhy hfs5 (yah _) λf _=>rfl⟩ A6
    .rw[if_neg hall]at hmod
     have e:¬zoG zd6 s4.b=[]:=λq=>hall (by rw[<-zuR];exact(zdo _ _).1 q)
     simp[e]
     refine zau (λq=>by cases q) (λ_=>?_)
     simp
     exact h5.hand (.refl ..) (by simp[zd5,a2]) (by simp[zd5,a3]) (hn 2 hmod)
end
theorem zuT{el:Option TypeId}{bsz base:Nat}{Z0 Z:AS}{v row:AV}{l:List F}{f:F}{gN:Nat}{K:AV->AS->Prop}(h:Al.OutE Z0 base v l)(hrow:Al.FVE row (f,gN))(hn:Z0.nf<=Z.nf)(hF:∀g,g<Z0.nf->Z.F g=Z0.F g)(hb:base<=Z0.nf)(g1:Z0.nf<=gN)(g2:gN<Z.nf)(g3:Z.F gN=.alive)
  (hl:(l.length+1)*bsz<=2^47) (hK:∀v' Z',Al.OutE Z' base v' (l++[f])->Z'.objs=Z.objs->Z'.no=Z.no->Z'.nf=Z.nf+1->(∀g,g<Z.nf->g<base\/Z0.nf<=g->Z'.F g=Z.F g)->K v' Z'):zb8 el bsz 5 v [row] Z K:=by
 have hrc:row.cells.length=5:=zuE hrow
 rcases h with ⟨rfl,rfl⟩|⟨g,rows,ps,rfl,h1,h2,h3,h4,h5,h6⟩
 .have hne:¬gN=Z.nf:=by omega
  have:=hK (.sl (.fam Z.nf false) 5 [row]) Z.newF (.inr ⟨Z.nf,[row],[(f,gN)],rfl,by omega,by simp,by simp,rfl,.cons hrow .nil,⟨by simp,λx hx=>by
   simp only[yaL,yds,ydr]at hx
   subst hx
   exact⟨by omega,by simp;omega,by simp[hne,g3],hne⟩⟩⟩) (by simp) (by simp) (by simp) (λg' a _=>by
    have:¬g'=Z.nf:=by omega
    simp[this])
  simp at hl
  simp
  first|exact this|exact⟨by omega,this⟩
 .have hgg:¬g=Z.nf:=by omega
  have hne:¬gN=Z.nf:=by omega
  have hng:¬gN=g:=by omega
  have ha:Z.F g=.alive:=(hF g h2).trans h3
  have hlen:rows.length=l.length:=by rw[h5.length,<-h4];simp
  have:=hK (.sl (.fam Z.nf false) 5 (rows++[row])) (Z.setF g .dead).newF (.inr ⟨Z.nf,rows++[row],ps++[(f,gN)],rfl,by omega,by simp,by simp,by simp[h4],h5.append (.cons hrow .nil),⟨by
   rw[ydQ,List.nodup_append]
   refine⟨h6.nd,by simp,λa ha b hb=>?_⟩
   simp only[yaL,yds,ydr]at hb
   have:=(h6.each a ha).2.1
   omega,λx hx=>by
   rw[ydQ,ybh]at hx
   rcases hx with hx|hx
   .obtain⟨q1,q2,q3,q4⟩:=h6.each x hx
    have e1:¬x=Z.nf:=by omega
    exact⟨q1,by simp;omega,by simp[e1,q4,(hF x q2).trans q3],e1⟩
   .simp only[yaL,yds,ydr]at hx
    subst hx
    exact⟨by omega,by simp;omega,by simp[hne,hng,g3],hne⟩⟩⟩) (by simp) (by simp) (by simp) (λg' a b=>by
    have e1:¬g'=Z.nf:=by omega
    have e2:¬g'=g:=by omega
    simp[e1,e2])
  simp[ha]
  exact⟨by rw[hlen];exact hl,this⟩
section
variable {G : Env} {J : AS} {R : Out -> AS -> Prop}
theorem zhA{Z base v l}(h:Al.OutE Z base v l):v.known=true/\v.one=true/\v.cells=[v]:=by
 rcases h with ⟨_,rfl⟩|⟨_,_,_,rfl,_⟩<;>simp
def PlI(J:AS)(base x:Nat)(mem:Int)(k0:Nat)(s0:Ts)(a:Nat->AV)(Z:AS):Prop:=∃(k:Nat) (l:List F) (s:Ts) (fv:AV),zC 24 k0 [] s0=zC 24 k l s/\s.b.length<k/\l.length+s.b.length<=s0.b.length/\PsW J base x s fv mem 0 Z/\Al.OutE Z J.nf fv l/\a 2=.ptr J.no 0/\a 3=.ptr (J.no+1) 0/\a 4=.ptr x 0
theorem zqk{w:List UInt8}{s s':Ts}(h:zfm w s=some s'):s'.b.length+1<=s.b.length:=by
 unfold zfm at h
 cases e:zcr s.b with
 | none=>rw[e]at h;cases h
 | some p =>
  obtain⟨p1,p2⟩:=p
  rw[e]at h
  simp only at h
  split at h
  .cases e2:zcr p2 with
   | none=>rw[e2]at h;cases h
   | some q =>
    obtain⟨q1,q2⟩:=q
    rw[e2]at h
    simp only at h
    split at h
    .cases h
     have l1:=zbD e
     have l2:=(zbD e2).1
     have:=ybm.2 l1.2
     simp only
     omega
    .cases h
  .cases h
theorem zsW(V:zb3 G)(h00:0<J.nf){base x k0 s0 mem}(hs36:s0.b.length<2^36)(hn:∀e,((zC 24 k0 [] s0).bind λfs=>zm9 fs.1 mem fs.2)=.error e->∀J',zb J J'->R (.ret (.tuple [zaO,.int .i64 e])) J')
  (hs:∀m s',((zC 24 k0 [] s0).bind λfs=>zm9 fs.1 mem fs.2)=.ok (m,s')->∀mv J',Al.ME J' J.nf mv m->zb J J'->R (.ret (.tuple [mv,.int .i64 0])) J') {a:Nat->AV} {Z:AS} (hI:PlI J base x mem k0 s0 a Z) :
  avc yb9 G 45 zgA (zan (λa' J'=>PlI J base x mem k0 s0 a' J'/\MBt x a' J'<MBt x a Z) (zai 0 (zan (avc yb9 G 45 zgB (aq (za2 yb9 G 9 zhZ 3 2 [.ptr J.no 0,.ptr (J.no+1) 0] [.cell 2 28,.cell 3 33] R))) (aq (za2 yb9 G 9 zhZ 3 2 [.ptr J.no 0,.ptr (J.no+1) 0] [.cell 2 28,.cell 3 33] R))))) a Z:=by
 obtain⟨k,l,s,fv,he,hk,hlb,hP,hO,a2,a3,a4⟩:=hI
 obtain⟨k,rfl⟩:∃j,k=j+1:=⟨k-1,by omega⟩
 have hmb:=zfS hP.rd a
 rw[zC]at he
 simp[zgA,a4]
 refine zy2 (w:=zap) hP.rd (by decide) (λq Z1 hW1 K1=>?_) (λs1 q Z1 hW1 K1=>?_)
 .have hP1:=hP.keepS hW1 K1
  have hO1:=zhy hO K1.nf λf hf=>K1.fam f hf
  rw[q]at he
  simp only at he
  rw[he]at hn hs
  simp
  exact zuS V hP1 hO1 (by simp[a2]) (by simp[a3]) (by simp[a4]) hn hs
 .have hP1:=hP.keepS hW1 K1
  have hO1:=zhy hO K1.nf λf hf=>K1.fam f hf
  rw[q]at he
  simp only at he
  have mo1:=hP1.mo
  have hlt:=zqk q
  have f1:=zhA hO1
  simp[a2,a4,mo1,f1]
  refine zsU V hW1 (λe q2=>?_) ?_
  .intro J' K
   simp
   exact hP1.hand K (by simp[zd5,a2]) (by simp[zd5,a3]) (hn e (by rw[he,q2];rfl))
  .intro f s2 q2 pv lv tv Z2 hp hl hW2 hx2 KF hfam hls
   rw[q2]at he
   simp only[Except.bind]at he
   have x0:=hP.x0
   have hx1:=hW1.hx
   have mo2:=(KF.obj J.no (by omega) (by omega) (by omega)).trans mo1
   have eo2:=(KF.obj (J.no+1) (by omega) (by omega) (by omega)).trans hP1.eo
   have p1:=hp.one
   have l1:=hl.one
   obtain⟨lv2,ho2,htv⟩:=hW2.cells
   rw[hx2]at ho2
   cases ho2
   have t1:=htv.one
   have hne:=zeT q2
   have An:=hP1.ad.nf
   have Ad2:zb J Z2:=KF.adds0 hP1.ad (by omega) (by omega)
   rw[hls]at htv
   rcases htv with ⟨h0,_⟩|⟨gN,tos,rfl,t2,t3,t4,t5⟩
   .exact absurd h0 hne.1
   .have hgN:Z1.nf<=gN:=hfam gN rfl
    have hrow:Al.FVE (.agg [.str f.name,pv,lv,.int .i64 f.type,.sl (.fam gN false) 1 tos]) (f,gN):=⟨pv,lv,_,rfl,hp,hl,.inr ⟨tos,rfl,t5⟩⟩
    simp[mo2,f1,p1,l1,a2]
    have hlen2:l.length<=2^36:=by omega
    refine zuT hO1 hrow KF.nf KF.fam An hgN t3 t4 (by omega) λv' Z' O' e1 e2 e3 e4=>?_
    have g1:=zhA O'
    have mo3:Z'.objs J.no=some [fv,.int .i64 mem,.int .i64 0]:=by rw[e1];exact mo2
    have eo3:Z'.objs (J.no+1)=some [.int .i64 0]:=by rw[e1];exact eo2
    have kn:=KF.nf
    have hW3:Wr base x s2 Z':=hW2.famF e1 e2 (by omega) λf' hf'=>by
     rcases hf' with rfl|⟨cs,w,u1,u2,u3⟩
     .exact e4 0 (by omega) (.inl h00)
     .rw[hx2]at u1
      cases u1
      simp at u2
      subst u2
      cases u3
      exact e4 gN t3 (.inr hgN)
    have An2:=Ad2.no
    have Af2:=Ad2.nf
    have Ad3:zb J Z':=⟨by omega,by omega,λo ho=>by rw[e1];exact Ad2.obj o ho,λf' hf'=>(e4 f' (by omega) (.inl hf')).trans (Ad2.fam f' hf')⟩
    have hP3:PsW J base x s2 fv mem 0 Z':=⟨hW3,Ad3,x0,hP.b0,mo3,eo3⟩
    have hP4:=hP3.setM (fv':=v') (mem':=mem) (mn':=0)
    have O4:Al.OutE (Z'.setO J.no [v',.int .i64 mem,.int .i64 0]) J.nf v' (l++[f]):=zhy O' (yah _) λ_ _=>rfl
    simp[mo3,splice,g1,a2]
    refine⟨⟨k,l++[f],s2,v',he,by omega,by simp;omega,hP4,O4,by simp[a2],by simp[a3],by simp[a4]⟩,?_⟩
    rw[zfS hP4.rd,hmb]
    omega
theorem zeU(V:zb3 G)(h00:0<J.nf/\J.F 0=.alive){b:List UInt8}(hok:zj8 b)(hl:b.length<2^36)
  (hn:∀e,za8 24 b=.error e->∀J',zb J J'->R (.ret (.tuple [zaO,.int .i64 e])) J')
  (hs:∀m,za8 24 b=.ok m->∀mv J',Al.ME J' J.nf mv m->zb J J'->R (.ret (.tuple [mv,.int .i64 0])) J'):zzQ G 19 [.str b] J R:=by
 refine zfN (px:=zBv) (pz:=zBw) (k:=55) (py:=zhZ) (n:=45) (nk:=9) (t:=5) (d0:=3) (d1:=2) (res:=[.cell 2 28,.cell 3 33]) zt5 Tryz.func19 rfl rfl rfl rfl (by kernel_rfl) (by kernel_rfl) (by simp) rfl rfl rfl rfl rfl rfl (by decide) Tryz.func55 rfl (by kernel_rfl) rfl rfl rfl rfl rfl rfl rfl rfl rfl (by kernel_rfl) (by decide) (by decide) (by decide) ?_
 have hpe:za8 24 b=(zcb 24 ⟨b,[]⟩).map (·.1):=rfl
 have hn':∀e,zcb 24 ⟨b,[]⟩=.error e->∀J',zb J J'->R (.ret (.tuple [zaO,.int .i64 e])) J':=λe q=>hn e (by rw[hpe,q];rfl)
 have hs':∀m s',zcb 24 ⟨b,[]⟩=.ok (m,s')->∀mv J',Al.ME J' J.nf mv m->zb J J'->R (.ret (.tuple [mv,.int .i64 0])) J':=λm s' q=>hs m (by rw[hpe,q];rfl)
 clear hn hs hpe
 simp[zBv]
 have ecap:List.map (ev G (upd (upd (zb5 [.str b]) 2 (yde J.no 0)) 3 (yde (J.no+1) 0))) #[Operand.tmp 2,Operand.tmp 3].toList=[.ptr J.no 0,.ptr (J.no+1) 0]:=rfl
 rw[ecap]
 generalize hfr:upd (upd (upd (zb5 [.str b]) 2 (yde J.no 0)) 3 (yde (J.no+1) 0)) 5 (AV.fn (Fn.func 55) [] [yde J.no 0,yde (J.no+1) 0])=fr
 have fr0:fr 0=.str b:=by rw[<-hfr];simp
 have fr2:fr 2=.ptr J.no 0:=by rw[<-hfr];simp
 have fr3:fr 3=.ptr (J.no+1) 0:=by rw[<-hfr];simp
 rw[zhz]at hs'
 simp only[zhz]at hn'
 simp[zBw,fr0,splice]
 have hP:PsW J J.nf (J.no+1+1) ⟨b,[]⟩ .nilsl 0 0 (((J.newO [yc9,yc6 yam 0,yc6 yam 0]).newO [yc6 yam 0]).newO [yc8 b,yc9]) :=
  ⟨⟨by simp,⟨by simpa using h00.1,by simp⟩,by simpa using h00.2,hok,hl,.nilsl,by simp,.inl ⟨rfl,rfl⟩⟩,(zb.refl J).newO.newO.newO,by omega,yah _,by
   have:¬J.no=J.no+1+1:=by omega
   simp[this],by simp⟩
 have hno:(((J.newO [yc9,yc6 yam 0,yc6 yam 0]).newO [yc6 yam 0]).newO [yc8 b,yc9]).no=J.no+1+1+1:=by simp
 have hnf:(((J.newO [yc9,yc6 yam 0,yc6 yam 0]).newO [yc6 yam 0]).newO [yc8 b,yc9]).nf=J.nf:=by simp
 generalize ((J.newO [yc9,yc6 yam 0,yc6 yam 0]).newO [yc6 yam 0]).newO [yc8 b,yc9]=Z0 at *
 refine Hd.fields_calls V.space λy J' A y1 y2 y3=>?_
 have hP1:=hP.adds A
 simp
 refine zm6 (ts:=zaF) hP1.rd (.inr ⟨y,rfl,y2,by omega,y3⟩) (by decide) (λe q=>?_) (λs1 q Z1 hW1 K1=>?_)
 .intro J'' K
  simp
  exact hP1.hand K (by simp[zd5,fr2]) (by simp[zd5,fr3]) (hn' e (by rw[q];rfl))
 .have hP2:=hP1.keepS hW1 K1
  rw[q]at hs'
  simp only[q,Except.bind]at hn' hs'
  simp
  refine zm7 V hW1 (λe q2=>?_) (λmem s2 q2 r1 r2 Z2 hW2 K2=>?_)
  .intro J'' K
   simp
   exact hP2.hand K (by simp[zd5,fr2]) (by simp[zd5,fr3]) (hn' e (by rw[q2]))
  .have hP3:=hP2.keepS hW2 K2
   rw[q2]at hs'
   simp only[q2]at hn' hs'
   have mo3:=hP3.mo
   simp[fr2,mo3,splice]
   have hP4:=hP3.setM (fv':=.nilsl) (mem':=mem) (mn':=0)
   generalize Z2.setO J.no [.nilsl,.int .i64 mem,.int .i64 0]=Z3 at *
   refine zm6 (ts:=[zd,zd]) hP4.rd (.inl ⟨true,rfl⟩) (by decide) (λe q3=>?_) (λs4 q3 Z4 hW4 K4=>?_)
   .intro J'' K
    simp
    exact hP4.hand K (by simp[zd5,fr2]) (by simp[zd5,fr3]) (hn' e (by rw[q3]))
   .have hP5:=hP4.keepS hW4 K4
    rw[q3]at hs'
    simp only[q3]at hn' hs'
    simp
    refine zy (PlI J J.nf (J.no+1+1) mem (s4.b.length+1) s4) (MBt (J.no+1+1)) ⟨s4.b.length+1,[],s4,.nilsl,rfl,by omega,by simp,hP5,.inl ⟨rfl,rfl⟩,by simp[fr2],by simp[fr3],by simp⟩ λa Z hI=>?_
    exact zsW V h00.1 hW4.len hn' hs' hI
end
end Go.Proofs.YtohfclafhegadaaGreatDoor
namespace Go.Proofs.YtohfclafhegadaaGreatDoor
open Go Go.Abs Go.Shelf Go.RowKit
theorem zIl:liesAt yb9 yb9.depth 88 (2/yb9.cellsOf 88) 0 86 1=true:=by kernel_rfl
theorem u84:yb9.underlying 84=some (.pointer 86):=by kernel_rfl
theorem zMb:yb9.underlying 244=some .unsafePointer:=by kernel_rfl
theorem zBQ:(yb9.info? 86).map (·.size)=some 2:=by kernel_rfl
set_option maxHeartbeats 1000000 in
theorem zEd(b:Nat)(w:World)(h0:w.cell? ⟨b,0,none⟩=some (.pointer (some ⟨b,0,none⟩))):
  Calls yb9 175 #[.pointer (some ⟨b,0,none⟩)] w λe w'=>e=.returned (.tuple #[])/\w'=w:=by
 obtain⟨j,hj,_⟩:=ybB.1 zBQ
 go_enter ydR,ydS
 go_wp2
 rw[Lib.run_neq_ptr_same w _ u84 hj]
 go_wp2
 go_end0
 exact⟨rfl,rfl⟩
set_option maxHeartbeats 1000000 in
theorem zy9(b:Nat)(w:World)(h0:w.cell? ⟨b,0,none⟩=some (.pointer none))(hsh:w.shape? b=some (88,2))(hfz:w.frozen? ⟨b,0,none⟩=false):
  Calls yb9 175 #[.pointer (some ⟨b,0,none⟩)] w λe w'=>e=.returned (.tuple #[])/\w'=w.setCell ⟨b,0,none⟩ (.pointer (some ⟨b,0,none⟩)):=by
 obtain⟨j,hj,hjs⟩:=ybB.1 zBQ
 go_enter ydR,ydS
 go_wp2
 rw[Lib.run_to_unsafe w ⟨b,0,none⟩ u84 zMb hj (by rw[hjs];decide) hsh (Nat.zero_lt_succ 1)]
 simp only[Result.andThen]
 rw[Oper.upon_value]
 go_wp2
 rw[run_callFunc_extern Tryz.func211 (by kernel_rfl) (by kernel_rfl) (by kernel_rfl) (e:=Extern.AbiNoEscape.same) (by kernel_rfl)]
 rw[Lib.run_noEscape]
 simp only[Result.andThen]
 rw[Oper.upon_value]
 go_wp2
 rw[Lib.run_from_unsafe w ⟨b,0,none⟩ zMb u84 hj hsh zIl]
 simp only[Result.andThen]
 rw[Oper.upon_value]
 go_wp2
 go_end0
 exact⟨rfl,rfl⟩
section
variable {G : Env} {J : AS} {R : Out -> AS -> Prop}
def zIm(o:Nat)(v:AV):Prop:=v=.nilp\/v=.pt 88 2 o 0
theorem zkg{o:Nat}{v u:AV}(ho:J.objs o=some [v,u])(hv:zIm o v)(h:∀J',J'=J.setO o [.pt 88 2 o 0,u]->R (.ret (.tuple [])) J'):zzQ G 175 [.pt 88 2 o 0] J R:=by
 intro M w cargs S g hc
 obtain⟨c,rfl,hcv⟩:=zD1 hc
 obtain⟨q1,q2,⟨cc,z,q3,q4⟩,rfl⟩:=zqQ hcv
 obtain⟨r1,r2,r3⟩:=S.obj o _ ho
 obtain⟨c0,s1,s2,s3⟩:=r3 0 (by simp)
 rw[q2]at s1 s2
 simp only[Nat.zero_add,yaK]at s1 s2
 have hpt:VR M J.F w (.pt 88 2 o 0) (.pointer (some ⟨(M.obj o).1,0,none⟩)):=hcv
 rcases hv with rfl|rfl
 .have hc0:c0=.pointer none:=by
   simp only[yaz]at s3
   cases s3
   rfl
  subst hc0
  have hsh:w.shape? (M.obj o).1=some (88,2):=by simp[World.shape?,q3,q4]
  refine(zy9 _ w s1 hsh s2).mono λe w' ⟨he,hw⟩=>?_
  subst he
  obtain⟨w2,hrun,S',E'⟩:=znT (P:=yb9) S ho (off:=0) (vs:=[.pt 88 2 o 0]) (l:=[.pointer (some ⟨(M.obj o).1,0,none⟩)]) (by simp) rfl (by simp[Value.oneCell']) (λj h1 h2=>by
   have:j=0:=by simp at h1;omega
   subst this
   exact hpt)
  have hw2:w2=w':=by
   have hrun2:=run_storeCells_cells (P:=yb9) (M.obj o).1 ((M.obj o).2+0) [.pointer (some ⟨(M.obj o).1,0,none⟩)] 0 w (λj hj=>by
    have:j=0:=by simp at hj;omega
    subst this
    rw[q2]
    simp only[Nat.zero_add,yaK]
    rw[s1];rfl) (λj hj=>by
    have:j=0:=by simp at hj;omega
    subst this
    rw[q2]
    simpa using s2) (by simp[Value.oneCell'])
   rw[hrun2]at hrun
   cases hrun
   rw[hw,q2]
   rfl
  subst hw2
  refine⟨.ret (.tuple []),_,M,h _ ?_,.tuple _ _ rfl (λj h=>absurd h (yaA _)),S',E'⟩
  simp[splice]
 .have hc0:c0=.pointer (some ⟨(M.obj o).1,0,none⟩):=by
   simp only[yaz]at s3
   exact(zqQ s3).2.2.2
  subst hc0
  refine(zEd _ w s1).mono λe w' ⟨he,hw⟩=>?_
  subst he hw
  have e1:J.setO o [.pt 88 2 o 0,u]=J:=by
   unfold AS.setO
   have:upd J.objs o (some [.pt 88 2 o 0,u])=J.objs:=by
    funext x
    by_cases hx:x=o
    .subst hx;simp[ho]
    .simp[hx]
   rw[this]
  refine⟨.ret (.tuple []),J,M,h _ e1.symm,.tuple _ _ rfl (λj h=>absurd h (yaA _)),S,.refl ..⟩
end
theorem zIn{P:Program}{G:Env}{f:FuncId}{args:List AV}{J:AS}{R:Out->AS->Prop}{o i:Nat}{cs:List AV}{e:Nat}(ho:J.objs o=some cs)(hi:cs[i]?=some .nilsl)(h:ACalls P G f args (J.setO o (splice cs i [.tys e .nilsl])) R):ACalls P G f args J R:=by
 intro M w cargs S g c
 have hil:i<cs.length:=(yaq.1 hi).1
 have hb:i+[AV.tys e .nilsl].length<=cs.length:=by simp only[yac,ybl];omega
 have S':Sim M (J.setO o (splice cs i [.tys e .nilsl])) w:=by
  refine⟨S.no,S.nf,S.role,λx cs' hx=>?_,λx y hx hy hxy=>?_⟩
  .by_cases hxo:x=o
   .subst hxo
    simp only[AS.setO,zf]at hx
    cases hx
    obtain⟨a1,a2,a3⟩:=S.obj x cs ho
    refine⟨a1,a2,λj hj=>?_⟩
    have hj':j<cs.length:=by rwa [zcH hb]at hj
    obtain⟨u,h1,h2,h3⟩:=a3 j hj'
    refine⟨u,h1,h2,?_⟩
    have e1:=zcN (cs:=cs) (vs:=[AV.tys e .nilsl]) (off:=i) (j:=j) hb
    rw[yau hj]at e1
    by_cases hji:j=i
    .subst hji
     rw[if_pos (by simp)]at e1
     simp only[Nat.sub_self,List.getElem?_cons_zero,yaR.injEq]at e1
     rw[e1]
     have e2:cs[j]=.nilsl:=by
      rw[yau hj']at hi
      exact yaR.inj hi
     rw[e2]at h3
     have e3:=zby h3
     subst e3
     exact .tys e .nilsl _ h3 trivial
    .rw[if_neg (by simp only[yac,ybl];omega),yau hj']at e1
     rw[yaR.inj e1]
     exact h3
   .simp only[AS.setO]at hx
    rw[zg _ _ hxo]at hx
    exact S.obj x cs' hx
  .have key:∀z,((J.setO o (splice cs i [.tys e .nilsl])).objs z).isSome=true->(J.objs z).isSome=true:=by
    intro z hz
    by_cases hzo:z=o
    .subst hzo;rw[ho];rfl
    .simp only[AS.setO]at hz;rwa [zg _ _ hzo]at hz
   exact S.inj x y (key x hx) (key y hy) hxy
 exact h M w cargs S' g c
theorem zMh:yb9.underlying 160=some (.pointer 5):=by kernel_rfl
theorem zIo:yb9.cellsOf 5=1:=by kernel_rfl
def zBR(J0 J:AS)(v:AV)(bs:List UInt8):Prop:=(bs=[]/\v=.tys 5 .nilsl)\/∃g,v=.tys 5 (.sl (.fam g false) 1 (B bs))/\J0.nf<=g/\g<J.nf/\J.F g=.alive/\bs≠[]
theorem zBR.one{J0 J v bs}(h:zBR J0 J v bs):v.known=true/\v.one=true/\v.cells=[v]:=by
 rcases h with ⟨_,rfl⟩|⟨g,rfl,_⟩<;>simp
structure Pw(J0:AS)(x:Nat)(bs:List UInt8)(Z:AS):Prop where
 x0:J0.no<=x
 hx:x<Z.no
 ad:zb J0 Z
 cells:∃hd v,Z.objs x=some [hd,v]/\zIm x hd/\zBR J0 Z v bs
structure PwK(x:Nat)(Z Z':AS):Prop where
 no:Z.no<=Z'.no
 obj:∀o,o<Z.no->o≠x->Z'.objs o=Z.objs o
theorem PwK.refl(x Z):PwK x Z Z:=⟨yah _,λ_ _ _=>rfl⟩
theorem PwK.trans{x a b c}(h:PwK x a b)(k:PwK x b c):PwK x a c:=⟨yai h.no k.no,λo h1 h2=>(k.obj o (yag h1 h.no) h2).trans (h.obj o h1 h2)⟩
theorem zb.pwk{x a b}(A:zb a b):PwK x a b:=⟨A.no,λo h _=>A.obj o h⟩
theorem PwK.set{x a b cs}(h:PwK x a b):PwK x a (b.setO x cs):=⟨h.no,λo h1 h2=>by
 simp[h2]
 exact h.obj o h1 h2⟩
theorem Pw.adds{J0 x bs Z Z'}(h:Pw J0 x bs Z)(A:zb Z Z'):Pw J0 x bs Z':=by
 obtain⟨hd,v,h1,h2,h3⟩:=h.cells
 refine⟨h.x0,yag h.hx A.no,h.ad.trans A,hd,v,(A.obj x h.hx).trans h1,h2,?_⟩
 rcases h3 with h3|⟨g,q1,q2,q3,q4,q5⟩
 .exact .inl h3
 .exact .inr ⟨g,q1,q2,yag q3 A.nf,(A.fam g q3).trans q4,q5⟩
section
variable {G : Env} {J : AS} {R : Out -> AS -> Prop}
theorem zLh{J0 x bs}(h:Pw J0 x bs J)(hl:bs.length<2^60)(hR:R (.ret (.int .i64 (bs.length:Int))) J):zzQ G 127 [.pt 88 2 x 0] J R:=by
 obtain⟨hd,v,h1,h2,h3⟩:=h.cells
 refine zxf rfl ?_
 rcases h3 with ⟨rfl,rfl⟩|⟨g,rfl,q2,q3,q4,q5⟩
 .simp[zDz,h1]
  exact hR
 .simp[zDz,h1]
  simpa [B]using hR
theorem zMi:elT yb9 32=some 5:=by kernel_rfl
theorem zBS{J0 Z:AS}{v:AV}{bs w:List UInt8}{K:AV->AS->Prop}(hb:zBR J0 Z v bs)(A:zb J0 Z)(hl:bs.length+w.length<2^46)
  (h:∀v' Z',zBR J0 Z' v' (bs++w)->Z'.objs=Z.objs->Z'.no=Z.no->zb J0 Z'->K v' Z'):zb8 (elT yb9 32) 1 1 v (B w) Z K:=by
 have An:=A.nf
 have Bl:(B w).length=w.length:=by simp[B]
 have Bb:(B bs).length=bs.length:=by simp[B]
 have Ba:B (bs++w)=B bs++B w:=by simp[B]
 rw[zMi]
 rcases hb with ⟨rfl,rfl⟩|⟨g,rfl,q2,q3,q4,q5⟩
 .rw[zmk]
  refine⟨rfl,by rw[Bl];simp at hl;omega,λe=>?_,λe=>?_⟩
  .have hw:w=[]:=by
    cases w with
    | nil=>rfl
    | cons c r=>simp[B]at e
   subst hw
   exact h _ _ (.inl ⟨rfl,rfl⟩) rfl rfl A
  .have hw:w≠[]:=λq=>e (by rw[q];rfl)
   exact h _ _ (.inr ⟨Z.nf,rfl,An,by simp,by simp,by simpa using hw⟩) (by simp) (by simp) A.newF
 .rw[zml]
  refine⟨rfl,rfl,by rw[Bl,Bb];omega,q4,?_⟩
  refine h _ _ (.inr ⟨Z.nf,by rw[Ba],An,by simp,by simp,by simp[q5]⟩) (by simp) (by simp) ?_
  exact⟨A.no,by simp;omega,λo ho=>A.obj o ho,λf hf=>by
   have h1:¬f=Z.nf:=by omega
   have h2:¬f=g:=by omega
   simp[h1,h2]
   exact A.fam f hf⟩
theorem Pw.head{J0 x bs Z hd v}(h:Pw J0 x bs Z)(h1:Z.objs x=some [hd,v])(h3:zBR J0 Z v bs):Pw J0 x bs (Z.setO x [.pt 88 2 x 0,v]) :=
 ⟨h.x0,h.hx,h.ad.setO h.x0,_,v,by simp,.inr rfl,h3⟩
theorem zgS{J0 x bs w}(h:Pw J0 x bs J)(hl:bs.length+w.length<2^46)(hR:∀J' v,Pw J0 x (bs++w) J'->PwK x J J'->R (.ret v) J'):zzQ G 129 [.pt 88 2 x 0,.str w] J R:=by
 obtain⟨hd,v,h1,h2,h3⟩:=h.cells
 have v1:=h3.one
 refine zxh rfl ?_
 simp[zHb]
 refine zkg h1 h2 λJ1 e1=>?_
 have hx1:J1.objs x=some [.pt 88 2 x 0,v]:=by rw[e1];simp
 have hP1:Pw J0 x bs J1:=by rw[e1];exact h.head h1 h3
 have K1:PwK x J J1:=by rw[e1];exact(PwK.refl x J).set
 have h31:zBR J0 J1 v bs:=by rw[e1];exact h3
 simp[hx1,v1]
 refine zBS h31 hP1.ad hl λv' Z' b' o' n' A'=>?_
 have v1':=b'.one
 have hx2:Z'.objs x=some [.pt 88 2 x 0,v]:=by rw[o'];exact hx1
 have hlt:=hP1.hx
 simp[hx2,v1',splice]
 refine hR _ _ ⟨hP1.x0,by simp;omega,A'.setO hP1.x0,_,v',by simp,.inr rfl,?_⟩ (K1.trans (PwK.set ⟨by omega,λo q1 q2=>by rw[o']⟩))
 exact b'
theorem zql{J0 x bs}{c:UInt8}(h:Pw J0 x bs J)(hl:bs.length+1<2^46)(hR:∀J' v,Pw J0 x (bs++[c]) J'->PwK x J J'->R (.ret v) J'):zzQ G 128 [.pt 88 2 x 0,.int .u8 (c.toNat:Int)] J R:=by
 obtain⟨hd,v,h1,h2,h3⟩:=h.cells
 have v1:=h3.one
 refine zxg rfl ?_
 simp[zHa]
 refine zkg h1 h2 λJ1 e1=>?_
 have hx1:J1.objs x=some [.pt 88 2 x 0,v]:=by rw[e1];simp
 have hP1:Pw J0 x bs J1:=by rw[e1];exact h.head h1 h3
 have K1:PwK x J J1:=by rw[e1];exact(PwK.refl x J).set
 have h31:zBR J0 J1 v bs:=by rw[e1];exact h3
 simp[hx1,v1]
 refine zBS (w:=[c]) h31 hP1.ad hl λv' Z' b' o' n' A'=>?_
 have v1':=b'.one
 have hx2:Z'.objs x=some [.pt 88 2 x 0,v]:=by rw[o'];exact hx1
 have hlt:=hP1.hx
 simp[hx2,v1',splice]
 refine hR _ _ ⟨hP1.x0,by simp;omega,A'.setO hP1.x0,_,v',by simp,.inr rfl,?_⟩ (K1.trans (PwK.set ⟨by omega,λo q1 q2=>by rw[o']⟩))
 exact b'
theorem zAa{J0 x bs}(h:Pw J0 x bs J)(hne:bs≠[])(hl:bs.length<2^46)(hR:∀J',zb J0 J'->PwK x J J'->R (.ret (.str bs)) J'):zzQ G 67 [.pt 88 2 x 0] J R:=by
 obtain⟨hd,v,h1,h2,h3⟩:=h.cells
 refine zDh rfl ?_
 rcases h3 with ⟨rfl,rfl⟩|⟨g,rfl,q2,q3,q4,q5⟩
 .exact absurd rfl hne
 .simp[zLS,h1]
  refine⟨zMh,zIo,q4,bs,rfl,rfl,hne,by omega,?_⟩
  simp
  have A:=h.ad
  refine hR _ ⟨A.no,A.nf,A.obj,λf hf=>?_⟩ ⟨yah _,λ_ _ _=>rfl⟩
  have:¬f=g:=by omega
  simp[this]
  exact A.fam f hf
end
def zrH(bs w:List UInt8):List UInt8:=if bs=[]then w else bs++32::w
def zgT(bs:List UInt8)(ws:List (List UInt8)):List UInt8:=ws.foldl zrH bs
def spT(ts:List (List UInt8)):List UInt8:=ts.flatMap λt=>32::t
theorem zc(a b:List (List UInt8)):spT (a++b)=spT a++spT b:=by simp[spT]
theorem zrI:∀ts,zE ts=spT ts++[10]
 | []=>rfl
 | t::r=>by
  have:=zrI r
  simp only[zE,this,spT,yaa,ydc,ydp]
theorem zuU{bs w:List UInt8}(h:bs≠[]):zrH bs w=bs++32::w:=by unfold zrH;rw[if_neg h]
theorem zqm:∀(ws:List (List UInt8)) {bs:List UInt8},bs≠[]->zgT bs ws=bs++spT ws
 | [],bs,_=>by simp[zgT,spT]
 | w::r,bs,h=>by
  have e:zgT bs (w::r)=zgT (zrH bs w) r:=rfl
  rw[e,zuU h,zqm r (by simp)]
  simp[spT]
theorem zuV(bs w:List UInt8):bs.length<=(zrH bs w).length/\w.length<=(zrH bs w).length:=by
 unfold zrH
 split
 .rename_i h;subst h;simp
 .simp only[yab,yac];omega
theorem zuW:∀(ws:List (List UInt8)) (bs:List UInt8),bs.length<=(zgT bs ws).length
 | [],bs=>yah _
 | w::r,bs=>yai (zuV bs w).1 (zuW r (zrH bs w))
theorem zrJ(bs:List UInt8)(d r:List (List UInt8)):zgT bs (d++r)=zgT (zgT bs d) r:=by simp[zgT]
section
variable {G : Env} {J : AS} {R : Out -> AS -> Prop}
def SyI(J0:AS)(x:Nat)(bs:List UInt8)(ws:List (List UInt8))(J:AS)(a:Nat->AV)(Z:AS):Prop:=∃(d r:List (List UInt8)),ws=d++r/\a 0=.pt 88 2 x 0/\a 6=.sl (.stat true) 1 (ws.map yc8)/\a 7=.int .i64 (ws.length:Int)/\a 8=.int .i64 (d.length:Int)/\Pw J0 x (zgT bs d) Z/\PwK x J Z
theorem zBT{J0 x bs ws}(h:Pw J0 x bs J)(hw:ws.length<1000)(hl:(zgT bs ws).length<2^45)(hR:∀J' v,Pw J0 x (zgT bs ws) J'->PwK x J J'->R (.ret v) J'):zzQ G 63 [.pt 88 2 x 0,.sl (.stat true) 1 (ws.map yc8)] J R:=by
 refine zDe rfl ?_
 simp[zLQ]
 refine zy (SyI J0 x bs ws J) (MU 8 (ws.length+1)) ⟨[],ws,rfl,by simp,by simp,by simp,by simp,h,.refl ..⟩ λa Z hI=>?_
 obtain⟨d,r,hdr,a0,a6,a7,a8,hP,hK⟩:=hI
 cases r with
 | nil =>
  have e:ws=d:=by simpa using hdr
  have e2:ws.length=d.length:=by rw[e]
  rw[e2]at a7
  simp[zpO,a0,a6,a7,a8]
  exact hR _ _ (by rw[e];exact hP) hK
 | cons t r =>
  have hlt:(d.length:Int)<(ws.length:Int):=by simp[hdr];omega
  have hi:ws[d.length]?=some t:=by simp[hdr]
  have w1:yb4 .i64 ((d.length:Int)+1)=((d.length+1:Nat):Int):=by rw[wrap_i64]<;>omega
  have e3:zgT bs ws=zgT (zrH (zgT bs d) t) r:=by rw[hdr,zrJ];rfl
  have l1:(zrH (zgT bs d) t).length<=(zgT bs ws).length:=by rw[e3];exact zuW _ _
  have l2:=zuV (zgT bs d) t
  have e4:zgT bs (d++[t])=zrH (zgT bs d) t:=by rw[zrJ];rfl
  simp[zpO,a0,a6,a7,a8,hlt,hi]
  refine zLh hP (by omega) ?_
  by_cases hb:zgT bs d=[]
  .have e5:zrH (zgT bs d) t=t:=by unfold zrH;rw[if_pos hb]
   rw[hb]at hP
   simp[hb,a0]
   refine zgS (w:=t) hP (by simp;omega) λZ' v' P' K'=>?_
   simp[a0,a6,a7,a8,w1]
   refine⟨⟨d++[t],r,by simp[hdr],by simp[a0],by simp[a6],by simp[a7],by simp,?_,hK.trans K'⟩,?_⟩
   .rw[e4,e5];simpa using P'
   .simp[MU,a8];omega
  .have hpos:(0:Int)<((zgT bs d).length:Int):=by have:=ybm.2 hb;omega
   have hposN:0<(zgT bs d).length:=by omega
   have e5:zrH (zgT bs d) t=zgT bs d++32::t:=zuU hb
   rw[e5]at l1
   simp only[yab,yac]at l1
   simp[hpos,hposN,hb,a0]
   refine zql (c:=32) hP (by omega) λZ1 v1 P1 K1=>?_
   simp[a0]
   refine zgS (w:=t) P1 (by simp;omega) λZ' v' P' K'=>?_
   simp[a0,a6,a7,a8,w1]
   refine⟨⟨d++[t],r,by simp[hdr],by simp[a0],by simp[a6],by simp[a7],by simp,?_,(hK.trans K1).trans K'⟩,?_⟩
   .rw[e4,e5];simpa using P'
   .simp[MU,a8];omega
theorem znb{op:Int}(h:op=11\/op=12\/op=13)(hR:R (.ret (.str (zaT op))) J):zzQ G 132 [.int .i64 op] J R:=by
 refine zxk rfl ?_
 rcases h with rfl|rfl|rfl
 .simp[zxj]
  exact hR
 .simp[zxj]
  exact hR
 .simp[zxj]
  exact hR
theorem zuX{n:Int}{a b:List UInt8}(h:n=1\/n=4\/n=8)(hR:R (.ret (.str (if n=1 then a else b))) J):zzQ G 177 [.int .i64 n,.str a,.str b] J R:=by
 refine zxQ rfl ?_
 rcases h with rfl|rfl|rfl
 .simp[zxP]
  simpa using hR
 .simp[zxP]
  simpa using hR
 .simp[zxP]
  simpa using hR
theorem zkh(t:Int):(zr t).length=3:=by unfold zr;split<;>rfl
theorem zoP{t:Int}(h:zac t=true):t=1\/t=2:=by simpa [zac]using h
theorem zAb{t n:Int}(h:zfP t n=true):(t=1\/t=2)/\(n=1\/n=4\/n=8):=by
 unfold zfP at h
 simp at h
 omega
theorem znc{w:W}(h:zT w=true):1<=w.op/\w.op<=18/\(w.op=1\/w.op=4\/w.op=5\/w.op=8\/w.op=9->w.ty=1\/w.ty=2)/\(w.op=8\/w.op=9->w.n=1\/w.n=4\/w.n=8)/\(w.op=4->zbW signs w.name≠[]):=by
 unfold zT at h
 split at h
 .rename_i h1
  have:=zoP h
  refine⟨by omega,by omega,λ_=>this,λ_=>by omega,λ_=>by omega⟩
 .split at h
  .rename_i h1 h2
   simp only[Bool.and_eq_true]at h
   have:=zoP h.1
   refine⟨by omega,by omega,λ_=>this,λ_=>by omega,λ_=>?_⟩
   simpa using h.2
  .split at h
   .rename_i h1 h2 h3
    have:=zAb h
    exact⟨by omega,by omega,λ_=>this.1,λ_=>this.2,λ_=>by omega⟩
   .simp at h
    refine⟨by omega,by omega,λ_=>by omega,λ_=>by omega,λ_=>by omega⟩
theorem zuY{w:W}(hf:zT w=true)(hn:zbv w=false)(h:∀J',zb J J'->R (.ret (.str (zp w))) J'):zzQ G 133 [w.av] J R:=by
 refine zxl rfl ?_
 obtain⟨f1,f2,f3,f4,f5⟩:=znc hf
 have A1:zb J (J.newO w.cs):=(zb.refl J).newO
 have hn':w.op≠11/\w.op≠12/\w.op≠13:=by simpa [zbv,and_assoc]using hn
 have hc:w.op=1\/w.op=2\/w.op=3\/w.op=4\/w.op=5\/w.op=6\/w.op=7\/w.op=8\/w.op=9\/w.op=10\/w.op=14\/w.op=15\/w.op=16\/w.op=17\/w.op=18:=by omega
 have tl:=zkh w.ty
 have key:∀t,zp w=t->R (.ret (.str t)) (J.newO w.cs):=λt e=>e▸h _ A1
 rcases hc with e|e|e|e|e|e|e|e|e|e|e|e|e|e|e
 .simp[zfD,W.av,W.cs,e]
  refine zgi (f3 (by omega)) ?_
  simp[tl]
  have:=key _ (by unfold zp;rw[if_pos e])
  simpa [W.cs,e]using this
 .have:=key [108,111,99,97,108,46,103,101,116] (by simp[zp,e])
  simp[zfD,W.av,W.cs,e]
  simpa [W.cs,e]using this
 .have:=key [108,111,99,97,108,46,115,101,116] (by simp[zp,e])
  simp[zfD,W.av,W.cs,e]
  simpa [W.cs,e]using this
 .have:=key (zr w.ty++46::w.name) (by simp[zp,e])
  have hl:=zhs w.name (f5 e)
  simp[zfD,W.av,W.cs,e]
  refine zgi (f3 (by omega)) ?_
  simp[tl]
  refine⟨by omega,?_⟩
  simpa [W.cs,e]using this
 .have:=key (zr w.ty++[46,101,113,122]) (by simp[zp,e])
  simp[zfD,W.av,W.cs,e]
  refine zgi (f3 (by omega)) ?_
  simp[tl]
  simpa [W.cs,e]using this
 .have:=key [105,51,50,46,119,114,97,112,95,105,54,52] (by simp[zp,e])
  simp[zfD,W.av,W.cs,e]
  simpa [W.cs,e]using this
 .have:=key [105,54,52,46,101,120,116,101,110,100,95,105,51,50,95,115] (by simp[zp,e])
  simp[zfD,W.av,W.cs,e]
  simpa [W.cs,e]using this
 .have:=key (zr w.ty++(if w.n=1 then [46,108,111,97,100,56,95,115]else [46,108,111,97,100])) (by simp[zp,e])
  simp[zfD,W.av,W.cs,e]
  refine zgi (f3 (by omega)) ?_
  simp
  refine zuX (f4 (by omega)) ?_
  have ln:(if w.n=1 then [46,108,111,97,100,56,95,115]else([46,108,111,97,100]:List UInt8)).length<=8:=by split<;>decide
  simp[tl]
  refine⟨by omega,?_⟩
  simpa [W.cs,e]using this
 .have:=key (zr w.ty++(if w.n=1 then [46,115,116,111,114,101,56]else [46,115,116,111,114,101])) (by simp[zp,e])
  simp[zfD,W.av,W.cs,e]
  refine zgi (f3 (by omega)) ?_
  simp
  refine zuX (f4 (by omega)) ?_
  have ln:(if w.n=1 then [46,115,116,111,114,101,56]else([46,115,116,111,114,101]:List UInt8)).length<=8:=by split<;>decide
  simp[tl]
  refine⟨by omega,?_⟩
  simpa [W.cs,e]using this
 .have:=key [99,97,108,108] (by simp[zp,e])
  simp[zfD,W.av,W.cs,e]
  simpa [W.cs,e]using this
 .have:=key [98,114] (by simp[zp,e])
  simp[zfD,W.av,W.cs,e]
  simpa [W.cs,e]using this
 .have:=key [98,114,95,105,102] (by simp[zp,e])
  simp[zfD,W.av,W.cs,e]
  simpa [W.cs,e]using this
 .have:=key [114,101,116,117,114,110] (by simp[zp,e])
  simp[zfD,W.av,W.cs,e]
  simpa [W.cs,e]using this
 .have:=key [117,110,114,101,97,99,104,97,98,108,101] (by simp[zp,e])
  simp[zfD,W.av,W.cs,e]
  simpa [W.cs,e]using this
 .have:=key [100,114,111,112] (by simp[zp,e])
  simp[zfD,W.av,W.cs,e]
  simpa [W.cs,e]using this
end
theorem zuZ{w:W}(hf:zT w=true)(hn:zbv w=false):(zK zaA (zp w)).isSome=zah w:=by
 obtain⟨f1,f2,f3,f4,f5⟩:=znc hf
 have hn':w.op≠11/\w.op≠12/\w.op≠13:=by simpa [zbv,and_assoc]using hn
 have hc:w.op=1\/w.op=2\/w.op=3\/w.op=4\/w.op=5\/w.op=6\/w.op=7\/w.op=8\/w.op=9\/w.op=10\/w.op=14\/w.op=15\/w.op=16\/w.op=17\/w.op=18:=by omega
 have key:∀t b,zp w=t->zah w=b->(zK zaA t).isSome=b->(zK zaA (zp w)).isSome=zah w:=λt b e1 e2 e3=>by rw[e1,e2,e3]
 rcases hc with e|e|e|e|e|e|e|e|e|e|e|e|e|e|e
 .rcases f3 (by omega)with t|t
  .exact key [105,51,50,46,99,111,110,115,116] true (by simp[zp,e,t,zr,zBA]) (by simp[zah,e]) (by decide)
  .exact key [105,54,52,46,99,111,110,115,116] true (by simp[zp,e,t,zr,zBB]) (by simp[zah,e]) (by decide)
 .exact key [108,111,99,97,108,46,103,101,116] true (by simp[zp,e]) (by simp[zah,e]) (by decide)
 .exact key [108,111,99,97,108,46,115,101,116] true (by simp[zp,e]) (by simp[zah,e]) (by decide)
 .have ht:=f3 (by omega)
  have:=(zrv w.name (zfp (f5 e)) w.ty (by simpa using ht)).2.1
  exact key (zr w.ty++46::w.name) false (by simp[zp,e]) (by simp[zah,e]) (by rw[this];rfl)
 .rcases f3 (by omega)with t|t
  .exact key [105,51,50,46,101,113,122] false (by simp[zp,e,t,zr,zBA]) (by simp[zah,e]) (by decide)
  .exact key [105,54,52,46,101,113,122] false (by simp[zp,e,t,zr,zBB]) (by simp[zah,e]) (by decide)
 .exact key [105,51,50,46,119,114,97,112,95,105,54,52] false (by simp[zp,e]) (by simp[zah,e]) (by decide)
 .exact key [105,54,52,46,101,120,116,101,110,100,95,105,51,50,95,115] false (by simp[zp,e]) (by simp[zah,e]) (by decide)
 .have k:∀t n:Int,(t=1\/t=2)->(n=1\/¬n=1)->(zK zaA (zr t++(if n=1 then [46,108,111,97,100,56,95,115]else [46,108,111,97,100]))).isSome=false:=by
   intro t n ht hn
   rcases ht with rfl|rfl<;>rcases hn with rfl|hn
   .decide
   .rw[if_neg hn];decide
   .decide
   .rw[if_neg hn];decide
  exact key _ false (by simp only[zp,e];rfl) (by simp[zah,e]) (k w.ty w.n (f3 (by omega)) (by omega))
 .have k:∀t n:Int,(t=1\/t=2)->(n=1\/¬n=1)->(zK zaA (zr t++(if n=1 then [46,115,116,111,114,101,56]else [46,115,116,111,114,101]))).isSome=false:=by
   intro t n ht hn
   rcases ht with rfl|rfl<;>rcases hn with rfl|hn
   .decide
   .rw[if_neg hn];decide
   .decide
   .rw[if_neg hn];decide
  exact key _ false (by simp only[zp,e];rfl) (by simp[zah,e]) (k w.ty w.n (f3 (by omega)) (by omega))
 .exact key [99,97,108,108] true (by simp[zp,e]) (by simp[zah,e]) (by decide)
 .exact key [98,114] true (by simp[zp,e]) (by simp[zah,e]) (by decide)
 .exact key [98,114,95,105,102] true (by simp[zp,e]) (by simp[zah,e]) (by decide)
 .exact key [114,101,116,117,114,110] false (by simp[zp,e]) (by simp[zah,e]) (by decide)
 .exact key [117,110,114,101,97,99,104,97,98,108,101] false (by simp[zp,e]) (by simp[zah,e]) (by decide)
 .exact key [100,114,111,112] false (by simp[zp,e]) (by simp[zah,e]) (by decide)
theorem zki(l:List Int):(spT (l.map zr)).length=4*l.length:=by
 induction l with
 | nil=>rfl
 | cons t r ih=>simp only[yaL,spT,yaa,yab,yac,zkh]at *;omega
section
variable {G : Env} {J : AS} {R : Out -> AS -> Prop}
theorem za4{J0 x bs ws}(h:Pw J0 x bs J)(hb:bs≠[])(hw:ws.length<1000)(hl:(bs++spT ws).length<2^45)(hR:∀J' v,Pw J0 x (bs++spT ws) J'->PwK x J J'->R (.ret v) J'):zzQ G 63 [.pt 88 2 x 0,.sl (.stat true) 1 (ws.map yc8)] J R:=by
 have e:=zqm ws hb
 exact zBT h hw (by rw[e];exact hl) (by rw[e];exact hR)
def TpI(J0:AS)(x:Nat)(bs:List UInt8)(kw:List UInt8)(v:AV)(l:List Int)(J:AS)(a:Nat->AV)(Z:AS):Prop:=∃(d r:List Int),l=d++r/\a 0=.pt 88 2 x 0/\a 15=v/\a 16=.int .i64 (l.length:Int)/\a 17=.int .i64 (d.length:Int)/\Pw J0 x (bs++spT (zj::kw::d.map zr)) Z/\PwK x J Z
theorem ziV{J0 x bs kw l v}(h:Pw J0 x bs J)(hb:bs≠[])(hv:Al.IntsO J0 v l)(ht:∀t∈l,t=1\/t=2)(hl:(bs++spT (zD kw l)).length<2^45)(hR:∀J' u,Pw J0 x (bs++spT (zD kw l)) J'->PwK x J J'->R (.ret u) J'):zzQ G 65 [.pt 88 2 x 0,.str kw,v] J R:=by
 refine zDf rfl ?_
 have v1:=hv.one
 have vl:=hv.len
 by_cases h0:l=[]
 .subst h0
  have e:bs++spT (zD kw [])=bs:=by simp[zD,spT]
  rw[e]at hR
  simp[zK0,vl]
  exact hR _ _ h (.refl ..)
 .have hne:¬(l.length:Int)=0:=by have:=ybm.2 h0;omega
  have hneN:¬l.length=0:=by omega
  have e:zD kw l=zj::kw::(l.map zr++[zd]):=by unfold zD;rw[if_neg h0]
  have e2:spT (zD kw l)=spT (zj::kw::l.map zr)++spT [zd]:=by rw[e,<-zc];rfl
  rw[e2]at hl hR
  simp only[yab]at hl
  have e3:spT (zj::kw::l.map zr)=spT [zj,kw]++spT (l.map zr):=by rw[<-zc];rfl
  have hl3:=congrArg ycX e3
  simp only[yab]at hl3
  have hlt:=zki l
  simp[zK0,vl,hne,hneN,h0]
  refine za4 (ws:=[zj,kw]) h hb (by simp) (by rw[yab];omega) λJ1 u1 P1 K1=>?_
  simp[vl]
  refine zy (TpI J0 x bs kw v l J) (MU 17 (l.length+1)) ⟨[],l,rfl,by simp,by simp,by simp,by simp,P1,K1⟩ λa Z hI=>?_
  obtain⟨d,r,hdr,a0,a15,a16,a17,hP,hK⟩:=hI
  have hvt:=hv.keep hP.ad
  cases r with
  | nil =>
   have e5:l=d:=by simpa using hdr
   have e6:l.length=d.length:=by rw[e5]
   rw[e6]at a16
   simp[zmx,a0,a15,a16,a17,zua]
   refine za4 (ws:=[zd]) hP (by simp[hb]) (by simp) (by rw[<-e5,yab,yab];omega) λJ2 u2 P2 K2=>?_
   simp
   refine hR _ _ ?_ (hK.trans K2)
   rw[<-e5,ydp]at P2
   exact P2
  | cons t r =>
   have hlt2:d.length<l.length:=by simp[hdr]
   obtain⟨φ,hr,hat⟩:=hvt.at hlt2
   have hr':=hr.read
   have hlt3:(d.length:Int)<(l.length:Int):=by omega
   have hi:l[d.length]=t:=by simp[hdr]
   rw[hi]at hat
   have w1:yb4 .i64 ((d.length:Int)+1)=((d.length+1:Nat):Int):=by rw[wrap_i64]<;>omega
   have htt:=ht t (by rw[hdr];simp)
   have e7:bs++spT (zj::kw::d.map zr)++spT [zr t]=bs++spT (zj::kw::(d++[t]).map zr):=by
    rw[ydp,<-zc];simp
   have e8:spT (zj::kw::(d++[t]).map zr)=spT [zj,kw]++spT ((d++[t]).map zr):=by rw[<-zc];rfl
   have l8:=congrArg ycX e8
   simp only[yab]at l8
   have l9:=zki (d++[t])
   have l10:(d++[t]).length<=l.length:=by simp;omega
   simp[zmx,a0,a15,a16,a17,hlt2,hlt3,hat,hr',htt]
   refine zgi htt ?_
   simp
   refine za4 (ws:=[zr t]) hP (by simp[hb]) (by simp) (by rw[e7,yab];omega) λJ2 u2 P2 K2=>?_
   simp[a0,a15,a16,a17,w1]
   rw[e7]at P2
   refine⟨⟨d++[t],r,by simp[hdr],by simp[a0],by simp[a15],by simp[a16],by simp,P2,hK.trans K2⟩,?_⟩
   simp[MU,a17];omega
end
theorem zdq(c:Prop)[Decidable c](x y:List UInt8)(h1:x.length<=24)(h2:y.length<=24):(if c then x else y).length<=24:=by split<;>assumption
theorem zu0{w:W}(hf:zT w=true)(hn:zbv w=false):(zp w).length<=24:=by
 obtain⟨f1,f2,f3,f4,f5⟩:=znc hf
 have tl:=zkh w.ty
 by_cases e4:w.op=4
 .have hs:=zhs w.name (f5 e4)
  have e:zp w=zr w.ty++46::w.name:=by simp[zp,e4]
  rw[e]
  simp only[yab,yac,tl]
  omega
 .unfold zp
  rw[if_neg e4]
  have a:∀x:List UInt8,x.length<=21->(zr w.ty++x).length<=24:=λx hx=>by rw[yab,tl];omega
  refine zdq _ _ _ (a _ (by decide)) (zdq _ _ _ (by decide) (zdq _ _ _ (by decide) (zdq _ _ _ (by decide) (zdq _ _ _ (by decide) (zdq _ _ _ (by decide) (zdq _ _ _ (a _ (by decide)) (zdq _ _ _ (by decide) (zdq _ _ _ (by decide) (zdq _ _ _ (a _ ?_) (zdq _ _ _ (a _ ?_) (zdq _ _ _ (by decide) (zdq _ _ _ (by decide) (by decide)))))))))))))
  .split<;>decide
  .split<;>decide
theorem zu1{w:W}(hf:zT w=true)(hn:zbv w=false)(hr:RgW w):(spT (zcd w)).length<=64:=by
 have h1:=zu0 hf hn
 have h2:=Lib.itoa_length_le w.n (by have:=hr.1;omega) (by have:=hr.2;omega)
 unfold zcd
 split
 .simp[spT];omega
 .simp[spT];omega
theorem zIp{B:Nat}{ls:To}{d:Nat}{ws:List W}{acc acc':To}{toks:List Tok}{out:List W}(h:PrB B ls d ws acc toks out acc'):(spT toks).length+64*zeh acc<=64*(out.length+zeh acc'):=by
 induction h with
 | nil=>simp[spT]
 | leaf h1 h2 h3 _ ih =>
  have:=zu1 h2 h1 h3
  rw[zc,yab,yac]
  omega
 | @one d w b r acc tb b' acc1 t r' acc' _ _ _ _ _ _ ih1 ih2 =>
  have hol:(zaT w.op).length<=5:=by unfold zaT;split<;>(try split)<;>decide
  have e1:zaT w.op::(tb++zbE::t)=[zaT w.op]++(tb++([zbE]++t)):=rfl
  have e2:(spT [zaT w.op]).length=(zaT w.op).length+1:=by simp[spT]
  have e3:(spT [zbE]).length=4:=rfl
  rw[e1,zc,zc,zc]
  rw[zcO]at ih2
  simp only[yab,yac]
  omega
 | @two d w b e r acc tb b' acc1 te e' acc2 t r' acc' _ _ _ _ _ _ _ _ _ ih1 ih2 ih3 =>
  have e1:tIf::(tb++zaX::(te++zbE::t))=[tIf]++(tb++([zaX]++(te++([zbE]++t)))):=rfl
  have e2:(spT [tIf]).length=3:=rfl
  have e3:(spT [zbE]).length=4:=rfl
  have e4:(spT [zaX]).length=5:=rfl
  rw[e1,zc,zc,zc,zc,zc]
  rw[zcO]at ih2 ih3
  simp only[yab,yac]
  omega
theorem zfv(kw:Tok)(l:List Int)(h:kw.length<=6):(spT (zD kw l)).length<=4*l.length+12:=by
 unfold zD
 split
 .simp[spT]
 .have e:zj::kw::(l.map zr++[zd])=[zj]++([kw]++(l.map zr++[zd])):=rfl
  have e1:(spT [zj]).length=2:=rfl
  have e2:(spT [zd]).length=2:=rfl
  have e3:(spT [kw]).length=kw.length+1:=by simp[spT]
  rw[e,zc,zc,zc]
  simp only[yab,zki]
  omega
theorem zS(t:List UInt8):(spT [t]).length=t.length+1:=by simp[spT]
section
variable {G : Env} {J : AS} {R : Out -> AS -> Prop}
def zJ7(B:Nat)(G:Env)(J0:AS)(x:Nat)(ls:To)(d:Nat):Prop:=∀(J:AS) (R:Out->AS->Prop) (fv:AV) (f:F) (i:Int) (ws:List W) (toks:List Tok) (acc:To) (out:List W) (acc':To) (bs:List UInt8),f.lists=ls->Al.FVO J0 fv f->Pw J0 x bs J->bs≠[]->0<=i->ls[i.toNat]?=some ws->PrB B ls d ws acc toks out acc'->(bs++spT toks).length<2^45 ->
 (∀J' u,Pw J0 x (bs++spT toks) J'->PwK x J J'->R (.ret u) J')->zzQ G 66 [.pt 88 2 x 0,fv,.int .i64 i] J R
def LqI(B:Nat)(J0:AS)(x:Nat)(ls:To)(d:Nat)(fc:List AV)(o:Nat)(rv:AV)(ws:List W)(toks:List Tok)(acc':To)(bs:List UInt8)(J:AS)(a:Nat->AV)(Z:AS):Prop:=∃(j:Nat) (t1 t2:List Tok) (acc1:To) (out1:List W),j<=ws.length/\toks=t1++t2/\PrB B ls d (ws.drop j) acc1 t2 out1 acc' /\
 a 0=.pt 88 2 x 0/\a 4=.ptr o 0/\a 14=rv/\a 15=.int .i64 (ws.length:Int)/\a 16=.int .i64 (j:Int)/\Pw J0 x (bs++spT t1) Z/\PwK x J Z/\Z.objs o=some fc/\o<Z.no/\o≠x
theorem zqn{B:Nat}(V:zD0 G){J0 x ls d}(IH:d<B->zJ7 B G J0 x ls (d+1)){f:F}{pv lv tv rv:AV}{ws:List W}{toks:List Tok}{acc':To}{bs:List UInt8}{o:Nat}(hls:f.lists=ls)(hf:Al.FVO J0 (.agg [.str f.name,pv,lv,.int .i64 f.type,tv]) f)(h1:pv.known=true/\pv.one=true/\pv.cells=[pv])(h2:lv.known=true/\lv.one=true/\lv.cells=[lv])(h3:tv.known=true/\tv.one=true/\tv.cells=[tv])
  (hrv:Al.RepO J0 rv ws) (hwl:ws.length<=2^40) (hb:bs≠[]) (hl:(bs++spT toks).length<2^45) (hR:∀J' u,Pw J0 x (bs++spT toks) J'->PwK x J J'->R (.ret u) J') {a:Nat->AV} {Z:AS} (hI:LqI B J0 x ls d [.str f.name,pv,lv,.int .i64 f.type,tv] o rv ws toks acc' bs J a Z) :
  avc yb9 G 75 zeH (zan (λa' J'=>LqI B J0 x ls d [.str f.name,pv,lv,.int .i64 f.type,tv] o rv ws toks acc' bs J a' J'/\MU 16 (ws.length+1) a' J'<MU 16 (ws.length+1) a Z) (zai 0 (zcq yb9 [] R))) a Z:=by
 obtain⟨j,t1,t2,acc1,out1,hj,ht,hpr,a0,a4,a14,a15,a16,hP,hK,ho,hon,hox⟩:=hI
 by_cases hlt:j<ws.length
 .have hdrop:ws.drop j=ws[j]::ws.drop (j+1):=ydd hlt
  have hrt:=hrv.keep hP.ad
  obtain⟨φ,hr,hat⟩:=RepO.at hrt hlt
  have hr':=hr.read
  have hlti:(j:Int)<(ws.length:Int):=by omega
  have w1:yb4 .i64 ((j:Int)+1)=((j+1:Nat):Int):=by rw[wrap_i64]<;>omega
  rw[hdrop]at hpr
  generalize hw:ws[j]=w at *
  have A1:zb Z ((Z.newO zbn.cs).setO Z.no w.cs):=(zb.refl Z).newO.setO (yah _)
  have hP1:=hP.adds A1
  have K1:=hK.trans A1.pwk
  have o1:((Z.newO zbn.cs).setO Z.no w.cs).objs Z.no=some w.cs:=by simp
  have ho1:=(A1.obj o hon).trans ho
  have n1:((Z.newO zbn.cs).setO Z.no w.cs).no=Z.no+1:=by simp
  have hx:=hP.hx
  have hqx:Z.no≠x:=by omega
  have hbt:bs++spT t1≠[]:=by simp[hb]
  have hlt1:(bs++spT toks).length=bs.length+(spT t1).length+(spT t2).length:=by rw[ht,zc];simp only[yab];omega
  simp only[W.cs,zbn]at A1 o1 hP1 K1 ho1 n1
  have fin:∀(a':Nat->AV) (Z':AS) (t2a t2b:List Tok) (acc2 out2),t2=t2a++t2b->PrB B ls d (ws.drop (j+1)) acc2 t2b out2 acc'->Pw J0 x (bs++spT t1++spT t2a) Z'->PwK x J Z'->Z'.objs o=some [.str f.name,pv,lv,.int .i64 f.type,tv]->o<Z'.no->a' 0=.pt 88 2 x 0->a' 4=.ptr o 0->a' 14=rv->a' 15=.int .i64 (ws.length:Int)->a' 16=.int .i64 ((j+1:Nat):Int) ->
    LqI B J0 x ls d [.str f.name,pv,lv,.int .i64 f.type,tv] o rv ws toks acc' bs J a' Z'/\MU 16 (ws.length+1) a' Z'<MU 16 (ws.length+1) a Z:=by
   intro a' Z' t2a t2b acc2 out2 q1 q2 q3 q4 q5 q6 q7 q8 q9 q10 q11
   refine⟨⟨j+1,t1++t2a,t2b,acc2,out2,hlt,by rw[ht,q1,ydp],q2,q7,q8,q9,q10,q11,?_,q4,q5,q6,hox⟩,?_⟩
   .rw[zc,<-ydp];exact q3
   .simp[MU,a16,q11];omega
  cases hpr with
  | @leaf _ _ _ _ t r' _ hn hform hrg hpr' =>
   have hn':¬w.op=11/\¬w.op=12/\¬w.op=13:=by simpa [zbv,and_assoc]using hn
   simp[zeH,a0,a4,a14,a15,a16,hlt,hlti,hat,hr',W.av,W.cs,splice,hn']
   generalize (Z.newO [yc6 .i64 0,yc6 .i64 0,yc6 .i64 0,yc6 .i64 0,yc6 .i64 0,yc8 []]).setO Z.no [yc6 .i64 w.op,yc6 .i64 w.ty,yc6 .i64 w.n,yc6 .i64 w.body,yc6 .i64 w.other,yc8 w.name]=Z1 at *
   have hsp:(spT (zcd w++t)).length=(spT (zcd w)).length+(spT t).length:=by rw[zc,yab]
   refine zuY hform hn λZ2 A2=>?_
   have n2:=A2.no
   have lw:(zp w).length+1<=(spT (zcd w)).length:=by
    unfold zcd
    split
    .simp[spT]
    .simp[spT]
   simp[a0]
   refine za4 (ws:=[zp w]) (hP1.adds A2) hbt (by simp) (by rw[yab,yab,zS];omega) λZ3 u3 P3 K3=>?_
   have n3:=K3.no
   have q3:=(K3.obj Z.no (by omega) hqx).trans ((A2.obj Z.no (by omega)).trans o1)
   have r3:=(K3.obj o (by omega) hox).trans ((A2.obj o (by omega)).trans ho1)
   have K13:=(K1.trans A2.pwk).trans K3
   simp[q3]
   refine zuY hform hn λZ4 A4=>?_
   simp
   refine zlK λZ5 A5=>?_
   have A45:=A4.trans A5
   have n5:=A45.no
   have q5:=(A45.obj Z.no (by omega)).trans q3
   have r5:=(A45.obj o (by omega)).trans r3
   have P5:=P3.adds A45
   have K15:=K13.trans A45.pwk
   have hnum:=zuZ hform hn
   cases hfd:zK zaA (zp w)with
   | none =>
    rw[hfd]at hnum
    have hnum':zah w=false:=hnum.symm
    have e1:zcd w=[zp w]:=by unfold zcd;rw[hnum'];rfl
    have A6:zb Z5 ((Z5.newO [yc6 .i64 0,yc6 .i64 0,yc6 .i64 0,yc6 .i64 0,yc6 .i64 0,yc8 []]).setO Z5.no [yc6 .i64 0,yc6 .i64 0,yc6 .i64 0,yc6 .i64 0,yc6 .i64 0,yc8 []]):=(zb.refl Z5).newO.setO (yah _)
    simp[W.av,W.cs,zbn,splice,a0,a4,a14,a15,a16,w1]
    refine fin _ _ [zp w] t acc1 r' (by rw[e1]) hpr' (P5.adds A6) (K15.trans A6.pwk) ((A6.obj o (by omega)).trans r5) (by simp;omega) (by simp[a0]) (by simp[a4]) (by simp[a14]) (by simp[a15]) (by simp)
   | some w' =>
    rw[hfd]at hnum
    have hnum':zah w=true:=hnum.symm
    have e1:zcd w=[zp w,Lib.itoa w.n]:=by unfold zcd;rw[hnum'];rfl
    have A6:zb Z5 ((Z5.newO [yc6 .i64 0,yc6 .i64 0,yc6 .i64 0,yc6 .i64 0,yc6 .i64 0,yc8 []]).setO Z5.no w'.cs):=(zb.refl Z5).newO.setO (yah _)
    have P6:=P5.adds A6
    have K16:=K15.trans A6.pwk
    have q6:=(A6.obj Z.no (by omega)).trans q5
    have r6:=(A6.obj o (by omega)).trans r5
    have n6:=A6.no
    have hqn:¬Z.no=Z5.no:=by omega
    simp only[W.cs]at A6 P6 K16 q6 r6 n6
    simp[W.av,W.cs,splice,a0,q5,hqn]
    generalize (Z5.newO [yc6 .i64 0,yc6 .i64 0,yc6 .i64 0,yc6 .i64 0,yc6 .i64 0,yc8 []]).setO Z5.no [yc6 .i64 w'.op,yc6 .i64 w'.ty,yc6 .i64 w'.n,yc6 .i64 w'.body,yc6 .i64 w'.other,yc8 w'.name]=Z6 at *
    refine zfu V hrg ?_
    simp
    have l2:(spT (zcd w)).length=(zp w).length+1+((Lib.itoa w.n).length+1):=by rw[e1];simp[spT];omega
    refine za4 (ws:=[Lib.itoa w.n]) P6 (by simp[hb]) (by simp) (by rw[yab,yab,yab,zS,zS];omega) λZ7 u7 P7 K7=>?_
    have n7:=K7.no
    simp[a0,a4,a14,a15,a16,w1]
    refine fin _ _ [zp w,Lib.itoa w.n] t acc1 r' (by rw[e1]) hpr' ?_ (K16.trans K7) ((K7.obj o (by omega) hox).trans r6) (by omega) (by simp[a0]) (by simp[a4]) (by simp[a14]) (by simp[a15]) (by simp)
    have e2:spT [zp w,Lib.itoa w.n]=spT [zp w]++spT [Lib.itoa w.n]:=by rw[<-zc];rfl
    rw[e2,<-ydp]
    exact P7
  | @one _ _ b _ _ tb b' acc2 t r' _ hop hd hb0 hbs hpb hpr' =>
   have hnest:w.op=11\/w.op=12\/w.op=13:=by omega
   have hcond:¬(w.op=13/\0<=w.other):=by omega
   have hol:(zaT w.op).length<=5:=by unfold zaT;split<;>(try split)<;>decide
   have hsp:(spT (zaT w.op::(tb++zbE::t))).length=(zaT w.op).length+1+((spT tb).length+(4+(spT t).length)):=by
    have e1:zaT w.op::(tb++zbE::t)=[zaT w.op]++(tb++([zbE]++t)):=rfl
    rw[e1,zc,zc,zc]
    simp only[yab,zS]
    rfl
   rcases hnest with e|e|e
   .obtain⟨op,ty,n,body,other,name⟩:=w
    dsimp only at *
    subst e
    have wb:((body.toNat:Nat):Int)=body:=by omega
    simp[zeH,a0,a4,a14,a15,a16,hlt,hlti,hat,hr',W.av,W.cs,splice]
    generalize (Z.newO [yc6 .i64 0,yc6 .i64 0,yc6 .i64 0,yc6 .i64 0,yc6 .i64 0,yc8 []]).setO Z.no [yc6 .i64 11,yc6 .i64 ty,yc6 .i64 n,yc6 .i64 body,yc6 .i64 other,yc8 name]=Z1 at *
    refine znb (by omega) ?_
    simp
    refine za4 (ws:=[zaT 11]) hP1 hbt (by simp) (by rw[yab,yab,zS];omega) λZ2 u2 P2 K2=>?_
    have n2:=K2.no
    have q2:=(K2.obj Z.no (by omega) hqx).trans o1
    have r2:=(K2.obj o (by omega) hox).trans ho1
    simp[a0,a4,q2,r2]
    refine IH hd Z2 _ _ f body b tb _ _ _ _ hls hf P2 (by simp[hb]) hb0 hbs hpb (by rw[yab,yab,yab,zS];omega) λZ3 u3 P3 K3=>?_
    have n3:=K3.no
    have q3:=(K3.obj Z.no (by omega) hqx).trans q2
    have r3:=(K3.obj o (by omega) hox).trans r2
    simp[a0,q3]
    refine za4 (ws:=[zbE]) P3 (by simp[hb]) (by simp) (by rw[yab,yab,yab,yab,zS,zS];have:zbE.length=3:=rfl;omega) λZ4 u4 P4 K4=>?_
    have n4:=K4.no
    simp[a0,a4,a14,a15,a16,w1]
    refine fin _ _ ([zaT 11]++tb++[zbE]) t (acc2++[b']) r' (by simp) hpr' ?_ (((K1.trans K2).trans K3).trans K4) ((K4.obj o (by omega) hox).trans r3) (by omega) (by simp[a0]) (by simp[a4]) (by simp[a14]) (by simp[a15]) (by simp)
    rw[zc,zc]
    simpa [ydp]using P4
   .obtain⟨op,ty,n,body,other,name⟩:=w
    dsimp only at *
    subst e
    have wb:((body.toNat:Nat):Int)=body:=by omega
    simp[zeH,a0,a4,a14,a15,a16,hlt,hlti,hat,hr',W.av,W.cs,splice]
    generalize (Z.newO [yc6 .i64 0,yc6 .i64 0,yc6 .i64 0,yc6 .i64 0,yc6 .i64 0,yc8 []]).setO Z.no [yc6 .i64 12,yc6 .i64 ty,yc6 .i64 n,yc6 .i64 body,yc6 .i64 other,yc8 name]=Z1 at *
    refine znb (by omega) ?_
    simp
    refine za4 (ws:=[zaT 12]) hP1 hbt (by simp) (by rw[yab,yab,zS];omega) λZ2 u2 P2 K2=>?_
    have n2:=K2.no
    have q2:=(K2.obj Z.no (by omega) hqx).trans o1
    have r2:=(K2.obj o (by omega) hox).trans ho1
    simp[a0,a4,q2,r2]
    refine IH hd Z2 _ _ f body b tb _ _ _ _ hls hf P2 (by simp[hb]) hb0 hbs hpb (by rw[yab,yab,yab,zS];omega) λZ3 u3 P3 K3=>?_
    have n3:=K3.no
    have q3:=(K3.obj Z.no (by omega) hqx).trans q2
    have r3:=(K3.obj o (by omega) hox).trans r2
    simp[a0,q3]
    refine za4 (ws:=[zbE]) P3 (by simp[hb]) (by simp) (by rw[yab,yab,yab,yab,zS,zS];have:zbE.length=3:=rfl;omega) λZ4 u4 P4 K4=>?_
    have n4:=K4.no
    simp[a0,a4,a14,a15,a16,w1]
    refine fin _ _ ([zaT 12]++tb++[zbE]) t (acc2++[b']) r' (by simp) hpr' ?_ (((K1.trans K2).trans K3).trans K4) ((K4.obj o (by omega) hox).trans r3) (by omega) (by simp[a0]) (by simp[a4]) (by simp[a14]) (by simp[a15]) (by simp)
    rw[zc,zc]
    simpa [ydp]using P4
   .obtain⟨op,ty,n,body,other,name⟩:=w
    dsimp only at *
    subst e
    have hno:¬0<=other:=by omega
    have wb:((body.toNat:Nat):Int)=body:=by omega
    simp[zeH,a0,a4,a14,a15,a16,hlt,hlti,hat,hr',W.av,W.cs,splice]
    generalize (Z.newO [yc6 .i64 0,yc6 .i64 0,yc6 .i64 0,yc6 .i64 0,yc6 .i64 0,yc8 []]).setO Z.no [yc6 .i64 13,yc6 .i64 ty,yc6 .i64 n,yc6 .i64 body,yc6 .i64 other,yc8 name]=Z1 at *
    refine znb (by omega) ?_
    simp
    refine za4 (ws:=[zaT 13]) hP1 hbt (by simp) (by rw[yab,yab,zS];omega) λZ2 u2 P2 K2=>?_
    have n2:=K2.no
    have q2:=(K2.obj Z.no (by omega) hqx).trans o1
    have r2:=(K2.obj o (by omega) hox).trans ho1
    simp[a0,a4,q2,r2]
    refine IH hd Z2 _ _ f body b tb _ _ _ _ hls hf P2 (by simp[hb]) hb0 hbs hpb (by rw[yab,yab,yab,zS];omega) λZ3 u3 P3 K3=>?_
    have n3:=K3.no
    have q3:=(K3.obj Z.no (by omega) hqx).trans q2
    have r3:=(K3.obj o (by omega) hox).trans r2
    simp[a0,q3,hno]
    refine za4 (ws:=[zbE]) P3 (by simp[hb]) (by simp) (by rw[yab,yab,yab,yab,zS,zS];have:zbE.length=3:=rfl;omega) λZ4 u4 P4 K4=>?_
    have n4:=K4.no
    simp[a0,a4,a14,a15,a16,w1]
    refine fin _ _ ([zaT 13]++tb++[zbE]) t (acc2++[b']) r' (by simp) hpr' ?_ (((K1.trans K2).trans K3).trans K4) ((K4.obj o (by omega) hox).trans r3) (by omega) (by simp[a0]) (by simp[a4]) (by simp[a14]) (by simp[a15]) (by simp)
    rw[zc,zc]
    simpa [ydp]using P4
  | @two _ _ b e _ _ tb b' acc2 te e' acc3 t r' _ hop hot hd hb0 hbs hes hpb hpe hpr' =>
   have hsp:(spT (tIf::(tb++zaX::(te++zbE::t)))).length=3+((spT tb).length+(5+((spT te).length+(4+(spT t).length)))):=by
    have e1:tIf::(tb++zaX::(te++zbE::t))=[tIf]++(tb++([zaX]++(te++([zbE]++t)))):=rfl
    rw[e1,zc,zc,zc,zc,zc]
    simp only[yab,zS]
    rfl
   obtain⟨op,ty,n,body,other,name⟩:=w
   dsimp only at *
   subst hop
   have hoi:(zaT 13)=tIf:=rfl
   simp[zeH,a0,a4,a14,a15,a16,hlt,hlti,hat,hr',W.av,W.cs,splice]
   generalize (Z.newO [yc6 .i64 0,yc6 .i64 0,yc6 .i64 0,yc6 .i64 0,yc6 .i64 0,yc8 []]).setO Z.no [yc6 .i64 13,yc6 .i64 ty,yc6 .i64 n,yc6 .i64 body,yc6 .i64 other,yc8 name]=Z1 at *
   refine znb (by omega) ?_
   rw[hoi]
   simp
   refine za4 (ws:=[tIf]) hP1 hbt (by simp) (by rw[yab,yab,zS];have:tIf.length=2:=rfl;omega) λZ2 u2 P2 K2=>?_
   have n2:=K2.no
   have q2:=(K2.obj Z.no (by omega) hqx).trans o1
   have r2:=(K2.obj o (by omega) hox).trans ho1
   simp[a0,a4,q2,r2]
   refine IH hd Z2 _ _ f body b tb _ _ _ _ hls hf P2 (by simp[hb]) hb0 hbs hpb (by rw[yab,yab,yab,zS];have:tIf.length=2:=rfl;omega) λZ3 u3 P3 K3=>?_
   have n3:=K3.no
   have q3:=(K3.obj Z.no (by omega) hqx).trans q2
   have r3:=(K3.obj o (by omega) hox).trans r2
   simp[a0,q3,hot]
   refine za4 (ws:=[zaX]) P3 (by simp[hb]) (by simp) (by rw[yab,yab,yab,yab,zS,zS];have:zaX.length=4:=rfl;have:tIf.length=2:=rfl;omega) λZ4 u4 P4 K4=>?_
   have n4:=K4.no
   have q4:=(K4.obj Z.no (by omega) hqx).trans q3
   have r4:=(K4.obj o (by omega) hox).trans r3
   simp[a0,a4,q4,r4]
   refine IH hd Z4 _ _ f other e te _ _ _ _ hls hf P4 (by simp[hb]) hot hes hpe (by rw[yab,yab,yab,yab,yab,zS,zS];have:zaX.length=4:=rfl;have:tIf.length=2:=rfl;omega) λZ5 u5 P5 K5=>?_
   have n5:=K5.no
   have r5:=(K5.obj o (by omega) hox).trans r4
   simp[a0]
   refine za4 (ws:=[zbE]) P5 (by simp[hb]) (by simp) (by rw[yab,yab,yab,yab,yab,yab,zS,zS,zS];have:zaX.length=4:=rfl;have:tIf.length=2:=rfl;have:zbE.length=3:=rfl;omega) λZ6 u6 P6 K6=>?_
   have n6:=K6.no
   simp[a0,a4,a14,a15,a16,w1]
   refine fin _ _ ([tIf]++tb++[zaX]++te++[zbE]) t (acc3++[e']) r' (by simp) hpr' ?_ (((((K1.trans K2).trans K3).trans K4).trans K5).trans K6) ((K6.obj o (by omega) hox).trans r5) (by omega) (by simp[a0]) (by simp[a4]) (by simp[a14]) (by simp[a15]) (by simp)
   rw[zc,zc,zc,zc]
   simpa [ydp]using P6
 .have e:j=ws.length:=by omega
  rw[ydA (by omega)]at hpr
  cases hpr
  rw[yb7]at ht
  subst ht
  simp[zeH,a0,a4,a14,a15,a16,e]
  exact hR _ _ hP hK
theorem zlM{B:Nat}(V:zD0 G){J0 x ls d}(hsz:∀ws∈ls,ws.length<=2^40)(IH:d<B->zJ7 B G J0 x ls (d+1)):zJ7 B G J0 x ls d:=by
 intro J R fv f i ws toks acc out acc' bs hls hf hP hb hi hws hpr hl hR
 have hf0:=hf
 obtain⟨pv,lv,tv,rfl,i1,i2,i3⟩:=hf
 have h1:=i1.one
 have h2:=i2.one
 have h3:=i3.one
 obtain⟨hlt,hget⟩:=yaq.1 hws
 have hwl:=hsz ws (ydb hws)
 have i3t:=i3.keep hP.ad
 rw[<-hls]at hlt
 obtain⟨φ,rv,hr,hrv,hat⟩:=i3.at hlt
 obtain⟨φ',rv',hr',hrv',hat'⟩:=i3t.at hlt
 subst hls
 rw[hget]at hrv hrv'
 refine zDg rfl ?_
 have wi:((i.toNat:Nat):Int)=i:=by omega
 rw[wi]at hat hat'
 have hsame:ydT φ' rv'=ydT φ rv:=by
  have q1:=hat λv=>v=ydT φ rv
  have q2:=hat' λv=>v=ydT φ rv
  rw[<-q2,q1]
 injection hsame with hs1 hs2
 subst hs1 hs2
 have hrd:=hr'.read
 have v1:=hrv'.one
 have vl:=RepO.len hrv'
 have hx:=hP.hx
 simp[zLR,h1,h2,h3,hat',hrd,v1,vl]
 have A:zb J (J.newO [.str f.name,pv,lv,.int .i64 f.type,tv]):=(zb.refl J).newO
 refine zy (LqI B J0 x f.lists d [.str f.name,pv,lv,.int .i64 f.type,tv] J.no rv' ws toks acc' bs J) (MU 16 (ws.length+1)) ⟨0,[],toks,acc,out,Nat.zero_le _,rfl,by simpa using hpr,by simp,by simp,by simp,by simp,by simp,by simpa [spT]using hP.adds A,A.pwk,by simp,by simp,by omega⟩ λa Z hI=>?_
 exact zqn V IH rfl hf0 h1 h2 h3 hrv hwl hb hl hR hI
theorem zkj{B:Nat}(V:zD0 G){J0 x ls}(hsz:∀ws∈ls,ws.length<=2^40):∀k d:Nat,B<=d+k->zJ7 B G J0 x ls d
 | 0,d,hd=>zlM V hsz (λh=>by omega)
 | k+1,d,hd=>zlM V hsz (λ_=>zkj V hsz k (d+1) (by omega))
end
theorem zAc:spT zaF=32::za3:=by decide
theorem zu2(t:Int)(h:t≠0):zD zcv [t]=zgq t:=by
 unfold zD zgq
 rw[if_neg (by simp),if_neg h]
 rfl
section
variable {G : Env} {J : AS} {R : Out -> AS -> Prop}
def FlI(B:Nat)(J0:AS)(x mo:Nat)(fv:AV)(m:M)(toks:List Tok)(bs:List UInt8)(a:Nat->AV)(Z:AS):Prop:=∃(j:Nat) (t1 t2:List Tok) (fs2:List F),j<=m.funcs.length/\toks=t1++t2/\PrFsB B (m.funcs.drop j) t2 fs2/\a 1=.ptr mo 0/\a 3=.pt 88 2 x 0/\a 15=fv/\a 16=.int .i64 (m.funcs.length:Int)/\a 17=.int .i64 (j:Int) /\
 Pw J0 x (bs++spT t1) Z/\Z.objs mo=some [fv,.int .i64 m.memory,.int .i64 m.main]/\mo<Z.no/\mo≠x
theorem zsX{B:Nat}(V:zD0 G){J0 x mo fv}{m:M}{toks:List Tok}{bs:List UInt8}{mx:Nat}(hfv:Al.FsO J0 fv m.funcs)(hf:∀f∈m.funcs,Pf mx f)(hmx:mx<=1000)(hsz:∀f∈m.funcs,f.lists.length<=2^40/\∀ws∈f.lists,ws.length<=2^40)(hfl:m.funcs.length<=2^40)(hb:bs≠[])(hl:(bs++spT toks).length<2^44)
  (fin:∀(a:Nat->AV) (Z:AS),a 1=.ptr mo 0->a 3=.pt 88 2 x 0->Pw J0 x (bs++spT toks) Z->Z.objs mo=some [fv,.int .i64 m.memory,.int .i64 m.main]->avc yb9 G 66 zmr (zcq yb9 [.tmp 2] R) a Z) {a:Nat->AV} {Z:AS} (hI:FlI B J0 x mo fv m toks bs a Z) :
  avc yb9 G 66 zjA (zan (λa' J'=>FlI B J0 x mo fv m toks bs a' J'/\MU 17 (m.funcs.length+1) a' J'<MU 17 (m.funcs.length+1) a Z) (zai 0 (zan (avc yb9 G 66 zmr (zcq yb9 [.tmp 2] R)) (zcq yb9 [.tmp 2] R)))) a Z:=by
 obtain⟨j,t1,t2,fs2,hj,ht,hpr,a1,a3,a15,a16,a17,hP,hmo,hmon,hmox⟩:=hI
 by_cases hlt:j<m.funcs.length
 .have hdrop:m.funcs.drop j=m.funcs[j]::m.funcs.drop (j+1):=ydd hlt
  have hmem:m.funcs[j]∈m.funcs:=yaw hlt
  have hft:=hfv.keep hP.ad
  obtain⟨φ0,row0,hr0,hrow0,hat0⟩:=hfv.at hlt
  obtain⟨φ,row,hr,hrow,hat⟩:=hft.at hlt
  have hsame:ydT φ row=ydT φ0 row0:=by
   have q1:=hat0 λv=>v=ydT φ0 row0
   have q2:=hat λv=>v=ydT φ0 row0
   rw[<-q2,q1]
  injection hsame with hs1 hs2
  subst hs1 hs2
  have hr':=hr.read
  have hlti:(j:Int)<(m.funcs.length:Int):=by omega
  have w1:yb4 .i64 ((j:Int)+1)=((j+1:Nat):Int):=by rw[wrap_i64]<;>omega
  rw[hdrop]at hpr
  generalize hw:m.funcs[j]=f at *
  have hpf:=hf f hmem
  have hszf:=hsz f hmem
  obtain⟨pv,lv,tv,rfl,i1,i2,i3⟩:=id hrow0
  have p1:=i1.one
  have p2:=i2.one
  have p3:=i3.one
  have i3len:=i3.len
  have hnl:f.name.length<=1000:=by
   have:=hpf.name
   unfold zeg at this
   split at this
   .cases this
   .rename_i c r _
    simp only[Bool.and_eq_true,decide_eq_true_eq]at this
    omega
  have hlt1:(bs++spT toks).length=bs.length+(spT t1).length+(spT t2).length:=by rw[ht,zc];simp only[yab];omega
  simp[zjA,a1,a3,a15,a16,a17,hlt,hlti,hat,hr',p1,p2,p3,splice]
  have A1:zb Z ((Z.newO [.str [],.nilsl,.nilsl,.int .i64 0,.nilsl]).setO Z.no [.str f.name,pv,lv,.int .i64 f.type,tv]):=(zb.refl Z).newO.setO (yah _)
  have q1:((Z.newO [.str [],.nilsl,.nilsl,.int .i64 0,.nilsl]).setO Z.no [.str f.name,pv,lv,.int .i64 f.type,tv]).objs Z.no=some [.str f.name,pv,lv,.int .i64 f.type,tv]:=by simp
  have n1:((Z.newO [.str [],.nilsl,.nilsl,.int .i64 0,.nilsl]).setO Z.no [.str f.name,pv,lv,.int .i64 f.type,tv]).no=Z.no+1:=by simp
  have hP1:=hP.adds A1
  have hx:=hP.hx
  have hqx:Z.no≠x:=by omega
  have m1:=(A1.obj mo hmon).trans hmo
  refine⟨by omega,?_⟩
  generalize (Z.newO [.str [],.nilsl,.nilsl,.int .i64 0,.nilsl]).setO Z.no [.str f.name,pv,lv,.int .i64 f.type,tv]=Z1 at *
  cases hpr with
  | @cons _ _ tf ls' ts fs' hpF hprs =>
  obtain⟨row,out,acc,h1,h2,_⟩:=hpF
  have hl1:f.lists.length-1<f.lists.length:=(yaq.1 h1).1
  have wl:yb4 .i64 ((f.lists.length:Int)-1)=((f.lists.length-1:Nat):Int):=by
   have:=hszf.1
   rw[wrap_i64]<;>omega
  have hl0:(0:Int)<=((f.lists.length-1:Nat):Int):=by omega
  have hln:((f.lists.length-1:Nat):Int).toNat=f.lists.length-1:=by omega
  have hft1:spT (zdR f tf)=spT [zj,zap,36::f.name]++spT (zD zaW f.params)++spT (zgq f.type)++spT (zD zaf f.locals)++spT tf++spT [zd]:=by
   have:zdR f tf=[zj,zap,36::f.name]++zD zaW f.params++zgq f.type++zD zaf f.locals++tf++[zd]:=by simp[zdR]
   rw[this,zc,zc,zc,zc,zc]
  have hl2:(spT (zdR f tf++ts)).length=(spT [zj,zap,36::f.name]).length+(spT (zD zaW f.params)).length+(spT (zgq f.type)).length+(spT (zD zaf f.locals)).length+(spT tf).length+(spT [zd]).length+(spT ts).length:=by
   rw[zc,hft1]
   simp only[yab]
  refine za4 (ws:=[zj,zap,36::f.name]) hP1 (by simp[hb]) (by simp) (by simp only[yab];omega) λZ2 u2 P2 K2=>?_
  have n2:=K2.no
  have q2:=(K2.obj Z.no (by omega) hqx).trans q1
  have m2:=(K2.obj mo (by omega) hmox).trans m1
  simp[q2,a3,p1]
  refine ziV (kw:=zaW) P2 (by simp[hb]) i1 hpf.params (by simp only[yab];omega) λZ3 u3 P3 K3=>?_
  have n3:=K3.no
  have q3:=(K3.obj Z.no (by omega) hqx).trans q2
  have m3:=(K3.obj mo (by omega) hmox).trans m2
  by_cases hty:f.type=0
  .have hrz:zgq f.type=[]:=by unfold zgq;rw[if_pos hty]
   have hty':(f.type=0)=True:=eq_true hty
   simp[q3,a3,hty']
   have P4:=P3
   have K4:=PwK.refl x Z3
   have q4:=q3
   have m4:=m3
   have e4:bs++spT t1++spT [zj,zap,36::f.name]++spT (zD zaW f.params)=bs++spT t1++spT [zj,zap,36::f.name]++spT (zD zaW f.params)++spT (zgq f.type):=by rw[hrz];simp[spT]
   rw[e4]at P4
   generalize hZ4:Z3=Z4 at *
   simp[q4,a3]
   refine ziV (kw:=zaf) P4 (by simp[hb]) i2 hpf.locals (by simp only[yab];omega) λZ5 u5 P5 K5=>?_
   have n5:=K5.no
   have q5:=(K5.obj Z.no (by omega) hqx).trans q4
   have m5:=(K5.obj mo (by omega) hmox).trans m4
   simp[q5,a3,i3len,wl]
   refine zkj (B:=B) V (x:=x) hszf.2 B 0 (by omega) Z5 _ _ f _ row tf [] out acc _ rfl hrow0 P5 (by simp[hb]) hl0 (by rw[hln];exact h1) h2 (by simp only[yab];omega) λZ6 u6 P6 K6=>?_
   have n6:=K6.no
   have m6:=(K6.obj mo (by omega) hmox).trans m5
   simp[a3]
   refine za4 (ws:=[zd]) P6 (by simp[hb]) (by simp) (by simp only[yab];omega) λZ7 u7 P7 K7=>?_
   have n7:=K7.no
   have m7:=(K7.obj mo (by omega) hmox).trans m6
   simp[a1,a3,a15,a16,a17,w1]
   refine⟨⟨j+1,t1++zdR f tf,ts,fs',hlt,by rw[ht,ydp],hprs,by simp[a1],by simp[a3],by simp[a15],by simp[a16],by simp,?_,m7,by omega,hmox⟩,?_⟩
   .rw[zc,hft1]
    simpa [ydp]using P7
   .simp[MU,a17];omega
  .have hrz:=zu2 f.type hty
   have hty':(f.type=0)=False:=eq_false hty
   have htt:∀t∈[f.type],t=1\/t=2:=by
    intro t ht
    simp only[ydr]at ht
    subst ht
    have:=hpf.type
    omega
   simp[q3,a3,hty']
   refine ziV (kw:=zcv) (l:=[f.type]) P3 (by simp[hb]) (.inr ⟨.stat true,rfl,trivial⟩) htt (by rw[hrz];simp only[yab];omega) λZ4 u4 P4 K4=>?_
   rw[hrz]at P4
   have n4:=K4.no
   have q4:=(K4.obj Z.no (by omega) hqx).trans q3
   have m4:=(K4.obj mo (by omega) hmox).trans m3
   simp[q4,a3]
   refine ziV (kw:=zaf) P4 (by simp[hb]) i2 hpf.locals (by simp only[yab];omega) λZ5 u5 P5 K5=>?_
   have n5:=K5.no
   have q5:=(K5.obj Z.no (by omega) hqx).trans q4
   have m5:=(K5.obj mo (by omega) hmox).trans m4
   simp[q5,a3,i3len,wl]
   refine zkj (B:=B) V (x:=x) hszf.2 B 0 (by omega) Z5 _ _ f _ row tf [] out acc _ rfl hrow0 P5 (by simp[hb]) hl0 (by rw[hln];exact h1) h2 (by simp only[yab];omega) λZ6 u6 P6 K6=>?_
   have n6:=K6.no
   have m6:=(K6.obj mo (by omega) hmox).trans m5
   simp[a3]
   refine za4 (ws:=[zd]) P6 (by simp[hb]) (by simp) (by simp only[yab];omega) λZ7 u7 P7 K7=>?_
   have n7:=K7.no
   have m7:=(K7.obj mo (by omega) hmox).trans m6
   simp[a1,a3,a15,a16,a17,w1]
   refine⟨⟨j+1,t1++zdR f tf,ts,fs',hlt,by rw[ht,ydp],hprs,by simp[a1],by simp[a3],by simp[a15],by simp[a16],by simp,?_,m7,by omega,hmox⟩,?_⟩
   .rw[zc,hft1]
    simpa [ydp]using P7
   .simp[MU,a17];omega
 .have e:j=m.funcs.length:=by omega
  rw[ydA (by omega)]at hpr
  cases hpr
  rw[yb7]at ht
  subst ht
  simp[zjA,a1,a3,a15,a16,a17,e]
  exact fin _ _ (by simp[a1]) (by simp[a3]) hP hmo
theorem zhB(m:M)(toks:List Tok):zgg (zbZ m toks)=za3++spT [Lib.itoa m.memory,zd,zd]++spT toks++spT [zj,zbe,zeK,zj,zap,Lib.itoa (yb4 .i64 (m.main+3)),zd,zd,zd]++[10]:=by
 have e:zbZ m toks=zaF++[Lib.itoa m.memory,zd,zd]++toks++[zj,zbe,zeK,zj,zap,Lib.itoa (yb4 .i64 (m.main+3)),zd,zd,zd]:=by simp[zbZ,zBH]
 unfold zgg
 rw[zrI,e,zc,zc,zc,zAc]
 simp only[ydc,ydq]
theorem zkk{B:Nat}(V:zD0 G){m:M}{mv:AV}{toks:List Tok}{fs2:List F}{mx:Nat}(hm:Al.MO J mv m)(hpr:PrFsB B m.funcs toks fs2)(hf:∀f∈m.funcs,Pf mx f)(hmx:mx<=1000)(hsz:∀f∈m.funcs,f.lists.length<=2^40/\∀ws∈f.lists,ws.length<=2^40)(hfl:m.funcs.length<=2^40)
  (hmem:-(2^63)<=m.memory/\m.memory<2^63) (hl:(zgg (zbZ m toks)).length<2^43) (h:∀J',zb J J'->R (.ret (.str (zgg (zbZ m toks)))) J'):zzQ G 20 [mv] J R:=by
 refine zCU rfl ?_
 obtain⟨fv,rfl,hfv⟩:=hm
 have f1:=hfv.one
 have fl:=hfv.len
 rw[zhB]at hl
 simp only[yab]at hl
 simp[zLC,f1]
 have A1:zb J ((J.newO [fv,.int .i64 m.memory,.int .i64 m.main]).newO [.nilp,.nilsl]):=(zb.refl J).newO.newO
 have m1:((J.newO [fv,.int .i64 m.memory,.int .i64 m.main]).newO [.nilp,.nilsl]).objs J.no=some [fv,.int .i64 m.memory,.int .i64 m.main]:=by
  have:¬J.no=J.no+1:=by omega
  simp[this]
 have p1:((J.newO [fv,.int .i64 m.memory,.int .i64 m.main]).newO [.nilp,.nilsl]).objs (J.no+1)=some [.nilp,.nilsl]:=by simp
 have n1:((J.newO [fv,.int .i64 m.memory,.int .i64 m.main]).newO [.nilp,.nilsl]).no=J.no+2:=by simp
 generalize (J.newO [fv,.int .i64 m.memory,.int .i64 m.main]).newO [.nilp,.nilsl]=Z1 at *
 refine zfu V hmem ?_
 simp
 refine zIn (o:=J.no+1) (i:=1) (cs:=[.nilp,.nilsl]) (e:=5) p1 rfl ?_
 have e1:splice [AV.nilp,yc9] 1 [AV.tys 5 .nilsl]=[.nilp,.tys 5 .nilsl]:=rfl
 rw[e1]
 have hP0:Pw J (J.no+1) [] (Z1.setO (J.no+1) [.nilp,.tys 5 .nilsl]):=⟨by omega,by simp;omega,A1.setO (by omega),_,_,by simp,.inl rfl,.inl ⟨rfl,rfl⟩⟩
 have m2:(Z1.setO (J.no+1) [.nilp,.tys 5 .nilsl]).objs J.no=some [fv,.int .i64 m.memory,.int .i64 m.main]:=by
  have:¬J.no=J.no+1:=by omega
  simp[this,m1]
 have n2:(Z1.setO (J.no+1) [.nilp,.tys 5 .nilsl]).no=J.no+2:=by simp[n1]
 generalize Z1.setO (J.no+1) [.nilp,.tys 5 .nilsl]=Z2 at *
 have hh:za3≠[]:=by decide
 have es:zgT [] [za3,Lib.itoa m.memory,zd,zd]=za3++spT [Lib.itoa m.memory,zd,zd]:=by
  have:zgT [] [za3,Lib.itoa m.memory,zd,zd]=zgT za3 [Lib.itoa m.memory,zd,zd]:=rfl
  rw[this,zqm _ hh]
 refine zBT (ws:=[za3,Lib.itoa m.memory,zd,zd]) hP0 (by simp) (by rw[es,yab];omega) λZ3 u3 P3 K3=>?_
 rw[es]at P3
 have n3:=K3.no
 have m3:=(K3.obj J.no (by omega) (by omega)).trans m2
 simp[m3,f1,fl]
 refine zy (FlI B J (J.no+1) J.no fv m toks (za3++spT [Lib.itoa m.memory,zd,zd])) (MU 17 (m.funcs.length+1)) ⟨0,[],toks,fs2,Nat.zero_le _,rfl,by simpa using hpr,by simp,by simp,by simp,by simp,by simp,by simpa [spT]using P3,m3,by omega,by omega⟩ λa Z hI=>?_
 refine zsX V hfv hf hmx hsz hfl (by simp[hh]) (by simp only[yab];omega) (λa Z a1 a3 hP hmo=>?_) hI
 simp[zmr,a1,a3,hmo]
 refine zfu V (zcw _).1 ?_
 simp
 refine za4 (ws:=[zj,zbe,zeK,zj,zap,Lib.itoa (yb4 .i64 (m.main+3)),zd,zd,zd]) hP (by simp[hh]) (by simp) (by simp only[yab];omega) λZ5 u5 P5 K5=>?_
 simp[a3]
 refine zAa P5 (by simp[hh]) (by simp only[yab];omega) λZ6 A6 K6=>?_
 have:=h _ A6
 rw[zhB]at this
 simp
 refine⟨by have:([10]:List UInt8).length=1:=rfl;omega,?_⟩
 simpa [ydp]using this
end
theorem zEe(m:M)(toks:List Tok):zj8 (zgg (zbZ m toks)):=trivial
def zoQ:F:={ name:=[102],params:=[],locals:=[],type:=1,lists:=[[{ op:=1,ty:=1,n:=7,body:=0,other:=0,name:=[] }]] }
def zaP:M:={ funcs:=[zoQ],memory:=16,main:=0 }
section
variable {G : Env} {J : AS} {R : Out -> AS -> Prop}
end
def NZ{α:Type}(r:Res α):Prop:=∀e,r=.error e->e≠0
theorem NZ.ok{α:Type}(a:α):NZ (.ok a:Res α):=λe h=>by cases h
theorem NZ.err{α:Type}{k:Int}(h:k≠0):NZ (.error k:Res α):=λe q=>by cases q;exact h
theorem zrK(s:St):NZ (zed s):=by
 unfold zed
 split
 .split
  .exact .ok _
  .exact .err (by omega)
 .exact .ok _
theorem zfw:∀(ts:List Int) (s:St),NZ (zao ts s)
 | [],s=>.ok _
 | t::ts,s=>by
  rw[zao]
  split
  .have:=zrK s
   cases hd:zed s with
   | ok s'=>exact zfw ts s'
   | error e=>rw[hd]at this;exact .err (this e rfl)
  .exact .err (by omega)
theorem zrL{r:Res St}{t:Int}(h:NZ r):NZ (zho r t):=by
 cases r with
 | ok s=>exact .ok _
 | error e=>exact .err (h e rfl)
theorem zdY(ty:Int)(s:St):NZ (zH ty s):=by unfold zH;split;exact .ok _;exact zfw _ _
theorem zu3(fs:List F)(ls:List Int)(w:W)(s:St):NZ (zcm fs ls w s):=by
 unfold zcm
 repeat' split
 all_goals first
  | exact .ok _
  | exact zrL (zfw _ _)
  | exact zfw _ _
  | exact zrK _
theorem zu4{fs:List F}{ls:List Int}{ty deep:Int}{lk:zmP}(hl:∀a d,NZ (lk a d))(w:W)(s:St):NZ (zV fs ls ty deep lk w s):=by
 unfold zV
 split
 .exact .err (by omega)
 split
 .exact .err (by omega)
 split
 .have:=hl w.body (deep+1)
  cases hq:lk w.body (deep+1)with
  | ok u=>exact .ok _
  | error e=>rw[hq]at this;exact .err (this e rfl)
 split
 .have ht:=zfw [1] s
  cases hq:zao [1] s with
  | error e=>rw[hq]at ht;exact .err (ht e rfl)
  | ok s1 =>
   have:=hl w.body (deep+1)
   simp only
   cases hq:lk w.body (deep+1)with
   | error e=>rw[hq]at this;exact .err (this e rfl)
   | ok u =>
    simp only
    split
    .have:=hl w.other (deep+1)
     cases hq:lk w.other (deep+1)with
     | error e=>rw[hq]at this;exact .err (this e rfl)
     | ok u=>exact .ok _
    .exact .ok _
 split
 .have ht:=zfw [1] s
  cases hq:zao [1] s with
  | error e=>rw[hq]at ht;exact .err (ht e rfl)
  | ok s1 =>
   simp only
   split
   .exact zrL (zdY _ _)
   .exact .ok _
 split
 .split
  .have ht:=zdY ty s
   cases hq:zH ty s with
   | error e=>rw[hq]at ht;exact .err (ht e rfl)
   | ok s1=>exact .ok _
  .exact .ok _
 split
 .have ht:=zdY ty s
  cases hq:zH ty s with
  | error e=>rw[hq]at ht;exact .err (ht e rfl)
  | ok s1=>exact .ok _
 split
 .exact .ok _
 .exact zu3 _ _ _ _
theorem zlN{fs:List F}{ls:List Int}{ty deep:Int}{lk:zmP}(hl:∀a d,NZ (lk a d)):∀(ws:List W) (s:St),NZ (zP fs ls ty deep lk ws s)
 | [],s=>.ok _
 | w::ws,s=>by
  rw[zP]
  have:=zu4 (fs:=fs) (ls:=ls) (ty:=ty) (deep:=deep) hl w s
  cases hq:zV fs ls ty deep lk w s with
  | error e=>rw[hq]at this;exact .err (this e rfl)
  | ok s1=>exact zlN hl ws s1
theorem zrM(fs:List F)(ls:List Int)(ty:Int)(lists:To):∀(k:Nat) (a d:Int),NZ (zaa fs ls ty lists k a d)
 | 0,a,d=>.err (by omega)
 | k+1,a,d=>by
  rw[zaa]
  have:=zlN (fs:=fs) (ls:=ls) (ty:=ty) (deep:=d) (zrM fs ls ty lists k) (lists.getD a.toNat []) ⟨[],false⟩
  cases hq:zP fs ls ty d (zaa fs ls ty lists k) (lists.getD a.toNat []) ⟨[],false⟩with
  | error e=>rw[hq]at this;exact .err (this e rfl)
  | ok s =>
   simp only
   unfold zH2
   have:NZ (if d=0 then zH ty s else .ok s):=by
    split
    .exact zdY _ _
    .exact .ok _
   cases hq:(if d=0 then zH ty s else .ok s:Res St)with
   | error e=>rw[hq]at this;exact .err (this e rfl)
   | ok s' =>
    simp only
    split
    .exact .ok _
    .exact .err (by omega)
theorem zoR(a:Int):∀(ns:List Int) (named:List Bool),NZ (zbd a ns named)
 | [],named=>.ok _
 | n::ns,named=>by
  rw[zbd]
  unfold zee
  split
  .rename_i e he
   split at he
   .cases he
   .cases he;exact .err (by omega)
  .exact zoR a ns _
theorem zu5(a:Int):∀(ws:List W) (named:List Bool),NZ (ziR a ws named)
 | [],named=>.ok _
 | w::ws,named=>by
  rw[ziR]
  have:=zoR a (zi w) named
  cases hq:zbd a (zi w) named with
  | error e=>rw[hq]at this;exact .err (this e rfl)
  | ok n=>exact zu5 a ws n
theorem zrN:∀(ls:To) (k:Nat) (named:List Bool),NZ (zca k ls named)
 | [],k,named=>.ok _
 | l::ls,k,named=>by
  rw[zca]
  have:=zu5 (k:Int) l named
  cases hq:ziR (k:Int) l named with
  | error e=>rw[hq]at this;exact .err (this e rfl)
  | ok n=>exact zrN ls (k+1) n
theorem zu6(ls:To):NZ (zcE ls):=by
 unfold zcE
 split
 .exact .err (by omega)
 .have:=zrN ls 0 (yaj ls.length false)
  cases hq:zca 0 ls (yaj ls.length false)with
  | error e=>rw[hq]at this;exact .err (this e rfl)
  | ok n =>
   simp only
   split
   .exact .ok _
   .exact .err (by omega)
theorem zoS(fs:List F)(f:F):NZ (zn fs f):=by
 unfold zn
 split
 .exact .err (by omega)
 .have:=zu6 f.lists
  cases hq:zcE f.lists with
  | error e=>rw[hq]at this;exact .err (this e rfl)
  | ok u=>exact zrM _ _ _ _ _ _ _
theorem zgU(fs:List F):∀r,NZ (zY fs r)
 | []=>.ok _
 | f::r=>by
  rw[zY]
  have:=zoS fs f
  cases hq:zn fs f with
  | error e=>rw[hq]at this;exact .err (this e rfl)
  | ok u=>exact zgU fs r
theorem zu7(m:M):NZ (za7 m):=by
 unfold za7
 split
 .exact .err (by omega)
 .have:=zgU m.funcs m.funcs
  cases hq:zY m.funcs m.funcs with
  | error e=>rw[hq]at this;exact .err (this e rfl)
  | ok u =>
   simp only
   split
   .exact .ok _
   .exact .err (by omega)
theorem zAd{m:M}(h:zpY (za7 m)=0):za7 m=.ok ():=by
 cases hq:za7 m with
 | ok u=>rfl
 | error e=>rw[hq]at h;exact absurd h (zu7 m e hq)
def zLi:List UInt8:=[40,32,109,111,100,117,108,101,32,40,32,105,109,112,111,114,116,32,34,101,110,118,34,32,34,105,110,34,32,40,32,102,117,110,99,32,40,32,114,101,115,117,108,116,32,105,54,52,32,41,32,41,32,41,32,40,32,105,109,112,111,114,116,32,34,101,110,118,34,32,34,111,117,116,34,32,40,32,102,117,110,99,32,40,32,112,97,114,97,109,32,105,54,52,32,41,32,41,32,41,32,40,32,105,109,112,111,114,116,32,34,101,110,118,34,32,34,116,114,97,112,34,32,40,32,102,117,110,99,32,40,32,112,97,114,97,109,32,105,51,50,32,41,32,41,32,41,32,40,32,109,101,109,111,114,121,32,49,32,41,32,40,32,103,108,111,98,97,108,32,105,51,50,32,40,32,105,51,50,46,99,111,110,115,116,32,49,54,32,41,32,41,32,40,32,102,117,110,99,32,36,102,32,40,32,114,101,115,117,108,116,32,105,51,50,32,41,32]
def zEf:List UInt8:=[32,41,32,40,32,101,120,112,111,114,116,32,34,109,97,105,110,34,32,40,32,102,117,110,99,32,51,32,41,32,41,32,41,10]
def zei(t:List UInt8):List UInt8:=zLi++t++zEf
def t7:List UInt8:=[105,51,50,46,99,111,110,115,116,32,55]
def t07:List UInt8:=[105,51,50,46,99,111,110,115,116,32,48,55]
def zEg:List UInt8:=[105,51,50,46,99,111,110,115,32,55]
theorem zBU:za8 24 (zei t7)=.ok zaP:=by kernel_rfl
theorem zu8:za8 24 (zei t07)=.error 11:=by kernel_rfl
theorem zoT:za8 24 (zei zEg)=.error 2:=by kernel_rfl
def zIq:List Tok:=zdR zoQ (zcd { op:=1,ty:=1,n:=7,body:=0,other:=0,name:=[] }++[])++[]
theorem zLj:zpk zaP.funcs zIq [{ zoQ with lists:=[]++[[za9 { op:=1,ty:=1,n:=7,body:=0,other:=0,name:=[] }]] }] :=
 .cons ⟨_,_,_,rfl,.leaf (by decide) (by decide) ⟨by decide,by decide⟩ (.nil _ _),rfl⟩ .nil
theorem zIr:zgg (zbZ zaP zIq)=zei t7:=by kernel_rfl
theorem znd{s:List UInt8}:zj8 s:=trivial
end Go.Proofs.YtohfclafhegadaaGreatDoor
