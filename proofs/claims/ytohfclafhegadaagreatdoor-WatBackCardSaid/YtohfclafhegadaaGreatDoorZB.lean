/- Parts of the proof of the row WatBack: contracts of functions, each under the conditions that its theorem names. -/
import Derived.Test.YtohfclafhegadaaGreatDoorZA
import Derived.Test.YtohfclafhegadaaGreatDoorShelf
import Derived.Lib.AppendIntMem
import Derived.Deep.LoopGhost
import Derived.Laws.Runes
import Derived.Laws.RangeString
import Derived.RegionTactic
import Derived.ChangeAlike
import Derived.Deep.RegionWith
import Derived.Lib.ItoaLen
import Derived.Test.YtohfclafhegadaaGreatDoorTie
import Derived.ProofKit
import Derived.OpenShut
import Derived.ChangeOld
import Derived.ChangeSame
import Derived.ChangeVars
import Derived.Lib.LaidTab
import Derived.LaidLaws
import Derived.LaidHandle
import Derived.ShapedOpen
import Derived.Lay
import Derived.LaidMore
import Derived.Test.YtohfclafhegadaaGreatDoorCards
set_option linter.unusedSimpArgs false
set_option linter.unusedVariables false
set_option maxRecDepth 100000
open List renaming replicate->yaj,length_replicate->yba,length_append->yab,length_take->ybf,length_cons->yac,length_nil->ybm,length_drop->ydj,append_assoc->ydf,getElem?_take_of_lt->ydk,getElem?_append_right->yaI,getElem?_drop->yas,mem_append->ybh,mem_singleton->yc4,mem_replicate->ydl,drop_eq_nil_of_le->yc8,take->ydm,take_of_length_le->ydn,dropWhile_cons->ydb,nil_append->yde,eq_nil_or_concat->ybM,concat_eq_append->ydo,all_cons->ycE,all_eq_true->yaM,head?_dropWhile_not->ydp,findIdx?_eq_none_iff->ydq,findIdx?_cons->ydr,getElem_cons_zero->yaz,mem_cons->ybD,getElem_of_mem->ya9,getElem?_eq_getElem->yau,getElem?_eq_some_iff->yaq,mem_of_getElem?->ycW,drop_eq_getElem_cons->ycU,take_append_drop->ydw,findIdx?_eq_some_iff_getElem->ydx,suffix_cons->ydy,append_nil->yb8,length_pos_iff->ybn,getElem_mem->yaw,find?_eq_none->ydA,map_append->yc6,length_map->ybb,map_cons->yaL,mem_of_find?_eq_some->ydB,find?_some->ydC,map_nil->ydg,getElem?_cons_zero->ydF,flatMap_cons->yaa,cons_append->ycT,length->ycH,all_append->ycF,mem_map_of_mem->yaW,getElem?_map->ydI,getElem?_eq_none->yb3,flatten_cons->ydJ
open Nat renaming le_refl->yah,lt_of_le_of_lt->ydz,lt_of_lt_of_le->yag,add_zero->yaK,le_trans->yai,not_lt_zero->yaA,succ_lt_succ->ybo,div_add_mod'->ydH
open Option renaming some->yaR,map_eq_some_iff->ybC,bind_eq_some_iff->ybB
open Array renaming getElem?_eq_some_iff->yaU
open Int renaming toNat_natCast->ybe
open Go.Proofs.Tryz renaming prog->yca,func236->yds,ntmps236->ydt,func205->ydu,ntmps205->ydv,func175->ydD,ntmps175->ydE
open Go.IntKind renaming wrap->yb5,signed->yao,i64->yam
open Go.Abs.AV renaming str->ycR,int->ycS,ptr->ycV,nilsl->ycY,pv->ydG
namespace Go.Proofs.YtohfclafhegadaaGreatDoor
open Go Go.Abs
def inS(l:List UInt8)(c:UInt8):Bool:=l.contains c
def zuE:List AV:=yaj 256 (.bool false)
theorem zdd:zuE.length=256:=yba ..
theorem zuF{i:Nat}(h:i<256):zuE[i]?=some (.bool false):=by
 unfold zuE
 rw[List.getElem?_replicate,if_pos h]
theorem zxV:zG yca 151=some (.agg zuE):=by kernel_rfl
attribute [simp] zxV
def zfD:List UInt8->List AV->List AV
 | [],cs=>cs
 | c::r,cs=>zfD r (splice cs c.toNat [.bool true])
def zjv(l:List UInt8):List AV:=zfD l zuE
theorem zjw:∀(l:List UInt8) (cs:List AV),cs.length=256->(zfD l cs).length=256
 | [],cs,h=>h
 | c::r,cs,h=>by
  have:=c.toNat_lt
  rw[zfD]
  refine zjw r _ ?_
  simp only[splice,yab,ybf,yac,ybm,ydj]
  omega
theorem zer(l:List UInt8):(zjv l).length=256:=zjw l _ zdd
theorem znt{cs:List AV}{i j:Nat}{v:AV}(hi:i<cs.length):(splice cs i [v])[j]?=if j=i then some v else cs[j]?:=by
 unfold splice
 by_cases h:j<i
 .rw[ydf,List.getElem?_append_left (by simp;omega),ydk h,if_neg (by omega)]
 .by_cases h2:j=i
  .subst h2
   rw[ydf,yaI (by simp;omega)]
   have:j-(cs.take j).length=0:=by simp;omega
   rw[this];simp
  .rw[yaI (by simp;omega),if_neg h2,yas]
   congr 1
   simp;omega
theorem zjx:∀(l:List UInt8) (cs:List AV) (b:UInt8),cs.length=256->(zfD l cs)[b.toNat]?=if l.contains b=true then some (.bool true)else cs[b.toNat]?
 | [],cs,b,h=>by simp[zfD]
 | c::r,cs,b,h=>by
  have hc:=c.toNat_lt
  rw[zfD,zjx r _ b (by simp only[splice,yab,ybf,yac,ybm,ydj];omega),znt (by omega)]
  by_cases h1:r.contains b=true
  .simp[h1]
   simp at h1
   simp[h1]
  .by_cases h2:b=c
   .subst h2;simp
   .have:¬b.toNat=c.toNat:=λe=>h2 (UInt8.toNat_inj.1 e)
    simp at h1
    simp[h1,h2,this]
theorem zuG(l:List UInt8)(b:UInt8):(zjv l)[b.toNat]?=some (.bool (inS l b)):=by
 have:=b.toNat_lt
 rw[zjv,zjx l _ b zdd,zuF this]
 unfold inS
 cases l.contains b<;>rfl
theorem zjy{cs:List AV}{i:Nat}{v:AV}(h:∀x∈cs,x.one=true)(hv:v.one=true):∀x∈splice cs i [v],x.one=true:=by
 intro x hx
 unfold splice at hx
 simp only[ybh,yc4]at hx
 rcases hx with (hx|hx)|hx
 .exact h x (List.mem_of_mem_take hx)
 .rw[hx];exact hv
 .exact h x (List.mem_of_mem_drop hx)
theorem zjz:∀(l:List UInt8) (cs:List AV),(∀x∈cs,x.one=true)->∀x∈zfD l cs,x.one=true
 | [],_,h=>h
 | c::r,cs,h=>zjz r _ (zjy h rfl)
theorem zkK(l:List UInt8):∀x∈zjv l,x.one=true:=zjz l _ λx hx=>by rw[(ydl.1 hx).2];rfl
theorem zid:List.drop 256 zuE=[]:=yc8 (by rw[zdd];exact yah _)
section
variable {G : Env} {J : AS} {R : Out -> AS -> Prop}
def AsI(l:List UInt8)(J:AS)(a:Nat->AV)(Z:AS):Prop:=∃(d r:List UInt8),l=d++r/\a 0=.str l/\a 2=.ptr J.no 0/\a 4=.int .i64 (d.length:Int)/\ze J Z/\J.no<Z.no/\∃cs,cs.length=256/\(∀x∈cs,x.one=true)/\Z.objs J.no=some cs/\zfD r cs=zjv l
theorem zde{l:List UInt8}(hl:∀c∈l,c.toNat<128)(hL:l.length<=1000)(h:∀J',ze J J'->R (.ret (.tuple [.agg (zjv l),.bool true])) J'):zzQ G 122 [.str l] J R:=by
 refine ztd rfl ?_
 simp[zBM]
 refine zS (AsI l J) (MU 4 (l.length+1)) ⟨[],l,rfl,by simp,by simp,by simp,(ze.refl J).newO,by simp,zuE,zdd,λx hx=>by rw[(ydl.1 hx).2];rfl,by simp,rfl⟩ λa Z hI=>?_
 obtain⟨d,r,hlr,a0,a2,a4,hA,hno,cs,hcs,hone,ho,he⟩:=hI
 cases r with
 | nil =>
  have hd:d=l:=by simp[hlr]
  subst hd
  have hlt:¬((d.length:Int)<(d.length:Int)):=by omega
  have e1:cs=zjv d:=he
  subst e1
  have ht:ydm 256 (zjv d)=zjv d:=ydn (by rw[hcs];exact yah _)
  simp[zg1,zoa,a0,a2,a4,hlt,ho,hcs,splice,ht]
  exact⟨hone,h _ (hA.setO (yah _))⟩
 | cons c r =>
  have hc:=hl c (by simp[hlr])
  have hlt:(d.length:Int)<(l.length:Int):=by simp[hlr];omega
  have hi:l[d.length]?=some c:=by simp[hlr]
  have hc2:¬(128:Int)<=(c.toNat:Int):=by omega
  have w1:yb5 .i64 ((d.length:Int)+1)=((d.length+1:Nat):Int):=by rw[wrap_i64]<;>omega
  simp[zg1,a0,a2,a4,hlt,ho,hcs,hi,hc2,w1]
  refine⟨by omega,by omega,⟨d++[c],r,by simp[hlr],by simp[a0],by simp[a2],by simp,hA.setO (yah _),by simpa using hno,_,?_,zjy hone rfl,by simp,he⟩,?_⟩
  .simp only[splice,yab,ybf,yac,ybm,ydj]
   omega
  .simp[MU,a4];omega
theorem zie{l:List UInt8}{o:Nat}{b:UInt8}(ho:J.objs o=some (zjv l))(h:R (.ret (.bool (inS l b))) J):zzQ G 172 [.ptr o 0,.int .u8 (b.toNat:Int)] J R:=by
 refine ztD rfl ?_
 have hb:=b.toNat_lt
 have hb':(b.toNat:Int)<256:=by omega
 have hp:=zuG l b
 simp[zB3,ho,hb',hp]
 simpa using h
def TlI(l s:List UInt8)(o:Nat)(J:AS)(a:Nat->AV)(Z:AS):Prop:=∃r:List UInt8,r.dropWhile (inS l)=s.dropWhile (inS l)/\a 0=.str r/\a 1=.ptr o 0/\Z=J
def zEn(a:Nat->AV)(_:AS):Nat:=match a 0 with
 | .str r=>r.length
 | _=>0
theorem zgx{l s:List UInt8}{o:Nat}(ho:J.objs o=some (zjv l))(h:R (.ret (.str (s.dropWhile (inS l)))) J):zzQ G 123 [.str s,.ptr o 0] J R:=by
 refine zte rfl ?_
 simp[zBN]
 refine zS (TlI l s o J) zEn ⟨s,rfl,by simp,by simp,rfl⟩ λa Z hI=>?_
 obtain⟨r,hr,a0,a1,rfl⟩:=hI
 cases r with
 | nil =>
  simp[zg2,zks,a0,a1]
  rw[<-hr]at h
  exact h
 | cons c r =>
  simp[zg2,zks,a0,a1]
  refine zie ho ?_
  rw[ydb]at hr
  cases hc:inS l c with
  | true =>
   rw[if_pos hc]at hr
   simp[hc,a0,a1]
   exact⟨by omega,⟨r,hr,by simp,by simp[a1],rfl⟩,by simp[zEn,a0]⟩
  | false =>
   rw[if_neg (by simp[hc])]at hr
   rw[<-hr]at h
   simp[hc,a0,a1]
   exact h
theorem znu{l s:List UInt8}(hl:∀c∈l,c.toNat<128)(h2:2<=l.length)(hL:l.length<=1000)(h:∀J',ze J J'->R (.ret (.str (s.dropWhile (inS l)))) J'):zzQ G 167 [.str s,.str l] J R:=by
 refine ztA rfl ?_
 have hne:¬l=[]:=by intro e;rw[e]at h2;simp at h2
 have h1:¬(l.length:Int)=1:=by omega
 cases s with
 | nil =>
  simp[zxB]
  exact h _ (.refl _)
 | cons c s =>
  simp[zxB,hne,h1]
  refine zde hl hL λJ1 A1=>?_
  have ht:ydm 256 (zjv l)=zjv l:=ydn (by rw[zer];exact yah _)
  have hl6:=zer l
  simp[hl6,splice,ht,zdd,zid]
  refine⟨zkK l,zgx (l:=l) (by simp) ?_⟩
  simp
  exact h _ (A1.newO.setO A1.no)
def zgP(p:UInt8->Bool)(s:List UInt8):List UInt8:=(s.reverse.dropWhile p).reverse
theorem zpw(p:UInt8->Bool)(s:List UInt8)(c:UInt8):zgP p (s++[c])=if p c=true then zgP p s else s++[c]:=by
 unfold zgP
 rw[List.reverse_append]
 simp only[List.reverse_cons,List.reverse_nil,yde,List.singleton_append,ydb]
 split<;>simp
def TrI(l s:List UInt8)(o:Nat)(J:AS)(a:Nat->AV)(Z:AS):Prop:=∃r:List UInt8,r.length<=s.length/\zgP (inS l) r=zgP (inS l) s/\a 0=.str r/\a 1=.ptr o 0/\Z=J
theorem zl7{l s:List UInt8}{o:Nat}(hs:s.length<2^62)(ho:J.objs o=some (zjv l))(h:R (.ret (.str (zgP (inS l) s))) J):zzQ G 124 [.str s,.ptr o 0] J R:=by
 refine ztf rfl ?_
 simp[zBO]
 refine zS (TrI l s o J) zEn ⟨s,yah _,rfl,by simp,by simp,rfl⟩ λa Z hI=>?_
 obtain⟨r,hrl,hr,a0,a1,rfl⟩:=hI
 rcases ybM r with rfl|⟨r',c,rfl⟩
 .simp[zg3,zkt,a0,a1]
  rw[<-hr]at h
  exact h
 .rw[ydo]at *
  have w1:yb5 .i64 (r'.length:Int)=(r'.length:Int):=by rw[wrap_i64]<;>simp at hrl<;>omega
  have hlt:(0:Int)<(r'.length:Int)+1:=by omega
  simp[zg3,zkt,a0,a1,w1,hlt]
  refine zie ho ?_
  rw[zpw]at hr
  cases hc:inS l c with
  | true =>
   rw[if_pos hc]at hr
   simp[hc,a0,a1,w1]
   exact⟨by omega,⟨r',by simp at hrl;omega,hr,by simp,by simp[a1],rfl⟩,by simp[zEn,a0]⟩
  | false =>
   rw[if_neg (by simp[hc])]at hr
   rw[<-hr]at h
   simp[hc,a0,a1]
   exact h
def zl8(l s:List UInt8):List UInt8:=(zgP (inS l) s).dropWhile (inS l)
theorem zdY{p:UInt8->Bool}:∀{s:List UInt8},s.dropWhile p=[]↔s.all p=true
 | []=>by simp
 | c::r=>by
  rw[ydb]
  cases h:p c with
  | true=>simp only[if_true,ycE,h,Bool.true_and];exact zdY
  | false=>simp[h]
theorem zcQ(l s:List UInt8):zl8 l s=[]↔s.all (inS l)=true:=by
 unfold zl8
 rw[zdY]
 constructor
 .intro h
  have hd:∀c∈zgP (inS l) s,inS l c=true:=yaM.1 h
  rcases ybM (zgP (inS l) s)with e|⟨d,x,e⟩
  .unfold zgP at e
   rw[List.reverse_eq_nil_iff,zdY]at e
   rw[yaM]at e ⊢
   exact λc hc=>e c (by simpa using hc)
  .rw[ydo]at e
   have hx:inS l x=true:=hd x (by rw[e];simp)
   have e2:s.reverse.dropWhile (inS l)=x::d.reverse:=by
    have:=congrArg List.reverse e
    unfold zgP at this
    simpa using this
   have:=ydp (inS l) s.reverse
   rw[e2]at this
   simp at this hx
   rw[this]at hx;cases hx
 .intro h
  rw[yaM]at h ⊢
  intro c hc
  unfold zgP at hc
  rw[List.mem_reverse]at hc
  exact h c (by have:=(List.dropWhile_sublist _).mem hc;simpa using this)
theorem zgb{l s:List UInt8}(hl:∀c∈l,c.toNat<128)(h2:2<=l.length)(hL:l.length<=1000)(hs:s.length<2^62)(h:∀J',ze J J'->R (.ret (.str (zl8 l s))) J'):zzQ G 62 [.str s,.str l] J R:=by
 refine zxo rfl ?_
 have hne:¬l=[]:=by intro e;rw[e]at h2;simp at h2
 have h1:¬(l.length:Int)=1:=by omega
 cases s with
 | nil =>
  simp[zFh]
  exact h _ (.refl _)
 | cons c s =>
  simp[zFh,hne,h1]
  refine zde hl hL λJ1 A1=>?_
  have ht:ydm 256 (zjv l)=zjv l:=ydn (by rw[zer];exact yah _)
  have hl6:=zer l
  simp[hl6,splice,ht,zdd,zid]
  refine⟨zkK l,zl7 (l:=l) hs (by simp) ?_⟩
  simp
  refine zgx (l:=l) (by simp) ?_
  simp
  exact h _ (A1.newO.setO A1.no)
def zmE(l s:List UInt8):Int:=match s.findIdx? (inS l)with
 | some i=>i
 | none=>-1
def IaI(l s:List UInt8)(J:AS)(J1:AS)(a:Nat->AV)(Z:AS):Prop:=∃(d r:List UInt8),s=d++r/\(∀c∈d,inS l c=false)/\a 0=.str s/\a 6=.ptr J1.no 0/\a 8=.int .i64 (d.length:Int)/\Z=(J1.newO zuE).setO J1.no (zjv l)
theorem zra{l d r:List UInt8}{c:UInt8}(hd:∀c∈d,inS l c=false)(hc:inS l c=true):zmE l (d++c::r)=d.length:=by
 unfold zmE
 rw[List.findIdx?_append,ydq.2 hd]
 simp[ydr,hc]
theorem zl9{l s:List UInt8}(h:∀c∈s,inS l c=false):zmE l s=-1:=by
 unfold zmE
 rw[ydq.2 h]
theorem zif{l s:List UInt8}(hl:∀c∈l,c.toNat<128)(h2:2<=l.length)(hL:l.length<=1000)(h8:8<s.length)(hs:s.length<2^62)(h:∀J',ze J J'->R (.ret (.int .i64 (zmE l s))) J'):zzQ G 168 [.str s,.str l] J R:=by
 refine zoe rfl ?_
 have hne:¬l=[]:=by intro e;rw[e]at h2;simp at h2
 have h1:¬(l.length:Int)=1:=by omega
 have h8':(8:Int)<(s.length:Int):=by omega
 simp[zxC,hne,h1]
 refine zoi rfl ?_
 simp[zxF,h8']
 refine zde hl hL λJ1 A1=>?_
 have ht:ydm 256 (zjv l)=zjv l:=ydn (by rw[zer];exact yah _)
 have hl6:=zer l
 simp[hl6,splice,ht,zdd,zid]
 refine⟨zkK l,?_⟩
 have A2:ze J ((J1.newO zuE).setO J1.no (zjv l)):=A1.newO.setO A1.no
 refine zS (IaI l s J J1) (MU 8 (s.length+1)) ⟨[],s,rfl,by simp,by simp,by simp,by simp,rfl⟩ λa Z hI=>?_
 obtain⟨d,r,hsr,hd,a0,a6,a8,rfl⟩:=hI
 cases r with
 | nil =>
  have e:d=s:=by simp[hsr]
  subst e
  simp[zc7,zfu,a0,a6,a8]
  rw[<-zl9 hd]
  exact h _ A2
 | cons c r =>
  have hlt:(d.length:Int)<(s.length:Int):=by simp[hsr];omega
  have hi:s[d.length]?=some c:=by simp[hsr]
  have w1:yb5 .i64 ((d.length:Int)+1)=((d.length+1:Nat):Int):=by rw[wrap_i64]<;>omega
  simp[zc7,a0,a6,a8,hlt,hi]
  refine zie (l:=l) (by simp) ?_
  cases hc:inS l c with
  | true =>
   simp[hc,a0,a6,a8]
   have:=zra (r:=r) hd hc
   rw[hsr]at h
   rw[<-this]
   exact h _ A2
  | false =>
   simp[hc,a0,a6,a8,w1]
   refine⟨⟨d++[c],r,by simp[hsr],?_,by simp[a0],by simp[a6],by simp,rfl⟩,?_⟩
   .intro x hx
    rcases ybh.1 hx with hx|hx
    .exact hd x hx
    .simp at hx;subst hx;exact hc
   .simp[MU,a8];omega
end
abbrev zxW(G:Env):Prop:=G.fix 9=some (Lib.pow10Tab.map λz=>Value.int .u64 z).toArray
structure zdw(G:Env):Prop where
 pow:zxW G
 errR:∃t v,G.g 6=.pv (.stat true) (.iface t v)
 space:G.g 0=.pv (.stat true) (.agg zdV)
section
variable {G : Env} {J : AS} {R : Out -> AS -> Prop}
theorem zgy{s p:List UInt8}(h:R (.ret (.bool (decide (p.length<=s.length/\s.take p.length=p)))) J):zzQ G 199 [.str s,.str p] J R:=by
 refine ztQ rfl ?_
 by_cases hl:p.length<=s.length
 .have hl':(p.length:Int)<=(s.length:Int):=by omega
  simp[zxE,hl']
  simpa [hl]using h
 .have hl':¬(p.length:Int)<=(s.length:Int):=by omega
  simp[zxE,hl']
  simpa [hl]using h
def zi3(p s:List UInt8):Bool:=decide (p.length<=s.length/\s.take p.length=p)
theorem zig(c:UInt8)(s:List UInt8):zi3 [c] s=decide (s.head?=some c):=by
 cases s with
 | nil=>simp[zi3]
 | cons d s=>simp[zi3,eq_comm]
theorem zgz{s p:List UInt8}(h:R (.ret (.tuple [.str (if zi3 p s=true then s.drop p.length else s),.bool (zi3 p s)])) J):zzQ G 116 [.str s,.str p] J R:=by
 refine zs8 rfl ?_
 simp[zBJ]
 refine ztB rfl ?_
 simp[zB1]
 refine zgy ?_
 rw[show decide (p.length<=s.length/\s.take p.length=p)=zi3 p s from rfl]
 cases hp:zi3 p s with
 | false =>
  rw[hp]at h
  simp
  simpa using h
 | true =>
  rw[hp]at h
  have hl:p.length<=s.length:=(of_decide_eq_true hp).1
  simp
  exact⟨by omega,by simpa using h⟩
theorem zkL{s p:List UInt8}(h:R (.ret (.str (if zi3 p s=true then s.drop p.length else s))) J):zzQ G 113 [.str s,.str p] J R:=by
 refine zs6 rfl ?_
 simp[zBH]
 refine ztz rfl ?_
 simp[zB0]
 refine zgy ?_
 rw[show decide (p.length<=s.length/\s.take p.length=p)=zi3 p s from rfl]
 cases hp:zi3 p s with
 | false =>
  rw[hp]at h
  simp
  simpa using h
 | true =>
  rw[hp]at h
  have hl:p.length<=s.length:=(of_decide_eq_true hp).1
  simp
  exact⟨by omega,by simpa using h⟩
theorem zxX{M:Mp}{F:Nat->FSt}{w:World}{v:AV}{cargs:Array Value}(hc:Cells M F w [v] cargs):∃c,cargs=#[c]/\VR M F w v c:=by
 obtain⟨c0,e0,v0⟩:=hc.2 0 _ rfl
 refine⟨c0,?_,v0⟩
 have hsz:cargs.size=1:=hc.1
 apply Array.ext
 .simpa using hsz
 .intro i h1 h2
  match i,h1 with
  | 0,_=>simpa using (yaU.1 e0).2
  | i+1,h=>omega
theorem zxY{M:Mp}{F:Nat->FSt}{w:World}{v u:AV}{cargs:Array Value}(hc:Cells M F w [v,u] cargs):∃c d,cargs=#[c,d]/\VR M F w v c/\VR M F w u d:=by
 obtain⟨c0,e0,v0⟩:=hc.2 0 _ rfl
 obtain⟨c1,e1,v1⟩:=hc.2 1 _ rfl
 refine⟨c0,c1,?_,v0,v1⟩
 have hsz:cargs.size=2:=hc.1
 apply Array.ext
 .simpa using hsz
 .intro i h1 h2
  match i,h1 with
  | 0,_=>simpa using (yaU.1 e0).2
  | 1,_=>simpa using (yaU.1 e1).2
  | i+2,h=>omega
theorem zes(V:zxW G){n:Int}(hn:-(2^63)<=n/\n<2^63)(h:R (.ret (.str (Lib.itoa n))) J):zzQ G 64 [.int .i64 n] J R:=by
 refine ACalls.of_below λM w cargs S g hc=>?_
 obtain⟨c,rfl,hv⟩:=zxX hc
 rw[hv.int_inv]
 obtain⟨_,t,fr,hh⟩:=g.fixed 9 _ V
 have hn9 : Tryz.prog.globalNamed "internal/strconv.uint64pow10" = some 9 := by kernel_rfl
 have htab : Lib.TabIs Tryz.prog w "internal/strconv.uint64pow10" .u64 Lib.pow10Tab := by simp [Lib.TabIs, World.var?, hn9, hh]
 refine(Tryz.strconv_Itoa n (by omega) (by omega) w htab).mono λe w' ⟨he,k,os,hw'⟩=>?_
 subst he hw'
 exact⟨⟨.str (Lib.itoa n),_,rfl,λM F w=>VR.str' rfl,h⟩,Lib.below_grow _ w (yah _) k os⟩
theorem zpx(V:zdw G){t:List UInt8}(h0:zbu t≠[])(h1:(zbu t).all zK=true)(hl:t.length<2^40)
  (hs:∀n,Lib.atoiAll t=.ok n->R (.ret (.tuple [.int .i64 n,.nilif])) J) (hr:Lib.atoiAll t=.range->∀k,R (.ret (.tuple [.int .i64 k,.iface 238 .undef])) J):zzQ G 114 [.str t] J R:=by
 refine ACalls.of_below λM w cargs S g hc=>?_
 obtain⟨c,rfl,hv⟩:=zxX hc
 obtain⟨b,rfl,rfl⟩:=hv.str_inv
 have hbl:b.size=b.data.toList.length:=by simp
 cases hq:Lib.atoiAll b.data.toList with
 | ok n =>
  refine(Tryz.strconv_Atoi_ok b (by omega) n hq w).mono λe w' ⟨he,hw'⟩=>?_
  subst he
  refine⟨⟨.tuple [.int .i64 n,.nilif],_,rfl,λM F w=>.tuple _ _ rfl λj h h'=>?_,hs n hq⟩,?_⟩
  .match j,h with
   | 0,_=>exact .int ..
   | 1,_=>exact .nilif
  .rcases hw' with rfl|⟨t,rfl⟩
   .exact RowKit.Below.refl _ _
   .exact⟨rfl,rfl,rfl,by rw[Lib.bytesWorld_size];omega,λk hk=>Lib.bytesWorld_at_old w 5 t k hk⟩
 | range =>
  obtain⟨te,v,he6⟩:=V.errR
  have h6:=g.vars 6
  rw[he6]at h6
  obtain⟨ev,hcell,hev⟩:∃ev,w.cell? ⟨6,0,none⟩=some ev/\(ev=.nilIface\/∃te pe,ev=.iface te pe):=by
   cases h6 with
   | pv φ v B off cs hmem hc hv =>
    have h1:=hc trivial 0 (by simp[AV.cells])
    have h2:=hv trivial 0 (by simp[AV.cells])
    simp only[AV.cells,yaz]at h2
    generalize cs 0=c at h1 h2
    cases h2
    exact⟨_,h1,.inr ⟨_,_,rfl⟩⟩
  refine(Tryz.strconv_Atoi_range b (by omega) hq ev w hcell hev).mono λe w' ⟨N,he,_,_,hb⟩=>?_
  subst he
  refine⟨⟨.tuple [.int .i64 (Lib.atoiSat b.data.toList),.iface 238 .undef],_,rfl,λM F w=>.tuple _ _ rfl λj h h'=>?_,hr hq _⟩,hb⟩
  match j,h with
  | 0,_=>exact .int ..
  | 1,_=>exact .iface _ _ _ (.undef _)
 | _ =>
  rw[znf h0 h1]at hq
  split at hq<;>cases hq
theorem zfE{s:List UInt8}{c:UInt8}(hc:c.toNat<128)(h:R (.ret (.bool (s.contains c))) J):zzQ G 170 [.str s,.int .i32 (c.toNat:Int)] J R:=by
 refine ACalls.of_below λM w cargs S g hcc=>?_
 obtain⟨x,y,rfl,hv,hu⟩:=zxY hcc
 obtain⟨b,rfl,rfl⟩:=hv.str_inv
 rw[hu.int_inv]
 refine(Tryz.strings_ContainsRune_ascii b (c.toNat:Int) w (by omega) (by omega)).mono λe w' ⟨he,hw'⟩=>?_
 subst he hw'
 refine⟨⟨.bool _,_,rfl,λM F w=>.bool _,?_⟩,RowKit.Below.refl _ _⟩
 have e0:∀l:List UInt8,(0<=Lib.indexByte l c)↔c∈l:=λl=>by
  induction l with
  | nil=>simp[Lib.indexByte]
  | cons x l ih =>
   have hge:=Lib.indexByte_ge l c
   by_cases hx:x=c
   .subst hx;simp[Lib.indexByte]
   .have hx':¬c=x:=λe=>hx e.symm
    simp only[Lib.indexByte,beq_iff_eq,hx,if_false,ybD,hx',false_or,<-ih]
    split<;>omega
 have e:decide (0<=Lib.indexByte b.data.toList ((c.toNat:Int).toNat.toUInt8))=b.data.toList.contains c:=by
  have e1:((c.toNat:Int).toNat.toUInt8)=c:=by simp
  rw[e1,Bool.eq_iff_iff]
  simp[e0]
 rw[e]
 exact h
end
end Go.Proofs.YtohfclafhegadaaGreatDoor
namespace Go.Proofs.YtohfclafhegadaaGreatDoor
open Go Go.Abs Go.Shelf Go.RowKit Go.Lib
set_option maxHeartbeats 1000000 in
theorem zpy(r:Int)(w:World)(h1:128<=r)(h2:r<=1114111)(h3:r<55296\/57343<r):
  Calls yca 236 #[.int .i32 r] w λe w'=>e=.returned (.bool true)/\w'=w:=by
 by_cases h4:r<55296
 .go_enter yds,ydt
  go_wp2
  go_ret
  exact⟨rfl,rfl⟩
 .have h5:57343<r:=by omega
  go_enter yds,ydt
  go_wp2
  go_ret
  exact⟨rfl,rfl⟩
theorem zrb:∀{l:List UInt8} {c:UInt8},(∀b∈l,b≠c)->Lib.indexByte l c=-1
 | [],_,_=>rfl
 | x::l,c,h=>by
  have hx:¬x=c:=h x (by simp)
  have ih:=zrb (l:=l) (c:=c) λb hb=>h b (by simp[hb])
  simp[Lib.indexByte,hx,ih]
set_option maxHeartbeats 2000000 in
theorem zuH(s:ByteArray)(r:Int)(w:World)(h1:128<=r)(h2:r<=1114111)(h3:r<55296\/57343<r)(h4:r≠65533)(hs:∀(j:Nat) b,s.data.toList[j]?=some b->b.toNat<128):
  Calls yca 205 #[.string s,.int .i32 r] w λe w'=>e=.returned (.int .i64 (-1))/\Below w.heap.size w w':=by
 have e236:∀args w,(callFunc 236 args).run yca w=.ok (.enter 236 args) w:=enters_of yds (by kernel_rfl) rfl
 have e227:∀args w,(callFunc 227 args).run yca w=.ok (.enter 227 args) w:=enters_of Tryz.func227 (by kernel_rfl) rfl
 have HA:Aside (∀(j:Nat) b,s.data.toList[j]?=some b->b.toNat<128):=hs
 clear hs
 obtain⟨q1,q2,q3⟩:=encode_facts r (by rw[validRune_eq];unfold validRune;exact decide_eq_true (by omega)) h1
 generalize hrs:Utf8.encode r=rs at q1 q2 q3
 obtain⟨n,hn⟩:∃n,rs.size=n+1:=⟨rs.size-1,by omega⟩
 have hz:(rs.size:Int)-1=(n:Int):=by omega
 have hnr:n<rs.size:=by omega
 have q4:128<=(rs[n]'hnr).toNat:=by
  have:=q3 (by omega)
  simpa [hn]using this
 clear q3
 go_enter ydu,ydv
 go_wp2_with (go_at_fn 236;refine(zpy r _ h1 h2 h3).mono ?_;rintro e w' ⟨rfl,hw⟩;rw[hw])
 subst hw
 go_step3
 go_wp2
 go_loopg [4,9,10,11,12] 0 (λg _ v9 _ _ _ wx=>v9=.int .i64 (n:Int)/\wx=w')
 case atStart=>exact⟨rfl,rfl⟩
 case round =>
  obtain⟨rfl,rfl⟩:=hrel
  by_cases hlt:n<s.size
  .have hlt':(n:Int)<(s.size:Int):=by omega
   go_wp2
   go_step3
   go_wp2
   have hnr':(n:Int)<(rs.size:Int):=by omega
   have hne:(((s[n]'hlt).toNat:Int) != ((rs[n]'hnr).toNat:Int))=true:=by
    have:=HA.out n (s[n]'hlt) (Lib.data_getElem? s n hlt)
    simp only[bne_iff_ne,ne_eq]
    omega
   have hib:∀a e:Nat,Lib.indexByte (s.extract a e).data.toList (((rs[n]'hnr).toNat:Int).toNat.toUInt8)=-1:=λa e=>zrb λb hb q=>by
    obtain⟨j,hj,e⟩:=ya9 (mem_extract hb)
    have:=HA.out j b (by rw[yau hj,e])
    rw[q]at this
    simp at this
    omega
   have hle1:((n:Int)+1)<=(s.size:Int):=by omega
   have hle2:n+1<=s.size:=by omega
   have hwr:yb5 .i64 ((n:Int)+1)=(n:Int)+1:=by rw[Go.Abs.wrap_i64]<;>omega
   have hn3:(n:Int)<=3:=by omega
   have hle0:(0:Int)<=(n:Int)+1:=by omega
   have hle3:(0:Int)<=(n:Int)+1/\(n:Int)+1<=(s.size:Int):=⟨hle0,hle1⟩
   clear hn hz hrs q1 q2
   go_region
   go_wp2
   go_region_with (go_at_call 227;refine(Tryz.strings_IndexByte _ _ _).mono ?_;rintro e w' ⟨rfl,hw⟩;rw[hw,hib])
   go_wp2
   try rw[Exit.noGoto_ret]
   go_wp2
   try rw[Exit.noGoto_ret]
   go_ret
   exact⟨rfl,((Below.refl _ _).drew).drew⟩
  .have hlt':¬(n:Int)<(s.size:Int):=by omega
   go_wp2
   go_ret
   exact⟨rfl,.refl ..⟩
set_option maxHeartbeats 2000000 in
theorem zxZ(s:ByteArray)(w:World)(hs:∀(j:Nat) b,s.data.toList[j]?=some b->b.toNat<128):
  Calls yca 205 #[.string s,.int .i32 65533] w λe w'=>e=.returned (.int .i64 (-1))/\Below w.heap.size w w':=by
 have HA:Aside (∀(j:Nat) b,s.data.toList[j]?=some b->b.toNat<128):=hs
 clear hs
 go_enter ydu,ydv
 go_wp2
 go_loopg [4,5,6] s.size (λg _ _ _ wx=>∃i:Nat,i+g=s.size/\wx=w.iter s i)
 case atStart=>exact⟨0,by omega,rfl⟩
 case round =>
  obtain⟨i,hig,rfl⟩:=hrel
  cases gk with
  | zero =>
   obtain rfl:i=s.size:=by omega
   have hnx:=run_next_end (P:=yca) w s s.size
   go_wp2
   try rw[Exit.noGoto_ret]
   go_ret
   exact⟨rfl,(Below.refl _ _).alloc (yah _) _⟩
  | succ g =>
   have hi:i<s.size:=by omega
   obtain⟨x,hx⟩:∃x:UInt8,s[i]'hi=x:=⟨_,rfl⟩
   have hxl:s.data.toList[i]?=some x:=by rw[<-hx];exact Lib.data_getElem? s i hi
   have hx128:x.toNat<128:=HA.out i x hxl
   have hnx:=λty=>run_next_ascii (P:=yca) w s i ty hi (by rw[hx];exact hx128)
   rw[hx]at hnx
   have hxe:((x.toNat:Int)==65533)=false:=by rw[beq_eq_false_iff_ne];omega
   clear hxl hx
   go_wp2
   go_roundg g
   case measure=>omega
   case rel=>exact⟨i+1,by omega,rfl⟩
structure zv5(bs:List UInt8)(pos:Nat)(d:Nat × Nat):Prop where
 lo:128<=d.1
 hi:d.1<=1114111
 ok:d.1<55296\/57343<d.1
 w1:1<=d.2
 wl:pos+d.2<=bs.length
 all:∀j c,pos<=j->j<pos+d.2->bs[j]?=some c->128<=c.toNat
theorem zv6{bs:List UInt8}{j:Nat}{c:UInt8}(h:bs[j]?=some c):ByteArray.get! ⟨bs.toArray⟩ j=c:=by
 obtain⟨h1,h2⟩:=yaq.1 h
 show bs.toArray[j]! = c
 rw[getElem!_pos bs.toArray j (by simpa using h1)]
 simpa using h2
theorem zrc{bs:List UInt8}{pos:Nat}(h:pos<bs.length):(bs[pos].toNat<128/\Utf8.decode ⟨bs.toArray⟩ pos=(bs[pos].toNat,1))\/(128<=bs[pos].toNat/\zv5 bs pos (Utf8.decode ⟨bs.toArray⟩ pos)):=by
 have h0:ByteArray.get! ⟨bs.toArray⟩ (pos+0)=bs[pos]:=zv6 (yau h)
 have hsz:ByteArray.size ⟨bs.toArray⟩=bs.length:=by simp[ByteArray.size]
 have hb:bs[pos].toNat<256:=bs[pos].toNat_lt
 have one:∀j c,pos<=j->j<pos+1->bs[j]?=some c->128<=bs[pos].toNat->128<=c.toNat:=λj c q1 q2 q3 q4=>by
  obtain rfl:j=pos:=by omega
  rw[yau h]at q3
  cases q3;exact q4
 have cont:∀k,(decide (pos+k<bs.length)&&(ByteArray.get! ⟨bs.toArray⟩ (pos+k)).toNat/64==2)=true->pos+k<bs.length/\128<=(ByteArray.get! ⟨bs.toArray⟩ (pos+k)).toNat/\(ByteArray.get! ⟨bs.toArray⟩ (pos+k)).toNat<192/\∀c,bs[pos+k]?=some c->128<=c.toNat:=λk q=>by
  simp only[Bool.and_eq_true,decide_eq_true_eq,beq_iff_eq]at q
  refine⟨q.1,by omega,by omega,λc hc=>?_⟩
  rw[zv6 hc]at q
  omega
 by_cases hlt:bs[pos].toNat<128
 .refine .inl ⟨hlt,?_⟩
  unfold Utf8.decode
  simp only[h0,hlt,if_true]
 .refine .inr ⟨by omega,?_⟩
  have bad:zv5 bs pos (Utf8.runeError,1):=⟨by decide,by decide,by decide,by decide,by simp only;omega,λj c q1 q2 q3=>one j c q1 q2 q3 (by omega)⟩
  unfold Utf8.decode
  simp only[h0,hlt,if_false,hsz]
  generalize hf:(λk=>(ByteArray.get! ⟨bs.toArray⟩ (pos+k)).toNat)=f at *
  have hfk:∀k,(ByteArray.get! ⟨bs.toArray⟩ (pos+k)).toNat=f k:=λk=>by rw[<-hf]
  simp only[hfk]at cont ⊢
  split
  .rename_i c1
   rw[Bool.and_eq_true]at c1
   obtain⟨k1,k2,k3,k4⟩:=cont 1 c1.2
   have c0:bs[pos].toNat/32=6:=by simpa using c1.1
   split
   .refine⟨by simp only;omega,by simp only;omega,by simp only;omega,by simp,by simp only;omega,λj c q1 q2 q3=>?_⟩
    simp only at q2
    by_cases e:j=pos
    .exact one j c q1 (by omega) q3 (by omega)
    .obtain rfl:j=pos+1:=by omega
     exact k4 c q3
   .exact bad
  .split
   .rename_i _ c1
    simp only[Bool.and_eq_true]at c1
    obtain⟨⟨c0,c1⟩,c2⟩:=c1
    obtain⟨k1,k2,k3,k4⟩:=cont 1 (by simpa using c1)
    obtain⟨l1,l2,l3,l4⟩:=cont 2 (by simpa using c2)
    have c0:bs[pos].toNat/16=14:=by simpa using c0
    split
    .rename_i hv
     rw[Bool.and_eq_true]at hv
     have hv1:2048<=bs[pos].toNat%16*4096+f 1%64*64+f 2%64:=by simpa using hv.1
     have hv2:=hv.2
     rw[validRune_eq]at hv2
     have hv2:=of_decide_eq_true hv2
     refine⟨by simp only;omega,by simp only;omega,by simp only;omega,by simp,by simp only;omega,λj c q1 q2 q3=>?_⟩
     simp only at q2
     by_cases e:j=pos
     .exact one j c q1 (by omega) q3 (by omega)
     .by_cases e1:j=pos+1
      .subst e1;exact k4 c q3
      .obtain rfl:j=pos+2:=by omega
       exact l4 c q3
    .exact bad
   .split
    .rename_i _ _ c1
     simp only[Bool.and_eq_true]at c1
     obtain⟨⟨⟨c0,c1⟩,c2⟩,c3⟩:=c1
     obtain⟨k1,k2,k3,k4⟩:=cont 1 (by simpa using c1)
     obtain⟨l1,l2,l3,l4⟩:=cont 2 (by simpa using c2)
     obtain⟨m1,m2,m3,m4⟩:=cont 3 (by simpa using c3)
     have c0:bs[pos].toNat/8=30:=by simpa using c0
     split
     .rename_i hv
      rw[Bool.and_eq_true]at hv
      have hv1:65536<=bs[pos].toNat%8*262144+f 1%64*4096+f 2%64*64+f 3%64:=by simpa using hv.1
      have hv2:=hv.2
      rw[validRune_eq]at hv2
      have hv2:=of_decide_eq_true hv2
      refine⟨by simp only;omega,by simp only;omega,by simp only;omega,by simp,by simp only;omega,λj c q1 q2 q3=>?_⟩
      simp only at q2
      by_cases e:j=pos
      .exact one j c q1 (by omega) q3 (by omega)
      .by_cases e1:j=pos+1
       .subst e1;exact k4 c q3
       .by_cases e2:j=pos+2
        .subst e2;exact l4 c q3
        .obtain rfl:j=pos+3:=by omega
         exact m4 c q3
     .exact bad
    .exact bad
theorem zx0{J:AS}(bs:List UInt8)(K:AV->AS->Prop):zgl yca 9 (.str bs) J K=K (.sit J.nf bs 0) J.newF:=by
 unfold zgl
 rw[Tryz.underlying9]
theorem zrd{J Z:AS}{f:Nat}(A:ze J Z)(hf:J.nf<=f):ze J (Z.turn f):=by
 have hn:=A.nf
 refine⟨A.no,by simp[AS.turn];omega,A.obj,λg hg=>?_⟩
 have h1:¬g=Z.nf:=by omega
 have h2:¬g=f:=by omega
 simp[AS.turn,h1,h2]
 exact A.fam g hg
theorem zox{Z:AS}{f:Nat}:(Z.turn f).F Z.nf=.alive:=by simp[AS.turn]
section
variable {G : Env} {J : AS} {R : Out -> AS -> Prop}
theorem znv{l:List UInt8}{r:Int}(hl:∀c∈l,c.toNat<128)(h1:128<=r)(h2:r<=1114111)(h3:r<55296\/57343<r)(h:R (.ret (.int .i64 (-1))) J):zzQ G 205 [.str l,.int .i32 r] J R:=by
 refine ACalls.of_below λM w cargs S g hcc=>?_
 obtain⟨x,y,rfl,hv,hu⟩:=zxY hcc
 obtain⟨b,rfl,rfl⟩:=hv.str_inv
 rw[hu.int_inv]
 have hs:∀(j:Nat) c,b.data.toList[j]?=some c->c.toNat<128:=λj c hj=>hl c (ycW hj)
 have key:Calls yca 205 #[.string b,.int .i32 r] w λe w'=>e=.returned (.int .i64 (-1))/\RowKit.Below w.heap.size w w':=by
  by_cases e:r=65533
  .subst e;exact zxZ b w hs
  .exact zuH b r w h1 h2 h3 e hs
 refine key.mono λe w' ⟨he,hw'⟩=>?_
 subst he
 exact⟨⟨.int .i64 (-1),_,rfl,λM F w=>.int ..,h⟩,hw'⟩
theorem znw{l:List UInt8}{c:UInt8}(hc:c.toNat<128)(h:∀n:Int,(0<=n↔inS l c=true)->R (.ret (.int .i64 n)) J):zzQ G 205 [.str l,.int .i32 (c.toNat:Int)] J R:=by
 refine ACalls.of_below λM w cargs S g hcc=>?_
 obtain⟨x,y,rfl,hv,hu⟩:=zxY hcc
 obtain⟨b,rfl,rfl⟩:=hv.str_inv
 rw[hu.int_inv]
 refine(Tryz.strings_IndexRune_ascii b (c.toNat:Int) w (by omega) (by omega)).mono λe w' ⟨he,hw'⟩=>?_
 subst he hw'
 have e1:((c.toNat:Int).toNat.toUInt8)=c:=by simp
 rw[e1]
 refine⟨⟨.int .i64 _,_,rfl,λM F w=>.int ..,h _ ?_⟩,RowKit.Below.refl _ _⟩
 have:=Lib.contains_iff_indexByte b.data.toList c
 unfold inS
 rw[this]
 exact(decide_eq_true_iff).symm
def IrI(l s:List UInt8)(J:AS)(a:Nat->AV)(Z:AS):Prop:=∃(pos f:Nat),pos<=s.length/\(∀c∈s.take pos,inS l c=false)/\a 1=.str l/\a 45=.sit f s pos/\ze J Z/\J.nf<=f/\Z.F f=.alive
def IrM(s:List UInt8)(a:Nat->AV)(_:AS):Nat:=match a 45 with
 | .sit _ _ pos=>s.length-pos
 | _=>0
theorem zma{l s:List UInt8}(hl:∀c∈l,c.toNat<128)(h2:2<=l.length)(hL:l.length<=1000)(hs:s.length<2^62)(h:∀J',ze J J'->R (.ret (.int .i64 (zmE l s))) J'):zzQ G 168 [.str s,.str l] J R:=by
 by_cases h8:8<s.length
 .exact zif hl h2 hL h8 hs h
 .refine zoe rfl ?_
  have hne:¬l=[]:=by intro e;rw[e]at h2;simp at h2
  have h1:¬(l.length:Int)=1:=by omega
  have h8':¬(8:Int)<(s.length:Int):=by omega
  simp[zxC,hne,h1]
  refine zoi rfl ?_
  simp[zxF,h8']
  simp[zod,zx0]
  refine zS (IrI l s J) (IrM s) ⟨0,J.nf,by omega,by simp,by simp,by simp,(ze.refl J).newF,by simp,by simp⟩ λa Z hI=>?_
  obtain⟨pos,f,hp,hd,a1,a45,hA,hf,ha⟩:=hI
  by_cases hlt:pos<s.length
  .have hi:s[pos]?=some s[pos]:=yau hlt
   have hsplit:s=s.take pos++s[pos]::s.drop (pos+1):=by rw[<-ycU hlt,ydw]
   have htl:(s.take pos).length=pos:=by rw[ybf];omega
   have hge:¬s.length<=pos:=by omega
   have hAt:=zrd hA hf
   have hnf:=hA.nf
   rcases zrc hlt with ⟨hc,hdec⟩|⟨hc,hdec⟩
   .simp[zek,a1,a45,ha,hlt,hge,hdec]
    refine znw hc λn hn=>?_
    cases hin:inS l s[pos]with
    | true =>
     rw[hin]at hn
     have hn0:0<=n:=hn.2 rfl
     have:=zra (r:=s.drop (pos+1)) hd hin
     rw[<-hsplit,htl]at this
     have hh:=h _ hAt
     rw[this]at hh
     simp[hn0]
     exact hh
    | false =>
     rw[hin]at hn
     have hn0:¬0<=n:=λq=>by have:=hn.1 q;cases this
     simp[hn0]
     refine⟨⟨pos+1,Z.nf,by omega,λc hc'=>?_,by simp[a1],by simp,hAt,by omega,zox⟩,?_⟩
     .rw[List.take_succ_eq_append_getElem hlt,ybh,yc4]at hc'
      rcases hc' with hc'|rfl
      .exact hd c hc'
      .exact hin
     .simp[IrM,a45];omega
   .generalize hD:Utf8.decode ⟨s.toArray⟩ pos=D at hdec
    have hw1:=hdec.w1
    have hwl:=hdec.wl
    simp[zek,a1,a45,ha,hlt,hge,hD]
    refine znv hl (by have:=hdec.lo;omega) (by have:=hdec.hi;omega) (by have:=hdec.ok;omega) ?_
    simp
    refine⟨⟨pos+D.2,Z.nf,hwl,λc hc'=>?_,by simp[a1],by simp,hAt,by omega,zox⟩,?_⟩
    .obtain⟨j,hj,e⟩:=ya9 hc'
     have hjl:j<pos+D.2/\j<s.length:=by rw[ybf]at hj;omega
     have hjc:s[j]?=some c:=by
      rw[yau hjl.2,<-e]
      simp
     by_cases hjp:j<pos
     .exact hd c (ycW (by rw[ydk hjp];exact hjc))
     .have h128:=hdec.all j c (by omega) hjl.1 hjc
      cases hin:inS l c with
      | false=>rfl
      | true =>
       have:=hl c (by simpa [inS]using hin)
       omega
    .simp[IrM,a45];omega
  .have e:pos=s.length:=by omega
   subst e
   rw[ydn (yah _)]at hd
   have hh:=h _ hA
   rw[zl9 hd]at hh
   simp[zek,zku,a1,a45,ha]
   exact hh
end
def zih(_:List UInt8):Prop:=True
theorem zih.end{s t:List UInt8}(h:zih s)(ht:t<:+s):zih t:=trivial
section
variable {G : Env} {J : AS} {R : Out -> AS -> Prop}
def zdp:List UInt8:=[32,10]
def ze6:List UInt8:=[32,10,40,41,34]
def zdZ:List UInt8:=[34,10]
theorem zcb(p:UInt8->Bool)(s:List UInt8):s.dropWhile p<:+s:=List.dropWhile_suffix p
theorem zmb{l s:List UInt8}(h:0<=zmE l s):∃d c r,s=d++c::r/\(∀x∈d,inS l x=false)/\inS l c=true/\zmE l s=d.length:=by
 unfold zmE at h ⊢
 cases hf:s.findIdx? (inS l)with
 | none=>rw[hf]at h;simp at h
 | some i =>
  rw[ydx]at hf
  obtain⟨hi,hc,hd⟩:=hf
  refine⟨s.take i,s[i],s.drop (i+1),by simp,λx hx=>?_,hc,by simp;omega⟩
  obtain⟨j,hj,rfl⟩:=ya9 hx
  simp only[List.getElem_take]
  have hj':j<i:=by simp at hj;omega
  have:=hd j hj'
  simpa using this
theorem zv7{l s:List UInt8}(h:zmE l s<0):∀x∈s,inS l x=false:=by
 unfold zmE at h
 cases hf:s.findIdx? (inS l)with
 | none=>exact ydq.1 hf
 | some i=>rw[hf]at h;simp at h;omega
theorem zgA{p:UInt8->Bool}{d r:List UInt8}{c:UInt8}(hd:∀x∈d,p x=true)(hc:p c=false):(d++c::r).takeWhile p=d/\(d++c::r).dropWhile p=c::r:=by
 induction d with
 | nil=>simp[hc]
 | cons x d ih =>
  have hx:=hd x (by simp)
  obtain⟨i1,i2⟩:=ih λy hy=>hd y (by simp[hy])
  simp[hx,i1,i2]
theorem zgB{L t r:List UInt8}(h:L=t++r){n m:Int}(hn:n=(t.length:Int))(hm:m=(L.length:Int)):L.take n.toNat=t/\(L.take m.toNat).drop n.toNat=r:=by
 subst hn hm h
 refine⟨by simp,?_⟩
 rw[ybe,ybe,ydn (yah _),List.drop_left]
theorem zfF{s:List UInt8}(hok:zih s)(hl:s.length<2^40)(hn:zdv s=none->∀r J',r<:+s->ze J J'->R (.ret (.tuple [.str [],.str r])) J')(hs:∀t r,zdv s=some (t,r)->∀J',ze J J'->R (.ret (.tuple [.str t,.str r])) J'):zzQ G 115 [.str s] J R:=by
 refine zs7 rfl ?_
 simp[zBI]
 refine znu (l:=zdp) (by decide) (by decide) (by decide) λJ1 A1=>?_
 have hcut:zdv s=match s.dropWhile (inS zdp)with
  | []=>none
  | c::r=>if c=40\/c=41 then some ([c],r)else if c=34 then zlO r else some (c::r.takeWhile (λx=>!zbc x),r.dropWhile λx=>!zbc x):=rfl
 have hsuf:=zcb (inS zdp) s
 have hlen:=hsuf.length_le
 have hhd:∀c r,s.dropWhile (inS zdp)=c::r->inS zdp c=false:=λc r e=>by
  have:=ydp (inS zdp) s
  rw[e]at this
  exact this
 generalize s.dropWhile (inS zdp)=s1 at *
 have hok1:=hok.end hsuf
 cases s1 with
 | nil =>
  simp
  exact hn hcut _ _ hsuf A1
 | cons c r =>
  simp only at hcut
  simp only[yac]at hlen
  have hc0:=c.toNat_lt
  have hc2:(c=40↔(c.toNat:Int)=40)/\(c=41↔(c.toNat:Int)=41)/\(c=34↔(c.toNat:Int)=34):=by
   refine⟨⟨λe=>by rw[e];rfl,λe=>UInt8.toNat_inj.1 (by show c.toNat=40;omega)⟩,⟨λe=>by rw[e];rfl,λe=>UInt8.toNat_inj.1 (by show c.toNat=41;omega)⟩,⟨λe=>by rw[e];rfl,λe=>UInt8.toNat_inj.1 (by show c.toNat=34;omega)⟩⟩
  by_cases h40:c=40\/c=41
  .rw[if_pos h40]at hcut
   have hres:=hs _ _ hcut J1 A1
   have h40':(c.toNat:Int)=40\/¬(c.toNat:Int)=40/\(c.toNat:Int)=41:=by
    rcases h40 with e|e
    .exact .inl (hc2.1.1 e)
    .have:=hc2.2.1.1 e
     exact .inr ⟨by omega,this⟩
   rcases h40' with e|⟨e1,e2⟩
   .simp[e]
    exact⟨by omega,hres⟩
   .simp[e2]
    exact⟨by omega,hres⟩
  .rw[if_neg h40]at hcut
   have n40:¬(c.toNat:Int)=40:=λe=>h40 (.inl (hc2.1.2 e))
   have n41:¬(c.toNat:Int)=41:=λe=>h40 (.inr (hc2.2.1.2 e))
   by_cases h34:c=34
   .rw[if_pos h34]at hcut
    have e34:=hc2.2.2.1 h34
    have hr:r<:+c::r:=ydy _ _
    simp[n40,n41,e34]
    refine⟨by omega,zma (l:=zdZ) (by decide) (by decide) (by decide) (by omega) λJ2 A2=>?_⟩
    have A12:=A1.trans A2
    have hq:zlO r=match r.dropWhile (λc=>!zqQ c)with
     | []=>none
     | x::z=>if x=34 then some (34::(r.takeWhile (λc=>!zqQ c)++[34]),z)else none:=rfl
    by_cases hi:0<=zmE zdZ r
    .obtain⟨d,x,z,rfl,hd,hx,he⟩:=zmb hi
     obtain⟨t1,t2⟩:=zgA (p:=λc=>!zqQ c) (d:=d) (r:=z) (c:=x) (λy hy=>by have:=hd y hy;simpa [inS,zdZ,zqQ]using this) (by
      simp[inS,zdZ,zqQ]at hx ⊢
      intro q
      exact hx.resolve_left q)
     rw[hq,t2,t1]at hcut
     simp only at hcut
     have w2:yb5 .i64 ((d.length:Int)+2)=(d.length:Int)+2:=by rw[wrap_i64]<;>simp at hlen<;>omega
     have w1:yb5 .i64 ((d.length:Int)+2-1)=((d.length+1:Nat):Int):=by rw[wrap_i64]<;>simp at hlen<;>omega
     have hlt:¬(d.length:Int)+2<2:=by omega
     have hx34:x=34↔(x.toNat:Int)=34:=⟨λe=>by rw[e];rfl,λe=>UInt8.toNat_inj.1 (by show x.toNat=34;omega)⟩
     have hxi:(c::(d++x::z))[d.length+1]?=some x:=by simp
     by_cases hx3:x=34
     .rw[if_pos hx3]at hcut
      have hx4:=hx34.1 hx3
      have hres:=hs _ _ hcut J2 A12
      simp[he,w2,w1,hlt,hx4]
      refine⟨by omega,by omega,?_⟩
      obtain⟨e1,e2⟩:=zgB (L:=c::(d++x::z)) (t:=34::(d++[34])) (r:=z) (n:=(d.length:Int)+2) (m:=(d.length:Int)+((z.length:Int)+1)+1) (by rw[hx3,h34];simp) (by simp;omega) (by simp)
      rw[e1,e2]
      exact⟨by omega,by omega,by omega,hres⟩
     .rw[if_neg hx3]at hcut
      have hx4:¬(x.toNat:Int)=34:=λe=>hx3 (hx34.2 e)
      simp[he,w2,w1,hlt,hx4]
      exact⟨by omega,hn hcut _ _ hsuf A12⟩
    .have he:zmE zdZ r=-1:=by
      unfold zmE at hi ⊢
      cases hf:r.findIdx? (inS zdZ)with
      | none=>rfl
      | some i=>rw[hf]at hi;simp at hi
     have hno:=zv7 (l:=zdZ) (s:=r) (by omega)
     have hdw:r.dropWhile (λc=>!zqQ c)=[]:=by
      rw[zdY,yaM]
      intro y hy
      have:=hno y hy
      simpa [inS,zdZ,zqQ]using this
     rw[hq,hdw]at hcut
     simp[he,show yb5 .i64 1=1 from rfl]
     exact hn hcut _ _ hsuf A12
   .rw[if_neg h34]at hcut
    have n34:¬(c.toNat:Int)=34:=λe=>h34 (hc2.2.2.2 e)
    simp[n40,n41,n34]
    refine zma (l:=ze6) (by decide) (by decide) (by decide) (by simp;omega) λJ2 A2=>?_
    have A12:=A1.trans A2
    have hcs:zng c=false:=hhd c r rfl
    have hcn:inS ze6 c=false:=by
     have e10:¬c=10/\¬c=32:=by simpa [zng,not_or,and_comm]using hcs
     simp[inS,ze6,e10,λe=>h40 (.inl e),λe=>h40 (.inr e),h34]
     exact⟨λe=>h40 (.inl e),λe=>h40 (.inr e)⟩
    have hst:∀y,inS ze6 y=zbc y:=λy=>rfl
    by_cases hi:0<=zmE ze6 (c::r)
    .obtain⟨d,x,z,hcr,hd,hx,he⟩:=zmb hi
     obtain⟨d',rfl⟩:∃d',d=c::d':=by
      cases d with
      | nil =>
       simp at hcr
       rw[<-hcr.1,hcn]at hx
       cases hx
      | cons y d' =>
       simp at hcr
       exact⟨d',by rw[hcr.1]⟩
     have hr2:r=d'++x::z:=by simpa using hcr
     subst hr2
     obtain⟨t1,t2⟩:=zgA (p:=λc=>!zbc c) (d:=d') (r:=z) (c:=x) (λy hy=>by have:=hd y (by simp[hy]);rw[hst]at this;simp[this]) (by rw[hst]at hx;simp[hx])
     rw[t1,t2]at hcut
     have hres:=hs _ _ hcut J2 A12
     have hlt:¬(d'.length:Int)+1<0:=by omega
     simp[he,hlt]
     obtain⟨e1,e2⟩:=zgB (L:=c::(d'++x::z)) (t:=c::d') (r:=x::z) (n:=(d'.length:Int)+1) (m:=(d'.length:Int)+((z.length:Int)+1)+1) (by simp) (by simp) (by simp)
     have e3:((d'.length:Int)+1).toNat=d'.length+1:=by omega
     rw[e3]at e2
     rw[e2]
     exact⟨by omega,by omega,by omega,by omega,hres⟩
    .have hno:=zv7 (l:=ze6) (s:=c::r) (by omega)
     have hw:r.takeWhile (λx=>!zbc x)=r/\r.dropWhile (λx=>!zbc x)=[]:=by
      have h1:∀y∈r,(!zbc y)=true:=λy hy=>by have:=hno y (by simp[hy]);rw[hst]at this;simp[this]
      have h2:r.dropWhile (λx=>!zbc x)=[]:=by rw[zdY,yaM];exact h1
      have h3:=List.takeWhile_append_dropWhile (p:=λx=>!zbc x) (l:=r)
      rw[h2,yb8]at h3
      exact⟨h3,h2⟩
     rw[hw.1,hw.2]at hcut
     have hres:=hs _ _ hcut J2 A12
     have hlt:zmE ze6 (c::r)<0:=by omega
     simp[hlt]
     exact⟨by omega,hres⟩
end
def zx1(e:Int):AV:=.iface 33 (.int .i64 e)
structure Wr(base x:Nat)(s:Ts)(J:AS):Prop where
 hx:x<J.no
 hb:0<base/\base<=J.nf
 h0:J.F 0=.alive
 ok:zih s.b
 len:s.b.length<2^36
 cells:∃lv,J.objs x=some [.str s.b,lv]/\ToR base J lv s.ls
theorem zkM{s t r:List UInt8}(h:zdv s=some (t,r)):r<:+s:=by
 have h0:=zcb zng s
 unfold zdv at h
 split at h
 .cases h
 .rename_i c z e
  rw[e]at h0
  have h1:=(ydy c z).trans h0
  split at h
  .cases h;exact h1
  .split at h
   .unfold zlO at h
    have h2:=zcb (λc=>!zqQ c) z
    split at h
    .cases h
    .rename_i x y e2
     rw[e2]at h2
     split at h
     .cases h;exact((ydy x r).trans h2).trans h1
     .cases h
   .cases h;exact(zcb _ z).trans h1
theorem Wr.uses{base x s J}(h:Wr base x s J){f:Nat}(hf:f<base):¬zco J x f:=λ⟨cs,v,h1,h2,h3⟩=>by
 obtain⟨lv,ho,hl⟩:=h.cells
 rw[ho]at h1
 cases h1
 simp at h2
 subst h2
 rcases hl with ⟨_,rfl⟩|⟨g,tos,rfl,hg,_⟩
 .cases h3
 .simp only[zcL,yaR.injEq]at h3
  omega
theorem Wr.lt{base x s J}(h:Wr base x s J){f:Nat}(u:zco J x f):f<J.nf:=by
 obtain⟨cs,v,h1,h2,h3⟩:=u
 obtain⟨lv,ho,hl⟩:=h.cells
 rw[ho]at h1
 cases h1
 simp at h2
 subst h2
 rcases hl with ⟨_,rfl⟩|⟨g,tos,rfl,hg,hg2,_⟩
 .cases h3
 .simp only[zcL,yaR.injEq]at h3
  omega
theorem Wr.set{base x s J lv b}(h:Wr base x s J)(hb:b<:+s.b)(hl:ToR base J lv s.ls):Wr base x { s with b:=b } (J.setO x [.str b,lv]):=by
 refine⟨h.hx,h.hb,h.h0,h.ok.end hb,ydz hb.length_le h.len,lv,by simp,?_⟩
 rcases hl with h1|⟨g,tos,h1,h2,h3,h4,h5⟩
 .exact .inl h1
 .exact .inr ⟨g,tos,h1,h2,h3,h4,h5⟩
theorem Wr.adds{base x s J J'}(h:Wr base x s J)(A:ze J J'):Wr base x s J':=by
 obtain⟨lv,ho,hl⟩:=h.cells
 have hn:=A.nf
 have hb:=h.hb
 refine⟨yag h.hx A.no,⟨hb.1,by omega⟩,(A.fam 0 (by omega)).trans h.h0,h.ok,h.len,lv,(A.obj x h.hx).trans ho,?_⟩
 rcases hl with h1|⟨g,tos,h1,h2,h3,h4,h5⟩
 .exact .inl h1
 .exact .inr ⟨g,tos,h1,h2,by omega,(A.fam g h3).trans h4,h5⟩
def zcF(R:Out->AS->Prop)(x:Nat)(J:AS)(e:Int):Prop:=∀J',zZ x J J'->R (.panic (zx1 e)) J'
theorem zcF.mono{R x J J' e}(h:zcF R x J e)(K:zZ x J J'):zcF R x J' e:=λZ k=>h Z (K.trans k)
section
variable {G : Env} {J : AS} {R : Out -> AS -> Prop}
theorem z8{b:Bool}{e:Int}(h1:b=true->R (.ret (.tuple [])) J)(h2:b=false->R (.panic (zx1 e)) J):zzQ G 61 [.bool b,.int .i64 e] J R:=by
 refine zxn rfl ?_
 cases b with
 | true =>
  simp[zFg]
  exact h1 rfl
 | false =>
  simp[zFg]
  exact h2 rfl
theorem zjA{base x s}(h:Wr base x s J)(hn:zb8 s=.error 2->zcF R x J 2)(hs:∀t s',zb8 s=.ok (t,s')->∀J',Wr base x s' J'->zah x J J'->R (.ret (.str t)) J'):zzQ G 110 [.ptr x 0] J R:=by
 refine zs5 rfl ?_
 obtain⟨lv,ho,hl⟩:=h.cells
 have l1:=hl.one
 have hx:=h.hx
 simp[zBG,ho]
 refine zfF h.ok (yag h.len (by decide)) (λhq r J1 hr A1=>?_) (λt r hq J1 A1=>?_)
 .simp
  refine z8 (λq=>by simp at q) (λ_=>?_)
  simp
  exact hn (by unfold zb8;rw[hq]) _ (A1.keepR hx)
 .obtain⟨_,hne⟩:=zcs hq
  have h1:=h.adds A1
  have hsuf:=zkM hq
  simp[hne]
  refine z8 (λ_=>?_) (λq=>by simp at q)
  obtain⟨lv1,ho1,hl1⟩:=h1.cells
  have l2:=hl1.one
  simp[ho1,splice]
  have hnx:zb8 s=.ok (t,{ s with b:=r }):=by unfold zb8;rw[hq]
  exact hs t _ hnx _ (h1.set hsuf hl1) ((A1.keepS hx ho).trans (.set ho1 rfl))
end
@[simp] theorem zx2:zaq yca 139=some true:=by kernel_rfl
@[simp] theorem zAt(t:Nat)(v:AV)(K:AV->Prop):zbs yca .eql 139 (.iface t v) .nilif K=K (.bool false):=by
 have h:=zx2
 unfold zaq at h
 split at h
 .rename_i ms hu
  simp[zbs,aeq,zjT,hu]
 .cases h
 .cases h
def LW(x:Nat)(J:AS)(v:AV)(ts:List (List UInt8)):Prop:=(∃b,v=.sl (.stat b) 1 (ts.map ycR))\/∃ob,v=.slm ob 0 1 ts.length/\ob<J.no/\ob≠x/\J.objs ob=some (ts.map ycR)
theorem LW.keep{x J J' v ts}(h:LW x J v ts)(K:zah x J J'):LW x J' v ts:=by
 rcases h with h|⟨ob,h1,h2,h3,h4⟩
 .exact .inl h
 .exact .inr ⟨ob,h1,yag h2 K.no,h3,(K.obj ob h2 h3).trans h4⟩
theorem Wr.isSome{base x s J}(h:Wr base x s J):∃cs,J.objs x=some cs:=by obtain⟨lv,ho,_⟩:=h.cells;exact⟨_,ho⟩
section
variable {G : Env} {J : AS} {R : Out -> AS -> Prop}
def WdI(base x:Nat)(ts:List (List UInt8))(s0:Ts)(J:AS)(v:AV)(a:Nat->AV)(Z:AS):Prop:=∃(d r:List (List UInt8)) (s:Ts),ts=d++r/\zaD ts s0=zaD r s/\a 0=.ptr x 0/\a 6=v/\a 7=.int .i64 (ts.length:Int)/\a 8=.int .i64 (d.length:Int)/\Wr base x s Z/\zah x J Z/\LW x Z v ts
theorem zkN{base x s v ts}(h:Wr base x s J)(hv:LW x J v ts)(hl:ts.length<1000)(hn:∀e,zaD ts s=.error e->zcF R x J e)(hs:∀s',zaD ts s=.ok s'->∀J',Wr base x s' J'->zah x J J'->R (.ret (.tuple [])) J'):zzQ G 56 [.ptr x 0,v] J R:=by
 refine zxj rfl ?_
 obtain⟨cs0,hcs0⟩:=h.isSome
 have hlen:(∃b,v=.sl (.stat b) 1 (ts.map ycR))\/∃ob,v=.slm ob 0 1 ts.length:=by
  rcases hv with h|⟨ob,h,_⟩
  .exact .inl h
  .exact .inr ⟨ob,h⟩
 have go:avc yca G 18 (.block 0 (.loop zhW)) (zfn yca [] R) (upd (upd (upd (zbz [.ptr x 0,v]) 6 v) 7 (.int .i64 (ts.length:Int))) 8 (.int .i64 0)) J:=by
  simp
  refine zS (WdI base x ts s J v) (MU 8 (ts.length+1)) ⟨[],ts,s,rfl,rfl,by simp,by simp,by simp,by simp,h,.refl hcs0,hv⟩ λa Z hI=>?_
  obtain⟨d,r,s1,hdr,he,a0,a6,a7,a8,hW,hK,hV⟩:=hI
  cases r with
  | nil =>
   have e:ts.length=d.length:=by simp[hdr]
   rw[e]at a7
   simp[zhW,a0,a6,a7,a8]
   exact hs s1 he _ hW hK
  | cons t r =>
   have hlt:(d.length:Int)<(ts.length:Int):=by simp[hdr];omega
   have hi:ts[d.length]?=some t:=by simp[hdr]
   have w1:yb5 .i64 ((d.length:Int)+1)=((d.length+1:Nat):Int):=by rw[wrap_i64]<;>omega
   have rest:∀(t':List UInt8) (s2:Ts) (Z2:AS),zb8 s1=.ok (t',s2)->Wr base x s2 Z2->zah x Z Z2->zaD ts s=(if t'=t then zaD r s2 else .error 2):=λt' s2 Z2 q _ _=>by
    rw[he,zaD,q]
    rfl
   have hno:zb8 s1=.error 2->zcF R x J 2:=λq=>hn 2 (by rw[he,zaD,q];rfl)
   rcases hV with ⟨b,hv'⟩|⟨ob,hv',g1,g2,g3⟩
   .subst hv'
    have hv':True:=trivial
    simp[zhW,a0,a6,a7,a8,hv',hlt,hi]
    refine zjA hW (λq=>(hno q).mono hK.r) (λt' s2 q Z2 hW2 hK2=>?_)
    have hr:=rest t' s2 Z2 q hW2 hK2
    have hK12:=hK.trans hK2
    by_cases ht:t'=t
    .rw[if_pos ht]at hr
     simp[ht]
     refine z8 (λ_=>?_) (λq=>by cases q)
     simp[a0,a6,a7,a8,w1]
     refine⟨⟨d++[t],r,s2,by simp[hdr],hr,by simp[a0],by simp[a6,hv'],by simp[a7],by simp,hW2,hK12,(LW.keep (.inl ⟨b,rfl⟩) hK2)⟩,?_⟩
     simp[MU,a8];omega
    .rw[if_neg ht]at hr
     simp[ht]
     refine z8 (λq=>by cases q) (λ_=>?_)
     simp
     exact hn 2 hr _ hK12.r
   .subst hv'
    have hv':True:=trivial
    simp[zhW,a0,a6,a7,a8,hv',hlt,hi,g3]
    refine zjA hW (λq=>(hno q).mono hK.r) (λt' s2 q Z2 hW2 hK2=>?_)
    have hr:=rest t' s2 Z2 q hW2 hK2
    have hK12:=hK.trans hK2
    by_cases ht:t'=t
    .rw[if_pos ht]at hr
     simp[ht]
     refine z8 (λ_=>?_) (λq=>by cases q)
     simp[a0,a6,a7,a8,w1]
     refine⟨⟨d++[t],r,s2,by simp[hdr],hr,by simp[a0],by simp[a6,hv'],by simp[a7],by simp,hW2,hK12,(LW.keep (.inr ⟨ob,rfl,g1,g2,g3⟩) hK2)⟩,?_⟩
     simp[MU,a8];omega
    .rw[if_neg ht]at hr
     simp[ht]
     refine z8 (λq=>by cases q) (λ_=>?_)
     simp
     exact hn 2 hr _ hK12.r
 rcases hlen with ⟨b,rfl⟩|⟨ob,rfl⟩
 .simp[zFf]
  simpa using go
 .simp[zFf]
  simpa using go
theorem zuI{base x s w}(h:Wr base x s J)(hw:w≠[])(hn:zf4 w s=none->∀J',Wr base x s J'->zah x J J'->R (.ret (.bool false)) J')(hs:∀s',zf4 w s=some s'->∀J',Wr base x s' J'->zah x J J'->R (.ret (.bool true)) J'):zzQ G 59 [.ptr x 0,.str w] J R:=by
 refine zxl rfl ?_
 obtain⟨lv,ho,hl⟩:=h.cells
 have l1:=hl.one
 have hx:=h.hx
 have hlen:=h.len
 have hm:zf4 w s=match zdv s.b with
  | none=>none
  | some p=>if p.1=zB then(match zdv p.2 with
   | none=>none
   | some q=>if q.1=w then some { s with b:=q.2 }else none)else none:=rfl
 simp[zF4,ho]
 refine zfF h.ok (by omega) (λhq r J1 hr A1=>?_) (λt r hq J1 A1=>?_)
 .rw[hq]at hm
  simp
  have hrl:=hr.length_le
  refine zfF (h.ok.end hr) (by omega) (λhq2 r2 J2 hr2 A2=>?_) (λt2 r2 hq2 J2 A2=>?_)
  .simp
   exact hn hm _ (h.adds (A1.trans A2)) ((A1.trans A2).keepS hx ho)
  .simp
   exact hn hm _ (h.adds (A1.trans A2)) ((A1.trans A2).keepS hx ho)
 .rw[hq]at hm
  simp only at hm
  have hr:=zkM hq
  have hrl:=hr.length_le
  simp
  refine zfF (h.ok.end hr) (by omega) (λhq2 r2 J2 hr2 A2=>?_) (λt2 r2 hq2 J2 A2=>?_)
  .have hA:=A1.trans A2
   have hno:zf4 w s=none:=by
    rw[hm,hq2]
    split<;>rfl
   have fin:=hn hno _ (h.adds hA) (hA.keepS hx ho)
   by_cases ht:t=zB
   .have ht':t=[40]:=ht
    have hw':¬[]=w:=λe=>hw e.symm
    simp[ht',hw']
    exact fin
   .have ht':¬t=[40]:=ht
    simp[ht']
    exact fin
  .have hA:=A1.trans A2
   have h2:=h.adds hA
   obtain⟨lv2,ho2,hl2⟩:=h2.cells
   have l2:=hl2.one
   by_cases ht:t=zB
   .have ht':t=[40]:=ht
    rw[if_pos ht,hq2]at hm
    simp only at hm
    by_cases hw:t2=w
    .rw[if_pos hw]at hm
     simp[ht',hw,ho2,splice]
     exact hs _ hm _ (h2.set ((zkM hq2).trans hr) hl2) ((hA.keepS hx ho).trans (.set ho2 rfl))
    .rw[if_neg hw]at hm
     simp[ht',hw]
     exact hn hm _ h2 (hA.keepS hx ho)
   .have ht':¬t=[40]:=ht
    rw[if_neg ht]at hm
    simp[ht']
    exact hn hm _ h2 (hA.keepS hx ho)
theorem zii{t:List UInt8}(h:R (.ret (.str (zbu t))) J):zzQ G 113 [.str t,.str [45]] J R:=by
 refine zkL ?_
 have hb:(if zi3 [45] t=true then t.drop [45].length else t)=zbu t:=by
  rw[zig]
  unfold zbu
  cases t with
  | nil=>rfl
  | cons c r =>
   by_cases hc:c=45
   .subst hc;simp
   .simp[hc]
 exact(congrArg (λz=>R (.ret (.str z)) J) hb).mpr h
theorem zkO(V:zdw G){base x s}(h:Wr base x s J)(hn:∀e,zbo s=.error e->zcF R x J e)(hs:∀n s',zbo s=.ok (n,s')->-(2^63)<=n->n<2^63->∀J',Wr base x s' J'->zah x J J'->R (.ret (.int .i64 n)) J'):zzQ G 58 [.ptr x 0] J R:=by
 refine zxk rfl ?_
 simp[zF3]
 refine zjA h (λq=>hn 2 (by unfold zbo;rw[q];rfl)) (λt s1 q J1 h1 K1=>?_)
 have hnum:zbo s=(zqO t).map λn=>(n,s1):=by unfold zbo;rw[q];rfl
 have htl:t.length<2^36:=by
  have:=h.len
  unfold zb8 at q
  cases hc:zdv s.b with
  | none=>rw[hc]at q;cases q
  | some p =>
   obtain⟨p1,p2⟩:=p
   rw[hc]at q
   cases q
   have:=(zcs hc).1
   show p1.length<2^36
   omega
 obtain⟨lv1,ho1,hl1⟩:=h1.cells
 have hx1:=h1.hx
 simp
 refine zii ?_
 have hbl:(zbu t).length<=t.length:=by
  unfold zbu
  split<;>simp
 have hdig:∀c,inS [48,49,50,51,52,53,54,55,56,57] c=zK c:=by
  have key:∀k:Fin 256,inS [48,49,50,51,52,53,54,55,56,57] (UInt8.ofNat k.1)=zK (UInt8.ofNat k.1):=by decide +kernel
  intro c
  have:=key ⟨c.toNat,c.toNat_lt⟩
  simpa using this
 by_cases hb0:zbu t=[]
 .have hv:zqO t=.error 2:=by unfold zqO;rw[if_pos (by simp[hb0])]
  rw[hv]at hnum
  simp[hb0]
  refine z8 (λq=>by cases q) (λ_=>?_)
  simp
  exact hn 2 hnum _ K1.r
 .simp[hb0]
  refine zgb (l:=[48,49,50,51,52,53,54,55,56,57]) (by decide) (by decide) (by decide) (by omega) λJ2 A2=>?_
  have K12:=K1.trans (A2.keepS hx1 ho1)
  cases hall:(zbu t).all zK with
  | false =>
   have hv:zqO t=.error 2:=by unfold zqO;rw[if_pos (by simp[hall])]
   rw[hv]at hnum
   have hne:¬zl8 [48,49,50,51,52,53,54,55,56,57] (zbu t)=[]:=by
    rw[zcQ]
    have:(zbu t).all (inS [48,49,50,51,52,53,54,55,56,57])=(zbu t).all zK:=by congr 1;funext c;exact hdig c
    rw[this,hall]
    simp
   simp[hne]
   refine z8 (λq=>by cases q) (λ_=>?_)
   simp
   exact hn 2 hnum _ K12.r
  | true =>
   have he:zl8 [48,49,50,51,52,53,54,55,56,57] (zbu t)=[]:=by
    rw[zcQ]
    have:(zbu t).all (inS [48,49,50,51,52,53,54,55,56,57])=(zbu t).all zK:=by congr 1;funext c;exact hdig c
    rw[this,hall]
   have hv:zqO t=match Lib.atoiAll t with
     | .ok n=>if Lib.itoa n=t then .ok n else .error 11
     | _=>.error 11:=by
    unfold zqO
    rw[if_neg (by simp[hb0,hall])]
    try rfl
   simp[he]
   refine z8 (λ_=>?_) (λq=>by cases q)
   simp
   refine zpx V hb0 hall (by omega) (λn hq2=>?_) (λhq2 k=>?_)
   .rw[hq2]at hv
    simp only at hv
    have hr:-(2^63)<=n/\n<2^63:=by
     rw[znf hb0 hall]at hq2
     split at hq2
     .cases hq2;assumption
     .cases hq2
    simp
    refine zes V.pow hr ?_
    by_cases hi:Lib.itoa n=t
    .rw[if_pos hi]at hv
     rw[hv]at hnum
     simp[hi]
     refine z8 (λ_=>?_) (λq=>by cases q)
     simp
     exact hs n s1 hnum hr.1 hr.2 _ (h1.adds A2) K12
    .rw[if_neg hi]at hv
     rw[hv]at hnum
     simp[hi]
     refine z8 (λq=>by cases q) (λ_=>?_)
     simp
     exact hn 11 hnum _ K12.r
   .rw[hq2]at hv
    simp only at hv
    rw[hv]at hnum
    simp
    refine z8 (λq=>by cases q) (λ_=>?_)
    simp
    exact hn 11 hnum _ K12.r
end
theorem Wr.newF{base x s Z}(h:Wr base x s Z):Wr base x s Z.newF:=h.adds (ze.refl Z).newF
theorem Wr.endF{base x s Z}(h:Wr base x s Z){g:Nat}(hg:base<=g)(hu:¬zco Z x g):Wr base x s (Z.setF g .dead):=by
 obtain⟨lv,ho,hl⟩:=h.cells
 have hb:=h.hb
 refine⟨h.hx,hb,?_,h.ok,h.len,lv,ho,?_⟩
 .have:¬0=g:=by omega
  simp[this,h.h0]
 .rcases hl with h1|⟨f,tos,h1,h2,h3,h4,h5⟩
  .exact .inl h1
  .have:¬f=g:=λe=>hu ⟨_,_,ho,rfl,by rw[h1,<-e];rfl⟩
   exact .inr ⟨f,tos,h1,h2,h3,by simp[this,h4],h5⟩
theorem Wr.mrg{base x s Z}(h:Wr base x s Z){g:Nat}(hg:base<=g)(hu:¬zco Z x g):Wr base x s (Z.mrg g λ_=>false):=by
 obtain⟨lv,ho,hl⟩:=h.cells
 have hb:=h.hb
 refine⟨h.hx,hb,?_,h.ok,h.len,lv,by simpa [AS.mrg]using ho,?_⟩
 .have:¬0=g:=by omega
  simp[AS.mrg,zlG,this,h.h0]
 .rcases hl with h1|⟨f,tos,h1,h2,h3,h4,h5⟩
  .exact .inl h1
  .have:¬f=g:=λe=>hu ⟨_,_,ho,rfl,by rw[h1,<-e];rfl⟩
   exact .inr ⟨f,tos,h1,h2,h3,by simp[AS.mrg,zlG,this,h4],h5⟩
theorem Wr.setO{base x s J o cs}(h:Wr base x s J)(ho:o≠x):Wr base x s (J.setO o cs):=by
 obtain⟨lv,h1,hl⟩:=h.cells
 refine⟨h.hx,h.hb,h.h0,h.ok,h.len,lv,?_,?_⟩
 .have:¬x=o:=λe=>ho e.symm
  simp[this,h1]
 .rcases hl with h1|⟨g,tos,h1,h2,h3,h4,h5⟩
  .exact .inl h1
  .exact .inr ⟨g,tos,h1,h2,h3,h4,h5⟩
theorem zre{el:Option TypeId}{base x s}{J0 Z:AS}{v row:AV}{xs:List AV}{bsz sz:Nat}{K:AV->AS->Prop}(hG:zi2 J0 x sz Z v xs)(hR:Wr base x s Z)(hK:zZ x J0 Z)(hb:base<=J0.nf)(hrow:row.cells.length=sz)(hl:(xs.length+1)*bsz<=2^47)
  (h:∀v' Z',zi2 J0 x sz Z' v' (xs++[row])->Wr base x s Z'->zZ x J0 Z'->Z'.objs=Z.objs->Z'.no=Z.no->(zah x J0 Z->zah x J0 Z')->K v' Z'):zb7 el bsz sz v [row] Z K:=by
 have hn:=hK.nf
 rcases hG with ⟨rfl,rfl⟩|⟨g,rfl,h2,h3,h4,h5⟩
 .have hnu:¬zco Z.newF x Z.nf:=λu=>by have:=hR.lt (f:=Z.nf) u;omega
  have:=h (.sl (.fam Z.nf false) sz [row]) Z.newF (.inr ⟨Z.nf,rfl,hn,by simp,by simp,hnu⟩) hR.newF hK.newF (by simp) (by simp) (λq=>q.newF)
  simp at hl
  simp
  first|exact this|exact⟨by omega,this⟩
 .have hR':=(hR.endF (by omega) h5).newF
  have hK':=(hK.endF h2).newF
  have hnu:¬zco (Z.setF g .dead).newF x Z.nf:=λu=>by have:=hR.lt (f:=Z.nf) u;omega
  have:=h (.sl (.fam Z.nf false) sz (xs++[row])) (Z.setF g .dead).newF (.inr ⟨Z.nf,rfl,hn,by simp,by simp,hnu⟩) hR' hK' (by simp) (by simp) (λq=>(q.endF h2).newF)
  simp[h4]
  exact⟨hl,this⟩
theorem zd0{s s':Ts}{t:List UInt8}(h:zb8 s=.ok (t,s')):t.length+s'.b.length<=s.b.length/\t≠[]/\s'.ls=s.ls:=by
 unfold zb8 at h
 cases hc:zdv s.b with
 | none=>rw[hc]at h;cases h
 | some p =>
  obtain⟨p1,p2⟩:=p
  rw[hc]at h
  cases h
  exact⟨(zcs hc).1,(zcs hc).2,rfl⟩
section
variable {G : Env} {J : AS} {R : Out -> AS -> Prop}
def TyW(base x:Nat)(k0:Nat)(s0:Ts)(J:AS)(a:Nat->AV)(Z:AS):Prop:=∃(k:Nat) (done:List Int) (s:Ts),zb4 k0 [] s0=zb4 k done s/\s.b.length<k/\done.length+s.b.length<=s0.b.length/\a 0=.ptr x 0/\zi2 J x 1 Z (a 2) (done.map (.int .i64))/\Wr base x s Z/\zah x J Z
def MBt(x:Nat)(_:Nat->AV)(Z:AS):Nat:=match Z.objs x with
 | some (.str b::_)=>b.length
 | _=>0
theorem zeK{base x s Z}(h:Wr base x s Z)(a:Nat->AV):MBt x a Z=s.b.length:=by
 obtain⟨lv,ho,hl⟩:=h.cells
 unfold MBt
 rw[ho]
theorem zCE(l:List Int):(0:Int)<(l.length:Int)↔l≠[]:=by
 cases l<;>simp
theorem znx{base x s}{k:Nat}(h:Wr base x s J)(hk:s.b.length<k)(hn:∀e,zb4 k [] s=.error e->zcF R x J e)(hs:∀l s',zb4 k [] s=.ok (l,s')->∀v J',Al.IntsE v l->Wr base x s' J'->zah x J J'->R (.ret v) J'):zzQ G 118 [.ptr x 0] J R:=by
 refine Al.merging (ztb rfl ?_)
 obtain⟨cs0,hcs0⟩:=h.isSome
 simp[zBK]
 refine zS (TyW base x k s J) (MBt x) ⟨k,[],s,rfl,hk,by simp,by simp,.inl ⟨rfl,by simp⟩,h,.refl hcs0⟩ λa Z hI=>?_
 obtain⟨k1,done,s1,he,hk1,hlen,a0,hG,hW,hK⟩:=hI
 obtain⟨k1,rfl⟩:∃j,k1=j+1:=⟨k1-1,by omega⟩
 have hmb:=zeK hW a
 have hb:=h.hb.2
 have hl36:=h.len
 rw[zb4]at he
 simp[zn9,a0]
 refine zjA hW (λq=>?_) (λt s2 q Z2 hW2 hK2=>?_)
 .intro J' h1
  exact .inl (hn 2 (by rw[he,q];rfl) J' (hK.r.trans h1))
 .rw[q]at he
  simp only[Except.bind]at he
  obtain⟨q1,q2,_⟩:=zd0 q
  have ht0:1<=t.length:=ybn.2 q2
  have hK12:=hK.trans hK2
  have hG2:=hG.keep hK2.r
  have g2:=hG2.one
  have hmb2:=zeK hW2 a
  by_cases h32:t=zAp
  .rw[if_pos h32]at he
   have h32':t=[105,51,50]:=h32
   simp[h32',g2]
   refine zre (row:=.int .i64 1) hG2 hW2 hK12.r hb (by simp) (by simp;omega) λv' Z' e1 e2 e3 e4 e5 e6=>?_
   simp
   refine⟨⟨k1,done++[1],s2,he,by omega,by simp;omega,by simp[a0],by simpa using e1,e2,e6 hK12⟩,?_⟩
   rw[zeK e2,hmb];omega
  .rw[if_neg h32]at he
   have h32':¬t=[105,51,50]:=h32
   by_cases h64:t=zAq
   .rw[if_pos h64]at he
    have h64':t=[105,54,52]:=h64
    simp[h64',g2]
    refine zre (row:=.int .i64 2) hG2 hW2 hK12.r hb (by simp) (by simp;omega) λv' Z' e1 e2 e3 e4 e5 e6=>?_
    simp
    refine⟨⟨k1,done++[2],s2,he,by omega,by simp;omega,by simp[a0],by simpa using e1,e2,e6 hK12⟩,?_⟩
    rw[zeK e2,hmb];omega
   .rw[if_neg h64]at he
    have h64':¬t=[105,54,52]:=h64
    by_cases hsh:t=zf
    .have hsh':t=[41]:=hsh
     by_cases hd:done=[]
     .rw[if_neg (λq=>q.2 hd)]at he
      subst hd
      rcases hG2 with ⟨_,e2⟩|⟨g,e1,_⟩
      .simp[hsh',e2]
       refine z8 (λq=>by cases q) (λ_=>?_)
       simp
       exact .inl (hn 2 he _ hK12.r)
      .simp[hsh',e1]
       refine z8 (λq=>by cases q) (λ_=>?_)
       simp
       exact .inl (hn 2 he _ hK12.r)
     .rw[if_pos ⟨hsh,hd⟩]at he
      rcases hG2 with ⟨e1,_⟩|⟨g,e1,e2,e3,e4,e5⟩
      .exact absurd (by simpa using e1) hd
      .have hpos:(0:Int)<(done.length:Int):=(zCE done).2 hd
       have hposN:0<done.length:=by omega
       simp[hsh',e1,hposN]
       refine z8 (λ_=>?_) (λq=>by cases q)
       simp[e1]
       have:=hs _ _ he (.sl (.fam 0 false) 1 (done.map (.int .i64))) (Z2.mrg g λ_=>false) (.inr ⟨_,rfl⟩) (hW2.mrg (by omega) e5) (hK12.mrg e2)
       refine Al.MrgOr.merged g (λ_=>false) (by have:=hW2.hb;omega) e4 ?_
       simpa [Function.comp_def]using this
    .rw[if_neg (λq=>hsh q.1)]at he
     have hsh':¬t=[41]:=hsh
     simp[h32',h64',hsh']
     refine z8 (λq=>by cases q) (λ_=>?_)
     simp
     exact .inl (hn 2 he _ hK12.r)
end
@[simp] theorem zGj(J:AS)(f g:Nat):(J.turn f).F g=if g=J.nf then .alive else if g=f then .dead else J.F g:=by simp[AS.turn,upd]
@[simp] theorem zFs(J:AS)(f:Nat):(J.turn f).nf=J.nf+1:=rfl
@[simp] theorem zFt(J:AS)(f:Nat):(J.turn f).no=J.no:=rfl
@[simp] theorem zCF(J:AS)(f:Nat):(J.turn f).objs=J.objs:=rfl
theorem ze.turn{J J':AS}(h:ze J J'){f:Nat}(hf:J.nf<=f):ze J (J'.turn f) where
 no:=h.no
 nf:=Nat.le_succ_of_le h.nf
 obj:=h.obj
 fam g hg:=by
  have:=h.nf
  have h1:¬g=J'.nf:=by omega
  have h2:¬g=f:=by omega
  simp[h1,h2]
  exact h.fam g hg
theorem zv8:yca.underlying 208=some (.map 9 53):=by kernel_rfl
theorem zv9:yca.underlying 242=some (.map 9 3):=by kernel_rfl
theorem zoy(s:List UInt8):zeW yca 9 (.str s)=true:=by
 have:yca.underlying 9=some .string:=by kernel_rfl
 simp[zeW,this]
def zmF(l:List (List UInt8)):List AV:=l.map ycR
theorem zd1(s:List UInt8):∀(l:List (List UInt8)) (i:Nat),zlh (.str s) (zmF l) i=some ((l.findIdx? (λk=>k==s)).map (·+i))
 | [],i=>rfl
 | k::l,i=>by
  rw[show zmF (k::l)=.str k::zmF l from rfl,zlh,ydr]
  by_cases h:s=k
  .subst h
   simp[ziN]
  .have h':¬k=s:=λe=>h e.symm
   have ih:=zd1 s l (i+1)
   simp only[ziN,show(s==k)=false from by simpa using h]
   rw[ih]
   simp[h']
   cases l.findIdx? (λk=>k==s)with
   | none=>simp
   | some j=>simp;omega
@[simp] theorem zAu{J:AS}{f:Nat}{ks:List (List UInt8)}{vs:List AV}{k:List UInt8}{v:AV}{K:AV->AS->Prop}:zcA yca 208 (.mpo f (zmF ks) vs) (.str k) v J K=(J.F f=.alive/\v.plainV=true/\ks.contains k=false/\K (.mpo J.nf (zmF (ks++[k])) (vs++[v])) (J.turn f)):=by
 simp only[zcA,zv8,zoy,zd1,true_and]
 have e:(some ((ks.findIdx? (λx=>x==k)).map (·+0))=some none)↔ks.contains k=false:=by
  cases h:ks.findIdx? (λx=>x==k)with
  | none =>
   have:=ydq.1 h
   simp
   intro q
   have:=this k q
   simp at this
  | some i =>
   obtain⟨hi,hc,_⟩:=ydx.1 h
   have hc:ks[i]=k:=by simpa using hc
   simp
   rw[<-hc]
   exact yaw hi
 rw[propext e]
 rw[show zmF (ks++[k])=zmF ks++[.str k] from by simp[zmF]]
@[simp] theorem zAv{J:AS}{f:Nat}{ks:List (List UInt8)}{vs:List AV}{k:List UInt8}{v:AV}{K:AV->AS->Prop}:zcA yca 242 (.mpo f (zmF ks) vs) (.str k) v J K=(J.F f=.alive/\v.plainV=true/\ks.contains k=false/\K (.mpo J.nf (zmF (ks++[k])) (vs++[v])) (J.turn f)):=by
 simp only[zcA,zv9,zoy,zd1,true_and]
 have e:(some ((ks.findIdx? (λx=>x==k)).map (·+0))=some none)↔ks.contains k=false:=by
  cases h:ks.findIdx? (λx=>x==k)with
  | none =>
   have:=ydq.1 h
   simp
   intro q
   have:=this k q
   simp at this
  | some i =>
   obtain⟨hi,hc,_⟩:=ydx.1 h
   have hc:ks[i]=k:=by simpa using hc
   simp
   rw[<-hc]
   exact yaw hi
 rw[propext e]
 rw[show zmF (ks++[k])=zmF ks++[.str k] from by simp[zmF]]
@[simp] theorem zEo{J:AS}{K:AV->AS->Prop}{r:Option AV}:zee r J K=(r=none/\K (.mpo J.nf (zmF []) []) J.newF):=rfl
def zcc:W:={ op:=0,ty:=0,n:=0,body:=0,other:=0,name:=[] }
theorem zmc(T:List (List UInt8 × W))(s:List UInt8)(K:AV->Prop):zbA yca 208 (.mp (zmF (T.map (·.1))) (T.map λp=>p.2.av)) (.str s) true K=K (.tuple [((zL T s).getD zcc).av,.bool (zL T s).isSome]):=by
 have hz:zG yca 53=some zcc.av:=by kernel_rfl
 simp only[zbA,zv8,zoy,zd1,true_and,hz]
 have e:(T.map (·.1)).findIdx? (λk=>k==s)=T.findIdx? (λp=>p.1==s):=by rw[List.findIdx?_map];rfl
 rw[e]
 unfold zL
 cases h:T.findIdx? (λp=>p.1==s)with
 | none =>
  have hn:T.find? (λp=>p.1==s)=none:=ydA.2 λp hp=>by have:=ydq.1 h p hp;simp[this]
  rw[hn]
  simp
 | some i =>
  obtain⟨hi,hc,hlt⟩:=ydx.1 h
  have hf:T.find? (λp=>p.1==s)=some T[i]:=by
   rw[List.find?_eq_some_iff_getElem]
   exact⟨hc,i,hi,rfl,λj hj=>by simpa using hlt j hj⟩
  rw[hf]
  have hg:(T.map λp=>p.2.av)[i]?=some T[i].2.av:=by simp[hi]
  apply propext
  simp only[Option.map_some,yaK,Option.getD_some,Option.isSome_some,if_true]
  constructor
  .rintro ⟨r,h1,h2⟩
   cases h1
   obtain⟨v,h3,h4⟩:=h2
   rw[hg]at h3
   cases h3
   exact h4
  .exact λq=>⟨some i,rfl,_,hg,q⟩
section
variable {G : Env} {J : AS} {R : Out -> AS -> Prop}
theorem zjB{s:List UInt8}(h:∀J',ze J J'->R (.ret (.tuple [((zL zdT s).getD zcc).av,.bool (zL zdT s).isSome])) J'):zzQ G 134 [.str s] J R:=by
 refine ztn rfl ?_
 simp[zBR,splice,AV.plainV,AV.atom]
 refine(zmc zdT s _).mpr ?_
 have key:∀w b,(zL zdT s).getD zcc=w->(zL zdT s).isSome=b->∀J',ze J J'->R (.ret (.tuple [w.av,.bool b])) J':=λw b e1 e2=>e1▸e2▸h
 cases hf:zL zdT s with
 | none =>
  have:=key zcc false (by rw[hf];rfl) (by rw[hf];rfl)
  simp[splice,W.av,W.cs,zcc]
  simp[W.av,W.cs,zcc]at this
  refine this _ ?_
  repeat (first|exact ze.refl _|refine ze.setO ?_ (by simp)|refine ze.newO ?_|refine ze.newF ?_|refine ze.turn ?_ (by omega))
 | some w =>
  have:=key w true (by rw[hf];rfl) (by rw[hf];rfl)
  simp[W.av,W.cs]at this
  simp[splice,W.av,W.cs]
  refine this _ ?_
  repeat (first|exact ze.refl _|refine ze.setO ?_ (by simp)|refine ze.newO ?_|refine ze.newF ?_|refine ze.turn ?_ (by omega))
theorem ze7{t:Int}(ht:t=1\/t=2)(h:R (.ret (.str (zC t))) J):zzQ G 131 [.int .i64 t] J R:=by
 refine ztj rfl ?_
 rcases ht with rfl|rfl
 .simp[zxy]
  exact h
 .simp[zxy]
  exact h
end
end Go.Proofs.YtohfclafhegadaaGreatDoor
set_option maxRecDepth 100000
namespace Go.Proofs.YtohfclafhegadaaGreatDoor.Sg
open Go Go.Abs Go.Proofs.YtohfclafhegadaaGreatDoor
def zi:List UInt8:=[97,100,100,32,115,117,98,32,109,117,108,32,100,105,118,95,115,32,114,101,109,95,115,32,97,110,100,32,111,114,32,120,111,114,32,115,104,108,32,115,104,114,95,115,32,101,113,32,110,101,32,108,116,95,115,32,108,101,95,115,32,103,116,95,115,32,103,101,95,115]
def fC:Nat->Nat × Bool × UInt8
 | 0=>(0,true,0)
 | i+1=>let c:=zi.getD i 0;let p:=fC i;(p.1+(if p.2.1&&!zaz c then 1 else 0),zaz c,p.2.2 ||| c)
def fS:Nat->Nat × Nat
 | 0=>(0,0)
 | i+1=>if zaz (zi.getD i 0)then(i+1,(fS i).2+1)else fS i
theorem sb_small:∀k,(fC k).1<=k:=by
 intro k
 induction k with
 | zero=>simp[fC]
 | succ k ih=>simp only[fC];split<;>omega
def fCells(k:Nat):List AV:=(zcj.take k).map ycR++yaj (16-k) (.str [])
theorem fS_fact:∀i:Fin 70,(zaz (zi.getD i 0)=true->zcj[(fS i).2]?=some ((zi.take i).drop (fS i).1)/\(fS i).2<16/\(fS i).1<=i/\i.1+1<70/\zaz (zi.getD (i.1+1) 0)=false/\fS (i.1+1)=(i.1+1,(fS i).2+1))/\(zaz (zi.getD i 0)=false->fS (i.1+1)=fS i):=by decide
theorem fS_end:fS 70=(66,15):=by decide
theorem fCells_step{k:Nat}{b:List UInt8}(h:zcj[k]?=some b):splice (fCells k) k [.str b]=fCells (k+1):=by
 have hk:=(yaq.1 h).1
 have hl:zcj.length=16:=rfl
 have ht:=zh7 h
 have hA:((zcj.take k).map ycR).length=k:=by simp;omega
 unfold splice fCells
 rw[List.take_left' hA,ht,yc6]
 have e:16-k=(16-(k+1))+1:=by omega
 have hd:((zcj.take k).map ycR++yaj (16-k) (ycR [])).drop (k+[ycR b].length)=yaj (16-(k+1)) (ycR []):=by
  rw[List.drop_append,yc8 (by rw[hA];simp),hA,e]
  simp
 rw[hd]
 simp
theorem amake_strs{J:AS}{K:AV->AS->Prop}:zhF yca 22 (.int .i64 16) (.int .i64 16) J K=K (.slm J.no 0 1 16) (J.newO (fCells 0)):=by
 have e1:zcd yca 22=some 1:=by kernel_rfl
 have e2:zbh yca 22=some 16:=by kernel_rfl
 have e3:zaR yca 22=some (.str []):=by kernel_rfl
 have e4:(16:Int).toNat=16:=rfl
 simp[zhF,e1,e2,e3,e4,AV.cells,AV.known]
 exact Iff.rfl
section
variable {G : Env} {J : AS} {R : Out -> AS -> Prop}
def F1(J:AS)(a:Nat->AV)(Z:AS):Prop:=∃i:Nat,i<=zi.length/\a 0=.str zi/\a 3=.int .i64 ((fC i).1:Nat)/\a 4=.int .i64 (if(fC i).2.1 then 1 else 0)/\a 5=.int .u8 ((fC i).2.2.toNat:Nat)/\a 6=.int .i64 (i:Nat)/\Z=J
def F4(J:AS)(x:Nat)(a:Nat->AV)(Z:AS):Prop:=∃i:Nat,i<=zi.length/\a 0=.str zi/\a 9=.slm x 0 1 16/\a 10=.int .i64 ((fS i).2:Nat)/\a 11=.int .i64 ((fS i).1:Nat)/\a 12=.int .i64 (i:Nat)/\ze J Z/\x<Z.no/\Z.objs x=some (fCells (fS i).2)
theorem fields_calls(v3:G.g 0=.pv (.stat true) (.agg zdV))(h:∀x J',ze J J'->J.no<=x->x<J'.no->J'.objs x=some (zcj.map ycR)->R (.ret (.slm x 0 1 16)) J'):zzQ G 57 [.str zi] J R:=by
 refine zm3 rfl ?_
 have hL:zi.length=70:=rfl
 simp[zEa]
 refine zS (F1 J) (MU 6 (zi.length+1)) ⟨0,by omega,by simp,by simp[fC],by simp[fC],by simp[fC],by simp,rfl⟩ λa Z hI=>?_
 obtain⟨i,hi,a0,a3,a4,a5,a6,rfl⟩:=hI
 by_cases hlt:i<zi.length
 .have hlt':(i:Int)<(zi.length:Int):=by omega
  have hg:=yau hlt
  have hf:fC (i+1)=((fC i).1+(if(fC i).2.1&&!zaz zi[i]then 1 else 0),zaz zi[i],(fC i).2.2 ||| zi[i]):=by simp[fC,hg]
  have hn:=sb_small i
  generalize zi[i]=c at *
  have hs:=za1 c
  have w1:yb5 .i64 ((i:Int)+1)=((i+1:Nat):Int):=by rw[wrap_i64]<;>omega
  have w0:∀b:UInt8,zag .u8 (· ||| ·) (b.toNat:Int) (c.toNat:Int)=((b ||| c).toNat:Int):=λb=>zkG (· ||| ·) b c
  have c1:(c.toNat:Int)<256:=by have:=c.toNat_lt;omega
  generalize fC i=p at *
  obtain⟨n,ws,b⟩:=p
  have w2:yb5 .i64 ((n:Int)+1)=((n+1:Nat):Int):=by rw[wrap_i64]<;>omega
  have w3:yb5 .i64 (n:Int)=(n:Int):=by rw[wrap_i64]<;>omega
  have w4:yb5 .i64 0=0:=rfl
  have w5:yb5 .i64 1=1:=rfl
  have z0:zag .i64 (· ^^^ ·) (-1) 0=-1:=by decide
  have z1:zag .i64 (· ^^^ ·) (-1) 1=-2:=by decide
  have z2:zag .i64 (· &&& ·) 1 (-1)=1:=by decide
  have z3:zag .i64 (· &&& ·) 1 (-2)=0:=by decide
  have z4:zag .i64 (· &&& ·) 0 (-1)=0:=by decide
  have z5:zag .i64 (· &&& ·) 0 (-2)=0:=by decide
  have z6:yao .i64=true:=rfl
  cases hsp:zaz c<;>cases ws<;>simp only[hsp,if_true,if_false,Bool.false_eq_true]at hs hf a4 ⊢<;>simp at hn a3 a5<;>simp[zbl,a0,a3,a4,a5,a6,hlt',hg,v3,hs,c1,w0,w1,w2,w3,w4,w5,z0,z1,z2,z3,z4,z5,z6,-UInt8.toNat_or]<;>refine⟨⟨i+1,by omega,by simp[a0],by simp[hf],by simp[hf,hsp],by simp[hf],by simp,rfl⟩,?_⟩<;>simp only[MU,a6]<;>simp<;>omega
 .have hie:i=zi.length:=by omega
  subst hie
  have e1:fC zi.length=(16,false,(fC 70).2.2):=by decide
  have e2:¬(128:Int)<=((fC 70).2.2.toNat:Nat):=by decide
  rw[e1]at a3 a4 a5
  simp[zbl,zkn,a0,a3,a4,a5,a6,e2,amake_strs]
  refine zS (λa2 Z2=>a2 0=.str zi/\a2 9=.slm Z.no 0 1 16/\a2 10=.int .i64 0/\a2 12=.int .i64 0/\Z2=Z.newO (fCells 0)) (λ_ _=>0) ⟨by simp[a0],by simp,by simp,by simp,rfl⟩ λa2 Z2 hI2=>?_
  obtain⟨b0,b9,b10,b12,rfl⟩:=hI2
  have w5:0<zi.length:=by decide
  have g0:zi[0]'w5=97:=rfl
  have g1:UInt8.toNat 97=97:=rfl
  have t0:zdV[97]?=some (.int .u8 0):=(za1 97).trans (by rw[show zaz 97=false from rfl];rfl)
  simp[zcD,zhX,b0,b9,b10,b12,g0,g1,t0,v3,w5]
  refine zS (F4 Z Z.no) (MU 12 (zi.length+1)) ⟨0,by omega,by simp[b0],by simp[b9],by simp[b10,fS],by simp[fS],by simp[b12],(ze.refl Z).newO,by simp,by simp[fS]⟩ λa3 Z3 hI3=>?_
  obtain⟨i,hi,c0,c9,c10,c11,c12,hA,hx,ho⟩:=hI3
  by_cases hlt:i<zi.length
  .have hlt':(i:Int)<(zi.length:Int):=by omega
   have hg:=yau hlt
   obtain⟨f1,f2⟩:=fS_fact ⟨i,by omega⟩
   have hgd:zi.getD i 0=zi[i]:=by simp[hg]
   simp only[hgd]at f1 f2
   have w1:yb5 .i64 ((i:Int)+1)=((i+1:Nat):Int):=by rw[wrap_i64]<;>omega
   generalize zi[i]=c at *
   have hs:=za1 c
   have c1:(c.toNat:Int)<256:=by have:=c.toNat_lt;omega
   cases hsp:zaz c with
   | false =>
    rw[hsp]at hs
    have f2:=f2 hsp
    simp at hs
    simp[zbC,c0,c9,c10,c11,c12,hlt',hg,v3,hs,c1,w1]
    refine⟨⟨i+1,by omega,by simp[c0],by simp[c9],by simp[c10,f2],by simp[c11,f2],by simp,hA,hx,by simp[ho,f2]⟩,?_⟩
    simp only[MU,c12];simp;omega
   | true =>
    rw[hsp]at hs
    obtain⟨g1,g2,g3,g4,g5,g6⟩:=f1 hsp
    simp at hs
    simp[zbC,c0,c9,c10,c11,c12,hlt',hg,v3,hs,c1,w1,ho]
    have hlen:(fCells (fS i).2).length=16:=by
     simp only[fCells,yab,ybb,ybf,yba]
     have:zcj.length=16:=rfl
     omega
    refine⟨g3,by omega,by omega,by omega,?_⟩
    refine zS (λb Z4=>b 0=.str zi/\b 9=.slm Z.no 0 1 16/\b 10=.int .i64 (((fS i).2+1:Nat):Int)/\b 12=.int .i64 ((i+1:Nat):Int)/\ze Z Z4/\Z.no<Z4.no/\Z4.objs Z.no=some (fCells ((fS i).2+1))) (λ_ _=>0) ⟨by simp[c0],by simp[c9],by simp;rw[wrap_i64]<;>omega,by simp,hA.setO (by omega),by simp;exact hx,by simp;exact fCells_step g1⟩ λb Z4 hI4=>?_
    obtain⟨d0,d9,d10,d12,hA4,hx4,ho4⟩:=hI4
    have hlt2:(((i+1:Nat):Int))<(zi.length:Int):=by omega
    have hlt3:i+1<zi.length:=by omega
    have hg2:=yau hlt3
    have hgd2:zi.getD (i+1) 0=zi[i+1]:=by simp[hg2]
    simp only[hgd2]at g5
    generalize zi[i+1]=c' at *
    have hs2:=za1 c'
    rw[g5]at hs2
    have c1':(c'.toNat:Int)<256:=by have:=c'.toNat_lt;omega
    simp at hs2
    simp only[Int.natCast_add,Int.natCast_one]at d12 hlt2
    simp[zc5,zdO,d0,d9,d10,d12,hlt2,hg2,v3,hs2,c1']
    refine⟨by omega,⟨i+1,by omega,by simp[d0],by simp[d9],by simp[d10,g6],by simp[g6],by simp[d12],hA4,hx4,by simp[ho4,g6]⟩,?_⟩
    simp only[MU,c12];simp[d12];omega
  .have hie:i=zi.length:=by omega
   subst hie
   have e3:fS zi.length=(66,15):=fS_end
   rw[e3]at c10 c11 ho
   have w6:(66:Int)<zi.length:=by decide
   have w7:66<zi.length:=by decide
   have w8:(zi.length:Int)-66=4:=by decide
   have e4:zi.drop 66=[103,101,95,115]:=by decide
   simp at c10 c11 ho
   simp[zbC,zf0,c0,c9,c10,c11,c12,ho,w6,w7]
   refine⟨by omega,by decide,?_⟩
   rw[fCells_step (k:=15) (b:=zi.drop 66) (by decide)]
   exact h Z.no _ (hA.setO (by omega)) (by omega) (by simpa using hx) (by simp;rfl)
end
end Go.Proofs.YtohfclafhegadaaGreatDoor.Sg
namespace Go.Proofs.YtohfclafhegadaaGreatDoor
open Go Go.Abs
abbrev zEp(t:Int):W:={ op:=5,ty:=t,n:=0,body:=0,other:=0,name:=[] }
abbrev zEq(t:Int)(u:List UInt8):W:={ op:=4,ty:=t,n:=0,body:=0,other:=0,name:=u }
def zcR(t:Int)(s:List UInt8):Option W :=
 if zi3 (zC t++[46]) s=true then(if s.drop 4=[101,113,122]then some (zEp t)else if zcj.contains (s.drop 4)=true then some (zEq t (s.drop 4))else none)else none
theorem zoz{p s:List UInt8}:zi3 p s=true↔∃u,s=p++u:=by
 unfold zi3
 rw[decide_eq_true_eq]
 constructor
 .rintro ⟨_,h⟩
  exact⟨s.drop p.length,by conv=>lhs;rw[<-ydw p.length s,h]⟩
 .rintro ⟨u,rfl⟩
  simp
theorem zij(pre:List UInt8)(g:List UInt8->W)(s:List UInt8):∀L:List (List UInt8),zL (L.map λk=>(pre++k,g k)) s=if zi3 pre s=true/\s.drop pre.length∈L then some (g (s.drop pre.length))else none
 | []=>by simp[zL]
 | k::L=>by
  have ih:=zij pre g s L
  unfold zL at ih ⊢
  rw[yaL,List.find?_cons]
  by_cases h:pre++k=s
  .subst h
   have:zi3 pre (pre++k)=true:=zoz.2 ⟨k,rfl⟩
   simp[this]
  .have hb:(pre++k==s)=false:=by simpa using h
   simp only[hb]
   rw[ih]
   by_cases hp:zi3 pre s=true
   .obtain⟨u,rfl⟩:=zoz.1 hp
    have:¬u=k:=λe=>h (by rw[e])
    simp[hp,this]
   .simp[hp]
theorem zik(a b:List (List UInt8 × W))(s:List UInt8):zL (a++b) s=(zL a s).or (zL b s):=by
 unfold zL
 rw[List.find?_append]
 cases a.find? (λp=>p.1==s)<;>simp
theorem zil(t:Int)(s:List UInt8):zL (zoo t) s=zcR t s:=by
 have hl:(zC t++[46]).length=4:=by unfold zC;split<;>rfl
 have e1:(zcj.map λx=>(zC t++46::x,({ op:=4,ty:=t,n:=0,body:=0,other:=0,name:=x }:W)))=zcj.map λk=>((zC t++[46])++k,zEq t k):=by
  simp
 have e2:[(zC t++[46,101,113,122],({ op:=5,ty:=t,n:=0,body:=0,other:=0,name:=[] }:W))]=[[101,113,122]].map λk=>((zC t++[46])++k,zEp t):=by simp
 unfold zoo
 rw[zik,e1,e2,zij,zij,hl]
 unfold zcR
 by_cases hp:zi3 (zC t++[46]) s=true
 .have hq:[101,113,122]∉zcj:=by decide
  by_cases h1:s.drop 4=[101,113,122]
  .simp[hp,h1,hq]
  .simp[hp,h1]
   try (split<;>simp)
 .simp[hp]
theorem zmd:∀p∈zh1,zcR 1 p.1=none/\zcR 2 p.1=none:=by decide
theorem zme(s:List UInt8):zL zh2 s=(zcR 1 s).or ((zcR 2 s).or (zL zh1 s)):=by
 unfold zh2
 rw[zik,zik,zil,zil]
 cases hb:zL zh1 s with
 | none=>simp
 | some w =>
  have:∃p∈zh1,p.1=s:=by
   unfold zL at hb
   rw[ybC]at hb
   obtain⟨p,hp,_⟩:=hb
   exact⟨p,ydB hp,by simpa using ydC hp⟩
  obtain⟨p,hp,rfl⟩:=this
  rw[(zmd p hp).1,(zmd p hp).2]
  rfl
def zgC:List (List UInt8 × W):=zh1.take 2++(zh1.drop 8++(zh1.drop 2).take 6)
theorem zpz{l T:List (List UInt8 × W)}(hm:∀p,p∈l↔p∈T)(hT:∀p∈T,zL T p.1=some p.2)(s:List UInt8):zL l s=zL T s:=by
 cases h:zL l s with
 | some w =>
  unfold zL at h
  rw[ybC]at h
  obtain⟨p,hp,rfl⟩:=h
  have h1:=hT p ((hm p).1 (ydB hp))
  have h2:p.1=s:=by simpa using ydC hp
  rw[h2]at h1
  exact h1.symm
 | none =>
  cases h2:zL T s with
  | none=>rfl
  | some w =>
   unfold zL at h h2
   rw[ybC]at h2
   obtain⟨p,hp,rfl⟩:=h2
   rw[Option.map_eq_none_iff,ydA]at h
   have:=h p ((hm p).2 (ydB hp))
   have h3:=ydC hp
   exact absurd h3 this
theorem zrf(s:List UInt8):zL zgC s=zL zh1 s:=zpz (λp=>by
  have h1:∀p∈zgC,p∈zh1:=by decide
  have h2:∀p∈zh1,p∈zgC:=by decide
  exact⟨h1 p,h2 p⟩) (by decide) s
@[simp] theorem zuJ{P:Program}(t)(x y:List UInt8){K:AV->Prop}:zbs P .add t (.str x) (.str y) K=(x.length+y.length<2^62/\K (.str (x++y))):=by simp only[zbs,zhj]
section
variable {G : Env} {J : AS} {R : Out -> AS -> Prop}
def IxS(x:Nat)(L:List (List UInt8))(s:List UInt8)(J:AS)(a:Nat->AV)(Z:AS):Prop:=∃d r:List (List UInt8),L=d++r/\(∀y∈d,¬s=y)/\a 0=.slm x 0 1 L.length/\a 1=.str s/\a 7=.int .i64 (L.length:Int)/\a 8=.int .i64 (d.length:Int)/\Z=J
theorem zuK{x:Nat}{L:List (List UInt8)}{s:List UInt8}(hL:L.length<1000)(ho:J.objs x=some (L.map ycR))(h:∀n:Int,(0<=n↔s∈L)->R (.ret (.int .i64 n)) J):zzQ G 157 [.slm x 0 1 L.length,.str s] J R:=by
 refine ztt rfl ?_
 simp[zBW]
 refine zS (IxS x L s J) (MU 8 (L.length+1)) ⟨[],L,rfl,by simp,by simp,by simp,by simp,by simp,rfl⟩ λa Z hI=>?_
 obtain⟨d,r,hdr,hn,a0,a1,a7,a8,rfl⟩:=hI
 cases r with
 | nil =>
  have e:L.length=d.length:=by simp[hdr]
  rw[e]at a7
  simp[zft,zoc,a0,a1,a7,a8]
  refine h _ ⟨λq=>by omega,λq=>?_⟩
  rw[hdr,yb8]at q
  exact absurd rfl (hn s q)
 | cons y r =>
  have hlt:(d.length:Int)<(L.length:Int):=by simp[hdr];omega
  have hi:L[d.length]?=some y:=by simp[hdr]
  have w1:yb5 .i64 ((d.length:Int)+1)=((d.length+1:Nat):Int):=by rw[wrap_i64]<;>omega
  by_cases he:s=y
  .simp[zft,a0,a1,a7,a8,hlt,ho,hi,he]
   exact h _ ⟨λ_=>by rw[hdr,he];simp,λ_=>by omega⟩
  .simp[zft,a0,a1,a7,a8,hlt,ho,hi,he,w1]
   refine⟨⟨d++[y],r,by simp[hdr],?_,by simp[a0],by simp[a1],by simp[a7],by simp,rfl⟩,?_⟩
   .intro z hz
    rcases ybh.1 hz with hz|hz
    .exact hn z hz
    .simp at hz;subst hz;exact he
   .simp[MU,a8];omega
theorem zny{x:Nat}{L:List (List UInt8)}{s:List UInt8}(hL:L.length<1000)(ho:J.objs x=some (L.map ycR))(h:R (.ret (.bool (decide (s∈L)))) J):zzQ G 239 [.slm x 0 1 L.length,.str s] J R:=by
 refine zt7 rfl ?_
 simp[zCc]
 refine zuK hL ho λn hn=>?_
 simp[hn]
 exact h
def SgI(s:List UInt8)(J:AS)(a:Nat->AV)(Z:AS):Prop:=∃i:Nat,i<=2/\(1<=i->zcR 1 s=none)/\(2<=i->zcR 2 s=none)/\a 0=.str s/\a 2=.ptr J.no 0/\a 10=.sl (.stat true) 1 [.int .i64 1,.int .i64 2]/\a 11=.int .i64 2/\a 12=.int .i64 (i:Int)/\ze J Z/\J.no<Z.no/\Z.objs J.no=some zcc.cs
theorem zuL(V:zdw G){s:List UInt8}(hl:s.length<2^40)(h:∀J',ze J J'->R (.ret (.tuple [((zL zh2 s).getD zcc).av,.bool (zL zh2 s).isSome])) J'):zzQ G 208 [.str s] J R:=by
 refine ztS rfl ?_
 simp[zB8]
 refine zS (SgI s J) (MU 12 3) ⟨0,by omega,by omega,by omega,by simp,by simp,by simp,by simp,by simp,(ze.refl J).newO,by simp,by simp[zcc,W.cs]⟩ λa Z hI=>?_
 obtain⟨i,hi,n1,n2,a0,a2,a10,a11,a12,hA,hno,ho⟩:=hI
 have done:∀w,zL zh2 s=some w->∀J',ze J J'->R (.ret (.tuple [w.av,.bool true])) J':=λw e=>by
  rw[e]at h
  exact h
 by_cases hlt:i<2
 .obtain⟨t,ht⟩:∃t:Int,t=(i:Int)+1:=⟨_,rfl⟩
  have ht12:t=1\/t=2:=by omega
  have hlt':(i:Int)<2:=by omega
  have hg:([ycS .i64 1,.int .i64 2]:List AV)[i]?=some (.int .i64 t):=by
   match i,hlt with
   | 0,_=>subst ht;rfl
   | 1,_=>subst ht;rfl
  have w1:yb5 .i64 ((i:Int)+1)=((i+1:Nat):Int):=by rw[wrap_i64]<;>omega
  have htl:(zC t).length=3:=by rcases ht12 with rfl|rfl<;>rfl
  have hnext:zcR t s=none->(1<=i+1->zcR 1 s=none)/\(2<=i+1->zcR 2 s=none):=λe=>by
   match i,hlt with
   | 0,_=>subst ht;exact⟨λ_=>e,λq=>by omega⟩
   | 1,_=>subst ht;exact⟨λ_=>n1 (by omega),λ_=>e⟩
  have hrow:∀w,zcR t s=some w->zL zh2 s=some w:=λw e=>by
   rw[zme]
   match i,hlt with
   | 0,_=>subst ht;rw[show(((0:Nat):Int)+1)=1 from rfl]at e;rw[e];rfl
   | 1,_=>subst ht;rw[show(((1:Nat):Int)+1)=2 from rfl]at e;rw[n1 (by omega),e];rfl
  simp[zg7,a0,a2,a10,a11,a12,hlt',hg]
  refine ze7 ht12 ?_
  simp[htl]
  refine zgz ?_
  have h4:(zC t++[46]).length=4:=by simp[htl]
  rw[h4]
  cases hp:zi3 (zC t++[46]) s with
  | false =>
   have hs:zcR t s=none:=by unfold zcR;rw[hp];rfl
   obtain⟨m1,m2⟩:=hnext hs
   simp[a0,a2,a10,a11,a12,w1]
   refine⟨⟨i+1,by omega,m1,m2,by simp[a0],by simp[a2],by simp[a10],by simp[a11],by simp,hA,hno,ho⟩,?_⟩
   simp[MU,a12];omega
  | true =>
   by_cases hz:s.drop 4=[101,113,122]
   .have hs:zcR t s=some (zEp t):=by unfold zcR;rw[if_pos hp,if_pos hz]
    have fin:=done _ (hrow _ hs)
    simp[a0,a2,a10,a11,a12,hz,ho,splice,zcc,W.cs]
    simp[W.av,W.cs,zEp]at fin
    exact fin _ (hA.setO (yah _))
   .simp[a0,a2,a10,a11,a12,hz]
    refine Sg.fields_calls V.space λx J1 A1 hx0 hx1 hxo=>?_
    have hA1:=hA.trans A1
    have ho1:=(A1.obj _ hno).trans ho
    have hno1:J.no<J1.no:=yag hno A1.no
    simp
    refine zny (L:=zcj) (by decide) hxo ?_
    by_cases hm:s.drop 4∈zcj
    .have hs:zcR t s=some (zEq t (s.drop 4)):=by unfold zcR;rw[if_pos hp,if_neg hz,if_pos (by simpa using hm)]
     have fin:=done _ (hrow _ hs)
     simp[a0,a2,a10,a11,a12,hm,ho1,splice,zcc,W.cs]
     simp[W.av,W.cs,zEq]at fin
     exact fin _ (hA1.setO (yah _))
    .have hs:zcR t s=none:=by unfold zcR;rw[if_pos hp,if_neg hz,if_neg (by simpa using hm)]
     obtain⟨m1,m2⟩:=hnext hs
     simp[a0,a2,a10,a11,a12,hm,w1]
     refine⟨⟨i+1,by omega,m1,m2,by simp[a0],by simp[a2],by simp[a10],by simp[a11],by simp,hA1,hno1,ho1⟩,?_⟩
     simp[MU,a12];omega
 .have e2:i=2:=by omega
  subst e2
  have hrow:zL zh2 s=zL zgC s:=by rw[zme,n1 (by omega),n2 (by omega),zrf];rfl
  simp[zg7,zoj,a0,a2,a10,a11,a12,splice,AV.plainV,AV.atom]
  refine(zmc zgC s _).mpr ?_
  rw[hrow]at h
  have hnf:=hA.nf
  have hno2:=hA.no
  have key:∀w b,(zL zgC s).getD zcc=w->(zL zgC s).isSome=b->∀J',ze J J'->R (.ret (.tuple [w.av,.bool b])) J':=λw b e1 e2=>e1▸e2▸h
  have hAll:ze J Z:=hA
  have hne:¬J.no=Z.no:=by omega
  have cT:=(((((((((((hAll.newF.turn (f:=Z.nf) (by omega)).turn (f:=Z.nf+1) (by omega)).turn (f:=Z.nf+1+1) (by omega)).turn (f:=Z.nf+1+1+1) (by omega)).turn (f:=Z.nf+1+1+1+1) (by omega)).turn (f:=Z.nf+1+1+1+1+1) (by omega)).turn (f:=Z.nf+1+1+1+1+1+1) (by omega)).turn (f:=Z.nf+1+1+1+1+1+1+1) (by omega)).turn (f:=Z.nf+1+1+1+1+1+1+1+1) (by omega)).turn (f:=Z.nf+1+1+1+1+1+1+1+1+1) (by omega)).turn (f:=Z.nf+1+1+1+1+1+1+1+1+1+1) (by omega))
  cases hf:zL zgC s with
  | none =>
   have:=key zcc false (by rw[hf];rfl) (by rw[hf];rfl)
   simp[W.av,W.cs,zcc]at this
   simp[splice,W.av,W.cs,zcc,ho,a2,hne]
   refine this _ ?_
   exact(cT.newO.setO hno2).setO (yah _)
  | some w =>
   have:=key w true (by rw[hf];rfl) (by rw[hf];rfl)
   simp[W.av,W.cs]at this
   simp[splice,W.av,W.cs,zcc,ho,a2,hne]
   refine this _ ?_
   exact(cT.newO.setO hno2).setO (yah _)
end
def LeT(s s':Ts):Prop:=s'.b.length<=s.b.length/\s'.ls.length+s'.b.length<=s.ls.length+s.b.length
theorem LeT.trans{a b c:Ts}(h:LeT a b)(k:LeT b c):LeT a c:=⟨yai k.1 h.1,yai k.2 h.2⟩
theorem LeT.refl(a:Ts):LeT a a:=⟨yah _,yah _⟩
theorem zhe{s s':Ts}{t:List UInt8}(h:zb8 s=.ok (t,s')):LeT s s':=by
 obtain⟨h1,_,h3⟩:=zd0 h
 exact⟨by omega,by rw[h3];omega⟩
theorem zuM{t:List UInt8}{s s':Ts}{w:W}(h:zfz t s=.ok (w,s')):LeT s s':=by
 unfold zfz at h
 split at h
 .obtain⟨p,h1,h2⟩:=map_some h
  cases h2
  unfold zbo at h1
  obtain⟨q,h3,h4⟩:=bind_some h1
  obtain⟨n,_,h5⟩:=map_some h4
  cases h5
  exact zhe h3
 .split at h
  .cases h;exact .refl _
  .cases h
theorem zpA{rec:zEe}(hr:∀d o s r s',rec d o s=.ok (r,s')->LeT s s'){op:Int}{d:Nat}{s s':Ts}{w:W}(h:zbE rec op d s=.ok (w,s')):LeT s s':=by
 unfold zbE at h
 split at h
 .cases h
 .obtain⟨p,h1,h2⟩:=bind_some h
  have l1:=hr _ _ _ _ _ h1
  split at h2
  .split at h2
   .obtain⟨q,h3,h4⟩:=map_some h2
    cases h4
    exact l1.trans (hr _ _ _ _ _ h3)
   .cases h2;exact l1
  .cases h2;exact l1
theorem zmf{rec:zEe}(hr:∀d o s r s',rec d o s=.ok (r,s')->LeT s s'){t:List UInt8}{d:Nat}{s s':Ts}{w:W}(h:zdo rec t d s=.ok (w,s')):LeT s s':=by
 unfold zdo at h
 split at h
 .exact zuM h
 .exact zpA hr h
theorem zfG:∀(k d:Nat) (o:Bool) (l:List W) (s:Ts) (r:Int × List UInt8) (s':Ts),zad k d o l s=.ok (r,s')->LeT s s'
 | 0,_,_,_,_,_,_,h=>by cases h
 | k+1,d,o,l,s,r,s',h=>by
  rw[zad]at h
  obtain⟨p,h1,h2⟩:=bind_some h
  obtain⟨q1,q2,q3⟩:=zd0 h1
  have ht:1<=p.1.length:=ybn.2 q2
  split at h2
  .cases h2
   refine⟨by simp only;omega,?_⟩
   simp only[yab,yac,ybm]
   rw[q3]
   omega
  .obtain⟨q,h3,h4⟩:=bind_some h2
   exact(zhe h1).trans ((zmf (λd o s r s'=>zfG k d o [] s r s') h3).trans (zfG k d o _ _ _ _ h4))
def zwa:List (List UInt8):=[zjm,zpe,tIf]
theorem zrg(t:List UInt8)(K:AV->Prop):zbA yca 242 (.mp (zmF zwa) [.int .i64 11,.int .i64 12,.int .i64 13]) (.str t) false K=K (.int .i64 (zct t)):=by
 have hz:zG yca 3=some (.int .i64 0):=by kernel_rfl
 simp only[zbA,zv9,zoy,zd1,true_and,hz,zwa,ydr,List.findIdx?_nil]
 unfold zct
 by_cases h1:t=zjm
 .subst h1
  simp
 .have h1':(zjm==t)=false:=beq_eq_false_iff_ne.2 λe=>h1 e.symm
  by_cases h2:t=zpe
  .subst h2
   simp[h1,h1']
  .have h2':(zpe==t)=false:=beq_eq_false_iff_ne.2 λe=>h2 e.symm
   by_cases h3:t=tIf
   .subst h3
    simp[h1,h1',h2,h2']
   .have h3':(tIf==t)=false:=beq_eq_false_iff_ne.2 λe=>h3 e.symm
    simp[h1,h1',h2,h2',h3,h3']
def ze8(d:Nat)(o:Bool):List (List UInt8):=if d=0 then [zf]else if o=true then [zda,zci]else [zda]
theorem zrh{d:Nat}{o:Bool}(h:o=true->0<d)(t:List UInt8):t∈ze8 d o↔zfA d o t=true:=by
 unfold ze8 zfA
 by_cases hd:d=0
 .have ho:o=false:=by
   cases o with
   | false=>rfl
   | true=>have:=h rfl;omega
  subst ho
  simp[hd]
 .have:0<d:=by omega
  cases o<;>simp[hd,this]
def zkP(G:Env)(base x k:Nat):Prop:=∀(J:AS) (R:Out->AS->Prop) (s:Ts) (d:Nat) (o:Bool),Wr base x s J->s.b.length<k->s.ls.length+s.b.length<=2^38->d<=400->(o=true->0<d)->(∀e,zad k d o [] s=.error e->zcF R x J e) ->
 (∀n t s',zad k d o [] s=.ok ((n,t),s')->∀J',Wr base x s' J'->zZ x J J'->R (.ret (.tuple [.int .i64 n,.str t])) J')->zzQ G 119 [.ptr x 0,.int .i64 (d:Int),.sl (.stat true) 1 ((ze8 d o).map ycR)] J R
section
variable {G : Env} {J : AS} {R : Out -> AS -> Prop}
theorem zuN{base x s}{k d:Nat}{op:Int}(h:Wr base x s J)(hop:op=11\/op=12\/op=13)(hd:1<=d)(hd4:d<=401)(IH:∀j,j<=k->zkP G base x j)(hk:s.b.length<k)(hz:s.ls.length+s.b.length<=2^38)
  (hn:∀e,zbE (λd o s=>zad k d o [] s) op d s=.error e->zcF R x J e) (hs:∀w s',zbE (λd o s=>zad k d o [] s) op d s=.ok (w,s')->∀J',Wr base x s' J'->zZ x J J'->R (.ret w.av) J'):zzQ G 207 [.ptr x 0,.int .i64 op,.int .i64 (d:Int)] J R:=by
 refine ztR rfl ?_
 obtain⟨cs0,hcs0⟩:=h.isSome
 have hx:=h.hx
 by_cases h4:400<d
 .have h4':¬(d:Int)<=400:=by omega
  have he:zbE (λd o s=>zad k d o [] s) op d s=.error 3:=by unfold zbE;rw[if_pos h4]
  simp[zxG,h4']
  refine z8 (λq=>by cases q) (λ_=>?_)
  simp
  exact hn 3 he _ ((ze.refl J).newO.keepR hx)
 .have h4':(d:Int)<=400:=by omega
  have he:zbE (λd o s=>zad k d o [] s) op d s=(zad k d (decide (op=13)) [] s).bind λp =>
    if op=13 then(if p.1.2=zci then(zad k d false [] p.2).map λq=>({ op:=13,ty:=0,n:=0,body:=p.1.1,other:=q.1.1,name:=[] },q.2)
     else .ok ({ op:=13,ty:=0,n:=0,body:=p.1.1,other:=-1,name:=[] },p.2))
    else .ok ({ op:=op,ty:=0,n:=0,body:=p.1.1,other:=0,name:=[] },p.2):=by unfold zbE;rw[if_neg h4]
  simp[zxG,h4']
  refine z8 (λ_=>?_) (λq=>by cases q)
  simp[splice]
  have hno1:(((J.newO [ycS .i64 0,.int .i64 0,.int .i64 0,.int .i64 0,.int .i64 0,.str []]).newO [ycS .i64 0,.int .i64 0,.int .i64 0,.int .i64 0,.int .i64 0,.str []]).setO (J.no+1) [ycS .i64 op,.int .i64 0,.int .i64 0,.int .i64 0,.int .i64 0,.str []]).no=J.no+2:=by simp
  have A1:ze J (((J.newO [ycS .i64 0,.int .i64 0,.int .i64 0,.int .i64 0,.int .i64 0,.str []]).newO [ycS .i64 0,.int .i64 0,.int .i64 0,.int .i64 0,.int .i64 0,.str []]).setO (J.no+1) [ycS .i64 op,.int .i64 0,.int .i64 0,.int .i64 0,.int .i64 0,.str []]):=(ze.refl J).newO.newO.setO (by omega)
  have o0:(((J.newO [ycS .i64 0,.int .i64 0,.int .i64 0,.int .i64 0,.int .i64 0,.str []]).newO [ycS .i64 0,.int .i64 0,.int .i64 0,.int .i64 0,.int .i64 0,.str []]).setO (J.no+1) [ycS .i64 op,.int .i64 0,.int .i64 0,.int .i64 0,.int .i64 0,.str []]).objs J.no=some [.int .i64 0,.int .i64 0,.int .i64 0,.int .i64 0,.int .i64 0,.str []]:=by simp
  have o1:(((J.newO [ycS .i64 0,.int .i64 0,.int .i64 0,.int .i64 0,.int .i64 0,.str []]).newO [ycS .i64 0,.int .i64 0,.int .i64 0,.int .i64 0,.int .i64 0,.str []]).setO (J.no+1) [ycS .i64 op,.int .i64 0,.int .i64 0,.int .i64 0,.int .i64 0,.str []]).objs (J.no+1)=some [.int .i64 op,.int .i64 0,.int .i64 0,.int .i64 0,.int .i64 0,.str []]:=by simp
  generalize hJ1:((J.newO [ycS .i64 0,.int .i64 0,.int .i64 0,.int .i64 0,.int .i64 0,.str []]).newO [ycS .i64 0,.int .i64 0,.int .i64 0,.int .i64 0,.int .i64 0,.str []]).setO (J.no+1) [ycS .i64 op,.int .i64 0,.int .i64 0,.int .i64 0,.int .i64 0,.str []]=J1 at *
  have hW1:=h.adds A1
  have K1:=A1.keepR hx
  have hx0:¬x=J.no:=by omega
  have hx1:¬x=J.no+1:=by omega
  have hx0':J.no≠x:=by omega
  have hx1':J.no+1≠x:=by omega
  have fin:∀(w:W) (s':Ts) (J':AS),zbE (λd o s=>zad k d o [] s) op d s=.ok (w,s')->Wr base x s' J'->zZ x J1 J'->∀c1 c2,R (.ret w.av) ((J'.setO (J.no+1) c1).setO J.no c2):=λw s' J' q hW hK c1 c2 =>
   hs w s' q _ ((hW.setO hx1').setO hx0') (((K1.trans hK).setO (by omega) hx1').setO (yah _) hx0')
  by_cases h13:op=13
  .subst h13
   simp only[if_true,decide_true]at he
   simp
   rw[hJ1]
   have hl1:=IH k (yah _) J1
   have e1:ze8 d true=[zda,zci]:=by unfold ze8;rw[if_neg (by omega),if_pos rfl]
   have e2:ze8 d false=[zda]:=by unfold ze8;rw[if_neg (by omega),if_neg (by simp)]
   have go1:∀R',(∀e,zad k d true [] s=.error e->zcF R' x J1 e)->(∀n t s',zad k d true [] s=.ok ((n,t),s')->∀J',Wr base x s' J'->zZ x J1 J'->R' (.ret (.tuple [.int .i64 n,.str t])) J')->zzQ G 119 [.ptr x 0,.int .i64 (d:Int),.sl (.stat true) 1 [.str [101,110,100],.str [101,108,115,101]]] J1 R':=λR' a b=>by
    have:=IH k (yah _) J1 R' s d true hW1 hk hz (by omega) (λ_=>by omega) a b
    rw[e1]at this
    exact this
   refine go1 _ (λe q=>?_) (λn t s2 q J2 hW2 hK2=>?_)
   .intro J' K
    simp
    exact hn e (by rw[he,q];rfl) _ (K1.trans K)
   .rw[q]at he
    simp only[Except.bind]at he
    have hle:=zfG _ _ _ _ _ _ _ q
    have o0':=(hK2.obj J.no (by omega) hx0').trans o0
    have o1':=(hK2.obj (J.no+1) (by omega) hx1').trans o1
    by_cases ht:t=zci
    .have ht':t=[101,108,115,101]:=ht
     rw[if_pos ht]at he
     simp[o1',splice,ht']
     have hW2':Wr base x s2 ((J2.setO (J.no+1) [ycS .i64 13,.int .i64 0,.int .i64 0,.int .i64 n,.int .i64 0,.str []]).setO (J.no+1) [ycS .i64 13,.int .i64 0,.int .i64 0,.int .i64 n,.int .i64 (-1),.str []]):=(hW2.setO hx1').setO hx1'
     have hK2':zZ x J ((J2.setO (J.no+1) [ycS .i64 13,.int .i64 0,.int .i64 0,.int .i64 n,.int .i64 0,.str []]).setO (J.no+1) [ycS .i64 13,.int .i64 0,.int .i64 0,.int .i64 n,.int .i64 (-1),.str []]):=((K1.trans hK2).setO (by omega) hx1').setO (by omega) hx1'
     have p0:((J2.setO (J.no+1) [ycS .i64 13,.int .i64 0,.int .i64 0,.int .i64 n,.int .i64 0,.str []]).setO (J.no+1) [ycS .i64 13,.int .i64 0,.int .i64 0,.int .i64 n,.int .i64 (-1),.str []]).objs J.no=some [.int .i64 0,.int .i64 0,.int .i64 0,.int .i64 0,.int .i64 0,.str []]:=by simp[o0']
     have p1:((J2.setO (J.no+1) [ycS .i64 13,.int .i64 0,.int .i64 0,.int .i64 n,.int .i64 0,.str []]).setO (J.no+1) [ycS .i64 13,.int .i64 0,.int .i64 0,.int .i64 n,.int .i64 (-1),.str []]).objs (J.no+1)=some [.int .i64 13,.int .i64 0,.int .i64 0,.int .i64 n,.int .i64 (-1),.str []]:=by simp
     have pn:J.no+2<=((J2.setO (J.no+1) [ycS .i64 13,.int .i64 0,.int .i64 0,.int .i64 n,.int .i64 0,.str []]).setO (J.no+1) [ycS .i64 13,.int .i64 0,.int .i64 0,.int .i64 n,.int .i64 (-1),.str []]).no:=by have:=hK2.no;simp;omega
     generalize (J2.setO (J.no+1) [ycS .i64 13,.int .i64 0,.int .i64 0,.int .i64 n,.int .i64 0,.str []]).setO (J.no+1) [ycS .i64 13,.int .i64 0,.int .i64 0,.int .i64 n,.int .i64 (-1),.str []]=J3 at *
     have go2:∀R',(∀e,zad k d false [] s2=.error e->zcF R' x J3 e)->(∀n t s',zad k d false [] s2=.ok ((n,t),s')->∀J',Wr base x s' J'->zZ x J3 J'->R' (.ret (.tuple [.int .i64 n,.str t])) J')->zzQ G 119 [.ptr x 0,.int .i64 (d:Int),.sl (.stat true) 1 [.str [101,110,100]]] J3 R':=λR' a b=>by
      have:=IH k (yah _) J3 R' s2 d false hW2' (ydz hle.1 hk) (yai hle.2 hz) (by omega) (λq=>by cases q) a b
      rw[e2]at this
      exact this
     refine go2 _ (λe q2=>?_) (λn2 t2 s4 q2 J4 hW4 hK4=>?_)
     .intro J' K
      simp
      exact hn e (by rw[he,q2];rfl) _ (hK2'.trans K)
     .rw[q2]at he
      have r0:=(hK4.obj J.no (by omega) hx0').trans p0
      have r1:=(hK4.obj (J.no+1) (by omega) hx1').trans p1
      simp[r0,r1,splice]
      have:=hs _ s4 he _ ((hW4.setO (cs:=[ycS .i64 13,.int .i64 0,.int .i64 0,.int .i64 n,.int .i64 n2,.str []]) hx1').setO (cs:=[ycS .i64 13,.int .i64 0,.int .i64 0,.int .i64 n,.int .i64 n2,.str []]) hx0') (((hK2'.trans hK4).setO (by omega) hx1').setO (yah _) hx0')
      simp[W.av,W.cs]at this
      exact this
    .have ht':¬t=[101,108,115,101]:=ht
     rw[if_neg ht]at he
     simp[o1',o0',splice,ht']
     have:=hs _ s2 he _ (((hW2.setO (cs:=[ycS .i64 13,.int .i64 0,.int .i64 0,.int .i64 n,.int .i64 0,.str []]) hx1').setO (cs:=[ycS .i64 13,.int .i64 0,.int .i64 0,.int .i64 n,.int .i64 (-1),.str []]) hx1').setO (cs:=[ycS .i64 13,.int .i64 0,.int .i64 0,.int .i64 n,.int .i64 (-1),.str []]) hx0') ((((K1.trans hK2).setO (by omega) hx1').setO (by omega) hx1').setO (yah _) hx0')
     simp[W.av,W.cs]at this
     exact this
  .simp only[h13,if_false,decide_false]at he
   simp[h13]
   rw[hJ1]
   have e2:ze8 d false=[zda]:=by unfold ze8;rw[if_neg (by omega),if_neg (by simp)]
   have go2:∀R',(∀e,zad k d false [] s=.error e->zcF R' x J1 e)->(∀n t s',zad k d false [] s=.ok ((n,t),s')->∀J',Wr base x s' J'->zZ x J1 J'->R' (.ret (.tuple [.int .i64 n,.str t])) J')->zzQ G 119 [.ptr x 0,.int .i64 (d:Int),.sl (.stat true) 1 [.str [101,110,100]]] J1 R':=λR' a b=>by
    have:=IH k (yah _) J1 R' s d false hW1 hk hz (by omega) (λq=>by cases q) a b
    rw[e2]at this
    exact this
   refine go2 _ (λe q=>?_) (λn t s2 q J2 hW2 hK2=>?_)
   .intro J' K
    simp
    exact hn e (by rw[he,q];rfl) _ (K1.trans K)
   .rw[q]at he
    have o0':=(hK2.obj J.no (by omega) hx0').trans o0
    have o1':=(hK2.obj (J.no+1) (by omega) hx1').trans o1
    simp[o1',o0',splice]
    have:=fin _ s2 J2 he hW2 hK2 [ycS .i64 op,.int .i64 0,.int .i64 0,.int .i64 n,.int .i64 0,.str []] [ycS .i64 op,.int .i64 0,.int .i64 0,.int .i64 n,.int .i64 0,.str []]
    simp[W.av,W.cs]at this
    exact this
theorem zx3(V:zdw G){base x s}{k d:Nat}{t:List UInt8}(h:Wr base x s J)(htl:t.length<2^40)(hd4:d<=400)(IH:∀j,j<=k->zkP G base x j)(hk:s.b.length<k)(hz:s.ls.length+s.b.length<=2^38)
  (hn:∀e,zdo (λd o s=>zad k d o [] s) t d s=.error e->zcF R x J e) (hs:∀w s',zdo (λd o s=>zad k d o [] s) t d s=.ok (w,s')->∀J',Wr base x s' J'->zZ x J J'->R (.ret w.av) J'):zzQ G 171 [.ptr x 0,.str t,.int .i64 (d:Int)] J R:=by
 refine ztC rfl ?_
 have hx:=h.hx
 simp[zB2,AV.plainV,AV.atom]
 refine(zrg t _).mpr ?_
 have A1:ze J ((((J.newO [ycS .i64 0,.int .i64 0,.int .i64 0,.int .i64 0,.int .i64 0,.str []]).newF.turn J.nf).turn (J.nf+1)).turn (J.nf+1+1)):=(((ze.refl J).newO.newF.turn (by omega)).turn (by omega)).turn (by omega)
 have hno1:((((J.newO [ycS .i64 0,.int .i64 0,.int .i64 0,.int .i64 0,.int .i64 0,.str []]).newF.turn J.nf).turn (J.nf+1)).turn (J.nf+1+1)).no=J.no+1:=by simp
 have o1:((((J.newO [ycS .i64 0,.int .i64 0,.int .i64 0,.int .i64 0,.int .i64 0,.str []]).newF.turn J.nf).turn (J.nf+1)).turn (J.nf+1+1)).objs J.no=some [.int .i64 0,.int .i64 0,.int .i64 0,.int .i64 0,.int .i64 0,.str []]:=by simp
 generalize hJ1:(((J.newO [ycS .i64 0,.int .i64 0,.int .i64 0,.int .i64 0,.int .i64 0,.str []]).newF.turn J.nf).turn (J.nf+1)).turn (J.nf+1+1)=J1 at *
 have hW1:=h.adds A1
 have K1:=A1.keepR hx
 have hx0:¬x=J.no:=by omega
 have hx0':J.no≠x:=by omega
 by_cases ho:zct t=0
 .have he:zdo (λd o s=>zad k d o [] s) t d s=zfz t s:=by unfold zdo;rw[if_pos ho]
  simp[ho]
  refine zjB λJ2 A2=>?_
  have K12:=K1.trans (A2.keepR hW1.hx)
  have hW2:=hW1.adds A2
  have hn2:=A2.no
  have o2:=(A2.obj J.no (by omega)).trans o1
  cases hf:zL zdT t with
  | some w =>
   have hl:zfz t s=(zbo s).map λp=>({ w with n:=p.1 },p.2):=by unfold zfz;rw[hf]
   simp[W.av,W.cs,splice]
   have A3:ze J2 ((J2.newO [ycS .i64 0,ycS .i64 0,ycS .i64 0,ycS .i64 0,ycS .i64 0,ycR []]).setO J2.no [ycS .i64 w.op,ycS .i64 w.ty,ycS .i64 w.n,ycS .i64 w.body,ycS .i64 w.other,ycR w.name]):=(ze.refl _).newO.setO (by omega)
   have hx2:J2.no≠x:=by omega
   have o3:((J2.newO [ycS .i64 0,ycS .i64 0,ycS .i64 0,ycS .i64 0,ycS .i64 0,ycR []]).setO J2.no [ycS .i64 w.op,ycS .i64 w.ty,ycS .i64 w.n,ycS .i64 w.body,ycS .i64 w.other,ycR w.name]).objs J2.no=some [ycS .i64 w.op,ycS .i64 w.ty,ycS .i64 w.n,ycS .i64 w.body,ycS .i64 w.other,ycR w.name]:=by simp
   have n3:J2.no<((J2.newO [ycS .i64 0,ycS .i64 0,ycS .i64 0,ycS .i64 0,ycS .i64 0,ycR []]).setO J2.no [ycS .i64 w.op,ycS .i64 w.ty,ycS .i64 w.n,ycS .i64 w.body,ycS .i64 w.other,ycR w.name]).no:=by simp
   generalize (J2.newO [ycS .i64 0,ycS .i64 0,ycS .i64 0,ycS .i64 0,ycS .i64 0,ycR []]).setO J2.no [ycS .i64 w.op,ycS .i64 w.ty,ycS .i64 w.n,ycS .i64 w.body,ycS .i64 w.other,ycR w.name]=J3 at *
   have K13:=K12.trans (A3.keepR hW2.hx)
   refine zkO V (hW2.adds A3) (λe q=>?_) (λn s' q r1 r2 J4 hW4 K4=>?_)
   .intro J' K
    simp
    exact hn e (by rw[he,hl,q];rfl) _ (K13.trans K)
   .have o4:=(K4.r.obj J2.no n3 hx2).trans o3
    have hne:¬J.no=J2.no:=by omega
    have o5:=(K4.r.obj J.no (by omega) hx0').trans ((A3.obj J.no (by omega)).trans o2)
    have:=hs _ s' (by rw[he,hl,q];rfl) _ ((hW4.setO (cs:=[ycS .i64 w.op,ycS .i64 w.ty,ycS .i64 n,ycS .i64 w.body,ycS .i64 w.other,ycR w.name]) hx2).setO (cs:=[ycS .i64 w.op,ycS .i64 w.ty,ycS .i64 n,ycS .i64 w.body,ycS .i64 w.other,ycR w.name]) hx0') (((K13.trans K4.r).setO (by omega) hx2).setO (yah _) hx0')
    simp[W.av,W.cs]at this
    simp[o4,o5,hne,splice]
    exact this
  | none =>
   simp[W.av,W.cs,splice,zcc]
   have A3:ze J2 ((J2.newO [ycS .i64 0,ycS .i64 0,ycS .i64 0,ycS .i64 0,ycS .i64 0,ycR []]).setO J2.no [ycS .i64 0,ycS .i64 0,ycS .i64 0,ycS .i64 0,ycS .i64 0,ycR []]):=(ze.refl _).newO.setO (by omega)
   generalize (J2.newO [ycS .i64 0,ycS .i64 0,ycS .i64 0,ycS .i64 0,ycS .i64 0,ycR []]).setO J2.no [ycS .i64 0,ycS .i64 0,ycS .i64 0,ycS .i64 0,ycS .i64 0,ycR []]=J3 at *
   refine zuL V htl λJ4 A4=>?_
   have hW3:=hW2.adds A3
   have hW4:=hW3.adds A4
   have K14:=(K12.trans (A3.keepR hW2.hx)).trans (A4.keepR hW3.hx)
   have o4:=(A4.obj J.no (by have:=A3.no;omega)).trans ((A3.obj J.no (by omega)).trans o2)
   have n4:=A3.no
   have n5:=A4.no
   cases hr:zL zh2 t with
   | some w =>
    have hl:zfz t s=.ok (w,s):=zat hf hr s
    simp[W.av,W.cs,splice,o4]
    refine z8 (λ_=>?_) (λq=>by simp at q)
    have hx4:J4.no≠x:=by omega
    have:=hs w s (by rw[he,hl]) _ (((hW4.adds ((ze.refl J4).newO (cs:=[ycS .i64 0,ycS .i64 0,ycS .i64 0,ycS .i64 0,ycS .i64 0,ycR []]))).setO (cs:=w.cs) hx4).setO (cs:=w.cs) hx0') (((K14.trans (((ze.refl J4).newO (cs:=[ycS .i64 0,ycS .i64 0,ycS .i64 0,ycS .i64 0,ycS .i64 0,ycR []])).keepR hW4.hx)).setO (by omega) hx4).setO (yah _) hx0')
    simp[W.av,W.cs]at this
    have hne:¬J.no=J4.no:=by omega
    simp[splice,o4,hne]
    exact this
   | none =>
    have hl:zfz t s=.error 2:=by unfold zfz;rw[hf,hr]
    simp[W.av,W.cs,splice,zcc,o4]
    refine z8 (λq=>by simp at q) (λ_=>?_)
    simp
    exact hn 2 (by rw[he,hl]) _ (K14.trans (ze.keepR ((ze.refl J4).newO.setO (yah _)) hW4.hx))
 .have he:zdo (λd o s=>zad k d o [] s) t d s=zbE (λd o s=>zad k d o [] s) (zct t) (d+1) s:=by unfold zdo;rw[if_neg ho]
  have hop:=(zuD t).resolve_left ho
  have w1:yb5 .i64 ((d:Int)+1)=((d+1:Nat):Int):=by rw[wrap_i64]<;>omega
  simp[ho,w1]
  refine zuN (d:=d+1) hW1 hop (by omega) (by omega) IH hk hz (λe q=>?_) (λw s' q J' hW' hK'=>?_)
  .intro J' K
   simp
   exact hn e (by rw[he,q]) _ (K1.trans K)
  .have o2:=(hK'.obj J.no (by omega) hx0').trans o1
   have:=hs w s' (by rw[he,q]) _ (hW'.setO (cs:=w.cs) hx0') ((K1.trans hK').setO (yah _) hx0')
   simp[o2,W.av,W.cs,splice]
   simp[W.av,W.cs]at this
   exact this
theorem Wr.push{base x s Z g tos lv l}(h:Wr base x s Z)(ht:All2 Al.RepE tos s.ls)(hG:zi2 J x 6 Z lv (l.map W.av))(hσ:base<=J.nf){Z':AS}(e1:Z'.objs=upd Z.objs x (some [.str s.b,.sl (.fam Z.nf false) 1 (tos++[lv])]))(e2:Z'.no=Z.no)(e3:Z'.nf=Z.nf+1)(e4:Z'.F Z.nf=.alive)
  (e5:∀f,f<Z.nf->¬zco Z x f->Z'.F f=Z.F f) (K:zZ x J Z) (hg:∀f,zco Z x f->f=g) {v:AV} (hmv:∀f,Go.Abs.mrg f v=v) (hR:∀J',Wr base x { s with ls:=s.ls++[l] } J'->zZ x J J'->R (.ret v) J'):Al.MrgOr R (.ret v) Z':=by
 have hb:=h.hb
 have hn:=K.nf
 have base0:∀J':AS,J'.no=Z.no->J'.nf=Z.nf+1->(∀o,o≠x->J'.objs o=Z.objs o)->(∃tos',J'.objs x=some [.str s.b,.sl (.fam Z.nf false) 1 tos']/\All2 Al.RepE tos' (s.ls++[l]))->J'.F Z.nf=.alive ->
   (∀f,f<Z.nf->¬zco Z x f->f<J.nf\/f<base->J'.F f=Z.F f)->R (.ret v) J':=by
  intro J' a1 a2 a3 ⟨tos',a4,a6⟩ a7 a8
  have nb:∀f,f<base->¬zco Z x f:=λf hf=>h.uses hf
  refine hR J' ⟨by rw[a1];exact h.hx,⟨hb.1,by omega⟩,?_,h.ok,h.len,_,a4,.inr ⟨Z.nf,tos',rfl,hb.2,by omega,a7,a6⟩⟩ ⟨by rw[a1];exact K.no,by omega,λo h1 h2=>(a3 o h2).trans (K.obj o h1 h2),λf h1 h2=>?_,λf h1 h2=>?_⟩
  .rw[a8 0 (by omega) (nb 0 hb.1) (.inr hb.1)];exact h.h0
  .have hu:¬zco Z x f:=λu=>h2 (K.use f h1 u)
   rw[a8 f (by omega) hu (.inl h1)]
   exact K.fam f h1 h2
  .obtain⟨cs,v,q1,q2,q3⟩:=h2
   rw[a4]at q1
   cases q1
   simp at q2
   subst q2
   simp[zcL]at q3
   omega
 rcases hG with ⟨h1,rfl⟩|⟨f,rfl,h2,h3,h4,h5⟩
 .have hl:l=[]:=by simpa using h1
  subst hl
  exact .inl (base0 Z' e2 e3 (λo ho=>by rw[e1];simp[ho]) ⟨tos++[.nilsl],by rw[e1];simp,ht.append (.cons (.inl ⟨rfl,rfl⟩) .nil)⟩ e4 (λf q1 q2 _=>e5 f q1 q2))
 .refine Al.MrgOr.merged f (λo=>o==x) (by omega) (by rw[e5 f h3 h5];exact h4) ?_
  rw[hmv]
  refine base0 _ e2 e3 (λo ho=>by simp[AS.mrg,e1,ho]) ⟨tos++[.sl (.fam 0 false) 6 (l.map W.av)],?_,ht.append (.cons (.inr ⟨_,rfl⟩) .nil)⟩ ?_ (λf' q1 q2 q3=>?_)
  .have:¬Z.nf=f:=by omega
   simp[AS.mrg,e1,Al.mrg_rows ht,this,Function.comp_def,Al.mrg_W]
  .have:¬Z.nf=f:=by omega
   simp[AS.mrg,zlG,this,e4]
  .have:¬f'=f:=by omega
   simp only[AS.mrg,zlG,zeH,this,if_false]
   exact e5 f' q1 q2
def LsW(base x d k0:Nat)(o:Bool)(s0:Ts)(J:AS)(a:Nat->AV)(Z:AS):Prop:=∃(k:Nat) (l:List W) (s:Ts),zad k0 d o [] s0=zad k d o l s/\k<=k0/\s.b.length<k/\l.length+s.b.length<=2^38/\s.ls.length+s.b.length<=2^38/\a 0=.ptr x 0/\a 1=.int .i64 (d:Int)/\a 2=.sl (.stat true) 1 ((ze8 d o).map ycR)/\zi2 J x 6 Z (a 8) (l.map W.av)/\Wr base x s Z/\zZ x J Z
def EnI(L:List (List UInt8))(t:List UInt8)(x d:Nat)(v8:AV)(Z2:AS)(a:Nat->AV)(Z:AS):Prop:=∃i,i<=L.length/\(∀j,j<i->L[j]?≠some t)/\Z=Z2/\a 0=.ptr x 0/\a 1=.int .i64 (d:Int)/\a 2=.sl (.stat true) 1 (L.map ycR)/\a 8=v8/\a 9=.str t/\a 14=.sl (.stat true) 1 (L.map ycR)/\a 15=.int .i64 (L.length:Int)/\a 16=.int .i64 (i:Int)
theorem zri(d:Nat)(o:Bool):(ze8 d o).length<=2:=by
 unfold ze8
 split
 .simp
 .split<;>simp
theorem zpB(V:zdw G){base x s0}{k0 d:Nat}{o:Bool}(ho0:o=true->0<d)(hd:d<=400)(hσ:base<=J.nf)(IH:∀j,j<k0->zkP G base x j)(hn:∀e,zad k0 d o [] s0=.error e->zcF R x J e)(hs:∀n t s',zad k0 d o [] s0=.ok ((n,t),s')->∀J',Wr base x s' J'->zZ x J J'->R (.ret (.tuple [.int .i64 n,.str t])) J')
  {a:Nat->AV} {Z:AS} (hI:LsW base x d k0 o s0 J a Z):avc yca G 48 zkr (zbi (λa' J'=>LsW base x d k0 o s0 J a' J'/\MBt x a' J'<MBt x a Z) (za6 0 (zfn yca [.tmp 6,.tmp 7] (Al.MrgOr R)))) a Z:=by
 obtain⟨k,l,s,he,hk,hkb,hlb,hsb,a0,a1,a2,hG,hR,hK⟩:=hI
 have hmb:=zeK hR a
 have hl36:=hR.len
 obtain⟨k,rfl⟩:∃j,k=j+1:=⟨k-1,by omega⟩
 rw[zad]at he
 have hEl:=zri d o
 have hmem:=zrh ho0
 simp[zkr,a0]
 refine zjA hR (λq=>?_) (λt s1 q J1 hr1 hk1=>?_)
 .intro J' h1
  exact .inl (hn 2 (by rw[he,q];rfl) J' (hK.trans h1))
 .obtain⟨q1,q2,q3⟩:=zd0 q
  rw[q]at he
  simp only[Except.bind]at he
  have hK1:=hK.trans hk1.r
  have hG1:=hG.keep hk1.r
  have hmb1:=zeK hr1 a
  have ht0:1<=t.length:=ybn.2 q2
  simp[a2]
  refine zS (EnI (ze8 d o) t x d (a 8) J1) (MU 16 3) ⟨0,by simp,by simp,rfl,by simp[a0],by simp[a1],by simp[a2],by simp,by simp,by simp,by simp,by simp⟩ λb Z2 hE=>?_
  obtain⟨i,hi,hno,rfl,b0,b1,b2,b8,b9,b14,b15,b16⟩:=hE
  generalize hL:ze8 d o=L at *
  by_cases hlt:i<L.length
  .obtain⟨w,hw⟩:∃w,L[i]=w:=⟨L[i],rfl⟩
   have hw2:L[i]?=some w:=by rw[<-hw];simp[hlt]
   have wi:yb5 .i64 ((i:Int)+1)=((i+1:Nat):Int):=by rw[wrap_i64]<;>omega
   by_cases ht:t=w
   .subst ht
    have hin:t∈L:=ycW hw2
    rw[if_pos ((hmem t).1 hin)]at he
    obtain⟨lv,ho,hlv⟩:=hr1.cells
    have l1:=hlv.one
    have g1:=hG1.one
    have wl:yb5 .i64 (s1.ls.length:Int)=(s1.ls.length:Int):=by rw[wrap_i64]<;>(rw[q3];omega)
    have hlen:s1.ls.length<=2^38:=by rw[q3];omega
    have fin:∀Z':AS,∀tos g,All2 Al.RepE tos s1.ls->(∀f,zco Z2 x f->f=g)->Z'.objs=upd Z2.objs x (some [.str s1.b,.sl (.fam Z2.nf false) 1 (tos++[a 8])])->Z'.no=Z2.no->Z'.nf=Z2.nf+1->Z'.F Z2.nf=.alive->(∀f,f<Z2.nf->¬zco Z2 x f->Z'.F f=Z2.F f) ->
      Al.MrgOr R (.ret (.tuple [.int .i64 (s1.ls.length:Int),.str t])) Z':=λZ' tos g t1 t2 t3 t4 t5 t6 t7 =>
     Wr.push hr1 t1 hG1 hσ t3 t4 t5 t6 t7 hK1 t2 (by intro f;simp) λJ' r1 r2=>hs _ _ _ he J' r1 r2
    rcases hlv with ⟨hl0,rfl⟩|⟨g,tos,rfl,t1,t2,t3,t4⟩
    .have wl':yb5 .i64 0=0:=rfl
     have key:=fin ((Z2.newF).setO x [.str s1.b,.sl (.fam Z2.nf false) 1 ([]++[a 8])]) [] 0 (by rw[hl0];exact .nil) (λf ⟨cs,v,u1,u2,u3⟩=>by rw[ho]at u1;cases u1;simp at u2;subst u2;cases u3) (by simp) (by simp) (by simp) (by simp) (λf h1 h2=>by
      have:¬f=Z2.nf:=by omega
      simp[this])
     rw[hl0]at key
     simp[zc6,b0,b1,b2,b8,b9,b14,b15,b16,hlt,hw,ho,g1,splice,wl']
     simpa using key
    .have tl:=t4.length
     have key:=fin (((Z2.setF g .dead).newF).setO x [.str s1.b,.sl (.fam Z2.nf false) 1 (tos++[a 8])]) tos g t4 (λf ⟨cs,v,u1,u2,u3⟩=>by rw[ho]at u1;cases u1;simp at u2;subst u2;simpa [zcL]using u3.symm) (by simp) (by simp) (by simp) (by simp) (λf h1 h2=>by
      have:¬f=Z2.nf:=by omega
      have:¬f=g:=λe=>h2 ⟨_,_,ho,rfl,by rw[e];rfl⟩
      simp[*])
     simp[zc6,b0,b1,b2,b8,b9,b14,b15,b16,hlt,hw,ho,g1,splice,t3,tl,wl]
     refine⟨by omega,?_⟩
     simpa using key
   .simp[zc6,b0,b1,b2,b8,b9,b14,b15,b16,hlt,hw,ht,wi]
    refine⟨⟨i+1,hlt,λj hj=>?_,rfl,by simp[b0],by simp[b1],by simp[b2],by simp[b8],by simp[b9],by simp[b14],by simp[b15],by simp⟩,?_⟩
    .by_cases e:j=i
     .subst e
      rw[hw2]
      intro q
      exact ht (yaR.inj q).symm
     .exact hno j (by omega)
    .simp[MU,b16]
     omega
  .have hiL:i=L.length:=by omega
   have hnin:t∉L:=λhin=>by
    obtain⟨j,hj,e⟩:=ya9 hin
    exact hno j (by omega) (by rw[<-e];simp[hj])
   rw[if_neg (λe=>hnin ((hmem t).2 e))]at he
   have g1:=hG1.one
   simp[zc6,b0,b1,b2,b8,b9,b14,b15,b16,hiL,zkq,g1]
   refine zx3 V hr1 (k:=k) (by omega) hd (λj hj=>IH j (by omega)) (by omega) (by rw[q3];omega) (λe q5=>?_) (λw s2 q5 J2 hr2 hk2=>?_)
   .intro J' e1
    exact .inl (hn e (by rw[he,q5]) J' (hK1.trans e1))
   .rw[q5]at he
    simp only[Except.bind]at he
    have hin:=zmf (λd o s r s'=>zfG k d o [] s r s') q5
    rw[LeT,q3]at hin
    have hmb2:=zeK hr2 a
    have g2:=(hG1.keep hk2).one
    simp[W.av,W.cs,g2]
    refine zre (row:=w.av) (hG1.keep hk2) hr2 (hK1.trans hk2) hσ (by simp[W.av,W.cs]) (by simp;omega) λv' Z' e1 e2 e3 e4 e5 _=>?_
    simp
    refine⟨⟨k,l++[w],s2,he,by omega,by omega,by simp;omega,by omega,by simp[b0],by simp[b1],by simp[b2,hL],by simpa using e1,e2,e3⟩,?_⟩
    rw[zeK e2,hmb]
    omega
theorem zoA(V:zdw G){base x}:∀k j:Nat,j<=k->zkP G base x j
 | 0,j,hj=>λJ R s d o h hk=>by omega
 | k+1,j,hj=>by
  have IH:=zoA V (base:=base) (x:=x) k
  intro J R s d o h hk hz hd ho hn hs
  refine Al.merging (ztc rfl ?_)
  have hb:=h.hb
  simp[zBL]
  refine zS (LsW base x d j o s J) (MBt x) ⟨j,[],s,rfl,yah _,hk,by simp;omega,hz,by simp,by simp,by simp,.inl ⟨rfl,by simp⟩,h,.refl ..⟩ λa Z hI=>?_
  exact zpB V ho hd hb.2 (λi hi=>IH i (by omega)) hn hs hI
end
theorem zrj(c:UInt8)(h:c.toNat<128):yb5 .i32 (c.toNat:Int)=(c.toNat:Int):=by
 unfold yb5
 simp[IntKind.bits,yao]
 omega
def zCG:List UInt8:=[97,98,99,100,101,102,103,104,105,106,107,108,109,110,111,112,113,114,115,116,117,118,119,120,121,122,95]
def zim:List UInt8:=[97,98,99,100,101,102,103,104,105,106,107,108,109,110,111,112,113,114,115,116,117,118,119,120,121,122,95,48,49,50,51,52,53,54,55,56,57]
theorem zCH(c:UInt8):inS zim c=(zae c||zK c):=by
 have h:∀i:Fin 256,inS zim (UInt8.ofNat i.1)=(zae (UInt8.ofNat i.1)||zK (UInt8.ofNat i.1)):=by decide
 have:=h ⟨c.toNat,c.toNat_lt⟩
 simpa using this
theorem zFu(c:UInt8):inS zCG c=zae c:=by
 have h:∀i:Fin 256,inS zCG (UInt8.ofNat i.1)=zae (UInt8.ofNat i.1):=by decide
 have:=h ⟨c.toNat,c.toNat_lt⟩
 simpa using this
theorem zin:∀c∈zim,c.toNat<128:=by decide
theorem zrk{c:UInt8}(h:inS zim c=true):c.toNat<128:=zin c (by unfold inS at h;simpa using h)
theorem zjC:inS zim=λc=>(zae c||zK c):=funext zCH
section
variable {G : Env} {J : AS} {R : Out -> AS -> Prop}
theorem zFv{t:List UInt8}(hl:t.length<2^40)(h:∀J',ze J J'->R (.ret (.bool (zh3 24 t))) J'):zzQ G 117 [.str t] J R:=by
 refine zta rfl ?_
 cases t with
 | nil =>
  simp[zs9]
  exact h _ (.refl _)
 | cons c r =>
  have h1:(1:Int)<=(((c::r).length:Nat):Int):=by simp;omega
  generalize ht:c::r=t at *
  have hc0:t[0]?=some c:=by rw[<-ht];rfl
  have h1n:1<=t.length:=by omega
  by_cases h24:t.length<=24
  .have h24i:(t.length:Int)<=24:=by omega
   simp[zs9,h1,h1n,h24,h24i]
   refine zgb (l:=zim) zin (by decide) (by decide) (by omega) λJ' A=>?_
   by_cases hall:t.all (inS zim)=true
   .have e:=(zcQ zim t).2 hall
    have hc:inS zim c=true:=by rw[yaM]at hall;exact hall c (by rw[<-ht];simp)
    have hc8:=zrk hc
    have wc:yb5 .i32 (c.toNat:Int)=(c.toNat:Int):=zrj c hc8
    simp[e,hc0,wc]
    refine zfE (s:=zCG) hc8 ?_
    have e2:zCG.contains c=inS zCG c:=rfl
    rw[e2,zFu]
    have e3:zh3 24 t=zae c:=by
     rw[zjC,<-ht]at hall
     rw[<-ht]
     simp only[ycE,Bool.and_eq_true]at hall
     rw[<-ht]at h24
     simp only[zh3,hall.2,h24,decide_true,Bool.true_and,Bool.and_true]
    have:=h _ A
    rw[e3]at this
    simpa using this
   .have e:¬zl8 zim t=[]:=λq=>hall ((zcQ zim t).1 q)
    simp[e]
    have e3:zh3 24 t=false:=by
     rw[zjC,<-ht]at hall
     simp only[ycE,Bool.and_eq_true,not_and,Bool.not_eq_true]at hall
     rw[<-ht]
     simp only[zh3]
     cases hL:zae c with
     | false=>simp
     | true=>simp[hall (by simp[hL])]
    have:=h _ A
    rw[e3]at this
    exact this
  .have h24i:¬(t.length:Int)<=24:=by omega
   have e:zh3 24 t=false:=by rw[<-ht];simp[zh3];rw[<-ht]at h24;simp at h24;omega
   simp[zs9,h1,h1n,h24,h24i]
   have:=h _ (.refl _)
   rw[e]at this
   exact this
end
def zx4:PC:=(.seq (.ops [⟨some 42,.move (.tmp 0),none,[]⟩,
    ⟨some 43,.nilCheck (.tmp 42),none,[]⟩,
    ⟨some 44,.fieldAddr 77 (.tmp 43) 1,none,[]⟩,
    ⟨none,.store 55 (.tmp 44) (.const (.slice none 0 0)),none,[]⟩])
 (.seq (.ops [⟨some 45,.move (.tmp 0),none,[]⟩,
    ⟨some 46,.buildSlice 22 1 #[(0,(.const (.string ⟨#[41]⟩)))],none,[]⟩,
    ⟨some 47,.call ⟨.value (.func 119),#[(.tmp 45),(.const (.int .i64 0)),(.tmp 46)],#[75,3,22]⟩,none,[]⟩])
 (.seq (.ops [⟨some 48,.move (.tmp 0),none,[]⟩,
    ⟨some 49,.nilCheck (.tmp 48),none,[]⟩,
    ⟨some 50,.fieldAddr 77 (.tmp 49) 1,none,[]⟩,
    ⟨some 51,.load 55 (.tmp 50),none,[]⟩,
    ⟨some 52,.fieldAddr 57 (.tmp 2) 4,none,[]⟩,
    ⟨none,.store 55 (.tmp 52) (.tmp 51),none,[]⟩])
 (.seq (.ops [⟨some 53,.load 57 (.tmp 2),none,[]⟩,
    ⟨none,.store 57 (.tmp 2) (.tmp 53),none,[]⟩])
 .ret))))
def zx5:PC:=(.seq (.seq (.ops [⟨some 37,.move (.tmp 0),none,[]⟩,
    ⟨some 38,.call ⟨.value (.func 59),#[(.tmp 37),(.const (.string ⟨#[108,111,99,97,108]⟩))],#[75,9]⟩,none,[]⟩])
  (.cond (.tmp 38)
    (.ops [⟨some 39,.move (.tmp 0),none,[]⟩,
      ⟨some 40,.call ⟨.value (.func 118),#[(.tmp 39)],#[75]⟩,none,[]⟩,
      ⟨some 41,.fieldAddr 57 (.tmp 2) 2,none,[]⟩,
      ⟨none,.store 44 (.tmp 41) (.tmp 40),none,[]⟩])
    .skip))
 zx4)
def zx6:PC:=(.seq (.seq (.ops [⟨some 25,.move (.tmp 0),none,[]⟩,
    ⟨some 26,.call ⟨.value (.func 59),#[(.tmp 25),(.const (.string ⟨#[114,101,115,117,108,116]⟩))],#[75,9]⟩,none,[]⟩])
  (.cond (.tmp 26)
    (.seq (.ops [⟨some 27,.move (.tmp 0),none,[]⟩,
      ⟨some 28,.call ⟨.value (.func 118),#[(.tmp 27)],#[75]⟩,none,[]⟩,
      ⟨some 5,.assign (.tmp 28),none,[]⟩])
    (.seq (.ops [⟨some 29,.move (.tmp 5),none,[]⟩,
      ⟨some 30,.call ⟨.builtin .len,#[(.tmp 29)],#[44]⟩,none,[]⟩,
      ⟨some 31,.binOp .eql 3 (.tmp 30) (.const (.int .i64 1)) 3,none,[]⟩,
      ⟨some 32,.call ⟨.value (.func 61),#[(.tmp 31),(.const (.int .i64 2))],#[4,33]⟩,none,[]⟩])
    (.ops [⟨some 33,.move (.tmp 5),none,[]⟩,
      ⟨some 34,.indexAddr 44 (.tmp 33) (.const (.int .i64 0)),none,[]⟩,
      ⟨some 35,.load 3 (.tmp 34),none,[]⟩,
      ⟨some 36,.fieldAddr 57 (.tmp 2) 3,none,[]⟩,
      ⟨none,.store 3 (.tmp 36) (.tmp 35),none,[]⟩])))
    .skip))
 zx5)
def zx7:PC:=(.seq (.seq (.ops [⟨some 20,.move (.tmp 0),none,[]⟩,
    ⟨some 21,.call ⟨.value (.func 59),#[(.tmp 20),(.const (.string ⟨#[112,97,114,97,109]⟩))],#[75,9]⟩,none,[]⟩])
  (.cond (.tmp 21)
    (.ops [⟨some 22,.move (.tmp 0),none,[]⟩,
      ⟨some 23,.call ⟨.value (.func 118),#[(.tmp 22)],#[75]⟩,none,[]⟩,
      ⟨some 24,.fieldAddr 57 (.tmp 2) 1,none,[]⟩,
      ⟨none,.store 44 (.tmp 24) (.tmp 23),none,[]⟩])
    .skip))
 zx6)
theorem zx8:zF5=(.seq (.ops [⟨some 2,.alloc 57,none,[]⟩])
 (.seq (.ops [⟨some 7,.move (.tmp 0),none,[]⟩,
    ⟨some 8,.call ⟨.value (.func 110),#[(.tmp 7)],#[75]⟩,none,[]⟩,
    ⟨some 9,.call ⟨.value (.func 116),#[(.tmp 8),(.const (.string ⟨#[36]⟩))],#[9,9]⟩,none,[]⟩,
    ⟨some 6,.move (.tmp 9),none,[]⟩,
    ⟨some 10,.extract (.tmp 6) 0,none,[]⟩,
    ⟨some 11,.extract (.tmp 6) 1,none,[]⟩,
    ⟨some 3,.assign (.tmp 10),none,[]⟩,
    ⟨some 4,.assign (.tmp 11),none,[]⟩])
 (.seq (.ops [⟨some 12,.move (.tmp 4),none,[]⟩,
    ⟨some 13,.move (.tmp 12),none,[]⟩,
    ⟨some 14,.move (.tmp 3),(some (13,true)),[]⟩,
    ⟨some 15,.call ⟨.value (.func 117),#[(.tmp 14)],#[9]⟩,(some (13,true)),[]⟩,
    ⟨some 16,.pick (.tmp 13) (.tmp 15) (.const (.bool false)),none,[]⟩,
    ⟨some 17,.call ⟨.value (.func 61),#[(.tmp 16),(.const (.int .i64 2))],#[4,33]⟩,none,[]⟩])
 (.seq (.ops [⟨some 18,.move (.tmp 3),none,[]⟩,
    ⟨some 19,.fieldAddr 57 (.tmp 2) 0,none,[]⟩,
    ⟨none,.store 9 (.tmp 19) (.tmp 18),none,[]⟩])
 zx7)))):=rfl
def endF(nm:List UInt8)(P:List Int)(ty:Int)(s:Ts):Res (F × Ts):=(zeB zaZ s).bind λu=>(zad (u.2.b.length+1) 0 false [] { u.2 with ls:=[] }).map λ(v:(Int × List UInt8) × Ts)=>({ name:=nm,params:=P,locals:=u.1,type:=ty,lists:=v.2.ls },v.2)
def zpZ(nm:List UInt8)(P:List Int)(s:Ts):Res (F × Ts):=(zqR s).bind λr=>endF nm P r.1 r.2
def zuO(nm:List UInt8)(s:Ts):Res (F × Ts):=(zeB zb3 s).bind λq=>zpZ nm q.1 q.2
theorem zd2(mx:Nat)(s:Ts):zck mx s=(zb8 s).bind λp=>if p.1.head?=some 36/\zh3 mx p.1.tail=true then zuO p.1.tail p.2 else .error 2:=rfl
theorem zah.setO{x J Z o cs}(K:zah x J Z)(ho:J.no<=o)(hox:o≠x):zah x J (Z.setO o cs) where
 no:=K.no
 nf:=K.nf
 obj p a b:=by
  have:¬p=o:=by omega
  simp[this]
  exact K.obj p a b
 fam:=K.fam
 lst cs' h:=by
  have:¬x=o:=λe=>hox e.symm
  simp[this]
  exact K.lst cs' h
 some:=K.some
theorem zZ.nil{x Z b}:zZ x Z (Z.setO x [b,.nilsl]) where
 no:=yah _
 nf:=yah _
 obj o _ h:=by simp[h]
 fam _ _ _:=rfl
 use f _:=λ⟨cs,v,h1,h2,h3⟩=>by
  simp at h1
  subst h1
  simp at h2
  subst h2
  cases h3
theorem zuP{x:Nat}{Z:AS}{b:AV}{f:Nat}:¬zco (Z.setO x [b,.nilsl]) x f:=λ⟨cs,v,h1,h2,h3⟩=>by
 simp at h1
 subst h1
 simp at h2
 subst h2
 cases h3
theorem zZ.full{x J Z}(K:zZ x J Z)(h:∀f,¬zco J x f):zga x x J Z:=⟨K.no,K.nf,λo a b _=>K.obj o a b,λf a=>K.fam f a (h f)⟩
structure FnW(base x fo:Nat)(J0:AS)(s:Ts)(nm:List UInt8)(pv lv:AV)(ty:Int)(Z:AS):Prop where
 rd:Wr base x s Z
 ks:zah x J0 Z
 fx:fo≠x
 f0:J0.no<=fo
 lt:fo<Z.no
 ob:Z.objs fo=some [.str nm,pv,lv,.int .i64 ty,.nilsl]
def zCI(R:Out->AS->Prop)(base x:Nat)(J0:AS)(r:Res (F × Ts)):Prop:=∀f s',r=.ok (f,s')->∀pv lv tv J',Al.IntsE pv f.params->Al.IntsE lv f.locals->Wr base x s' J'->J'.objs x=some [.str s'.b,tv]->zga x x J0 J'->(∀g,zcL tv=some g->J0.nf<=g) ->
 s'.ls=f.lists->R (.ret (.agg [.str f.name,pv,lv,.int .i64 f.type,tv])) J'
section
variable {G : Env} {R : Out -> AS -> Prop}
theorem zwb(V:zdw G){base x fo s nm P L pv lv ty J0 Z}{a:Nat->AV}(hF:FnW base x fo J0 s nm pv lv ty Z)(hp:Al.IntsE pv P)(hl:Al.IntsE lv L)(a0:a 0=.ptr x 0)(a2:a 2=.ptr fo 0)
  (hn:∀e,((zad (s.b.length+1) 0 false [] { s with ls:=[] }).map λ(v:(Int × List UInt8) × Ts)=>(({ name:=nm,params:=P,locals:=L,type:=ty,lists:=v.2.ls }:F),v.2))=.error e->zcF R x J0 e)
  (hs:zCI R base x J0 ((zad (s.b.length+1) 0 false [] { s with ls:=[] }).map λ(v:(Int × List UInt8) × Ts)=>(({ name:=nm,params:=P,locals:=L,type:=ty,lists:=v.2.ls }:F),v.2))):avc yca G 54 zx4 (zfn yca [.cell 2 57] R) a Z:=by
 have p1:=hp.one
 have l1:=hl.one
 have hfx:=hF.fx
 have hx:=hF.rd.hx
 have hof:=hF.ob
 obtain⟨lv0,ho,hlv⟩:=hF.rd.cells
 have hlen:=hF.rd.len
 have hW1:Wr base x { s with ls:=[] } (Z.setO x [.str s.b,.nilsl]):=⟨hF.rd.hx,hF.rd.hb,hF.rd.h0,hF.rd.ok,hF.rd.len,.nilsl,by simp,.inl ⟨rfl,rfl⟩⟩
 have K1:zZ x J0 (Z.setO x [.str s.b,.nilsl]):=hF.ks.r.trans zZ.nil
 have of1:(Z.setO x [.str s.b,.nilsl]).objs fo=some [.str nm,pv,lv,.int .i64 ty,.nilsl]:=by simp[hfx,hof]
 have KF1:zga x x J0 (Z.setO x [.str s.b,.nilsl]):=hF.ks.f.setO (.inl rfl)
 have nu1:∀f,¬zco (Z.setO x [.str s.b,.nilsl]) x f:=λf=>zuP
 have n1:(Z.setO x [.str s.b,.nilsl]).no=Z.no:=rfl
 have m1:(Z.setO x [.str s.b,.nilsl]).nf=Z.nf:=rfl
 have hlt:=hF.lt
 have hnf:=hF.ks.nf
 simp[zx4,a0,a2,ho,splice]
 generalize Z.setO x [.str s.b,.nilsl]=Z1 at *
 have go:=zoA V (base:=base) (x:=x) (s.b.length+1) (s.b.length+1) (yah _) Z1
 have e2:ze8 0 false=[zf]:=rfl
 have go2:∀R',(∀e,zad (s.b.length+1) 0 false [] { s with ls:=[] }=.error e->zcF R' x Z1 e)->(∀n t s',zad (s.b.length+1) 0 false [] { s with ls:=[] }=.ok ((n,t),s')->∀J',Wr base x s' J'->zZ x Z1 J'->R' (.ret (.tuple [.int .i64 n,.str t])) J')->zzQ G 119 [.ptr x 0,.int .i64 0,.sl (.stat true) 1 [.str [41]]] Z1 R':=λR' u v=>by
  have:=go R' { s with ls:=[] } 0 false hW1 (by simp) (by simp;omega) (by omega) (by simp) u v
  rw[e2]at this
  exact this
 refine go2 _ (λe q=>?_) (λn t s' q Z2 hW2 K2=>?_)
 .intro J' K
  simp
  exact hn e (by rw[q];rfl) _ (K1.trans K)
 .have of2:=(K2.obj fo (by omega) hfx).trans of1
  obtain⟨tv,ho2,htv⟩:=hW2.cells
  have t1:=htv.one
  have hxf:¬x=fo:=λe=>hfx e.symm
  have hfx':¬fo=x:=hfx
  simp[a0,a2,ho2,of2,splice,t1,p1,l1,hxf,hfx']
  have KF:=KF1.trans (K2.full nu1)
  have f0:=hF.f0
  refine hs _ s' (by rw[q];rfl) pv lv tv _ hp hl ((hW2.setO hfx).setO hfx) (by simp[hxf,ho2]) ((KF.setO (.inr (.inr f0))).setO (.inr (.inr f0))) (λg hg=>?_) rfl
  have hg1:zco Z2 x g:=⟨_,_,ho2,rfl,hg⟩
  by_cases hlt2:g<Z1.nf
  .exact absurd (K2.use g hlt2 hg1) (nu1 g)
  .omega
end
def zCJ(nm:List UInt8)(P L:List Int)(ty:Int)(s:Ts):Res (F × Ts):=(zad (s.b.length+1) 0 false [] { s with ls:=[] }).map λ(v:(Int × List UInt8) × Ts)=>(({ name:=nm,params:=P,locals:=L,type:=ty,lists:=v.2.ls }:F),v.2)
section
variable {G : Env} {R : Out -> AS -> Prop}
theorem FnW.keep{base x fo J0 s s' nm pv lv ty Z Z'}(hF:FnW base x fo J0 s nm pv lv ty Z)(hW:Wr base x s' Z')(K:zah x Z Z'):FnW base x fo J0 s' nm pv lv ty Z' :=
 ⟨hW,hF.ks.trans K,hF.fx,hF.f0,yag hF.lt K.no,(K.obj fo hF.lt hF.fx).trans hF.ob⟩
theorem FnW.set{base x fo J0 s nm pv lv ty Z nm' pv' lv' ty'}(hF:FnW base x fo J0 s nm pv lv ty Z):FnW base x fo J0 s nm' pv' lv' ty' (Z.setO fo [.str nm',pv',lv',.int .i64 ty',.nilsl]) :=
 ⟨hF.rd.setO hF.fx,hF.ks.setO hF.f0 hF.fx,hF.fx,hF.f0,hF.lt,by simp⟩
theorem zoB(V:zdw G){base x fo s nm P pv ty J0 Z}{a:Nat->AV}(hF:FnW base x fo J0 s nm pv .nilsl ty Z)(hp:Al.IntsE pv P)(a0:a 0=.ptr x 0)(a2:a 2=.ptr fo 0)
  (hn:∀e,endF nm P ty s=.error e->zcF R x J0 e) (hs:zCI R base x J0 (endF nm P ty s)):avc yca G 54 zx5 (zfn yca [.cell 2 57] R) a Z:=by
 have p1:=hp.one
 simp[zx5,a0]
 refine zuI (w:=zaZ) hF.rd (by decide) (λq Z1 hW1 K1=>?_) (λs1 q Z1 hW1 K1=>?_)
 .have e:zeB zaZ s=.ok ([],s):=by unfold zeB;rw[q]
  have hF1:=hF.keep hW1 K1
  simp
  have e3:endF nm P ty s=zCJ nm P [] ty s:=by unfold endF;rw[e];rfl
  rw[e3]at hs
  exact zwb V (L:=[]) hF1 hp (.inl ⟨rfl,.inl rfl⟩) (by simp[a0]) (by simp[a2]) (λe' q'=>hn e' (by rw[e3];exact q')) hs
 .have e:zeB zaZ s=zb4 (s1.b.length+1) [] s1:=by unfold zeB;rw[q]
  have hF1:=hF.keep hW1 K1
  simp[a0]
  refine znx (k:=s1.b.length+1) hW1 (by omega) (λe' q'=>?_) (λl s2 q' v Z2 hv hW2 K2=>?_)
  .intro J' K
   simp
   exact hn e' (by unfold endF;rw[e,q'];rfl) _ (hF1.ks.r.trans K)
  .have hF2:=hF1.keep hW2 K2
   have v1:=hv.one
   have ob2:=hF2.ob
   simp[a0,a2,ob2,splice,v1]
   have e3:endF nm P ty s=zCJ nm P l ty s2:=by unfold endF;rw[e,q'];rfl
   rw[e3]at hs
   exact zwb V (L:=l) hF2.set hp hv (by simp[a0]) (by simp[a2]) (λe' q3=>hn e' (by rw[e3];exact q3)) hs
theorem zwc(V:zdw G){base x fo s nm P pv J0 Z}{a:Nat->AV}(hF:FnW base x fo J0 s nm pv .nilsl 0 Z)(hp:Al.IntsE pv P)(a0:a 0=.ptr x 0)(a2:a 2=.ptr fo 0)
  (hn:∀e,zpZ nm P s=.error e->zcF R x J0 e) (hs:zCI R base x J0 (zpZ nm P s)):avc yca G 54 zx6 (zfn yca [.cell 2 57] R) a Z:=by
 have p1:=hp.one
 simp[zx6,a0]
 refine zuI (w:=zdS) hF.rd (by decide) (λq Z1 hW1 K1=>?_) (λs1 q Z1 hW1 K1=>?_)
 .have e:zqR s=.ok (0,s):=by unfold zqR;rw[q]
  have hF1:=hF.keep hW1 K1
  simp
  have e3:zpZ nm P s=endF nm P 0 s:=by unfold zpZ;rw[e];rfl
  rw[e3]at hs
  exact zoB V hF1 hp (by simp[a0]) (by simp[a2]) (λe' q'=>hn e' (by rw[e3];exact q')) hs
 .have hF1:=hF.keep hW1 K1
  simp[a0]
  refine znx (k:=s1.b.length+1) hW1 (by omega) (λe' q'=>?_) (λl s2 q' v Z2 hv hW2 K2=>?_)
  .intro J' K
   simp
   exact hn e' (by unfold zpZ zqR;rw[q];simp only;rw[q'];rfl) _ (hF1.ks.r.trans K)
  .have hF2:=hF1.keep hW2 K2
   have v1:=hv.one
   have ob2:=hF2.ob
   have e:zqR s=if l.length=1 then .ok (l.headD 0,s2)else .error 2:=by unfold zqR;rw[q];simp only;rw[q'];rfl
   by_cases h1:l.length=1
   .obtain⟨n,rfl⟩:=List.length_eq_one_iff.1 h1
    rw[if_pos h1]at e
    have e3:zpZ nm P s=endF nm P n s2:=by unfold zpZ;rw[e];rfl
    rw[e3]at hs
    have hv':∃b,v=.sl (.fam 0 b) 1 [.int .i64 n]:=by
     rcases hv with ⟨h,_⟩|⟨b,h⟩
     .cases h
     .exact⟨b,h⟩
    obtain⟨b,rfl⟩:=hv'
    have h0:=hF2.rd.h0
    have hnf:=hF2.rd.hb
    have hnf0:0<Z2.nf:=by omega
    simp
    refine z8 (λ_=>?_) (λq=>by cases q)
    simp[a0,a2,ob2,splice,h0,hnf0,p1]
    exact zoB V hF2.set hp (by simp[a0]) (by simp[a2]) (λe' q'=>hn e' (by rw[e3];exact q')) hs
   .rw[if_neg h1]at e
    have bad:∀J',zZ x Z2 J'->R (.panic (zx1 2)) J':=λJ' K=>hn 2 (by unfold zpZ;rw[e];rfl) _ (hF2.ks.r.trans K)
    rcases hv with ⟨h,rfl|⟨b,rfl⟩⟩|⟨b,rfl⟩
    .simp
     refine z8 (λq=>by cases q) (λ_=>?_)
     simp
     exact bad _ (.refl ..)
    .simp
     refine z8 (λq=>by cases q) (λ_=>?_)
     simp
     exact bad _ (.refl ..)
    .have h1i:¬(l.length:Int)=1:=by omega
     simp[h1,h1i]
     refine z8 (λq=>by cases q) (λ_=>?_)
     simp
     exact bad _ (.refl ..)
theorem zCK(V:zdw G){base x fo s nm J0 Z}{a:Nat->AV}(hF:FnW base x fo J0 s nm .nilsl .nilsl 0 Z)(a0:a 0=.ptr x 0)(a2:a 2=.ptr fo 0)
  (hn:∀e,zuO nm s=.error e->zcF R x J0 e) (hs:zCI R base x J0 (zuO nm s)):avc yca G 54 zx7 (zfn yca [.cell 2 57] R) a Z:=by
 simp[zx7,a0]
 refine zuI (w:=zb3) hF.rd (by decide) (λq Z1 hW1 K1=>?_) (λs1 q Z1 hW1 K1=>?_)
 .have e:zeB zb3 s=.ok ([],s):=by unfold zeB;rw[q]
  have hF1:=hF.keep hW1 K1
  simp
  have e3:zuO nm s=zpZ nm [] s:=by unfold zuO;rw[e];rfl
  rw[e3]at hs
  exact zwc V (P:=[]) hF1 (.inl ⟨rfl,.inl rfl⟩) (by simp[a0]) (by simp[a2]) (λe' q'=>hn e' (by rw[e3];exact q')) hs
 .have e:zeB zb3 s=zb4 (s1.b.length+1) [] s1:=by unfold zeB;rw[q]
  have hF1:=hF.keep hW1 K1
  simp[a0]
  refine znx (k:=s1.b.length+1) hW1 (by omega) (λe' q'=>?_) (λl s2 q' v Z2 hv hW2 K2=>?_)
  .intro J' K
   simp
   exact hn e' (by unfold zuO;rw[e,q'];rfl) _ (hF1.ks.r.trans K)
  .have hF2:=hF1.keep hW2 K2
   have v1:=hv.one
   have ob2:=hF2.ob
   simp[a0,a2,ob2,splice,v1]
   have e3:zuO nm s=zpZ nm l s2:=by unfold zuO;rw[e,q'];rfl
   rw[e3]at hs
   exact zwc V hF2.set hv (by simp[a0]) (by simp[a2]) (λe' q3=>hn e' (by rw[e3];exact q3)) hs
theorem zpC(V:zdw G){base x s J}(h:Wr base x s J)(hn:∀e,zck 24 s=.error e->zcF R x J e)(hs:zCI R base x J (zck 24 s)):zzQ G 60 [.ptr x 0] J R:=by
 refine zxm rfl ?_
 rw[zd2]at hs
 simp only[zd2]at hn
 obtain⟨cs0,hcs0⟩:=h.isSome
 have hx:=h.hx
 rw[zx8]
 simp
 have A1:ze J (J.newO [.str [],.nilsl,.nilsl,.int .i64 0,.nilsl]):=(ze.refl J).newO
 have o1:(J.newO [.str [],.nilsl,.nilsl,.int .i64 0,.nilsl]).objs J.no=some [.str [],.nilsl,.nilsl,.int .i64 0,.nilsl]:=by simp
 have n1:(J.newO [.str [],.nilsl,.nilsl,.int .i64 0,.nilsl]).no=J.no+1:=by simp
 generalize J.newO [.str [],.nilsl,.nilsl,.int .i64 0,.nilsl]=J1 at *
 have hW1:=h.adds A1
 have K1:=A1.keepS hx hcs0
 refine zjA hW1 (λq=>?_) (λt s1 q J2 hW2 K2=>?_)
 .intro J' K
  simp
  exact hn 2 (by rw[q];rfl) _ (K1.r.trans K)
 .rw[q]at hs
  simp only[q,Except.bind]at hn hs
  have htl:=(zd0 q).1
  have hlen:=hW1.len
  have hF:FnW base x J.no J s1 [] .nilsl .nilsl 0 J2:=⟨hW2,K1.trans K2,by omega,yah _,by have:=K2.no;omega,(K2.obj _ (by omega) (by omega)).trans o1⟩
  simp
  refine zgz ?_
  have bad:¬(t.head?=some 36/\zh3 24 t.tail=true)->∀J',zZ x J2 J'->R (.panic (zx1 2)) J':=λhc J' K=>hn 2 (by rw[if_neg hc]) _ (hF.ks.r.trans K)
  by_cases h36:t.head?=some 36
  .have e1:zi3 [36] t=true:=by rw[zig];simpa using h36
   have e2:t.drop 1=t.tail:=by simp
   simp[e1]
   refine zFv (by simp;omega) λJ3 A3=>?_
   obtain⟨cs2,hcs2⟩:=hW2.isSome
   have K3:=A3.keepS hW2.hx hcs2
   have hF3:=hF.keep (hW2.adds A3) K3
   by_cases ht:zh3 24 t.tail=true
   .rw[if_pos ⟨h36,ht⟩]at hs
    simp only[if_pos (⟨h36,ht⟩:t.head?=some 36/\zh3 24 t.tail=true)]at hn
    simp[ht]
    refine z8 (λ_=>?_) (λq=>by cases q)
    have ob3:=hF3.ob
    simp[ob3,splice]
    exact zCK V hF3.set (by simp) (by simp) hn hs
   .simp[ht]
    refine z8 (λq=>by cases q) (λ_=>?_)
    simp
    exact bad (λq=>ht q.2) _ K3.r
  .have e1:zi3 [36] t=false:=by rw[zig];simpa using h36
   simp[e1]
   refine z8 (λq=>by cases q) (λ_=>?_)
   simp
   exact bad (λq=>h36 q.1) _ (.refl ..)
theorem zgc{Z Z':AS}{base v l}(h:Al.OutE Z base v l)(hn:Z.nf<=Z'.nf)(hF:∀f,f<Z.nf->Z'.F f=Z.F f):Al.OutE Z' base v l:=by
 rcases h with h|⟨g,rows,ps,h1,h2,h3,h4,h5,h6,h7⟩
 .exact .inl h
 .exact .inr ⟨g,rows,ps,h1,h2,by omega,(hF g h3).trans h4,h5,h6,h7.nd,λx hx=>by
   obtain⟨q1,q2,q3,q4⟩:=h7.each x hx
   exact⟨q1,by omega,(hF x q2).trans q3,q4⟩⟩
theorem zFw{Z Z':AS}{base v m}(h:Al.ME Z base v m)(hn:Z.nf<=Z'.nf)(hF:∀f,f<Z.nf->Z'.F f=Z.F f):Al.ME Z' base v m:=by
 obtain⟨fv,rfl,h⟩:=h
 exact⟨fv,rfl,zgc h hn hF⟩
def zgD:AV:=.agg [.nilsl,.int .i64 0,.int .i64 0]
end
def zsj(fs:List F)(mem:Int)(s:Ts):Res (M × Ts):=(zaD [zB,zcE,ziU,zB,zbT] s).bind λs=>(zbo s).bind λmn=>(zaD [zf,zf,zf] mn.2).bind λs =>
  if s.b.all zng=true then .ok (({ funcs:=fs,memory:=mem,main:=yb5 .i64 (mn.1-3) }:M),s)else .error 2
theorem zjD(mx:Nat)(s:Ts):zf5 mx s=(zaD zbv s).bind λs=>(zbo s).bind λmem=>(zaD [zf,zf] mem.2).bind λs=>(zak mx (s.b.length+1) [] s).bind λfs=>zsj fs.1 mem.1 fs.2:=rfl
theorem zoC:∀(k d:Nat) (o:Bool) (l:List W) (s:Ts) (r:Int × List UInt8) (s':Ts),zad k d o l s=.ok (r,s')->s'.ls≠[]
 | 0,_,_,_,_,_,_,h=>by cases h
 | k+1,d,o,l,s,r,s',h=>by
  rw[zad]at h
  obtain⟨p,h1,h2⟩:=bind_some h
  split at h2
  .cases h2
   simp
  .obtain⟨q,h3,h4⟩:=bind_some h2
   exact zoC k d o _ _ _ _ h4
theorem zrl{w:List UInt8}{s s':Ts}(h:zf4 w s=some s'):s'.b.length<=s.b.length:=by
 unfold zf4 at h
 cases e:zdv s.b with
 | none=>rw[e]at h;cases h
 | some p =>
  obtain⟨p1,p2⟩:=p
  rw[e]at h
  simp only at h
  split at h
  .cases e2:zdv p2 with
   | none=>rw[e2]at h;cases h
   | some q =>
    obtain⟨q1,q2⟩:=q
    rw[e2]at h
    simp only at h
    split at h
    .cases h
     have l1:=(zcs e).1
     have l2:=(zcs e2).1
     simp only
     omega
    .cases h
  .cases h
theorem zfH:∀(k:Nat) (l:List Int) (s:Ts) (r:List Int) (s':Ts),zb4 k l s=.ok (r,s')->s'.b.length<=s.b.length
 | 0,_,_,_,_,h=>by cases h
 | k+1,l,s,r,s',h=>by
  rw[zb4]at h
  obtain⟨p,h1,h2⟩:=bind_some h
  have l1:=(zhe h1).1
  split at h2
  .exact yai (zfH k _ _ _ _ h2) l1
  .split at h2
   .exact yai (zfH k _ _ _ _ h2) l1
   .split at h2
    .cases h2;exact l1
    .cases h2
theorem zoD{w:List UInt8}{s s':Ts}{l:List Int}(h:zeB w s=.ok (l,s')):s'.b.length<=s.b.length:=by
 unfold zeB at h
 split at h
 .rename_i s1 e
  exact yai (zfH _ _ _ _ _ h) (zrl e)
 .cases h;exact yah _
theorem zx9{s s':Ts}{l:Int}(h:zqR s=.ok (l,s')):s'.b.length<=s.b.length:=by
 unfold zqR at h
 split at h
 .rename_i s1 e
  obtain⟨r,h1,h2⟩:=bind_some h
  split at h2
  .cases h2
   exact yai (zfH _ _ _ _ _ h1) (zrl e)
  .cases h2
 .cases h;exact yah _
theorem zmg{mx s f s'}(h:zck mx s=.ok (f,s')):f.lists≠[]/\s'.b.length<=s.b.length:=by
 rw[zd2]at h
 obtain⟨p,h1,h2⟩:=bind_some h
 split at h2
 .unfold zuO at h2
  obtain⟨q,h3,h4⟩:=bind_some h2
  unfold zpZ at h4
  obtain⟨r,h5,h6⟩:=bind_some h4
  unfold endF at h6
  obtain⟨u,h7,h8⟩:=bind_some h6
  have hl:=(map_some h8)
  obtain⟨v,h9,h10⟩:=hl
  cases h10
  refine⟨zoC _ _ _ _ _ _ _ h9,?_⟩
  have l1:=(zhe h1).1
  have l2:=(zfG _ _ _ _ _ _ _ h9).1
  have l3:=zoD h3
  have l4:=zx9 h5
  have l5:=zoD h7
  simp only at l2 l3 l4 l5 l1 ⊢
  omega
 .cases h2
theorem Wr.famF{base x s Z Z'}(h:Wr base x s Z)(e1:Z'.objs=Z.objs)(e2:Z'.no=Z.no)(e3:Z.nf<=Z'.nf)(e4:∀f,f=0\/zco Z x f->Z'.F f=Z.F f):Wr base x s Z':=by
 obtain⟨lv,ho,hl⟩:=h.cells
 have hb:=h.hb
 refine⟨by rw[e2];exact h.hx,⟨hb.1,by omega⟩,(e4 0 (.inl rfl)).trans h.h0,h.ok,h.len,lv,by rw[e1];exact ho,?_⟩
 rcases hl with h1|⟨g,tos,rfl,h2,h3,h4,h5⟩
 .exact .inl h1
 .exact .inr ⟨g,tos,rfl,h2,by omega,(e4 g (.inr ⟨_,_,ho,rfl,rfl⟩)).trans h4,h5⟩
structure PsW(J:AS)(base x:Nat)(s:Ts)(fv:AV)(mem mn:Int)(Z:AS):Prop where
 rd:Wr base x s Z
 ad:ze J Z
 x0:J.no+2<=x
 b0:J.nf<=base
 mo:Z.objs J.no=some [fv,.int .i64 mem,.int .i64 mn]
 eo:Z.objs (J.no+1)=some [.int .i64 0]
theorem PsW.keepS{J base x s s' fv mem mn Z Z'}(h:PsW J base x s fv mem mn Z)(hW:Wr base x s' Z')(K:zah x Z Z'):PsW J base x s' fv mem mn Z':=by
 have x0:=h.x0
 have hx:=h.rd.hx
 exact⟨hW,K.adds0 h.ad (by omega),h.x0,h.b0,(K.obj _ (by omega) (by omega)).trans h.mo,(K.obj _ (by omega) (by omega)).trans h.eo⟩
theorem PsW.adds{J base x s fv mem mn Z Z'}(h:PsW J base x s fv mem mn Z)(A:ze Z Z'):PsW J base x s fv mem mn Z':=by
 obtain⟨cs,hcs⟩:=h.rd.isSome
 exact h.keepS (h.rd.adds A) (A.keepS h.rd.hx hcs)
theorem PsW.setM{J base x s fv mem mn fv' mem' mn' Z}(h:PsW J base x s fv mem mn Z):PsW J base x s fv' mem' mn' (Z.setO J.no [fv',.int .i64 mem',.int .i64 mn']):=by
 have x0:=h.x0
 exact⟨h.rd.setO (by omega),h.ad.setO (yah _),h.x0,h.b0,by simp,by simp[h.eo]⟩
section
variable {G : Env} {J : AS} {R : Out -> AS -> Prop}
theorem zCL{Z:AS}{e:Int}{a:Nat->AV}{mc:List AV}(a2:a 2=.ptr J.no 0)(a3:a 3=.ptr (J.no+1) 0)(A:ze J Z)(hmc:Z.objs J.no=some mc)(hml:mc.length=3)(he:Z.objs (J.no+1)=some [.int .i64 0])
  (hh:∀J',ze J J'->R (.ret (.tuple [zgD,.int .i64 e])) J'):zay yca G 9 zgt 3 2 [.ptr J.no 0,.ptr (J.no+1) 0] [.cell 2 28,.cell 3 33] R (some (zx1 e)) a Z:=by
 obtain⟨x1,x2,x3,rfl⟩:∃x y z,mc=[x,y,z]:=by
  match mc,hml with
  | [x,y,z],_=>exact⟨x,y,z,rfl⟩
 simp[zay,zx1,zgt,he,hmc,splice,a2,a3]
 exact hh _ ((A.setO (yah _)).setO (by omega))
theorem PsW.hand{base x s fv mem mn Z}(h:PsW J base x s fv mem mn Z){Z':AS}(K:zZ x Z Z'){e:Int}{a:Nat->AV}(a2:a 2=.ptr J.no 0)(a3:a 3=.ptr (J.no+1) 0)
  (hh:∀J',ze J J'->R (.ret (.tuple [zgD,.int .i64 e])) J'):zay yca G 9 zgt 3 2 [.ptr J.no 0,.ptr (J.no+1) 0] [.cell 2 28,.cell 3 33] R (some (zx1 e)) a Z':=by
 have x0:=h.x0
 have b0:=h.b0
 have hx:=h.rd.hx
 have An:=h.ad.no
 have Af:=h.ad.nf
 refine zCL a2 a3 ⟨yai An K.no,yai Af K.nf,λo ho=>?_,λf hf=>?_⟩ ((K.obj _ (by omega) (by omega)).trans h.mo) rfl ((K.obj _ (by omega) (by omega)).trans h.eo) hh
 .rw[K.obj o (by omega) (by omega),h.ad.obj o ho]
 .rw[K.fam f (by omega) (h.rd.uses (by omega)),h.ad.fam f hf]
theorem zrm:inS zdp=zng:=by
 funext c
 have h:∀i:Fin 256,inS zdp (UInt8.ofNat i.1)=zng (UInt8.ofNat i.1):=by decide
 have:=h ⟨c.toNat,c.toNat_lt⟩
 simpa using this
theorem zrn(V:zdw G){base x s fv mem fs Z}{a:Nat->AV}(h:PsW J base x s fv mem 0 Z)(hfs:Al.OutE Z J.nf fv fs)(a2:a 2=.ptr J.no 0)(a3:a 3=.ptr (J.no+1) 0)(a4:a 4=.ptr x 0)
  (hn:∀e,zsj fs mem s=.error e->∀J',ze J J'->R (.ret (.tuple [zgD,.int .i64 e])) J') (hs:∀m s',zsj fs mem s=.ok (m,s')->∀mv J',Al.ME J' J.nf mv m->ze J J'->R (.ret (.tuple [mv,.int .i64 0])) J') :
  avc yca G 45 zfp (aq (zay yca G 9 zgt 3 2 [.ptr J.no 0,.ptr (J.no+1) 0] [.cell 2 28,.cell 3 33] R)) a Z:=by
 have hfv:fv.known=true/\fv.one=true/\fv.cells=[fv]:=by
  rcases hfs with ⟨_,rfl⟩|⟨_,_,_,rfl,_⟩<;>simp
 simp[zfp,a4]
 refine zkN (ts:=[zB,zcE,ziU,zB,zbT]) h.rd (.inl ⟨true,rfl⟩) (by decide) (λe q=>?_) (λs1 q Z1 hW1 K1=>?_)
 .intro J' K
  simp
  exact h.hand K (by simp[zdn,a2]) (by simp[zdn,a3]) (hn e (by unfold zsj;rw[q];rfl))
 .have h1:=h.keepS hW1 K1
  simp[a4]
  refine zkO V hW1 (λe q2=>?_) (λn s2 q2 r1 r2 Z2 hW2 K2=>?_)
  .intro J' K
   simp
   exact h1.hand K (by simp[zdn,a2]) (by simp[zdn,a3]) (hn e (by unfold zsj;rw[q];simp only[Except.bind];rw[q2]))
  .have h2:=h1.keepS hW2 K2
   have mo2:=h2.mo
   simp[a2,a4,mo2,splice]
   have h3:=h2.setM (fv':=fv) (mem':=mem) (mn':=yb5 .i64 (n-3))
   have F3:(Z2.setO J.no [fv,.int .i64 mem,.int .i64 (yb5 .i64 (n-3))]).F=Z2.F:=rfl
   have N3:(Z2.setO J.no [fv,.int .i64 mem,.int .i64 (yb5 .i64 (n-3))]).nf=Z2.nf:=rfl
   generalize Z2.setO J.no [fv,.int .i64 mem,.int .i64 (yb5 .i64 (n-3))]=Z3 at *
   refine zkN (ts:=[zf,zf,zf]) h3.rd (.inl ⟨true,rfl⟩) (by decide) (λe q3=>?_) (λs4 q3 Z4 hW4 K4=>?_)
   .intro J' K
    simp
    exact h3.hand K (by simp[zdn,a2]) (by simp[zdn,a3]) (hn e (by unfold zsj;rw[q];simp only[Except.bind];rw[q2];simp only;rw[q3]))
   .have h4:=h3.keepS hW4 K4
    obtain⟨lv4,ho4,hlv4⟩:=hW4.cells
    have hmod:zsj fs mem s=if s4.b.all zng=true then .ok (({ funcs:=fs,memory:=mem,main:=yb5 .i64 (n-3) }:M),s4)else .error 2:=by
     unfold zsj;rw[q];simp only[Except.bind];rw[q2];simp only;rw[q3]
    have hl4:=hW4.len
    simp[a4,ho4]
    refine zgb (l:=zdp) (by decide) (by decide) (by decide) (by omega) λZ5 A5=>?_
    have h5:=h4.adds A5
    by_cases hall:s4.b.all zng=true
    .rw[if_pos hall]at hmod
     have e:zl8 zdp s4.b=[]:=(zcQ _ _).2 (by rw[zrm];exact hall)
     simp[e]
     refine z8 (λ_=>?_) (λq=>by cases q)
     have mo5:=h5.mo
     have eo5:=h5.eo
     simp[a2,a3,mo5,eo5,splice,zay,zgt,hfv]
     have n1:=K1.nf
     have n2:=K2.nf
     have n4:=K4.nf
     have n5:=A5.nf
     have hfs5:Al.OutE Z5 J.nf fv fs:=zgc hfs (by omega) λf hf=>by
      rw[A5.fam f (by omega),K4.fam f (by omega),F3,K2.fam f (by omega),K1.fam f hf]
     have A6:ze J ((Z5.setO J.no [fv,.int .i64 mem,.int .i64 (yb5 .i64 (n-3))]).setO (J.no+1) [.int .i64 0]):=(h5.ad.setO (yah _)).setO (by omega)
     exact hs _ _ hmod _ _ ⟨fv,rfl,zgc hfs5 (yah _) λf _=>rfl⟩ A6
    .rw[if_neg hall]at hmod
     have e:¬zl8 zdp s4.b=[]:=λq=>hall (by rw[<-zrm];exact(zcQ _ _).1 q)
     simp[e]
     refine z8 (λq=>by cases q) (λ_=>?_)
     simp
     exact h5.hand (.refl ..) (by simp[zdn,a2]) (by simp[zdn,a3]) (hn 2 hmod)
end
theorem zro{el:Option TypeId}{bsz base:Nat}{Z0 Z:AS}{v row:AV}{l:List F}{f:F}{gN:Nat}{K:AV->AS->Prop}(h:Al.OutE Z0 base v l)(hrow:Al.FVE row (f,gN))(hn:Z0.nf<=Z.nf)(hF:∀g,g<Z0.nf->Z.F g=Z0.F g)(hb:base<=Z0.nf)(g1:Z0.nf<=gN)(g2:gN<Z.nf)(g3:Z.F gN=.alive)
  (hl:(l.length+1)*bsz<=2^47) (hK:∀v' Z',Al.OutE Z' base v' (l++[f])->Z'.objs=Z.objs->Z'.no=Z.no->Z'.nf=Z.nf+1->(∀g,g<Z.nf->g<base\/Z0.nf<=g->Z'.F g=Z.F g)->K v' Z'):zb7 el bsz 5 v [row] Z K:=by
 have hrc:row.cells.length=5:=zq9 hrow
 rcases h with ⟨rfl,rfl⟩|⟨g,rows,ps,rfl,h1,h2,h3,h4,h5,h6⟩
 .have hne:¬gN=Z.nf:=by omega
  have:=hK (.sl (.fam Z.nf false) 5 [row]) Z.newF (.inr ⟨Z.nf,[row],[(f,gN)],rfl,by omega,by simp,by simp,rfl,.cons hrow .nil,⟨by simp,λx hx=>by
   simp only[yaL,ydg,yc4]at hx
   subst hx
   exact⟨by omega,by simp;omega,by simp[hne,g3],hne⟩⟩⟩) (by simp) (by simp) (by simp) (λg' a _=>by
    have:¬g'=Z.nf:=by omega
    simp[this])
  simp at hl
  simp
  first|exact this|exact⟨by omega,this⟩
 .have hgg:¬g=Z.nf:=by omega
  have hne:¬gN=Z.nf:=by omega
  have hng:¬gN=g:=by omega
  have ha:Z.F g=.alive:=(hF g h2).trans h3
  have hlen:rows.length=l.length:=by rw[h5.length,<-h4];simp
  have:=hK (.sl (.fam Z.nf false) 5 (rows++[row])) (Z.setF g .dead).newF (.inr ⟨Z.nf,rows++[row],ps++[(f,gN)],rfl,by omega,by simp,by simp,by simp[h4],h5.append (.cons hrow .nil),⟨by
   rw[yc6,List.nodup_append]
   refine⟨h6.nd,by simp,λa ha b hb=>?_⟩
   simp only[yaL,ydg,yc4]at hb
   have:=(h6.each a ha).2.1
   omega,λx hx=>by
   rw[yc6,ybh]at hx
   rcases hx with hx|hx
   .obtain⟨q1,q2,q3,q4⟩:=h6.each x hx
    have e1:¬x=Z.nf:=by omega
    exact⟨q1,by simp;omega,by simp[e1,q4,(hF x q2).trans q3],e1⟩
   .simp only[yaL,ydg,yc4]at hx
    subst hx
    exact⟨by omega,by simp;omega,by simp[hne,hng,g3],hne⟩⟩⟩) (by simp) (by simp) (by simp) (λg' a b=>by
    have e1:¬g'=Z.nf:=by omega
    have e2:¬g'=g:=by omega
    simp[e1,e2])
  simp[ha]
  exact⟨by rw[hlen];exact hl,this⟩
section
variable {G : Env} {J : AS} {R : Out -> AS -> Prop}
theorem znz{Z base v l}(h:Al.OutE Z base v l):v.known=true/\v.one=true/\v.cells=[v]:=by
 rcases h with ⟨_,rfl⟩|⟨_,_,_,rfl,_⟩<;>simp
def PlI(J:AS)(base x:Nat)(mem:Int)(k0:Nat)(s0:Ts)(a:Nat->AV)(Z:AS):Prop:=∃(k:Nat) (l:List F) (s:Ts) (fv:AV),zak 24 k0 [] s0=zak 24 k l s/\s.b.length<k/\l.length+s.b.length<=s0.b.length/\PsW J base x s fv mem 0 Z/\Al.OutE Z J.nf fv l/\a 2=.ptr J.no 0/\a 3=.ptr (J.no+1) 0/\a 4=.ptr x 0
theorem zya{w:List UInt8}{s s':Ts}(h:zf4 w s=some s'):s'.b.length+1<=s.b.length:=by
 unfold zf4 at h
 cases e:zdv s.b with
 | none=>rw[e]at h;cases h
 | some p =>
  obtain⟨p1,p2⟩:=p
  rw[e]at h
  simp only at h
  split at h
  .cases e2:zdv p2 with
   | none=>rw[e2]at h;cases h
   | some q =>
    obtain⟨q1,q2⟩:=q
    rw[e2]at h
    simp only at h
    split at h
    .cases h
     have l1:=zcs e
     have l2:=(zcs e2).1
     have:=ybn.2 l1.2
     simp only
     omega
    .cases h
  .cases h
theorem zpD(V:zdw G)(h00:0<J.nf){base x k0 s0 mem}(hs36:s0.b.length<2^36)(hn:∀e,((zak 24 k0 [] s0).bind λfs=>zsj fs.1 mem fs.2)=.error e->∀J',ze J J'->R (.ret (.tuple [zgD,.int .i64 e])) J')
  (hs:∀m s',((zak 24 k0 [] s0).bind λfs=>zsj fs.1 mem fs.2)=.ok (m,s')->∀mv J',Al.ME J' J.nf mv m->ze J J'->R (.ret (.tuple [mv,.int .i64 0])) J') {a:Nat->AV} {Z:AS} (hI:PlI J base x mem k0 s0 a Z) :
  avc yca G 45 zfo (zbi (λa' J'=>PlI J base x mem k0 s0 a' J'/\MBt x a' J'<MBt x a Z) (za6 0 (zbi (avc yca G 45 zfp (aq (zay yca G 9 zgt 3 2 [.ptr J.no 0,.ptr (J.no+1) 0] [.cell 2 28,.cell 3 33] R))) (aq (zay yca G 9 zgt 3 2 [.ptr J.no 0,.ptr (J.no+1) 0] [.cell 2 28,.cell 3 33] R))))) a Z:=by
 obtain⟨k,l,s,fv,he,hk,hlb,hP,hO,a2,a3,a4⟩:=hI
 obtain⟨k,rfl⟩:∃j,k=j+1:=⟨k-1,by omega⟩
 have hmb:=zeK hP.rd a
 rw[zak]at he
 simp[zfo,a4]
 refine zuI (w:=zbT) hP.rd (by decide) (λq Z1 hW1 K1=>?_) (λs1 q Z1 hW1 K1=>?_)
 .have hP1:=hP.keepS hW1 K1
  have hO1:=zgc hO K1.nf λf hf=>K1.fam f hf
  rw[q]at he
  simp only at he
  rw[he]at hn hs
  simp
  exact zrn V hP1 hO1 (by simp[a2]) (by simp[a3]) (by simp[a4]) hn hs
 .have hP1:=hP.keepS hW1 K1
  have hO1:=zgc hO K1.nf λf hf=>K1.fam f hf
  rw[q]at he
  simp only at he
  have mo1:=hP1.mo
  have hlt:=zya q
  have f1:=znz hO1
  simp[a2,a4,mo1,f1]
  refine zpC V hW1 (λe q2=>?_) ?_
  .intro J' K
   simp
   exact hP1.hand K (by simp[zdn,a2]) (by simp[zdn,a3]) (hn e (by rw[he,q2];rfl))
  .intro f s2 q2 pv lv tv Z2 hp hl hW2 hx2 KF hfam hls
   rw[q2]at he
   simp only[Except.bind]at he
   have x0:=hP.x0
   have hx1:=hW1.hx
   have mo2:=(KF.obj J.no (by omega) (by omega) (by omega)).trans mo1
   have eo2:=(KF.obj (J.no+1) (by omega) (by omega) (by omega)).trans hP1.eo
   have p1:=hp.one
   have l1:=hl.one
   obtain⟨lv2,ho2,htv⟩:=hW2.cells
   rw[hx2]at ho2
   cases ho2
   have t1:=htv.one
   have hne:=zmg q2
   have An:=hP1.ad.nf
   have Ad2:ze J Z2:=KF.adds0 hP1.ad (by omega) (by omega)
   rw[hls]at htv
   rcases htv with ⟨h0,_⟩|⟨gN,tos,rfl,t2,t3,t4,t5⟩
   .exact absurd h0 hne.1
   .have hgN:Z1.nf<=gN:=hfam gN rfl
    have hrow:Al.FVE (.agg [.str f.name,pv,lv,.int .i64 f.type,.sl (.fam gN false) 1 tos]) (f,gN):=⟨pv,lv,_,rfl,hp,hl,.inr ⟨tos,rfl,t5⟩⟩
    simp[mo2,f1,p1,l1,a2]
    have hlen2:l.length<=2^36:=by omega
    refine zro hO1 hrow KF.nf KF.fam An hgN t3 t4 (by omega) λv' Z' O' e1 e2 e3 e4=>?_
    have g1:=znz O'
    have mo3:Z'.objs J.no=some [fv,.int .i64 mem,.int .i64 0]:=by rw[e1];exact mo2
    have eo3:Z'.objs (J.no+1)=some [.int .i64 0]:=by rw[e1];exact eo2
    have kn:=KF.nf
    have hW3:Wr base x s2 Z':=hW2.famF e1 e2 (by omega) λf' hf'=>by
     rcases hf' with rfl|⟨cs,w,u1,u2,u3⟩
     .exact e4 0 (by omega) (.inl h00)
     .rw[hx2]at u1
      cases u1
      simp at u2
      subst u2
      cases u3
      exact e4 gN t3 (.inr hgN)
    have An2:=Ad2.no
    have Af2:=Ad2.nf
    have Ad3:ze J Z':=⟨by omega,by omega,λo ho=>by rw[e1];exact Ad2.obj o ho,λf' hf'=>(e4 f' (by omega) (.inl hf')).trans (Ad2.fam f' hf')⟩
    have hP3:PsW J base x s2 fv mem 0 Z':=⟨hW3,Ad3,x0,hP.b0,mo3,eo3⟩
    have hP4:=hP3.setM (fv':=v') (mem':=mem) (mn':=0)
    have O4:Al.OutE (Z'.setO J.no [v',.int .i64 mem,.int .i64 0]) J.nf v' (l++[f]):=zgc O' (yah _) λ_ _=>rfl
    simp[mo3,splice,g1,a2]
    refine⟨⟨k,l++[f],s2,v',he,by omega,by simp;omega,hP4,O4,by simp[a2],by simp[a3],by simp[a4]⟩,?_⟩
    rw[zeK hP4.rd,hmb]
    omega
theorem zkQ(V:zdw G)(h00:0<J.nf/\J.F 0=.alive){b:List UInt8}(hok:zih b)(hl:b.length<2^36)
  (hn:∀e,zgu 24 b=.error e->∀J',ze J J'->R (.ret (.tuple [zgD,.int .i64 e])) J')
  (hs:∀m,zgu 24 b=.ok m->∀mv J',Al.ME J' J.nf mv m->ze J J'->R (.ret (.tuple [mv,.int .i64 0])) J'):zzQ G 19 [.str b] J R:=by
 refine zeI (px:=zvT) (pz:=zvU) (k:=55) (py:=zgt) (n:=45) (nk:=9) (t:=5) (d0:=3) (d1:=2) (res:=[.cell 2 28,.cell 3 33]) zqE Tryz.func19 rfl rfl rfl rfl (by kernel_rfl) (by kernel_rfl) (by simp) rfl rfl rfl rfl rfl rfl (by decide) Tryz.func55 rfl (by kernel_rfl) rfl rfl rfl rfl rfl rfl rfl rfl rfl (by kernel_rfl) (by decide) (by decide) (by decide) ?_
 have hpe:zgu 24 b=(zf5 24 ⟨b,[]⟩).map (·.1):=rfl
 have hn':∀e,zf5 24 ⟨b,[]⟩=.error e->∀J',ze J J'->R (.ret (.tuple [zgD,.int .i64 e])) J':=λe q=>hn e (by rw[hpe,q];rfl)
 have hs':∀m s',zf5 24 ⟨b,[]⟩=.ok (m,s')->∀mv J',Al.ME J' J.nf mv m->ze J J'->R (.ret (.tuple [mv,.int .i64 0])) J':=λm s' q=>hs m (by rw[hpe,q];rfl)
 clear hn hs hpe
 simp[zvT]
 have ecap:List.map (ev G (upd (upd (zbz [.str b]) 2 (ycV J.no 0)) 3 (ycV (J.no+1) 0))) #[Operand.tmp 2,Operand.tmp 3].toList=[.ptr J.no 0,.ptr (J.no+1) 0]:=rfl
 rw[ecap]
 generalize hfr:upd (upd (upd (zbz [.str b]) 2 (ycV J.no 0)) 3 (ycV (J.no+1) 0)) 5 (AV.fn (Fn.func 55) [] [ycV J.no 0,ycV (J.no+1) 0])=fr
 have fr0:fr 0=.str b:=by rw[<-hfr];simp
 have fr2:fr 2=.ptr J.no 0:=by rw[<-hfr];simp
 have fr3:fr 3=.ptr (J.no+1) 0:=by rw[<-hfr];simp
 rw[zjD]at hs'
 simp only[zjD]at hn'
 simp[zvU,fr0,splice]
 have hP:PsW J J.nf (J.no+1+1) ⟨b,[]⟩ .nilsl 0 0 (((J.newO [ycY,ycS yam 0,ycS yam 0]).newO [ycS yam 0]).newO [ycR b,ycY]) :=
  ⟨⟨by simp,⟨by simpa using h00.1,by simp⟩,by simpa using h00.2,hok,hl,.nilsl,by simp,.inl ⟨rfl,rfl⟩⟩,(ze.refl J).newO.newO.newO,by omega,yah _,by
   have:¬J.no=J.no+1+1:=by omega
   simp[this],by simp⟩
 have hno:(((J.newO [ycY,ycS yam 0,ycS yam 0]).newO [ycS yam 0]).newO [ycR b,ycY]).no=J.no+1+1+1:=by simp
 have hnf:(((J.newO [ycY,ycS yam 0,ycS yam 0]).newO [ycS yam 0]).newO [ycR b,ycY]).nf=J.nf:=by simp
 generalize ((J.newO [ycY,ycS yam 0,ycS yam 0]).newO [ycS yam 0]).newO [ycR b,ycY]=Z0 at *
 refine Hd.fields_calls V.space λy J' A y1 y2 y3=>?_
 have hP1:=hP.adds A
 simp
 refine zkN (ts:=zbv) hP1.rd (.inr ⟨y,rfl,y2,by omega,y3⟩) (by decide) (λe q=>?_) (λs1 q Z1 hW1 K1=>?_)
 .intro J'' K
  simp
  exact hP1.hand K (by simp[zdn,fr2]) (by simp[zdn,fr3]) (hn' e (by rw[q];rfl))
 .have hP2:=hP1.keepS hW1 K1
  rw[q]at hs'
  simp only[q,Except.bind]at hn' hs'
  simp
  refine zkO V hW1 (λe q2=>?_) (λmem s2 q2 r1 r2 Z2 hW2 K2=>?_)
  .intro J'' K
   simp
   exact hP2.hand K (by simp[zdn,fr2]) (by simp[zdn,fr3]) (hn' e (by rw[q2]))
  .have hP3:=hP2.keepS hW2 K2
   rw[q2]at hs'
   simp only[q2]at hn' hs'
   have mo3:=hP3.mo
   simp[fr2,mo3,splice]
   have hP4:=hP3.setM (fv':=.nilsl) (mem':=mem) (mn':=0)
   generalize Z2.setO J.no [.nilsl,.int .i64 mem,.int .i64 0]=Z3 at *
   refine zkN (ts:=[zf,zf]) hP4.rd (.inl ⟨true,rfl⟩) (by decide) (λe q3=>?_) (λs4 q3 Z4 hW4 K4=>?_)
   .intro J'' K
    simp
    exact hP4.hand K (by simp[zdn,fr2]) (by simp[zdn,fr3]) (hn' e (by rw[q3]))
   .have hP5:=hP4.keepS hW4 K4
    rw[q3]at hs'
    simp only[q3]at hn' hs'
    simp
    refine zS (PlI J J.nf (J.no+1+1) mem (s4.b.length+1) s4) (MBt (J.no+1+1)) ⟨s4.b.length+1,[],s4,.nilsl,rfl,by omega,by simp,hP5,.inl ⟨rfl,rfl⟩,by simp[fr2],by simp[fr3],by simp⟩ λa Z hI=>?_
    exact zpD V h00.1 hW4.len hn' hs' hI
end
end Go.Proofs.YtohfclafhegadaaGreatDoor
namespace Go.Proofs.YtohfclafhegadaaGreatDoor
open Go Go.Abs Go.Shelf Go.RowKit
theorem zCM:liesAt yca yca.depth 88 (2/yca.cellsOf 88) 0 86 1=true:=by kernel_rfl
theorem u84:yca.underlying 84=some (.pointer 86):=by kernel_rfl
theorem zGk:yca.underlying 244=some .unsafePointer:=by kernel_rfl
theorem zwd:(yca.info? 86).map (·.size)=some 2:=by kernel_rfl
set_option maxHeartbeats 1000000 in
theorem zyb(b:Nat)(w:World)(h0:w.cell? ⟨b,0,none⟩=some (.pointer (some ⟨b,0,none⟩))):
  Calls yca 175 #[.pointer (some ⟨b,0,none⟩)] w λe w'=>e=.returned (.tuple #[])/\w'=w:=by
 obtain⟨j,hj,_⟩:=ybC.1 zwd
 go_enter ydD,ydE
 go_wp2
 rw[Lib.run_neq_ptr_same w _ u84 hj]
 go_wp2
 go_end0
 exact⟨rfl,rfl⟩
set_option maxHeartbeats 1000000 in
theorem zuQ(b:Nat)(w:World)(h0:w.cell? ⟨b,0,none⟩=some (.pointer none))(hsh:w.shape? b=some (88,2))(hfz:w.frozen? ⟨b,0,none⟩=false):
  Calls yca 175 #[.pointer (some ⟨b,0,none⟩)] w λe w'=>e=.returned (.tuple #[])/\w'=w.setCell ⟨b,0,none⟩ (.pointer (some ⟨b,0,none⟩)):=by
 obtain⟨j,hj,hjs⟩:=ybC.1 zwd
 go_enter ydD,ydE
 go_wp2
 rw[Lib.run_to_unsafe w ⟨b,0,none⟩ u84 zGk hj (by rw[hjs];decide) hsh (Nat.zero_lt_succ 1)]
 simp only[Result.andThen]
 rw[Oper.upon_value]
 go_wp2
 rw[run_callFunc_extern Tryz.func211 (by kernel_rfl) (by kernel_rfl) (by kernel_rfl) (e:=Extern.AbiNoEscape.same) (by kernel_rfl)]
 rw[Lib.run_noEscape]
 simp only[Result.andThen]
 rw[Oper.upon_value]
 go_wp2
 rw[Lib.run_from_unsafe w ⟨b,0,none⟩ zGk u84 hj hsh zCM]
 simp only[Result.andThen]
 rw[Oper.upon_value]
 go_wp2
 go_end0
 exact⟨rfl,rfl⟩
section
variable {G : Env} {J : AS} {R : Out -> AS -> Prop}
def zCN(o:Nat)(v:AV):Prop:=v=.nilp\/v=.pt 88 2 o 0
theorem zio{o:Nat}{v u:AV}(ho:J.objs o=some [v,u])(hv:zCN o v)(h:∀J',J'=J.setO o [.pt 88 2 o 0,u]->R (.ret (.tuple [])) J'):zzQ G 175 [.pt 88 2 o 0] J R:=by
 intro M w cargs S g hc
 obtain⟨c,rfl,hcv⟩:=zxX hc
 obtain⟨q1,q2,⟨cc,z,q3,q4⟩,rfl⟩:=znV hcv
 obtain⟨r1,r2,r3⟩:=S.obj o _ ho
 obtain⟨c0,s1,s2,s3⟩:=r3 0 (by simp)
 rw[q2]at s1 s2
 simp only[Nat.zero_add,yaK]at s1 s2
 have hpt:VR M J.F w (.pt 88 2 o 0) (.pointer (some ⟨(M.obj o).1,0,none⟩)):=hcv
 rcases hv with rfl|rfl
 .have hc0:c0=.pointer none:=by
   simp only[yaz]at s3
   cases s3
   rfl
  subst hc0
  have hsh:w.shape? (M.obj o).1=some (88,2):=by simp[World.shape?,q3,q4]
  refine(zuQ _ w s1 hsh s2).mono λe w' ⟨he,hw⟩=>?_
  subst he
  obtain⟨w2,hrun,S',E'⟩:=zlo (P:=yca) S ho (off:=0) (vs:=[.pt 88 2 o 0]) (l:=[.pointer (some ⟨(M.obj o).1,0,none⟩)]) (by simp) rfl (by simp[Value.oneCell']) (λj h1 h2=>by
   have:j=0:=by simp at h1;omega
   subst this
   exact hpt)
  have hw2:w2=w':=by
   have hrun2:=run_storeCells_cells (P:=yca) (M.obj o).1 ((M.obj o).2+0) [.pointer (some ⟨(M.obj o).1,0,none⟩)] 0 w (λj hj=>by
    have:j=0:=by simp at hj;omega
    subst this
    rw[q2]
    simp only[Nat.zero_add,yaK]
    rw[s1];rfl) (λj hj=>by
    have:j=0:=by simp at hj;omega
    subst this
    rw[q2]
    simpa using s2) (by simp[Value.oneCell'])
   rw[hrun2]at hrun
   cases hrun
   rw[hw,q2]
   rfl
  subst hw2
  refine⟨.ret (.tuple []),_,M,h _ ?_,.tuple _ _ rfl (λj h=>absurd h (yaA _)),S',E'⟩
  simp[splice]
 .have hc0:c0=.pointer (some ⟨(M.obj o).1,0,none⟩):=by
   simp only[yaz]at s3
   exact(znV s3).2.2.2
  subst hc0
  refine(zyb _ w s1).mono λe w' ⟨he,hw⟩=>?_
  subst he hw
  have e1:J.setO o [.pt 88 2 o 0,u]=J:=by
   unfold AS.setO
   have:upd J.objs o (some [.pt 88 2 o 0,u])=J.objs:=by
    funext x
    by_cases hx:x=o
    .subst hx;simp[ho]
    .simp[hx]
   rw[this]
  refine⟨.ret (.tuple []),J,M,h _ e1.symm,.tuple _ _ rfl (λj h=>absurd h (yaA _)),S,.refl ..⟩
end
theorem zCO{P:Program}{G:Env}{f:FuncId}{args:List AV}{J:AS}{R:Out->AS->Prop}{o i:Nat}{cs:List AV}{e:Nat}(ho:J.objs o=some cs)(hi:cs[i]?=some .nilsl)(h:ACalls P G f args (J.setO o (splice cs i [.tys e .nilsl])) R):ACalls P G f args J R:=by
 intro M w cargs S g c
 have hil:i<cs.length:=(yaq.1 hi).1
 have hb:i+[AV.tys e .nilsl].length<=cs.length:=by simp only[yac,ybm];omega
 have S':Sim M (J.setO o (splice cs i [.tys e .nilsl])) w:=by
  refine⟨S.no,S.nf,S.role,λx cs' hx=>?_,λx y hx hy hxy=>?_⟩
  .by_cases hxo:x=o
   .subst hxo
    simp only[AS.setO,zc]at hx
    cases hx
    obtain⟨a1,a2,a3⟩:=S.obj x cs ho
    refine⟨a1,a2,λj hj=>?_⟩
    have hj':j<cs.length:=by rwa [zb6 hb]at hj
    obtain⟨u,h1,h2,h3⟩:=a3 j hj'
    refine⟨u,h1,h2,?_⟩
    have e1:=zce (cs:=cs) (vs:=[AV.tys e .nilsl]) (off:=i) (j:=j) hb
    rw[yau hj]at e1
    by_cases hji:j=i
    .subst hji
     rw[if_pos (by simp)]at e1
     simp only[Nat.sub_self,ydF,yaR.injEq]at e1
     rw[e1]
     have e2:cs[j]=.nilsl:=by
      rw[yau hj']at hi
      exact yaR.inj hi
     rw[e2]at h3
     have e3:=zaH h3
     subst e3
     exact .tys e .nilsl _ h3 trivial
    .rw[if_neg (by simp only[yac,ybm];omega),yau hj']at e1
     rw[yaR.inj e1]
     exact h3
   .simp only[AS.setO]at hx
    rw[zd _ _ hxo]at hx
    exact S.obj x cs' hx
  .have key:∀z,((J.setO o (splice cs i [.tys e .nilsl])).objs z).isSome=true->(J.objs z).isSome=true:=by
    intro z hz
    by_cases hzo:z=o
    .subst hzo;rw[ho];rfl
    .simp only[AS.setO]at hz;rwa [zd _ _ hzo]at hz
   exact S.inj x y (key x hx) (key y hy) hxy
 exact h M w cargs S' g c
theorem zGr:yca.underlying 160=some (.pointer 5):=by kernel_rfl
theorem zCP:yca.cellsOf 5=1:=by kernel_rfl
def zwe(J0 J:AS)(v:AV)(bs:List UInt8):Prop:=(bs=[]/\v=.tys 5 .nilsl)\/∃g,v=.tys 5 (.sl (.fam g false) 1 (B bs))/\J0.nf<=g/\g<J.nf/\J.F g=.alive/\bs≠[]
theorem zwe.one{J0 J v bs}(h:zwe J0 J v bs):v.known=true/\v.one=true/\v.cells=[v]:=by
 rcases h with ⟨_,rfl⟩|⟨g,rfl,_⟩<;>simp
structure Pw(J0:AS)(x:Nat)(bs:List UInt8)(Z:AS):Prop where
 x0:J0.no<=x
 hx:x<Z.no
 ad:ze J0 Z
 cells:∃hd v,Z.objs x=some [hd,v]/\zCN x hd/\zwe J0 Z v bs
structure PwK(x:Nat)(Z Z':AS):Prop where
 no:Z.no<=Z'.no
 obj:∀o,o<Z.no->o≠x->Z'.objs o=Z.objs o
theorem PwK.refl(x Z):PwK x Z Z:=⟨yah _,λ_ _ _=>rfl⟩
theorem PwK.trans{x a b c}(h:PwK x a b)(k:PwK x b c):PwK x a c:=⟨yai h.no k.no,λo h1 h2=>(k.obj o (yag h1 h.no) h2).trans (h.obj o h1 h2)⟩
theorem ze.pwk{x a b}(A:ze a b):PwK x a b:=⟨A.no,λo h _=>A.obj o h⟩
theorem PwK.set{x a b cs}(h:PwK x a b):PwK x a (b.setO x cs):=⟨h.no,λo h1 h2=>by
 simp[h2]
 exact h.obj o h1 h2⟩
theorem Pw.adds{J0 x bs Z Z'}(h:Pw J0 x bs Z)(A:ze Z Z'):Pw J0 x bs Z':=by
 obtain⟨hd,v,h1,h2,h3⟩:=h.cells
 refine⟨h.x0,yag h.hx A.no,h.ad.trans A,hd,v,(A.obj x h.hx).trans h1,h2,?_⟩
 rcases h3 with h3|⟨g,q1,q2,q3,q4,q5⟩
 .exact .inl h3
 .exact .inr ⟨g,q1,q2,yag q3 A.nf,(A.fam g q3).trans q4,q5⟩
section
variable {G : Env} {J : AS} {R : Out -> AS -> Prop}
theorem zFx{J0 x bs}(h:Pw J0 x bs J)(hl:bs.length<2^60)(hR:R (.ret (.int .i64 (bs.length:Int))) J):zzQ G 127 [.pt 88 2 x 0] J R:=by
 obtain⟨hd,v,h1,h2,h3⟩:=h.cells
 refine ztg rfl ?_
 rcases h3 with ⟨rfl,rfl⟩|⟨g,rfl,q2,q3,q4,q5⟩
 .simp[zxx,h1]
  exact hR
 .simp[zxx,h1]
  simpa [B]using hR
theorem zGs:elT yca 32=some 5:=by kernel_rfl
theorem zwf{J0 Z:AS}{v:AV}{bs w:List UInt8}{K:AV->AS->Prop}(hb:zwe J0 Z v bs)(A:ze J0 Z)(hl:bs.length+w.length<2^46)
  (h:∀v' Z',zwe J0 Z' v' (bs++w)->Z'.objs=Z.objs->Z'.no=Z.no->ze J0 Z'->K v' Z'):zb7 (elT yca 32) 1 1 v (B w) Z K:=by
 have An:=A.nf
 have Bl:(B w).length=w.length:=by simp[B]
 have Bb:(B bs).length=bs.length:=by simp[B]
 have Ba:B (bs++w)=B bs++B w:=by simp[B]
 rw[zGs]
 rcases hb with ⟨rfl,rfl⟩|⟨g,rfl,q2,q3,q4,q5⟩
 .rw[zkd]
  refine⟨rfl,by rw[Bl];simp at hl;omega,λe=>?_,λe=>?_⟩
  .have hw:w=[]:=by
    cases w with
    | nil=>rfl
    | cons c r=>simp[B]at e
   subst hw
   exact h _ _ (.inl ⟨rfl,rfl⟩) rfl rfl A
  .have hw:w≠[]:=λq=>e (by rw[q];rfl)
   exact h _ _ (.inr ⟨Z.nf,rfl,An,by simp,by simp,by simpa using hw⟩) (by simp) (by simp) A.newF
 .rw[zke]
  refine⟨rfl,rfl,by rw[Bl,Bb];omega,q4,?_⟩
  refine h _ _ (.inr ⟨Z.nf,by rw[Ba],An,by simp,by simp,by simp[q5]⟩) (by simp) (by simp) ?_
  exact⟨A.no,by simp;omega,λo ho=>A.obj o ho,λf hf=>by
   have h1:¬f=Z.nf:=by omega
   have h2:¬f=g:=by omega
   simp[h1,h2]
   exact A.fam f hf⟩
theorem Pw.head{J0 x bs Z hd v}(h:Pw J0 x bs Z)(h1:Z.objs x=some [hd,v])(h3:zwe J0 Z v bs):Pw J0 x bs (Z.setO x [.pt 88 2 x 0,v]) :=
 ⟨h.x0,h.hx,h.ad.setO h.x0,_,v,by simp,.inr rfl,h3⟩
theorem zfI{J0 x bs w}(h:Pw J0 x bs J)(hl:bs.length+w.length<2^46)(hR:∀J' v,Pw J0 x (bs++w) J'->PwK x J J'->R (.ret v) J'):zzQ G 129 [.pt 88 2 x 0,.str w] J R:=by
 obtain⟨hd,v,h1,h2,h3⟩:=h.cells
 have v1:=h3.one
 refine zti rfl ?_
 simp[zBQ]
 refine zio h1 h2 λJ1 e1=>?_
 have hx1:J1.objs x=some [.pt 88 2 x 0,v]:=by rw[e1];simp
 have hP1:Pw J0 x bs J1:=by rw[e1];exact h.head h1 h3
 have K1:PwK x J J1:=by rw[e1];exact(PwK.refl x J).set
 have h31:zwe J0 J1 v bs:=by rw[e1];exact h3
 simp[hx1,v1]
 refine zwf h31 hP1.ad hl λv' Z' b' o' n' A'=>?_
 have v1':=b'.one
 have hx2:Z'.objs x=some [.pt 88 2 x 0,v]:=by rw[o'];exact hx1
 have hlt:=hP1.hx
 simp[hx2,v1',splice]
 refine hR _ _ ⟨hP1.x0,by simp;omega,A'.setO hP1.x0,_,v',by simp,.inr rfl,?_⟩ (K1.trans (PwK.set ⟨by omega,λo q1 q2=>by rw[o']⟩))
 exact b'
theorem znA{J0 x bs}{c:UInt8}(h:Pw J0 x bs J)(hl:bs.length+1<2^46)(hR:∀J' v,Pw J0 x (bs++[c]) J'->PwK x J J'->R (.ret v) J'):zzQ G 128 [.pt 88 2 x 0,.int .u8 (c.toNat:Int)] J R:=by
 obtain⟨hd,v,h1,h2,h3⟩:=h.cells
 have v1:=h3.one
 refine zth rfl ?_
 simp[zBP]
 refine zio h1 h2 λJ1 e1=>?_
 have hx1:J1.objs x=some [.pt 88 2 x 0,v]:=by rw[e1];simp
 have hP1:Pw J0 x bs J1:=by rw[e1];exact h.head h1 h3
 have K1:PwK x J J1:=by rw[e1];exact(PwK.refl x J).set
 have h31:zwe J0 J1 v bs:=by rw[e1];exact h3
 simp[hx1,v1]
 refine zwf (w:=[c]) h31 hP1.ad hl λv' Z' b' o' n' A'=>?_
 have v1':=b'.one
 have hx2:Z'.objs x=some [.pt 88 2 x 0,v]:=by rw[o'];exact hx1
 have hlt:=hP1.hx
 simp[hx2,v1',splice]
 refine hR _ _ ⟨hP1.x0,by simp;omega,A'.setO hP1.x0,_,v',by simp,.inr rfl,?_⟩ (K1.trans (PwK.set ⟨by omega,λo q1 q2=>by rw[o']⟩))
 exact b'
theorem zuR{J0 x bs}(h:Pw J0 x bs J)(hne:bs≠[])(hl:bs.length<2^46)(hR:∀J',ze J0 J'->PwK x J J'->R (.ret (.str bs)) J'):zzQ G 67 [.pt 88 2 x 0] J R:=by
 obtain⟨hd,v,h1,h2,h3⟩:=h.cells
 refine zxs rfl ?_
 rcases h3 with ⟨rfl,rfl⟩|⟨g,rfl,q2,q3,q4,q5⟩
 .exact absurd rfl hne
 .simp[zF8,h1]
  refine⟨zGr,zCP,q4,bs,rfl,rfl,hne,by omega,?_⟩
  simp
  have A:=h.ad
  refine hR _ ⟨A.no,A.nf,A.obj,λf hf=>?_⟩ ⟨yah _,λ_ _ _=>rfl⟩
  have:¬f=g:=by omega
  simp[this]
  exact A.fam f hf
end
def zoE(bs w:List UInt8):List UInt8:=if bs=[]then w else bs++32::w
def zfJ(bs:List UInt8)(ws:List (List UInt8)):List UInt8:=ws.foldl zoE bs
def spT(ts:List (List UInt8)):List UInt8:=ts.flatMap λt=>32::t
theorem zg(a b:List (List UInt8)):spT (a++b)=spT a++spT b:=by simp[spT]
theorem zoF:∀ts,zt ts=spT ts++[10]
 | []=>rfl
 | t::r=>by
  have:=zoF r
  simp only[zt,this,spT,yaa,ycT,ydf]
theorem zrp{bs w:List UInt8}(h:bs≠[]):zoE bs w=bs++32::w:=by unfold zoE;rw[if_neg h]
theorem znB:∀(ws:List (List UInt8)) {bs:List UInt8},bs≠[]->zfJ bs ws=bs++spT ws
 | [],bs,_=>by simp[zfJ,spT]
 | w::r,bs,h=>by
  have e:zfJ bs (w::r)=zfJ (zoE bs w) r:=rfl
  rw[e,zrp h,znB r (by simp)]
  simp[spT]
theorem zrq(bs w:List UInt8):bs.length<=(zoE bs w).length/\w.length<=(zoE bs w).length:=by
 unfold zoE
 split
 .rename_i h;subst h;simp
 .simp only[yab,yac];omega
theorem zrr:∀(ws:List (List UInt8)) (bs:List UInt8),bs.length<=(zfJ bs ws).length
 | [],bs=>yah _
 | w::r,bs=>yai (zrq bs w).1 (zrr r (zoE bs w))
theorem zoG(bs:List UInt8)(d r:List (List UInt8)):zfJ bs (d++r)=zfJ (zfJ bs d) r:=by simp[zfJ]
section
variable {G : Env} {J : AS} {R : Out -> AS -> Prop}
def SyI(J0:AS)(x:Nat)(bs:List UInt8)(ws:List (List UInt8))(J:AS)(a:Nat->AV)(Z:AS):Prop:=∃(d r:List (List UInt8)),ws=d++r/\a 0=.pt 88 2 x 0/\a 6=.sl (.stat true) 1 (ws.map ycR)/\a 7=.int .i64 (ws.length:Int)/\a 8=.int .i64 (d.length:Int)/\Pw J0 x (zfJ bs d) Z/\PwK x J Z
theorem zwg{J0 x bs ws}(h:Pw J0 x bs J)(hw:ws.length<1000)(hl:(zfJ bs ws).length<2^45)(hR:∀J' v,Pw J0 x (zfJ bs ws) J'->PwK x J J'->R (.ret v) J'):zzQ G 63 [.pt 88 2 x 0,.sl (.stat true) 1 (ws.map ycR)] J R:=by
 refine zxp rfl ?_
 simp[zF6]
 refine zS (SyI J0 x bs ws J) (MU 8 (ws.length+1)) ⟨[],ws,rfl,by simp,by simp,by simp,by simp,h,.refl ..⟩ λa Z hI=>?_
 obtain⟨d,r,hdr,a0,a6,a7,a8,hP,hK⟩:=hI
 cases r with
 | nil =>
  have e:ws=d:=by simpa using hdr
  have e2:ws.length=d.length:=by rw[e]
  rw[e2]at a7
  simp[zm4,a0,a6,a7,a8]
  exact hR _ _ (by rw[e];exact hP) hK
 | cons t r =>
  have hlt:(d.length:Int)<(ws.length:Int):=by simp[hdr];omega
  have hi:ws[d.length]?=some t:=by simp[hdr]
  have w1:yb5 .i64 ((d.length:Int)+1)=((d.length+1:Nat):Int):=by rw[wrap_i64]<;>omega
  have e3:zfJ bs ws=zfJ (zoE (zfJ bs d) t) r:=by rw[hdr,zoG];rfl
  have l1:(zoE (zfJ bs d) t).length<=(zfJ bs ws).length:=by rw[e3];exact zrr _ _
  have l2:=zrq (zfJ bs d) t
  have e4:zfJ bs (d++[t])=zoE (zfJ bs d) t:=by rw[zoG];rfl
  simp[zm4,a0,a6,a7,a8,hlt,hi]
  refine zFx hP (by omega) ?_
  by_cases hb:zfJ bs d=[]
  .have e5:zoE (zfJ bs d) t=t:=by unfold zoE;rw[if_pos hb]
   rw[hb]at hP
   simp[hb,a0]
   refine zfI (w:=t) hP (by simp;omega) λZ' v' P' K'=>?_
   simp[a0,a6,a7,a8,w1]
   refine⟨⟨d++[t],r,by simp[hdr],by simp[a0],by simp[a6],by simp[a7],by simp,?_,hK.trans K'⟩,?_⟩
   .rw[e4,e5];simpa using P'
   .simp[MU,a8];omega
  .have hpos:(0:Int)<((zfJ bs d).length:Int):=by have:=ybn.2 hb;omega
   have hposN:0<(zfJ bs d).length:=by omega
   have e5:zoE (zfJ bs d) t=zfJ bs d++32::t:=zrp hb
   rw[e5]at l1
   simp only[yab,yac]at l1
   simp[hpos,hposN,hb,a0]
   refine znA (c:=32) hP (by omega) λZ1 v1 P1 K1=>?_
   simp[a0]
   refine zfI (w:=t) P1 (by simp;omega) λZ' v' P' K'=>?_
   simp[a0,a6,a7,a8,w1]
   refine⟨⟨d++[t],r,by simp[hdr],by simp[a0],by simp[a6],by simp[a7],by simp,?_,(hK.trans K1).trans K'⟩,?_⟩
   .rw[e4,e5];simpa using P'
   .simp[MU,a8];omega
theorem zkR{op:Int}(h:op=11\/op=12\/op=13)(hR:R (.ret (.str (zbw op))) J):zzQ G 132 [.int .i64 op] J R:=by
 refine ztl rfl ?_
 rcases h with rfl|rfl|rfl
 .simp[ztk]
  exact hR
 .simp[ztk]
  exact hR
 .simp[ztk]
  exact hR
theorem zrs{n:Int}{a b:List UInt8}(h:n=1\/n=4\/n=8)(hR:R (.ret (.str (if n=1 then a else b))) J):zzQ G 177 [.int .i64 n,.str a,.str b] J R:=by
 refine ztF rfl ?_
 rcases h with rfl|rfl|rfl
 .simp[ztE]
  simpa using hR
 .simp[ztE]
  simpa using hR
 .simp[ztE]
  simpa using hR
theorem ziq(t:Int):(zC t).length=3:=by unfold zC;split<;>rfl
theorem zmh{t:Int}(h:zT t=true):t=1\/t=2:=by simpa [zT]using h
theorem zuS{t n:Int}(h:zfx t n=true):(t=1\/t=2)/\(n=1\/n=4\/n=8):=by
 unfold zfx at h
 simp at h
 omega
theorem znC{w:W}(h:zQ w=true):1<=w.op/\w.op<=18/\(w.op=1\/w.op=4\/w.op=5\/w.op=8\/w.op=9->w.ty=1\/w.ty=2)/\(w.op=8\/w.op=9->w.n=1\/w.n=4\/w.n=8)/\(w.op=4->zbn signs w.name≠[]):=by
 unfold zQ at h
 split at h
 .rename_i h1
  have:=zmh h
  refine⟨by omega,by omega,λ_=>this,λ_=>by omega,λ_=>by omega⟩
 .split at h
  .rename_i h1 h2
   simp only[Bool.and_eq_true]at h
   have:=zmh h.1
   refine⟨by omega,by omega,λ_=>this,λ_=>by omega,λ_=>?_⟩
   simpa using h.2
  .split at h
   .rename_i h1 h2 h3
    have:=zuS h
    exact⟨by omega,by omega,λ_=>this.1,λ_=>this.2,λ_=>by omega⟩
   .simp at h
    refine⟨by omega,by omega,λ_=>by omega,λ_=>by omega,λ_=>by omega⟩
theorem zrt{w:W}(hf:zQ w=true)(hn:zbP w=false)(h:∀J',ze J J'->R (.ret (.str (zE w))) J'):zzQ G 133 [w.av] J R:=by
 refine ztm rfl ?_
 obtain⟨f1,f2,f3,f4,f5⟩:=znC hf
 have A1:ze J (J.newO w.cs):=(ze.refl J).newO
 have hn':w.op≠11/\w.op≠12/\w.op≠13:=by simpa [zbP,and_assoc]using hn
 have hc:w.op=1\/w.op=2\/w.op=3\/w.op=4\/w.op=5\/w.op=6\/w.op=7\/w.op=8\/w.op=9\/w.op=10\/w.op=14\/w.op=15\/w.op=16\/w.op=17\/w.op=18:=by omega
 have tl:=ziq w.ty
 have key:∀t,zE w=t->R (.ret (.str t)) (J.newO w.cs):=λt e=>e▸h _ A1
 rcases hc with e|e|e|e|e|e|e|e|e|e|e|e|e|e|e
 .simp[zey,W.av,W.cs,e]
  refine ze7 (f3 (by omega)) ?_
  simp[tl]
  have:=key _ (by unfold zE;rw[if_pos e])
  simpa [W.cs,e]using this
 .have:=key [108,111,99,97,108,46,103,101,116] (by simp[zE,e])
  simp[zey,W.av,W.cs,e]
  simpa [W.cs,e]using this
 .have:=key [108,111,99,97,108,46,115,101,116] (by simp[zE,e])
  simp[zey,W.av,W.cs,e]
  simpa [W.cs,e]using this
 .have:=key (zC w.ty++46::w.name) (by simp[zE,e])
  have hl:=zf7 w.name (f5 e)
  simp[zey,W.av,W.cs,e]
  refine ze7 (f3 (by omega)) ?_
  simp[tl]
  refine⟨by omega,?_⟩
  simpa [W.cs,e]using this
 .have:=key (zC w.ty++[46,101,113,122]) (by simp[zE,e])
  simp[zey,W.av,W.cs,e]
  refine ze7 (f3 (by omega)) ?_
  simp[tl]
  simpa [W.cs,e]using this
 .have:=key [105,51,50,46,119,114,97,112,95,105,54,52] (by simp[zE,e])
  simp[zey,W.av,W.cs,e]
  simpa [W.cs,e]using this
 .have:=key [105,54,52,46,101,120,116,101,110,100,95,105,51,50,95,115] (by simp[zE,e])
  simp[zey,W.av,W.cs,e]
  simpa [W.cs,e]using this
 .have:=key (zC w.ty++(if w.n=1 then [46,108,111,97,100,56,95,115]else [46,108,111,97,100])) (by simp[zE,e])
  simp[zey,W.av,W.cs,e]
  refine ze7 (f3 (by omega)) ?_
  simp
  refine zrs (f4 (by omega)) ?_
  have ln:(if w.n=1 then [46,108,111,97,100,56,95,115]else([46,108,111,97,100]:List UInt8)).length<=8:=by split<;>decide
  simp[tl]
  refine⟨by omega,?_⟩
  simpa [W.cs,e]using this
 .have:=key (zC w.ty++(if w.n=1 then [46,115,116,111,114,101,56]else [46,115,116,111,114,101])) (by simp[zE,e])
  simp[zey,W.av,W.cs,e]
  refine ze7 (f3 (by omega)) ?_
  simp
  refine zrs (f4 (by omega)) ?_
  have ln:(if w.n=1 then [46,115,116,111,114,101,56]else([46,115,116,111,114,101]:List UInt8)).length<=8:=by split<;>decide
  simp[tl]
  refine⟨by omega,?_⟩
  simpa [W.cs,e]using this
 .have:=key [99,97,108,108] (by simp[zE,e])
  simp[zey,W.av,W.cs,e]
  simpa [W.cs,e]using this
 .have:=key [98,114] (by simp[zE,e])
  simp[zey,W.av,W.cs,e]
  simpa [W.cs,e]using this
 .have:=key [98,114,95,105,102] (by simp[zE,e])
  simp[zey,W.av,W.cs,e]
  simpa [W.cs,e]using this
 .have:=key [114,101,116,117,114,110] (by simp[zE,e])
  simp[zey,W.av,W.cs,e]
  simpa [W.cs,e]using this
 .have:=key [117,110,114,101,97,99,104,97,98,108,101] (by simp[zE,e])
  simp[zey,W.av,W.cs,e]
  simpa [W.cs,e]using this
 .have:=key [100,114,111,112] (by simp[zE,e])
  simp[zey,W.av,W.cs,e]
  simpa [W.cs,e]using this
end
theorem zru{w:W}(hf:zQ w=true)(hn:zbP w=false):(zL zdT (zE w)).isSome=zaE w:=by
 obtain⟨f1,f2,f3,f4,f5⟩:=znC hf
 have hn':w.op≠11/\w.op≠12/\w.op≠13:=by simpa [zbP,and_assoc]using hn
 have hc:w.op=1\/w.op=2\/w.op=3\/w.op=4\/w.op=5\/w.op=6\/w.op=7\/w.op=8\/w.op=9\/w.op=10\/w.op=14\/w.op=15\/w.op=16\/w.op=17\/w.op=18:=by omega
 have key:∀t b,zE w=t->zaE w=b->(zL zdT t).isSome=b->(zL zdT (zE w)).isSome=zaE w:=λt b e1 e2 e3=>by rw[e1,e2,e3]
 rcases hc with e|e|e|e|e|e|e|e|e|e|e|e|e|e|e
 .rcases f3 (by omega)with t|t
  .exact key [105,51,50,46,99,111,110,115,116] true (by simp[zE,e,t,zC,zAp]) (by simp[zaE,e]) (by decide)
  .exact key [105,54,52,46,99,111,110,115,116] true (by simp[zE,e,t,zC,zAq]) (by simp[zaE,e]) (by decide)
 .exact key [108,111,99,97,108,46,103,101,116] true (by simp[zE,e]) (by simp[zaE,e]) (by decide)
 .exact key [108,111,99,97,108,46,115,101,116] true (by simp[zE,e]) (by simp[zaE,e]) (by decide)
 .have ht:=f3 (by omega)
  have:=(zou w.name (zf8 (f5 e)) w.ty (by simpa using ht)).2.1
  exact key (zC w.ty++46::w.name) false (by simp[zE,e]) (by simp[zaE,e]) (by rw[this];rfl)
 .rcases f3 (by omega)with t|t
  .exact key [105,51,50,46,101,113,122] false (by simp[zE,e,t,zC,zAp]) (by simp[zaE,e]) (by decide)
  .exact key [105,54,52,46,101,113,122] false (by simp[zE,e,t,zC,zAq]) (by simp[zaE,e]) (by decide)
 .exact key [105,51,50,46,119,114,97,112,95,105,54,52] false (by simp[zE,e]) (by simp[zaE,e]) (by decide)
 .exact key [105,54,52,46,101,120,116,101,110,100,95,105,51,50,95,115] false (by simp[zE,e]) (by simp[zaE,e]) (by decide)
 .have k:∀t n:Int,(t=1\/t=2)->(n=1\/¬n=1)->(zL zdT (zC t++(if n=1 then [46,108,111,97,100,56,95,115]else [46,108,111,97,100]))).isSome=false:=by
   intro t n ht hn
   rcases ht with rfl|rfl<;>rcases hn with rfl|hn
   .decide
   .rw[if_neg hn];decide
   .decide
   .rw[if_neg hn];decide
  exact key _ false (by simp only[zE,e];rfl) (by simp[zaE,e]) (k w.ty w.n (f3 (by omega)) (by omega))
 .have k:∀t n:Int,(t=1\/t=2)->(n=1\/¬n=1)->(zL zdT (zC t++(if n=1 then [46,115,116,111,114,101,56]else [46,115,116,111,114,101]))).isSome=false:=by
   intro t n ht hn
   rcases ht with rfl|rfl<;>rcases hn with rfl|hn
   .decide
   .rw[if_neg hn];decide
   .decide
   .rw[if_neg hn];decide
  exact key _ false (by simp only[zE,e];rfl) (by simp[zaE,e]) (k w.ty w.n (f3 (by omega)) (by omega))
 .exact key [99,97,108,108] true (by simp[zE,e]) (by simp[zaE,e]) (by decide)
 .exact key [98,114] true (by simp[zE,e]) (by simp[zaE,e]) (by decide)
 .exact key [98,114,95,105,102] true (by simp[zE,e]) (by simp[zaE,e]) (by decide)
 .exact key [114,101,116,117,114,110] false (by simp[zE,e]) (by simp[zaE,e]) (by decide)
 .exact key [117,110,114,101,97,99,104,97,98,108,101] false (by simp[zE,e]) (by simp[zaE,e]) (by decide)
 .exact key [100,114,111,112] false (by simp[zE,e]) (by simp[zaE,e]) (by decide)
theorem zir(l:List Int):(spT (l.map zC)).length=4*l.length:=by
 induction l with
 | nil=>rfl
 | cons t r ih=>simp only[yaL,spT,yaa,yab,yac,ziq]at *;omega
section
variable {G : Env} {J : AS} {R : Out -> AS -> Prop}
theorem zaA{J0 x bs ws}(h:Pw J0 x bs J)(hb:bs≠[])(hw:ws.length<1000)(hl:(bs++spT ws).length<2^45)(hR:∀J' v,Pw J0 x (bs++spT ws) J'->PwK x J J'->R (.ret v) J'):zzQ G 63 [.pt 88 2 x 0,.sl (.stat true) 1 (ws.map ycR)] J R:=by
 have e:=znB ws hb
 exact zwg h hw (by rw[e];exact hl) (by rw[e];exact hR)
def TpI(J0:AS)(x:Nat)(bs:List UInt8)(kw:List UInt8)(v:AV)(l:List Int)(J:AS)(a:Nat->AV)(Z:AS):Prop:=∃(d r:List Int),l=d++r/\a 0=.pt 88 2 x 0/\a 15=v/\a 16=.int .i64 (l.length:Int)/\a 17=.int .i64 (d.length:Int)/\Pw J0 x (bs++spT (zB::kw::d.map zC)) Z/\PwK x J Z
theorem zhf{J0 x bs kw l v}(h:Pw J0 x bs J)(hb:bs≠[])(hv:Al.IntsO J0 v l)(ht:∀t∈l,t=1\/t=2)(hl:(bs++spT (zI kw l)).length<2^45)(hR:∀J' u,Pw J0 x (bs++spT (zI kw l)) J'->PwK x J J'->R (.ret u) J'):zzQ G 65 [.pt 88 2 x 0,.str kw,v] J R:=by
 refine zxq rfl ?_
 have v1:=hv.one
 have vl:=hv.len
 by_cases h0:l=[]
 .subst h0
  have e:bs++spT (zI kw [])=bs:=by simp[zI,spT]
  rw[e]at hR
  simp[zFi,vl]
  exact hR _ _ h (.refl ..)
 .have hne:¬(l.length:Int)=0:=by have:=ybn.2 h0;omega
  have hneN:¬l.length=0:=by omega
  have e:zI kw l=zB::kw::(l.map zC++[zf]):=by unfold zI;rw[if_neg h0]
  have e2:spT (zI kw l)=spT (zB::kw::l.map zC)++spT [zf]:=by rw[e,<-zg];rfl
  rw[e2]at hl hR
  simp only[yab]at hl
  have e3:spT (zB::kw::l.map zC)=spT [zB,kw]++spT (l.map zC):=by rw[<-zg];rfl
  have hl3:=congrArg ycH e3
  simp only[yab]at hl3
  have hlt:=zir l
  simp[zFi,vl,hne,hneN,h0]
  refine zaA (ws:=[zB,kw]) h hb (by simp) (by rw[yab];omega) λJ1 u1 P1 K1=>?_
  simp[vl]
  refine zS (TpI J0 x bs kw v l J) (MU 17 (l.length+1)) ⟨[],l,rfl,by simp,by simp,by simp,by simp,P1,K1⟩ λa Z hI=>?_
  obtain⟨d,r,hdr,a0,a15,a16,a17,hP,hK⟩:=hI
  have hvt:=hv.keep hP.ad
  cases r with
  | nil =>
   have e5:l=d:=by simpa using hdr
   have e6:l.length=d.length:=by rw[e5]
   rw[e6]at a16
   simp[zko,a0,a15,a16,a17,zqH]
   refine zaA (ws:=[zf]) hP (by simp[hb]) (by simp) (by rw[<-e5,yab,yab];omega) λJ2 u2 P2 K2=>?_
   simp
   refine hR _ _ ?_ (hK.trans K2)
   rw[<-e5,ydf]at P2
   exact P2
  | cons t r =>
   have hlt2:d.length<l.length:=by simp[hdr]
   obtain⟨φ,hr,hat⟩:=hvt.at hlt2
   have hr':=hr.read
   have hlt3:(d.length:Int)<(l.length:Int):=by omega
   have hi:l[d.length]=t:=by simp[hdr]
   rw[hi]at hat
   have w1:yb5 .i64 ((d.length:Int)+1)=((d.length+1:Nat):Int):=by rw[wrap_i64]<;>omega
   have htt:=ht t (by rw[hdr];simp)
   have e7:bs++spT (zB::kw::d.map zC)++spT [zC t]=bs++spT (zB::kw::(d++[t]).map zC):=by
    rw[ydf,<-zg];simp
   have e8:spT (zB::kw::(d++[t]).map zC)=spT [zB,kw]++spT ((d++[t]).map zC):=by rw[<-zg];rfl
   have l8:=congrArg ycH e8
   simp only[yab]at l8
   have l9:=zir (d++[t])
   have l10:(d++[t]).length<=l.length:=by simp;omega
   simp[zko,a0,a15,a16,a17,hlt2,hlt3,hat,hr',htt]
   refine ze7 htt ?_
   simp
   refine zaA (ws:=[zC t]) hP (by simp[hb]) (by simp) (by rw[e7,yab];omega) λJ2 u2 P2 K2=>?_
   simp[a0,a15,a16,a17,w1]
   rw[e7]at P2
   refine⟨⟨d++[t],r,by simp[hdr],by simp[a0],by simp[a15],by simp[a16],by simp,P2,hK.trans K2⟩,?_⟩
   simp[MU,a17];omega
end
theorem zcS(c:Prop)[Decidable c](x y:List UInt8)(h1:x.length<=24)(h2:y.length<=24):(if c then x else y).length<=24:=by split<;>assumption
theorem zrv{w:W}(hf:zQ w=true)(hn:zbP w=false):(zE w).length<=24:=by
 obtain⟨f1,f2,f3,f4,f5⟩:=znC hf
 have tl:=ziq w.ty
 by_cases e4:w.op=4
 .have hs:=zf7 w.name (f5 e4)
  have e:zE w=zC w.ty++46::w.name:=by simp[zE,e4]
  rw[e]
  simp only[yab,yac,tl]
  omega
 .unfold zE
  rw[if_neg e4]
  have a:∀x:List UInt8,x.length<=21->(zC w.ty++x).length<=24:=λx hx=>by rw[yab,tl];omega
  refine zcS _ _ _ (a _ (by decide)) (zcS _ _ _ (by decide) (zcS _ _ _ (by decide) (zcS _ _ _ (by decide) (zcS _ _ _ (by decide) (zcS _ _ _ (by decide) (zcS _ _ _ (a _ (by decide)) (zcS _ _ _ (by decide) (zcS _ _ _ (by decide) (zcS _ _ _ (a _ ?_) (zcS _ _ _ (a _ ?_) (zcS _ _ _ (by decide) (zcS _ _ _ (by decide) (by decide)))))))))))))
  .split<;>decide
  .split<;>decide
theorem zrw{w:W}(hf:zQ w=true)(hn:zbP w=false)(hr:RgW w):(spT (zcN w)).length<=64:=by
 have h1:=zrv hf hn
 have h2:=Lib.itoa_length_le w.n (by have:=hr.1;omega) (by have:=hr.2;omega)
 unfold zcN
 split
 .simp[spT];omega
 .simp[spT];omega
theorem zCQ{B:Nat}{ls:To}{d:Nat}{ws:List W}{acc acc':To}{toks:List Tok}{out:List W}(h:PrB B ls d ws acc toks out acc'):(spT toks).length+64*ze5 acc<=64*(out.length+ze5 acc'):=by
 induction h with
 | nil=>simp[spT]
 | leaf h1 h2 h3 _ ih =>
  have:=zrw h2 h1 h3
  rw[zg,yab,yac]
  omega
 | @one d w b r acc tb b' acc1 t r' acc' _ _ _ _ _ _ ih1 ih2 =>
  have hol:(zbw w.op).length<=5:=by unfold zbw;split<;>(try split)<;>decide
  have e1:zbw w.op::(tb++zda::t)=[zbw w.op]++(tb++([zda]++t)):=rfl
  have e2:(spT [zbw w.op]).length=(zbw w.op).length+1:=by simp[spT]
  have e3:(spT [zda]).length=4:=rfl
  rw[e1,zg,zg,zg]
  rw[zcP]at ih2
  simp only[yab,yac]
  omega
 | @two d w b e r acc tb b' acc1 te e' acc2 t r' acc' _ _ _ _ _ _ _ _ _ ih1 ih2 ih3 =>
  have e1:tIf::(tb++zci::(te++zda::t))=[tIf]++(tb++([zci]++(te++([zda]++t)))):=rfl
  have e2:(spT [tIf]).length=3:=rfl
  have e3:(spT [zda]).length=4:=rfl
  have e4:(spT [zci]).length=5:=rfl
  rw[e1,zg,zg,zg,zg,zg]
  rw[zcP]at ih2 ih3
  simp only[yab,yac]
  omega
theorem zjE(kw:Tok)(l:List Int)(h:kw.length<=6):(spT (zI kw l)).length<=4*l.length+12:=by
 unfold zI
 split
 .simp[spT]
 .have e:zB::kw::(l.map zC++[zf])=[zB]++([kw]++(l.map zC++[zf])):=rfl
  have e1:(spT [zB]).length=2:=rfl
  have e2:(spT [zf]).length=2:=rfl
  have e3:(spT [kw]).length=kw.length+1:=by simp[spT]
  rw[e,zg,zg,zg]
  simp only[yab,zir]
  omega
theorem zM(t:List UInt8):(spT [t]).length=t.length+1:=by simp[spT]
section
variable {G : Env} {J : AS} {R : Out -> AS -> Prop}
def zEr(B:Nat)(G:Env)(J0:AS)(x:Nat)(ls:To)(d:Nat):Prop:=∀(J:AS) (R:Out->AS->Prop) (fv:AV) (f:F) (i:Int) (ws:List W) (toks:List Tok) (acc:To) (out:List W) (acc':To) (bs:List UInt8),f.lists=ls->Al.FVO J0 fv f->Pw J0 x bs J->bs≠[]->0<=i->ls[i.toNat]?=some ws->PrB B ls d ws acc toks out acc'->(bs++spT toks).length<2^45 ->
 (∀J' u,Pw J0 x (bs++spT toks) J'->PwK x J J'->R (.ret u) J')->zzQ G 66 [.pt 88 2 x 0,fv,.int .i64 i] J R
def LqI(B:Nat)(J0:AS)(x:Nat)(ls:To)(d:Nat)(fc:List AV)(o:Nat)(rv:AV)(ws:List W)(toks:List Tok)(acc':To)(bs:List UInt8)(J:AS)(a:Nat->AV)(Z:AS):Prop:=∃(j:Nat) (t1 t2:List Tok) (acc1:To) (out1:List W),j<=ws.length/\toks=t1++t2/\PrB B ls d (ws.drop j) acc1 t2 out1 acc' /\
 a 0=.pt 88 2 x 0/\a 4=.ptr o 0/\a 14=rv/\a 15=.int .i64 (ws.length:Int)/\a 16=.int .i64 (j:Int)/\Pw J0 x (bs++spT t1) Z/\PwK x J Z/\Z.objs o=some fc/\o<Z.no/\o≠x
theorem znD{B:Nat}(V:zxW G){J0 x ls d}(IH:d<B->zEr B G J0 x ls (d+1)){f:F}{pv lv tv rv:AV}{ws:List W}{toks:List Tok}{acc':To}{bs:List UInt8}{o:Nat}(hls:f.lists=ls)(hf:Al.FVO J0 (.agg [.str f.name,pv,lv,.int .i64 f.type,tv]) f)(h1:pv.known=true/\pv.one=true/\pv.cells=[pv])(h2:lv.known=true/\lv.one=true/\lv.cells=[lv])(h3:tv.known=true/\tv.one=true/\tv.cells=[tv])
  (hrv:Al.RepO J0 rv ws) (hwl:ws.length<=2^40) (hb:bs≠[]) (hl:(bs++spT toks).length<2^45) (hR:∀J' u,Pw J0 x (bs++spT toks) J'->PwK x J J'->R (.ret u) J') {a:Nat->AV} {Z:AS} (hI:LqI B J0 x ls d [.str f.name,pv,lv,.int .i64 f.type,tv] o rv ws toks acc' bs J a Z) :
  avc yca G 75 zdP (zbi (λa' J'=>LqI B J0 x ls d [.str f.name,pv,lv,.int .i64 f.type,tv] o rv ws toks acc' bs J a' J'/\MU 16 (ws.length+1) a' J'<MU 16 (ws.length+1) a Z) (za6 0 (zfn yca [] R))) a Z:=by
 obtain⟨j,t1,t2,acc1,out1,hj,ht,hpr,a0,a4,a14,a15,a16,hP,hK,ho,hon,hox⟩:=hI
 by_cases hlt:j<ws.length
 .have hdrop:ws.drop j=ws[j]::ws.drop (j+1):=ycU hlt
  have hrt:=hrv.keep hP.ad
  obtain⟨φ,hr,hat⟩:=RepO.at hrt hlt
  have hr':=hr.read
  have hlti:(j:Int)<(ws.length:Int):=by omega
  have w1:yb5 .i64 ((j:Int)+1)=((j+1:Nat):Int):=by rw[wrap_i64]<;>omega
  rw[hdrop]at hpr
  generalize hw:ws[j]=w at *
  have A1:ze Z ((Z.newO zcc.cs).setO Z.no w.cs):=(ze.refl Z).newO.setO (yah _)
  have hP1:=hP.adds A1
  have K1:=hK.trans A1.pwk
  have o1:((Z.newO zcc.cs).setO Z.no w.cs).objs Z.no=some w.cs:=by simp
  have ho1:=(A1.obj o hon).trans ho
  have n1:((Z.newO zcc.cs).setO Z.no w.cs).no=Z.no+1:=by simp
  have hx:=hP.hx
  have hqx:Z.no≠x:=by omega
  have hbt:bs++spT t1≠[]:=by simp[hb]
  have hlt1:(bs++spT toks).length=bs.length+(spT t1).length+(spT t2).length:=by rw[ht,zg];simp only[yab];omega
  simp only[W.cs,zcc]at A1 o1 hP1 K1 ho1 n1
  have fin:∀(a':Nat->AV) (Z':AS) (t2a t2b:List Tok) (acc2 out2),t2=t2a++t2b->PrB B ls d (ws.drop (j+1)) acc2 t2b out2 acc'->Pw J0 x (bs++spT t1++spT t2a) Z'->PwK x J Z'->Z'.objs o=some [.str f.name,pv,lv,.int .i64 f.type,tv]->o<Z'.no->a' 0=.pt 88 2 x 0->a' 4=.ptr o 0->a' 14=rv->a' 15=.int .i64 (ws.length:Int)->a' 16=.int .i64 ((j+1:Nat):Int) ->
    LqI B J0 x ls d [.str f.name,pv,lv,.int .i64 f.type,tv] o rv ws toks acc' bs J a' Z'/\MU 16 (ws.length+1) a' Z'<MU 16 (ws.length+1) a Z:=by
   intro a' Z' t2a t2b acc2 out2 q1 q2 q3 q4 q5 q6 q7 q8 q9 q10 q11
   refine⟨⟨j+1,t1++t2a,t2b,acc2,out2,hlt,by rw[ht,q1,ydf],q2,q7,q8,q9,q10,q11,?_,q4,q5,q6,hox⟩,?_⟩
   .rw[zg,<-ydf];exact q3
   .simp[MU,a16,q11];omega
  cases hpr with
  | @leaf _ _ _ _ t r' _ hn hform hrg hpr' =>
   have hn':¬w.op=11/\¬w.op=12/\¬w.op=13:=by simpa [zbP,and_assoc]using hn
   simp[zdP,a0,a4,a14,a15,a16,hlt,hlti,hat,hr',W.av,W.cs,splice,hn']
   generalize (Z.newO [ycS .i64 0,ycS .i64 0,ycS .i64 0,ycS .i64 0,ycS .i64 0,ycR []]).setO Z.no [ycS .i64 w.op,ycS .i64 w.ty,ycS .i64 w.n,ycS .i64 w.body,ycS .i64 w.other,ycR w.name]=Z1 at *
   have hsp:(spT (zcN w++t)).length=(spT (zcN w)).length+(spT t).length:=by rw[zg,yab]
   refine zrt hform hn λZ2 A2=>?_
   have n2:=A2.no
   have lw:(zE w).length+1<=(spT (zcN w)).length:=by
    unfold zcN
    split
    .simp[spT]
    .simp[spT]
   simp[a0]
   refine zaA (ws:=[zE w]) (hP1.adds A2) hbt (by simp) (by rw[yab,yab,zM];omega) λZ3 u3 P3 K3=>?_
   have n3:=K3.no
   have q3:=(K3.obj Z.no (by omega) hqx).trans ((A2.obj Z.no (by omega)).trans o1)
   have r3:=(K3.obj o (by omega) hox).trans ((A2.obj o (by omega)).trans ho1)
   have K13:=(K1.trans A2.pwk).trans K3
   simp[q3]
   refine zrt hform hn λZ4 A4=>?_
   simp
   refine zjB λZ5 A5=>?_
   have A45:=A4.trans A5
   have n5:=A45.no
   have q5:=(A45.obj Z.no (by omega)).trans q3
   have r5:=(A45.obj o (by omega)).trans r3
   have P5:=P3.adds A45
   have K15:=K13.trans A45.pwk
   have hnum:=zru hform hn
   cases hfd:zL zdT (zE w)with
   | none =>
    rw[hfd]at hnum
    have hnum':zaE w=false:=hnum.symm
    have e1:zcN w=[zE w]:=by unfold zcN;rw[hnum'];rfl
    have A6:ze Z5 ((Z5.newO [ycS .i64 0,ycS .i64 0,ycS .i64 0,ycS .i64 0,ycS .i64 0,ycR []]).setO Z5.no [ycS .i64 0,ycS .i64 0,ycS .i64 0,ycS .i64 0,ycS .i64 0,ycR []]):=(ze.refl Z5).newO.setO (yah _)
    simp[W.av,W.cs,zcc,splice,a0,a4,a14,a15,a16,w1]
    refine fin _ _ [zE w] t acc1 r' (by rw[e1]) hpr' (P5.adds A6) (K15.trans A6.pwk) ((A6.obj o (by omega)).trans r5) (by simp;omega) (by simp[a0]) (by simp[a4]) (by simp[a14]) (by simp[a15]) (by simp)
   | some w' =>
    rw[hfd]at hnum
    have hnum':zaE w=true:=hnum.symm
    have e1:zcN w=[zE w,Lib.itoa w.n]:=by unfold zcN;rw[hnum'];rfl
    have A6:ze Z5 ((Z5.newO [ycS .i64 0,ycS .i64 0,ycS .i64 0,ycS .i64 0,ycS .i64 0,ycR []]).setO Z5.no w'.cs):=(ze.refl Z5).newO.setO (yah _)
    have P6:=P5.adds A6
    have K16:=K15.trans A6.pwk
    have q6:=(A6.obj Z.no (by omega)).trans q5
    have r6:=(A6.obj o (by omega)).trans r5
    have n6:=A6.no
    have hqn:¬Z.no=Z5.no:=by omega
    simp only[W.cs]at A6 P6 K16 q6 r6 n6
    simp[W.av,W.cs,splice,a0,q5,hqn]
    generalize (Z5.newO [ycS .i64 0,ycS .i64 0,ycS .i64 0,ycS .i64 0,ycS .i64 0,ycR []]).setO Z5.no [ycS .i64 w'.op,ycS .i64 w'.ty,ycS .i64 w'.n,ycS .i64 w'.body,ycS .i64 w'.other,ycR w'.name]=Z6 at *
    refine zes V hrg ?_
    simp
    have l2:(spT (zcN w)).length=(zE w).length+1+((Lib.itoa w.n).length+1):=by rw[e1];simp[spT];omega
    refine zaA (ws:=[Lib.itoa w.n]) P6 (by simp[hb]) (by simp) (by rw[yab,yab,yab,zM,zM];omega) λZ7 u7 P7 K7=>?_
    have n7:=K7.no
    simp[a0,a4,a14,a15,a16,w1]
    refine fin _ _ [zE w,Lib.itoa w.n] t acc1 r' (by rw[e1]) hpr' ?_ (K16.trans K7) ((K7.obj o (by omega) hox).trans r6) (by omega) (by simp[a0]) (by simp[a4]) (by simp[a14]) (by simp[a15]) (by simp)
    have e2:spT [zE w,Lib.itoa w.n]=spT [zE w]++spT [Lib.itoa w.n]:=by rw[<-zg];rfl
    rw[e2,<-ydf]
    exact P7
  | @one _ _ b _ _ tb b' acc2 t r' _ hop hd hb0 hbs hpb hpr' =>
   have hnest:w.op=11\/w.op=12\/w.op=13:=by omega
   have hcond:¬(w.op=13/\0<=w.other):=by omega
   have hol:(zbw w.op).length<=5:=by unfold zbw;split<;>(try split)<;>decide
   have hsp:(spT (zbw w.op::(tb++zda::t))).length=(zbw w.op).length+1+((spT tb).length+(4+(spT t).length)):=by
    have e1:zbw w.op::(tb++zda::t)=[zbw w.op]++(tb++([zda]++t)):=rfl
    rw[e1,zg,zg,zg]
    simp only[yab,zM]
    rfl
   rcases hnest with e|e|e
   .obtain⟨op,ty,n,body,other,name⟩:=w
    dsimp only at *
    subst e
    have wb:((body.toNat:Nat):Int)=body:=by omega
    simp[zdP,a0,a4,a14,a15,a16,hlt,hlti,hat,hr',W.av,W.cs,splice]
    generalize (Z.newO [ycS .i64 0,ycS .i64 0,ycS .i64 0,ycS .i64 0,ycS .i64 0,ycR []]).setO Z.no [ycS .i64 11,ycS .i64 ty,ycS .i64 n,ycS .i64 body,ycS .i64 other,ycR name]=Z1 at *
    refine zkR (by omega) ?_
    simp
    refine zaA (ws:=[zbw 11]) hP1 hbt (by simp) (by rw[yab,yab,zM];omega) λZ2 u2 P2 K2=>?_
    have n2:=K2.no
    have q2:=(K2.obj Z.no (by omega) hqx).trans o1
    have r2:=(K2.obj o (by omega) hox).trans ho1
    simp[a0,a4,q2,r2]
    refine IH hd Z2 _ _ f body b tb _ _ _ _ hls hf P2 (by simp[hb]) hb0 hbs hpb (by rw[yab,yab,yab,zM];omega) λZ3 u3 P3 K3=>?_
    have n3:=K3.no
    have q3:=(K3.obj Z.no (by omega) hqx).trans q2
    have r3:=(K3.obj o (by omega) hox).trans r2
    simp[a0,q3]
    refine zaA (ws:=[zda]) P3 (by simp[hb]) (by simp) (by rw[yab,yab,yab,yab,zM,zM];have:zda.length=3:=rfl;omega) λZ4 u4 P4 K4=>?_
    have n4:=K4.no
    simp[a0,a4,a14,a15,a16,w1]
    refine fin _ _ ([zbw 11]++tb++[zda]) t (acc2++[b']) r' (by simp) hpr' ?_ (((K1.trans K2).trans K3).trans K4) ((K4.obj o (by omega) hox).trans r3) (by omega) (by simp[a0]) (by simp[a4]) (by simp[a14]) (by simp[a15]) (by simp)
    rw[zg,zg]
    simpa [ydf]using P4
   .obtain⟨op,ty,n,body,other,name⟩:=w
    dsimp only at *
    subst e
    have wb:((body.toNat:Nat):Int)=body:=by omega
    simp[zdP,a0,a4,a14,a15,a16,hlt,hlti,hat,hr',W.av,W.cs,splice]
    generalize (Z.newO [ycS .i64 0,ycS .i64 0,ycS .i64 0,ycS .i64 0,ycS .i64 0,ycR []]).setO Z.no [ycS .i64 12,ycS .i64 ty,ycS .i64 n,ycS .i64 body,ycS .i64 other,ycR name]=Z1 at *
    refine zkR (by omega) ?_
    simp
    refine zaA (ws:=[zbw 12]) hP1 hbt (by simp) (by rw[yab,yab,zM];omega) λZ2 u2 P2 K2=>?_
    have n2:=K2.no
    have q2:=(K2.obj Z.no (by omega) hqx).trans o1
    have r2:=(K2.obj o (by omega) hox).trans ho1
    simp[a0,a4,q2,r2]
    refine IH hd Z2 _ _ f body b tb _ _ _ _ hls hf P2 (by simp[hb]) hb0 hbs hpb (by rw[yab,yab,yab,zM];omega) λZ3 u3 P3 K3=>?_
    have n3:=K3.no
    have q3:=(K3.obj Z.no (by omega) hqx).trans q2
    have r3:=(K3.obj o (by omega) hox).trans r2
    simp[a0,q3]
    refine zaA (ws:=[zda]) P3 (by simp[hb]) (by simp) (by rw[yab,yab,yab,yab,zM,zM];have:zda.length=3:=rfl;omega) λZ4 u4 P4 K4=>?_
    have n4:=K4.no
    simp[a0,a4,a14,a15,a16,w1]
    refine fin _ _ ([zbw 12]++tb++[zda]) t (acc2++[b']) r' (by simp) hpr' ?_ (((K1.trans K2).trans K3).trans K4) ((K4.obj o (by omega) hox).trans r3) (by omega) (by simp[a0]) (by simp[a4]) (by simp[a14]) (by simp[a15]) (by simp)
    rw[zg,zg]
    simpa [ydf]using P4
   .obtain⟨op,ty,n,body,other,name⟩:=w
    dsimp only at *
    subst e
    have hno:¬0<=other:=by omega
    have wb:((body.toNat:Nat):Int)=body:=by omega
    simp[zdP,a0,a4,a14,a15,a16,hlt,hlti,hat,hr',W.av,W.cs,splice]
    generalize (Z.newO [ycS .i64 0,ycS .i64 0,ycS .i64 0,ycS .i64 0,ycS .i64 0,ycR []]).setO Z.no [ycS .i64 13,ycS .i64 ty,ycS .i64 n,ycS .i64 body,ycS .i64 other,ycR name]=Z1 at *
    refine zkR (by omega) ?_
    simp
    refine zaA (ws:=[zbw 13]) hP1 hbt (by simp) (by rw[yab,yab,zM];omega) λZ2 u2 P2 K2=>?_
    have n2:=K2.no
    have q2:=(K2.obj Z.no (by omega) hqx).trans o1
    have r2:=(K2.obj o (by omega) hox).trans ho1
    simp[a0,a4,q2,r2]
    refine IH hd Z2 _ _ f body b tb _ _ _ _ hls hf P2 (by simp[hb]) hb0 hbs hpb (by rw[yab,yab,yab,zM];omega) λZ3 u3 P3 K3=>?_
    have n3:=K3.no
    have q3:=(K3.obj Z.no (by omega) hqx).trans q2
    have r3:=(K3.obj o (by omega) hox).trans r2
    simp[a0,q3,hno]
    refine zaA (ws:=[zda]) P3 (by simp[hb]) (by simp) (by rw[yab,yab,yab,yab,zM,zM];have:zda.length=3:=rfl;omega) λZ4 u4 P4 K4=>?_
    have n4:=K4.no
    simp[a0,a4,a14,a15,a16,w1]
    refine fin _ _ ([zbw 13]++tb++[zda]) t (acc2++[b']) r' (by simp) hpr' ?_ (((K1.trans K2).trans K3).trans K4) ((K4.obj o (by omega) hox).trans r3) (by omega) (by simp[a0]) (by simp[a4]) (by simp[a14]) (by simp[a15]) (by simp)
    rw[zg,zg]
    simpa [ydf]using P4
  | @two _ _ b e _ _ tb b' acc2 te e' acc3 t r' _ hop hot hd hb0 hbs hes hpb hpe hpr' =>
   have hsp:(spT (tIf::(tb++zci::(te++zda::t)))).length=3+((spT tb).length+(5+((spT te).length+(4+(spT t).length)))):=by
    have e1:tIf::(tb++zci::(te++zda::t))=[tIf]++(tb++([zci]++(te++([zda]++t)))):=rfl
    rw[e1,zg,zg,zg,zg,zg]
    simp only[yab,zM]
    rfl
   obtain⟨op,ty,n,body,other,name⟩:=w
   dsimp only at *
   subst hop
   have hoi:(zbw 13)=tIf:=rfl
   simp[zdP,a0,a4,a14,a15,a16,hlt,hlti,hat,hr',W.av,W.cs,splice]
   generalize (Z.newO [ycS .i64 0,ycS .i64 0,ycS .i64 0,ycS .i64 0,ycS .i64 0,ycR []]).setO Z.no [ycS .i64 13,ycS .i64 ty,ycS .i64 n,ycS .i64 body,ycS .i64 other,ycR name]=Z1 at *
   refine zkR (by omega) ?_
   rw[hoi]
   simp
   refine zaA (ws:=[tIf]) hP1 hbt (by simp) (by rw[yab,yab,zM];have:tIf.length=2:=rfl;omega) λZ2 u2 P2 K2=>?_
   have n2:=K2.no
   have q2:=(K2.obj Z.no (by omega) hqx).trans o1
   have r2:=(K2.obj o (by omega) hox).trans ho1
   simp[a0,a4,q2,r2]
   refine IH hd Z2 _ _ f body b tb _ _ _ _ hls hf P2 (by simp[hb]) hb0 hbs hpb (by rw[yab,yab,yab,zM];have:tIf.length=2:=rfl;omega) λZ3 u3 P3 K3=>?_
   have n3:=K3.no
   have q3:=(K3.obj Z.no (by omega) hqx).trans q2
   have r3:=(K3.obj o (by omega) hox).trans r2
   simp[a0,q3,hot]
   refine zaA (ws:=[zci]) P3 (by simp[hb]) (by simp) (by rw[yab,yab,yab,yab,zM,zM];have:zci.length=4:=rfl;have:tIf.length=2:=rfl;omega) λZ4 u4 P4 K4=>?_
   have n4:=K4.no
   have q4:=(K4.obj Z.no (by omega) hqx).trans q3
   have r4:=(K4.obj o (by omega) hox).trans r3
   simp[a0,a4,q4,r4]
   refine IH hd Z4 _ _ f other e te _ _ _ _ hls hf P4 (by simp[hb]) hot hes hpe (by rw[yab,yab,yab,yab,yab,zM,zM];have:zci.length=4:=rfl;have:tIf.length=2:=rfl;omega) λZ5 u5 P5 K5=>?_
   have n5:=K5.no
   have r5:=(K5.obj o (by omega) hox).trans r4
   simp[a0]
   refine zaA (ws:=[zda]) P5 (by simp[hb]) (by simp) (by rw[yab,yab,yab,yab,yab,yab,zM,zM,zM];have:zci.length=4:=rfl;have:tIf.length=2:=rfl;have:zda.length=3:=rfl;omega) λZ6 u6 P6 K6=>?_
   have n6:=K6.no
   simp[a0,a4,a14,a15,a16,w1]
   refine fin _ _ ([tIf]++tb++[zci]++te++[zda]) t (acc3++[e']) r' (by simp) hpr' ?_ (((((K1.trans K2).trans K3).trans K4).trans K5).trans K6) ((K6.obj o (by omega) hox).trans r5) (by omega) (by simp[a0]) (by simp[a4]) (by simp[a14]) (by simp[a15]) (by simp)
   rw[zg,zg,zg,zg]
   simpa [ydf]using P6
 .have e:j=ws.length:=by omega
  rw[yc8 (by omega)]at hpr
  cases hpr
  rw[yb8]at ht
  subst ht
  simp[zdP,a0,a4,a14,a15,a16,e]
  exact hR _ _ hP hK
theorem zjF{B:Nat}(V:zxW G){J0 x ls d}(hsz:∀ws∈ls,ws.length<=2^40)(IH:d<B->zEr B G J0 x ls (d+1)):zEr B G J0 x ls d:=by
 intro J R fv f i ws toks acc out acc' bs hls hf hP hb hi hws hpr hl hR
 have hf0:=hf
 obtain⟨pv,lv,tv,rfl,i1,i2,i3⟩:=hf
 have h1:=i1.one
 have h2:=i2.one
 have h3:=i3.one
 obtain⟨hlt,hget⟩:=yaq.1 hws
 have hwl:=hsz ws (ycW hws)
 have i3t:=i3.keep hP.ad
 rw[<-hls]at hlt
 obtain⟨φ,rv,hr,hrv,hat⟩:=i3.at hlt
 obtain⟨φ',rv',hr',hrv',hat'⟩:=i3t.at hlt
 subst hls
 rw[hget]at hrv hrv'
 refine zxr rfl ?_
 have wi:((i.toNat:Nat):Int)=i:=by omega
 rw[wi]at hat hat'
 have hsame:ydG φ' rv'=ydG φ rv:=by
  have q1:=hat λv=>v=ydG φ rv
  have q2:=hat' λv=>v=ydG φ rv
  rw[<-q2,q1]
 injection hsame with hs1 hs2
 subst hs1 hs2
 have hrd:=hr'.read
 have v1:=hrv'.one
 have vl:=RepO.len hrv'
 have hx:=hP.hx
 simp[zF7,h1,h2,h3,hat',hrd,v1,vl]
 have A:ze J (J.newO [.str f.name,pv,lv,.int .i64 f.type,tv]):=(ze.refl J).newO
 refine zS (LqI B J0 x f.lists d [.str f.name,pv,lv,.int .i64 f.type,tv] J.no rv' ws toks acc' bs J) (MU 16 (ws.length+1)) ⟨0,[],toks,acc,out,Nat.zero_le _,rfl,by simpa using hpr,by simp,by simp,by simp,by simp,by simp,by simpa [spT]using hP.adds A,A.pwk,by simp,by simp,by omega⟩ λa Z hI=>?_
 exact znD V IH rfl hf0 h1 h2 h3 hrv hwl hb hl hR hI
theorem zis{B:Nat}(V:zxW G){J0 x ls}(hsz:∀ws∈ls,ws.length<=2^40):∀k d:Nat,B<=d+k->zEr B G J0 x ls d
 | 0,d,hd=>zjF V hsz (λh=>by omega)
 | k+1,d,hd=>zjF V hsz (λ_=>zis V hsz k (d+1) (by omega))
end
theorem zuT:spT zbv=32::zk:=by decide
theorem zrx(t:Int)(h:t≠0):zI zdS [t]=zkI t:=by
 unfold zI zkI
 rw[if_neg (by simp),if_neg h]
 rfl
section
variable {G : Env} {J : AS} {R : Out -> AS -> Prop}
def FlI(B:Nat)(J0:AS)(x mo:Nat)(fv:AV)(m:M)(toks:List Tok)(bs:List UInt8)(a:Nat->AV)(Z:AS):Prop:=∃(j:Nat) (t1 t2:List Tok) (fs2:List F),j<=m.funcs.length/\toks=t1++t2/\PrFsB B (m.funcs.drop j) t2 fs2/\a 1=.ptr mo 0/\a 3=.pt 88 2 x 0/\a 15=fv/\a 16=.int .i64 (m.funcs.length:Int)/\a 17=.int .i64 (j:Int) /\
 Pw J0 x (bs++spT t1) Z/\Z.objs mo=some [fv,.int .i64 m.memory,.int .i64 m.main]/\mo<Z.no/\mo≠x
theorem zpE{B:Nat}(V:zxW G){J0 x mo fv}{m:M}{toks:List Tok}{bs:List UInt8}{mx:Nat}(hfv:Al.FsO J0 fv m.funcs)(hf:∀f∈m.funcs,Pf mx f)(hmx:mx<=1000)(hsz:∀f∈m.funcs,f.lists.length<=2^40/\∀ws∈f.lists,ws.length<=2^40)(hfl:m.funcs.length<=2^40)(hb:bs≠[])(hl:(bs++spT toks).length<2^44)
  (fin:∀(a:Nat->AV) (Z:AS),a 1=.ptr mo 0->a 3=.pt 88 2 x 0->Pw J0 x (bs++spT toks) Z->Z.objs mo=some [fv,.int .i64 m.memory,.int .i64 m.main]->avc yca G 66 zkk (zfn yca [.tmp 2] R) a Z) {a:Nat->AV} {Z:AS} (hI:FlI B J0 x mo fv m toks bs a Z) :
  avc yca G 66 zhT (zbi (λa' J'=>FlI B J0 x mo fv m toks bs a' J'/\MU 17 (m.funcs.length+1) a' J'<MU 17 (m.funcs.length+1) a Z) (za6 0 (zbi (avc yca G 66 zkk (zfn yca [.tmp 2] R)) (zfn yca [.tmp 2] R)))) a Z:=by
 obtain⟨j,t1,t2,fs2,hj,ht,hpr,a1,a3,a15,a16,a17,hP,hmo,hmon,hmox⟩:=hI
 by_cases hlt:j<m.funcs.length
 .have hdrop:m.funcs.drop j=m.funcs[j]::m.funcs.drop (j+1):=ycU hlt
  have hmem:m.funcs[j]∈m.funcs:=yaw hlt
  have hft:=hfv.keep hP.ad
  obtain⟨φ0,row0,hr0,hrow0,hat0⟩:=hfv.at hlt
  obtain⟨φ,row,hr,hrow,hat⟩:=hft.at hlt
  have hsame:ydG φ row=ydG φ0 row0:=by
   have q1:=hat0 λv=>v=ydG φ0 row0
   have q2:=hat λv=>v=ydG φ0 row0
   rw[<-q2,q1]
  injection hsame with hs1 hs2
  subst hs1 hs2
  have hr':=hr.read
  have hlti:(j:Int)<(m.funcs.length:Int):=by omega
  have w1:yb5 .i64 ((j:Int)+1)=((j+1:Nat):Int):=by rw[wrap_i64]<;>omega
  rw[hdrop]at hpr
  generalize hw:m.funcs[j]=f at *
  have hpf:=hf f hmem
  have hszf:=hsz f hmem
  obtain⟨pv,lv,tv,rfl,i1,i2,i3⟩:=id hrow0
  have p1:=i1.one
  have p2:=i2.one
  have p3:=i3.one
  have i3len:=i3.len
  have hnl:f.name.length<=1000:=by
   have:=hpf.name
   unfold zh3 at this
   split at this
   .cases this
   .rename_i c r _
    simp only[Bool.and_eq_true,decide_eq_true_eq]at this
    omega
  have hlt1:(bs++spT toks).length=bs.length+(spT t1).length+(spT t2).length:=by rw[ht,zg];simp only[yab];omega
  simp[zhT,a1,a3,a15,a16,a17,hlt,hlti,hat,hr',p1,p2,p3,splice]
  have A1:ze Z ((Z.newO [.str [],.nilsl,.nilsl,.int .i64 0,.nilsl]).setO Z.no [.str f.name,pv,lv,.int .i64 f.type,tv]):=(ze.refl Z).newO.setO (yah _)
  have q1:((Z.newO [.str [],.nilsl,.nilsl,.int .i64 0,.nilsl]).setO Z.no [.str f.name,pv,lv,.int .i64 f.type,tv]).objs Z.no=some [.str f.name,pv,lv,.int .i64 f.type,tv]:=by simp
  have n1:((Z.newO [.str [],.nilsl,.nilsl,.int .i64 0,.nilsl]).setO Z.no [.str f.name,pv,lv,.int .i64 f.type,tv]).no=Z.no+1:=by simp
  have hP1:=hP.adds A1
  have hx:=hP.hx
  have hqx:Z.no≠x:=by omega
  have m1:=(A1.obj mo hmon).trans hmo
  refine⟨by omega,?_⟩
  generalize (Z.newO [.str [],.nilsl,.nilsl,.int .i64 0,.nilsl]).setO Z.no [.str f.name,pv,lv,.int .i64 f.type,tv]=Z1 at *
  cases hpr with
  | @cons _ _ tf ls' ts fs' hpF hprs =>
  obtain⟨row,out,acc,h1,h2,_⟩:=hpF
  have hl1:f.lists.length-1<f.lists.length:=(yaq.1 h1).1
  have wl:yb5 .i64 ((f.lists.length:Int)-1)=((f.lists.length-1:Nat):Int):=by
   have:=hszf.1
   rw[wrap_i64]<;>omega
  have hl0:(0:Int)<=((f.lists.length-1:Nat):Int):=by omega
  have hln:((f.lists.length-1:Nat):Int).toNat=f.lists.length-1:=by omega
  have hft1:spT (zgO f tf)=spT [zB,zbT,36::f.name]++spT (zI zb3 f.params)++spT (zkI f.type)++spT (zI zaZ f.locals)++spT tf++spT [zf]:=by
   have:zgO f tf=[zB,zbT,36::f.name]++zI zb3 f.params++zkI f.type++zI zaZ f.locals++tf++[zf]:=by simp[zgO]
   rw[this,zg,zg,zg,zg,zg]
  have hl2:(spT (zgO f tf++ts)).length=(spT [zB,zbT,36::f.name]).length+(spT (zI zb3 f.params)).length+(spT (zkI f.type)).length+(spT (zI zaZ f.locals)).length+(spT tf).length+(spT [zf]).length+(spT ts).length:=by
   rw[zg,hft1]
   simp only[yab]
  refine zaA (ws:=[zB,zbT,36::f.name]) hP1 (by simp[hb]) (by simp) (by simp only[yab];omega) λZ2 u2 P2 K2=>?_
  have n2:=K2.no
  have q2:=(K2.obj Z.no (by omega) hqx).trans q1
  have m2:=(K2.obj mo (by omega) hmox).trans m1
  simp[q2,a3,p1]
  refine zhf (kw:=zb3) P2 (by simp[hb]) i1 hpf.params (by simp only[yab];omega) λZ3 u3 P3 K3=>?_
  have n3:=K3.no
  have q3:=(K3.obj Z.no (by omega) hqx).trans q2
  have m3:=(K3.obj mo (by omega) hmox).trans m2
  by_cases hty:f.type=0
  .have hrz:zkI f.type=[]:=by unfold zkI;rw[if_pos hty]
   have hty':(f.type=0)=True:=eq_true hty
   simp[q3,a3,hty']
   have P4:=P3
   have K4:=PwK.refl x Z3
   have q4:=q3
   have m4:=m3
   have e4:bs++spT t1++spT [zB,zbT,36::f.name]++spT (zI zb3 f.params)=bs++spT t1++spT [zB,zbT,36::f.name]++spT (zI zb3 f.params)++spT (zkI f.type):=by rw[hrz];simp[spT]
   rw[e4]at P4
   generalize hZ4:Z3=Z4 at *
   simp[q4,a3]
   refine zhf (kw:=zaZ) P4 (by simp[hb]) i2 hpf.locals (by simp only[yab];omega) λZ5 u5 P5 K5=>?_
   have n5:=K5.no
   have q5:=(K5.obj Z.no (by omega) hqx).trans q4
   have m5:=(K5.obj mo (by omega) hmox).trans m4
   simp[q5,a3,i3len,wl]
   refine zis (B:=B) V (x:=x) hszf.2 B 0 (by omega) Z5 _ _ f _ row tf [] out acc _ rfl hrow0 P5 (by simp[hb]) hl0 (by rw[hln];exact h1) h2 (by simp only[yab];omega) λZ6 u6 P6 K6=>?_
   have n6:=K6.no
   have m6:=(K6.obj mo (by omega) hmox).trans m5
   simp[a3]
   refine zaA (ws:=[zf]) P6 (by simp[hb]) (by simp) (by simp only[yab];omega) λZ7 u7 P7 K7=>?_
   have n7:=K7.no
   have m7:=(K7.obj mo (by omega) hmox).trans m6
   simp[a1,a3,a15,a16,a17,w1]
   refine⟨⟨j+1,t1++zgO f tf,ts,fs',hlt,by rw[ht,ydf],hprs,by simp[a1],by simp[a3],by simp[a15],by simp[a16],by simp,?_,m7,by omega,hmox⟩,?_⟩
   .rw[zg,hft1]
    simpa [ydf]using P7
   .simp[MU,a17];omega
  .have hrz:=zrx f.type hty
   have hty':(f.type=0)=False:=eq_false hty
   have htt:∀t∈[f.type],t=1\/t=2:=by
    intro t ht
    simp only[yc4]at ht
    subst ht
    have:=hpf.type
    omega
   simp[q3,a3,hty']
   refine zhf (kw:=zdS) (l:=[f.type]) P3 (by simp[hb]) (.inr ⟨.stat true,rfl,trivial⟩) htt (by rw[hrz];simp only[yab];omega) λZ4 u4 P4 K4=>?_
   rw[hrz]at P4
   have n4:=K4.no
   have q4:=(K4.obj Z.no (by omega) hqx).trans q3
   have m4:=(K4.obj mo (by omega) hmox).trans m3
   simp[q4,a3]
   refine zhf (kw:=zaZ) P4 (by simp[hb]) i2 hpf.locals (by simp only[yab];omega) λZ5 u5 P5 K5=>?_
   have n5:=K5.no
   have q5:=(K5.obj Z.no (by omega) hqx).trans q4
   have m5:=(K5.obj mo (by omega) hmox).trans m4
   simp[q5,a3,i3len,wl]
   refine zis (B:=B) V (x:=x) hszf.2 B 0 (by omega) Z5 _ _ f _ row tf [] out acc _ rfl hrow0 P5 (by simp[hb]) hl0 (by rw[hln];exact h1) h2 (by simp only[yab];omega) λZ6 u6 P6 K6=>?_
   have n6:=K6.no
   have m6:=(K6.obj mo (by omega) hmox).trans m5
   simp[a3]
   refine zaA (ws:=[zf]) P6 (by simp[hb]) (by simp) (by simp only[yab];omega) λZ7 u7 P7 K7=>?_
   have n7:=K7.no
   have m7:=(K7.obj mo (by omega) hmox).trans m6
   simp[a1,a3,a15,a16,a17,w1]
   refine⟨⟨j+1,t1++zgO f tf,ts,fs',hlt,by rw[ht,ydf],hprs,by simp[a1],by simp[a3],by simp[a15],by simp[a16],by simp,?_,m7,by omega,hmox⟩,?_⟩
   .rw[zg,hft1]
    simpa [ydf]using P7
   .simp[MU,a17];omega
 .have e:j=m.funcs.length:=by omega
  rw[yc8 (by omega)]at hpr
  cases hpr
  rw[yb8]at ht
  subst ht
  simp[zhT,a1,a3,a15,a16,a17,e]
  exact fin _ _ (by simp[a1]) (by simp[a3]) hP hmo
theorem zit(m:M)(toks:List Tok):zf9 (zbV m toks)=zk++spT [Lib.itoa m.memory,zf,zf]++spT toks++spT [zB,zcE,ziU,zB,zbT,Lib.itoa (yb5 .i64 (m.main+3)),zf,zf,zf]++[10]:=by
 have e:zbV m toks=zbv++[Lib.itoa m.memory,zf,zf]++toks++[zB,zcE,ziU,zB,zbT,Lib.itoa (yb5 .i64 (m.main+3)),zf,zf,zf]:=by simp[zbV,zv4]
 unfold zf9
 rw[zoF,e,zg,zg,zg,zuT]
 simp only[ycT,List.tail_cons]
theorem znE{B:Nat}(V:zxW G){m:M}{mv:AV}{toks:List Tok}{fs2:List F}{mx:Nat}(hm:Al.MO J mv m)(hpr:PrFsB B m.funcs toks fs2)(hf:∀f∈m.funcs,Pf mx f)(hmx:mx<=1000)(hsz:∀f∈m.funcs,f.lists.length<=2^40/\∀ws∈f.lists,ws.length<=2^40)(hfl:m.funcs.length<=2^40)
  (hmem:-(2^63)<=m.memory/\m.memory<2^63) (hl:(zf9 (zbV m toks)).length<2^43) (h:∀J',ze J J'->R (.ret (.str (zf9 (zbV m toks)))) J'):zzQ G 20 [mv] J R:=by
 refine zxa rfl ?_
 obtain⟨fv,rfl,hfv⟩:=hm
 have f1:=hfv.one
 have fl:=hfv.len
 rw[zit]at hl
 simp only[yab]at hl
 simp[zFW,f1]
 have A1:ze J ((J.newO [fv,.int .i64 m.memory,.int .i64 m.main]).newO [.nilp,.nilsl]):=(ze.refl J).newO.newO
 have m1:((J.newO [fv,.int .i64 m.memory,.int .i64 m.main]).newO [.nilp,.nilsl]).objs J.no=some [fv,.int .i64 m.memory,.int .i64 m.main]:=by
  have:¬J.no=J.no+1:=by omega
  simp[this]
 have p1:((J.newO [fv,.int .i64 m.memory,.int .i64 m.main]).newO [.nilp,.nilsl]).objs (J.no+1)=some [.nilp,.nilsl]:=by simp
 have n1:((J.newO [fv,.int .i64 m.memory,.int .i64 m.main]).newO [.nilp,.nilsl]).no=J.no+2:=by simp
 generalize (J.newO [fv,.int .i64 m.memory,.int .i64 m.main]).newO [.nilp,.nilsl]=Z1 at *
 refine zes V hmem ?_
 simp
 refine zCO (o:=J.no+1) (i:=1) (cs:=[.nilp,.nilsl]) (e:=5) p1 rfl ?_
 have e1:splice [AV.nilp,ycY] 1 [AV.tys 5 .nilsl]=[.nilp,.tys 5 .nilsl]:=rfl
 rw[e1]
 have hP0:Pw J (J.no+1) [] (Z1.setO (J.no+1) [.nilp,.tys 5 .nilsl]):=⟨by omega,by simp;omega,A1.setO (by omega),_,_,by simp,.inl rfl,.inl ⟨rfl,rfl⟩⟩
 have m2:(Z1.setO (J.no+1) [.nilp,.tys 5 .nilsl]).objs J.no=some [fv,.int .i64 m.memory,.int .i64 m.main]:=by
  have:¬J.no=J.no+1:=by omega
  simp[this,m1]
 have n2:(Z1.setO (J.no+1) [.nilp,.tys 5 .nilsl]).no=J.no+2:=by simp[n1]
 generalize Z1.setO (J.no+1) [.nilp,.tys 5 .nilsl]=Z2 at *
 have hh:zk≠[]:=by decide
 have es:zfJ [] [zk,Lib.itoa m.memory,zf,zf]=zk++spT [Lib.itoa m.memory,zf,zf]:=by
  have:zfJ [] [zk,Lib.itoa m.memory,zf,zf]=zfJ zk [Lib.itoa m.memory,zf,zf]:=rfl
  rw[this,znB _ hh]
 refine zwg (ws:=[zk,Lib.itoa m.memory,zf,zf]) hP0 (by simp) (by rw[es,yab];omega) λZ3 u3 P3 K3=>?_
 rw[es]at P3
 have n3:=K3.no
 have m3:=(K3.obj J.no (by omega) (by omega)).trans m2
 simp[m3,f1,fl]
 refine zS (FlI B J (J.no+1) J.no fv m toks (zk++spT [Lib.itoa m.memory,zf,zf])) (MU 17 (m.funcs.length+1)) ⟨0,[],toks,fs2,Nat.zero_le _,rfl,by simpa using hpr,by simp,by simp,by simp,by simp,by simp,by simpa [spT]using P3,m3,by omega,by omega⟩ λa Z hI=>?_
 refine zpE V hfv hf hmx hsz hfl (by simp[hh]) (by simp only[yab];omega) (λa Z a1 a3 hP hmo=>?_) hI
 simp[zkk,a1,a3,hmo]
 refine zes V (ze4 _).1 ?_
 simp
 refine zaA (ws:=[zB,zcE,ziU,zB,zbT,Lib.itoa (yb5 .i64 (m.main+3)),zf,zf,zf]) hP (by simp[hh]) (by simp) (by simp only[yab];omega) λZ5 u5 P5 K5=>?_
 simp[a3]
 refine zuR P5 (by simp[hh]) (by simp only[yab];omega) λZ6 A6 K6=>?_
 have:=h _ A6
 rw[zit]at this
 simp
 refine⟨by have:([10]:List UInt8).length=1:=rfl;omega,?_⟩
 simpa [ydf]using this
end
theorem zyc(m:M)(toks:List Tok):zih (zf9 (zbV m toks)):=trivial
def zoH:F:={ name:=[102],params:=[],locals:=[],type:=1,lists:=[[{ op:=1,ty:=1,n:=7,body:=0,other:=0,name:=[] }]] }
def zbb:M:={ funcs:=[zoH],memory:=16,main:=0 }
section
variable {G : Env} {J : AS} {R : Out -> AS -> Prop}
end
def NZ{α:Type}(r:Res α):Prop:=∀e,r=.error e->e≠0
theorem NZ.ok{α:Type}(a:α):NZ (.ok a:Res α):=λe h=>by cases h
theorem NZ.err{α:Type}{k:Int}(h:k≠0):NZ (.error k:Res α):=λe q=>by cases q;exact h
theorem zoI(s:St):NZ (zdt s):=by
 unfold zdt
 split
 .split
  .exact .ok _
  .exact .err (by omega)
 .exact .ok _
theorem zet:∀(ts:List Int) (s:St),NZ (zW ts s)
 | [],s=>.ok _
 | t::ts,s=>by
  rw[zW]
  split
  .have:=zoI s
   cases hd:zdt s with
   | ok s'=>exact zet ts s'
   | error e=>rw[hd]at this;exact .err (this e rfl)
  .exact .err (by omega)
theorem zoJ{r:Res St}{t:Int}(h:NZ r):NZ (zf2 r t):=by
 cases r with
 | ok s=>exact .ok _
 | error e=>exact .err (h e rfl)
theorem zdf(ty:Int)(s:St):NZ (zw ty s):=by unfold zw;split;exact .ok _;exact zet _ _
theorem zry(fs:List F)(ls:List Int)(w:W)(s:St):NZ (zbO fs ls w s):=by
 unfold zbO
 repeat' split
 all_goals first
  | exact .ok _
  | exact zoJ (zet _ _)
  | exact zet _ _
  | exact zoI _
theorem zrz{fs:List F}{ls:List Int}{ty deep:Int}{lk:zkx}(hl:∀a d,NZ (lk a d))(w:W)(s:St):NZ (zJ fs ls ty deep lk w s):=by
 unfold zJ
 split
 .exact .err (by omega)
 split
 .exact .err (by omega)
 split
 .have:=hl w.body (deep+1)
  cases hq:lk w.body (deep+1)with
  | ok u=>exact .ok _
  | error e=>rw[hq]at this;exact .err (this e rfl)
 split
 .have ht:=zet [1] s
  cases hq:zW [1] s with
  | error e=>rw[hq]at ht;exact .err (ht e rfl)
  | ok s1 =>
   have:=hl w.body (deep+1)
   simp only
   cases hq:lk w.body (deep+1)with
   | error e=>rw[hq]at this;exact .err (this e rfl)
   | ok u =>
    simp only
    split
    .have:=hl w.other (deep+1)
     cases hq:lk w.other (deep+1)with
     | error e=>rw[hq]at this;exact .err (this e rfl)
     | ok u=>exact .ok _
    .exact .ok _
 split
 .have ht:=zet [1] s
  cases hq:zW [1] s with
  | error e=>rw[hq]at ht;exact .err (ht e rfl)
  | ok s1 =>
   simp only
   split
   .exact zoJ (zdf _ _)
   .exact .ok _
 split
 .split
  .have ht:=zdf ty s
   cases hq:zw ty s with
   | error e=>rw[hq]at ht;exact .err (ht e rfl)
   | ok s1=>exact .ok _
  .exact .ok _
 split
 .have ht:=zdf ty s
  cases hq:zw ty s with
  | error e=>rw[hq]at ht;exact .err (ht e rfl)
  | ok s1=>exact .ok _
 split
 .exact .ok _
 .exact zry _ _ _ _
theorem zjG{fs:List F}{ls:List Int}{ty deep:Int}{lk:zkx}(hl:∀a d,NZ (lk a d)):∀(ws:List W) (s:St),NZ (zD fs ls ty deep lk ws s)
 | [],s=>.ok _
 | w::ws,s=>by
  rw[zD]
  have:=zrz (fs:=fs) (ls:=ls) (ty:=ty) (deep:=deep) hl w s
  cases hq:zJ fs ls ty deep lk w s with
  | error e=>rw[hq]at this;exact .err (this e rfl)
  | ok s1=>exact zjG hl ws s1
theorem zoK(fs:List F)(ls:List Int)(ty:Int)(lists:To):∀(k:Nat) (a d:Int),NZ (zP fs ls ty lists k a d)
 | 0,a,d=>.err (by omega)
 | k+1,a,d=>by
  rw[zP]
  have:=zjG (fs:=fs) (ls:=ls) (ty:=ty) (deep:=d) (zoK fs ls ty lists k) (lists.getD a.toNat []) ⟨[],false⟩
  cases hq:zD fs ls ty d (zP fs ls ty lists k) (lists.getD a.toNat []) ⟨[],false⟩with
  | error e=>rw[hq]at this;exact .err (this e rfl)
  | ok s =>
   simp only
   unfold zCr
   have:NZ (if d=0 then zw ty s else .ok s):=by
    split
    .exact zdf _ _
    .exact .ok _
   cases hq:(if d=0 then zw ty s else .ok s:Res St)with
   | error e=>rw[hq]at this;exact .err (this e rfl)
   | ok s' =>
    simp only
    split
    .exact .ok _
    .exact .err (by omega)
theorem zmi(a:Int):∀(ns:List Int) (named:List Bool),NZ (zaJ a ns named)
 | [],named=>.ok _
 | n::ns,named=>by
  rw[zaJ]
  unfold zdu
  split
  .rename_i e he
   split at he
   .cases he
   .cases he;exact .err (by omega)
  .exact zmi a ns _
theorem zrA(a:Int):∀(ws:List W) (named:List Bool),NZ (zha a ws named)
 | [],named=>.ok _
 | w::ws,named=>by
  rw[zha]
  have:=zmi a (zj w) named
  cases hq:zaJ a (zj w) named with
  | error e=>rw[hq]at this;exact .err (this e rfl)
  | ok n=>exact zrA a ws n
theorem zoL:∀(ls:To) (k:Nat) (named:List Bool),NZ (zbD k ls named)
 | [],k,named=>.ok _
 | l::ls,k,named=>by
  rw[zbD]
  have:=zrA (k:Int) l named
  cases hq:zha (k:Int) l named with
  | error e=>rw[hq]at this;exact .err (this e rfl)
  | ok n=>exact zoL ls (k+1) n
theorem zrB(ls:To):NZ (zb2 ls):=by
 unfold zb2
 split
 .exact .err (by omega)
 .have:=zoL ls 0 (yaj ls.length false)
  cases hq:zbD 0 ls (yaj ls.length false)with
  | error e=>rw[hq]at this;exact .err (this e rfl)
  | ok n =>
   simp only
   split
   .exact .ok _
   .exact .err (by omega)
theorem zmj(fs:List F)(f:F):NZ (zm fs f):=by
 unfold zm
 split
 .exact .err (by omega)
 .have:=zrB f.lists
  cases hq:zb2 f.lists with
  | error e=>rw[hq]at this;exact .err (this e rfl)
  | ok u=>exact zoK _ _ _ _ _ _ _
theorem zfK(fs:List F):∀r,NZ (zN fs r)
 | []=>.ok _
 | f::r=>by
  rw[zN]
  have:=zmj fs f
  cases hq:zm fs f with
  | error e=>rw[hq]at this;exact .err (this e rfl)
  | ok u=>exact zfK fs r
theorem zrC(m:M):NZ (zav m):=by
 unfold zav
 split
 .exact .err (by omega)
 .have:=zfK m.funcs m.funcs
  cases hq:zN m.funcs m.funcs with
  | error e=>rw[hq]at this;exact .err (this e rfl)
  | ok u =>
   simp only
   split
   .exact .ok _
   .exact .err (by omega)
theorem zuU{m:M}(h:znb (zav m)=0):zav m=.ok ():=by
 cases hq:zav m with
 | ok u=>rfl
 | error e=>rw[hq]at h;exact absurd h (zrC m e hq)
def zFy:List UInt8:=[40,32,109,111,100,117,108,101,32,40,32,105,109,112,111,114,116,32,34,101,110,118,34,32,34,105,110,34,32,40,32,102,117,110,99,32,40,32,114,101,115,117,108,116,32,105,54,52,32,41,32,41,32,41,32,40,32,105,109,112,111,114,116,32,34,101,110,118,34,32,34,111,117,116,34,32,40,32,102,117,110,99,32,40,32,112,97,114,97,109,32,105,54,52,32,41,32,41,32,41,32,40,32,105,109,112,111,114,116,32,34,101,110,118,34,32,34,116,114,97,112,34,32,40,32,102,117,110,99,32,40,32,112,97,114,97,109,32,105,51,50,32,41,32,41,32,41,32,40,32,109,101,109,111,114,121,32,49,32,41,32,40,32,103,108,111,98,97,108,32,105,51,50,32,40,32,105,51,50,46,99,111,110,115,116,32,49,54,32,41,32,41,32,40,32,102,117,110,99,32,36,102,32,40,32,114,101,115,117,108,116,32,105,51,50,32,41,32]
def zyd:List UInt8:=[32,41,32,40,32,101,120,112,111,114,116,32,34,109,97,105,110,34,32,40,32,102,117,110,99,32,51,32,41,32,41,32,41,10]
def zgQ(t:List UInt8):List UInt8:=zFy++t++zyd
def t7:List UInt8:=[105,51,50,46,99,111,110,115,116,32,55]
def t07:List UInt8:=[105,51,50,46,99,111,110,115,116,32,48,55]
def zye:List UInt8:=[105,51,50,46,99,111,110,115,32,55]
theorem zwh:zgu 24 (zgQ t7)=.ok zbb:=by kernel_rfl
theorem zrD:zgu 24 (zgQ t07)=.error 11:=by kernel_rfl
theorem zmk:zgu 24 (zgQ zye)=.error 2:=by kernel_rfl
def zCR:List Tok:=zgO zoH (zcN { op:=1,ty:=1,n:=7,body:=0,other:=0,name:=[] }++[])++[]
theorem zFz:zpY zbb.funcs zCR [{ zoH with lists:=[]++[[zaX { op:=1,ty:=1,n:=7,body:=0,other:=0,name:=[] }]] }] :=
 .cons ⟨_,_,_,rfl,.leaf (by decide) (by decide) ⟨by decide,by decide⟩ (.nil _ _),rfl⟩ .nil
theorem zCS:zf9 (zbV zbb zCR)=zgQ t7:=by kernel_rfl
theorem zkS{s:List UInt8}:zih s:=trivial
theorem zyf:zFy.length=218:=by rfl
theorem zuV:zyd.length=34:=by rfl
theorem zhg(t:List UInt8):(zgQ t).length=t.length+252:=by
 simp only[zgQ,yab,zyf,zuV];omega
theorem zCT:∀f∈zbb.funcs,Al.SzE f:=λf hf=>by
 simp only[zbb,yc4]at hf
 subst hf
 exact⟨by decide,by decide,by decide,by decide⟩
section
variable {G : Env} {J : AS} {R : Out -> AS -> Prop}
theorem zoM{t:List UInt8}(hl:t.length<2^40)(h:R (.ret (.str (zgQ t))) J):zzQ G 10 [.str t] J R:=by
 refine zw7 rfl ?_
 have e:∀l:List UInt8,l=zgQ t->R (.ret (.str l)) J:=λl q=>q▸h
 simp[zFT]
 refine⟨by omega,by omega,?_⟩
 refine e _ ?_
 simp[zgQ,zFy,zyd]
theorem zml(h:∀v J',Al.MO J' v zbb->ze J J'->R (.ret v) J'):zzQ G 11 [] J R:=by
 refine zw8 rfl ?_
 simp[zFU,splice]
 refine h _ _ ⟨_,rfl,.inr ⟨_,_,rfl,trivial,.cons ⟨_,_,_,rfl,.inl ⟨rfl,rfl⟩,.inl ⟨rfl,rfl⟩,.inr ⟨_,_,rfl,trivial,.cons (.inr ⟨_,rfl,trivial⟩) .nil⟩⟩ .nil⟩⟩ ((ze.refl J).newO.setO (yah _))
theorem zyg:∀f∈zbb.funcs,Pf 24 f:=λf hf=>by
 simp only[zbb,yc4]at hf
 subst hf
 exact⟨by decide,λt ht=>(by cases ht),λt ht=>(by cases ht),.inr (.inl rfl)⟩
theorem zyh:∀f∈zbb.funcs,f.lists.length<=2^40/\∀ws∈f.lists,ws.length<=2^40:=λf hf=>by
 simp only[zbb,yc4]at hf
 subst hf
 exact⟨by decide,λws hw=>by simp[zoH]at hw;subst hw;decide⟩
theorem ok7:zih (zgQ t7):=zkS
theorem zGt:zih (zgQ t07):=zkS
theorem zCU:zih (zgQ zye):=zkS
theorem zyi(V:zdw G)(h00:0<J.nf/\J.F 0=.alive)(h:∀J',ze J J'->R (.ret (.bool true)) J'):zzQ G 12 [] J R:=by
 refine zw9 rfl ?_
 simp[zFV]
 refine zoM (t:=t7) (by decide) ?_
 simp
 refine zkQ V h00 ok7 (by rw[zhg];decide) (λe q=>by rw[zwh]at q;cases q) λm hm mv J1 hv1 A1=>?_
 rw[zwh]at hm
 cases hm
 have h01:0<J1.nf/\J1.F 0=.alive:=⟨by have:=A1.nf;omega,(A1.fam 0 h00.1).trans h00.2⟩
 have hv1':=hv1
 obtain⟨fv,rfl,hof⟩:=hv1'
 have fv1:=znz hof
 have B1:ze J1 ((J1.newO [ycY,.int .i64 0,.int .i64 0]).setO J1.no [fv,.int .i64 zbb.memory,.int .i64 zbb.main]):=(ze.refl J1).newO.setO (yah _)
 have ho1:((J1.newO [ycY,.int .i64 0,.int .i64 0]).setO J1.no [fv,.int .i64 zbb.memory,.int .i64 zbb.main]).objs J1.no=some [fv,.int .i64 zbb.memory,.int .i64 zbb.main]:=by simp
 have hl1:J1.no<((J1.newO [ycY,.int .i64 0,.int .i64 0]).setO J1.no [fv,.int .i64 zbb.memory,.int .i64 zbb.main]).no:=by simp
 simp[fv1,splice]
 generalize (J1.newO [ycY,.int .i64 0,.int .i64 0]).setO J1.no [fv,.int .i64 zbb.memory,.int .i64 zbb.main]=Z1 at *
 have A2:=A1.trans B1
 refine zoM (t:=t07) (by decide) ?_
 simp
 refine zkQ V ⟨by have:=B1.nf;omega,(B1.fam 0 h01.1).trans h01.2⟩ zGt (by rw[zhg];decide) (λe q J2 C2=>?_) λm hm=>by rw[zrD]at hm;cases hm
 rw[zrD]at q
 cases q
 simp[zgD,splice]
 have C3:ze J2 ((J2.newO [ycY,.int .i64 0,.int .i64 0]).setO J2.no [ycY,.int .i64 0,.int .i64 0]):=(ze.refl J2).newO.setO (yah _)
 generalize (J2.newO [ycY,.int .i64 0,.int .i64 0]).setO J2.no [ycY,.int .i64 0,.int .i64 0]=Z2 at *
 have C4:=C2.trans C3
 have B2:=B1.trans C4
 refine zoM (t:=zye) (by decide) ?_
 simp
 refine zkQ V ⟨by have:=B2.nf;omega,(B2.fam 0 h01.1).trans h01.2⟩ zCU (by rw[zhg];decide) (λe q J4 C5=>?_) λm hm=>by rw[zmk]at hm;cases hm
 rw[zmk]at q
 cases q
 simp[zgD,splice]
 have C6:ze J4 ((J4.newO [ycY,.int .i64 0,.int .i64 0]).setO J4.no [ycY,.int .i64 0,.int .i64 0]):=(ze.refl J4).newO.setO (yah _)
 generalize (J4.newO [ycY,.int .i64 0,.int .i64 0]).setO J4.no [ycY,.int .i64 0,.int .i64 0]=Z4 at *
 have C7:=C4.trans (C5.trans C6)
 have B4:=B1.trans C7
 refine zml λv5 J5 hv5 A5=>?_
 simp
 refine znE V.pow hv5 zFz zyg (by decide) zyh (by decide) (by decide) (by rw[zCS,zhg];decide) λJ6 A6=>?_
 rw[zCS]
 simp
 refine zoM (t:=t7) (by decide) ?_
 have C8:=(C7.trans A5).trans A6
 have ho6:=(C8.obj J1.no hl1).trans ho1
 simp[ho6,fv1]
 refine zml λv8 J8 hv8 A8=>?_
 have C9:=C8.trans A8
 have ho8:=(C9.obj J1.no hl1).trans ho1
 have B8:=(A1.trans B1).trans C9
 have hme:=zFw hv1 (B1.trans C9).nf λf hf=>(B1.trans C9).fam f hf
 have hM:=Al.m_e (J:=J8) ⟨by have:=B8.nf;omega,(B8.fam 0 h00.1).trans h00.2⟩ hme
 simp[ho8,fv1]
 refine Al.eqM_calls hM hv8 (by decide) zCT λJ9 A9=>?_
 simp
 exact h _ (B8.trans A9)
end
end Go.Proofs.YtohfclafhegadaaGreatDoor

namespace Go.Proofs.YtohfclafhegadaaGreatDoor
open Go Go.Abs Go.RowKit
def zb5(w:World)(v:AV)(cs:List Value):Prop:=v.cells.length=cs.length/\∀j (h:j<v.cells.length) (h':j<cs.length),VR (Mp.all w) AS.zero.F w v.cells[j] cs[j]
theorem zb5.one{w:World}{v:AV}{c:Value}(h:VR (Mp.all w) AS.zero.F w v c)(hv:v.cells=[v]):zb5 w v [c]:=by
 refine⟨by rw[hv];rfl,λj h1 h2=>?_⟩
 have:j=0:=by simpa using h2
 subst this
 simpa [hv]using h
theorem zb5.tO{w:World}{v:AV}{c:Value}(h:zb5 w v [c])(hv:v.cells=[v]):VR (Mp.all w) AS.zero.F w v c:=by
 have:=h.2 0 (by rw[hv];simp) (by simp)
 simpa [hv]using this
def zjH{H:Type}(t:TypeId)(d:DataW H):Prop:=(d.weights yca t).all (·<=reachBytes)=true
theorem zCV{H:Type}{e:TypeId}:∀{ds:List (DataW H)},(DataW.weightsAll yca e ds).all (·<=reachBytes)=true->∀d∈ds,zjH e d
 | [],_=>by simp
 | d::ds,h=>by
  rw[DataW.weightsAll,ycF,Bool.and_eq_true]at h
  intro x hx
  rcases ybD.1 hx with rfl|hx
  .exact h.1
  .exact zCV h.2 x hx
theorem zmm{H:Type}:∀{ts:List TypeId} {ds:List (DataW H)},(DataW.weightsEach yca ts ds).all (·<=reachBytes)=true->∀(i:Nat) t d,ts[i]?=some t->ds[i]?=some d->zjH t d
 | [],ds,_=>by simp
 | _::_,[],_=>by simp
 | t::ts,d::ds,h=>by
  rw[DataW.weightsEach,ycF,Bool.and_eq_true]at h
  intro i t' d' h1 h2
  cases i with
  | zero=>simp at h1 h2;subst h1 h2;exact h.1
  | succ i=>exact zmm h.2 i t' d' (by simpa using h1) (by simpa using h2)
theorem exists_list{X:Type}{n:Nat}{P:Nat->X->Prop}(h:∀i,i<n->∃x,P i x):∃l:List X,l.length=n/\∀i (hi:i<l.length),P i l[i]:=by
 induction n with
 | zero=>exact⟨[],rfl,λi hi=>by simp at hi⟩
 | succ n ih =>
  obtain⟨l,hl,hp⟩:=ih λi hi=>h i (by omega)
  obtain⟨x,hx⟩:=h n (by omega)
  refine⟨l++[x],by simp[hl],λi hi=>?_⟩
  by_cases hi':i<l.length
  .rw[List.getElem_append_left hi'];exact hp i hi'
  .have e:i=l.length:=by simp at hi;omega
   subst e
   rw[List.getElem_append_right (by omega)]
   simpa [hl]using hx
theorem All2.of_get{α β:Type}{R:α->β->Prop}:∀{xs:List α} {ys:List β},xs.length=ys.length->(∀i (h:i<xs.length) (h':i<ys.length),R xs[i] ys[i])->All2 R xs ys
 | [],[],_,_=>.nil
 | [],_::_,h,_=>by simp at h
 | _::_,[],h,_=>by simp at h
 | x::xs,y::ys,h,hr=>.cons (hr 0 (by simp) (by simp)) (All2.of_get (by simpa using h) λi h1 h2=>hr (i+1) (ybo h1) (ybo h2))
theorem zpF{H T:Type}{enc:TypeId × Value->H}{w:World}{fuel:Nat}{t e:TypeId}{cs:List Value}{x:DataW H × List MemPlace}{sz:Nat}(Rel:AV->T->Prop)(P:DataW H->Prop)
  (ht:yca.underlying t=some (.slice e)) (hc:yca.cellsOf e=sz) (hsz:0<sz) (hb:0<yca.bytesOf e)
  (ih:∀n cs' d q,DataW.trod enc yca w 0 (λ_=>true) true n e cs'=some (d,q)->zjH e d->P d->∃v o,Rel v o/\zb5 w v cs')
  (h:DataW.trod enc yca w 0 (λ_=>true) true fuel t cs=some x) (hw:zjH t x.1) (hP:∀ds rs,x.1=.slice ds rs->∀d∈ds,P d) :
  ∃(v:AV) (os:List T),zb5 w v cs/\((os=[]/\v=.nilsl)\/∃vs,v=.sl (.stat false) sz vs/\All2 Rel vs os)/\os.length<=2^47/\(∀ds rs,x.1=.slice ds rs->os.length<=ds.length)/\os.length*yca.bytesOf e<=2^47-4096:=by
 rcases DataW.trod_slice ht h with ⟨rfl,rfl⟩|⟨a,len,cap,elems,rest,n,rfl,rfl,rfl,hb0,hl,hm,hlen,hel,hsp,hns⟩
 .exact⟨.nilsl,[],.one .nilsl rfl,.inl ⟨rfl,rfl⟩,by simp,by simp,by simp⟩
 obtain⟨hrl,hrest⟩:=hsp rfl
 have hw':=hw
 unfold zjH DataW.weights at hw'
 rw[ht]at hw'
 simp only[ycE,ycF,Bool.and_eq_true,ybb,decide_eq_true_eq]at hw'
 obtain⟨w1,w2,w3⟩:=hw'
 have hel2:=zCV w2
 have hel3:=hP _ _ rfl
 have each:∀i,i<len->∃p:AV × T,Rel p.1 p.2/\∃cs',w.cells? 0 (a.add (i*sz)) sz=some cs'/\zb5 w p.1 cs':=λi hi=>by
  have h1:=hel i hi
  have hi':i<elems.length:=by omega
  rw[hc,yau hi',ybB]at h1
  obtain⟨cs',h2,h3⟩:=h1
  obtain⟨v,o,h4,h5⟩:=ih n cs' elems[i].1 elems[i].2 h3 (hel2 _ (yaW (yaw hi'))) (hel3 _ (yaW (yaw hi')))
  exact⟨(v,o),h4,cs',h2,h5⟩
 obtain⟨l,hll,hp⟩:=exists_list each
 have hcap:len<=2^47:=by
  have h1:(elems.length+rest.length)*1<=(elems.length+rest.length)*yca.bytesOf e:=Nat.mul_le_mul_left _ hb
  have h2:reachBytes<=2^47:=by unfold reachBytes;omega
  omega
 have hcap2:len*yca.bytesOf e<=2^47-4096:=by
  have h1:len*yca.bytesOf e<=(elems.length+rest.length)*yca.bytesOf e:=Nat.mul_le_mul_right _ (by omega)
  have h2:reachBytes=2^47-4096:=rfl
  omega
 have hall:All2 Rel (l.map (·.1)) (l.map (·.2)):=All2.of_get (by simp) λi h1 h2=>by simpa using (hp i (by simpa using h1)).1
 by_cases hz:cap=0
 .have e1:len=0:=by omega
  have e2:l=[]:=List.eq_nil_of_length_eq_zero (by omega)
  subst e1 hz e2
  exact⟨.sl (.stat false) sz [],[],.one (.slz ..) rfl,.inr ⟨[],rfl,.nil⟩,by simp,by simp,by simp⟩
 have h0:∃c,w.cell? a=some c:=by
  have key:∀(y:DataW H × List MemPlace),(w.cells? 0 (a.add (0*yca.cellsOf e)) (yca.cellsOf e)).bind (DataW.trod enc yca w 0 (λ_=>true) true n e)=some y->∃c,w.cell? a=some c:=λy hy=>by
   rw[ybB]at hy
   obtain⟨cs',h2,_⟩:=hy
   obtain⟨_,h3,h4⟩:=World.cells?_some h2
   have h5:=h4 0 (by omega)
   rw[Nat.zero_mul]at h5
   have e:(a.add 0).add 0=a:=by simp[Addr.add]
   rw[e,yau (by omega)]at h5
   exact⟨_,h5⟩
  by_cases hl0:0<len
  .have:=hel 0 hl0
   rw[yau (by omega)]at this
   exact key _ this
  .have e1:len=0:=by omega
   subst e1
   have:=hrest 0 (by omega)
   rw[yau (by omega)]at this
   exact key _ this
 obtain⟨c0,hc0⟩:=h0
 obtain⟨B,off,spot⟩:=a
 have hBs:B<w.heap.size/\spot=none:=by
  unfold World.cell? at hc0
  split at hc0
  .rename_i c t' fr hh
   refine⟨(yaU.1 hh).1,?_⟩
   split at hc0
   .cases hc0
   .rename_i hs;simpa using hs
  .cases hc0
 obtain⟨hB,rfl⟩:=hBs
 have hsz':∀v∈l.map (·.1),v.cells.length=sz:=λv hv=>by
  obtain⟨p,hp',rfl⟩:=List.mem_map.1 hv
  obtain⟨i,hi,rfl⟩:=List.mem_iff_getElem.1 hp'
  obtain⟨_,cs',h2,h3⟩:=hp i hi
  rw[h3.1,(World.cells?_some h2).2.1]
 have hfl:=zr sz (l.map (·.1)) hsz'
 have key:∀j (hj:j<(zy (l.map (·.1))).length),∃c,w.cell? ⟨B,off+j,none⟩=some c/\VR (Mp.all w) AS.zero.F w (zy (l.map (·.1)))[j] c:=λj hj=>by
  have hj':j<l.length*sz:=by simpa [hfl]using hj
  have hi:j/sz<l.length:=(Nat.div_lt_iff_lt_mul hsz).2 hj'
  have hr:j%sz<sz:=Nat.mod_lt _ hsz
  obtain⟨_,cs',h2,h3⟩:=hp (j/sz) hi
  obtain⟨_,h4,h5⟩:=World.cells?_some h2
  have h6:=h5 (j%sz) hr
  rw[zF,zF,Nat.add_assoc,ydH,yau (by omega)]at h6
  refine⟨_,h6,?_⟩
  have hl1:l[j/sz].1.cells.length=sz:=by rw[h3.1,h4]
  have h7:=(zjX hsz' (i:=j/sz) (v:=l[j/sz].1) (by simp[yau hi]) (j:=j%sz) (by omega)).2
  rw[ydH,yau hj]at h7
  rw[yaR.inj h7]
  exact h3.2 _ _ _
 have hv:=VR.sl (M:=Mp.all w) (F:=AS.zero.F) (w:=w) (.stat false) sz (l.map (·.1)) B off cap (λj=>(w.cell? ⟨B,off+j,none⟩).getD undef) (by simp;omega) (by simp[Own.full]) hsz' (by simp[Mem,Mp.all,hB])
  (λ_ j hj=>by obtain⟨c,h1,_⟩:=key j hj;simp[h1]) (λ_ j hj=>by obtain⟨c,h1,h2⟩:=key j hj;simpa [h1]using h2)
 rw[ybb,hll]at hv
 exact⟨_,l.map (·.2),.one hv rfl,.inr ⟨_,rfl,hall⟩,by simpa [hll]using hcap,λds rs e=>by
  simp only[DataW.slice.injEq]at e
  rw[<-e.1]
  simp;omega,by simpa [hll]using hcap2⟩
end Go.Proofs.YtohfclafhegadaaGreatDoor
namespace Go
open Go.ChangeShapes Go.WideShapes Go.ChangeAt Go.RowKit
theorem za0{H:Type}{enc:TypeId × Value->H}{a:Assume}{C:Checked}{os:Os}{f:FuncId}{fn:Func}{s:ChangeSpec}{conds:List PathCond}{apart fresh handsOn again:Bool}{X:World->Array Value->Prop}
  (hX:∀(w w':World) (args:Array Value),w.heap=w'.heap->X w args->X w' args)
  (own:ownKnob C.prog.godebug=none) (started:os.Started) (noInit:C.prog.inits.idxOf? f=none) (hfn:C.prog.funcs[f]?=some fn)
  (witness:∃(w:World) (tape:Tape) (i:Input),w.os=os/\(w.forCall tape i).Shaped C.prog/\i.vars=[]/\Input.okWide C.prog (w.forCall tape i) .any w.heap.size f i /\
   ((s.pre enc C.prog fn conds apart (w.forCall tape i).memory i.args/\X (w.forCall tape i).memory i.args)/\sizedMet enc C.prog fn (OpenSpec.ofChange s) apart (w.forCall tape i).memory i.args)/\a.holds C.prog (lone (Frame.enter C.prog f i.args .normal) [] (w.forCall tape i)))
  (contract:∀(W:World) (base:Nat) (args:Array Value) (ds gs:List (DataW H)) (before:List MemPlace),
   (∀(j:Nat) t v,fn.params[j]?=some t->args[j]?=some v->Value.okWide C.prog W .any base t v) ->
   DataW.Whole enc C.prog fn.params.toList s.vars apart W args.toList ds gs before->(DataW.weightsEach C.prog (fn.params.toList++s.plain.varTypes C.prog) (ds++gs)).all (·<=reachBytes)=true->W.ShapedOpen C.prog->X W args ->
   Calls C.prog f args W λe W'=>∃v,e=.returned v/\s.post enc C.prog fn apart fresh handsOn again W args v W') :
  ReturnsInHanded a C os f .any (λw args=>(s.pre enc C.prog fn conds apart w args/\X w args)/\sizedMet enc C.prog fn (OpenSpec.ofChange s) apart w args) (s.post enc C.prog fn apart fresh handsOn again):=by
 refine returnsInHanded_of_calls own started noInit witness ?_
 intro w tape i _ hsh _ hok hpre hholds
 obtain⟨_,_,_,fn',hfn',_,_,_,_,hval⟩:=hok
 have e:fn'=fn:=yaR.inj (hfn'.symm.trans hfn)
 subst e
 obtain⟨⟨⟨ds,gs,before,hw,hc⟩,hx⟩,hz⟩:=hpre
 have hw':=DataW.Whole.of_heap (w':=w.forCall tape i) (by rfl) hw
 refine(contract (w.forCall tape i) w.heap.size i.args ds gs before hval hw' (hz.weights hw) hsh (hX _ _ _ (by rfl) hx)).mono λe W' ⟨v,he,hp⟩=>?_
 subst he
 exact ChangeSpec.post_blind hp
theorem zkT{H:Type}{enc:TypeId × Value->H}{P:Program}{w:World}{base:Nat}{sp:Nat->Bool}{held:Bool}{fuel:Nat}{t e:TypeId}{n:Nat}{cs:List Value}{ls:List (List UInt8)}{p:List MemPlace}
  (ht:P.underlying t=some (.array n e)) (he:P.underlying e=some .string) (hce:P.cellsOf e=1) (hct:P.cellsOf t=n)
  (h:DataW.trod enc P w base sp held fuel t cs=some (.agg (ls.map λl=>.lit (.string l)),p)):cs=ls.map λl=>Value.string ⟨l.toArray⟩:=by
 cases fuel with
 | zero=>simp[DataW.trod]at h
 | succ fuel =>
  simp only[DataW.trod,ht,hce,hct,Nat.mul_one]at h
  split at h
  .rename_i hl
   obtain⟨xs,hm,hx⟩:=ybC.1 h
   have hxs:xs.map (·.1)=ls.map λl=>(DataW.lit (.string l):DataW H):=by
    have:=congrArg Prod.fst hx
    simpa using this
   have hxl:xs.length=n:=by simpa using Lib.mapM_length hm
   have hzl:ls.length=n:=by
    have:=congrArg ycH hxs
    simp at this
    omega
   apply List.ext_getElem?
   intro i
   by_cases hi:i<n
   .obtain⟨b,hb,hf⟩:=Lib.mapM_at hm i i (by simp[hi])
    obtain⟨s,hc,rfl,_⟩:=DataW.trod_string he hf
    have h1:cs[i]?=some (.string s):=by
     have:=congrArg (·[0]?) hc
     simpa [List.getElem?_take,yas]using this
    have h2:(xs.map (·.1))[i]?=some (DataW.lit (.string s.data.toList):DataW H):=by simp[hb]
    rw[hxs]at h2
    simp only[ydI,ybC,DataW.lit.injEq,Lit.string.injEq]at h2
    obtain⟨l,hl1,hl2⟩:=h2
    simp[h1,hl1,hl2]
   .rw[yb3 (by omega),yb3 (by simp;omega)]
  .cases h
end Go
namespace Go.Proofs.YtohfclafhegadaaGreatDoor
open Go Go.Abs Go.RowKit
theorem own:ownKnob yca.godebug=none:=by kernel_rfl
abbrev zGu : List (String × DataW Unit) := [("math/bits.deBruijn32tab", Rows.laid_math_bits_deBruijn32tab), ("math/bits.deBruijn64tab", Rows.laid_math_bits_deBruijn64tab), ("internal/strconv.uint64pow10", Rows.laid_internal_strconv_uint64pow10), ("unicode/utf8.acceptRanges", Rows.laid_unicode_utf8_acceptRanges), ("strconv.ErrRange", Rows.laid_strconv_ErrRange), ("strconv.ErrSyntax", Rows.laid_strconv_ErrSyntax), ("unicode.White_Space", Rows.laid_unicode_White_Space), ("strings.asciiSpace", Rows.laid_strings_asciiSpace), ("mortise/bin.bytesOf", Rows.laid_mortise_bin_bytesOf), ("mortise/bin.plain", Rows.laid_mortise_bin_plain), ("mortise/bin.numbered", Rows.laid_mortise_bin_numbered), ("mortise/wasm.signs", Rows.laid_mortise_wasm_signs), ("unicode/utf8.first", Rows.laid_unicode_utf8_first)]
end Go.Proofs.YtohfclafhegadaaGreatDoor
namespace Go
open Go.ChangeShapes Go.WideShapes Go.ChangeAt Go.RowKit
theorem zfL{P:Program}{w:World}:∀{l:List (String × DataW Unit)} {ps:List MemPlace} {n:String} {d:DataW Unit} {k:Nat},DataW.LaidVars P w l ps->l[k]?=some (n,d)->∃g t cs fuel p,P.globalNamed n=some g/\(P.globals[g]?).map (·.type)=some t/\w.var? P n=some cs/\DataW.trod (λ_=>()) P w 0 (λ_=>true) false fuel t cs.toList=some (d,p)
 | [],ps,n,d,k,h,hk=>by simp at hk
 | (n',d')::l,ps,n,d,k,h,hk=>by
  obtain⟨g,t,cs,fuel,p,q,h1,h2,h3,h4,h5,rfl⟩:=h
  cases k with
  | zero =>
   simp only[ydF,yaR.injEq,Prod.mk.injEq]at hk
   obtain⟨rfl,rfl⟩:=hk
   exact⟨g,t,cs,fuel,p,h1,h2,h3,h4⟩
  | succ k=>exact zfL h5 (by simpa using hk)
theorem zjI{g:List UInt8 × List UInt8->List Value}:∀(ls:List (List UInt8 × List UInt8)) (cs:List Value),cs.length=ls.length*2->(∀i (h:i<ls.length),(cs.drop (i*2)).take 2=g ls[i])->cs=(ls.map g).flatten
 | [],cs,h,_=>by simpa using h
 | l::ls,cs,h,hg=>by
  have h0:=hg 0 (by simp)
  have ih:=zjI (g:=g) ls (cs.drop 2) (by rw[ydj,h,yac];omega) λi hi=>by
   have:=hg (i+1) (ybo hi)
   rw[List.drop_drop]
   have e:2+i*2=(i+1)*2:=by omega
   rw[e];exact this
  simp only[yaL,ydJ,<-ih]
  simp at h0
  rw[<-h0,ydw]
theorem zi4{H:Type}{enc:TypeId × Value->H}{P:Program}{w:World}{base:Nat}{sp:Nat->Bool}{held:Bool}{fuel:Nat}{t e u:TypeId}{n:Nat}{cs:List Value}{ls:List (List UInt8 × List UInt8)}{p:List MemPlace}
  (ht:P.underlying t=some (.array n e)) (he:P.underlying e=some (.array 2 u)) (hu:P.underlying u=some .string) (hcu:P.cellsOf u=1) (hce:P.cellsOf e=2) (hct:P.cellsOf t=n*2)
  (h:DataW.trod enc P w base sp held fuel t cs=some (.agg (ls.map λl=>.agg [.lit (.string l.1),.lit (.string l.2)]),p)):cs=(ls.map λl=>[Value.string ⟨l.1.toArray⟩,Value.string ⟨l.2.toArray⟩]).flatten:=by
 cases fuel with
 | zero=>simp[DataW.trod]at h
 | succ fuel =>
  simp only[DataW.trod,ht,hce,hct]at h
  split at h
  .rename_i hl
   obtain⟨xs,hm,hx⟩:=ybC.1 h
   have hxs:xs.map (·.1)=ls.map λl=>(DataW.agg [.lit (.string l.1),.lit (.string l.2)]:DataW H):=by
    have:=congrArg Prod.fst hx
    simpa using this
   have hxl:xs.length=n:=by simpa using Lib.mapM_length hm
   have hzl:ls.length=n:=by
    have:=congrArg ycH hxs
    simp at this
    omega
   refine zjI ls cs (by omega) λi hi=>?_
   have hin:i<n:=by omega
   obtain⟨b,hb,hf⟩:=Lib.mapM_at hm i i (by simp[hin])
   obtain⟨b1,b2⟩:=b
   have hbe:b1=(DataW.agg ([ls[i].1,ls[i].2].map λl=>.lit (.string l)):DataW H):=by
    have h2:(xs.map (·.1))[i]?=some b1:=by simp[hb]
    rw[hxs]at h2
    have h3:=h2
    rw[ydI,yau hi]at h3
    exact(yaR.inj h3).symm
   rw[hbe]at hf
   exact zkT he hu hcu hce hf
  .cases h
theorem zuW{P:Program}{w:World}{fuel:Nat}{t:TypeId}{ms:Array (String × TypeId)}{cs:List Value}{nm:String}{d:DataW Unit}{p:List MemPlace}(ht:P.underlying t=some (.interface ms))
  (h:DataW.trod (λ_=>()) P w 0 (λ_=>true) false fuel t cs=some (.iface nm d,p)):∃u v,cs=[.iface u v]:=by
 cases fuel with
 | zero=>simp[DataW.trod]at h
 | succ fuel =>
  rw[DataW.trod_step]at h
  unfold DataW.trodStep at h
  rw[ht]at h
  split at h<;>simp_all
end Go
namespace Go.Proofs.YtohfclafhegadaaGreatDoor
open Go Go.Abs Go.RowKit Go.ChangeShapes Go.WideShapes
def zfM:List Value:=(signs.map λp=>[Value.string ⟨p.1.toArray⟩,Value.string ⟨p.2.toArray⟩]).flatten
theorem ziu{M F}{w:World}:∀(ls:List (List UInt8 × List UInt8)) (j:Nat) (h:j<((ls.map λp=>[ycR p.1,ycR p.2]).flatten).length),
  ∃c,((ls.map λp=>[Value.string ⟨p.1.toArray⟩,Value.string ⟨p.2.toArray⟩]).flatten)[j]?=some c/\VR M F w ((ls.map λp=>[ycR p.1,ycR p.2]).flatten)[j] c
 | [],j,h=>by simp at h
 | l::ls,j,h=>by
  simp only[yaL,ydJ,ycT,yde]at h ⊢
  match j with
  | 0=>exact⟨_,rfl,by simpa using VR.str (M:=M) (F:=F) (w:=w) ⟨l.1.toArray⟩⟩
  | 1=>exact⟨_,rfl,by simpa using VR.str (M:=M) (F:=F) (w:=w) ⟨l.2.toArray⟩⟩
  | j+2=>simpa using ziu ls j (by simpa using h)
def spZ:List Int:=(List.range 256).map λc=>if zaz (UInt8.ofNat c)then 1 else 0
theorem znF:laidOutB yca=true:=by kernel_rfl
end Go.Proofs.YtohfclafhegadaaGreatDoor
namespace Go.Proofs.YtohfclafhegadaaGreatDoor
open Go Go.Abs Go.RowKit
abbrev zCW : List String := ["unicode/utf8.first"]
abbrev zGl:List Nat:=(List.range 26).filter λb=>b != 7
noncomputable def ziv(os:Os):World:=(World.doorLaid yca 400 os).layVars yca (zGu.filter λx=>zCW.contains x.1)
end Go.Proofs.YtohfclafhegadaaGreatDoor
