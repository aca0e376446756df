/- Parts of the proof of the row WatBackUpto: contracts of functions, each under the conditions that its theorem names. -/
import Derived.Test.YtohfclafhegadaaGreatDoorZA
import Derived.Test.YtohfclafhegadaaGreatDoorShelf
import Derived.Lib.AppendIntMem
import Derived.Lib.ItoaLen
import Derived.Test.YtohfclafhegadaaGreatDoorTie
import Derived.ProofKit
import Derived.OpenShut
import Derived.ChangeOld
import Derived.ChangeSame
import Derived.ChangeVars
import Derived.Lib.LaidTab
import Derived.LaidLaws
import Derived.LaidHandle
import Derived.ShapedOpen
import Derived.Lay
import Derived.LaidMore
import Derived.Test.YtohfclafhegadaaGreatDoorCards
set_option linter.unusedSimpArgs false
set_option linter.unusedVariables false
set_option maxRecDepth 100000
open List renaming length→ycd,replicate→yaj,length_append→yab,length_take→ybf,length_cons→yac,length_nil→ybl,length_drop→ycJ,append_assoc→ycF,getElem?_append_right→yaI,getElem?_drop→yas,mem_append→ybh,mem_singleton→ycA,mem_of_mem_take→yaB,mem_replicate→ycK,drop_eq_nil_of_le→ycL,take→ycM,take_of_length_le→ycN,dropWhile_cons→ycB,nil_append→ycE,eq_nil_or_concat→ybL,concat_eq_append→ycO,all_cons→yca,all_eq_true→yaM,head?_dropWhile_not→ycP,findIdx?_eq_none_iff→ycQ,findIdx?_cons→ycR,getElem_cons_zero→yaz,mem_cons→ybC,mem_of_getElem?→ycs,findIdx?_eq_some_iff_getElem→ycS,getElem_of_mem→ya9,suffix_cons→ycT,suffix_rfl→ycU,append_nil→yb7,length_pos_iff→ybm,getElem_mem→yaw,find?_eq_none→ycW,take_append_drop→ycX,map_cons→yaL,mem_of_find?_eq_some→ycY,find?_some→ycZ,map_nil→ycG,map_append→yc0,getElem?_eq_some_iff→yaq,getElem?_eq_getElem→yau,getElem?_cons_zero→yc4,flatMap_cons→yaa,cons_append→ycp,drop_eq_getElem_cons→ycq,not_mem_nil→ycz,all_append→ycb,length_map→ybb,mem_map_of_mem→yaW,mem_map→yaV,mem_iff_getElem→ycx,getElem?_map→yc7,getElem?_eq_none→yb2,flatten_cons→yc8,getD_eq_getElem?_getD→ycf
open Nat renaming le_refl→yah,lt_of_le_of_lt→ycV,lt_of_lt_of_le→yag,add_zero→yaK,le_trans→yai,zero_add→yc3,not_lt_zero→yaA,zero_le→ycj,succ_lt_succ→ybn,div_add_mod'→yc6
open Option renaming some→yaR,map_eq_some_iff→ybB,bind_eq_some_iff→ybA
open Array renaming getElem?_eq_some_iff→yaU
open Int renaming toNat_natCast→ybe
open Go.Proofs.Tryz renaming prog→yb9,func175→yc1,ntmps175→yc2
open Go.IntKind renaming wrap→yb4,i64→yam
open Go.Abs.AV renaming str→ycn,int→yco,ptr→ycr,nilsl→ycu,pv→yc5
namespace Go.Proofs.YtohfclafhegadaaGreatDoor
open Go Go.Abs
section
variable {G : Env} {σ : AS} {R : Out → AS → Prop}
end
section
variable {G : Env} {σ : AS} {R : Out → AS → Prop}
end
end Go.Proofs.YtohfclafhegadaaGreatDoor
namespace Go.Proofs.YtohfclafhegadaaGreatDoor
open Go Go.Abs
def zeS(ls:To):Nat:=(ls.map ycd).sum
theorem zcN(a:To)(l:List W):zeS (a++[l])=zeS a+l.length:=by simp[zeS]
end Go.Proofs.YtohfclafhegadaaGreatDoor
set_option maxRecDepth 100000
namespace Go.Proofs.YtohfclafhegadaaGreatDoor.Hd
open Go Go.Abs Go.Proofs.YtohfclafhegadaaGreatDoor
theorem fok:zut zbv zcn 176:=⟨by decide,by decide,by decide,by decide,by decide,⟨_,_,rfl,by decide⟩,by decide,by decide,by decide⟩
theorem fields_calls{G:Env}{σ:AS}{R:Out→AS→Prop}(v3:G.g 0=.pv (.stat true) (.agg zdM))(h:∀x σ',zh σ σ'→σ.no≤x→x<σ'.no→σ'.objs x=some (zcn.map ycn)→R (.ret (.slm x 0 1 47)) σ'):zzQ G 57 [.str zbv] σ R:=zfT fok v3 h
end Go.Proofs.YtohfclafhegadaaGreatDoor.Hd
namespace Go.Proofs.YtohfclafhegadaaGreatDoor
open Go Go.Abs
def inS(l:List UInt8)(c:UInt8):Bool:=l.contains c
def zuB:List AV:=yaj 256 (.bool false)
theorem zc7:zuB.length=256:=List.length_replicate ..
theorem zuC{i:Nat}(h:i<256):zuB[i]?=some (.bool false):=by
 unfold zuB
 rw[List.getElem?_replicate,if_pos h]
theorem zxV:zH yb9 151=some (.agg zuB):=by kernel_rfl
attribute [simp] zxV
def zfp:List UInt8→List AV→List AV
 | [],cs=>cs
 | c::r,cs=>zfp r (splice cs c.toNat [.bool true])
def zi5(l:List UInt8):List AV:=zfp l zuB
theorem zi6:∀(l:List UInt8) (cs:List AV),cs.length=256→(zfp l cs).length=256
 | [],cs,h=>h
 | c::r,cs,h=>by
  have:=c.toNat_lt
  rw[zfp]
  refine zi6 r _ ?_
  simp only[splice,yab,ybf,yac,ybl,ycJ]
  omega
theorem zee(l:List UInt8):(zi5 l).length=256:=zi6 l _ zc7
theorem zne{cs:List AV}{i j:Nat}{v:AV}(hi:i<cs.length):(splice cs i [v])[j]?=if j=i then some v else cs[j]?:=by
 unfold splice
 by_cases h:j<i
 ·rw[ycF,List.getElem?_append_left (by simp;omega),List.getElem?_take_of_lt h,if_neg (by omega)]
 ·by_cases h2:j=i
  ·subst h2
   rw[ycF,yaI (by simp;omega)]
   have:j-(cs.take j).length=0:=by simp;omega
   rw[this];simp
  ·rw[yaI (by simp;omega),if_neg h2,yas]
   congr 1
   simp;omega
theorem zi7:∀(l:List UInt8) (cs:List AV) (b:UInt8),cs.length=256→(zfp l cs)[b.toNat]?=if l.contains b=true then some (.bool true)else cs[b.toNat]?
 | [],cs,b,h=>by simp[zfp]
 | c::r,cs,b,h=>by
  have hc:=c.toNat_lt
  rw[zfp,zi7 r _ b (by simp only[splice,yab,ybf,yac,ybl,ycJ];omega),zne (by omega)]
  by_cases h1:r.contains b=true
  ·simp[h1]
   simp at h1
   simp[h1]
  ·by_cases h2:b=c
   ·subst h2;simp
   ·have:¬b.toNat=c.toNat:=fun e=>h2 (UInt8.toNat_inj.1 e)
    simp at h1
    simp[h1,h2,this]
theorem zuD(l:List UInt8)(b:UInt8):(zi5 l)[b.toNat]?=some (.bool (inS l b)):=by
 have:=b.toNat_lt
 rw[zi5,zi7 l _ b zc7,zuC this]
 unfold inS
 cases l.contains b<;>rfl
theorem zi8{cs:List AV}{i:Nat}{v:AV}(h:∀x∈cs,x.one=true)(hv:v.one=true):∀x∈splice cs i [v],x.one=true:=by
 intro x hx
 unfold splice at hx
 simp only[ybh,ycA]at hx
 rcases hx with (hx|hx)|hx
 ·exact h x (yaB hx)
 ·rw[hx];exact hv
 ·exact h x (List.mem_of_mem_drop hx)
theorem zi9:∀(l:List UInt8) (cs:List AV),(∀x∈cs,x.one=true)→∀x∈zfp l cs,x.one=true
 | [],_,h=>h
 | c::r,cs,h=>zi9 r _ (zi8 h rfl)
theorem zkr(l:List UInt8):∀x∈zi5 l,x.one=true:=zi9 l _ fun x hx=>by rw[(ycK.1 hx).2];rfl
theorem zhP:List.drop 256 zuB=[]:=ycL (by rw[zc7];exact yah _)
section
variable {G : Env} {σ : AS} {R : Out → AS → Prop}
def AsI(l:List UInt8)(σ:AS)(a:Nat→AV)(τ:AS):Prop:=∃(d r:List UInt8),l=d++r∧a 0=.str l∧a 2=.ptr σ.no 0∧a 4=.int .i64 (d.length:Int)∧zh σ τ∧σ.no<τ.no∧∃cs,cs.length=256∧(∀x∈cs,x.one=true)∧τ.objs σ.no=some cs∧zfp r cs=zi5 l
theorem zc8{l:List UInt8}(hl:∀c∈l,c.toNat<128)(hL:l.length≤1000)(h:∀σ',zh σ σ'→R (.ret (.tuple [.agg (zi5 l),.bool true])) σ'):zzQ G 122 [.str l] σ R:=by
 refine zs0 rfl ?_
 simp[zBU]
 refine zas (AsI l σ) (MU 4 (l.length+1)) ⟨[],l,rfl,by simp,by simp,by simp,(zh.refl σ).newO,by simp,zuB,zc7,fun x hx=>by rw[(ycK.1 hx).2];rfl,by simp,rfl⟩ fun a τ hI=>?_
 obtain⟨d,r,hlr,a0,a2,a4,hA,hno,cs,hcs,hone,ho,he⟩:=hI
 cases r with
 | nil =>
  have hd:d=l:=by simp[hlr]
  subst hd
  have hlt:¬((d.length:Int)<(d.length:Int)):=by omega
  have e1:cs=zi5 d:=he
  subst e1
  have ht:ycM 256 (zi5 d)=zi5 d:=ycN (by rw[hcs];exact yah _)
  simp[zj3,znX,a0,a2,a4,hlt,ho,hcs,splice,ht]
  exact⟨hone,h _ (hA.setO (yah _))⟩
 | cons c r =>
  have hc:=hl c (by simp[hlr])
  have hlt:(d.length:Int)<(l.length:Int):=by simp[hlr];omega
  have hi:l[d.length]?=some c:=by simp[hlr]
  have hc2:¬(128:Int)≤(c.toNat:Int):=by omega
  have w1:yb4 .i64 ((d.length:Int)+1)=((d.length+1:Nat):Int):=by rw[zc]<;>omega
  simp[zj3,a0,a2,a4,hlt,ho,hcs,hi,hc2,w1]
  refine⟨by omega,by omega,⟨d++[c],r,by simp[hlr],by simp[a0],by simp[a2],by simp,hA.setO (yah _),by simpa using hno,_,?_,zi8 hone rfl,by simp,he⟩,?_⟩
  ·simp only[splice,yab,ybf,yac,ybl,ycJ]
   omega
  ·simp[MU,a4];omega
theorem zhQ{l:List UInt8}{o:Nat}{b:UInt8}(ho:σ.objs o=some (zi5 l))(h:R (.ret (.bool (inS l b))) σ):zzQ G 172 [.ptr o 0,.int .u8 (b.toNat:Int)] σ R:=by
 refine ztu rfl ?_
 have hb:=b.toNat_lt
 have hb':(b.toNat:Int)<256:=by omega
 have hp:=zuD l b
 simp[zCb,ho,hb',hp]
 simpa using h
def TlI(l s:List UInt8)(o:Nat)(σ:AS)(a:Nat→AV)(τ:AS):Prop:=∃r:List UInt8,r.dropWhile (inS l)=s.dropWhile (inS l)∧a 0=.str r∧a 1=.ptr o 0∧τ=σ
def zHt(a:Nat→AV)(_:AS):Nat:=match a 0 with
 | .str r=>r.length
 | _=>0
theorem zgi{l s:List UInt8}{o:Nat}(ho:σ.objs o=some (zi5 l))(h:R (.ret (.str (s.dropWhile (inS l)))) σ):zzQ G 123 [.str s,.ptr o 0] σ R:=by
 refine zs1 rfl ?_
 simp[zBV]
 refine zas (TlI l s o σ) zHt ⟨s,rfl,by simp,by simp,rfl⟩ fun a τ hI=>?_
 obtain⟨r,hr,a0,a1,rfl⟩:=hI
 cases r with
 | nil =>
  simp[zj4,zj5,a0,a1]
  rw[←hr]at h
  exact h
 | cons c r =>
  simp[zj4,zj5,a0,a1]
  refine zhQ ho ?_
  rw[ycB]at hr
  cases hc:inS l c with
  | true =>
   rw[if_pos hc]at hr
   simp[hc,a0,a1]
   exact⟨by omega,⟨r,hr,by simp,by simp[a1],rfl⟩,by simp[zHt,a0]⟩
  | false =>
   rw[if_neg (by simp[hc])]at hr
   rw[←hr]at h
   simp[hc,a0,a1]
   exact h
theorem znf{l s:List UInt8}(hl:∀c∈l,c.toNat<128)(h2:2≤l.length)(hL:l.length≤1000)(h:∀σ',zh σ σ'→R (.ret (.str (s.dropWhile (inS l)))) σ'):zzQ G 167 [.str s,.str l] σ R:=by
 refine ztn rfl ?_
 have hne:¬l=[]:=by intro e;rw[e]at h2;simp at h2
 have h1:¬(l.length:Int)=1:=by omega
 cases s with
 | nil =>
  simp[zxu]
  exact h _ (.refl _)
 | cons c s =>
  simp[zxu,hne,h1]
  refine zc8 hl hL fun σ1 A1=>?_
  have ht:ycM 256 (zi5 l)=zi5 l:=ycN (by rw[zee];exact yah _)
  have hl6:=zee l
  simp[hl6,splice,ht,zc7,zhP]
  refine⟨zkr l,zgi (l:=l) (by simp) ?_⟩
  simp
  exact h _ (A1.newO.setO A1.no)
def zgB(p:UInt8→Bool)(s:List UInt8):List UInt8:=(s.reverse.dropWhile p).reverse
theorem zpi(p:UInt8→Bool)(s:List UInt8)(c:UInt8):zgB p (s++[c])=if p c=true then zgB p s else s++[c]:=by
 unfold zgB
 rw[List.reverse_append]
 simp only[List.reverse_cons,List.reverse_nil,ycE,List.singleton_append,ycB]
 split<;>simp
def TrI(l s:List UInt8)(o:Nat)(σ:AS)(a:Nat→AV)(τ:AS):Prop:=∃r:List UInt8,r.length≤s.length∧zgB (inS l) r=zgB (inS l) s∧a 0=.str r∧a 1=.ptr o 0∧τ=σ
theorem zlS{l s:List UInt8}{o:Nat}(hs:s.length<2^62)(ho:σ.objs o=some (zi5 l))(h:R (.ret (.str (zgB (inS l) s))) σ):zzQ G 124 [.str s,.ptr o 0] σ R:=by
 refine zs2 rfl ?_
 simp[zBW]
 refine zas (TrI l s o σ) zHt ⟨s,yah _,rfl,by simp,by simp,rfl⟩ fun a τ hI=>?_
 obtain⟨r,hrl,hr,a0,a1,rfl⟩:=hI
 rcases ybL r with rfl|⟨r',c,rfl⟩
 ·simp[zj6,zj7,a0,a1]
  rw[←hr]at h
  exact h
 ·rw[ycO]at *
  have w1:yb4 .i64 (r'.length:Int)=(r'.length:Int):=by rw[zc]<;>simp at hrl<;>omega
  have hlt:(0:Int)<(r'.length:Int)+1:=by omega
  simp[zj6,zj7,a0,a1,w1,hlt]
  refine zhQ ho ?_
  rw[zpi]at hr
  cases hc:inS l c with
  | true =>
   rw[if_pos hc]at hr
   simp[hc,a0,a1,w1]
   exact⟨by omega,⟨r',by simp at hrl;omega,hr,by simp,by simp[a1],rfl⟩,by simp[zHt,a0]⟩
  | false =>
   rw[if_neg (by simp[hc])]at hr
   rw[←hr]at h
   simp[hc,a0,a1]
   exact h
def zlT(l s:List UInt8):List UInt8:=(zgB (inS l) s).dropWhile (inS l)
theorem zdP{p:UInt8→Bool}:∀{s:List UInt8},s.dropWhile p=[]↔s.all p=true
 | []=>by simp
 | c::r=>by
  rw[ycB]
  cases h:p c with
  | true=>simp only[if_true,yca,h,Bool.true_and];exact zdP
  | false=>simp[h]
theorem zcO(l s:List UInt8):zlT l s=[]↔s.all (inS l)=true:=by
 unfold zlT
 rw[zdP]
 constructor
 ·intro h
  have hd:∀c∈zgB (inS l) s,inS l c=true:=yaM.1 h
  rcases ybL (zgB (inS l) s)with e|⟨d,x,e⟩
  ·unfold zgB at e
   rw[List.reverse_eq_nil_iff,zdP]at e
   rw[yaM]at e ⊢
   exact fun c hc=>e c (by simpa using hc)
  ·rw[ycO]at e
   have hx:inS l x=true:=hd x (by rw[e];simp)
   have e2:s.reverse.dropWhile (inS l)=x::d.reverse:=by
    have:=congrArg List.reverse e
    unfold zgB at this
    simpa using this
   have:=ycP (inS l) s.reverse
   rw[e2]at this
   simp at this hx
   rw[this]at hx;cases hx
 ·intro h
  rw[yaM]at h ⊢
  intro c hc
  unfold zgB at hc
  rw[List.mem_reverse]at hc
  exact h c (by have:=(List.dropWhile_sublist _).mem hc;simpa using this)
theorem zfW{l s:List UInt8}(hl:∀c∈l,c.toNat<128)(h2:2≤l.length)(hL:l.length≤1000)(hs:s.length<2^62)(h:∀σ',zh σ σ'→R (.ret (.str (zlT l s))) σ'):zzQ G 62 [.str s,.str l] σ R:=by
 refine zxg rfl ?_
 have hne:¬l=[]:=by intro e;rw[e]at h2;simp at h2
 have h1:¬(l.length:Int)=1:=by omega
 cases s with
 | nil =>
  simp[zIm]
  exact h _ (.refl _)
 | cons c s =>
  simp[zIm,hne,h1]
  refine zc8 hl hL fun σ1 A1=>?_
  have ht:ycM 256 (zi5 l)=zi5 l:=ycN (by rw[zee];exact yah _)
  have hl6:=zee l
  simp[hl6,splice,ht,zc7,zhP]
  refine⟨zkr l,zlS (l:=l) hs (by simp) ?_⟩
  simp
  refine zgi (l:=l) (by simp) ?_
  simp
  exact h _ (A1.newO.setO A1.no)
def zkM(l s:List UInt8):Int:=match s.findIdx? (inS l)with
 | some i=>i
 | none=>-1
def IaI(l s:List UInt8)(σ:AS)(σ1:AS)(a:Nat→AV)(τ:AS):Prop:=∃(d r:List UInt8),s=d++r∧(∀c∈d,inS l c=false)∧a 0=.str s∧a 6=.ptr σ1.no 0∧a 8=.int .i64 (d.length:Int)∧τ=(σ1.newO zuB).setO σ1.no (zi5 l)
theorem zxW{l d r:List UInt8}{c:UInt8}(hd:∀c∈d,inS l c=false)(hc:inS l c=true):zkM l (d++c::r)=d.length:=by
 unfold zkM
 rw[List.findIdx?_append,ycQ.2 hd]
 simp[ycR,hc]
theorem zqZ{l s:List UInt8}(h:∀c∈s,inS l c=false):zkM l s=-1:=by
 unfold zkM
 rw[ycQ.2 h]
theorem zhR{l s:List UInt8}(hl:∀c∈l,c.toNat<128)(h2:2≤l.length)(hL:l.length≤1000)(h8:8<s.length)(hs:s.length<2^62)(h:∀σ',zh σ σ'→R (.ret (.int .i64 (zkM l s))) σ'):zzQ G 168 [.str s,.str l] σ R:=by
 refine ztr rfl ?_
 have hne:¬l=[]:=by intro e;rw[e]at h2;simp at h2
 have h1:¬(l.length:Int)=1:=by omega
 have h8':(8:Int)<(s.length:Int):=by omega
 simp[zB8,hne,h1]
 refine ztI rfl ?_
 simp[zCg,h8']
 refine zc8 hl hL fun σ1 A1=>?_
 have ht:ycM 256 (zi5 l)=zi5 l:=ycN (by rw[zee];exact yah _)
 have hl6:=zee l
 simp[hl6,splice,ht,zc7,zhP]
 refine⟨zkr l,?_⟩
 have A2:zh σ ((σ1.newO zuB).setO σ1.no (zi5 l)):=A1.newO.setO A1.no
 refine zas (IaI l s σ σ1) (MU 8 (s.length+1)) ⟨[],s,rfl,by simp,by simp,by simp,by simp,rfl⟩ fun a τ hI=>?_
 obtain⟨d,r,hsr,hd,a0,a6,a8,rfl⟩:=hI
 cases r with
 | nil =>
  have e:d=s:=by simp[hsr]
  subst e
  simp[zj9,zn0,a0,a6,a8]
  rw[←zqZ hd]
  exact h _ A2
 | cons c r =>
  have hlt:(d.length:Int)<(s.length:Int):=by simp[hsr];omega
  have hi:s[d.length]?=some c:=by simp[hsr]
  have w1:yb4 .i64 ((d.length:Int)+1)=((d.length+1:Nat):Int):=by rw[zc]<;>omega
  simp[zj9,a0,a6,a8,hlt,hi]
  refine zhQ (l:=l) (by simp) ?_
  cases hc:inS l c with
  | true =>
   simp[hc,a0,a6,a8]
   have:=zxW (r:=r) hd hc
   rw[hsr]at h
   rw[←this]
   exact h _ A2
  | false =>
   simp[hc,a0,a6,a8,w1]
   refine⟨⟨d++[c],r,by simp[hsr],?_,by simp[a0],by simp[a6],by simp,rfl⟩,?_⟩
   ·intro x hx
    rcases ybh.1 hx with hx|hx
    ·exact hd x hx
    ·simp at hx;subst hx;exact hc
   ·simp[MU,a8];omega
end
structure zb6(G:Env):Prop where
 pow:G.fix 9=some (Lib.pow10Tab.map fun z=>Value.int .u64 z).toArray
 errR:∃t v,G.g 6=.pv (.stat true) (.iface t v)
 space:G.g 0=.pv (.stat true) (.agg zdM)
section
variable {G : Env} {σ : AS} {R : Out → AS → Prop}
theorem zgj{s p:List UInt8}(h:R (.ret (.bool (decide (p.length≤s.length∧s.take p.length=p)))) σ):zzQ G 199 [.str s,.str p] σ R:=by
 refine ztH rfl ?_
 by_cases hl:p.length≤s.length
 ·have hl':(p.length:Int)≤(s.length:Int):=by omega
  simp[zxw,hl']
  simpa [hl]using h
 ·have hl':¬(p.length:Int)≤(s.length:Int):=by omega
  simp[zxw,hl']
  simpa [hl]using h
def ziB(p s:List UInt8):Bool:=decide (p.length≤s.length∧s.take p.length=p)
theorem zhS(c:UInt8)(s:List UInt8):ziB [c] s=decide (s.head?=some c):=by
 cases s with
 | nil=>simp[ziB]
 | cons d s=>simp[ziB,eq_comm]
theorem zgk{s p:List UInt8}(h:R (.ret (.tuple [.str (if ziB p s=true then s.drop p.length else s),.bool (ziB p s)])) σ):zzQ G 116 [.str s,.str p] σ R:=by
 refine zsV rfl ?_
 simp[zBR]
 refine zts rfl ?_
 simp[zB9]
 refine zgj ?_
 rw[show decide (p.length≤s.length∧s.take p.length=p)=ziB p s from rfl]
 cases hp:ziB p s with
 | false =>
  rw[hp]at h
  simp
  simpa using h
 | true =>
  rw[hp]at h
  have hl:p.length≤s.length:=(of_decide_eq_true hp).1
  simp
  exact⟨by omega,by simpa using h⟩
theorem zks{s p:List UInt8}(h:R (.ret (.str (if ziB p s=true then s.drop p.length else s))) σ):zzQ G 113 [.str s,.str p] σ R:=by
 refine zsT rfl ?_
 simp[zBP]
 refine ztm rfl ?_
 simp[zB7]
 refine zgj ?_
 rw[show decide (p.length≤s.length∧s.take p.length=p)=ziB p s from rfl]
 cases hp:ziB p s with
 | false =>
  rw[hp]at h
  simp
  simpa using h
 | true =>
  rw[hp]at h
  have hl:p.length≤s.length:=(of_decide_eq_true hp).1
  simp
  exact⟨by omega,by simpa using h⟩
theorem zxX{M:Mp}{F:Nat→FSt}{w:World}{v:AV}{cargs:Array Value}(hc:Cells M F w [v] cargs):∃c,cargs=#[c]∧VR M F w v c:=by
 obtain⟨c0,e0,v0⟩:=hc.2 0 _ rfl
 refine⟨c0,?_,v0⟩
 have hsz:cargs.size=1:=hc.1
 apply Array.ext
 ·simpa using hsz
 ·intro i h1 h2
  match i,h1 with
  | 0,_=>simpa using (yaU.1 e0).2
  | i+1,h=>omega
theorem zEG{M:Mp}{F:Nat→FSt}{w:World}{v u:AV}{cargs:Array Value}(hc:Cells M F w [v,u] cargs):∃c d,cargs=#[c,d]∧VR M F w v c∧VR M F w u d:=by
 obtain⟨c0,e0,v0⟩:=hc.2 0 _ rfl
 obtain⟨c1,e1,v1⟩:=hc.2 1 _ rfl
 refine⟨c0,c1,?_,v0,v1⟩
 have hsz:cargs.size=2:=hc.1
 apply Array.ext
 ·simpa using hsz
 ·intro i h1 h2
  match i,h1 with
  | 0,_=>simpa using (yaU.1 e0).2
  | 1,_=>simpa using (yaU.1 e1).2
  | i+2,h=>omega
theorem zef(V:zb6 G){n:Int}(hn:-(2^63)≤n∧n<2^63)(h:R (.ret (.str (Lib.itoa n))) σ):zzQ G 64 [.int .i64 n] σ R:=by
 refine ACalls.of_below fun M w cargs S g hc=>?_
 obtain⟨c,rfl,hv⟩:=zxX hc
 rw[hv.int_inv]
 obtain⟨_,t,fr,hh⟩:=g.fixed 9 _ V.pow
 have hn9 : Tryz.prog.globalNamed "internal/strconv.uint64pow10" = some 9 := by kernel_rfl
 have htab : Lib.TabIs Tryz.prog w "internal/strconv.uint64pow10" .u64 Lib.pow10Tab := by simp [Lib.TabIs, World.var?, hn9, hh]
 refine(Tryz.strconv_Itoa n (by omega) (by omega) w htab).mono fun e w' ⟨he,k,os,hw'⟩=>?_
 subst he hw'
 exact⟨⟨.str (Lib.itoa n),_,rfl,fun M F w=>VR.str' rfl,h⟩,Lib.below_grow _ w (yah _) k os⟩
theorem zpj(V:zb6 G){t:List UInt8}(h0:zbn t≠[])(h1:(zbn t).all zJ=true)(hl:t.length<2^40)
  (hs:∀n,Lib.atoiAll t=.ok n→R (.ret (.tuple [.int .i64 n,.nilif])) σ) (hr:Lib.atoiAll t=.range→∀k,R (.ret (.tuple [.int .i64 k,.iface 238 .undef])) σ):zzQ G 114 [.str t] σ R:=by
 refine ACalls.of_below fun M w cargs S g hc=>?_
 obtain⟨c,rfl,hv⟩:=zxX hc
 obtain⟨b,rfl,rfl⟩:=hv.str_inv
 have hbl:b.size=b.data.toList.length:=by simp
 cases hq:Lib.atoiAll b.data.toList with
 | ok n =>
  refine(Tryz.strconv_Atoi_ok b (by omega) n hq w).mono fun e w' ⟨he,hw'⟩=>?_
  subst he
  refine⟨⟨.tuple [.int .i64 n,.nilif],_,rfl,fun M F w=>.tuple _ _ rfl fun j h h'=>?_,hs n hq⟩,?_⟩
  ·match j,h with
   | 0,_=>exact .int ..
   | 1,_=>exact .nilif
  ·rcases hw' with rfl|⟨t,rfl⟩
   ·exact RowKit.Below.refl _ _
   ·exact⟨rfl,rfl,rfl,by rw[Lib.bytesWorld_size];omega,fun k hk=>Lib.bytesWorld_at_old w 5 t k hk⟩
 | range =>
  obtain⟨te,v,he6⟩:=V.errR
  have h6:=g.vars 6
  rw[he6]at h6
  obtain⟨ev,hcell,hev⟩:∃ev,w.cell? ⟨6,0,none⟩=some ev∧(ev=.nilIface∨∃te pe,ev=.iface te pe):=by
   cases h6 with
   | pv φ v B off cs hmem hc hv =>
    have h1:=hc trivial 0 (by simp[AV.cells])
    have h2:=hv trivial 0 (by simp[AV.cells])
    simp only[AV.cells,yaz]at h2
    generalize cs 0=c at h1 h2
    cases h2
    exact⟨_,h1,.inr ⟨_,_,rfl⟩⟩
  refine(Tryz.strconv_Atoi_range b (by omega) hq ev w hcell hev).mono fun e w' ⟨N,he,_,_,hb⟩=>?_
  subst he
  refine⟨⟨.tuple [.int .i64 (Lib.atoiSat b.data.toList),.iface 238 .undef],_,rfl,fun M F w=>.tuple _ _ rfl fun j h h'=>?_,hr hq _⟩,hb⟩
  match j,h with
  | 0,_=>exact .int ..
  | 1,_=>exact .iface _ _ _ (.undef _)
 | _ =>
  rw[zm0 h0 h1]at hq
  split at hq<;>cases hq
theorem zfq{s:List UInt8}{c:UInt8}(hc:c.toNat<128)(h:R (.ret (.bool (s.contains c))) σ):zzQ G 170 [.str s,.int .i32 (c.toNat:Int)] σ R:=by
 refine ACalls.of_below fun M w cargs S g hcc=>?_
 obtain⟨x,y,rfl,hv,hu⟩:=zEG hcc
 obtain⟨b,rfl,rfl⟩:=hv.str_inv
 rw[hu.int_inv]
 refine(Tryz.strings_ContainsRune_ascii b (c.toNat:Int) w (by omega) (by omega)).mono fun e w' ⟨he,hw'⟩=>?_
 subst he hw'
 refine⟨⟨.bool _,_,rfl,fun M F w=>.bool _,?_⟩,RowKit.Below.refl _ _⟩
 have e0:∀l:List UInt8,(0≤Lib.indexByte l c)↔c∈l:=fun l=>by
  induction l with
  | nil=>simp[Lib.indexByte]
  | cons x l ih =>
   have hge:=Lib.indexByte_ge l c
   by_cases hx:x=c
   ·subst hx;simp[Lib.indexByte]
   ·have hx':¬c=x:=fun e=>hx e.symm
    simp only[Lib.indexByte,beq_iff_eq,hx,if_false,ybC,hx',false_or,←ih]
    split<;>omega
 have e:decide (0≤Lib.indexByte b.data.toList ((c.toNat:Int).toNat.toUInt8))=b.data.toList.contains c:=by
  have e1:((c.toNat:Int).toNat.toUInt8)=c:=by simp
  rw[e1,Bool.eq_iff_iff]
  simp[e0]
 rw[e]
 exact h
end
def zhT(s:List UInt8):Prop:=∀t,t<:+s→8<t.length∨∀c∈t,c.toNat<128
theorem zhT.end{s t:List UInt8}(h:zhT s)(ht:t<:+s):zhT t:=fun u hu=>h u (hu.trans ht)
theorem zgl(l:List UInt8):∀s,Lib.indexAny s l=zkM l s
 | []=>rfl
 | b::s=>by
  have ih:=zgl l s
  rw[Lib.indexAny,ih]
  unfold zkM
  rw[ycR]
  cases hb:inS l b with
  | true =>
   rw[show l.contains b=true from hb]
   simp
  | false =>
   rw[show l.contains b=false from hb]
   cases s.findIdx? (inS l)with
   | none=>simp
   | some i =>
    simp
section
variable {G : Env} {σ : AS} {R : Out → AS → Prop}
theorem zlU{l s:List UInt8}(hl:∀c∈l,c.toNat<128)(h2:2≤l.length)(hL:l.length≤1000)(hs:s.length<2^62)(hok:8<s.length∨∀c∈s,c.toNat<128)(h:∀σ',zh σ σ'→R (.ret (.int .i64 (zkM l s))) σ'):zzQ G 168 [.str s,.str l] σ R:=by
 by_cases h8:8<s.length
 ·exact zhR hl h2 hL h8 hs h
 ·have hs1:∀c∈s,c.toNat<128:=hok.resolve_left h8
  refine ACalls.of_below fun M w cargs S g hc=>?_
  obtain⟨x,y,rfl,hv,hu⟩:=zEG hc
  obtain⟨b,rfl,rfl⟩:=hv.str_inv
  obtain⟨b2,rfl,rfl⟩:=hu.str_inv
  have e1:b.size=b.data.toList.length:=by simp
  have e2:b2.size=b2.data.toList.length:=by simp
  have hv151:∀w,(zeroValue 151).run yb9 w=.ok (.agg (Array.replicate 256 (.bool false))) w:=fun w=>by kernel_rfl
  refine(Tryz.strings_IndexAny hv151 b b2 w (by omega) (by omega) (fun j c hj=>hs1 c (ycs hj)) (fun j c hj=>hl c (ycs hj))).mono fun e w' ⟨he,hb⟩=>?_
  subst he
  rw[zgl]
  exact⟨⟨.int .i64 _,_,rfl,fun M F w=>.int ..,h _ (.refl _)⟩,hb⟩
def zdi:List UInt8:=[32,10]
def zeT:List UInt8:=[32,10,40,41,34]
def zdQ:List UInt8:=[34,10]
theorem zb7(p:UInt8→Bool)(s:List UInt8):s.dropWhile p<:+s:=List.dropWhile_suffix p
theorem zlV{l s:List UInt8}(h:0≤zkM l s):∃d c r,s=d++c::r∧(∀x∈d,inS l x=false)∧inS l c=true∧zkM l s=d.length:=by
 unfold zkM at h ⊢
 cases hf:s.findIdx? (inS l)with
 | none=>rw[hf]at h;simp at h
 | some i =>
  rw[ycS]at hf
  obtain⟨hi,hc,hd⟩:=hf
  refine⟨s.take i,s[i],s.drop (i+1),by simp,fun x hx=>?_,hc,by simp;omega⟩
  obtain⟨j,hj,rfl⟩:=ya9 hx
  simp only[List.getElem_take]
  have hj':j<i:=by simp at hj;omega
  have:=hd j hj'
  simpa using this
theorem zv1{l s:List UInt8}(h:zkM l s<0):∀x∈s,inS l x=false:=by
 unfold zkM at h
 cases hf:s.findIdx? (inS l)with
 | none=>exact ycQ.1 hf
 | some i=>rw[hf]at h;simp at h;omega
theorem zgm{p:UInt8→Bool}{d r:List UInt8}{c:UInt8}(hd:∀x∈d,p x=true)(hc:p c=false):(d++c::r).takeWhile p=d∧(d++c::r).dropWhile p=c::r:=by
 induction d with
 | nil=>simp[hc]
 | cons x d ih =>
  have hx:=hd x (by simp)
  obtain⟨i1,i2⟩:=ih fun y hy=>hd y (by simp[hy])
  simp[hx,i1,i2]
theorem zgn{L t r:List UInt8}(h:L=t++r){n m:Int}(hn:n=(t.length:Int))(hm:m=(L.length:Int)):L.take n.toNat=t∧(L.take m.toNat).drop n.toNat=r:=by
 subst hn hm h
 refine⟨by simp,?_⟩
 rw[ybe,ybe,ycN (yah _),List.drop_left]
theorem zfr{s:List UInt8}(hok:zhT s)(hl:s.length<2^40)(hn:zdo s=none→∀r σ',r<:+s→zh σ σ'→R (.ret (.tuple [.str [],.str r])) σ')(hs:∀t r,zdo s=some (t,r)→∀σ',zh σ σ'→R (.ret (.tuple [.str t,.str r])) σ'):zzQ G 115 [.str s] σ R:=by
 refine zsU rfl ?_
 simp[zBQ]
 refine znf (l:=zdi) (by decide) (by decide) (by decide) fun σ1 A1=>?_
 have hcut:zdo s=match s.dropWhile (inS zdi)with
  | []=>none
  | c::r=>if c=40∨c=41 then some ([c],r)else if c=34 then zlz r else some (c::r.takeWhile (fun x=>!za8 x),r.dropWhile fun x=>!za8 x):=rfl
 have hsuf:=zb7 (inS zdi) s
 have hlen:=hsuf.length_le
 have hhd:∀c r,s.dropWhile (inS zdi)=c::r→inS zdi c=false:=fun c r e=>by
  have:=ycP (inS zdi) s
  rw[e]at this
  exact this
 generalize s.dropWhile (inS zdi)=s1 at *
 have hok1:=hok.end hsuf
 cases s1 with
 | nil =>
  simp
  exact hn hcut _ _ hsuf A1
 | cons c r =>
  simp only at hcut
  simp only[yac]at hlen
  have hc0:=c.toNat_lt
  have hc2:(c=40↔(c.toNat:Int)=40)∧(c=41↔(c.toNat:Int)=41)∧(c=34↔(c.toNat:Int)=34):=by
   refine⟨⟨fun e=>by rw[e];rfl,fun e=>UInt8.toNat_inj.1 (by show c.toNat=40;omega)⟩,⟨fun e=>by rw[e];rfl,fun e=>UInt8.toNat_inj.1 (by show c.toNat=41;omega)⟩,⟨fun e=>by rw[e];rfl,fun e=>UInt8.toNat_inj.1 (by show c.toNat=34;omega)⟩⟩
  by_cases h40:c=40∨c=41
  ·rw[if_pos h40]at hcut
   have hres:=hs _ _ hcut σ1 A1
   have h40':(c.toNat:Int)=40∨¬(c.toNat:Int)=40∧(c.toNat:Int)=41:=by
    rcases h40 with e|e
    ·exact .inl (hc2.1.1 e)
    ·have:=hc2.2.1.1 e
     exact .inr ⟨by omega,this⟩
   rcases h40' with e|⟨e1,e2⟩
   ·simp[e]
    exact⟨by omega,hres⟩
   ·simp[e2]
    exact⟨by omega,hres⟩
  ·rw[if_neg h40]at hcut
   have n40:¬(c.toNat:Int)=40:=fun e=>h40 (.inl (hc2.1.2 e))
   have n41:¬(c.toNat:Int)=41:=fun e=>h40 (.inr (hc2.2.1.2 e))
   by_cases h34:c=34
   ·rw[if_pos h34]at hcut
    have e34:=hc2.2.2.1 h34
    have hr:r<:+c::r:=ycT _ _
    simp[n40,n41,e34]
    refine⟨by omega,zlU (l:=zdQ) (by decide) (by decide) (by decide) (by omega) ((hok1.end hr) r ycU) fun σ2 A2=>?_⟩
    have A12:=A1.trans A2
    have hq:zlz r=match r.dropWhile (fun c=>!zqC c)with
     | []=>none
     | x::z=>if x=34 then some (34::(r.takeWhile (fun c=>!zqC c)++[34]),z)else none:=rfl
    by_cases hi:0≤zkM zdQ r
    ·obtain⟨d,x,z,rfl,hd,hx,he⟩:=zlV hi
     obtain⟨t1,t2⟩:=zgm (p:=fun c=>!zqC c) (d:=d) (r:=z) (c:=x) (fun y hy=>by have:=hd y hy;simpa [inS,zdQ,zqC]using this) (by
      simp[inS,zdQ,zqC]at hx ⊢
      intro q
      exact hx.resolve_left q)
     rw[hq,t2,t1]at hcut
     simp only at hcut
     have w2:yb4 .i64 ((d.length:Int)+2)=(d.length:Int)+2:=by rw[zc]<;>simp at hlen<;>omega
     have w1:yb4 .i64 ((d.length:Int)+2-1)=((d.length+1:Nat):Int):=by rw[zc]<;>simp at hlen<;>omega
     have hlt:¬(d.length:Int)+2<2:=by omega
     have hx34:x=34↔(x.toNat:Int)=34:=⟨fun e=>by rw[e];rfl,fun e=>UInt8.toNat_inj.1 (by show x.toNat=34;omega)⟩
     have hxi:(c::(d++x::z))[d.length+1]?=some x:=by simp
     by_cases hx3:x=34
     ·rw[if_pos hx3]at hcut
      have hx4:=hx34.1 hx3
      have hres:=hs _ _ hcut σ2 A12
      simp[he,w2,w1,hlt,hx4]
      refine⟨by omega,by omega,?_⟩
      obtain⟨e1,e2⟩:=zgn (L:=c::(d++x::z)) (t:=34::(d++[34])) (r:=z) (n:=(d.length:Int)+2) (m:=(d.length:Int)+((z.length:Int)+1)+1) (by rw[hx3,h34];simp) (by simp;omega) (by simp)
      rw[e1,e2]
      exact⟨by omega,by omega,by omega,hres⟩
     ·rw[if_neg hx3]at hcut
      have hx4:¬(x.toNat:Int)=34:=fun e=>hx3 (hx34.2 e)
      simp[he,w2,w1,hlt,hx4]
      exact⟨by omega,hn hcut _ _ hsuf A12⟩
    ·have he:zkM zdQ r=-1:=by
      unfold zkM at hi ⊢
      cases hf:r.findIdx? (inS zdQ)with
      | none=>rfl
      | some i=>rw[hf]at hi;simp at hi
     have hno:=zv1 (l:=zdQ) (s:=r) (by omega)
     have hdw:r.dropWhile (fun c=>!zqC c)=[]:=by
      rw[zdP,yaM]
      intro y hy
      have:=hno y hy
      simpa [inS,zdQ,zqC]using this
     rw[hq,hdw]at hcut
     simp[he,show yb4 .i64 1=1 from rfl]
     exact hn hcut _ _ hsuf A12
   ·rw[if_neg h34]at hcut
    have n34:¬(c.toNat:Int)=34:=fun e=>h34 (hc2.2.2.2 e)
    simp[n40,n41,n34]
    refine zlU (l:=zeT) (by decide) (by decide) (by decide) (by simp;omega) (hok1 _ ycU) fun σ2 A2=>?_
    have A12:=A1.trans A2
    have hcs:zm1 c=false:=hhd c r rfl
    have hcn:inS zeT c=false:=by
     have e10:¬c=10∧¬c=32:=by simpa [zm1,not_or,and_comm]using hcs
     simp[inS,zeT,e10,fun e=>h40 (.inl e),fun e=>h40 (.inr e),h34]
     exact⟨fun e=>h40 (.inl e),fun e=>h40 (.inr e)⟩
    have hst:∀y,inS zeT y=za8 y:=fun y=>rfl
    by_cases hi:0≤zkM zeT (c::r)
    ·obtain⟨d,x,z,hcr,hd,hx,he⟩:=zlV hi
     obtain⟨d',rfl⟩:∃d',d=c::d':=by
      cases d with
      | nil =>
       simp at hcr
       rw[←hcr.1,hcn]at hx
       cases hx
      | cons y d' =>
       simp at hcr
       exact⟨d',by rw[hcr.1]⟩
     have hr2:r=d'++x::z:=by simpa using hcr
     subst hr2
     obtain⟨t1,t2⟩:=zgm (p:=fun c=>!za8 c) (d:=d') (r:=z) (c:=x) (fun y hy=>by have:=hd y (by simp[hy]);rw[hst]at this;simp[this]) (by rw[hst]at hx;simp[hx])
     rw[t1,t2]at hcut
     have hres:=hs _ _ hcut σ2 A12
     have hlt:¬(d'.length:Int)+1<0:=by omega
     simp[he,hlt]
     obtain⟨e1,e2⟩:=zgn (L:=c::(d'++x::z)) (t:=c::d') (r:=x::z) (n:=(d'.length:Int)+1) (m:=(d'.length:Int)+((z.length:Int)+1)+1) (by simp) (by simp) (by simp)
     have e3:((d'.length:Int)+1).toNat=d'.length+1:=by omega
     rw[e3]at e2
     rw[e2]
     exact⟨by omega,by omega,by omega,by omega,hres⟩
    ·have hno:=zv1 (l:=zeT) (s:=c::r) (by omega)
     have hw:r.takeWhile (fun x=>!za8 x)=r∧r.dropWhile (fun x=>!za8 x)=[]:=by
      have h1:∀y∈r,(!za8 y)=true:=fun y hy=>by have:=hno y (by simp[hy]);rw[hst]at this;simp[this]
      have h2:r.dropWhile (fun x=>!za8 x)=[]:=by rw[zdP,yaM];exact h1
      have h3:=List.takeWhile_append_dropWhile (p:=fun x=>!za8 x) (l:=r)
      rw[h2,yb7]at h3
      exact⟨h3,h2⟩
     rw[hw.1,hw.2]at hcut
     have hres:=hs _ _ hcut σ2 A12
     have hlt:zkM zeT (c::r)<0:=by omega
     simp[hlt]
     exact⟨by omega,hres⟩
end
def zxY(e:Int):AV:=.iface 33 (.int .i64 e)
structure Wr(base x:Nat)(s:Ts)(σ:AS):Prop where
 hx:x<σ.no
 hb:0<base∧base≤σ.nf
 h0:σ.F 0=.alive
 ok:zhT s.b
 len:s.b.length<2^36
 cells:∃lv,σ.objs x=some [.str s.b,lv]∧ToR base σ lv s.ls
theorem zkt{s t r:List UInt8}(h:zdo s=some (t,r)):r<:+s:=by
 have h0:=zb7 zm1 s
 unfold zdo at h
 split at h
 ·cases h
 ·rename_i c z e
  rw[e]at h0
  have h1:=(ycT c z).trans h0
  split at h
  ·cases h;exact h1
  ·split at h
   ·unfold zlz at h
    have h2:=zb7 (fun c=>!zqC c) z
    split at h
    ·cases h
    ·rename_i x y e2
     rw[e2]at h2
     split at h
     ·cases h;exact((ycT x r).trans h2).trans h1
     ·cases h
   ·cases h;exact(zb7 _ z).trans h1
theorem Wr.uses{base x s σ}(h:Wr base x s σ){f:Nat}(hf:f<base):¬zck σ x f:=fun⟨cs,v,h1,h2,h3⟩=>by
 obtain⟨lv,ho,hl⟩:=h.cells
 rw[ho]at h1
 cases h1
 simp at h2
 subst h2
 rcases hl with ⟨_,rfl⟩|⟨g,tos,rfl,hg,_⟩
 ·cases h3
 ·simp only[zcA,yaR.injEq]at h3
  omega
theorem Wr.lt{base x s σ}(h:Wr base x s σ){f:Nat}(u:zck σ x f):f<σ.nf:=by
 obtain⟨cs,v,h1,h2,h3⟩:=u
 obtain⟨lv,ho,hl⟩:=h.cells
 rw[ho]at h1
 cases h1
 simp at h2
 subst h2
 rcases hl with ⟨_,rfl⟩|⟨g,tos,rfl,hg,hg2,_⟩
 ·cases h3
 ·simp only[zcA,yaR.injEq]at h3
  omega
theorem Wr.set{base x s σ lv b}(h:Wr base x s σ)(hb:b<:+s.b)(hl:ToR base σ lv s.ls):Wr base x { s with b:=b } (σ.setO x [.str b,lv]):=by
 refine⟨h.hx,h.hb,h.h0,h.ok.end hb,ycV hb.length_le h.len,lv,by simp,?_⟩
 rcases hl with h1|⟨g,tos,h1,h2,h3,h4,h5⟩
 ·exact .inl h1
 ·exact .inr ⟨g,tos,h1,h2,h3,h4,h5⟩
theorem Wr.adds{base x s σ σ'}(h:Wr base x s σ)(A:zh σ σ'):Wr base x s σ':=by
 obtain⟨lv,ho,hl⟩:=h.cells
 have hn:=A.nf
 have hb:=h.hb
 refine⟨yag h.hx A.no,⟨hb.1,by omega⟩,(A.fam 0 (by omega)).trans h.h0,h.ok,h.len,lv,(A.obj x h.hx).trans ho,?_⟩
 rcases hl with h1|⟨g,tos,h1,h2,h3,h4,h5⟩
 ·exact .inl h1
 ·exact .inr ⟨g,tos,h1,h2,by omega,(A.fam g h3).trans h4,h5⟩
def zcC(R:Out→AS→Prop)(x:Nat)(σ:AS)(e:Int):Prop:=∀σ',z8 x σ σ'→R (.panic (zxY e)) σ'
theorem zcC.mono{R x σ σ' e}(h:zcC R x σ e)(K:z8 x σ σ'):zcC R x σ' e:=fun τ k=>h τ (K.trans k)
section
variable {G : Env} {σ : AS} {R : Out → AS → Prop}
theorem z9{b:Bool}{e:Int}(h1:b=true→R (.ret (.tuple [])) σ)(h2:b=false→R (.panic (zxY e)) σ):zzQ G 61 [.bool b,.int .i64 e] σ R:=by
 refine zxf rfl ?_
 cases b with
 | true =>
  simp[zIl]
  exact h1 rfl
 | false =>
  simp[zIl]
  exact h2 rfl
theorem zja{base x s}(h:Wr base x s σ)(hn:zb3 s=.error 2→zcC R x σ 2)(hs:∀t s',zb3 s=.ok (t,s')→∀σ',Wr base x s' σ'→zag x σ σ'→R (.ret (.str t)) σ'):zzQ G 110 [.ptr x 0] σ R:=by
 refine zsS rfl ?_
 obtain⟨lv,ho,hl⟩:=h.cells
 have l1:=hl.one
 have hx:=h.hx
 simp[zBO,ho]
 refine zfr h.ok (yag h.len (by decide)) (fun hq r σ1 hr A1=>?_) (fun t r hq σ1 A1=>?_)
 ·simp
  refine z9 (fun q=>by simp at q) (fun _=>?_)
  simp
  exact hn (by unfold zb3;rw[hq]) _ (A1.keepR hx)
 ·obtain⟨_,hne⟩:=zcq hq
  have h1:=h.adds A1
  have hsuf:=zkt hq
  simp[hne]
  refine z9 (fun _=>?_) (fun q=>by simp at q)
  obtain⟨lv1,ho1,hl1⟩:=h1.cells
  have l2:=hl1.one
  simp[ho1,splice]
  have hnx:zb3 s=.ok (t,{ s with b:=r }):=by unfold zb3;rw[hq]
  exact hs t _ hnx _ (h1.set hsuf hl1) ((A1.keepS hx ho).trans (.set ho1 rfl))
end
@[simp] theorem zxZ:zap yb9 139=some true:=by kernel_rfl
@[simp] theorem zAA(t:Nat)(v:AV)(K:AV→Prop):zbk yb9 .eql 139 (.iface t v) .nilif K=K (.bool false):=by
 have h:=zxZ
 unfold zap at h
 split at h
 ·rename_i ms hu
  simp[zbk,aeq,zjs,hu]
 ·cases h
 ·cases h
def LW(x:Nat)(σ:AS)(v:AV)(ts:List (List UInt8)):Prop:=(∃b,v=.sl (.stat b) 1 (ts.map ycn))∨∃ob,v=.slm ob 0 1 ts.length∧ob<σ.no∧ob≠x∧σ.objs ob=some (ts.map ycn)
theorem LW.keep{x σ σ' v ts}(h:LW x σ v ts)(K:zag x σ σ'):LW x σ' v ts:=by
 rcases h with h|⟨ob,h1,h2,h3,h4⟩
 ·exact .inl h
 ·exact .inr ⟨ob,h1,yag h2 K.no,h3,(K.obj ob h2 h3).trans h4⟩
theorem Wr.isSome{base x s σ}(h:Wr base x s σ):∃cs,σ.objs x=some cs:=by obtain⟨lv,ho,_⟩:=h.cells;exact⟨_,ho⟩
section
variable {G : Env} {σ : AS} {R : Out → AS → Prop}
def WdI(base x:Nat)(ts:List (List UInt8))(s0:Ts)(σ:AS)(v:AV)(a:Nat→AV)(τ:AS):Prop:=∃(d r:List (List UInt8)) (s:Ts),ts=d++r∧zaC ts s0=zaC r s∧a 0=.ptr x 0∧a 6=v∧a 7=.int .i64 (ts.length:Int)∧a 8=.int .i64 (d.length:Int)∧Wr base x s τ∧zag x σ τ∧LW x τ v ts
theorem zku{base x s v ts}(h:Wr base x s σ)(hv:LW x σ v ts)(hl:ts.length<1000)(hn:∀e,zaC ts s=.error e→zcC R x σ e)(hs:∀s',zaC ts s=.ok s'→∀σ',Wr base x s' σ'→zag x σ σ'→R (.ret (.tuple [])) σ'):zzQ G 56 [.ptr x 0,v] σ R:=by
 refine zxa rfl ?_
 obtain⟨cs0,hcs0⟩:=h.isSome
 have hlen:(∃b,v=.sl (.stat b) 1 (ts.map ycn))∨∃ob,v=.slm ob 0 1 ts.length:=by
  rcases hv with h|⟨ob,h,_⟩
  ·exact .inl h
  ·exact .inr ⟨ob,h⟩
 have go:avc yb9 G 18 (.block 0 (.loop zhz)) (ze9 yb9 [] R) (upd (upd (upd (zbq [.ptr x 0,v]) 6 v) 7 (.int .i64 (ts.length:Int))) 8 (.int .i64 0)) σ:=by
  simp
  refine zas (WdI base x ts s σ v) (MU 8 (ts.length+1)) ⟨[],ts,s,rfl,rfl,by simp,by simp,by simp,by simp,h,.refl hcs0,hv⟩ fun a τ hI=>?_
  obtain⟨d,r,s1,hdr,he,a0,a6,a7,a8,hW,hK,hV⟩:=hI
  cases r with
  | nil =>
   have e:ts.length=d.length:=by simp[hdr]
   rw[e]at a7
   simp[zhz,a0,a6,a7,a8]
   exact hs s1 he _ hW hK
  | cons t r =>
   have hlt:(d.length:Int)<(ts.length:Int):=by simp[hdr];omega
   have hi:ts[d.length]?=some t:=by simp[hdr]
   have w1:yb4 .i64 ((d.length:Int)+1)=((d.length+1:Nat):Int):=by rw[zc]<;>omega
   have rest:∀(t':List UInt8) (s2:Ts) (τ2:AS),zb3 s1=.ok (t',s2)→Wr base x s2 τ2→zag x τ τ2→zaC ts s=(if t'=t then zaC r s2 else .error 2):=fun t' s2 τ2 q _ _=>by
    rw[he,zaC,q]
    rfl
   have hno:zb3 s1=.error 2→zcC R x σ 2:=fun q=>hn 2 (by rw[he,zaC,q];rfl)
   rcases hV with ⟨b,hv'⟩|⟨ob,hv',g1,g2,g3⟩
   ·subst hv'
    have hv':True:=trivial
    simp[zhz,a0,a6,a7,a8,hv',hlt,hi]
    refine zja hW (fun q=>(hno q).mono hK.r) (fun t' s2 q τ2 hW2 hK2=>?_)
    have hr:=rest t' s2 τ2 q hW2 hK2
    have hK12:=hK.trans hK2
    by_cases ht:t'=t
    ·rw[if_pos ht]at hr
     simp[ht]
     refine z9 (fun _=>?_) (fun q=>by cases q)
     simp[a0,a6,a7,a8,w1]
     refine⟨⟨d++[t],r,s2,by simp[hdr],hr,by simp[a0],by simp[a6,hv'],by simp[a7],by simp,hW2,hK12,(LW.keep (.inl ⟨b,rfl⟩) hK2)⟩,?_⟩
     simp[MU,a8];omega
    ·rw[if_neg ht]at hr
     simp[ht]
     refine z9 (fun q=>by cases q) (fun _=>?_)
     simp
     exact hn 2 hr _ hK12.r
   ·subst hv'
    have hv':True:=trivial
    simp[zhz,a0,a6,a7,a8,hv',hlt,hi,g3]
    refine zja hW (fun q=>(hno q).mono hK.r) (fun t' s2 q τ2 hW2 hK2=>?_)
    have hr:=rest t' s2 τ2 q hW2 hK2
    have hK12:=hK.trans hK2
    by_cases ht:t'=t
    ·rw[if_pos ht]at hr
     simp[ht]
     refine z9 (fun _=>?_) (fun q=>by cases q)
     simp[a0,a6,a7,a8,w1]
     refine⟨⟨d++[t],r,s2,by simp[hdr],hr,by simp[a0],by simp[a6,hv'],by simp[a7],by simp,hW2,hK12,(LW.keep (.inr ⟨ob,rfl,g1,g2,g3⟩) hK2)⟩,?_⟩
     simp[MU,a8];omega
    ·rw[if_neg ht]at hr
     simp[ht]
     refine z9 (fun q=>by cases q) (fun _=>?_)
     simp
     exact hn 2 hr _ hK12.r
 rcases hlen with ⟨b,rfl⟩|⟨ob,rfl⟩
 ·simp[zIk]
  simpa using go
 ·simp[zIk]
  simpa using go
theorem zuE{base x s w}(h:Wr base x s σ)(hw:w≠[])(hn:zfP w s=none→∀σ',Wr base x s σ'→zag x σ σ'→R (.ret (.bool false)) σ')(hs:∀s',zfP w s=some s'→∀σ',Wr base x s' σ'→zag x σ σ'→R (.ret (.bool true)) σ'):zzQ G 59 [.ptr x 0,.str w] σ R:=by
 refine zxd rfl ?_
 obtain⟨lv,ho,hl⟩:=h.cells
 have l1:=hl.one
 have hx:=h.hx
 have hlen:=h.len
 have hm:zfP w s=match zdo s.b with
  | none=>none
  | some p=>if p.1=zA then(match zdo p.2 with
   | none=>none
   | some q=>if q.1=w then some { s with b:=q.2 }else none)else none:=rfl
 simp[zJR,ho]
 refine zfr h.ok (by omega) (fun hq r σ1 hr A1=>?_) (fun t r hq σ1 A1=>?_)
 ·rw[hq]at hm
  simp
  have hrl:=hr.length_le
  refine zfr (h.ok.end hr) (by omega) (fun hq2 r2 σ2 hr2 A2=>?_) (fun t2 r2 hq2 σ2 A2=>?_)
  ·simp
   exact hn hm _ (h.adds (A1.trans A2)) ((A1.trans A2).keepS hx ho)
  ·simp
   exact hn hm _ (h.adds (A1.trans A2)) ((A1.trans A2).keepS hx ho)
 ·rw[hq]at hm
  simp only at hm
  have hr:=zkt hq
  have hrl:=hr.length_le
  simp
  refine zfr (h.ok.end hr) (by omega) (fun hq2 r2 σ2 hr2 A2=>?_) (fun t2 r2 hq2 σ2 A2=>?_)
  ·have hA:=A1.trans A2
   have hno:zfP w s=none:=by
    rw[hm,hq2]
    split<;>rfl
   have fin:=hn hno _ (h.adds hA) (hA.keepS hx ho)
   by_cases ht:t=zA
   ·have ht':t=[40]:=ht
    have hw':¬[]=w:=fun e=>hw e.symm
    simp[ht',hw']
    exact fin
   ·have ht':¬t=[40]:=ht
    simp[ht']
    exact fin
  ·have hA:=A1.trans A2
   have h2:=h.adds hA
   obtain⟨lv2,ho2,hl2⟩:=h2.cells
   have l2:=hl2.one
   by_cases ht:t=zA
   ·have ht':t=[40]:=ht
    rw[if_pos ht,hq2]at hm
    simp only at hm
    by_cases hw:t2=w
    ·rw[if_pos hw]at hm
     simp[ht',hw,ho2,splice]
     exact hs _ hm _ (h2.set ((zkt hq2).trans hr) hl2) ((hA.keepS hx ho).trans (.set ho2 rfl))
    ·rw[if_neg hw]at hm
     simp[ht',hw]
     exact hn hm _ h2 (hA.keepS hx ho)
   ·have ht':¬t=[40]:=ht
    rw[if_neg ht]at hm
    simp[ht']
    exact hn hm _ h2 (hA.keepS hx ho)
theorem zx0(n:Int):Lib.itoa n≠[]:=by
 unfold Lib.itoa
 split
 ·simp
 ·exact zfg _
theorem zhU{t:List UInt8}(h:R (.ret (.str (zbn t))) σ):zzQ G 113 [.str t,.str [45]] σ R:=by
 refine zks ?_
 have hb:(if ziB [45] t=true then t.drop [45].length else t)=zbn t:=by
  rw[zhS]
  unfold zbn
  cases t with
  | nil=>rfl
  | cons c r =>
   by_cases hc:c=45
   ·subst hc;simp
   ·simp[hc]
 exact(congrArg (fun z=>R (.ret (.str z)) σ) hb).mpr h
theorem zkv(V:zb6 G){base x s}(h:Wr base x s σ)(hn:∀e,zbg s=.error e→zcC R x σ e)(hs:∀n s',zbg s=.ok (n,s')→-(2^63)≤n→n<2^63→∀σ',Wr base x s' σ'→zag x σ σ'→R (.ret (.int .i64 n)) σ'):zzQ G 58 [.ptr x 0] σ R:=by
 refine zxc rfl ?_
 simp[zJQ]
 refine zja h (fun q=>hn 2 (by unfold zbg;rw[q];rfl)) (fun t s1 q σ1 h1 K1=>?_)
 have hnum:zbg s=(zqA t).map fun n=>(n,s1):=by unfold zbg;rw[q];rfl
 have htl:t.length<2^36:=by
  have:=h.len
  unfold zb3 at q
  cases hc:zdo s.b with
  | none=>rw[hc]at q;cases q
  | some p =>
   obtain⟨p1,p2⟩:=p
   rw[hc]at q
   cases q
   have:=(zcq hc).1
   show p1.length<2^36
   omega
 obtain⟨lv1,ho1,hl1⟩:=h1.cells
 have hx1:=h1.hx
 simp
 refine zhU ?_
 have hbl:(zbn t).length≤t.length:=by
  unfold zbn
  split<;>simp
 have hdig:∀c,inS [48,49,50,51,52,53,54,55,56,57] c=zJ c:=by
  have key:∀k:Fin 256,inS [48,49,50,51,52,53,54,55,56,57] (UInt8.ofNat k.1)=zJ (UInt8.ofNat k.1):=by decide +kernel
  intro c
  have:=key ⟨c.toNat,c.toNat_lt⟩
  simpa using this
 by_cases hb0:zbn t=[]
 ·have hv:zqA t=.error 2:=by unfold zqA;rw[if_pos (by simp[hb0])]
  rw[hv]at hnum
  simp[hb0]
  refine z9 (fun q=>by cases q) (fun _=>?_)
  simp
  exact hn 2 hnum _ K1.r
 ·simp[hb0]
  refine zfW (l:=[48,49,50,51,52,53,54,55,56,57]) (by decide) (by decide) (by decide) (by omega) fun σ2 A2=>?_
  have K12:=K1.trans (A2.keepS hx1 ho1)
  cases hall:(zbn t).all zJ with
  | false =>
   have hv:zqA t=.error 2:=by unfold zqA;rw[if_pos (by simp[hall])]
   rw[hv]at hnum
   have hne:¬zlT [48,49,50,51,52,53,54,55,56,57] (zbn t)=[]:=by
    rw[zcO]
    have:(zbn t).all (inS [48,49,50,51,52,53,54,55,56,57])=(zbn t).all zJ:=by congr 1;funext c;exact hdig c
    rw[this,hall]
    simp
   simp[hne]
   refine z9 (fun q=>by cases q) (fun _=>?_)
   simp
   exact hn 2 hnum _ K12.r
  | true =>
   have he:zlT [48,49,50,51,52,53,54,55,56,57] (zbn t)=[]:=by
    rw[zcO]
    have:(zbn t).all (inS [48,49,50,51,52,53,54,55,56,57])=(zbn t).all zJ:=by congr 1;funext c;exact hdig c
    rw[this,hall]
   have hv:zqA t=match Lib.atoiAll t with
     | .ok n=>if Lib.itoa n=t then .ok n else .error 11
     | _=>.error 11:=by
    unfold zqA
    rw[if_neg (by simp[hb0,hall])]
    rfl
   simp[he]
   refine z9 (fun _=>?_) (fun q=>by cases q)
   simp
   refine zpj V hb0 hall (by omega) (fun n hq2=>?_) (fun hq2 k=>?_)
   ·rw[hq2]at hv
    simp only at hv
    have hr:-(2^63)≤n∧n<2^63:=by
     rw[zm0 hb0 hall]at hq2
     split at hq2
     ·cases hq2;assumption
     ·cases hq2
    simp
    refine zef V hr ?_
    by_cases hi:Lib.itoa n=t
    ·rw[if_pos hi]at hv
     rw[hv]at hnum
     simp[hi]
     refine z9 (fun _=>?_) (fun q=>by cases q)
     simp
     exact hs n s1 hnum hr.1 hr.2 _ (h1.adds A2) K12
    ·rw[if_neg hi]at hv
     rw[hv]at hnum
     simp[hi]
     refine z9 (fun q=>by cases q) (fun _=>?_)
     simp
     exact hn 11 hnum _ K12.r
   ·rw[hq2]at hv
    simp only at hv
    rw[hv]at hnum
    simp
    refine z9 (fun q=>by cases q) (fun _=>?_)
    simp
    exact hn 11 hnum _ K12.r
end
theorem Wr.newF{base x s τ}(h:Wr base x s τ):Wr base x s τ.newF:=h.adds (zh.refl τ).newF
theorem Wr.endF{base x s τ}(h:Wr base x s τ){g:Nat}(hg:base≤g)(hu:¬zck τ x g):Wr base x s (τ.setF g .dead):=by
 obtain⟨lv,ho,hl⟩:=h.cells
 have hb:=h.hb
 refine⟨h.hx,hb,?_,h.ok,h.len,lv,ho,?_⟩
 ·have:¬0=g:=by omega
  simp[this,h.h0]
 ·rcases hl with h1|⟨f,tos,h1,h2,h3,h4,h5⟩
  ·exact .inl h1
  ·have:¬f=g:=fun e=>hu ⟨_,_,ho,rfl,by rw[h1,←e];rfl⟩
   exact .inr ⟨f,tos,h1,h2,h3,by simp[this,h4],h5⟩
theorem Wr.mrg{base x s τ}(h:Wr base x s τ){g:Nat}(hg:base≤g)(hu:¬zck τ x g):Wr base x s (τ.mrg g fun _=>false):=by
 obtain⟨lv,ho,hl⟩:=h.cells
 have hb:=h.hb
 refine⟨h.hx,hb,?_,h.ok,h.len,lv,by simpa [AS.mrg]using ho,?_⟩
 ·have:¬0=g:=by omega
  simp[AS.mrg,zlt,this,h.h0]
 ·rcases hl with h1|⟨f,tos,h1,h2,h3,h4,h5⟩
  ·exact .inl h1
  ·have:¬f=g:=fun e=>hu ⟨_,_,ho,rfl,by rw[h1,←e];rfl⟩
   exact .inr ⟨f,tos,h1,h2,h3,by simp[AS.mrg,zlt,this,h4],h5⟩
theorem Wr.setO{base x s σ o cs}(h:Wr base x s σ)(ho:o≠x):Wr base x s (σ.setO o cs):=by
 obtain⟨lv,h1,hl⟩:=h.cells
 refine⟨h.hx,h.hb,h.h0,h.ok,h.len,lv,?_,?_⟩
 ·have:¬x=o:=fun e=>ho e.symm
  simp[this,h1]
 ·rcases hl with h1|⟨g,tos,h1,h2,h3,h4,h5⟩
  ·exact .inl h1
  ·exact .inr ⟨g,tos,h1,h2,h3,h4,h5⟩
theorem zq0{el:Option TypeId}{base x s}{σ0 τ:AS}{v row:AV}{xs:List AV}{bsz sz:Nat}{K:AV→AS→Prop}(hG:ziA σ0 x sz τ v xs)(hR:Wr base x s τ)(hK:z8 x σ0 τ)(hb:base≤σ0.nf)(hrow:row.cells.length=sz)(hl:(xs.length+1)*bsz≤2^47)
  (h:∀v' τ',ziA σ0 x sz τ' v' (xs++[row])→Wr base x s τ'→z8 x σ0 τ'→τ'.objs=τ.objs→τ'.no=τ.no→(zag x σ0 τ→zag x σ0 τ')→K v' τ'):zcc el bsz sz v [row] τ K:=by
 have hn:=hK.nf
 rcases hG with ⟨rfl,rfl⟩|⟨g,rfl,h2,h3,h4,h5⟩
 ·have hnu:¬zck τ.newF x τ.nf:=fun u=>by have:=hR.lt (f:=τ.nf) u;omega
  have:=h (.sl (.fam τ.nf false) sz [row]) τ.newF (.inr ⟨τ.nf,rfl,hn,by simp,by simp,hnu⟩) hR.newF hK.newF (by simp) (by simp) (fun q=>q.newF)
  simp at hl
  simp
  first|exact this|exact⟨by omega,this⟩
 ·have hR':=(hR.endF (by omega) h5).newF
  have hK':=(hK.endF h2).newF
  have hnu:¬zck (τ.setF g .dead).newF x τ.nf:=fun u=>by have:=hR.lt (f:=τ.nf) u;omega
  have:=h (.sl (.fam τ.nf false) sz (xs++[row])) (τ.setF g .dead).newF (.inr ⟨τ.nf,rfl,hn,by simp,by simp,hnu⟩) hR' hK' (by simp) (by simp) (fun q=>(q.endF h2).newF)
  simp[h4]
  exact⟨hl,this⟩
theorem zdR{s s':Ts}{t:List UInt8}(h:zb3 s=.ok (t,s')):t.length+s'.b.length≤s.b.length∧t≠[]∧s'.ls=s.ls:=by
 unfold zb3 at h
 cases hc:zdo s.b with
 | none=>rw[hc]at h;cases h
 | some p =>
  obtain⟨p1,p2⟩:=p
  rw[hc]at h
  cases h
  exact⟨(zcq hc).1,(zcq hc).2,rfl⟩
section
variable {G : Env} {σ : AS} {R : Out → AS → Prop}
def TyW(base x:Nat)(k0:Nat)(s0:Ts)(σ:AS)(a:Nat→AV)(τ:AS):Prop:=∃(k:Nat) (done:List Int) (s:Ts),zb0 k0 [] s0=zb0 k done s∧s.b.length<k∧done.length+s.b.length≤s0.b.length∧a 0=.ptr x 0∧ziA σ x 1 τ (a 2) (done.map (.int .i64))∧Wr base x s τ∧zag x σ τ
def MBt(x:Nat)(_:Nat→AV)(τ:AS):Nat:=match τ.objs x with
 | some (.str b::_)=>b.length
 | _=>0
theorem zex{base x s τ}(h:Wr base x s τ)(a:Nat→AV):MBt x a τ=s.b.length:=by
 obtain⟨lv,ho,hl⟩:=h.cells
 unfold MBt
 rw[ho]
theorem zEH(l:List Int):(0:Int)<(l.length:Int)↔l≠[]:=by
 cases l<;>simp
theorem zng{base x s}{k:Nat}(h:Wr base x s σ)(hk:s.b.length<k)(hn:∀e,zb0 k [] s=.error e→zcC R x σ e)(hs:∀l s',zb0 k [] s=.ok (l,s')→∀v σ',Al.IntsE v l→Wr base x s' σ'→zag x σ σ'→R (.ret v) σ'):zzQ G 118 [.ptr x 0] σ R:=by
 refine Al.merging (zsY rfl ?_)
 obtain⟨cs0,hcs0⟩:=h.isSome
 simp[zBS]
 refine zas (TyW base x k s σ) (MBt x) ⟨k,[],s,rfl,hk,by simp,by simp,.inl ⟨rfl,by simp⟩,h,.refl hcs0⟩ fun a τ hI=>?_
 obtain⟨k1,done,s1,he,hk1,hlen,a0,hG,hW,hK⟩:=hI
 obtain⟨k1,rfl⟩:∃j,k1=j+1:=⟨k1-1,by omega⟩
 have hmb:=zex hW a
 have hb:=h.hb.2
 have hl36:=h.len
 rw[zb0]at he
 simp[znV,a0]
 refine zja hW (fun q=>?_) (fun t s2 q τ2 hW2 hK2=>?_)
 ·intro σ' h1
  exact .inl (hn 2 (by rw[he,q];rfl) σ' (hK.r.trans h1))
 ·rw[q]at he
  simp only[Except.bind]at he
  obtain⟨q1,q2,_⟩:=zdR q
  have ht0:1≤t.length:=ybm.2 q2
  have hK12:=hK.trans hK2
  have hG2:=hG.keep hK2.r
  have g2:=hG2.one
  have hmb2:=zex hW2 a
  by_cases h32:t=zAw
  ·rw[if_pos h32]at he
   have h32':t=[105,51,50]:=h32
   simp[h32',g2]
   refine zq0 (row:=.int .i64 1) hG2 hW2 hK12.r hb (by simp) (by simp;omega) fun v' τ' e1 e2 e3 e4 e5 e6=>?_
   simp
   refine⟨⟨k1,done++[1],s2,he,by omega,by simp;omega,by simp[a0],by simpa using e1,e2,e6 hK12⟩,?_⟩
   rw[zex e2,hmb];omega
  ·rw[if_neg h32]at he
   have h32':¬t=[105,51,50]:=h32
   by_cases h64:t=zAx
   ·rw[if_pos h64]at he
    have h64':t=[105,54,52]:=h64
    simp[h64',g2]
    refine zq0 (row:=.int .i64 2) hG2 hW2 hK12.r hb (by simp) (by simp;omega) fun v' τ' e1 e2 e3 e4 e5 e6=>?_
    simp
    refine⟨⟨k1,done++[2],s2,he,by omega,by simp;omega,by simp[a0],by simpa using e1,e2,e6 hK12⟩,?_⟩
    rw[zex e2,hmb];omega
   ·rw[if_neg h64]at he
    have h64':¬t=[105,54,52]:=h64
    by_cases hsh:t=zg
    ·have hsh':t=[41]:=hsh
     by_cases hd:done=[]
     ·rw[if_neg (fun q=>q.2 hd)]at he
      subst hd
      rcases hG2 with ⟨_,e2⟩|⟨g,e1,_⟩
      ·simp[hsh',e2]
       refine z9 (fun q=>by cases q) (fun _=>?_)
       simp
       exact .inl (hn 2 he _ hK12.r)
      ·simp[hsh',e1]
       refine z9 (fun q=>by cases q) (fun _=>?_)
       simp
       exact .inl (hn 2 he _ hK12.r)
     ·rw[if_pos ⟨hsh,hd⟩]at he
      rcases hG2 with ⟨e1,_⟩|⟨g,e1,e2,e3,e4,e5⟩
      ·exact absurd (by simpa using e1) hd
      ·have hpos:(0:Int)<(done.length:Int):=(zEH done).2 hd
       have hposN:0<done.length:=by omega
       simp[hsh',e1,hposN]
       refine z9 (fun _=>?_) (fun q=>by cases q)
       simp[e1]
       have:=hs _ _ he (.sl (.fam 0 false) 1 (done.map (.int .i64))) (τ2.mrg g fun _=>false) (.inr ⟨_,rfl⟩) (hW2.mrg (by omega) e5) (hK12.mrg e2)
       refine Al.MrgOr.merged g (fun _=>false) (by have:=hW2.hb;omega) e4 ?_
       simpa [Function.comp_def]using this
    ·rw[if_neg (fun q=>hsh q.1)]at he
     have hsh':¬t=[41]:=hsh
     simp[h32',h64',hsh']
     refine z9 (fun q=>by cases q) (fun _=>?_)
     simp
     exact .inl (hn 2 he _ hK12.r)
end
@[simp] theorem zKG(σ:AS)(f g:Nat):(σ.turn f).F g=if g=σ.nf then .alive else if g=f then .dead else σ.F g:=by simp[AS.turn,upd]
@[simp] theorem zI9(σ:AS)(f:Nat):(σ.turn f).nf=σ.nf+1:=rfl
@[simp] theorem zJa(σ:AS)(f:Nat):(σ.turn f).no=σ.no:=rfl
@[simp] theorem zEI(σ:AS)(f:Nat):(σ.turn f).objs=σ.objs:=rfl
theorem zh.turn{σ σ':AS}(h:zh σ σ'){f:Nat}(hf:σ.nf≤f):zh σ (σ'.turn f) where
 no:=h.no
 nf:=Nat.le_succ_of_le h.nf
 obj:=h.obj
 fam g hg:=by
  have:=h.nf
  have h1:¬g=σ'.nf:=by omega
  have h2:¬g=f:=by omega
  simp[h1,h2]
  exact h.fam g hg
theorem zv2:yb9.underlying 208=some (.map 9 53):=by kernel_rfl
theorem zv3:yb9.underlying 242=some (.map 9 3):=by kernel_rfl
theorem zoi(s:List UInt8):zeJ yb9 9 (.str s)=true:=by
 have:yb9.underlying 9=some .string:=by kernel_rfl
 simp[zeJ,this]
def zmn(l:List (List UInt8)):List AV:=l.map ycn
theorem zdS(s:List UInt8):∀(l:List (List UInt8)) (i:Nat),zk2 (.str s) (zmn l) i=some ((l.findIdx? (fun k=>k==s)).map (·+i))
 | [],i=>rfl
 | k::l,i=>by
  rw[show zmn (k::l)=.str k::zmn l from rfl,zk2,ycR]
  by_cases h:s=k
  ·subst h
   simp[zil]
  ·have h':¬k=s:=fun e=>h e.symm
   have ih:=zdS s l (i+1)
   simp only[zil,show(s==k)=false from by simpa using h]
   rw[ih]
   simp[h']
   cases l.findIdx? (fun k=>k==s)with
   | none=>simp
   | some j=>simp;omega
@[simp] theorem zAB{σ:AS}{f:Nat}{ks:List (List UInt8)}{vs:List AV}{k:List UInt8}{v:AV}{K:AV→AS→Prop}:zcy yb9 208 (.mpo f (zmn ks) vs) (.str k) v σ K=(σ.F f=.alive∧v.plainV=true∧ks.contains k=false∧K (.mpo σ.nf (zmn (ks++[k])) (vs++[v])) (σ.turn f)):=by
 simp only[zcy,zv2,zoi,zdS,true_and]
 have e:(some ((ks.findIdx? (fun x=>x==k)).map (·+0))=some none)↔ks.contains k=false:=by
  cases h:ks.findIdx? (fun x=>x==k)with
  | none =>
   have:=ycQ.1 h
   simp
   intro q
   have:=this k q
   simp at this
  | some i =>
   obtain⟨hi,hc,_⟩:=ycS.1 h
   have hc:ks[i]=k:=by simpa using hc
   simp
   rw[←hc]
   exact yaw hi
 rw[propext e]
 rw[show zmn (ks++[k])=zmn ks++[.str k] from by simp[zmn]]
@[simp] theorem zAC{σ:AS}{f:Nat}{ks:List (List UInt8)}{vs:List AV}{k:List UInt8}{v:AV}{K:AV→AS→Prop}:zcy yb9 242 (.mpo f (zmn ks) vs) (.str k) v σ K=(σ.F f=.alive∧v.plainV=true∧ks.contains k=false∧K (.mpo σ.nf (zmn (ks++[k])) (vs++[v])) (σ.turn f)):=by
 simp only[zcy,zv3,zoi,zdS,true_and]
 have e:(some ((ks.findIdx? (fun x=>x==k)).map (·+0))=some none)↔ks.contains k=false:=by
  cases h:ks.findIdx? (fun x=>x==k)with
  | none =>
   have:=ycQ.1 h
   simp
   intro q
   have:=this k q
   simp at this
  | some i =>
   obtain⟨hi,hc,_⟩:=ycS.1 h
   have hc:ks[i]=k:=by simpa using hc
   simp
   rw[←hc]
   exact yaw hi
 rw[propext e]
 rw[show zmn (ks++[k])=zmn ks++[.str k] from by simp[zmn]]
@[simp] theorem zHu{σ:AS}{K:AV→AS→Prop}{r:Option AV}:zd4 r σ K=(r=none∧K (.mpo σ.nf (zmn []) []) σ.newF):=rfl
def zb8:W:={ op:=0,ty:=0,n:=0,body:=0,other:=0,name:=[] }
theorem zlW(T:List (List UInt8 × W))(s:List UInt8)(K:AV→Prop):zbs yb9 208 (.mp (zmn (T.map (·.1))) (T.map fun p=>p.2.av)) (.str s) true K=K (.tuple [((zM T s).getD zb8).av,.bool (zM T s).isSome]):=by
 have hz:zH yb9 53=some zb8.av:=by kernel_rfl
 simp only[zbs,zv2,zoi,zdS,true_and,hz]
 have e:(T.map (·.1)).findIdx? (fun k=>k==s)=T.findIdx? (fun p=>p.1==s):=by rw[List.findIdx?_map];rfl
 rw[e]
 unfold zM
 cases h:T.findIdx? (fun p=>p.1==s)with
 | none =>
  have hn:T.find? (fun p=>p.1==s)=none:=ycW.2 fun p hp=>by have:=ycQ.1 h p hp;simp[this]
  rw[hn]
  simp
 | some i =>
  obtain⟨hi,hc,hlt⟩:=ycS.1 h
  have hf:T.find? (fun p=>p.1==s)=some T[i]:=by
   rw[List.find?_eq_some_iff_getElem]
   exact⟨hc,i,hi,rfl,fun j hj=>by simpa using hlt j hj⟩
  rw[hf]
  have hg:(T.map fun p=>p.2.av)[i]?=some T[i].2.av:=by simp[hi]
  apply propext
  simp only[Option.map_some,yaK,Option.getD_some,Option.isSome_some,if_true]
  constructor
  ·rintro ⟨r,h1,h2⟩
   cases h1
   obtain⟨v,h3,h4⟩:=h2
   rw[hg]at h3
   cases h3
   exact h4
  ·exact fun q=>⟨some i,rfl,_,hg,q⟩
section
variable {G : Env} {σ : AS} {R : Out → AS → Prop}
theorem zjb{s:List UInt8}(h:∀σ',zh σ σ'→R (.ret (.tuple [((zM zdK s).getD zb8).av,.bool (zM zdK s).isSome])) σ'):zzQ G 134 [.str s] σ R:=by
 refine zta rfl ?_
 simp[zBZ,splice,AV.plainV,AV.atom]
 refine(zlW zdK s _).mpr ?_
 have key:∀w b,(zM zdK s).getD zb8=w→(zM zdK s).isSome=b→∀σ',zh σ σ'→R (.ret (.tuple [w.av,.bool b])) σ':=fun w b e1 e2=>e1▸e2▸h
 cases hf:zM zdK s with
 | none =>
  have:=key zb8 false (by rw[hf];rfl) (by rw[hf];rfl)
  simp[splice,W.av,W.cs,zb8]
  simp[W.av,W.cs,zb8]at this
  refine this _ ?_
  repeat (first|exact zh.refl _|refine zh.setO ?_ (by simp)|refine zh.newO ?_|refine zh.newF ?_|refine zh.turn ?_ (by omega))
 | some w =>
  have:=key w true (by rw[hf];rfl) (by rw[hf];rfl)
  simp[W.av,W.cs]at this
  simp[splice,W.av,W.cs]
  refine this _ ?_
  repeat (first|exact zh.refl _|refine zh.setO ?_ (by simp)|refine zh.newO ?_|refine zh.newF ?_|refine zh.turn ?_ (by omega))
theorem zeU{t:Int}(ht:t=1∨t=2)(h:R (.ret (.str (zD t))) σ):zzQ G 131 [.int .i64 t] σ R:=by
 refine zs6 rfl ?_
 rcases ht with rfl|rfl
 ·simp[zxq]
  exact h
 ·simp[zxq]
  exact h
end
end Go.Proofs.YtohfclafhegadaaGreatDoor
set_option maxRecDepth 100000
namespace Go.Proofs.YtohfclafhegadaaGreatDoor.Sg
open Go Go.Abs Go.Proofs.YtohfclafhegadaaGreatDoor
def zoj:List UInt8:=[97,100,100,32,115,117,98,32,109,117,108,32,100,105,118,95,115,32,114,101,109,95,115,32,97,110,100,32,111,114,32,120,111,114,32,115,104,108,32,115,104,114,95,115,32,101,113,32,110,101,32,108,116,95,115,32,108,101,95,115,32,103,116,95,115,32,103,101,95,115]
theorem fok:zut zoj zfh 66:=⟨by decide,by decide,by decide,by decide,by decide,⟨_,_,rfl,by decide⟩,by decide,by decide,by decide⟩
theorem fields_calls{G:Env}{σ:AS}{R:Out→AS→Prop}(v3:G.g 0=.pv (.stat true) (.agg zdM))(h:∀x σ',zh σ σ'→σ.no≤x→x<σ'.no→σ'.objs x=some (zfh.map ycn)→R (.ret (.slm x 0 1 16)) σ'):zzQ G 57 [.str zoj] σ R:=zfT fok v3 h
end Go.Proofs.YtohfclafhegadaaGreatDoor.Sg
namespace Go.Proofs.YtohfclafhegadaaGreatDoor
open Go Go.Abs
abbrev zHv(t:Int):W:={ op:=5,ty:=t,n:=0,body:=0,other:=0,name:=[] }
abbrev zHw(t:Int)(u:List UInt8):W:={ op:=4,ty:=t,n:=0,body:=0,other:=0,name:=u }
def zcP(t:Int)(s:List UInt8):Option W :=
 if ziB (zD t++[46]) s=true then(if s.drop 4=[101,113,122]then some (zHv t)else if zfh.contains (s.drop 4)=true then some (zHw t (s.drop 4))else none)else none
theorem zok{p s:List UInt8}:ziB p s=true↔∃u,s=p++u:=by
 unfold ziB
 rw[decide_eq_true_eq]
 constructor
 ·rintro ⟨_,h⟩
  exact⟨s.drop p.length,by conv=>lhs;rw[←ycX p.length s,h]⟩
 ·rintro ⟨u,rfl⟩
  simp
theorem zhV(pre:List UInt8)(g:List UInt8→W)(s:List UInt8):∀L:List (List UInt8),zM (L.map fun k=>(pre++k,g k)) s=if ziB pre s=true∧s.drop pre.length∈L then some (g (s.drop pre.length))else none
 | []=>by simp[zM]
 | k::L=>by
  have ih:=zhV pre g s L
  unfold zM at ih ⊢
  rw[yaL,List.find?_cons]
  by_cases h:pre++k=s
  ·subst h
   have:ziB pre (pre++k)=true:=zok.2 ⟨k,rfl⟩
   simp[this]
  ·have hb:(pre++k==s)=false:=by simpa using h
   simp only[hb]
   rw[ih]
   by_cases hp:ziB pre s=true
   ·obtain⟨u,rfl⟩:=zok.1 hp
    have:¬u=k:=fun e=>h (by rw[e])
    simp[hp,this]
   ·simp[hp]
theorem zhW(a b:List (List UInt8 × W))(s:List UInt8):zM (a++b) s=(zM a s).or (zM b s):=by
 unfold zM
 rw[List.find?_append]
 cases a.find? (fun p=>p.1==s)<;>simp
theorem zhX(t:Int)(s:List UInt8):zM (zn9 t) s=zcP t s:=by
 have hl:(zD t++[46]).length=4:=by unfold zD;split<;>rfl
 have e1:(zfh.map fun x=>(zD t++46::x,({ op:=4,ty:=t,n:=0,body:=0,other:=0,name:=x }:W)))=zfh.map fun k=>((zD t++[46])++k,zHw t k):=by
  simp
 have e2:[(zD t++[46,101,113,122],({ op:=5,ty:=t,n:=0,body:=0,other:=0,name:=[] }:W))]=[[101,113,122]].map fun k=>((zD t++[46])++k,zHv t):=by simp
 unfold zn9
 rw[zhW,e1,e2,zhV,zhV,hl]
 unfold zcP
 by_cases hp:ziB (zD t++[46]) s=true
 ·have hq:[101,113,122]∉zfh:=by decide
  by_cases h1:s.drop 4=[101,113,122]
  ·simp[hp,h1,hq]
  ·simp[hp,h1]
   try (split<;>simp)
 ·simp[hp]
theorem zlX:∀p∈zhD,zcP 1 p.1=none∧zcP 2 p.1=none:=by decide
theorem zlY(s:List UInt8):zM zhE s=(zcP 1 s).or ((zcP 2 s).or (zM zhD s)):=by
 unfold zhE
 rw[zhW,zhW,zhX,zhX]
 cases hb:zM zhD s with
 | none=>simp
 | some w =>
  have:∃p∈zhD,p.1=s:=by
   unfold zM at hb
   rw[ybB]at hb
   obtain⟨p,hp,_⟩:=hb
   exact⟨p,ycY hp,by simpa using ycZ hp⟩
  obtain⟨p,hp,rfl⟩:=this
  rw[(zlX p hp).1,(zlX p hp).2]
  rfl
def zgo:List (List UInt8 × W):=zhD.take 2++(zhD.drop 8++(zhD.drop 2).take 6)
theorem zpk{l T:List (List UInt8 × W)}(hm:∀p,p∈l↔p∈T)(hT:∀p∈T,zM T p.1=some p.2)(s:List UInt8):zM l s=zM T s:=by
 cases h:zM l s with
 | some w =>
  unfold zM at h
  rw[ybB]at h
  obtain⟨p,hp,rfl⟩:=h
  have h1:=hT p ((hm p).1 (ycY hp))
  have h2:p.1=s:=by simpa using ycZ hp
  rw[h2]at h1
  exact h1.symm
 | none =>
  cases h2:zM T s with
  | none=>rfl
  | some w =>
   unfold zM at h h2
   rw[ybB]at h2
   obtain⟨p,hp,rfl⟩:=h2
   rw[Option.map_eq_none_iff,ycW]at h
   have:=h p ((hm p).2 (ycY hp))
   have h3:=ycZ hp
   exact absurd h3 this
theorem zq1(s:List UInt8):zM zgo s=zM zhD s:=zpk (fun p=>by
  have h1:∀p∈zgo,p∈zhD:=by decide
  have h2:∀p∈zhD,p∈zgo:=by decide
  exact⟨h1 p,h2 p⟩) (by decide) s
@[simp] theorem zuF{P:Program}(t)(x y:List UInt8){K:AV→Prop}:zbk P .add t (.str x) (.str y) K=(x.length+y.length<2^62∧K (.str (x++y))):=by simp only[zbk,zg0]
section
variable {G : Env} {σ : AS} {R : Out → AS → Prop}
def IxS(x:Nat)(L:List (List UInt8))(s:List UInt8)(σ:AS)(a:Nat→AV)(τ:AS):Prop:=∃d r:List (List UInt8),L=d++r∧(∀y∈d,¬s=y)∧a 0=.slm x 0 1 L.length∧a 1=.str s∧a 7=.int .i64 (L.length:Int)∧a 8=.int .i64 (d.length:Int)∧τ=σ
theorem zuG{x:Nat}{L:List (List UInt8)}{s:List UInt8}(hL:L.length<1000)(ho:σ.objs x=some (L.map ycn))(h:∀n:Int,(0≤n↔s∈L)→R (.ret (.int .i64 n)) σ):zzQ G 157 [.slm x 0 1 L.length,.str s] σ R:=by
 refine ztg rfl ?_
 simp[zB4]
 refine zas (IxS x L s σ) (MU 8 (L.length+1)) ⟨[],L,rfl,by simp,by simp,by simp,by simp,by simp,rfl⟩ fun a τ hI=>?_
 obtain⟨d,r,hdr,hn,a0,a1,a7,a8,rfl⟩:=hI
 cases r with
 | nil =>
  have e:L.length=d.length:=by simp[hdr]
  rw[e]at a7
  simp[zgM,znZ,a0,a1,a7,a8]
  refine h _ ⟨fun q=>by omega,fun q=>?_⟩
  rw[hdr,yb7]at q
  exact absurd rfl (hn s q)
 | cons y r =>
  have hlt:(d.length:Int)<(L.length:Int):=by simp[hdr];omega
  have hi:L[d.length]?=some y:=by simp[hdr]
  have w1:yb4 .i64 ((d.length:Int)+1)=((d.length+1:Nat):Int):=by rw[zc]<;>omega
  by_cases he:s=y
  ·simp[zgM,a0,a1,a7,a8,hlt,ho,hi,he]
   exact h _ ⟨fun _=>by rw[hdr,he];simp,fun _=>by omega⟩
  ·simp[zgM,a0,a1,a7,a8,hlt,ho,hi,he,w1]
   refine⟨⟨d++[y],r,by simp[hdr],?_,by simp[a0],by simp[a1],by simp[a7],by simp,rfl⟩,?_⟩
   ·intro z hz
    rcases ybh.1 hz with hz|hz
    ·exact hn z hz
    ·simp at hz;subst hz;exact he
   ·simp[MU,a8];omega
theorem znh{x:Nat}{L:List (List UInt8)}{s:List UInt8}(hL:L.length<1000)(ho:σ.objs x=some (L.map ycn))(h:R (.ret (.bool (decide (s∈L)))) σ):zzQ G 239 [.slm x 0 1 L.length,.str s] σ R:=by
 refine ztZ rfl ?_
 simp[zCl]
 refine zuG hL ho fun n hn=>?_
 simp[hn]
 exact h
def SgI(s:List UInt8)(σ:AS)(a:Nat→AV)(τ:AS):Prop:=∃i:Nat,i≤2∧(1≤i→zcP 1 s=none)∧(2≤i→zcP 2 s=none)∧a 0=.str s∧a 2=.ptr σ.no 0∧a 10=.sl (.stat true) 1 [.int .i64 1,.int .i64 2]∧a 11=.int .i64 2∧a 12=.int .i64 (i:Int)∧zh σ τ∧σ.no<τ.no∧τ.objs σ.no=some zb8.cs
theorem zuH(V:zb6 G){s:List UInt8}(hl:s.length<2^40)(h:∀σ',zh σ σ'→R (.ret (.tuple [((zM zhE s).getD zb8).av,.bool (zM zhE s).isSome])) σ'):zzQ G 208 [.str s] σ R:=by
 refine ztK rfl ?_
 simp[zCh]
 refine zas (SgI s σ) (MU 12 3) ⟨0,by omega,by omega,by omega,by simp,by simp,by simp,by simp,by simp,(zh.refl σ).newO,by simp,by simp[zb8,W.cs]⟩ fun a τ hI=>?_
 obtain⟨i,hi,n1,n2,a0,a2,a10,a11,a12,hA,hno,ho⟩:=hI
 have done:∀w,zM zhE s=some w→∀σ',zh σ σ'→R (.ret (.tuple [w.av,.bool true])) σ':=fun w e=>by
  rw[e]at h
  exact h
 by_cases hlt:i<2
 ·obtain⟨t,ht⟩:∃t:Int,t=(i:Int)+1:=⟨_,rfl⟩
  have ht12:t=1∨t=2:=by omega
  have hlt':(i:Int)<2:=by omega
  have hg:([yco .i64 1,.int .i64 2]:List AV)[i]?=some (.int .i64 t):=by
   match i,hlt with
   | 0,_=>subst ht;rfl
   | 1,_=>subst ht;rfl
  have w1:yb4 .i64 ((i:Int)+1)=((i+1:Nat):Int):=by rw[zc]<;>omega
  have htl:(zD t).length=3:=by rcases ht12 with rfl|rfl<;>rfl
  have hnext:zcP t s=none→(1≤i+1→zcP 1 s=none)∧(2≤i+1→zcP 2 s=none):=fun e=>by
   match i,hlt with
   | 0,_=>subst ht;exact⟨fun _=>e,fun q=>by omega⟩
   | 1,_=>subst ht;exact⟨fun _=>n1 (by omega),fun _=>e⟩
  have hrow:∀w,zcP t s=some w→zM zhE s=some w:=fun w e=>by
   rw[zlY]
   match i,hlt with
   | 0,_=>subst ht;rw[show(((0:Nat):Int)+1)=1 from rfl]at e;rw[e];rfl
   | 1,_=>subst ht;rw[show(((1:Nat):Int)+1)=2 from rfl]at e;rw[n1 (by omega),e];rfl
  simp[zkd,a0,a2,a10,a11,a12,hlt',hg]
  refine zeU ht12 ?_
  simp[htl]
  refine zgk ?_
  have h4:(zD t++[46]).length=4:=by simp[htl]
  rw[h4]
  cases hp:ziB (zD t++[46]) s with
  | false =>
   have hs:zcP t s=none:=by unfold zcP;rw[hp];rfl
   obtain⟨m1,m2⟩:=hnext hs
   simp[a0,a2,a10,a11,a12,w1]
   refine⟨⟨i+1,by omega,m1,m2,by simp[a0],by simp[a2],by simp[a10],by simp[a11],by simp,hA,hno,ho⟩,?_⟩
   simp[MU,a12];omega
  | true =>
   by_cases hz:s.drop 4=[101,113,122]
   ·have hs:zcP t s=some (zHv t):=by unfold zcP;rw[if_pos hp,if_pos hz]
    have fin:=done _ (hrow _ hs)
    simp[a0,a2,a10,a11,a12,hz,ho,splice,zb8,W.cs]
    simp[W.av,W.cs,zHv]at fin
    exact fin _ (hA.setO (yah _))
   ·simp[a0,a2,a10,a11,a12,hz]
    refine Sg.fields_calls V.space fun x σ1 A1 hx0 hx1 hxo=>?_
    have hA1:=hA.trans A1
    have ho1:=(A1.obj _ hno).trans ho
    have hno1:σ.no<σ1.no:=yag hno A1.no
    simp
    refine znh (L:=zfh) (by decide) hxo ?_
    by_cases hm:s.drop 4∈zfh
    ·have hs:zcP t s=some (zHw t (s.drop 4)):=by unfold zcP;rw[if_pos hp,if_neg hz,if_pos (by simpa using hm)]
     have fin:=done _ (hrow _ hs)
     simp[a0,a2,a10,a11,a12,hm,ho1,splice,zb8,W.cs]
     simp[W.av,W.cs,zHw]at fin
     exact fin _ (hA1.setO (yah _))
    ·have hs:zcP t s=none:=by unfold zcP;rw[if_pos hp,if_neg hz,if_neg (by simpa using hm)]
     obtain⟨m1,m2⟩:=hnext hs
     simp[a0,a2,a10,a11,a12,hm,w1]
     refine⟨⟨i+1,by omega,m1,m2,by simp[a0],by simp[a2],by simp[a10],by simp[a11],by simp,hA1,hno1,ho1⟩,?_⟩
     simp[MU,a12];omega
 ·have e2:i=2:=by omega
  subst e2
  have hrow:zM zhE s=zM zgo s:=by rw[zlY,n1 (by omega),n2 (by omega),zq1];rfl
  simp[zkd,zn4,a0,a2,a10,a11,a12,splice,AV.plainV,AV.atom]
  refine(zlW zgo s _).mpr ?_
  rw[hrow]at h
  have hnf:=hA.nf
  have hno2:=hA.no
  have key:∀w b,(zM zgo s).getD zb8=w→(zM zgo s).isSome=b→∀σ',zh σ σ'→R (.ret (.tuple [w.av,.bool b])) σ':=fun w b e1 e2=>e1▸e2▸h
  have hAll:zh σ τ:=hA
  have hne:¬σ.no=τ.no:=by omega
  have cT:=(((((((((((hAll.newF.turn (f:=τ.nf) (by omega)).turn (f:=τ.nf+1) (by omega)).turn (f:=τ.nf+1+1) (by omega)).turn (f:=τ.nf+1+1+1) (by omega)).turn (f:=τ.nf+1+1+1+1) (by omega)).turn (f:=τ.nf+1+1+1+1+1) (by omega)).turn (f:=τ.nf+1+1+1+1+1+1) (by omega)).turn (f:=τ.nf+1+1+1+1+1+1+1) (by omega)).turn (f:=τ.nf+1+1+1+1+1+1+1+1) (by omega)).turn (f:=τ.nf+1+1+1+1+1+1+1+1+1) (by omega)).turn (f:=τ.nf+1+1+1+1+1+1+1+1+1+1) (by omega))
  cases hf:zM zgo s with
  | none =>
   have:=key zb8 false (by rw[hf];rfl) (by rw[hf];rfl)
   simp[W.av,W.cs,zb8]at this
   simp[splice,W.av,W.cs,zb8,ho,a2,hne]
   refine this _ ?_
   exact(cT.newO.setO hno2).setO (yah _)
  | some w =>
   have:=key w true (by rw[hf];rfl) (by rw[hf];rfl)
   simp[W.av,W.cs]at this
   simp[splice,W.av,W.cs,zb8,ho,a2,hne]
   refine this _ ?_
   exact(cT.newO.setO hno2).setO (yah _)
end
def LeT(s s':Ts):Prop:=s'.b.length≤s.b.length∧s'.ls.length+s'.b.length≤s.ls.length+s.b.length
theorem LeT.trans{a b c:Ts}(h:LeT a b)(k:LeT b c):LeT a c:=⟨yai k.1 h.1,yai k.2 h.2⟩
theorem LeT.refl(a:Ts):LeT a a:=⟨yah _,yah _⟩
theorem zgV{s s':Ts}{t:List UInt8}(h:zb3 s=.ok (t,s')):LeT s s':=by
 obtain⟨h1,_,h3⟩:=zdR h
 exact⟨by omega,by rw[h3];omega⟩
theorem zuI{t:List UInt8}{s s':Ts}{w:W}(h:zfi t s=.ok (w,s')):LeT s s':=by
 unfold zfi at h
 split at h
 ·obtain⟨p,h1,h2⟩:=map_some h
  cases h2
  unfold zbg at h1
  obtain⟨q,h3,h4⟩:=bind_some h1
  obtain⟨n,_,h5⟩:=map_some h4
  cases h5
  exact zgV h3
 ·split at h
  ·cases h;exact .refl _
  ·cases h
theorem zpl{rec:zHi}(hr:∀d o s r s',rec d o s=.ok (r,s')→LeT s s'){op:Int}{d:Nat}{s s':Ts}{w:W}(h:zbx rec op d s=.ok (w,s')):LeT s s':=by
 unfold zbx at h
 split at h
 ·cases h
 ·obtain⟨p,h1,h2⟩:=bind_some h
  have l1:=hr _ _ _ _ _ h1
  split at h2
  ·split at h2
   ·obtain⟨q,h3,h4⟩:=map_some h2
    cases h4
    exact l1.trans (hr _ _ _ _ _ h3)
   ·cases h2;exact l1
  ·cases h2;exact l1
theorem zlZ{rec:zHi}(hr:∀d o s r s',rec d o s=.ok (r,s')→LeT s s'){t:List UInt8}{d:Nat}{s s':Ts}{w:W}(h:zdh rec t d s=.ok (w,s')):LeT s s':=by
 unfold zdh at h
 split at h
 ·exact zuI h
 ·exact zpl hr h
theorem zfs:∀(k d:Nat) (o:Bool) (l:List W) (s:Ts) (r:Int × List UInt8) (s':Ts),zae k d o l s=.ok (r,s')→LeT s s'
 | 0,_,_,_,_,_,_,h=>by cases h
 | k+1,d,o,l,s,r,s',h=>by
  rw[zae]at h
  obtain⟨p,h1,h2⟩:=bind_some h
  obtain⟨q1,q2,q3⟩:=zdR h1
  have ht:1≤p.1.length:=ybm.2 q2
  split at h2
  ·cases h2
   refine⟨by simp only;omega,?_⟩
   simp only[yab,yac,ybl]
   rw[q3]
   omega
  ·obtain⟨q,h3,h4⟩:=bind_some h2
   exact(zgV h1).trans ((zlZ (fun d o s r s'=>zfs k d o [] s r s') h3).trans (zfs k d o _ _ _ _ h4))
def zv4:List (List UInt8):=[ziV,zo1,tIf]
theorem zq2(t:List UInt8)(K:AV→Prop):zbs yb9 242 (.mp (zmn zv4) [.int .i64 11,.int .i64 12,.int .i64 13]) (.str t) false K=K (.int .i64 (zcr t)):=by
 have hz:zH yb9 3=some (.int .i64 0):=by kernel_rfl
 simp only[zbs,zv3,zoi,zdS,true_and,hz,zv4,ycR,List.findIdx?_nil]
 unfold zcr
 by_cases h1:t=ziV
 ·subst h1
  simp
 ·have h1':(ziV==t)=false:=beq_eq_false_iff_ne.2 fun e=>h1 e.symm
  by_cases h2:t=zo1
  ·subst h2
   simp[h1,h1']
  ·have h2':(zo1==t)=false:=beq_eq_false_iff_ne.2 fun e=>h2 e.symm
   by_cases h3:t=tIf
   ·subst h3
    simp[h1,h1',h2,h2']
   ·have h3':(tIf==t)=false:=beq_eq_false_iff_ne.2 fun e=>h3 e.symm
    simp[h1,h1',h2,h2',h3,h3']
def zeV(d:Nat)(o:Bool):List (List UInt8):=if d=0 then [zg]else if o=true then [zc4,zce]else [zc4]
theorem zq3{d:Nat}{o:Bool}(h:o=true→0<d)(t:List UInt8):t∈zeV d o↔zfj d o t=true:=by
 unfold zeV zfj
 by_cases hd:d=0
 ·have ho:o=false:=by
   cases o with
   | false=>rfl
   | true=>have:=h rfl;omega
  subst ho
  simp[hd]
 ·have:0<d:=by omega
  cases o<;>simp[hd,this]
def zkw(G:Env)(base x k:Nat):Prop:=∀(σ:AS) (R:Out→AS→Prop) (s:Ts) (d:Nat) (o:Bool),Wr base x s σ→s.b.length<k→s.ls.length+s.b.length≤2^38→d≤400→(o=true→0<d)→(∀e,zae k d o [] s=.error e→zcC R x σ e) →
 (∀n t s',zae k d o [] s=.ok ((n,t),s')→∀σ',Wr base x s' σ'→z8 x σ σ'→R (.ret (.tuple [.int .i64 n,.str t])) σ')→zzQ G 119 [.ptr x 0,.int .i64 (d:Int),.sl (.stat true) 1 ((zeV d o).map ycn)] σ R
section
variable {G : Env} {σ : AS} {R : Out → AS → Prop}
theorem zuJ{base x s}{k d:Nat}{op:Int}(h:Wr base x s σ)(hop:op=11∨op=12∨op=13)(hd:1≤d)(hd4:d≤401)(IH:∀j,j≤k→zkw G base x j)(hk:s.b.length<k)(hz:s.ls.length+s.b.length≤2^38)
  (hn:∀e,zbx (fun d o s=>zae k d o [] s) op d s=.error e→zcC R x σ e) (hs:∀w s',zbx (fun d o s=>zae k d o [] s) op d s=.ok (w,s')→∀σ',Wr base x s' σ'→z8 x σ σ'→R (.ret w.av) σ'):zzQ G 207 [.ptr x 0,.int .i64 op,.int .i64 (d:Int)] σ R:=by
 refine ztJ rfl ?_
 obtain⟨cs0,hcs0⟩:=h.isSome
 have hx:=h.hx
 by_cases h4:400<d
 ·have h4':¬(d:Int)≤400:=by omega
  have he:zbx (fun d o s=>zae k d o [] s) op d s=.error 3:=by unfold zbx;rw[if_pos h4]
  simp[zxx,h4']
  refine z9 (fun q=>by cases q) (fun _=>?_)
  simp
  exact hn 3 he _ ((zh.refl σ).newO.keepR hx)
 ·have h4':(d:Int)≤400:=by omega
  have he:zbx (fun d o s=>zae k d o [] s) op d s=(zae k d (decide (op=13)) [] s).bind fun p =>
    if op=13 then(if p.1.2=zce then(zae k d false [] p.2).map fun q=>({ op:=13,ty:=0,n:=0,body:=p.1.1,other:=q.1.1,name:=[] },q.2)
     else .ok ({ op:=13,ty:=0,n:=0,body:=p.1.1,other:=-1,name:=[] },p.2))
    else .ok ({ op:=op,ty:=0,n:=0,body:=p.1.1,other:=0,name:=[] },p.2):=by unfold zbx;rw[if_neg h4]
  simp[zxx,h4']
  refine z9 (fun _=>?_) (fun q=>by cases q)
  simp[splice]
  have hno1:(((σ.newO [yco .i64 0,.int .i64 0,.int .i64 0,.int .i64 0,.int .i64 0,.str []]).newO [yco .i64 0,.int .i64 0,.int .i64 0,.int .i64 0,.int .i64 0,.str []]).setO (σ.no+1) [yco .i64 op,.int .i64 0,.int .i64 0,.int .i64 0,.int .i64 0,.str []]).no=σ.no+2:=by simp
  have A1:zh σ (((σ.newO [yco .i64 0,.int .i64 0,.int .i64 0,.int .i64 0,.int .i64 0,.str []]).newO [yco .i64 0,.int .i64 0,.int .i64 0,.int .i64 0,.int .i64 0,.str []]).setO (σ.no+1) [yco .i64 op,.int .i64 0,.int .i64 0,.int .i64 0,.int .i64 0,.str []]):=(zh.refl σ).newO.newO.setO (by omega)
  have o0:(((σ.newO [yco .i64 0,.int .i64 0,.int .i64 0,.int .i64 0,.int .i64 0,.str []]).newO [yco .i64 0,.int .i64 0,.int .i64 0,.int .i64 0,.int .i64 0,.str []]).setO (σ.no+1) [yco .i64 op,.int .i64 0,.int .i64 0,.int .i64 0,.int .i64 0,.str []]).objs σ.no=some [.int .i64 0,.int .i64 0,.int .i64 0,.int .i64 0,.int .i64 0,.str []]:=by simp
  have o1:(((σ.newO [yco .i64 0,.int .i64 0,.int .i64 0,.int .i64 0,.int .i64 0,.str []]).newO [yco .i64 0,.int .i64 0,.int .i64 0,.int .i64 0,.int .i64 0,.str []]).setO (σ.no+1) [yco .i64 op,.int .i64 0,.int .i64 0,.int .i64 0,.int .i64 0,.str []]).objs (σ.no+1)=some [.int .i64 op,.int .i64 0,.int .i64 0,.int .i64 0,.int .i64 0,.str []]:=by simp
  generalize hσ1:((σ.newO [yco .i64 0,.int .i64 0,.int .i64 0,.int .i64 0,.int .i64 0,.str []]).newO [yco .i64 0,.int .i64 0,.int .i64 0,.int .i64 0,.int .i64 0,.str []]).setO (σ.no+1) [yco .i64 op,.int .i64 0,.int .i64 0,.int .i64 0,.int .i64 0,.str []]=σ1 at *
  have hW1:=h.adds A1
  have K1:=A1.keepR hx
  have hx0:¬x=σ.no:=by omega
  have hx1:¬x=σ.no+1:=by omega
  have hx0':σ.no≠x:=by omega
  have hx1':σ.no+1≠x:=by omega
  have fin:∀(w:W) (s':Ts) (σ':AS),zbx (fun d o s=>zae k d o [] s) op d s=.ok (w,s')→Wr base x s' σ'→z8 x σ1 σ'→∀c1 c2,R (.ret w.av) ((σ'.setO (σ.no+1) c1).setO σ.no c2):=fun w s' σ' q hW hK c1 c2 =>
   hs w s' q _ ((hW.setO hx1').setO hx0') (((K1.trans hK).setO (by omega) hx1').setO (yah _) hx0')
  by_cases h13:op=13
  ·subst h13
   simp only[if_true,decide_true]at he
   simp
   rw[hσ1]
   have hl1:=IH k (yah _) σ1
   have e1:zeV d true=[zc4,zce]:=by unfold zeV;rw[if_neg (by omega),if_pos rfl]
   have e2:zeV d false=[zc4]:=by unfold zeV;rw[if_neg (by omega),if_neg (by simp)]
   have go1:∀R',(∀e,zae k d true [] s=.error e→zcC R' x σ1 e)→(∀n t s',zae k d true [] s=.ok ((n,t),s')→∀σ',Wr base x s' σ'→z8 x σ1 σ'→R' (.ret (.tuple [.int .i64 n,.str t])) σ')→zzQ G 119 [.ptr x 0,.int .i64 (d:Int),.sl (.stat true) 1 [.str [101,110,100],.str [101,108,115,101]]] σ1 R':=fun R' a b=>by
    have:=IH k (yah _) σ1 R' s d true hW1 hk hz (by omega) (fun _=>by omega) a b
    rw[e1]at this
    exact this
   refine go1 _ (fun e q=>?_) (fun n t s2 q σ2 hW2 hK2=>?_)
   ·intro σ' K
    simp
    exact hn e (by rw[he,q];rfl) _ (K1.trans K)
   ·rw[q]at he
    simp only[Except.bind]at he
    have hle:=zfs _ _ _ _ _ _ _ q
    have o0':=(hK2.obj σ.no (by omega) hx0').trans o0
    have o1':=(hK2.obj (σ.no+1) (by omega) hx1').trans o1
    by_cases ht:t=zce
    ·have ht':t=[101,108,115,101]:=ht
     rw[if_pos ht]at he
     simp[o1',splice,ht']
     have hW2':Wr base x s2 ((σ2.setO (σ.no+1) [yco .i64 13,.int .i64 0,.int .i64 0,.int .i64 n,.int .i64 0,.str []]).setO (σ.no+1) [yco .i64 13,.int .i64 0,.int .i64 0,.int .i64 n,.int .i64 (-1),.str []]):=(hW2.setO hx1').setO hx1'
     have hK2':z8 x σ ((σ2.setO (σ.no+1) [yco .i64 13,.int .i64 0,.int .i64 0,.int .i64 n,.int .i64 0,.str []]).setO (σ.no+1) [yco .i64 13,.int .i64 0,.int .i64 0,.int .i64 n,.int .i64 (-1),.str []]):=((K1.trans hK2).setO (by omega) hx1').setO (by omega) hx1'
     have p0:((σ2.setO (σ.no+1) [yco .i64 13,.int .i64 0,.int .i64 0,.int .i64 n,.int .i64 0,.str []]).setO (σ.no+1) [yco .i64 13,.int .i64 0,.int .i64 0,.int .i64 n,.int .i64 (-1),.str []]).objs σ.no=some [.int .i64 0,.int .i64 0,.int .i64 0,.int .i64 0,.int .i64 0,.str []]:=by simp[o0']
     have p1:((σ2.setO (σ.no+1) [yco .i64 13,.int .i64 0,.int .i64 0,.int .i64 n,.int .i64 0,.str []]).setO (σ.no+1) [yco .i64 13,.int .i64 0,.int .i64 0,.int .i64 n,.int .i64 (-1),.str []]).objs (σ.no+1)=some [.int .i64 13,.int .i64 0,.int .i64 0,.int .i64 n,.int .i64 (-1),.str []]:=by simp
     have pn:σ.no+2≤((σ2.setO (σ.no+1) [yco .i64 13,.int .i64 0,.int .i64 0,.int .i64 n,.int .i64 0,.str []]).setO (σ.no+1) [yco .i64 13,.int .i64 0,.int .i64 0,.int .i64 n,.int .i64 (-1),.str []]).no:=by have:=hK2.no;simp;omega
     generalize (σ2.setO (σ.no+1) [yco .i64 13,.int .i64 0,.int .i64 0,.int .i64 n,.int .i64 0,.str []]).setO (σ.no+1) [yco .i64 13,.int .i64 0,.int .i64 0,.int .i64 n,.int .i64 (-1),.str []]=σ3 at *
     have go2:∀R',(∀e,zae k d false [] s2=.error e→zcC R' x σ3 e)→(∀n t s',zae k d false [] s2=.ok ((n,t),s')→∀σ',Wr base x s' σ'→z8 x σ3 σ'→R' (.ret (.tuple [.int .i64 n,.str t])) σ')→zzQ G 119 [.ptr x 0,.int .i64 (d:Int),.sl (.stat true) 1 [.str [101,110,100]]] σ3 R':=fun R' a b=>by
      have:=IH k (yah _) σ3 R' s2 d false hW2' (ycV hle.1 hk) (yai hle.2 hz) (by omega) (fun q=>by cases q) a b
      rw[e2]at this
      exact this
     refine go2 _ (fun e q2=>?_) (fun n2 t2 s4 q2 σ4 hW4 hK4=>?_)
     ·intro σ' K
      simp
      exact hn e (by rw[he,q2];rfl) _ (hK2'.trans K)
     ·rw[q2]at he
      have r0:=(hK4.obj σ.no (by omega) hx0').trans p0
      have r1:=(hK4.obj (σ.no+1) (by omega) hx1').trans p1
      simp[r0,r1,splice]
      have:=hs _ s4 he _ ((hW4.setO (cs:=[yco .i64 13,.int .i64 0,.int .i64 0,.int .i64 n,.int .i64 n2,.str []]) hx1').setO (cs:=[yco .i64 13,.int .i64 0,.int .i64 0,.int .i64 n,.int .i64 n2,.str []]) hx0') (((hK2'.trans hK4).setO (by omega) hx1').setO (yah _) hx0')
      simp[W.av,W.cs]at this
      exact this
    ·have ht':¬t=[101,108,115,101]:=ht
     rw[if_neg ht]at he
     simp[o1',o0',splice,ht']
     have:=hs _ s2 he _ (((hW2.setO (cs:=[yco .i64 13,.int .i64 0,.int .i64 0,.int .i64 n,.int .i64 0,.str []]) hx1').setO (cs:=[yco .i64 13,.int .i64 0,.int .i64 0,.int .i64 n,.int .i64 (-1),.str []]) hx1').setO (cs:=[yco .i64 13,.int .i64 0,.int .i64 0,.int .i64 n,.int .i64 (-1),.str []]) hx0') ((((K1.trans hK2).setO (by omega) hx1').setO (by omega) hx1').setO (yah _) hx0')
     simp[W.av,W.cs]at this
     exact this
  ·simp only[h13,if_false,decide_false]at he
   simp[h13]
   rw[hσ1]
   have e2:zeV d false=[zc4]:=by unfold zeV;rw[if_neg (by omega),if_neg (by simp)]
   have go2:∀R',(∀e,zae k d false [] s=.error e→zcC R' x σ1 e)→(∀n t s',zae k d false [] s=.ok ((n,t),s')→∀σ',Wr base x s' σ'→z8 x σ1 σ'→R' (.ret (.tuple [.int .i64 n,.str t])) σ')→zzQ G 119 [.ptr x 0,.int .i64 (d:Int),.sl (.stat true) 1 [.str [101,110,100]]] σ1 R':=fun R' a b=>by
    have:=IH k (yah _) σ1 R' s d false hW1 hk hz (by omega) (fun q=>by cases q) a b
    rw[e2]at this
    exact this
   refine go2 _ (fun e q=>?_) (fun n t s2 q σ2 hW2 hK2=>?_)
   ·intro σ' K
    simp
    exact hn e (by rw[he,q];rfl) _ (K1.trans K)
   ·rw[q]at he
    have o0':=(hK2.obj σ.no (by omega) hx0').trans o0
    have o1':=(hK2.obj (σ.no+1) (by omega) hx1').trans o1
    simp[o1',o0',splice]
    have:=fin _ s2 σ2 he hW2 hK2 [yco .i64 op,.int .i64 0,.int .i64 0,.int .i64 n,.int .i64 0,.str []] [yco .i64 op,.int .i64 0,.int .i64 0,.int .i64 n,.int .i64 0,.str []]
    simp[W.av,W.cs]at this
    exact this
theorem zx1(V:zb6 G){base x s}{k d:Nat}{t:List UInt8}(h:Wr base x s σ)(htl:t.length<2^40)(hd4:d≤400)(IH:∀j,j≤k→zkw G base x j)(hk:s.b.length<k)(hz:s.ls.length+s.b.length≤2^38)
  (hn:∀e,zdh (fun d o s=>zae k d o [] s) t d s=.error e→zcC R x σ e) (hs:∀w s',zdh (fun d o s=>zae k d o [] s) t d s=.ok (w,s')→∀σ',Wr base x s' σ'→z8 x σ σ'→R (.ret w.av) σ'):zzQ G 171 [.ptr x 0,.str t,.int .i64 (d:Int)] σ R:=by
 refine ztt rfl ?_
 have hx:=h.hx
 simp[zCa,AV.plainV,AV.atom]
 refine(zq2 t _).mpr ?_
 have A1:zh σ ((((σ.newO [yco .i64 0,.int .i64 0,.int .i64 0,.int .i64 0,.int .i64 0,.str []]).newF.turn σ.nf).turn (σ.nf+1)).turn (σ.nf+1+1)):=(((zh.refl σ).newO.newF.turn (by omega)).turn (by omega)).turn (by omega)
 have hno1:((((σ.newO [yco .i64 0,.int .i64 0,.int .i64 0,.int .i64 0,.int .i64 0,.str []]).newF.turn σ.nf).turn (σ.nf+1)).turn (σ.nf+1+1)).no=σ.no+1:=by simp
 have o1:((((σ.newO [yco .i64 0,.int .i64 0,.int .i64 0,.int .i64 0,.int .i64 0,.str []]).newF.turn σ.nf).turn (σ.nf+1)).turn (σ.nf+1+1)).objs σ.no=some [.int .i64 0,.int .i64 0,.int .i64 0,.int .i64 0,.int .i64 0,.str []]:=by simp
 generalize hσ1:(((σ.newO [yco .i64 0,.int .i64 0,.int .i64 0,.int .i64 0,.int .i64 0,.str []]).newF.turn σ.nf).turn (σ.nf+1)).turn (σ.nf+1+1)=σ1 at *
 have hW1:=h.adds A1
 have K1:=A1.keepR hx
 have hx0:¬x=σ.no:=by omega
 have hx0':σ.no≠x:=by omega
 by_cases ho:zcr t=0
 ·have he:zdh (fun d o s=>zae k d o [] s) t d s=zfi t s:=by unfold zdh;rw[if_pos ho]
  simp[ho]
  refine zjb fun σ2 A2=>?_
  have K12:=K1.trans (A2.keepR hW1.hx)
  have hW2:=hW1.adds A2
  have hn2:=A2.no
  have o2:=(A2.obj σ.no (by omega)).trans o1
  cases hf:zM zdK t with
  | some w =>
   have hl:zfi t s=(zbg s).map fun p=>({ w with n:=p.1 },p.2):=by unfold zfi;rw[hf]
   simp[W.av,W.cs,splice]
   have A3:zh σ2 ((σ2.newO [yco .i64 0,yco .i64 0,yco .i64 0,yco .i64 0,yco .i64 0,ycn []]).setO σ2.no [yco .i64 w.op,yco .i64 w.ty,yco .i64 w.n,yco .i64 w.body,yco .i64 w.other,ycn w.name]):=(zh.refl _).newO.setO (by omega)
   have hx2:σ2.no≠x:=by omega
   have o3:((σ2.newO [yco .i64 0,yco .i64 0,yco .i64 0,yco .i64 0,yco .i64 0,ycn []]).setO σ2.no [yco .i64 w.op,yco .i64 w.ty,yco .i64 w.n,yco .i64 w.body,yco .i64 w.other,ycn w.name]).objs σ2.no=some [yco .i64 w.op,yco .i64 w.ty,yco .i64 w.n,yco .i64 w.body,yco .i64 w.other,ycn w.name]:=by simp
   have n3:σ2.no<((σ2.newO [yco .i64 0,yco .i64 0,yco .i64 0,yco .i64 0,yco .i64 0,ycn []]).setO σ2.no [yco .i64 w.op,yco .i64 w.ty,yco .i64 w.n,yco .i64 w.body,yco .i64 w.other,ycn w.name]).no:=by simp
   generalize (σ2.newO [yco .i64 0,yco .i64 0,yco .i64 0,yco .i64 0,yco .i64 0,ycn []]).setO σ2.no [yco .i64 w.op,yco .i64 w.ty,yco .i64 w.n,yco .i64 w.body,yco .i64 w.other,ycn w.name]=σ3 at *
   have K13:=K12.trans (A3.keepR hW2.hx)
   refine zkv V (hW2.adds A3) (fun e q=>?_) (fun n s' q r1 r2 σ4 hW4 K4=>?_)
   ·intro σ' K
    simp
    exact hn e (by rw[he,hl,q];rfl) _ (K13.trans K)
   ·have o4:=(K4.r.obj σ2.no n3 hx2).trans o3
    have hne:¬σ.no=σ2.no:=by omega
    have o5:=(K4.r.obj σ.no (by omega) hx0').trans ((A3.obj σ.no (by omega)).trans o2)
    have:=hs _ s' (by rw[he,hl,q];rfl) _ ((hW4.setO (cs:=[yco .i64 w.op,yco .i64 w.ty,yco .i64 n,yco .i64 w.body,yco .i64 w.other,ycn w.name]) hx2).setO (cs:=[yco .i64 w.op,yco .i64 w.ty,yco .i64 n,yco .i64 w.body,yco .i64 w.other,ycn w.name]) hx0') (((K13.trans K4.r).setO (by omega) hx2).setO (yah _) hx0')
    simp[W.av,W.cs]at this
    simp[o4,o5,hne,splice]
    exact this
  | none =>
   simp[W.av,W.cs,splice,zb8]
   have A3:zh σ2 ((σ2.newO [yco .i64 0,yco .i64 0,yco .i64 0,yco .i64 0,yco .i64 0,ycn []]).setO σ2.no [yco .i64 0,yco .i64 0,yco .i64 0,yco .i64 0,yco .i64 0,ycn []]):=(zh.refl _).newO.setO (by omega)
   generalize (σ2.newO [yco .i64 0,yco .i64 0,yco .i64 0,yco .i64 0,yco .i64 0,ycn []]).setO σ2.no [yco .i64 0,yco .i64 0,yco .i64 0,yco .i64 0,yco .i64 0,ycn []]=σ3 at *
   refine zuH V htl fun σ4 A4=>?_
   have hW3:=hW2.adds A3
   have hW4:=hW3.adds A4
   have K14:=(K12.trans (A3.keepR hW2.hx)).trans (A4.keepR hW3.hx)
   have o4:=(A4.obj σ.no (by have:=A3.no;omega)).trans ((A3.obj σ.no (by omega)).trans o2)
   have n4:=A3.no
   have n5:=A4.no
   cases hr:zM zhE t with
   | some w =>
    have hl:zfi t s=.ok (w,s):=zat hf hr s
    simp[W.av,W.cs,splice,o4]
    refine z9 (fun _=>?_) (fun q=>by simp at q)
    have hx4:σ4.no≠x:=by omega
    have:=hs w s (by rw[he,hl]) _ (((hW4.adds ((zh.refl σ4).newO (cs:=[yco .i64 0,yco .i64 0,yco .i64 0,yco .i64 0,yco .i64 0,ycn []]))).setO (cs:=w.cs) hx4).setO (cs:=w.cs) hx0') (((K14.trans (((zh.refl σ4).newO (cs:=[yco .i64 0,yco .i64 0,yco .i64 0,yco .i64 0,yco .i64 0,ycn []])).keepR hW4.hx)).setO (by omega) hx4).setO (yah _) hx0')
    simp[W.av,W.cs]at this
    have hne:¬σ.no=σ4.no:=by omega
    simp[splice,o4,hne]
    exact this
   | none =>
    have hl:zfi t s=.error 2:=by unfold zfi;rw[hf,hr]
    simp[W.av,W.cs,splice,zb8,o4]
    refine z9 (fun q=>by simp at q) (fun _=>?_)
    simp
    exact hn 2 (by rw[he,hl]) _ (K14.trans (zh.keepR ((zh.refl σ4).newO.setO (yah _)) hW4.hx))
 ·have he:zdh (fun d o s=>zae k d o [] s) t d s=zbx (fun d o s=>zae k d o [] s) (zcr t) (d+1) s:=by unfold zdh;rw[if_neg ho]
  have hop:=(zuA t).resolve_left ho
  have w1:yb4 .i64 ((d:Int)+1)=((d+1:Nat):Int):=by rw[zc]<;>omega
  simp[ho,w1]
  refine zuJ (d:=d+1) hW1 hop (by omega) (by omega) IH hk hz (fun e q=>?_) (fun w s' q σ' hW' hK'=>?_)
  ·intro σ' K
   simp
   exact hn e (by rw[he,q]) _ (K1.trans K)
  ·have o2:=(hK'.obj σ.no (by omega) hx0').trans o1
   have:=hs w s' (by rw[he,q]) _ (hW'.setO (cs:=w.cs) hx0') ((K1.trans hK').setO (yah _) hx0')
   simp[o2,W.av,W.cs,splice]
   simp[W.av,W.cs]at this
   exact this
theorem Wr.push{base x s τ g tos lv l}(h:Wr base x s τ)(ht:All2 Al.RepE tos s.ls)(hG:ziA σ x 6 τ lv (l.map W.av))(hσ:base≤σ.nf){τ':AS}(e1:τ'.objs=upd τ.objs x (some [.str s.b,.sl (.fam τ.nf false) 1 (tos++[lv])]))(e2:τ'.no=τ.no)(e3:τ'.nf=τ.nf+1)(e4:τ'.F τ.nf=.alive)
  (e5:∀f,f<τ.nf→¬zck τ x f→τ'.F f=τ.F f) (K:z8 x σ τ) (hg:∀f,zck τ x f→f=g) {v:AV} (hmv:∀f,Go.Abs.mrg f v=v) (hR:∀σ',Wr base x { s with ls:=s.ls++[l] } σ'→z8 x σ σ'→R (.ret v) σ'):Al.MrgOr R (.ret v) τ':=by
 have hb:=h.hb
 have hn:=K.nf
 have base0:∀σ':AS,σ'.no=τ.no→σ'.nf=τ.nf+1→(∀o,o≠x→σ'.objs o=τ.objs o)→(∃tos',σ'.objs x=some [.str s.b,.sl (.fam τ.nf false) 1 tos']∧All2 Al.RepE tos' (s.ls++[l]))→σ'.F τ.nf=.alive →
   (∀f,f<τ.nf→¬zck τ x f→f<σ.nf∨f<base→σ'.F f=τ.F f)→R (.ret v) σ':=by
  intro σ' a1 a2 a3 ⟨tos',a4,a6⟩ a7 a8
  have nb:∀f,f<base→¬zck τ x f:=fun f hf=>h.uses hf
  refine hR σ' ⟨by rw[a1];exact h.hx,⟨hb.1,by omega⟩,?_,h.ok,h.len,_,a4,.inr ⟨τ.nf,tos',rfl,hb.2,by omega,a7,a6⟩⟩ ⟨by rw[a1];exact K.no,by omega,fun o h1 h2=>(a3 o h2).trans (K.obj o h1 h2),fun f h1 h2=>?_,fun f h1 h2=>?_⟩
  ·rw[a8 0 (by omega) (nb 0 hb.1) (.inr hb.1)];exact h.h0
  ·have hu:¬zck τ x f:=fun u=>h2 (K.use f h1 u)
   rw[a8 f (by omega) hu (.inl h1)]
   exact K.fam f h1 h2
  ·obtain⟨cs,v,q1,q2,q3⟩:=h2
   rw[a4]at q1
   cases q1
   simp at q2
   subst q2
   simp[zcA]at q3
   omega
 rcases hG with ⟨h1,rfl⟩|⟨f,rfl,h2,h3,h4,h5⟩
 ·have hl:l=[]:=by simpa using h1
  subst hl
  exact .inl (base0 τ' e2 e3 (fun o ho=>by rw[e1];simp[ho]) ⟨tos++[.nilsl],by rw[e1];simp,ht.append (.cons (.inl ⟨rfl,rfl⟩) .nil)⟩ e4 (fun f q1 q2 _=>e5 f q1 q2))
 ·refine Al.MrgOr.merged f (fun o=>o==x) (by omega) (by rw[e5 f h3 h5];exact h4) ?_
  rw[hmv]
  refine base0 _ e2 e3 (fun o ho=>by simp[AS.mrg,e1,ho]) ⟨tos++[.sl (.fam 0 false) 6 (l.map W.av)],?_,ht.append (.cons (.inr ⟨_,rfl⟩) .nil)⟩ ?_ (fun f' q1 q2 q3=>?_)
  ·have:¬τ.nf=f:=by omega
   simp[AS.mrg,e1,Al.mrg_rows ht,this,Function.comp_def,Al.mrg_W]
  ·have:¬τ.nf=f:=by omega
   simp[AS.mrg,zlt,this,e4]
  ·have:¬f'=f:=by omega
   simp only[AS.mrg,zlt,zeu,this,if_false]
   exact e5 f' q1 q2
def LsW(base x d k0:Nat)(o:Bool)(s0:Ts)(σ:AS)(a:Nat→AV)(τ:AS):Prop:=∃(k:Nat) (l:List W) (s:Ts),zae k0 d o [] s0=zae k d o l s∧k≤k0∧s.b.length<k∧l.length+s.b.length≤2^38∧s.ls.length+s.b.length≤2^38∧a 0=.ptr x 0∧a 1=.int .i64 (d:Int)∧a 2=.sl (.stat true) 1 ((zeV d o).map ycn)∧ziA σ x 6 τ (a 8) (l.map W.av)∧Wr base x s τ∧z8 x σ τ
def EnI(L:List (List UInt8))(t:List UInt8)(x d:Nat)(v8:AV)(τ2:AS)(a:Nat→AV)(τ:AS):Prop:=∃i,i≤L.length∧(∀j,j<i→L[j]?≠some t)∧τ=τ2∧a 0=.ptr x 0∧a 1=.int .i64 (d:Int)∧a 2=.sl (.stat true) 1 (L.map ycn)∧a 8=v8∧a 9=.str t∧a 14=.sl (.stat true) 1 (L.map ycn)∧a 15=.int .i64 (L.length:Int)∧a 16=.int .i64 (i:Int)
theorem zq4(d:Nat)(o:Bool):(zeV d o).length≤2:=by
 unfold zeV
 split
 ·simp
 ·split<;>simp
theorem zpm(V:zb6 G){base x s0}{k0 d:Nat}{o:Bool}(ho0:o=true→0<d)(hd:d≤400)(hσ:base≤σ.nf)(IH:∀j,j<k0→zkw G base x j)(hn:∀e,zae k0 d o [] s0=.error e→zcC R x σ e)(hs:∀n t s',zae k0 d o [] s0=.ok ((n,t),s')→∀σ',Wr base x s' σ'→z8 x σ σ'→R (.ret (.tuple [.int .i64 n,.str t])) σ')
  {a:Nat→AV} {τ:AS} (hI:LsW base x d k0 o s0 σ a τ):avc yb9 G 48 zj2 (zbd (fun a' σ'=>LsW base x d k0 o s0 σ a' σ'∧MBt x a' σ'<MBt x a τ) (za2 0 (ze9 yb9 [.tmp 6,.tmp 7] (Al.MrgOr R)))) a τ:=by
 obtain⟨k,l,s,he,hk,hkb,hlb,hsb,a0,a1,a2,hG,hR,hK⟩:=hI
 have hmb:=zex hR a
 have hl36:=hR.len
 obtain⟨k,rfl⟩:∃j,k=j+1:=⟨k-1,by omega⟩
 rw[zae]at he
 have hEl:=zq4 d o
 have hmem:=zq3 ho0
 simp[zj2,a0]
 refine zja hR (fun q=>?_) (fun t s1 q σ1 hr1 hk1=>?_)
 ·intro σ' h1
  exact .inl (hn 2 (by rw[he,q];rfl) σ' (hK.trans h1))
 ·obtain⟨q1,q2,q3⟩:=zdR q
  rw[q]at he
  simp only[Except.bind]at he
  have hK1:=hK.trans hk1.r
  have hG1:=hG.keep hk1.r
  have hmb1:=zex hr1 a
  have ht0:1≤t.length:=ybm.2 q2
  simp[a2]
  refine zas (EnI (zeV d o) t x d (a 8) σ1) (MU 16 3) ⟨0,by simp,by simp,rfl,by simp[a0],by simp[a1],by simp[a2],by simp,by simp,by simp,by simp,by simp⟩ fun b τ2 hE=>?_
  obtain⟨i,hi,hno,rfl,b0,b1,b2,b8,b9,b14,b15,b16⟩:=hE
  generalize hL:zeV d o=L at *
  by_cases hlt:i<L.length
  ·obtain⟨w,hw⟩:∃w,L[i]=w:=⟨L[i],rfl⟩
   have hw2:L[i]?=some w:=by rw[←hw];simp[hlt]
   have wi:yb4 .i64 ((i:Int)+1)=((i+1:Nat):Int):=by rw[zc]<;>omega
   by_cases ht:t=w
   ·subst ht
    have hin:t∈L:=ycs hw2
    rw[if_pos ((hmem t).1 hin)]at he
    obtain⟨lv,ho,hlv⟩:=hr1.cells
    have l1:=hlv.one
    have g1:=hG1.one
    have wl:yb4 .i64 (s1.ls.length:Int)=(s1.ls.length:Int):=by rw[zc]<;>(rw[q3];omega)
    have hlen:s1.ls.length≤2^38:=by rw[q3];omega
    have fin:∀τ':AS,∀tos g,All2 Al.RepE tos s1.ls→(∀f,zck τ2 x f→f=g)→τ'.objs=upd τ2.objs x (some [.str s1.b,.sl (.fam τ2.nf false) 1 (tos++[a 8])])→τ'.no=τ2.no→τ'.nf=τ2.nf+1→τ'.F τ2.nf=.alive→(∀f,f<τ2.nf→¬zck τ2 x f→τ'.F f=τ2.F f) →
      Al.MrgOr R (.ret (.tuple [.int .i64 (s1.ls.length:Int),.str t])) τ':=fun τ' tos g t1 t2 t3 t4 t5 t6 t7 =>
     Wr.push hr1 t1 hG1 hσ t3 t4 t5 t6 t7 hK1 t2 (by intro f;simp) fun σ' r1 r2=>hs _ _ _ he σ' r1 r2
    rcases hlv with ⟨hl0,rfl⟩|⟨g,tos,rfl,t1,t2,t3,t4⟩
    ·have wl':yb4 .i64 0=0:=rfl
     have key:=fin ((τ2.newF).setO x [.str s1.b,.sl (.fam τ2.nf false) 1 ([]++[a 8])]) [] 0 (by rw[hl0];exact .nil) (fun f ⟨cs,v,u1,u2,u3⟩=>by rw[ho]at u1;cases u1;simp at u2;subst u2;cases u3) (by simp) (by simp) (by simp) (by simp) (fun f h1 h2=>by
      have:¬f=τ2.nf:=by omega
      simp[this])
     rw[hl0]at key
     simp[zfc,b0,b1,b2,b8,b9,b14,b15,b16,hlt,hw,ho,g1,splice,wl']
     simpa using key
    ·have tl:=t4.length
     have key:=fin (((τ2.setF g .dead).newF).setO x [.str s1.b,.sl (.fam τ2.nf false) 1 (tos++[a 8])]) tos g t4 (fun f ⟨cs,v,u1,u2,u3⟩=>by rw[ho]at u1;cases u1;simp at u2;subst u2;simpa [zcA]using u3.symm) (by simp) (by simp) (by simp) (by simp) (fun f h1 h2=>by
      have:¬f=τ2.nf:=by omega
      have:¬f=g:=fun e=>h2 ⟨_,_,ho,rfl,by rw[e];rfl⟩
      simp[*])
     simp[zfc,b0,b1,b2,b8,b9,b14,b15,b16,hlt,hw,ho,g1,splice,t3,tl,wl]
     refine⟨by omega,?_⟩
     simpa using key
   ·simp[zfc,b0,b1,b2,b8,b9,b14,b15,b16,hlt,hw,ht,wi]
    refine⟨⟨i+1,hlt,fun j hj=>?_,rfl,by simp[b0],by simp[b1],by simp[b2],by simp[b8],by simp[b9],by simp[b14],by simp[b15],by simp⟩,?_⟩
    ·by_cases e:j=i
     ·subst e
      rw[hw2]
      intro q
      exact ht (yaR.inj q).symm
     ·exact hno j (by omega)
    ·simp[MU,b16]
     omega
  ·have hiL:i=L.length:=by omega
   have hnin:t∉L:=fun hin=>by
    obtain⟨j,hj,e⟩:=ya9 hin
    exact hno j (by omega) (by rw[←e];simp[hj])
   rw[if_neg (fun e=>hnin ((hmem t).2 e))]at he
   have g1:=hG1.one
   simp[zfc,b0,b1,b2,b8,b9,b14,b15,b16,hiL,znW,g1]
   refine zx1 V hr1 (k:=k) (by omega) hd (fun j hj=>IH j (by omega)) (by omega) (by rw[q3];omega) (fun e q5=>?_) (fun w s2 q5 σ2 hr2 hk2=>?_)
   ·intro σ' e1
    exact .inl (hn e (by rw[he,q5]) σ' (hK1.trans e1))
   ·rw[q5]at he
    simp only[Except.bind]at he
    have hin:=zlZ (fun d o s r s'=>zfs k d o [] s r s') q5
    rw[LeT,q3]at hin
    have hmb2:=zex hr2 a
    have g2:=(hG1.keep hk2).one
    simp[W.av,W.cs,g2]
    refine zq0 (row:=w.av) (hG1.keep hk2) hr2 (hK1.trans hk2) hσ (by simp[W.av,W.cs]) (by simp;omega) fun v' τ' e1 e2 e3 e4 e5 _=>?_
    simp
    refine⟨⟨k,l++[w],s2,he,by omega,by omega,by simp;omega,by omega,by simp[b0],by simp[b1],by simp[b2,hL],by simpa using e1,e2,e3⟩,?_⟩
    rw[zex e2,hmb]
    omega
theorem zol(V:zb6 G){base x}:∀k j:Nat,j≤k→zkw G base x j
 | 0,j,hj=>fun σ R s d o h hk=>by omega
 | k+1,j,hj=>by
  have IH:=zol V (base:=base) (x:=x) k
  intro σ R s d o h hk hz hd ho hn hs
  refine Al.merging (zsZ rfl ?_)
  have hb:=h.hb
  simp[zBT]
  refine zas (LsW base x d j o s σ) (MBt x) ⟨j,[],s,rfl,yah _,hk,by simp;omega,hz,by simp,by simp,by simp,.inl ⟨rfl,by simp⟩,h,.refl ..⟩ fun a τ hI=>?_
  exact zpm V ho hd hb.2 (fun i hi=>IH i (by omega)) hn hs hI
end
theorem zq5(c:UInt8)(h:c.toNat<128):yb4 .i32 (c.toNat:Int)=(c.toNat:Int):=by
 unfold yb4
 simp[IntKind.bits,IntKind.signed]
 omega
def zEJ:List UInt8:=[97,98,99,100,101,102,103,104,105,106,107,108,109,110,111,112,113,114,115,116,117,118,119,120,121,122,95]
def zhY:List UInt8:=[97,98,99,100,101,102,103,104,105,106,107,108,109,110,111,112,113,114,115,116,117,118,119,120,121,122,95,48,49,50,51,52,53,54,55,56,57]
theorem zEK(c:UInt8):inS zhY c=(zaf c||zJ c):=by
 have h:∀i:Fin 256,inS zhY (UInt8.ofNat i.1)=(zaf (UInt8.ofNat i.1)||zJ (UInt8.ofNat i.1)):=by decide
 have:=h ⟨c.toNat,c.toNat_lt⟩
 simpa using this
theorem zJb(c:UInt8):inS zEJ c=zaf c:=by
 have h:∀i:Fin 256,inS zEJ (UInt8.ofNat i.1)=zaf (UInt8.ofNat i.1):=by decide
 have:=h ⟨c.toNat,c.toNat_lt⟩
 simpa using this
theorem zhZ:∀c∈zhY,c.toNat<128:=by decide
theorem zq6{c:UInt8}(h:inS zhY c=true):c.toNat<128:=zhZ c (by unfold inS at h;simpa using h)
theorem zjc:inS zhY=fun c=>(zaf c||zJ c):=funext zEK
section
variable {G : Env} {σ : AS} {R : Out → AS → Prop}
theorem zJc{t:List UInt8}(hl:t.length<2^40)(h:∀σ',zh σ σ'→R (.ret (.bool (zhF 24 t))) σ'):zzQ G 117 [.str t] σ R:=by
 refine zsX rfl ?_
 cases t with
 | nil =>
  simp[zsW]
  exact h _ (.refl _)
 | cons c r =>
  have h1:(1:Int)≤(((c::r).length:Nat):Int):=by simp;omega
  generalize ht:c::r=t at *
  have hc0:t[0]?=some c:=by rw[←ht];rfl
  have h1n:1≤t.length:=by omega
  by_cases h24:t.length≤24
  ·have h24i:(t.length:Int)≤24:=by omega
   simp[zsW,h1,h1n,h24,h24i]
   refine zfW (l:=zhY) zhZ (by decide) (by decide) (by omega) fun σ' A=>?_
   by_cases hall:t.all (inS zhY)=true
   ·have e:=(zcO zhY t).2 hall
    have hc:inS zhY c=true:=by rw[yaM]at hall;exact hall c (by rw[←ht];simp)
    have hc8:=zq6 hc
    have wc:yb4 .i32 (c.toNat:Int)=(c.toNat:Int):=zq5 c hc8
    simp[e,hc0,wc]
    refine zfq (s:=zEJ) hc8 ?_
    have e2:zEJ.contains c=inS zEJ c:=rfl
    rw[e2,zJb]
    have e3:zhF 24 t=zaf c:=by
     rw[zjc,←ht]at hall
     rw[←ht]
     simp only[yca,Bool.and_eq_true]at hall
     rw[←ht]at h24
     simp only[zhF,hall.2,h24,decide_true,Bool.true_and,Bool.and_true]
    have:=h _ A
    rw[e3]at this
    simpa using this
   ·have e:¬zlT zhY t=[]:=fun q=>hall ((zcO zhY t).1 q)
    simp[e]
    have e3:zhF 24 t=false:=by
     rw[zjc,←ht]at hall
     simp only[yca,Bool.and_eq_true,not_and,Bool.not_eq_true]at hall
     rw[←ht]
     simp only[zhF]
     cases hL:zaf c with
     | false=>simp
     | true=>simp[hall (by simp[hL])]
    have:=h _ A
    rw[e3]at this
    exact this
  ·have h24i:¬(t.length:Int)≤24:=by omega
   have e:zhF 24 t=false:=by rw[←ht];simp[zhF];rw[←ht]at h24;simp at h24;omega
   simp[zsW,h1,h1n,h24,h24i]
   have:=h _ (.refl _)
   rw[e]at this
   exact this
end
def zx2:PC:=(.seq (.ops [⟨some 42,.move (.tmp 0),none,[]⟩,
    ⟨some 43,.nilCheck (.tmp 42),none,[]⟩,
    ⟨some 44,.fieldAddr 77 (.tmp 43) 1,none,[]⟩,
    ⟨none,.store 55 (.tmp 44) (.const (.slice none 0 0)),none,[]⟩])
 (.seq (.ops [⟨some 45,.move (.tmp 0),none,[]⟩,
    ⟨some 46,.buildSlice 22 1 #[(0,(.const (.string ⟨#[41]⟩)))],none,[]⟩,
    ⟨some 47,.call ⟨.value (.func 119),#[(.tmp 45),(.const (.int .i64 0)),(.tmp 46)],#[75,3,22]⟩,none,[]⟩])
 (.seq (.ops [⟨some 48,.move (.tmp 0),none,[]⟩,
    ⟨some 49,.nilCheck (.tmp 48),none,[]⟩,
    ⟨some 50,.fieldAddr 77 (.tmp 49) 1,none,[]⟩,
    ⟨some 51,.load 55 (.tmp 50),none,[]⟩,
    ⟨some 52,.fieldAddr 57 (.tmp 2) 4,none,[]⟩,
    ⟨none,.store 55 (.tmp 52) (.tmp 51),none,[]⟩])
 (.seq (.ops [⟨some 53,.load 57 (.tmp 2),none,[]⟩,
    ⟨none,.store 57 (.tmp 2) (.tmp 53),none,[]⟩])
 .ret))))
def zx3:PC:=(.seq (.seq (.ops [⟨some 37,.move (.tmp 0),none,[]⟩,
    ⟨some 38,.call ⟨.value (.func 59),#[(.tmp 37),(.const (.string ⟨#[108,111,99,97,108]⟩))],#[75,9]⟩,none,[]⟩])
  (.cond (.tmp 38)
    (.ops [⟨some 39,.move (.tmp 0),none,[]⟩,
      ⟨some 40,.call ⟨.value (.func 118),#[(.tmp 39)],#[75]⟩,none,[]⟩,
      ⟨some 41,.fieldAddr 57 (.tmp 2) 2,none,[]⟩,
      ⟨none,.store 44 (.tmp 41) (.tmp 40),none,[]⟩])
    .skip))
 zx2)
def zx4:PC:=(.seq (.seq (.ops [⟨some 25,.move (.tmp 0),none,[]⟩,
    ⟨some 26,.call ⟨.value (.func 59),#[(.tmp 25),(.const (.string ⟨#[114,101,115,117,108,116]⟩))],#[75,9]⟩,none,[]⟩])
  (.cond (.tmp 26)
    (.seq (.ops [⟨some 27,.move (.tmp 0),none,[]⟩,
      ⟨some 28,.call ⟨.value (.func 118),#[(.tmp 27)],#[75]⟩,none,[]⟩,
      ⟨some 5,.assign (.tmp 28),none,[]⟩])
    (.seq (.ops [⟨some 29,.move (.tmp 5),none,[]⟩,
      ⟨some 30,.call ⟨.builtin .len,#[(.tmp 29)],#[44]⟩,none,[]⟩,
      ⟨some 31,.binOp .eql 3 (.tmp 30) (.const (.int .i64 1)) 3,none,[]⟩,
      ⟨some 32,.call ⟨.value (.func 61),#[(.tmp 31),(.const (.int .i64 2))],#[4,33]⟩,none,[]⟩])
    (.ops [⟨some 33,.move (.tmp 5),none,[]⟩,
      ⟨some 34,.indexAddr 44 (.tmp 33) (.const (.int .i64 0)),none,[]⟩,
      ⟨some 35,.load 3 (.tmp 34),none,[]⟩,
      ⟨some 36,.fieldAddr 57 (.tmp 2) 3,none,[]⟩,
      ⟨none,.store 3 (.tmp 36) (.tmp 35),none,[]⟩])))
    .skip))
 zx3)
def zx5:PC:=(.seq (.seq (.ops [⟨some 20,.move (.tmp 0),none,[]⟩,
    ⟨some 21,.call ⟨.value (.func 59),#[(.tmp 20),(.const (.string ⟨#[112,97,114,97,109]⟩))],#[75,9]⟩,none,[]⟩])
  (.cond (.tmp 21)
    (.ops [⟨some 22,.move (.tmp 0),none,[]⟩,
      ⟨some 23,.call ⟨.value (.func 118),#[(.tmp 22)],#[75]⟩,none,[]⟩,
      ⟨some 24,.fieldAddr 57 (.tmp 2) 1,none,[]⟩,
      ⟨none,.store 44 (.tmp 24) (.tmp 23),none,[]⟩])
    .skip))
 zx4)
theorem zx6:zJS=(.seq (.ops [⟨some 2,.alloc 57,none,[]⟩])
 (.seq (.ops [⟨some 7,.move (.tmp 0),none,[]⟩,
    ⟨some 8,.call ⟨.value (.func 110),#[(.tmp 7)],#[75]⟩,none,[]⟩,
    ⟨some 9,.call ⟨.value (.func 116),#[(.tmp 8),(.const (.string ⟨#[36]⟩))],#[9,9]⟩,none,[]⟩,
    ⟨some 6,.move (.tmp 9),none,[]⟩,
    ⟨some 10,.extract (.tmp 6) 0,none,[]⟩,
    ⟨some 11,.extract (.tmp 6) 1,none,[]⟩,
    ⟨some 3,.assign (.tmp 10),none,[]⟩,
    ⟨some 4,.assign (.tmp 11),none,[]⟩])
 (.seq (.ops [⟨some 12,.move (.tmp 4),none,[]⟩,
    ⟨some 13,.move (.tmp 12),none,[]⟩,
    ⟨some 14,.move (.tmp 3),(some (13,true)),[]⟩,
    ⟨some 15,.call ⟨.value (.func 117),#[(.tmp 14)],#[9]⟩,(some (13,true)),[]⟩,
    ⟨some 16,.pick (.tmp 13) (.tmp 15) (.const (.bool false)),none,[]⟩,
    ⟨some 17,.call ⟨.value (.func 61),#[(.tmp 16),(.const (.int .i64 2))],#[4,33]⟩,none,[]⟩])
 (.seq (.ops [⟨some 18,.move (.tmp 3),none,[]⟩,
    ⟨some 19,.fieldAddr 57 (.tmp 2) 0,none,[]⟩,
    ⟨none,.store 9 (.tmp 19) (.tmp 18),none,[]⟩])
 zx5)))):=rfl
def endF(nm:List UInt8)(P:List Int)(ty:Int)(s:Ts):Res (F × Ts):=(zeo zaU s).bind fun u=>(zae (u.2.b.length+1) 0 false [] { u.2 with ls:=[] }).map fun(v:(Int × List UInt8) × Ts)=>({ name:=nm,params:=P,locals:=u.1,type:=ty,lists:=v.2.ls },v.2)
def zpI(nm:List UInt8)(P:List Int)(s:Ts):Res (F × Ts):=(zqD s).bind fun r=>endF nm P r.1 r.2
def zuK(nm:List UInt8)(s:Ts):Res (F × Ts):=(zeo zbZ s).bind fun q=>zpI nm q.1 q.2
theorem zdT(mx:Nat)(s:Ts):zcf mx s=(zb3 s).bind fun p=>if p.1.head?=some 36∧zhF mx p.1.tail=true then zuK p.1.tail p.2 else .error 2:=rfl
theorem zag.setO{x σ τ o cs}(K:zag x σ τ)(ho:σ.no≤o)(hox:o≠x):zag x σ (τ.setO o cs) where
 no:=K.no
 nf:=K.nf
 obj p a b:=by
  have:¬p=o:=by omega
  simp[this]
  exact K.obj p a b
 fam:=K.fam
 lst cs' h:=by
  have:¬x=o:=fun e=>hox e.symm
  simp[this]
  exact K.lst cs' h
 some:=K.some
theorem z8.nil{x τ b}:z8 x τ (τ.setO x [b,.nilsl]) where
 no:=yah _
 nf:=yah _
 obj o _ h:=by simp[h]
 fam _ _ _:=rfl
 use f _:=fun⟨cs,v,h1,h2,h3⟩=>by
  simp at h1
  subst h1
  simp at h2
  subst h2
  cases h3
theorem zuL{x:Nat}{τ:AS}{b:AV}{f:Nat}:¬zck (τ.setO x [b,.nilsl]) x f:=fun⟨cs,v,h1,h2,h3⟩=>by
 simp at h1
 subst h1
 simp at h2
 subst h2
 cases h3
theorem z8.full{x σ τ}(K:z8 x σ τ)(h:∀f,¬zck σ x f):zfV x x σ τ:=⟨K.no,K.nf,fun o a b _=>K.obj o a b,fun f a=>K.fam f a (h f)⟩
structure FnW(base x fo:Nat)(σ0:AS)(s:Ts)(nm:List UInt8)(pv lv:AV)(ty:Int)(τ:AS):Prop where
 rd:Wr base x s τ
 ks:zag x σ0 τ
 fx:fo≠x
 f0:σ0.no≤fo
 lt:fo<τ.no
 ob:τ.objs fo=some [.str nm,pv,lv,.int .i64 ty,.nilsl]
def zEL(R:Out→AS→Prop)(base x:Nat)(σ0:AS)(r:Res (F × Ts)):Prop:=∀f s',r=.ok (f,s')→∀pv lv tv σ',Al.IntsE pv f.params→Al.IntsE lv f.locals→Wr base x s' σ'→σ'.objs x=some [.str s'.b,tv]→zfV x x σ0 σ'→(∀g,zcA tv=some g→σ0.nf≤g) →
 s'.ls=f.lists→R (.ret (.agg [.str f.name,pv,lv,.int .i64 f.type,tv])) σ'
section
variable {G : Env} {R : Out → AS → Prop}
theorem zv5(V:zb6 G){base x fo s nm P L pv lv ty σ0 τ}{a:Nat→AV}(hF:FnW base x fo σ0 s nm pv lv ty τ)(hp:Al.IntsE pv P)(hl:Al.IntsE lv L)(a0:a 0=.ptr x 0)(a2:a 2=.ptr fo 0)
  (hn:∀e,((zae (s.b.length+1) 0 false [] { s with ls:=[] }).map fun(v:(Int × List UInt8) × Ts)=>(({ name:=nm,params:=P,locals:=L,type:=ty,lists:=v.2.ls }:F),v.2))=.error e→zcC R x σ0 e)
  (hs:zEL R base x σ0 ((zae (s.b.length+1) 0 false [] { s with ls:=[] }).map fun(v:(Int × List UInt8) × Ts)=>(({ name:=nm,params:=P,locals:=L,type:=ty,lists:=v.2.ls }:F),v.2))):avc yb9 G 54 zx2 (ze9 yb9 [.cell 2 57] R) a τ:=by
 have p1:=hp.one
 have l1:=hl.one
 have hfx:=hF.fx
 have hx:=hF.rd.hx
 have hof:=hF.ob
 obtain⟨lv0,ho,hlv⟩:=hF.rd.cells
 have hlen:=hF.rd.len
 have hW1:Wr base x { s with ls:=[] } (τ.setO x [.str s.b,.nilsl]):=⟨hF.rd.hx,hF.rd.hb,hF.rd.h0,hF.rd.ok,hF.rd.len,.nilsl,by simp,.inl ⟨rfl,rfl⟩⟩
 have K1:z8 x σ0 (τ.setO x [.str s.b,.nilsl]):=hF.ks.r.trans z8.nil
 have of1:(τ.setO x [.str s.b,.nilsl]).objs fo=some [.str nm,pv,lv,.int .i64 ty,.nilsl]:=by simp[hfx,hof]
 have KF1:zfV x x σ0 (τ.setO x [.str s.b,.nilsl]):=hF.ks.f.setO (.inl rfl)
 have nu1:∀f,¬zck (τ.setO x [.str s.b,.nilsl]) x f:=fun f=>zuL
 have n1:(τ.setO x [.str s.b,.nilsl]).no=τ.no:=rfl
 have m1:(τ.setO x [.str s.b,.nilsl]).nf=τ.nf:=rfl
 have hlt:=hF.lt
 have hnf:=hF.ks.nf
 simp[zx2,a0,a2,ho,splice]
 generalize τ.setO x [.str s.b,.nilsl]=τ1 at *
 have go:=zol V (base:=base) (x:=x) (s.b.length+1) (s.b.length+1) (yah _) τ1
 have e2:zeV 0 false=[zg]:=rfl
 have go2:∀R',(∀e,zae (s.b.length+1) 0 false [] { s with ls:=[] }=.error e→zcC R' x τ1 e)→(∀n t s',zae (s.b.length+1) 0 false [] { s with ls:=[] }=.ok ((n,t),s')→∀σ',Wr base x s' σ'→z8 x τ1 σ'→R' (.ret (.tuple [.int .i64 n,.str t])) σ')→zzQ G 119 [.ptr x 0,.int .i64 0,.sl (.stat true) 1 [.str [41]]] τ1 R':=fun R' u v=>by
  have:=go R' { s with ls:=[] } 0 false hW1 (by simp) (by simp;omega) (by omega) (by simp) u v
  rw[e2]at this
  exact this
 refine go2 _ (fun e q=>?_) (fun n t s' q τ2 hW2 K2=>?_)
 ·intro σ' K
  simp
  exact hn e (by rw[q];rfl) _ (K1.trans K)
 ·have of2:=(K2.obj fo (by omega) hfx).trans of1
  obtain⟨tv,ho2,htv⟩:=hW2.cells
  have t1:=htv.one
  have hxf:¬x=fo:=fun e=>hfx e.symm
  have hfx':¬fo=x:=hfx
  simp[a0,a2,ho2,of2,splice,t1,p1,l1,hxf,hfx']
  have KF:=KF1.trans (K2.full nu1)
  have f0:=hF.f0
  refine hs _ s' (by rw[q];rfl) pv lv tv _ hp hl ((hW2.setO hfx).setO hfx) (by simp[hxf,ho2]) ((KF.setO (.inr (.inr f0))).setO (.inr (.inr f0))) (fun g hg=>?_) rfl
  have hg1:zck τ2 x g:=⟨_,_,ho2,rfl,hg⟩
  by_cases hlt2:g<τ1.nf
  ·exact absurd (K2.use g hlt2 hg1) (nu1 g)
  ·omega
end
def zEM(nm:List UInt8)(P L:List Int)(ty:Int)(s:Ts):Res (F × Ts):=(zae (s.b.length+1) 0 false [] { s with ls:=[] }).map fun(v:(Int × List UInt8) × Ts)=>(({ name:=nm,params:=P,locals:=L,type:=ty,lists:=v.2.ls }:F),v.2)
section
variable {G : Env} {R : Out → AS → Prop}
theorem FnW.keep{base x fo σ0 s s' nm pv lv ty τ τ'}(hF:FnW base x fo σ0 s nm pv lv ty τ)(hW:Wr base x s' τ')(K:zag x τ τ'):FnW base x fo σ0 s' nm pv lv ty τ' :=
 ⟨hW,hF.ks.trans K,hF.fx,hF.f0,yag hF.lt K.no,(K.obj fo hF.lt hF.fx).trans hF.ob⟩
theorem FnW.set{base x fo σ0 s nm pv lv ty τ nm' pv' lv' ty'}(hF:FnW base x fo σ0 s nm pv lv ty τ):FnW base x fo σ0 s nm' pv' lv' ty' (τ.setO fo [.str nm',pv',lv',.int .i64 ty',.nilsl]) :=
 ⟨hF.rd.setO hF.fx,hF.ks.setO hF.f0 hF.fx,hF.fx,hF.f0,hF.lt,by simp⟩
theorem zom(V:zb6 G){base x fo s nm P pv ty σ0 τ}{a:Nat→AV}(hF:FnW base x fo σ0 s nm pv .nilsl ty τ)(hp:Al.IntsE pv P)(a0:a 0=.ptr x 0)(a2:a 2=.ptr fo 0)
  (hn:∀e,endF nm P ty s=.error e→zcC R x σ0 e) (hs:zEL R base x σ0 (endF nm P ty s)):avc yb9 G 54 zx3 (ze9 yb9 [.cell 2 57] R) a τ:=by
 have p1:=hp.one
 simp[zx3,a0]
 refine zuE (w:=zaU) hF.rd (by decide) (fun q τ1 hW1 K1=>?_) (fun s1 q τ1 hW1 K1=>?_)
 ·have e:zeo zaU s=.ok ([],s):=by unfold zeo;rw[q]
  have hF1:=hF.keep hW1 K1
  simp
  have e3:endF nm P ty s=zEM nm P [] ty s:=by unfold endF;rw[e];rfl
  rw[e3]at hs
  exact zv5 V (L:=[]) hF1 hp (.inl ⟨rfl,.inl rfl⟩) (by simp[a0]) (by simp[a2]) (fun e' q'=>hn e' (by rw[e3];exact q')) hs
 ·have e:zeo zaU s=zb0 (s1.b.length+1) [] s1:=by unfold zeo;rw[q]
  have hF1:=hF.keep hW1 K1
  simp[a0]
  refine zng (k:=s1.b.length+1) hW1 (by omega) (fun e' q'=>?_) (fun l s2 q' v τ2 hv hW2 K2=>?_)
  ·intro σ' K
   simp
   exact hn e' (by unfold endF;rw[e,q'];rfl) _ (hF1.ks.r.trans K)
  ·have hF2:=hF1.keep hW2 K2
   have v1:=hv.one
   have ob2:=hF2.ob
   simp[a0,a2,ob2,splice,v1]
   have e3:endF nm P ty s=zEM nm P l ty s2:=by unfold endF;rw[e,q'];rfl
   rw[e3]at hs
   exact zv5 V (L:=l) hF2.set hp hv (by simp[a0]) (by simp[a2]) (fun e' q3=>hn e' (by rw[e3];exact q3)) hs
theorem zv6(V:zb6 G){base x fo s nm P pv σ0 τ}{a:Nat→AV}(hF:FnW base x fo σ0 s nm pv .nilsl 0 τ)(hp:Al.IntsE pv P)(a0:a 0=.ptr x 0)(a2:a 2=.ptr fo 0)
  (hn:∀e,zpI nm P s=.error e→zcC R x σ0 e) (hs:zEL R base x σ0 (zpI nm P s)):avc yb9 G 54 zx4 (ze9 yb9 [.cell 2 57] R) a τ:=by
 have p1:=hp.one
 simp[zx4,a0]
 refine zuE (w:=zdJ) hF.rd (by decide) (fun q τ1 hW1 K1=>?_) (fun s1 q τ1 hW1 K1=>?_)
 ·have e:zqD s=.ok (0,s):=by unfold zqD;rw[q]
  have hF1:=hF.keep hW1 K1
  simp
  have e3:zpI nm P s=endF nm P 0 s:=by unfold zpI;rw[e];rfl
  rw[e3]at hs
  exact zom V hF1 hp (by simp[a0]) (by simp[a2]) (fun e' q'=>hn e' (by rw[e3];exact q')) hs
 ·have hF1:=hF.keep hW1 K1
  simp[a0]
  refine zng (k:=s1.b.length+1) hW1 (by omega) (fun e' q'=>?_) (fun l s2 q' v τ2 hv hW2 K2=>?_)
  ·intro σ' K
   simp
   exact hn e' (by unfold zpI zqD;rw[q];simp only;rw[q'];rfl) _ (hF1.ks.r.trans K)
  ·have hF2:=hF1.keep hW2 K2
   have v1:=hv.one
   have ob2:=hF2.ob
   have e:zqD s=if l.length=1 then .ok (l.headD 0,s2)else .error 2:=by unfold zqD;rw[q];simp only;rw[q'];rfl
   by_cases h1:l.length=1
   ·obtain⟨n,rfl⟩:=List.length_eq_one_iff.1 h1
    rw[if_pos h1]at e
    have e3:zpI nm P s=endF nm P n s2:=by unfold zpI;rw[e];rfl
    rw[e3]at hs
    have hv':∃b,v=.sl (.fam 0 b) 1 [.int .i64 n]:=by
     rcases hv with ⟨h,_⟩|⟨b,h⟩
     ·cases h
     ·exact⟨b,h⟩
    obtain⟨b,rfl⟩:=hv'
    have h0:=hF2.rd.h0
    have hnf:=hF2.rd.hb
    have hnf0:0<τ2.nf:=by omega
    simp
    refine z9 (fun _=>?_) (fun q=>by cases q)
    simp[a0,a2,ob2,splice,h0,hnf0,p1]
    exact zom V hF2.set hp (by simp[a0]) (by simp[a2]) (fun e' q'=>hn e' (by rw[e3];exact q')) hs
   ·rw[if_neg h1]at e
    have bad:∀σ',z8 x τ2 σ'→R (.panic (zxY 2)) σ':=fun σ' K=>hn 2 (by unfold zpI;rw[e];rfl) _ (hF2.ks.r.trans K)
    rcases hv with ⟨h,rfl|⟨b,rfl⟩⟩|⟨b,rfl⟩
    ·simp
     refine z9 (fun q=>by cases q) (fun _=>?_)
     simp
     exact bad _ (.refl ..)
    ·simp
     refine z9 (fun q=>by cases q) (fun _=>?_)
     simp
     exact bad _ (.refl ..)
    ·have h1i:¬(l.length:Int)=1:=by omega
     simp[h1,h1i]
     refine z9 (fun q=>by cases q) (fun _=>?_)
     simp
     exact bad _ (.refl ..)
theorem zEN(V:zb6 G){base x fo s nm σ0 τ}{a:Nat→AV}(hF:FnW base x fo σ0 s nm .nilsl .nilsl 0 τ)(a0:a 0=.ptr x 0)(a2:a 2=.ptr fo 0)
  (hn:∀e,zuK nm s=.error e→zcC R x σ0 e) (hs:zEL R base x σ0 (zuK nm s)):avc yb9 G 54 zx5 (ze9 yb9 [.cell 2 57] R) a τ:=by
 simp[zx5,a0]
 refine zuE (w:=zbZ) hF.rd (by decide) (fun q τ1 hW1 K1=>?_) (fun s1 q τ1 hW1 K1=>?_)
 ·have e:zeo zbZ s=.ok ([],s):=by unfold zeo;rw[q]
  have hF1:=hF.keep hW1 K1
  simp
  have e3:zuK nm s=zpI nm [] s:=by unfold zuK;rw[e];rfl
  rw[e3]at hs
  exact zv6 V (P:=[]) hF1 (.inl ⟨rfl,.inl rfl⟩) (by simp[a0]) (by simp[a2]) (fun e' q'=>hn e' (by rw[e3];exact q')) hs
 ·have e:zeo zbZ s=zb0 (s1.b.length+1) [] s1:=by unfold zeo;rw[q]
  have hF1:=hF.keep hW1 K1
  simp[a0]
  refine zng (k:=s1.b.length+1) hW1 (by omega) (fun e' q'=>?_) (fun l s2 q' v τ2 hv hW2 K2=>?_)
  ·intro σ' K
   simp
   exact hn e' (by unfold zuK;rw[e,q'];rfl) _ (hF1.ks.r.trans K)
  ·have hF2:=hF1.keep hW2 K2
   have v1:=hv.one
   have ob2:=hF2.ob
   simp[a0,a2,ob2,splice,v1]
   have e3:zuK nm s=zpI nm l s2:=by unfold zuK;rw[e,q'];rfl
   rw[e3]at hs
   exact zv6 V hF2.set hv (by simp[a0]) (by simp[a2]) (fun e' q3=>hn e' (by rw[e3];exact q3)) hs
theorem zpn(V:zb6 G){base x s σ}(h:Wr base x s σ)(hn:∀e,zcf 24 s=.error e→zcC R x σ e)(hs:zEL R base x σ (zcf 24 s)):zzQ G 60 [.ptr x 0] σ R:=by
 refine zxe rfl ?_
 rw[zdT]at hs
 simp only[zdT]at hn
 obtain⟨cs0,hcs0⟩:=h.isSome
 have hx:=h.hx
 rw[zx6]
 simp
 have A1:zh σ (σ.newO [.str [],.nilsl,.nilsl,.int .i64 0,.nilsl]):=(zh.refl σ).newO
 have o1:(σ.newO [.str [],.nilsl,.nilsl,.int .i64 0,.nilsl]).objs σ.no=some [.str [],.nilsl,.nilsl,.int .i64 0,.nilsl]:=by simp
 have n1:(σ.newO [.str [],.nilsl,.nilsl,.int .i64 0,.nilsl]).no=σ.no+1:=by simp
 generalize σ.newO [.str [],.nilsl,.nilsl,.int .i64 0,.nilsl]=σ1 at *
 have hW1:=h.adds A1
 have K1:=A1.keepS hx hcs0
 refine zja hW1 (fun q=>?_) (fun t s1 q σ2 hW2 K2=>?_)
 ·intro σ' K
  simp
  exact hn 2 (by rw[q];rfl) _ (K1.r.trans K)
 ·rw[q]at hs
  simp only[q,Except.bind]at hn hs
  have htl:=(zdR q).1
  have hlen:=hW1.len
  have hF:FnW base x σ.no σ s1 [] .nilsl .nilsl 0 σ2:=⟨hW2,K1.trans K2,by omega,yah _,by have:=K2.no;omega,(K2.obj _ (by omega) (by omega)).trans o1⟩
  simp
  refine zgk ?_
  have bad:¬(t.head?=some 36∧zhF 24 t.tail=true)→∀σ',z8 x σ2 σ'→R (.panic (zxY 2)) σ':=fun hc σ' K=>hn 2 (by rw[if_neg hc]) _ (hF.ks.r.trans K)
  by_cases h36:t.head?=some 36
  ·have e1:ziB [36] t=true:=by rw[zhS];simpa using h36
   have e2:t.drop 1=t.tail:=by simp
   simp[e1]
   refine zJc (by simp;omega) fun σ3 A3=>?_
   obtain⟨cs2,hcs2⟩:=hW2.isSome
   have K3:=A3.keepS hW2.hx hcs2
   have hF3:=hF.keep (hW2.adds A3) K3
   by_cases ht:zhF 24 t.tail=true
   ·rw[if_pos ⟨h36,ht⟩]at hs
    simp only[if_pos (⟨h36,ht⟩:t.head?=some 36∧zhF 24 t.tail=true)]at hn
    simp[ht]
    refine z9 (fun _=>?_) (fun q=>by cases q)
    have ob3:=hF3.ob
    simp[ob3,splice]
    exact zEN V hF3.set (by simp) (by simp) hn hs
   ·simp[ht]
    refine z9 (fun q=>by cases q) (fun _=>?_)
    simp
    exact bad (fun q=>ht q.2) _ K3.r
  ·have e1:ziB [36] t=false:=by rw[zhS];simpa using h36
   simp[e1]
   refine z9 (fun q=>by cases q) (fun _=>?_)
   simp
   exact bad (fun q=>h36 q.1) _ (.refl ..)
theorem zfX{τ τ':AS}{base v l}(h:Al.OutE τ base v l)(hn:τ.nf≤τ'.nf)(hF:∀f,f<τ.nf→τ'.F f=τ.F f):Al.OutE τ' base v l:=by
 rcases h with h|⟨g,rows,ps,h1,h2,h3,h4,h5,h6,h7⟩
 ·exact .inl h
 ·exact .inr ⟨g,rows,ps,h1,h2,by omega,(hF g h3).trans h4,h5,h6,h7.nd,fun x hx=>by
   obtain⟨q1,q2,q3,q4⟩:=h7.each x hx
   exact⟨q1,by omega,(hF x q2).trans q3,q4⟩⟩
theorem zJd{τ τ':AS}{base v m}(h:Al.ME τ base v m)(hn:τ.nf≤τ'.nf)(hF:∀f,f<τ.nf→τ'.F f=τ.F f):Al.ME τ' base v m:=by
 obtain⟨fv,rfl,h⟩:=h
 exact⟨fv,rfl,zfX h hn hF⟩
def zgp:AV:=.agg [.nilsl,.int .i64 0,.int .i64 0]
end
def zr7(fs:List F)(mem:Int)(s:Ts):Res (M × Ts):=(zaC [zA,zbw,zfO,zA,zbo] s).bind fun s=>(zbg s).bind fun mn=>(zaC [zg,zg,zg] mn.2).bind fun s =>
  if s.b.all zm1=true then .ok (({ funcs:=fs,memory:=mem,main:=yb4 .i64 (mn.1-3) }:M),s)else .error 2
theorem zjd(mx:Nat)(s:Ts):zfQ mx s=(zaC zcn s).bind fun s=>(zbg s).bind fun mem=>(zaC [zg,zg] mem.2).bind fun s=>(zaj mx (s.b.length+1) [] s).bind fun fs=>zr7 fs.1 mem.1 fs.2:=rfl
theorem zon:∀(k d:Nat) (o:Bool) (l:List W) (s:Ts) (r:Int × List UInt8) (s':Ts),zae k d o l s=.ok (r,s')→s'.ls≠[]
 | 0,_,_,_,_,_,_,h=>by cases h
 | k+1,d,o,l,s,r,s',h=>by
  rw[zae]at h
  obtain⟨p,h1,h2⟩:=bind_some h
  split at h2
  ·cases h2
   simp
  ·obtain⟨q,h3,h4⟩:=bind_some h2
   exact zon k d o _ _ _ _ h4
theorem zq7{w:List UInt8}{s s':Ts}(h:zfP w s=some s'):s'.b.length≤s.b.length:=by
 unfold zfP at h
 cases e:zdo s.b with
 | none=>rw[e]at h;cases h
 | some p =>
  obtain⟨p1,p2⟩:=p
  rw[e]at h
  simp only at h
  split at h
  ·cases e2:zdo p2 with
   | none=>rw[e2]at h;cases h
   | some q =>
    obtain⟨q1,q2⟩:=q
    rw[e2]at h
    simp only at h
    split at h
    ·cases h
     have l1:=(zcq e).1
     have l2:=(zcq e2).1
     simp only
     omega
    ·cases h
  ·cases h
theorem zft:∀(k:Nat) (l:List Int) (s:Ts) (r:List Int) (s':Ts),zb0 k l s=.ok (r,s')→s'.b.length≤s.b.length
 | 0,_,_,_,_,h=>by cases h
 | k+1,l,s,r,s',h=>by
  rw[zb0]at h
  obtain⟨p,h1,h2⟩:=bind_some h
  have l1:=(zgV h1).1
  split at h2
  ·exact yai (zft k _ _ _ _ h2) l1
  ·split at h2
   ·exact yai (zft k _ _ _ _ h2) l1
   ·split at h2
    ·cases h2;exact l1
    ·cases h2
theorem zoo{w:List UInt8}{s s':Ts}{l:List Int}(h:zeo w s=.ok (l,s')):s'.b.length≤s.b.length:=by
 unfold zeo at h
 split at h
 ·rename_i s1 e
  exact yai (zft _ _ _ _ _ h) (zq7 e)
 ·cases h;exact yah _
theorem zx7{s s':Ts}{l:Int}(h:zqD s=.ok (l,s')):s'.b.length≤s.b.length:=by
 unfold zqD at h
 split at h
 ·rename_i s1 e
  obtain⟨r,h1,h2⟩:=bind_some h
  split at h2
  ·cases h2
   exact yai (zft _ _ _ _ _ h1) (zq7 e)
  ·cases h2
 ·cases h;exact yah _
theorem zl0{mx s f s'}(h:zcf mx s=.ok (f,s')):f.lists≠[]∧s'.b.length≤s.b.length:=by
 rw[zdT]at h
 obtain⟨p,h1,h2⟩:=bind_some h
 split at h2
 ·unfold zuK at h2
  obtain⟨q,h3,h4⟩:=bind_some h2
  unfold zpI at h4
  obtain⟨r,h5,h6⟩:=bind_some h4
  unfold endF at h6
  obtain⟨u,h7,h8⟩:=bind_some h6
  have hl:=(map_some h8)
  obtain⟨v,h9,h10⟩:=hl
  cases h10
  refine⟨zon _ _ _ _ _ _ _ h9,?_⟩
  have l1:=(zgV h1).1
  have l2:=(zfs _ _ _ _ _ _ _ h9).1
  have l3:=zoo h3
  have l4:=zx7 h5
  have l5:=zoo h7
  simp only at l2 l3 l4 l5 l1 ⊢
  omega
 ·cases h2
theorem Wr.famF{base x s τ τ'}(h:Wr base x s τ)(e1:τ'.objs=τ.objs)(e2:τ'.no=τ.no)(e3:τ.nf≤τ'.nf)(e4:∀f,f=0∨zck τ x f→τ'.F f=τ.F f):Wr base x s τ':=by
 obtain⟨lv,ho,hl⟩:=h.cells
 have hb:=h.hb
 refine⟨by rw[e2];exact h.hx,⟨hb.1,by omega⟩,(e4 0 (.inl rfl)).trans h.h0,h.ok,h.len,lv,by rw[e1];exact ho,?_⟩
 rcases hl with h1|⟨g,tos,rfl,h2,h3,h4,h5⟩
 ·exact .inl h1
 ·exact .inr ⟨g,tos,rfl,h2,by omega,(e4 g (.inr ⟨_,_,ho,rfl,rfl⟩)).trans h4,h5⟩
structure PsW(σ:AS)(base x:Nat)(s:Ts)(fv:AV)(mem mn:Int)(τ:AS):Prop where
 rd:Wr base x s τ
 ad:zh σ τ
 x0:σ.no+2≤x
 b0:σ.nf≤base
 mo:τ.objs σ.no=some [fv,.int .i64 mem,.int .i64 mn]
 eo:τ.objs (σ.no+1)=some [.int .i64 0]
theorem PsW.keepS{σ base x s s' fv mem mn τ τ'}(h:PsW σ base x s fv mem mn τ)(hW:Wr base x s' τ')(K:zag x τ τ'):PsW σ base x s' fv mem mn τ':=by
 have x0:=h.x0
 have hx:=h.rd.hx
 exact⟨hW,K.adds0 h.ad (by omega),h.x0,h.b0,(K.obj _ (by omega) (by omega)).trans h.mo,(K.obj _ (by omega) (by omega)).trans h.eo⟩
theorem PsW.adds{σ base x s fv mem mn τ τ'}(h:PsW σ base x s fv mem mn τ)(A:zh τ τ'):PsW σ base x s fv mem mn τ':=by
 obtain⟨cs,hcs⟩:=h.rd.isSome
 exact h.keepS (h.rd.adds A) (A.keepS h.rd.hx hcs)
theorem PsW.setM{σ base x s fv mem mn fv' mem' mn' τ}(h:PsW σ base x s fv mem mn τ):PsW σ base x s fv' mem' mn' (τ.setO σ.no [fv',.int .i64 mem',.int .i64 mn']):=by
 have x0:=h.x0
 exact⟨h.rd.setO (by omega),h.ad.setO (yah _),h.x0,h.b0,by simp,by simp[h.eo]⟩
section
variable {G : Env} {σ : AS} {R : Out → AS → Prop}
theorem zEO{τ:AS}{e:Int}{a:Nat→AV}{mc:List AV}(a2:a 2=.ptr σ.no 0)(a3:a 3=.ptr (σ.no+1) 0)(A:zh σ τ)(hmc:τ.objs σ.no=some mc)(hml:mc.length=3)(he:τ.objs (σ.no+1)=some [.int .i64 0])
  (hh:∀σ',zh σ σ'→R (.ret (.tuple [zgp,.int .i64 e])) σ'):zax yb9 G 9 zge 3 2 [.ptr σ.no 0,.ptr (σ.no+1) 0] [.cell 2 28,.cell 3 33] R (some (zxY e)) a τ:=by
 obtain⟨x1,x2,x3,rfl⟩:∃x y z,mc=[x,y,z]:=by
  match mc,hml with
  | [x,y,z],_=>exact⟨x,y,z,rfl⟩
 simp[zax,zxY,zge,he,hmc,splice,a2,a3]
 exact hh _ ((A.setO (yah _)).setO (by omega))
theorem PsW.hand{base x s fv mem mn τ}(h:PsW σ base x s fv mem mn τ){τ':AS}(K:z8 x τ τ'){e:Int}{a:Nat→AV}(a2:a 2=.ptr σ.no 0)(a3:a 3=.ptr (σ.no+1) 0)
  (hh:∀σ',zh σ σ'→R (.ret (.tuple [zgp,.int .i64 e])) σ'):zax yb9 G 9 zge 3 2 [.ptr σ.no 0,.ptr (σ.no+1) 0] [.cell 2 28,.cell 3 33] R (some (zxY e)) a τ':=by
 have x0:=h.x0
 have b0:=h.b0
 have hx:=h.rd.hx
 have An:=h.ad.no
 have Af:=h.ad.nf
 refine zEO a2 a3 ⟨yai An K.no,yai Af K.nf,fun o ho=>?_,fun f hf=>?_⟩ ((K.obj _ (by omega) (by omega)).trans h.mo) rfl ((K.obj _ (by omega) (by omega)).trans h.eo) hh
 ·rw[K.obj o (by omega) (by omega),h.ad.obj o ho]
 ·rw[K.fam f (by omega) (h.rd.uses (by omega)),h.ad.fam f hf]
theorem zq8:inS zdi=zm1:=by
 funext c
 have h:∀i:Fin 256,inS zdi (UInt8.ofNat i.1)=zm1 (UInt8.ofNat i.1):=by decide
 have:=h ⟨c.toNat,c.toNat_lt⟩
 simpa using this
theorem zq9(V:zb6 G){base x s fv mem fs τ}{a:Nat→AV}(h:PsW σ base x s fv mem 0 τ)(hfs:Al.OutE τ σ.nf fv fs)(a2:a 2=.ptr σ.no 0)(a3:a 3=.ptr (σ.no+1) 0)(a4:a 4=.ptr x 0)
  (hn:∀e,zr7 fs mem s=.error e→∀σ',zh σ σ'→R (.ret (.tuple [zgp,.int .i64 e])) σ') (hs:∀m s',zr7 fs mem s=.ok (m,s')→∀mv σ',Al.ME σ' σ.nf mv m→zh σ σ'→R (.ret (.tuple [mv,.int .i64 0])) σ') :
  avc yb9 G 45 zfa (aq (zax yb9 G 9 zge 3 2 [.ptr σ.no 0,.ptr (σ.no+1) 0] [.cell 2 28,.cell 3 33] R)) a τ:=by
 have hfv:fv.known=true∧fv.one=true∧fv.cells=[fv]:=by
  rcases hfs with ⟨_,rfl⟩|⟨_,_,_,rfl,_⟩<;>simp
 simp[zfa,a4]
 refine zku (ts:=[zA,zbw,zfO,zA,zbo]) h.rd (.inl ⟨true,rfl⟩) (by decide) (fun e q=>?_) (fun s1 q τ1 hW1 K1=>?_)
 ·intro σ' K
  simp
  exact h.hand K (by simp[zdg,a2]) (by simp[zdg,a3]) (hn e (by unfold zr7;rw[q];rfl))
 ·have h1:=h.keepS hW1 K1
  simp[a4]
  refine zkv V hW1 (fun e q2=>?_) (fun n s2 q2 r1 r2 τ2 hW2 K2=>?_)
  ·intro σ' K
   simp
   exact h1.hand K (by simp[zdg,a2]) (by simp[zdg,a3]) (hn e (by unfold zr7;rw[q];simp only[Except.bind];rw[q2]))
  ·have h2:=h1.keepS hW2 K2
   have mo2:=h2.mo
   simp[a2,a4,mo2,splice]
   have h3:=h2.setM (fv':=fv) (mem':=mem) (mn':=yb4 .i64 (n-3))
   have F3:(τ2.setO σ.no [fv,.int .i64 mem,.int .i64 (yb4 .i64 (n-3))]).F=τ2.F:=rfl
   have N3:(τ2.setO σ.no [fv,.int .i64 mem,.int .i64 (yb4 .i64 (n-3))]).nf=τ2.nf:=rfl
   generalize τ2.setO σ.no [fv,.int .i64 mem,.int .i64 (yb4 .i64 (n-3))]=τ3 at *
   refine zku (ts:=[zg,zg,zg]) h3.rd (.inl ⟨true,rfl⟩) (by decide) (fun e q3=>?_) (fun s4 q3 τ4 hW4 K4=>?_)
   ·intro σ' K
    simp
    exact h3.hand K (by simp[zdg,a2]) (by simp[zdg,a3]) (hn e (by unfold zr7;rw[q];simp only[Except.bind];rw[q2];simp only;rw[q3]))
   ·have h4:=h3.keepS hW4 K4
    obtain⟨lv4,ho4,hlv4⟩:=hW4.cells
    have hmod:zr7 fs mem s=if s4.b.all zm1=true then .ok (({ funcs:=fs,memory:=mem,main:=yb4 .i64 (n-3) }:M),s4)else .error 2:=by
     unfold zr7;rw[q];simp only[Except.bind];rw[q2];simp only;rw[q3]
    have hl4:=hW4.len
    simp[a4,ho4]
    refine zfW (l:=zdi) (by decide) (by decide) (by decide) (by omega) fun τ5 A5=>?_
    have h5:=h4.adds A5
    by_cases hall:s4.b.all zm1=true
    ·rw[if_pos hall]at hmod
     have e:zlT zdi s4.b=[]:=(zcO _ _).2 (by rw[zq8];exact hall)
     simp[e]
     refine z9 (fun _=>?_) (fun q=>by cases q)
     have mo5:=h5.mo
     have eo5:=h5.eo
     simp[a2,a3,mo5,eo5,splice,zax,zge,hfv]
     have n1:=K1.nf
     have n2:=K2.nf
     have n4:=K4.nf
     have n5:=A5.nf
     have hfs5:Al.OutE τ5 σ.nf fv fs:=zfX hfs (by omega) fun f hf=>by
      rw[A5.fam f (by omega),K4.fam f (by omega),F3,K2.fam f (by omega),K1.fam f hf]
     have A6:zh σ ((τ5.setO σ.no [fv,.int .i64 mem,.int .i64 (yb4 .i64 (n-3))]).setO (σ.no+1) [.int .i64 0]):=(h5.ad.setO (yah _)).setO (by omega)
     exact hs _ _ hmod _ _ ⟨fv,rfl,zfX hfs5 (yah _) fun f _=>rfl⟩ A6
    ·rw[if_neg hall]at hmod
     have e:¬zlT zdi s4.b=[]:=fun q=>hall (by rw[←zq8];exact(zcO _ _).1 q)
     simp[e]
     refine z9 (fun q=>by cases q) (fun _=>?_)
     simp
     exact h5.hand (.refl ..) (by simp[zdg,a2]) (by simp[zdg,a3]) (hn 2 hmod)
end
theorem zra{el:Option TypeId}{bsz base:Nat}{τ0 τ:AS}{v row:AV}{l:List F}{f:F}{gN:Nat}{K:AV→AS→Prop}(h:Al.OutE τ0 base v l)(hrow:Al.FVE row (f,gN))(hn:τ0.nf≤τ.nf)(hF:∀g,g<τ0.nf→τ.F g=τ0.F g)(hb:base≤τ0.nf)(g1:τ0.nf≤gN)(g2:gN<τ.nf)(g3:τ.F gN=.alive)
  (hl:(l.length+1)*bsz≤2^47) (hK:∀v' τ',Al.OutE τ' base v' (l++[f])→τ'.objs=τ.objs→τ'.no=τ.no→τ'.nf=τ.nf+1→(∀g,g<τ.nf→g<base∨τ0.nf≤g→τ'.F g=τ.F g)→K v' τ'):zcc el bsz 5 v [row] τ K:=by
 have hrc:row.cells.length=5:=zqY hrow
 rcases h with ⟨rfl,rfl⟩|⟨g,rows,ps,rfl,h1,h2,h3,h4,h5,h6⟩
 ·have hne:¬gN=τ.nf:=by omega
  have:=hK (.sl (.fam τ.nf false) 5 [row]) τ.newF (.inr ⟨τ.nf,[row],[(f,gN)],rfl,by omega,by simp,by simp,rfl,.cons hrow .nil,⟨by simp,fun x hx=>by
   simp only[yaL,ycG,ycA]at hx
   subst hx
   exact⟨by omega,by simp;omega,by simp[hne,g3],hne⟩⟩⟩) (by simp) (by simp) (by simp) (fun g' a _=>by
    have:¬g'=τ.nf:=by omega
    simp[this])
  simp at hl
  simp
  first|exact this|exact⟨by omega,this⟩
 ·have hgg:¬g=τ.nf:=by omega
  have hne:¬gN=τ.nf:=by omega
  have hng:¬gN=g:=by omega
  have ha:τ.F g=.alive:=(hF g h2).trans h3
  have hlen:rows.length=l.length:=by rw[h5.length,←h4];simp
  have:=hK (.sl (.fam τ.nf false) 5 (rows++[row])) (τ.setF g .dead).newF (.inr ⟨τ.nf,rows++[row],ps++[(f,gN)],rfl,by omega,by simp,by simp,by simp[h4],h5.append (.cons hrow .nil),⟨by
   rw[yc0,List.nodup_append]
   refine⟨h6.nd,by simp,fun a ha b hb=>?_⟩
   simp only[yaL,ycG,ycA]at hb
   have:=(h6.each a ha).2.1
   omega,fun x hx=>by
   rw[yc0,ybh]at hx
   rcases hx with hx|hx
   ·obtain⟨q1,q2,q3,q4⟩:=h6.each x hx
    have e1:¬x=τ.nf:=by omega
    exact⟨q1,by simp;omega,by simp[e1,q4,(hF x q2).trans q3],e1⟩
   ·simp only[yaL,ycG,ycA]at hx
    subst hx
    exact⟨by omega,by simp;omega,by simp[hne,hng,g3],hne⟩⟩⟩) (by simp) (by simp) (by simp) (fun g' a b=>by
    have e1:¬g'=τ.nf:=by omega
    have e2:¬g'=g:=by omega
    simp[e1,e2])
  simp[ha]
  exact⟨by rw[hlen];exact hl,this⟩
section
variable {G : Env} {σ : AS} {R : Out → AS → Prop}
theorem zni{τ base v l}(h:Al.OutE τ base v l):v.known=true∧v.one=true∧v.cells=[v]:=by
 rcases h with ⟨_,rfl⟩|⟨_,_,_,rfl,_⟩<;>simp
def PlI(σ:AS)(base x:Nat)(mem:Int)(k0:Nat)(s0:Ts)(a:Nat→AV)(τ:AS):Prop:=∃(k:Nat) (l:List F) (s:Ts) (fv:AV),zaj 24 k0 [] s0=zaj 24 k l s∧s.b.length<k∧l.length+s.b.length≤s0.b.length∧PsW σ base x s fv mem 0 τ∧Al.OutE τ σ.nf fv l∧a 2=.ptr σ.no 0∧a 3=.ptr (σ.no+1) 0∧a 4=.ptr x 0
theorem zx8{w:List UInt8}{s s':Ts}(h:zfP w s=some s'):s'.b.length+1≤s.b.length:=by
 unfold zfP at h
 cases e:zdo s.b with
 | none=>rw[e]at h;cases h
 | some p =>
  obtain⟨p1,p2⟩:=p
  rw[e]at h
  simp only at h
  split at h
  ·cases e2:zdo p2 with
   | none=>rw[e2]at h;cases h
   | some q =>
    obtain⟨q1,q2⟩:=q
    rw[e2]at h
    simp only at h
    split at h
    ·cases h
     have l1:=zcq e
     have l2:=(zcq e2).1
     have:=ybm.2 l1.2
     simp only
     omega
    ·cases h
  ·cases h
theorem zpo(V:zb6 G)(h00:0<σ.nf){base x k0 s0 mem}(hs36:s0.b.length<2^36)(hn:∀e,((zaj 24 k0 [] s0).bind fun fs=>zr7 fs.1 mem fs.2)=.error e→∀σ',zh σ σ'→R (.ret (.tuple [zgp,.int .i64 e])) σ')
  (hs:∀m s',((zaj 24 k0 [] s0).bind fun fs=>zr7 fs.1 mem fs.2)=.ok (m,s')→∀mv σ',Al.ME σ' σ.nf mv m→zh σ σ'→R (.ret (.tuple [mv,.int .i64 0])) σ') {a:Nat→AV} {τ:AS} (hI:PlI σ base x mem k0 s0 a τ) :
  avc yb9 G 45 zhy (zbd (fun a' σ'=>PlI σ base x mem k0 s0 a' σ'∧MBt x a' σ'<MBt x a τ) (za2 0 (zbd (avc yb9 G 45 zfa (aq (zax yb9 G 9 zge 3 2 [.ptr σ.no 0,.ptr (σ.no+1) 0] [.cell 2 28,.cell 3 33] R))) (aq (zax yb9 G 9 zge 3 2 [.ptr σ.no 0,.ptr (σ.no+1) 0] [.cell 2 28,.cell 3 33] R))))) a τ:=by
 obtain⟨k,l,s,fv,he,hk,hlb,hP,hO,a2,a3,a4⟩:=hI
 obtain⟨k,rfl⟩:∃j,k=j+1:=⟨k-1,by omega⟩
 have hmb:=zex hP.rd a
 rw[zaj]at he
 simp[zhy,a4]
 refine zuE (w:=zbo) hP.rd (by decide) (fun q τ1 hW1 K1=>?_) (fun s1 q τ1 hW1 K1=>?_)
 ·have hP1:=hP.keepS hW1 K1
  have hO1:=zfX hO K1.nf fun f hf=>K1.fam f hf
  rw[q]at he
  simp only at he
  rw[he]at hn hs
  simp
  exact zq9 V hP1 hO1 (by simp[a2]) (by simp[a3]) (by simp[a4]) hn hs
 ·have hP1:=hP.keepS hW1 K1
  have hO1:=zfX hO K1.nf fun f hf=>K1.fam f hf
  rw[q]at he
  simp only at he
  have mo1:=hP1.mo
  have hlt:=zx8 q
  have f1:=zni hO1
  simp[a2,a4,mo1,f1]
  refine zpn V hW1 (fun e q2=>?_) ?_
  ·intro σ' K
   simp
   exact hP1.hand K (by simp[zdg,a2]) (by simp[zdg,a3]) (hn e (by rw[he,q2];rfl))
  ·intro f s2 q2 pv lv tv τ2 hp hl hW2 hx2 KF hfam hls
   rw[q2]at he
   simp only[Except.bind]at he
   have x0:=hP.x0
   have hx1:=hW1.hx
   have mo2:=(KF.obj σ.no (by omega) (by omega) (by omega)).trans mo1
   have eo2:=(KF.obj (σ.no+1) (by omega) (by omega) (by omega)).trans hP1.eo
   have p1:=hp.one
   have l1:=hl.one
   obtain⟨lv2,ho2,htv⟩:=hW2.cells
   rw[hx2]at ho2
   cases ho2
   have t1:=htv.one
   have hne:=zl0 q2
   have An:=hP1.ad.nf
   have Ad2:zh σ τ2:=KF.adds0 hP1.ad (by omega) (by omega)
   rw[hls]at htv
   rcases htv with ⟨h0,_⟩|⟨gN,tos,rfl,t2,t3,t4,t5⟩
   ·exact absurd h0 hne.1
   ·have hgN:τ1.nf≤gN:=hfam gN rfl
    have hrow:Al.FVE (.agg [.str f.name,pv,lv,.int .i64 f.type,.sl (.fam gN false) 1 tos]) (f,gN):=⟨pv,lv,_,rfl,hp,hl,.inr ⟨tos,rfl,t5⟩⟩
    simp[mo2,f1,p1,l1,a2]
    have hlen2:l.length≤2^36:=by omega
    refine zra hO1 hrow KF.nf KF.fam An hgN t3 t4 (by omega) fun v' τ' O' e1 e2 e3 e4=>?_
    have g1:=zni O'
    have mo3:τ'.objs σ.no=some [fv,.int .i64 mem,.int .i64 0]:=by rw[e1];exact mo2
    have eo3:τ'.objs (σ.no+1)=some [.int .i64 0]:=by rw[e1];exact eo2
    have kn:=KF.nf
    have hW3:Wr base x s2 τ':=hW2.famF e1 e2 (by omega) fun f' hf'=>by
     rcases hf' with rfl|⟨cs,w,u1,u2,u3⟩
     ·exact e4 0 (by omega) (.inl h00)
     ·rw[hx2]at u1
      cases u1
      simp at u2
      subst u2
      cases u3
      exact e4 gN t3 (.inr hgN)
    have An2:=Ad2.no
    have Af2:=Ad2.nf
    have Ad3:zh σ τ':=⟨by omega,by omega,fun o ho=>by rw[e1];exact Ad2.obj o ho,fun f' hf'=>(e4 f' (by omega) (.inl hf')).trans (Ad2.fam f' hf')⟩
    have hP3:PsW σ base x s2 fv mem 0 τ':=⟨hW3,Ad3,x0,hP.b0,mo3,eo3⟩
    have hP4:=hP3.setM (fv':=v') (mem':=mem) (mn':=0)
    have O4:Al.OutE (τ'.setO σ.no [v',.int .i64 mem,.int .i64 0]) σ.nf v' (l++[f]):=zfX O' (yah _) fun _ _=>rfl
    simp[mo3,splice,g1,a2]
    refine⟨⟨k,l++[f],s2,v',he,by omega,by simp;omega,hP4,O4,by simp[a2],by simp[a3],by simp[a4]⟩,?_⟩
    rw[zex hP4.rd,hmb]
    omega
theorem zkx(V:zb6 G)(h00:0<σ.nf∧σ.F 0=.alive){b:List UInt8}(hok:zhT b)(hl:b.length<2^36)
  (hn:∀e,zgf 24 b=.error e→∀σ',zh σ σ'→R (.ret (.tuple [zgp,.int .i64 e])) σ')
  (hs:∀m,zgf 24 b=.ok m→∀mv σ',Al.ME σ' σ.nf mv m→zh σ σ'→R (.ret (.tuple [mv,.int .i64 0])) σ'):zzQ G 19 [.str b] σ R:=by
 refine zev (px:=zvP) (pz:=zvQ) (k:=55) (py:=zge) (n:=45) (nk:=9) (t:=5) (d0:=3) (d1:=2) (res:=[.cell 2 28,.cell 3 33]) zk Tryz.func19 rfl rfl rfl rfl (by kernel_rfl) (by kernel_rfl) (by simp) rfl rfl rfl rfl rfl rfl (by decide) Tryz.func55 rfl (by kernel_rfl) rfl rfl rfl rfl rfl rfl rfl rfl rfl (by kernel_rfl) (by decide) (by decide) (by decide) ?_
 have hpe:zgf 24 b=(zfQ 24 ⟨b,[]⟩).map (·.1):=rfl
 have hn':∀e,zfQ 24 ⟨b,[]⟩=.error e→∀σ',zh σ σ'→R (.ret (.tuple [zgp,.int .i64 e])) σ':=fun e q=>hn e (by rw[hpe,q];rfl)
 have hs':∀m s',zfQ 24 ⟨b,[]⟩=.ok (m,s')→∀mv σ',Al.ME σ' σ.nf mv m→zh σ σ'→R (.ret (.tuple [mv,.int .i64 0])) σ':=fun m s' q=>hs m (by rw[hpe,q];rfl)
 clear hn hs hpe
 simp[zvP]
 have ecap:List.map (ev G (upd (upd (zbq [.str b]) 2 (ycr σ.no 0)) 3 (ycr (σ.no+1) 0))) #[Operand.tmp 2,Operand.tmp 3].toList=[.ptr σ.no 0,.ptr (σ.no+1) 0]:=rfl
 rw[ecap]
 generalize hfr:upd (upd (upd (zbq [.str b]) 2 (ycr σ.no 0)) 3 (ycr (σ.no+1) 0)) 5 (AV.fn (Fn.func 55) [] [ycr σ.no 0,ycr (σ.no+1) 0])=fr
 have fr0:fr 0=.str b:=by rw[←hfr];simp
 have fr2:fr 2=.ptr σ.no 0:=by rw[←hfr];simp
 have fr3:fr 3=.ptr (σ.no+1) 0:=by rw[←hfr];simp
 rw[zjd]at hs'
 simp only[zjd]at hn'
 simp[zvQ,fr0,splice]
 have hP:PsW σ σ.nf (σ.no+1+1) ⟨b,[]⟩ .nilsl 0 0 (((σ.newO [ycu,yco yam 0,yco yam 0]).newO [yco yam 0]).newO [ycn b,ycu]) :=
  ⟨⟨by simp,⟨by simpa using h00.1,by simp⟩,by simpa using h00.2,hok,hl,.nilsl,by simp,.inl ⟨rfl,rfl⟩⟩,(zh.refl σ).newO.newO.newO,by omega,yah _,by
   have:¬σ.no=σ.no+1+1:=by omega
   simp[this],by simp⟩
 have hno:(((σ.newO [ycu,yco yam 0,yco yam 0]).newO [yco yam 0]).newO [ycn b,ycu]).no=σ.no+1+1+1:=by simp
 have hnf:(((σ.newO [ycu,yco yam 0,yco yam 0]).newO [yco yam 0]).newO [ycn b,ycu]).nf=σ.nf:=by simp
 generalize ((σ.newO [ycu,yco yam 0,yco yam 0]).newO [yco yam 0]).newO [ycn b,ycu]=τ0 at *
 refine Hd.fields_calls V.space fun y σ' A y1 y2 y3=>?_
 have hP1:=hP.adds A
 simp
 refine zku (ts:=zcn) hP1.rd (.inr ⟨y,rfl,y2,by omega,y3⟩) (by decide) (fun e q=>?_) (fun s1 q τ1 hW1 K1=>?_)
 ·intro σ'' K
  simp
  exact hP1.hand K (by simp[zdg,fr2]) (by simp[zdg,fr3]) (hn' e (by rw[q];rfl))
 ·have hP2:=hP1.keepS hW1 K1
  rw[q]at hs'
  simp only[q,Except.bind]at hn' hs'
  simp
  refine zkv V hW1 (fun e q2=>?_) (fun mem s2 q2 r1 r2 τ2 hW2 K2=>?_)
  ·intro σ'' K
   simp
   exact hP2.hand K (by simp[zdg,fr2]) (by simp[zdg,fr3]) (hn' e (by rw[q2]))
  ·have hP3:=hP2.keepS hW2 K2
   rw[q2]at hs'
   simp only[q2]at hn' hs'
   have mo3:=hP3.mo
   simp[fr2,mo3,splice]
   have hP4:=hP3.setM (fv':=.nilsl) (mem':=mem) (mn':=0)
   generalize τ2.setO σ.no [.nilsl,.int .i64 mem,.int .i64 0]=τ3 at *
   refine zku (ts:=[zg,zg]) hP4.rd (.inl ⟨true,rfl⟩) (by decide) (fun e q3=>?_) (fun s4 q3 τ4 hW4 K4=>?_)
   ·intro σ'' K
    simp
    exact hP4.hand K (by simp[zdg,fr2]) (by simp[zdg,fr3]) (hn' e (by rw[q3]))
   ·have hP5:=hP4.keepS hW4 K4
    rw[q3]at hs'
    simp only[q3]at hn' hs'
    simp
    refine zas (PlI σ σ.nf (σ.no+1+1) mem (s4.b.length+1) s4) (MBt (σ.no+1+1)) ⟨s4.b.length+1,[],s4,.nilsl,rfl,by omega,by simp,hP5,.inl ⟨rfl,rfl⟩,by simp[fr2],by simp[fr3],by simp⟩ fun a τ hI=>?_
    exact zpo V h00.1 hW4.len hn' hs' hI
end
end Go.Proofs.YtohfclafhegadaaGreatDoor
namespace Go.Proofs.YtohfclafhegadaaGreatDoor
open Go Go.Abs Go.Shelf Go.RowKit
theorem zEP:liesAt yb9 yb9.depth 88 (2/yb9.cellsOf 88) 0 86 1=true:=by kernel_rfl
theorem u84:yb9.underlying 84=some (.pointer 86):=by kernel_rfl
theorem zKH:yb9.underlying 244=some .unsafePointer:=by kernel_rfl
theorem zv7:(yb9.info? 86).map (·.size)=some 2:=by kernel_rfl
set_option maxHeartbeats 1000000 in
theorem zx9(b:Nat)(w:World)(h0:w.cell? ⟨b,0,none⟩=some (.pointer (some ⟨b,0,none⟩))):
  Calls yb9 175 #[.pointer (some ⟨b,0,none⟩)] w fun e w'=>e=.returned (.tuple #[])∧w'=w:=by
 obtain⟨j,hj,_⟩:=ybB.1 zv7
 go_enter yc1,yc2
 go_wp2
 rw[Lib.run_neq_ptr_same w _ u84 hj]
 go_wp2
 go_end0
 exact⟨rfl,rfl⟩
set_option maxHeartbeats 1000000 in
theorem zuM(b:Nat)(w:World)(h0:w.cell? ⟨b,0,none⟩=some (.pointer none))(hsh:w.shape? b=some (88,2))(hfz:w.frozen? ⟨b,0,none⟩=false):
  Calls yb9 175 #[.pointer (some ⟨b,0,none⟩)] w fun e w'=>e=.returned (.tuple #[])∧w'=w.setCell ⟨b,0,none⟩ (.pointer (some ⟨b,0,none⟩)):=by
 obtain⟨j,hj,hjs⟩:=ybB.1 zv7
 go_enter yc1,yc2
 go_wp2
 rw[Lib.run_to_unsafe w ⟨b,0,none⟩ u84 zKH hj (by rw[hjs];decide) hsh (Nat.zero_lt_succ 1)]
 simp only[Result.andThen]
 rw[Oper.upon_value]
 go_wp2
 rw[run_callFunc_extern Tryz.func211 (by kernel_rfl) (by kernel_rfl) (by kernel_rfl) (e:=Extern.AbiNoEscape.same) (by kernel_rfl)]
 rw[Lib.run_noEscape]
 simp only[Result.andThen]
 rw[Oper.upon_value]
 go_wp2
 rw[Lib.run_from_unsafe w ⟨b,0,none⟩ zKH u84 hj hsh zEP]
 simp only[Result.andThen]
 rw[Oper.upon_value]
 go_wp2
 go_end0
 exact⟨rfl,rfl⟩
section
variable {G : Env} {σ : AS} {R : Out → AS → Prop}
def zEQ(o:Nat)(v:AV):Prop:=v=.nilp∨v=.pt 88 2 o 0
theorem zh0{o:Nat}{v u:AV}(ho:σ.objs o=some [v,u])(hv:zEQ o v)(h:∀σ',σ'=σ.setO o [.pt 88 2 o 0,u]→R (.ret (.tuple [])) σ'):zzQ G 175 [.pt 88 2 o 0] σ R:=by
 intro M w cargs S g hc
 obtain⟨c,rfl,hcv⟩:=zxX hc
 obtain⟨q1,q2,⟨cc,z,q3,q4⟩,rfl⟩:=znE hcv
 obtain⟨r1,r2,r3⟩:=S.obj o _ ho
 obtain⟨c0,s1,s2,s3⟩:=r3 0 (by simp)
 rw[q2]at s1 s2
 simp only[yc3,yaK]at s1 s2
 have hpt:VR M σ.F w (.pt 88 2 o 0) (.pointer (some ⟨(M.obj o).1,0,none⟩)):=hcv
 rcases hv with rfl|rfl
 ·have hc0:c0=.pointer none:=by
   simp only[yaz]at s3
   cases s3
   rfl
  subst hc0
  have hsh:w.shape? (M.obj o).1=some (88,2):=by simp[World.shape?,q3,q4]
  refine(zuM _ w s1 hsh s2).mono fun e w' ⟨he,hw⟩=>?_
  subst he
  obtain⟨w2,hrun,S',E'⟩:=zlb (P:=yb9) S ho (off:=0) (vs:=[.pt 88 2 o 0]) (l:=[.pointer (some ⟨(M.obj o).1,0,none⟩)]) (by simp) rfl (by simp[Value.oneCell']) (fun j h1 h2=>by
   have:j=0:=by simp at h1;omega
   subst this
   exact hpt)
  have hw2:w2=w':=by
   have hrun2:=run_storeCells_cells (P:=yb9) (M.obj o).1 ((M.obj o).2+0) [.pointer (some ⟨(M.obj o).1,0,none⟩)] 0 w (fun j hj=>by
    have:j=0:=by simp at hj;omega
    subst this
    rw[q2]
    simp only[yc3,yaK]
    rw[s1];rfl) (fun j hj=>by
    have:j=0:=by simp at hj;omega
    subst this
    rw[q2]
    simpa using s2) (by simp[Value.oneCell'])
   rw[hrun2]at hrun
   cases hrun
   rw[hw,q2]
   rfl
  subst hw2
  refine⟨.ret (.tuple []),_,M,h _ ?_,.tuple _ _ rfl (fun j h=>absurd h (yaA _)),S',E'⟩
  simp[splice]
 ·have hc0:c0=.pointer (some ⟨(M.obj o).1,0,none⟩):=by
   simp only[yaz]at s3
   exact(znE s3).2.2.2
  subst hc0
  refine(zx9 _ w s1).mono fun e w' ⟨he,hw⟩=>?_
  subst he hw
  have e1:σ.setO o [.pt 88 2 o 0,u]=σ:=by
   unfold AS.setO
   have:upd σ.objs o (some [.pt 88 2 o 0,u])=σ.objs:=by
    funext x
    by_cases hx:x=o
    ·subst hx;simp[ho]
    ·simp[hx]
   rw[this]
  refine⟨.ret (.tuple []),σ,M,h _ e1.symm,.tuple _ _ rfl (fun j h=>absurd h (yaA _)),S,.refl ..⟩
end
theorem zER{P:Program}{G:Env}{f:FuncId}{args:List AV}{σ:AS}{R:Out→AS→Prop}{o i:Nat}{cs:List AV}{e:Nat}(ho:σ.objs o=some cs)(hi:cs[i]?=some .nilsl)(h:ACalls P G f args (σ.setO o (splice cs i [.tys e .nilsl])) R):ACalls P G f args σ R:=by
 intro M w cargs S g c
 have hil:i<cs.length:=(yaq.1 hi).1
 have hb:i+[AV.tys e .nilsl].length≤cs.length:=by simp only[yac,ybl];omega
 have S':Sim M (σ.setO o (splice cs i [.tys e .nilsl])) w:=by
  refine⟨S.no,S.nf,S.role,fun x cs' hx=>?_,fun x y hx hy hxy=>?_⟩
  ·by_cases hxo:x=o
   ·subst hxo
    simp only[AS.setO,ze]at hx
    cases hx
    obtain⟨a1,a2,a3⟩:=S.obj x cs ho
    refine⟨a1,a2,fun j hj=>?_⟩
    have hj':j<cs.length:=by rwa [zb2 hb]at hj
    obtain⟨u,h1,h2,h3⟩:=a3 j hj'
    refine⟨u,h1,h2,?_⟩
    have e1:=zb9 (cs:=cs) (vs:=[AV.tys e .nilsl]) (off:=i) (j:=j) hb
    rw[yau hj]at e1
    by_cases hji:j=i
    ·subst hji
     rw[if_pos (by simp)]at e1
     simp only[Nat.sub_self,yc4,yaR.injEq]at e1
     rw[e1]
     have e2:cs[j]=.nilsl:=by
      rw[yau hj']at hi
      exact yaR.inj hi
     rw[e2]at h3
     have e3:=zaS h3
     subst e3
     exact .tys e .nilsl _ h3 trivial
    ·rw[if_neg (by simp only[yac,ybl];omega),yau hj']at e1
     rw[yaR.inj e1]
     exact h3
   ·simp only[AS.setO]at hx
    rw[zf _ _ hxo]at hx
    exact S.obj x cs' hx
  ·have key:∀z,((σ.setO o (splice cs i [.tys e .nilsl])).objs z).isSome=true→(σ.objs z).isSome=true:=by
    intro z hz
    by_cases hzo:z=o
    ·subst hzo;rw[ho];rfl
    ·simp only[AS.setO]at hz;rwa [zf _ _ hzo]at hz
   exact S.inj x y (key x hx) (key y hy) hxy
 exact h M w cargs S' g c
theorem zK0:yb9.underlying 160=some (.pointer 5):=by kernel_rfl
theorem zES:yb9.cellsOf 5=1:=by kernel_rfl
def zv8(σ0 σ:AS)(v:AV)(bs:List UInt8):Prop:=(bs=[]∧v=.tys 5 .nilsl)∨∃g,v=.tys 5 (.sl (.fam g false) 1 (B bs))∧σ0.nf≤g∧g<σ.nf∧σ.F g=.alive∧bs≠[]
theorem zv8.one{σ0 σ v bs}(h:zv8 σ0 σ v bs):v.known=true∧v.one=true∧v.cells=[v]:=by
 rcases h with ⟨_,rfl⟩|⟨g,rfl,_⟩<;>simp
structure Pw(σ0:AS)(x:Nat)(bs:List UInt8)(τ:AS):Prop where
 x0:σ0.no≤x
 hx:x<τ.no
 ad:zh σ0 τ
 cells:∃hd v,τ.objs x=some [hd,v]∧zEQ x hd∧zv8 σ0 τ v bs
structure PwK(x:Nat)(τ τ':AS):Prop where
 no:τ.no≤τ'.no
 obj:∀o,o<τ.no→o≠x→τ'.objs o=τ.objs o
theorem PwK.refl(x τ):PwK x τ τ:=⟨yah _,fun _ _ _=>rfl⟩
theorem PwK.trans{x a b c}(h:PwK x a b)(k:PwK x b c):PwK x a c:=⟨yai h.no k.no,fun o h1 h2=>(k.obj o (yag h1 h.no) h2).trans (h.obj o h1 h2)⟩
theorem zh.pwk{x a b}(A:zh a b):PwK x a b:=⟨A.no,fun o h _=>A.obj o h⟩
theorem PwK.set{x a b cs}(h:PwK x a b):PwK x a (b.setO x cs):=⟨h.no,fun o h1 h2=>by
 simp[h2]
 exact h.obj o h1 h2⟩
theorem Pw.adds{σ0 x bs τ τ'}(h:Pw σ0 x bs τ)(A:zh τ τ'):Pw σ0 x bs τ':=by
 obtain⟨hd,v,h1,h2,h3⟩:=h.cells
 refine⟨h.x0,yag h.hx A.no,h.ad.trans A,hd,v,(A.obj x h.hx).trans h1,h2,?_⟩
 rcases h3 with h3|⟨g,q1,q2,q3,q4,q5⟩
 ·exact .inl h3
 ·exact .inr ⟨g,q1,q2,yag q3 A.nf,(A.fam g q3).trans q4,q5⟩
section
variable {G : Env} {σ : AS} {R : Out → AS → Prop}
theorem zJe{σ0 x bs}(h:Pw σ0 x bs σ)(hl:bs.length<2^60)(hR:R (.ret (.int .i64 (bs.length:Int))) σ):zzQ G 127 [.pt 88 2 x 0] σ R:=by
 obtain⟨hd,v,h1,h2,h3⟩:=h.cells
 refine zs3 rfl ?_
 rcases h3 with ⟨rfl,rfl⟩|⟨g,rfl,q2,q3,q4,q5⟩
 ·simp[zxp,h1]
  exact hR
 ·simp[zxp,h1]
  simpa [B]using hR
theorem zK1:elT yb9 32=some 5:=by kernel_rfl
theorem zv9{σ0 τ:AS}{v:AV}{bs w:List UInt8}{K:AV→AS→Prop}(hb:zv8 σ0 τ v bs)(A:zh σ0 τ)(hl:bs.length+w.length<2^46)
  (h:∀v' τ',zv8 σ0 τ' v' (bs++w)→τ'.objs=τ.objs→τ'.no=τ.no→zh σ0 τ'→K v' τ'):zcc (elT yb9 32) 1 1 v (B w) τ K:=by
 have An:=A.nf
 have Bl:(B w).length=w.length:=by simp[B]
 have Bb:(B bs).length=bs.length:=by simp[B]
 have Ba:B (bs++w)=B bs++B w:=by simp[B]
 rw[zK1]
 rcases hb with ⟨rfl,rfl⟩|⟨g,rfl,q2,q3,q4,q5⟩
 ·rw[zjL]
  refine⟨rfl,by rw[Bl];simp at hl;omega,fun e=>?_,fun e=>?_⟩
  ·have hw:w=[]:=by
    cases w with
    | nil=>rfl
    | cons c r=>simp[B]at e
   subst hw
   exact h _ _ (.inl ⟨rfl,rfl⟩) rfl rfl A
  ·have hw:w≠[]:=fun q=>e (by rw[q];rfl)
   exact h _ _ (.inr ⟨τ.nf,rfl,An,by simp,by simp,by simpa using hw⟩) (by simp) (by simp) A.newF
 ·rw[zjM]
  refine⟨rfl,rfl,by rw[Bl,Bb];omega,q4,?_⟩
  refine h _ _ (.inr ⟨τ.nf,by rw[Ba],An,by simp,by simp,by simp[q5]⟩) (by simp) (by simp) ?_
  exact⟨A.no,by simp;omega,fun o ho=>A.obj o ho,fun f hf=>by
   have h1:¬f=τ.nf:=by omega
   have h2:¬f=g:=by omega
   simp[h1,h2]
   exact A.fam f hf⟩
theorem Pw.head{σ0 x bs τ hd v}(h:Pw σ0 x bs τ)(h1:τ.objs x=some [hd,v])(h3:zv8 σ0 τ v bs):Pw σ0 x bs (τ.setO x [.pt 88 2 x 0,v]) :=
 ⟨h.x0,h.hx,h.ad.setO h.x0,_,v,by simp,.inr rfl,h3⟩
theorem zfu{σ0 x bs w}(h:Pw σ0 x bs σ)(hl:bs.length+w.length<2^46)(hR:∀σ' v,Pw σ0 x (bs++w) σ'→PwK x σ σ'→R (.ret v) σ'):zzQ G 129 [.pt 88 2 x 0,.str w] σ R:=by
 obtain⟨hd,v,h1,h2,h3⟩:=h.cells
 have v1:=h3.one
 refine zs5 rfl ?_
 simp[zBY]
 refine zh0 h1 h2 fun σ1 e1=>?_
 have hx1:σ1.objs x=some [.pt 88 2 x 0,v]:=by rw[e1];simp
 have hP1:Pw σ0 x bs σ1:=by rw[e1];exact h.head h1 h3
 have K1:PwK x σ σ1:=by rw[e1];exact(PwK.refl x σ).set
 have h31:zv8 σ0 σ1 v bs:=by rw[e1];exact h3
 simp[hx1,v1]
 refine zv9 h31 hP1.ad hl fun v' τ' b' o' n' A'=>?_
 have v1':=b'.one
 have hx2:τ'.objs x=some [.pt 88 2 x 0,v]:=by rw[o'];exact hx1
 have hlt:=hP1.hx
 simp[hx2,v1',splice]
 refine hR _ _ ⟨hP1.x0,by simp;omega,A'.setO hP1.x0,_,v',by simp,.inr rfl,?_⟩ (K1.trans (PwK.set ⟨by omega,fun o q1 q2=>by rw[o']⟩))
 exact b'
theorem znj{σ0 x bs}{c:UInt8}(h:Pw σ0 x bs σ)(hl:bs.length+1<2^46)(hR:∀σ' v,Pw σ0 x (bs++[c]) σ'→PwK x σ σ'→R (.ret v) σ'):zzQ G 128 [.pt 88 2 x 0,.int .u8 (c.toNat:Int)] σ R:=by
 obtain⟨hd,v,h1,h2,h3⟩:=h.cells
 have v1:=h3.one
 refine zs4 rfl ?_
 simp[zBX]
 refine zh0 h1 h2 fun σ1 e1=>?_
 have hx1:σ1.objs x=some [.pt 88 2 x 0,v]:=by rw[e1];simp
 have hP1:Pw σ0 x bs σ1:=by rw[e1];exact h.head h1 h3
 have K1:PwK x σ σ1:=by rw[e1];exact(PwK.refl x σ).set
 have h31:zv8 σ0 σ1 v bs:=by rw[e1];exact h3
 simp[hx1,v1]
 refine zv9 (w:=[c]) h31 hP1.ad hl fun v' τ' b' o' n' A'=>?_
 have v1':=b'.one
 have hx2:τ'.objs x=some [.pt 88 2 x 0,v]:=by rw[o'];exact hx1
 have hlt:=hP1.hx
 simp[hx2,v1',splice]
 refine hR _ _ ⟨hP1.x0,by simp;omega,A'.setO hP1.x0,_,v',by simp,.inr rfl,?_⟩ (K1.trans (PwK.set ⟨by omega,fun o q1 q2=>by rw[o']⟩))
 exact b'
theorem zuN{σ0 x bs}(h:Pw σ0 x bs σ)(hne:bs≠[])(hl:bs.length<2^46)(hR:∀σ',zh σ0 σ'→PwK x σ σ'→R (.ret (.str bs)) σ'):zzQ G 67 [.pt 88 2 x 0] σ R:=by
 obtain⟨hd,v,h1,h2,h3⟩:=h.cells
 refine zxk rfl ?_
 rcases h3 with ⟨rfl,rfl⟩|⟨g,rfl,q2,q3,q4,q5⟩
 ·exact absurd rfl hne
 ·simp[zJV,h1]
  refine⟨zK0,zES,q4,bs,rfl,rfl,hne,by omega,?_⟩
  simp
  have A:=h.ad
  refine hR _ ⟨A.no,A.nf,A.obj,fun f hf=>?_⟩ ⟨yah _,fun _ _ _=>rfl⟩
  have:¬f=g:=by omega
  simp[this]
  exact A.fam f hf
end
def zop(bs w:List UInt8):List UInt8:=if bs=[]then w else bs++32::w
def zfv(bs:List UInt8)(ws:List (List UInt8)):List UInt8:=ws.foldl zop bs
def spT(ts:List (List UInt8)):List UInt8:=ts.flatMap fun t=>32::t
theorem zi(a b:List (List UInt8)):spT (a++b)=spT a++spT b:=by simp[spT]
theorem zoq:∀ts,zu ts=spT ts++[10]
 | []=>rfl
 | t::r=>by
  have:=zoq r
  simp only[zu,this,spT,yaa,ycp,ycF]
theorem zrb{bs w:List UInt8}(h:bs≠[]):zop bs w=bs++32::w:=by unfold zop;rw[if_neg h]
theorem znk:∀(ws:List (List UInt8)) {bs:List UInt8},bs≠[]→zfv bs ws=bs++spT ws
 | [],bs,_=>by simp[zfv,spT]
 | w::r,bs,h=>by
  have e:zfv bs (w::r)=zfv (zop bs w) r:=rfl
  rw[e,zrb h,znk r (by simp)]
  simp[spT]
theorem zrc(bs w:List UInt8):bs.length≤(zop bs w).length∧w.length≤(zop bs w).length:=by
 unfold zop
 split
 ·rename_i h;subst h;simp
 ·simp only[yab,yac];omega
theorem zrd:∀(ws:List (List UInt8)) (bs:List UInt8),bs.length≤(zfv bs ws).length
 | [],bs=>yah _
 | w::r,bs=>yai (zrc bs w).1 (zrd r (zop bs w))
theorem zor(bs:List UInt8)(d r:List (List UInt8)):zfv bs (d++r)=zfv (zfv bs d) r:=by simp[zfv]
section
variable {G : Env} {σ : AS} {R : Out → AS → Prop}
def SyI(σ0:AS)(x:Nat)(bs:List UInt8)(ws:List (List UInt8))(σ:AS)(a:Nat→AV)(τ:AS):Prop:=∃(d r:List (List UInt8)),ws=d++r∧a 0=.pt 88 2 x 0∧a 6=.sl (.stat true) 1 (ws.map ycn)∧a 7=.int .i64 (ws.length:Int)∧a 8=.int .i64 (d.length:Int)∧Pw σ0 x (zfv bs d) τ∧PwK x σ τ
theorem zwa{σ0 x bs ws}(h:Pw σ0 x bs σ)(hw:ws.length<1000)(hl:(zfv bs ws).length<2^45)(hR:∀σ' v,Pw σ0 x (zfv bs ws) σ'→PwK x σ σ'→R (.ret v) σ'):zzQ G 63 [.pt 88 2 x 0,.sl (.stat true) 1 (ws.map ycn)] σ R:=by
 refine zxh rfl ?_
 simp[zJT]
 refine zas (SyI σ0 x bs ws σ) (MU 8 (ws.length+1)) ⟨[],ws,rfl,by simp,by simp,by simp,by simp,h,.refl ..⟩ fun a τ hI=>?_
 obtain⟨d,r,hdr,a0,a6,a7,a8,hP,hK⟩:=hI
 cases r with
 | nil =>
  have e:ws=d:=by simpa using hdr
  have e2:ws.length=d.length:=by rw[e]
  rw[e2]at a7
  simp[zmN,a0,a6,a7,a8]
  exact hR _ _ (by rw[e];exact hP) hK
 | cons t r =>
  have hlt:(d.length:Int)<(ws.length:Int):=by simp[hdr];omega
  have hi:ws[d.length]?=some t:=by simp[hdr]
  have w1:yb4 .i64 ((d.length:Int)+1)=((d.length+1:Nat):Int):=by rw[zc]<;>omega
  have e3:zfv bs ws=zfv (zop (zfv bs d) t) r:=by rw[hdr,zor];rfl
  have l1:(zop (zfv bs d) t).length≤(zfv bs ws).length:=by rw[e3];exact zrd _ _
  have l2:=zrc (zfv bs d) t
  have e4:zfv bs (d++[t])=zop (zfv bs d) t:=by rw[zor];rfl
  simp[zmN,a0,a6,a7,a8,hlt,hi]
  refine zJe hP (by omega) ?_
  by_cases hb:zfv bs d=[]
  ·have e5:zop (zfv bs d) t=t:=by unfold zop;rw[if_pos hb]
   rw[hb]at hP
   simp[hb,a0]
   refine zfu (w:=t) hP (by simp;omega) fun τ' v' P' K'=>?_
   simp[a0,a6,a7,a8,w1]
   refine⟨⟨d++[t],r,by simp[hdr],by simp[a0],by simp[a6],by simp[a7],by simp,?_,hK.trans K'⟩,?_⟩
   ·rw[e4,e5];simpa using P'
   ·simp[MU,a8];omega
  ·have hpos:(0:Int)<((zfv bs d).length:Int):=by have:=ybm.2 hb;omega
   have hposN:0<(zfv bs d).length:=by omega
   have e5:zop (zfv bs d) t=zfv bs d++32::t:=zrb hb
   rw[e5]at l1
   simp only[yab,yac]at l1
   simp[hpos,hposN,hb,a0]
   refine znj (c:=32) hP (by omega) fun τ1 v1 P1 K1=>?_
   simp[a0]
   refine zfu (w:=t) P1 (by simp;omega) fun τ' v' P' K'=>?_
   simp[a0,a6,a7,a8,w1]
   refine⟨⟨d++[t],r,by simp[hdr],by simp[a0],by simp[a6],by simp[a7],by simp,?_,(hK.trans K1).trans K'⟩,?_⟩
   ·rw[e4,e5];simpa using P'
   ·simp[MU,a8];omega
theorem zky{op:Int}(h:op=11∨op=12∨op=13)(hR:R (.ret (.str (zbp op))) σ):zzQ G 132 [.int .i64 op] σ R:=by
 refine zs8 rfl ?_
 rcases h with rfl|rfl|rfl
 ·simp[zs7]
  exact hR
 ·simp[zs7]
  exact hR
 ·simp[zs7]
  exact hR
theorem zre{n:Int}{a b:List UInt8}(h:n=1∨n=4∨n=8)(hR:R (.ret (.str (if n=1 then a else b))) σ):zzQ G 177 [.int .i64 n,.str a,.str b] σ R:=by
 refine ztw rfl ?_
 rcases h with rfl|rfl|rfl
 ·simp[ztv]
  simpa using hR
 ·simp[ztv]
  simpa using hR
 ·simp[ztv]
  simpa using hR
theorem zh1(t:Int):(zD t).length=3:=by unfold zD;split<;>rfl
theorem zl1{t:Int}(h:zT t=true):t=1∨t=2:=by simpa [zT]using h
theorem zuO{t n:Int}(h:zfe t n=true):(t=1∨t=2)∧(n=1∨n=4∨n=8):=by
 unfold zfe at h
 simp at h
 omega
theorem znl{w:W}(h:zR w=true):1≤w.op∧w.op≤18∧(w.op=1∨w.op=4∨w.op=5∨w.op=8∨w.op=9→w.ty=1∨w.ty=2)∧(w.op=8∨w.op=9→w.n=1∨w.n=4∨w.n=8)∧(w.op=4→zbf signs w.name≠[]):=by
 unfold zR at h
 split at h
 ·rename_i h1
  have:=zl1 h
  refine⟨by omega,by omega,fun _=>this,fun _=>by omega,fun _=>by omega⟩
 ·split at h
  ·rename_i h1 h2
   simp only[Bool.and_eq_true]at h
   have:=zl1 h.1
   refine⟨by omega,by omega,fun _=>this,fun _=>by omega,fun _=>?_⟩
   simpa using h.2
  ·split at h
   ·rename_i h1 h2 h3
    have:=zuO h
    exact⟨by omega,by omega,fun _=>this.1,fun _=>this.2,fun _=>by omega⟩
   ·simp at h
    refine⟨by omega,by omega,fun _=>by omega,fun _=>by omega,fun _=>by omega⟩
theorem zrf{w:W}(hf:zR w=true)(hn:zbJ w=false)(h:∀σ',zh σ σ'→R (.ret (.str (zF w))) σ'):zzQ G 133 [w.av] σ R:=by
 refine zs9 rfl ?_
 obtain⟨f1,f2,f3,f4,f5⟩:=znl hf
 have A1:zh σ (σ.newO w.cs):=(zh.refl σ).newO
 have hn':w.op≠11∧w.op≠12∧w.op≠13:=by simpa [zbJ,and_assoc]using hn
 have hc:w.op=1∨w.op=2∨w.op=3∨w.op=4∨w.op=5∨w.op=6∨w.op=7∨w.op=8∨w.op=9∨w.op=10∨w.op=14∨w.op=15∨w.op=16∨w.op=17∨w.op=18:=by omega
 have tl:=zh1 w.ty
 have key:∀t,zF w=t→R (.ret (.str t)) (σ.newO w.cs):=fun t e=>e▸h _ A1
 rcases hc with e|e|e|e|e|e|e|e|e|e|e|e|e|e|e
 ·simp[zel,W.av,W.cs,e]
  refine zeU (f3 (by omega)) ?_
  simp[tl]
  have:=key _ (by unfold zF;rw[if_pos e])
  simpa [W.cs,e]using this
 ·have:=key [108,111,99,97,108,46,103,101,116] (by simp[zF,e])
  simp[zel,W.av,W.cs,e]
  simpa [W.cs,e]using this
 ·have:=key [108,111,99,97,108,46,115,101,116] (by simp[zF,e])
  simp[zel,W.av,W.cs,e]
  simpa [W.cs,e]using this
 ·have:=key (zD w.ty++46::w.name) (by simp[zF,e])
  have hl:=zfS w.name (f5 e)
  simp[zel,W.av,W.cs,e]
  refine zeU (f3 (by omega)) ?_
  simp[tl]
  refine⟨by omega,?_⟩
  simpa [W.cs,e]using this
 ·have:=key (zD w.ty++[46,101,113,122]) (by simp[zF,e])
  simp[zel,W.av,W.cs,e]
  refine zeU (f3 (by omega)) ?_
  simp[tl]
  simpa [W.cs,e]using this
 ·have:=key [105,51,50,46,119,114,97,112,95,105,54,52] (by simp[zF,e])
  simp[zel,W.av,W.cs,e]
  simpa [W.cs,e]using this
 ·have:=key [105,54,52,46,101,120,116,101,110,100,95,105,51,50,95,115] (by simp[zF,e])
  simp[zel,W.av,W.cs,e]
  simpa [W.cs,e]using this
 ·have:=key (zD w.ty++(if w.n=1 then [46,108,111,97,100,56,95,115]else [46,108,111,97,100])) (by simp[zF,e])
  simp[zel,W.av,W.cs,e]
  refine zeU (f3 (by omega)) ?_
  simp
  refine zre (f4 (by omega)) ?_
  have ln:(if w.n=1 then [46,108,111,97,100,56,95,115]else([46,108,111,97,100]:List UInt8)).length≤8:=by split<;>decide
  simp[tl]
  refine⟨by omega,?_⟩
  simpa [W.cs,e]using this
 ·have:=key (zD w.ty++(if w.n=1 then [46,115,116,111,114,101,56]else [46,115,116,111,114,101])) (by simp[zF,e])
  simp[zel,W.av,W.cs,e]
  refine zeU (f3 (by omega)) ?_
  simp
  refine zre (f4 (by omega)) ?_
  have ln:(if w.n=1 then [46,115,116,111,114,101,56]else([46,115,116,111,114,101]:List UInt8)).length≤8:=by split<;>decide
  simp[tl]
  refine⟨by omega,?_⟩
  simpa [W.cs,e]using this
 ·have:=key [99,97,108,108] (by simp[zF,e])
  simp[zel,W.av,W.cs,e]
  simpa [W.cs,e]using this
 ·have:=key [98,114] (by simp[zF,e])
  simp[zel,W.av,W.cs,e]
  simpa [W.cs,e]using this
 ·have:=key [98,114,95,105,102] (by simp[zF,e])
  simp[zel,W.av,W.cs,e]
  simpa [W.cs,e]using this
 ·have:=key [114,101,116,117,114,110] (by simp[zF,e])
  simp[zel,W.av,W.cs,e]
  simpa [W.cs,e]using this
 ·have:=key [117,110,114,101,97,99,104,97,98,108,101] (by simp[zF,e])
  simp[zel,W.av,W.cs,e]
  simpa [W.cs,e]using this
 ·have:=key [100,114,111,112] (by simp[zF,e])
  simp[zel,W.av,W.cs,e]
  simpa [W.cs,e]using this
end
theorem zrg{w:W}(hf:zR w=true)(hn:zbJ w=false):(zM zdK (zF w)).isSome=zaD w:=by
 obtain⟨f1,f2,f3,f4,f5⟩:=znl hf
 have hn':w.op≠11∧w.op≠12∧w.op≠13:=by simpa [zbJ,and_assoc]using hn
 have hc:w.op=1∨w.op=2∨w.op=3∨w.op=4∨w.op=5∨w.op=6∨w.op=7∨w.op=8∨w.op=9∨w.op=10∨w.op=14∨w.op=15∨w.op=16∨w.op=17∨w.op=18:=by omega
 have key:∀t b,zF w=t→zaD w=b→(zM zdK t).isSome=b→(zM zdK (zF w)).isSome=zaD w:=fun t b e1 e2 e3=>by rw[e1,e2,e3]
 rcases hc with e|e|e|e|e|e|e|e|e|e|e|e|e|e|e
 ·rcases f3 (by omega)with t|t
  ·exact key [105,51,50,46,99,111,110,115,116] true (by simp[zF,e,t,zD,zAw]) (by simp[zaD,e]) (by decide)
  ·exact key [105,54,52,46,99,111,110,115,116] true (by simp[zF,e,t,zD,zAx]) (by simp[zaD,e]) (by decide)
 ·exact key [108,111,99,97,108,46,103,101,116] true (by simp[zF,e]) (by simp[zaD,e]) (by decide)
 ·exact key [108,111,99,97,108,46,115,101,116] true (by simp[zF,e]) (by simp[zaD,e]) (by decide)
 ·have ht:=f3 (by omega)
  have:=(zof w.name (zfU (f5 e)) w.ty (by simpa using ht)).2.1
  exact key (zD w.ty++46::w.name) false (by simp[zF,e]) (by simp[zaD,e]) (by rw[this];rfl)
 ·rcases f3 (by omega)with t|t
  ·exact key [105,51,50,46,101,113,122] false (by simp[zF,e,t,zD,zAw]) (by simp[zaD,e]) (by decide)
  ·exact key [105,54,52,46,101,113,122] false (by simp[zF,e,t,zD,zAx]) (by simp[zaD,e]) (by decide)
 ·exact key [105,51,50,46,119,114,97,112,95,105,54,52] false (by simp[zF,e]) (by simp[zaD,e]) (by decide)
 ·exact key [105,54,52,46,101,120,116,101,110,100,95,105,51,50,95,115] false (by simp[zF,e]) (by simp[zaD,e]) (by decide)
 ·have k:∀t n:Int,(t=1∨t=2)→(n=1∨¬n=1)→(zM zdK (zD t++(if n=1 then [46,108,111,97,100,56,95,115]else [46,108,111,97,100]))).isSome=false:=by
   intro t n ht hn
   rcases ht with rfl|rfl<;>rcases hn with rfl|hn
   ·decide
   ·rw[if_neg hn];decide
   ·decide
   ·rw[if_neg hn];decide
  exact key _ false (by simp only[zF,e];rfl) (by simp[zaD,e]) (k w.ty w.n (f3 (by omega)) (by omega))
 ·have k:∀t n:Int,(t=1∨t=2)→(n=1∨¬n=1)→(zM zdK (zD t++(if n=1 then [46,115,116,111,114,101,56]else [46,115,116,111,114,101]))).isSome=false:=by
   intro t n ht hn
   rcases ht with rfl|rfl<;>rcases hn with rfl|hn
   ·decide
   ·rw[if_neg hn];decide
   ·decide
   ·rw[if_neg hn];decide
  exact key _ false (by simp only[zF,e];rfl) (by simp[zaD,e]) (k w.ty w.n (f3 (by omega)) (by omega))
 ·exact key [99,97,108,108] true (by simp[zF,e]) (by simp[zaD,e]) (by decide)
 ·exact key [98,114] true (by simp[zF,e]) (by simp[zaD,e]) (by decide)
 ·exact key [98,114,95,105,102] true (by simp[zF,e]) (by simp[zaD,e]) (by decide)
 ·exact key [114,101,116,117,114,110] false (by simp[zF,e]) (by simp[zaD,e]) (by decide)
 ·exact key [117,110,114,101,97,99,104,97,98,108,101] false (by simp[zF,e]) (by simp[zaD,e]) (by decide)
 ·exact key [100,114,111,112] false (by simp[zF,e]) (by simp[zaD,e]) (by decide)
theorem zh2(l:List Int):(spT (l.map zD)).length=4*l.length:=by
 induction l with
 | nil=>rfl
 | cons t r ih=>simp only[yaL,spT,yaa,yab,yac,zh1]at *;omega
section
variable {G : Env} {σ : AS} {R : Out → AS → Prop}
theorem zay{σ0 x bs ws}(h:Pw σ0 x bs σ)(hb:bs≠[])(hw:ws.length<1000)(hl:(bs++spT ws).length<2^45)(hR:∀σ' v,Pw σ0 x (bs++spT ws) σ'→PwK x σ σ'→R (.ret v) σ'):zzQ G 63 [.pt 88 2 x 0,.sl (.stat true) 1 (ws.map ycn)] σ R:=by
 have e:=znk ws hb
 exact zwa h hw (by rw[e];exact hl) (by rw[e];exact hR)
def TpI(σ0:AS)(x:Nat)(bs:List UInt8)(kw:List UInt8)(v:AV)(l:List Int)(σ:AS)(a:Nat→AV)(τ:AS):Prop:=∃(d r:List Int),l=d++r∧a 0=.pt 88 2 x 0∧a 15=v∧a 16=.int .i64 (l.length:Int)∧a 17=.int .i64 (d.length:Int)∧Pw σ0 x (bs++spT (zA::kw::d.map zD)) τ∧PwK x σ τ
theorem zgW{σ0 x bs kw l v}(h:Pw σ0 x bs σ)(hb:bs≠[])(hv:Al.IntsO σ0 v l)(ht:∀t∈l,t=1∨t=2)(hl:(bs++spT (zK kw l)).length<2^45)(hR:∀σ' u,Pw σ0 x (bs++spT (zK kw l)) σ'→PwK x σ σ'→R (.ret u) σ'):zzQ G 65 [.pt 88 2 x 0,.str kw,v] σ R:=by
 refine zxi rfl ?_
 have v1:=hv.one
 have vl:=hv.len
 by_cases h0:l=[]
 ·subst h0
  have e:bs++spT (zK kw [])=bs:=by simp[zK,spT]
  rw[e]at hR
  simp[zIn,vl]
  exact hR _ _ h (.refl ..)
 ·have hne:¬(l.length:Int)=0:=by have:=ybm.2 h0;omega
  have hneN:¬l.length=0:=by omega
  have e:zK kw l=zA::kw::(l.map zD++[zg]):=by unfold zK;rw[if_neg h0]
  have e2:spT (zK kw l)=spT (zA::kw::l.map zD)++spT [zg]:=by rw[e,←zi];rfl
  rw[e2]at hl hR
  simp only[yab]at hl
  have e3:spT (zA::kw::l.map zD)=spT [zA,kw]++spT (l.map zD):=by rw[←zi];rfl
  have hl3:=congrArg ycd e3
  simp only[yab]at hl3
  have hlt:=zh2 l
  simp[zIn,vl,hne,hneN,h0]
  refine zay (ws:=[zA,kw]) h hb (by simp) (by rw[yab];omega) fun σ1 u1 P1 K1=>?_
  simp[vl]
  refine zas (TpI σ0 x bs kw v l σ) (MU 17 (l.length+1)) ⟨[],l,rfl,by simp,by simp,by simp,by simp,P1,K1⟩ fun a τ hI=>?_
  obtain⟨d,r,hdr,a0,a15,a16,a17,hP,hK⟩:=hI
  have hvt:=hv.keep hP.ad
  cases r with
  | nil =>
   have e5:l=d:=by simpa using hdr
   have e6:l.length=d.length:=by rw[e5]
   rw[e6]at a16
   simp[zmO,a0,a15,a16,a17,zqt]
   refine zay (ws:=[zg]) hP (by simp[hb]) (by simp) (by rw[←e5,yab,yab];omega) fun σ2 u2 P2 K2=>?_
   simp
   refine hR _ _ ?_ (hK.trans K2)
   rw[←e5,ycF]at P2
   exact P2
  | cons t r =>
   have hlt2:d.length<l.length:=by simp[hdr]
   obtain⟨φ,hr,hat⟩:=hvt.at hlt2
   have hr':=hr.read
   have hlt3:(d.length:Int)<(l.length:Int):=by omega
   have hi:l[d.length]=t:=by simp[hdr]
   rw[hi]at hat
   have w1:yb4 .i64 ((d.length:Int)+1)=((d.length+1:Nat):Int):=by rw[zc]<;>omega
   have htt:=ht t (by rw[hdr];simp)
   have e7:bs++spT (zA::kw::d.map zD)++spT [zD t]=bs++spT (zA::kw::(d++[t]).map zD):=by
    rw[ycF,←zi];simp
   have e8:spT (zA::kw::(d++[t]).map zD)=spT [zA,kw]++spT ((d++[t]).map zD):=by rw[←zi];rfl
   have l8:=congrArg ycd e8
   simp only[yab]at l8
   have l9:=zh2 (d++[t])
   have l10:(d++[t]).length≤l.length:=by simp;omega
   simp[zmO,a0,a15,a16,a17,hlt2,hlt3,hat,hr',htt]
   refine zeU htt ?_
   simp
   refine zay (ws:=[zD t]) hP (by simp[hb]) (by simp) (by rw[e7,yab];omega) fun σ2 u2 P2 K2=>?_
   simp[a0,a15,a16,a17,w1]
   rw[e7]at P2
   refine⟨⟨d++[t],r,by simp[hdr],by simp[a0],by simp[a15],by simp[a16],by simp,P2,hK.trans K2⟩,?_⟩
   simp[MU,a17];omega
end
theorem zcQ(c:Prop)[Decidable c](x y:List UInt8)(h1:x.length≤24)(h2:y.length≤24):(if c then x else y).length≤24:=by split<;>assumption
theorem zrh{w:W}(hf:zR w=true)(hn:zbJ w=false):(zF w).length≤24:=by
 obtain⟨f1,f2,f3,f4,f5⟩:=znl hf
 have tl:=zh1 w.ty
 by_cases e4:w.op=4
 ·have hs:=zfS w.name (f5 e4)
  have e:zF w=zD w.ty++46::w.name:=by simp[zF,e4]
  rw[e]
  simp only[yab,yac,tl]
  omega
 ·unfold zF
  rw[if_neg e4]
  have a:∀x:List UInt8,x.length≤21→(zD w.ty++x).length≤24:=fun x hx=>by rw[yab,tl];omega
  refine zcQ _ _ _ (a _ (by decide)) (zcQ _ _ _ (by decide) (zcQ _ _ _ (by decide) (zcQ _ _ _ (by decide) (zcQ _ _ _ (by decide) (zcQ _ _ _ (by decide) (zcQ _ _ _ (a _ (by decide)) (zcQ _ _ _ (by decide) (zcQ _ _ _ (by decide) (zcQ _ _ _ (a _ ?_) (zcQ _ _ _ (a _ ?_) (zcQ _ _ _ (by decide) (zcQ _ _ _ (by decide) (by decide)))))))))))))
  ·split<;>decide
  ·split<;>decide
theorem zri{w:W}(hf:zR w=true)(hn:zbJ w=false)(hr:RgW w):(spT (zcL w)).length≤64:=by
 have h1:=zrh hf hn
 have h2:=Lib.itoa_length_le w.n (by have:=hr.1;omega) (by have:=hr.2;omega)
 unfold zcL
 split
 ·simp[spT];omega
 ·simp[spT];omega
theorem zET{ls:To}{d:Nat}{ws:List W}{acc acc':To}{toks:List Tok}{out:List W}(h:Pr ls d ws acc toks out acc'):(spT toks).length+64*zeS acc≤64*(out.length+zeS acc'):=by
 induction h with
 | nil=>simp[spT]
 | leaf h1 h2 h3 _ ih =>
  have:=zri h2 h1 h3
  rw[zi,yab,yac]
  omega
 | @one d w b r acc tb b' acc1 t r' acc' _ _ _ _ _ _ ih1 ih2 =>
  have hol:(zbp w.op).length≤5:=by unfold zbp;split<;>(try split)<;>decide
  have e1:zbp w.op::(tb++zc4::t)=[zbp w.op]++(tb++([zc4]++t)):=rfl
  have e2:(spT [zbp w.op]).length=(zbp w.op).length+1:=by simp[spT]
  have e3:(spT [zc4]).length=4:=rfl
  rw[e1,zi,zi,zi]
  rw[zcN]at ih2
  simp only[yab,yac]
  omega
 | @two d w b e r acc tb b' acc1 te e' acc2 t r' acc' _ _ _ _ _ _ _ _ _ ih1 ih2 ih3 =>
  have e1:tIf::(tb++zce::(te++zc4::t))=[tIf]++(tb++([zce]++(te++([zc4]++t)))):=rfl
  have e2:(spT [tIf]).length=3:=rfl
  have e3:(spT [zc4]).length=4:=rfl
  have e4:(spT [zce]).length=5:=rfl
  rw[e1,zi,zi,zi,zi,zi]
  rw[zcN]at ih2 ih3
  simp only[yab,yac]
  omega
theorem zje(kw:Tok)(l:List Int)(h:kw.length≤6):(spT (zK kw l)).length≤4*l.length+12:=by
 unfold zK
 split
 ·simp[spT]
 ·have e:zA::kw::(l.map zD++[zg])=[zA]++([kw]++(l.map zD++[zg])):=rfl
  have e1:(spT [zA]).length=2:=rfl
  have e2:(spT [zg]).length=2:=rfl
  have e3:(spT [kw]).length=kw.length+1:=by simp[spT]
  rw[e,zi,zi,zi]
  simp only[yab,zh2]
  omega
theorem zN(t:List UInt8):(spT [t]).length=t.length+1:=by simp[spT]
section
variable {G : Env} {σ : AS} {R : Out → AS → Prop}
def zHx(G:Env)(σ0:AS)(x:Nat)(ls:To)(d:Nat):Prop:=∀(σ:AS) (R:Out→AS→Prop) (fv:AV) (f:F) (i:Int) (ws:List W) (toks:List Tok) (acc:To) (out:List W) (acc':To) (bs:List UInt8),f.lists=ls→Al.FVO σ0 fv f→Pw σ0 x bs σ→bs≠[]→0≤i→ls[i.toNat]?=some ws→Pr ls d ws acc toks out acc'→(bs++spT toks).length<2^45 →
 (∀σ' u,Pw σ0 x (bs++spT toks) σ'→PwK x σ σ'→R (.ret u) σ')→zzQ G 66 [.pt 88 2 x 0,fv,.int .i64 i] σ R
def LqI(σ0:AS)(x:Nat)(ls:To)(d:Nat)(fc:List AV)(o:Nat)(rv:AV)(ws:List W)(toks:List Tok)(acc':To)(bs:List UInt8)(σ:AS)(a:Nat→AV)(τ:AS):Prop:=∃(j:Nat) (t1 t2:List Tok) (acc1:To) (out1:List W),j≤ws.length∧toks=t1++t2∧Pr ls d (ws.drop j) acc1 t2 out1 acc' ∧
 a 0=.pt 88 2 x 0∧a 4=.ptr o 0∧a 14=rv∧a 15=.int .i64 (ws.length:Int)∧a 16=.int .i64 (j:Int)∧Pw σ0 x (bs++spT t1) τ∧PwK x σ τ∧τ.objs o=some fc∧o<τ.no∧o≠x
theorem znm(V:zb6 G){σ0 x ls d}(IH:d<400→zHx G σ0 x ls (d+1)){f:F}{pv lv tv rv:AV}{ws:List W}{toks:List Tok}{acc':To}{bs:List UInt8}{o:Nat}(hls:f.lists=ls)(hf:Al.FVO σ0 (.agg [.str f.name,pv,lv,.int .i64 f.type,tv]) f)(h1:pv.known=true∧pv.one=true∧pv.cells=[pv])(h2:lv.known=true∧lv.one=true∧lv.cells=[lv])(h3:tv.known=true∧tv.one=true∧tv.cells=[tv])
  (hrv:Al.RepO σ0 rv ws) (hwl:ws.length≤2^40) (hb:bs≠[]) (hl:(bs++spT toks).length<2^45) (hR:∀σ' u,Pw σ0 x (bs++spT toks) σ'→PwK x σ σ'→R (.ret u) σ') {a:Nat→AV} {τ:AS} (hI:LqI σ0 x ls d [.str f.name,pv,lv,.int .i64 f.type,tv] o rv ws toks acc' bs σ a τ) :
  avc yb9 G 75 zdG (zbd (fun a' σ'=>LqI σ0 x ls d [.str f.name,pv,lv,.int .i64 f.type,tv] o rv ws toks acc' bs σ a' σ'∧MU 16 (ws.length+1) a' σ'<MU 16 (ws.length+1) a τ) (za2 0 (ze9 yb9 [] R))) a τ:=by
 obtain⟨j,t1,t2,acc1,out1,hj,ht,hpr,a0,a4,a14,a15,a16,hP,hK,ho,hon,hox⟩:=hI
 by_cases hlt:j<ws.length
 ·have hdrop:ws.drop j=ws[j]::ws.drop (j+1):=ycq hlt
  have hrt:=hrv.keep hP.ad
  obtain⟨φ,hr,hat⟩:=RepO.at hrt hlt
  have hr':=hr.read
  have hlti:(j:Int)<(ws.length:Int):=by omega
  have w1:yb4 .i64 ((j:Int)+1)=((j+1:Nat):Int):=by rw[zc]<;>omega
  rw[hdrop]at hpr
  generalize hw:ws[j]=w at *
  have A1:zh τ ((τ.newO zb8.cs).setO τ.no w.cs):=(zh.refl τ).newO.setO (yah _)
  have hP1:=hP.adds A1
  have K1:=hK.trans A1.pwk
  have o1:((τ.newO zb8.cs).setO τ.no w.cs).objs τ.no=some w.cs:=by simp
  have ho1:=(A1.obj o hon).trans ho
  have n1:((τ.newO zb8.cs).setO τ.no w.cs).no=τ.no+1:=by simp
  have hx:=hP.hx
  have hqx:τ.no≠x:=by omega
  have hbt:bs++spT t1≠[]:=by simp[hb]
  have hlt1:(bs++spT toks).length=bs.length+(spT t1).length+(spT t2).length:=by rw[ht,zi];simp only[yab];omega
  simp only[W.cs,zb8]at A1 o1 hP1 K1 ho1 n1
  have fin:∀(a':Nat→AV) (τ':AS) (t2a t2b:List Tok) (acc2 out2),t2=t2a++t2b→Pr ls d (ws.drop (j+1)) acc2 t2b out2 acc'→Pw σ0 x (bs++spT t1++spT t2a) τ'→PwK x σ τ'→τ'.objs o=some [.str f.name,pv,lv,.int .i64 f.type,tv]→o<τ'.no→a' 0=.pt 88 2 x 0→a' 4=.ptr o 0→a' 14=rv→a' 15=.int .i64 (ws.length:Int)→a' 16=.int .i64 ((j+1:Nat):Int) →
    LqI σ0 x ls d [.str f.name,pv,lv,.int .i64 f.type,tv] o rv ws toks acc' bs σ a' τ'∧MU 16 (ws.length+1) a' τ'<MU 16 (ws.length+1) a τ:=by
   intro a' τ' t2a t2b acc2 out2 q1 q2 q3 q4 q5 q6 q7 q8 q9 q10 q11
   refine⟨⟨j+1,t1++t2a,t2b,acc2,out2,hlt,by rw[ht,q1,ycF],q2,q7,q8,q9,q10,q11,?_,q4,q5,q6,hox⟩,?_⟩
   ·rw[zi,←ycF];exact q3
   ·simp[MU,a16,q11];omega
  cases hpr with
  | @leaf _ _ _ _ t r' _ hn hform hrg hpr' =>
   have hn':¬w.op=11∧¬w.op=12∧¬w.op=13:=by simpa [zbJ,and_assoc]using hn
   simp[zdG,a0,a4,a14,a15,a16,hlt,hlti,hat,hr',W.av,W.cs,splice,hn']
   generalize (τ.newO [yco .i64 0,yco .i64 0,yco .i64 0,yco .i64 0,yco .i64 0,ycn []]).setO τ.no [yco .i64 w.op,yco .i64 w.ty,yco .i64 w.n,yco .i64 w.body,yco .i64 w.other,ycn w.name]=τ1 at *
   have hsp:(spT (zcL w++t)).length=(spT (zcL w)).length+(spT t).length:=by rw[zi,yab]
   refine zrf hform hn fun τ2 A2=>?_
   have n2:=A2.no
   have lw:(zF w).length+1≤(spT (zcL w)).length:=by
    unfold zcL
    split
    ·simp[spT]
    ·simp[spT]
   simp[a0]
   refine zay (ws:=[zF w]) (hP1.adds A2) hbt (by simp) (by rw[yab,yab,zN];omega) fun τ3 u3 P3 K3=>?_
   have n3:=K3.no
   have q3:=(K3.obj τ.no (by omega) hqx).trans ((A2.obj τ.no (by omega)).trans o1)
   have r3:=(K3.obj o (by omega) hox).trans ((A2.obj o (by omega)).trans ho1)
   have K13:=(K1.trans A2.pwk).trans K3
   simp[q3]
   refine zrf hform hn fun τ4 A4=>?_
   simp
   refine zjb fun τ5 A5=>?_
   have A45:=A4.trans A5
   have n5:=A45.no
   have q5:=(A45.obj τ.no (by omega)).trans q3
   have r5:=(A45.obj o (by omega)).trans r3
   have P5:=P3.adds A45
   have K15:=K13.trans A45.pwk
   have hnum:=zrg hform hn
   cases hfd:zM zdK (zF w)with
   | none =>
    rw[hfd]at hnum
    have hnum':zaD w=false:=hnum.symm
    have e1:zcL w=[zF w]:=by unfold zcL;rw[hnum'];rfl
    have A6:zh τ5 ((τ5.newO [yco .i64 0,yco .i64 0,yco .i64 0,yco .i64 0,yco .i64 0,ycn []]).setO τ5.no [yco .i64 0,yco .i64 0,yco .i64 0,yco .i64 0,yco .i64 0,ycn []]):=(zh.refl τ5).newO.setO (yah _)
    simp[W.av,W.cs,zb8,splice,a0,a4,a14,a15,a16,w1]
    refine fin _ _ [zF w] t acc1 r' (by rw[e1]) hpr' (P5.adds A6) (K15.trans A6.pwk) ((A6.obj o (by omega)).trans r5) (by simp;omega) (by simp[a0]) (by simp[a4]) (by simp[a14]) (by simp[a15]) (by simp)
   | some w' =>
    rw[hfd]at hnum
    have hnum':zaD w=true:=hnum.symm
    have e1:zcL w=[zF w,Lib.itoa w.n]:=by unfold zcL;rw[hnum'];rfl
    have A6:zh τ5 ((τ5.newO [yco .i64 0,yco .i64 0,yco .i64 0,yco .i64 0,yco .i64 0,ycn []]).setO τ5.no w'.cs):=(zh.refl τ5).newO.setO (yah _)
    have P6:=P5.adds A6
    have K16:=K15.trans A6.pwk
    have q6:=(A6.obj τ.no (by omega)).trans q5
    have r6:=(A6.obj o (by omega)).trans r5
    have n6:=A6.no
    have hqn:¬τ.no=τ5.no:=by omega
    simp only[W.cs]at A6 P6 K16 q6 r6 n6
    simp[W.av,W.cs,splice,a0,q5,hqn]
    generalize (τ5.newO [yco .i64 0,yco .i64 0,yco .i64 0,yco .i64 0,yco .i64 0,ycn []]).setO τ5.no [yco .i64 w'.op,yco .i64 w'.ty,yco .i64 w'.n,yco .i64 w'.body,yco .i64 w'.other,ycn w'.name]=τ6 at *
    refine zef V hrg ?_
    simp
    have l2:(spT (zcL w)).length=(zF w).length+1+((Lib.itoa w.n).length+1):=by rw[e1];simp[spT];omega
    refine zay (ws:=[Lib.itoa w.n]) P6 (by simp[hb]) (by simp) (by rw[yab,yab,yab,zN,zN];omega) fun τ7 u7 P7 K7=>?_
    have n7:=K7.no
    simp[a0,a4,a14,a15,a16,w1]
    refine fin _ _ [zF w,Lib.itoa w.n] t acc1 r' (by rw[e1]) hpr' ?_ (K16.trans K7) ((K7.obj o (by omega) hox).trans r6) (by omega) (by simp[a0]) (by simp[a4]) (by simp[a14]) (by simp[a15]) (by simp)
    have e2:spT [zF w,Lib.itoa w.n]=spT [zF w]++spT [Lib.itoa w.n]:=by rw[←zi];rfl
    rw[e2,←ycF]
    exact P7
  | @one _ _ b _ _ tb b' acc2 t r' _ hop hd hb0 hbs hpb hpr' =>
   have hnest:w.op=11∨w.op=12∨w.op=13:=by omega
   have hcond:¬(w.op=13∧0≤w.other):=by omega
   have hol:(zbp w.op).length≤5:=by unfold zbp;split<;>(try split)<;>decide
   have hsp:(spT (zbp w.op::(tb++zc4::t))).length=(zbp w.op).length+1+((spT tb).length+(4+(spT t).length)):=by
    have e1:zbp w.op::(tb++zc4::t)=[zbp w.op]++(tb++([zc4]++t)):=rfl
    rw[e1,zi,zi,zi]
    simp only[yab,zN]
    rfl
   rcases hnest with e|e|e
   ·obtain⟨op,ty,n,body,other,name⟩:=w
    dsimp only at *
    subst e
    have wb:((body.toNat:Nat):Int)=body:=by omega
    simp[zdG,a0,a4,a14,a15,a16,hlt,hlti,hat,hr',W.av,W.cs,splice]
    generalize (τ.newO [yco .i64 0,yco .i64 0,yco .i64 0,yco .i64 0,yco .i64 0,ycn []]).setO τ.no [yco .i64 11,yco .i64 ty,yco .i64 n,yco .i64 body,yco .i64 other,ycn name]=τ1 at *
    refine zky (by omega) ?_
    simp
    refine zay (ws:=[zbp 11]) hP1 hbt (by simp) (by rw[yab,yab,zN];omega) fun τ2 u2 P2 K2=>?_
    have n2:=K2.no
    have q2:=(K2.obj τ.no (by omega) hqx).trans o1
    have r2:=(K2.obj o (by omega) hox).trans ho1
    simp[a0,a4,q2,r2]
    refine IH hd τ2 _ _ f body b tb _ _ _ _ hls hf P2 (by simp[hb]) hb0 hbs hpb (by rw[yab,yab,yab,zN];omega) fun τ3 u3 P3 K3=>?_
    have n3:=K3.no
    have q3:=(K3.obj τ.no (by omega) hqx).trans q2
    have r3:=(K3.obj o (by omega) hox).trans r2
    simp[a0,q3]
    refine zay (ws:=[zc4]) P3 (by simp[hb]) (by simp) (by rw[yab,yab,yab,yab,zN,zN];have:zc4.length=3:=rfl;omega) fun τ4 u4 P4 K4=>?_
    have n4:=K4.no
    simp[a0,a4,a14,a15,a16,w1]
    refine fin _ _ ([zbp 11]++tb++[zc4]) t (acc2++[b']) r' (by simp) hpr' ?_ (((K1.trans K2).trans K3).trans K4) ((K4.obj o (by omega) hox).trans r3) (by omega) (by simp[a0]) (by simp[a4]) (by simp[a14]) (by simp[a15]) (by simp)
    rw[zi,zi]
    simpa [ycF]using P4
   ·obtain⟨op,ty,n,body,other,name⟩:=w
    dsimp only at *
    subst e
    have wb:((body.toNat:Nat):Int)=body:=by omega
    simp[zdG,a0,a4,a14,a15,a16,hlt,hlti,hat,hr',W.av,W.cs,splice]
    generalize (τ.newO [yco .i64 0,yco .i64 0,yco .i64 0,yco .i64 0,yco .i64 0,ycn []]).setO τ.no [yco .i64 12,yco .i64 ty,yco .i64 n,yco .i64 body,yco .i64 other,ycn name]=τ1 at *
    refine zky (by omega) ?_
    simp
    refine zay (ws:=[zbp 12]) hP1 hbt (by simp) (by rw[yab,yab,zN];omega) fun τ2 u2 P2 K2=>?_
    have n2:=K2.no
    have q2:=(K2.obj τ.no (by omega) hqx).trans o1
    have r2:=(K2.obj o (by omega) hox).trans ho1
    simp[a0,a4,q2,r2]
    refine IH hd τ2 _ _ f body b tb _ _ _ _ hls hf P2 (by simp[hb]) hb0 hbs hpb (by rw[yab,yab,yab,zN];omega) fun τ3 u3 P3 K3=>?_
    have n3:=K3.no
    have q3:=(K3.obj τ.no (by omega) hqx).trans q2
    have r3:=(K3.obj o (by omega) hox).trans r2
    simp[a0,q3]
    refine zay (ws:=[zc4]) P3 (by simp[hb]) (by simp) (by rw[yab,yab,yab,yab,zN,zN];have:zc4.length=3:=rfl;omega) fun τ4 u4 P4 K4=>?_
    have n4:=K4.no
    simp[a0,a4,a14,a15,a16,w1]
    refine fin _ _ ([zbp 12]++tb++[zc4]) t (acc2++[b']) r' (by simp) hpr' ?_ (((K1.trans K2).trans K3).trans K4) ((K4.obj o (by omega) hox).trans r3) (by omega) (by simp[a0]) (by simp[a4]) (by simp[a14]) (by simp[a15]) (by simp)
    rw[zi,zi]
    simpa [ycF]using P4
   ·obtain⟨op,ty,n,body,other,name⟩:=w
    dsimp only at *
    subst e
    have hno:¬0≤other:=by omega
    have wb:((body.toNat:Nat):Int)=body:=by omega
    simp[zdG,a0,a4,a14,a15,a16,hlt,hlti,hat,hr',W.av,W.cs,splice]
    generalize (τ.newO [yco .i64 0,yco .i64 0,yco .i64 0,yco .i64 0,yco .i64 0,ycn []]).setO τ.no [yco .i64 13,yco .i64 ty,yco .i64 n,yco .i64 body,yco .i64 other,ycn name]=τ1 at *
    refine zky (by omega) ?_
    simp
    refine zay (ws:=[zbp 13]) hP1 hbt (by simp) (by rw[yab,yab,zN];omega) fun τ2 u2 P2 K2=>?_
    have n2:=K2.no
    have q2:=(K2.obj τ.no (by omega) hqx).trans o1
    have r2:=(K2.obj o (by omega) hox).trans ho1
    simp[a0,a4,q2,r2]
    refine IH hd τ2 _ _ f body b tb _ _ _ _ hls hf P2 (by simp[hb]) hb0 hbs hpb (by rw[yab,yab,yab,zN];omega) fun τ3 u3 P3 K3=>?_
    have n3:=K3.no
    have q3:=(K3.obj τ.no (by omega) hqx).trans q2
    have r3:=(K3.obj o (by omega) hox).trans r2
    simp[a0,q3,hno]
    refine zay (ws:=[zc4]) P3 (by simp[hb]) (by simp) (by rw[yab,yab,yab,yab,zN,zN];have:zc4.length=3:=rfl;omega) fun τ4 u4 P4 K4=>?_
    have n4:=K4.no
    simp[a0,a4,a14,a15,a16,w1]
    refine fin _ _ ([zbp 13]++tb++[zc4]) t (acc2++[b']) r' (by simp) hpr' ?_ (((K1.trans K2).trans K3).trans K4) ((K4.obj o (by omega) hox).trans r3) (by omega) (by simp[a0]) (by simp[a4]) (by simp[a14]) (by simp[a15]) (by simp)
    rw[zi,zi]
    simpa [ycF]using P4
  | @two _ _ b e _ _ tb b' acc2 te e' acc3 t r' _ hop hot hd hb0 hbs hes hpb hpe hpr' =>
   have hsp:(spT (tIf::(tb++zce::(te++zc4::t)))).length=3+((spT tb).length+(5+((spT te).length+(4+(spT t).length)))):=by
    have e1:tIf::(tb++zce::(te++zc4::t))=[tIf]++(tb++([zce]++(te++([zc4]++t)))):=rfl
    rw[e1,zi,zi,zi,zi,zi]
    simp only[yab,zN]
    rfl
   obtain⟨op,ty,n,body,other,name⟩:=w
   dsimp only at *
   subst hop
   have hoi:(zbp 13)=tIf:=rfl
   simp[zdG,a0,a4,a14,a15,a16,hlt,hlti,hat,hr',W.av,W.cs,splice]
   generalize (τ.newO [yco .i64 0,yco .i64 0,yco .i64 0,yco .i64 0,yco .i64 0,ycn []]).setO τ.no [yco .i64 13,yco .i64 ty,yco .i64 n,yco .i64 body,yco .i64 other,ycn name]=τ1 at *
   refine zky (by omega) ?_
   rw[hoi]
   simp
   refine zay (ws:=[tIf]) hP1 hbt (by simp) (by rw[yab,yab,zN];have:tIf.length=2:=rfl;omega) fun τ2 u2 P2 K2=>?_
   have n2:=K2.no
   have q2:=(K2.obj τ.no (by omega) hqx).trans o1
   have r2:=(K2.obj o (by omega) hox).trans ho1
   simp[a0,a4,q2,r2]
   refine IH hd τ2 _ _ f body b tb _ _ _ _ hls hf P2 (by simp[hb]) hb0 hbs hpb (by rw[yab,yab,yab,zN];have:tIf.length=2:=rfl;omega) fun τ3 u3 P3 K3=>?_
   have n3:=K3.no
   have q3:=(K3.obj τ.no (by omega) hqx).trans q2
   have r3:=(K3.obj o (by omega) hox).trans r2
   simp[a0,q3,hot]
   refine zay (ws:=[zce]) P3 (by simp[hb]) (by simp) (by rw[yab,yab,yab,yab,zN,zN];have:zce.length=4:=rfl;have:tIf.length=2:=rfl;omega) fun τ4 u4 P4 K4=>?_
   have n4:=K4.no
   have q4:=(K4.obj τ.no (by omega) hqx).trans q3
   have r4:=(K4.obj o (by omega) hox).trans r3
   simp[a0,a4,q4,r4]
   refine IH hd τ4 _ _ f other e te _ _ _ _ hls hf P4 (by simp[hb]) hot hes hpe (by rw[yab,yab,yab,yab,yab,zN,zN];have:zce.length=4:=rfl;have:tIf.length=2:=rfl;omega) fun τ5 u5 P5 K5=>?_
   have n5:=K5.no
   have r5:=(K5.obj o (by omega) hox).trans r4
   simp[a0]
   refine zay (ws:=[zc4]) P5 (by simp[hb]) (by simp) (by rw[yab,yab,yab,yab,yab,yab,zN,zN,zN];have:zce.length=4:=rfl;have:tIf.length=2:=rfl;have:zc4.length=3:=rfl;omega) fun τ6 u6 P6 K6=>?_
   have n6:=K6.no
   simp[a0,a4,a14,a15,a16,w1]
   refine fin _ _ ([tIf]++tb++[zce]++te++[zc4]) t (acc3++[e']) r' (by simp) hpr' ?_ (((((K1.trans K2).trans K3).trans K4).trans K5).trans K6) ((K6.obj o (by omega) hox).trans r5) (by omega) (by simp[a0]) (by simp[a4]) (by simp[a14]) (by simp[a15]) (by simp)
   rw[zi,zi,zi,zi]
   simpa [ycF]using P6
 ·have e:j=ws.length:=by omega
  rw[ycL (by omega)]at hpr
  cases hpr
  rw[yb7]at ht
  subst ht
  simp[zdG,a0,a4,a14,a15,a16,e]
  exact hR _ _ hP hK
theorem zjf(V:zb6 G){σ0 x ls d}(hsz:∀ws∈ls,ws.length≤2^40)(IH:d<400→zHx G σ0 x ls (d+1)):zHx G σ0 x ls d:=by
 intro σ R fv f i ws toks acc out acc' bs hls hf hP hb hi hws hpr hl hR
 have hf0:=hf
 obtain⟨pv,lv,tv,rfl,i1,i2,i3⟩:=hf
 have h1:=i1.one
 have h2:=i2.one
 have h3:=i3.one
 obtain⟨hlt,hget⟩:=yaq.1 hws
 have hwl:=hsz ws (ycs hws)
 have i3t:=i3.keep hP.ad
 rw[←hls]at hlt
 obtain⟨φ,rv,hr,hrv,hat⟩:=i3.at hlt
 obtain⟨φ',rv',hr',hrv',hat'⟩:=i3t.at hlt
 subst hls
 rw[hget]at hrv hrv'
 refine zxj rfl ?_
 have wi:((i.toNat:Nat):Int)=i:=by omega
 rw[wi]at hat hat'
 have hsame:yc5 φ' rv'=yc5 φ rv:=by
  have q1:=hat fun v=>v=yc5 φ rv
  have q2:=hat' fun v=>v=yc5 φ rv
  rw[←q2,q1]
 injection hsame with hs1 hs2
 subst hs1 hs2
 have hrd:=hr'.read
 have v1:=hrv'.one
 have vl:=RepO.len hrv'
 have hx:=hP.hx
 simp[zJU,h1,h2,h3,hat',hrd,v1,vl]
 have A:zh σ (σ.newO [.str f.name,pv,lv,.int .i64 f.type,tv]):=(zh.refl σ).newO
 refine zas (LqI σ0 x f.lists d [.str f.name,pv,lv,.int .i64 f.type,tv] σ.no rv' ws toks acc' bs σ) (MU 16 (ws.length+1)) ⟨0,[],toks,acc,out,ycj _,rfl,by simpa using hpr,by simp,by simp,by simp,by simp,by simp,by simpa [spT]using hP.adds A,A.pwk,by simp,by simp,by omega⟩ fun a τ hI=>?_
 exact znm V IH rfl hf0 h1 h2 h3 hrv hwl hb hl hR hI
theorem zh3(V:zb6 G){σ0 x ls}(hsz:∀ws∈ls,ws.length≤2^40):∀k d:Nat,400≤d+k→zHx G σ0 x ls d
 | 0,d,hd=>zjf V hsz (fun h=>by omega)
 | k+1,d,hd=>zjf V hsz (fun _=>zh3 V hsz k (d+1) (by omega))
end
theorem zuP:spT zcn=32::zbv:=by decide
theorem zrj(t:Int)(h:t≠0):zK zdJ [t]=zkp t:=by
 unfold zK zkp
 rw[if_neg (by simp),if_neg h]
 rfl
section
variable {G : Env} {σ : AS} {R : Out → AS → Prop}
def FlI(σ0:AS)(x mo:Nat)(fv:AV)(m:M)(toks:List Tok)(bs:List UInt8)(a:Nat→AV)(τ:AS):Prop:=∃(j:Nat) (t1 t2:List Tok) (fs2:List F),j≤m.funcs.length∧toks=t1++t2∧PrFs (m.funcs.drop j) t2 fs2∧a 1=.ptr mo 0∧a 3=.pt 88 2 x 0∧a 15=fv∧a 16=.int .i64 (m.funcs.length:Int)∧a 17=.int .i64 (j:Int) ∧
 Pw σ0 x (bs++spT t1) τ∧τ.objs mo=some [fv,.int .i64 m.memory,.int .i64 m.main]∧mo<τ.no∧mo≠x
theorem zpp(V:zb6 G){σ0 x mo fv}{m:M}{toks:List Tok}{bs:List UInt8}{mx:Nat}(hfv:Al.FsO σ0 fv m.funcs)(hf:∀f∈m.funcs,Pf mx f)(hmx:mx≤1000)(hsz:∀f∈m.funcs,f.lists.length≤2^40∧∀ws∈f.lists,ws.length≤2^40)(hfl:m.funcs.length≤2^40)(hb:bs≠[])(hl:(bs++spT toks).length<2^44)
  (fin:∀(a:Nat→AV) (τ:AS),a 1=.ptr mo 0→a 3=.pt 88 2 x 0→Pw σ0 x (bs++spT toks) τ→τ.objs mo=some [fv,.int .i64 m.memory,.int .i64 m.main]→avc yb9 G 66 zjT (ze9 yb9 [.tmp 2] R) a τ) {a:Nat→AV} {τ:AS} (hI:FlI σ0 x mo fv m toks bs a τ) :
  avc yb9 G 66 zjS (zbd (fun a' σ'=>FlI σ0 x mo fv m toks bs a' σ'∧MU 17 (m.funcs.length+1) a' σ'<MU 17 (m.funcs.length+1) a τ) (za2 0 (zbd (avc yb9 G 66 zjT (ze9 yb9 [.tmp 2] R)) (ze9 yb9 [.tmp 2] R)))) a τ:=by
 obtain⟨j,t1,t2,fs2,hj,ht,hpr,a1,a3,a15,a16,a17,hP,hmo,hmon,hmox⟩:=hI
 by_cases hlt:j<m.funcs.length
 ·have hdrop:m.funcs.drop j=m.funcs[j]::m.funcs.drop (j+1):=ycq hlt
  have hmem:m.funcs[j]∈m.funcs:=yaw hlt
  have hft:=hfv.keep hP.ad
  obtain⟨φ0,row0,hr0,hrow0,hat0⟩:=hfv.at hlt
  obtain⟨φ,row,hr,hrow,hat⟩:=hft.at hlt
  have hsame:yc5 φ row=yc5 φ0 row0:=by
   have q1:=hat0 fun v=>v=yc5 φ0 row0
   have q2:=hat fun v=>v=yc5 φ0 row0
   rw[←q2,q1]
  injection hsame with hs1 hs2
  subst hs1 hs2
  have hr':=hr.read
  have hlti:(j:Int)<(m.funcs.length:Int):=by omega
  have w1:yb4 .i64 ((j:Int)+1)=((j+1:Nat):Int):=by rw[zc]<;>omega
  rw[hdrop]at hpr
  generalize hw:m.funcs[j]=f at *
  have hpf:=hf f hmem
  have hszf:=hsz f hmem
  obtain⟨pv,lv,tv,rfl,i1,i2,i3⟩:=id hrow0
  have p1:=i1.one
  have p2:=i2.one
  have p3:=i3.one
  have i3len:=i3.len
  have hnl:f.name.length≤1000:=by
   have:=hpf.name
   unfold zhF at this
   split at this
   ·cases this
   ·rename_i c r _
    simp only[Bool.and_eq_true,decide_eq_true_eq]at this
    omega
  have hlt1:(bs++spT toks).length=bs.length+(spT t1).length+(spT t2).length:=by rw[ht,zi];simp only[yab];omega
  simp[zjS,a1,a3,a15,a16,a17,hlt,hlti,hat,hr',p1,p2,p3,splice]
  have A1:zh τ ((τ.newO [.str [],.nilsl,.nilsl,.int .i64 0,.nilsl]).setO τ.no [.str f.name,pv,lv,.int .i64 f.type,tv]):=(zh.refl τ).newO.setO (yah _)
  have q1:((τ.newO [.str [],.nilsl,.nilsl,.int .i64 0,.nilsl]).setO τ.no [.str f.name,pv,lv,.int .i64 f.type,tv]).objs τ.no=some [.str f.name,pv,lv,.int .i64 f.type,tv]:=by simp
  have n1:((τ.newO [.str [],.nilsl,.nilsl,.int .i64 0,.nilsl]).setO τ.no [.str f.name,pv,lv,.int .i64 f.type,tv]).no=τ.no+1:=by simp
  have hP1:=hP.adds A1
  have hx:=hP.hx
  have hqx:τ.no≠x:=by omega
  have m1:=(A1.obj mo hmon).trans hmo
  refine⟨by omega,?_⟩
  generalize (τ.newO [.str [],.nilsl,.nilsl,.int .i64 0,.nilsl]).setO τ.no [.str f.name,pv,lv,.int .i64 f.type,tv]=τ1 at *
  cases hpr with
  | @cons _ _ tf ls' ts fs' hpF hprs =>
  obtain⟨row,out,acc,h1,h2,_⟩:=hpF
  have hl1:f.lists.length-1<f.lists.length:=(yaq.1 h1).1
  have wl:yb4 .i64 ((f.lists.length:Int)-1)=((f.lists.length-1:Nat):Int):=by
   have:=hszf.1
   rw[zc]<;>omega
  have hl0:(0:Int)≤((f.lists.length-1:Nat):Int):=by omega
  have hln:((f.lists.length-1:Nat):Int).toNat=f.lists.length-1:=by omega
  have hft1:spT (zgA f tf)=spT [zA,zbo,36::f.name]++spT (zK zbZ f.params)++spT (zkp f.type)++spT (zK zaU f.locals)++spT tf++spT [zg]:=by
   have:zgA f tf=[zA,zbo,36::f.name]++zK zbZ f.params++zkp f.type++zK zaU f.locals++tf++[zg]:=by simp[zgA]
   rw[this,zi,zi,zi,zi,zi]
  have hl2:(spT (zgA f tf++ts)).length=(spT [zA,zbo,36::f.name]).length+(spT (zK zbZ f.params)).length+(spT (zkp f.type)).length+(spT (zK zaU f.locals)).length+(spT tf).length+(spT [zg]).length+(spT ts).length:=by
   rw[zi,hft1]
   simp only[yab]
  refine zay (ws:=[zA,zbo,36::f.name]) hP1 (by simp[hb]) (by simp) (by simp only[yab];omega) fun τ2 u2 P2 K2=>?_
  have n2:=K2.no
  have q2:=(K2.obj τ.no (by omega) hqx).trans q1
  have m2:=(K2.obj mo (by omega) hmox).trans m1
  simp[q2,a3,p1]
  refine zgW (kw:=zbZ) P2 (by simp[hb]) i1 hpf.params (by simp only[yab];omega) fun τ3 u3 P3 K3=>?_
  have n3:=K3.no
  have q3:=(K3.obj τ.no (by omega) hqx).trans q2
  have m3:=(K3.obj mo (by omega) hmox).trans m2
  by_cases hty:f.type=0
  ·have hrz:zkp f.type=[]:=by unfold zkp;rw[if_pos hty]
   have hty':(f.type=0)=True:=eq_true hty
   simp[q3,a3,hty']
   have P4:=P3
   have K4:=PwK.refl x τ3
   have q4:=q3
   have m4:=m3
   have e4:bs++spT t1++spT [zA,zbo,36::f.name]++spT (zK zbZ f.params)=bs++spT t1++spT [zA,zbo,36::f.name]++spT (zK zbZ f.params)++spT (zkp f.type):=by rw[hrz];simp[spT]
   rw[e4]at P4
   generalize hτ4:τ3=τ4 at *
   simp[q4,a3]
   refine zgW (kw:=zaU) P4 (by simp[hb]) i2 hpf.locals (by simp only[yab];omega) fun τ5 u5 P5 K5=>?_
   have n5:=K5.no
   have q5:=(K5.obj τ.no (by omega) hqx).trans q4
   have m5:=(K5.obj mo (by omega) hmox).trans m4
   simp[q5,a3,i3len,wl]
   refine zh3 V (x:=x) hszf.2 400 0 (by omega) τ5 _ _ f _ row tf [] out acc _ rfl hrow0 P5 (by simp[hb]) hl0 (by rw[hln];exact h1) h2 (by simp only[yab];omega) fun τ6 u6 P6 K6=>?_
   have n6:=K6.no
   have m6:=(K6.obj mo (by omega) hmox).trans m5
   simp[a3]
   refine zay (ws:=[zg]) P6 (by simp[hb]) (by simp) (by simp only[yab];omega) fun τ7 u7 P7 K7=>?_
   have n7:=K7.no
   have m7:=(K7.obj mo (by omega) hmox).trans m6
   simp[a1,a3,a15,a16,a17,w1]
   refine⟨⟨j+1,t1++zgA f tf,ts,fs',hlt,by rw[ht,ycF],hprs,by simp[a1],by simp[a3],by simp[a15],by simp[a16],by simp,?_,m7,by omega,hmox⟩,?_⟩
   ·rw[zi,hft1]
    simpa [ycF]using P7
   ·simp[MU,a17];omega
  ·have hrz:=zrj f.type hty
   have hty':(f.type=0)=False:=eq_false hty
   have htt:∀t∈[f.type],t=1∨t=2:=by
    intro t ht
    simp only[ycA]at ht
    subst ht
    have:=hpf.type
    omega
   simp[q3,a3,hty']
   refine zgW (kw:=zdJ) (l:=[f.type]) P3 (by simp[hb]) (.inr ⟨.stat true,rfl,trivial⟩) htt (by rw[hrz];simp only[yab];omega) fun τ4 u4 P4 K4=>?_
   rw[hrz]at P4
   have n4:=K4.no
   have q4:=(K4.obj τ.no (by omega) hqx).trans q3
   have m4:=(K4.obj mo (by omega) hmox).trans m3
   simp[q4,a3]
   refine zgW (kw:=zaU) P4 (by simp[hb]) i2 hpf.locals (by simp only[yab];omega) fun τ5 u5 P5 K5=>?_
   have n5:=K5.no
   have q5:=(K5.obj τ.no (by omega) hqx).trans q4
   have m5:=(K5.obj mo (by omega) hmox).trans m4
   simp[q5,a3,i3len,wl]
   refine zh3 V (x:=x) hszf.2 400 0 (by omega) τ5 _ _ f _ row tf [] out acc _ rfl hrow0 P5 (by simp[hb]) hl0 (by rw[hln];exact h1) h2 (by simp only[yab];omega) fun τ6 u6 P6 K6=>?_
   have n6:=K6.no
   have m6:=(K6.obj mo (by omega) hmox).trans m5
   simp[a3]
   refine zay (ws:=[zg]) P6 (by simp[hb]) (by simp) (by simp only[yab];omega) fun τ7 u7 P7 K7=>?_
   have n7:=K7.no
   have m7:=(K7.obj mo (by omega) hmox).trans m6
   simp[a1,a3,a15,a16,a17,w1]
   refine⟨⟨j+1,t1++zgA f tf,ts,fs',hlt,by rw[ht,ycF],hprs,by simp[a1],by simp[a3],by simp[a15],by simp[a16],by simp,?_,m7,by omega,hmox⟩,?_⟩
   ·rw[zi,hft1]
    simpa [ycF]using P7
   ·simp[MU,a17];omega
 ·have e:j=m.funcs.length:=by omega
  rw[ycL (by omega)]at hpr
  cases hpr
  rw[yb7]at ht
  subst ht
  simp[zjS,a1,a3,a15,a16,a17,e]
  exact fin _ _ (by simp[a1]) (by simp[a3]) hP hmo
theorem zfY(m:M)(toks:List Tok):zfo (zbz m toks)=zbv++spT [Lib.itoa m.memory,zg,zg]++spT toks++spT [zA,zbw,zfO,zA,zbo,Lib.itoa (yb4 .i64 (m.main+3)),zg,zg,zg]++[10]:=by
 have e:zbz m toks=zcn++[Lib.itoa m.memory,zg,zg]++toks++[zA,zbw,zfO,zA,zbo,Lib.itoa (yb4 .i64 (m.main+3)),zg,zg,zg]:=by simp[zbz,zv0]
 unfold zfo
 rw[zoq,e,zi,zi,zi,zuP]
 simp only[ycp,List.tail_cons]
theorem znn(V:zb6 G){m:M}{mv:AV}{toks:List Tok}{fs2:List F}{mx:Nat}(hm:Al.MO σ mv m)(hpr:PrFs m.funcs toks fs2)(hf:∀f∈m.funcs,Pf mx f)(hmx:mx≤1000)(hsz:∀f∈m.funcs,f.lists.length≤2^40∧∀ws∈f.lists,ws.length≤2^40)(hfl:m.funcs.length≤2^40)
  (hmem:-(2^63)≤m.memory∧m.memory<2^63) (hl:(zfo (zbz m toks)).length<2^43) (h:∀σ',zh σ σ'→R (.ret (.str (zfo (zbz m toks)))) σ'):zzQ G 20 [mv] σ R:=by
 refine zw1 rfl ?_
 obtain⟨fv,rfl,hfv⟩:=hm
 have f1:=hfv.one
 have fl:=hfv.len
 rw[zfY]at hl
 simp only[yab]at hl
 simp[zJI,f1]
 have A1:zh σ ((σ.newO [fv,.int .i64 m.memory,.int .i64 m.main]).newO [.nilp,.nilsl]):=(zh.refl σ).newO.newO
 have m1:((σ.newO [fv,.int .i64 m.memory,.int .i64 m.main]).newO [.nilp,.nilsl]).objs σ.no=some [fv,.int .i64 m.memory,.int .i64 m.main]:=by
  have:¬σ.no=σ.no+1:=by omega
  simp[this]
 have p1:((σ.newO [fv,.int .i64 m.memory,.int .i64 m.main]).newO [.nilp,.nilsl]).objs (σ.no+1)=some [.nilp,.nilsl]:=by simp
 have n1:((σ.newO [fv,.int .i64 m.memory,.int .i64 m.main]).newO [.nilp,.nilsl]).no=σ.no+2:=by simp
 generalize (σ.newO [fv,.int .i64 m.memory,.int .i64 m.main]).newO [.nilp,.nilsl]=τ1 at *
 refine zef V hmem ?_
 simp
 refine zER (o:=σ.no+1) (i:=1) (cs:=[.nilp,.nilsl]) (e:=5) p1 rfl ?_
 have e1:splice [AV.nilp,ycu] 1 [AV.tys 5 .nilsl]=[.nilp,.tys 5 .nilsl]:=rfl
 rw[e1]
 have hP0:Pw σ (σ.no+1) [] (τ1.setO (σ.no+1) [.nilp,.tys 5 .nilsl]):=⟨by omega,by simp;omega,A1.setO (by omega),_,_,by simp,.inl rfl,.inl ⟨rfl,rfl⟩⟩
 have m2:(τ1.setO (σ.no+1) [.nilp,.tys 5 .nilsl]).objs σ.no=some [fv,.int .i64 m.memory,.int .i64 m.main]:=by
  have:¬σ.no=σ.no+1:=by omega
  simp[this,m1]
 have n2:(τ1.setO (σ.no+1) [.nilp,.tys 5 .nilsl]).no=σ.no+2:=by simp[n1]
 generalize τ1.setO (σ.no+1) [.nilp,.tys 5 .nilsl]=τ2 at *
 have hh:zbv≠[]:=by decide
 have es:zfv [] [zbv,Lib.itoa m.memory,zg,zg]=zbv++spT [Lib.itoa m.memory,zg,zg]:=by
  have:zfv [] [zbv,Lib.itoa m.memory,zg,zg]=zfv zbv [Lib.itoa m.memory,zg,zg]:=rfl
  rw[this,znk _ hh]
 refine zwa (ws:=[zbv,Lib.itoa m.memory,zg,zg]) hP0 (by simp) (by rw[es,yab];omega) fun τ3 u3 P3 K3=>?_
 rw[es]at P3
 have n3:=K3.no
 have m3:=(K3.obj σ.no (by omega) (by omega)).trans m2
 simp[m3,f1,fl]
 refine zas (FlI σ (σ.no+1) σ.no fv m toks (zbv++spT [Lib.itoa m.memory,zg,zg])) (MU 17 (m.funcs.length+1)) ⟨0,[],toks,fs2,ycj _,rfl,by simpa using hpr,by simp,by simp,by simp,by simp,by simp,by simpa [spT]using P3,m3,by omega,by omega⟩ fun a τ hI=>?_
 refine zpp V hfv hf hmx hsz hfl (by simp[hh]) (by simp only[yab];omega) (fun a τ a1 a3 hP hmo=>?_) hI
 simp[zjT,a1,a3,hmo]
 refine zef V (zhO _).1 ?_
 simp
 refine zay (ws:=[zA,zbw,zfO,zA,zbo,Lib.itoa (yb4 .i64 (m.main+3)),zg,zg,zg]) hP (by simp[hh]) (by simp) (by simp only[yab];omega) fun τ5 u5 P5 K5=>?_
 simp[a3]
 refine zuN P5 (by simp[hh]) (by simp only[yab];omega) fun τ6 A6 K6=>?_
 have:=h _ A6
 rw[zfY]at this
 simp
 refine⟨by have:([10]:List UInt8).length=1:=rfl;omega,?_⟩
 simpa [ycF]using this
end
theorem zpq(n:Int):∀c∈Lib.itoa n,c.toNat<128:=by
 have h:=zi3 n
 have hb:=zhC n
 have hd:∀c∈Lib.decDigits n.natAbs,c.toNat<128:=fun c hc=>by
  have:=yaM.1 (zeb n.natAbs) c hc
  simp only[zJ,Bool.and_eq_true,decide_eq_true_eq]at this
  omega
 unfold Lib.itoa
 intro c hc
 split at hc
 ·rcases ybC.1 hc with rfl|hc
  ·decide
  ·exact hd c hc
 ·have e:n.toNat=n.natAbs:=by omega
  rw[e]at hc
  exact hd c hc
theorem zya(m:M)(toks:List Tok):zhT (zfo (zbz m toks)):=by
 have e:∃x,zfo (zbz m toks)=x++(spT [Lib.itoa (yb4 .i64 (m.main+3)),zg,zg,zg]++[10]):=by
  rw[zfY]
  have:spT [zA,zbw,zfO,zA,zbo,Lib.itoa (yb4 .i64 (m.main+3)),zg,zg,zg]=spT [zA,zbw,zfO,zA,zbo]++spT [Lib.itoa (yb4 .i64 (m.main+3)),zg,zg,zg]:=by rw[←zi];rfl
  rw[this]
  exact⟨zbv++spT [Lib.itoa m.memory,zg,zg]++spT toks++spT [zA,zbw,zfO,zA,zbo],by simp only[ycF]⟩
 obtain⟨x,e⟩:=e
 rw[e]
 intro t ht
 by_cases h8:8<t.length
 ·exact .inl h8
 refine .inr fun c hc=>?_
 have hne:=zx0 (yb4 .i64 (m.main+3))
 have hl:1≤(Lib.itoa (yb4 .i64 (m.main+3))).length:=ybm.2 hne
 have hs:t<:+spT [Lib.itoa (yb4 .i64 (m.main+3)),zg,zg,zg]++[10]:=by
  refine List.suffix_of_suffix_length_le ht (List.suffix_append _ _) ?_
  simp[spT]
  have ts:zg.length=1:=rfl
  omega
 have hm:=hs.subset hc
 simp only[spT,yaa,List.flatMap_nil,ybh,ybC,yb7,zg,ycz,or_false]at hm
 rcases hm with ((rfl|hm)|(rfl|rfl)|(rfl|rfl)|(rfl|rfl))|rfl
 ·decide
 ·exact zpq _ c hm
 all_goals decide
def zos:F:={ name:=[102],params:=[],locals:=[],type:=1,lists:=[[{ op:=1,ty:=1,n:=7,body:=0,other:=0,name:=[] }]] }
def za7:M:={ funcs:=[zos],memory:=16,main:=0 }
section
variable {G : Env} {σ : AS} {R : Out → AS → Prop}
end
def NZ{α:Type}(r:Res α):Prop:=∀e,r=.error e→e≠0
theorem NZ.ok{α:Type}(a:α):NZ (.ok a:Res α):=fun e h=>by cases h
theorem NZ.err{α:Type}{k:Int}(h:k≠0):NZ (.error k:Res α):=fun e q=>by cases q;exact h
theorem zot(s:St):NZ (zdm s):=by
 unfold zdm
 split
 ·split
  ·exact .ok _
  ·exact .err (by omega)
 ·exact .ok _
theorem zeg:∀(ts:List Int) (s:St),NZ (zW ts s)
 | [],s=>.ok _
 | t::ts,s=>by
  rw[zW]
  split
  ·have:=zot s
   cases hd:zdm s with
   | ok s'=>exact zeg ts s'
   | error e=>rw[hd]at this;exact .err (this e rfl)
  ·exact .err (by omega)
theorem zou{r:Res St}{t:Int}(h:NZ r):NZ (zeO r t):=by
 cases r with
 | ok s=>exact .ok _
 | error e=>exact .err (h e rfl)
theorem zc9(ty:Int)(s:St):NZ (zx ty s):=by unfold zx;split;exact .ok _;exact zeg _ _
theorem zrk(fs:List F)(ls:List Int)(w:W)(s:St):NZ (zbI fs ls w s):=by
 unfold zbI
 repeat' split
 all_goals first
  | exact .ok _
  | exact zou (zeg _ _)
  | exact zeg _ _
  | exact zot _
theorem zrl{fs:List F}{ls:List Int}{ty deep:Int}{lk:zkf}(hl:∀a d,NZ (lk a d))(w:W)(s:St):NZ (zL fs ls ty deep lk w s):=by
 unfold zL
 split
 ·exact .err (by omega)
 split
 ·exact .err (by omega)
 split
 ·have:=hl w.body (deep+1)
  cases hq:lk w.body (deep+1)with
  | ok u=>exact .ok _
  | error e=>rw[hq]at this;exact .err (this e rfl)
 split
 ·have ht:=zeg [1] s
  cases hq:zW [1] s with
  | error e=>rw[hq]at ht;exact .err (ht e rfl)
  | ok s1 =>
   have:=hl w.body (deep+1)
   simp only
   cases hq:lk w.body (deep+1)with
   | error e=>rw[hq]at this;exact .err (this e rfl)
   | ok u =>
    simp only
    split
    ·have:=hl w.other (deep+1)
     cases hq:lk w.other (deep+1)with
     | error e=>rw[hq]at this;exact .err (this e rfl)
     | ok u=>exact .ok _
    ·exact .ok _
 split
 ·have ht:=zeg [1] s
  cases hq:zW [1] s with
  | error e=>rw[hq]at ht;exact .err (ht e rfl)
  | ok s1 =>
   simp only
   split
   ·exact zou (zc9 _ _)
   ·exact .ok _
 split
 ·split
  ·have ht:=zc9 ty s
   cases hq:zx ty s with
   | error e=>rw[hq]at ht;exact .err (ht e rfl)
   | ok s1=>exact .ok _
  ·exact .ok _
 split
 ·have ht:=zc9 ty s
  cases hq:zx ty s with
  | error e=>rw[hq]at ht;exact .err (ht e rfl)
  | ok s1=>exact .ok _
 split
 ·exact .ok _
 ·exact zrk _ _ _ _
theorem zjg{fs:List F}{ls:List Int}{ty deep:Int}{lk:zkf}(hl:∀a d,NZ (lk a d)):∀(ws:List W) (s:St),NZ (zE fs ls ty deep lk ws s)
 | [],s=>.ok _
 | w::ws,s=>by
  rw[zE]
  have:=zrl (fs:=fs) (ls:=ls) (ty:=ty) (deep:=deep) hl w s
  cases hq:zL fs ls ty deep lk w s with
  | error e=>rw[hq]at this;exact .err (this e rfl)
  | ok s1=>exact zjg hl ws s1
theorem zov(fs:List F)(ls:List Int)(ty:Int)(lists:To):∀(k:Nat) (a d:Int),NZ (zQ fs ls ty lists k a d)
 | 0,a,d=>.err (by omega)
 | k+1,a,d=>by
  rw[zQ]
  have:=zjg (fs:=fs) (ls:=ls) (ty:=ty) (deep:=d) (zov fs ls ty lists k) (lists.getD a.toNat []) ⟨[],false⟩
  cases hq:zE fs ls ty d (zQ fs ls ty lists k) (lists.getD a.toNat []) ⟨[],false⟩with
  | error e=>rw[hq]at this;exact .err (this e rfl)
  | ok s =>
   simp only
   unfold zEi
   have:NZ (if d=0 then zx ty s else .ok s):=by
    split
    ·exact zc9 _ _
    ·exact .ok _
   cases hq:(if d=0 then zx ty s else .ok s:Res St)with
   | error e=>rw[hq]at this;exact .err (this e rfl)
   | ok s' =>
    simp only
    split
    ·exact .ok _
    ·exact .err (by omega)
theorem zl2(a:Int):∀(ns:List Int) (named:List Bool),NZ (zaG a ns named)
 | [],named=>.ok _
 | n::ns,named=>by
  rw[zaG]
  unfold zdn
  split
  ·rename_i e he
   split at he
   ·cases he
   ·cases he;exact .err (by omega)
  ·exact zl2 a ns _
theorem zrm(a:Int):∀(ws:List W) (named:List Bool),NZ (zgQ a ws named)
 | [],named=>.ok _
 | w::ws,named=>by
  rw[zgQ]
  have:=zl2 a (zl w) named
  cases hq:zaG a (zl w) named with
  | error e=>rw[hq]at this;exact .err (this e rfl)
  | ok n=>exact zrm a ws n
theorem zow:∀(ls:To) (k:Nat) (named:List Bool),NZ (zbu k ls named)
 | [],k,named=>.ok _
 | l::ls,k,named=>by
  rw[zbu]
  have:=zrm (k:Int) l named
  cases hq:zgQ (k:Int) l named with
  | error e=>rw[hq]at this;exact .err (this e rfl)
  | ok n=>exact zow ls (k+1) n
theorem zrn(ls:To):NZ (zbY ls):=by
 unfold zbY
 split
 ·exact .err (by omega)
 ·have:=zow ls 0 (yaj ls.length false)
  cases hq:zbu 0 ls (yaj ls.length false)with
  | error e=>rw[hq]at this;exact .err (this e rfl)
  | ok n =>
   simp only
   split
   ·exact .ok _
   ·exact .err (by omega)
theorem zl3(fs:List F)(f:F):NZ (zn fs f):=by
 unfold zn
 split
 ·exact .err (by omega)
 ·have:=zrn f.lists
  cases hq:zbY f.lists with
  | error e=>rw[hq]at this;exact .err (this e rfl)
  | ok u=>exact zov _ _ _ _ _ _ _
theorem zfw(fs:List F):∀r,NZ (zO fs r)
 | []=>.ok _
 | f::r=>by
  rw[zO]
  have:=zl3 fs f
  cases hq:zn fs f with
  | error e=>rw[hq]at this;exact .err (this e rfl)
  | ok u=>exact zfw fs r
theorem zro(m:M):NZ (zaB m):=by
 unfold zaB
 split
 ·exact .err (by omega)
 ·have:=zfw m.funcs m.funcs
  cases hq:zO m.funcs m.funcs with
  | error e=>rw[hq]at this;exact .err (this e rfl)
  | ok u =>
   simp only
   split
   ·exact .ok _
   ·exact .err (by omega)
theorem zuQ{m:M}(h:zmW (zaB m)=0):zaB m=.ok ():=by
 cases hq:zaB m with
 | ok u=>rfl
 | error e=>rw[hq]at h;exact absurd h (zro m e hq)
structure zK9(f f':F):Prop where
 name:f'.name=f.name
 params:f'.params=f.params
 locals:f'.locals=f.locals
 type:f'.type=f.type
 lists:f'.lists.length≤f.lists.length
 size:zfk id f'.lists≤zfk id f.lists
 good:∀l∈f'.lists,zKP l
def zJf:List UInt8:=[40,32,109,111,100,117,108,101,32,40,32,105,109,112,111,114,116,32,34,101,110,118,34,32,34,105,110,34,32,40,32,102,117,110,99,32,40,32,114,101,115,117,108,116,32,105,54,52,32,41,32,41,32,41,32,40,32,105,109,112,111,114,116,32,34,101,110,118,34,32,34,111,117,116,34,32,40,32,102,117,110,99,32,40,32,112,97,114,97,109,32,105,54,52,32,41,32,41,32,41,32,40,32,105,109,112,111,114,116,32,34,101,110,118,34,32,34,116,114,97,112,34,32,40,32,102,117,110,99,32,40,32,112,97,114,97,109,32,105,51,50,32,41,32,41,32,41,32,40,32,109,101,109,111,114,121,32,49,32,41,32,40,32,103,108,111,98,97,108,32,105,51,50,32,40,32,105,51,50,46,99,111,110,115,116,32,49,54,32,41,32,41,32,40,32,102,117,110,99,32,36,102,32,40,32,114,101,115,117,108,116,32,105,51,50,32,41,32]
def zyb:List UInt8:=[32,41,32,40,32,101,120,112,111,114,116,32,34,109,97,105,110,34,32,40,32,102,117,110,99,32,51,32,41,32,41,32,41,10]
def zgC(t:List UInt8):List UInt8:=zJf++t++zyb
def t7:List UInt8:=[105,51,50,46,99,111,110,115,116,32,55]
def t07:List UInt8:=[105,51,50,46,99,111,110,115,116,32,48,55]
def zyc:List UInt8:=[105,51,50,46,99,111,110,115,32,55]
theorem zwb:zgf 24 (zgC t7)=.ok za7:=by kernel_rfl
theorem zrp:zgf 24 (zgC t07)=.error 11:=by kernel_rfl
theorem zl4:zgf 24 (zgC zyc)=.error 2:=by kernel_rfl
def zEU:List Tok:=zgA zos (zcL { op:=1,ty:=1,n:=7,body:=0,other:=0,name:=[] }++[])++[]
theorem zJg:PrFs za7.funcs zEU [{ zos with lists:=[]++[[zaL { op:=1,ty:=1,n:=7,body:=0,other:=0,name:=[] }]] }] :=
 .cons ⟨_,_,_,rfl,.leaf (by decide) (by decide) ⟨by decide,by decide⟩ (.nil _ _),rfl⟩ .nil
theorem zEV:zfo (zbz za7 zEU)=zgC t7:=by kernel_rfl
theorem zkz{s:List UInt8}(h:s.all (fun c=>decide (c.toNat<128))=true):zhT s:=fun t ht=>.inr fun c hc=>by
 have:=yaM.1 h c (ht.subset hc)
 simpa using this
theorem zyd:zJf.length=218:=by rfl
theorem zuR:zyb.length=34:=by rfl
theorem zgX(t:List UInt8):(zgC t).length=t.length+252:=by
 simp only[zgC,yab,zyd,zuR];omega
theorem zEW:∀f∈za7.funcs,Al.SzE f:=fun f hf=>by
 simp only[za7,ycA]at hf
 subst hf
 exact⟨by decide,by decide,by decide,by decide⟩
section
variable {G : Env} {σ : AS} {R : Out → AS → Prop}
theorem zox{t:List UInt8}(hl:t.length<2^40)(h:R (.ret (.str (zgC t))) σ):zzQ G 10 [.str t] σ R:=by
 refine zwY rfl ?_
 have e:∀l:List UInt8,l=zgC t→R (.ret (.str l)) σ:=fun l q=>q▸h
 simp[zJF]
 refine⟨by omega,by omega,?_⟩
 refine e _ ?_
 simp[zgC,zJf,zyb]
theorem zl5(h:∀v σ',Al.MO σ' v za7→zh σ σ'→R (.ret v) σ'):zzQ G 11 [] σ R:=by
 refine zwZ rfl ?_
 simp[zJG,splice]
 refine h _ _ ⟨_,rfl,.inr ⟨_,_,rfl,trivial,.cons ⟨_,_,_,rfl,.inl ⟨rfl,rfl⟩,.inl ⟨rfl,rfl⟩,.inr ⟨_,_,rfl,trivial,.cons (.inr ⟨_,rfl,trivial⟩) .nil⟩⟩ .nil⟩⟩ ((zh.refl σ).newO.setO (yah _))
theorem zye:∀f∈za7.funcs,Pf 24 f:=fun f hf=>by
 simp only[za7,ycA]at hf
 subst hf
 exact⟨by decide,fun t ht=>(by cases ht),fun t ht=>(by cases ht),.inr (.inl rfl)⟩
theorem zyf:∀f∈za7.funcs,f.lists.length≤2^40∧∀ws∈f.lists,ws.length≤2^40:=fun f hf=>by
 simp only[za7,ycA]at hf
 subst hf
 exact⟨by decide,fun ws hw=>by simp[zos]at hw;subst hw;decide⟩
theorem ok7:zhT (zgC t7):=zkz (by decide)
theorem zK2:zhT (zgC t07):=zkz (by decide)
theorem zEX:zhT (zgC zyc):=zkz (by decide)
theorem zyg(V:zb6 G)(h00:0<σ.nf∧σ.F 0=.alive)(h:∀σ',zh σ σ'→R (.ret (.bool true)) σ'):zzQ G 12 [] σ R:=by
 refine zw0 rfl ?_
 simp[zJH]
 refine zox (t:=t7) (by decide) ?_
 simp
 refine zkx V h00 ok7 (by rw[zgX];decide) (fun e q=>by rw[zwb]at q;cases q) fun m hm mv σ1 hv1 A1=>?_
 rw[zwb]at hm
 cases hm
 have h01:0<σ1.nf∧σ1.F 0=.alive:=⟨by have:=A1.nf;omega,(A1.fam 0 h00.1).trans h00.2⟩
 have hv1':=hv1
 obtain⟨fv,rfl,hof⟩:=hv1'
 have fv1:=zni hof
 have B1:zh σ1 ((σ1.newO [ycu,.int .i64 0,.int .i64 0]).setO σ1.no [fv,.int .i64 za7.memory,.int .i64 za7.main]):=(zh.refl σ1).newO.setO (yah _)
 have ho1:((σ1.newO [ycu,.int .i64 0,.int .i64 0]).setO σ1.no [fv,.int .i64 za7.memory,.int .i64 za7.main]).objs σ1.no=some [fv,.int .i64 za7.memory,.int .i64 za7.main]:=by simp
 have hl1:σ1.no<((σ1.newO [ycu,.int .i64 0,.int .i64 0]).setO σ1.no [fv,.int .i64 za7.memory,.int .i64 za7.main]).no:=by simp
 simp[fv1,splice]
 generalize (σ1.newO [ycu,.int .i64 0,.int .i64 0]).setO σ1.no [fv,.int .i64 za7.memory,.int .i64 za7.main]=τ1 at *
 have A2:=A1.trans B1
 refine zox (t:=t07) (by decide) ?_
 simp
 refine zkx V ⟨by have:=B1.nf;omega,(B1.fam 0 h01.1).trans h01.2⟩ zK2 (by rw[zgX];decide) (fun e q σ2 C2=>?_) fun m hm=>by rw[zrp]at hm;cases hm
 rw[zrp]at q
 cases q
 simp[zgp,splice]
 have C3:zh σ2 ((σ2.newO [ycu,.int .i64 0,.int .i64 0]).setO σ2.no [ycu,.int .i64 0,.int .i64 0]):=(zh.refl σ2).newO.setO (yah _)
 generalize (σ2.newO [ycu,.int .i64 0,.int .i64 0]).setO σ2.no [ycu,.int .i64 0,.int .i64 0]=τ2 at *
 have C4:=C2.trans C3
 have B2:=B1.trans C4
 refine zox (t:=zyc) (by decide) ?_
 simp
 refine zkx V ⟨by have:=B2.nf;omega,(B2.fam 0 h01.1).trans h01.2⟩ zEX (by rw[zgX];decide) (fun e q σ4 C5=>?_) fun m hm=>by rw[zl4]at hm;cases hm
 rw[zl4]at q
 cases q
 simp[zgp,splice]
 have C6:zh σ4 ((σ4.newO [ycu,.int .i64 0,.int .i64 0]).setO σ4.no [ycu,.int .i64 0,.int .i64 0]):=(zh.refl σ4).newO.setO (yah _)
 generalize (σ4.newO [ycu,.int .i64 0,.int .i64 0]).setO σ4.no [ycu,.int .i64 0,.int .i64 0]=τ4 at *
 have C7:=C4.trans (C5.trans C6)
 have B4:=B1.trans C7
 refine zl5 fun v5 σ5 hv5 A5=>?_
 simp
 refine znn V hv5 zJg zye (by decide) zyf (by decide) (by decide) (by rw[zEV,zgX];decide) fun σ6 A6=>?_
 rw[zEV]
 simp
 refine zox (t:=t7) (by decide) ?_
 have C8:=(C7.trans A5).trans A6
 have ho6:=(C8.obj σ1.no hl1).trans ho1
 simp[ho6,fv1]
 refine zl5 fun v8 σ8 hv8 A8=>?_
 have C9:=C8.trans A8
 have ho8:=(C9.obj σ1.no hl1).trans ho1
 have B8:=(A1.trans B1).trans C9
 have hme:=zJd hv1 (B1.trans C9).nf fun f hf=>(B1.trans C9).fam f hf
 have hM:=Al.m_e (σ:=σ8) ⟨by have:=B8.nf;omega,(B8.fam 0 h00.1).trans h00.2⟩ hme
 simp[ho8,fv1]
 refine Al.eqM_calls hM hv8 (by decide) zEW fun σ9 A9=>?_
 simp
 exact h _ (B8.trans A9)
end
end Go.Proofs.YtohfclafhegadaaGreatDoor
namespace Go.Proofs.YtohfclafhegadaaGreatDoor
open Go Go.Abs Go.RowKit
def zb1(w:World)(v:AV)(cs:List Value):Prop:=v.cells.length=cs.length∧∀j (h:j<v.cells.length) (h':j<cs.length),VR (Mp.all w) AS.zero.F w v.cells[j] cs[j]
theorem zb1.one{w:World}{v:AV}{c:Value}(h:VR (Mp.all w) AS.zero.F w v c)(hv:v.cells=[v]):zb1 w v [c]:=by
 refine⟨by rw[hv];rfl,fun j h1 h2=>?_⟩
 have:j=0:=by simpa using h2
 subst this
 simpa [hv]using h
theorem zb1.tO{w:World}{v:AV}{c:Value}(h:zb1 w v [c])(hv:v.cells=[v]):VR (Mp.all w) AS.zero.F w v c:=by
 have:=h.2 0 (by rw[hv];simp) (by simp)
 simpa [hv]using this
def zkN{H:Type}(t:TypeId)(d:DataW H):Prop:=(d.weights yb9 t).all (·≤reachBytes)=true
theorem zEY{H:Type}{e:TypeId}:∀{ds:List (DataW H)},(DataW.weightsAll yb9 e ds).all (·≤reachBytes)=true→∀d∈ds,zkN e d
 | [],_=>by simp
 | d::ds,h=>by
  rw[DataW.weightsAll,ycb,Bool.and_eq_true]at h
  intro x hx
  rcases ybC.1 hx with rfl|hx
  ·exact h.1
  ·exact zEY h.2 x hx
theorem zl6{H:Type}:∀{ts:List TypeId} {ds:List (DataW H)},(DataW.weightsEach yb9 ts ds).all (·≤reachBytes)=true→∀(i:Nat) t d,ts[i]?=some t→ds[i]?=some d→zkN t d
 | [],ds,_=>by simp
 | _::_,[],_=>by simp
 | t::ts,d::ds,h=>by
  rw[DataW.weightsEach,ycb,Bool.and_eq_true]at h
  intro i t' d' h1 h2
  cases i with
  | zero=>simp at h1 h2;subst h1 h2;exact h.1
  | succ i=>exact zl6 h.2 i t' d' (by simpa using h1) (by simpa using h2)
theorem exists_list{X:Type}{n:Nat}{P:Nat→X→Prop}(h:∀i,i<n→∃x,P i x):∃l:List X,l.length=n∧∀i (hi:i<l.length),P i l[i]:=by
 induction n with
 | zero=>exact⟨[],rfl,fun i hi=>by simp at hi⟩
 | succ n ih =>
  obtain⟨l,hl,hp⟩:=ih fun i hi=>h i (by omega)
  obtain⟨x,hx⟩:=h n (by omega)
  refine⟨l++[x],by simp[hl],fun i hi=>?_⟩
  by_cases hi':i<l.length
  ·rw[List.getElem_append_left hi'];exact hp i hi'
  ·have e:i=l.length:=by simp at hi;omega
   subst e
   rw[List.getElem_append_right (by omega)]
   simpa [hl]using hx
theorem All2.of_get{α β:Type}{R:α→β→Prop}:∀{xs:List α} {ys:List β},xs.length=ys.length→(∀i (h:i<xs.length) (h':i<ys.length),R xs[i] ys[i])→All2 R xs ys
 | [],[],_,_=>.nil
 | [],_::_,h,_=>by simp at h
 | _::_,[],h,_=>by simp at h
 | x::xs,y::ys,h,hr=>.cons (hr 0 (by simp) (by simp)) (All2.of_get (by simpa using h) fun i h1 h2=>hr (i+1) (ybn h1) (ybn h2))
theorem zpr{H T:Type}{enc:TypeId × Value→H}{w:World}{fuel:Nat}{t e:TypeId}{cs:List Value}{x:DataW H × List MemPlace}{sz:Nat}(Rel:AV→T→Prop)(P:DataW H→Prop)
  (ht:yb9.underlying t=some (.slice e)) (hc:yb9.cellsOf e=sz) (hsz:0<sz) (hb:0<yb9.bytesOf e)
  (ih:∀n cs' d q,DataW.trod enc yb9 w 0 (fun _=>true) true n e cs'=some (d,q)→zkN e d→P d→∃v o,Rel v o∧zb1 w v cs')
  (h:DataW.trod enc yb9 w 0 (fun _=>true) true fuel t cs=some x) (hw:zkN t x.1) (hP:∀ds rs,x.1=.slice ds rs→∀d∈ds,P d) :
  ∃(v:AV) (os:List T),zb1 w v cs∧((os=[]∧v=.nilsl)∨∃vs,v=.sl (.stat false) sz vs∧All2 Rel vs os)∧os.length≤2^47∧∀ds rs,x.1=.slice ds rs→os.length≤ds.length:=by
 rcases DataW.trod_slice ht h with ⟨rfl,rfl⟩|⟨a,len,cap,elems,rest,n,rfl,rfl,rfl,hb0,hl,hm,hlen,hel,hsp,hns⟩
 ·exact⟨.nilsl,[],.one .nilsl rfl,.inl ⟨rfl,rfl⟩,by simp,by simp⟩
 obtain⟨hrl,hrest⟩:=hsp rfl
 have hw':=hw
 unfold zkN DataW.weights at hw'
 rw[ht]at hw'
 simp only[yca,ycb,Bool.and_eq_true,ybb,decide_eq_true_eq]at hw'
 obtain⟨w1,w2,w3⟩:=hw'
 have hel2:=zEY w2
 have hel3:=hP _ _ rfl
 have each:∀i,i<len→∃p:AV × T,Rel p.1 p.2∧∃cs',w.cells? 0 (a.add (i*sz)) sz=some cs'∧zb1 w p.1 cs':=fun i hi=>by
  have h1:=hel i hi
  have hi':i<elems.length:=by omega
  rw[hc,yau hi',ybA]at h1
  obtain⟨cs',h2,h3⟩:=h1
  obtain⟨v,o,h4,h5⟩:=ih n cs' elems[i].1 elems[i].2 h3 (hel2 _ (yaW (yaw hi'))) (hel3 _ (yaW (yaw hi')))
  exact⟨(v,o),h4,cs',h2,h5⟩
 obtain⟨l,hll,hp⟩:=exists_list each
 have hcap:len≤2^47:=by
  have h1:(elems.length+rest.length)*1≤(elems.length+rest.length)*yb9.bytesOf e:=Nat.mul_le_mul_left _ hb
  have h2:reachBytes≤2^47:=by unfold reachBytes;omega
  omega
 have hall:All2 Rel (l.map (·.1)) (l.map (·.2)):=All2.of_get (by simp) fun i h1 h2=>by simpa using (hp i (by simpa using h1)).1
 by_cases hz:cap=0
 ·have e1:len=0:=by omega
  have e2:l=[]:=List.eq_nil_of_length_eq_zero (by omega)
  subst e1 hz e2
  exact⟨.sl (.stat false) sz [],[],.one (.slz ..) rfl,.inr ⟨[],rfl,.nil⟩,by simp,by simp⟩
 have h0:∃c,w.cell? a=some c:=by
  have key:∀(y:DataW H × List MemPlace),(w.cells? 0 (a.add (0*yb9.cellsOf e)) (yb9.cellsOf e)).bind (DataW.trod enc yb9 w 0 (fun _=>true) true n e)=some y→∃c,w.cell? a=some c:=fun y hy=>by
   rw[ybA]at hy
   obtain⟨cs',h2,_⟩:=hy
   obtain⟨_,h3,h4⟩:=World.cells?_some h2
   have h5:=h4 0 (by omega)
   rw[Nat.zero_mul]at h5
   have e:(a.add 0).add 0=a:=by simp[Addr.add]
   rw[e,yau (by omega)]at h5
   exact⟨_,h5⟩
  by_cases hl0:0<len
  ·have:=hel 0 hl0
   rw[yau (by omega)]at this
   exact key _ this
  ·have e1:len=0:=by omega
   subst e1
   have:=hrest 0 (by omega)
   rw[yau (by omega)]at this
   exact key _ this
 obtain⟨c0,hc0⟩:=h0
 obtain⟨B,off,spot⟩:=a
 have hBs:B<w.heap.size∧spot=none:=by
  unfold World.cell? at hc0
  split at hc0
  ·rename_i c t' fr hh
   refine⟨(yaU.1 hh).1,?_⟩
   split at hc0
   ·cases hc0
   ·rename_i hs;simpa using hs
  ·cases hc0
 obtain⟨hB,rfl⟩:=hBs
 have hsz':∀v∈l.map (·.1),v.cells.length=sz:=fun v hv=>by
  obtain⟨p,hp',rfl⟩:=yaV.1 hv
  obtain⟨i,hi,rfl⟩:=ycx.1 hp'
  obtain⟨_,cs',h2,h3⟩:=hp i hi
  rw[h3.1,(World.cells?_some h2).2.1]
 have hfl:=zt sz (l.map (·.1)) hsz'
 have key:∀j (hj:j<(zy (l.map (·.1))).length),∃c,w.cell? ⟨B,off+j,none⟩=some c∧VR (Mp.all w) AS.zero.F w (zy (l.map (·.1)))[j] c:=fun j hj=>by
  have hj':j<l.length*sz:=by simpa [hfl]using hj
  have hi:j/sz<l.length:=(Nat.div_lt_iff_lt_mul hsz).2 hj'
  have hr:j%sz<sz:=Nat.mod_lt _ hsz
  obtain⟨_,cs',h2,h3⟩:=hp (j/sz) hi
  obtain⟨_,h4,h5⟩:=World.cells?_some h2
  have h6:=h5 (j%sz) hr
  rw[zG,zG,Nat.add_assoc,yc6,yau (by omega)]at h6
  refine⟨_,h6,?_⟩
  have hl1:l[j/sz].1.cells.length=sz:=by rw[h3.1,h4]
  have h7:=(zjw hsz' (i:=j/sz) (v:=l[j/sz].1) (by simp[yau hi]) (j:=j%sz) (by omega)).2
  rw[yc6,yau hj]at h7
  rw[yaR.inj h7]
  exact h3.2 _ _ _
 have hv:=VR.sl (M:=Mp.all w) (F:=AS.zero.F) (w:=w) (.stat false) sz (l.map (·.1)) B off cap (fun j=>(w.cell? ⟨B,off+j,none⟩).getD undef) (by simp;omega) (by simp[Own.full]) hsz' (by simp[Mem,Mp.all,hB])
  (fun _ j hj=>by obtain⟨c,h1,_⟩:=key j hj;simp[h1]) (fun _ j hj=>by obtain⟨c,h1,h2⟩:=key j hj;simpa [h1]using h2)
 rw[ybb,hll]at hv
 exact⟨_,l.map (·.2),.one hv rfl,.inr ⟨_,rfl,hall⟩,by simpa [hll]using hcap,fun ds rs e=>by
  simp only[DataW.slice.injEq]at e
  rw[←e.1]
  simp;omega⟩
end Go.Proofs.YtohfclafhegadaaGreatDoor
namespace Go
open Go.ChangeShapes Go.WideShapes Go.ChangeAt Go.RowKit
theorem zkA{H:Type}{enc:TypeId × Value→H}{P:Program}{w:World}{base:Nat}{sp:Nat→Bool}{held:Bool}{fuel:Nat}{t e:TypeId}{n:Nat}{cs:List Value}{ls:List (List UInt8)}{p:List MemPlace}
  (ht:P.underlying t=some (.array n e)) (he:P.underlying e=some .string) (hce:P.cellsOf e=1) (hct:P.cellsOf t=n)
  (h:DataW.trod enc P w base sp held fuel t cs=some (.agg (ls.map fun l=>.lit (.string l)),p)):cs=ls.map fun l=>Value.string ⟨l.toArray⟩:=by
 cases fuel with
 | zero=>simp[DataW.trod]at h
 | succ fuel =>
  simp only[DataW.trod,ht,hce,hct,Nat.mul_one]at h
  split at h
  ·rename_i hl
   obtain⟨xs,hm,hx⟩:=ybB.1 h
   have hxs:xs.map (·.1)=ls.map fun l=>(DataW.lit (.string l):DataW H):=by
    have:=congrArg Prod.fst hx
    simpa using this
   have hxl:xs.length=n:=by simpa using Lib.mapM_length hm
   have hzl:ls.length=n:=by
    have:=congrArg ycd hxs
    simp at this
    omega
   apply List.ext_getElem?
   intro i
   by_cases hi:i<n
   ·obtain⟨b,hb,hf⟩:=Lib.mapM_at hm i i (by simp[hi])
    obtain⟨s,hc,rfl,_⟩:=DataW.trod_string he hf
    have h1:cs[i]?=some (.string s):=by
     have:=congrArg (·[0]?) hc
     simpa [List.getElem?_take,yas]using this
    have h2:(xs.map (·.1))[i]?=some (DataW.lit (.string s.data.toList):DataW H):=by simp[hb]
    rw[hxs]at h2
    simp only[yc7,ybB,DataW.lit.injEq,Lit.string.injEq]at h2
    obtain⟨l,hl1,hl2⟩:=h2
    simp[h1,hl1,hl2]
   ·rw[yb2 (by omega),yb2 (by simp;omega)]
  ·cases h
end Go
namespace Go.Proofs.YtohfclafhegadaaGreatDoor
open Go Go.Abs Go.RowKit
theorem own:ownKnob yb9.godebug=none:=by kernel_rfl
abbrev zK3 : List (String × DataW Unit) := [("math/bits.deBruijn32tab", Rows.laid_math_bits_deBruijn32tab), ("math/bits.deBruijn64tab", Rows.laid_math_bits_deBruijn64tab), ("internal/strconv.uint64pow10", Rows.laid_internal_strconv_uint64pow10), ("unicode/utf8.acceptRanges", Rows.laid_unicode_utf8_acceptRanges), ("strconv.ErrRange", Rows.laid_strconv_ErrRange), ("strconv.ErrSyntax", Rows.laid_strconv_ErrSyntax), ("unicode.White_Space", Rows.laid_unicode_White_Space), ("strings.asciiSpace", Rows.laid_strings_asciiSpace), ("mortise/bin.bytesOf", Rows.laid_mortise_bin_bytesOf), ("mortise/bin.plain", Rows.laid_mortise_bin_plain), ("mortise/bin.numbered", Rows.laid_mortise_bin_numbered), ("mortise/wasm.signs", Rows.laid_mortise_wasm_signs), ("unicode/utf8.first", Rows.laid_unicode_utf8_first)]
end Go.Proofs.YtohfclafhegadaaGreatDoor
namespace Go
open Go.ChangeShapes Go.WideShapes Go.ChangeAt Go.RowKit
theorem zfx{P:Program}{w:World}:∀{l:List (String × DataW Unit)} {ps:List MemPlace} {n:String} {d:DataW Unit} {k:Nat},DataW.LaidVars P w l ps→l[k]?=some (n,d)→∃g t cs fuel p,P.globalNamed n=some g∧(P.globals[g]?).map (·.type)=some t∧w.var? P n=some cs∧DataW.trod (fun _=>()) P w 0 (fun _=>true) false fuel t cs.toList=some (d,p)
 | [],ps,n,d,k,h,hk=>by simp at hk
 | (n',d')::l,ps,n,d,k,h,hk=>by
  obtain⟨g,t,cs,fuel,p,q,h1,h2,h3,h4,h5,rfl⟩:=h
  cases k with
  | zero =>
   simp only[yc4,yaR.injEq,Prod.mk.injEq]at hk
   obtain⟨rfl,rfl⟩:=hk
   exact⟨g,t,cs,fuel,p,h1,h2,h3,h4⟩
  | succ k=>exact zfx h5 (by simpa using hk)
theorem zjh{g:List UInt8 × List UInt8→List Value}:∀(ls:List (List UInt8 × List UInt8)) (cs:List Value),cs.length=ls.length*2→(∀i (h:i<ls.length),(cs.drop (i*2)).take 2=g ls[i])→cs=(ls.map g).flatten
 | [],cs,h,_=>by simpa using h
 | l::ls,cs,h,hg=>by
  have h0:=hg 0 (by simp)
  have ih:=zjh (g:=g) ls (cs.drop 2) (by rw[ycJ,h,yac];omega) fun i hi=>by
   have:=hg (i+1) (ybn hi)
   rw[List.drop_drop]
   have e:2+i*2=(i+1)*2:=by omega
   rw[e];exact this
  simp only[yaL,yc8,←ih]
  simp at h0
  rw[←h0,ycX]
theorem ziC{H:Type}{enc:TypeId × Value→H}{P:Program}{w:World}{base:Nat}{sp:Nat→Bool}{held:Bool}{fuel:Nat}{t e u:TypeId}{n:Nat}{cs:List Value}{ls:List (List UInt8 × List UInt8)}{p:List MemPlace}
  (ht:P.underlying t=some (.array n e)) (he:P.underlying e=some (.array 2 u)) (hu:P.underlying u=some .string) (hcu:P.cellsOf u=1) (hce:P.cellsOf e=2) (hct:P.cellsOf t=n*2)
  (h:DataW.trod enc P w base sp held fuel t cs=some (.agg (ls.map fun l=>.agg [.lit (.string l.1),.lit (.string l.2)]),p)):cs=(ls.map fun l=>[Value.string ⟨l.1.toArray⟩,Value.string ⟨l.2.toArray⟩]).flatten:=by
 cases fuel with
 | zero=>simp[DataW.trod]at h
 | succ fuel =>
  simp only[DataW.trod,ht,hce,hct]at h
  split at h
  ·rename_i hl
   obtain⟨xs,hm,hx⟩:=ybB.1 h
   have hxs:xs.map (·.1)=ls.map fun l=>(DataW.agg [.lit (.string l.1),.lit (.string l.2)]:DataW H):=by
    have:=congrArg Prod.fst hx
    simpa using this
   have hxl:xs.length=n:=by simpa using Lib.mapM_length hm
   have hzl:ls.length=n:=by
    have:=congrArg ycd hxs
    simp at this
    omega
   refine zjh ls cs (by omega) fun i hi=>?_
   have hin:i<n:=by omega
   obtain⟨b,hb,hf⟩:=Lib.mapM_at hm i i (by simp[hin])
   obtain⟨b1,b2⟩:=b
   have hbe:b1=(DataW.agg ([ls[i].1,ls[i].2].map fun l=>.lit (.string l)):DataW H):=by
    have h2:(xs.map (·.1))[i]?=some b1:=by simp[hb]
    rw[hxs]at h2
    have h3:=h2
    rw[yc7,yau hi]at h3
    exact(yaR.inj h3).symm
   rw[hbe]at hf
   exact zkA he hu hcu hce hf
  ·cases h
theorem zuS{P:Program}{w:World}{fuel:Nat}{t:TypeId}{ms:Array (String × TypeId)}{cs:List Value}{nm:String}{d:DataW Unit}{p:List MemPlace}(ht:P.underlying t=some (.interface ms))
  (h:DataW.trod (fun _=>()) P w 0 (fun _=>true) false fuel t cs=some (.iface nm d,p)):∃u v,cs=[.iface u v]:=by
 cases fuel with
 | zero=>simp[DataW.trod]at h
 | succ fuel =>
  rw[DataW.trod_step]at h
  unfold DataW.trodStep at h
  rw[ht]at h
  split at h<;>simp_all
end Go
namespace Go.Proofs.YtohfclafhegadaaGreatDoor
open Go Go.Abs Go.RowKit Go.ChangeShapes Go.WideShapes
def zfy:List Value:=(signs.map fun p=>[Value.string ⟨p.1.toArray⟩,Value.string ⟨p.2.toArray⟩]).flatten
theorem zh4{M F}{w:World}:∀(ls:List (List UInt8 × List UInt8)) (j:Nat) (h:j<((ls.map fun p=>[ycn p.1,ycn p.2]).flatten).length),
  ∃c,((ls.map fun p=>[Value.string ⟨p.1.toArray⟩,Value.string ⟨p.2.toArray⟩]).flatten)[j]?=some c∧VR M F w ((ls.map fun p=>[ycn p.1,ycn p.2]).flatten)[j] c
 | [],j,h=>by simp at h
 | l::ls,j,h=>by
  simp only[yaL,yc8,ycp,ycE]at h ⊢
  match j with
  | 0=>exact⟨_,rfl,by simpa using VR.str (M:=M) (F:=F) (w:=w) ⟨l.1.toArray⟩⟩
  | 1=>exact⟨_,rfl,by simpa using VR.str (M:=M) (F:=F) (w:=w) ⟨l.2.toArray⟩⟩
  | j+2=>simpa using zh4 ls j (by simpa using h)
def GT(lp ln:List (UInt8 × W))(m:Int)(u:TypeId):Env where
 g:=fun x=>match x with
  | 0=>.pv (.stat true) (.agg zdM)
  | 1=>.pv (.stat true) (.agg [.str zHr,.str zHs])
  | 2=>.pv (.stat true) (.mp (zuq lp) (zur lp))
  | 3=>.pv (.stat true) (.mp (zuq ln) (zur ln))
  | 6=>.pv (.stat true) (.iface u .undef)
  | 10=>.pv (.stat true) (.agg zch)
  | 11=>.pv (.stat true) (.int .i64 m)
  | _=>.undef
 has:=fun _=>False
 y:=fun _ _ _ _ _=>False
 fix:=fun B=>if B=9 then some (Lib.pow10Tab.map fun z=>Value.int .u64 z).toArray else none
structure WOk(lp ln:List (UInt8 × W))(m:Int)(u:TypeId)(w:World):Prop where
 g:GOk yb9 (GT lp ln m u) (Mp.all w) AS.zero.F w
 p:lp.Perm zlL
 n:ln.Perm zEp
def spZ:List Int:=(List.range 256).map fun c=>if zeR (UInt8.ofNat c)then 1 else 0
theorem zno:laidOutB yb9=true:=by kernel_rfl
end Go.Proofs.YtohfclafhegadaaGreatDoor
namespace Go.Proofs.YtohfclafhegadaaGreatDoor
open Go Go.Abs Go.RowKit
abbrev zEZ : List String := ["unicode/utf8.first"]
abbrev zKI:List Nat:=(List.range 26).filter fun b=>b != 7
noncomputable def zfz(os:Os):World:=(World.doorLaid yb9 400 os).layVars yb9 (zK3.filter fun x=>zEZ.contains x.1)
end Go.Proofs.YtohfclafhegadaaGreatDoor
namespace Go.Proofs.YtohfclafhegadaaGreatDoor
open Go Go.Abs Go.RowKit Go.ChangeShapes Go.WideShapes
abbrev zrq : List (String × DataW Unit) := [("math/bits.deBruijn32tab", Rows.laid_math_bits_deBruijn32tab), ("math/bits.deBruijn64tab", Rows.laid_math_bits_deBruijn64tab), ("internal/strconv.uint64pow10", Rows.laid_internal_strconv_uint64pow10), ("unicode/utf8.acceptRanges", Rows.laid_unicode_utf8_acceptRanges), ("strconv.ErrRange", Rows.laid_strconv_ErrRange), ("strconv.ErrSyntax", Rows.laid_strconv_ErrSyntax), ("unicode.White_Space", Rows.laid_unicode_White_Space), ("strings.asciiSpace", Rows.laid_strings_asciiSpace), ("mortise/wasm.signs", Rows.laid_mortise_wasm_signs), ("unicode/utf8.first", Rows.laid_unicode_utf8_first)]
def GW(m:Int)(u:TypeId):Env where
 g:=fun x=>match x with
  | 0=>.pv (.stat true) (.agg zdM)
  | 6=>.pv (.stat true) (.iface u .undef)
  | 10=>.pv (.stat true) (.agg zch)
  | 11=>.pv (.stat true) (.int .i64 m)
  | _=>.undef
 has:=fun _=>False
 y:=fun _ _ _ _ _=>False
 fix:=fun B=>if B=9 then some (Lib.pow10Tab.map fun z=>Value.int .u64 z).toArray else none
theorem zK4(m u):zb6 (GW m u):=⟨rfl,⟨u,.undef,rfl⟩,rfl⟩
theorem zK5(m u):zkj (GW m u):=⟨rfl,m,rfl⟩
theorem zuT(m:Int)(u:TypeId):∀k,StillI ((GW m u).g k):=by
 intro k
 match k with
 | 0 =>
  exact .pv _ _ fun c hc=>by
   simp only[AV.cells,zdM,yaV]at hc
   obtain⟨x,_,rfl⟩:=hc
   exact .int _ _
 | 1=>exact .undef
 | 2=>exact .undef
 | 3=>exact .undef
 | 4=>exact .undef
 | 5=>exact .undef
 | 6 =>
  exact .pv _ _ fun c hc=>by
   simp only[AV.cells,ycA]at hc
   subst hc
   exact .iface _ _ .undef
 | 7=>exact .undef
 | 8=>exact .undef
 | 9=>exact .undef
 | 10 =>
  exact .pv _ _ fun c hc=>by
   simp only[AV.cells,zch,List.mem_flatten,yaV]at hc
   obtain⟨l,⟨x,_,rfl⟩,hc⟩:=hc
   simp only[ybC,ycz,or_false]at hc
   rcases hc with rfl|rfl<;>exact .str _
 | 11 =>
  exact .pv _ _ fun c hc=>by
   simp only[AV.cells,ycA]at hc
   subst hc
   exact .int _ _
 | n+12=>exact .undef
theorem zl7{W:World}(hs:W.ShapedOpen yb9)(hl:laidMetH yb9 zrq W):∃m u,GOk yb9 (GW m u) (Mp.all W) AS.zero.F W:=by
 have hl0:laidMet yb9 zrq W:=hl
 obtain⟨ps,hv,_⟩:=hl0
 obtain⟨g0,t0,cs0,fuel0,p0,a1,a2,a3,a4⟩:=zfx (k:=7) hv rfl
 obtain⟨g6,t6,cs6,fuel6,p6,e1,e2,e3,e4⟩:=zfx (k:=4) hv rfl
 obtain⟨g9,t9,cs9,fuel9,p9,f1,f2,f3,f4⟩:=zfx (k:=2) hv rfl
 obtain⟨g10,t10,cs10,fuel10,p10,h1,h2,h3,h4⟩:=zfx (k:=8) hv rfl
 obtain rfl : 0 = g0 := Option.some.inj ((show Tryz.prog.globalNamed "strings.asciiSpace" = some 0 by kernel_rfl).symm.trans a1)
 obtain rfl : 6 = g6 := Option.some.inj ((show Tryz.prog.globalNamed "strconv.ErrRange" = some 6 by kernel_rfl).symm.trans e1)
 obtain rfl : 9 = g9 := Option.some.inj ((show Tryz.prog.globalNamed "internal/strconv.uint64pow10" = some 9 by kernel_rfl).symm.trans f1)
 obtain rfl : 10 = g10 := Option.some.inj ((show Tryz.prog.globalNamed "mortise/wasm.signs" = some 10 by kernel_rfl).symm.trans h1)
 obtain rfl:135=t0:=yaR.inj ((show(yb9.globals[0]?).map (·.type)=some 135 by kernel_rfl).symm.trans a2)
 obtain rfl:139=t6:=yaR.inj ((show(yb9.globals[6]?).map (·.type)=some 139 by kernel_rfl).symm.trans e2)
 obtain rfl:282=t9:=yaR.inj ((show(yb9.globals[9]?).map (·.type)=some 282 by kernel_rfl).symm.trans f2)
 obtain rfl:287=t10:=yaR.inj ((show(yb9.globals[10]?).map (·.type)=some 287 by kernel_rfl).symm.trans h2)
 have k0:cs0.toList=spZ.map fun z=>Value.int .u8 z:=Lib.cells_of_tab (n:=256) (e:=5) (k:=.u8) Tryz.underlying135 Tryz.underlying5 (by kernel_rfl) (by kernel_rfl) (zs:=spZ) (by have:=a4;exact this)
 obtain⟨u,ev,hc6⟩:=zuS Tryz.underlying139 e4
 have k9:cs9.toList=Lib.pow10Tab.map fun z=>Value.int .u64 z:=Lib.cells_of_tab (n:=20) (e:=174) (k:=.u64) Tryz.underlying282 Tryz.underlying174 (by kernel_rfl) (by kernel_rfl) (zs:=Lib.pow10Tab) (by have:=f4;exact this)
 have k10:cs10.toList=zfy:=ziC (n:=16) (e:=182) (u:=9) (ls:=signs) Tryz.underlying287 Tryz.underlying182 Tryz.underlying9 (by kernel_rfl) (by kernel_rfl) (by kernel_rfl) h4
 obtain⟨m,hm⟩:=Tryz.laysM143.s1_3 W hs
 have cell:∀(nm:String) (g:Nat) (cs:Array Value),yb9.globalNamed nm=some g→W.var? yb9 nm=some cs→∀j,W.cell? ⟨g,j,none⟩=cs.toList[j]?:=fun nm g cs h1 h2 j=>by
  have:=World.var?_cell h1 h2 j
  rw[Array.getElem?_toList]
  simpa using this
 have v0:=cell _ 0 cs0 a1 a3
 have v6:=cell _ 6 cs6 e1 e3
 have v10:=cell _ 10 cs10 h1 h3
 rw[k0]at v0
 rw[hc6]at v6
 rw[k10]at v10
 have l11:11<W.heap.size:=World.block_lt_of_cell? W _ hm
 refine⟨m,u,⟨fun x=>?_,fun _ h=>h.elim,fun B c h=>?_⟩⟩
 ·match x with
  | 0 =>
   have hl:zdM=spZ.map (yco .u8):=by simp[zdM,spZ]
   refine .pv _ _ 0 0 (fun j=>(spZ.map fun z=>Value.int .u8 z).getD j undef) (by simp[Mem,Mp.all];omega) (fun _ j hj=>?_) (fun _ j hj=>?_)
   ·have hj':j<(spZ.map fun z=>Value.int .u8 z).length:=by
     have:j<zdM.length:=hj
     rw[hl]at this
     simpa using this
    rw[yc3,v0 j,ycf,yau hj']
    rfl
   ·have hj':j<spZ.length:=by
     have:j<zdM.length:=hj
     rw[hl]at this
     simpa using this
    have:((AV.agg zdM).cells[j]'hj)=.int .u8 spZ[j]:=by simp[AV.cells,hl]
    rw[this,ycf,yc7,yau hj']
    exact .int ..
  | 1=>exact .undef _
  | 2=>exact .undef _
  | 3=>exact .undef _
  | 4=>exact .undef _
  | 5=>exact .undef _
  | 6 =>
   refine .pv _ _ 6 0 (fun j=>.iface u ev) (by simp[Mem,Mp.all];omega) (fun _ j hj=>?_) (fun _ j hj=>?_)
   ·have hj':j=0:=by simpa using hj
    subst hj'
    exact v6 0
   ·have hj':j=0:=by simpa using hj
    subst hj'
    exact .iface _ _ _ (.undef _)
  | 7=>exact .undef _
  | 8=>exact .undef _
  | 9=>exact .undef _
  | 10 =>
   refine .pv _ _ 10 0 (fun j=>zfy.getD j undef) (by simp[Mem,Mp.all];omega) (fun _ j hj=>?_) (fun _ j hj=>?_)
   ·obtain⟨c,h1,_⟩:=zh4 (M:=Mp.all W) (F:=AS.zero.F) (w:=W) signs j hj
    rw[yc3,v10 j,ycf]
    show zfy[j]?=_
    have h1':zfy[j]?=some c:=h1
    rw[h1'];rfl
   ·obtain⟨c,h1,h2⟩:=zh4 (M:=Mp.all W) (F:=AS.zero.F) (w:=W) signs j hj
    have h1':zfy[j]?=some c:=h1
    rw[ycf,h1']
    exact h2
  | 11 =>
   refine .pv _ _ 11 0 (fun j=>.int .i64 m) (by simp[Mem,Mp.all,l11]) (fun _ j hj=>?_) (fun _ j hj=>?_)
   ·have hj':j=0:=by simpa using hj
    subst hj'
    exact hm
   ·have hj':j=0:=by simpa using hj
    subst hj'
    exact VR.int ..
  | n+12=>exact .undef _
 ·simp only[GW]at h
  split at h
  ·rename_i hB
   subst hB
   cases h
   refine⟨by simp[Mp.all];omega,?_⟩
   have hq:cs9=(Lib.pow10Tab.map fun z=>Value.int .u64 z).toArray:=by
    rw[←k9]
   rw[←hq]
   have:=f3
   simp only[World.var?,f1]at this
   rw[Option.bind_some]at this
   split at this
   ·rename_i cs elem frozen hh
    cases this
    exact⟨_,_,hh⟩
   ·cases this
  ·cases h
theorem zps(os:Os):laidMet yb9 zrq (zfz os) :=
 laidMet_layVars (w0:=World.doorLaid yb9 400 os) zEZ zKI rfl (by kernel_rfl) (by kernel_rfl) (LaidIn.of_run zKI 8 (by kernel_rfl) (by kernel_rfl) (by kernel_rfl) (by kernel_rfl))
theorem zrr(os:Os)(args:Array Value):laidMetH yb9 zrq ((zfz os).forCall (fun _ _=>0) ⟨#[],args,[]⟩).memory :=
 show laidMet yb9 zrq _ from(zps os).of_heap (by simp[World.memory,World.forCall,Input.heap])
structure zyh(f:F):Prop where
 params:f.params.length≤2^20
 locals:f.locals.length≤2^20
 lists:f.lists.length≤2^20
 rows:∀l∈f.lists,l.length≤2^20
 name:f.name.length<2^40
 nums:∀l∈f.lists,∀w∈l,w.n≤2^63-1
def zHy(f:F):Prop:=f.params.length+f.locals.length+f.lists.length+zfk id f.lists≤3000∧zhF 24 f.name=true
structure Few(m:M):Prop where
 funcs:m.funcs.length≤40
 each:∀f∈m.funcs,zHy f
 good:zaB m=.ok ()
def BgO(fv:AV)(m:M)(mb:Nat)(σ1:AS)(a:Nat→AV)(τ:AS):Prop:=∃(i z:Nat),i≤m.funcs.length∧z≤3000∧a 1=.ptr mb 0∧a 3=.int .i64 (z:Int)∧a 4=.int .i64 (i:Int)∧zh σ1 τ∧∀j f,j<i→m.funcs[j]?=some f→zHy f
def BgN(mb fb:Nat)(σ1:AS)(i:Nat)(f:F)(base:Nat)(a:Nat→AV)(τ:AS):Prop:=∃(k:Nat),k≤f.lists.length∧a 1=.ptr mb 0∧a 4=.int .i64 (i:Int)∧a 5=.ptr fb 0∧a 6=.int .i64 (k:Int)∧a 3=.int .i64 ((base+zfk id (f.lists.take k):Nat):Int)∧τ=σ1
section
variable {G : Env} {σ : AS} {R : Out → AS → Prop}
theorem zrs{m:M}(h1:m.funcs.length≤40)(h2:∀f∈m.funcs,zHy f)(h3:∀f∈m.funcs,zyh f):zpa m :=
 ⟨by omega,fun f hf=>by have:=(h2 f hf).1;omega,fun f hf=>by have:=(h2 f hf).1;omega,fun f hf=>by have:=(h2 f hf).1;omega,fun f hf=>(h3 f hf).rows,fun f hf=>(h3 f hf).nums⟩
theorem zuU{σ:AS}{v:AV}{l:List W}(h:Al.RepO σ v l)(K:AV→Prop):zgF yb9 54 v K=K (.int .i64 (l.length:Int)):=by
 rcases h with ⟨rfl,rfl⟩|⟨b,rfl,_⟩<;>simp
theorem zJh{mv:AV}{m:M}(V:zkj G)(hG:∀k,StillI (G.g k))(hy:∀l,¬G.has l)(hm:Al.MO σ mv m)(hfl:m.funcs.length≤2^20)(hf:∀f∈m.funcs,zyh f)(h:∀b σ',(b=false→Few m)→zh σ σ'→R (.ret (.bool b)) σ'):zzQ G 30 [mv] σ R:=by
 refine zw5 rfl ?_
 obtain⟨fv,rfl,hfs⟩:=hm
 have f1:=hfs.one
 have A1:zh σ (σ.newO [fv,yco yam m.memory,yco yam m.main]):=(zh.refl σ).newO
 have hf1:=hfs.keep A1
 have hm1:(σ.newO [fv,yco yam m.memory,yco yam m.main]).objs σ.no=some [fv,.int .i64 m.memory,.int .i64 m.main]:=by simp
 have hno1:(σ.newO [fv,yco yam m.memory,yco yam m.main]).no=σ.no+1:=by simp
 simp[zJL,f1]
 generalize σ.newO [fv,yco yam m.memory,yco yam m.main]=σ1 at *
 refine zas (BgO fv m σ.no σ1) (MU 4 (m.funcs.length+1)) ⟨0,0,by omega,by omega,by simp,by simp,by simp,.refl _,fun j f hj=>by omega⟩ fun a τ hI=>?_
 obtain⟨i,z,hi,hz,a1,a3,a4,A,hall⟩:=hI
 have hm2:=(A.obj σ.no (by omega)).trans hm1
 have hft:=hf1.keep A
 have hfl2:=hft.len
 by_cases hlt:i<m.funcs.length
 ·obtain⟨φ,rv,hrd,hfv,hix⟩:=hft.at hlt
  have hrd':=hrd.read
  have hmem:=yaw hlt
  have hget:m.funcs[i]?=some m.funcs[i]:=yau hlt
  obtain⟨q1,q2,q3,q4,q5,q6⟩:=hf _ hmem
  generalize m.funcs[i]=f at *
  obtain⟨pv,lv,tv,rfl,hp,hl,ht⟩:=hfv
  have p1:=hp.one
  have l1:=hl.one
  have t1:=ht.one
  have A3:zh τ ((τ.newO [ycn [],ycu,ycu,yco yam 0,ycu]).setO τ.no [ycn f.name,pv,lv,yco yam f.type,tv]):=((zh.refl τ).newO).setO (yah _)
  have hpl:=hp.len
  have hll:=hl.len
  have htl:=ht.len
  have w1:yb4 .i64 ((z:Int)+(f.params.length:Int))=(z:Int)+(f.params.length:Int):=by rw[zc]<;>omega
  have w2:yb4 .i64 ((z:Int)+(f.params.length:Int)+(f.locals.length:Int))=(z:Int)+(f.params.length:Int)+(f.locals.length:Int):=by rw[zc]<;>omega
  have w3:yb4 .i64 ((z:Int)+(f.params.length:Int)+(f.locals.length:Int)+(f.lists.length:Int))=(z:Int)+(f.params.length:Int)+(f.locals.length:Int)+(f.lists.length:Int):=by rw[zc]<;>omega
  have hlt':(i:Int)<(m.funcs.length:Int):=by omega
  have hmn:σ.no≠τ.no:=by have:=A.no;omega
  simp[zjV,a1,a3,a4,hm2,hfl2,f1,hlt,hlt',hix,hrd',p1,l1,t1,hpl,hll,htl,w1,w2,w3,splice]
  have hf3:((τ.newO [ycn [],ycu,ycu,yco yam 0,ycu]).setO τ.no [ycn f.name,pv,lv,yco yam f.type,tv]).objs τ.no=some [.str f.name,pv,lv,.int .i64 f.type,tv]:=by simp
  have ht3:=ht.keep A3
  generalize (τ.newO [ycn [],ycu,ycu,yco yam 0,ycu]).setO τ.no [ycn f.name,pv,lv,yco yam f.type,tv]=σ3 at *
  have htl3:=ht3.len
  refine zas (BgN σ.no τ.no σ3 i f (z+f.params.length+f.locals.length+f.lists.length)) (MU 6 (f.lists.length+1)) ⟨0,by omega,by simp[a1],by simp[a4],by simp,by simp,by simp[zfk],rfl⟩ fun b ρ hJ=>?_
  obtain⟨k,hk,b1,b4,b5,b6,b3,rfl⟩:=hJ
  have hB:=zpe (ls:=f.lists.take k) (B:=2^20) fun l hl=>q4 l (yaB hl)
  have hkk:(f.lists.take k).length≤2^20:=by rw[ybf];omega
  have hB2:zfk id (f.lists.take k)≤2^20*2^20:=yai hB (Nat.mul_le_mul_right _ hkk)
  by_cases hkl:k<f.lists.length
  ·obtain⟨φ2,rv,hrd2,hrep,hix2⟩:=ht3.at hkl
   have hrd2':=hrd2.read
   have hrl:=q4 _ (yaw hkl)
   have r1:=hrep.one
   have hrlen:=zuU hrep
   have hkl':(k:Int)<(f.lists.length:Int):=by omega
   have w5:yb4 .i64 ((k:Int)+1)=((k+1:Nat):Int):=by rw[zc]<;>omega
   have w6:yb4 .i64 (((z+f.params.length+f.locals.length+f.lists.length+zfk id (f.lists.take k):Nat):Int)+(f.lists[k].length:Int))=((z+f.params.length+f.locals.length+f.lists.length+zfk id (f.lists.take (k+1)):Nat):Int):=by
    rw[ziy hkl,zc]<;>omega
   generalize ((z+f.params.length+f.locals.length+f.lists.length+zfk id (f.lists.take k):Nat):Int)=y at *
   simp[zjU,b1,b4,b5,b6,b3,hf3,htl3,hkl,hkl',hix2,hrd2',r1,hrlen,w5,w6]
   refine⟨⟨k+1,by omega,by simp[b1],by simp[b4],by simp[b5],by simp,by simp,rfl⟩,?_⟩
   simp only[MU,b6];simp;omega
  ·have he:k=f.lists.length:=by omega
   subst he
   rw[List.take_length]at b3 hB2
   have w5:yb4 .i64 ((i:Int)+1)=((i+1:Nat):Int):=by rw[zc]<;>omega
   generalize hy2:z+f.params.length+f.locals.length+f.lists.length+zfk id f.lists=y at *
   by_cases hbig:(3000:Int)<(y:Int)
   ·have hbig':3000<y:=by omega
    simp[zjU,zmK,b5,b6,b3,hf3,htl3,hbig,hbig']
    exact h true _ (by simp) (A1.trans (A.trans A3))
   ·have hbig':¬3000<y:=by omega
    simp[zjU,zmK,b5,b6,b3,hf3,htl3,hbig,hbig']
    refine zEk q5 ?_
    cases htg:zhF 24 f.name with
    | false =>
     simp
     exact h true _ (by simp) (A1.trans (A.trans A3))
    | true =>
     simp[zql,b4,w5]
     refine⟨⟨i+1,y,by omega,by omega,by simp[b1],by simp[b3],by simp,A.trans A3,fun j g hj hg=>?_⟩,?_⟩
     ·by_cases ej:j=i
      ·subst ej
       rw[hget]at hg
       cases hg
       exact⟨by omega,htg⟩
      ·exact hall j g (by omega) hg
     ·simp only[MU,a4];simp;omega
 ·have he:i=m.funcs.length:=by omega
  subst he
  have hfew:∀f∈m.funcs,zHy f:=fun f hf=>by
   obtain⟨j,hj,rfl⟩:=ycx.1 hf
   exact hall j _ hj (yau hj)
  by_cases hb:(40:Int)<(m.funcs.length:Int)
  ·have hb':40<m.funcs.length:=by omega
   simp[zjV,zmL,a1,a4,hm2,hfl2,f1,hb,hb']
   exact h true _ (by simp) (A1.trans A)
  ·have hb':¬40<m.funcs.length:=by omega
   simp[zjV,zmL,a1,a4,hm2,hfl2,f1,hb,hb']
   refine zlK V hG hy (m:=m) ⟨fv,rfl,hft⟩ (zrs (by omega) hfew hf) ?_
   cases hck:zaB m with
   | error e =>
    have hne:¬e=0:=fun q=>by
     have:=zuQ (m:=m) (by rw[hck];exact q)
     rw[hck]at this
     cases this
    simp[zmW,hne]
    exact h true _ (by simp) (A1.trans A)
   | ok u =>
    simp[zmW]
    exact h false _ (fun _=>⟨by omega,hfew,hck⟩) (A1.trans A)
def MnI(m:M)(o:Nat)(fv:AV)(σ:AS)(a:Nat→AV)(τ:AS):Prop:=∃i:Nat,i≤m.funcs.length∧(∀f∈m.funcs.take i,f.lists.length≤400)∧a 1=.ptr o 0∧a 3=.int .i64 (i:Int)∧τ.objs o=some [fv,.int .i64 m.memory,.int .i64 m.main]∧τ=σ
theorem zE0{m:M}{mv:AV}(hm:Al.MO σ mv m)(hl:m.funcs.length≤2^40)(hn:∀f∈m.funcs,f.lists.length<2^40)(h:∀b σ',(b=false→∀f∈m.funcs,f.lists.length≤400)→zh σ σ'→R (.ret (.bool b)) σ'):zzQ G 33 [mv] σ R:=by
 refine zw6 rfl ?_
 obtain⟨fv,rfl,hfv⟩:=hm
 have f1:=hfv.one
 have A1:zh σ (σ.newO [fv,.int .i64 m.memory,.int .i64 m.main]):=(zh.refl σ).newO
 have hf1:=hfv.keep A1
 have o1:(σ.newO [fv,.int .i64 m.memory,.int .i64 m.main]).objs σ.no=some [fv,.int .i64 m.memory,.int .i64 m.main]:=by simp
 simp[zJM,f1]
 generalize σ.newO [fv,.int .i64 m.memory,.int .i64 m.main]=σ1 at *
 have fl:=hf1.len
 refine zas (MnI m σ.no fv σ1) (MU 3 (m.funcs.length+1)) ⟨0,ycj _,by simp,by simp,by simp,o1,rfl⟩ fun a τ hI=>?_
 obtain⟨i,hi,hok,a1,a3,ho,rfl⟩:=hI
 by_cases hlt:i<m.funcs.length
 ·obtain⟨φ,row,hr,hrow,hat⟩:=hf1.at hlt
  have hr':=hr.read
  have hlti:(i:Int)<(m.funcs.length:Int):=by omega
  have w1:yb4 .i64 ((i:Int)+1)=((i+1:Nat):Int):=by rw[zc]<;>omega
  have hmem:m.funcs[i]∈m.funcs:=yaw hlt
  have htk:m.funcs.take (i+1)=m.funcs.take i++[m.funcs[i]]:=List.take_succ_eq_append_getElem hlt
  have hnf:=hn _ hmem
  generalize hf:m.funcs[i]=f at *
  obtain⟨pv,lv,tv,rfl,_,_,ht⟩:=hrow
  have t1:=ht.one
  have tl:=ht.len
  by_cases hb:(400:Int)<(f.lists.length:Int)
  ·have hb':400<f.lists.length:=by omega
   simp[zjW,a1,a3,ho,f1,fl,hlt,hlti,hat,hr',t1,tl,hb,hb']
   exact h true _ (by simp) A1
  ·have hb':¬400<f.lists.length:=by omega
   simp[zjW,a1,a3,ho,f1,fl,hlt,hlti,hat,hr',t1,tl,hb,hb',w1]
   refine⟨⟨i+1,hlt,fun g hg=>?_,by simp[a1],by simp,ho,rfl⟩,?_⟩
   ·rw[htk,ybh,ycA]at hg
    rcases hg with hg|rfl
    ·exact hok g hg
    ·omega
   ·simp[MU,a3];omega
 ·have e:i=m.funcs.length:=by omega
  simp[zjW,zqm,a1,a3,ho,f1,fl,e]
  exact h false _ (fun _ f hf=>hok f (by rw[e,ycN (yah _)];exact hf)) A1
end
end Go.Proofs.YtohfclafhegadaaGreatDoor
