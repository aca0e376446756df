/- Parts of the proof of the row BinAgain: contracts of functions, each under the conditions that its theorem names. -/
import Derived.Test.YtohfclafhegadaaGreatDoorZC
import Derived.Lib.ItoaLen
import Derived.Test.YtohfclafhegadaaGreatDoorZA
import Derived.Test.YtohfclafhegadaaGreatDoorTie
import Derived.ProofKit
import Derived.OpenShut
import Derived.ChangeOld
import Derived.ChangeSame
import Derived.ChangeVars
import Derived.Lib.LaidTab
import Derived.LaidLaws
import Derived.LaidHandle
import Derived.ShapedOpen
import Derived.Lay
import Derived.LaidMore
import Derived.Test.YtohfclafhegadaaGreatDoorCards
set_option linter.unusedSimpArgs false
set_option linter.unusedVariables false
set_option maxRecDepth 100000
open List renaming length_append→yab,length_cons→yac,nil_append→ycQ,length_nil→ybl,mem_cons→ybC,map_cons→yaL,sum_cons→yck,length→yce,drop_eq_getElem_cons→ycq,append_assoc→yc2,drop_eq_nil_of_le→yds,append_nil→yb7,getElem?_eq_some_iff→yaq,getElem_mem→yaw,mem_singleton→ycD,cons_append→ycP,all_eq_true→yaM,not_mem_nil→ycC,replicate→yaj,all_append→ycb,length_map→ybb,getElem?_eq_getElem→yau,mem_map_of_mem→yaW,mem_map→yaV,getElem?_map→ycB,getElem?_eq_none→yb2,cons→ydw,getElem_map→yak,flatten_cons→yc4,getD_eq_getElem?_getD→ycg
open Nat renaming le_refl→yah,succ_lt_succ→ybn,div_add_mod'→ydu,zero_add→ycX
open Option renaming bind_eq_some_iff→ybA,map_eq_some_iff→ybB,some→yaR,map_some→yaG
open Array renaming getElem?_eq_some_iff→yaU
open Go.Proofs.Tryz renaming prog→yb9,underlying5→ydv,underlying53→ydx,underlying9→ydy,underlying184→ydz,underlying182→ydA
open Go.IntKind renaming wrap→yb4
open Go.Abs.AV renaming int→ycp,str→yco,pv→ydt,nilsl→ycv
namespace Go.Proofs.YtohfclafhegadaaGreatDoor
open Go Go.Abs
theorem zdM(c:Prop)[Decidable c](x y:List UInt8)(h1:x.length≤24)(h2:y.length≤24):(if c then x else y).length≤24:=by split<;>assumption
theorem zt6{w:W}(hf:zdg w=true)(hn:zbj w=false):(zY w).length≤24:=by
 obtain⟨f1,f2,f3,f4,f5⟩:=zpB hf
 have tl:=zjM w.ty
 by_cases e4:w.op=4
 ·have hs:=zhg w.name (f5 e4)
  have e:zY w=zI w.ty++46::w.name:=by simp[zY,e4]
  rw[e]
  simp only[yab,yac,tl]
  omega
 ·unfold zY
  rw[if_neg e4]
  have a:∀x:List UInt8,x.length≤21→(zI w.ty++x).length≤24:=fun x hx=>by rw[yab,tl];omega
  refine zdM _ _ _ (a _ (by decide)) (zdM _ _ _ (by decide) (zdM _ _ _ (by decide) (zdM _ _ _ (by decide) (zdM _ _ _ (by decide) (zdM _ _ _ (by decide) (zdM _ _ _ (a _ (by decide)) (zdM _ _ _ (by decide) (zdM _ _ _ (by decide) (zdM _ _ _ (a _ ?_) (zdM _ _ _ (a _ ?_) (zdM _ _ _ (by decide) (zdM _ _ _ (by decide) (by decide)))))))))))))
  ·split<;>decide
  ·split<;>decide
theorem zt7{w:W}(hf:zdg w=true)(hn:zbj w=false)(hr:RgW w):(spT (zgE w)).length≤64:=by
 have h1:=zt6 hf hn
 have h2:=Lib.itoa_length_le w.n (by have:=hr.1;omega) (by have:=hr.2;omega)
 unfold zgE
 split
 ·simp[spT];omega
 ·simp[spT];omega
theorem zHp{ls:To}{d:Nat}{ws:List W}{acc acc':To}{toks:List Tok}{out:List W}(h:Pr ls d ws acc toks out acc'):(spT toks).length+64*zcX acc≤64*(out.length+zcX acc'):=by
 induction h with
 | nil=>simp[spT]
 | leaf h1 h2 h3 _ ih =>
  have:=zt7 h2 h1 h3
  rw[zk,yab,yac]
  omega
 | @one d w b r acc tb b' acc1 t r' acc' _ _ _ _ _ _ ih1 ih2 =>
  have hol:(zbz w.op).length≤5:=by unfold zbz;split<;>(try split)<;>decide
  have e1:zbz w.op::(tb++zdp::t)=[zbz w.op]++(tb++([zdp]++t)):=rfl
  have e2:(spT [zbz w.op]).length=(zbz w.op).length+1:=by simp[spT]
  have e3:(spT [zdp]).length=4:=rfl
  rw[e1,zk,zk,zk]
  rw[zfq]at ih2
  simp only[yab,yac]
  omega
 | @two d w b e r acc tb b' acc1 te e' acc2 t r' acc' _ _ _ _ _ _ _ _ _ ih1 ih2 ih3 =>
  have e1:tIf::(tb++zcB::(te++zdp::t))=[tIf]++(tb++([zcB]++(te++([zdp]++t)))):=rfl
  have e2:(spT [tIf]).length=3:=rfl
  have e3:(spT [zdp]).length=4:=rfl
  have e4:(spT [zcB]).length=5:=rfl
  rw[e1,zk,zk,zk,zk,zk]
  rw[zfq]at ih2 ih3
  simp only[yab,yac]
  omega
theorem zn5{st:Bool}{f f':F}{s s':Rs}(h:z9 st f s=some (f',s')):∃toks,PrF f' toks f'.lists∧zcX f'.lists+s'.b.length≤s.b.length∧(spT toks).length≤64*zcX f'.lists:=by
 unfold z9 at h
 simp only[ybA,ybB]at h
 obtain⟨⟨n1,s1⟩,h1,⟨n2,s2⟩,h2,⟨g,s3⟩,h3,⟨⟨n,e⟩,s4⟩,h4,h5⟩:=h
 simp only[Prod.mk.injEq]at h5
 obtain⟨rfl,rfl⟩:=h5
 have l1:=zL h1
 have l2:=zL h2
 have l3:=zfp h3
 obtain⟨out,toks,acc,q1,q2,q3,q4⟩:=zfr (fin:=s4.ls) _ _ _ _ _ _ _ h4 (List.prefix_refl _)
 simp only[ycQ]at q1
 have hlen:=zHp q3
 simp only[zcX,List.map_nil,List.sum_nil,ybl]at q4 hlen
 refine⟨toks,⟨out,out,acc,?_,q3,q1⟩,?_,?_⟩
 ·show s4.ls[s4.ls.length-1]?=some out
  rw[q1];simp
 ·show zcX s4.ls+s4.b.length≤s.b.length
  simp only[zcX]at *
  omega
 ·show(spT toks).length≤64*zcX s4.ls
  have e2:zcX s4.ls=zcX acc+out.length:=by rw[q1,zfq]
  rw[e2]
  simp only[zcX]at *
  omega
def zem(fs:List F):Nat:=(fs.map fun f=>zcX f.lists).sum
theorem zeb{st:Bool}:∀{hs fs:List F} {s s':Rs},zF st hs s=some (fs,s')→(∀f∈fs,∃toks,PrF f toks f.lists∧(spT toks).length≤64*zcX f.lists)∧zem fs+s'.b.length≤s.b.length
 | [],fs,s,s',h=>by cases h;exact⟨fun f hf=>(by cases hf),by simp[zem]⟩
 | f::hs,fs,s,s',h=>by
  rw[zF]at h
  simp only[ybA,ybB]at h
  obtain⟨⟨f',s1⟩,h1,⟨fs',s2⟩,h2,h3⟩:=h
  cases h3
  obtain⟨toks,p1,p2,p3⟩:=zn5 h1
  obtain⟨q1,q2⟩:=zeb h2
  refine⟨fun g hg=>?_,?_⟩
  ·rcases ybC.1 hg with rfl|hg
   ·exact⟨toks,p1,p3⟩
   ·exact q1 g hg
  ·simp only[zem,yaL,yck]at *
   omega
theorem zk0(kw:Tok)(l:List Int)(h:kw.length≤6):(spT (zR kw l)).length≤4*l.length+12:=by
 unfold zR
 split
 ·simp[spT]
 ·have e:zC::kw::(l.map zI++[zh])=[zC]++([kw]++(l.map zI++[zh])):=rfl
  have e1:(spT [zC]).length=2:=rfl
  have e2:(spT [zh]).length=2:=rfl
  have e3:(spT [kw]).length=kw.length+1:=by simp[spT]
  rw[e,zk,zk,zk]
  simp only[yab,zjN]
  omega
theorem zt8:∀(fs:List F),(∀f∈fs,(∃toks,PrF f toks f.lists∧(spT toks).length≤64*zcX f.lists)∧f.name.length≤24)→∃toks,PrFs fs toks fs∧(spT toks).length≤64*zem fs+4*(zab fs+zdk fs)+100*fs.length
 | [],_=>⟨[],.nil,by simp[spT]⟩
 | f::fs,h=>by
  obtain⟨⟨t1,p1,p2⟩,p3⟩:=h f (by simp)
  obtain⟨t2,q1,q2⟩:=zt8 fs fun g hg=>h g (by simp[hg])
  refine⟨zjq f t1++t2,.cons p1 q1,?_⟩
  have e:zjq f t1=[zC,zbR,36::f.name]++(zR zcy f.params++(zmn f.type++(zR zbi f.locals++(t1++[zh])))):=rfl
  have e1:(spT [zC,zbR,36::f.name]).length=9+f.name.length:=by
   have:spT [zC,zbR,36::f.name]=spT [zC,zbR]++spT [36::f.name]:=by rw[←zk];rfl
   rw[this,yab]
   have a:(spT [zC,zbR]).length=7:=rfl
   have b:(spT [36::f.name]).length=f.name.length+2:=by simp[spT]
   omega
  have e2:=zk0 zcy f.params (by decide)
  have e3:=zk0 zbi f.locals (by decide)
  have e4:(spT (zmn f.type)).length≤20:=by
   unfold zmn zI
   split
   ·decide
   ·split<;>decide
  have e5:(spT [zh]).length=2:=rfl
  rw[zk,yab,e,zk,zk,zk,zk,zk]
  simp only[yab,zem,zab,zdk,yaL,yck,yac]at *
  omega
theorem zt9{b:List UInt8}{m:M}{s':Rs}(h:zb4 ⟨b,[],0⟩=some (m,s'))(hb:b.length≤2^14)(hn:∀f∈m.funcs,f.name.length≤24):∃toks,PrFs m.funcs toks m.funcs∧(spT toks).length≤2^24:=by
 unfold zb4 at h
 simp only[ybA,ybB]at h
 obtain⟨⟨⟨hs,mem,mn⟩,s1⟩,h3,⟨fs,s2⟩,h4,h5⟩:=h
 simp only[Prod.mk.injEq]at h5
 obtain⟨rfl,rfl⟩:=h5
 obtain⟨a1,a2,a3,a4⟩:=zf1 h3
 have a5:=zf3 h3
 obtain⟨b1,b2⟩:=zhn h4 fun f hf=>(a1 f hf).1
 have b2:=b2 a4
 unfold zmj at h4
 simp only[ybA]at h4
 obtain⟨s4,h6,⟨c,s5⟩,h7,h8⟩:=h4
 split at h8
 ·simp only[ybA]at h8
  obtain⟨⟨fs1,s6⟩,h9,s7,h10,s8,h11,⟨xx,s9⟩,h12,⟨y,s10⟩,h13,h14⟩:=h8
  split at h14
  ·obtain⟨c1,c2⟩:=zeb h9
   have cl:=(zav h9 fun f hf=>(a1 f hf).1).2.2.2
   have hnn:=zcS h14
   have l1:=zal h6
   have l2:=zL h7
   have hpn:=zdn hnn
   have hpf:=zdc h9
   have hlen:fs.length=fs1.length:=by have:=congrArg yce hnn;simpa using this
   have hrow:zem fs=zem fs1:=by
    have:∀l:List F,zem l=((l.map zch).map fun f=>zcX f.lists).sum:=fun l=>by simp only[zem,List.map_map];rfl
    rw[this,this,hnn]
   obtain⟨toks,t1,t2⟩:=zt8 fs fun f hf=>by
    obtain⟨g,hg,e⟩:=zfi hnn hf
    have e3:g.lists=f.lists:=by have:=congrArg F.lists e;exact this
    obtain⟨tg,u1,u2⟩:=c1 g hg
    refine⟨⟨tg,?_,by rw[←e3];exact u2⟩,hn f hf⟩
    obtain⟨row,out,acc,v1,v2,v3⟩:=u1
    rw[e3]at v1 v2 v3
    exact⟨row,out,acc,v1,v2,v3⟩
   refine⟨toks,t1,?_⟩
   simp only at *
   omega
  ·cases h14
 ·cases h8
theorem zZ(t:List UInt8):(spT [t]).length=t.length+1:=by simp[spT]
section
variable {G : Env} {σ : AS} {R : Out → AS → Prop}
def zKk(G:Env)(σ0:AS)(x:Nat)(ls:To)(d:Nat):Prop:=∀(σ:AS) (R:Out→AS→Prop) (fv:AV) (f:F) (i:Int) (ws:List W) (toks:List Tok) (acc:To) (out:List W) (acc':To) (bs:List UInt8),f.lists=ls→Al.FVO σ0 fv f→Pw σ0 x bs σ→bs≠[]→0≤i→ls[i.toNat]?=some ws→Pr ls d ws acc toks out acc'→(bs++spT toks).length<2^45 →
 (∀σ' u,Pw σ0 x (bs++spT toks) σ'→PwK x σ σ'→R (.ret u) σ')→zzQ G 66 [.pt 88 2 x 0,fv,.int .i64 i] σ R
def LqI(σ0:AS)(x:Nat)(ls:To)(d:Nat)(fc:List AV)(o:Nat)(rv:AV)(ws:List W)(toks:List Tok)(acc':To)(bs:List UInt8)(σ:AS)(a:Nat→AV)(τ:AS):Prop:=∃(j:Nat) (t1 t2:List Tok) (acc1:To) (out1:List W),j≤ws.length∧toks=t1++t2∧Pr ls d (ws.drop j) acc1 t2 out1 acc' ∧
 a 0=.pt 88 2 x 0∧a 4=.ptr o 0∧a 14=rv∧a 15=.int .i64 (ws.length:Int)∧a 16=.int .i64 (j:Int)∧Pw σ0 x (bs++spT t1) τ∧PwK x σ τ∧τ.objs o=some fc∧o<τ.no∧o≠x
theorem zpC(V:zc2 G){σ0 x ls d}(IH:d<400→zKk G σ0 x ls (d+1)){f:F}{pv lv tv rv:AV}{ws:List W}{toks:List Tok}{acc':To}{bs:List UInt8}{o:Nat}(hls:f.lists=ls)(hf:Al.FVO σ0 (.agg [.str f.name,pv,lv,.int .i64 f.type,tv]) f)(h1:pv.known=true∧pv.one=true∧pv.cells=[pv])(h2:lv.known=true∧lv.one=true∧lv.cells=[lv])(h3:tv.known=true∧tv.one=true∧tv.cells=[tv])
  (hrv:Al.RepO σ0 rv ws) (hwl:ws.length≤2^40) (hb:bs≠[]) (hl:(bs++spT toks).length<2^45) (hR:∀σ' u,Pw σ0 x (bs++spT toks) σ'→PwK x σ σ'→R (.ret u) σ') {a:Nat→AV} {τ:AS} (hI:LqI σ0 x ls d [.str f.name,pv,lv,.int .i64 f.type,tv] o rv ws toks acc' bs σ a τ) :
  avc yb9 G 75 zeO (z7 (fun a' σ'=>LqI σ0 x ls d [.str f.name,pv,lv,.int .i64 f.type,tv] o rv ws toks acc' bs σ a' σ'∧MU 16 (ws.length+1) a' σ'<MU 16 (ws.length+1) a τ) (z8 0 (zba yb9 [] R))) a τ:=by
 obtain⟨j,t1,t2,acc1,out1,hj,ht,hpr,a0,a4,a14,a15,a16,hP,hK,ho,hon,hox⟩:=hI
 by_cases hlt:j<ws.length
 ·have hdrop:ws.drop j=ws[j]::ws.drop (j+1):=ycq hlt
  have hrt:=hrv.keep hP.ad
  obtain⟨φ,hr,hat⟩:=RepO.at hrt hlt
  have hr':=hr.read
  have hlti:(j:Int)<(ws.length:Int):=by omega
  have w1:yb4 .i64 ((j:Int)+1)=((j+1:Nat):Int):=by rw[zc]<;>omega
  rw[hdrop]at hpr
  generalize hw:ws[j]=w at *
  have A1:zd τ ((τ.newO zcH.cs).setO τ.no w.cs):=(zd.refl τ).newO.setO (yah _)
  have hP1:=hP.adds A1
  have K1:=hK.trans A1.pwk
  have o1:((τ.newO zcH.cs).setO τ.no w.cs).objs τ.no=some w.cs:=by simp
  have ho1:=(A1.obj o hon).trans ho
  have n1:((τ.newO zcH.cs).setO τ.no w.cs).no=τ.no+1:=by simp
  have hx:=hP.hx
  have hqx:τ.no≠x:=by omega
  have hbt:bs++spT t1≠[]:=by simp[hb]
  have hlt1:(bs++spT toks).length=bs.length+(spT t1).length+(spT t2).length:=by rw[ht,zk];simp only[yab];omega
  simp only[W.cs,zcH]at A1 o1 hP1 K1 ho1 n1
  have fin:∀(a':Nat→AV) (τ':AS) (t2a t2b:List Tok) (acc2 out2),t2=t2a++t2b→Pr ls d (ws.drop (j+1)) acc2 t2b out2 acc'→Pw σ0 x (bs++spT t1++spT t2a) τ'→PwK x σ τ'→τ'.objs o=some [.str f.name,pv,lv,.int .i64 f.type,tv]→o<τ'.no→a' 0=.pt 88 2 x 0→a' 4=.ptr o 0→a' 14=rv→a' 15=.int .i64 (ws.length:Int)→a' 16=.int .i64 ((j+1:Nat):Int) →
    LqI σ0 x ls d [.str f.name,pv,lv,.int .i64 f.type,tv] o rv ws toks acc' bs σ a' τ'∧MU 16 (ws.length+1) a' τ'<MU 16 (ws.length+1) a τ:=by
   intro a' τ' t2a t2b acc2 out2 q1 q2 q3 q4 q5 q6 q7 q8 q9 q10 q11
   refine⟨⟨j+1,t1++t2a,t2b,acc2,out2,hlt,by rw[ht,q1,yc2],q2,q7,q8,q9,q10,q11,?_,q4,q5,q6,hox⟩,?_⟩
   ·rw[zk,←yc2];exact q3
   ·simp[MU,a16,q11];omega
  cases hpr with
  | @leaf _ _ _ _ t r' _ hn hform hrg hpr' =>
   have hn':¬w.op=11∧¬w.op=12∧¬w.op=13:=by simpa [zbj,and_assoc]using hn
   simp[zeO,a0,a4,a14,a15,a16,hlt,hlti,hat,hr',W.av,W.cs,splice,hn']
   generalize (τ.newO [ycp .i64 0,ycp .i64 0,ycp .i64 0,ycp .i64 0,ycp .i64 0,yco []]).setO τ.no [ycp .i64 w.op,ycp .i64 w.ty,ycp .i64 w.n,ycp .i64 w.body,ycp .i64 w.other,yco w.name]=τ1 at *
   have hsp:(spT (zgE w++t)).length=(spT (zgE w)).length+(spT t).length:=by rw[zk,yab]
   refine zt4 hform hn fun τ2 A2=>?_
   have n2:=A2.no
   have lw:(zY w).length+1≤(spT (zgE w)).length:=by
    unfold zgE
    split
    ·simp[spT]
    ·simp[spT]
   simp[a0]
   refine zaP (ws:=[zY w]) (hP1.adds A2) hbt (by simp) (by rw[yab,yab,zZ];omega) fun τ3 u3 P3 K3=>?_
   have n3:=K3.no
   have q3:=(K3.obj τ.no (by omega) hqx).trans ((A2.obj τ.no (by omega)).trans o1)
   have r3:=(K3.obj o (by omega) hox).trans ((A2.obj o (by omega)).trans ho1)
   have K13:=(K1.trans A2.pwk).trans K3
   simp[q3]
   refine zt4 hform hn fun τ4 A4=>?_
   simp
   refine zkX fun τ5 A5=>?_
   have A45:=A4.trans A5
   have n5:=A45.no
   have q5:=(A45.obj τ.no (by omega)).trans q3
   have r5:=(A45.obj o (by omega)).trans r3
   have P5:=P3.adds A45
   have K15:=K13.trans A45.pwk
   have hnum:=zt5 hform hn
   cases hfd:zV zdy (zY w)with
   | none =>
    rw[hfd]at hnum
    have hnum':zcs w=false:=hnum.symm
    have e1:zgE w=[zY w]:=by unfold zgE;rw[hnum'];rfl
    have A6:zd τ5 ((τ5.newO [ycp .i64 0,ycp .i64 0,ycp .i64 0,ycp .i64 0,ycp .i64 0,yco []]).setO τ5.no [ycp .i64 0,ycp .i64 0,ycp .i64 0,ycp .i64 0,ycp .i64 0,yco []]):=(zd.refl τ5).newO.setO (yah _)
    simp[W.av,W.cs,zcH,splice,a0,a4,a14,a15,a16,w1]
    refine fin _ _ [zY w] t acc1 r' (by rw[e1]) hpr' (P5.adds A6) (K15.trans A6.pwk) ((A6.obj o (by omega)).trans r5) (by simp;omega) (by simp[a0]) (by simp[a4]) (by simp[a14]) (by simp[a15]) (by simp)
   | some w' =>
    rw[hfd]at hnum
    have hnum':zcs w=true:=hnum.symm
    have e1:zgE w=[zY w,Lib.itoa w.n]:=by unfold zgE;rw[hnum'];rfl
    have A6:zd τ5 ((τ5.newO [ycp .i64 0,ycp .i64 0,ycp .i64 0,ycp .i64 0,ycp .i64 0,yco []]).setO τ5.no w'.cs):=(zd.refl τ5).newO.setO (yah _)
    have P6:=P5.adds A6
    have K16:=K15.trans A6.pwk
    have q6:=(A6.obj τ.no (by omega)).trans q5
    have r6:=(A6.obj o (by omega)).trans r5
    have n6:=A6.no
    have hqn:¬τ.no=τ5.no:=by omega
    simp only[W.cs]at A6 P6 K16 q6 r6 n6
    simp[W.av,W.cs,splice,a0,q5,hqn]
    generalize (τ5.newO [ycp .i64 0,ycp .i64 0,ycp .i64 0,ycp .i64 0,ycp .i64 0,yco []]).setO τ5.no [ycp .i64 w'.op,ycp .i64 w'.ty,ycp .i64 w'.n,ycp .i64 w'.body,ycp .i64 w'.other,yco w'.name]=τ6 at *
    refine zft V hrg ?_
    simp
    have l2:(spT (zgE w)).length=(zY w).length+1+((Lib.itoa w.n).length+1):=by rw[e1];simp[spT];omega
    refine zaP (ws:=[Lib.itoa w.n]) P6 (by simp[hb]) (by simp) (by rw[yab,yab,yab,zZ,zZ];omega) fun τ7 u7 P7 K7=>?_
    have n7:=K7.no
    simp[a0,a4,a14,a15,a16,w1]
    refine fin _ _ [zY w,Lib.itoa w.n] t acc1 r' (by rw[e1]) hpr' ?_ (K16.trans K7) ((K7.obj o (by omega) hox).trans r6) (by omega) (by simp[a0]) (by simp[a4]) (by simp[a14]) (by simp[a15]) (by simp)
    have e2:spT [zY w,Lib.itoa w.n]=spT [zY w]++spT [Lib.itoa w.n]:=by rw[←zk];rfl
    rw[e2,←yc2]
    exact P7
  | @one _ _ b _ _ tb b' acc2 t r' _ hop hd hb0 hbs hpb hpr' =>
   have hnest:w.op=11∨w.op=12∨w.op=13:=by omega
   have hcond:¬(w.op=13∧0≤w.other):=by omega
   have hol:(zbz w.op).length≤5:=by unfold zbz;split<;>(try split)<;>decide
   have hsp:(spT (zbz w.op::(tb++zdp::t))).length=(zbz w.op).length+1+((spT tb).length+(4+(spT t).length)):=by
    have e1:zbz w.op::(tb++zdp::t)=[zbz w.op]++(tb++([zdp]++t)):=rfl
    rw[e1,zk,zk,zk]
    simp only[yab,zZ]
    rfl
   rcases hnest with e|e|e
   ·obtain⟨op,ty,n,body,other,name⟩:=w
    dsimp only at *
    subst e
    have wb:((body.toNat:Nat):Int)=body:=by omega
    simp[zeO,a0,a4,a14,a15,a16,hlt,hlti,hat,hr',W.av,W.cs,splice]
    generalize (τ.newO [ycp .i64 0,ycp .i64 0,ycp .i64 0,ycp .i64 0,ycp .i64 0,yco []]).setO τ.no [ycp .i64 11,ycp .i64 ty,ycp .i64 n,ycp .i64 body,ycp .i64 other,yco name]=τ1 at *
    refine zmz (by omega) ?_
    simp
    refine zaP (ws:=[zbz 11]) hP1 hbt (by simp) (by rw[yab,yab,zZ];omega) fun τ2 u2 P2 K2=>?_
    have n2:=K2.no
    have q2:=(K2.obj τ.no (by omega) hqx).trans o1
    have r2:=(K2.obj o (by omega) hox).trans ho1
    simp[a0,a4,q2,r2]
    refine IH hd τ2 _ _ f body b tb _ _ _ _ hls hf P2 (by simp[hb]) hb0 hbs hpb (by rw[yab,yab,yab,zZ];omega) fun τ3 u3 P3 K3=>?_
    have n3:=K3.no
    have q3:=(K3.obj τ.no (by omega) hqx).trans q2
    have r3:=(K3.obj o (by omega) hox).trans r2
    simp[a0,q3]
    refine zaP (ws:=[zdp]) P3 (by simp[hb]) (by simp) (by rw[yab,yab,yab,yab,zZ,zZ];have:zdp.length=3:=rfl;omega) fun τ4 u4 P4 K4=>?_
    have n4:=K4.no
    simp[a0,a4,a14,a15,a16,w1]
    refine fin _ _ ([zbz 11]++tb++[zdp]) t (acc2++[b']) r' (by simp) hpr' ?_ (((K1.trans K2).trans K3).trans K4) ((K4.obj o (by omega) hox).trans r3) (by omega) (by simp[a0]) (by simp[a4]) (by simp[a14]) (by simp[a15]) (by simp)
    rw[zk,zk]
    simpa [yc2]using P4
   ·obtain⟨op,ty,n,body,other,name⟩:=w
    dsimp only at *
    subst e
    have wb:((body.toNat:Nat):Int)=body:=by omega
    simp[zeO,a0,a4,a14,a15,a16,hlt,hlti,hat,hr',W.av,W.cs,splice]
    generalize (τ.newO [ycp .i64 0,ycp .i64 0,ycp .i64 0,ycp .i64 0,ycp .i64 0,yco []]).setO τ.no [ycp .i64 12,ycp .i64 ty,ycp .i64 n,ycp .i64 body,ycp .i64 other,yco name]=τ1 at *
    refine zmz (by omega) ?_
    simp
    refine zaP (ws:=[zbz 12]) hP1 hbt (by simp) (by rw[yab,yab,zZ];omega) fun τ2 u2 P2 K2=>?_
    have n2:=K2.no
    have q2:=(K2.obj τ.no (by omega) hqx).trans o1
    have r2:=(K2.obj o (by omega) hox).trans ho1
    simp[a0,a4,q2,r2]
    refine IH hd τ2 _ _ f body b tb _ _ _ _ hls hf P2 (by simp[hb]) hb0 hbs hpb (by rw[yab,yab,yab,zZ];omega) fun τ3 u3 P3 K3=>?_
    have n3:=K3.no
    have q3:=(K3.obj τ.no (by omega) hqx).trans q2
    have r3:=(K3.obj o (by omega) hox).trans r2
    simp[a0,q3]
    refine zaP (ws:=[zdp]) P3 (by simp[hb]) (by simp) (by rw[yab,yab,yab,yab,zZ,zZ];have:zdp.length=3:=rfl;omega) fun τ4 u4 P4 K4=>?_
    have n4:=K4.no
    simp[a0,a4,a14,a15,a16,w1]
    refine fin _ _ ([zbz 12]++tb++[zdp]) t (acc2++[b']) r' (by simp) hpr' ?_ (((K1.trans K2).trans K3).trans K4) ((K4.obj o (by omega) hox).trans r3) (by omega) (by simp[a0]) (by simp[a4]) (by simp[a14]) (by simp[a15]) (by simp)
    rw[zk,zk]
    simpa [yc2]using P4
   ·obtain⟨op,ty,n,body,other,name⟩:=w
    dsimp only at *
    subst e
    have hno:¬0≤other:=by omega
    have wb:((body.toNat:Nat):Int)=body:=by omega
    simp[zeO,a0,a4,a14,a15,a16,hlt,hlti,hat,hr',W.av,W.cs,splice]
    generalize (τ.newO [ycp .i64 0,ycp .i64 0,ycp .i64 0,ycp .i64 0,ycp .i64 0,yco []]).setO τ.no [ycp .i64 13,ycp .i64 ty,ycp .i64 n,ycp .i64 body,ycp .i64 other,yco name]=τ1 at *
    refine zmz (by omega) ?_
    simp
    refine zaP (ws:=[zbz 13]) hP1 hbt (by simp) (by rw[yab,yab,zZ];omega) fun τ2 u2 P2 K2=>?_
    have n2:=K2.no
    have q2:=(K2.obj τ.no (by omega) hqx).trans o1
    have r2:=(K2.obj o (by omega) hox).trans ho1
    simp[a0,a4,q2,r2]
    refine IH hd τ2 _ _ f body b tb _ _ _ _ hls hf P2 (by simp[hb]) hb0 hbs hpb (by rw[yab,yab,yab,zZ];omega) fun τ3 u3 P3 K3=>?_
    have n3:=K3.no
    have q3:=(K3.obj τ.no (by omega) hqx).trans q2
    have r3:=(K3.obj o (by omega) hox).trans r2
    simp[a0,q3,hno]
    refine zaP (ws:=[zdp]) P3 (by simp[hb]) (by simp) (by rw[yab,yab,yab,yab,zZ,zZ];have:zdp.length=3:=rfl;omega) fun τ4 u4 P4 K4=>?_
    have n4:=K4.no
    simp[a0,a4,a14,a15,a16,w1]
    refine fin _ _ ([zbz 13]++tb++[zdp]) t (acc2++[b']) r' (by simp) hpr' ?_ (((K1.trans K2).trans K3).trans K4) ((K4.obj o (by omega) hox).trans r3) (by omega) (by simp[a0]) (by simp[a4]) (by simp[a14]) (by simp[a15]) (by simp)
    rw[zk,zk]
    simpa [yc2]using P4
  | @two _ _ b e _ _ tb b' acc2 te e' acc3 t r' _ hop hot hd hb0 hbs hes hpb hpe hpr' =>
   have hsp:(spT (tIf::(tb++zcB::(te++zdp::t)))).length=3+((spT tb).length+(5+((spT te).length+(4+(spT t).length)))):=by
    have e1:tIf::(tb++zcB::(te++zdp::t))=[tIf]++(tb++([zcB]++(te++([zdp]++t)))):=rfl
    rw[e1,zk,zk,zk,zk,zk]
    simp only[yab,zZ]
    rfl
   obtain⟨op,ty,n,body,other,name⟩:=w
   dsimp only at *
   subst hop
   have hoi:(zbz 13)=tIf:=rfl
   simp[zeO,a0,a4,a14,a15,a16,hlt,hlti,hat,hr',W.av,W.cs,splice]
   generalize (τ.newO [ycp .i64 0,ycp .i64 0,ycp .i64 0,ycp .i64 0,ycp .i64 0,yco []]).setO τ.no [ycp .i64 13,ycp .i64 ty,ycp .i64 n,ycp .i64 body,ycp .i64 other,yco name]=τ1 at *
   refine zmz (by omega) ?_
   rw[hoi]
   simp
   refine zaP (ws:=[tIf]) hP1 hbt (by simp) (by rw[yab,yab,zZ];have:tIf.length=2:=rfl;omega) fun τ2 u2 P2 K2=>?_
   have n2:=K2.no
   have q2:=(K2.obj τ.no (by omega) hqx).trans o1
   have r2:=(K2.obj o (by omega) hox).trans ho1
   simp[a0,a4,q2,r2]
   refine IH hd τ2 _ _ f body b tb _ _ _ _ hls hf P2 (by simp[hb]) hb0 hbs hpb (by rw[yab,yab,yab,zZ];have:tIf.length=2:=rfl;omega) fun τ3 u3 P3 K3=>?_
   have n3:=K3.no
   have q3:=(K3.obj τ.no (by omega) hqx).trans q2
   have r3:=(K3.obj o (by omega) hox).trans r2
   simp[a0,q3,hot]
   refine zaP (ws:=[zcB]) P3 (by simp[hb]) (by simp) (by rw[yab,yab,yab,yab,zZ,zZ];have:zcB.length=4:=rfl;have:tIf.length=2:=rfl;omega) fun τ4 u4 P4 K4=>?_
   have n4:=K4.no
   have q4:=(K4.obj τ.no (by omega) hqx).trans q3
   have r4:=(K4.obj o (by omega) hox).trans r3
   simp[a0,a4,q4,r4]
   refine IH hd τ4 _ _ f other e te _ _ _ _ hls hf P4 (by simp[hb]) hot hes hpe (by rw[yab,yab,yab,yab,yab,zZ,zZ];have:zcB.length=4:=rfl;have:tIf.length=2:=rfl;omega) fun τ5 u5 P5 K5=>?_
   have n5:=K5.no
   have r5:=(K5.obj o (by omega) hox).trans r4
   simp[a0]
   refine zaP (ws:=[zdp]) P5 (by simp[hb]) (by simp) (by rw[yab,yab,yab,yab,yab,yab,zZ,zZ,zZ];have:zcB.length=4:=rfl;have:tIf.length=2:=rfl;have:zdp.length=3:=rfl;omega) fun τ6 u6 P6 K6=>?_
   have n6:=K6.no
   simp[a0,a4,a14,a15,a16,w1]
   refine fin _ _ ([tIf]++tb++[zcB]++te++[zdp]) t (acc3++[e']) r' (by simp) hpr' ?_ (((((K1.trans K2).trans K3).trans K4).trans K5).trans K6) ((K6.obj o (by omega) hox).trans r5) (by omega) (by simp[a0]) (by simp[a4]) (by simp[a14]) (by simp[a15]) (by simp)
   rw[zk,zk,zk,zk]
   simpa [yc2]using P6
 ·have e:j=ws.length:=by omega
  rw[yds (by omega)]at hpr
  cases hpr
  rw[yb7]at ht
  subst ht
  simp[zeO,a0,a4,a14,a15,a16,e]
  exact hR _ _ hP hK
theorem zk1(V:zc2 G){σ0 x ls d}(hsz:∀ws∈ls,ws.length≤2^40)(IH:d<400→zKk G σ0 x ls (d+1)):zKk G σ0 x ls d:=by
 intro σ R fv f i ws toks acc out acc' bs hls hf hP hb hi hws hpr hl hR
 have hf0:=hf
 obtain⟨pv,lv,tv,rfl,i1,i2,i3⟩:=hf
 have h1:=i1.one
 have h2:=i2.one
 have h3:=i3.one
 obtain⟨hlt,hget⟩:=yaq.1 hws
 have hwl:=hsz ws (List.mem_of_getElem? hws)
 have i3t:=i3.keep hP.ad
 rw[←hls]at hlt
 obtain⟨φ,rv,hr,hrv,hat⟩:=i3.at hlt
 obtain⟨φ',rv',hr',hrv',hat'⟩:=i3t.at hlt
 subst hls
 rw[hget]at hrv hrv'
 refine zAR rfl ?_
 have wi:((i.toNat:Nat):Int)=i:=by omega
 rw[wi]at hat hat'
 have hsame:ydt φ' rv'=ydt φ rv:=by
  have q1:=hat fun v=>v=ydt φ rv
  have q2:=hat' fun v=>v=ydt φ rv
  rw[←q2,q1]
 injection hsame with hs1 hs2
 subst hs1 hs2
 have hrd:=hr'.read
 have v1:=hrv'.one
 have vl:=RepO.len hrv'
 have hx:=hP.hx
 simp[zMV,h1,h2,h3,hat',hrd,v1,vl]
 have A:zd σ (σ.newO [.str f.name,pv,lv,.int .i64 f.type,tv]):=(zd.refl σ).newO
 refine zH (LqI σ0 x f.lists d [.str f.name,pv,lv,.int .i64 f.type,tv] σ.no rv' ws toks acc' bs σ) (MU 16 (ws.length+1)) ⟨0,[],toks,acc,out,Nat.zero_le _,rfl,by simpa using hpr,by simp,by simp,by simp,by simp,by simp,by simpa [spT]using hP.adds A,A.pwk,by simp,by simp,by omega⟩ fun a τ hI=>?_
 exact zpC V IH rfl hf0 h1 h2 h3 hrv hwl hb hl hR hI
theorem zjO(V:zc2 G){σ0 x ls}(hsz:∀ws∈ls,ws.length≤2^40):∀k d:Nat,400≤d+k→zKk G σ0 x ls d
 | 0,d,hd=>zk1 V hsz (fun h=>by omega)
 | k+1,d,hd=>zk1 V hsz (fun _=>zjO V hsz k (d+1) (by omega))
end
theorem zw3:spT zc0=32::zbY:=by decide
theorem zua(t:Int)(h:t≠0):zR zeR [t]=zmn t:=by
 unfold zR zmn
 rw[if_neg (by simp),if_neg h]
 rfl
section
variable {G : Env} {σ : AS} {R : Out → AS → Prop}
def FlI(σ0:AS)(x mo:Nat)(fv:AV)(m:M)(toks:List Tok)(bs:List UInt8)(a:Nat→AV)(τ:AS):Prop:=∃(j:Nat) (t1 t2:List Tok) (fs2:List F),j≤m.funcs.length∧toks=t1++t2∧PrFs (m.funcs.drop j) t2 fs2∧a 1=.ptr mo 0∧a 3=.pt 88 2 x 0∧a 15=fv∧a 16=.int .i64 (m.funcs.length:Int)∧a 17=.int .i64 (j:Int) ∧
 Pw σ0 x (bs++spT t1) τ∧τ.objs mo=some [fv,.int .i64 m.memory,.int .i64 m.main]∧mo<τ.no∧mo≠x
theorem zrR(V:zc2 G){σ0 x mo fv}{m:M}{toks:List Tok}{bs:List UInt8}{mx:Nat}(hfv:Al.FsO σ0 fv m.funcs)(hf:∀f∈m.funcs,Pf mx f)(hmx:mx≤1000)(hsz:∀f∈m.funcs,f.lists.length≤2^40∧∀ws∈f.lists,ws.length≤2^40)(hfl:m.funcs.length≤2^40)(hb:bs≠[])(hl:(bs++spT toks).length<2^44)
  (fin:∀(a:Nat→AV) (τ:AS),a 1=.ptr mo 0→a 3=.pt 88 2 x 0→Pw σ0 x (bs++spT toks) τ→τ.objs mo=some [fv,.int .i64 m.memory,.int .i64 m.main]→avc yb9 G 66 zlA (zba yb9 [.tmp 2] R) a τ) {a:Nat→AV} {τ:AS} (hI:FlI σ0 x mo fv m toks bs a τ) :
  avc yb9 G 66 zlz (z7 (fun a' σ'=>FlI σ0 x mo fv m toks bs a' σ'∧MU 17 (m.funcs.length+1) a' σ'<MU 17 (m.funcs.length+1) a τ) (z8 0 (z7 (avc yb9 G 66 zlA (zba yb9 [.tmp 2] R)) (zba yb9 [.tmp 2] R)))) a τ:=by
 obtain⟨j,t1,t2,fs2,hj,ht,hpr,a1,a3,a15,a16,a17,hP,hmo,hmon,hmox⟩:=hI
 by_cases hlt:j<m.funcs.length
 ·have hdrop:m.funcs.drop j=m.funcs[j]::m.funcs.drop (j+1):=ycq hlt
  have hmem:m.funcs[j]∈m.funcs:=yaw hlt
  have hft:=hfv.keep hP.ad
  obtain⟨φ0,row0,hr0,hrow0,hat0⟩:=hfv.at hlt
  obtain⟨φ,row,hr,hrow,hat⟩:=hft.at hlt
  have hsame:ydt φ row=ydt φ0 row0:=by
   have q1:=hat0 fun v=>v=ydt φ0 row0
   have q2:=hat fun v=>v=ydt φ0 row0
   rw[←q2,q1]
  injection hsame with hs1 hs2
  subst hs1 hs2
  have hr':=hr.read
  have hlti:(j:Int)<(m.funcs.length:Int):=by omega
  have w1:yb4 .i64 ((j:Int)+1)=((j+1:Nat):Int):=by rw[zc]<;>omega
  rw[hdrop]at hpr
  generalize hw:m.funcs[j]=f at *
  have hpf:=hf f hmem
  have hszf:=hsz f hmem
  obtain⟨pv,lv,tv,rfl,i1,i2,i3⟩:=id hrow0
  have p1:=i1.one
  have p2:=i2.one
  have p3:=i3.one
  have i3len:=i3.len
  have hnl:f.name.length≤1000:=by
   have:=hpf.name
   unfold zh2 at this
   split at this
   ·cases this
   ·rename_i c r _
    simp only[Bool.and_eq_true,decide_eq_true_eq]at this
    omega
  have hlt1:(bs++spT toks).length=bs.length+(spT t1).length+(spT t2).length:=by rw[ht,zk];simp only[yab];omega
  simp[zlz,a1,a3,a15,a16,a17,hlt,hlti,hat,hr',p1,p2,p3,splice]
  have A1:zd τ ((τ.newO [.str [],.nilsl,.nilsl,.int .i64 0,.nilsl]).setO τ.no [.str f.name,pv,lv,.int .i64 f.type,tv]):=(zd.refl τ).newO.setO (yah _)
  have q1:((τ.newO [.str [],.nilsl,.nilsl,.int .i64 0,.nilsl]).setO τ.no [.str f.name,pv,lv,.int .i64 f.type,tv]).objs τ.no=some [.str f.name,pv,lv,.int .i64 f.type,tv]:=by simp
  have n1:((τ.newO [.str [],.nilsl,.nilsl,.int .i64 0,.nilsl]).setO τ.no [.str f.name,pv,lv,.int .i64 f.type,tv]).no=τ.no+1:=by simp
  have hP1:=hP.adds A1
  have hx:=hP.hx
  have hqx:τ.no≠x:=by omega
  have m1:=(A1.obj mo hmon).trans hmo
  refine⟨by omega,?_⟩
  generalize (τ.newO [.str [],.nilsl,.nilsl,.int .i64 0,.nilsl]).setO τ.no [.str f.name,pv,lv,.int .i64 f.type,tv]=τ1 at *
  cases hpr with
  | @cons _ _ tf ls' ts fs' hpF hprs =>
  obtain⟨row,out,acc,h1,h2,_⟩:=hpF
  have hl1:f.lists.length-1<f.lists.length:=(yaq.1 h1).1
  have wl:yb4 .i64 ((f.lists.length:Int)-1)=((f.lists.length-1:Nat):Int):=by
   have:=hszf.1
   rw[zc]<;>omega
  have hl0:(0:Int)≤((f.lists.length-1:Nat):Int):=by omega
  have hln:((f.lists.length-1:Nat):Int).toNat=f.lists.length-1:=by omega
  have hft1:spT (zjq f tf)=spT [zC,zbR,36::f.name]++spT (zR zcy f.params)++spT (zmn f.type)++spT (zR zbi f.locals)++spT tf++spT [zh]:=by
   have:zjq f tf=[zC,zbR,36::f.name]++zR zcy f.params++zmn f.type++zR zbi f.locals++tf++[zh]:=by simp[zjq]
   rw[this,zk,zk,zk,zk,zk]
  have hl2:(spT (zjq f tf++ts)).length=(spT [zC,zbR,36::f.name]).length+(spT (zR zcy f.params)).length+(spT (zmn f.type)).length+(spT (zR zbi f.locals)).length+(spT tf).length+(spT [zh]).length+(spT ts).length:=by
   rw[zk,hft1]
   simp only[yab]
  refine zaP (ws:=[zC,zbR,36::f.name]) hP1 (by simp[hb]) (by simp) (by simp only[yab];omega) fun τ2 u2 P2 K2=>?_
  have n2:=K2.no
  have q2:=(K2.obj τ.no (by omega) hqx).trans q1
  have m2:=(K2.obj mo (by omega) hmox).trans m1
  simp[q2,a3,p1]
  refine zio (kw:=zcy) P2 (by simp[hb]) i1 hpf.params (by simp only[yab];omega) fun τ3 u3 P3 K3=>?_
  have n3:=K3.no
  have q3:=(K3.obj τ.no (by omega) hqx).trans q2
  have m3:=(K3.obj mo (by omega) hmox).trans m2
  by_cases hty:f.type=0
  ·have hrz:zmn f.type=[]:=by unfold zmn;rw[if_pos hty]
   have hty':(f.type=0)=True:=eq_true hty
   simp[q3,a3,hty']
   have P4:=P3
   have K4:=PwK.refl x τ3
   have q4:=q3
   have m4:=m3
   have e4:bs++spT t1++spT [zC,zbR,36::f.name]++spT (zR zcy f.params)=bs++spT t1++spT [zC,zbR,36::f.name]++spT (zR zcy f.params)++spT (zmn f.type):=by rw[hrz];simp[spT]
   rw[e4]at P4
   generalize hτ4:τ3=τ4 at *
   simp[q4,a3]
   refine zio (kw:=zbi) P4 (by simp[hb]) i2 hpf.locals (by simp only[yab];omega) fun τ5 u5 P5 K5=>?_
   have n5:=K5.no
   have q5:=(K5.obj τ.no (by omega) hqx).trans q4
   have m5:=(K5.obj mo (by omega) hmox).trans m4
   simp[q5,a3,i3len,wl]
   refine zjO V (x:=x) hszf.2 400 0 (by omega) τ5 _ _ f _ row tf [] out acc _ rfl hrow0 P5 (by simp[hb]) hl0 (by rw[hln];exact h1) h2 (by simp only[yab];omega) fun τ6 u6 P6 K6=>?_
   have n6:=K6.no
   have m6:=(K6.obj mo (by omega) hmox).trans m5
   simp[a3]
   refine zaP (ws:=[zh]) P6 (by simp[hb]) (by simp) (by simp only[yab];omega) fun τ7 u7 P7 K7=>?_
   have n7:=K7.no
   have m7:=(K7.obj mo (by omega) hmox).trans m6
   simp[a1,a3,a15,a16,a17,w1]
   refine⟨⟨j+1,t1++zjq f tf,ts,fs',hlt,by rw[ht,yc2],hprs,by simp[a1],by simp[a3],by simp[a15],by simp[a16],by simp,?_,m7,by omega,hmox⟩,?_⟩
   ·rw[zk,hft1]
    simpa [yc2]using P7
   ·simp[MU,a17];omega
  ·have hrz:=zua f.type hty
   have hty':(f.type=0)=False:=eq_false hty
   have htt:∀t∈[f.type],t=1∨t=2:=by
    intro t ht
    simp only[ycD]at ht
    subst ht
    have:=hpf.type
    omega
   simp[q3,a3,hty']
   refine zio (kw:=zeR) (l:=[f.type]) P3 (by simp[hb]) (.inr ⟨.stat true,rfl,trivial⟩) htt (by rw[hrz];simp only[yab];omega) fun τ4 u4 P4 K4=>?_
   rw[hrz]at P4
   have n4:=K4.no
   have q4:=(K4.obj τ.no (by omega) hqx).trans q3
   have m4:=(K4.obj mo (by omega) hmox).trans m3
   simp[q4,a3]
   refine zio (kw:=zbi) P4 (by simp[hb]) i2 hpf.locals (by simp only[yab];omega) fun τ5 u5 P5 K5=>?_
   have n5:=K5.no
   have q5:=(K5.obj τ.no (by omega) hqx).trans q4
   have m5:=(K5.obj mo (by omega) hmox).trans m4
   simp[q5,a3,i3len,wl]
   refine zjO V (x:=x) hszf.2 400 0 (by omega) τ5 _ _ f _ row tf [] out acc _ rfl hrow0 P5 (by simp[hb]) hl0 (by rw[hln];exact h1) h2 (by simp only[yab];omega) fun τ6 u6 P6 K6=>?_
   have n6:=K6.no
   have m6:=(K6.obj mo (by omega) hmox).trans m5
   simp[a3]
   refine zaP (ws:=[zh]) P6 (by simp[hb]) (by simp) (by simp only[yab];omega) fun τ7 u7 P7 K7=>?_
   have n7:=K7.no
   have m7:=(K7.obj mo (by omega) hmox).trans m6
   simp[a1,a3,a15,a16,a17,w1]
   refine⟨⟨j+1,t1++zjq f tf,ts,fs',hlt,by rw[ht,yc2],hprs,by simp[a1],by simp[a3],by simp[a15],by simp[a16],by simp,?_,m7,by omega,hmox⟩,?_⟩
   ·rw[zk,hft1]
    simpa [yc2]using P7
   ·simp[MU,a17];omega
 ·have e:j=m.funcs.length:=by omega
  rw[yds (by omega)]at hpr
  cases hpr
  rw[yb7]at ht
  subst ht
  simp[zlz,a1,a3,a15,a16,a17,e]
  exact fin _ _ (by simp[a1]) (by simp[a3]) hP hmo
theorem zmA(m:M)(toks:List Tok):zjt (zdm m toks)=zbY++spT [Lib.itoa m.memory,zh,zh]++spT toks++spT [zC,zbZ,zhc,zC,zbR,Lib.itoa (yb4 .i64 (m.main+3)),zh,zh,zh]++[10]:=by
 have e:zdm m toks=zc0++[Lib.itoa m.memory,zh,zh]++toks++[zC,zbZ,zhc,zC,zbR,Lib.itoa (yb4 .i64 (m.main+3)),zh,zh,zh]:=by simp[zdm,zyb]
 unfold zjt
 rw[zqJ,e,zk,zk,zk,zw3]
 simp only[ycP,List.tail_cons]
theorem zBZ(V:zc2 G){m:M}{mv:AV}{toks:List Tok}{fs2:List F}{mx:Nat}(hm:Al.MO σ mv m)(hpr:PrFs m.funcs toks fs2)(hf:∀f∈m.funcs,Pf mx f)(hmx:mx≤1000)(hsz:∀f∈m.funcs,f.lists.length≤2^40∧∀ws∈f.lists,ws.length≤2^40)(hfl:m.funcs.length≤2^40)
  (hmem:-(2^63)≤m.memory∧m.memory<2^63) (hl:(zjt (zdm m toks)).length<2^43) (h:∀σ',zd σ σ'→R (.ret (.str (zjt (zdm m toks)))) σ'):zzQ G 20 [mv] σ R:=by
 refine zAn rfl ?_
 obtain⟨fv,rfl,hfv⟩:=hm
 have f1:=hfv.one
 have fl:=hfv.len
 rw[zmA]at hl
 simp only[yab]at hl
 simp[zMB,f1]
 have A1:zd σ ((σ.newO [fv,.int .i64 m.memory,.int .i64 m.main]).newO [.nilp,.nilsl]):=(zd.refl σ).newO.newO
 have m1:((σ.newO [fv,.int .i64 m.memory,.int .i64 m.main]).newO [.nilp,.nilsl]).objs σ.no=some [fv,.int .i64 m.memory,.int .i64 m.main]:=by
  have:¬σ.no=σ.no+1:=by omega
  simp[this]
 have p1:((σ.newO [fv,.int .i64 m.memory,.int .i64 m.main]).newO [.nilp,.nilsl]).objs (σ.no+1)=some [.nilp,.nilsl]:=by simp
 have n1:((σ.newO [fv,.int .i64 m.memory,.int .i64 m.main]).newO [.nilp,.nilsl]).no=σ.no+2:=by simp
 generalize (σ.newO [fv,.int .i64 m.memory,.int .i64 m.main]).newO [.nilp,.nilsl]=τ1 at *
 refine zft V hmem ?_
 simp
 refine zHn (o:=σ.no+1) (i:=1) (cs:=[.nilp,.nilsl]) (e:=5) p1 rfl ?_
 have e1:splice [AV.nilp,ycv] 1 [AV.tys 5 .nilsl]=[.nilp,.tys 5 .nilsl]:=rfl
 rw[e1]
 have hP0:Pw σ (σ.no+1) [] (τ1.setO (σ.no+1) [.nilp,.tys 5 .nilsl]):=⟨by omega,by simp;omega,A1.setO (by omega),_,_,by simp,.inl rfl,.inl ⟨rfl,rfl⟩⟩
 have m2:(τ1.setO (σ.no+1) [.nilp,.tys 5 .nilsl]).objs σ.no=some [fv,.int .i64 m.memory,.int .i64 m.main]:=by
  have:¬σ.no=σ.no+1:=by omega
  simp[this,m1]
 have n2:(τ1.setO (σ.no+1) [.nilp,.tys 5 .nilsl]).no=σ.no+2:=by simp[n1]
 generalize τ1.setO (σ.no+1) [.nilp,.tys 5 .nilsl]=τ2 at *
 have hh:zbY≠[]:=by decide
 have es:zgQ [] [zbY,Lib.itoa m.memory,zh,zh]=zbY++spT [Lib.itoa m.memory,zh,zh]:=by
  have:zgQ [] [zbY,Lib.itoa m.memory,zh,zh]=zgQ zbY [Lib.itoa m.memory,zh,zh]:=rfl
  rw[this,zpA _ hh]
 refine zyp (ws:=[zbY,Lib.itoa m.memory,zh,zh]) hP0 (by simp) (by rw[es,yab];omega) fun τ3 u3 P3 K3=>?_
 rw[es]at P3
 have n3:=K3.no
 have m3:=(K3.obj σ.no (by omega) (by omega)).trans m2
 simp[m3,f1,fl]
 refine zH (FlI σ (σ.no+1) σ.no fv m toks (zbY++spT [Lib.itoa m.memory,zh,zh])) (MU 17 (m.funcs.length+1)) ⟨0,[],toks,fs2,Nat.zero_le _,rfl,by simpa using hpr,by simp,by simp,by simp,by simp,by simp,by simpa [spT]using P3,m3,by omega,by omega⟩ fun a τ hI=>?_
 refine zrR V hfv hf hmx hsz hfl (by simp[hh]) (by simp only[yab];omega) (fun a τ a1 a3 hP hmo=>?_) hI
 simp[zlA,a1,a3,hmo]
 refine zft V (zf2 _).1 ?_
 simp
 refine zaP (ws:=[zC,zbZ,zhc,zC,zbR,Lib.itoa (yb4 .i64 (m.main+3)),zh,zh,zh]) hP (by simp[hh]) (by simp) (by simp only[yab];omega) fun τ5 u5 P5 K5=>?_
 simp[a3]
 refine zw1 P5 (by simp[hh]) (by simp only[yab];omega) fun τ6 A6 K6=>?_
 have:=h _ A6
 rw[zmA]at this
 simp
 refine⟨by have:([10]:List UInt8).length=1:=rfl;omega,?_⟩
 simpa [yc2]using this
end
theorem zn6{f:F}:∀{l:List F},f∈l→f.locals.length≤zdk l
 | a::l,h=>by
  simp only[zdk,yaL,yck]
  rcases ybC.1 h with rfl|h
  ·omega
  ·have:=zn6 h
   simp only[zdk]at this
   omega
theorem zk2{f:F}{ws:List W}(hw:ws∈f.lists):∀{l:List F},f∈l→ws.length≤zem l
 | a::l,h=>by
  simp only[zem,yaL,yck]
  rcases ybC.1 h with rfl|h
  ·have:∀ls:To,ws∈ls→ws.length≤zcX ls:=by
    intro ls
    induction ls with
    | nil=>intro h;cases h
    | cons x y ih =>
     intro h
     simp only[zcX,yaL,yck]
     rcases ybC.1 h with rfl|h
     ·omega
     ·have:=ih h
      simp only[zcX]at this
      omega
   have:=this _ hw
   omega
  ·have:=zk2 hw h
   simp only[zem]at this
   omega
theorem zn7{b:List UInt8}{m:M}{s':Rs}(h:zb4 ⟨b,[],0⟩=some (m,s'))(hb:b.length≤2^14):m.funcs.length≤2^14∧∀f∈m.funcs,f.params.length≤2^14∧f.locals.length≤2^16∧f.lists.length≤2^14∧∀ws∈f.lists,ws.length≤2^14:=by
 unfold zb4 at h
 simp only[ybA,ybB]at h
 obtain⟨⟨⟨hs,mem,mn⟩,s1⟩,h3,⟨fs,s2⟩,h4,h5⟩:=h
 simp only[Prod.mk.injEq]at h5
 obtain⟨rfl,rfl⟩:=h5
 obtain⟨a1,a2,a3,a4⟩:=zf1 h3
 have a5:=zf3 h3
 obtain⟨b1,b2⟩:=zhn h4 fun f hf=>(a1 f hf).1
 have b2:=b2 a4
 unfold zmj at h4
 simp only[ybA]at h4
 obtain⟨s4,h6,⟨c,s5⟩,h7,h8⟩:=h4
 split at h8
 ·simp only[ybA]at h8
  obtain⟨⟨fs1,s6⟩,h9,s7,h10,s8,h11,⟨xx,s9⟩,h12,⟨y,s10⟩,h13,h14⟩:=h8
  split at h14
  ·obtain⟨_,c3⟩:=zcW h9 fun f hf=>(a1 f hf).1
   obtain⟨_,c2⟩:=zeb h9
   have cl:=(zav h9 fun f hf=>(a1 f hf).1).2.2.2
   have hnn:=zcS h14
   have l1:=zal h6
   have l2:=zL h7
   have hmn:=zf0 hnn
   have hpn:=zdn hnn
   have hpf:=zdc h9
   have hlen:fs.length=fs1.length:=by have:=congrArg yce hnn;simpa using this
   simp only at *
   refine⟨by omega,fun f hf=>?_⟩
   obtain⟨g,hg,e⟩:=zfi hnn hf
   have e3:g.lists=f.lists:=by have:=congrArg F.lists e;exact this
   have hp:=zjy hf
   have hlo:=zn6 hf
   obtain⟨q1,q2,q3⟩:=c3 g hg
   rw[e3]at q1
   refine⟨by omega,by omega,by omega,fun ws hw=>?_⟩
   have:=zk2 (f:=g) (ws:=ws) (by rw[e3];exact hw) hg
   omega
  ·cases h14
 ·cases h8
theorem zrS(n:Int):∀c∈Lib.itoa n,c.toNat<128:=by
 have h:=zkL n
 have hb:=zi4 n
 have hd:∀c∈Lib.decDigits n.natAbs,c.toNat<128:=fun c hc=>by
  have:=yaM.1 (zfe n.natAbs) c hc
  simp only[zQ,Bool.and_eq_true,decide_eq_true_eq]at this
  omega
 unfold Lib.itoa
 intro c hc
 split at hc
 ·rcases ybC.1 hc with rfl|hc
  ·decide
  ·exact hd c hc
 ·have e:n.toNat=n.natAbs:=by omega
  rw[e]at hc
  exact hd c hc
theorem zB0(m:M)(toks:List Tok):zpv (zjt (zdm m toks)):=by
 have e:∃x,zjt (zdm m toks)=x++(spT [Lib.itoa (yb4 .i64 (m.main+3)),zh,zh,zh]++[10]):=by
  rw[zmA]
  have:spT [zC,zbZ,zhc,zC,zbR,Lib.itoa (yb4 .i64 (m.main+3)),zh,zh,zh]=spT [zC,zbZ,zhc,zC,zbR]++spT [Lib.itoa (yb4 .i64 (m.main+3)),zh,zh,zh]:=by rw[←zk];rfl
  rw[this]
  exact⟨zbY++spT [Lib.itoa m.memory,zh,zh]++spT toks++spT [zC,zbZ,zhc,zC,zbR],by simp only[yc2]⟩
 obtain⟨x,e⟩:=e
 rw[e]
 intro t ht
 by_cases h8:8<t.length
 ·exact .inl h8
 refine .inr fun c hc=>?_
 have hne:=zBO (yb4 .i64 (m.main+3))
 have hl:1≤(Lib.itoa (yb4 .i64 (m.main+3))).length:=List.length_pos_iff.2 hne
 have hs:t<:+spT [Lib.itoa (yb4 .i64 (m.main+3)),zh,zh,zh]++[10]:=by
  refine List.suffix_of_suffix_length_le ht (List.suffix_append _ _) ?_
  simp[spT]
  have ts:zh.length=1:=rfl
  omega
 have hm:=hs.subset hc
 simp only[spT,List.flatMap_cons,List.flatMap_nil,List.mem_append,ybC,yb7,zh,ycC,or_false]at hm
 rcases hm with ((rfl|hm)|(rfl|rfl)|(rfl|rfl)|(rfl|rfl))|rfl
 ·decide
 ·exact zrS _ c hm
 all_goals decide
def zyq:F:={ name:=[102],params:=[],locals:=[],type:=1,lists:=[[{ op:=1,ty:=1,n:=7,body:=0,other:=0,name:=[] }]] }
def zcY:M:={ funcs:=[zyq],memory:=16,main:=0 }
def zub:List UInt8:=[0,97,115,109,1,0,0,0,1,17,4,0x60,0,1,0x7E,0x60,1,0x7E,0,0x60,1,0x7F,0,0x60,0,1,0x7F,2,31,3,3,101,110,118,2,105,110,0,0,3,101,110,118,3,111,117,116,0,1,3,101,110,118,4,116,114,97,112,0,2,3,2,1,3,5,3,1,0,1,6,6,1,0x7F,0,0x41,16,0x0B,7,8,1,4,109,97,105,110,0,3,10,6,1,4,0,0x41,7,0x0B,0,11,4,110,97,109,101,1,4,1,3,1,102]
theorem zuc:zto zcY=some zub:=by decide
theorem zn8:zd3 zub=some zcY:=by rfl
@[simp] theorem zNZ:zax 32 [(0,Operand.const (.int .u8 229)),(1,Operand.const (.int .u8 142)),(2,Operand.const (.int .u8 38))]=false:=by decide
@[simp] theorem zN0:zax 32 [(0,Operand.const (.int .u8 192)),(1,Operand.const (.int .u8 187)),(2,Operand.const (.int .u8 120))]=false:=by decide
theorem uK:uI 624485=[229,142,38]:=by decide
theorem sK:sI (-123456)=[192,187,120]:=by decide
section
variable {G : Env} {σ : AS} {R : Out → AS → Prop}
theorem zjP(h:∀v σ',Al.MO σ' v zcY→zd σ σ'→R (.ret v) σ'):zzQ G 34 [] σ R:=by
 refine zAp rfl ?_
 simp[zMD,splice]
 refine h _ _ ⟨_,rfl,.inr ⟨_,_,rfl,trivial,.cons ⟨_,_,_,rfl,.inl ⟨rfl,rfl⟩,.inl ⟨rfl,rfl⟩,.inr ⟨_,_,rfl,trivial,.cons (.inr ⟨_,rfl,trivial⟩) .nil⟩⟩ .nil⟩⟩ ((zd.refl σ).newO.setO (yah _))
theorem zpD(V:zd2 G)(h00:0<σ.nf∧σ.F 0=.alive)(h:∀σ',zd σ σ'→R (.ret (.bool true)) σ'):zzQ G 13 [] σ R:=by
 refine zAj rfl ?_
 simp[zMy]
 refine zjP fun v σ1 hv A1=>?_
 simp
 refine zdb V hv zuc (by decide) (by decide) (fun f hf=>?_) (by decide) fun b σ2 hb=>?_
 ·simp only[zcY,ycD]at hf
  subst hf
  exact⟨by decide,by decide,by decide,by decide,by decide,fun ws hw w hx=>by simp[zyq]at hw;subst hw;simp at hx;subst hx;exact⟨by decide,by decide⟩⟩
 have b1:=hb.byt.one
 have A2:=A1.trans hb.2
 simp[b1]
 refine zhV V ⟨by have:=A2.nf;omega,(A2.fam 0 h00.1).trans h00.2⟩ hb.byt (by decide) (fun q=>by rw[zn8]at q;cases q) fun m hm mv σ3 hv3 A3=>?_
 rw[zn8]at hm
 cases hm
 have hv3':=hv3
 obtain⟨fv,rfl,hof⟩:=hv3'
 have fv1:fv.known=true∧fv.one=true∧fv.cells=[fv]:=by
  rcases hof with ⟨_,rfl⟩|⟨_,_,_,rfl,_⟩<;>simp
 simp[fv1,splice]
 have A4:zd σ3 ((σ3.newO [ycv,.int .i64 0,.int .i64 0]).setO σ3.no [fv,.int .i64 zcY.memory,.int .i64 zcY.main]):=(zd.refl σ3).newO.setO (yah _)
 have ho4:((σ3.newO [ycv,.int .i64 0,.int .i64 0]).setO σ3.no [fv,.int .i64 zcY.memory,.int .i64 zcY.main]).objs σ3.no=some [fv,.int .i64 zcY.memory,.int .i64 zcY.main]:=by simp
 have hl4:σ3.no<((σ3.newO [ycv,.int .i64 0,.int .i64 0]).setO σ3.no [fv,.int .i64 zcY.memory,.int .i64 zcY.main]).no:=by simp
 generalize (σ3.newO [ycv,.int .i64 0,.int .i64 0]).setO σ3.no [fv,.int .i64 zcY.memory,.int .i64 zcY.main]=τ at *
 have A5:=A2.trans (A3.trans A4)
 refine zcQ (by decide) fun v6 σ6 h6=>?_
 have B5:=A5.trans h6.2
 simp
 refine zbJ h6.byt (zej.lit σ6 [229,142,38] rfl) (by rw[uK];decide) ?_
 rw[uK]
 simp
 refine zo8 (by decide) fun v7 σ7 h7=>?_
 have B6:=B5.trans h7.2
 have C6:zd τ σ7:=h6.2.trans h7.2
 have ho7:=(C6.obj σ3.no hl4).trans ho4
 simp
 refine zbJ h7.byt (zej.lit σ7 [192,187,120] rfl) (by rw[sK];decide) ?_
 rw[sK]
 simp[ho7,fv1]
 refine zjP fun v8 σ8 hv8 A8=>?_
 have C8:=C6.trans A8
 have ho8:=(C8.obj σ3.no hl4).trans ho4
 have B8:=B6.trans A8
 have hme:=ztV hv3 (A4.trans C8).nf fun f hf=>(A4.trans C8).fam f hf
 have hM:=Al.m_e (σ:=σ8) ⟨by have:=B8.nf;omega,(B8.fam 0 h00.1).trans h00.2⟩ hme
 simp[ho8,fv1]
 refine Al.eqM_calls hM hv8 (by decide) (fun f hf=>?_) fun σ9 A9=>?_
 ·simp only[zcY,ycD]at hf
  subst hf
  exact⟨by decide,by decide,by decide,by decide⟩
 have hb9:=(hb.byt.keep (A3.trans (A4.trans (C8.trans A9))))
 have bl:=hb9.len
 obtain⟨φ,hφ,hi⟩:=hb9.at (i:=1) (by decide)
 have hr:=hφ.read
 simp at hi
 simp[bl,hi,hr,zub]
 exact h _ (B8.trans A9)
end
def NZ{α:Type}(r:Res α):Prop:=∀e,r=.error e→e≠0
theorem NZ.ok{α:Type}(a:α):NZ (.ok a:Res α):=fun e h=>by cases h
theorem NZ.err{α:Type}{k:Int}(h:k≠0):NZ (.error k:Res α):=fun e q=>by cases q;exact h
theorem zqL(s:St):NZ (zgq s):=by
 unfold zgq
 split
 ·split
  ·exact .ok _
  ·exact .err (by omega)
 ·exact .ok _
theorem zfu:∀(ts:List Int) (s:St),NZ (zaH ts s)
 | [],s=>.ok _
 | t::ts,s=>by
  rw[zaH]
  split
  ·have:=zqL s
   cases hd:zgq s with
   | ok s'=>exact zfu ts s'
   | error e=>rw[hd]at this;exact .err (this e rfl)
  ·exact .err (by omega)
theorem zqM{r:Res St}{t:Int}(h:NZ r):NZ (zgr r t):=by
 cases r with
 | ok s=>exact .ok _
 | error e=>exact .err (h e rfl)
theorem zec(ty:Int)(s:St):NZ (zT ty s):=by unfold zT;split;exact .ok _;exact zfu _ _
theorem zud(fs:List F)(ls:List Int)(w:W)(s:St):NZ (zhH fs ls w s):=by
 unfold zhH
 repeat' split
 all_goals first
  | exact .ok _
  | exact zqM (zfu _ _)
  | exact zfu _ _
  | exact zqL _
theorem zue{fs:List F}{ls:List Int}{ty deep:Int}{lk:zuw}(hl:∀a d,NZ (lk a d))(w:W)(s:St):NZ (zeg fs ls ty deep lk w s):=by
 unfold zeg
 split
 ·exact .err (by omega)
 split
 ·exact .err (by omega)
 split
 ·have:=hl w.body (deep+1)
  cases hq:lk w.body (deep+1)with
  | ok u=>exact .ok _
  | error e=>rw[hq]at this;exact .err (this e rfl)
 split
 ·have ht:=zfu [1] s
  cases hq:zaH [1] s with
  | error e=>rw[hq]at ht;exact .err (ht e rfl)
  | ok s1 =>
   have:=hl w.body (deep+1)
   simp only
   cases hq:lk w.body (deep+1)with
   | error e=>rw[hq]at this;exact .err (this e rfl)
   | ok u =>
    simp only
    split
    ·have:=hl w.other (deep+1)
     cases hq:lk w.other (deep+1)with
     | error e=>rw[hq]at this;exact .err (this e rfl)
     | ok u=>exact .ok _
    ·exact .ok _
 split
 ·have ht:=zfu [1] s
  cases hq:zaH [1] s with
  | error e=>rw[hq]at ht;exact .err (ht e rfl)
  | ok s1 =>
   simp only
   split
   ·exact zqM (zec _ _)
   ·exact .ok _
 split
 ·split
  ·have ht:=zec ty s
   cases hq:zT ty s with
   | error e=>rw[hq]at ht;exact .err (ht e rfl)
   | ok s1=>exact .ok _
  ·exact .ok _
 split
 ·have ht:=zec ty s
  cases hq:zT ty s with
  | error e=>rw[hq]at ht;exact .err (ht e rfl)
  | ok s1=>exact .ok _
 split
 ·exact .ok _
 ·exact zud _ _ _ _
theorem zk3{fs:List F}{ls:List Int}{ty deep:Int}{lk:zuw}(hl:∀a d,NZ (lk a d)):∀(ws:List W) (s:St),NZ (zdh fs ls ty deep lk ws s)
 | [],s=>.ok _
 | w::ws,s=>by
  rw[zdh]
  have:=zue (fs:=fs) (ls:=ls) (ty:=ty) (deep:=deep) hl w s
  cases hq:zeg fs ls ty deep lk w s with
  | error e=>rw[hq]at this;exact .err (this e rfl)
  | ok s1=>exact zk3 hl ws s1
theorem zqN(fs:List F)(ls:List Int)(ty:Int)(lists:To):∀(k:Nat) (a d:Int),NZ (zfx fs ls ty lists k a d)
 | 0,a,d=>.err (by omega)
 | k+1,a,d=>by
  rw[zfx]
  have:=zk3 (fs:=fs) (ls:=ls) (ty:=ty) (deep:=d) (zqN fs ls ty lists k) (lists.getD a.toNat []) ⟨[],false⟩
  cases hq:zdh fs ls ty d (zfx fs ls ty lists k) (lists.getD a.toNat []) ⟨[],false⟩with
  | error e=>rw[hq]at this;exact .err (this e rfl)
  | ok s =>
   simp only
   unfold zLN
   have:NZ (if d=0 then zT ty s else .ok s):=by
    split
    ·exact zec _ _
    ·exact .ok _
   cases hq:(if d=0 then zT ty s else .ok s:Res St)with
   | error e=>rw[hq]at this;exact .err (this e rfl)
   | ok s' =>
    simp only
    split
    ·exact .ok _
    ·exact .err (by omega)
theorem zn9(a:Int):∀(ns:List Int) (named:List Bool),NZ (zbh a ns named)
 | [],named=>.ok _
 | n::ns,named=>by
  rw[zbh]
  unfold zfy
  split
  ·rename_i e he
   split at he
   ·cases he
   ·cases he;exact .err (by omega)
  ·exact zn9 a ns _
theorem zuf(a:Int):∀(ws:List W) (named:List Bool),NZ (zjT a ws named)
 | [],named=>.ok _
 | w::ws,named=>by
  rw[zjT]
  have:=zn9 a (zU w) named
  cases hq:zbh a (zU w) named with
  | error e=>rw[hq]at this;exact .err (this e rfl)
  | ok n=>exact zuf a ws n
theorem zqO:∀(ls:To) (k:Nat) (named:List Bool),NZ (zcp k ls named)
 | [],k,named=>.ok _
 | l::ls,k,named=>by
  rw[zcp]
  have:=zuf (k:Int) l named
  cases hq:zjT (k:Int) l named with
  | error e=>rw[hq]at this;exact .err (this e rfl)
  | ok n=>exact zqO ls (k+1) n
theorem zug(ls:To):NZ (zeh ls):=by
 unfold zeh
 split
 ·exact .err (by omega)
 ·have:=zqO ls 0 (yaj ls.length false)
  cases hq:zcp 0 ls (yaj ls.length false)with
  | error e=>rw[hq]at this;exact .err (this e rfl)
  | ok n =>
   simp only
   split
   ·exact .ok _
   ·exact .err (by omega)
theorem zoa(fs:List F)(f:F):NZ (zcO fs f):=by
 unfold zcO
 split
 ·exact .err (by omega)
 ·have:=zug f.lists
  cases hq:zeh f.lists with
  | error e=>rw[hq]at this;exact .err (this e rfl)
  | ok u=>exact zqN _ _ _ _ _ _ _
theorem zgR(fs:List F):∀r,NZ (za3 fs r)
 | []=>.ok _
 | f::r=>by
  rw[za3]
  have:=zoa fs f
  cases hq:zcO fs f with
  | error e=>rw[hq]at this;exact .err (this e rfl)
  | ok u=>exact zgR fs r
theorem zuh(m:M):NZ (zfG m):=by
 unfold zfG
 split
 ·exact .err (by omega)
 ·have:=zgR m.funcs m.funcs
  cases hq:za3 m.funcs m.funcs with
  | error e=>rw[hq]at this;exact .err (this e rfl)
  | ok u =>
   simp only
   split
   ·exact .ok _
   ·exact .err (by omega)
theorem zw4{m:M}(h:zq7 (zfG m)=0):zfG m=.ok ():=by
 cases hq:zfG m with
 | ok u=>rfl
 | error e=>rw[hq]at h;exact absurd h (zuh m e hq)
structure zOq(f f':F):Prop where
 name:f'.name=f.name
 params:f'.params=f.params
 locals:f'.locals=f.locals
 type:f'.type=f.type
 lists:f'.lists.length≤f.lists.length
 size:zNL id f'.lists≤zNL id f.lists
 good:∀l∈f'.lists,zOb l
def t7:List UInt8:=[105,51,50,46,99,111,110,115,116,32,55]
section
variable {G : Env} {σ : AS} {R : Out → AS → Prop}
end
theorem zMg:0<AS.bare.nf∧AS.bare.F 0=.alive:=⟨by decide,rfl⟩
section
variable {G : Env} {σ : AS} {R : Out → AS → Prop}
theorem ze4(V:zd2 G)(hG:∀k,StillI (G.g k))(hy:∀l,¬G.has l)(h:R (.ret (.bool true)) σ):zzQ G 13 [] σ R :=
 zta (vs:=[]) (Q:=fun x=>x=.bool true) hG hy (fun v hv=>by cases hv) (zpD V zMg fun _ _=>⟨_,rfl,.bool _,rfl⟩) fun x hx=>by rw[hx];exact h
theorem zrT(V:zd2 G)(VT:zc2 G)(VC:zqj G)(hG:∀k,StillI (G.g k))(hy:∀l,¬G.has l)(h00:0<σ.nf∧σ.F 0=.alive){v:AV}{bs:List UInt8}(hv:zej σ v bs)(h:∀σ',R (.ret (.bool true)) σ'):zzQ G 4 [v] σ R:=by
 refine zEn rfl ?_
 have v1:=hv.one
 have vl:=hv.len
 by_cases hbig:16384<bs.length
 ·have hbi:(16384:Int)<(bs.length:Int):=by omega
  simp[pc4,vl,hbig,hbi]
  refine ze4 V hG hy ?_
  simp
  exact h _
 ·have hbi:¬(16384:Int)<(bs.length:Int):=by omega
  have hb14:bs.length≤2^14:=by omega
  simp[pc4,vl,hbig,hbi]
  refine zhV V h00 hv (by omega) (fun hq e σ1 he A1=>?_) (fun m hq mv σ1 hm A1=>?_)
  ·have hne:¬e=0:=by omega
   simp[zfK,splice,hne]
   refine ze4 V hG hy ?_
   simp
   exact h _
  ·have hm':=hm
   obtain⟨fv,rfl,hof⟩:=hm'
   have fv1:=zmy hof
   have h01:0<σ1.nf∧σ1.F 0=.alive:=⟨by have:=A1.nf;omega,(A1.fam 0 h00.1).trans h00.2⟩
   have hdec:∃s',zb4 ⟨bs,[],0⟩=some (m,s')∧m.funcs.all zdF=true∧zhk m=true∧zto m=some bs:=by
    unfold zd3 at hq
    simp only[ybA]at hq
    obtain⟨⟨m',s'⟩,h1,h2⟩:=hq
    split at h2
    ·rename_i hc
     cases h2
     exact⟨s',h1,hc.2.1,hc.2.2.1,hc.2.2.2⟩
    ·cases h2
   obtain⟨s',hmod,htyped,hrng,henc⟩:=hdec
   obtain⟨z1,z2,z3,y,hy1,hyl⟩:=zjA hmod (by omega)
   obtain⟨k1,k2⟩:=zn7 hmod hb14
   have sm:zs6 m:=⟨by omega,fun f hf=>by have:=(k2 f hf).1;omega,fun f hf=>by have:=(k2 f hf).2.1;omega,fun f hf=>by have:=(k2 f hf).2.2.1;omega,fun f hf l hl=>by have:=(k2 f hf).2.2.2 l hl;omega,fun f hf l hl w hw=>by have:=((z1 f hf).rg l hl w hw).2;omega⟩
   have B1:zd σ1 ((σ1.newO [ycv,.int .i64 0,.int .i64 0]).setO σ1.no [fv,.int .i64 m.memory,.int .i64 m.main]):=(zd.refl σ1).newO.setO (yah _)
   have ho1:((σ1.newO [ycv,.int .i64 0,.int .i64 0]).setO σ1.no [fv,.int .i64 m.memory,.int .i64 m.main]).objs σ1.no=some [fv,.int .i64 m.memory,.int .i64 m.main]:=by simp
   have hl1:σ1.no<((σ1.newO [ycv,.int .i64 0,.int .i64 0]).setO σ1.no [fv,.int .i64 m.memory,.int .i64 m.main]).no:=by simp
   have hMO0:=Al.m_e (σ:=σ1) h01 (ztV hm (yah _) fun _ _=>rfl)
   have hMO1:=Al.MO.keep hMO0 B1
   simp[fv1,splice]
   generalize (σ1.newO [ycv,.int .i64 0,.int .i64 0]).setO σ1.no [fv,.int .i64 m.memory,.int .i64 m.main]=τ1 at *
   have hvt:=hv.keep (A1.trans B1)
   refine zdb V hMO1 henc (by omega) z2 z1 z3 fun u σ2 h2=>?_
   have u1:=h2.byt.one
   simp
   refine zbJ h2.byt (hvt.keep h2.2) (by omega) ?_
   have ho2:=(h2.2.obj σ1.no hl1).trans ho1
   have hMO2:=Al.MO.keep hMO1 h2.2
   simp[ho2,fv1]
   refine zGH hMO2 (by omega) (fun f hf=>by have:=(z1 f hf).name;omega) fun σ3 A3=>?_
   have ho3:=(A3.obj σ1.no (by have:=h2.2.no;omega)).trans ho2
   have hMO3:=Al.MO.keep hMO2 A3
   cases htg:m.funcs.all fun f=>zh2 24 f.name with
   | false =>
    simp
    refine ze4 V hG hy ?_
    simp
    exact h _
   | true =>
    simp[ho3,fv1]
    refine zte VC hG hy hMO3 sm ?_
    cases hck:zfG m with
    | error e =>
     have hne:¬e=0:=fun q=>by
      have:=zw4 (m:=m) (by rw[hck];exact q)
      rw[hck]at this
      cases this
     simp[zq7,hne]
     refine ze4 V hG hy ?_
     simp
     exact h _
    | ok u0 =>
     have hpf:∀f∈m.funcs,Pf 24 f:=fun f hf=>by
      have ht:=yaM.1 htyped f hf
      have hn:=yaM.1 htg f hf
      have hod:∀t,zoc t=false→t=1∨t=2:=fun t q=>by
       simp only[zoc,Bool.and_eq_false_iff,decide_eq_false_iff_not]at q
       omega
      simp only[zdF,Bool.not_eq_true',Bool.or_eq_false_iff,Bool.and_eq_false_iff,decide_eq_false_iff_not,List.any_eq_false]at ht
      refine⟨hn,fun t q=>hod t (by simpa using ht.1 t q),fun t q=>hod t (by simpa using ht.2.1 t q),?_⟩
      rcases ht.2.2 with q|q
      ·exact .inl (by simpa using q)
      ·rcases hod _ q with q|q
       ·exact .inr (.inl q)
       ·exact .inr (.inr q)
     have hnm:∀f∈m.funcs,f.name.length≤24:=fun f hf=>by
      have:=(hpf f hf).name
      rw[zs2]at this
      simp only[Bool.and_eq_true,decide_eq_true_eq]at this
      exact this.1.2
     obtain⟨toks,t1,t2⟩:=zt9 hmod hb14 hnm
     have hmain:-(2^63)≤m.main∧m.main<2^63:=by
      have hmod':=hmod
      unfold zb4 at hmod'
      simp only[ybA,ybB]at hmod'
      obtain⟨_,_,_,_,h5⟩:=hmod'
      simp only[Prod.mk.injEq]at h5
      rw[←h5.1]
      exact(zf2 _).1
     have htl:(zjt (zdm m toks)).length<2^25:=by
      have i1:=Lib.itoa_length_le m.memory (by have:=z3.1;omega) (by have:=z3.2;omega)
      have i2:=Lib.itoa_length_le (yb4 .i64 (m.main+3)) (by have:=(zf2 (m.main+3)).1.1;omega) (by have:=(zf2 (m.main+3)).1.2;omega)
      have hh:zbY.length=185:=by rfl
      have e1:(spT [Lib.itoa m.memory,zh,zh]).length=(Lib.itoa m.memory).length+5:=by simp[spT,zh]
      have e2:(spT [zC,zbZ,zhc,zC,zbR,Lib.itoa (yb4 .i64 (m.main+3)),zh,zh,zh]).length≤(Lib.itoa (yb4 .i64 (m.main+3))).length+60:=by
       simp[spT,zh,zC,zbZ,zhc,zbR]
      rw[zmA]
      simp only[yab,yac,ybl]
      omega
     have hsz:∀f∈m.funcs,f.lists.length≤2^40∧∀ws∈f.lists,ws.length≤2^40:=fun f hf=>⟨by have:=(k2 f hf).2.2.1;omega,fun ws hw=>by have:=(k2 f hf).2.2.2 ws hw;omega⟩
     have hback:=znE t1 hpf z3 hmain
     simp[zq7,ho3,fv1]
     refine zBZ VT hMO3 t1 hpf (by decide) hsz (by omega) z3 (by omega) fun σ4 A4=>?_
     simp
     have h04:0<σ4.nf∧σ4.F 0=.alive:=by
      have C:=(((A1.trans B1).trans h2.2).trans A3).trans A4
      exact⟨by have:=C.nf;omega,(C.fam 0 h00.1).trans h00.2⟩
     refine zBX VT h04 (zB0 m toks) (by omega) (fun e q=>by rw[hback]at q;cases q) fun n hn nv σ5 hnv A5=>?_
     rw[hback]at hn
     have hnm2:n=m:=by cases hn;rfl
     subst hnm2
     have hnv':=hnv
     obtain⟨gv,rfl,hog⟩:=hnv'
     have gv1:=zmy hog
     have h05:0<σ5.nf∧σ5.F 0=.alive:=⟨by have:=A5.nf;omega,(A5.fam 0 h04.1).trans h04.2⟩
     have B5:zd σ5 ((σ5.newO [ycv,.int .i64 0,.int .i64 0]).setO σ5.no [gv,.int .i64 n.memory,.int .i64 n.main]):=(zd.refl σ5).newO.setO (yah _)
     have ho5:((σ5.newO [ycv,.int .i64 0,.int .i64 0]).setO σ5.no [gv,.int .i64 n.memory,.int .i64 n.main]).objs σ5.no=some [gv,.int .i64 n.memory,.int .i64 n.main]:=by simp
     have hMO5:=Al.MO.keep (Al.m_e (σ:=σ5) h05 (ztV hnv (yah _) fun _ _=>rfl)) B5
     have hv5:=hvt.keep ((((h2.2.trans A3).trans A4).trans A5).trans B5)
     simp[gv1,splice,ho5]
     generalize (σ5.newO [ycv,.int .i64 0,.int .i64 0]).setO σ5.no [gv,.int .i64 n.memory,.int .i64 n.main]=τ5 at *
     refine zdb V hMO5 henc (by omega) z2 z1 z3 fun u6 σ6 h6=>?_
     have u61:=h6.byt.one
     simp
     refine zbJ h6.byt (hv5.keep h6.2) (by omega) ?_
     simp
     refine ze4 V hG hy ?_
     simp
     exact h _
end
end Go.Proofs.YtohfclafhegadaaGreatDoor
namespace Go.Proofs.YtohfclafhegadaaGreatDoor
open Go Go.Abs Go.RowKit
def ze5(w:World)(v:AV)(cs:List Value):Prop:=v.cells.length=cs.length∧∀j (h:j<v.cells.length) (h':j<cs.length),VR (Mp.all w) AS.zero.F w v.cells[j] cs[j]
theorem ze5.one{w:World}{v:AV}{c:Value}(h:VR (Mp.all w) AS.zero.F w v c)(hv:v.cells=[v]):ze5 w v [c]:=by
 refine⟨by rw[hv];rfl,fun j h1 h2=>?_⟩
 have:j=0:=by simpa using h2
 subst this
 simpa [hv]using h
theorem ze5.tO{w:World}{v:AV}{c:Value}(h:ze5 w v [c])(hv:v.cells=[v]):VR (Mp.all w) AS.zero.F w v c:=by
 have:=h.2 0 (by rw[hv];simp) (by simp)
 simpa [hv]using this
def zw5{H:Type}(t:TypeId)(d:DataW H):Prop:=(d.weights yb9 t).all (·≤reachBytes)=true
theorem zHq{H:Type}{e:TypeId}:∀{ds:List (DataW H)},(DataW.weightsAll yb9 e ds).all (·≤reachBytes)=true→∀d∈ds,zw5 e d
 | [],_=>by simp
 | d::ds,h=>by
  rw[DataW.weightsAll,ycb,Bool.and_eq_true]at h
  intro x hx
  rcases ybC.1 hx with rfl|hx
  ·exact h.1
  ·exact zHq h.2 x hx
theorem zyr{H:Type}:∀{ts:List TypeId} {ds:List (DataW H)},(DataW.weightsEach yb9 ts ds).all (·≤reachBytes)=true→∀(i:Nat) t d,ts[i]?=some t→ds[i]?=some d→zw5 t d
 | [],ds,_=>by simp
 | _::_,[],_=>by simp
 | t::ts,d::ds,h=>by
  rw[DataW.weightsEach,ycb,Bool.and_eq_true]at h
  intro i t' d' h1 h2
  cases i with
  | zero=>simp at h1 h2;subst h1 h2;exact h.1
  | succ i=>exact zyr h.2 i t' d' (by simpa using h1) (by simpa using h2)
theorem exists_list{X:Type}{n:Nat}{P:Nat→X→Prop}(h:∀i,i<n→∃x,P i x):∃l:List X,l.length=n∧∀i (hi:i<l.length),P i l[i]:=by
 induction n with
 | zero=>exact⟨[],rfl,fun i hi=>by simp at hi⟩
 | succ n ih =>
  obtain⟨l,hl,hp⟩:=ih fun i hi=>h i (by omega)
  obtain⟨x,hx⟩:=h n (by omega)
  refine⟨l++[x],by simp[hl],fun i hi=>?_⟩
  by_cases hi':i<l.length
  ·rw[List.getElem_append_left hi'];exact hp i hi'
  ·have e:i=l.length:=by simp at hi;omega
   subst e
   rw[List.getElem_append_right (by omega)]
   simpa [hl]using hx
theorem All2.of_get{α β:Type}{R:α→β→Prop}:∀{xs:List α} {ys:List β},xs.length=ys.length→(∀i (h:i<xs.length) (h':i<ys.length),R xs[i] ys[i])→All2 R xs ys
 | [],[],_,_=>.nil
 | [],_::_,h,_=>by simp at h
 | _::_,[],h,_=>by simp at h
 | x::xs,y::ys,h,hr=>.cons (hr 0 (by simp) (by simp)) (All2.of_get (by simpa using h) fun i h1 h2=>hr (i+1) (ybn h1) (ybn h2))
theorem zrU{H T:Type}{enc:TypeId × Value→H}{w:World}{fuel:Nat}{t e:TypeId}{cs:List Value}{x:DataW H × List MemPlace}{sz:Nat}(Rel:AV→T→Prop)(P:DataW H→Prop)
  (ht:yb9.underlying t=some (.slice e)) (hc:yb9.cellsOf e=sz) (hsz:0<sz) (hb:0<yb9.bytesOf e)
  (ih:∀n cs' d q,DataW.trod enc yb9 w 0 (fun _=>true) true n e cs'=some (d,q)→zw5 e d→P d→∃v o,Rel v o∧ze5 w v cs')
  (h:DataW.trod enc yb9 w 0 (fun _=>true) true fuel t cs=some x) (hw:zw5 t x.1) (hP:∀ds rs,x.1=.slice ds rs→∀d∈ds,P d) :
  ∃(v:AV) (os:List T),ze5 w v cs∧((os=[]∧v=.nilsl)∨∃vs,v=.sl (.stat false) sz vs∧All2 Rel vs os)∧os.length≤2^47:=by
 rcases DataW.trod_slice ht h with ⟨rfl,rfl⟩|⟨a,len,cap,elems,rest,n,rfl,rfl,rfl,hb0,hl,hm,hlen,hel,hsp,hns⟩
 ·exact⟨.nilsl,[],.one .nilsl rfl,.inl ⟨rfl,rfl⟩,by simp⟩
 obtain⟨hrl,hrest⟩:=hsp rfl
 have hw':=hw
 unfold zw5 DataW.weights at hw'
 rw[ht]at hw'
 simp only[List.all_cons,ycb,Bool.and_eq_true,ybb,decide_eq_true_eq]at hw'
 obtain⟨w1,w2,w3⟩:=hw'
 have hel2:=zHq w2
 have hel3:=hP _ _ rfl
 have each:∀i,i<len→∃p:AV × T,Rel p.1 p.2∧∃cs',w.cells? 0 (a.add (i*sz)) sz=some cs'∧ze5 w p.1 cs':=fun i hi=>by
  have h1:=hel i hi
  have hi':i<elems.length:=by omega
  rw[hc,yau hi',ybA]at h1
  obtain⟨cs',h2,h3⟩:=h1
  obtain⟨v,o,h4,h5⟩:=ih n cs' elems[i].1 elems[i].2 h3 (hel2 _ (yaW (yaw hi'))) (hel3 _ (yaW (yaw hi')))
  exact⟨(v,o),h4,cs',h2,h5⟩
 obtain⟨l,hll,hp⟩:=exists_list each
 have hcap:len≤2^47:=by
  have h1:(elems.length+rest.length)*1≤(elems.length+rest.length)*yb9.bytesOf e:=Nat.mul_le_mul_left _ hb
  have h2:reachBytes≤2^47:=by unfold reachBytes;omega
  omega
 have hall:All2 Rel (l.map (·.1)) (l.map (·.2)):=All2.of_get (by simp) fun i h1 h2=>by simpa using (hp i (by simpa using h1)).1
 by_cases hz:cap=0
 ·have e1:len=0:=by omega
  have e2:l=[]:=List.eq_nil_of_length_eq_zero (by omega)
  subst e1 hz e2
  exact⟨.sl (.stat false) sz [],[],.one (.slz ..) rfl,.inr ⟨[],rfl,.nil⟩,by simp⟩
 have h0:∃c,w.cell? a=some c:=by
  have key:∀(y:DataW H × List MemPlace),(w.cells? 0 (a.add (0*yb9.cellsOf e)) (yb9.cellsOf e)).bind (DataW.trod enc yb9 w 0 (fun _=>true) true n e)=some y→∃c,w.cell? a=some c:=fun y hy=>by
   rw[ybA]at hy
   obtain⟨cs',h2,_⟩:=hy
   obtain⟨_,h3,h4⟩:=World.cells?_some h2
   have h5:=h4 0 (by omega)
   rw[Nat.zero_mul]at h5
   have e:(a.add 0).add 0=a:=by simp[Addr.add]
   rw[e,yau (by omega)]at h5
   exact⟨_,h5⟩
  by_cases hl0:0<len
  ·have:=hel 0 hl0
   rw[yau (by omega)]at this
   exact key _ this
  ·have e1:len=0:=by omega
   subst e1
   have:=hrest 0 (by omega)
   rw[yau (by omega)]at this
   exact key _ this
 obtain⟨c0,hc0⟩:=h0
 obtain⟨B,off,spot⟩:=a
 have hBs:B<w.heap.size∧spot=none:=by
  unfold World.cell? at hc0
  split at hc0
  ·rename_i c t' fr hh
   refine⟨(yaU.1 hh).1,?_⟩
   split at hc0
   ·cases hc0
   ·rename_i hs;simpa using hs
  ·cases hc0
 obtain⟨hB,rfl⟩:=hBs
 have hsz':∀v∈l.map (·.1),v.cells.length=sz:=fun v hv=>by
  obtain⟨p,hp',rfl⟩:=yaV.1 hv
  obtain⟨i,hi,rfl⟩:=List.mem_iff_getElem.1 hp'
  obtain⟨_,cs',h2,h3⟩:=hp i hi
  rw[h3.1,(World.cells?_some h2).2.1]
 have hfl:=zr sz (l.map (·.1)) hsz'
 have key:∀j (hj:j<(zt (l.map (·.1))).length),∃c,w.cell? ⟨B,off+j,none⟩=some c∧VR (Mp.all w) AS.zero.F w (zt (l.map (·.1)))[j] c:=fun j hj=>by
  have hj':j<l.length*sz:=by simpa [hfl]using hj
  have hi:j/sz<l.length:=(Nat.div_lt_iff_lt_mul hsz).2 hj'
  have hr:j%sz<sz:=Nat.mod_lt _ hsz
  obtain⟨_,cs',h2,h3⟩:=hp (j/sz) hi
  obtain⟨_,h4,h5⟩:=World.cells?_some h2
  have h6:=h5 (j%sz) hr
  rw[zN,zN,Nat.add_assoc,ydu,yau (by omega)]at h6
  refine⟨_,h6,?_⟩
  have hl1:l[j/sz].1.cells.length=sz:=by rw[h3.1,h4]
  have h7:=(zk8 hsz' (i:=j/sz) (v:=l[j/sz].1) (by simp[yau hi]) (j:=j%sz) (by omega)).2
  rw[ydu,yau hj]at h7
  rw[yaR.inj h7]
  exact h3.2 _ _ _
 have hv:=VR.sl (M:=Mp.all w) (F:=AS.zero.F) (w:=w) (.stat false) sz (l.map (·.1)) B off cap (fun j=>(w.cell? ⟨B,off+j,none⟩).getD undef) (by simp;omega) (by simp[Own.full]) hsz' (by simp[Mem,Mp.all,hB])
  (fun _ j hj=>by obtain⟨c,h1,_⟩:=key j hj;simp[h1]) (fun _ j hj=>by obtain⟨c,h1,h2⟩:=key j hj;simpa [h1]using h2)
 rw[ybb,hll]at hv
 exact⟨_,l.map (·.2),.one hv rfl,.inr ⟨_,rfl,hall⟩,by simpa [hll]using hcap⟩
theorem zui{H T:Type}{enc:TypeId × Value→H}{w:World}{fuel:Nat}{t e:TypeId}{cs:List Value}{x:DataW H × List MemPlace}{sz:Nat}(Rel:AV→T→Prop)
  (ht:yb9.underlying t=some (.slice e)) (hc:yb9.cellsOf e=sz) (hsz:0<sz) (hb:0<yb9.bytesOf e)
  (ih:∀n cs' d q,DataW.trod enc yb9 w 0 (fun _=>true) true n e cs'=some (d,q)→zw5 e d→∃v o,Rel v o∧ze5 w v cs')
  (h:DataW.trod enc yb9 w 0 (fun _=>true) true fuel t cs=some x) (hw:zw5 t x.1) :
  ∃(v:AV) (os:List T),ze5 w v cs∧((os=[]∧v=.nilsl)∨∃vs,v=.sl (.stat false) sz vs∧All2 Rel vs os)∧os.length≤2^47 :=
 zrU Rel (fun _=>True) ht hc hsz hb (fun n cs' d q h hw _=>ih n cs' d q h hw) h hw fun _ _ _ _ _=>trivial
def zw6(v:AV)(b:UInt8):Prop:=v=.int .u8 (b.toNat:Int)
theorem zw7{H:Type}{enc:TypeId × Value→H}{w:World}{n:Nat}{cs:List Value}{x:DataW H × List MemPlace}(h:DataW.trod enc yb9 w 0 (fun _=>true) true n 5 cs=some x):∃v o,zw6 v o∧ze5 w v cs:=by
 obtain⟨k,rfl,_,hw⟩:=DataW.trod_int ydv h
 simp[Lit.wf,IntKind.min,IntKind.max,IntKind.signed,IntKind.bits]at hw
 refine⟨.int .u8 k,UInt8.ofNat k.toNat,?_,.one (.int ..) rfl⟩
 unfold zw6
 rw[UInt8.toNat_ofNat']
 congr 1
 omega
theorem All2.bytes{vs:List AV}{l:List UInt8}(h:All2 zw6 vs l):vs=B l:=by
 induction h with
 | nil=>rfl
 | cons h r ih=>rw[h,ih];rfl
def zHr(v:AV)(l:List UInt8):Prop:=((l=[]∧v=.nilsl)∨∃b,v=.sl (.stat b) 1 (B l))∧l.length≤2^47
theorem zuj{H:Type}{enc:TypeId × Value→H}{w:World}{n:Nat}{cs:List Value}{x:DataW H × List MemPlace}(h:DataW.trod enc yb9 w 0 (fun _=>true) true n 32 cs=some x)(hw:zw5 32 x.1):∃v o,zHr v o∧ze5 w v cs:=by
 obtain⟨v,os,h1,h2,h3⟩:=zui (sz:=1) zw6 Tryz.underlying32 (by kernel_rfl) (by omega) (of_decide_eq_true (by kernel_rfl)) (fun n cs' d q h _=>zw7 h) h hw
 refine⟨v,os,⟨?_,h3⟩,h1⟩
 rcases h2 with h2|⟨vs,rfl,h4⟩
 ·exact .inl h2
 ·exact .inr ⟨false,by rw[h4.bytes]⟩
end Go.Proofs.YtohfclafhegadaaGreatDoor
namespace Go
open Go.ChangeShapes Go.WideShapes Go.ChangeAt Go.RowKit
theorem zbm{H:Type}{enc:TypeId × Value→H}{a:Assume}{C:Checked}{os:Os}{f:FuncId}{fn:Func}{s:ChangeSpec}{conds:List PathCond}{apart fresh handsOn again:Bool}{X:World→Array Value→Prop}
  (hX:∀(w w':World) (args:Array Value),w.heap=w'.heap→X w args→X w' args)
  (own:ownKnob C.prog.godebug=none) (started:os.Started) (noInit:C.prog.inits.idxOf? f=none) (hfn:C.prog.funcs[f]?=some fn)
  (witness:∃(w:World) (tape:Tape) (i:Input),w.os=os∧(w.forCall tape i).Shaped C.prog∧i.vars=[]∧Input.okWide C.prog (w.forCall tape i) .any w.heap.size f i ∧
   ((s.pre enc C.prog fn conds apart (w.forCall tape i).memory i.args∧X (w.forCall tape i).memory i.args)∧sizedMet enc C.prog fn (OpenSpec.ofChange s) apart (w.forCall tape i).memory i.args)∧a.holds C.prog (lone (Frame.enter C.prog f i.args .normal) [] (w.forCall tape i)))
  (contract:∀(W:World) (base:Nat) (args:Array Value) (ds gs:List (DataW H)) (before:List MemPlace),
   (∀(j:Nat) t v,fn.params[j]?=some t→args[j]?=some v→Value.okWide C.prog W .any base t v) →
   DataW.Whole enc C.prog fn.params.toList s.vars apart W args.toList ds gs before→(DataW.weightsEach C.prog (fn.params.toList++s.plain.varTypes C.prog) (ds++gs)).all (·≤reachBytes)=true→W.ShapedOpen C.prog→X W args →
   Calls C.prog f args W fun e W'=>∃v,e=.returned v∧s.post enc C.prog fn apart fresh handsOn again W args v W') :
  ReturnsInHanded a C os f .any (fun w args=>(s.pre enc C.prog fn conds apart w args∧X w args)∧sizedMet enc C.prog fn (OpenSpec.ofChange s) apart w args) (s.post enc C.prog fn apart fresh handsOn again):=by
 refine returnsInHanded_of_calls own started noInit witness ?_
 intro w tape i _ hsh _ hok hpre hholds
 obtain⟨_,_,_,fn',hfn',_,_,_,_,hval⟩:=hok
 have e:fn'=fn:=yaR.inj (hfn'.symm.trans hfn)
 subst e
 obtain⟨⟨⟨ds,gs,before,hw,hc⟩,hx⟩,hz⟩:=hpre
 have hw':=DataW.Whole.of_heap (w':=w.forCall tape i) (by rfl) hw
 refine(contract (w.forCall tape i) w.heap.size i.args ds gs before hval hw' (hz.weights hw) hsh (hX _ _ _ (by rfl) hx)).mono fun e W' ⟨v,he,hp⟩=>?_
 subst he
 exact ChangeSpec.post_blind hp
theorem zgS{H:Type}{enc:TypeId × Value→H}{P:Program}{w:World}{base:Nat}{sp:Nat→Bool}{held:Bool}{fuel:Nat}{t e:TypeId}{n:Nat}{cs:List Value}{ls:List (List UInt8)}{p:List MemPlace}
  (ht:P.underlying t=some (.array n e)) (he:P.underlying e=some .string) (hce:P.cellsOf e=1) (hct:P.cellsOf t=n)
  (h:DataW.trod enc P w base sp held fuel t cs=some (.agg (ls.map fun l=>.lit (.string l)),p)):cs=ls.map fun l=>Value.string ⟨l.toArray⟩:=by
 cases fuel with
 | zero=>simp[DataW.trod]at h
 | succ fuel =>
  simp only[DataW.trod,ht,hce,hct,Nat.mul_one]at h
  split at h
  ·rename_i hl
   obtain⟨xs,hm,hx⟩:=ybB.1 h
   have hxs:xs.map (·.1)=ls.map fun l=>(DataW.lit (.string l):DataW H):=by
    have:=congrArg Prod.fst hx
    simpa using this
   have hxl:xs.length=n:=by simpa using Lib.mapM_length hm
   have hzl:ls.length=n:=by
    have:=congrArg yce hxs
    simp at this
    omega
   apply List.ext_getElem?
   intro i
   by_cases hi:i<n
   ·obtain⟨b,hb,hf⟩:=Lib.mapM_at hm i i (by simp[hi])
    obtain⟨s,hc,rfl,_⟩:=DataW.trod_string he hf
    have h1:cs[i]?=some (.string s):=by
     have:=congrArg (·[0]?) hc
     simpa [List.getElem?_take,List.getElem?_drop]using this
    have h2:(xs.map (·.1))[i]?=some (DataW.lit (.string s.data.toList):DataW H):=by simp[hb]
    rw[hxs]at h2
    simp only[ycB,ybB,DataW.lit.injEq,Lit.string.injEq]at h2
    obtain⟨l,hl1,hl2⟩:=h2
    simp[h1,hl1,hl2]
   ·rw[yb2 (by omega),yb2 (by simp;omega)]
  ·cases h
theorem zrV{α β:Type}{f:α→β}:∀{l:List β} {T:List α},l.Perm (T.map f)→∃l':List α,l'.Perm T∧l=l'.map f
 | l,T,h=>by
  generalize hm:T.map f=m at h
  induction h generalizing T with
  | nil =>
   cases T with
   | nil=>exact⟨[],.refl _,rfl⟩
   | cons a t=>cases hm
  | cons x h ih =>
   cases T with
   | nil=>cases hm
   | cons a t =>
    simp only[yaL,ydw.injEq]at hm
    obtain⟨rfl,hm⟩:=hm
    obtain⟨l',h1,rfl⟩:=ih t hm
    exact⟨a::l',.cons _ h1,rfl⟩
  | swap x y l =>
   match T,hm with
   | a::b::t,hm =>
    simp only[yaL,ydw.injEq]at hm
    obtain⟨rfl,rfl,rfl⟩:=hm
    exact⟨b::a::t,.swap ..,rfl⟩
  | trans h1 h2 ih1 ih2 =>
   obtain⟨l2,p2,rfl⟩:=ih2 T hm
   obtain⟨l1,p1,rfl⟩:=ih1 l2 rfl
   exact⟨l1,p1.trans p2,rfl⟩
end Go
namespace Go.Proofs.YtohfclafhegadaaGreatDoor
open Go Go.Abs Go.RowKit
theorem own:ownKnob yb9.godebug=none:=by kernel_rfl
abbrev zw8 : List (String × DataW Unit) := [("math/bits.deBruijn32tab", Rows.laid_math_bits_deBruijn32tab), ("math/bits.deBruijn64tab", Rows.laid_math_bits_deBruijn64tab), ("internal/strconv.uint64pow10", Rows.laid_internal_strconv_uint64pow10), ("unicode/utf8.acceptRanges", Rows.laid_unicode_utf8_acceptRanges), ("strconv.ErrRange", Rows.laid_strconv_ErrRange), ("strconv.ErrSyntax", Rows.laid_strconv_ErrSyntax), ("unicode.White_Space", Rows.laid_unicode_White_Space), ("strings.asciiSpace", Rows.laid_strings_asciiSpace), ("mortise/bin.bytesOf", Rows.laid_mortise_bin_bytesOf), ("mortise/bin.plain", Rows.laid_mortise_bin_plain), ("mortise/bin.numbered", Rows.laid_mortise_bin_numbered), ("mortise/wasm.signs", Rows.laid_mortise_wasm_signs), ("unicode/utf8.first", Rows.laid_unicode_utf8_first)]
def toD(p:UInt8 × W):Lit × DataW Unit:=(.int .u8 (p.1.toNat:Int),.agg [.lit (.int .i64 p.2.op),.lit (.int .i64 p.2.ty),.lit (.int .i64 p.2.n),.lit (.int .i64 p.2.body),.lit (.int .i64 p.2.other),.lit (.string p.2.name)])
def zN1(w:W):List Value:=[.int .i64 w.op,.int .i64 w.ty,.int .i64 w.n,.int .i64 w.body,.int .i64 w.other,.string ⟨w.name.toArray⟩]
theorem zHs{w:World}{fuel:Nat}{cs:List Value}{o:W}{c:UInt8}{p:List MemPlace}(h:DataW.trod (fun _=>()) yb9 w 0 (fun _=>true) false fuel 53 cs=some ((toD (c,o)).2,p)):cs=zN1 o:=by
 obtain⟨xs,n,rfl,hx,hlen,hxl,hf⟩:=DataW.trod_struct ydx h
 have hxl':xs.length=6:=hxl
 have hlen':cs.length=6:=hlen.trans (by kernel_rfl)
 simp only[toD,Prod.mk.injEq,DataW.agg.injEq]at hx
 obtain⟨hx,_⟩:=hx
 match cs,hlen' with
 | [a,b,c,d,e,f],_ =>
  have c9:yb9.cellsOf 9=1:=by kernel_rfl
  have c3:yb9.cellsOf 3=1:=by kernel_rfl
  have key:∀(k:Nat) (v:Value) (m:Int) (hk:k<xs.length),(xs.map (·.1))[k]?=some (DataW.lit (.int .i64 m))→DataW.trod (fun _=>()) yb9 w 0 (fun _=>true) false n 3 [v]=xs[k]?→v=.int .i64 m:=fun k v m hk h1 h2=>by
   rw[yau hk]at h2
   rw[ycB,yau hk]at h1
   simp only[yaG,yaR.injEq]at h1
   obtain⟨z,e1,e2,_⟩:=DataW.trod_int Tryz.underlying3 h2
   rw[e2]at h1
   simp only[DataW.lit.injEq,Lit.int.injEq,true_and]at h1
   simp only[ydw.injEq,and_true]at e1
   rw[e1,h1]
  have f0:DataW.trod (fun _=>()) yb9 w 0 (fun _=>true) false n 3 [a]=xs[0]?:=by
   have h:DataW.trod (fun _=>()) yb9 w 0 (fun _=>true) false n 3 ((([a,b,c,d,e,f]:List Value).drop 0).take (yb9.cellsOf 3))=xs[0]?:=hf 0 _ rfl
   rw[c3]at h;exact h
  have f1:DataW.trod (fun _=>()) yb9 w 0 (fun _=>true) false n 3 [b]=xs[1]?:=by
   have h:DataW.trod (fun _=>()) yb9 w 0 (fun _=>true) false n 3 ((([a,b,c,d,e,f]:List Value).drop 1).take (yb9.cellsOf 3))=xs[1]?:=hf 1 _ rfl
   rw[c3]at h;exact h
  have f2:DataW.trod (fun _=>()) yb9 w 0 (fun _=>true) false n 3 [c]=xs[2]?:=by
   have h:DataW.trod (fun _=>()) yb9 w 0 (fun _=>true) false n 3 ((([a,b,c,d,e,f]:List Value).drop 2).take (yb9.cellsOf 3))=xs[2]?:=hf 2 _ rfl
   rw[c3]at h;exact h
  have f3:DataW.trod (fun _=>()) yb9 w 0 (fun _=>true) false n 3 [d]=xs[3]?:=by
   have h:DataW.trod (fun _=>()) yb9 w 0 (fun _=>true) false n 3 ((([a,b,c,d,e,f]:List Value).drop 3).take (yb9.cellsOf 3))=xs[3]?:=hf 3 _ rfl
   rw[c3]at h;exact h
  have f4:DataW.trod (fun _=>()) yb9 w 0 (fun _=>true) false n 3 [e]=xs[4]?:=by
   have h:DataW.trod (fun _=>()) yb9 w 0 (fun _=>true) false n 3 ((([a,b,c,d,e,f]:List Value).drop 4).take (yb9.cellsOf 3))=xs[4]?:=hf 4 _ rfl
   rw[c3]at h;exact h
  have f5:DataW.trod (fun _=>()) yb9 w 0 (fun _=>true) false n 9 [f]=xs[5]?:=by
   have h:DataW.trod (fun _=>()) yb9 w 0 (fun _=>true) false n 9 ((([a,b,c,d,e,f]:List Value).drop 5).take (yb9.cellsOf 9))=xs[5]?:=hf 5 _ rfl
   rw[c9]at h;exact h
  have e0:=key 0 a o.op (by omega) (by rw[←hx];rfl) f0
  have e1:=key 1 b o.ty (by omega) (by rw[←hx];rfl) f1
  have e2:=key 2 c o.n (by omega) (by rw[←hx];rfl) f2
  have e3:=key 3 d o.body (by omega) (by rw[←hx];rfl) f3
  have e4:=key 4 e o.other (by omega) (by rw[←hx];rfl) f4
  have e5:f=.string ⟨o.name.toArray⟩:=by
   rw[yau (by omega)]at f5
   have h1:(xs.map (·.1))[5]?=some (DataW.lit (.string o.name)):=by rw[←hx];rfl
   rw[ycB,yau (by omega)]at h1
   simp only[yaG,yaR.injEq]at h1
   obtain⟨z,e1,e2,_⟩:=DataW.trod_string ydy f5
   rw[e2]at h1
   simp only[DataW.lit.injEq,Lit.string.injEq]at h1
   simp only[ydw.injEq,and_true]at e1
   rw[e1,←h1]
  rw[e0,e1,e2,e3,e4,e5]
  rfl
theorem zHt{v:Value}{n:Int}(h:keyOf yb9 5 v=some (.int .u8 n)):v=.int .u8 n:=by
 simp only[keyOf,mapKey,ydv]at h
 cases v<;>simp at h
 obtain⟨⟨rfl,_⟩,rfl⟩:=h
 rfl
theorem zuk{v:Value}(h:v.formed yb9 53=true):∃A,v=.agg A:=by
 cases v<;>simp[Value.formed,ydx]at h
 exact⟨_,rfl⟩
theorem zys{w:World}{fuel:Nat}{cs:List Value}{p:List MemPlace}{T:List (UInt8 × W)}{L:List (Lit × DataW Unit)}(hT:L.Perm (T.map toD))(h:DataW.trod (fun _=>()) yb9 w 0 (fun _=>true) false fuel 184 cs=some (.map L,p)):
  ∃(l:List (UInt8 × W)) (b:Nat) (es:Array MapEntry) (clock:Nat),l.Perm T∧cs=[.map (some b)]∧w.heap[b]?=some (.map es clock)∧zr3 (zbd l) (zbS l) es clock:=by
 cases fuel with
 | zero=>simp[DataW.trod]at h
 | succ n =>
  have h0:=h
  rw[DataW.trod_step]at h
  unfold DataW.trodStep at h
  rw[ydz]at h
  split at h<;>simp_all
  rename_i b _
  rw[DataW.trod_step]at h0
  unfold DataW.trodStep at h0
  cases hb:w.heap[b]? with
  | none=>simp[ydz,hb]at h0
  | some o =>
   cases o
   case map es clock =>
    simp only[ydz,hb]at h0
    split at h0
    ·rename_i hc
     simp only[ybA]at h0
     obtain⟨entries,he,h3⟩:=h0
     split at h3
     ·simp only[yaR.injEq,Prod.mk.injEq,DataW.map.injEq]at h3
      obtain⟨h3,_⟩:=h3
      have hp:(entries.map (·.1)).Perm (T.map toD):=(WideShapes.sorted_perm _).symm.trans (by rw[h3];exact hT)
      obtain⟨l,hl,hle⟩:=zrV hp
      have hlen:entries.length=es.size:=by rw[Lib.mapM_length he];simp
      have hll:l.length=es.size:=by
       have:=congrArg yce hle
       simp at this
       omega
      have ent:∀i (hi:i<es.size),es[i].key=.int .u8 ((l[i]'(by omega)).1.toNat:Int)∧∃A,es[i].val=.agg A∧A.toList=zN1 (l[i]'(by omega)).2:=fun i hi=>by
       obtain⟨y,h1,h2⟩:=Lib.mapM_at he i es[i] (by simp[hi])
       have h3:(entries.map (·.1))[i]?=some y.1:=by rw[ycB,h1];rfl
       rw[hle,ycB,yau (by omega)]at h3
       simp only[yaG,yaR.injEq]at h3
       rw[ybA]at h2
       obtain⟨key,k1,k2⟩:=h2
       split at k2
       ·rename_i hfm
        rw[ybB]at k2
        obtain⟨z,z1,rfl⟩:=k2
        obtain⟨A,hA⟩:=zuk hfm
        simp only at h3
        have q1:key=.int .u8 ((l[i]'(by omega)).1.toNat:Int):=(congrArg Prod.fst h3).symm
        have q2:z.1=(toD l[i]).2:=(congrArg Prod.snd h3).symm
        rw[q1]at k1
        refine⟨zHt k1,A,hA,?_⟩
        rw[hA]at z1
        obtain⟨z1a,z1b⟩:=z
        simp only at q2
        subst q2
        exact zHs (c:=l[i].1) z1
       ·cases k2
      refine⟨l,hl,es,clock,rfl,⟨by simp[zbd,hll],by simp[zbd,zbS],fun i h1 h2=>?_,fun i h1 h2=>?_,fun i hi=>?_,fun i j hi hj e=>?_⟩⟩
      ·obtain⟨e1,_⟩:=ent i h2
       rw[e1]
       simp only[zbd,yak]
       exact .int ..
      ·obtain⟨_,A,e1,e2⟩:=ent i h2
       rw[e1]
       simp only[zbS,yak,W.av]
       have hs:A.size=6:=by rw[←Array.length_toList,e2];rfl
       refine .agg _ A (by rw[hs];rfl) fun j g1 g2=>?_
       have g3:A[j]=A.toList[j]'(by simpa using g2):=by simp
       rw[g3]
       simp only[e2]
       clear g3
       rcases j with _|_|_|_|_|_|j
       ·exact .int ..
       ·exact .int ..
       ·exact .int ..
       ·exact .int ..
       ·exact .int ..
       ·exact At.str ⟨(l[i]'(by omega)).2.name.toArray⟩
       ·exact absurd g1 (by simp[W.cs])
      ·have:=Array.all_eq_true.1 hc.2.2.1 i hi
       simpa using this
      ·have hnd:=ChangeMaps.nodup_of_eraseDups _ (by rw[hc.2.2.2];simp)
       have:=List.getElem_inj (h₀:=by simpa using hi) (h₁:=by simpa using hj) hnd (i:=i) (j:=j)
       simp at this
       exact this.1 e
     ·cases h3
    ·cases h0
   all_goals (simp[ydz,hb]at h0;done)
end Go.Proofs.YtohfclafhegadaaGreatDoor
namespace Go
open Go.ChangeShapes Go.WideShapes Go.ChangeAt Go.RowKit
theorem zdd{P:Program}{w:World}:∀{l:List (String × DataW Unit)} {ps:List MemPlace} {n:String} {d:DataW Unit} {k:Nat},DataW.LaidVars P w l ps→l[k]?=some (n,d)→∃g t cs fuel p,P.globalNamed n=some g∧(P.globals[g]?).map (·.type)=some t∧w.var? P n=some cs∧DataW.trod (fun _=>()) P w 0 (fun _=>true) false fuel t cs.toList=some (d,p)
 | [],ps,n,d,k,h,hk=>by simp at hk
 | (n',d')::l,ps,n,d,k,h,hk=>by
  obtain⟨g,t,cs,fuel,p,q,h1,h2,h3,h4,h5,rfl⟩:=h
  cases k with
  | zero =>
   simp only[List.getElem?_cons_zero,yaR.injEq,Prod.mk.injEq]at hk
   obtain⟨rfl,rfl⟩:=hk
   exact⟨g,t,cs,fuel,p,h1,h2,h3,h4⟩
  | succ k=>exact zdd h5 (by simpa using hk)
theorem zk4{g:List UInt8 × List UInt8→List Value}:∀(ls:List (List UInt8 × List UInt8)) (cs:List Value),cs.length=ls.length*2→(∀i (h:i<ls.length),(cs.drop (i*2)).take 2=g ls[i])→cs=(ls.map g).flatten
 | [],cs,h,_=>by simpa using h
 | l::ls,cs,h,hg=>by
  have h0:=hg 0 (by simp)
  have ih:=zk4 (g:=g) ls (cs.drop 2) (by rw[List.length_drop,h,yac];omega) fun i hi=>by
   have:=hg (i+1) (ybn hi)
   rw[List.drop_drop]
   have e:2+i*2=(i+1)*2:=by omega
   rw[e];exact this
  simp only[yaL,yc4,←ih]
  simp at h0
  rw[←h0,List.take_append_drop]
theorem zkh{H:Type}{enc:TypeId × Value→H}{P:Program}{w:World}{base:Nat}{sp:Nat→Bool}{held:Bool}{fuel:Nat}{t e u:TypeId}{n:Nat}{cs:List Value}{ls:List (List UInt8 × List UInt8)}{p:List MemPlace}
  (ht:P.underlying t=some (.array n e)) (he:P.underlying e=some (.array 2 u)) (hu:P.underlying u=some .string) (hcu:P.cellsOf u=1) (hce:P.cellsOf e=2) (hct:P.cellsOf t=n*2)
  (h:DataW.trod enc P w base sp held fuel t cs=some (.agg (ls.map fun l=>.agg [.lit (.string l.1),.lit (.string l.2)]),p)):cs=(ls.map fun l=>[Value.string ⟨l.1.toArray⟩,Value.string ⟨l.2.toArray⟩]).flatten:=by
 cases fuel with
 | zero=>simp[DataW.trod]at h
 | succ fuel =>
  simp only[DataW.trod,ht,hce,hct]at h
  split at h
  ·rename_i hl
   obtain⟨xs,hm,hx⟩:=ybB.1 h
   have hxs:xs.map (·.1)=ls.map fun l=>(DataW.agg [.lit (.string l.1),.lit (.string l.2)]:DataW H):=by
    have:=congrArg Prod.fst hx
    simpa using this
   have hxl:xs.length=n:=by simpa using Lib.mapM_length hm
   have hzl:ls.length=n:=by
    have:=congrArg yce hxs
    simp at this
    omega
   refine zk4 ls cs (by omega) fun i hi=>?_
   have hin:i<n:=by omega
   obtain⟨b,hb,hf⟩:=Lib.mapM_at hm i i (by simp[hin])
   obtain⟨b1,b2⟩:=b
   have hbe:b1=(DataW.agg ([ls[i].1,ls[i].2].map fun l=>.lit (.string l)):DataW H):=by
    have h2:(xs.map (·.1))[i]?=some b1:=by simp[hb]
    rw[hxs]at h2
    have h3:=h2
    rw[ycB,yau hi]at h3
    exact(yaR.inj h3).symm
   rw[hbe]at hf
   exact zgS he hu hcu hce hf
  ·cases h
theorem zw9{P:Program}{w:World}{fuel:Nat}{t:TypeId}{ms:Array (String × TypeId)}{cs:List Value}{nm:String}{d:DataW Unit}{p:List MemPlace}(ht:P.underlying t=some (.interface ms))
  (h:DataW.trod (fun _=>()) P w 0 (fun _=>true) false fuel t cs=some (.iface nm d,p)):∃u v,cs=[.iface u v]:=by
 cases fuel with
 | zero=>simp[DataW.trod]at h
 | succ fuel =>
  rw[DataW.trod_step]at h
  unfold DataW.trodStep at h
  rw[ht]at h
  split at h<;>simp_all
end Go
namespace Go.Proofs.YtohfclafhegadaaGreatDoor
open Go Go.Abs Go.RowKit Go.ChangeShapes Go.WideShapes
def zgT:List Value:=(signs.map fun p=>[Value.string ⟨p.1.toArray⟩,Value.string ⟨p.2.toArray⟩]).flatten
theorem zjQ{M F}{w:World}:∀(ls:List (List UInt8 × List UInt8)) (j:Nat) (h:j<((ls.map fun p=>[yco p.1,yco p.2]).flatten).length),
  ∃c,((ls.map fun p=>[Value.string ⟨p.1.toArray⟩,Value.string ⟨p.2.toArray⟩]).flatten)[j]?=some c∧VR M F w ((ls.map fun p=>[yco p.1,yco p.2]).flatten)[j] c
 | [],j,h=>by simp at h
 | l::ls,j,h=>by
  simp only[yaL,yc4,ycP,ycQ]at h ⊢
  match j with
  | 0=>exact⟨_,rfl,by simpa using VR.str (M:=M) (F:=F) (w:=w) ⟨l.1.toArray⟩⟩
  | 1=>exact⟨_,rfl,by simpa using VR.str (M:=M) (F:=F) (w:=w) ⟨l.2.toArray⟩⟩
  | j+2=>simpa using zjQ ls j (by simpa using h)
def GT(lp ln:List (UInt8 × W))(m:Int)(u:TypeId):Env where
 g:=fun x=>match x with
  | 0=>.pv (.stat true) (.agg zfA)
  | 1=>.pv (.stat true) (.agg [.str zpd,.str zpe])
  | 2=>.pv (.stat true) (.mp (zbd lp) (zbS lp))
  | 3=>.pv (.stat true) (.mp (zbd ln) (zbS ln))
  | 6=>.pv (.stat true) (.iface u .undef)
  | 10=>.pv (.stat true) (.agg zdz)
  | 11=>.pv (.stat true) (.int .i64 m)
  | _=>.undef
 has:=fun _=>False
 y:=fun _ _ _ _ _=>False
 fix:=fun B=>if B=9 then some (Lib.pow10Tab.map fun z=>Value.int .u64 z).toArray else none
structure WOk(lp ln:List (UInt8 × W))(m:Int)(u:TypeId)(w:World):Prop where
 g:GOk yb9 (GT lp ln m u) (Mp.all w) AS.zero.F w
 p:lp.Perm zag
 n:ln.Perm zf8
theorem WOk.vars{lp ln m u w}(h:WOk lp ln m u w):zd2 (GT lp ln m u):=⟨rfl,⟨lp,h.p,rfl⟩,⟨ln,h.n,rfl⟩,rfl⟩
theorem WOk.vars2{lp ln m u w}(h:WOk lp ln m u w):zc2 (GT lp ln m u):=⟨rfl,⟨u,.undef,rfl⟩,rfl⟩
theorem zB1(lp ln m u):zqj (GT lp ln m u):=⟨rfl,m,rfl⟩
def spZ:List Int:=(List.range 256).map fun c=>if zfZ (UInt8.ofNat c)then 1 else 0
def zyt:List (UInt8 × W):=[(0x00,pw 17 0 0),(0x0F,pw 16 0 0),(0x1A,pw 18 0 0),(0x28,pw 8 1 4),(0x29,pw 8 2 8),(0x2C,pw 8 1 1),(0x36,pw 9 1 4),(0x37,pw 9 2 8),(0x3A,pw 9 1 1),(0x45,pw 5 1 0),(0x50,pw 5 2 0),(0xA7,pw 6 0 0),(0xAC,pw 7 0 0)]
def zN2:List (UInt8 × W):=[(0x0C,pw 14 0 0),(0x0D,pw 15 0 0),(0x10,pw 10 0 0),(0x20,pw 2 0 0),(0x21,pw 3 0 0),(0x41,pw 1 1 0),(0x42,pw 1 2 0)]
theorem zrW:zyt.Perm zag:=by decide
theorem zxa:zN2.Perm zf8:=by decide
theorem zxb(lp ln:List (UInt8 × W))(m:Int)(u:TypeId):∀k,StillI ((GT lp ln m u).g k):=by
 intro k
 match k with
 | 0 =>
  exact .pv _ _ fun c hc=>by
   simp only[AV.cells,zfA,yaV]at hc
   obtain⟨x,_,rfl⟩:=hc
   exact .int _ _
 | 1 =>
  exact .pv _ _ fun c hc=>by
   simp only[AV.cells,ybC,ycC,or_false]at hc
   rcases hc with rfl|rfl<;>exact .str _
 | 2 =>
  exact .pv _ _ fun c hc=>by
   simp only[AV.cells,ycD]at hc
   subst hc
   exact .mp _ _
 | 3 =>
  exact .pv _ _ fun c hc=>by
   simp only[AV.cells,ycD]at hc
   subst hc
   exact .mp _ _
 | 4=>exact .undef
 | 5=>exact .undef
 | 6 =>
  exact .pv _ _ fun c hc=>by
   simp only[AV.cells,ycD]at hc
   subst hc
   exact .iface _ _ .undef
 | 7=>exact .undef
 | 8=>exact .undef
 | 9=>exact .undef
 | 10 =>
  exact .pv _ _ fun c hc=>by
   simp only[AV.cells,zdz,List.mem_flatten,yaV]at hc
   obtain⟨l,⟨x,_,rfl⟩,hc⟩:=hc
   simp only[ybC,ycC,or_false]at hc
   rcases hc with rfl|rfl<;>exact .str _
 | 11 =>
  exact .pv _ _ fun c hc=>by
   simp only[AV.cells,ycD]at hc
   subst hc
   exact .int _ _
 | n+12=>exact .undef
theorem zpE{W:World}(hs:W.ShapedOpen yb9)(hl:laidMetH yb9 zw8 W):∃lp ln m u,WOk lp ln m u W:=by
 have hl0:laidMet yb9 zw8 W:=hl
 obtain⟨ps,hv,_⟩:=hl0
 obtain⟨g0,t0,cs0,fuel0,p0,a1,a2,a3,a4⟩:=zdd (k:=7) hv rfl
 obtain⟨g1,t1,cs1,fuel1,p1,b1,b2,b3,b4⟩:=zdd (k:=8) hv rfl
 obtain⟨g2,t2,cs2,fuel2,p2,c1,c2,c3,c4⟩:=zdd (k:=9) hv rfl
 obtain⟨g3,t3,cs3,fuel3,p3,d1,d2,d3,d4⟩:=zdd (k:=10) hv rfl
 obtain⟨g6,t6,cs6,fuel6,p6,e1,e2,e3,e4⟩:=zdd (k:=4) hv rfl
 obtain⟨g9,t9,cs9,fuel9,p9,f1,f2,f3,f4⟩:=zdd (k:=2) hv rfl
 obtain⟨g10,t10,cs10,fuel10,p10,h1,h2,h3,h4⟩:=zdd (k:=11) hv rfl
 obtain rfl : 0 = g0 := Option.some.inj ((show Tryz.prog.globalNamed "strings.asciiSpace" = some 0 by kernel_rfl).symm.trans a1)
 obtain rfl : 1 = g1 := Option.some.inj ((show Tryz.prog.globalNamed "mortise/bin.bytesOf" = some 1 by kernel_rfl).symm.trans b1)
 obtain rfl : 2 = g2 := Option.some.inj ((show Tryz.prog.globalNamed "mortise/bin.plain" = some 2 by kernel_rfl).symm.trans c1)
 obtain rfl : 3 = g3 := Option.some.inj ((show Tryz.prog.globalNamed "mortise/bin.numbered" = some 3 by kernel_rfl).symm.trans d1)
 obtain rfl : 6 = g6 := Option.some.inj ((show Tryz.prog.globalNamed "strconv.ErrRange" = some 6 by kernel_rfl).symm.trans e1)
 obtain rfl : 9 = g9 := Option.some.inj ((show Tryz.prog.globalNamed "internal/strconv.uint64pow10" = some 9 by kernel_rfl).symm.trans f1)
 obtain rfl : 10 = g10 := Option.some.inj ((show Tryz.prog.globalNamed "mortise/wasm.signs" = some 10 by kernel_rfl).symm.trans h1)
 obtain rfl:135=t0:=yaR.inj ((show(yb9.globals[0]?).map (·.type)=some 135 by kernel_rfl).symm.trans a2)
 obtain rfl:182=t1:=yaR.inj ((show(yb9.globals[1]?).map (·.type)=some 182 by kernel_rfl).symm.trans b2)
 obtain rfl:184=t2:=yaR.inj ((show(yb9.globals[2]?).map (·.type)=some 184 by kernel_rfl).symm.trans c2)
 obtain rfl:184=t3:=yaR.inj ((show(yb9.globals[3]?).map (·.type)=some 184 by kernel_rfl).symm.trans d2)
 obtain rfl:139=t6:=yaR.inj ((show(yb9.globals[6]?).map (·.type)=some 139 by kernel_rfl).symm.trans e2)
 obtain rfl:282=t9:=yaR.inj ((show(yb9.globals[9]?).map (·.type)=some 282 by kernel_rfl).symm.trans f2)
 obtain rfl:287=t10:=yaR.inj ((show(yb9.globals[10]?).map (·.type)=some 287 by kernel_rfl).symm.trans h2)
 have k0:cs0.toList=spZ.map fun z=>Value.int .u8 z:=Lib.cells_of_tab (n:=256) (e:=5) (k:=.u8) Tryz.underlying135 ydv (by kernel_rfl) (by kernel_rfl) (zs:=spZ) (by have:=a4;exact this)
 have k1:cs1.toList=[zpd,zpe].map fun l=>Value.string ⟨l.toArray⟩:=zgS (n:=2) (e:=9) ydA ydy (by kernel_rfl) (by kernel_rfl) (ls:=[zpd,zpe]) b4
 obtain⟨lp,mb1,es1,kk1,hp,hc1,hb1,hm1⟩:=zys (T:=zag) (L:=zyt.map toD) (zrW.map toD) c4
 obtain⟨ln,mb2,es2,kk2,hn,hc2,hb2,hm2⟩:=zys (T:=zf8) (L:=zN2.map toD) (zxa.map toD) d4
 obtain⟨u,ev,hc6⟩:=zw9 Tryz.underlying139 e4
 have k9:cs9.toList=Lib.pow10Tab.map fun z=>Value.int .u64 z:=Lib.cells_of_tab (n:=20) (e:=174) (k:=.u64) Tryz.underlying282 Tryz.underlying174 (by kernel_rfl) (by kernel_rfl) (zs:=Lib.pow10Tab) (by have:=f4;exact this)
 have k10:cs10.toList=zgT:=zkh (n:=16) (e:=182) (u:=9) (ls:=signs) Tryz.underlying287 ydA ydy (by kernel_rfl) (by kernel_rfl) (by kernel_rfl) h4
 obtain⟨m,hm⟩:=Tryz.laysM143.s1_3 W hs
 have cell:∀(nm:String) (g:Nat) (cs:Array Value),yb9.globalNamed nm=some g→W.var? yb9 nm=some cs→∀j,W.cell? ⟨g,j,none⟩=cs.toList[j]?:=fun nm g cs h1 h2 j=>by
  have:=World.var?_cell h1 h2 j
  rw[Array.getElem?_toList]
  simpa using this
 have v0:=cell _ 0 cs0 a1 a3
 have v1:=cell _ 1 cs1 b1 b3
 have v2:=cell _ 2 cs2 c1 c3
 have v3:=cell _ 3 cs3 d1 d3
 have v6:=cell _ 6 cs6 e1 e3
 have v10:=cell _ 10 cs10 h1 h3
 rw[k0]at v0
 rw[k1]at v1
 rw[hc1]at v2
 rw[hc2]at v3
 rw[hc6]at v6
 rw[k10]at v10
 have l11:11<W.heap.size:=World.block_lt_of_cell? W _ hm
 have y1:mb1<W.heap.size:=(yaU.1 hb1).1
 have y2:mb2<W.heap.size:=(yaU.1 hb2).1
 refine⟨lp,ln,m,u,⟨⟨fun x=>?_,fun _ h=>h.elim,fun B c h=>?_⟩,hp,hn⟩⟩
 ·match x with
  | 0 =>
   have hl:zfA=spZ.map (ycp .u8):=by simp[zfA,spZ]
   refine .pv _ _ 0 0 (fun j=>(spZ.map fun z=>Value.int .u8 z).getD j undef) (by simp[Mem,Mp.all];omega) (fun _ j hj=>?_) (fun _ j hj=>?_)
   ·have hj':j<(spZ.map fun z=>Value.int .u8 z).length:=by
     have:j<zfA.length:=hj
     rw[hl]at this
     simpa using this
    rw[ycX,v0 j,ycg,yau hj']
    rfl
   ·have hj':j<spZ.length:=by
     have:j<zfA.length:=hj
     rw[hl]at this
     simpa using this
    have:((AV.agg zfA).cells[j]'hj)=.int .u8 spZ[j]:=by simp[AV.cells,hl]
    rw[this,ycg,ycB,yau hj']
    exact .int ..
  | 1 =>
   refine .pv _ _ 1 0 (fun j=>([zpd,zpe].map fun l=>Value.string ⟨l.toArray⟩).getD j undef) (by simp[Mem,Mp.all];omega) (fun _ j hj=>?_) (fun _ j hj=>?_)
   ·have hj':j<2:=hj
    rw[ycX,v1 j]
    rcases j with _|_|j
    ·rfl
    ·rfl
    ·omega
   ·have hj':j<2:=hj
    rcases j with _|_|j
    ·exact .str ⟨zpd.toArray⟩
    ·exact .str ⟨zpe.toArray⟩
    ·omega
  | 2 =>
   refine .pv _ _ 2 0 (fun j=>.map (some mb1)) (by simp[Mem,Mp.all];omega) (fun _ j hj=>?_) (fun _ j hj=>?_)
   ·have hj':j=0:=by simpa using hj
    subst hj'
    exact v2 0
   ·have hj':j=0:=by simpa using hj
    subst hj'
    exact .mp _ _ mb1 es1 kk1 (by simp[Mp.all,y1]) hb1 hm1
  | 3 =>
   refine .pv _ _ 3 0 (fun j=>.map (some mb2)) (by simp[Mem,Mp.all];omega) (fun _ j hj=>?_) (fun _ j hj=>?_)
   ·have hj':j=0:=by simpa using hj
    subst hj'
    exact v3 0
   ·have hj':j=0:=by simpa using hj
    subst hj'
    exact .mp _ _ mb2 es2 kk2 (by simp[Mp.all,y2]) hb2 hm2
  | 4=>exact .undef _
  | 5=>exact .undef _
  | 6 =>
   refine .pv _ _ 6 0 (fun j=>.iface u ev) (by simp[Mem,Mp.all];omega) (fun _ j hj=>?_) (fun _ j hj=>?_)
   ·have hj':j=0:=by simpa using hj
    subst hj'
    exact v6 0
   ·have hj':j=0:=by simpa using hj
    subst hj'
    exact .iface _ _ _ (.undef _)
  | 7=>exact .undef _
  | 8=>exact .undef _
  | 9=>exact .undef _
  | 10 =>
   refine .pv _ _ 10 0 (fun j=>zgT.getD j undef) (by simp[Mem,Mp.all];omega) (fun _ j hj=>?_) (fun _ j hj=>?_)
   ·obtain⟨c,h1,_⟩:=zjQ (M:=Mp.all W) (F:=AS.zero.F) (w:=W) signs j hj
    rw[ycX,v10 j,ycg]
    show zgT[j]?=_
    have h1':zgT[j]?=some c:=h1
    rw[h1'];rfl
   ·obtain⟨c,h1,h2⟩:=zjQ (M:=Mp.all W) (F:=AS.zero.F) (w:=W) signs j hj
    have h1':zgT[j]?=some c:=h1
    rw[ycg,h1']
    exact h2
  | 11 =>
   refine .pv _ _ 11 0 (fun j=>.int .i64 m) (by simp[Mem,Mp.all,l11]) (fun _ j hj=>?_) (fun _ j hj=>?_)
   ·have hj':j=0:=by simpa using hj
    subst hj'
    exact hm
   ·have hj':j=0:=by simpa using hj
    subst hj'
    exact VR.int ..
  | n+12=>exact .undef _
 ·simp only[GT]at h
  split at h
  ·rename_i hB
   subst hB
   cases h
   refine⟨by simp[Mp.all];omega,?_⟩
   have hq:cs9=(Lib.pow10Tab.map fun z=>Value.int .u64 z).toArray:=by
    rw[←k9]
   rw[←hq]
   have:=f3
   simp only[World.var?,f1]at this
   rw[Option.bind_some]at this
   split at this
   ·rename_i cs elem frozen hh
    cases this
    exact⟨_,_,hh⟩
   ·cases this
  ·cases h
theorem zHu{M F w}{x:AV}{c:Value}(h:VR M F w x c):Cells M F w [x] #[c]:=⟨rfl,fun j v hj=>by
 match j with
 | 0=>simp at hj;subst hj;exact⟨c,rfl,h⟩
 | j+1=>simp at hj⟩
theorem zB2:laidOutB yb9=true:=by kernel_rfl
end Go.Proofs.YtohfclafhegadaaGreatDoor
namespace Go.Proofs.YtohfclafhegadaaGreatDoor
open Go Go.Abs Go.RowKit
abbrev zHv : List String := ["unicode/utf8.first"]
abbrev zN3:List Nat:=(List.range 26).filter fun b=>b != 7
noncomputable def zjR(os:Os):World:=(World.doorLaid yb9 400 os).layVars yb9 (zw8.filter fun x=>zHv.contains x.1)
theorem zul(os:Os):laidMet yb9 zw8 (zjR os) :=
 laidMet_layVars (w0:=World.doorLaid yb9 400 os) zHv zN3 rfl (by kernel_rfl) (by kernel_rfl) (LaidIn.of_run zN3 8 (by kernel_rfl) (by kernel_rfl) (by kernel_rfl) (by kernel_rfl))
theorem zxc(os:Os)(args:Array Value):laidMetH yb9 zw8 ((zjR os).forCall (fun _ _=>0) ⟨#[],args,[]⟩).memory :=
 show laidMet yb9 zw8 _ from(zul os).of_heap (by simp[World.memory,World.forCall,Input.heap])
end Go.Proofs.YtohfclafhegadaaGreatDoor
