/- Parts of the proof of the row BinAgain: contracts of functions, each under the conditions that its theorem names. -/
import Derived.Test.YtohfclafhegadaaGreatDoorZB
import Derived.Test.YtohfclafhegadaaGreatDoorZA
import Derived.Test.YtohfclafhegadaaGreatDoorShelf
import Derived.Lib.AppendIntMem
set_option linter.unusedSimpArgs false
set_option linter.unusedVariables false
set_option maxRecDepth 100000
open List renaming mem_cons→ybC,set_append_right→ydi,flatMap_cons→yaa,map_append→ycI,getElem_mem→yaw,getElem?_append_right→yaI,length_nil→ybl,append_assoc→yc2,singleton_append→ydj,nodup_append→ybK,mem_map→yaV,mem_append→ybh,mem_singleton→ycD,length_append→yab,length_cons→yac,map_cons→yaL,findIdx?_eq_some_iff_getElem→ycL,findIdx?_eq_none_iff→ydk,getElem_of_mem→ya9,flatten_cons→yc4,sum_cons→yck,take_append_drop→ydl,length→yce,prefix_append→yc1,nil_append→ycQ,cons_append→ycP,length_take→ybf,length_drop→ycj,mem_replicate→yc5,take→ycJ,take_of_length_le→ycE,dropWhile_cons→yc8,eq_nil_or_concat→ybL,concat_eq_append→ydm,all_cons→yca,all_eq_true→yaM,head?_dropWhile_not→ydn,findIdx?_cons→ydf,getElem_cons_zero→yaz,mem_of_getElem?→yct,suffix_cons→ydo,suffix_rfl→ydp,append_nil→yb7,length_pos_iff→ybm,find?_eq_none→ycK,mem_of_find?_eq_some→yc0,find?_some→ycZ,map_nil→ydb,getElem?_eq_getElem→yau
open Nat renaming le_refl→yah,zero_add→ycX,lt_of_lt_of_le→yag,lt_or_ge→ycM,le_trans→yai,lt_of_le_of_lt→ycS,add_zero→yaK,not_lt_zero→yaA
open Option renaming bind_eq_some_iff→ybA,map_eq_some_iff→ybB,bind_some→ycY,map_some→yaG,some→yaR
open Array renaming getElem?_eq_some_iff→yaU
open Int renaming toNat_natCast→ybe
open Go.Proofs.Tryz renaming prog→yb9,func175→ydq,ntmps175→ydr
open Go.IntKind renaming wrap→yb4,i64→yam
open Go.Abs.AV renaming int→ycp,str→yco,ptr→ycs,nilsl→ycv
namespace Go.Proofs.YtohfclafhegadaaGreatDoor
open Go Go.Abs
theorem zfo(c0 c1 c2 c3 c4:AV)(r:List AV):zt (.agg [c0,c1,c2,c3,c4]::r)=c0::c1::c2::c3::c4::zt r:=by simp[zt]
theorem zgH{v p}(h:Al.FVE v p):v.cells.length=5:=by
 obtain⟨pv,lv,tv,rfl,_⟩:=h
 rfl
theorem zgI{α:Type}{Q:AV→α→Prop}(hq:∀v a,Q v a→v.cells.length=5):∀{rows:List AV} {l:List α},All2 Q rows l→∀x∈rows,x.cells.length=5
 | _,_,.nil,x,h=>by cases h
 | _,_,.cons h r,x,hx=>by
  rcases ybC.1 hx with rfl|hx
  ·exact hq _ _ h
  ·exact zgI hq r x hx
theorem znN{rows:List AV}(h:∀x∈rows,x.cells.length=5):(zt rows).length=rows.length*5:=zr 5 rows h
theorem zBH{X:List AV}{c0 c1 c2 c3 c4 v w:AV}{Y:List AV}{off:Nat}(ho:off=X.length):splice (splice (X++c0::c1::c2::c3::c4::Y) (off+2) [v]) (off+4) [w]=X++c0::c1::v::c3::w::Y:=by
 subst ho
 rw[zb6 (by rw[zfm (by simp)];simp),zb6 (by simp)]
 rw[ydi _ _ (by omega),ydi _ _ (by simp)]
 simp
theorem zjv{v:AV}{l:List Int}(h:Al.IntsE v l)(g:Nat):Go.Abs.mrg g v=v:=by
 rcases h with ⟨_,rfl|⟨b,rfl⟩⟩|⟨b,rfl⟩
 ·simp
 ·simp
 ·rw[zdw]
  have:(l.map (ycp .i64)).map (Go.Abs.mrg g)=l.map (ycp .i64):=by simp[Function.comp_def]
  rw[this]
  split<;>rfl
theorem zwM{v:AV}{k g:Nat}{l:To}(h:Al.LstE k v l)(hg:k≠g):Go.Abs.mrg g v=v:=by
 rcases h with ⟨_,rfl⟩|⟨tos,rfl,ht⟩
 ·simp
 ·rw[zdw,Al.mrg_rows ht]
  rw[if_neg hg]
theorem zBI{v p}(h:Al.FVE v p){g:Nat}(hg:p.2≠g):v.cells.map (Go.Abs.mrg g)=v.cells:=by
 obtain⟨pv,lv,tv,rfl,h1,h2,h3⟩:=h
 simp[zjv h1,zjv h2,zwM h3 hg]
theorem zG4{v f}(h:HV v f)(g:Nat):v.cells.map (Go.Abs.mrg g)=v.cells:=by
 obtain⟨pv,rfl,h1,_⟩:=h
 simp[zjv h1]
theorem zjw{α:Type}{Q:AV→α→Prop}{g:Nat}:∀{rows:List AV} {l:List α},All2 Q rows l→(∀v a,a∈l→Q v a→v.cells.map (Go.Abs.mrg g)=v.cells)→(zt rows).map (Go.Abs.mrg g)=zt rows
 | _,_,.nil,_=>rfl
 | _,_,.cons (x:=x) (xs:=xs) h r,hq=>by
  have ih:=zjw r fun v a ha=>hq v a (by simp[ha])
  simp only[zt,yaa,ycI]at *
  rw[ih,hq x _ (by simp) h]
theorem zfp{st:Bool}:∀{n:Nat} {s s':Rs} {l:List (List Int)},zb8 (zbT st) n s=some (l,s')→s'.b.length≤s.b.length
 | 0,s,s',l,h=>by cases h;exact yah _
 | n+1,s,s',l,h=>by
  rw[zb8]at h
  simp only[ybA,ybB]at h
  obtain⟨⟨g,s1⟩,h1,⟨l',s2⟩,h2,h3⟩:=h
  cases h3
  have:=zfp h2
  unfold zbT at h1
  simp only[ybA]at h1
  obtain⟨⟨m,s3⟩,h4,h5⟩:=h1
  have h6:=zL h4
  split at h5
  ·rw[ybB]at h5
   obtain⟨⟨t,s4⟩,h6',h7⟩:=h5
   simp only[Prod.mk.injEq]at h7
   obtain⟨_,rfl⟩:=h7
   unfold zdD at h6'
   simp only[ybA]at h6'
   obtain⟨⟨c,s5⟩,h8,h9⟩:=h6'
   obtain⟨b1,_,_⟩:=zm h8
   simp only at b1
   have:s3.b.length=s5.b.length+1:=by rw[b1];rfl
   split at h9
   ·cases h9
   ·cases h9
    simp only at *
    omega
  ·cases h5
theorem zd8{st:Bool}{f f':F}{s s':Rs}(h:z9 st f s=some (f',s')):s'.b.length≤s.b.length:=by
 unfold z9 at h
 simp only[ybA,ybB]at h
 obtain⟨⟨n1,s1⟩,h1,⟨n2,s2⟩,h2,⟨gs,s3⟩,h3,⟨⟨n,e⟩,s4⟩,h4,h5⟩:=h
 simp only[Prod.mk.injEq]at h5
 obtain⟨_,rfl⟩:=h5
 have:=zL h1
 have:=zL h2
 have:=zfp h3
 obtain⟨_,_,_,_,_,⟨xx,_,z⟩,_⟩:=zaa _ _ _ _ _ _ _ _ h4
 have:=zaO z
 simp only at *
 omega
section
variable {G : Env} {σ : AS} {R : Out → AS → Prop}
structure FnL(σ0:AS)(x mo fo:Nat)(h0:List F)(dps:List (F × Nat))(drows hrows:List AV)(τ:AS):Prop where
 fn:Fn x mo fo (zt (drows++hrows)) τ
 f0:σ0.no≤fo
 dl:dps.length≤h0.length
 dr:All2 Al.FVE drows dps
 hr:All2 HV hrows (h0.drop dps.length)
 nd:(dps.map Prod.snd).Nodup
 each:∀p∈dps,σ0.nf≤p.2∧p.2<τ.nf∧τ.F p.2=.alive
 nm:∀p∈dps,p.1.name=[]
def zad(fo n:Nat)(mem mn:Int):List AV:=[.slm fo 0 5 n,.int .i64 mem,.int .i64 mn]
def FL3(σ0:AS)(base:Nat)(β:Option Nat)(x mo fo:Nat)(mem mn:Int)(h0:List F)(res:Option (M × Rs))(a:Nat→AV)(τ:AS):Prop:=∃(dps:List (F × Nat)) (drows hrows:List AV) (s:Rs),a 0=.ptr x 0∧a 2=.ptr mo 0∧a 70=.int .i64 (h0.length:Int)∧a 71=.int .i64 (dps.length:Int)∧Md σ0 base β x mo (zad fo h0.length mem mn) s τ∧FnL σ0 x mo fo h0 dps drows hrows τ∧s.n≤65536 ∧
 res=(((zF false (h0.drop dps.length) s).bind fun fs=>znK h0 (dps.map Prod.fst++fs.1) fs.2).map fun q=>({ funcs:=q.1,memory:=mem,main:=mn },q.2))
theorem zrG(V:zd2 G){σ0 base β x mo fo mem mn}{h0:List F}{res:Option (M × Rs)}(hn:res=none→zer R σ0)(hh:∀f∈h0,f.locals=[]∧f.name=[])
  (fin:∀dps drows s a τ,a 0=.ptr x 0→a 2=.ptr mo 0→Md σ0 base β x mo (zad fo h0.length mem mn) s τ→FnL σ0 x mo fo h0 dps drows [] τ→dps.length=h0.length→res=((znK h0 (dps.map Prod.fst) s).map fun q=>({ funcs:=q.1,memory:=mem,main:=mn },q.2))→avc yb9 G 114 ziY (zba yb9 [.cell 2 28] R) a τ)
  (hlen:h0.length≤2^37) {a:Nat→AV} {τ:AS} (hI:FL3 σ0 base β x mo fo mem mn h0 res a τ):avc yb9 G 114 zlD (z7 (fun a' σ'=>FL3 σ0 base β x mo fo mem mn h0 res a' σ'∧MU 71 (h0.length+1) a' σ'<MU 71 (h0.length+1) a τ) (z8 4 (z7 (avc yb9 G 114 ziY (zba yb9 [.cell 2 28] R)) (zba yb9 [.cell 2 28] R)))) a τ:=by
 obtain⟨dps,drows,hrows,s,a0,a2,a70,a71,hM,hF,hs65,he⟩:=hI
 have hdrl:=hF.dr.length
 have hmo:=hM.ob
 simp only[zad]at hmo
 by_cases hlt:dps.length<h0.length
 ·have hlt':(dps.length:Int)<(h0.length:Int):=by omega
  have w1:yb4 .i64 ((dps.length:Int)+1)=((dps.length+1:Nat):Int):=by rw[zc]<;>omega
  have hdr:=List.drop_eq_getElem_cons hlt
  have hhr:=hF.hr
  have hfh:=hh _ (yaw hlt)
  rw[hdr]at hhr he
  generalize h0[dps.length]=f at *
  cases hhr with
  | cons hv hrest =>
  rename_i row hrows
  have hv':=hv
  obtain⟨pv,rfl,hpv,e1,e2,e3⟩:=hv
  have hd5:=zgI (fun v a h=>zgH h) hF.dr
  have hfl:(zt drows).length=dps.length*5:=by rw[znN hd5,hdrl]
  have hC:zt (drows++.agg [.str [],pv,.nilsl,.int .i64 f.type,.nilsl]::hrows)=zt drows++.str []::pv::.nilsl::.int .i64 f.type::.nilsl::zt hrows:=by
   rw[zaA,zfo]
  have hfn:=hF.fn
  simp[zlD,a0,a2,a70,a71,hlt',hmo]
  refine zke V (cs:=zt (drows++.agg [.str [],pv,.nilsl,.int .i64 f.type,.nilsl]::hrows)) (f:=f) (σ0:=σ0) hM.rd hfn.fx hfn.lt hfn.ob ?_ ?_ hfh.1 hM.len hs65 ?_ hM.ad hM.x0 hF.f0 hM.b0 ?_ ?_
  ·rw[hC,yaI (by omega)]
   have:dps.length*5+2-(zt drows).length=2:=by omega
   rw[this]
   rfl
  ·rw[hC]
   simp
   omega
  ·intro g hg
   rw[zaA,ycI,zjw hF.dr (fun v p hp h=>zBI h (by have:=(hF.each p hp).2.1;omega)),zjw (.cons hv' hrest) (fun v p _ h=>zG4 h g)]
  ·intro q
   exact hn (by rw[he,zF,q];rfl)
  ·intro f' s' q τ1 lv tv g hlv htv hg hr hk ho
   obtain⟨p1,p2,p3,p4⟩:=zdl q hfh.1
   have hne:f'.lists≠[]:=by
    obtain⟨st,k,s0,e,s1,k1,k2,k3⟩:=p1.2.2.1
    intro e0
    obtain⟨_,y1,y2,_⟩:=zaa _ _ _ _ _ _ _ _ k1
    simp only[e0,ybl]at y2
    omega
   obtain⟨g1,g2,g3⟩:=hg hne
   have hnf:=hM.ad.nf
   rw[hC,zBH (by omega)]at ho
   simp[a71,w1]
   refine⟨⟨dps++[(f',g)],drows++[.agg [.str [],pv,lv,.int .i64 f.type,tv]],hrows,s',by simp[a0],by simp[a2],by simp[a70],by simp,?_,?_,p3 hs65,?_⟩,?_⟩
   ·have hmfo:mo≠fo:=fun e=>hfn.fm e.symm
    have hno:=hk.no
    have:=hM.lt
    exact⟨hr,hk.adds0 hM.ad hM.x0 hF.f0,(hk.obj mo hM.lt hM.mx hmfo).trans hM.ob,by omega,hM.mx,hM.x0,hM.m0,hM.b0,by have:=zd8 q;have:=hM.len;omega⟩
   ·have hno:=hk.no
    have:=hfn.lt
    refine⟨⟨?_,by omega,hfn.fx,hfn.fm⟩,hF.f0,by simp;omega,hF.dr.append (.cons ⟨pv,lv,tv,?_,?_,hlv,htv⟩ .nil),by simpa using hrest,?_,fun p hp=>?_,fun p hp=>?_⟩
    ·rw[ho,yc2,ydj,zaA,zfo]
    ·rw[p4,hfh.2,p1.2.1]
    ·rw[p1.1]
     exact hpv
    ·rw[ycI,ybK]
     refine⟨hF.nd,by simp,fun y hy z hz e=>?_⟩
     obtain⟨p,hp,rfl⟩:=yaV.1 hy
     have:=(hF.each p hp).2.1
     simp at hz
     omega
    ·rcases ybh.1 hp with hp|hp
     ·obtain⟨u1,u2,u3⟩:=hF.each p hp
      have:=hk.nf
      exact⟨u1,by omega,(hk.fam _ u2).trans u3⟩
     ·simp only[ycD]at hp
      subst hp
      exact⟨by simp only;omega,g2,g3⟩
    ·rcases ybh.1 hp with hp|hp
     ·exact hF.nm p hp
     ·simp only[ycD]at hp
      subst hp
      exact p4.trans hfh.2
   ·rw[he,zF,q]
    simp only[ycY,yab,yac,ybl,ycX]
    cases zF false (h0.drop (dps.length+1)) s' with
    | none=>rfl
    | some r=>simp
   ·simp only[MU,a71];simp;omega
 ·have hdl:=hF.dl
  have hde:dps.length=h0.length:=by omega
  have hhr:=hF.hr
  rw[hde,List.drop_length]at hhr he
  cases hhr
  simp[zlD,a70,a71,hde]
  exact fin dps drows s _ _ (by simpa using a0) (by simpa using a2) hM hF hde (by rw[he];simp[zF])
end
theorem ztJ{X:List AV}{c v:AV}{Y:List AV}{off:Nat}(ho:off=X.length):splice (X++c::Y) off [v]=X++v::Y:=by
 subst ho
 rw[zb6 (by simp),ydi _ _ (by omega)]
 simp
structure FnN(σ0:AS)(x mo fo:Nat)(dps rps:List (F × Nat))(drows rrows:List AV)(τ:AS):Prop where
 fn:Fn x mo fo (zt (drows++rrows)) τ
 f0:σ0.no≤fo
 dr:All2 Al.FVE drows dps
 rr:All2 Al.FVE rrows rps
 nd:((dps++rps).map Prod.snd).Nodup
 each:∀p∈dps++rps,σ0.nf≤p.2∧p.2<τ.nf∧τ.F p.2=.alive
theorem FnN.keepS{σ0 x mo fo dps rps drows rrows τ τ'}(h:FnN σ0 x mo fo dps rps drows rrows τ)(K:zK x τ τ'):FnN σ0 x mo fo dps rps drows rrows τ' :=
 ⟨h.fn.keepS K,h.f0,h.dr,h.rr,h.nd,fun p hp=>by
  obtain⟨a,b,c⟩:=h.each p hp
  exact⟨a,yag b K.nf,(K.fam _ b).trans c⟩⟩
section
variable {G : Env} {σ : AS} {R : Out → AS → Prop}
def NL4(σ0:AS)(base:Nat)(β:Option Nat)(x mo fo n:Nat)(mem mn:Int)(res:Option (M × Rs))(a:Nat→AV)(τ:AS):Prop:=∃(dps rps:List (F × Nat)) (drows rrows:List AV) (s:Rs),a 0=.ptr x 0∧a 2=.ptr mo 0∧a 96=.int .i64 (n:Int)∧a 97=.int .i64 (dps.length:Int)∧dps.length+rps.length=n∧Md σ0 base β x mo (zad fo n mem mn) s τ∧FnN σ0 x mo fo dps rps drows rrows τ ∧
 res=((zeT false (rps.map Prod.fst) s).map fun q=>({ funcs:=dps.map Prod.fst++q.1,memory:=mem,main:=mn },q.2))
theorem zrH{σ0 base β x mo fo n mem mn}{res:Option (M × Rs)}(hn:res=none→zer R σ0)(hnn:n≤2^37)
  (fin:∀dps drows s a τ,a 0=.ptr x 0→a 2=.ptr mo 0→Md σ0 base β x mo (zad fo n mem mn) s τ→FnN σ0 x mo fo dps [] drows [] τ→dps.length=n→res=some ({ funcs:=dps.map Prod.fst,memory:=mem,main:=mn },s)→avc yb9 G 114 ziX (zba yb9 [.cell 2 28] R) a τ)
  {a:Nat→AV} {τ:AS} (hI:NL4 σ0 base β x mo fo n mem mn res a τ):avc yb9 G 114 zlE (z7 (fun a' σ'=>NL4 σ0 base β x mo fo n mem mn res a' σ'∧MU 97 (n+1) a' σ'<MU 97 (n+1) a τ) (z8 6 (z7 (avc yb9 G 114 ziX (zba yb9 [.cell 2 28] R)) (zba yb9 [.cell 2 28] R)))) a τ:=by
 obtain⟨dps,rps,drows,rrows,s,a0,a2,a96,a97,hnl,hM,hF,he⟩:=hI
 have hdrl:=hF.dr.length
 have hmo:=hM.ob
 simp only[zad]at hmo
 cases rps with
 | cons p rps =>
  simp only[yac]at hnl
  have hlt':(dps.length:Int)<(n:Int):=by omega
  have w1:yb4 .i64 ((dps.length:Int)+1)=((dps.length+1:Nat):Int):=by rw[zc]<;>omega
  have hrr:=hF.rr
  cases hrr with
  | cons hv hrest =>
  rename_i row rrows
  obtain⟨pv,lv,tv,rfl,hpv,hlv,htv⟩:=hv
  have hd5:=zgI (fun v a h=>zgH h) hF.dr
  have hfl:(zt drows).length=dps.length*5:=by rw[znN hd5,hdrl]
  have hC:zt (drows++.agg [.str p.1.name,pv,lv,.int .i64 p.1.type,tv]::rrows)=zt drows++.str p.1.name::pv::lv::.int .i64 p.1.type::tv::zt rrows:=by
   rw[zaA,zfo]
  simp only[yaL]at he
  rw[zeT]at he
  simp[zlE,a0,a2,a96,a97,hlt',hmo]
  refine zw hM.rd (fun q=>hM.none (hn (by rw[he,q];rfl))) (fun k1 s1 q1 τ1 hr1 hk1=>?_)
  rw[q1]at he
  simp only[ycY]at he
  have hM1:=hM.keepS hk1 hr1 (zL q1)
  have hF1:=hF.keepS hk1
  have hmo1:=hM1.ob
  simp only[zad]at hmo1
  simp[a0,a2,hmo1]
  refine zw hr1 (fun q=>hM1.none (hn (by rw[he,q];rfl))) (fun k2 s2 q2 τ2 hr2 hk2=>?_)
  rw[q2]at he
  simp only[ycY]at he
  have hM2:=hM1.keepS hk2 hr2 (zL q2)
  have hF2:=hF1.keepS hk2
  have hmo2:=hM2.ob
  simp only[zad]at hmo2
  simp[a0,a2,hmo2]
  refine zah hr2 (fun q=>hM2.none (hn (by rw[he,q];rfl))) (fun bs s3 q3 v τ3 hv hr3 hk3=>?_)
  rw[q3]at he
  simp only[ycY]at he
  have hM3:=hM2.keepS hk3 hr3 (zb9 q3)
  have hF3:=hF2.keepS hk3
  have hmo3:=hM3.ob
  simp only[zad]at hmo3
  have hfn:=hF3.fn
  have hfo:=hfn.ob
  rw[hC]at hfo
  have hbound:dps.length*5+1≤(zt drows++.str p.1.name::pv::lv::.int .i64 p.1.type::tv::zt rrows).length:=by simp;omega
  have hset:=ztJ (X:=zt drows) (c:=.str p.1.name) (v:=.str bs) (Y:=pv::lv::.int .i64 p.1.type::tv::zt rrows) (off:=dps.length*5) (by omega)
  generalize zt drows++.str p.1.name::pv::lv::.int .i64 p.1.type::tv::zt rrows=C at *
  have next:∀(a':Nat→AV),a' 0=.ptr x 0→a' 2=.ptr mo 0→a' 96=.int .i64 (n:Int)→a' 97=.int .i64 ((dps.length+1:Nat):Int)→NL4 σ0 base β x mo fo n mem mn res a' (τ3.setO fo (splice C (dps.length*5) [.str bs]))∧MU 97 (n+1) a' (τ3.setO fo (splice C (dps.length*5) [.str bs]))<MU 97 (n+1) a τ:=by
   intro a' e0 e2 e96 e97
   have hfm:¬mo=fo:=fun e=>hfn.fm e.symm
   refine⟨⟨dps++[({ p.1 with name:=bs },p.2)],rps,drows++[.agg [.str bs,pv,lv,.int .i64 p.1.type,tv]],rrows,s3,e0,e2,e96,by rw[e97];simp,by simp;omega,⟨hr3.setO hfn.fx,hM3.ad.setO hF.f0,by simp[hfm,hM3.ob],hM3.lt,hM3.mx,hM3.x0,hM3.m0,hM3.b0,hM3.len⟩,⟨⟨?_,hfn.lt,hfn.fx,hfn.fm⟩,hF.f0,hF3.dr.append (.cons ⟨pv,lv,tv,rfl,hpv,hlv,htv⟩ .nil),hrest,by simpa using hF3.nd,fun y hy=>?_⟩,?_⟩,?_⟩
   ·simp only[zsu,zae,if_true]
    rw[hset,yc2,ydj,zaA,zfo]
   ·simp only[ybh,ycD]at hy
    rcases hy with (hy|rfl)|hy
    ·exact hF3.each y (by simp[hy])
    ·exact hF3.each p (by simp)
    ·exact hF3.each y (by simp[hy])
   ·rw[he]
    cases zeT false (rps.map Prod.fst) s3 with
    | none=>rfl
    | some u=>simp
   ·simp only[MU,e97,a97];omega
  rcases hv with ⟨hb0,rfl⟩|⟨φ,hφ,rfl⟩
  ·subst hb0
   simp[a2,hmo3,hfo,a97,w1,hlt']
   exact⟨hbound,next _ (by simp[a0]) (by simp[a2]) (by simp[a96]) (by simp)⟩
  ·have hrd:=zry hr3 hφ
   simp[a2,hmo3,hfo,a97,w1,hlt',hrd]
   exact⟨hbound,next _ (by simp[a0]) (by simp[a2]) (by simp[a96]) (by simp)⟩
 | nil =>
  have hlt:¬(dps.length:Int)<(n:Int):=by simp at hnl;omega
  have hrr:=hF.rr
  cases hrr
  simp[zlE,a96,a97,hlt]
  exact fin dps drows s _ _ (by simpa using a0) (by simpa using a2) hM hF (by simpa using hnl) (by rw[he];simp[zeT])
theorem Rdr.famO{base β x s τ}(h:Rdr base β x s τ){fo:Nat}(hf:fo≠x):Rdr base β x s (τ.famO fo):=by
 obtain⟨bv,lv,ho,hv,hl⟩:=h.cells
 have hb:=h.hb
 refine⟨h.hx,⟨hb.1,by simp;omega⟩,?_,fun f q=>?_,bv,lv,?_,hv,?_⟩
 ·have:¬0=τ.nf:=by omega
  simp[this,h.h0]
 ·obtain⟨h1,h2⟩:=h.hβ f q
  have:¬f=τ.nf:=by omega
  exact⟨h1,by simp[this,h2]⟩
 ·have:¬x=fo:=fun e=>hf e.symm
  simp[this,ho]
 ·rcases hl with h1|⟨g,tos,h1,h2,h3,h4,h5⟩
  ·exact .inl h1
  ·have:¬g=τ.nf:=by omega
   exact .inr ⟨g,tos,h1,h2,by simp;omega,by simp[this,h4],h5⟩
theorem zd.famO{σ0 τ:AS}(A:zd σ0 τ){fo:Nat}(hf:σ0.no≤fo):zd σ0 (τ.famO fo):=⟨A.no,by have:=A.nf;simp;omega,fun o ho=>by
 have:¬o=fo:=by omega
 simp[this]
 exact A.obj o ho,fun f hf'=>by
 have:=A.nf
 have:¬f=τ.nf:=by omega
 simp[this]
 exact A.fam f hf'⟩
def zwN(R:Out→AS→Prop)(o:Out)(σ':AS):Prop:=R o σ'∨∃ob sz rows rest,o=.ret (.agg (.slm ob 0 sz rows.length::rest))∧σ'.objs ob=some (zt rows)∧(∀x∈rows,x.cells.length=sz)∧R (.ret (.agg (.sl (.fam σ'.nf false) sz rows::rest))) (σ'.famO ob)
theorem zrI{σ0 base β x mo fo n mem mn dps drows s}(hs:∀σ' mv,Al.ME σ' σ0.nf mv ⟨dps.map Prod.fst,mem,mn⟩→zd σ0 σ'→Rdr base β x s σ'→R (.ret mv) σ'){a:Nat→AV}{τ:AS}(a2:a 2=.ptr mo 0)(hM:Md σ0 base β x mo (zad fo n mem mn) s τ)(hF:FnN σ0 x mo fo dps [] drows [] τ)(hl:dps.length=n):avc yb9 G 114 ziX (zba yb9 [.cell 2 28] (zwN R)) a τ:=by
 have hmo:=hM.ob
 simp only[zad]at hmo
 have hdrl:=hF.dr.length
 have hfn:=hF.fn
 have hmf:¬fo=mo:=hfn.fm
 have hM':Md σ0 base β x mo (zad fo n mem mn) s (τ.setO mo (zad fo n mem mn)):=hM.setM
 simp only[zad]at hM'
 simp[ziX,a2,hmo,splice]
 refine .inr ⟨fo,5,drows,[.int .i64 mem,.int .i64 mn],by simp[hdrl,hl],?_,zgI (fun v a h=>zgH h) hF.dr,?_⟩
 ·simp[hmf]
  simpa using hfn.ob
 ·have hA:=hM'.ad
  refine hs _ _ ⟨_,rfl,.inr ⟨τ.nf,drows,dps,by simp,hM.ad.nf,by simp,by simp,rfl,hF.dr,by simpa using hF.nd,fun y hy=>?_⟩⟩ (hA.famO hF.f0) (hM'.rd.famO hfn.fx)
  obtain⟨p,hp,rfl⟩:=yaV.1 hy
  obtain⟨u1,u2,u3⟩:=hF.each p (by simpa using hp)
  have:¬p.2=τ.nf:=by omega
  exact⟨u1,by simp;omega,by simp[this,u3],by omega⟩
theorem ztK{σ0 base β x mo fo mem mn}{h0:List F}{res:Option (M × Rs)}(hlen:h0.length≤2^37)(hn:res=none→zer R σ0)(hs:∀m s',res=some (m,s')→∀σ' mv,Al.ME σ' σ0.nf mv m→zd σ0 σ'→Rdr base β x s' σ'→R (.ret mv) σ')
  {dps:List (F × Nat)} {drows:List AV} {s:Rs} {a:Nat→AV} {τ:AS} (a0:a 0=.ptr x 0) (a2:a 2=.ptr mo 0) (hM:Md σ0 base β x mo (zad fo h0.length mem mn) s τ) (hF:FnL σ0 x mo fo h0 dps drows [] τ) (hl:dps.length=h0.length) (he:res=((znK h0 (dps.map Prod.fst) s).map fun q=>({ funcs:=q.1,memory:=mem,main:=mn },q.2))) :
  avc yb9 G 114 ziY (zba yb9 [.cell 2 28] (zwN R)) a τ:=by
 have hnO:res=none→zer (zwN R) σ0:=fun q e σ' a b=>.inl (hn q e σ' a b)
 have hF0:FnN σ0 x mo fo [] dps [] drows τ:=⟨by simpa using hF.fn,hF.f0,.nil,hF.dr,by simpa using hF.nd,by simpa using hF.each⟩
 unfold znK at he
 simp[ziY,a0]
 refine zaz (n:=0) hM.rd (fun q=>hM.none (hnO (by rw[he,q];rfl))) (fun s1 q τ1 hr hk=>?_)
 rw[q]at he
 simp only[ycY]at he
 have hM1:=hM.keepS hk hr (zal q)
 have hF1:=hF0.keepS hk
 simp[a0]
 refine zah hM1.rd (fun q=>hM1.none (hnO (by rw[he,zci q];rfl))) (fun p s2 q v τ2 _ hr hk=>?_)
 rw[zcj q]at he
 simp only[ycY]at he
 have hM2:=hM1.keepS hk hr (zb9 q)
 have hF2:=hF1.keepS hk
 simp[a0]
 refine zw hM2.rd (fun q=>hM2.none (hnO (by rw[he,q];rfl))) (fun k3 s3 q τ3 hr hk=>?_)
 rw[q]at he
 simp only[ycY]at he
 have hM3:=hM2.keepS hk hr (zL q)
 have hF3:=hF2.keepS hk
 have hmo3:=hM3.ob
 simp only[zad]at hmo3
 simp[a0,a2,hmo3]
 refine zw hM3.rd (fun q=>hM3.none (hnO (by rw[he,q];rfl))) (fun k4 s4 q τ4 hr hk=>?_)
 rw[q]at he
 simp only[ycY]at he
 have hM4:=hM3.keepS hk hr (zL q)
 have hF4:=hF3.keepS hk
 have hmo4:=hM4.ob
 simp only[zad]at hmo4
 by_cases hk4:k4=(h0.length:Int)
 ·rw[if_pos hk4]at he
  simp[a2,hmo4,hk4]
  refine zy (fun _=>?_) (fun q=>by cases q)
  simp[a2,hmo4]
  refine zH (NL4 σ0 base β x mo fo h0.length mem mn res) (MU 97 (h0.length+1)) ⟨[],dps,[],drows,s4,by simp[a0],by simp[a2],by simp,by simp,by simp[hl],hM4,hF4,by rw[he];rfl⟩ fun a τ hI=>?_
  refine zrH hnO hlen (fun dps drows s a τ b0 b2 hM hF hl he=>?_) hI
  exact zrI (fun σ' mv h1 h2 h3=>hs _ _ he σ' mv h1 h2 h3) b2 hM hF hl
 ·rw[if_neg hk4]at he
  simp[a2,hmo4,hk4]
  refine zy (fun q=>by cases q) (fun _=>?_)
  simp
  exact hM4.none (hnO (by rw[he];rfl)) _ _ (.inl rfl) (.refl ..)
theorem ztL(V:zd2 G){σ0 base β x mo fo mem0 mn0}{h0:List F}{res:Option (M × Rs)}{hrows:List AV}(hlen:h0.length≤2^37)(hh:∀f∈h0,f.locals=[]∧f.name=[])(hhr:All2 HV hrows h0)(hf0:σ0.no≤fo)(hn:res=none→zer R σ0)(hs:∀m s',res=some (m,s')→∀σ' mv,Al.ME σ' σ0.nf mv m→zd σ0 σ'→Rdr base β x s' σ'→R (.ret mv) σ')
  {s:Rs} {a:Nat→AV} {τ:AS} (a0:a 0=.ptr x 0) (a2:a 2=.ptr mo 0) (hM:Md σ0 base β x mo (zad fo h0.length mem0 mn0) s τ) (hF:Fn x mo fo (zt hrows) τ) (hs65:s.n≤65536) (he:res=(znJ h0 s).bind zBG) :
  avc yb9 G 114 ziZ (zba yb9 [.cell 2 28] (zwN R)) a τ:=by
 have hnO:res=none→zer (zwN R) σ0:=fun q e σ' a b=>.inl (hn q e σ' a b)
 unfold znJ at he
 simp[ziZ,a0]
 refine zaz (n:=5) hM.rd (fun q=>hM.none (hnO (by rw[he,q];rfl))) (fun s1 q τ1 hr hk=>?_)
 rw[q]at he
 simp only[ycY]at he
 have n1:=zdH q
 have hM1:=hM.keepS hk hr (zal q)
 have hF1:=hF.keepS hk
 simp[a0]
 refine zah hM1.rd (fun q=>hM1.none (hnO (by rw[he,zci q];rfl))) (fun p s2 q v τ2 _ hr hk=>?_)
 rw[zcj q]at he
 simp only[ycY]at he
 have n2:=(zau q).2.2
 have hM2:=hM1.keepS hk hr (zb9 q)
 have hF2:=hF1.keepS hk
 simp[a0]
 refine zaz (n:=6) hM2.rd (fun q=>hM2.none (hnO (by rw[he,q];rfl))) (fun s3 q τ3 hr hk=>?_)
 rw[q]at he
 simp only[ycY]at he
 have n3:=zdH q
 have hM3:=hM2.keepS hk hr (zal q)
 have hF3:=hF2.keepS hk
 simp[a0]
 refine zah hM3.rd (fun q=>hM3.none (hnO (by rw[he,zci q];rfl))) (fun p s4 q v τ4 _ hr hk=>?_)
 rw[zcj q]at he
 simp only[ycY]at he
 have n4:=(zau q).2.2
 have hM4:=hM3.keepS hk hr (zb9 q)
 have hF4:=hF3.keepS hk
 simp[a0]
 refine zw hM4.rd (fun q=>hM4.none (hnO (by rw[he,q];rfl))) (fun mem s5 q τ5 hr hk=>?_)
 rw[q]at he
 simp only[ycY]at he
 have n5:=(zu q).2.2.1
 have hM5:=hM4.keepS hk hr (zL q)
 have hF5:=hF4.keepS hk
 have hmo5:=hM5.ob
 simp only[zad]at hmo5
 have hM5':Md σ0 base β x mo (zad fo h0.length mem mn0) s5 (τ5.setO mo (zad fo h0.length mem mn0)):=hM5.setM
 have hF5':Fn x mo fo (zt hrows) (τ5.setO mo (zad fo h0.length mem mn0)):=hF5.setM
 have hmo5':=hM5'.ob
 simp only[zad]at hM5' hF5' hmo5'
 simp[a0,a2,hmo5,splice]
 refine zah hM5'.rd (fun q=>hM5'.none (hnO (by rw[he,zci q];rfl))) (fun p s6 q v τ6 _ hr hk=>?_)
 rw[zcj q]at he
 simp only[ycY]at he
 have n6:=(zau q).2.2
 have hM6:=hM5'.keepS hk hr (zb9 q)
 have hF6:=hF5'.keepS hk
 simp[a0]
 refine zaz (n:=7) hM6.rd (fun q=>hM6.none (hnO (by rw[he,q];rfl))) (fun s7 q τ7 hr hk=>?_)
 rw[q]at he
 simp only[ycY]at he
 have n7:=zdH q
 have hM7:=hM6.keepS hk hr (zal q)
 have hF7:=hF6.keepS hk
 simp[a0]
 refine zah hM7.rd (fun q=>hM7.none (hnO (by rw[he,zci q];rfl))) (fun p s8 q v τ8 _ hr hk=>?_)
 rw[zcj q]at he
 simp only[ycY]at he
 have n8:=(zau q).2.2
 have hM8:=hM7.keepS hk hr (zb9 q)
 have hF8:=hF7.keepS hk
 simp[a0]
 refine zw hM8.rd (fun q=>hM8.none (hnO (by rw[he,q];rfl))) (fun mn s9 q τ9 hr hk=>?_)
 rw[q]at he
 simp only[yaG,ycY]at he
 have n9:=(zu q).2.2.1
 have hM9:=hM8.keepS hk hr (zL q)
 have hF9:=hF8.keepS hk
 have hmo9:=hM9.ob
 have hM9':Md σ0 base β x mo (zad fo h0.length mem (yb4 .i64 (mn-3))) s9 (τ9.setO mo (zad fo h0.length mem (yb4 .i64 (mn-3)))):=hM9.setM
 have hF9':Fn x mo fo (zt hrows) (τ9.setO mo (zad fo h0.length mem (yb4 .i64 (mn-3)))):=hF9.setM
 have he9:res=(zmj h0 s9).map fun q=>({ funcs:=q.1,memory:=mem,main:=yb4 .i64 (mn-3) },q.2):=he
 rw[zwL]at he9
 simp only[zad]at hM9' hF9'
 simp[a0,a2,hmo9,splice]
 refine zaz (n:=10) hM9'.rd (fun q=>hM9'.none (hnO (by rw[he9,q];rfl))) (fun s10 q τ10 hr hk=>?_)
 rw[q]at he9
 simp only[ycY]at he9
 have n10:=zdH q
 have hM10:=hM9'.keepS hk hr (zal q)
 have hF10:=hF9'.keepS hk
 have hmo10:=hM10.ob
 simp[a0,a2,hmo10]
 refine zw hM10.rd (fun q=>hM10.none (hnO (by rw[he9,q];rfl))) (fun k s11 q τ11 hr hk=>?_)
 rw[q]at he9
 simp only[ycY]at he9
 have n11:=(zu q).2.2.1
 have hM11:=hM10.keepS hk hr (zL q)
 have hF11:=hF10.keepS hk
 have hmo11:=hM11.ob
 by_cases hk':k=(h0.length:Int)
 ·rw[if_pos hk']at he9
  simp[a2,hmo11,hk']
  refine zy (fun _=>?_) (fun q=>by cases q)
  simp[a2,hmo11]
  refine zH (FL3 σ0 base β x mo fo mem (yb4 .i64 (mn-3)) h0 res) (MU 71 (h0.length+1)) ⟨[],[],hrows,s11,by simp[a0],by simp[a2],by simp,by simp,hM11,⟨by simpa using hF11,hf0,by simp,.nil,by simpa using hhr,by simp,by simp,by simp⟩,by omega,by rw[he9];rfl⟩ fun a τ hI=>?_
  refine zrG V hnO hh (fun dps drows s a τ b0 b2 hM hF hl he=>?_) hlen hI
  exact ztK hlen hn hs b0 b2 hM hF hl he
 ·rw[if_neg hk']at he9
  simp[a2,hmo11,hk']
  refine zy (fun q=>by cases q) (fun _=>?_)
  simp
  exact hM11.none (hnO (by rw[he9];rfl)) _ _ (.inl rfl) (.refl ..)
theorem ztM(V:zd2 G){σ0 base β x mo fo mem0 mn0}{h0:List F}{res:Option (M × Rs)}{hrows:List AV}(hlen:h0.length≤2^37)(hh:∀f∈h0,f.locals=[]∧f.name=[])(hhr:All2 HV hrows h0)(hf0:σ0.no≤fo)(hn:res=none→zer R σ0)(hs:∀m s',res=some (m,s')→∀σ' mv,Al.ME σ' σ0.nf mv m→zd σ0 σ'→Rdr base β x s' σ'→R (.ret mv) σ')
  {s:Rs} {a:Nat→AV} {τ:AS} (a0:a 0=.ptr x 0) (a2:a 2=.ptr mo 0) (hM:Md σ0 base β x mo (zad fo h0.length mem0 mn0) s τ) (hF:Fn x mo fo (zt hrows) τ) (hs65:s.n≤65536) (he:res=(zhN h0 s).bind zBG) :
  avc yb9 G 114 zi0 (zba yb9 [.cell 2 28] (zwN R)) a τ:=by
 have hnO:res=none→zer (zwN R) σ0:=fun q e σ' a b=>.inl (hn q e σ' a b)
 unfold zhN at he
 simp[zi0,a0]
 refine zaz (n:=3) hM.rd (fun q=>hM.none (hnO (by rw[he,q];rfl))) (fun s1 q τ1 hr hk=>?_)
 rw[q]at he
 simp only[ycY]at he
 have n1:=zdH q
 have hM1:=hM.keepS hk hr (zal q)
 have hF1:=hF.keepS hk
 simp[a0]
 refine zw hM1.rd (fun q=>hM1.none (hnO (by rw[he,q];rfl))) (fun N s2 q τ2 hr hk=>?_)
 rw[q]at he
 simp only[ycY]at he
 have n2:=(zu q).2.2.1
 have hM2:=hM1.keepS hk hr (zL q)
 have hF2:=hF1.keepS hk
 have hNr:=(zu q).2.2.2.2.1
 simp
 refine zH (Nm2 σ0 base β x mo fo (zad fo h0.length mem0 mn0) (zt hrows) h0 res s2.n N) (MU 33 (N.toNat+1)) ⟨0,s2,by omega,by simp[a0],by simp[a2],by simp,by simp,hM2,hF2,rfl,he⟩ fun a τ hI=>?_
 refine znM hNr hnO (fun s a τ b0 b2 hM hF hsn he=>?_) hI
 exact ztL V hlen hh hhr hf0 hn hs b0 b2 hM hF (by omega) he
theorem znO(V:zd2 G){σ0 base β x s}(h:Rdr base β x s σ)(hA:zd σ0 σ)(hx0:σ0.no≤x)(hb0:σ0.nf≤base)(hl:s.b.length≤2^37)(hs65:s.n≤65536)(hn:zb4 s=none→zer R σ0)(hs:∀m s',zb4 s=some (m,s')→∀σ' mv,Al.ME σ' σ0.nf mv m→zd σ0 σ'→Rdr base β x s' σ'→R (.ret mv) σ'):zzQ G 39 [.ptr x 0] σ R:=by
 refine zK1 (zAt rfl ?_)
 show avc yb9 G 114 zK6 (zba yb9 [.cell 2 28] (zwN R)) _ σ
 generalize hres:zb4 s=res at *
 have he:=hres.symm
 rw[zrF,ztI]at he
 have hnO:res=none→zer (zwN R) σ0:=fun q e σ' a b=>.inl (hn q e σ' a b)
 have hx:=h.hx
 have hmx:¬σ.no=x:=by omega
 have hno:=hA.no
 have hM:Md σ0 base β x σ.no [.nilsl,.int .i64 0,.int .i64 0] s (σ.newO [.nilsl,.int .i64 0,.int .i64 0]):=⟨h.adds (zd.refl σ).newO,hA.newO,by simp,by simp,hmx,hx0,hno,hb0,hl⟩
 simp[zK6]
 refine zah hM.rd (fun q=>hM.none (hnO (by rw[he,zci q];rfl))) (fun p s1 q v τ1 _ hr hk=>?_)
 rw[zcj q]at he
 simp only[ycY]at he
 have n1:=(zau q).2.2
 have hM1:=hM.keepS hk hr (zb9 q)
 simp
 refine zmp hM1.rd hM1.len (fun q=>hM1.none (hnO (by rw[he,q];rfl))) (fun h0 s2 q τ2 hrows g hhr hg1 hg2 hg3 hg4 hr hk hlen2=>?_)
 rw[q]at he
 simp only[ycY]at he
 have n2:=ztt q
 have hh:=zjm q
 have hM2:=hM1.keepS hk hr (by omega)
 have hmo2:=hM2.ob
 have hrl:=hhr.length
 have hl1:=hM1.len
 simp[hmo2,splice]
 have hM2':Md σ0 base β x σ.no [.sl (.fam g false) 5 hrows,.int .i64 0,.int .i64 0] s2 (τ2.setO σ.no [.sl (.fam g false) 5 hrows,.int .i64 0,.int .i64 0]):=hM2.setM
 refine zKY (zaz (n:=2) hM2'.rd (fun q e σ' b1 b2=>.inl (hM2'.none (hnO (by rw[he,q];rfl)) e σ' b1 b2)) (fun s3 q τ3 hr3 hk3=>.inr ⟨g,σ.no,0,5,false,[.sl (.fam g false) 5 hrows,.int .i64 0,.int .i64 0],hrows,?_,?_,rfl,?_⟩))
 ·rw[hk3.fam g (by simpa using hg2)]
  simpa using hg3
 ·exact(hk3.obj σ.no (by simpa using hM2.lt) hmx).trans (by simp)
 ·rw[q]at he
  simp only[ycY]at he
  have n3:=zdH q
  have hM3:=hM2'.keepS hk3 hr3 (zal q)
  have hno3:=hM3.lt
  have hnf3:=hk3.nf
  have hnu3:¬zaj τ3 x g:=fun u=>hg4 (by
   have:=hk3.r.use g (by simpa using hg2) u
   obtain⟨cs',v,u1,u2,u3⟩:=this
   have hxm:¬x=σ.no:=fun e=>hmx e.symm
   simp[hxm]at u1
   exact⟨cs',v,u1,u2,u3⟩)
  have hgb:base≤g:=by have:=hM1.rd.hb.2;omega
  simp at hnf3
  have hM4:Md σ0 base β x σ.no (zad τ3.no h0.length 0 0) s3 (τ3.own g σ.no ([.sl (.fam g false) 5 hrows,.int .i64 0,.int .i64 0].set 0 (.slm τ3.no 0 5 hrows.length)) (zt hrows)):=by
   have r1:=hM3.rd.endF hgb hnu3
   obtain⟨bv,lv,ho,hv,hl⟩:=r1.cells
   have hxm:¬x=σ.no:=fun e=>hmx e.symm
   have hxn:=hM3.rd.hx
   have hx3:¬x=τ3.no:=by omega
   have hm3:¬σ.no=τ3.no:=by omega
   refine⟨⟨by simp;omega,r1.hb,by simpa using r1.h0,fun f hf=>by simpa using r1.hβ f hf,bv,lv,by simpa [hxm,hx3]using ho,hv,?_⟩,⟨by have:=hM3.ad.no;simp;omega,hM3.ad.nf,fun o ho=>?_,fun f hf=>?_⟩,by simp[hm3,zad,hrl],by simp;omega,hmx,hx0,hno,hb0,hM3.len⟩
   ·rcases hl with h1|⟨f,tos,h1,h2,h3,h4,h5⟩
    ·exact .inl h1
    ·exact .inr ⟨f,tos,h1,h2,h3,by simpa using h4,h5⟩
   ·have h1:¬o=τ3.no:=by omega
    have h2:¬o=σ.no:=by omega
    simp[h1,h2]
    exact hM3.ad.obj o ho
   ·have:¬f=g:=by omega
    simp[this]
    exact hM3.ad.fam f hf
  have hF4:Fn x σ.no τ3.no (zt hrows) (τ3.own g σ.no ([.sl (.fam g false) 5 hrows,.int .i64 0,.int .i64 0].set 0 (.slm τ3.no 0 5 hrows.length)) (zt hrows)):=⟨by simp,by simp,by have:=hM3.rd.hx;omega,by omega⟩
  generalize τ3.own g σ.no ([.sl (.fam g false) 5 hrows,.int .i64 0,.int .i64 0].set 0 (.slm τ3.no 0 5 hrows.length)) (zt hrows)=τ4 at *
  have hh':∀f∈h0,f.locals=[]∧f.name=[]:=fun f hf=>⟨(hh f hf).1,by
   have key:∀{rows:List AV} {l:List F},All2 HV rows l→∀f∈l,f.name=[]:=fun {rows l} hr=>by
    induction hr with
    | nil=>intro f hf;cases hf
    | cons h r ih =>
     intro f hf
     rcases ybC.1 hf with rfl|hf
     ·obtain⟨_,_,_,e,_⟩:=h
      exact e
     ·exact ih f hf
   exact key hhr f hf⟩
  have hf0:σ0.no≤τ3.no:=by omega
  simp
  refine zah hM4.rd (fun q=>hM4.none (hnO (by rw[he,zci q];rfl))) (fun p s5 q v τ5 _ hr hk=>?_)
  rw[zcj q]at he
  simp only[ycY]at he
  have n5:=(zau q).2.2
  have hM5:=hM4.keepS hk hr (zb9 q)
  have hF5:=hF4.keepS hk
  simp
  refine zH (Im1 σ0 base β x σ.no τ3.no (zad τ3.no h0.length 0 0) (zt hrows) h0 res s5.n) (MU 18 4) ⟨0,s5,by omega,by simp,by simp,by simp[zgD],by simp,by simp,hM5,hF5,rfl,he⟩ fun a τ hI=>?_
  refine znL hnO (fun s a τ b0 b2 hM hF hsn he=>?_) hI
  exact ztM V (by omega) hh' hhr hf0 hn hs b0 b2 hM hF (by omega) he
end
def ixI(o:Option Nat):Int:=match o with
 | some i=>(i:Int)
 | none=>-1
theorem zqz(o:Option Nat):decide (0≤ixI o)=o.isSome:=by
 cases o with
 | none=>rfl
 | some i=>simp[ixI]
theorem zil{α:Type}(P:α→Bool)(l:List α):(l.findIdx? P).isSome=l.any P:=by
 rw[List.findIdx?_isSome]
theorem zmq{α:Type}{P:α→Bool}{l:List α}{i:Nat}(hi:i<l.length)(hp:P l[i]=true)(hn:∀j (h:j<l.length),j<i→P l[j]=false):l.findIdx? P=some i:=by
 rw[ycL]
 exact⟨hi,hp,fun j hj=>by simp[hn j (by omega) hj]⟩
theorem zmr{α:Type}{P:α→Bool}{l:List α}(hn:∀j (h:j<l.length),P l[j]=false):l.findIdx? P=none:=by
 rw[ydk]
 intro x hx
 obtain⟨j,hj,rfl⟩:=ya9 hx
 exact hn j hj
section
variable {G : Env} {σ : AS} {R : Out → AS → Prop}
def IxA{α:Type}(P:α→Bool)(v fv:AV)(l:List α)(σ:AS)(a:Nat→AV)(τ:AS):Prop:=∃i:Nat,i≤l.length∧a 0=v∧a 1=fv∧a 7=.int .i64 (l.length:Int)∧a 8=.int .i64 (i:Int)∧zd σ τ∧∀j (h:j<l.length),j<i→P l[j]=false
theorem zOj{n:Nat}{caps:List AV}{P:Int→Bool}{l:List Int}{v:AV}(hv:Al.IntsO σ v l)(hl:l.length≤2^40)(hc:za yb9 n=true)
  (hcall:∀x∈l,∀rv τ (R':Out→AS→Prop),zd σ τ→rv=.int .i64 x→(∀τ',zd τ τ'→R' (.ret (.bool (P x))) τ')→zzQ G n (rv::caps) τ R') (h:∀σ',zd σ σ'→R (.ret (.int .i64 (ixI (l.findIdx? P)))) σ'):zzQ G 154 [v,.fn (.func n) [] caps] σ R:=by
 refine zp6 rfl ?_
 have v1:=hv.one
 have v2:=hv.len
 simp[zBc,v1,v2]
 refine zH (IxA P v (.fn (.func n) [] caps) l σ) (MU 8 (l.length+1)) ⟨0,by omega,by simp,by simp,by simp,by simp,.refl _,fun j _ h=>by omega⟩ fun a τ hI=>?_
 obtain⟨i,hi,a0,a1,a7,a8,hA,hno⟩:=hI
 by_cases hlt:i<l.length
 ·have hlt':(i:Int)<(l.length:Int):=by omega
  obtain⟨φ,hrd,hix⟩:=(hv.keep hA).at hlt
  have hrd:=hrd.read
  have hmem:=yaw hlt
  have w1:yb4 .i64 ((i:Int)+1)=((i+1:Nat):Int):=by rw[zc]<;>omega
  skip
  simp[zgp,a0,a1,a7,a8,hlt',hix,hrd,hc ]
  refine hcall _ hmem _ τ _ hA rfl fun τ' A'=>?_
  cases hp:P l[i]with
  | true =>
   have e:=zmq hlt hp hno
   have:=h _ (hA.trans A')
   rw[e]at this
   simp
   exact this
  | false =>
   simp[a8,w1]
   refine⟨⟨i+1,by omega,by simp[a0],by simp[a1],by simp[a7],by simp,hA.trans A',fun j hj hji=>?_⟩,?_⟩
   ·rcases ycM j i with h1|h1
    ·exact hno j hj h1
    ·have:j=i:=by omega
     subst this
     exact hp
   ·simp only[MU,a8];simp;omega
 ·have he:=zmr (P:=P) (l:=l) fun j hj=>hno j hj (by omega)
  have:=h _ hA
  rw[he]at this
  simp[zgp,zlY,a7,a8,hlt]
  exact this
theorem zL5{n:Nat}{caps:List AV}{P:Int→Bool}{l:List Int}{v:AV}(hv:Al.IntsO σ v l)(hl:l.length≤2^40)(hc:za yb9 n=true)
  (hcall:∀x∈l,∀rv τ (R':Out→AS→Prop),zd σ τ→rv=.int .i64 x→(∀τ',zd τ τ'→R' (.ret (.bool (P x))) τ')→zzQ G n (rv::caps) τ R') (h:∀σ',zd σ σ'→R (.ret (.bool (l.any P))) σ'):zzQ G 95 [v,.fn (.func n) [] caps] σ R:=by
 refine zsQ rfl ?_
 have v1:=hv.one
 simp[zLe,v1]
 refine zOj hv hl hc hcall fun σ' A=>?_
 have e:decide (0≤ixI (l.findIdx? P))=l.any P:=by rw[zqz,zil]
 simp[e]
 exact h _ A
theorem zL6{n:Nat}{caps:List AV}{P:W→Bool}{l:List W}{v:AV}(hv:Al.RepO σ v l)(hl:l.length≤2^40)(hc:za yb9 n=true)
  (hcall:∀x∈l,∀rv τ (R':Out→AS→Prop),zd σ τ→rv=x.av→(∀τ',zd τ τ'→R' (.ret (.bool (P x))) τ')→zzQ G n (rv::caps) τ R') (h:∀σ',zd σ σ'→R (.ret (.int .i64 (ixI (l.findIdx? P)))) σ'):zzQ G 156 [v,.fn (.func n) [] caps] σ R:=by
 refine zvI rfl ?_
 have v1:=hv.one
 have v2:=RepO.len hv
 simp[zEM,v1,v2]
 refine zH (IxA P v (.fn (.func n) [] caps) l σ) (MU 8 (l.length+1)) ⟨0,by omega,by simp,by simp,by simp,by simp,.refl _,fun j _ h=>by omega⟩ fun a τ hI=>?_
 obtain⟨i,hi,a0,a1,a7,a8,hA,hno⟩:=hI
 by_cases hlt:i<l.length
 ·have hlt':(i:Int)<(l.length:Int):=by omega
  obtain⟨φ,hrd,hix⟩:=RepO.at (hv.keep hA) hlt
  have hrd:=hrd.read
  have hmem:=yaw hlt
  have w1:yb4 .i64 ((i:Int)+1)=((i+1:Nat):Int):=by rw[zc]<;>omega
  skip
  simp[zl0,a0,a1,a7,a8,hlt',hix,hrd,hc ,W.av,W.cs]
  refine hcall _ hmem _ τ _ hA rfl fun τ' A'=>?_
  cases hp:P l[i]with
  | true =>
   have e:=zmq hlt hp hno
   have:=h _ (hA.trans A')
   rw[e]at this
   simp
   exact this
  | false =>
   simp[a8,w1]
   refine⟨⟨i+1,by omega,by simp[a0],by simp[a1],by simp[a7],by simp,hA.trans A',fun j hj hji=>?_⟩,?_⟩
   ·rcases ycM j i with h1|h1
    ·exact hno j hj h1
    ·have:j=i:=by omega
     subst this
     exact hp
   ·simp only[MU,a8];simp;omega
 ·have he:=zmr (P:=P) (l:=l) fun j hj=>hno j hj (by omega)
  have:=h _ hA
  rw[he]at this
  simp[zl0,zp8,a7,a8,hlt]
  exact this
theorem zL7{n:Nat}{caps:List AV}{P:W→Bool}{l:List W}{v:AV}(hv:Al.RepO σ v l)(hl:l.length≤2^40)(hc:za yb9 n=true)
  (hcall:∀x∈l,∀rv τ (R':Out→AS→Prop),zd σ τ→rv=x.av→(∀τ',zd τ τ'→R' (.ret (.bool (P x))) τ')→zzQ G n (rv::caps) τ R') (h:∀σ',zd σ σ'→R (.ret (.bool (l.any P))) σ'):zzQ G 100 [v,.fn (.func n) [] caps] σ R:=by
 refine zu9 rfl ?_
 have v1:=hv.one
 simp[zEp,v1]
 refine zL6 hv hl hc hcall fun σ' A=>?_
 have e:decide (0≤ixI (l.findIdx? P))=l.any P:=by rw[zqz,zil]
 simp[e]
 exact h _ A
theorem zOk{n:Nat}{caps:List AV}{P:(List W)→Bool}{l:List (List W)}{v:AV}(hv:Al.LstO σ v l)(hl:l.length≤2^40)(hc:za yb9 n=true)
  (hcall:∀x∈l,∀rv τ (R':Out→AS→Prop),zd σ τ→Al.RepO τ rv x→(∀τ',zd τ τ'→R' (.ret (.bool (P x))) τ')→zzQ G n (rv::caps) τ R') (h:∀σ',zd σ σ'→R (.ret (.int .i64 (ixI (l.findIdx? P)))) σ'):zzQ G 155 [v,.fn (.func n) [] caps] σ R:=by
 refine zvH rfl ?_
 have v1:=hv.one
 have v2:=hv.len
 simp[zEL,v1,v2]
 refine zH (IxA P v (.fn (.func n) [] caps) l σ) (MU 8 (l.length+1)) ⟨0,by omega,by simp,by simp,by simp,by simp,.refl _,fun j _ h=>by omega⟩ fun a τ hI=>?_
 obtain⟨i,hi,a0,a1,a7,a8,hA,hno⟩:=hI
 by_cases hlt:i<l.length
 ·have hlt':(i:Int)<(l.length:Int):=by omega
  obtain⟨φ,rv,hrd,hel,hix⟩:=(hv.keep hA).at hlt
  have hrd:=hrd.read
  have hmem:=yaw hlt
  have w1:yb4 .i64 ((i:Int)+1)=((i+1:Nat):Int):=by rw[zc]<;>omega
  have o1:=hel.one
  simp[zlZ,a0,a1,a7,a8,hlt',hix,hrd,hc ,o1]
  refine hcall _ hmem _ τ _ hA hel fun τ' A'=>?_
  cases hp:P l[i]with
  | true =>
   have e:=zmq hlt hp hno
   have:=h _ (hA.trans A')
   rw[e]at this
   simp
   exact this
  | false =>
   simp[a8,w1]
   refine⟨⟨i+1,by omega,by simp[a0],by simp[a1],by simp[a7],by simp,hA.trans A',fun j hj hji=>?_⟩,?_⟩
   ·rcases ycM j i with h1|h1
    ·exact hno j hj h1
    ·have:j=i:=by omega
     subst this
     exact hp
   ·simp only[MU,a8];simp;omega
 ·have he:=zmr (P:=P) (l:=l) fun j hj=>hno j hj (by omega)
  have:=h _ hA
  rw[he]at this
  simp[zlZ,zp7,a7,a8,hlt]
  exact this
theorem zL8{n:Nat}{caps:List AV}{P:(List W)→Bool}{l:List (List W)}{v:AV}(hv:Al.LstO σ v l)(hl:l.length≤2^40)(hc:za yb9 n=true)
  (hcall:∀x∈l,∀rv τ (R':Out→AS→Prop),zd σ τ→Al.RepO τ rv x→(∀τ',zd τ τ'→R' (.ret (.bool (P x))) τ')→zzQ G n (rv::caps) τ R') (h:∀σ',zd σ σ'→R (.ret (.bool (l.any P))) σ'):zzQ G 98 [v,.fn (.func n) [] caps] σ R:=by
 refine zA5 rfl ?_
 have v1:=hv.one
 simp[zM6,v1]
 refine zOk hv hl hc hcall fun σ' A=>?_
 have e:decide (0≤ixI (l.findIdx? P))=l.any P:=by rw[zqz,zil]
 simp[e]
 exact h _ A
theorem zOl{n:Nat}{caps:List AV}{P:F→Bool}{l:List F}{v:AV}(hv:Al.FsO σ v l)(hl:l.length≤2^40)(hc:za yb9 n=true)
  (hcall:∀x∈l,∀rv τ (R':Out→AS→Prop),zd σ τ→Al.FVO τ rv x→(∀τ',zd τ τ'→R' (.ret (.bool (P x))) τ')→zzQ G n (rv::caps) τ R') (h:∀σ',zd σ σ'→R (.ret (.int .i64 (ixI (l.findIdx? P)))) σ'):zzQ G 153 [v,.fn (.func n) [] caps] σ R:=by
 refine zvG rfl ?_
 have v1:=hv.one
 have v2:=hv.len
 simp[zEK,v1,v2]
 refine zH (IxA P v (.fn (.func n) [] caps) l σ) (MU 8 (l.length+1)) ⟨0,by omega,by simp,by simp,by simp,by simp,.refl _,fun j _ h=>by omega⟩ fun a τ hI=>?_
 obtain⟨i,hi,a0,a1,a7,a8,hA,hno⟩:=hI
 by_cases hlt:i<l.length
 ·have hlt':(i:Int)<(l.length:Int):=by omega
  obtain⟨φ,rv,hrd,hel,hix⟩:=(hv.keep hA).at hlt
  have hrd:=hrd.read
  have hmem:=yaw hlt
  have w1:yb4 .i64 ((i:Int)+1)=((i+1:Nat):Int):=by rw[zc]<;>omega
  obtain⟨pv,lv,tv,hrv,hpv,hlv,htv⟩:=id hel
  have o1:=hpv.one
  have o2:=hlv.one
  have o3:=htv.one
  subst hrv
  simp[zlX,a0,a1,a7,a8,hlt',hix,hrd,hc ,o1,o2,o3]
  refine hcall _ hmem _ τ _ hA hel fun τ' A'=>?_
  cases hp:P l[i]with
  | true =>
   have e:=zmq hlt hp hno
   have:=h _ (hA.trans A')
   rw[e]at this
   simp
   exact this
  | false =>
   simp[a8,w1]
   refine⟨⟨i+1,by omega,by simp[a0],by simp[a1],by simp[a7],by simp,hA.trans A',fun j hj hji=>?_⟩,?_⟩
   ·rcases ycM j i with h1|h1
    ·exact hno j hj h1
    ·have:j=i:=by omega
     subst this
     exact hp
   ·simp only[MU,a8];simp;omega
 ·have he:=zmr (P:=P) (l:=l) fun j hj=>hno j hj (by omega)
  have:=h _ hA
  rw[he]at this
  simp[zlX,zp5,a7,a8,hlt]
  exact this
theorem zG5{n:Nat}{caps:List AV}{P:F→Bool}{l:List F}{v:AV}(hv:Al.FsO σ v l)(hl:l.length≤2^40)(hc:za yb9 n=true)
  (hcall:∀x∈l,∀rv τ (R':Out→AS→Prop),zd σ τ→Al.FVO τ rv x→(∀τ',zd τ τ'→R' (.ret (.bool (P x))) τ')→zzQ G n (rv::caps) τ R') (h:∀σ',zd σ σ'→R (.ret (.bool (l.any P))) σ'):zzQ G 93 [v,.fn (.func n) [] caps] σ R:=by
 refine zA1 rfl ?_
 have v1:=hv.one
 simp[zM3,v1]
 refine zOl hv hl hc hcall fun σ' A=>?_
 have e:decide (0≤ixI (l.findIdx? P))=l.any P:=by rw[zqz,zil]
 simp[e]
 exact h _ A
theorem znP{t:Int}(h:R (.ret (.bool (zoc t))) σ):zzQ G 92 [.int .i64 t] σ R:=by
 refine zA0 rfl ?_
 by_cases h1:t=1
 ·subst h1
  simp[zIu]
  simpa [zoc]using h
 ·by_cases h2:t=2
  ·subst h2
   simp[zIu]
   simpa [zoc]using h
  ·simp[zIu,h1,h2]
   simpa [zoc,h1,h2]using h
theorem zye:za yb9 92=true:=by kernel_rfl
theorem zG6:za yb9 94=true:=by kernel_rfl
theorem zG7:za yb9 96=true:=by kernel_rfl
theorem zG8:za yb9 97=true:=by kernel_rfl
theorem zG9:za yb9 99=true:=by kernel_rfl
theorem zyf{l:List Int}{v:AV}(hv:Al.IntsO σ v l)(hl:l.length≤2^40)(h:∀σ',zd σ σ'→R (.ret (.bool (l.any zoc))) σ'):zzQ G 95 [v,.fn (.func 92) [] []] σ R:=by
 refine zL5 (P:=zoc) hv hl zye (fun x _ rv τ R' A e h=>?_) h
 subst e
 exact znP (h _ (.refl _))
theorem znQ{f:F}{fv:AV}{o:Nat}(hf:Al.FVO σ fv f)(hs:SzB f)(ho:σ.objs o=some [.fn (.func 92) [] []])(hol:o<σ.no)(h:∀σ',zd σ σ'→R (.ret (.bool (!zdF f))) σ'):zzQ G 94 [fv,.ptr o 0] σ R:=by
 refine zA2 rfl ?_
 obtain⟨pv,lv,tv,rfl,hp,hl,ht⟩:=hf
 have p1:=hp.one
 have l1:=hl.one
 have t1:=ht.one
 have A0:zd σ (σ.newO [.str f.name,pv,lv,.int .i64 f.type,tv]):=(zd.refl σ).newO
 have hne:¬o=σ.no:=by omega
 have hs1:=hs.params
 have hs2:=hs.locals
 have eF:(!zdF f)=(f.params.any zoc||(f.locals.any zoc||(decide (f.type≠0)&&zoc f.type))):=by simp[zdF]
 rw[eF]at h
 simp[zM4,p1,l1,t1,hne,ho]
 refine zyf (hp.keep A0) (by omega) fun σ1 A1=>?_
 have o1:=(A1.obj σ.no (by simp)).trans (show _=some [.str f.name,pv,lv,.int .i64 f.type,tv]by simp)
 have o2:=(A1.obj o (by simp;omega)).trans (show _=some [.fn (.func 92) [] []]by simp[hne,ho])
 have n1:=A1.no
 simp at n1
 cases hq:f.params.any zoc with
 | true =>
  rw[hq]at h
  simp
  exact h _ (A0.trans A1)
 | false =>
  rw[hq]at h
  simp[o1,o2,l1]
  refine zyf (hl.keep (A0.trans A1)) (by omega) fun σ2 A2=>?_
  have o3:=(A2.obj σ.no (by omega)).trans o1
  have o4:=(A2.obj o (by omega)).trans o2
  cases hq2:f.locals.any zoc with
  | true =>
   rw[hq2]at h
   simp
   exact h _ ((A0.trans A1).trans A2)
  | false =>
   rw[hq2]at h
   by_cases h0:f.type=0
   ·simp[o3,o4,h0]
    have:=h _ ((A0.trans A1).trans A2)
    simpa [h0]using this
   ·simp[o3,o4,h0,zye]
    refine znP ?_
    have:=h _ ((A0.trans A1).trans A2)
    simpa [h0]using this
theorem zpq{m:M}{mv:AV}(hm:Al.MO σ mv m)(hl:m.funcs.length≤2^40)(hs:∀f∈m.funcs,SzB f)(h:∀σ',zd σ σ'→R (.ret (.bool (m.funcs.all zdF))) σ'):zzQ G 41 [mv] σ R:=by
 refine zAv rfl ?_
 obtain⟨fv,rfl,hf⟩:=hm
 have f1:=hf.one
 have A0:zd σ (((σ.newO [fv,.int .i64 m.memory,.int .i64 m.main]).newO [.nilfn]).setO (σ.no+1) [.fn (.func 92) [] []]):=((zd.refl σ).newO.newO).setO (by omega)
 have e:(m.funcs.any fun f=>!zdF f)=!(m.funcs.all zdF):=by simp[List.any_eq_not_all_not]
 simp[zMG,f1,splice]
 refine zG5 (P:=fun f=>!zdF f) (hf.keep A0) hl zG6 (fun x hx rv τ R' A e h'=>?_) fun σ' A'=>?_
 ·refine znQ e (hs x hx) (o:=σ.no+1) ((A.obj _ (by simp)).trans (by simp)) (by have:=A.no;simp at this;omega) h'
 ·rw[e]
  simp
  exact h _ (A0.trans A')
theorem zpr{w:W}(h:∀σ',zd σ σ'→R (.ret (.bool (zaJ w))) σ'):zzQ G 96 [w.av] σ R:=by
 refine zA3 rfl ?_
 have A0:zd σ (σ.newO w.cs):=(zd.refl σ).newO
 simp only[W.cs]at A0
 by_cases h0:w.n<0
 ·simp[zLf,W.av,W.cs,h0]
  have:=h _ A0
  simpa [zaJ,h0]using this
 ·simp[zLf,W.av,W.cs,h0]
  have:=h _ A0
  simpa [zaJ,h0]using this
theorem znR{l:List W}{v:AV}{o:Nat}(hv:Al.RepO σ v l)(hl:l.length≤2^40)(ho:σ.objs o=some [.fn (.func 96) [] []])(h:∀σ',zd σ σ'→R (.ret (.bool (l.any zaJ))) σ'):zzQ G 99 [v,.ptr o 0] σ R:=by
 refine zA6 rfl ?_
 have v1:=hv.one
 simp[zM7,ho,v1]
 refine zL7 (P:=zaJ) hv hl zG7 (fun x _ rv τ R' A e h'=>?_) fun σ' A'=>?_
 ·subst e
  exact zpr h'
 ·simp
  exact h _ A'
theorem znS{f:F}{fv:AV}{o:Nat}(hf:Al.FVO σ fv f)(hs:SzB f)(ho:σ.objs o=some [.fn (.func 96) [] []])(hol:o<σ.no)(h:∀σ',zd σ σ'→R (.ret (.bool (f.lists.any fun l=>l.any zaJ))) σ'):zzQ G 97 [fv,.ptr o 0] σ R:=by
 refine zA4 rfl ?_
 obtain⟨pv,lv,tv,rfl,hp,hl,ht⟩:=hf
 have p1:=hp.one
 have l1:=hl.one
 have t1:=ht.one
 have A0:zd σ (σ.newO [.str f.name,pv,lv,.int .i64 f.type,tv]):=(zd.refl σ).newO
 have hne:¬o=σ.no:=by omega
 simp[zM5,p1,l1,t1]
 refine zL8 (P:=fun l=>l.any zaJ) (ht.keep A0) hs.many zG9 (fun x hx rv τ R' A e h'=>?_) fun σ' A'=>?_
 ·exact znR e (hs.rows x hx) ((A.obj o (by simp;omega)).trans (by simp[hne,ho])) h'
 ·simp
  exact h _ (A0.trans A')
theorem znT{m:M}{mv:AV}(hm:Al.MO σ mv m)(hl:m.funcs.length≤2^40)(hs:∀f∈m.funcs,SzB f)(h:∀σ',zd σ σ'→R (.ret (.bool (zhk m))) σ'):zzQ G 42 [mv] σ R:=by
 refine zAw rfl ?_
 obtain⟨fv,rfl,hf⟩:=hm
 have f1:=hf.one
 have A0:zd σ (((σ.newO [fv,.int .i64 m.memory,.int .i64 m.main]).newO [.nilfn]).setO (σ.no+1) [.fn (.func 96) [] []]):=((zd.refl σ).newO.newO).setO (by omega)
 have hne:¬σ.no=σ.no+1:=by omega
 unfold zhk at h
 by_cases h3:-3≤m.main
 ·simp[zK8,f1,splice,h3]
  refine zG5 (P:=fun f=>f.lists.any fun l=>l.any zaJ) (hf.keep A0) hl zG8 (fun x hx rv τ R' A e h'=>?_) fun σ' A'=>?_
  ·refine znS e (hs x hx) (o:=σ.no+1) ((A.obj _ (by simp)).trans (by simp)) (by have:=A.no;simp at this;omega) h'
  ·have:=h _ (A0.trans A')
   simp
   simpa [h3]using this
 ·simp[zK8,f1,splice,h3]
  have:=h _ A0
  simpa [h3]using this
end
theorem zwO{st:Bool}{c:UInt8}{s s':Rs}{w:W}(h:zgA st c s=some (w,s')):RgW w:=by
 unfold zgA at h
 cases hf:zb2 zf8 c with
 | some w0 =>
  rw[hf]at h
  simp only[ybB]at h
  obtain⟨⟨n,s1⟩,hn,he⟩:=h
  cases he
  obtain⟨_,_,_,n1,n2,_⟩:=zu hn
  exact⟨n1,n2⟩
 | none =>
  rw[hf]at h
  simp only at h
  cases hp:zb2 zag c with
  | some w0 =>
   rw[hp]at h
   simp only at h
   have hz:∀p∈zag,RgW p.2:=by
    have:∀p∈zag,0≤p.2.n∧p.2.n≤8:=by decide
    intro p hp
    have:=this p hp
    exact⟨by omega,by omega⟩
   have hm:=hz _ (zdG hp)
   split at h
   ·rw[ybB]at h
    obtain⟨_,_,he⟩:=h
    cases he
    exact hm
   ·cases h
    exact hm
  | none =>
   rw[hp]at h
   simp only[ybB]at h
   obtain⟨w0,hn,he⟩:=h
   cases he
   have hm:(c,w)∈zmk:=by
    have:=zjg ⟨c.toNat,c.toNat_lt⟩ w (by simpa using hn)
    simpa using this
   have hz:∀p∈zmk,p.2.n=0:=by decide
   have:=hz _ hm
   simp only at this
   exact⟨by omega,by omega⟩
theorem zim:∀(st:Bool) (k d:Nat) (l:List W) (s:Rs) (n:Int) (e:UInt8) (s':Rs),zX st k d l s=some ((n,e),s')→RgL s.ls→(∀w∈l,RgW w)→RgL s'.ls
 | st,0,_,_,_,_,_,_,h,_,_=>by simp[zX]at h
 | st,k+1,d,l,s,n,e,s',h,hs,hl=>by
  have hz:∀op b o:Int,RgW (zcg op b o):=fun _ _ _=>⟨by simp[zcg],by simp[zcg]⟩
  rw[zX]at h
  simp only[ybA]at h
  obtain⟨⟨c,s1⟩,hb,h⟩:=h
  obtain⟨b1,b2,b3⟩:=zm hb
  rw[←b2]at hs
  split at h
  ·cases h
   intro ws hw
   rcases ybh.1 hw with h1|h1
   ·exact hs ws h1
   ·simp only[ycD]at h1
    subst h1
    exact hl
  ·simp only[ybA]at h
   obtain⟨⟨w,s2⟩,hi,h⟩:=h
   have hq:RgL s2.ls∧RgW w:=by
    unfold zbk at hi
    split at hi
    ·split at hi
     ·unfold zb3 at hi
      simp only[ybA]at hi
      obtain⟨⟨c1,s3⟩,hb1,⟨⟨n1,e1⟩,s4⟩,hl1,hi⟩:=hi
      obtain⟨f1,f2,f3⟩:=zm hb1
      rw[←f2]at hs
      have hs4:=zim st k (d+1) [] s3 n1 e1 s4 hl1 hs (by simp)
      split at hi
      ·split at hi
       ·rw[ybB]at hi
        obtain⟨⟨⟨n2,e2⟩,s5⟩,hl2,he2⟩:=hi
        simp only[Prod.mk.injEq]at he2
        obtain⟨rfl,rfl⟩:=he2
        exact⟨zim st k (d+1) [] s4 n2 e2 _ hl2 hs4 (by simp),hz _ _ _⟩
       ·cases hi
        exact⟨hs4,hz _ _ _⟩
      ·cases hi
       exact⟨hs4,hz _ _ _⟩
     ·cases hi
    ·obtain⟨_,a2,_⟩:=zbw hi
     rw[a2]
     exact⟨hs,zwO hi⟩
   refine zim st k d _ s2 n e s' h hq.1 fun w' hw'=>?_
   rcases ybh.1 hw' with h1|h1
   ·exact hl w' h1
   ·simp only[ycD]at h1
    subst h1
    exact hq.2
theorem zkf{st:Bool}{f f':F}{s s':Rs}(h:z9 st f s=some (f',s'))(hl:f.locals=[]):(∃c,zmh f'=some c∧c.length+11*s'.b.length≤11*s.b.length+11*f'.locals.length+40)∧f'.lists.length≤s.b.length∧(∀ws∈f'.lists,ws.length≤s.b.length)∧RgL f'.lists:=by
 obtain⟨⟨_,_,⟨st0,k0,s00,e0,s0',k1,k2,k3⟩,_⟩,hn,_,_⟩:=zdl h hl
 unfold z9 at h
 simp only[ybA,ybB]at h
 obtain⟨⟨n1,s1⟩,h1,⟨n2,s2⟩,h2,⟨gs,s3⟩,h3,⟨⟨n,e⟩,s4⟩,h4,h5⟩:=h
 simp only[Prod.mk.injEq]at h5
 obtain⟨hf',hs'⟩:=h5
 subst hf'
 subst hs'
 have l1:=zL h1
 have l2:=zL h2
 have l3:=zfp h3
 simp only at l1 l2 l3 h4
 obtain⟨_,d2,d3,⟨ws0,d4⟩,_,_,_⟩:=zaa _ _ _ _ _ _ _ _ h4
 obtain⟨z1,z2⟩:=zb5 _ _ _ _ _ _ _ _ h4
 have hr:=zim _ _ _ _ _ _ _ _ h4 (by simp[RgL]) (by simp)
 have hc:=zgC _ _ _ _ _ _ _ _ h4 (by intro i ws hi;simp at hi) (by simp)
 simp at z1 d3
 have hpos:0<s4.ls.length:=by omega
 have hnn:n=(s4.ls.length:Int)-1:=by omega
 obtain⟨x,hx⟩:=zji hc (s4.ls.length-1) s4.ls.length (by omega) (by omega)
 have hx':zmg s4.ls s4.ls.length ((s4.ls.length:Int)-1)=some x:=by
  rwa [show(((s4.ls.length-1:Nat)):Int)=(s4.ls.length:Int)-1 from by omega]at hx
 refine⟨⟨zx (zdi (f.locals++gs.flatten)++x++[11]),by unfold zmh;rw[hx'];rfl,?_⟩,by simp only;omega,fun ws hw=>?_,hr⟩
 ·obtain⟨j,hj⟩:∃j,s4.ls.length=j+1:=⟨s4.ls.length-1,by omega⟩
  have hx2:=hx'
  rw[hj,zmg,if_neg (by omega)]at hx2
  rw[hnn]at d4
  have e1:(((j+1:Nat):Int)-1)=(s4.ls.length:Int)-1:=by omega
  rw[e1,d4]at hx2
  have:=listP_len (fin:=s4.ls) _ _ _ _ _ _ _ h4 (List.prefix_refl _) j ws0 x (by rw[hnn,d4]) (by simpa using hx2)
  have hlo:=zdj (f.locals++gs.flatten).length (f.locals++gs.flatten)
  have hsb:=zaI (zJ (f.locals++gs.flatten).length (f.locals++gs.flatten))
  have hu1:=zay ((zJ (f.locals++gs.flatten).length (f.locals++gs.flatten)).length:Int)
  have hu2:=zay (((zdi (f.locals++gs.flatten)++x++[11]).length:Nat):Int)
  simp only at this
  simp only[zx,yab,zdi,zbO,yac,ybl]at hu1 hu2 ⊢
  simp only[yab]at hlo hsb
  omega
 ·have:=z2 s3.b.length (by simp) (by simp) ws hw
  omega
theorem zcW{st:Bool}:∀{hs fs:List F} {s s':Rs},zF st hs s=some (fs,s')→(∀f∈hs,f.locals=[])→(∃cs,zce fs=some cs∧cs.flatten.length+11*s'.b.length≤11*s.b.length+11*zdk fs+40*fs.length)∧∀f∈fs,f.lists.length≤s.b.length∧(∀ws∈f.lists,ws.length≤s.b.length)∧RgL f.lists
 | [],fs,s,s',h,_=>by
  cases h
  exact⟨⟨[],rfl,by simp[zdk]⟩,by simp⟩
 | f::hs,fs,s,s',h,hl=>by
  have hl0:=zav h hl
  rw[zF]at h
  simp only[ybA,ybB]at h
  obtain⟨⟨f',s1⟩,h1,⟨fs',s2⟩,h2,h3⟩:=h
  cases h3
  obtain⟨⟨c,a1,a2⟩,a3,a4,a5⟩:=zkf h1 (hl f (by simp))
  obtain⟨⟨cs,b1,b2⟩,b3⟩:=zcW h2 fun g hg=>hl g (by simp[hg])
  have:=zd8 h1
  have hm:zdk (f'::fs')=f'.locals.length+zdk fs':=rfl
  simp only at *
  refine⟨⟨c::cs,by rw[zce,a1];simp only[ycY];rw[b1];rfl,?_⟩,fun g hg=>?_⟩
  ·rw[yc4,yab,hm,yac]
   omega
  ·rcases ybC.1 hg with rfl|hg
   ·exact⟨a3,a4,a5⟩
   ·obtain⟨q1,q2,q3⟩:=b3 g hg
    exact⟨by omega,fun ws hw=>by have:=q2 ws hw;omega,q3⟩
theorem zgJ:∀{fs fs':List F},fs'.map zch=fs.map zch→zce fs'=zce fs
 | [],[],_=>rfl
 | [],_::_,h=>by simp at h
 | _::_,[],h=>by simp at h
 | f::fs,f'::fs',h=>by
  simp only[yaL,List.cons.injEq]at h
  obtain⟨h1,h2⟩:=h
  have e1:f'.lists=f.lists:=by have:=congrArg F.lists h1;exact this
  have e2:f'.locals=f.locals:=by have:=congrArg F.locals h1;exact this
  have e:zmh f'=zmh f:=by unfold zmh;rw[e1,e2]
  rw[zce,zce,e,zgJ h2]
theorem zjx{st:Bool}:∀{fs fs':List F} {s s':Rs},zeT st fs s=some (fs',s')→(∀i,(zap i fs').flatten.length+s'.b.length≤s.b.length+20*fs'.length)∧(∀f∈fs',f.name.length≤s.b.length)∧fs'.length=fs.length
 | [],fs',s,s',h=>by
  cases h
  exact⟨fun i=>by simp[zap],by simp,rfl⟩
 | f::fs,fs',s,s',h=>by
  rw[zeT]at h
  simp only[ybA,ybB]at h
  obtain⟨⟨n1,s1⟩,h1,⟨n2,s2⟩,h2,⟨p,s3⟩,h3,⟨fs2,s4⟩,h4,h5⟩:=h
  cases h5
  obtain⟨a1,a2,a3⟩:=zjx h4
  have l1:=zL h1
  have l2:=zL h2
  have l3:=(zau h3).1
  have l4:s2.b.length=p.length+s3.b.length:=by rw[l3];simp
  simp only at *
  refine⟨fun i=>?_,fun g hg=>?_,by simp[a3]⟩
  ·have u1:=zay i
   have u2:=zeV p
   have:=a1 (i+1)
   simp only[zap,yc4,yab,yac]
   omega
  ·rcases ybC.1 hg with rfl|hg
   ·simp only;omega
   ·have:=a2 g hg;omega
theorem zkP{st:Bool}:∀{n:Nat} {s s':Rs} {l:List F},zb8 (zdE st) n s=some (l,s')→s'.b.length+l.length+(l.map fun f=>f.params.length).sum≤s.b.length
 | 0,s,s',l,h=>by cases h;simp
 | n+1,s,s',l,h=>by
  rw[zb8]at h
  simp only[ybA,ybB]at h
  obtain⟨⟨t,s1⟩,h1,⟨l',s2⟩,h2,h3⟩:=h
  cases h3
  have a:=ztH h1
  have b:=zkP h2
  simp only[yac,yaL,yck]at *
  omega
theorem zbl{n:Int}{s s':Rs}(h:zaT n s=some s'):s'.b.length≤s.b.length:=by
 unfold zaT at h
 rw[ybB]at h
 obtain⟨⟨p,s1⟩,h1,rfl⟩:=h
 exact zb9 h1
theorem zqA{st:Bool}:∀{n:Nat} {s s':Rs} {l:List Int},zb8 (zdq st false) n s=some (l,s')→s'.b.length≤s.b.length
 | 0,_,_,_,h=>by cases h;exact yah _
 | n+1,s,s',l,h=>by
  rw[zb8]at h
  simp only[ybA,ybB]at h
  obtain⟨⟨t,s1⟩,h1,⟨l',s2⟩,h2,h3⟩:=h
  cases h3
  exact yai (zqA h2) (zL h1)
def zab(l:List F):Nat:=(l.map fun f=>f.params.length).sum
theorem znU(l:List F)(n:Nat):zab (l.drop n)≤zab l:=by
 have:zab (l.take n)+zab (l.drop n)=zab l:=by
  simp only[zab]
  rw[←List.sum_append,←ycI,ydl]
 omega
theorem zjy{l:List F}{f:F}(h:f∈l):f.params.length≤zab l:=by
 induction l with
 | nil=>cases h
 | cons a l ih =>
  simp only[zab,yaL,yck]at *
  rcases ybC.1 h with rfl|h
  ·omega
  ·have:=ih h;omega
theorem zps{s s':Rs}{l:List F}(h:zda s=some (l,s')):s'.b.length+l.length+zab l≤s.b.length:=by
 unfold zda at h
 simp only[ybA]at h
 obtain⟨s1,h1,⟨n,s2⟩,h2,⟨hs,s3⟩,h3,h4⟩:=h
 split at h4
 ·cases h4
  have a:=zkP h3
  have b:=znU hs 3
  have c:=zL h2
  have d:=zal h1
  have e:(hs.drop 3).length≤hs.length:=by simp
  simp only[zab]at *
  omega
 ·cases h4
theorem zf3{s s':Rs}{hs:List F}{mem mn:Int}(h:zje s=some ((hs,mem,mn),s')):s'.b.length+hs.length+zab hs≤s.b.length:=by
 unfold zje at h
 simp only[ybA,ybB]at h
 obtain⟨s1,h1,⟨hs',s2⟩,h2,s3,h3,s4,h4,s5,h5,s6,h6,s7,h7,s8,h8,⟨n9,s9⟩,h9,⟨l10,s10⟩,h10,s11,h11,s12,h12,s13,h13,s14,h14,⟨mem',s15⟩,h15,s16,h16,s17,h17,s18,h18,⟨mn',s19⟩,h19,h20⟩:=h
 cases h20
 have a1:=zbl h1
 have a2:=zps h2
 have a3:=zal h3
 have a4:=zbl h4
 have a5:=zbl h5
 have a6:=zbl h6
 have a7:=zbl h7
 have a8:=zal h8
 have a9:=zL h9
 have a10:=zqA h10
 have a11:=zal h11
 have a12:=zbl h12
 have a13:=zal h13
 have a14:=zbl h14
 have a15:=zL h15
 have a16:=zbl h16
 have a17:=zal h17
 have a18:=zbl h18
 have a19:=zL h19
 simp only at *
 omega
theorem zjz:∀(fs:List F),((fs.map fun f=>zd1 f.params f.type).flatten).length≤32*fs.length+zab fs
 | []=>by simp
 | f::fs=>by
  have ih:=zjz fs
  have h1:=zff f.params
  have h2:=zhJ f.type
  simp only[yaL,yc4,yab,yac,zab,yck,zd1]at *
  omega
theorem zkQ:∀(fs:List F) (i:Int),(zcf i fs).flatten.length≤10*fs.length
 | [],_=>by simp[zcf]
 | f::fs,i=>by
  have:=zkQ fs (i+1)
  have:=zay i
  simp only[zcf,yc4,yab,yac]
  omega
theorem zdn{fs fs':List F}(h:fs'.map zch=fs.map zch):zab fs'=zab fs:=by
 have:∀l:List F,zab l=((l.map zch).map fun f=>f.params.length).sum:=fun l=>by simp only[zab,List.map_map];rfl
 rw[this,this,h]
theorem zdc:∀{st:Bool} {hs fs:List F} {s s':Rs},zF st hs s=some (fs,s')→zab fs=zab hs
 | st,[],fs,s,s',h=>by cases h;rfl
 | st,f::hs,fs,s,s',h=>by
  rw[zF]at h
  simp only[ybA,ybB]at h
  obtain⟨⟨f',s1⟩,h1,⟨fs',s2⟩,h2,h3⟩:=h
  cases h3
  have e:f'.params=f.params:=by
   unfold z9 at h1
   simp only[ybA,ybB]at h1
   obtain⟨_,_,_,_,_,_,_,_,h5⟩:=h1
   cases h5
   rfl
  simp only[zab,yaL,yck,e]
  have:=zdc h2
  simp only[zab]at this
  omega
theorem zjA{b:List UInt8}{m:M}{s':Rs}(h:zb4 ⟨b,[],0⟩=some (m,s'))(hb:b.length≤2^29):(∀f∈m.funcs,SzB f)∧m.funcs.length≤2^30∧(-(2^63)≤m.memory∧m.memory<2^63)∧∃y,zto m=some y∧y.length≤2^36:=by
 unfold zb4 at h
 simp only[ybA,ybB]at h
 obtain⟨⟨⟨hs,mem,mn⟩,s1⟩,h3,⟨fs,s2⟩,h4,h5⟩:=h
 simp only[Prod.mk.injEq]at h5
 obtain⟨rfl,rfl⟩:=h5
 obtain⟨a1,a2,a3,a4⟩:=zf1 h3
 have a5:=zf3 h3
 obtain⟨b1,b2⟩:=zhn h4 fun f hf=>(a1 f hf).1
 have b2:=b2 a4
 unfold zmj at h4
 simp only[ybA]at h4
 obtain⟨s4,h6,⟨c,s5⟩,h7,h8⟩:=h4
 split at h8
 ·simp only[ybA]at h8
  obtain⟨⟨fs1,s6⟩,h9,s7,h10,s8,h11,⟨xx,s9⟩,h12,⟨y,s10⟩,h13,h14⟩:=h8
  split at h14
  ·obtain⟨⟨cs,c1,c2⟩,c3⟩:=zcW h9 fun f hf=>(a1 f hf).1
   have cl:=(zav h9 fun f hf=>(a1 f hf).1).2.2.2
   obtain⟨d1,d2,d3⟩:=zjx h14
   have hnn:=zcS h14
   have l1:=zal h6
   have l2:=zL h7
   have l3:=zal h10
   have l4:=zbl h11
   have l5:=zL h12
   have l6:=zL h13
   have hmn:=zf0 hnn
   have hpn:=zdn hnn
   have hpf:=zdc h9
   simp only at *
   have hs6:s6.b.length≤s5.b.length:=by
    have:∀{hs fs:List F} {s s':Rs},zF false hs s=some (fs,s')→s'.b.length≤s.b.length:=by
     intro hs
     induction hs with
     | nil=>intro fs s s' h;cases h;exact yah _
     | cons f hs ih =>
      intro fs s s' h
      rw[zF]at h
      simp only[ybA,ybB]at h
      obtain⟨⟨f',s1⟩,h1,⟨fs',s2⟩,h2,h3⟩:=h
      cases h3
      exact yai (ih h2) (zd8 h1)
    exact this h9
   refine⟨fun f hf=>?_,by omega,a2,?_⟩
   ·obtain⟨g,hg,e⟩:=zfi hnn hf
    have e1:g.params=f.params:=by have:=congrArg F.params e;exact this
    have e3:g.lists=f.lists:=by have:=congrArg F.lists e;exact this
    obtain⟨q1,q2,q3⟩:=c3 g hg
    rw[e3]at q1 q2 q3
    have hp:=zjy hg
    rw[e1]at hp
    have hlo:f.locals.length≤zdk fs:=by
     have:∀{l:List F},f∈l→f.locals.length≤zdk l:=by
      intro l h
      induction l with
      | nil=>cases h
      | cons a l ih =>
       simp only[zdk,yaL,yck]at *
       rcases ybC.1 h with rfl|h
       ·omega
       ·have:=ih h;omega
     exact this hf
    have hna:=d2 f hf
    exact⟨by omega,by omega,by omega,fun ws hw=>by have:=q2 ws hw;omega,by omega,q3⟩
   ·have hcc:zce fs=some cs:=by rw[zgJ hnn];exact c1
    refine⟨_,by unfold zto;simp only;rw[hcc];rfl,?_⟩
    have u1:=zjz fs
    have u2:=zkQ fs 3
    have u3:=d1 3
    have u4:(zat fs).flatten.length≤120+(32*fs.length+zab fs):=by
     have e1:(zat fs).flatten=zd1 [] 2++(zd1 [2] 0++(zd1 [1] 0++(fs.map fun f=>zd1 f.params f.type).flatten)):=by simp[zat]
     have e2:(zd1 [] 2).length≤40:=by decide
     have e3:(zd1 [2] 0).length≤40:=by decide
     have e4:(zd1 [1] 0).length≤40:=by decide
     rw[e1]
     simp only[yab]
     omega
    have u5:(zbO zak).length≤40:=by decide
    have s1':=zeU 1 (zbO (zat fs))
    have s2':=zeU 2 (zbO zak)
    have s3':=zeU 3 (zbO (zcf 3 fs))
    have s5':=zeU 5 [1,0,1]
    have s6':=zeU 6 ([1,127,0,65]++sI mem++[11])
    have s7':=zeU 7 ([1]++zx [109,97,105,110]++[0]++uI (zhi { funcs:=fs,memory:=mem,main:=yb4 .i64 (mn-3) }))
    have s10':=zeU 10 (zbO cs)
    have s0':=zeU 0 (zx [110,97,109,101]++[1]++zx (zbO (zap 3 fs)))
    have v1:=zeV (zbO (zap 3 fs))
    have v2:=ztg mem
    have v3:=zay (zhi { funcs:=fs,memory:=mem,main:=yb4 .i64 (mn-3) })
    have v4:(zx [109,97,105,110]).length=5:=by decide
    have v5:(zx [110,97,109,101]).length=5:=by decide
    have w1:(zbO (zat fs)).length≤10+(zat fs).flatten.length:=by have:=zay (zat fs).length;simp only[zbO,yab];omega
    have w3:(zbO (zcf 3 fs)).length≤10+(zcf 3 fs).flatten.length:=by have:=zay (zcf 3 fs).length;simp only[zbO,yab];omega
    have w10:(zbO cs).length≤10+cs.flatten.length:=by have:=zay cs.length;simp only[zbO,yab];omega
    have w0:(zbO (zap 3 fs)).length≤10+(zap 3 fs).flatten.length:=by have:=zay (zap 3 fs).length;simp only[zbO,yab];omega
    have hmg:zhK.length=8:=rfl
    simp only[yab,yac,ybl]at *
    omega
  ·cases h14
 ·cases h8
theorem zrJ{st:Bool}{c:UInt8}{s s':Rs}{w:W}(h:zgA st c s=some (w,s')):zpm w=true:=by
 unfold zgA at h
 cases hf:zb2 zf8 c with
 | some w0 =>
  rw[hf]at h
  simp only[ybB]at h
  obtain⟨⟨n,s1⟩,hn,he⟩:=h
  cases he
  obtain⟨_,_,_,n1,n2,_⟩:=zu hn
  have:∀p∈zf8,∃q∈zdy,q.2=p.2:=by decide
  exact ztC (this _ (zdG hf)) ⟨n1,n2⟩
 | none =>
  rw[hf]at h
  simp only at h
  cases hp:zb2 zag c with
  | some w0 =>
   rw[hp]at h
   simp only at h
   have hz:∀p∈zag,zpm p.2=true:=by decide
   have hm:=hz _ (zdG hp)
   split at h
   ·rw[ybB]at h
    obtain⟨_,_,he⟩:=h
    cases he
    exact hm
   ·cases h
    exact hm
  | none =>
   rw[hp]at h
   simp only[ybB]at h
   obtain⟨w0,hn,he⟩:=h
   cases he
   have hm:(c,w)∈zmk:=by
    have:=zjg ⟨c.toNat,c.toNat_lt⟩ w (by simpa using hn)
    simpa using this
   have hz:∀p∈zmk,zpm p.2=true:=by decide
   exact hz _ hm
def zcX(ls:To):Nat:=(ls.map yce).sum
theorem zfq(a:To)(l:List W):zcX (a++[l])=zcX a+l.length:=by simp[zcX]
theorem zfr{fin:To}{st:Bool}:∀(k d:Nat) (l:List W) (s:Rs) (n:Int) (e:UInt8) (s':Rs),zX st k d l s=some ((n,e),s')→s'.ls<+:fin→∃out toks acc',s'.ls=acc'++[l++out]∧n=acc'.length∧Pr fin d out s.ls toks out acc'∧zcX s'.ls+s'.b.length≤zcX s.ls+l.length+s.b.length
 | 0,d,l,s,n,e,s',h,_=>by cases h
 | k+1,d,l,s,n,e,s',h,hp=>by
  rw[zX]at h
  simp only[ybA]at h
  obtain⟨⟨t,s1⟩,h1,h2⟩:=h
  obtain⟨f1,e1,_⟩:=zm h1
  have f1':s.b.length=s1.b.length+1:=by rw[f1];rfl
  simp only at h2
  by_cases hd:t=11∨t=5
  ·rw[if_pos hd]at h2
   cases h2
   refine⟨[],[],s1.ls,by simp,rfl,by rw[←e1];exact .nil d s1.ls,?_⟩
   simp only[zfq,e1]
   omega
  ·rw[if_neg hd]at h2
   simp only[ybA]at h2
   obtain⟨⟨w,s2⟩,h3,h4⟩:=h2
   simp only at h4
   obtain⟨out,toks,acc',q1,q2,q3,q4⟩:=zfr k d (l++[w]) s2 n e s' h4 hp
   simp only[yab,yac,ybl]at q4
   unfold zbk at h3
   by_cases h0:2≤t.toNat∧t.toNat≤4
   ·rw[if_pos h0]at h3
    by_cases h400:d<400
    ·rw[if_pos h400]at h3
     unfold zb3 at h3
     simp only[ybA]at h3
     obtain⟨⟨c0,s0⟩,g1,⟨⟨n1,t1⟩,s3⟩,h5,h6⟩:=h3
     obtain⟨f0,e0,_⟩:=zm g1
     have f0':s1.b.length=s0.b.length+1:=by rw[f0];rfl
     simp only at h6 h5
     have hpre:s2.ls<+:fin:=(znF q3).trans ((yc1 _ _).trans (q1▸hp))
     by_cases h13:t.toNat=4
     ·rw[if_pos h13]at h6
      by_cases hel:t1=5
      ·rw[if_pos hel]at h6
       rw[ybB]at h6
       obtain⟨⟨⟨n2,t2⟩,s4⟩,h7,h8⟩:=h6
       simp only[Prod.mk.injEq]at h8
       obtain⟨rfl,rfl⟩:=h8
       obtain⟨o2,u2,a2,r1,r2,r3,r4⟩:=zfr k (d+1) [] s3 n2 t2 s4 h7 hpre
       have hpre3:s3.ls<+:fin:=(znF r3).trans ((yc1 _ _).trans (r1▸hpre))
       obtain⟨o1,u1,a1,p1,p2,p3,p4⟩:=zfr k (d+1) [] s0 n1 t1 s3 h5 hpre3
       simp only[ycQ]at p1 r1
       have f1:=zd7 (p1▸hpre3)
       have f2:=zd7 (r1▸hpre)
       rw[e0,e1]at p3
       rw[p1]at r3
       rw[r1]at q3
       refine⟨zcg 13 n1 n2::out,tIf::(u1++zcB::(u2++zdp::toks)),acc',by rw[q1];simp only[yc2,ycP,ycQ],q2,?_,?_⟩
       ·have:=Pr.two (ls:=fin) (w:=zcg 13 n1 n2) rfl (by show 0≤n2;rw[r2];simp) (show d<400 by omega) (by show 0≤n1;rw[p2];simp) (by show fin[n1.toNat]?=_;rw[p2];simpa using f1) (by show fin[n2.toNat]?=_;rw[r2];simpa using f2) p3 r3 q3
        rw[←p2,←r2]at this
        exact this
       ·rw[e0,e1]at p4
        simp only[ybl]at p4 r4
        omega
      ·rw[if_neg hel]at h6
       simp only[yaR.injEq,Prod.mk.injEq]at h6
       obtain⟨rfl,rfl⟩:=h6
       obtain⟨o1,u1,a1,p1,p2,p3,p4⟩:=zfr k (d+1) [] s0 n1 t1 s3 h5 hpre
       simp only[ycQ]at p1
       have f1:=zd7 (p1▸hpre)
       rw[e0,e1]at p3
       rw[p1]at q3
       refine⟨zcg 13 n1 (-1)::out,zbz 13::(u1++zdp::toks),acc',by rw[q1];simp only[yc2,ycP,ycQ],q2,?_,?_⟩
       ·have:=Pr.one (ls:=fin) (w:=zcg 13 n1 (-1)) (.inr (.inr ⟨rfl,by show(-1:Int)<0;omega⟩)) (show d<400 by omega) (by show 0≤n1;rw[p2];simp) (by show fin[n1.toNat]?=_;rw[p2];simpa using f1) p3 q3
        rw[←p2]at this
        exact this
       ·rw[e0,e1]at p4
        simp only[ybl]at p4
        omega
     ·rw[if_neg h13]at h6
      simp only[yaR.injEq,Prod.mk.injEq]at h6
      obtain⟨rfl,rfl⟩:=h6
      obtain⟨o1,u1,a1,p1,p2,p3,p4⟩:=zfr k (d+1) [] s0 n1 t1 s3 h5 hpre
      simp only[ycQ]at p1
      have f1:=zd7 (p1▸hpre)
      rw[e0,e1]at p3
      rw[p1]at q3
      have hop:(t.toNat:Int)+9=11∨(t.toNat:Int)+9=12:=by omega
      refine⟨zcg ((t.toNat:Int)+9) n1 0::out,zbz ((t.toNat:Int)+9)::(u1++zdp::toks),acc',by rw[q1];simp only[yc2,ycP,ycQ],q2,?_,?_⟩
      ·have:=Pr.one (ls:=fin) (w:=zcg ((t.toNat:Int)+9) n1 0) (by show(t.toNat:Int)+9=11∨(t.toNat:Int)+9=12∨_;omega) (show d<400 by omega) (by show 0≤n1;rw[p2];simp) (by show fin[n1.toNat]?=_;rw[p2];simpa using f1) p3 q3
       rw[if_neg (by show ¬(t.toNat:Int)+9=13;omega),←p2]at this
       exact this
      ·rw[e0,e1]at p4
       simp only[ybl]at p4
       omega
    ·rw[if_neg h400]at h3;cases h3
   ·rw[if_neg h0]at h3
    have g1:=zrJ h3
    obtain⟨⟨xx,g3⟩,g2,_⟩:=zbw h3
    have g4:=zaO g3
    obtain⟨b1,b2,b3,b4⟩:=ztB g1
    refine⟨w::out,zgE w++toks,acc',by rw[q1];simp,q2,?_,?_⟩
    ·rw[g2,e1]at q3
     have:=Pr.leaf b2 b1 b4 q3
     rw[b3]at this
     exact this
    ·rw[g2,e1]at q4
     omega
end Go.Proofs.YtohfclafhegadaaGreatDoor
set_option maxRecDepth 100000
namespace Go.Proofs.YtohfclafhegadaaGreatDoor.Hd
open Go Go.Abs Go.Proofs.YtohfclafhegadaaGreatDoor
theorem fok:zwx zbY zc0 176:=⟨by decide,by decide,by decide,by decide,by decide,⟨_,_,rfl,by decide⟩,by decide,by decide,by decide⟩
theorem fields_calls{G:Env}{σ:AS}{R:Out→AS→Prop}(v3:G.g 0=.pv (.stat true) (.agg zfA))(h:∀x σ',zd σ σ'→σ.no≤x→x<σ'.no→σ'.objs x=some (zc0.map yco)→R (.ret (.slm x 0 1 47)) σ'):zzQ G 57 [.str zbY] σ R:=zhh fok v3 h
end Go.Proofs.YtohfclafhegadaaGreatDoor.Hd
namespace Go.Proofs.YtohfclafhegadaaGreatDoor
open Go Go.Abs
def inS(l:List UInt8)(c:UInt8):Bool:=l.contains c
def zwP:List AV:=List.replicate 256 (.bool false)
theorem zd9:zwP.length=256:=List.length_replicate ..
theorem zwQ{i:Nat}(h:i<256):zwP[i]?=some (.bool false):=by
 unfold zwP
 rw[List.getElem?_replicate,if_pos h]
theorem zBJ:zP yb9 151=some (.agg zwP):=by kernel_rfl
attribute [simp] zBJ
def zgK:List UInt8→List AV→List AV
 | [],cs=>cs
 | c::r,cs=>zgK r (splice cs c.toNat [.bool true])
def zkR(l:List UInt8):List AV:=zgK l zwP
theorem zkS:∀(l:List UInt8) (cs:List AV),cs.length=256→(zgK l cs).length=256
 | [],cs,h=>h
 | c::r,cs,h=>by
  have:=c.toNat_lt
  rw[zgK]
  refine zkS r _ ?_
  simp only[splice,yab,ybf,yac,ybl,ycj]
  omega
theorem zfs(l:List UInt8):(zkR l).length=256:=zkS l _ zd9
theorem zpt{cs:List AV}{i j:Nat}{v:AV}(hi:i<cs.length):(splice cs i [v])[j]?=if j=i then some v else cs[j]?:=by
 unfold splice
 by_cases h:j<i
 ·rw[yc2,List.getElem?_append_left (by simp;omega),List.getElem?_take_of_lt h,if_neg (by omega)]
 ·by_cases h2:j=i
  ·subst h2
   rw[yc2,yaI (by simp;omega)]
   have:j-(cs.take j).length=0:=by simp;omega
   rw[this];simp
  ·rw[yaI (by simp;omega),if_neg h2,List.getElem?_drop]
   congr 1
   simp;omega
theorem zkT:∀(l:List UInt8) (cs:List AV) (b:UInt8),cs.length=256→(zgK l cs)[b.toNat]?=if l.contains b=true then some (.bool true)else cs[b.toNat]?
 | [],cs,b,h=>by simp[zgK]
 | c::r,cs,b,h=>by
  have hc:=c.toNat_lt
  rw[zgK,zkT r _ b (by simp only[splice,yab,ybf,yac,ybl,ycj];omega),zpt (by omega)]
  by_cases h1:r.contains b=true
  ·simp[h1]
   simp at h1
   simp[h1]
  ·by_cases h2:b=c
   ·subst h2;simp
   ·have:¬b.toNat=c.toNat:=fun e=>h2 (UInt8.toNat_inj.1 e)
    simp at h1
    simp[h1,h2,this]
theorem zwR(l:List UInt8)(b:UInt8):(zkR l)[b.toNat]?=some (.bool (inS l b)):=by
 have:=b.toNat_lt
 rw[zkR,zkT l _ b zd9,zwQ this]
 unfold inS
 cases l.contains b<;>rfl
theorem zkU{cs:List AV}{i:Nat}{v:AV}(h:∀x∈cs,x.one=true)(hv:v.one=true):∀x∈splice cs i [v],x.one=true:=by
 intro x hx
 unfold splice at hx
 simp only[ybh,ycD]at hx
 rcases hx with (hx|hx)|hx
 ·exact h x (List.mem_of_mem_take hx)
 ·rw[hx];exact hv
 ·exact h x (List.mem_of_mem_drop hx)
theorem zkV:∀(l:List UInt8) (cs:List AV),(∀x∈cs,x.one=true)→∀x∈zgK l cs,x.one=true
 | [],_,h=>h
 | c::r,cs,h=>zkV r _ (zkU h rfl)
theorem zms(l:List UInt8):∀x∈zkR l,x.one=true:=zkV l _ fun x hx=>by rw[(yc5.1 hx).2];rfl
theorem zjB:List.drop 256 zwP=[]:=List.drop_eq_nil_of_le (by rw[zd9];exact yah _)
section
variable {G : Env} {σ : AS} {R : Out → AS → Prop}
def AsI(l:List UInt8)(σ:AS)(a:Nat→AV)(τ:AS):Prop:=∃(d r:List UInt8),l=d++r∧a 0=.str l∧a 2=.ptr σ.no 0∧a 4=.int .i64 (d.length:Int)∧zd σ τ∧σ.no<τ.no∧∃cs,cs.length=256∧(∀x∈cs,x.one=true)∧τ.objs σ.no=some cs∧zgK r cs=zkR l
theorem zea{l:List UInt8}(hl:∀c∈l,c.toNat<128)(hL:l.length≤1000)(h:∀σ',zd σ σ'→R (.ret (.tuple [.agg (zkR l),.bool true])) σ'):zzQ G 122 [.str l] σ R:=by
 refine zvr rfl ?_
 simp[zEA]
 refine zH (AsI l σ) (MU 4 (l.length+1)) ⟨[],l,rfl,by simp,by simp,by simp,(zd.refl σ).newO,by simp,zwP,zd9,fun x hx=>by rw[(yc5.1 hx).2];rfl,by simp,rfl⟩ fun a τ hI=>?_
 obtain⟨d,r,hlr,a0,a2,a4,hA,hno,cs,hcs,hone,ho,he⟩:=hI
 cases r with
 | nil =>
  have hd:d=l:=by simp[hlr]
  subst hd
  have hlt:¬((d.length:Int)<(d.length:Int)):=by omega
  have e1:cs=zkR d:=he
  subst e1
  have ht:ycJ 256 (zkR d)=zkR d:=ycE (by rw[hcs];exact yah _)
  simp[zlQ,zp3,a0,a2,a4,hlt,ho,hcs,splice,ht]
  exact⟨hone,h _ (hA.setO (yah _))⟩
 | cons c r =>
  have hc:=hl c (by simp[hlr])
  have hlt:(d.length:Int)<(l.length:Int):=by simp[hlr];omega
  have hi:l[d.length]?=some c:=by simp[hlr]
  have hc2:¬(128:Int)≤(c.toNat:Int):=by omega
  have w1:yb4 .i64 ((d.length:Int)+1)=((d.length+1:Nat):Int):=by rw[zc]<;>omega
  simp[zlQ,a0,a2,a4,hlt,ho,hcs,hi,hc2,w1]
  refine⟨by omega,by omega,⟨d++[c],r,by simp[hlr],by simp[a0],by simp[a2],by simp,hA.setO (yah _),by simpa using hno,_,?_,zkU hone rfl,by simp,he⟩,?_⟩
  ·simp only[splice,yab,ybf,yac,ybl,ycj]
   omega
  ·simp[MU,a4];omega
theorem zjC{l:List UInt8}{o:Nat}{b:UInt8}(ho:σ.objs o=some (zkR l))(h:R (.ret (.bool (inS l b))) σ):zzQ G 172 [.ptr o 0,.int .u8 (b.toNat:Int)] σ R:=by
 refine zvW rfl ?_
 have hb:=b.toNat_lt
 have hb':(b.toNat:Int)<256:=by omega
 have hp:=zwR l b
 simp[zET,ho,hb',hp]
 simpa using h
def TlI(l s:List UInt8)(o:Nat)(σ:AS)(a:Nat→AV)(τ:AS):Prop:=∃r:List UInt8,r.dropWhile (inS l)=s.dropWhile (inS l)∧a 0=.str r∧a 1=.ptr o 0∧τ=σ
def zKh(a:Nat→AV)(_:AS):Nat:=match a 0 with
 | .str r=>r.length
 | _=>0
theorem zhO{l s:List UInt8}{o:Nat}(ho:σ.objs o=some (zkR l))(h:R (.ret (.str (s.dropWhile (inS l)))) σ):zzQ G 123 [.str s,.ptr o 0] σ R:=by
 refine zvs rfl ?_
 simp[zEB]
 refine zH (TlI l s o σ) zKh ⟨s,rfl,by simp,by simp,rfl⟩ fun a τ hI=>?_
 obtain⟨r,hr,a0,a1,rfl⟩:=hI
 cases r with
 | nil =>
  simp[zlR,zlS,a0,a1]
  rw[←hr]at h
  exact h
 | cons c r =>
  simp[zlR,zlS,a0,a1]
  refine zjC ho ?_
  rw[yc8]at hr
  cases hc:inS l c with
  | true =>
   rw[if_pos hc]at hr
   simp[hc,a0,a1]
   exact⟨by omega,⟨r,hr,by simp,by simp[a1],rfl⟩,by simp[zKh,a0]⟩
  | false =>
   rw[if_neg (by simp[hc])]at hr
   rw[←hr]at h
   simp[hc,a0,a1]
   exact h
theorem zpu{l s:List UInt8}(hl:∀c∈l,c.toNat<128)(h2:2≤l.length)(hL:l.length≤1000)(h:∀σ',zd σ σ'→R (.ret (.str (s.dropWhile (inS l)))) σ'):zzQ G 167 [.str s,.str l] σ R:=by
 refine zvP rfl ?_
 have hne:¬l=[]:=by intro e;rw[e]at h2;simp at h2
 have h1:¬(l.length:Int)=1:=by omega
 cases s with
 | nil =>
  simp[zBg]
  exact h _ (.refl _)
 | cons c s =>
  simp[zBg,hne,h1]
  refine zea hl hL fun σ1 A1=>?_
  have ht:ycJ 256 (zkR l)=zkR l:=ycE (by rw[zfs];exact yah _)
  have hl6:=zfs l
  simp[hl6,splice,ht,zd9,zjB]
  refine⟨zms l,zhO (l:=l) (by simp) ?_⟩
  simp
  exact h _ (A1.newO.setO A1.no)
def zh4(p:UInt8→Bool)(s:List UInt8):List UInt8:=(s.reverse.dropWhile p).reverse
theorem zrK(p:UInt8→Bool)(s:List UInt8)(c:UInt8):zh4 p (s++[c])=if p c=true then zh4 p s else s++[c]:=by
 unfold zh4
 rw[List.reverse_append]
 simp only[List.reverse_cons,List.reverse_nil,ycQ,ydj,yc8]
 split<;>simp
def TrI(l s:List UInt8)(o:Nat)(σ:AS)(a:Nat→AV)(τ:AS):Prop:=∃r:List UInt8,r.length≤s.length∧zh4 (inS l) r=zh4 (inS l) s∧a 0=.str r∧a 1=.ptr o 0∧τ=σ
theorem znV{l s:List UInt8}{o:Nat}(hs:s.length<2^62)(ho:σ.objs o=some (zkR l))(h:R (.ret (.str (zh4 (inS l) s))) σ):zzQ G 124 [.str s,.ptr o 0] σ R:=by
 refine zvt rfl ?_
 simp[zEC]
 refine zH (TrI l s o σ) zKh ⟨s,yah _,rfl,by simp,by simp,rfl⟩ fun a τ hI=>?_
 obtain⟨r,hrl,hr,a0,a1,rfl⟩:=hI
 rcases ybL r with rfl|⟨r',c,rfl⟩
 ·simp[zlT,zlU,a0,a1]
  rw[←hr]at h
  exact h
 ·rw[ydm]at *
  have w1:yb4 .i64 (r'.length:Int)=(r'.length:Int):=by rw[zc]<;>simp at hrl<;>omega
  have hlt:(0:Int)<(r'.length:Int)+1:=by omega
  simp[zlT,zlU,a0,a1,w1,hlt]
  refine zjC ho ?_
  rw[zrK]at hr
  cases hc:inS l c with
  | true =>
   rw[if_pos hc]at hr
   simp[hc,a0,a1,w1]
   exact⟨by omega,⟨r',by simp at hrl;omega,hr,by simp,by simp[a1],rfl⟩,by simp[zKh,a0]⟩
  | false =>
   rw[if_neg (by simp[hc])]at hr
   rw[←hr]at h
   simp[hc,a0,a1]
   exact h
def znW(l s:List UInt8):List UInt8:=(zh4 (inS l) s).dropWhile (inS l)
theorem zeZ{p:UInt8→Bool}:∀{s:List UInt8},s.dropWhile p=[]↔s.all p=true
 | []=>by simp
 | c::r=>by
  rw[yc8]
  cases h:p c with
  | true=>simp only[if_true,yca,h,Bool.true_and];exact zeZ
  | false=>simp[h]
theorem zdK(l s:List UInt8):znW l s=[]↔s.all (inS l)=true:=by
 unfold znW
 rw[zeZ]
 constructor
 ·intro h
  have hd:∀c∈zh4 (inS l) s,inS l c=true:=yaM.1 h
  rcases ybL (zh4 (inS l) s)with e|⟨d,x,e⟩
  ·unfold zh4 at e
   rw[List.reverse_eq_nil_iff,zeZ]at e
   rw[yaM]at e ⊢
   exact fun c hc=>e c (by simpa using hc)
  ·rw[ydm]at e
   have hx:inS l x=true:=hd x (by rw[e];simp)
   have e2:s.reverse.dropWhile (inS l)=x::d.reverse:=by
    have:=congrArg List.reverse e
    unfold zh4 at this
    simpa using this
   have:=ydn (inS l) s.reverse
   rw[e2]at this
   simp at this hx
   rw[this]at hx;cases hx
 ·intro h
  rw[yaM]at h ⊢
  intro c hc
  unfold zh4 at hc
  rw[List.mem_reverse]at hc
  exact h c (by have:=(List.dropWhile_sublist _).mem hc;simpa using this)
theorem zhp{l s:List UInt8}(hl:∀c∈l,c.toNat<128)(h2:2≤l.length)(hL:l.length≤1000)(hs:s.length<2^62)(h:∀σ',zd σ σ'→R (.ret (.str (znW l s))) σ'):zzQ G 62 [.str s,.str l] σ R:=by
 refine zAO rfl ?_
 have hne:¬l=[]:=by intro e;rw[e]at h2;simp at h2
 have h1:¬(l.length:Int)=1:=by omega
 cases s with
 | nil =>
  simp[zLc]
  exact h _ (.refl _)
 | cons c s =>
  simp[zLc,hne,h1]
  refine zea hl hL fun σ1 A1=>?_
  have ht:ycJ 256 (zkR l)=zkR l:=ycE (by rw[zfs];exact yah _)
  have hl6:=zfs l
  simp[hl6,splice,ht,zd9,zjB]
  refine⟨zms l,znV (l:=l) hs (by simp) ?_⟩
  simp
  refine zhO (l:=l) (by simp) ?_
  simp
  exact h _ (A1.newO.setO A1.no)
def zmB(l s:List UInt8):Int:=match s.findIdx? (inS l)with
 | some i=>i
 | none=>-1
def IaI(l s:List UInt8)(σ:AS)(σ1:AS)(a:Nat→AV)(τ:AS):Prop:=∃(d r:List UInt8),s=d++r∧(∀c∈d,inS l c=false)∧a 0=.str s∧a 6=.ptr σ1.no 0∧a 8=.int .i64 (d.length:Int)∧τ=(σ1.newO zwP).setO σ1.no (zkR l)
theorem zBK{l d r:List UInt8}{c:UInt8}(hd:∀c∈d,inS l c=false)(hc:inS l c=true):zmB l (d++c::r)=d.length:=by
 unfold zmB
 rw[List.findIdx?_append,ydk.2 hd]
 simp[ydf,hc]
theorem ztN{l s:List UInt8}(h:∀c∈s,inS l c=false):zmB l s=-1:=by
 unfold zmB
 rw[ydk.2 h]
theorem zjD{l s:List UInt8}(hl:∀c∈l,c.toNat<128)(h2:2≤l.length)(hL:l.length≤1000)(h8:8<s.length)(hs:s.length<2^62)(h:∀σ',zd σ σ'→R (.ret (.int .i64 (zmB l s))) σ'):zzQ G 168 [.str s,.str l] σ R:=by
 refine zvT rfl ?_
 have hne:¬l=[]:=by intro e;rw[e]at h2;simp at h2
 have h1:¬(l.length:Int)=1:=by omega
 have h8':(8:Int)<(s.length:Int):=by omega
 simp[zEQ,hne,h1]
 refine zv8 rfl ?_
 simp[zEY,h8']
 refine zea hl hL fun σ1 A1=>?_
 have ht:ycJ 256 (zkR l)=zkR l:=ycE (by rw[zfs];exact yah _)
 have hl6:=zfs l
 simp[hl6,splice,ht,zd9,zjB]
 refine⟨zms l,?_⟩
 have A2:zd σ ((σ1.newO zwP).setO σ1.no (zkR l)):=A1.newO.setO A1.no
 refine zH (IaI l s σ σ1) (MU 8 (s.length+1)) ⟨[],s,rfl,by simp,by simp,by simp,by simp,rfl⟩ fun a τ hI=>?_
 obtain⟨d,r,hsr,hd,a0,a6,a8,rfl⟩:=hI
 cases r with
 | nil =>
  have e:d=s:=by simp[hsr]
  subst e
  simp[zl2,zqa,a0,a6,a8]
  rw[←ztN hd]
  exact h _ A2
 | cons c r =>
  have hlt:(d.length:Int)<(s.length:Int):=by simp[hsr];omega
  have hi:s[d.length]?=some c:=by simp[hsr]
  have w1:yb4 .i64 ((d.length:Int)+1)=((d.length+1:Nat):Int):=by rw[zc]<;>omega
  simp[zl2,a0,a6,a8,hlt,hi]
  refine zjC (l:=l) (by simp) ?_
  cases hc:inS l c with
  | true =>
   simp[hc,a0,a6,a8]
   have:=zBK (r:=r) hd hc
   rw[hsr]at h
   rw[←this]
   exact h _ A2
  | false =>
   simp[hc,a0,a6,a8,w1]
   refine⟨⟨d++[c],r,by simp[hsr],?_,by simp[a0],by simp[a6],by simp,rfl⟩,?_⟩
   ·intro x hx
    rcases ybh.1 hx with hx|hx
    ·exact hd x hx
    ·simp at hx;subst hx;exact hc
   ·simp[MU,a8];omega
end
structure zc2(G:Env):Prop where
 pow:G.fix 9=some (Lib.pow10Tab.map fun z=>Value.int .u64 z).toArray
 errR:∃t v,G.g 6=.pv (.stat true) (.iface t v)
 space:G.g 0=.pv (.stat true) (.agg zfA)
section
variable {G : Env} {σ : AS} {R : Out → AS → Prop}
theorem zhP{s p:List UInt8}(h:R (.ret (.bool (decide (p.length≤s.length∧s.take p.length=p)))) σ):zzQ G 199 [.str s,.str p] σ R:=by
 refine zv7 rfl ?_
 by_cases hl:p.length≤s.length
 ·have hl':(p.length:Int)≤(s.length:Int):=by omega
  simp[zBh,hl']
  simpa [hl]using h
 ·have hl':¬(p.length:Int)≤(s.length:Int):=by omega
  simp[zBh,hl']
  simpa [hl]using h
def zkg(p s:List UInt8):Bool:=decide (p.length≤s.length∧s.take p.length=p)
theorem zjE(c:UInt8)(s:List UInt8):zkg [c] s=decide (s.head?=some c):=by
 cases s with
 | nil=>simp[zkg]
 | cons d s=>simp[zkg,eq_comm]
theorem zhQ{s p:List UInt8}(h:R (.ret (.tuple [.str (if zkg p s=true then s.drop p.length else s),.bool (zkg p s)])) σ):zzQ G 116 [.str s,.str p] σ R:=by
 refine zvm rfl ?_
 simp[zEx]
 refine zvU rfl ?_
 simp[zER]
 refine zhP ?_
 rw[show decide (p.length≤s.length∧s.take p.length=p)=zkg p s from rfl]
 cases hp:zkg p s with
 | false =>
  rw[hp]at h
  simp
  simpa using h
 | true =>
  rw[hp]at h
  have hl:p.length≤s.length:=(of_decide_eq_true hp).1
  simp
  exact⟨by omega,by simpa using h⟩
theorem zmt{s p:List UInt8}(h:R (.ret (.str (if zkg p s=true then s.drop p.length else s))) σ):zzQ G 113 [.str s,.str p] σ R:=by
 refine zvk rfl ?_
 simp[zEv]
 refine zvO rfl ?_
 simp[zEP]
 refine zhP ?_
 rw[show decide (p.length≤s.length∧s.take p.length=p)=zkg p s from rfl]
 cases hp:zkg p s with
 | false =>
  rw[hp]at h
  simp
  simpa using h
 | true =>
  rw[hp]at h
  have hl:p.length≤s.length:=(of_decide_eq_true hp).1
  simp
  exact⟨by omega,by simpa using h⟩
theorem zBL{M:Mp}{F:Nat→FSt}{w:World}{v:AV}{cargs:Array Value}(hc:Cells M F w [v] cargs):∃c,cargs=#[c]∧VR M F w v c:=by
 obtain⟨c0,e0,v0⟩:=hc.2 0 _ rfl
 refine⟨c0,?_,v0⟩
 have hsz:cargs.size=1:=hc.1
 apply Array.ext
 ·simpa using hsz
 ·intro i h1 h2
  match i,h1 with
  | 0,_=>simpa using (yaU.1 e0).2
  | i+1,h=>omega
theorem zHa{M:Mp}{F:Nat→FSt}{w:World}{v u:AV}{cargs:Array Value}(hc:Cells M F w [v,u] cargs):∃c d,cargs=#[c,d]∧VR M F w v c∧VR M F w u d:=by
 obtain⟨c0,e0,v0⟩:=hc.2 0 _ rfl
 obtain⟨c1,e1,v1⟩:=hc.2 1 _ rfl
 refine⟨c0,c1,?_,v0,v1⟩
 have hsz:cargs.size=2:=hc.1
 apply Array.ext
 ·simpa using hsz
 ·intro i h1 h2
  match i,h1 with
  | 0,_=>simpa using (yaU.1 e0).2
  | 1,_=>simpa using (yaU.1 e1).2
  | i+2,h=>omega
theorem zft(V:zc2 G){n:Int}(hn:-(2^63)≤n∧n<2^63)(h:R (.ret (.str (Lib.itoa n))) σ):zzQ G 64 [.int .i64 n] σ R:=by
 refine ACalls.of_below fun M w cargs S g hc=>?_
 obtain⟨c,rfl,hv⟩:=zBL hc
 rw[hv.int_inv]
 obtain⟨_,t,fr,hh⟩:=g.fixed 9 _ V.pow
 have hn9 : Tryz.prog.globalNamed "internal/strconv.uint64pow10" = some 9 := by kernel_rfl
 have htab : Lib.TabIs Tryz.prog w "internal/strconv.uint64pow10" .u64 Lib.pow10Tab := by simp [Lib.TabIs, World.var?, hn9, hh]
 refine(Tryz.strconv_Itoa n (by omega) (by omega) w htab).mono fun e w' ⟨he,k,os,hw'⟩=>?_
 subst he hw'
 exact⟨⟨.str (Lib.itoa n),_,rfl,fun M F w=>VR.str' rfl,h⟩,Lib.below_grow _ w (yah _) k os⟩
theorem zrL(V:zc2 G){t:List UInt8}(h0:zbQ t≠[])(h1:(zbQ t).all zQ=true)(hl:t.length<2^40)
  (hs:∀n,Lib.atoiAll t=.ok n→R (.ret (.tuple [.int .i64 n,.nilif])) σ) (hr:Lib.atoiAll t=.range→∀k,R (.ret (.tuple [.int .i64 k,.iface 238 .undef])) σ):zzQ G 114 [.str t] σ R:=by
 refine ACalls.of_below fun M w cargs S g hc=>?_
 obtain⟨c,rfl,hv⟩:=zBL hc
 obtain⟨b,rfl,rfl⟩:=hv.str_inv
 have hbl:b.size=b.data.toList.length:=by simp
 cases hq:Lib.atoiAll b.data.toList with
 | ok n =>
  refine(Tryz.strconv_Atoi_ok b (by omega) n hq w).mono fun e w' ⟨he,hw'⟩=>?_
  subst he
  refine⟨⟨.tuple [.int .i64 n,.nilif],_,rfl,fun M F w=>.tuple _ _ rfl fun j h h'=>?_,hs n hq⟩,?_⟩
  ·match j,h with
   | 0,_=>exact .int ..
   | 1,_=>exact .nilif
  ·rcases hw' with rfl|⟨t,rfl⟩
   ·exact RowKit.Below.refl _ _
   ·exact⟨rfl,rfl,rfl,by rw[Lib.bytesWorld_size];omega,fun k hk=>Lib.bytesWorld_at_old w 5 t k hk⟩
 | range =>
  obtain⟨te,v,he6⟩:=V.errR
  have h6:=g.vars 6
  rw[he6]at h6
  obtain⟨ev,hcell,hev⟩:∃ev,w.cell? ⟨6,0,none⟩=some ev∧(ev=.nilIface∨∃te pe,ev=.iface te pe):=by
   cases h6 with
   | pv φ v B off cs hmem hc hv =>
    have h1:=hc trivial 0 (by simp[AV.cells])
    have h2:=hv trivial 0 (by simp[AV.cells])
    simp only[AV.cells,yaz]at h2
    generalize cs 0=c at h1 h2
    cases h2
    exact⟨_,h1,.inr ⟨_,_,rfl⟩⟩
  refine(Tryz.strconv_Atoi_range b (by omega) hq ev w hcell hev).mono fun e w' ⟨N,he,_,_,hb⟩=>?_
  subst he
  refine⟨⟨.tuple [.int .i64 (Lib.atoiSat b.data.toList),.iface 238 .undef],_,rfl,fun M F w=>.tuple _ _ rfl fun j h h'=>?_,hr hq _⟩,hb⟩
  match j,h with
  | 0,_=>exact .int ..
  | 1,_=>exact .iface _ _ _ (.undef _)
 | _ =>
  rw[zoW h0 h1]at hq
  split at hq<;>cases hq
theorem zgL{s:List UInt8}{c:UInt8}(hc:c.toNat<128)(h:R (.ret (.bool (s.contains c))) σ):zzQ G 170 [.str s,.int .i32 (c.toNat:Int)] σ R:=by
 refine ACalls.of_below fun M w cargs S g hcc=>?_
 obtain⟨x,y,rfl,hv,hu⟩:=zHa hcc
 obtain⟨b,rfl,rfl⟩:=hv.str_inv
 rw[hu.int_inv]
 refine(Tryz.strings_ContainsRune_ascii b (c.toNat:Int) w (by omega) (by omega)).mono fun e w' ⟨he,hw'⟩=>?_
 subst he hw'
 refine⟨⟨.bool _,_,rfl,fun M F w=>.bool _,?_⟩,RowKit.Below.refl _ _⟩
 have e0:∀l:List UInt8,(0≤Lib.indexByte l c)↔c∈l:=fun l=>by
  induction l with
  | nil=>simp[Lib.indexByte]
  | cons x l ih =>
   have hge:=Lib.indexByte_ge l c
   by_cases hx:x=c
   ·subst hx;simp[Lib.indexByte]
   ·have hx':¬c=x:=fun e=>hx e.symm
    simp only[Lib.indexByte,beq_iff_eq,hx,if_false,ybC,hx',false_or,←ih]
    split<;>omega
 have e:decide (0≤Lib.indexByte b.data.toList ((c.toNat:Int).toNat.toUInt8))=b.data.toList.contains c:=by
  have e1:((c.toNat:Int).toNat.toUInt8)=c:=by simp
  rw[e1,Bool.eq_iff_iff]
  simp[e0]
 rw[e]
 exact h
end
def zpv(s:List UInt8):Prop:=∀t,t<:+s→8<t.length∨∀c∈t,c.toNat<128
theorem zpv.end{s t:List UInt8}(h:zpv s)(ht:t<:+s):zpv t:=fun u hu=>h u (hu.trans ht)
theorem zhR(l:List UInt8):∀s,Lib.indexAny s l=zmB l s
 | []=>rfl
 | b::s=>by
  have ih:=zhR l s
  rw[Lib.indexAny,ih]
  unfold zmB
  rw[ydf]
  cases hb:inS l b with
  | true =>
   rw[show l.contains b=true from hb]
   simp
  | false =>
   rw[show l.contains b=false from hb]
   cases s.findIdx? (inS l)with
   | none=>simp
   | some i =>
    simp
section
variable {G : Env} {σ : AS} {R : Out → AS → Prop}
theorem znX{l s:List UInt8}(hl:∀c∈l,c.toNat<128)(h2:2≤l.length)(hL:l.length≤1000)(hs:s.length<2^62)(hok:8<s.length∨∀c∈s,c.toNat<128)(h:∀σ',zd σ σ'→R (.ret (.int .i64 (zmB l s))) σ'):zzQ G 168 [.str s,.str l] σ R:=by
 by_cases h8:8<s.length
 ·exact zjD hl h2 hL h8 hs h
 ·have hs1:∀c∈s,c.toNat<128:=hok.resolve_left h8
  refine ACalls.of_below fun M w cargs S g hc=>?_
  obtain⟨x,y,rfl,hv,hu⟩:=zHa hc
  obtain⟨b,rfl,rfl⟩:=hv.str_inv
  obtain⟨b2,rfl,rfl⟩:=hu.str_inv
  have e1:b.size=b.data.toList.length:=by simp
  have e2:b2.size=b2.data.toList.length:=by simp
  have hv151:∀w,(zeroValue 151).run yb9 w=.ok (.agg (Array.replicate 256 (.bool false))) w:=fun w=>by kernel_rfl
  refine(Tryz.strings_IndexAny hv151 b b2 w (by omega) (by omega) (fun j c hj=>hs1 c (yct hj)) (fun j c hj=>hl c (yct hj))).mono fun e w' ⟨he,hb⟩=>?_
  subst he
  rw[zhR]
  exact⟨⟨.int .i64 _,_,rfl,fun M F w=>.int ..,h _ (.refl _)⟩,hb⟩
def zel:List UInt8:=[32,10]
def zf4:List UInt8:=[32,10,40,41,34]
def ze0:List UInt8:=[34,10]
theorem zcG(p:UInt8→Bool)(s:List UInt8):s.dropWhile p<:+s:=List.dropWhile_suffix p
theorem znY{l s:List UInt8}(h:0≤zmB l s):∃d c r,s=d++c::r∧(∀x∈d,inS l x=false)∧inS l c=true∧zmB l s=d.length:=by
 unfold zmB at h ⊢
 cases hf:s.findIdx? (inS l)with
 | none=>rw[hf]at h;simp at h
 | some i =>
  rw[ycL]at hf
  obtain⟨hi,hc,hd⟩:=hf
  refine⟨s.take i,s[i],s.drop (i+1),by simp,fun x hx=>?_,hc,by simp;omega⟩
  obtain⟨j,hj,rfl⟩:=ya9 hx
  simp only[List.getElem_take]
  have hj':j<i:=by simp at hj;omega
  have:=hd j hj'
  simpa using this
theorem zyg{l s:List UInt8}(h:zmB l s<0):∀x∈s,inS l x=false:=by
 unfold zmB at h
 cases hf:s.findIdx? (inS l)with
 | none=>exact ydk.1 hf
 | some i=>rw[hf]at h;simp at h;omega
theorem zhS{p:UInt8→Bool}{d r:List UInt8}{c:UInt8}(hd:∀x∈d,p x=true)(hc:p c=false):(d++c::r).takeWhile p=d∧(d++c::r).dropWhile p=c::r:=by
 induction d with
 | nil=>simp[hc]
 | cons x d ih =>
  have hx:=hd x (by simp)
  obtain⟨i1,i2⟩:=ih fun y hy=>hd y (by simp[hy])
  simp[hx,i1,i2]
theorem zhT{L t r:List UInt8}(h:L=t++r){n m:Int}(hn:n=(t.length:Int))(hm:m=(L.length:Int)):L.take n.toNat=t∧(L.take m.toNat).drop n.toNat=r:=by
 subst hn hm h
 refine⟨by simp,?_⟩
 rw[ybe,ybe,ycE (yah _),List.drop_left]
theorem zgM{s:List UInt8}(hok:zpv s)(hl:s.length<2^40)(hn:zep s=none→∀r σ',r<:+s→zd σ σ'→R (.ret (.tuple [.str [],.str r])) σ')(hs:∀t r,zep s=some (t,r)→∀σ',zd σ σ'→R (.ret (.tuple [.str t,.str r])) σ'):zzQ G 115 [.str s] σ R:=by
 refine zvl rfl ?_
 simp[zEw]
 refine zpu (l:=zel) (by decide) (by decide) (by decide) fun σ1 A1=>?_
 have hcut:zep s=match s.dropWhile (inS zel)with
  | []=>none
  | c::r=>if c=40∨c=41 then some ([c],r)else if c=34 then znh r else some (c::r.takeWhile (fun x=>!zby x),r.dropWhile fun x=>!zby x):=rfl
 have hsuf:=zcG (inS zel) s
 have hlen:=hsuf.length_le
 have hhd:∀c r,s.dropWhile (inS zel)=c::r→inS zel c=false:=fun c r e=>by
  have:=ydn (inS zel) s
  rw[e]at this
  exact this
 generalize s.dropWhile (inS zel)=s1 at *
 have hok1:=hok.end hsuf
 cases s1 with
 | nil =>
  simp
  exact hn hcut _ _ hsuf A1
 | cons c r =>
  simp only at hcut
  simp only[yac]at hlen
  have hc0:=c.toNat_lt
  have hc2:(c=40↔(c.toNat:Int)=40)∧(c=41↔(c.toNat:Int)=41)∧(c=34↔(c.toNat:Int)=34):=by
   refine⟨⟨fun e=>by rw[e];rfl,fun e=>UInt8.toNat_inj.1 (by show c.toNat=40;omega)⟩,⟨fun e=>by rw[e];rfl,fun e=>UInt8.toNat_inj.1 (by show c.toNat=41;omega)⟩,⟨fun e=>by rw[e];rfl,fun e=>UInt8.toNat_inj.1 (by show c.toNat=34;omega)⟩⟩
  by_cases h40:c=40∨c=41
  ·rw[if_pos h40]at hcut
   have hres:=hs _ _ hcut σ1 A1
   have h40':(c.toNat:Int)=40∨¬(c.toNat:Int)=40∧(c.toNat:Int)=41:=by
    rcases h40 with e|e
    ·exact .inl (hc2.1.1 e)
    ·have:=hc2.2.1.1 e
     exact .inr ⟨by omega,this⟩
   rcases h40' with e|⟨e1,e2⟩
   ·simp[e]
    exact⟨by omega,hres⟩
   ·simp[e2]
    exact⟨by omega,hres⟩
  ·rw[if_neg h40]at hcut
   have n40:¬(c.toNat:Int)=40:=fun e=>h40 (.inl (hc2.1.2 e))
   have n41:¬(c.toNat:Int)=41:=fun e=>h40 (.inr (hc2.2.1.2 e))
   by_cases h34:c=34
   ·rw[if_pos h34]at hcut
    have e34:=hc2.2.2.1 h34
    have hr:r<:+c::r:=ydo _ _
    simp[n40,n41,e34]
    refine⟨by omega,znX (l:=ze0) (by decide) (by decide) (by decide) (by omega) ((hok1.end hr) r ydp) fun σ2 A2=>?_⟩
    have A12:=A1.trans A2
    have hq:znh r=match r.dropWhile (fun c=>!zsY c)with
     | []=>none
     | x::z=>if x=34 then some (34::(r.takeWhile (fun c=>!zsY c)++[34]),z)else none:=rfl
    by_cases hi:0≤zmB ze0 r
    ·obtain⟨d,x,z,rfl,hd,hx,he⟩:=znY hi
     obtain⟨t1,t2⟩:=zhS (p:=fun c=>!zsY c) (d:=d) (r:=z) (c:=x) (fun y hy=>by have:=hd y hy;simpa [inS,ze0,zsY]using this) (by
      simp[inS,ze0,zsY]at hx ⊢
      intro q
      exact hx.resolve_left q)
     rw[hq,t2,t1]at hcut
     simp only at hcut
     have w2:yb4 .i64 ((d.length:Int)+2)=(d.length:Int)+2:=by rw[zc]<;>simp at hlen<;>omega
     have w1:yb4 .i64 ((d.length:Int)+2-1)=((d.length+1:Nat):Int):=by rw[zc]<;>simp at hlen<;>omega
     have hlt:¬(d.length:Int)+2<2:=by omega
     have hx34:x=34↔(x.toNat:Int)=34:=⟨fun e=>by rw[e];rfl,fun e=>UInt8.toNat_inj.1 (by show x.toNat=34;omega)⟩
     have hxi:(c::(d++x::z))[d.length+1]?=some x:=by simp
     by_cases hx3:x=34
     ·rw[if_pos hx3]at hcut
      have hx4:=hx34.1 hx3
      have hres:=hs _ _ hcut σ2 A12
      simp[he,w2,w1,hlt,hx4]
      refine⟨by omega,by omega,?_⟩
      obtain⟨e1,e2⟩:=zhT (L:=c::(d++x::z)) (t:=34::(d++[34])) (r:=z) (n:=(d.length:Int)+2) (m:=(d.length:Int)+((z.length:Int)+1)+1) (by rw[hx3,h34];simp) (by simp;omega) (by simp)
      rw[e1,e2]
      exact⟨by omega,by omega,by omega,hres⟩
     ·rw[if_neg hx3]at hcut
      have hx4:¬(x.toNat:Int)=34:=fun e=>hx3 (hx34.2 e)
      simp[he,w2,w1,hlt,hx4]
      exact⟨by omega,hn hcut _ _ hsuf A12⟩
    ·have he:zmB ze0 r=-1:=by
      unfold zmB at hi ⊢
      cases hf:r.findIdx? (inS ze0)with
      | none=>rfl
      | some i=>rw[hf]at hi;simp at hi
     have hno:=zyg (l:=ze0) (s:=r) (by omega)
     have hdw:r.dropWhile (fun c=>!zsY c)=[]:=by
      rw[zeZ,yaM]
      intro y hy
      have:=hno y hy
      simpa [inS,ze0,zsY]using this
     rw[hq,hdw]at hcut
     simp[he,show yb4 .i64 1=1 from rfl]
     exact hn hcut _ _ hsuf A12
   ·rw[if_neg h34]at hcut
    have n34:¬(c.toNat:Int)=34:=fun e=>h34 (hc2.2.2.2 e)
    simp[n40,n41,n34]
    refine znX (l:=zf4) (by decide) (by decide) (by decide) (by simp;omega) (hok1 _ ydp) fun σ2 A2=>?_
    have A12:=A1.trans A2
    have hcs:zoX c=false:=hhd c r rfl
    have hcn:inS zf4 c=false:=by
     have e10:¬c=10∧¬c=32:=by simpa [zoX,not_or,and_comm]using hcs
     simp[inS,zf4,e10,fun e=>h40 (.inl e),fun e=>h40 (.inr e),h34]
     exact⟨fun e=>h40 (.inl e),fun e=>h40 (.inr e)⟩
    have hst:∀y,inS zf4 y=zby y:=fun y=>rfl
    by_cases hi:0≤zmB zf4 (c::r)
    ·obtain⟨d,x,z,hcr,hd,hx,he⟩:=znY hi
     obtain⟨d',rfl⟩:∃d',d=c::d':=by
      cases d with
      | nil =>
       simp at hcr
       rw[←hcr.1,hcn]at hx
       cases hx
      | cons y d' =>
       simp at hcr
       exact⟨d',by rw[hcr.1]⟩
     have hr2:r=d'++x::z:=by simpa using hcr
     subst hr2
     obtain⟨t1,t2⟩:=zhS (p:=fun c=>!zby c) (d:=d') (r:=z) (c:=x) (fun y hy=>by have:=hd y (by simp[hy]);rw[hst]at this;simp[this]) (by rw[hst]at hx;simp[hx])
     rw[t1,t2]at hcut
     have hres:=hs _ _ hcut σ2 A12
     have hlt:¬(d'.length:Int)+1<0:=by omega
     simp[he,hlt]
     obtain⟨e1,e2⟩:=zhT (L:=c::(d'++x::z)) (t:=c::d') (r:=x::z) (n:=(d'.length:Int)+1) (m:=(d'.length:Int)+((z.length:Int)+1)+1) (by simp) (by simp) (by simp)
     have e3:((d'.length:Int)+1).toNat=d'.length+1:=by omega
     rw[e3]at e2
     rw[e2]
     exact⟨by omega,by omega,by omega,by omega,hres⟩
    ·have hno:=zyg (l:=zf4) (s:=c::r) (by omega)
     have hw:r.takeWhile (fun x=>!zby x)=r∧r.dropWhile (fun x=>!zby x)=[]:=by
      have h1:∀y∈r,(!zby y)=true:=fun y hy=>by have:=hno y (by simp[hy]);rw[hst]at this;simp[this]
      have h2:r.dropWhile (fun x=>!zby x)=[]:=by rw[zeZ,yaM];exact h1
      have h3:=List.takeWhile_append_dropWhile (p:=fun x=>!zby x) (l:=r)
      rw[h2,yb7]at h3
      exact⟨h3,h2⟩
     rw[hw.1,hw.2]at hcut
     have hres:=hs _ _ hcut σ2 A12
     have hlt:zmB zf4 (c::r)<0:=by omega
     simp[hlt]
     exact⟨by omega,hres⟩
end
def zBM(e:Int):AV:=.iface 33 (.int .i64 e)
structure Wr(base x:Nat)(s:Ts)(σ:AS):Prop where
 hx:x<σ.no
 hb:0<base∧base≤σ.nf
 h0:σ.F 0=.alive
 ok:zpv s.b
 len:s.b.length<2^36
 cells:∃lv,σ.objs x=some [.str s.b,lv]∧ToR base σ lv s.ls
theorem zmu{s t r:List UInt8}(h:zep s=some (t,r)):r<:+s:=by
 have h0:=zcG zoX s
 unfold zep at h
 split at h
 ·cases h
 ·rename_i c z e
  rw[e]at h0
  have h1:=(ydo c z).trans h0
  split at h
  ·cases h;exact h1
  ·split at h
   ·unfold znh at h
    have h2:=zcG (fun c=>!zsY c) z
    split at h
    ·cases h
    ·rename_i x y e2
     rw[e2]at h2
     split at h
     ·cases h;exact((ydo x r).trans h2).trans h1
     ·cases h
   ·cases h;exact(zcG _ z).trans h1
theorem Wr.uses{base x s σ}(h:Wr base x s σ){f:Nat}(hf:f<base):¬zaj σ x f:=fun⟨cs,v,h1,h2,h3⟩=>by
 obtain⟨lv,ho,hl⟩:=h.cells
 rw[ho]at h1
 cases h1
 simp at h2
 subst h2
 rcases hl with ⟨_,rfl⟩|⟨g,tos,rfl,hg,_⟩
 ·cases h3
 ·simp only[zcq,yaR.injEq]at h3
  omega
theorem Wr.lt{base x s σ}(h:Wr base x s σ){f:Nat}(u:zaj σ x f):f<σ.nf:=by
 obtain⟨cs,v,h1,h2,h3⟩:=u
 obtain⟨lv,ho,hl⟩:=h.cells
 rw[ho]at h1
 cases h1
 simp at h2
 subst h2
 rcases hl with ⟨_,rfl⟩|⟨g,tos,rfl,hg,hg2,_⟩
 ·cases h3
 ·simp only[zcq,yaR.injEq]at h3
  omega
theorem Wr.set{base x s σ lv b}(h:Wr base x s σ)(hb:b<:+s.b)(hl:ToR base σ lv s.ls):Wr base x { s with b:=b } (σ.setO x [.str b,lv]):=by
 refine⟨h.hx,h.hb,h.h0,h.ok.end hb,ycS hb.length_le h.len,lv,by simp,?_⟩
 rcases hl with h1|⟨g,tos,h1,h2,h3,h4,h5⟩
 ·exact .inl h1
 ·exact .inr ⟨g,tos,h1,h2,h3,h4,h5⟩
theorem Wr.adds{base x s σ σ'}(h:Wr base x s σ)(A:zd σ σ'):Wr base x s σ':=by
 obtain⟨lv,ho,hl⟩:=h.cells
 have hn:=A.nf
 have hb:=h.hb
 refine⟨yag h.hx A.no,⟨hb.1,by omega⟩,(A.fam 0 (by omega)).trans h.h0,h.ok,h.len,lv,(A.obj x h.hx).trans ho,?_⟩
 rcases hl with h1|⟨g,tos,h1,h2,h3,h4,h5⟩
 ·exact .inl h1
 ·exact .inr ⟨g,tos,h1,h2,by omega,(A.fam g h3).trans h4,h5⟩
def zdo(R:Out→AS→Prop)(x:Nat)(σ:AS)(e:Int):Prop:=∀σ',zM x σ σ'→R (.panic (zBM e)) σ'
theorem zdo.mono{R x σ σ' e}(h:zdo R x σ e)(K:zM x σ σ'):zdo R x σ' e:=fun τ k=>h τ (K.trans k)
section
variable {G : Env} {σ : AS} {R : Out → AS → Prop}
theorem zam{b:Bool}{e:Int}(h1:b=true→R (.ret (.tuple [])) σ)(h2:b=false→R (.panic (zBM e)) σ):zzQ G 61 [.bool b,.int .i64 e] σ R:=by
 refine zAN rfl ?_
 cases b with
 | true =>
  simp[zLb]
  exact h1 rfl
 | false =>
  simp[zLb]
  exact h2 rfl
theorem zkW{base x s}(h:Wr base x s σ)(hn:zcC s=.error 2→zdo R x σ 2)(hs:∀t s',zcC s=.ok (t,s')→∀σ',Wr base x s' σ'→zK x σ σ'→R (.ret (.str t)) σ'):zzQ G 110 [.ptr x 0] σ R:=by
 refine zvj rfl ?_
 obtain⟨lv,ho,hl⟩:=h.cells
 have l1:=hl.one
 have hx:=h.hx
 simp[zEu,ho]
 refine zgM h.ok (yag h.len (by decide)) (fun hq r σ1 hr A1=>?_) (fun t r hq σ1 A1=>?_)
 ·simp
  refine zam (fun q=>by simp at q) (fun _=>?_)
  simp
  exact hn (by unfold zcC;rw[hq]) _ (A1.keepR hx)
 ·obtain⟨_,hne⟩:=zc7 hq
  have h1:=h.adds A1
  have hsuf:=zmu hq
  simp[hne]
  refine zam (fun _=>?_) (fun q=>by simp at q)
  obtain⟨lv1,ho1,hl1⟩:=h1.cells
  have l2:=hl1.one
  simp[ho1,splice]
  have hnx:zcC s=.ok (t,{ s with b:=r }):=by unfold zcC;rw[hq]
  exact hs t _ hnx _ (h1.set hsuf hl1) ((A1.keepS hx ho).trans (.set ho1 rfl))
end
@[simp] theorem zBN:zaB yb9 139=some true:=by kernel_rfl
@[simp] theorem zDb(t:Nat)(v:AV)(K:AV→Prop):zck yb9 .eql 139 (.iface t v) .nilif K=K (.bool false):=by
 have h:=zBN
 unfold zaB at h
 split at h
 ·rename_i ms hu
  simp[zck,aeq,zjS,hu]
 ·cases h
 ·cases h
def LW(x:Nat)(σ:AS)(v:AV)(ts:List (List UInt8)):Prop:=(∃b,v=.sl (.stat b) 1 (ts.map yco))∨∃ob,v=.slm ob 0 1 ts.length∧ob<σ.no∧ob≠x∧σ.objs ob=some (ts.map yco)
theorem LW.keep{x σ σ' v ts}(h:LW x σ v ts)(K:zK x σ σ'):LW x σ' v ts:=by
 rcases h with h|⟨ob,h1,h2,h3,h4⟩
 ·exact .inl h
 ·exact .inr ⟨ob,h1,yag h2 K.no,h3,(K.obj ob h2 h3).trans h4⟩
theorem Wr.isSome{base x s σ}(h:Wr base x s σ):∃cs,σ.objs x=some cs:=by obtain⟨lv,ho,_⟩:=h.cells;exact⟨_,ho⟩
section
variable {G : Env} {σ : AS} {R : Out → AS → Prop}
def WdI(base x:Nat)(ts:List (List UInt8))(s0:Ts)(σ:AS)(v:AV)(a:Nat→AV)(τ:AS):Prop:=∃(d r:List (List UInt8)) (s:Ts),ts=d++r∧zaS ts s0=zaS r s∧a 0=.ptr x 0∧a 6=v∧a 7=.int .i64 (ts.length:Int)∧a 8=.int .i64 (d.length:Int)∧Wr base x s τ∧zK x σ τ∧LW x τ v ts
theorem zmv{base x s v ts}(h:Wr base x s σ)(hv:LW x σ v ts)(hl:ts.length<1000)(hn:∀e,zaS ts s=.error e→zdo R x σ e)(hs:∀s',zaS ts s=.ok s'→∀σ',Wr base x s' σ'→zK x σ σ'→R (.ret (.tuple [])) σ'):zzQ G 56 [.ptr x 0,v] σ R:=by
 refine zAI rfl ?_
 obtain⟨cs0,hcs0⟩:=h.isSome
 have hlen:(∃b,v=.sl (.stat b) 1 (ts.map yco))∨∃ob,v=.slm ob 0 1 ts.length:=by
  rcases hv with h|⟨ob,h,_⟩
  ·exact .inl h
  ·exact .inr ⟨ob,h⟩
 have go:avc yb9 G 18 (.block 0 (.loop zi1)) (zba yb9 [] R) (upd (upd (upd (zbG [.ptr x 0,v]) 6 v) 7 (.int .i64 (ts.length:Int))) 8 (.int .i64 0)) σ:=by
  simp
  refine zH (WdI base x ts s σ v) (MU 8 (ts.length+1)) ⟨[],ts,s,rfl,rfl,by simp,by simp,by simp,by simp,h,.refl hcs0,hv⟩ fun a τ hI=>?_
  obtain⟨d,r,s1,hdr,he,a0,a6,a7,a8,hW,hK,hV⟩:=hI
  cases r with
  | nil =>
   have e:ts.length=d.length:=by simp[hdr]
   rw[e]at a7
   simp[zi1,a0,a6,a7,a8]
   exact hs s1 he _ hW hK
  | cons t r =>
   have hlt:(d.length:Int)<(ts.length:Int):=by simp[hdr];omega
   have hi:ts[d.length]?=some t:=by simp[hdr]
   have w1:yb4 .i64 ((d.length:Int)+1)=((d.length+1:Nat):Int):=by rw[zc]<;>omega
   have rest:∀(t':List UInt8) (s2:Ts) (τ2:AS),zcC s1=.ok (t',s2)→Wr base x s2 τ2→zK x τ τ2→zaS ts s=(if t'=t then zaS r s2 else .error 2):=fun t' s2 τ2 q _ _=>by
    rw[he,zaS,q]
    rfl
   have hno:zcC s1=.error 2→zdo R x σ 2:=fun q=>hn 2 (by rw[he,zaS,q];rfl)
   rcases hV with ⟨b,hv'⟩|⟨ob,hv',g1,g2,g3⟩
   ·subst hv'
    have hv':True:=trivial
    simp[zi1,a0,a6,a7,a8,hv',hlt,hi]
    refine zkW hW (fun q=>(hno q).mono hK.r) (fun t' s2 q τ2 hW2 hK2=>?_)
    have hr:=rest t' s2 τ2 q hW2 hK2
    have hK12:=hK.trans hK2
    by_cases ht:t'=t
    ·rw[if_pos ht]at hr
     simp[ht]
     refine zam (fun _=>?_) (fun q=>by cases q)
     simp[a0,a6,a7,a8,w1]
     refine⟨⟨d++[t],r,s2,by simp[hdr],hr,by simp[a0],by simp[a6,hv'],by simp[a7],by simp,hW2,hK12,(LW.keep (.inl ⟨b,rfl⟩) hK2)⟩,?_⟩
     simp[MU,a8];omega
    ·rw[if_neg ht]at hr
     simp[ht]
     refine zam (fun q=>by cases q) (fun _=>?_)
     simp
     exact hn 2 hr _ hK12.r
   ·subst hv'
    have hv':True:=trivial
    simp[zi1,a0,a6,a7,a8,hv',hlt,hi,g3]
    refine zkW hW (fun q=>(hno q).mono hK.r) (fun t' s2 q τ2 hW2 hK2=>?_)
    have hr:=rest t' s2 τ2 q hW2 hK2
    have hK12:=hK.trans hK2
    by_cases ht:t'=t
    ·rw[if_pos ht]at hr
     simp[ht]
     refine zam (fun _=>?_) (fun q=>by cases q)
     simp[a0,a6,a7,a8,w1]
     refine⟨⟨d++[t],r,s2,by simp[hdr],hr,by simp[a0],by simp[a6,hv'],by simp[a7],by simp,hW2,hK12,(LW.keep (.inr ⟨ob,rfl,g1,g2,g3⟩) hK2)⟩,?_⟩
     simp[MU,a8];omega
    ·rw[if_neg ht]at hr
     simp[ht]
     refine zam (fun q=>by cases q) (fun _=>?_)
     simp
     exact hn 2 hr _ hK12.r
 rcases hlen with ⟨b,rfl⟩|⟨ob,rfl⟩
 ·simp[zLa]
  simpa using go
 ·simp[zLa]
  simpa using go
theorem zwS{base x s w}(h:Wr base x s σ)(hw:w≠[])(hn:zhd w s=none→∀σ',Wr base x s σ'→zK x σ σ'→R (.ret (.bool false)) σ')(hs:∀s',zhd w s=some s'→∀σ',Wr base x s' σ'→zK x σ σ'→R (.ret (.bool true)) σ'):zzQ G 59 [.ptr x 0,.str w] σ R:=by
 refine zAL rfl ?_
 obtain⟨lv,ho,hl⟩:=h.cells
 have l1:=hl.one
 have hx:=h.hx
 have hlen:=h.len
 have hm:zhd w s=match zep s.b with
  | none=>none
  | some p=>if p.1=zC then(match zep p.2 with
   | none=>none
   | some q=>if q.1=w then some { s with b:=q.2 }else none)else none:=rfl
 simp[zMS,ho]
 refine zgM h.ok (by omega) (fun hq r σ1 hr A1=>?_) (fun t r hq σ1 A1=>?_)
 ·rw[hq]at hm
  simp
  have hrl:=hr.length_le
  refine zgM (h.ok.end hr) (by omega) (fun hq2 r2 σ2 hr2 A2=>?_) (fun t2 r2 hq2 σ2 A2=>?_)
  ·simp
   exact hn hm _ (h.adds (A1.trans A2)) ((A1.trans A2).keepS hx ho)
  ·simp
   exact hn hm _ (h.adds (A1.trans A2)) ((A1.trans A2).keepS hx ho)
 ·rw[hq]at hm
  simp only at hm
  have hr:=zmu hq
  have hrl:=hr.length_le
  simp
  refine zgM (h.ok.end hr) (by omega) (fun hq2 r2 σ2 hr2 A2=>?_) (fun t2 r2 hq2 σ2 A2=>?_)
  ·have hA:=A1.trans A2
   have hno:zhd w s=none:=by
    rw[hm,hq2]
    split<;>rfl
   have fin:=hn hno _ (h.adds hA) (hA.keepS hx ho)
   by_cases ht:t=zC
   ·have ht':t=[40]:=ht
    have hw':¬[]=w:=fun e=>hw e.symm
    simp[ht',hw']
    exact fin
   ·have ht':¬t=[40]:=ht
    simp[ht']
    exact fin
  ·have hA:=A1.trans A2
   have h2:=h.adds hA
   obtain⟨lv2,ho2,hl2⟩:=h2.cells
   have l2:=hl2.one
   by_cases ht:t=zC
   ·have ht':t=[40]:=ht
    rw[if_pos ht,hq2]at hm
    simp only at hm
    by_cases hw:t2=w
    ·rw[if_pos hw]at hm
     simp[ht',hw,ho2,splice]
     exact hs _ hm _ (h2.set ((zmu hq2).trans hr) hl2) ((hA.keepS hx ho).trans (.set ho2 rfl))
    ·rw[if_neg hw]at hm
     simp[ht',hw]
     exact hn hm _ h2 (hA.keepS hx ho)
   ·have ht':¬t=[40]:=ht
    rw[if_neg ht]at hm
    simp[ht']
    exact hn hm _ h2 (hA.keepS hx ho)
theorem zBO(n:Int):Lib.itoa n≠[]:=by
 unfold Lib.itoa
 split
 ·simp
 ·exact zgs _
theorem zjF{t:List UInt8}(h:R (.ret (.str (zbQ t))) σ):zzQ G 113 [.str t,.str [45]] σ R:=by
 refine zmt ?_
 have hb:(if zkg [45] t=true then t.drop [45].length else t)=zbQ t:=by
  rw[zjE]
  unfold zbQ
  cases t with
  | nil=>rfl
  | cons c r =>
   by_cases hc:c=45
   ·subst hc;simp
   ·simp[hc]
 exact(congrArg (fun z=>R (.ret (.str z)) σ) hb).mpr h
theorem zmw(V:zc2 G){base x s}(h:Wr base x s σ)(hn:∀e,zbH s=.error e→zdo R x σ e)(hs:∀n s',zbH s=.ok (n,s')→-(2^63)≤n→n<2^63→∀σ',Wr base x s' σ'→zK x σ σ'→R (.ret (.int .i64 n)) σ'):zzQ G 58 [.ptr x 0] σ R:=by
 refine zAK rfl ?_
 simp[zMR]
 refine zkW h (fun q=>hn 2 (by unfold zbH;rw[q];rfl)) (fun t s1 q σ1 h1 K1=>?_)
 have hnum:zbH s=(zsW t).map fun n=>(n,s1):=by unfold zbH;rw[q];rfl
 have htl:t.length<2^36:=by
  have:=h.len
  unfold zcC at q
  cases hc:zep s.b with
  | none=>rw[hc]at q;cases q
  | some p =>
   obtain⟨p1,p2⟩:=p
   rw[hc]at q
   cases q
   have:=(zc7 hc).1
   show p1.length<2^36
   omega
 obtain⟨lv1,ho1,hl1⟩:=h1.cells
 have hx1:=h1.hx
 simp
 refine zjF ?_
 have hbl:(zbQ t).length≤t.length:=by
  unfold zbQ
  split<;>simp
 have hdig:∀c,inS [48,49,50,51,52,53,54,55,56,57] c=zQ c:=by
  have key:∀k:Fin 256,inS [48,49,50,51,52,53,54,55,56,57] (UInt8.ofNat k.1)=zQ (UInt8.ofNat k.1):=by decide +kernel
  intro c
  have:=key ⟨c.toNat,c.toNat_lt⟩
  simpa using this
 by_cases hb0:zbQ t=[]
 ·have hv:zsW t=.error 2:=by unfold zsW;rw[if_pos (by simp[hb0])]
  rw[hv]at hnum
  simp[hb0]
  refine zam (fun q=>by cases q) (fun _=>?_)
  simp
  exact hn 2 hnum _ K1.r
 ·simp[hb0]
  refine zhp (l:=[48,49,50,51,52,53,54,55,56,57]) (by decide) (by decide) (by decide) (by omega) fun σ2 A2=>?_
  have K12:=K1.trans (A2.keepS hx1 ho1)
  cases hall:(zbQ t).all zQ with
  | false =>
   have hv:zsW t=.error 2:=by unfold zsW;rw[if_pos (by simp[hall])]
   rw[hv]at hnum
   have hne:¬znW [48,49,50,51,52,53,54,55,56,57] (zbQ t)=[]:=by
    rw[zdK]
    have:(zbQ t).all (inS [48,49,50,51,52,53,54,55,56,57])=(zbQ t).all zQ:=by congr 1;funext c;exact hdig c
    rw[this,hall]
    simp
   simp[hne]
   refine zam (fun q=>by cases q) (fun _=>?_)
   simp
   exact hn 2 hnum _ K12.r
  | true =>
   have he:znW [48,49,50,51,52,53,54,55,56,57] (zbQ t)=[]:=by
    rw[zdK]
    have:(zbQ t).all (inS [48,49,50,51,52,53,54,55,56,57])=(zbQ t).all zQ:=by congr 1;funext c;exact hdig c
    rw[this,hall]
   have hv:zsW t=match Lib.atoiAll t with
     | .ok n=>if Lib.itoa n=t then .ok n else .error 11
     | _=>.error 11:=by
    unfold zsW
    rw[if_neg (by simp[hb0,hall])]
    rfl
   simp[he]
   refine zam (fun _=>?_) (fun q=>by cases q)
   simp
   refine zrL V hb0 hall (by omega) (fun n hq2=>?_) (fun hq2 k=>?_)
   ·rw[hq2]at hv
    simp only at hv
    have hr:-(2^63)≤n∧n<2^63:=by
     rw[zoW hb0 hall]at hq2
     split at hq2
     ·cases hq2;assumption
     ·cases hq2
    simp
    refine zft V hr ?_
    by_cases hi:Lib.itoa n=t
    ·rw[if_pos hi]at hv
     rw[hv]at hnum
     simp[hi]
     refine zam (fun _=>?_) (fun q=>by cases q)
     simp
     exact hs n s1 hnum hr.1 hr.2 _ (h1.adds A2) K12
    ·rw[if_neg hi]at hv
     rw[hv]at hnum
     simp[hi]
     refine zam (fun q=>by cases q) (fun _=>?_)
     simp
     exact hn 11 hnum _ K12.r
   ·rw[hq2]at hv
    simp only at hv
    rw[hv]at hnum
    simp
    refine zam (fun q=>by cases q) (fun _=>?_)
    simp
    exact hn 11 hnum _ K12.r
end
theorem Wr.newF{base x s τ}(h:Wr base x s τ):Wr base x s τ.newF:=h.adds (zd.refl τ).newF
theorem Wr.endF{base x s τ}(h:Wr base x s τ){g:Nat}(hg:base≤g)(hu:¬zaj τ x g):Wr base x s (τ.setF g .dead):=by
 obtain⟨lv,ho,hl⟩:=h.cells
 have hb:=h.hb
 refine⟨h.hx,hb,?_,h.ok,h.len,lv,ho,?_⟩
 ·have:¬0=g:=by omega
  simp[this,h.h0]
 ·rcases hl with h1|⟨f,tos,h1,h2,h3,h4,h5⟩
  ·exact .inl h1
  ·have:¬f=g:=fun e=>hu ⟨_,_,ho,rfl,by rw[h1,←e];rfl⟩
   exact .inr ⟨f,tos,h1,h2,h3,by simp[this,h4],h5⟩
theorem Wr.mrg{base x s τ}(h:Wr base x s τ){g:Nat}(hg:base≤g)(hu:¬zaj τ x g):Wr base x s (τ.mrg g fun _=>false):=by
 obtain⟨lv,ho,hl⟩:=h.cells
 have hb:=h.hb
 refine⟨h.hx,hb,?_,h.ok,h.len,lv,by simpa [AS.mrg]using ho,?_⟩
 ·have:¬0=g:=by omega
  simp[AS.mrg,zg8,this,h.h0]
 ·rcases hl with h1|⟨f,tos,h1,h2,h3,h4,h5⟩
  ·exact .inl h1
  ·have:¬f=g:=fun e=>hu ⟨_,_,ho,rfl,by rw[h1,←e];rfl⟩
   exact .inr ⟨f,tos,h1,h2,h3,by simp[AS.mrg,zg8,this,h4],h5⟩
theorem Wr.setO{base x s σ o cs}(h:Wr base x s σ)(ho:o≠x):Wr base x s (σ.setO o cs):=by
 obtain⟨lv,h1,hl⟩:=h.cells
 refine⟨h.hx,h.hb,h.h0,h.ok,h.len,lv,?_,?_⟩
 ·have:¬x=o:=fun e=>ho e.symm
  simp[this,h1]
 ·rcases hl with h1|⟨g,tos,h1,h2,h3,h4,h5⟩
  ·exact .inl h1
  ·exact .inr ⟨g,tos,h1,h2,h3,h4,h5⟩
theorem ztO{el:Option TypeId}{base x s}{σ0 τ:AS}{v row:AV}{xs:List AV}{bsz sz:Nat}{K:AV→AS→Prop}(hG:zbr σ0 x sz τ v xs)(hR:Wr base x s τ)(hK:zM x σ0 τ)(hb:base≤σ0.nf)(hrow:row.cells.length=sz)(hl:(xs.length+1)*bsz≤2^47)
  (h:∀v' τ',zbr σ0 x sz τ' v' (xs++[row])→Wr base x s τ'→zM x σ0 τ'→τ'.objs=τ.objs→τ'.no=τ.no→(zK x σ0 τ→zK x σ0 τ')→K v' τ'):zbb el bsz sz v [row] τ K:=by
 have hn:=hK.nf
 rcases hG with ⟨rfl,rfl⟩|⟨g,rfl,h2,h3,h4,h5⟩
 ·have hnu:¬zaj τ.newF x τ.nf:=fun u=>by have:=hR.lt (f:=τ.nf) u;omega
  have:=h (.sl (.fam τ.nf false) sz [row]) τ.newF (.inr ⟨τ.nf,rfl,hn,by simp,by simp,hnu⟩) hR.newF hK.newF (by simp) (by simp) (fun q=>q.newF)
  simp at hl
  simp
  first|exact this|exact⟨by omega,this⟩
 ·have hR':=(hR.endF (by omega) h5).newF
  have hK':=(hK.endF h2).newF
  have hnu:¬zaj (τ.setF g .dead).newF x τ.nf:=fun u=>by have:=hR.lt (f:=τ.nf) u;omega
  have:=h (.sl (.fam τ.nf false) sz (xs++[row])) (τ.setF g .dead).newF (.inr ⟨τ.nf,rfl,hn,by simp,by simp,hnu⟩) hR' hK' (by simp) (by simp) (fun q=>(q.endF h2).newF)
  simp[h4]
  exact⟨hl,this⟩
theorem ze1{s s':Ts}{t:List UInt8}(h:zcC s=.ok (t,s')):t.length+s'.b.length≤s.b.length∧t≠[]∧s'.ls=s.ls:=by
 unfold zcC at h
 cases hc:zep s.b with
 | none=>rw[hc]at h;cases h
 | some p =>
  obtain⟨p1,p2⟩:=p
  rw[hc]at h
  cases h
  exact⟨(zc7 hc).1,(zc7 hc).2,rfl⟩
section
variable {G : Env} {σ : AS} {R : Out → AS → Prop}
def TyW(base x:Nat)(k0:Nat)(s0:Ts)(σ:AS)(a:Nat→AV)(τ:AS):Prop:=∃(k:Nat) (done:List Int) (s:Ts),zcz k0 [] s0=zcz k done s∧s.b.length<k∧done.length+s.b.length≤s0.b.length∧a 0=.ptr x 0∧zbr σ x 1 τ (a 2) (done.map (.int .i64))∧Wr base x s τ∧zK x σ τ
def MBt(x:Nat)(_:Nat→AV)(τ:AS):Nat:=match τ.objs x with
 | some (.str b::_)=>b.length
 | _=>0
theorem zfJ{base x s τ}(h:Wr base x s τ)(a:Nat→AV):MBt x a τ=s.b.length:=by
 obtain⟨lv,ho,hl⟩:=h.cells
 unfold MBt
 rw[ho]
theorem zHb(l:List Int):(0:Int)<(l.length:Int)↔l≠[]:=by
 cases l<;>simp
theorem zpw{base x s}{k:Nat}(h:Wr base x s σ)(hk:s.b.length<k)(hn:∀e,zcz k [] s=.error e→zdo R x σ e)(hs:∀l s',zcz k [] s=.ok (l,s')→∀v σ',Al.IntsE v l→Wr base x s' σ'→zK x σ σ'→R (.ret v) σ'):zzQ G 118 [.ptr x 0] σ R:=by
 refine Al.merging (zvp rfl ?_)
 obtain⟨cs0,hcs0⟩:=h.isSome
 simp[zEy]
 refine zH (TyW base x k s σ) (MBt x) ⟨k,[],s,rfl,hk,by simp,by simp,.inl ⟨rfl,by simp⟩,h,.refl hcs0⟩ fun a τ hI=>?_
 obtain⟨k1,done,s1,he,hk1,hlen,a0,hG,hW,hK⟩:=hI
 obtain⟨k1,rfl⟩:∃j,k1=j+1:=⟨k1-1,by omega⟩
 have hmb:=zfJ hW a
 have hb:=h.hb.2
 have hl36:=h.len
 rw[zcz]at he
 simp[zp1,a0]
 refine zkW hW (fun q=>?_) (fun t s2 q τ2 hW2 hK2=>?_)
 ·intro σ' h1
  exact .inl (hn 2 (by rw[he,q];rfl) σ' (hK.r.trans h1))
 ·rw[q]at he
  simp only[Except.bind]at he
  obtain⟨q1,q2,_⟩:=ze1 q
  have ht0:1≤t.length:=ybm.2 q2
  have hK12:=hK.trans hK2
  have hG2:=hG.keep hK2.r
  have g2:=hG2.one
  have hmb2:=zfJ hW2 a
  by_cases h32:t=zC4
  ·rw[if_pos h32]at he
   have h32':t=[105,51,50]:=h32
   simp[h32',g2]
   refine ztO (row:=.int .i64 1) hG2 hW2 hK12.r hb (by simp) (by simp;omega) fun v' τ' e1 e2 e3 e4 e5 e6=>?_
   simp
   refine⟨⟨k1,done++[1],s2,he,by omega,by simp;omega,by simp[a0],by simpa using e1,e2,e6 hK12⟩,?_⟩
   rw[zfJ e2,hmb];omega
  ·rw[if_neg h32]at he
   have h32':¬t=[105,51,50]:=h32
   by_cases h64:t=zC5
   ·rw[if_pos h64]at he
    have h64':t=[105,54,52]:=h64
    simp[h64',g2]
    refine ztO (row:=.int .i64 2) hG2 hW2 hK12.r hb (by simp) (by simp;omega) fun v' τ' e1 e2 e3 e4 e5 e6=>?_
    simp
    refine⟨⟨k1,done++[2],s2,he,by omega,by simp;omega,by simp[a0],by simpa using e1,e2,e6 hK12⟩,?_⟩
    rw[zfJ e2,hmb];omega
   ·rw[if_neg h64]at he
    have h64':¬t=[105,54,52]:=h64
    by_cases hsh:t=zh
    ·have hsh':t=[41]:=hsh
     by_cases hd:done=[]
     ·rw[if_neg (fun q=>q.2 hd)]at he
      subst hd
      rcases hG2 with ⟨_,e2⟩|⟨g,e1,_⟩
      ·simp[hsh',e2]
       refine zam (fun q=>by cases q) (fun _=>?_)
       simp
       exact .inl (hn 2 he _ hK12.r)
      ·simp[hsh',e1]
       refine zam (fun q=>by cases q) (fun _=>?_)
       simp
       exact .inl (hn 2 he _ hK12.r)
     ·rw[if_pos ⟨hsh,hd⟩]at he
      rcases hG2 with ⟨e1,_⟩|⟨g,e1,e2,e3,e4,e5⟩
      ·exact absurd (by simpa using e1) hd
      ·have hpos:(0:Int)<(done.length:Int):=(zHb done).2 hd
       have hposN:0<done.length:=by omega
       simp[hsh',e1,hposN]
       refine zam (fun _=>?_) (fun q=>by cases q)
       simp[e1]
       have:=hs _ _ he (.sl (.fam 0 false) 1 (done.map (.int .i64))) (τ2.mrg g fun _=>false) (.inr ⟨_,rfl⟩) (hW2.mrg (by omega) e5) (hK12.mrg e2)
       refine Al.MrgOr.merged g (fun _=>false) (by have:=hW2.hb;omega) e4 ?_
       simpa [Function.comp_def]using this
    ·rw[if_neg (fun q=>hsh q.1)]at he
     have hsh':¬t=[41]:=hsh
     simp[h32',h64',hsh']
     refine zam (fun q=>by cases q) (fun _=>?_)
     simp
     exact .inl (hn 2 he _ hK12.r)
end
@[simp] theorem zNX(σ:AS)(f g:Nat):(σ.turn f).F g=if g=σ.nf then .alive else if g=f then .dead else σ.F g:=by simp[AS.turn,upd]
@[simp] theorem zL9(σ:AS)(f:Nat):(σ.turn f).nf=σ.nf+1:=rfl
@[simp] theorem zMa(σ:AS)(f:Nat):(σ.turn f).no=σ.no:=rfl
@[simp] theorem zHc(σ:AS)(f:Nat):(σ.turn f).objs=σ.objs:=rfl
theorem zd.turn{σ σ':AS}(h:zd σ σ'){f:Nat}(hf:σ.nf≤f):zd σ (σ'.turn f) where
 no:=h.no
 nf:=Nat.le_succ_of_le h.nf
 obj:=h.obj
 fam g hg:=by
  have:=h.nf
  have h1:¬g=σ'.nf:=by omega
  have h2:¬g=f:=by omega
  simp[h1,h2]
  exact h.fam g hg
theorem zyh:yb9.underlying 208=some (.map 9 53):=by kernel_rfl
theorem zyi:yb9.underlying 242=some (.map 9 3):=by kernel_rfl
theorem zqB(s:List UInt8):zey yb9 9 (.str s)=true:=by
 have:yb9.underlying 9=some .string:=by kernel_rfl
 simp[zey,this]
def zpx(l:List (List UInt8)):List AV:=l.map yco
theorem ze2(s:List UInt8):∀(l:List (List UInt8)) (i:Nat),zjZ (.str s) (zpx l) i=some ((l.findIdx? (fun k=>k==s)).map (·+i))
 | [],i=>rfl
 | k::l,i=>by
  rw[show zpx (k::l)=.str k::zpx l from rfl,zjZ,ydf]
  by_cases h:s=k
  ·subst h
   simp[zhY]
  ·have h':¬k=s:=fun e=>h e.symm
   have ih:=ze2 s l (i+1)
   simp only[zhY,show(s==k)=false from by simpa using h]
   rw[ih]
   simp[h']
   cases l.findIdx? (fun k=>k==s)with
   | none=>simp
   | some j=>simp;omega
@[simp] theorem zDc{σ:AS}{f:Nat}{ks:List (List UInt8)}{vs:List AV}{k:List UInt8}{v:AV}{K:AV→AS→Prop}:zde yb9 208 (.mpo f (zpx ks) vs) (.str k) v σ K=(σ.F f=.alive∧v.plainV=true∧ks.contains k=false∧K (.mpo σ.nf (zpx (ks++[k])) (vs++[v])) (σ.turn f)):=by
 simp only[zde,zyh,zqB,ze2,true_and]
 have e:(some ((ks.findIdx? (fun x=>x==k)).map (·+0))=some none)↔ks.contains k=false:=by
  cases h:ks.findIdx? (fun x=>x==k)with
  | none =>
   have:=ydk.1 h
   simp
   intro q
   have:=this k q
   simp at this
  | some i =>
   obtain⟨hi,hc,_⟩:=ycL.1 h
   have hc:ks[i]=k:=by simpa using hc
   simp
   rw[←hc]
   exact yaw hi
 rw[propext e]
 rw[show zpx (ks++[k])=zpx ks++[.str k] from by simp[zpx]]
@[simp] theorem zDd{σ:AS}{f:Nat}{ks:List (List UInt8)}{vs:List AV}{k:List UInt8}{v:AV}{K:AV→AS→Prop}:zde yb9 242 (.mpo f (zpx ks) vs) (.str k) v σ K=(σ.F f=.alive∧v.plainV=true∧ks.contains k=false∧K (.mpo σ.nf (zpx (ks++[k])) (vs++[v])) (σ.turn f)):=by
 simp only[zde,zyi,zqB,ze2,true_and]
 have e:(some ((ks.findIdx? (fun x=>x==k)).map (·+0))=some none)↔ks.contains k=false:=by
  cases h:ks.findIdx? (fun x=>x==k)with
  | none =>
   have:=ydk.1 h
   simp
   intro q
   have:=this k q
   simp at this
  | some i =>
   obtain⟨hi,hc,_⟩:=ycL.1 h
   have hc:ks[i]=k:=by simpa using hc
   simp
   rw[←hc]
   exact yaw hi
 rw[propext e]
 rw[show zpx (ks++[k])=zpx ks++[.str k] from by simp[zpx]]
@[simp] theorem zzA{σ:AS}{K:AV→AS→Prop}{r:Option AV}:zgd r σ K=(r=none∧K (.mpo σ.nf (zpx []) []) σ.newF):=rfl
def zcH:W:={ op:=0,ty:=0,n:=0,body:=0,other:=0,name:=[] }
theorem znZ(T:List (List UInt8 × W))(s:List UInt8)(K:AV→Prop):za8 yb9 208 (.mp (zpx (T.map (·.1))) (T.map fun p=>p.2.av)) (.str s) true K=K (.tuple [((zV T s).getD zcH).av,.bool (zV T s).isSome]):=by
 have hz:zP yb9 53=some zcH.av:=by kernel_rfl
 simp only[za8,zyh,zqB,ze2,true_and,hz]
 have e:(T.map (·.1)).findIdx? (fun k=>k==s)=T.findIdx? (fun p=>p.1==s):=by rw[List.findIdx?_map];rfl
 rw[e]
 unfold zV
 cases h:T.findIdx? (fun p=>p.1==s)with
 | none =>
  have hn:T.find? (fun p=>p.1==s)=none:=ycK.2 fun p hp=>by have:=ydk.1 h p hp;simp[this]
  rw[hn]
  simp
 | some i =>
  obtain⟨hi,hc,hlt⟩:=ycL.1 h
  have hf:T.find? (fun p=>p.1==s)=some T[i]:=by
   rw[List.find?_eq_some_iff_getElem]
   exact⟨hc,i,hi,rfl,fun j hj=>by simpa using hlt j hj⟩
  rw[hf]
  have hg:(T.map fun p=>p.2.av)[i]?=some T[i].2.av:=by simp[hi]
  apply propext
  simp only[yaG,yaK,Option.getD_some,Option.isSome_some,if_true]
  constructor
  ·rintro ⟨r,h1,h2⟩
   cases h1
   obtain⟨v,h3,h4⟩:=h2
   rw[hg]at h3
   cases h3
   exact h4
  ·exact fun q=>⟨some i,rfl,_,hg,q⟩
section
variable {G : Env} {σ : AS} {R : Out → AS → Prop}
theorem zkX{s:List UInt8}(h:∀σ',zd σ σ'→R (.ret (.tuple [((zV zdy s).getD zcH).av,.bool (zV zdy s).isSome])) σ'):zzQ G 134 [.str s] σ R:=by
 refine zvB rfl ?_
 simp[zEF,splice,AV.plainV,AV.atom]
 refine(znZ zdy s _).mpr ?_
 have key:∀w b,(zV zdy s).getD zcH=w→(zV zdy s).isSome=b→∀σ',zd σ σ'→R (.ret (.tuple [w.av,.bool b])) σ':=fun w b e1 e2=>e1▸e2▸h
 cases hf:zV zdy s with
 | none =>
  have:=key zcH false (by rw[hf];rfl) (by rw[hf];rfl)
  simp[splice,W.av,W.cs,zcH]
  simp[W.av,W.cs,zcH]at this
  refine this _ ?_
  repeat (first|exact zd.refl _|refine zd.setO ?_ (by simp)|refine zd.newO ?_|refine zd.newF ?_|refine zd.turn ?_ (by omega))
 | some w =>
  have:=key w true (by rw[hf];rfl) (by rw[hf];rfl)
  simp[W.av,W.cs]at this
  simp[splice,W.av,W.cs]
  refine this _ ?_
  repeat (first|exact zd.refl _|refine zd.setO ?_ (by simp)|refine zd.newO ?_|refine zd.newF ?_|refine zd.turn ?_ (by omega))
theorem zf5{t:Int}(ht:t=1∨t=2)(h:R (.ret (.str (zI t))) σ):zzQ G 131 [.int .i64 t] σ R:=by
 refine zvx rfl ?_
 rcases ht with rfl|rfl
 ·simp[zBb]
  exact h
 ·simp[zBb]
  exact h
end
end Go.Proofs.YtohfclafhegadaaGreatDoor
set_option maxRecDepth 100000
namespace Go.Proofs.YtohfclafhegadaaGreatDoor.Sg
open Go Go.Abs Go.Proofs.YtohfclafhegadaaGreatDoor
def zqC:List UInt8:=[97,100,100,32,115,117,98,32,109,117,108,32,100,105,118,95,115,32,114,101,109,95,115,32,97,110,100,32,111,114,32,120,111,114,32,115,104,108,32,115,104,114,95,115,32,101,113,32,110,101,32,108,116,95,115,32,108,101,95,115,32,103,116,95,115,32,103,101,95,115]
theorem fok:zwx zqC zgt 66:=⟨by decide,by decide,by decide,by decide,by decide,⟨_,_,rfl,by decide⟩,by decide,by decide,by decide⟩
theorem fields_calls{G:Env}{σ:AS}{R:Out→AS→Prop}(v3:G.g 0=.pv (.stat true) (.agg zfA))(h:∀x σ',zd σ σ'→σ.no≤x→x<σ'.no→σ'.objs x=some (zgt.map yco)→R (.ret (.slm x 0 1 16)) σ'):zzQ G 57 [.str zqC] σ R:=zhh fok v3 h
end Go.Proofs.YtohfclafhegadaaGreatDoor.Sg
namespace Go.Proofs.YtohfclafhegadaaGreatDoor
open Go Go.Abs
abbrev zKi(t:Int):W:={ op:=5,ty:=t,n:=0,body:=0,other:=0,name:=[] }
abbrev zKj(t:Int)(u:List UInt8):W:={ op:=4,ty:=t,n:=0,body:=0,other:=0,name:=u }
def zdL(t:Int)(s:List UInt8):Option W :=
 if zkg (zI t++[46]) s=true then(if s.drop 4=[101,113,122]then some (zKi t)else if zgt.contains (s.drop 4)=true then some (zKj t (s.drop 4))else none)else none
theorem zqD{p s:List UInt8}:zkg p s=true↔∃u,s=p++u:=by
 unfold zkg
 rw[decide_eq_true_eq]
 constructor
 ·rintro ⟨_,h⟩
  exact⟨s.drop p.length,by conv=>lhs;rw[←ydl p.length s,h]⟩
 ·rintro ⟨u,rfl⟩
  simp
theorem zjG(pre:List UInt8)(g:List UInt8→W)(s:List UInt8):∀L:List (List UInt8),zV (L.map fun k=>(pre++k,g k)) s=if zkg pre s=true∧s.drop pre.length∈L then some (g (s.drop pre.length))else none
 | []=>by simp[zV]
 | k::L=>by
  have ih:=zjG pre g s L
  unfold zV at ih ⊢
  rw[yaL,List.find?_cons]
  by_cases h:pre++k=s
  ·subst h
   have:zkg pre (pre++k)=true:=zqD.2 ⟨k,rfl⟩
   simp[this]
  ·have hb:(pre++k==s)=false:=by simpa using h
   simp only[hb]
   rw[ih]
   by_cases hp:zkg pre s=true
   ·obtain⟨u,rfl⟩:=zqD.1 hp
    have:¬u=k:=fun e=>h (by rw[e])
    simp[hp,this]
   ·simp[hp]
theorem zjH(a b:List (List UInt8 × W))(s:List UInt8):zV (a++b) s=(zV a s).or (zV b s):=by
 unfold zV
 rw[List.find?_append]
 cases a.find? (fun p=>p.1==s)<;>simp
theorem zjI(t:Int)(s:List UInt8):zV (zqi t) s=zdL t s:=by
 have hl:(zI t++[46]).length=4:=by unfold zI;split<;>rfl
 have e1:(zgt.map fun x=>(zI t++46::x,({ op:=4,ty:=t,n:=0,body:=0,other:=0,name:=x }:W)))=zgt.map fun k=>((zI t++[46])++k,zKj t k):=by
  simp
 have e2:[(zI t++[46,101,113,122],({ op:=5,ty:=t,n:=0,body:=0,other:=0,name:=[] }:W))]=[[101,113,122]].map fun k=>((zI t++[46])++k,zKi t):=by simp
 unfold zqi
 rw[zjH,e1,e2,zjG,zjG,hl]
 unfold zdL
 by_cases hp:zkg (zI t++[46]) s=true
 ·have hq:[101,113,122]∉zgt:=by decide
  by_cases h1:s.drop 4=[101,113,122]
  ·simp[hp,h1,hq]
  ·simp[hp,h1]
   try (split<;>simp)
 ·simp[hp]
theorem zn0:∀p∈zi5,zdL 1 p.1=none∧zdL 2 p.1=none:=by decide
theorem zn1(s:List UInt8):zV zi6 s=(zdL 1 s).or ((zdL 2 s).or (zV zi5 s)):=by
 unfold zi6
 rw[zjH,zjH,zjI,zjI]
 cases hb:zV zi5 s with
 | none=>simp
 | some w =>
  have:∃p∈zi5,p.1=s:=by
   unfold zV at hb
   rw[ybB]at hb
   obtain⟨p,hp,_⟩:=hb
   exact⟨p,yc0 hp,by simpa using ycZ hp⟩
  obtain⟨p,hp,rfl⟩:=this
  rw[(zn0 p hp).1,(zn0 p hp).2]
  rfl
def zhU:List (List UInt8 × W):=zi5.take 2++(zi5.drop 8++(zi5.drop 2).take 6)
theorem zrM{l T:List (List UInt8 × W)}(hm:∀p,p∈l↔p∈T)(hT:∀p∈T,zV T p.1=some p.2)(s:List UInt8):zV l s=zV T s:=by
 cases h:zV l s with
 | some w =>
  unfold zV at h
  rw[ybB]at h
  obtain⟨p,hp,rfl⟩:=h
  have h1:=hT p ((hm p).1 (yc0 hp))
  have h2:p.1=s:=by simpa using ycZ hp
  rw[h2]at h1
  exact h1.symm
 | none =>
  cases h2:zV T s with
  | none=>rfl
  | some w =>
   unfold zV at h h2
   rw[ybB]at h2
   obtain⟨p,hp,rfl⟩:=h2
   rw[Option.map_eq_none_iff,ycK]at h
   have:=h p ((hm p).2 (yc0 hp))
   have h3:=ycZ hp
   exact absurd h3 this
theorem ztP(s:List UInt8):zV zhU s=zV zi5 s:=zrM (fun p=>by
  have h1:∀p∈zhU,p∈zi5:=by decide
  have h2:∀p∈zi5,p∈zhU:=by decide
  exact⟨h1 p,h2 p⟩) (by decide) s
@[simp] theorem zwT{P:Program}(t)(x y:List UInt8){K:AV→Prop}:zck P .add t (.str x) (.str y) K=(x.length+y.length<2^62∧K (.str (x++y))):=by simp only[zck,ziq]
section
variable {G : Env} {σ : AS} {R : Out → AS → Prop}
def IxS(x:Nat)(L:List (List UInt8))(s:List UInt8)(σ:AS)(a:Nat→AV)(τ:AS):Prop:=∃d r:List (List UInt8),L=d++r∧(∀y∈d,¬s=y)∧a 0=.slm x 0 1 L.length∧a 1=.str s∧a 7=.int .i64 (L.length:Int)∧a 8=.int .i64 (d.length:Int)∧τ=σ
theorem zwU{x:Nat}{L:List (List UInt8)}{s:List UInt8}(hL:L.length<1000)(ho:σ.objs x=some (L.map yco))(h:∀n:Int,(0≤n↔s∈L)→R (.ret (.int .i64 n)) σ):zzQ G 157 [.slm x 0 1 L.length,.str s] σ R:=by
 refine zp9 rfl ?_
 simp[zBd]
 refine zH (IxS x L s σ) (MU 8 (L.length+1)) ⟨[],L,rfl,by simp,by simp,by simp,by simp,by simp,rfl⟩ fun a τ hI=>?_
 obtain⟨d,r,hdr,hn,a0,a1,a7,a8,rfl⟩:=hI
 cases r with
 | nil =>
  have e:L.length=d.length:=by simp[hdr]
  rw[e]at a7
  simp[zdX,zl1,a0,a1,a7,a8]
  refine h _ ⟨fun q=>by omega,fun q=>?_⟩
  rw[hdr,yb7]at q
  exact absurd rfl (hn s q)
 | cons y r =>
  have hlt:(d.length:Int)<(L.length:Int):=by simp[hdr];omega
  have hi:L[d.length]?=some y:=by simp[hdr]
  have w1:yb4 .i64 ((d.length:Int)+1)=((d.length+1:Nat):Int):=by rw[zc]<;>omega
  by_cases he:s=y
  ·simp[zdX,a0,a1,a7,a8,hlt,ho,hi,he]
   exact h _ ⟨fun _=>by rw[hdr,he];simp,fun _=>by omega⟩
  ·simp[zdX,a0,a1,a7,a8,hlt,ho,hi,he,w1]
   refine⟨⟨d++[y],r,by simp[hdr],?_,by simp[a0],by simp[a1],by simp[a7],by simp,rfl⟩,?_⟩
   ·intro z hz
    rcases ybh.1 hz with hz|hz
    ·exact hn z hz
    ·simp at hz;subst hz;exact he
   ·simp[MU,a8];omega
theorem zpy{x:Nat}{L:List (List UInt8)}{s:List UInt8}(hL:L.length<1000)(ho:σ.objs x=some (L.map yco))(h:R (.ret (.bool (decide (s∈L)))) σ):zzQ G 239 [.slm x 0 1 L.length,.str s] σ R:=by
 refine zwi rfl ?_
 simp[zE2]
 refine zwU hL ho fun n hn=>?_
 simp[hn]
 exact h
def SgI(s:List UInt8)(σ:AS)(a:Nat→AV)(τ:AS):Prop:=∃i:Nat,i≤2∧(1≤i→zdL 1 s=none)∧(2≤i→zdL 2 s=none)∧a 0=.str s∧a 2=.ptr σ.no 0∧a 10=.sl (.stat true) 1 [.int .i64 1,.int .i64 2]∧a 11=.int .i64 2∧a 12=.int .i64 (i:Int)∧zd σ τ∧σ.no<τ.no∧τ.objs σ.no=some zcH.cs
theorem zwV(V:zc2 G){s:List UInt8}(hl:s.length<2^40)(h:∀σ',zd σ σ'→R (.ret (.tuple [((zV zi6 s).getD zcH).av,.bool (zV zi6 s).isSome])) σ'):zzQ G 208 [.str s] σ R:=by
 refine zwa rfl ?_
 simp[zEZ]
 refine zH (SgI s σ) (MU 12 3) ⟨0,by omega,by omega,by omega,by simp,by simp,by simp,by simp,by simp,(zd.refl σ).newO,by simp,by simp[zcH,W.cs]⟩ fun a τ hI=>?_
 obtain⟨i,hi,n1,n2,a0,a2,a10,a11,a12,hA,hno,ho⟩:=hI
 have done:∀w,zV zi6 s=some w→∀σ',zd σ σ'→R (.ret (.tuple [w.av,.bool true])) σ':=fun w e=>by
  rw[e]at h
  exact h
 by_cases hlt:i<2
 ·obtain⟨t,ht⟩:∃t:Int,t=(i:Int)+1:=⟨_,rfl⟩
  have ht12:t=1∨t=2:=by omega
  have hlt':(i:Int)<2:=by omega
  have hg:([ycp .i64 1,.int .i64 2]:List AV)[i]?=some (.int .i64 t):=by
   match i,hlt with
   | 0,_=>subst ht;rfl
   | 1,_=>subst ht;rfl
  have w1:yb4 .i64 ((i:Int)+1)=((i+1:Nat):Int):=by rw[zc]<;>omega
  have htl:(zI t).length=3:=by rcases ht12 with rfl|rfl<;>rfl
  have hnext:zdL t s=none→(1≤i+1→zdL 1 s=none)∧(2≤i+1→zdL 2 s=none):=fun e=>by
   match i,hlt with
   | 0,_=>subst ht;exact⟨fun _=>e,fun q=>by omega⟩
   | 1,_=>subst ht;exact⟨fun _=>n1 (by omega),fun _=>e⟩
  have hrow:∀w,zdL t s=some w→zV zi6 s=some w:=fun w e=>by
   rw[zn1]
   match i,hlt with
   | 0,_=>subst ht;rw[show(((0:Nat):Int)+1)=1 from rfl]at e;rw[e];rfl
   | 1,_=>subst ht;rw[show(((1:Nat):Int)+1)=2 from rfl]at e;rw[n1 (by omega),e];rfl
  simp[zl5,a0,a2,a10,a11,a12,hlt',hg]
  refine zf5 ht12 ?_
  simp[htl]
  refine zhQ ?_
  have h4:(zI t++[46]).length=4:=by simp[htl]
  rw[h4]
  cases hp:zkg (zI t++[46]) s with
  | false =>
   have hs:zdL t s=none:=by unfold zdL;rw[hp];rfl
   obtain⟨m1,m2⟩:=hnext hs
   simp[a0,a2,a10,a11,a12,w1]
   refine⟨⟨i+1,by omega,m1,m2,by simp[a0],by simp[a2],by simp[a10],by simp[a11],by simp,hA,hno,ho⟩,?_⟩
   simp[MU,a12];omega
  | true =>
   by_cases hz:s.drop 4=[101,113,122]
   ·have hs:zdL t s=some (zKi t):=by unfold zdL;rw[if_pos hp,if_pos hz]
    have fin:=done _ (hrow _ hs)
    simp[a0,a2,a10,a11,a12,hz,ho,splice,zcH,W.cs]
    simp[W.av,W.cs,zKi]at fin
    exact fin _ (hA.setO (yah _))
   ·simp[a0,a2,a10,a11,a12,hz]
    refine Sg.fields_calls V.space fun x σ1 A1 hx0 hx1 hxo=>?_
    have hA1:=hA.trans A1
    have ho1:=(A1.obj _ hno).trans ho
    have hno1:σ.no<σ1.no:=yag hno A1.no
    simp
    refine zpy (L:=zgt) (by decide) hxo ?_
    by_cases hm:s.drop 4∈zgt
    ·have hs:zdL t s=some (zKj t (s.drop 4)):=by unfold zdL;rw[if_pos hp,if_neg hz,if_pos (by simpa using hm)]
     have fin:=done _ (hrow _ hs)
     simp[a0,a2,a10,a11,a12,hm,ho1,splice,zcH,W.cs]
     simp[W.av,W.cs,zKj]at fin
     exact fin _ (hA1.setO (yah _))
    ·have hs:zdL t s=none:=by unfold zdL;rw[if_pos hp,if_neg hz,if_neg (by simpa using hm)]
     obtain⟨m1,m2⟩:=hnext hs
     simp[a0,a2,a10,a11,a12,hm,w1]
     refine⟨⟨i+1,by omega,m1,m2,by simp[a0],by simp[a2],by simp[a10],by simp[a11],by simp,hA1,hno1,ho1⟩,?_⟩
     simp[MU,a12];omega
 ·have e2:i=2:=by omega
  subst e2
  have hrow:zV zi6 s=zV zhU s:=by rw[zn1,n1 (by omega),n2 (by omega),ztP];rfl
  simp[zl5,zqe,a0,a2,a10,a11,a12,splice,AV.plainV,AV.atom]
  refine(znZ zhU s _).mpr ?_
  rw[hrow]at h
  have hnf:=hA.nf
  have hno2:=hA.no
  have key:∀w b,(zV zhU s).getD zcH=w→(zV zhU s).isSome=b→∀σ',zd σ σ'→R (.ret (.tuple [w.av,.bool b])) σ':=fun w b e1 e2=>e1▸e2▸h
  have hAll:zd σ τ:=hA
  have hne:¬σ.no=τ.no:=by omega
  have cT:=(((((((((((hAll.newF.turn (f:=τ.nf) (by omega)).turn (f:=τ.nf+1) (by omega)).turn (f:=τ.nf+1+1) (by omega)).turn (f:=τ.nf+1+1+1) (by omega)).turn (f:=τ.nf+1+1+1+1) (by omega)).turn (f:=τ.nf+1+1+1+1+1) (by omega)).turn (f:=τ.nf+1+1+1+1+1+1) (by omega)).turn (f:=τ.nf+1+1+1+1+1+1+1) (by omega)).turn (f:=τ.nf+1+1+1+1+1+1+1+1) (by omega)).turn (f:=τ.nf+1+1+1+1+1+1+1+1+1) (by omega)).turn (f:=τ.nf+1+1+1+1+1+1+1+1+1+1) (by omega))
  cases hf:zV zhU s with
  | none =>
   have:=key zcH false (by rw[hf];rfl) (by rw[hf];rfl)
   simp[W.av,W.cs,zcH]at this
   simp[splice,W.av,W.cs,zcH,ho,a2,hne]
   refine this _ ?_
   exact(cT.newO.setO hno2).setO (yah _)
  | some w =>
   have:=key w true (by rw[hf];rfl) (by rw[hf];rfl)
   simp[W.av,W.cs]at this
   simp[splice,W.av,W.cs,zcH,ho,a2,hne]
   refine this _ ?_
   exact(cT.newO.setO hno2).setO (yah _)
end
def LeT(s s':Ts):Prop:=s'.b.length≤s.b.length∧s'.ls.length+s'.b.length≤s.ls.length+s.b.length
theorem LeT.trans{a b c:Ts}(h:LeT a b)(k:LeT b c):LeT a c:=⟨yai k.1 h.1,yai k.2 h.2⟩
theorem LeT.refl(a:Ts):LeT a a:=⟨yah _,yah _⟩
theorem zin{s s':Ts}{t:List UInt8}(h:zcC s=.ok (t,s')):LeT s s':=by
 obtain⟨h1,_,h3⟩:=ze1 h
 exact⟨by omega,by rw[h3];omega⟩
theorem zwW{t:List UInt8}{s s':Ts}{w:W}(h:zgu t s=.ok (w,s')):LeT s s':=by
 unfold zgu at h
 split at h
 ·obtain⟨p,h1,h2⟩:=map_some h
  cases h2
  unfold zbH at h1
  obtain⟨q,h3,h4⟩:=bind_some h1
  obtain⟨n,_,h5⟩:=map_some h4
  cases h5
  exact zin h3
 ·split at h
  ·cases h;exact .refl _
  ·cases h
theorem zrN{rec:zJ2}(hr:∀d o s r s',rec d o s=.ok (r,s')→LeT s s'){op:Int}{d:Nat}{s s':Ts}{w:W}(h:zb0 rec op d s=.ok (w,s')):LeT s s':=by
 unfold zb0 at h
 split at h
 ·cases h
 ·obtain⟨p,h1,h2⟩:=bind_some h
  have l1:=hr _ _ _ _ _ h1
  split at h2
  ·split at h2
   ·obtain⟨q,h3,h4⟩:=map_some h2
    cases h4
    exact l1.trans (hr _ _ _ _ _ h3)
   ·cases h2;exact l1
  ·cases h2;exact l1
theorem zn2{rec:zJ2}(hr:∀d o s r s',rec d o s=.ok (r,s')→LeT s s'){t:List UInt8}{d:Nat}{s s':Ts}{w:W}(h:zei rec t d s=.ok (w,s')):LeT s s':=by
 unfold zei at h
 split at h
 ·exact zwW h
 ·exact zrN hr h
theorem zgN:∀(k d:Nat) (o:Bool) (l:List W) (s:Ts) (r:Int × List UInt8) (s':Ts),zan k d o l s=.ok (r,s')→LeT s s'
 | 0,_,_,_,_,_,_,h=>by cases h
 | k+1,d,o,l,s,r,s',h=>by
  rw[zan]at h
  obtain⟨p,h1,h2⟩:=bind_some h
  obtain⟨q1,q2,q3⟩:=ze1 h1
  have ht:1≤p.1.length:=ybm.2 q2
  split at h2
  ·cases h2
   refine⟨by simp only;omega,?_⟩
   simp only[yab,yac,ybl]
   rw[q3]
   omega
  ·obtain⟨q,h3,h4⟩:=bind_some h2
   exact(zin h1).trans ((zn2 (fun d o s r s'=>zgN k d o [] s r s') h3).trans (zgN k d o _ _ _ _ h4))
def zyj:List (List UInt8):=[zky,zq8,tIf]
theorem ztQ(t:List UInt8)(K:AV→Prop):za8 yb9 242 (.mp (zpx zyj) [.int .i64 11,.int .i64 12,.int .i64 13]) (.str t) false K=K (.int .i64 (zc8 t)):=by
 have hz:zP yb9 3=some (.int .i64 0):=by kernel_rfl
 simp only[za8,zyi,zqB,ze2,true_and,hz,zyj,ydf,List.findIdx?_nil]
 unfold zc8
 by_cases h1:t=zky
 ·subst h1
  simp
 ·have h1':(zky==t)=false:=beq_eq_false_iff_ne.2 fun e=>h1 e.symm
  by_cases h2:t=zq8
  ·subst h2
   simp[h1,h1']
  ·have h2':(zq8==t)=false:=beq_eq_false_iff_ne.2 fun e=>h2 e.symm
   by_cases h3:t=tIf
   ·subst h3
    simp[h1,h1',h2,h2']
   ·have h3':(tIf==t)=false:=beq_eq_false_iff_ne.2 fun e=>h3 e.symm
    simp[h1,h1',h2,h2',h3,h3']
def zf6(d:Nat)(o:Bool):List (List UInt8):=if d=0 then [zh]else if o=true then [zdp,zcB]else [zdp]
theorem ztR{d:Nat}{o:Bool}(h:o=true→0<d)(t:List UInt8):t∈zf6 d o↔zgv d o t=true:=by
 unfold zf6 zgv
 by_cases hd:d=0
 ·have ho:o=false:=by
   cases o with
   | false=>rfl
   | true=>have:=h rfl;omega
  subst ho
  simp[hd]
 ·have:0<d:=by omega
  cases o<;>simp[hd,this]
def zmx(G:Env)(base x k:Nat):Prop:=∀(σ:AS) (R:Out→AS→Prop) (s:Ts) (d:Nat) (o:Bool),Wr base x s σ→s.b.length<k→s.ls.length+s.b.length≤2^38→d≤400→(o=true→0<d)→(∀e,zan k d o [] s=.error e→zdo R x σ e) →
 (∀n t s',zan k d o [] s=.ok ((n,t),s')→∀σ',Wr base x s' σ'→zM x σ σ'→R (.ret (.tuple [.int .i64 n,.str t])) σ')→zzQ G 119 [.ptr x 0,.int .i64 (d:Int),.sl (.stat true) 1 ((zf6 d o).map yco)] σ R
section
variable {G : Env} {σ : AS} {R : Out → AS → Prop}
theorem zwX{base x s}{k d:Nat}{op:Int}(h:Wr base x s σ)(hop:op=11∨op=12∨op=13)(hd:1≤d)(hd4:d≤401)(IH:∀j,j≤k→zmx G base x j)(hk:s.b.length<k)(hz:s.ls.length+s.b.length≤2^38)
  (hn:∀e,zb0 (fun d o s=>zan k d o [] s) op d s=.error e→zdo R x σ e) (hs:∀w s',zb0 (fun d o s=>zan k d o [] s) op d s=.ok (w,s')→∀σ',Wr base x s' σ'→zM x σ σ'→R (.ret w.av) σ'):zzQ G 207 [.ptr x 0,.int .i64 op,.int .i64 (d:Int)] σ R:=by
 refine zv9 rfl ?_
 obtain⟨cs0,hcs0⟩:=h.isSome
 have hx:=h.hx
 by_cases h4:400<d
 ·have h4':¬(d:Int)≤400:=by omega
  have he:zb0 (fun d o s=>zan k d o [] s) op d s=.error 3:=by unfold zb0;rw[if_pos h4]
  simp[zBi,h4']
  refine zam (fun q=>by cases q) (fun _=>?_)
  simp
  exact hn 3 he _ ((zd.refl σ).newO.keepR hx)
 ·have h4':(d:Int)≤400:=by omega
  have he:zb0 (fun d o s=>zan k d o [] s) op d s=(zan k d (decide (op=13)) [] s).bind fun p =>
    if op=13 then(if p.1.2=zcB then(zan k d false [] p.2).map fun q=>({ op:=13,ty:=0,n:=0,body:=p.1.1,other:=q.1.1,name:=[] },q.2)
     else .ok ({ op:=13,ty:=0,n:=0,body:=p.1.1,other:=-1,name:=[] },p.2))
    else .ok ({ op:=op,ty:=0,n:=0,body:=p.1.1,other:=0,name:=[] },p.2):=by unfold zb0;rw[if_neg h4]
  simp[zBi,h4']
  refine zam (fun _=>?_) (fun q=>by cases q)
  simp[splice]
  have hno1:(((σ.newO [ycp .i64 0,.int .i64 0,.int .i64 0,.int .i64 0,.int .i64 0,.str []]).newO [ycp .i64 0,.int .i64 0,.int .i64 0,.int .i64 0,.int .i64 0,.str []]).setO (σ.no+1) [ycp .i64 op,.int .i64 0,.int .i64 0,.int .i64 0,.int .i64 0,.str []]).no=σ.no+2:=by simp
  have A1:zd σ (((σ.newO [ycp .i64 0,.int .i64 0,.int .i64 0,.int .i64 0,.int .i64 0,.str []]).newO [ycp .i64 0,.int .i64 0,.int .i64 0,.int .i64 0,.int .i64 0,.str []]).setO (σ.no+1) [ycp .i64 op,.int .i64 0,.int .i64 0,.int .i64 0,.int .i64 0,.str []]):=(zd.refl σ).newO.newO.setO (by omega)
  have o0:(((σ.newO [ycp .i64 0,.int .i64 0,.int .i64 0,.int .i64 0,.int .i64 0,.str []]).newO [ycp .i64 0,.int .i64 0,.int .i64 0,.int .i64 0,.int .i64 0,.str []]).setO (σ.no+1) [ycp .i64 op,.int .i64 0,.int .i64 0,.int .i64 0,.int .i64 0,.str []]).objs σ.no=some [.int .i64 0,.int .i64 0,.int .i64 0,.int .i64 0,.int .i64 0,.str []]:=by simp
  have o1:(((σ.newO [ycp .i64 0,.int .i64 0,.int .i64 0,.int .i64 0,.int .i64 0,.str []]).newO [ycp .i64 0,.int .i64 0,.int .i64 0,.int .i64 0,.int .i64 0,.str []]).setO (σ.no+1) [ycp .i64 op,.int .i64 0,.int .i64 0,.int .i64 0,.int .i64 0,.str []]).objs (σ.no+1)=some [.int .i64 op,.int .i64 0,.int .i64 0,.int .i64 0,.int .i64 0,.str []]:=by simp
  generalize hσ1:((σ.newO [ycp .i64 0,.int .i64 0,.int .i64 0,.int .i64 0,.int .i64 0,.str []]).newO [ycp .i64 0,.int .i64 0,.int .i64 0,.int .i64 0,.int .i64 0,.str []]).setO (σ.no+1) [ycp .i64 op,.int .i64 0,.int .i64 0,.int .i64 0,.int .i64 0,.str []]=σ1 at *
  have hW1:=h.adds A1
  have K1:=A1.keepR hx
  have hx0:¬x=σ.no:=by omega
  have hx1:¬x=σ.no+1:=by omega
  have hx0':σ.no≠x:=by omega
  have hx1':σ.no+1≠x:=by omega
  have fin:∀(w:W) (s':Ts) (σ':AS),zb0 (fun d o s=>zan k d o [] s) op d s=.ok (w,s')→Wr base x s' σ'→zM x σ1 σ'→∀c1 c2,R (.ret w.av) ((σ'.setO (σ.no+1) c1).setO σ.no c2):=fun w s' σ' q hW hK c1 c2 =>
   hs w s' q _ ((hW.setO hx1').setO hx0') (((K1.trans hK).setO (by omega) hx1').setO (yah _) hx0')
  by_cases h13:op=13
  ·subst h13
   simp only[if_true,decide_true]at he
   simp
   rw[hσ1]
   have hl1:=IH k (yah _) σ1
   have e1:zf6 d true=[zdp,zcB]:=by unfold zf6;rw[if_neg (by omega),if_pos rfl]
   have e2:zf6 d false=[zdp]:=by unfold zf6;rw[if_neg (by omega),if_neg (by simp)]
   have go1:∀R',(∀e,zan k d true [] s=.error e→zdo R' x σ1 e)→(∀n t s',zan k d true [] s=.ok ((n,t),s')→∀σ',Wr base x s' σ'→zM x σ1 σ'→R' (.ret (.tuple [.int .i64 n,.str t])) σ')→zzQ G 119 [.ptr x 0,.int .i64 (d:Int),.sl (.stat true) 1 [.str [101,110,100],.str [101,108,115,101]]] σ1 R':=fun R' a b=>by
    have:=IH k (yah _) σ1 R' s d true hW1 hk hz (by omega) (fun _=>by omega) a b
    rw[e1]at this
    exact this
   refine go1 _ (fun e q=>?_) (fun n t s2 q σ2 hW2 hK2=>?_)
   ·intro σ' K
    simp
    exact hn e (by rw[he,q];rfl) _ (K1.trans K)
   ·rw[q]at he
    simp only[Except.bind]at he
    have hle:=zgN _ _ _ _ _ _ _ q
    have o0':=(hK2.obj σ.no (by omega) hx0').trans o0
    have o1':=(hK2.obj (σ.no+1) (by omega) hx1').trans o1
    by_cases ht:t=zcB
    ·have ht':t=[101,108,115,101]:=ht
     rw[if_pos ht]at he
     simp[o1',splice,ht']
     have hW2':Wr base x s2 ((σ2.setO (σ.no+1) [ycp .i64 13,.int .i64 0,.int .i64 0,.int .i64 n,.int .i64 0,.str []]).setO (σ.no+1) [ycp .i64 13,.int .i64 0,.int .i64 0,.int .i64 n,.int .i64 (-1),.str []]):=(hW2.setO hx1').setO hx1'
     have hK2':zM x σ ((σ2.setO (σ.no+1) [ycp .i64 13,.int .i64 0,.int .i64 0,.int .i64 n,.int .i64 0,.str []]).setO (σ.no+1) [ycp .i64 13,.int .i64 0,.int .i64 0,.int .i64 n,.int .i64 (-1),.str []]):=((K1.trans hK2).setO (by omega) hx1').setO (by omega) hx1'
     have p0:((σ2.setO (σ.no+1) [ycp .i64 13,.int .i64 0,.int .i64 0,.int .i64 n,.int .i64 0,.str []]).setO (σ.no+1) [ycp .i64 13,.int .i64 0,.int .i64 0,.int .i64 n,.int .i64 (-1),.str []]).objs σ.no=some [.int .i64 0,.int .i64 0,.int .i64 0,.int .i64 0,.int .i64 0,.str []]:=by simp[o0']
     have p1:((σ2.setO (σ.no+1) [ycp .i64 13,.int .i64 0,.int .i64 0,.int .i64 n,.int .i64 0,.str []]).setO (σ.no+1) [ycp .i64 13,.int .i64 0,.int .i64 0,.int .i64 n,.int .i64 (-1),.str []]).objs (σ.no+1)=some [.int .i64 13,.int .i64 0,.int .i64 0,.int .i64 n,.int .i64 (-1),.str []]:=by simp
     have pn:σ.no+2≤((σ2.setO (σ.no+1) [ycp .i64 13,.int .i64 0,.int .i64 0,.int .i64 n,.int .i64 0,.str []]).setO (σ.no+1) [ycp .i64 13,.int .i64 0,.int .i64 0,.int .i64 n,.int .i64 (-1),.str []]).no:=by have:=hK2.no;simp;omega
     generalize (σ2.setO (σ.no+1) [ycp .i64 13,.int .i64 0,.int .i64 0,.int .i64 n,.int .i64 0,.str []]).setO (σ.no+1) [ycp .i64 13,.int .i64 0,.int .i64 0,.int .i64 n,.int .i64 (-1),.str []]=σ3 at *
     have go2:∀R',(∀e,zan k d false [] s2=.error e→zdo R' x σ3 e)→(∀n t s',zan k d false [] s2=.ok ((n,t),s')→∀σ',Wr base x s' σ'→zM x σ3 σ'→R' (.ret (.tuple [.int .i64 n,.str t])) σ')→zzQ G 119 [.ptr x 0,.int .i64 (d:Int),.sl (.stat true) 1 [.str [101,110,100]]] σ3 R':=fun R' a b=>by
      have:=IH k (yah _) σ3 R' s2 d false hW2' (ycS hle.1 hk) (yai hle.2 hz) (by omega) (fun q=>by cases q) a b
      rw[e2]at this
      exact this
     refine go2 _ (fun e q2=>?_) (fun n2 t2 s4 q2 σ4 hW4 hK4=>?_)
     ·intro σ' K
      simp
      exact hn e (by rw[he,q2];rfl) _ (hK2'.trans K)
     ·rw[q2]at he
      have r0:=(hK4.obj σ.no (by omega) hx0').trans p0
      have r1:=(hK4.obj (σ.no+1) (by omega) hx1').trans p1
      simp[r0,r1,splice]
      have:=hs _ s4 he _ ((hW4.setO (cs:=[ycp .i64 13,.int .i64 0,.int .i64 0,.int .i64 n,.int .i64 n2,.str []]) hx1').setO (cs:=[ycp .i64 13,.int .i64 0,.int .i64 0,.int .i64 n,.int .i64 n2,.str []]) hx0') (((hK2'.trans hK4).setO (by omega) hx1').setO (yah _) hx0')
      simp[W.av,W.cs]at this
      exact this
    ·have ht':¬t=[101,108,115,101]:=ht
     rw[if_neg ht]at he
     simp[o1',o0',splice,ht']
     have:=hs _ s2 he _ (((hW2.setO (cs:=[ycp .i64 13,.int .i64 0,.int .i64 0,.int .i64 n,.int .i64 0,.str []]) hx1').setO (cs:=[ycp .i64 13,.int .i64 0,.int .i64 0,.int .i64 n,.int .i64 (-1),.str []]) hx1').setO (cs:=[ycp .i64 13,.int .i64 0,.int .i64 0,.int .i64 n,.int .i64 (-1),.str []]) hx0') ((((K1.trans hK2).setO (by omega) hx1').setO (by omega) hx1').setO (yah _) hx0')
     simp[W.av,W.cs]at this
     exact this
  ·simp only[h13,if_false,decide_false]at he
   simp[h13]
   rw[hσ1]
   have e2:zf6 d false=[zdp]:=by unfold zf6;rw[if_neg (by omega),if_neg (by simp)]
   have go2:∀R',(∀e,zan k d false [] s=.error e→zdo R' x σ1 e)→(∀n t s',zan k d false [] s=.ok ((n,t),s')→∀σ',Wr base x s' σ'→zM x σ1 σ'→R' (.ret (.tuple [.int .i64 n,.str t])) σ')→zzQ G 119 [.ptr x 0,.int .i64 (d:Int),.sl (.stat true) 1 [.str [101,110,100]]] σ1 R':=fun R' a b=>by
    have:=IH k (yah _) σ1 R' s d false hW1 hk hz (by omega) (fun q=>by cases q) a b
    rw[e2]at this
    exact this
   refine go2 _ (fun e q=>?_) (fun n t s2 q σ2 hW2 hK2=>?_)
   ·intro σ' K
    simp
    exact hn e (by rw[he,q];rfl) _ (K1.trans K)
   ·rw[q]at he
    have o0':=(hK2.obj σ.no (by omega) hx0').trans o0
    have o1':=(hK2.obj (σ.no+1) (by omega) hx1').trans o1
    simp[o1',o0',splice]
    have:=fin _ s2 σ2 he hW2 hK2 [ycp .i64 op,.int .i64 0,.int .i64 0,.int .i64 n,.int .i64 0,.str []] [ycp .i64 op,.int .i64 0,.int .i64 0,.int .i64 n,.int .i64 0,.str []]
    simp[W.av,W.cs]at this
    exact this
theorem zBP(V:zc2 G){base x s}{k d:Nat}{t:List UInt8}(h:Wr base x s σ)(htl:t.length<2^40)(hd4:d≤400)(IH:∀j,j≤k→zmx G base x j)(hk:s.b.length<k)(hz:s.ls.length+s.b.length≤2^38)
  (hn:∀e,zei (fun d o s=>zan k d o [] s) t d s=.error e→zdo R x σ e) (hs:∀w s',zei (fun d o s=>zan k d o [] s) t d s=.ok (w,s')→∀σ',Wr base x s' σ'→zM x σ σ'→R (.ret w.av) σ'):zzQ G 171 [.ptr x 0,.str t,.int .i64 (d:Int)] σ R:=by
 refine zvV rfl ?_
 have hx:=h.hx
 simp[zES,AV.plainV,AV.atom]
 refine(ztQ t _).mpr ?_
 have A1:zd σ ((((σ.newO [ycp .i64 0,.int .i64 0,.int .i64 0,.int .i64 0,.int .i64 0,.str []]).newF.turn σ.nf).turn (σ.nf+1)).turn (σ.nf+1+1)):=(((zd.refl σ).newO.newF.turn (by omega)).turn (by omega)).turn (by omega)
 have hno1:((((σ.newO [ycp .i64 0,.int .i64 0,.int .i64 0,.int .i64 0,.int .i64 0,.str []]).newF.turn σ.nf).turn (σ.nf+1)).turn (σ.nf+1+1)).no=σ.no+1:=by simp
 have o1:((((σ.newO [ycp .i64 0,.int .i64 0,.int .i64 0,.int .i64 0,.int .i64 0,.str []]).newF.turn σ.nf).turn (σ.nf+1)).turn (σ.nf+1+1)).objs σ.no=some [.int .i64 0,.int .i64 0,.int .i64 0,.int .i64 0,.int .i64 0,.str []]:=by simp
 generalize hσ1:(((σ.newO [ycp .i64 0,.int .i64 0,.int .i64 0,.int .i64 0,.int .i64 0,.str []]).newF.turn σ.nf).turn (σ.nf+1)).turn (σ.nf+1+1)=σ1 at *
 have hW1:=h.adds A1
 have K1:=A1.keepR hx
 have hx0:¬x=σ.no:=by omega
 have hx0':σ.no≠x:=by omega
 by_cases ho:zc8 t=0
 ·have he:zei (fun d o s=>zan k d o [] s) t d s=zgu t s:=by unfold zei;rw[if_pos ho]
  simp[ho]
  refine zkX fun σ2 A2=>?_
  have K12:=K1.trans (A2.keepR hW1.hx)
  have hW2:=hW1.adds A2
  have hn2:=A2.no
  have o2:=(A2.obj σ.no (by omega)).trans o1
  cases hf:zV zdy t with
  | some w =>
   have hl:zgu t s=(zbH s).map fun p=>({ w with n:=p.1 },p.2):=by unfold zgu;rw[hf]
   simp[W.av,W.cs,splice]
   have A3:zd σ2 ((σ2.newO [ycp .i64 0,ycp .i64 0,ycp .i64 0,ycp .i64 0,ycp .i64 0,yco []]).setO σ2.no [ycp .i64 w.op,ycp .i64 w.ty,ycp .i64 w.n,ycp .i64 w.body,ycp .i64 w.other,yco w.name]):=(zd.refl _).newO.setO (by omega)
   have hx2:σ2.no≠x:=by omega
   have o3:((σ2.newO [ycp .i64 0,ycp .i64 0,ycp .i64 0,ycp .i64 0,ycp .i64 0,yco []]).setO σ2.no [ycp .i64 w.op,ycp .i64 w.ty,ycp .i64 w.n,ycp .i64 w.body,ycp .i64 w.other,yco w.name]).objs σ2.no=some [ycp .i64 w.op,ycp .i64 w.ty,ycp .i64 w.n,ycp .i64 w.body,ycp .i64 w.other,yco w.name]:=by simp
   have n3:σ2.no<((σ2.newO [ycp .i64 0,ycp .i64 0,ycp .i64 0,ycp .i64 0,ycp .i64 0,yco []]).setO σ2.no [ycp .i64 w.op,ycp .i64 w.ty,ycp .i64 w.n,ycp .i64 w.body,ycp .i64 w.other,yco w.name]).no:=by simp
   generalize (σ2.newO [ycp .i64 0,ycp .i64 0,ycp .i64 0,ycp .i64 0,ycp .i64 0,yco []]).setO σ2.no [ycp .i64 w.op,ycp .i64 w.ty,ycp .i64 w.n,ycp .i64 w.body,ycp .i64 w.other,yco w.name]=σ3 at *
   have K13:=K12.trans (A3.keepR hW2.hx)
   refine zmw V (hW2.adds A3) (fun e q=>?_) (fun n s' q r1 r2 σ4 hW4 K4=>?_)
   ·intro σ' K
    simp
    exact hn e (by rw[he,hl,q];rfl) _ (K13.trans K)
   ·have o4:=(K4.r.obj σ2.no n3 hx2).trans o3
    have hne:¬σ.no=σ2.no:=by omega
    have o5:=(K4.r.obj σ.no (by omega) hx0').trans ((A3.obj σ.no (by omega)).trans o2)
    have:=hs _ s' (by rw[he,hl,q];rfl) _ ((hW4.setO (cs:=[ycp .i64 w.op,ycp .i64 w.ty,ycp .i64 n,ycp .i64 w.body,ycp .i64 w.other,yco w.name]) hx2).setO (cs:=[ycp .i64 w.op,ycp .i64 w.ty,ycp .i64 n,ycp .i64 w.body,ycp .i64 w.other,yco w.name]) hx0') (((K13.trans K4.r).setO (by omega) hx2).setO (yah _) hx0')
    simp[W.av,W.cs]at this
    simp[o4,o5,hne,splice]
    exact this
  | none =>
   simp[W.av,W.cs,splice,zcH]
   have A3:zd σ2 ((σ2.newO [ycp .i64 0,ycp .i64 0,ycp .i64 0,ycp .i64 0,ycp .i64 0,yco []]).setO σ2.no [ycp .i64 0,ycp .i64 0,ycp .i64 0,ycp .i64 0,ycp .i64 0,yco []]):=(zd.refl _).newO.setO (by omega)
   generalize (σ2.newO [ycp .i64 0,ycp .i64 0,ycp .i64 0,ycp .i64 0,ycp .i64 0,yco []]).setO σ2.no [ycp .i64 0,ycp .i64 0,ycp .i64 0,ycp .i64 0,ycp .i64 0,yco []]=σ3 at *
   refine zwV V htl fun σ4 A4=>?_
   have hW3:=hW2.adds A3
   have hW4:=hW3.adds A4
   have K14:=(K12.trans (A3.keepR hW2.hx)).trans (A4.keepR hW3.hx)
   have o4:=(A4.obj σ.no (by have:=A3.no;omega)).trans ((A3.obj σ.no (by omega)).trans o2)
   have n4:=A3.no
   have n5:=A4.no
   cases hr:zV zi6 t with
   | some w =>
    have hl:zgu t s=.ok (w,s):=zaF hf hr s
    simp[W.av,W.cs,splice,o4]
    refine zam (fun _=>?_) (fun q=>by simp at q)
    have hx4:σ4.no≠x:=by omega
    have:=hs w s (by rw[he,hl]) _ (((hW4.adds ((zd.refl σ4).newO (cs:=[ycp .i64 0,ycp .i64 0,ycp .i64 0,ycp .i64 0,ycp .i64 0,yco []]))).setO (cs:=w.cs) hx4).setO (cs:=w.cs) hx0') (((K14.trans (((zd.refl σ4).newO (cs:=[ycp .i64 0,ycp .i64 0,ycp .i64 0,ycp .i64 0,ycp .i64 0,yco []])).keepR hW4.hx)).setO (by omega) hx4).setO (yah _) hx0')
    simp[W.av,W.cs]at this
    have hne:¬σ.no=σ4.no:=by omega
    simp[splice,o4,hne]
    exact this
   | none =>
    have hl:zgu t s=.error 2:=by unfold zgu;rw[hf,hr]
    simp[W.av,W.cs,splice,zcH,o4]
    refine zam (fun q=>by simp at q) (fun _=>?_)
    simp
    exact hn 2 (by rw[he,hl]) _ (K14.trans (zd.keepR ((zd.refl σ4).newO.setO (yah _)) hW4.hx))
 ·have he:zei (fun d o s=>zan k d o [] s) t d s=zb0 (fun d o s=>zan k d o [] s) (zc8 t) (d+1) s:=by unfold zei;rw[if_neg ho]
  have hop:=(zwI t).resolve_left ho
  have w1:yb4 .i64 ((d:Int)+1)=((d+1:Nat):Int):=by rw[zc]<;>omega
  simp[ho,w1]
  refine zwX (d:=d+1) hW1 hop (by omega) (by omega) IH hk hz (fun e q=>?_) (fun w s' q σ' hW' hK'=>?_)
  ·intro σ' K
   simp
   exact hn e (by rw[he,q]) _ (K1.trans K)
  ·have o2:=(hK'.obj σ.no (by omega) hx0').trans o1
   have:=hs w s' (by rw[he,q]) _ (hW'.setO (cs:=w.cs) hx0') ((K1.trans hK').setO (yah _) hx0')
   simp[o2,W.av,W.cs,splice]
   simp[W.av,W.cs]at this
   exact this
theorem Wr.push{base x s τ g tos lv l}(h:Wr base x s τ)(ht:All2 Al.RepE tos s.ls)(hG:zbr σ x 6 τ lv (l.map W.av))(hσ:base≤σ.nf){τ':AS}(e1:τ'.objs=upd τ.objs x (some [.str s.b,.sl (.fam τ.nf false) 1 (tos++[lv])]))(e2:τ'.no=τ.no)(e3:τ'.nf=τ.nf+1)(e4:τ'.F τ.nf=.alive)
  (e5:∀f,f<τ.nf→¬zaj τ x f→τ'.F f=τ.F f) (K:zM x σ τ) (hg:∀f,zaj τ x f→f=g) {v:AV} (hmv:∀f,Go.Abs.mrg f v=v) (hR:∀σ',Wr base x { s with ls:=s.ls++[l] } σ'→zM x σ σ'→R (.ret v) σ'):Al.MrgOr R (.ret v) τ':=by
 have hb:=h.hb
 have hn:=K.nf
 have base0:∀σ':AS,σ'.no=τ.no→σ'.nf=τ.nf+1→(∀o,o≠x→σ'.objs o=τ.objs o)→(∃tos',σ'.objs x=some [.str s.b,.sl (.fam τ.nf false) 1 tos']∧All2 Al.RepE tos' (s.ls++[l]))→σ'.F τ.nf=.alive →
   (∀f,f<τ.nf→¬zaj τ x f→f<σ.nf∨f<base→σ'.F f=τ.F f)→R (.ret v) σ':=by
  intro σ' a1 a2 a3 ⟨tos',a4,a6⟩ a7 a8
  have nb:∀f,f<base→¬zaj τ x f:=fun f hf=>h.uses hf
  refine hR σ' ⟨by rw[a1];exact h.hx,⟨hb.1,by omega⟩,?_,h.ok,h.len,_,a4,.inr ⟨τ.nf,tos',rfl,hb.2,by omega,a7,a6⟩⟩ ⟨by rw[a1];exact K.no,by omega,fun o h1 h2=>(a3 o h2).trans (K.obj o h1 h2),fun f h1 h2=>?_,fun f h1 h2=>?_⟩
  ·rw[a8 0 (by omega) (nb 0 hb.1) (.inr hb.1)];exact h.h0
  ·have hu:¬zaj τ x f:=fun u=>h2 (K.use f h1 u)
   rw[a8 f (by omega) hu (.inl h1)]
   exact K.fam f h1 h2
  ·obtain⟨cs,v,q1,q2,q3⟩:=h2
   rw[a4]at q1
   cases q1
   simp at q2
   subst q2
   simp[zcq]at q3
   omega
 rcases hG with ⟨h1,rfl⟩|⟨f,rfl,h2,h3,h4,h5⟩
 ·have hl:l=[]:=by simpa using h1
  subst hl
  exact .inl (base0 τ' e2 e3 (fun o ho=>by rw[e1];simp[ho]) ⟨tos++[.nilsl],by rw[e1];simp,ht.append (.cons (.inl ⟨rfl,rfl⟩) .nil)⟩ e4 (fun f q1 q2 _=>e5 f q1 q2))
 ·refine Al.MrgOr.merged f (fun o=>o==x) (by omega) (by rw[e5 f h3 h5];exact h4) ?_
  rw[hmv]
  refine base0 _ e2 e3 (fun o ho=>by simp[AS.mrg,e1,ho]) ⟨tos++[.sl (.fam 0 false) 6 (l.map W.av)],?_,ht.append (.cons (.inr ⟨_,rfl⟩) .nil)⟩ ?_ (fun f' q1 q2 q3=>?_)
  ·have:¬τ.nf=f:=by omega
   simp[AS.mrg,e1,Al.mrg_rows ht,this,Function.comp_def,Al.mrg_W]
  ·have:¬τ.nf=f:=by omega
   simp[AS.mrg,zg8,this,e4]
  ·have:¬f'=f:=by omega
   simp only[AS.mrg,zg8,zae,this,if_false]
   exact e5 f' q1 q2
def LsW(base x d k0:Nat)(o:Bool)(s0:Ts)(σ:AS)(a:Nat→AV)(τ:AS):Prop:=∃(k:Nat) (l:List W) (s:Ts),zan k0 d o [] s0=zan k d o l s∧k≤k0∧s.b.length<k∧l.length+s.b.length≤2^38∧s.ls.length+s.b.length≤2^38∧a 0=.ptr x 0∧a 1=.int .i64 (d:Int)∧a 2=.sl (.stat true) 1 ((zf6 d o).map yco)∧zbr σ x 6 τ (a 8) (l.map W.av)∧Wr base x s τ∧zM x σ τ
def EnI(L:List (List UInt8))(t:List UInt8)(x d:Nat)(v8:AV)(τ2:AS)(a:Nat→AV)(τ:AS):Prop:=∃i,i≤L.length∧(∀j,j<i→L[j]?≠some t)∧τ=τ2∧a 0=.ptr x 0∧a 1=.int .i64 (d:Int)∧a 2=.sl (.stat true) 1 (L.map yco)∧a 8=v8∧a 9=.str t∧a 14=.sl (.stat true) 1 (L.map yco)∧a 15=.int .i64 (L.length:Int)∧a 16=.int .i64 (i:Int)
theorem ztS(d:Nat)(o:Bool):(zf6 d o).length≤2:=by
 unfold zf6
 split
 ·simp
 ·split<;>simp
theorem zrO(V:zc2 G){base x s0}{k0 d:Nat}{o:Bool}(ho0:o=true→0<d)(hd:d≤400)(hσ:base≤σ.nf)(IH:∀j,j<k0→zmx G base x j)(hn:∀e,zan k0 d o [] s0=.error e→zdo R x σ e)(hs:∀n t s',zan k0 d o [] s0=.ok ((n,t),s')→∀σ',Wr base x s' σ'→zM x σ σ'→R (.ret (.tuple [.int .i64 n,.str t])) σ')
  {a:Nat→AV} {τ:AS} (hI:LsW base x d k0 o s0 σ a τ):avc yb9 G 48 zlP (z7 (fun a' σ'=>LsW base x d k0 o s0 σ a' σ'∧MBt x a' σ'<MBt x a τ) (z8 0 (zba yb9 [.tmp 6,.tmp 7] (Al.MrgOr R)))) a τ:=by
 obtain⟨k,l,s,he,hk,hkb,hlb,hsb,a0,a1,a2,hG,hR,hK⟩:=hI
 have hmb:=zfJ hR a
 have hl36:=hR.len
 obtain⟨k,rfl⟩:∃j,k=j+1:=⟨k-1,by omega⟩
 rw[zan]at he
 have hEl:=ztS d o
 have hmem:=ztR ho0
 simp[zlP,a0]
 refine zkW hR (fun q=>?_) (fun t s1 q σ1 hr1 hk1=>?_)
 ·intro σ' h1
  exact .inl (hn 2 (by rw[he,q];rfl) σ' (hK.trans h1))
 ·obtain⟨q1,q2,q3⟩:=ze1 q
  rw[q]at he
  simp only[Except.bind]at he
  have hK1:=hK.trans hk1.r
  have hG1:=hG.keep hk1.r
  have hmb1:=zfJ hr1 a
  have ht0:1≤t.length:=ybm.2 q2
  simp[a2]
  refine zH (EnI (zf6 d o) t x d (a 8) σ1) (MU 16 3) ⟨0,by simp,by simp,rfl,by simp[a0],by simp[a1],by simp[a2],by simp,by simp,by simp,by simp,by simp⟩ fun b τ2 hE=>?_
  obtain⟨i,hi,hno,rfl,b0,b1,b2,b8,b9,b14,b15,b16⟩:=hE
  generalize hL:zf6 d o=L at *
  by_cases hlt:i<L.length
  ·obtain⟨w,hw⟩:∃w,L[i]=w:=⟨L[i],rfl⟩
   have hw2:L[i]?=some w:=by rw[←hw];simp[hlt]
   have wi:yb4 .i64 ((i:Int)+1)=((i+1:Nat):Int):=by rw[zc]<;>omega
   by_cases ht:t=w
   ·subst ht
    have hin:t∈L:=yct hw2
    rw[if_pos ((hmem t).1 hin)]at he
    obtain⟨lv,ho,hlv⟩:=hr1.cells
    have l1:=hlv.one
    have g1:=hG1.one
    have wl:yb4 .i64 (s1.ls.length:Int)=(s1.ls.length:Int):=by rw[zc]<;>(rw[q3];omega)
    have hlen:s1.ls.length≤2^38:=by rw[q3];omega
    have fin:∀τ':AS,∀tos g,All2 Al.RepE tos s1.ls→(∀f,zaj τ2 x f→f=g)→τ'.objs=upd τ2.objs x (some [.str s1.b,.sl (.fam τ2.nf false) 1 (tos++[a 8])])→τ'.no=τ2.no→τ'.nf=τ2.nf+1→τ'.F τ2.nf=.alive→(∀f,f<τ2.nf→¬zaj τ2 x f→τ'.F f=τ2.F f) →
      Al.MrgOr R (.ret (.tuple [.int .i64 (s1.ls.length:Int),.str t])) τ':=fun τ' tos g t1 t2 t3 t4 t5 t6 t7 =>
     Wr.push hr1 t1 hG1 hσ t3 t4 t5 t6 t7 hK1 t2 (by intro f;simp) fun σ' r1 r2=>hs _ _ _ he σ' r1 r2
    rcases hlv with ⟨hl0,rfl⟩|⟨g,tos,rfl,t1,t2,t3,t4⟩
    ·have wl':yb4 .i64 0=0:=rfl
     have key:=fin ((τ2.newF).setO x [.str s1.b,.sl (.fam τ2.nf false) 1 ([]++[a 8])]) [] 0 (by rw[hl0];exact .nil) (fun f ⟨cs,v,u1,u2,u3⟩=>by rw[ho]at u1;cases u1;simp at u2;subst u2;cases u3) (by simp) (by simp) (by simp) (by simp) (fun f h1 h2=>by
      have:¬f=τ2.nf:=by omega
      simp[this])
     rw[hl0]at key
     simp[zgn,b0,b1,b2,b8,b9,b14,b15,b16,hlt,hw,ho,g1,splice,wl']
     simpa using key
    ·have tl:=t4.length
     have key:=fin (((τ2.setF g .dead).newF).setO x [.str s1.b,.sl (.fam τ2.nf false) 1 (tos++[a 8])]) tos g t4 (fun f ⟨cs,v,u1,u2,u3⟩=>by rw[ho]at u1;cases u1;simp at u2;subst u2;simpa [zcq]using u3.symm) (by simp) (by simp) (by simp) (by simp) (fun f h1 h2=>by
      have:¬f=τ2.nf:=by omega
      have:¬f=g:=fun e=>h2 ⟨_,_,ho,rfl,by rw[e];rfl⟩
      simp[*])
     simp[zgn,b0,b1,b2,b8,b9,b14,b15,b16,hlt,hw,ho,g1,splice,t3,tl,wl]
     refine⟨by omega,?_⟩
     simpa using key
   ·simp[zgn,b0,b1,b2,b8,b9,b14,b15,b16,hlt,hw,ht,wi]
    refine⟨⟨i+1,hlt,fun j hj=>?_,rfl,by simp[b0],by simp[b1],by simp[b2],by simp[b8],by simp[b9],by simp[b14],by simp[b15],by simp⟩,?_⟩
    ·by_cases e:j=i
     ·subst e
      rw[hw2]
      intro q
      exact ht (yaR.inj q).symm
     ·exact hno j (by omega)
    ·simp[MU,b16]
     omega
  ·have hiL:i=L.length:=by omega
   have hnin:t∉L:=fun hin=>by
    obtain⟨j,hj,e⟩:=ya9 hin
    exact hno j (by omega) (by rw[←e];simp[hj])
   rw[if_neg (fun e=>hnin ((hmem t).2 e))]at he
   have g1:=hG1.one
   simp[zgn,b0,b1,b2,b8,b9,b14,b15,b16,hiL,zp2,g1]
   refine zBP V hr1 (k:=k) (by omega) hd (fun j hj=>IH j (by omega)) (by omega) (by rw[q3];omega) (fun e q5=>?_) (fun w s2 q5 σ2 hr2 hk2=>?_)
   ·intro σ' e1
    exact .inl (hn e (by rw[he,q5]) σ' (hK1.trans e1))
   ·rw[q5]at he
    simp only[Except.bind]at he
    have hin:=zn2 (fun d o s r s'=>zgN k d o [] s r s') q5
    rw[LeT,q3]at hin
    have hmb2:=zfJ hr2 a
    have g2:=(hG1.keep hk2).one
    simp[W.av,W.cs,g2]
    refine ztO (row:=w.av) (hG1.keep hk2) hr2 (hK1.trans hk2) hσ (by simp[W.av,W.cs]) (by simp;omega) fun v' τ' e1 e2 e3 e4 e5 _=>?_
    simp
    refine⟨⟨k,l++[w],s2,he,by omega,by omega,by simp;omega,by omega,by simp[b0],by simp[b1],by simp[b2,hL],by simpa using e1,e2,e3⟩,?_⟩
    rw[zfJ e2,hmb]
    omega
theorem zqE(V:zc2 G){base x}:∀k j:Nat,j≤k→zmx G base x j
 | 0,j,hj=>fun σ R s d o h hk=>by omega
 | k+1,j,hj=>by
  have IH:=zqE V (base:=base) (x:=x) k
  intro σ R s d o h hk hz hd ho hn hs
  refine Al.merging (zvq rfl ?_)
  have hb:=h.hb
  simp[zEz]
  refine zH (LsW base x d j o s σ) (MBt x) ⟨j,[],s,rfl,yah _,hk,by simp;omega,hz,by simp,by simp,by simp,.inl ⟨rfl,by simp⟩,h,.refl ..⟩ fun a τ hI=>?_
  exact zrO V ho hd hb.2 (fun i hi=>IH i (by omega)) hn hs hI
end
theorem ztT(c:UInt8)(h:c.toNat<128):yb4 .i32 (c.toNat:Int)=(c.toNat:Int):=by
 unfold yb4
 simp[IntKind.bits,IntKind.signed]
 omega
def zHd:List UInt8:=[97,98,99,100,101,102,103,104,105,106,107,108,109,110,111,112,113,114,115,116,117,118,119,120,121,122,95]
def zjJ:List UInt8:=[97,98,99,100,101,102,103,104,105,106,107,108,109,110,111,112,113,114,115,116,117,118,119,120,121,122,95,48,49,50,51,52,53,54,55,56,57]
theorem zHe(c:UInt8):inS zjJ c=(zao c||zQ c):=by
 have h:∀i:Fin 256,inS zjJ (UInt8.ofNat i.1)=(zao (UInt8.ofNat i.1)||zQ (UInt8.ofNat i.1)):=by decide
 have:=h ⟨c.toNat,c.toNat_lt⟩
 simpa using this
theorem zMb(c:UInt8):inS zHd c=zao c:=by
 have h:∀i:Fin 256,inS zHd (UInt8.ofNat i.1)=zao (UInt8.ofNat i.1):=by decide
 have:=h ⟨c.toNat,c.toNat_lt⟩
 simpa using this
theorem zjK:∀c∈zjJ,c.toNat<128:=by decide
theorem ztU{c:UInt8}(h:inS zjJ c=true):c.toNat<128:=zjK c (by unfold inS at h;simpa using h)
theorem zkY:inS zjJ=fun c=>(zao c||zQ c):=funext zHe
section
variable {G : Env} {σ : AS} {R : Out → AS → Prop}
theorem zMc{t:List UInt8}(hl:t.length<2^40)(h:∀σ',zd σ σ'→R (.ret (.bool (zh2 24 t))) σ'):zzQ G 117 [.str t] σ R:=by
 refine zvo rfl ?_
 cases t with
 | nil =>
  simp[zvn]
  exact h _ (.refl _)
 | cons c r =>
  have h1:(1:Int)≤(((c::r).length:Nat):Int):=by simp;omega
  generalize ht:c::r=t at *
  have hc0:t[0]?=some c:=by rw[←ht];rfl
  have h1n:1≤t.length:=by omega
  by_cases h24:t.length≤24
  ·have h24i:(t.length:Int)≤24:=by omega
   simp[zvn,h1,h1n,h24,h24i]
   refine zhp (l:=zjJ) zjK (by decide) (by decide) (by omega) fun σ' A=>?_
   by_cases hall:t.all (inS zjJ)=true
   ·have e:=(zdK zjJ t).2 hall
    have hc:inS zjJ c=true:=by rw[yaM]at hall;exact hall c (by rw[←ht];simp)
    have hc8:=ztU hc
    have wc:yb4 .i32 (c.toNat:Int)=(c.toNat:Int):=ztT c hc8
    simp[e,hc0,wc]
    refine zgL (s:=zHd) hc8 ?_
    have e2:zHd.contains c=inS zHd c:=rfl
    rw[e2,zMb]
    have e3:zh2 24 t=zao c:=by
     rw[zkY,←ht]at hall
     rw[←ht]
     simp only[yca,Bool.and_eq_true]at hall
     rw[←ht]at h24
     simp only[zh2,hall.2,h24,decide_true,Bool.true_and,Bool.and_true]
    have:=h _ A
    rw[e3]at this
    simpa using this
   ·have e:¬znW zjJ t=[]:=fun q=>hall ((zdK zjJ t).1 q)
    simp[e]
    have e3:zh2 24 t=false:=by
     rw[zkY,←ht]at hall
     simp only[yca,Bool.and_eq_true,not_and,Bool.not_eq_true]at hall
     rw[←ht]
     simp only[zh2]
     cases hL:zao c with
     | false=>simp
     | true=>simp[hall (by simp[hL])]
    have:=h _ A
    rw[e3]at this
    exact this
  ·have h24i:¬(t.length:Int)≤24:=by omega
   have e:zh2 24 t=false:=by rw[←ht];simp[zh2];rw[←ht]at h24;simp at h24;omega
   simp[zvn,h1,h1n,h24,h24i]
   have:=h _ (.refl _)
   rw[e]at this
   exact this
end
def zBQ:PC:=(.seq (.ops [⟨some 42,.move (.tmp 0),none,[]⟩,
    ⟨some 43,.nilCheck (.tmp 42),none,[]⟩,
    ⟨some 44,.fieldAddr 77 (.tmp 43) 1,none,[]⟩,
    ⟨none,.store 55 (.tmp 44) (.const (.slice none 0 0)),none,[]⟩])
 (.seq (.ops [⟨some 45,.move (.tmp 0),none,[]⟩,
    ⟨some 46,.buildSlice 22 1 #[(0,(.const (.string ⟨#[41]⟩)))],none,[]⟩,
    ⟨some 47,.call ⟨.value (.func 119),#[(.tmp 45),(.const (.int .i64 0)),(.tmp 46)],#[75,3,22]⟩,none,[]⟩])
 (.seq (.ops [⟨some 48,.move (.tmp 0),none,[]⟩,
    ⟨some 49,.nilCheck (.tmp 48),none,[]⟩,
    ⟨some 50,.fieldAddr 77 (.tmp 49) 1,none,[]⟩,
    ⟨some 51,.load 55 (.tmp 50),none,[]⟩,
    ⟨some 52,.fieldAddr 57 (.tmp 2) 4,none,[]⟩,
    ⟨none,.store 55 (.tmp 52) (.tmp 51),none,[]⟩])
 (.seq (.ops [⟨some 53,.load 57 (.tmp 2),none,[]⟩,
    ⟨none,.store 57 (.tmp 2) (.tmp 53),none,[]⟩])
 .ret))))
def zBR:PC:=(.seq (.seq (.ops [⟨some 37,.move (.tmp 0),none,[]⟩,
    ⟨some 38,.call ⟨.value (.func 59),#[(.tmp 37),(.const (.string ⟨#[108,111,99,97,108]⟩))],#[75,9]⟩,none,[]⟩])
  (.cond (.tmp 38)
    (.ops [⟨some 39,.move (.tmp 0),none,[]⟩,
      ⟨some 40,.call ⟨.value (.func 118),#[(.tmp 39)],#[75]⟩,none,[]⟩,
      ⟨some 41,.fieldAddr 57 (.tmp 2) 2,none,[]⟩,
      ⟨none,.store 44 (.tmp 41) (.tmp 40),none,[]⟩])
    .skip))
 zBQ)
def zBS:PC:=(.seq (.seq (.ops [⟨some 25,.move (.tmp 0),none,[]⟩,
    ⟨some 26,.call ⟨.value (.func 59),#[(.tmp 25),(.const (.string ⟨#[114,101,115,117,108,116]⟩))],#[75,9]⟩,none,[]⟩])
  (.cond (.tmp 26)
    (.seq (.ops [⟨some 27,.move (.tmp 0),none,[]⟩,
      ⟨some 28,.call ⟨.value (.func 118),#[(.tmp 27)],#[75]⟩,none,[]⟩,
      ⟨some 5,.assign (.tmp 28),none,[]⟩])
    (.seq (.ops [⟨some 29,.move (.tmp 5),none,[]⟩,
      ⟨some 30,.call ⟨.builtin .len,#[(.tmp 29)],#[44]⟩,none,[]⟩,
      ⟨some 31,.binOp .eql 3 (.tmp 30) (.const (.int .i64 1)) 3,none,[]⟩,
      ⟨some 32,.call ⟨.value (.func 61),#[(.tmp 31),(.const (.int .i64 2))],#[4,33]⟩,none,[]⟩])
    (.ops [⟨some 33,.move (.tmp 5),none,[]⟩,
      ⟨some 34,.indexAddr 44 (.tmp 33) (.const (.int .i64 0)),none,[]⟩,
      ⟨some 35,.load 3 (.tmp 34),none,[]⟩,
      ⟨some 36,.fieldAddr 57 (.tmp 2) 3,none,[]⟩,
      ⟨none,.store 3 (.tmp 36) (.tmp 35),none,[]⟩])))
    .skip))
 zBR)
def zBT:PC:=(.seq (.seq (.ops [⟨some 20,.move (.tmp 0),none,[]⟩,
    ⟨some 21,.call ⟨.value (.func 59),#[(.tmp 20),(.const (.string ⟨#[112,97,114,97,109]⟩))],#[75,9]⟩,none,[]⟩])
  (.cond (.tmp 21)
    (.ops [⟨some 22,.move (.tmp 0),none,[]⟩,
      ⟨some 23,.call ⟨.value (.func 118),#[(.tmp 22)],#[75]⟩,none,[]⟩,
      ⟨some 24,.fieldAddr 57 (.tmp 2) 1,none,[]⟩,
      ⟨none,.store 44 (.tmp 24) (.tmp 23),none,[]⟩])
    .skip))
 zBS)
theorem zBU:zMT=(.seq (.ops [⟨some 2,.alloc 57,none,[]⟩])
 (.seq (.ops [⟨some 7,.move (.tmp 0),none,[]⟩,
    ⟨some 8,.call ⟨.value (.func 110),#[(.tmp 7)],#[75]⟩,none,[]⟩,
    ⟨some 9,.call ⟨.value (.func 116),#[(.tmp 8),(.const (.string ⟨#[36]⟩))],#[9,9]⟩,none,[]⟩,
    ⟨some 6,.move (.tmp 9),none,[]⟩,
    ⟨some 10,.extract (.tmp 6) 0,none,[]⟩,
    ⟨some 11,.extract (.tmp 6) 1,none,[]⟩,
    ⟨some 3,.assign (.tmp 10),none,[]⟩,
    ⟨some 4,.assign (.tmp 11),none,[]⟩])
 (.seq (.ops [⟨some 12,.move (.tmp 4),none,[]⟩,
    ⟨some 13,.move (.tmp 12),none,[]⟩,
    ⟨some 14,.move (.tmp 3),(some (13,true)),[]⟩,
    ⟨some 15,.call ⟨.value (.func 117),#[(.tmp 14)],#[9]⟩,(some (13,true)),[]⟩,
    ⟨some 16,.pick (.tmp 13) (.tmp 15) (.const (.bool false)),none,[]⟩,
    ⟨some 17,.call ⟨.value (.func 61),#[(.tmp 16),(.const (.int .i64 2))],#[4,33]⟩,none,[]⟩])
 (.seq (.ops [⟨some 18,.move (.tmp 3),none,[]⟩,
    ⟨some 19,.fieldAddr 57 (.tmp 2) 0,none,[]⟩,
    ⟨none,.store 9 (.tmp 19) (.tmp 18),none,[]⟩])
 zBT)))):=rfl
def endF(nm:List UInt8)(P:List Int)(ty:Int)(s:Ts):Res (F × Ts):=(zfz zbi s).bind fun u=>(zan (u.2.b.length+1) 0 false [] { u.2 with ls:=[] }).map fun(v:(Int × List UInt8) × Ts)=>({ name:=nm,params:=P,locals:=u.1,type:=ty,lists:=v.2.ls },v.2)
def zr2(nm:List UInt8)(P:List Int)(s:Ts):Res (F × Ts):=(zsZ s).bind fun r=>endF nm P r.1 r.2
def zwY(nm:List UInt8)(s:Ts):Res (F × Ts):=(zfz zcy s).bind fun q=>zr2 nm q.1 q.2
theorem ze3(mx:Nat)(s:Ts):zcP mx s=(zcC s).bind fun p=>if p.1.head?=some 36∧zh2 mx p.1.tail=true then zwY p.1.tail p.2 else .error 2:=rfl
theorem zK.setO{x σ τ o cs}(K:zK x σ τ)(ho:σ.no≤o)(hox:o≠x):zK x σ (τ.setO o cs) where
 no:=K.no
 nf:=K.nf
 obj p a b:=by
  have:¬p=o:=by omega
  simp[this]
  exact K.obj p a b
 fam:=K.fam
 lst cs' h:=by
  have:¬x=o:=fun e=>hox e.symm
  simp[this]
  exact K.lst cs' h
 some:=K.some
theorem zM.nil{x τ b}:zM x τ (τ.setO x [b,.nilsl]) where
 no:=yah _
 nf:=yah _
 obj o _ h:=by simp[h]
 fam _ _ _:=rfl
 use f _:=fun⟨cs,v,h1,h2,h3⟩=>by
  simp at h1
  subst h1
  simp at h2
  subst h2
  cases h3
theorem zwZ{x:Nat}{τ:AS}{b:AV}{f:Nat}:¬zaj (τ.setO x [b,.nilsl]) x f:=fun⟨cs,v,h1,h2,h3⟩=>by
 simp at h1
 subst h1
 simp at h2
 subst h2
 cases h3
theorem zM.full{x σ τ}(K:zM x σ τ)(h:∀f,¬zaj σ x f):zaG x x σ τ:=⟨K.no,K.nf,fun o a b _=>K.obj o a b,fun f a=>K.fam f a (h f)⟩
structure FnW(base x fo:Nat)(σ0:AS)(s:Ts)(nm:List UInt8)(pv lv:AV)(ty:Int)(τ:AS):Prop where
 rd:Wr base x s τ
 ks:zK x σ0 τ
 fx:fo≠x
 f0:σ0.no≤fo
 lt:fo<τ.no
 ob:τ.objs fo=some [.str nm,pv,lv,.int .i64 ty,.nilsl]
def zHf(R:Out→AS→Prop)(base x:Nat)(σ0:AS)(r:Res (F × Ts)):Prop:=∀f s',r=.ok (f,s')→∀pv lv tv σ',Al.IntsE pv f.params→Al.IntsE lv f.locals→Wr base x s' σ'→σ'.objs x=some [.str s'.b,tv]→zaG x x σ0 σ'→(∀g,zcq tv=some g→σ0.nf≤g) →
 s'.ls=f.lists→R (.ret (.agg [.str f.name,pv,lv,.int .i64 f.type,tv])) σ'
section
variable {G : Env} {R : Out → AS → Prop}
theorem zyk(V:zc2 G){base x fo s nm P L pv lv ty σ0 τ}{a:Nat→AV}(hF:FnW base x fo σ0 s nm pv lv ty τ)(hp:Al.IntsE pv P)(hl:Al.IntsE lv L)(a0:a 0=.ptr x 0)(a2:a 2=.ptr fo 0)
  (hn:∀e,((zan (s.b.length+1) 0 false [] { s with ls:=[] }).map fun(v:(Int × List UInt8) × Ts)=>(({ name:=nm,params:=P,locals:=L,type:=ty,lists:=v.2.ls }:F),v.2))=.error e→zdo R x σ0 e)
  (hs:zHf R base x σ0 ((zan (s.b.length+1) 0 false [] { s with ls:=[] }).map fun(v:(Int × List UInt8) × Ts)=>(({ name:=nm,params:=P,locals:=L,type:=ty,lists:=v.2.ls }:F),v.2))):avc yb9 G 54 zBQ (zba yb9 [.cell 2 57] R) a τ:=by
 have p1:=hp.one
 have l1:=hl.one
 have hfx:=hF.fx
 have hx:=hF.rd.hx
 have hof:=hF.ob
 obtain⟨lv0,ho,hlv⟩:=hF.rd.cells
 have hlen:=hF.rd.len
 have hW1:Wr base x { s with ls:=[] } (τ.setO x [.str s.b,.nilsl]):=⟨hF.rd.hx,hF.rd.hb,hF.rd.h0,hF.rd.ok,hF.rd.len,.nilsl,by simp,.inl ⟨rfl,rfl⟩⟩
 have K1:zM x σ0 (τ.setO x [.str s.b,.nilsl]):=hF.ks.r.trans zM.nil
 have of1:(τ.setO x [.str s.b,.nilsl]).objs fo=some [.str nm,pv,lv,.int .i64 ty,.nilsl]:=by simp[hfx,hof]
 have KF1:zaG x x σ0 (τ.setO x [.str s.b,.nilsl]):=hF.ks.f.setO (.inl rfl)
 have nu1:∀f,¬zaj (τ.setO x [.str s.b,.nilsl]) x f:=fun f=>zwZ
 have n1:(τ.setO x [.str s.b,.nilsl]).no=τ.no:=rfl
 have m1:(τ.setO x [.str s.b,.nilsl]).nf=τ.nf:=rfl
 have hlt:=hF.lt
 have hnf:=hF.ks.nf
 simp[zBQ,a0,a2,ho,splice]
 generalize τ.setO x [.str s.b,.nilsl]=τ1 at *
 have go:=zqE V (base:=base) (x:=x) (s.b.length+1) (s.b.length+1) (yah _) τ1
 have e2:zf6 0 false=[zh]:=rfl
 have go2:∀R',(∀e,zan (s.b.length+1) 0 false [] { s with ls:=[] }=.error e→zdo R' x τ1 e)→(∀n t s',zan (s.b.length+1) 0 false [] { s with ls:=[] }=.ok ((n,t),s')→∀σ',Wr base x s' σ'→zM x τ1 σ'→R' (.ret (.tuple [.int .i64 n,.str t])) σ')→zzQ G 119 [.ptr x 0,.int .i64 0,.sl (.stat true) 1 [.str [41]]] τ1 R':=fun R' u v=>by
  have:=go R' { s with ls:=[] } 0 false hW1 (by simp) (by simp;omega) (by omega) (by simp) u v
  rw[e2]at this
  exact this
 refine go2 _ (fun e q=>?_) (fun n t s' q τ2 hW2 K2=>?_)
 ·intro σ' K
  simp
  exact hn e (by rw[q];rfl) _ (K1.trans K)
 ·have of2:=(K2.obj fo (by omega) hfx).trans of1
  obtain⟨tv,ho2,htv⟩:=hW2.cells
  have t1:=htv.one
  have hxf:¬x=fo:=fun e=>hfx e.symm
  have hfx':¬fo=x:=hfx
  simp[a0,a2,ho2,of2,splice,t1,p1,l1,hxf,hfx']
  have KF:=KF1.trans (K2.full nu1)
  have f0:=hF.f0
  refine hs _ s' (by rw[q];rfl) pv lv tv _ hp hl ((hW2.setO hfx).setO hfx) (by simp[hxf,ho2]) ((KF.setO (.inr (.inr f0))).setO (.inr (.inr f0))) (fun g hg=>?_) rfl
  have hg1:zaj τ2 x g:=⟨_,_,ho2,rfl,hg⟩
  by_cases hlt2:g<τ1.nf
  ·exact absurd (K2.use g hlt2 hg1) (nu1 g)
  ·omega
end
def zHg(nm:List UInt8)(P L:List Int)(ty:Int)(s:Ts):Res (F × Ts):=(zan (s.b.length+1) 0 false [] { s with ls:=[] }).map fun(v:(Int × List UInt8) × Ts)=>(({ name:=nm,params:=P,locals:=L,type:=ty,lists:=v.2.ls }:F),v.2)
section
variable {G : Env} {R : Out → AS → Prop}
theorem FnW.keep{base x fo σ0 s s' nm pv lv ty τ τ'}(hF:FnW base x fo σ0 s nm pv lv ty τ)(hW:Wr base x s' τ')(K:zK x τ τ'):FnW base x fo σ0 s' nm pv lv ty τ' :=
 ⟨hW,hF.ks.trans K,hF.fx,hF.f0,yag hF.lt K.no,(K.obj fo hF.lt hF.fx).trans hF.ob⟩
theorem FnW.set{base x fo σ0 s nm pv lv ty τ nm' pv' lv' ty'}(hF:FnW base x fo σ0 s nm pv lv ty τ):FnW base x fo σ0 s nm' pv' lv' ty' (τ.setO fo [.str nm',pv',lv',.int .i64 ty',.nilsl]) :=
 ⟨hF.rd.setO hF.fx,hF.ks.setO hF.f0 hF.fx,hF.fx,hF.f0,hF.lt,by simp⟩
theorem zqF(V:zc2 G){base x fo s nm P pv ty σ0 τ}{a:Nat→AV}(hF:FnW base x fo σ0 s nm pv .nilsl ty τ)(hp:Al.IntsE pv P)(a0:a 0=.ptr x 0)(a2:a 2=.ptr fo 0)
  (hn:∀e,endF nm P ty s=.error e→zdo R x σ0 e) (hs:zHf R base x σ0 (endF nm P ty s)):avc yb9 G 54 zBR (zba yb9 [.cell 2 57] R) a τ:=by
 have p1:=hp.one
 simp[zBR,a0]
 refine zwS (w:=zbi) hF.rd (by decide) (fun q τ1 hW1 K1=>?_) (fun s1 q τ1 hW1 K1=>?_)
 ·have e:zfz zbi s=.ok ([],s):=by unfold zfz;rw[q]
  have hF1:=hF.keep hW1 K1
  simp
  have e3:endF nm P ty s=zHg nm P [] ty s:=by unfold endF;rw[e];rfl
  rw[e3]at hs
  exact zyk V (L:=[]) hF1 hp (.inl ⟨rfl,.inl rfl⟩) (by simp[a0]) (by simp[a2]) (fun e' q'=>hn e' (by rw[e3];exact q')) hs
 ·have e:zfz zbi s=zcz (s1.b.length+1) [] s1:=by unfold zfz;rw[q]
  have hF1:=hF.keep hW1 K1
  simp[a0]
  refine zpw (k:=s1.b.length+1) hW1 (by omega) (fun e' q'=>?_) (fun l s2 q' v τ2 hv hW2 K2=>?_)
  ·intro σ' K
   simp
   exact hn e' (by unfold endF;rw[e,q'];rfl) _ (hF1.ks.r.trans K)
  ·have hF2:=hF1.keep hW2 K2
   have v1:=hv.one
   have ob2:=hF2.ob
   simp[a0,a2,ob2,splice,v1]
   have e3:endF nm P ty s=zHg nm P l ty s2:=by unfold endF;rw[e,q'];rfl
   rw[e3]at hs
   exact zyk V (L:=l) hF2.set hp hv (by simp[a0]) (by simp[a2]) (fun e' q3=>hn e' (by rw[e3];exact q3)) hs
theorem zyl(V:zc2 G){base x fo s nm P pv σ0 τ}{a:Nat→AV}(hF:FnW base x fo σ0 s nm pv .nilsl 0 τ)(hp:Al.IntsE pv P)(a0:a 0=.ptr x 0)(a2:a 2=.ptr fo 0)
  (hn:∀e,zr2 nm P s=.error e→zdo R x σ0 e) (hs:zHf R base x σ0 (zr2 nm P s)):avc yb9 G 54 zBS (zba yb9 [.cell 2 57] R) a τ:=by
 have p1:=hp.one
 simp[zBS,a0]
 refine zwS (w:=zeR) hF.rd (by decide) (fun q τ1 hW1 K1=>?_) (fun s1 q τ1 hW1 K1=>?_)
 ·have e:zsZ s=.ok (0,s):=by unfold zsZ;rw[q]
  have hF1:=hF.keep hW1 K1
  simp
  have e3:zr2 nm P s=endF nm P 0 s:=by unfold zr2;rw[e];rfl
  rw[e3]at hs
  exact zqF V hF1 hp (by simp[a0]) (by simp[a2]) (fun e' q'=>hn e' (by rw[e3];exact q')) hs
 ·have hF1:=hF.keep hW1 K1
  simp[a0]
  refine zpw (k:=s1.b.length+1) hW1 (by omega) (fun e' q'=>?_) (fun l s2 q' v τ2 hv hW2 K2=>?_)
  ·intro σ' K
   simp
   exact hn e' (by unfold zr2 zsZ;rw[q];simp only;rw[q'];rfl) _ (hF1.ks.r.trans K)
  ·have hF2:=hF1.keep hW2 K2
   have v1:=hv.one
   have ob2:=hF2.ob
   have e:zsZ s=if l.length=1 then .ok (l.headD 0,s2)else .error 2:=by unfold zsZ;rw[q];simp only;rw[q'];rfl
   by_cases h1:l.length=1
   ·obtain⟨n,rfl⟩:=List.length_eq_one_iff.1 h1
    rw[if_pos h1]at e
    have e3:zr2 nm P s=endF nm P n s2:=by unfold zr2;rw[e];rfl
    rw[e3]at hs
    have hv':∃b,v=.sl (.fam 0 b) 1 [.int .i64 n]:=by
     rcases hv with ⟨h,_⟩|⟨b,h⟩
     ·cases h
     ·exact⟨b,h⟩
    obtain⟨b,rfl⟩:=hv'
    have h0:=hF2.rd.h0
    have hnf:=hF2.rd.hb
    have hnf0:0<τ2.nf:=by omega
    simp
    refine zam (fun _=>?_) (fun q=>by cases q)
    simp[a0,a2,ob2,splice,h0,hnf0,p1]
    exact zqF V hF2.set hp (by simp[a0]) (by simp[a2]) (fun e' q'=>hn e' (by rw[e3];exact q')) hs
   ·rw[if_neg h1]at e
    have bad:∀σ',zM x τ2 σ'→R (.panic (zBM 2)) σ':=fun σ' K=>hn 2 (by unfold zr2;rw[e];rfl) _ (hF2.ks.r.trans K)
    rcases hv with ⟨h,rfl|⟨b,rfl⟩⟩|⟨b,rfl⟩
    ·simp
     refine zam (fun q=>by cases q) (fun _=>?_)
     simp
     exact bad _ (.refl ..)
    ·simp
     refine zam (fun q=>by cases q) (fun _=>?_)
     simp
     exact bad _ (.refl ..)
    ·have h1i:¬(l.length:Int)=1:=by omega
     simp[h1,h1i]
     refine zam (fun q=>by cases q) (fun _=>?_)
     simp
     exact bad _ (.refl ..)
theorem zHh(V:zc2 G){base x fo s nm σ0 τ}{a:Nat→AV}(hF:FnW base x fo σ0 s nm .nilsl .nilsl 0 τ)(a0:a 0=.ptr x 0)(a2:a 2=.ptr fo 0)
  (hn:∀e,zwY nm s=.error e→zdo R x σ0 e) (hs:zHf R base x σ0 (zwY nm s)):avc yb9 G 54 zBT (zba yb9 [.cell 2 57] R) a τ:=by
 simp[zBT,a0]
 refine zwS (w:=zcy) hF.rd (by decide) (fun q τ1 hW1 K1=>?_) (fun s1 q τ1 hW1 K1=>?_)
 ·have e:zfz zcy s=.ok ([],s):=by unfold zfz;rw[q]
  have hF1:=hF.keep hW1 K1
  simp
  have e3:zwY nm s=zr2 nm [] s:=by unfold zwY;rw[e];rfl
  rw[e3]at hs
  exact zyl V (P:=[]) hF1 (.inl ⟨rfl,.inl rfl⟩) (by simp[a0]) (by simp[a2]) (fun e' q'=>hn e' (by rw[e3];exact q')) hs
 ·have e:zfz zcy s=zcz (s1.b.length+1) [] s1:=by unfold zfz;rw[q]
  have hF1:=hF.keep hW1 K1
  simp[a0]
  refine zpw (k:=s1.b.length+1) hW1 (by omega) (fun e' q'=>?_) (fun l s2 q' v τ2 hv hW2 K2=>?_)
  ·intro σ' K
   simp
   exact hn e' (by unfold zwY;rw[e,q'];rfl) _ (hF1.ks.r.trans K)
  ·have hF2:=hF1.keep hW2 K2
   have v1:=hv.one
   have ob2:=hF2.ob
   simp[a0,a2,ob2,splice,v1]
   have e3:zwY nm s=zr2 nm l s2:=by unfold zwY;rw[e,q'];rfl
   rw[e3]at hs
   exact zyl V hF2.set hv (by simp[a0]) (by simp[a2]) (fun e' q3=>hn e' (by rw[e3];exact q3)) hs
theorem zrP(V:zc2 G){base x s σ}(h:Wr base x s σ)(hn:∀e,zcP 24 s=.error e→zdo R x σ e)(hs:zHf R base x σ (zcP 24 s)):zzQ G 60 [.ptr x 0] σ R:=by
 refine zAM rfl ?_
 rw[ze3]at hs
 simp only[ze3]at hn
 obtain⟨cs0,hcs0⟩:=h.isSome
 have hx:=h.hx
 rw[zBU]
 simp
 have A1:zd σ (σ.newO [.str [],.nilsl,.nilsl,.int .i64 0,.nilsl]):=(zd.refl σ).newO
 have o1:(σ.newO [.str [],.nilsl,.nilsl,.int .i64 0,.nilsl]).objs σ.no=some [.str [],.nilsl,.nilsl,.int .i64 0,.nilsl]:=by simp
 have n1:(σ.newO [.str [],.nilsl,.nilsl,.int .i64 0,.nilsl]).no=σ.no+1:=by simp
 generalize σ.newO [.str [],.nilsl,.nilsl,.int .i64 0,.nilsl]=σ1 at *
 have hW1:=h.adds A1
 have K1:=A1.keepS hx hcs0
 refine zkW hW1 (fun q=>?_) (fun t s1 q σ2 hW2 K2=>?_)
 ·intro σ' K
  simp
  exact hn 2 (by rw[q];rfl) _ (K1.r.trans K)
 ·rw[q]at hs
  simp only[q,Except.bind]at hn hs
  have htl:=(ze1 q).1
  have hlen:=hW1.len
  have hF:FnW base x σ.no σ s1 [] .nilsl .nilsl 0 σ2:=⟨hW2,K1.trans K2,by omega,yah _,by have:=K2.no;omega,(K2.obj _ (by omega) (by omega)).trans o1⟩
  simp
  refine zhQ ?_
  have bad:¬(t.head?=some 36∧zh2 24 t.tail=true)→∀σ',zM x σ2 σ'→R (.panic (zBM 2)) σ':=fun hc σ' K=>hn 2 (by rw[if_neg hc]) _ (hF.ks.r.trans K)
  by_cases h36:t.head?=some 36
  ·have e1:zkg [36] t=true:=by rw[zjE];simpa using h36
   have e2:t.drop 1=t.tail:=by simp
   simp[e1]
   refine zMc (by simp;omega) fun σ3 A3=>?_
   obtain⟨cs2,hcs2⟩:=hW2.isSome
   have K3:=A3.keepS hW2.hx hcs2
   have hF3:=hF.keep (hW2.adds A3) K3
   by_cases ht:zh2 24 t.tail=true
   ·rw[if_pos ⟨h36,ht⟩]at hs
    simp only[if_pos (⟨h36,ht⟩:t.head?=some 36∧zh2 24 t.tail=true)]at hn
    simp[ht]
    refine zam (fun _=>?_) (fun q=>by cases q)
    have ob3:=hF3.ob
    simp[ob3,splice]
    exact zHh V hF3.set (by simp) (by simp) hn hs
   ·simp[ht]
    refine zam (fun q=>by cases q) (fun _=>?_)
    simp
    exact bad (fun q=>ht q.2) _ K3.r
  ·have e1:zkg [36] t=false:=by rw[zjE];simpa using h36
   simp[e1]
   refine zam (fun q=>by cases q) (fun _=>?_)
   simp
   exact bad (fun q=>h36 q.1) _ (.refl ..)
end
@[simp] theorem zHi(t:Nat)(v:AV):aeq yb9 20 (.iface t v) .nilif=some false:=by simp[aeq,zjS,show yb9.underlying 20=some (.interface #[]) from by kernel_rfl]
@[simp] theorem zDe(t:Nat)(v:AV)(K:AV→Prop):zck yb9 .neq 20 (.iface t v) .nilif K=K (.bool true):=by simp[zck]
@[simp] theorem zMd:zaB yb9 20=some true:=by kernel_rfl
@[simp] theorem zMe(H:Option AV→(Nat→AV)→AS→Prop)(a:Nat→AV)(σ:AS):aq H .ret a σ=H none a σ:=Eq.trans rfl rfl
@[simp] theorem zHj(H:Option AV→(Nat→AV)→AS→Prop)(v:AV)(a:Nat→AV)(σ:AS):aq H (.panic v) a σ=H (some v) a σ:=Eq.trans rfl rfl
section
variable {G : Env} {σ : AS} {R : Out → AS → Prop}
theorem zej.bv{σ v bs}(h:zej σ v bs):∃β,BV β v bs∧∀f,β=some f→f<σ.nf∧σ.F f=.alive:=by
 rcases h with ⟨rfl,rfl⟩|⟨φ,rfl,r⟩
 ·exact⟨none,.inl ⟨rfl,rfl⟩,by simp⟩
 ·refine⟨famO φ,.inr ⟨φ,rfl,rfl⟩,fun f e=>?_⟩
  cases φ with
  | stat b=>cases e
  | fam g b=>cases e;exact⟨r.1,r.2⟩
theorem zhq{τ τ':AS}{base v l}(h:Al.OutE τ base v l)(hn:τ.nf≤τ'.nf)(hF:∀f,f<τ.nf→τ'.F f=τ.F f):Al.OutE τ' base v l:=by
 rcases h with h|⟨g,rows,ps,h1,h2,h3,h4,h5,h6,h7⟩
 ·exact .inl h
 ·exact .inr ⟨g,rows,ps,h1,h2,by omega,(hF g h3).trans h4,h5,h6,h7.nd,fun x hx=>by
   obtain⟨q1,q2,q3,q4⟩:=h7.each x hx
   exact⟨q1,by omega,(hF x q2).trans q3,q4⟩⟩
theorem ztV{τ τ':AS}{base v m}(h:Al.ME τ base v m)(hn:τ.nf≤τ'.nf)(hF:∀f,f<τ.nf→τ'.F f=τ.F f):Al.ME τ' base v m:=by
 obtain⟨fv,rfl,h⟩:=h
 exact⟨fv,rfl,zhq h hn hF⟩
def zfK:AV:=.agg [.nilsl,.int .i64 0,.int .i64 0]
theorem zhV(V:zd2 G)(h00:0<σ.nf∧σ.F 0=.alive){v:AV}{bs:List UInt8}(hv:zej σ v bs)(hl:bs.length≤2^29)
  (hn:zd3 bs=none→∀e σ',(e=2∨e=3∨e=9)→zd σ σ'→R (.ret (.tuple [zfK,.int .i64 e])) σ')
  (hs:∀m,zd3 bs=some m→∀mv σ',Al.ME σ' σ.nf mv m→zd σ σ'→R (.ret (.tuple [mv,.int .i64 0])) σ'):zzQ G 14 [v] σ R:=by
 refine zdf (px:=zxW) (pz:=zxX) (k:=37) (py:=znd) (n:=34) (nk:=9) (t:=5) (d0:=3) (d1:=2) (res:=[.cell 2 28,.cell 3 33]) zi Tryz.func14 rfl rfl rfl rfl (by kernel_rfl) (by kernel_rfl) (by simp) rfl rfl rfl rfl rfl rfl (by decide) Tryz.func37 rfl (by kernel_rfl) rfl rfl rfl rfl rfl rfl rfl rfl rfl (by kernel_rfl) (by decide) (by decide) (by decide) ?_
 have v1:=hv.one
 simp[zxW]
 have ecap:List.map (ev G (upd (upd (zbG [v]) 2 (ycs σ.no 0)) 3 (ycs (σ.no+1) 0))) #[Operand.tmp 2,Operand.tmp 3].toList=[.ptr σ.no 0,.ptr (σ.no+1) 0]:=rfl
 rw[ecap]
 generalize hfr:upd (upd (upd (zbG [v]) 2 (ycs σ.no 0)) 3 (ycs (σ.no+1) 0)) 5 (AV.fn (Fn.func 37) [] [ycs σ.no 0,ycs (σ.no+1) 0])=fr
 have fr0:fr 0=v:=by rw[←hfr];simp
 have fr2:fr 2=.ptr σ.no 0:=by rw[←hfr];simp
 have fr3:fr 3=.ptr (σ.no+1) 0:=by rw[←hfr];simp
 have hno1:((σ.newO [ycv,ycp yam 0,ycp yam 0]).newO [ycp yam 0]).no=σ.no+2:=by simp
 have hnf1:((σ.newO [ycv,ycp yam 0,ycp yam 0]).newO [ycp yam 0]).nf=σ.nf:=by simp
 have A1:zd σ ((σ.newO [ycv,ycp yam 0,ycp yam 0]).newO [ycp yam 0]):=(zd.refl σ).newO.newO
 have hm1:((σ.newO [ycv,ycp yam 0,ycp yam 0]).newO [ycp yam 0]).objs σ.no=some [.nilsl,.int .i64 0,.int .i64 0]:=by simp
 have he1:((σ.newO [ycv,ycp yam 0,ycp yam 0]).newO [ycp yam 0]).objs (σ.no+1)=some [.int .i64 0]:=by simp
 generalize (σ.newO [ycv,ycp yam 0,ycp yam 0]).newO [ycp yam 0]=σ1 at *
 -- what is recovered
 have hand:∀(ev:AV) (a:Nat→AV) (τ:AS) (mc:List AV),zL3 ev→a 2=.ptr σ.no 0→a 3=.ptr (σ.no+1) 0→zd σ τ→τ.objs σ.no=some mc→mc.length=3→τ.objs (σ.no+1)=some [.int .i64 0]→σ.no+1<τ.no→(∀e σ',(e=2∨e=3∨e=9)→zd σ σ'→R (.ret (.tuple [zfK,.int .i64 e])) σ') →
   zaZ yb9 G 9 znd 3 2 [.ptr σ.no 0,.ptr (σ.no+1) 0] [.cell 2 28,.cell 3 33] R (some ev) a τ:=by
  intro ev a τ mc hev a2 a3 A hmc hml he hlt hh
  have hz:∃e,ev=.iface 33 (.int .i64 e)∧(e=2∨e=3∨e=9):=by
   rcases hev with rfl|rfl|rfl
   ·exact⟨2,rfl,by simp⟩
   ·exact⟨3,rfl,by simp⟩
   ·exact⟨9,rfl,by simp⟩
  obtain⟨e,rfl,hz⟩:=hz
  obtain⟨x1,x2,x3,rfl⟩:∃x y z,mc=[x,y,z]:=by
   match mc,hml with
   | [x,y,z],_=>exact⟨x,y,z,rfl⟩
  simp[zaZ,znd,he,hmc,splice,a2,a3]
  exact hh e _ hz ((A.setO (yah _)).setO (by omega))
 have nope:zd3 bs=none→∀e σ',(e=2∨e=3∨e=9)→zd σ σ'→R (.ret (.tuple [zfK,.int .i64 e])) σ':=hn
 simp[zxX,fr0,fr2,fr3,splice,v1]
 refine zpc (hv.keep A1) (by omega) fun v' σ2 hv2 A2=>?_
 obtain⟨β,hbv,hβ⟩:=hv2.bv
 have w1:=hv2.one
 have n2:=A2.no
 have f2:=A2.nf
 simp[w1,splice,fr2,fr3]
 have hR:Rdr σ2.nf β σ2.no ⟨bs,[],0⟩ (σ2.newO [v',.nilsl,.int .i64 0]):=⟨by simp,⟨by omega,by simp⟩,by simpa using ((A1.trans A2).fam 0 h00.1).trans h00.2,hβ,v',.nilsl,by simp,hbv,.inl ⟨rfl,rfl⟩⟩
 refine znO V hR ((A2).newO) (by omega) (by omega) (by simp;omega) (by simp) (fun hq ev σ3 hev A3=>?_) fun m s' hq σ3 mv hm A3 hR3=>?_
 ·simp
  refine hand ev _ σ3 _ hev (by simp[zcM,fr2]) (by simp[zcM,fr3]) (A1.trans A3) ((A3.obj _ (by omega)).trans hm1) rfl ((A3.obj _ (by omega)).trans he1) (by have:=A3.no;omega) (nope (by simp[zd3,hq]))
 obtain⟨z1,z2,z3,y,hy,hyl⟩:=zjA hq hl
 have hdec:zd3 bs=if s'.b=[]∧m.funcs.all zdF=true∧zhk m=true∧zto m=some bs then some m else none:=by simp[zd3,hq]
 have n3:=A3.no
 have f3:=A3.nf
 have hm':=hm
 obtain⟨fv,rfl,hof⟩:=hm'
 have fv1:fv.known=true∧fv.one=true∧fv.cells=[fv]:=by
  rcases hof with ⟨_,rfl⟩|⟨_,_,_,rfl,_⟩<;>simp
 have hm3:=(A3.obj σ.no (by omega)).trans hm1
 have he3:=(A3.obj (σ.no+1) (by omega)).trans he1
 obtain⟨bv,lv,ho3,hbv3,hlv3⟩:=hR3.cells
 have b31:=hbv3.one
 have bl3:=(BV.byt hR3 hbv3).len
 have hx3:=hR3.hx
 have hne:¬σ2.no=σ.no:=by omega
 simp[fr2,fr3,hm3,splice,hne,ho3,b31,bl3,fv1]
 have hmT:Al.ME (σ3.setO σ.no [fv,.int .i64 m.memory,.int .i64 m.main]) σ.nf (.agg [fv,.int .i64 m.memory,.int .i64 m.main]) m:=ztV (τ:=σ3) (by rw[hnf1]at hm;exact hm) (yah _) fun _ _=>rfl
 have AT:zd σ (σ3.setO σ.no [fv,.int .i64 m.memory,.int .i64 m.main]):=(A1.trans A3).setO (yah _)
 have hmo:(σ3.setO σ.no [fv,.int .i64 m.memory,.int .i64 m.main]).objs σ.no=some [fv,.int .i64 m.memory,.int .i64 m.main]:=by simp
 have heo:(σ3.setO σ.no [fv,.int .i64 m.memory,.int .i64 m.main]).objs (σ.no+1)=some [.int .i64 0]:=by simp[he3]
 have hnoT:σ.no+2≤(σ3.setO σ.no [fv,.int .i64 m.memory,.int .i64 m.main]).no:=by simp;omega
 generalize σ3.setO σ.no [fv,.int .i64 m.memory,.int .i64 m.main]=τ at *
 have hfn:=AT.nf
 have hMO:=Al.m_e (σ:=τ) ⟨by omega,(AT.fam 0 h00.1).trans h00.2⟩ hmT
 have bad:∀(a:Nat→AV) (τ':AS),zd3 bs=none→a 2=.ptr σ.no 0→a 3=.ptr (σ.no+1) 0→zd τ τ'→zaZ yb9 G 9 znd 3 2 [.ptr σ.no 0,.ptr (σ.no+1) 0] [.cell 2 28,.cell 3 33] R (some (zDa 2)) a τ':=fun a τ' hq2 a2 a3 A=>hand _ a τ' _ (.inl rfl) a2 a3 (AT.trans A) ((A.obj _ (by omega)).trans hmo) rfl ((A.obj _ (by omega)).trans heo) (by have:=A.no;omega) (nope hq2)
 by_cases c1:s'.b=[]
 ·simp[c1,fr2,fr3,hmo]
  refine zpq hMO (by omega) z1 fun τ4 A4=>?_
  have hm4:=(A4.obj σ.no (by omega)).trans hmo
  cases c2:m.funcs.all zdF with
  | false =>
   simp[c2]
   refine zy (fun q=>by simp at q) (fun _=>?_)
   simp
   exact bad _ _ (by rw[hdec,if_neg (by simp[c2])]) (by simp[zcM,fr2]) (by simp[zcM,fr3]) A4
  | true =>
   simp[c2,fr2,fr3,hm4]
   refine znT (Al.MO.keep hMO A4) (by omega) z1 fun τ5 A5=>?_
   have A45:=A4.trans A5
   have hm5:=(A45.obj σ.no (by omega)).trans hmo
   cases c3:zhk m with
   | false =>
    simp[c3]
    refine zy (fun q=>by simp at q) (fun _=>?_)
    simp
    exact bad _ _ (by rw[hdec,if_neg (by simp[c3])]) (by simp[zcM,fr2]) (by simp[zcM,fr3]) A45
   | true =>
    simp[c3,fr2,fr3,hm5]
    refine zdb V (Al.MO.keep hMO A45) hy hyl z2 z1 z3 fun v6 τ6 h6=>?_
    have A6:=A45.trans h6.2
    have hm6:=(A6.obj σ.no (by omega)).trans hmo
    have he6:=(A6.obj (σ.no+1) (by omega)).trans heo
    simp[fr2,fr3,fr0]
    refine zpb h6.byt (hv.keep (AT.trans A6)) ?_
    by_cases c4:y=bs
    ·simp[c4]
     refine zy (fun _=>?_) (fun q=>by simp at q)
     simp[fr2,fr3,hm6,he6,zaZ,znd,splice,fv1]
     have AA:zd σ ((τ6.setO σ.no [fv,ycp yam m.memory,ycp yam m.main]).setO (σ.no+1) [ycp yam 0]):=((AT.trans A6).setO (yah _)).setO (by omega)
     refine hs m (by rw[hdec,if_pos ⟨c1,c2,c3,by rw[hy,c4]⟩]) _ _ (ztV (τ:=τ) hmT A6.nf fun f hf=>A6.fam f hf) AA
    ·simp[c4]
     refine zy (fun q=>by simp at q) (fun _=>?_)
     simp
     exact bad _ _ (by rw[hdec,if_neg (by rw[hy];simp[c4])]) (by simp[zcM,fr2]) (by simp[zcM,fr3]) A6
 ·simp[c1]
  refine zy (fun q=>by simp at q) (fun _=>?_)
  simp
  exact bad _ _ (by rw[hdec,if_neg (by simp[c1])]) (by simp[zcM,fr2]) (by simp[zcM,fr3]) (.refl _)
end
def zuz(fs:List F)(mem:Int)(s:Ts):Res (M × Ts):=(zaS [zC,zbZ,zhc,zC,zbR] s).bind fun s=>(zbH s).bind fun mn=>(zaS [zh,zh,zh] mn.2).bind fun s =>
  if s.b.all zoX=true then .ok (({ funcs:=fs,memory:=mem,main:=yb4 .i64 (mn.1-3) }:M),s)else .error 2
theorem zkZ(mx:Nat)(s:Ts):zhe mx s=(zaS zc0 s).bind fun s=>(zbH s).bind fun mem=>(zaS [zh,zh] mem.2).bind fun s=>(zar mx (s.b.length+1) [] s).bind fun fs=>zuz fs.1 mem.1 fs.2:=rfl
theorem zqG:∀(k d:Nat) (o:Bool) (l:List W) (s:Ts) (r:Int × List UInt8) (s':Ts),zan k d o l s=.ok (r,s')→s'.ls≠[]
 | 0,_,_,_,_,_,_,h=>by cases h
 | k+1,d,o,l,s,r,s',h=>by
  rw[zan]at h
  obtain⟨p,h1,h2⟩:=bind_some h
  split at h2
  ·cases h2
   simp
  ·obtain⟨q,h3,h4⟩:=bind_some h2
   exact zqG k d o _ _ _ _ h4
theorem ztW{w:List UInt8}{s s':Ts}(h:zhd w s=some s'):s'.b.length≤s.b.length:=by
 unfold zhd at h
 cases e:zep s.b with
 | none=>rw[e]at h;cases h
 | some p =>
  obtain⟨p1,p2⟩:=p
  rw[e]at h
  simp only at h
  split at h
  ·cases e2:zep p2 with
   | none=>rw[e2]at h;cases h
   | some q =>
    obtain⟨q1,q2⟩:=q
    rw[e2]at h
    simp only at h
    split at h
    ·cases h
     have l1:=(zc7 e).1
     have l2:=(zc7 e2).1
     simp only
     omega
    ·cases h
  ·cases h
theorem zgO:∀(k:Nat) (l:List Int) (s:Ts) (r:List Int) (s':Ts),zcz k l s=.ok (r,s')→s'.b.length≤s.b.length
 | 0,_,_,_,_,h=>by cases h
 | k+1,l,s,r,s',h=>by
  rw[zcz]at h
  obtain⟨p,h1,h2⟩:=bind_some h
  have l1:=(zin h1).1
  split at h2
  ·exact yai (zgO k _ _ _ _ h2) l1
  ·split at h2
   ·exact yai (zgO k _ _ _ _ h2) l1
   ·split at h2
    ·cases h2;exact l1
    ·cases h2
theorem zqH{w:List UInt8}{s s':Ts}{l:List Int}(h:zfz w s=.ok (l,s')):s'.b.length≤s.b.length:=by
 unfold zfz at h
 split at h
 ·rename_i s1 e
  exact yai (zgO _ _ _ _ _ h) (ztW e)
 ·cases h;exact yah _
theorem zBV{s s':Ts}{l:Int}(h:zsZ s=.ok (l,s')):s'.b.length≤s.b.length:=by
 unfold zsZ at h
 split at h
 ·rename_i s1 e
  obtain⟨r,h1,h2⟩:=bind_some h
  split at h2
  ·cases h2
   exact yai (zgO _ _ _ _ _ h1) (ztW e)
  ·cases h2
 ·cases h;exact yah _
theorem zn3{mx s f s'}(h:zcP mx s=.ok (f,s')):f.lists≠[]∧s'.b.length≤s.b.length:=by
 rw[ze3]at h
 obtain⟨p,h1,h2⟩:=bind_some h
 split at h2
 ·unfold zwY at h2
  obtain⟨q,h3,h4⟩:=bind_some h2
  unfold zr2 at h4
  obtain⟨r,h5,h6⟩:=bind_some h4
  unfold endF at h6
  obtain⟨u,h7,h8⟩:=bind_some h6
  have hl:=(map_some h8)
  obtain⟨v,h9,h10⟩:=hl
  cases h10
  refine⟨zqG _ _ _ _ _ _ _ h9,?_⟩
  have l1:=(zin h1).1
  have l2:=(zgN _ _ _ _ _ _ _ h9).1
  have l3:=zqH h3
  have l4:=zBV h5
  have l5:=zqH h7
  simp only at l2 l3 l4 l5 l1 ⊢
  omega
 ·cases h2
theorem Wr.famF{base x s τ τ'}(h:Wr base x s τ)(e1:τ'.objs=τ.objs)(e2:τ'.no=τ.no)(e3:τ.nf≤τ'.nf)(e4:∀f,f=0∨zaj τ x f→τ'.F f=τ.F f):Wr base x s τ':=by
 obtain⟨lv,ho,hl⟩:=h.cells
 have hb:=h.hb
 refine⟨by rw[e2];exact h.hx,⟨hb.1,by omega⟩,(e4 0 (.inl rfl)).trans h.h0,h.ok,h.len,lv,by rw[e1];exact ho,?_⟩
 rcases hl with h1|⟨g,tos,rfl,h2,h3,h4,h5⟩
 ·exact .inl h1
 ·exact .inr ⟨g,tos,rfl,h2,by omega,(e4 g (.inr ⟨_,_,ho,rfl,rfl⟩)).trans h4,h5⟩
structure PsW(σ:AS)(base x:Nat)(s:Ts)(fv:AV)(mem mn:Int)(τ:AS):Prop where
 rd:Wr base x s τ
 ad:zd σ τ
 x0:σ.no+2≤x
 b0:σ.nf≤base
 mo:τ.objs σ.no=some [fv,.int .i64 mem,.int .i64 mn]
 eo:τ.objs (σ.no+1)=some [.int .i64 0]
theorem PsW.keepS{σ base x s s' fv mem mn τ τ'}(h:PsW σ base x s fv mem mn τ)(hW:Wr base x s' τ')(K:zK x τ τ'):PsW σ base x s' fv mem mn τ':=by
 have x0:=h.x0
 have hx:=h.rd.hx
 exact⟨hW,K.adds0 h.ad (by omega),h.x0,h.b0,(K.obj _ (by omega) (by omega)).trans h.mo,(K.obj _ (by omega) (by omega)).trans h.eo⟩
theorem PsW.adds{σ base x s fv mem mn τ τ'}(h:PsW σ base x s fv mem mn τ)(A:zd τ τ'):PsW σ base x s fv mem mn τ':=by
 obtain⟨cs,hcs⟩:=h.rd.isSome
 exact h.keepS (h.rd.adds A) (A.keepS h.rd.hx hcs)
theorem PsW.setM{σ base x s fv mem mn fv' mem' mn' τ}(h:PsW σ base x s fv mem mn τ):PsW σ base x s fv' mem' mn' (τ.setO σ.no [fv',.int .i64 mem',.int .i64 mn']):=by
 have x0:=h.x0
 exact⟨h.rd.setO (by omega),h.ad.setO (yah _),h.x0,h.b0,by simp,by simp[h.eo]⟩
section
variable {G : Env} {σ : AS} {R : Out → AS → Prop}
theorem zHk{τ:AS}{e:Int}{a:Nat→AV}{mc:List AV}(a2:a 2=.ptr σ.no 0)(a3:a 3=.ptr (σ.no+1) 0)(A:zd σ τ)(hmc:τ.objs σ.no=some mc)(hml:mc.length=3)(he:τ.objs (σ.no+1)=some [.int .i64 0])
  (hh:∀σ',zd σ σ'→R (.ret (.tuple [zfK,.int .i64 e])) σ'):zaZ yb9 G 9 zhF 3 2 [.ptr σ.no 0,.ptr (σ.no+1) 0] [.cell 2 28,.cell 3 33] R (some (zBM e)) a τ:=by
 obtain⟨x1,x2,x3,rfl⟩:∃x y z,mc=[x,y,z]:=by
  match mc,hml with
  | [x,y,z],_=>exact⟨x,y,z,rfl⟩
 simp[zaZ,zBM,zhF,he,hmc,splice,a2,a3]
 exact hh _ ((A.setO (yah _)).setO (by omega))
theorem PsW.hand{base x s fv mem mn τ}(h:PsW σ base x s fv mem mn τ){τ':AS}(K:zM x τ τ'){e:Int}{a:Nat→AV}(a2:a 2=.ptr σ.no 0)(a3:a 3=.ptr (σ.no+1) 0)
  (hh:∀σ',zd σ σ'→R (.ret (.tuple [zfK,.int .i64 e])) σ'):zaZ yb9 G 9 zhF 3 2 [.ptr σ.no 0,.ptr (σ.no+1) 0] [.cell 2 28,.cell 3 33] R (some (zBM e)) a τ':=by
 have x0:=h.x0
 have b0:=h.b0
 have hx:=h.rd.hx
 have An:=h.ad.no
 have Af:=h.ad.nf
 refine zHk a2 a3 ⟨yai An K.no,yai Af K.nf,fun o ho=>?_,fun f hf=>?_⟩ ((K.obj _ (by omega) (by omega)).trans h.mo) rfl ((K.obj _ (by omega) (by omega)).trans h.eo) hh
 ·rw[K.obj o (by omega) (by omega),h.ad.obj o ho]
 ·rw[K.fam f (by omega) (h.rd.uses (by omega)),h.ad.fam f hf]
theorem ztX:inS zel=zoX:=by
 funext c
 have h:∀i:Fin 256,inS zel (UInt8.ofNat i.1)=zoX (UInt8.ofNat i.1):=by decide
 have:=h ⟨c.toNat,c.toNat_lt⟩
 simpa using this
theorem ztY(V:zc2 G){base x s fv mem fs τ}{a:Nat→AV}(h:PsW σ base x s fv mem 0 τ)(hfs:Al.OutE τ σ.nf fv fs)(a2:a 2=.ptr σ.no 0)(a3:a 3=.ptr (σ.no+1) 0)(a4:a 4=.ptr x 0)
  (hn:∀e,zuz fs mem s=.error e→∀σ',zd σ σ'→R (.ret (.tuple [zfK,.int .i64 e])) σ') (hs:∀m s',zuz fs mem s=.ok (m,s')→∀mv σ',Al.ME σ' σ.nf mv m→zd σ σ'→R (.ret (.tuple [mv,.int .i64 0])) σ') :
  avc yb9 G 45 zgk (aq (zaZ yb9 G 9 zhF 3 2 [.ptr σ.no 0,.ptr (σ.no+1) 0] [.cell 2 28,.cell 3 33] R)) a τ:=by
 have hfv:fv.known=true∧fv.one=true∧fv.cells=[fv]:=by
  rcases hfs with ⟨_,rfl⟩|⟨_,_,_,rfl,_⟩<;>simp
 simp[zgk,a4]
 refine zmv (ts:=[zC,zbZ,zhc,zC,zbR]) h.rd (.inl ⟨true,rfl⟩) (by decide) (fun e q=>?_) (fun s1 q τ1 hW1 K1=>?_)
 ·intro σ' K
  simp
  exact h.hand K (by simp[zcM,a2]) (by simp[zcM,a3]) (hn e (by unfold zuz;rw[q];rfl))
 ·have h1:=h.keepS hW1 K1
  simp[a4]
  refine zmw V hW1 (fun e q2=>?_) (fun n s2 q2 r1 r2 τ2 hW2 K2=>?_)
  ·intro σ' K
   simp
   exact h1.hand K (by simp[zcM,a2]) (by simp[zcM,a3]) (hn e (by unfold zuz;rw[q];simp only[Except.bind];rw[q2]))
  ·have h2:=h1.keepS hW2 K2
   have mo2:=h2.mo
   simp[a2,a4,mo2,splice]
   have h3:=h2.setM (fv':=fv) (mem':=mem) (mn':=yb4 .i64 (n-3))
   have F3:(τ2.setO σ.no [fv,.int .i64 mem,.int .i64 (yb4 .i64 (n-3))]).F=τ2.F:=rfl
   have N3:(τ2.setO σ.no [fv,.int .i64 mem,.int .i64 (yb4 .i64 (n-3))]).nf=τ2.nf:=rfl
   generalize τ2.setO σ.no [fv,.int .i64 mem,.int .i64 (yb4 .i64 (n-3))]=τ3 at *
   refine zmv (ts:=[zh,zh,zh]) h3.rd (.inl ⟨true,rfl⟩) (by decide) (fun e q3=>?_) (fun s4 q3 τ4 hW4 K4=>?_)
   ·intro σ' K
    simp
    exact h3.hand K (by simp[zcM,a2]) (by simp[zcM,a3]) (hn e (by unfold zuz;rw[q];simp only[Except.bind];rw[q2];simp only;rw[q3]))
   ·have h4:=h3.keepS hW4 K4
    obtain⟨lv4,ho4,hlv4⟩:=hW4.cells
    have hmod:zuz fs mem s=if s4.b.all zoX=true then .ok (({ funcs:=fs,memory:=mem,main:=yb4 .i64 (n-3) }:M),s4)else .error 2:=by
     unfold zuz;rw[q];simp only[Except.bind];rw[q2];simp only;rw[q3]
    have hl4:=hW4.len
    simp[a4,ho4]
    refine zhp (l:=zel) (by decide) (by decide) (by decide) (by omega) fun τ5 A5=>?_
    have h5:=h4.adds A5
    by_cases hall:s4.b.all zoX=true
    ·rw[if_pos hall]at hmod
     have e:znW zel s4.b=[]:=(zdK _ _).2 (by rw[ztX];exact hall)
     simp[e]
     refine zam (fun _=>?_) (fun q=>by cases q)
     have mo5:=h5.mo
     have eo5:=h5.eo
     simp[a2,a3,mo5,eo5,splice,zaZ,zhF,hfv]
     have n1:=K1.nf
     have n2:=K2.nf
     have n4:=K4.nf
     have n5:=A5.nf
     have hfs5:Al.OutE τ5 σ.nf fv fs:=zhq hfs (by omega) fun f hf=>by
      rw[A5.fam f (by omega),K4.fam f (by omega),F3,K2.fam f (by omega),K1.fam f hf]
     have A6:zd σ ((τ5.setO σ.no [fv,.int .i64 mem,.int .i64 (yb4 .i64 (n-3))]).setO (σ.no+1) [.int .i64 0]):=(h5.ad.setO (yah _)).setO (by omega)
     exact hs _ _ hmod _ _ ⟨fv,rfl,zhq hfs5 (yah _) fun f _=>rfl⟩ A6
    ·rw[if_neg hall]at hmod
     have e:¬znW zel s4.b=[]:=fun q=>hall (by rw[←ztX];exact(zdK _ _).1 q)
     simp[e]
     refine zam (fun q=>by cases q) (fun _=>?_)
     simp
     exact h5.hand (.refl ..) (by simp[zcM,a2]) (by simp[zcM,a3]) (hn 2 hmod)
end
theorem ztZ{el:Option TypeId}{bsz base:Nat}{τ0 τ:AS}{v row:AV}{l:List F}{f:F}{gN:Nat}{K:AV→AS→Prop}(h:Al.OutE τ0 base v l)(hrow:Al.FVE row (f,gN))(hn:τ0.nf≤τ.nf)(hF:∀g,g<τ0.nf→τ.F g=τ0.F g)(hb:base≤τ0.nf)(g1:τ0.nf≤gN)(g2:gN<τ.nf)(g3:τ.F gN=.alive)
  (hl:(l.length+1)*bsz≤2^47) (hK:∀v' τ',Al.OutE τ' base v' (l++[f])→τ'.objs=τ.objs→τ'.no=τ.no→τ'.nf=τ.nf+1→(∀g,g<τ.nf→g<base∨τ0.nf≤g→τ'.F g=τ.F g)→K v' τ'):zbb el bsz 5 v [row] τ K:=by
 have hrc:row.cells.length=5:=zgH hrow
 rcases h with ⟨rfl,rfl⟩|⟨g,rows,ps,rfl,h1,h2,h3,h4,h5,h6⟩
 ·have hne:¬gN=τ.nf:=by omega
  have:=hK (.sl (.fam τ.nf false) 5 [row]) τ.newF (.inr ⟨τ.nf,[row],[(f,gN)],rfl,by omega,by simp,by simp,rfl,.cons hrow .nil,⟨by simp,fun x hx=>by
   simp only[yaL,ydb,ycD]at hx
   subst hx
   exact⟨by omega,by simp;omega,by simp[hne,g3],hne⟩⟩⟩) (by simp) (by simp) (by simp) (fun g' a _=>by
    have:¬g'=τ.nf:=by omega
    simp[this])
  simp at hl
  simp
  first|exact this|exact⟨by omega,this⟩
 ·have hgg:¬g=τ.nf:=by omega
  have hne:¬gN=τ.nf:=by omega
  have hng:¬gN=g:=by omega
  have ha:τ.F g=.alive:=(hF g h2).trans h3
  have hlen:rows.length=l.length:=by rw[h5.length,←h4];simp
  have:=hK (.sl (.fam τ.nf false) 5 (rows++[row])) (τ.setF g .dead).newF (.inr ⟨τ.nf,rows++[row],ps++[(f,gN)],rfl,by omega,by simp,by simp,by simp[h4],h5.append (.cons hrow .nil),⟨by
   rw[ycI,ybK]
   refine⟨h6.nd,by simp,fun a ha b hb=>?_⟩
   simp only[yaL,ydb,ycD]at hb
   have:=(h6.each a ha).2.1
   omega,fun x hx=>by
   rw[ycI,ybh]at hx
   rcases hx with hx|hx
   ·obtain⟨q1,q2,q3,q4⟩:=h6.each x hx
    have e1:¬x=τ.nf:=by omega
    exact⟨q1,by simp;omega,by simp[e1,q4,(hF x q2).trans q3],e1⟩
   ·simp only[yaL,ydb,ycD]at hx
    subst hx
    exact⟨by omega,by simp;omega,by simp[hne,hng,g3],hne⟩⟩⟩) (by simp) (by simp) (by simp) (fun g' a b=>by
    have e1:¬g'=τ.nf:=by omega
    have e2:¬g'=g:=by omega
    simp[e1,e2])
  simp[ha]
  exact⟨by rw[hlen];exact hl,this⟩
section
variable {G : Env} {σ : AS} {R : Out → AS → Prop}
theorem zmy{τ base v l}(h:Al.OutE τ base v l):v.known=true∧v.one=true∧v.cells=[v]:=by
 rcases h with ⟨_,rfl⟩|⟨_,_,_,rfl,_⟩<;>simp
def PlI(σ:AS)(base x:Nat)(mem:Int)(k0:Nat)(s0:Ts)(a:Nat→AV)(τ:AS):Prop:=∃(k:Nat) (l:List F) (s:Ts) (fv:AV),zar 24 k0 [] s0=zar 24 k l s∧s.b.length<k∧l.length+s.b.length≤s0.b.length∧PsW σ base x s fv mem 0 τ∧Al.OutE τ σ.nf fv l∧a 2=.ptr σ.no 0∧a 3=.ptr (σ.no+1) 0∧a 4=.ptr x 0
theorem zBW{w:List UInt8}{s s':Ts}(h:zhd w s=some s'):s'.b.length+1≤s.b.length:=by
 unfold zhd at h
 cases e:zep s.b with
 | none=>rw[e]at h;cases h
 | some p =>
  obtain⟨p1,p2⟩:=p
  rw[e]at h
  simp only at h
  split at h
  ·cases e2:zep p2 with
   | none=>rw[e2]at h;cases h
   | some q =>
    obtain⟨q1,q2⟩:=q
    rw[e2]at h
    simp only at h
    split at h
    ·cases h
     have l1:=zc7 e
     have l2:=(zc7 e2).1
     have:=ybm.2 l1.2
     simp only
     omega
    ·cases h
  ·cases h
theorem zrQ(V:zc2 G)(h00:0<σ.nf){base x k0 s0 mem}(hs36:s0.b.length<2^36)(hn:∀e,((zar 24 k0 [] s0).bind fun fs=>zuz fs.1 mem fs.2)=.error e→∀σ',zd σ σ'→R (.ret (.tuple [zfK,.int .i64 e])) σ')
  (hs:∀m s',((zar 24 k0 [] s0).bind fun fs=>zuz fs.1 mem fs.2)=.ok (m,s')→∀mv σ',Al.ME σ' σ.nf mv m→zd σ σ'→R (.ret (.tuple [mv,.int .i64 0])) σ') {a:Nat→AV} {τ:AS} (hI:PlI σ base x mem k0 s0 a τ) :
  avc yb9 G 45 ziV (z7 (fun a' σ'=>PlI σ base x mem k0 s0 a' σ'∧MBt x a' σ'<MBt x a τ) (z8 0 (z7 (avc yb9 G 45 zgk (aq (zaZ yb9 G 9 zhF 3 2 [.ptr σ.no 0,.ptr (σ.no+1) 0] [.cell 2 28,.cell 3 33] R))) (aq (zaZ yb9 G 9 zhF 3 2 [.ptr σ.no 0,.ptr (σ.no+1) 0] [.cell 2 28,.cell 3 33] R))))) a τ:=by
 obtain⟨k,l,s,fv,he,hk,hlb,hP,hO,a2,a3,a4⟩:=hI
 obtain⟨k,rfl⟩:∃j,k=j+1:=⟨k-1,by omega⟩
 have hmb:=zfJ hP.rd a
 rw[zar]at he
 simp[ziV,a4]
 refine zwS (w:=zbR) hP.rd (by decide) (fun q τ1 hW1 K1=>?_) (fun s1 q τ1 hW1 K1=>?_)
 ·have hP1:=hP.keepS hW1 K1
  have hO1:=zhq hO K1.nf fun f hf=>K1.fam f hf
  rw[q]at he
  simp only at he
  rw[he]at hn hs
  simp
  exact ztY V hP1 hO1 (by simp[a2]) (by simp[a3]) (by simp[a4]) hn hs
 ·have hP1:=hP.keepS hW1 K1
  have hO1:=zhq hO K1.nf fun f hf=>K1.fam f hf
  rw[q]at he
  simp only at he
  have mo1:=hP1.mo
  have hlt:=zBW q
  have f1:=zmy hO1
  simp[a2,a4,mo1,f1]
  refine zrP V hW1 (fun e q2=>?_) ?_
  ·intro σ' K
   simp
   exact hP1.hand K (by simp[zcM,a2]) (by simp[zcM,a3]) (hn e (by rw[he,q2];rfl))
  ·intro f s2 q2 pv lv tv τ2 hp hl hW2 hx2 KF hfam hls
   rw[q2]at he
   simp only[Except.bind]at he
   have x0:=hP.x0
   have hx1:=hW1.hx
   have mo2:=(KF.obj σ.no (by omega) (by omega) (by omega)).trans mo1
   have eo2:=(KF.obj (σ.no+1) (by omega) (by omega) (by omega)).trans hP1.eo
   have p1:=hp.one
   have l1:=hl.one
   obtain⟨lv2,ho2,htv⟩:=hW2.cells
   rw[hx2]at ho2
   cases ho2
   have t1:=htv.one
   have hne:=zn3 q2
   have An:=hP1.ad.nf
   have Ad2:zd σ τ2:=KF.adds0 hP1.ad (by omega) (by omega)
   rw[hls]at htv
   rcases htv with ⟨h0,_⟩|⟨gN,tos,rfl,t2,t3,t4,t5⟩
   ·exact absurd h0 hne.1
   ·have hgN:τ1.nf≤gN:=hfam gN rfl
    have hrow:Al.FVE (.agg [.str f.name,pv,lv,.int .i64 f.type,.sl (.fam gN false) 1 tos]) (f,gN):=⟨pv,lv,_,rfl,hp,hl,.inr ⟨tos,rfl,t5⟩⟩
    simp[mo2,f1,p1,l1,a2]
    have hlen2:l.length≤2^36:=by omega
    refine ztZ hO1 hrow KF.nf KF.fam An hgN t3 t4 (by omega) fun v' τ' O' e1 e2 e3 e4=>?_
    have g1:=zmy O'
    have mo3:τ'.objs σ.no=some [fv,.int .i64 mem,.int .i64 0]:=by rw[e1];exact mo2
    have eo3:τ'.objs (σ.no+1)=some [.int .i64 0]:=by rw[e1];exact eo2
    have kn:=KF.nf
    have hW3:Wr base x s2 τ':=hW2.famF e1 e2 (by omega) fun f' hf'=>by
     rcases hf' with rfl|⟨cs,w,u1,u2,u3⟩
     ·exact e4 0 (by omega) (.inl h00)
     ·rw[hx2]at u1
      cases u1
      simp at u2
      subst u2
      cases u3
      exact e4 gN t3 (.inr hgN)
    have An2:=Ad2.no
    have Af2:=Ad2.nf
    have Ad3:zd σ τ':=⟨by omega,by omega,fun o ho=>by rw[e1];exact Ad2.obj o ho,fun f' hf'=>(e4 f' (by omega) (.inl hf')).trans (Ad2.fam f' hf')⟩
    have hP3:PsW σ base x s2 fv mem 0 τ':=⟨hW3,Ad3,x0,hP.b0,mo3,eo3⟩
    have hP4:=hP3.setM (fv':=v') (mem':=mem) (mn':=0)
    have O4:Al.OutE (τ'.setO σ.no [v',.int .i64 mem,.int .i64 0]) σ.nf v' (l++[f]):=zhq O' (yah _) fun _ _=>rfl
    simp[mo3,splice,g1,a2]
    refine⟨⟨k,l++[f],s2,v',he,by omega,by simp;omega,hP4,O4,by simp[a2],by simp[a3],by simp[a4]⟩,?_⟩
    rw[zfJ hP4.rd,hmb]
    omega
theorem zBX(V:zc2 G)(h00:0<σ.nf∧σ.F 0=.alive){b:List UInt8}(hok:zpv b)(hl:b.length<2^36)
  (hn:∀e,zni 24 b=.error e→∀σ',zd σ σ'→R (.ret (.tuple [zfK,.int .i64 e])) σ')
  (hs:∀m,zni 24 b=.ok m→∀mv σ',Al.ME σ' σ.nf mv m→zd σ σ'→R (.ret (.tuple [mv,.int .i64 0])) σ'):zzQ G 19 [.str b] σ R:=by
 refine zdf (px:=zxZ) (pz:=zx0) (k:=55) (py:=zhF) (n:=45) (nk:=9) (t:=5) (d0:=3) (d1:=2) (res:=[.cell 2 28,.cell 3 33]) zi Tryz.func19 rfl rfl rfl rfl (by kernel_rfl) (by kernel_rfl) (by simp) rfl rfl rfl rfl rfl rfl (by decide) Tryz.func55 rfl (by kernel_rfl) rfl rfl rfl rfl rfl rfl rfl rfl rfl (by kernel_rfl) (by decide) (by decide) (by decide) ?_
 have hpe:zni 24 b=(zhe 24 ⟨b,[]⟩).map (·.1):=rfl
 have hn':∀e,zhe 24 ⟨b,[]⟩=.error e→∀σ',zd σ σ'→R (.ret (.tuple [zfK,.int .i64 e])) σ':=fun e q=>hn e (by rw[hpe,q];rfl)
 have hs':∀m s',zhe 24 ⟨b,[]⟩=.ok (m,s')→∀mv σ',Al.ME σ' σ.nf mv m→zd σ σ'→R (.ret (.tuple [mv,.int .i64 0])) σ':=fun m s' q=>hs m (by rw[hpe,q];rfl)
 clear hn hs hpe
 simp[zxZ]
 have ecap:List.map (ev G (upd (upd (zbG [.str b]) 2 (ycs σ.no 0)) 3 (ycs (σ.no+1) 0))) #[Operand.tmp 2,Operand.tmp 3].toList=[.ptr σ.no 0,.ptr (σ.no+1) 0]:=rfl
 rw[ecap]
 generalize hfr:upd (upd (upd (zbG [.str b]) 2 (ycs σ.no 0)) 3 (ycs (σ.no+1) 0)) 5 (AV.fn (Fn.func 55) [] [ycs σ.no 0,ycs (σ.no+1) 0])=fr
 have fr0:fr 0=.str b:=by rw[←hfr];simp
 have fr2:fr 2=.ptr σ.no 0:=by rw[←hfr];simp
 have fr3:fr 3=.ptr (σ.no+1) 0:=by rw[←hfr];simp
 rw[zkZ]at hs'
 simp only[zkZ]at hn'
 simp[zx0,fr0,splice]
 have hP:PsW σ σ.nf (σ.no+1+1) ⟨b,[]⟩ .nilsl 0 0 (((σ.newO [ycv,ycp yam 0,ycp yam 0]).newO [ycp yam 0]).newO [yco b,ycv]) :=
  ⟨⟨by simp,⟨by simpa using h00.1,by simp⟩,by simpa using h00.2,hok,hl,.nilsl,by simp,.inl ⟨rfl,rfl⟩⟩,(zd.refl σ).newO.newO.newO,by omega,yah _,by
   have:¬σ.no=σ.no+1+1:=by omega
   simp[this],by simp⟩
 have hno:(((σ.newO [ycv,ycp yam 0,ycp yam 0]).newO [ycp yam 0]).newO [yco b,ycv]).no=σ.no+1+1+1:=by simp
 have hnf:(((σ.newO [ycv,ycp yam 0,ycp yam 0]).newO [ycp yam 0]).newO [yco b,ycv]).nf=σ.nf:=by simp
 generalize ((σ.newO [ycv,ycp yam 0,ycp yam 0]).newO [ycp yam 0]).newO [yco b,ycv]=τ0 at *
 refine Hd.fields_calls V.space fun y σ' A y1 y2 y3=>?_
 have hP1:=hP.adds A
 simp
 refine zmv (ts:=zc0) hP1.rd (.inr ⟨y,rfl,y2,by omega,y3⟩) (by decide) (fun e q=>?_) (fun s1 q τ1 hW1 K1=>?_)
 ·intro σ'' K
  simp
  exact hP1.hand K (by simp[zcM,fr2]) (by simp[zcM,fr3]) (hn' e (by rw[q];rfl))
 ·have hP2:=hP1.keepS hW1 K1
  rw[q]at hs'
  simp only[q,Except.bind]at hn' hs'
  simp
  refine zmw V hW1 (fun e q2=>?_) (fun mem s2 q2 r1 r2 τ2 hW2 K2=>?_)
  ·intro σ'' K
   simp
   exact hP2.hand K (by simp[zcM,fr2]) (by simp[zcM,fr3]) (hn' e (by rw[q2]))
  ·have hP3:=hP2.keepS hW2 K2
   rw[q2]at hs'
   simp only[q2]at hn' hs'
   have mo3:=hP3.mo
   simp[fr2,mo3,splice]
   have hP4:=hP3.setM (fv':=.nilsl) (mem':=mem) (mn':=0)
   generalize τ2.setO σ.no [.nilsl,.int .i64 mem,.int .i64 0]=τ3 at *
   refine zmv (ts:=[zh,zh]) hP4.rd (.inl ⟨true,rfl⟩) (by decide) (fun e q3=>?_) (fun s4 q3 τ4 hW4 K4=>?_)
   ·intro σ'' K
    simp
    exact hP4.hand K (by simp[zcM,fr2]) (by simp[zcM,fr3]) (hn' e (by rw[q3]))
   ·have hP5:=hP4.keepS hW4 K4
    rw[q3]at hs'
    simp only[q3]at hn' hs'
    simp
    refine zH (PlI σ σ.nf (σ.no+1+1) mem (s4.b.length+1) s4) (MBt (σ.no+1+1)) ⟨s4.b.length+1,[],s4,.nilsl,rfl,by omega,by simp,hP5,.inl ⟨rfl,rfl⟩,by simp[fr2],by simp[fr3],by simp⟩ fun a τ hI=>?_
    exact zrQ V h00.1 hW4.len hn' hs' hI
end
end Go.Proofs.YtohfclafhegadaaGreatDoor
namespace Go.Proofs.YtohfclafhegadaaGreatDoor
open Go Go.Abs Go.Shelf Go.RowKit
theorem zHl:liesAt yb9 yb9.depth 88 (2/yb9.cellsOf 88) 0 86 1=true:=by kernel_rfl
theorem u84:yb9.underlying 84=some (.pointer 86):=by kernel_rfl
theorem zNY:yb9.underlying 244=some .unsafePointer:=by kernel_rfl
theorem zym:(yb9.info? 86).map (·.size)=some 2:=by kernel_rfl
set_option maxHeartbeats 1000000 in
theorem zBY(b:Nat)(w:World)(h0:w.cell? ⟨b,0,none⟩=some (.pointer (some ⟨b,0,none⟩))):
  Calls yb9 175 #[.pointer (some ⟨b,0,none⟩)] w fun e w'=>e=.returned (.tuple #[])∧w'=w:=by
 obtain⟨j,hj,_⟩:=ybB.1 zym
 go_enter ydq,ydr
 go_wp2
 rw[Lib.run_neq_ptr_same w _ u84 hj]
 go_wp2
 go_end0
 exact⟨rfl,rfl⟩
set_option maxHeartbeats 1000000 in
theorem zw0(b:Nat)(w:World)(h0:w.cell? ⟨b,0,none⟩=some (.pointer none))(hsh:w.shape? b=some (88,2))(hfz:w.frozen? ⟨b,0,none⟩=false):
  Calls yb9 175 #[.pointer (some ⟨b,0,none⟩)] w fun e w'=>e=.returned (.tuple #[])∧w'=w.setCell ⟨b,0,none⟩ (.pointer (some ⟨b,0,none⟩)):=by
 obtain⟨j,hj,hjs⟩:=ybB.1 zym
 go_enter ydq,ydr
 go_wp2
 rw[Lib.run_to_unsafe w ⟨b,0,none⟩ u84 zNY hj (by rw[hjs];decide) hsh (Nat.zero_lt_succ 1)]
 simp only[Result.andThen]
 rw[Oper.upon_value]
 go_wp2
 rw[run_callFunc_extern Tryz.func211 (by kernel_rfl) (by kernel_rfl) (by kernel_rfl) (e:=Extern.AbiNoEscape.same) (by kernel_rfl)]
 rw[Lib.run_noEscape]
 simp only[Result.andThen]
 rw[Oper.upon_value]
 go_wp2
 rw[Lib.run_from_unsafe w ⟨b,0,none⟩ zNY u84 hj hsh zHl]
 simp only[Result.andThen]
 rw[Oper.upon_value]
 go_wp2
 go_end0
 exact⟨rfl,rfl⟩
section
variable {G : Env} {σ : AS} {R : Out → AS → Prop}
def zHm(o:Nat)(v:AV):Prop:=v=.nilp∨v=.pt 88 2 o 0
theorem zjL{o:Nat}{v u:AV}(ho:σ.objs o=some [v,u])(hv:zHm o v)(h:∀σ',σ'=σ.setO o [.pt 88 2 o 0,u]→R (.ret (.tuple [])) σ'):zzQ G 175 [.pt 88 2 o 0] σ R:=by
 intro M w cargs S g hc
 obtain⟨c,rfl,hcv⟩:=zBL hc
 obtain⟨q1,q2,⟨cc,z,q3,q4⟩,rfl⟩:=zpH hcv
 obtain⟨r1,r2,r3⟩:=S.obj o _ ho
 obtain⟨c0,s1,s2,s3⟩:=r3 0 (by simp)
 rw[q2]at s1 s2
 simp only[ycX,yaK]at s1 s2
 have hpt:VR M σ.F w (.pt 88 2 o 0) (.pointer (some ⟨(M.obj o).1,0,none⟩)):=hcv
 rcases hv with rfl|rfl
 ·have hc0:c0=.pointer none:=by
   simp only[yaz]at s3
   cases s3
   rfl
  subst hc0
  have hsh:w.shape? (M.obj o).1=some (88,2):=by simp[World.shape?,q3,q4]
  refine(zw0 _ w s1 hsh s2).mono fun e w' ⟨he,hw⟩=>?_
  subst he
  obtain⟨w2,hrun,S',E'⟩:=zmW (P:=yb9) S ho (off:=0) (vs:=[.pt 88 2 o 0]) (l:=[.pointer (some ⟨(M.obj o).1,0,none⟩)]) (by simp) rfl (by simp[Value.oneCell']) (fun j h1 h2=>by
   have:j=0:=by simp at h1;omega
   subst this
   exact hpt)
  have hw2:w2=w':=by
   have hrun2:=run_storeCells_cells (P:=yb9) (M.obj o).1 ((M.obj o).2+0) [.pointer (some ⟨(M.obj o).1,0,none⟩)] 0 w (fun j hj=>by
    have:j=0:=by simp at hj;omega
    subst this
    rw[q2]
    simp only[ycX,yaK]
    rw[s1];rfl) (fun j hj=>by
    have:j=0:=by simp at hj;omega
    subst this
    rw[q2]
    simpa using s2) (by simp[Value.oneCell'])
   rw[hrun2]at hrun
   cases hrun
   rw[hw,q2]
   rfl
  subst hw2
  refine⟨.ret (.tuple []),_,M,h _ ?_,.tuple _ _ rfl (fun j h=>absurd h (yaA _)),S',E'⟩
  simp[splice]
 ·have hc0:c0=.pointer (some ⟨(M.obj o).1,0,none⟩):=by
   simp only[yaz]at s3
   exact(zpH s3).2.2.2
  subst hc0
  refine(zBY _ w s1).mono fun e w' ⟨he,hw⟩=>?_
  subst he hw
  have e1:σ.setO o [.pt 88 2 o 0,u]=σ:=by
   unfold AS.setO
   have:upd σ.objs o (some [.pt 88 2 o 0,u])=σ.objs:=by
    funext x
    by_cases hx:x=o
    ·subst hx;simp[ho]
    ·simp[hx]
   rw[this]
  refine⟨.ret (.tuple []),σ,M,h _ e1.symm,.tuple _ _ rfl (fun j h=>absurd h (yaA _)),S,.refl ..⟩
end
theorem zHn{P:Program}{G:Env}{f:FuncId}{args:List AV}{σ:AS}{R:Out→AS→Prop}{o i:Nat}{cs:List AV}{e:Nat}(ho:σ.objs o=some cs)(hi:cs[i]?=some .nilsl)(h:ACalls P G f args (σ.setO o (splice cs i [.tys e .nilsl])) R):ACalls P G f args σ R:=by
 intro M w cargs S g c
 have hil:i<cs.length:=(List.getElem?_eq_some_iff.1 hi).1
 have hb:i+[AV.tys e .nilsl].length≤cs.length:=by simp only[yac,ybl];omega
 have S':Sim M (σ.setO o (splice cs i [.tys e .nilsl])) w:=by
  refine⟨S.no,S.nf,S.role,fun x cs' hx=>?_,fun x y hx hy hxy=>?_⟩
  ·by_cases hxo:x=o
   ·subst hxo
    simp only[AS.setO,zf]at hx
    cases hx
    obtain⟨a1,a2,a3⟩:=S.obj x cs ho
    refine⟨a1,a2,fun j hj=>?_⟩
    have hj':j<cs.length:=by rwa [zcA hb]at hj
    obtain⟨u,h1,h2,h3⟩:=a3 j hj'
    refine⟨u,h1,h2,?_⟩
    have e1:=zcI (cs:=cs) (vs:=[AV.tys e .nilsl]) (off:=i) (j:=j) hb
    rw[yau hj]at e1
    by_cases hji:j=i
    ·subst hji
     rw[if_pos (by simp)]at e1
     simp only[Nat.sub_self,List.getElem?_cons_zero,yaR.injEq]at e1
     rw[e1]
     have e2:cs[j]=.nilsl:=by
      rw[yau hj']at hi
      exact yaR.inj hi
     rw[e2]at h3
     have e3:=zbe h3
     subst e3
     exact .tys e .nilsl _ h3 trivial
    ·rw[if_neg (by simp only[yac,ybl];omega),yau hj']at e1
     rw[yaR.inj e1]
     exact h3
   ·simp only[AS.setO]at hx
    rw[zg _ _ hxo]at hx
    exact S.obj x cs' hx
  ·have key:∀z,((σ.setO o (splice cs i [.tys e .nilsl])).objs z).isSome=true→(σ.objs z).isSome=true:=by
    intro z hz
    by_cases hzo:z=o
    ·subst hzo;rw[ho];rfl
    ·simp only[AS.setO]at hz;rwa [zg _ _ hzo]at hz
   exact S.inj x y (key x hx) (key y hy) hxy
 exact h M w cargs S' g c
theorem zOm:yb9.underlying 160=some (.pointer 5):=by kernel_rfl
theorem zHo:yb9.cellsOf 5=1:=by kernel_rfl
def zyn(σ0 σ:AS)(v:AV)(bs:List UInt8):Prop:=(bs=[]∧v=.tys 5 .nilsl)∨∃g,v=.tys 5 (.sl (.fam g false) 1 (B bs))∧σ0.nf≤g∧g<σ.nf∧σ.F g=.alive∧bs≠[]
theorem zyn.one{σ0 σ v bs}(h:zyn σ0 σ v bs):v.known=true∧v.one=true∧v.cells=[v]:=by
 rcases h with ⟨_,rfl⟩|⟨g,rfl,_⟩<;>simp
structure Pw(σ0:AS)(x:Nat)(bs:List UInt8)(τ:AS):Prop where
 x0:σ0.no≤x
 hx:x<τ.no
 ad:zd σ0 τ
 cells:∃hd v,τ.objs x=some [hd,v]∧zHm x hd∧zyn σ0 τ v bs
structure PwK(x:Nat)(τ τ':AS):Prop where
 no:τ.no≤τ'.no
 obj:∀o,o<τ.no→o≠x→τ'.objs o=τ.objs o
theorem PwK.refl(x τ):PwK x τ τ:=⟨yah _,fun _ _ _=>rfl⟩
theorem PwK.trans{x a b c}(h:PwK x a b)(k:PwK x b c):PwK x a c:=⟨yai h.no k.no,fun o h1 h2=>(k.obj o (yag h1 h.no) h2).trans (h.obj o h1 h2)⟩
theorem zd.pwk{x a b}(A:zd a b):PwK x a b:=⟨A.no,fun o h _=>A.obj o h⟩
theorem PwK.set{x a b cs}(h:PwK x a b):PwK x a (b.setO x cs):=⟨h.no,fun o h1 h2=>by
 simp[h2]
 exact h.obj o h1 h2⟩
theorem Pw.adds{σ0 x bs τ τ'}(h:Pw σ0 x bs τ)(A:zd τ τ'):Pw σ0 x bs τ':=by
 obtain⟨hd,v,h1,h2,h3⟩:=h.cells
 refine⟨h.x0,yag h.hx A.no,h.ad.trans A,hd,v,(A.obj x h.hx).trans h1,h2,?_⟩
 rcases h3 with h3|⟨g,q1,q2,q3,q4,q5⟩
 ·exact .inl h3
 ·exact .inr ⟨g,q1,q2,yag q3 A.nf,(A.fam g q3).trans q4,q5⟩
section
variable {G : Env} {σ : AS} {R : Out → AS → Prop}
theorem zMf{σ0 x bs}(h:Pw σ0 x bs σ)(hl:bs.length<2^60)(hR:R (.ret (.int .i64 (bs.length:Int))) σ):zzQ G 127 [.pt 88 2 x 0] σ R:=by
 obtain⟨hd,v,h1,h2,h3⟩:=h.cells
 refine zvu rfl ?_
 rcases h3 with ⟨rfl,rfl⟩|⟨g,rfl,q2,q3,q4,q5⟩
 ·simp[zBa,h1]
  exact hR
 ·simp[zBa,h1]
  simpa [B]using hR
theorem zOn:elT yb9 32=some 5:=by kernel_rfl
theorem zyo{σ0 τ:AS}{v:AV}{bs w:List UInt8}{K:AV→AS→Prop}(hb:zyn σ0 τ v bs)(A:zd σ0 τ)(hl:bs.length+w.length<2^46)
  (h:∀v' τ',zyn σ0 τ' v' (bs++w)→τ'.objs=τ.objs→τ'.no=τ.no→zd σ0 τ'→K v' τ'):zbb (elT yb9 32) 1 1 v (B w) τ K:=by
 have An:=A.nf
 have Bl:(B w).length=w.length:=by simp[B]
 have Bb:(B bs).length=bs.length:=by simp[B]
 have Ba:B (bs++w)=B bs++B w:=by simp[B]
 rw[zOn]
 rcases hb with ⟨rfl,rfl⟩|⟨g,rfl,q2,q3,q4,q5⟩
 ·rw[zlo]
  refine⟨rfl,by rw[Bl];simp at hl;omega,fun e=>?_,fun e=>?_⟩
  ·have hw:w=[]:=by
    cases w with
    | nil=>rfl
    | cons c r=>simp[B]at e
   subst hw
   exact h _ _ (.inl ⟨rfl,rfl⟩) rfl rfl A
  ·have hw:w≠[]:=fun q=>e (by rw[q];rfl)
   exact h _ _ (.inr ⟨τ.nf,rfl,An,by simp,by simp,by simpa using hw⟩) (by simp) (by simp) A.newF
 ·rw[zlp]
  refine⟨rfl,rfl,by rw[Bl,Bb];omega,q4,?_⟩
  refine h _ _ (.inr ⟨τ.nf,by rw[Ba],An,by simp,by simp,by simp[q5]⟩) (by simp) (by simp) ?_
  exact⟨A.no,by simp;omega,fun o ho=>A.obj o ho,fun f hf=>by
   have h1:¬f=τ.nf:=by omega
   have h2:¬f=g:=by omega
   simp[h1,h2]
   exact A.fam f hf⟩
theorem Pw.head{σ0 x bs τ hd v}(h:Pw σ0 x bs τ)(h1:τ.objs x=some [hd,v])(h3:zyn σ0 τ v bs):Pw σ0 x bs (τ.setO x [.pt 88 2 x 0,v]) :=
 ⟨h.x0,h.hx,h.ad.setO h.x0,_,v,by simp,.inr rfl,h3⟩
theorem zgP{σ0 x bs w}(h:Pw σ0 x bs σ)(hl:bs.length+w.length<2^46)(hR:∀σ' v,Pw σ0 x (bs++w) σ'→PwK x σ σ'→R (.ret v) σ'):zzQ G 129 [.pt 88 2 x 0,.str w] σ R:=by
 obtain⟨hd,v,h1,h2,h3⟩:=h.cells
 have v1:=h3.one
 refine zvw rfl ?_
 simp[zEE]
 refine zjL h1 h2 fun σ1 e1=>?_
 have hx1:σ1.objs x=some [.pt 88 2 x 0,v]:=by rw[e1];simp
 have hP1:Pw σ0 x bs σ1:=by rw[e1];exact h.head h1 h3
 have K1:PwK x σ σ1:=by rw[e1];exact(PwK.refl x σ).set
 have h31:zyn σ0 σ1 v bs:=by rw[e1];exact h3
 simp[hx1,v1]
 refine zyo h31 hP1.ad hl fun v' τ' b' o' n' A'=>?_
 have v1':=b'.one
 have hx2:τ'.objs x=some [.pt 88 2 x 0,v]:=by rw[o'];exact hx1
 have hlt:=hP1.hx
 simp[hx2,v1',splice]
 refine hR _ _ ⟨hP1.x0,by simp;omega,A'.setO hP1.x0,_,v',by simp,.inr rfl,?_⟩ (K1.trans (PwK.set ⟨by omega,fun o q1 q2=>by rw[o']⟩))
 exact b'
theorem zpz{σ0 x bs}{c:UInt8}(h:Pw σ0 x bs σ)(hl:bs.length+1<2^46)(hR:∀σ' v,Pw σ0 x (bs++[c]) σ'→PwK x σ σ'→R (.ret v) σ'):zzQ G 128 [.pt 88 2 x 0,.int .u8 (c.toNat:Int)] σ R:=by
 obtain⟨hd,v,h1,h2,h3⟩:=h.cells
 have v1:=h3.one
 refine zvv rfl ?_
 simp[zED]
 refine zjL h1 h2 fun σ1 e1=>?_
 have hx1:σ1.objs x=some [.pt 88 2 x 0,v]:=by rw[e1];simp
 have hP1:Pw σ0 x bs σ1:=by rw[e1];exact h.head h1 h3
 have K1:PwK x σ σ1:=by rw[e1];exact(PwK.refl x σ).set
 have h31:zyn σ0 σ1 v bs:=by rw[e1];exact h3
 simp[hx1,v1]
 refine zyo (w:=[c]) h31 hP1.ad hl fun v' τ' b' o' n' A'=>?_
 have v1':=b'.one
 have hx2:τ'.objs x=some [.pt 88 2 x 0,v]:=by rw[o'];exact hx1
 have hlt:=hP1.hx
 simp[hx2,v1',splice]
 refine hR _ _ ⟨hP1.x0,by simp;omega,A'.setO hP1.x0,_,v',by simp,.inr rfl,?_⟩ (K1.trans (PwK.set ⟨by omega,fun o q1 q2=>by rw[o']⟩))
 exact b'
theorem zw1{σ0 x bs}(h:Pw σ0 x bs σ)(hne:bs≠[])(hl:bs.length<2^46)(hR:∀σ',zd σ0 σ'→PwK x σ σ'→R (.ret (.str bs)) σ'):zzQ G 67 [.pt 88 2 x 0] σ R:=by
 obtain⟨hd,v,h1,h2,h3⟩:=h.cells
 refine zAS rfl ?_
 rcases h3 with ⟨rfl,rfl⟩|⟨g,rfl,q2,q3,q4,q5⟩
 ·exact absurd rfl hne
 ·simp[zMW,h1]
  refine⟨zOm,zHo,q4,bs,rfl,rfl,hne,by omega,?_⟩
  simp
  have A:=h.ad
  refine hR _ ⟨A.no,A.nf,A.obj,fun f hf=>?_⟩ ⟨yah _,fun _ _ _=>rfl⟩
  have:¬f=g:=by omega
  simp[this]
  exact A.fam f hf
end
def zqI(bs w:List UInt8):List UInt8:=if bs=[]then w else bs++32::w
def zgQ(bs:List UInt8)(ws:List (List UInt8)):List UInt8:=ws.foldl zqI bs
def spT(ts:List (List UInt8)):List UInt8:=ts.flatMap fun t=>32::t
theorem zk(a b:List (List UInt8)):spT (a++b)=spT a++spT b:=by simp[spT]
theorem zqJ:∀ts,zB ts=spT ts++[10]
 | []=>rfl
 | t::r=>by
  have:=zqJ r
  simp only[zB,this,spT,yaa,ycP,yc2]
theorem zt0{bs w:List UInt8}(h:bs≠[]):zqI bs w=bs++32::w:=by unfold zqI;rw[if_neg h]
theorem zpA:∀(ws:List (List UInt8)) {bs:List UInt8},bs≠[]→zgQ bs ws=bs++spT ws
 | [],bs,_=>by simp[zgQ,spT]
 | w::r,bs,h=>by
  have e:zgQ bs (w::r)=zgQ (zqI bs w) r:=rfl
  rw[e,zt0 h,zpA r (by simp)]
  simp[spT]
theorem zt1(bs w:List UInt8):bs.length≤(zqI bs w).length∧w.length≤(zqI bs w).length:=by
 unfold zqI
 split
 ·rename_i h;subst h;simp
 ·simp only[yab,yac];omega
theorem zt2:∀(ws:List (List UInt8)) (bs:List UInt8),bs.length≤(zgQ bs ws).length
 | [],bs=>yah _
 | w::r,bs=>yai (zt1 bs w).1 (zt2 r (zqI bs w))
theorem zqK(bs:List UInt8)(d r:List (List UInt8)):zgQ bs (d++r)=zgQ (zgQ bs d) r:=by simp[zgQ]
section
variable {G : Env} {σ : AS} {R : Out → AS → Prop}
def SyI(σ0:AS)(x:Nat)(bs:List UInt8)(ws:List (List UInt8))(σ:AS)(a:Nat→AV)(τ:AS):Prop:=∃(d r:List (List UInt8)),ws=d++r∧a 0=.pt 88 2 x 0∧a 6=.sl (.stat true) 1 (ws.map yco)∧a 7=.int .i64 (ws.length:Int)∧a 8=.int .i64 (d.length:Int)∧Pw σ0 x (zgQ bs d) τ∧PwK x σ τ
theorem zyp{σ0 x bs ws}(h:Pw σ0 x bs σ)(hw:ws.length<1000)(hl:(zgQ bs ws).length<2^45)(hR:∀σ' v,Pw σ0 x (zgQ bs ws) σ'→PwK x σ σ'→R (.ret v) σ'):zzQ G 63 [.pt 88 2 x 0,.sl (.stat true) 1 (ws.map yco)] σ R:=by
 refine zAP rfl ?_
 simp[zMU]
 refine zH (SyI σ0 x bs ws σ) (MU 8 (ws.length+1)) ⟨[],ws,rfl,by simp,by simp,by simp,by simp,h,.refl ..⟩ fun a τ hI=>?_
 obtain⟨d,r,hdr,a0,a6,a7,a8,hP,hK⟩:=hI
 cases r with
 | nil =>
  have e:ws=d:=by simpa using hdr
  have e2:ws.length=d.length:=by rw[e]
  rw[e2]at a7
  simp[zoJ,a0,a6,a7,a8]
  exact hR _ _ (by rw[e];exact hP) hK
 | cons t r =>
  have hlt:(d.length:Int)<(ws.length:Int):=by simp[hdr];omega
  have hi:ws[d.length]?=some t:=by simp[hdr]
  have w1:yb4 .i64 ((d.length:Int)+1)=((d.length+1:Nat):Int):=by rw[zc]<;>omega
  have e3:zgQ bs ws=zgQ (zqI (zgQ bs d) t) r:=by rw[hdr,zqK];rfl
  have l1:(zqI (zgQ bs d) t).length≤(zgQ bs ws).length:=by rw[e3];exact zt2 _ _
  have l2:=zt1 (zgQ bs d) t
  have e4:zgQ bs (d++[t])=zqI (zgQ bs d) t:=by rw[zqK];rfl
  simp[zoJ,a0,a6,a7,a8,hlt,hi]
  refine zMf hP (by omega) ?_
  by_cases hb:zgQ bs d=[]
  ·have e5:zqI (zgQ bs d) t=t:=by unfold zqI;rw[if_pos hb]
   rw[hb]at hP
   simp[hb,a0]
   refine zgP (w:=t) hP (by simp;omega) fun τ' v' P' K'=>?_
   simp[a0,a6,a7,a8,w1]
   refine⟨⟨d++[t],r,by simp[hdr],by simp[a0],by simp[a6],by simp[a7],by simp,?_,hK.trans K'⟩,?_⟩
   ·rw[e4,e5];simpa using P'
   ·simp[MU,a8];omega
  ·have hpos:(0:Int)<((zgQ bs d).length:Int):=by have:=ybm.2 hb;omega
   have hposN:0<(zgQ bs d).length:=by omega
   have e5:zqI (zgQ bs d) t=zgQ bs d++32::t:=zt0 hb
   rw[e5]at l1
   simp only[yab,yac]at l1
   simp[hpos,hposN,hb,a0]
   refine zpz (c:=32) hP (by omega) fun τ1 v1 P1 K1=>?_
   simp[a0]
   refine zgP (w:=t) P1 (by simp;omega) fun τ' v' P' K'=>?_
   simp[a0,a6,a7,a8,w1]
   refine⟨⟨d++[t],r,by simp[hdr],by simp[a0],by simp[a6],by simp[a7],by simp,?_,(hK.trans K1).trans K'⟩,?_⟩
   ·rw[e4,e5];simpa using P'
   ·simp[MU,a8];omega
theorem zmz{op:Int}(h:op=11∨op=12∨op=13)(hR:R (.ret (.str (zbz op))) σ):zzQ G 132 [.int .i64 op] σ R:=by
 refine zvz rfl ?_
 rcases h with rfl|rfl|rfl
 ·simp[zvy]
  exact hR
 ·simp[zvy]
  exact hR
 ·simp[zvy]
  exact hR
theorem zt3{n:Int}{a b:List UInt8}(h:n=1∨n=4∨n=8)(hR:R (.ret (.str (if n=1 then a else b))) σ):zzQ G 177 [.int .i64 n,.str a,.str b] σ R:=by
 refine zvY rfl ?_
 rcases h with rfl|rfl|rfl
 ·simp[zvX]
  simpa using hR
 ·simp[zvX]
  simpa using hR
 ·simp[zvX]
  simpa using hR
theorem zjM(t:Int):(zI t).length=3:=by unfold zI;split<;>rfl
theorem zn4{t:Int}(h:zaN t=true):t=1∨t=2:=by simpa [zaN]using h
theorem zw2{t n:Int}(h:zkx t n=true):(t=1∨t=2)∧(n=1∨n=4∨n=8):=by
 unfold zkx at h
 simp at h
 omega
theorem zpB{w:W}(h:zdg w=true):1≤w.op∧w.op≤18∧(w.op=1∨w.op=4∨w.op=5∨w.op=8∨w.op=9→w.ty=1∨w.ty=2)∧(w.op=8∨w.op=9→w.n=1∨w.n=4∨w.n=8)∧(w.op=4→zcx signs w.name≠[]):=by
 unfold zdg at h
 split at h
 ·rename_i h1
  have:=zn4 h
  refine⟨by omega,by omega,fun _=>this,fun _=>by omega,fun _=>by omega⟩
 ·split at h
  ·rename_i h1 h2
   simp only[Bool.and_eq_true]at h
   have:=zn4 h.1
   refine⟨by omega,by omega,fun _=>this,fun _=>by omega,fun _=>?_⟩
   simpa using h.2
  ·split at h
   ·rename_i h1 h2 h3
    have:=zw2 h
    exact⟨by omega,by omega,fun _=>this.1,fun _=>this.2,fun _=>by omega⟩
   ·simp at h
    refine⟨by omega,by omega,fun _=>by omega,fun _=>by omega,fun _=>by omega⟩
theorem zt4{w:W}(hf:zdg w=true)(hn:zbj w=false)(h:∀σ',zd σ σ'→R (.ret (.str (zY w))) σ'):zzQ G 133 [w.av] σ R:=by
 refine zvA rfl ?_
 obtain⟨f1,f2,f3,f4,f5⟩:=zpB hf
 have A1:zd σ (σ.newO w.cs):=(zd.refl σ).newO
 have hn':w.op≠11∧w.op≠12∧w.op≠13:=by simpa [zbj,and_assoc]using hn
 have hc:w.op=1∨w.op=2∨w.op=3∨w.op=4∨w.op=5∨w.op=6∨w.op=7∨w.op=8∨w.op=9∨w.op=10∨w.op=14∨w.op=15∨w.op=16∨w.op=17∨w.op=18:=by omega
 have tl:=zjM w.ty
 have key:∀t,zY w=t→R (.ret (.str t)) (σ.newO w.cs):=fun t e=>e▸h _ A1
 rcases hc with e|e|e|e|e|e|e|e|e|e|e|e|e|e|e
 ·simp[zfw,W.av,W.cs,e]
  refine zf5 (f3 (by omega)) ?_
  simp[tl]
  have:=key _ (by unfold zY;rw[if_pos e])
  simpa [W.cs,e]using this
 ·have:=key [108,111,99,97,108,46,103,101,116] (by simp[zY,e])
  simp[zfw,W.av,W.cs,e]
  simpa [W.cs,e]using this
 ·have:=key [108,111,99,97,108,46,115,101,116] (by simp[zY,e])
  simp[zfw,W.av,W.cs,e]
  simpa [W.cs,e]using this
 ·have:=key (zI w.ty++46::w.name) (by simp[zY,e])
  have hl:=zhg w.name (f5 e)
  simp[zfw,W.av,W.cs,e]
  refine zf5 (f3 (by omega)) ?_
  simp[tl]
  refine⟨by omega,?_⟩
  simpa [W.cs,e]using this
 ·have:=key (zI w.ty++[46,101,113,122]) (by simp[zY,e])
  simp[zfw,W.av,W.cs,e]
  refine zf5 (f3 (by omega)) ?_
  simp[tl]
  simpa [W.cs,e]using this
 ·have:=key [105,51,50,46,119,114,97,112,95,105,54,52] (by simp[zY,e])
  simp[zfw,W.av,W.cs,e]
  simpa [W.cs,e]using this
 ·have:=key [105,54,52,46,101,120,116,101,110,100,95,105,51,50,95,115] (by simp[zY,e])
  simp[zfw,W.av,W.cs,e]
  simpa [W.cs,e]using this
 ·have:=key (zI w.ty++(if w.n=1 then [46,108,111,97,100,56,95,115]else [46,108,111,97,100])) (by simp[zY,e])
  simp[zfw,W.av,W.cs,e]
  refine zf5 (f3 (by omega)) ?_
  simp
  refine zt3 (f4 (by omega)) ?_
  have ln:(if w.n=1 then [46,108,111,97,100,56,95,115]else([46,108,111,97,100]:List UInt8)).length≤8:=by split<;>decide
  simp[tl]
  refine⟨by omega,?_⟩
  simpa [W.cs,e]using this
 ·have:=key (zI w.ty++(if w.n=1 then [46,115,116,111,114,101,56]else [46,115,116,111,114,101])) (by simp[zY,e])
  simp[zfw,W.av,W.cs,e]
  refine zf5 (f3 (by omega)) ?_
  simp
  refine zt3 (f4 (by omega)) ?_
  have ln:(if w.n=1 then [46,115,116,111,114,101,56]else([46,115,116,111,114,101]:List UInt8)).length≤8:=by split<;>decide
  simp[tl]
  refine⟨by omega,?_⟩
  simpa [W.cs,e]using this
 ·have:=key [99,97,108,108] (by simp[zY,e])
  simp[zfw,W.av,W.cs,e]
  simpa [W.cs,e]using this
 ·have:=key [98,114] (by simp[zY,e])
  simp[zfw,W.av,W.cs,e]
  simpa [W.cs,e]using this
 ·have:=key [98,114,95,105,102] (by simp[zY,e])
  simp[zfw,W.av,W.cs,e]
  simpa [W.cs,e]using this
 ·have:=key [114,101,116,117,114,110] (by simp[zY,e])
  simp[zfw,W.av,W.cs,e]
  simpa [W.cs,e]using this
 ·have:=key [117,110,114,101,97,99,104,97,98,108,101] (by simp[zY,e])
  simp[zfw,W.av,W.cs,e]
  simpa [W.cs,e]using this
 ·have:=key [100,114,111,112] (by simp[zY,e])
  simp[zfw,W.av,W.cs,e]
  simpa [W.cs,e]using this
end
theorem zt5{w:W}(hf:zdg w=true)(hn:zbj w=false):(zV zdy (zY w)).isSome=zcs w:=by
 obtain⟨f1,f2,f3,f4,f5⟩:=zpB hf
 have hn':w.op≠11∧w.op≠12∧w.op≠13:=by simpa [zbj,and_assoc]using hn
 have hc:w.op=1∨w.op=2∨w.op=3∨w.op=4∨w.op=5∨w.op=6∨w.op=7∨w.op=8∨w.op=9∨w.op=10∨w.op=14∨w.op=15∨w.op=16∨w.op=17∨w.op=18:=by omega
 have key:∀t b,zY w=t→zcs w=b→(zV zdy t).isSome=b→(zV zdy (zY w)).isSome=zcs w:=fun t b e1 e2 e3=>by rw[e1,e2,e3]
 rcases hc with e|e|e|e|e|e|e|e|e|e|e|e|e|e|e
 ·rcases f3 (by omega)with t|t
  ·exact key [105,51,50,46,99,111,110,115,116] true (by simp[zY,e,t,zI,zC4]) (by simp[zcs,e]) (by decide)
  ·exact key [105,54,52,46,99,111,110,115,116] true (by simp[zY,e,t,zI,zC5]) (by simp[zcs,e]) (by decide)
 ·exact key [108,111,99,97,108,46,103,101,116] true (by simp[zY,e]) (by simp[zcs,e]) (by decide)
 ·exact key [108,111,99,97,108,46,115,101,116] true (by simp[zY,e]) (by simp[zcs,e]) (by decide)
 ·have ht:=f3 (by omega)
  have:=(zqr w.name (zho (f5 e)) w.ty (by simpa using ht)).2.1
  exact key (zI w.ty++46::w.name) false (by simp[zY,e]) (by simp[zcs,e]) (by rw[this];rfl)
 ·rcases f3 (by omega)with t|t
  ·exact key [105,51,50,46,101,113,122] false (by simp[zY,e,t,zI,zC4]) (by simp[zcs,e]) (by decide)
  ·exact key [105,54,52,46,101,113,122] false (by simp[zY,e,t,zI,zC5]) (by simp[zcs,e]) (by decide)
 ·exact key [105,51,50,46,119,114,97,112,95,105,54,52] false (by simp[zY,e]) (by simp[zcs,e]) (by decide)
 ·exact key [105,54,52,46,101,120,116,101,110,100,95,105,51,50,95,115] false (by simp[zY,e]) (by simp[zcs,e]) (by decide)
 ·have k:∀t n:Int,(t=1∨t=2)→(n=1∨¬n=1)→(zV zdy (zI t++(if n=1 then [46,108,111,97,100,56,95,115]else [46,108,111,97,100]))).isSome=false:=by
   intro t n ht hn
   rcases ht with rfl|rfl<;>rcases hn with rfl|hn
   ·decide
   ·rw[if_neg hn];decide
   ·decide
   ·rw[if_neg hn];decide
  exact key _ false (by simp only[zY,e];rfl) (by simp[zcs,e]) (k w.ty w.n (f3 (by omega)) (by omega))
 ·have k:∀t n:Int,(t=1∨t=2)→(n=1∨¬n=1)→(zV zdy (zI t++(if n=1 then [46,115,116,111,114,101,56]else [46,115,116,111,114,101]))).isSome=false:=by
   intro t n ht hn
   rcases ht with rfl|rfl<;>rcases hn with rfl|hn
   ·decide
   ·rw[if_neg hn];decide
   ·decide
   ·rw[if_neg hn];decide
  exact key _ false (by simp only[zY,e];rfl) (by simp[zcs,e]) (k w.ty w.n (f3 (by omega)) (by omega))
 ·exact key [99,97,108,108] true (by simp[zY,e]) (by simp[zcs,e]) (by decide)
 ·exact key [98,114] true (by simp[zY,e]) (by simp[zcs,e]) (by decide)
 ·exact key [98,114,95,105,102] true (by simp[zY,e]) (by simp[zcs,e]) (by decide)
 ·exact key [114,101,116,117,114,110] false (by simp[zY,e]) (by simp[zcs,e]) (by decide)
 ·exact key [117,110,114,101,97,99,104,97,98,108,101] false (by simp[zY,e]) (by simp[zcs,e]) (by decide)
 ·exact key [100,114,111,112] false (by simp[zY,e]) (by simp[zcs,e]) (by decide)
theorem zjN(l:List Int):(spT (l.map zI)).length=4*l.length:=by
 induction l with
 | nil=>rfl
 | cons t r ih=>simp only[yaL,spT,yaa,yab,yac,zjM]at *;omega
section
variable {G : Env} {σ : AS} {R : Out → AS → Prop}
theorem zaP{σ0 x bs ws}(h:Pw σ0 x bs σ)(hb:bs≠[])(hw:ws.length<1000)(hl:(bs++spT ws).length<2^45)(hR:∀σ' v,Pw σ0 x (bs++spT ws) σ'→PwK x σ σ'→R (.ret v) σ'):zzQ G 63 [.pt 88 2 x 0,.sl (.stat true) 1 (ws.map yco)] σ R:=by
 have e:=zpA ws hb
 exact zyp h hw (by rw[e];exact hl) (by rw[e];exact hR)
def TpI(σ0:AS)(x:Nat)(bs:List UInt8)(kw:List UInt8)(v:AV)(l:List Int)(σ:AS)(a:Nat→AV)(τ:AS):Prop:=∃(d r:List Int),l=d++r∧a 0=.pt 88 2 x 0∧a 15=v∧a 16=.int .i64 (l.length:Int)∧a 17=.int .i64 (d.length:Int)∧Pw σ0 x (bs++spT (zC::kw::d.map zI)) τ∧PwK x σ τ
theorem zio{σ0 x bs kw l v}(h:Pw σ0 x bs σ)(hb:bs≠[])(hv:Al.IntsO σ0 v l)(ht:∀t∈l,t=1∨t=2)(hl:(bs++spT (zR kw l)).length<2^45)(hR:∀σ' u,Pw σ0 x (bs++spT (zR kw l)) σ'→PwK x σ σ'→R (.ret u) σ'):zzQ G 65 [.pt 88 2 x 0,.str kw,v] σ R:=by
 refine zAQ rfl ?_
 have v1:=hv.one
 have vl:=hv.len
 by_cases h0:l=[]
 ·subst h0
  have e:bs++spT (zR kw [])=bs:=by simp[zR,spT]
  rw[e]at hR
  simp[zLd,vl]
  exact hR _ _ h (.refl ..)
 ·have hne:¬(l.length:Int)=0:=by have:=ybm.2 h0;omega
  have hneN:¬l.length=0:=by omega
  have e:zR kw l=zC::kw::(l.map zI++[zh]):=by unfold zR;rw[if_neg h0]
  have e2:spT (zR kw l)=spT (zC::kw::l.map zI)++spT [zh]:=by rw[e,←zk];rfl
  rw[e2]at hl hR
  simp only[yab]at hl
  have e3:spT (zC::kw::l.map zI)=spT [zC,kw]++spT (l.map zI):=by rw[←zk];rfl
  have hl3:=congrArg yce e3
  simp only[yab]at hl3
  have hlt:=zjN l
  simp[zLd,vl,hne,hneN,h0]
  refine zaP (ws:=[zC,kw]) h hb (by simp) (by rw[yab];omega) fun σ1 u1 P1 K1=>?_
  simp[vl]
  refine zH (TpI σ0 x bs kw v l σ) (MU 17 (l.length+1)) ⟨[],l,rfl,by simp,by simp,by simp,by simp,P1,K1⟩ fun a τ hI=>?_
  obtain⟨d,r,hdr,a0,a15,a16,a17,hP,hK⟩:=hI
  have hvt:=hv.keep hP.ad
  cases r with
  | nil =>
   have e5:l=d:=by simpa using hdr
   have e6:l.length=d.length:=by rw[e5]
   rw[e6]at a16
   simp[zoK,a0,a15,a16,a17,zsN]
   refine zaP (ws:=[zh]) hP (by simp[hb]) (by simp) (by rw[←e5,yab,yab];omega) fun σ2 u2 P2 K2=>?_
   simp
   refine hR _ _ ?_ (hK.trans K2)
   rw[←e5,yc2]at P2
   exact P2
  | cons t r =>
   have hlt2:d.length<l.length:=by simp[hdr]
   obtain⟨φ,hr,hat⟩:=hvt.at hlt2
   have hr':=hr.read
   have hlt3:(d.length:Int)<(l.length:Int):=by omega
   have hi:l[d.length]=t:=by simp[hdr]
   rw[hi]at hat
   have w1:yb4 .i64 ((d.length:Int)+1)=((d.length+1:Nat):Int):=by rw[zc]<;>omega
   have htt:=ht t (by rw[hdr];simp)
   have e7:bs++spT (zC::kw::d.map zI)++spT [zI t]=bs++spT (zC::kw::(d++[t]).map zI):=by
    rw[yc2,←zk];simp
   have e8:spT (zC::kw::(d++[t]).map zI)=spT [zC,kw]++spT ((d++[t]).map zI):=by rw[←zk];rfl
   have l8:=congrArg yce e8
   simp only[yab]at l8
   have l9:=zjN (d++[t])
   have l10:(d++[t]).length≤l.length:=by simp;omega
   simp[zoK,a0,a15,a16,a17,hlt2,hlt3,hat,hr',htt]
   refine zf5 htt ?_
   simp
   refine zaP (ws:=[zI t]) hP (by simp[hb]) (by simp) (by rw[e7,yab];omega) fun σ2 u2 P2 K2=>?_
   simp[a0,a15,a16,a17,w1]
   rw[e7]at P2
   refine⟨⟨d++[t],r,by simp[hdr],by simp[a0],by simp[a15],by simp[a16],by simp,P2,hK.trans K2⟩,?_⟩
   simp[MU,a17];omega
end
end Go.Proofs.YtohfclafhegadaaGreatDoor
