/- Parts of the proof of the row WatBack: contracts of functions, each under the conditions that its theorem names. -/
import Derived.Test.YtohfclafhegadaaGreatDoorZC
set_option linter.unusedSimpArgs false
set_option linter.unusedVariables false
set_option maxRecDepth 100000
open List renaming getElem?_eq_some_iff->yaq,getElem_mem->yaw,getElem?_eq_getElem->yau,mem_of_mem_take->yaB
open Go.IntKind renaming i64->yam,wrap->yb5
open Go.Abs.AV renaming int->ycS,str->ycR,nilsl->ycY
namespace Go.Proofs.YtohfclafhegadaaGreatDoor
open Go Go.Abs
def Lis(m:M)(i:Nat):Prop:=∀f∈m.funcs.take i,f.lists.length<=400
theorem Lis.succ{m:M}{i:Nat}{f:F}(hf:m.funcs[i]?=some f)(h:Lis m (i+1)):Lis m i/\f.lists.length<=400:=by
 obtain⟨hlt,rfl⟩:=yaq.1 hf
 unfold Lis at h
 rw[List.take_succ_eq_append_getElem hlt]at h
 exact⟨λg hg=>h g (List.mem_append_left _ hg),h _ (List.mem_append_right _ (List.mem_singleton.2 rfl))⟩
def zGy(fv:AV)(m:M)(mb:Nat)(J1:AS)(a:Nat->AV)(Z:AS):Prop:=∃(i:Nat) (z:Int),i<=m.funcs.length/\(-(2^63)<=z/\z<2^63)/\a 1=.ptr mb 0/\a 3=.int .i64 z/\a 4=.int .i64 (i:Int)/\ze J1 Z/\(Lis m i->0<=z/\z<=3000/\∀j f,j<i->m.funcs[j]?=some f->zEs f)
def zGz(m:M)(mb fb:Nat)(J1:AS)(i:Nat)(f:F)(base:Nat)(a:Nat->AV)(Z:AS):Prop:=∃(k:Nat) (y:Int),k<=f.lists.length/\(-(2^63)<=y/\y<2^63)/\a 1=.ptr mb 0/\a 4=.int .i64 (i:Int)/\a 5=.ptr fb 0/\a 6=.int .i64 (k:Int)/\a 3=.int .i64 y/\Z=J1/\(Lis m i->f.lists.length<=400->y=((base+zh5 id (f.lists.take k):Nat):Int))
theorem zr6{m:M}(h1:m.funcs.length<=40)(h3:∀f∈m.funcs,zyk f):zpn m :=
 ⟨by omega,λf hf=>(h3 f hf).params,λf hf=>(h3 f hf).locals,λf hf=>(h3 f hf).lists,λf hf=>(h3 f hf).rows,λf hf=>(h3 f hf).nums⟩
structure zDb(m:M):Prop where
 funcs:m.funcs.length<=40
 good:zav m=.ok ()
 few:(∀f∈m.funcs,f.lists.length<=400)->∀f∈m.funcs,zEs f
section
variable {G : Env} {J : AS} {R : Out -> AS -> Prop}
theorem zFE{mv:AV}{m:M}(V:zkB G)(hG:∀k,StillI (G.g k))(hy:∀l,¬G.has l)(hm:Al.MO J mv m)(hfl:m.funcs.length<=2^47)(hf:∀f∈m.funcs,zyk f)(h:∀b J',(b=false->zDb m)->ze J J'->R (.ret (.bool b)) J'):zzQ G 30 [mv] J R:=by
 refine zxe rfl ?_
 obtain⟨fv,rfl,hfs⟩:=hm
 have f1:=hfs.one
 have A1:ze J (J.newO [fv,ycS yam m.memory,ycS yam m.main]):=(ze.refl J).newO
 have hf1:=hfs.keep A1
 have hm1:(J.newO [fv,ycS yam m.memory,ycS yam m.main]).objs J.no=some [fv,.int .i64 m.memory,.int .i64 m.main]:=by simp
 have hno1:(J.newO [fv,ycS yam m.memory,ycS yam m.main]).no=J.no+1:=by simp
 simp[zFZ,f1]
 generalize J.newO [fv,ycS yam m.memory,ycS yam m.main]=J1 at *
 refine zS (zGy fv m J.no J1) (MU 4 (m.funcs.length+1)) ⟨0,0,by omega,by decide,by simp,by simp,by simp,.refl _,λ_=>⟨by omega,by omega,λj f hj=>by omega⟩⟩ λa Z hI=>?_
 obtain⟨i,z,hi,hz,a1,a3,a4,A,hall⟩:=hI
 have hm2:=(A.obj J.no (by omega)).trans hm1
 have hft:=hf1.keep A
 have hfl2:=hft.len
 by_cases hlt:i<m.funcs.length
 .obtain⟨φ,rv,hrd,hfv,hix⟩:=hft.at hlt
  have hrd':=hrd.read
  have hmem:=yaw hlt
  have hget:m.funcs[i]?=some m.funcs[i]:=yau hlt
  obtain⟨q1,q2,q3,q4,q5,q6⟩:=hf _ hmem
  generalize m.funcs[i]=f at *
  obtain⟨pv,lv,tv,rfl,hp,hl,ht⟩:=hfv
  have p1:=hp.one
  have l1:=hl.one
  have t1:=ht.one
  have A3:ze Z ((Z.newO [ycR [],ycY,ycY,ycS yam 0,ycY]).setO Z.no [ycR f.name,pv,lv,ycS yam f.type,tv]):=((ze.refl Z).newO).setO (Nat.le_refl _)
  have hpl:=hp.len
  have hll:=hl.len
  have htl:=ht.len
  have hlis:=λh=>Lis.succ (m:=m) (i:=i) hget h
  generalize hy0:yb5 .i64 (yb5 .i64 (yb5 .i64 (z+(f.params.length:Int))+(f.locals.length:Int))+(f.lists.length:Int))=y0
  have hyr:-(2^63)<=y0/\y0<2^63:=by rw[<-hy0];exact(ze4 _).1
  have hye:Lis m i->y0=((z.toNat+f.params.length+f.locals.length+f.lists.length:Nat):Int):=λhL=>by
   obtain⟨z0,z1,_⟩:=hall hL
   have w1:yb5 .i64 (z+(f.params.length:Int))=z+(f.params.length:Int):=by rw[wrap_i64]<;>omega
   have w2:yb5 .i64 (z+(f.params.length:Int)+(f.locals.length:Int))=z+(f.params.length:Int)+(f.locals.length:Int):=by rw[wrap_i64]<;>omega
   have w3:yb5 .i64 (z+(f.params.length:Int)+(f.locals.length:Int)+(f.lists.length:Int))=z+(f.params.length:Int)+(f.locals.length:Int)+(f.lists.length:Int):=by rw[wrap_i64]<;>omega
   rw[<-hy0,w1,w2,w3]
   omega
  have hlt':(i:Int)<(m.funcs.length:Int):=by omega
  have hmn:J.no≠Z.no:=by have:=A.no;omega
  simp[zhU,a1,a3,a4,hm2,hfl2,f1,hlt,hlt',hix,hrd',p1,l1,t1,hpl,hll,htl,hy0,splice]
  have hf3:((Z.newO [ycR [],ycY,ycY,ycS yam 0,ycY]).setO Z.no [ycR f.name,pv,lv,ycS yam f.type,tv]).objs Z.no=some [.str f.name,pv,lv,.int .i64 f.type,tv]:=by simp
  have ht3:=ht.keep A3
  generalize (Z.newO [ycR [],ycY,ycY,ycS yam 0,ycY]).setO Z.no [ycR f.name,pv,lv,ycS yam f.type,tv]=J3 at *
  have htl3:=ht3.len
  refine zS (zGz m J.no Z.no J3 i f (z.toNat+f.params.length+f.locals.length+f.lists.length)) (MU 6 (f.lists.length+1)) ⟨0,y0,by omega,hyr,by simp[a1],by simp[a4],by simp,by simp,by simp,rfl,λhL _=>by simpa [zh5]using hye hL⟩ λb ρ hJ=>?_
  obtain⟨k,y,hk,hy2,b1,b4,b5,b6,b3,rfl,hex⟩:=hJ
  by_cases hkl:k<f.lists.length
  .obtain⟨φ2,rv,hrd2,hrep,hix2⟩:=ht3.at hkl
   have hrd2':=hrd2.read
   have hrl:=q4 _ (yaw hkl)
   have r1:=hrep.one
   have hrlen:=zuY hrep
   have hkl':(k:Int)<(f.lists.length:Int):=by omega
   have w5:yb5 .i64 ((k:Int)+1)=((k+1:Nat):Int):=by rw[wrap_i64]<;>omega
   simp[zdN,b1,b4,b5,b6,b3,hf3,htl3,hkl,hkl',hix2,hrd2',r1,hrlen,w5]
   refine⟨⟨k+1,yb5 .i64 (y+(f.lists[k].length:Int)),by omega,(ze4 _).1,by simp[b1],by simp[b4],by simp[b5],by simp,by simp,rfl,λhL h4=>?_⟩,?_⟩
   .have e:=hex hL h4
    obtain⟨z0,z1,_⟩:=hall hL
    have hB:=zpr (ls:=f.lists.take k) (B:=2^42) λl hl=>q4 l (yaB hl)
    have hkk:(f.lists.take k).length<=400:=by rw[List.length_take];omega
    have hB2:zh5 id (f.lists.take k)<=400*2^42:=Nat.le_trans hB (Nat.mul_le_mul_right _ hkk)
    rw[zi0 hkl,e,wrap_i64]<;>omega
   .simp only[MU,b6];simp;omega
  .have he:k=f.lists.length:=by omega
   subst he
   rw[List.take_length]at hex
   have w5:yb5 .i64 ((i:Int)+1)=((i+1:Nat):Int):=by rw[wrap_i64]<;>omega
   by_cases hbig:(3000:Int)<y
   .simp[zdN,zfZ,b5,b6,b3,hf3,htl3,hbig]
    exact h true _ (by simp) (A1.trans (A.trans A3))
   .simp[zdN,zfZ,b5,b6,b3,hf3,htl3,hbig]
    refine zCt (by omega) ?_
    cases htg:zh3 24 f.name with
    | false =>
     simp
     exact h true _ (by simp) (A1.trans (A.trans A3))
    | true =>
     simp[zkl,b4,w5]
     refine⟨⟨i+1,y,by omega,hy2,by simp[b1],by simp[b3],by simp,A.trans A3,λhL=>?_⟩,?_⟩
     .obtain⟨hL1,h4⟩:=hlis hL
      have e:=hex hL1 h4
      obtain⟨z0,z1,hal⟩:=hall hL1
      refine⟨by omega,by omega,λj g hj hg=>?_⟩
      by_cases ej:j=i
      .subst ej
       rw[hget]at hg
       cases hg
       exact⟨by omega,htg⟩
      .exact hal j g (by omega) hg
     .simp only[MU,a4];simp;omega
 .have he:i=m.funcs.length:=by omega
  subst he
  have hfew:(∀f∈m.funcs,f.lists.length<=400)->∀f∈m.funcs,zEs f:=λh4 f hf=>by
   obtain⟨j,hj,rfl⟩:=List.mem_iff_getElem.1 hf
   exact(hall λg hg=>h4 g (yaB hg)).2.2 j _ hj (yau hj)
  by_cases hb:(40:Int)<(m.funcs.length:Int)
  .have hb':40<m.funcs.length:=by omega
   simp[zhU,zm2,a1,a4,hm2,hfl2,f1,hb,hb']
   exact h true _ (by simp) (A1.trans A)
  .have hb':¬40<m.funcs.length:=by omega
   simp[zhU,zm2,a1,a4,hm2,hfl2,f1,hb,hb']
   refine zlZ V hG hy (m:=m) ⟨fv,rfl,hft⟩ (zr6 (by omega) hf) ?_
   cases hck:zav m with
   | error e =>
    have hne:¬e=0:=λq=>by
     have:=zuU (m:=m) (by rw[hck];exact q)
     rw[hck]at this
     cases this
    simp[znb,hne]
    exact h true _ (by simp) (A1.trans A)
   | ok u =>
    simp[znb]
    exact h false _ (λ_=>⟨by omega,hck,hfew⟩) (A1.trans A)
theorem zpT(VT:zdw G)(VC:zkB G)(hG:∀k,StillI (G.g k))(hy:∀l,¬G.has l)(h00:0<J.nf/\J.F 0=.alive){mv iv:AV}{m:M}{input:List Int}{steps:Int}(hm:MV mv m)(hfl:m.funcs.length<=2^47)(hf:∀f∈m.funcs,zyk f)(hrg:∀f∈m.funcs,RgL f.lists)(hi:zaf iv input)(hst:-(2^63)<=steps/\steps<2^63)(h:∀J',R (.ret (.bool true)) J'):zzQ G 9 [mv,iv,.int .i64 steps] J R:=by
 refine zBC rfl ?_
 have hm0:=hm
 obtain⟨fv,rfl,hfs⟩:=hm
 have f1:=hfs.one
 have il:=zDa hi
 have i1:=hi.one
 have A1:ze J (J.newO [fv,.int .i64 m.memory,.int .i64 m.main]):=(ze.refl J).newO
 have o1:(J.newO [fv,.int .i64 m.memory,.int .i64 m.main]).objs J.no=some [fv,.int .i64 m.memory,.int .i64 m.main]:=by simp
 have hl1:J.no<(J.newO [fv,.int .i64 m.memory,.int .i64 m.main]).no:=by simp
 have h01:0<(J.newO [fv,.int .i64 m.memory,.int .i64 m.main]).nf/\(J.newO [fv,.int .i64 m.memory,.int .i64 m.main]).F 0=.alive:=⟨by have:=A1.nf;omega,(A1.fam 0 h00.1).trans h00.2⟩
 simp[pc9,f1]
 generalize J.newO [fv,.int .i64 m.memory,.int .i64 m.main]=J1 at *
 refine zFE VC hG hy (Al.m_o hm0) hfl hf λb J2 hb A2=>?_
 have ho2:=(A2.obj J.no hl1).trans o1
 cases b with
 | true =>
  simp[ho2,f1]
  refine zoU VT hG hy ?_
  simp
  exact h _
 | false =>
  have hN:=hb rfl
  by_cases hin:(100:Int)<(input.length:Int)
  .have hin':100<input.length:=by omega
   simp[ho2,f1,il,hin,hin']
   refine zoU VT hG hy ?_
   simp
   exact h _
  .have hin':¬100<input.length:=by omega
   simp[ho2,f1,il,hin,hin']
   refine zCX (Al.m_o hm0) (by omega) (λf q=>by have:=(hf f q).lists;omega) λb2 J3 hb2 A3=>?_
   have A13:=A2.trans A3
   have ho3:=(A13.obj J.no hl1).trans o1
   cases b2 with
   | true =>
    simp[ho3,f1]
    refine zoU VT hG hy ?_
    simp
    exact h _
   | false =>
    have hF:Few m:=⟨hN.funcs,hN.few (hb2 rfl),hN.good⟩
    obtain⟨toks,fs2,w1,w2,w3,w4,w5⟩:=zr3 hF hrg (hb2 rfl)
    have hmem:=zgF hF.good
    obtain⟨mn0,g0,hg0,_,_⟩:=zjQ hF.good
    have hmn1:m.main.toNat<m.funcs.length:=(yaq.1 hg0).1
    have h40:=hF.funcs
    have htl:=zva m toks (by omega) (by omega)
    have hpf:∀f∈m.funcs,Pf 24 f:=λf q=>(w3 f q).pf
    have hsz:∀f∈m.funcs,f.lists.length<=2^40/\∀ws∈f.lists,ws.length<=2^40:=λf q=>⟨by have:=(w3 f q).lists;omega,λws hw=>by have:=(w3 f q).rows ws hw;omega⟩
    have hback:=zl6 w1 hpf ⟨by omega,by omega⟩ ⟨by omega,by omega⟩
    simp[ho3,f1]
    refine znE VT.pow (Al.m_o hm0) w1 hpf (by decide) hsz (by omega) ⟨by omega,by omega⟩ (by omega) λJ4 A4=>?_
    have A14:=A13.trans A4
    have ho4:=(A14.obj J.no hl1).trans o1
    have hl4:J.no<J4.no:=by have:=A14.no;omega
    have h04:0<J4.nf/\J4.F 0=.alive:=⟨by have:=A14.nf;omega,(A14.fam 0 h01.1).trans h01.2⟩
    simp
    refine zC4 (zkQ VT h04 (zyc m toks) (by omega) (λe q=>by rw[hback]at q;cases q) λn hn nv J5 hnv A5=>?_)
    rw[hback]at hn
    obtain rfl:n=⟨fs2,m.memory,m.main⟩:=by cases hn;rfl
    have h05:0<J5.nf/\J5.F 0=.alive:=⟨by have:=A5.nf;omega,(A5.fam 0 h04.1).trans h04.2⟩
    obtain⟨hcb,hmv⟩:=zv3 (Al.m_e h05 hnv)
    refine .inr (.inr ⟨[nv,.int .i64 0],rfl,λv hv=>?_,?_⟩)
    .simp at hv
     rcases hv with rfl|rfl
     .exact hcb
     .exact .int _ _
    .have ho5:(zmp J5).objs J.no=some [fv,.int .i64 m.memory,.int .i64 m.main]:=by simpa using (A5.obj J.no hl4).trans ho4
     have hl5:J.no<(zmp J5).no:=by have:=A5.no;simp;omega
     simp only[List.map_cons,List.map_nil,zqZ]
     generalize clm nv=pv at hmv ⊢
     generalize zmp J5=J6 at *
     have hpv:=hmv
     obtain⟨gv,rfl,hgs⟩:=hmv
     have g1:=hgs.one
     simp[g1,splice]
     have B6:ze J6 ((J6.newO [ycY,.int .i64 0,.int .i64 0]).setO J6.no [gv,.int .i64 m.memory,.int .i64 m.main]):=(ze.refl J6).newO.setO (Nat.le_refl _)
     have hp7:((J6.newO [ycY,.int .i64 0,.int .i64 0]).setO J6.no [gv,.int .i64 m.memory,.int .i64 m.main]).objs J6.no=some [gv,.int .i64 m.memory,.int .i64 m.main]:=by simp
     have ho7:=(B6.obj J.no hl5).trans ho5
     have hn7:J6.no<((J6.newO [ycY,.int .i64 0,.int .i64 0]).setO J6.no [gv,.int .i64 m.memory,.int .i64 m.main]).no:=by simp
     have hl7:J.no<((J6.newO [ycY,.int .i64 0,.int .i64 0]).setO J6.no [gv,.int .i64 m.memory,.int .i64 m.main]).no:=by simp;omega
     have hne:¬J.no=J6.no:=by omega
     generalize (J6.newO [ycY,.int .i64 0,.int .i64 0]).setO J6.no [gv,.int .i64 m.memory,.int .i64 m.main]=J7 at *
     refine zC9 (k:=2000) hst ⟨by decide,by decide⟩ λr hr0 hr1=>?_
     have hpf2:∀f∈fs2,Pf 24 f:=λf q=>(w5 f q).pf
     have hsz2:∀f∈fs2,f.lists.length<=2^40/\∀ws∈f.lists,ws.length<=2^40:=λf q=>⟨by have:=(w5 f q).lists;omega,λws hw=>by have:=(w5 f q).rows ws hw;omega⟩
     have htx:zf9 (zbV ⟨fs2,m.memory,m.main⟩ toks)=zf9 (zbV m toks):=by rw[zit,zit]
     have hck2:zav ⟨fs2,m.memory,m.main⟩=.ok ():=zrU hF.good w1
     simp[hp7,g1]
     refine znE VT.pow (Al.m_o hpv) (zr0 w1) hpf2 (by decide) hsz2 (by simp only;omega) ⟨by simp only;omega,by simp only;omega⟩ (by rw[htx];omega) λJ8 A8=>?_
     rw[htx]
     have hp8:=(A8.obj _ hn7).trans hp7
     have ho8:=(A8.obj _ hl7).trans ho7
     simp[hp8,g1]
     refine zlZ VC hG hy (m:=⟨fs2,m.memory,m.main⟩) (Al.m_o hpv) (zpS (by simp only;omega) w5) ?_
     rw[hck2]
     simp[znb,hp8,ho8,g1,f1]
     refine zmv (steps:=r) VC hpv hck2 (zr4 w5) hi (by omega) (by omega) λov out st code J9 he ho A9=>?_
     rw[zyr w1]at he
     have A79:=A8.trans A9
     have ho9:=(A79.obj _ hl7).trans ho7
     have ov1:=ho.one
     simp[ho9,f1]
     refine zmv (steps:=r) VC hm0 hF.good (zr4 w3) hi (by omega) (by omega) λov2 out2 st2 code2 J10 he2 ho2 A10=>?_
     rw[he]at he2
     cases he2
     have ov2':=ho2.one
     obtain⟨_,_,_,q1,_,q2⟩:=zjL hF.good input r (r.toNat+1) (by omega)
     rw[he]at q1
     cases q1
     simp
     refine zr5 ho ho2 (by omega) λJ11 A11=>?_
     simp
     refine zoU VT hG hy ?_
     simp
     exact h _
end
end Go.Proofs.YtohfclafhegadaaGreatDoor
