/- Parts of the proof of the row WatAgain: contracts of functions, each under the conditions that its theorem names. -/
import Derived.Test.YtohfclafhegadaaGreatDoorZB
import Derived.Test.YtohfclafhegadaaGreatDoorZA
set_option linter.unusedSimpArgs false
set_option linter.unusedVariables false
set_option maxRecDepth 100000
open List renaming length_pos_iff→ybm,length_append→yab,length_cons→yac,length_nil→ybl
open Nat renaming le_refl→yah
open Go.Abs.AV renaming nilsl→ycz
namespace Go.Proofs.YtohfclafhegadaaGreatDoor
open Go Go.Abs
def msT(s:Ts):Nat:=zc2 s.ls+s.ls.length+s.b.length
theorem zmu{s s':Ts}{t:List UInt8}(h:zaG s=.ok (t,s')):msT s'+1≤msT s:=by
 obtain⟨h1,h2,h3⟩:=zby h
 have:=ybm.2 h2
 unfold msT
 rw[h3]
 omega
theorem zrP{t:List UInt8}{s s':Ts}{w:W}(h:zci t s=.ok (w,s')):msT s'≤msT s:=by
 unfold zci at h
 split at h
 ·obtain⟨p,h1,h2⟩:=map_some h
  cases h2
  unfold zU at h1
  obtain⟨q,h3,h4⟩:=bind_some h1
  obtain⟨n,_,h5⟩:=map_some h4
  cases h5
  exact Nat.le_of_succ_le (zmu h3)
 ·split at h
  ·cases h;exact yah _
  ·cases h
theorem zpj{rec:zvT}(hr:∀d o s r s',rec d o s=.ok (r,s')→msT s'≤msT s){t:List UInt8}{d:Nat}{s s':Ts}{w:W}(h:za0 rec t d s=.ok (w,s')):msT s'≤msT s:=by
 unfold za0 at h
 split at h
 ·exact zrP h
 ·unfold zap at h
  split at h
  ·cases h
  ·obtain⟨p,h1,h2⟩:=bind_some h
   have l1:=hr _ _ _ _ _ h1
   split at h2
   ·split at h2
    ·obtain⟨q,h3,h4⟩:=map_some h2
     cases h4
     exact Nat.le_trans (hr _ _ _ _ _ h3) l1
    ·cases h2;exact l1
   ·cases h2;exact l1
theorem zi3:∀(k d:Nat) (o:Bool) (l:List W) (s:Ts) (r:Int × List UInt8) (s':Ts),zI k d o l s=.ok (r,s')→msT s'≤msT s+l.length
 | 0,_,_,_,_,_,_,h=>by cases h
 | k+1,d,o,l,s,r,s',h=>by
  rw[zI]at h
  obtain⟨p,h1,h2⟩:=bind_some h
  have q:=zmu h1
  split at h2
  ·cases h2
   unfold msT at *
   rw[zbo]
   simp only[yab,yac,ybl]
   omega
  ·obtain⟨q2,h3,h4⟩:=bind_some h2
   have a:=zpj (fun d o s r s' q=>by simpa using zi3 k d o [] s r s' q) h3
   have b:=zi3 k d o _ _ _ _ h4
   simp only[yab,yac,ybl]at b
   omega
theorem zgR:∀(k:Nat) (l:List Int) (s:Ts) (r:List Int) (s':Ts),zal k l s=.ok (r,s')→r.length+s'.b.length≤l.length+s.b.length
 | 0,_,_,_,_,h=>by cases h
 | k+1,l,s,r,s',h=>by
  rw[zal]at h
  obtain⟨p,h1,h2⟩:=bind_some h
  obtain⟨q1,q2,_⟩:=zby h1
  have:=ybm.2 q2
  split at h2
  ·have:=zgR k _ _ _ _ h2
   simp only[yab,yac,ybl]at this
   omega
  ·split at h2
   ·have:=zgR k _ _ _ _ h2
    simp only[yab,yac,ybl]at this
    omega
   ·split at h2
    ·cases h2;omega
    ·cases h2
theorem zmv{w:List UInt8}{s s':Ts}{l:List Int}(h:zbC w s=.ok (l,s')):l.length+s'.b.length≤s.b.length:=by
 unfold zbC at h
 split at h
 ·rename_i s1 e
  have:=zgR _ _ _ _ _ h
  have:=ziY e
  simp only[ybl]at *
  omega
 ·cases h;simp
structure zrQ(n:Nat)(f:F):Prop where
 params:f.params.length≤n
 locals:f.locals.length≤n
 lists:f.lists.length≤n
 rows:∀l∈f.lists,l.length≤n
theorem zkn{mx:Nat}{s s':Ts}{f:F}(h:zV mx s=.ok (f,s')):zrQ s.b.length f:=by
 unfold zV at h
 obtain⟨⟨t,s1⟩,h0,h⟩:=bind_some h
 have l0:=(zcr h0).1
 simp only at h l0
 split at h
 ·obtain⟨⟨ps,s2⟩,h2,h⟩:=bind_some h
  obtain⟨⟨ty,s3⟩,h3,h⟩:=bind_some h
  obtain⟨⟨ls,s4⟩,h4,h⟩:=bind_some h
  obtain⟨⟨⟨n,e⟩,s5⟩,h5,h⟩:=map_some h
  simp only[Prod.mk.injEq]at h
  obtain⟨rfl,rfl⟩:=h
  have a2:=zmv h2
  have a3:=zoR h3
  have a4:=zmv h4
  have a5:=zi3 _ _ _ _ _ _ _ h5
  simp only[msT,zc2,List.map_nil,List.sum_nil,ybl]at a2 a3 a4 a5
  exact⟨by simp only;omega,by simp only;omega,by simp only;omega,fun l hl=>by
   have:=zkm hl
   simp only[zc2]at this
   omega⟩
 ·cases h
theorem zeq{mx:Nat}{N:Nat}:∀(k:Nat) (acc:List F) (s:Ts) (fs:List F) (s':Ts),zx mx k acc s=.ok (fs,s')→s.b.length≤N→(∀f∈acc,zrQ N f)→fs.length+s'.b.length≤acc.length+s.b.length∧∀f∈fs,zrQ N f
 | 0,acc,s,fs,s',h,_,_=>by cases h
 | k+1,acc,s,fs,s',h,hN,hacc=>by
  rw[zx]at h
  split at h
  ·cases h
   exact⟨yah _,hacc⟩
  ·rename_i s1 e
   have l1:=ziY e
   have l2:s1.b.length+1≤s.b.length:=zoV e
   obtain⟨⟨f,s2⟩,h1,h2⟩:=bind_some h
   have q:=zkn h1
   have q2:=(zfh h1).2
   obtain⟨r1,r2⟩:=zeq (N:=N) k _ _ fs s' h2 (by simp only at *;omega) fun g hg=>by
    rcases List.mem_append.1 hg with hg|hg
    ·exact hacc g hg
    ·simp at hg;subst hg
     obtain⟨a,b,c,d⟩:=q
     exact⟨by omega,by omega,by omega,fun l hl=>by have:=d l hl;omega⟩
   simp only[yab,yac,ybl]at r1 q2 ⊢
   exact⟨by omega,r2⟩
theorem zgS:∀(ts:List (List UInt8)) {s s':Ts},zP ts s=.ok s'→s'.b.length≤s.b.length
 | [],s,s',h=>by cases h;exact yah _
 | t::ts,s,s',h=>by
  rw[zP]at h
  obtain⟨p,h1,h2⟩:=bind_some h
  split at h2
  ·exact Nat.le_trans (zgS ts h2) (zcr h1).1
  ·cases h2
theorem zpk{mx:Nat}{b:List UInt8}{m:M}(h:zbu mx b=.ok m):m.funcs.length≤b.length∧∀f∈m.funcs,zrQ b.length f:=by
 unfold zbu at h
 obtain⟨⟨m',s0⟩,h0,e0⟩:=map_some h
 simp only at e0
 subst e0
 unfold zcj at h0
 obtain⟨s1,g1,h⟩:=bind_some h0
 obtain⟨⟨mem,s2⟩,g2,h⟩:=bind_some h
 obtain⟨s3,g3,h⟩:=bind_some h
 obtain⟨⟨fs,s4⟩,hf,h⟩:=bind_some h
 obtain⟨s5,_,h⟩:=bind_some h
 obtain⟨⟨mn,s6⟩,hn,h⟩:=bind_some h
 obtain⟨s7,_,h⟩:=bind_some h
 have w1:=zgS _ g1
 have w3:=zgS _ g3
 have w2:s2.b.length≤s1.b.length:=by
  unfold zU at g2
  obtain⟨q,h3,h4⟩:=bind_some g2
  obtain⟨n,_,h5⟩:=map_some h4
  cases h5
  exact(zcr h3).1
 split at h
 ·cases h
  simp only at w1 w2 w3
  obtain⟨r1,r2⟩:=zeq (N:=b.length) _ _ _ _ _ hf (by omega) (fun f hf=>by cases hf)
  simp only[ybl]at r1
  exact⟨by simp only;omega,r2⟩
 ·cases h
theorem zAh{f:F}{toks:List Tok}(h:PrF f toks f.lists):RgL f.lists:=by
 obtain⟨row,out,acc,h1,h2,h3⟩:=h
 obtain⟨g1,g2⟩:=zDK h2 (fun l hl=>by cases hl)
 intro l hl
 rw[h3]at hl
 exact zi2 g2 g1 l hl
theorem zpl{fs fs2:List F}{toks:List Tok}(h:zsI fs toks fs2)(he:fs2=fs):∀f∈fs,∃t,PrF f t f.lists:=by
 induction h with
 | nil=>intro f hf;cases hf
 | @cons f fs t ls' ts fs' p _ ih =>
  simp only[List.cons.injEq]at he
  intro g hg
  rcases List.mem_cons.1 hg with rfl|hg
  ·have e:ls'=g.lists:=congrArg F.lists he.1
   rw[e]at p
   exact⟨t,p⟩
  ·exact ih he.2 g hg
theorem zrR{gs:List F}{fs fs2:List F}{toks:List Tok}(h:zsI fs toks fs2):(∀f∈fs,zS gs f=.ok ()∧f.name.length≤24∧f.params.length+f.locals.length+zfr id f.lists≤3000)→(spT toks).length≤200000*fs.length:=by
 induction h with
 | nil=>intro _;simp[spT]
 | @cons f fs t1 ls' ts fs' p _ ih =>
  intro hh
  obtain⟨h1,h4,h5⟩:=hh f (by simp)
  have ih:=ih fun g hg=>hh g (by simp[hg])
  obtain⟨c1,c2,c3⟩:=zpg h1 p
  have e:zgw f t1=[zu,za6,36::f.name]++(zB zbg f.params++(ziQ f.type++(zB zat f.locals++(t1++[zf])))):=rfl
  have e1:(spT [zu,za6,36::f.name]).length=9+f.name.length:=by
   have:spT [zu,za6,36::f.name]=spT [zu,za6]++spT [36::f.name]:=by rw[←zh];rfl
   rw[this,yab]
   have a:(spT [zu,za6]).length=7:=rfl
   have b:(spT [36::f.name]).length=f.name.length+2:=by simp[spT]
   omega
  have e2:=zhR zbg f.params (by decide)
  have e3:=zhR zat f.locals (by decide)
  have e4:(spT (ziQ f.type)).length≤20:=by
   unfold ziQ zw
   split
   ·decide
   ·split<;>decide
  have e5:(spT [zf]).length=2:=rfl
  rw[zh,yab,e,zh,zh,zh,zh,zh]
  simp only[yab,yac]at *
  omega
theorem NZ.bind{α β:Type}{r:Res α}{f:α→Res β}(hr:NZ r)(hf:∀x,NZ (f x)):NZ (r.bind f):=fun e h=>by
 cases r with
 | error k=>cases h;exact hr _ rfl
 | ok x=>exact hf x e h
theorem NZ.map{α β:Type}{r:Res α}(f:α→β)(hr:NZ r):NZ (r.map f):=fun e h=>by
 cases r with
 | error k=>cases h;exact hr _ rfl
 | ok x=>cases h
theorem NZ.ite{α:Type}{c:Prop}[Decidable c]{x y:Res α}(hx:NZ x)(hy:NZ y):NZ (if c then x else y):=by
 split
 ·exact hx
 ·exact hy
theorem zer(s:Ts):NZ (zaG s):=by
 unfold zaG
 split
 ·exact .err (by decide)
 ·exact .ok _
theorem zc7:∀(ts:List (List UInt8)) (s:Ts),NZ (zP ts s)
 | [],s=>.ok _
 | t::ts,s=>by
  rw[zP]
  exact(zer s).bind fun p=>.ite (zc7 ts _) (.err (by decide))
theorem zuO(t:List UInt8):NZ (zkq t):=by
 unfold zkq
 split
 ·exact .err (by decide)
 ·split
  ·exact .ite (.ok _) (.err (by decide))
  ·exact .err (by decide)
theorem zeR(s:Ts):NZ (zU s):=(zer s).bind fun p=>.map _ (zuO _)
theorem zes:∀(k:Nat) (l:List Int) (s:Ts),NZ (zal k l s)
 | 0,_,_=>.err (by decide)
 | k+1,l,s=>by
  rw[zal]
  exact(zer s).bind fun p=>.ite (zes k _ _) (.ite (zes k _ _) (.ite (.ok _) (.err (by decide))))
theorem zpm{rec:zvT}(hr:∀d o s,NZ (rec d o s))(t:List UInt8)(d:Nat)(s:Ts):NZ (za0 rec t d s):=by
 unfold za0
 refine .ite ?_ ?_
 ·unfold zci
  split
  ·exact .map _ (zeR s)
  ·split
   ·exact .ok _
   ·exact .err (by decide)
 ·unfold zap
  exact .ite (.err (by decide)) ((hr _ _ _).bind fun p=>.ite (.ite (.map _ (hr _ _ _)) (.ok _)) (.ok _))
theorem zi4:∀(k d:Nat) (o:Bool) (l:List W) (s:Ts),NZ (zI k d o l s)
 | 0,_,_,_,_=>.err (by decide)
 | k+1,d,o,l,s=>by
  rw[zI]
  exact(zer s).bind fun p=>.ite (.ok _) ((zpm (fun d o s=>zi4 k d o [] s) _ _ _).bind fun q=>zi4 k d o _ _)
theorem zmw(w:List UInt8)(s:Ts):NZ (zbC w s):=by
 unfold zbC
 split
 ·exact zes _ _ _
 ·exact .ok _
theorem zuP(s:Ts):NZ (zk6 s):=by
 unfold zk6
 split
 ·exact(zes _ _ _).bind fun r=>.ite (.ok _) (.err (by decide))
 ·exact .ok _
theorem zko(mx:Nat)(s:Ts):NZ (zV mx s):=by
 unfold zV
 exact(zer s).bind fun p=>.ite ((zmw _ _).bind fun q=>(zuP _).bind fun r=>(zmw _ _).bind fun u=>.map _ (zi4 _ _ _ _ _)) (.err (by decide))
theorem zet(mx:Nat):∀(k:Nat) (l:List F) (s:Ts),NZ (zx mx k l s)
 | 0,_,_=>.err (by decide)
 | k+1,l,s=>by
  rw[zx]
  split
  ·exact .ok _
  ·exact(zko mx _).bind fun p=>zet mx k _ _
theorem zpn{mx:Nat}{b:List UInt8}{e:Int}(h:zbu mx b=.error e):e≠0:=by
 have:NZ (zbu mx b):=by
  unfold zbu zcj
  exact .map _ ((zc7 _ _).bind fun s=>(zeR _).bind fun mem=>(zc7 _ _).bind fun s=>(zet mx _ _ _).bind fun fs=>(zc7 _ _).bind fun s=>(zeR _).bind fun mn=>(zc7 _ _).bind fun s=>.ite (.ok _) (.err (by decide)))
 exact this e h
section
variable {G : Env} {σ : AS} {R : Out → AS → Prop}
theorem zmx(V:zbk G)(hG:∀k,StillI (G.g k))(hy:∀l,¬G.has l)(h:R (.ret (.bool true)) σ):zzQ G 12 [] σ R :=
 zos (vs:=[]) (Q:=fun x=>x=.bool true) hG hy (fun v hv=>by cases hv) (zuL V ⟨by decide,rfl⟩ fun _ _=>⟨_,rfl,.bool _,rfl⟩) fun x hx=>by rw[hx];exact h
theorem znn(VT:zbk G)(VC:zk9 G)(hG:∀k,StillI (G.g k))(hy:∀l,¬G.has l)(h00:0<σ.nf∧σ.F 0=.alive){s:List UInt8}(h:∀σ',R (.ret (.bool true)) σ'):zzQ G 8 [.str s] σ R:=by
 refine zw1 rfl ?_
 by_cases hbig:16384<s.length
 ·have hbi:(16384:Int)<(s.length:Int):=by omega
  simp[pc8,hbig,hbi]
  refine zmx VT hG hy ?_
  simp
  exact h _
 ·have hbi:¬(16384:Int)<(s.length:Int):=by omega
  simp[pc8,hbig,hbi]
  refine zgK VT h00 trivial (by omega) (fun e he σ1 A1=>?_) (fun m hmo mv σ1 hmv A1=>?_)
  ·have hne:¬e=0:=fun q=>zpn he q
   simp[zej,splice,hne]
   refine zmx VT hG hy ?_
   simp
   exact h _
  ·have hmv':=hmv
   obtain⟨fv,rfl,hof⟩:=hmv'
   have fv1:=zgJ hof
   have h01:0<σ1.nf∧σ1.F 0=.alive:=⟨by have:=A1.nf;omega,(A1.fam 0 h00.1).trans h00.2⟩
   have B1:zg σ1 ((σ1.newO [ycz,.int .i64 0,.int .i64 0]).setO σ1.no [fv,.int .i64 m.memory,.int .i64 m.main]):=(zg.refl σ1).newO.setO (yah _)
   have ho1:((σ1.newO [ycz,.int .i64 0,.int .i64 0]).setO σ1.no [fv,.int .i64 m.memory,.int .i64 m.main]).objs σ1.no=some [fv,.int .i64 m.memory,.int .i64 m.main]:=by simp
   have hl1:σ1.no<((σ1.newO [ycz,.int .i64 0,.int .i64 0]).setO σ1.no [fv,.int .i64 m.memory,.int .i64 m.main]).no:=by simp
   have hMO1:=Al.MO.keep (Al.m_e (σ:=σ1) h01 (zuE hmv (yah _) fun _ _=>rfl)) B1
   simp[fv1,splice]
   generalize (σ1.newO [ycz,.int .i64 0,.int .i64 0]).setO σ1.no [fv,.int .i64 m.memory,.int .i64 m.main]=τ1 at *
   obtain⟨toks,t1,hpf,hmem,hmain⟩:=zoE hmo
   obtain⟨n1,n2⟩:=zpk hmo
   have heach:=zpl t1 rfl
   have hmid:∀f∈m.funcs,zDI f:=fun f hf=>by
    obtain⟨a,b,c,d⟩:=n2 f hf
    obtain⟨t,ht⟩:=heach f hf
    have hrg:=zAh ht
    exact⟨by omega,by omega,by omega,fun l hl=>by have:=d l hl;omega,by have:=zph (hpf f hf).name;omega,fun l hl w hw=>by have:=(hrg l hl w hw).2;omega⟩
   simp[ho1,fv1]
   refine zDJ VC hG hy hMO1 (by omega) hmid fun b σ2 hb A2=>?_
   have ho2:=(A2.obj σ1.no hl1).trans ho1
   cases b with
   | true =>
    simp
    refine zmx VT hG hy ?_
    simp
    exact h _
   | false =>
    have hF:=hb rfl
    have hfn:=zfs hF.good
    have h40:=hF.funcs
    have hlen:=zrR (gs:=m.funcs) t1 fun f hf=>⟨hfn f hf,zph (hpf f hf).name,by have:=(hF.each f hf).1;omega⟩
    have htl:=zrO m toks hmem.1 hmem.2
    have hsz:∀f∈m.funcs,f.lists.length≤2^40∧∀ws∈f.lists,ws.length≤2^40:=fun f q=>⟨by have:=(hmid f q).lists;omega,fun ws hw=>by have:=(hmid f q).rows ws hw;omega⟩
    have hback:=zj3 t1 hpf hmem hmain
    have hMO2:=Al.MO.keep hMO1 A2
    have hl2:σ1.no<σ2.no:=by have:=A2.no;omega
    have C2:=(A1.trans B1).trans A2
    have h02:0<σ2.nf∧σ2.F 0=.alive:=⟨by have:=C2.nf;omega,(C2.fam 0 h00.1).trans h00.2⟩
    simp[ho2,fv1]
    refine zo5 VT hMO2 t1 hpf (by decide) hsz (by omega) hmem (by omega) fun σ3 A3=>?_
    have h03:0<σ3.nf∧σ3.F 0=.alive:=⟨by have:=A3.nf;omega,(A3.fam 0 h02.1).trans h02.2⟩
    have ho3:=(A3.obj σ1.no hl2).trans ho2
    have hl3:σ1.no<σ3.no:=by have:=A3.no;omega
    have hMO3:=Al.MO.keep hMO2 A3
    simp
    refine zgK VT h03 trivial (by omega) (fun e q=>by rw[hback]at q;cases q) fun n hn nv σ4 hnv A4=>?_
    rw[hback]at hn
    have hnm:n=m:=by cases hn;rfl
    subst hnm
    have hnv':=hnv
    obtain⟨gv,rfl,hog⟩:=hnv'
    have gv1:=zgJ hog
    have h04:0<σ4.nf∧σ4.F 0=.alive:=⟨by have:=A4.nf;omega,(A4.fam 0 h03.1).trans h03.2⟩
    have B4:zg σ4 ((σ4.newO [ycz,.int .i64 0,.int .i64 0]).setO σ4.no [gv,.int .i64 n.memory,.int .i64 n.main]):=(zg.refl σ4).newO.setO (yah _)
    have hp4:((σ4.newO [ycz,.int .i64 0,.int .i64 0]).setO σ4.no [gv,.int .i64 n.memory,.int .i64 n.main]).objs σ4.no=some [gv,.int .i64 n.memory,.int .i64 n.main]:=by simp
    have ho4:=((A4.trans B4).obj σ1.no hl3).trans ho3
    have hMOn:=Al.MO.keep (Al.m_e (σ:=σ4) h04 (zuE hnv (yah _) fun _ _=>rfl)) B4
    have hMO4:=Al.MO.keep hMO3 (A4.trans B4)
    have hne:¬σ1.no=σ4.no:=by have:=A4.no;omega
    have ho4':=(A4.obj σ1.no hl3).trans ho3
    simp[gv1,fv1,splice,hne,ho4']
    generalize (σ4.newO [ycz,.int .i64 0,.int .i64 0]).setO σ4.no [gv,.int .i64 n.memory,.int .i64 n.main]=τ4 at *
    refine Al.eqM_calls hMOn hMO4 (by omega) (fun f hf=>?_) fun σ5 A5=>?_
    ·have:=hmid f hf
     exact⟨by have:=this.params;omega,by have:=this.locals;omega,by have:=this.lists;omega,fun r hr=>by have:=this.rows r hr;omega⟩
    ·simp
     refine zmx VT hG hy ?_
     simp
     exact h _
end
end Go.Proofs.YtohfclafhegadaaGreatDoor
