/- Parts of the proof of the row BinBackUpto: contracts of functions, each under the conditions that its theorem names. -/
import Derived.Test.YtohfclafhegadaaGreatDoorZA
import Derived.Test.YtohfclafhegadaaGreatDoorShelf
set_option linter.unusedSimpArgs false
set_option linter.unusedVariables false
set_option maxRecDepth 100000
open List renaming find?_some->ydy,mem_of_find?_eq_some->ydz,nil_append->ydq,prefix_append->ydA,append_assoc->ydB,prefix_refl->ydC,getElem?_eq_some_iff->yaq,getElem?_append_left->yat,length_append->yab,length_cons->yac,append_cancel_left_eq->ydD,mem_of_getElem?->yc5,cons_append->yc1,getElem?_append_right->yaI,mem_append->ybh,mem_singleton->ydf,getElem?_eq_getElem->yau,length_nil->ybl,flatten_cons->ydF,mem_cons->ybC,map_cons->yaL,any_eq_false->ydG,replicate->yaj,replicate_succ->ydb,mem_of_mem_drop->ydH,map_map->ydI,mem_map->yaV,length_pos_iff->ybm,append_nil->yb7,mem_replicate->ydJ,any_eq_true->ydL,length->ycT,getElem_mem->yaw,all_eq_true->yaM,mem_iff_getElem->yda,mem_flatMap->yc8,getD_eq_getElem?_getD->ycQ,take_length->ycY,sum_cons->ycV,flatMap_cons->yaa,findIdx?_cons->ydP,find?_eq_none->ydm,findIdx?_eq_some_iff_getElem->ydn
open Nat renaming le_refl->yah,zero_add->ydE,mod_lt->ydK,strongRecOn->ybI,le_trans->yai,mul_le_mul_right->yax,lt_of_lt_of_le->yag,le_succ_of_le->ydN,mod_eq_of_lt->ydp,min->ybx
open Option renaming some->yaR,bind_some->ydx,map_eq_some_iff->ybB,map_some->yaG,bind_eq_some_iff->ybA,isSome_iff_exists->yay
open Array renaming getElem?_eq_some_iff->yaU
open Int renaming toNat_natCast->ybe,natCast_pow->ydv,natCast_mul->ybd
open Go.Proofs.Tryz renaming prog->yb9
open Go.IntKind renaming wrap->yb4,signed->yao,bits->yap,u8->ydM,i64->yam,u64->ydO
open Go.Abs.AV renaming int->yc0,str->ycZ,nilsl->yc7
namespace Go.Proofs.YtohfclafhegadaaGreatDoor
open Go Go.Abs
theorem zm{s:Rs}{c:UInt8}{s':Rs}(h:zaW s=some (c,s')):s.b=c::s'.b/\s'.ls=s.ls/\s'.n=s.n:=by
 unfold zaW at h
 split at h
 .cases h
 .rename_i c' r hb
  cases h
  exact⟨hb,rfl,rfl⟩
theorem zaX{s:Rs}{c:UInt8}{r:List UInt8}(h:s.b=c::r):zaW s=some (c,{ s with b:=r }):=by
 unfold zaW
 rw[h]
theorem zaY{n:Int}{s:Rs}{p:List UInt8}{s':Rs}(h:zcM n s=some (p,s')):s.b=p++s'.b/\s'.ls=s.ls/\s'.n=s.n:=by
 unfold zcM at h
 split at h
 .cases h
  exact⟨by simp,rfl,rfl⟩
 .cases h
theorem zkt{n:Int}{s:Rs}{p r:List UInt8}(h:s.b=p++r)(hn:n=p.length):zcM n s=some (p,{ s with b:=r }):=by
 subst hn
 unfold zcM
 rw[h]
 rw[if_pos ⟨by omega,by simp;omega⟩]
 simp
theorem zef(n:Int):-(2^63)<=yb4 .i64 n/\yb4 .i64 n<2^63:=by
 have h:yb4 .i64 n=(if n%2^64≥2^63 then n%2^64-2^64 else n%2^64):=by
  simp[yb4,yao,yap]
 rw[h]
 split<;>omega
theorem zoC:∀{sg:Bool} {k sh u:Nat} {b:List UInt8} {n:Int} {r:List UInt8},ziL sg k sh u b=some (n,r)->(∃x,x≠[]/\b=x++r)/\-(2^63)<=n/\n<2^63
 | sg,0,_,_,_,_,_,h=>by simp[ziL]at h
 | sg,k+1,_,_,[],_,_,h=>by rw[ziL]at h;cases h
 | sg,k+1,sh,u,c::b,n,r,h=>by
  rw[ziL]at h
  split at h
  .simp only[yaR.injEq,Prod.mk.injEq]at h
   obtain⟨h1,rfl⟩:=h
   refine⟨⟨[c],by simp,by simp⟩,?_⟩
   rw[<-h1]
   generalize (if sg=true/\64<=c.toNat/\sh<57 then orS (orS u (c.toNat%128) sh) (2^64-1) (sh+7)else orS u (c.toNat%128) sh)=v
   exact zef _
  .obtain⟨⟨x,h1,h2⟩,h3⟩:=zoC h
   exact⟨⟨c::x,by simp,by rw[h2];rfl⟩,h3⟩
theorem zp{st sg:Bool}{s s':Rs}{n:Int}(h:zcd st sg s=some (n,s')):(∃x,x≠[]/\s.b=x++s'.b)/\s'.ls=s.ls/\s'.n=s.n/\-(2^63)<=n/\n<2^63/\(st=true->sg=false->0<=n):=by
 unfold zcd at h
 cases hg:ziL sg 10 0 0 s.b with
 | none=>rw[hg]at h;cases h
 | some p =>
  rw[hg]at h
  simp only[ydx]at h
  obtain⟨m,r⟩:=p
  split at h
  .cases h
  .rename_i hno
   cases h
   obtain⟨h1,h2,h3⟩:=zoC hg
   refine⟨h1,rfl,rfl,h2,h3,λh4 h5=>?_⟩
   by_cases h0:0<=m
   .exact h0
   .exact absurd ⟨h4,.inr ⟨h5,by simp only;omega⟩⟩ hno
theorem zhv{l:List (UInt8 × W)}{c:UInt8}{w:W}(h:zci l c=some w):(c,w)∈l:=by
 unfold zci at h
 rw[ybB]at h
 obtain⟨p,h1,rfl⟩:=h
 have h2:=ydy h1
 have h3:=ydz h1
 simp only[beq_iff_eq]at h2
 rw[<-h2];exact h3
theorem zhw:∀p∈zga,zci zga p.1=some p.2/\p.1≠11/\p.1≠5/\¬(2<=p.1.toNat/\p.1.toNat<=4)/\p.2.op≠4/\p.2.op≠8/\p.2.op≠9/\zR p.2=false/\zee p.2=some p.1/\p.2.n=0/\(p.2.op=1\/(p.2.op=2\/p.2.op=3\/p.2.op=10\/p.2.op=14\/p.2.op=15)):=by decide
theorem zku:∀p∈zao,zci zga p.1=none/\zci zao p.1=some p.2/\p.1≠11/\p.1≠5/\¬(2<=p.1.toNat/\p.1.toNat<=4)/\zR p.2=false/\zee p.2=some p.1/\zbW p.2=(if p.2.op=8\/p.2.op=9 then [0,0]else []):=by decide
def zqt:List (UInt8 × W):=(List.range 16).map (λi=>(zi6.getD i 0,zks 1 i))++(List.range 16).map (λi=>(zi7.getD i 0,zks 2 i))
theorem zoD:∀c:Fin 256,∀w,zht (UInt8.ofNat c.1)=some w->(UInt8.ofNat c.1,w)∈zqt:=by
 have:∀c:Fin 256,(match zht (UInt8.ofNat c.1)with|some w=>decide ((UInt8.ofNat c.1,w)∈zqt)|none=>true)=true:=by decide
 intro c w h
 have:=this c
 rw[h]at this
 simpa using this
theorem zsZ:∀p∈zqt,zci zga p.1=none/\zci zao p.1=none/\zht p.1=some p.2/\p.1≠11/\p.1≠5/\¬(2<=p.1.toNat/\p.1.toNat<=4)/\zR p.2=false/\zee p.2=some p.1/\zbW p.2=[]:=by decide
theorem zuY{p:UInt8 × W}(h:p∈zga)(n:Int):zee { p.2 with n:=n }=some p.1:=by
 obtain⟨_,_,_,_,h4,h8,h9,_,hl,hn,_⟩:=zhw p h
 have e:zaF { p.2 with n:=n }=zaF p.2:=by
  funext q
  have:zfC { p.2 with n:=n }=zfC p.2:=by simp[zfC,h8,h9]
  simp only[zaF,this]
 unfold zee at hl ⊢
 rw[if_neg h4]at hl
 rw[if_neg h4,e,hl]
theorem zce{st:Bool}{c:UInt8}{s s':Rs}{w:W}(h:ze4 st c s=some (w,s')):(∃x,s.b=x++s'.b)/\s'.ls=s.ls/\s'.n=s.n/\zR w=false/\zee w=some c/\c≠11/\c≠5/\¬(2<=c.toNat/\c.toNat<=4) /\
  (st=true->zI w=false) /\
  ∀(st':Bool) (t:Rs) (r:List UInt8),zI w=false->t.b=zbW w++r->ze4 st' c t=some (w,{ t with b:=r }):=by
 unfold ze4 at h
 cases hf:zci zga c with
 | some w0 =>
  rw[hf]at h
  simp only[ybB]at h
  obtain⟨⟨n,s1⟩,hn,he⟩:=h
  cases he
  have hm:=zhv hf
  obtain⟨_,h11,h5,h24,h4,h8,h9,hnest,_,_,hops⟩:=zhw _ hm
  simp only at h11 h5 h24 h4 h8 h9 hnest hops
  obtain⟨⟨x,_,hx⟩,e1,e2,n1,n2,n3⟩:=zp hn
  refine⟨⟨x,hx⟩,e1,e2,hnest,zuY hm n,h11,h5,h24,λhst=>?_,λst' t r hb ht=>?_⟩
  .unfold zI
   simp only[Bool.and_eq_false_iff,decide_eq_false_iff_not]
   by_cases h1:w0.op=1
   .exact .inr (by simpa using h1)
   .have:=n3 hst (by simpa using h1)
    exact .inl (by omega)
  .unfold ze4
   rw[hf]
   simp only
   unfold zI at hb
   simp only[Bool.and_eq_false_iff,decide_eq_false_iff_not]at hb
   by_cases h1:w0.op=1
   .have:zbW { w0 with n:=n }=sI n:=by simp[zbW,h1]
    rw[this]at ht
    simp only[h1,decide_true]
    rw[zrI st' n1 n2 ht]
    rfl
   .have hops:w0.op=2\/w0.op=3\/w0.op=10\/w0.op=14\/w0.op=15:=by rcases hops with h|h;exact absurd h h1;exact h
    have:zbW { w0 with n:=n }=uI n:=by simp only[zbW,h1,if_false,hops,if_true]
    rw[this]at ht
    have h0:0<=n:=by
     rcases hb with h|h
     .omega
     .exact absurd h (by simpa using h1)
    simp only[h1,decide_false]
    rw[zbk st' h0 n2 ht]
    rfl
 | none =>
  rw[hf]at h
  simp only at h
  cases hp:zci zao c with
  | some w0 =>
   rw[hp]at h
   simp only at h
   have hm:=zhv hp
   obtain⟨_,_,h11,h5,h24,hnest,hcode,htail⟩:=zku _ hm
   simp only at h11 h5 h24 hnest hcode htail
   have hz:∀p∈zao,zI p.2=false:=by decide
   have hz:=hz _ hm
   by_cases h89:w0.op=8\/w0.op=9
   .rw[if_pos h89,ybB]at h
    obtain⟨⟨p,s1⟩,hn,he⟩:=h
    cases he
    obtain⟨e0,e1,e2⟩:=zaY hn
    refine⟨⟨p,e0⟩,e1,e2,hnest,hcode,h11,h5,h24,λ_=>hz,λst' t r hb ht=>?_⟩
    rw[htail,if_pos h89]at ht
    unfold ze4
    rw[hf,hp]
    simp only[h89,if_true]
    rw[zkt (n:=2) ht rfl]
    rfl
   .rw[if_neg h89]at h
    cases h
    refine⟨⟨[],by simp⟩,rfl,rfl,hnest,hcode,h11,h5,h24,λ_=>hz,λst' t r hb ht=>?_⟩
    rw[htail,if_neg h89]at ht
    unfold ze4
    rw[hf,hp]
    simp only[h89,if_false]
    simp only[ydq]at ht
    rw[<-ht]
  | none =>
   rw[hp]at h
   simp only[ybB]at h
   obtain⟨w0,hn,he⟩:=h
   cases he
   have hm:(c,w)∈zqt:=by
    have:=zoD ⟨c.toNat,c.toNat_lt⟩ w (by simpa using hn)
    simpa using this
   obtain⟨_,_,_,h11,h5,h24,hnest,hcode,htail⟩:=zsZ _ hm
   simp only at h11 h5 h24 hnest hcode htail
   have hz:∀p∈zqt,zI p.2=false:=by decide
   have hz:=hz _ hm
   refine⟨⟨[],by simp⟩,rfl,rfl,hnest,hcode,h11,h5,h24,λ_=>hz,λst' t r hb ht=>?_⟩
   rw[htail]at ht
   unfold ze4
   rw[hf,hp]
   simp only[hn]
   simp only[ydq]at ht
   rw[<-ht]
   rfl
theorem zbw{x y z:List UInt8}(h:x=y++z):z.length<=x.length:=by rw[h];simp
theorem zQ:∀(st:Bool) (k d:Nat) (l:List W) (s:Rs) (n:Int) (e:UInt8) (s':Rs),zH st k d l s=some ((n,e),s') ->
  s.ls<+:s'.ls/\(s'.ls.length:Int)=n+1/\(s.ls.length:Int)<=n/\(∃ws,s'.ls[n.toNat]?=some (l++ws))/\(e=11\/e=5)/\(∃x,x≠[]/\s.b=x++s'.b)/\s'.n=s.n
 | st,0,_,_,_,_,_,_,h=>by simp[zH]at h
 | st,k+1,d,l,s,n,e,s',h=>by
  rw[zH]at h
  cases hb:zaW s with
  | none=>rw[hb]at h;cases h
  | some p =>
   obtain⟨c,s1⟩:=p
   rw[hb]at h
   simp only[ydx]at h
   obtain⟨b1,b2,b3⟩:=zm hb
   split at h
   .rename_i hc
    cases h
    refine⟨?_,?_,?_,⟨[],?_⟩,hc,⟨[_],by simp,b1⟩,b3⟩
    .rw[b2];exact ydA _ _
    .simp
    .rw[b2];exact Int.le_refl _
    .simp
   .rename_i hc
    cases hi:zay st (λd s=>zH st k d [] s) d c s1 with
    | none=>rw[hi]at h;cases h
    | some q =>
     obtain⟨w,s2⟩:=q
     rw[hi]at h
     simp only[ydx]at h
     obtain⟨i1,i2,i3,⟨ws,i4⟩,i5,⟨x,hx0,i6⟩,i7⟩:=zQ st k d _ s2 n e s' h
     have hq:s1.ls<+:s2.ls/\(∃x,s1.b=x++s2.b)/\s2.n=s1.n:=by
      unfold zay at hi
      split at hi
      .split at hi
       .unfold zaL at hi
        cases hb1:zaW s1 with
        | none=>rw[hb1]at hi;cases hi
        | some p1 =>
         obtain⟨c1,s3⟩:=p1
         rw[hb1]at hi
         simp only[ydx]at hi
         obtain⟨f1,f2,f3⟩:=zm hb1
         cases hl1:zH st k (d+1) [] s3 with
         | none=>rw[hl1]at hi;cases hi
         | some q1 =>
          obtain⟨⟨n1,e1⟩,s4⟩:=q1
          rw[hl1]at hi
          simp only[ydx]at hi
          obtain⟨j1,j2,j3,j4,j5,⟨x1,_,j6⟩,j7⟩:=zQ st k (d+1) [] s3 n1 e1 s4 hl1
          have base:s1.ls<+:s4.ls/\(∃x,s1.b=x++s4.b)/\s4.n=s1.n:=⟨by rw[<-f2];exact j1,⟨c1::x1,by rw[f1,j6];rfl⟩,by rw[j7,f3]⟩
          split at hi
          .split at hi
           .rw[ybB]at hi
            obtain⟨⟨⟨n2,e2⟩,s5⟩,hl2,he2⟩:=hi
            cases he2
            obtain⟨g1,g2,g3,g4,g5,⟨x2,_,g6⟩,g7⟩:=zQ st k (d+1) [] s4 n2 e2 _ hl2
            obtain⟨o1,⟨x3,o2⟩,o3⟩:=base
            exact⟨o1.trans g1,⟨x3++x2,by rw[o2,g6,ydB]⟩,by rw[g7,o3]⟩
           .cases hi;exact base
          .cases hi;exact base
       .cases hi
      .obtain⟨a1,a2,a3,_⟩:=zce hi
       exact⟨by rw[a2];exact ydC _,a1,a3⟩
     obtain⟨q1,⟨x1,q2⟩,q3⟩:=hq
     have ql:=q1.length_le
     rw[b2]at q1 ql
     refine⟨q1.trans i1,i2,by omega,⟨w::ws,by rw[i4];simp⟩,i5,⟨c::(x1++x),by simp,by rw[b1,q2,i6];simp⟩,by rw[i7,q3,b3]⟩
theorem zdE{α:Type}{x y:List α}(h:x<+:y){i:Nat}{v:α}(hx:x[i]?=some v):y[i]?=some v:=by
 obtain⟨z,rfl⟩:=h
 have hi:=(yaq.1 hx).1
 rw[yat hi];exact hx
theorem zik{rec:Int->Option (List UInt8)}{w:W}{r:List W}{y:List UInt8}(h:zcL rec (w::r)=some y):∃a b,zgX rec w=some a/\zcL rec r=some b/\y=a++b:=by
 rw[zcL]at h
 cases ha:zgX rec w with
 | none=>rw[ha]at h;cases h
 | some a =>
  rw[ha]at h
  simp only[ydx,ybB]at h
  obtain⟨b,hb,rfl⟩:=h
  exact⟨a,b,rfl,hb,rfl⟩
theorem zuZ{c:UInt8}(h:2<=c.toNat/\c.toNat<=4):zY (((c.toNat:Int)+9)-9)=c:=by
 have:((c.toNat:Int)+9)-9=(c.toNat:Int):=by omega
 rw[this]
 apply UInt8.toNat_inj.1
 exact zrH (by omega)
def zHy(st st':Bool)(fin:To)(k:Nat):Prop:=∀(d:Nat) (l:List W) (s:Rs) (n:Int) (e:UInt8) (s':Rs),zH st k d l s=some ((n,e),s')->s'.ls<+:fin ->
 ∀(j:Nat) (ws:List W) (y:List UInt8),fin[n.toNat]?=some (l++ws)->zcL (zcZ fin j) ws=some y->∀(k':Nat) (t:Rs) (e':UInt8) (r:List UInt8),(e'=11\/e'=5)->t.ls=s.ls->t.b=y++e'::r->t.b.length<k' ->
  zH st' k' d l t=some ((n,e'),{ t with b:=r,ls:=s'.ls })
theorem zoE{st st':Bool}{fin:To}{k:Nat}(IH:zHy st st' fin k){d:Nat}{c:UInt8}(hc:2<=c.toNat/\c.toNat<=4){s s':Rs}{w:W}(h:zaL (λd s=>zH st k d [] s) d c s=some (w,s'))(hp:s'.ls<+:fin)
  {j:Nat} {a:List UInt8} (ha:zgX (zcZ fin j) w=some a):∃a',a=c::a'/\∀(k':Nat) (t:Rs) (z:List UInt8),t.ls=s.ls->t.b=a'++z->t.b.length<k'+1->zaL (λd s=>zH st' k' d [] s) d c t=some (w,{ t with b:=z,ls:=s'.ls }):=by
 unfold zaL at h
 cases hb1:zaW s with
 | none=>rw[hb1]at h;cases h
 | some p1 =>
  obtain⟨c1,s3⟩:=p1
  rw[hb1]at h
  simp only[ydx]at h
  obtain⟨f1,f2,f3⟩:=zm hb1
  cases hl1:zH st k (d+1) [] s3 with
  | none=>rw[hl1]at h;cases h
  | some q1 =>
   obtain⟨⟨n1,e1⟩,s4⟩:=q1
   rw[hl1]at h
   simp only[ydx]at h
   obtain⟨j1,j2,j3,⟨ws1,j4⟩,j5,_,_⟩:=zQ st k (d+1) [] s3 n1 e1 s4 hl1
   have hbn:=zuZ hc
   -- the body's bytes
   have body:∀x,zcZ fin j n1=some x->s4.ls<+:fin->∀(k':Nat) (t:Rs) (e':UInt8) (r:List UInt8),(e'=11\/e'=5)->t.ls=s3.ls->t.b=x++e'::r->t.b.length<k'->zH st' k' (d+1) [] t=some ((n1,e'),{ t with b:=r,ls:=s4.ls }):=by
    intro x hx hp4 k' t e' r he' ht hb hk
    cases j with
    | zero=>simp[zcZ]at hx
    | succ j =>
     have hat:=zdE hp4 j4
     simp only[ydq]at hat
     rw[zcZ]at hx
     split at hx
     .cases hx
     .rw[hat]at hx
      exact IH (d+1) [] s3 n1 e1 s4 hl1 hp4 j ws1 x (by simpa using hat) hx k' t e' r he' ht hb hk
   by_cases h4:c.toNat=4
   .simp only[h4,if_true]at h
    have h13:zY (13-9)=c:=by
     have:((c.toNat:Int)+9)=13:=by omega
     rw[<-this];exact hbn
    by_cases he:e1=5
    .simp only[he,if_true]at h
     rw[ybB]at h
     obtain⟨⟨⟨n2,e2⟩,s5⟩,hl2,he2⟩:=h
     cases he2
     obtain⟨g1,g2,g3,⟨ws2,g4⟩,g5,_,_⟩:=zQ st k (d+1) [] s4 n2 e2 _ hl2
     have hn2:0<=n2:=by omega
     unfold zgX at ha
     simp only[zcD,zR,decide_true,Bool.or_true,if_true,hn2,and_self,h13]at ha
     cases hx:zcZ fin j n1 with
     | none=>rw[hx]at ha;cases ha
     | some x =>
      rw[hx]at ha
      simp only[ydx,ybB]at ha
      obtain⟨o,ho,rfl⟩:=ha
      refine⟨_,rfl,λk' t z ht hb hk=>?_⟩
      have hb:t.b=64::(x++5::(o++11::z)):=by rw[hb];simp
      unfold zaL
      rw[zaX hb]
      simp only[ydx]
      rw[hb]at hk
      simp only[yab,yac]at hk
      rw[body x hx (g1.trans hp) k' { t with b:=x++5::(o++11::z) } 5 (o++11::z) (.inr rfl) (ht.trans f2.symm) rfl (by simp;omega)]
      simp only[ydx,h4,if_true]
      cases j with
      | zero=>simp[zcZ]at ho
      | succ j =>
       have hat:=zdE hp g4
       simp only[ydq]at hat
       rw[zcZ]at ho
       rw[if_neg (by omega),hat]at ho
       rw[IH (d+1) [] s4 n2 e2 _ hl2 hp j ws2 o (by simpa using hat) ho k' { t with b:=o++11::z,ls:=s4.ls } 11 z (.inl rfl) rfl rfl (by simp;omega)]
       rfl
    .simp only[he,if_false]at h
     cases h
     unfold zgX at ha
     have hm1:¬(0:Int)<= -1:=by omega
     simp only[zcD,zR,decide_true,Bool.or_true,if_true,hm1,and_false,if_false,h13]at ha
     cases hx:zcZ fin j n1 with
     | none=>rw[hx]at ha;cases ha
     | some x =>
      rw[hx]at ha
      simp only[ydx,yaR.injEq]at ha
      subst ha
      refine⟨_,rfl,λk' t z ht hb hk=>?_⟩
      have hb:t.b=64::(x++11::z):=by rw[hb];simp
      unfold zaL
      rw[zaX hb]
      simp only[ydx]
      rw[hb]at hk
      simp only[yab,yac]at hk
      rw[body x hx hp k' { t with b:=x++11::z } 11 z (.inl rfl) (ht.trans f2.symm) rfl (by simp;omega)]
      simp only[ydx,h4,if_true]
      rfl
   .simp only[h4,if_false]at h
    cases h
    unfold zgX at ha
    have h13:¬((c.toNat:Int)+9=13):=by omega
    have hnest:zR (zcD ((c.toNat:Int)+9) n1 0)=true:=by
     have:((c.toNat:Int)+9=11\/(c.toNat:Int)+9=12):=by omega
     rcases this with e|e<;>simp[zcD,zR,e]
    rw[if_pos hnest]at ha
    simp only[zcD,h13,false_and,if_false,hbn]at ha
    cases hx:zcZ fin j n1 with
    | none=>rw[hx]at ha;cases ha
    | some x =>
     rw[hx]at ha
     simp only[ydx,yaR.injEq]at ha
     subst ha
     refine⟨_,rfl,λk' t z ht hb hk=>?_⟩
     have hb:t.b=64::(x++11::z):=by rw[hb];simp
     unfold zaL
     rw[zaX hb]
     simp only[ydx]
     rw[hb]at hk
     simp only[yab,yac]at hk
     rw[body x hx hp k' { t with b:=x++11::z } 11 z (.inl rfl) (ht.trans f2.symm) rfl (by simp;omega)]
     simp only[ydx,h4,if_false]
theorem zkv{st st':Bool}{fin:To}(hr:∀ws∈fin,∀w∈ws,zI w=false):∀k,zHy st st' fin k
 | 0=>λd l s n e s' h=>by simp[zH]at h
 | k+1=>λd l s n e s' h hp j ws y hn hy k' t e' r he' ht hb hk=>by
  have IH:=zkv (st:=st) (st':=st') hr k
  obtain⟨k',rfl⟩:∃i,k'=i+1:=⟨k' - 1,by omega⟩
  rw[zH]at h
  cases hb0:zaW s with
  | none=>rw[hb0]at h;cases h
  | some p =>
   obtain⟨c,s1⟩:=p
   rw[hb0]at h
   simp only[ydx]at h
   obtain⟨b1,b2,b3⟩:=zm hb0
   split at h
   .rename_i hc
    cases h
    have hat:=zdE hp (i:=s1.ls.length) (v:=l) (by simp)
    simp only[ybe]at hn
    rw[hat]at hn
    have hws:ws=[]:=by simpa using hn
    subst hws
    simp only[zcL,yaR.injEq]at hy
    subst hy
    simp only[ydq]at hb
    rw[zH,zaX hb]
    simp only[ydx,he',if_true]
    rw[ht,b2]
   .rename_i hc
    cases hi:zay st (λd s=>zH st k d [] s) d c s1 with
    | none=>rw[hi]at h;cases h
    | some q =>
     obtain⟨w,s2⟩:=q
     rw[hi]at h
     simp only[ydx]at h
     obtain⟨i1,i2,i3,⟨ws2,i4⟩,_,_,_⟩:=zQ st k d _ s2 n e s' h
     have hat:=zdE hp i4
     rw[hat]at hn
     have hws:ws=w::ws2:=by
      simp only[yaR.injEq,ydB,ydD]at hn
      exact hn.symm
     subst hws
     obtain⟨a,y2,ha,hy2,rfl⟩:=zik hy
     have hbw:zI w=false:=hr _ (yc5 hat) w (by simp)
     have key:∃a',a=c::a'/\∀(t:Rs) (z:List UInt8),t.ls=s1.ls->t.b=a'++z->t.b.length<k'+1->zay st' (λd s=>zH st' k' d [] s) d c t=some (w,{ t with b:=z,ls:=s2.ls }):=by
      unfold zay at hi
      split at hi
      .rename_i hc2
       split at hi
       .rename_i hd
        obtain⟨a',e1,e2⟩:=zoE IH hc2 hi (i1.trans hp) ha
        refine⟨a',e1,λt z ht hb hk=>?_⟩
        unfold zay
        rw[if_pos hc2,if_pos hd]
        exact e2 k' t z ht hb hk
       .cases hi
      .rename_i hc2
       obtain⟨_,l1,l2,l3,l4,_,_,_,_,l5⟩:=zce hi
       unfold zgX at ha
       rw[l3,l4]at ha
       simp only[Bool.false_eq_true,if_false,yaG,yaR.injEq]at ha
       refine⟨zbW w,ha.symm,λt z ht hb hk=>?_⟩
       unfold zay
       rw[if_neg hc2,l5 st' t z hbw hb,l1,<-ht]
     obtain⟨a',rfl,ki⟩:=key
     simp only[yc1,ydB]at hb
     rw[zH,zaX hb]
     simp only[ydx]
     rw[if_neg hc]
     rw[hb]at hk
     simp only[yac,yab]at hk
     rw[ki { t with b:=a'++(y2++e'::r) } (y2++e'::r) (ht.trans b2.symm) rfl (by simp;omega)]
     simp only[ydx]
     exact IH d _ s2 n e s' h hp j ws2 y2 (by rw[hat]) hy2 k' _ e' r he' rfl rfl (by simp;omega)
def Can(i:Int)(w:W):Prop:=(zR w=true->0<=w.body/\w.body<i/\(w.op=13->w.other<i))/\(zR w=false->∃c,zee w=some c)
def zoF(ls:To):Prop:=∀(i:Nat) (ws:List W),ls[i]?=some ws->∀w∈ws,Can i w
theorem Can.mono{i j:Int}{w:W}(h:Can i w)(hij:i<=j):Can j w:=⟨λq=>by
 obtain⟨a,b,c⟩:=h.1 q
 exact⟨a,by omega,λr=>by have:=c r;omega⟩,h.2⟩
theorem zoF.snoc{ls:To}{l:List W}(h:zoF ls)(hl:∀w∈l,Can ls.length w):zoF (ls++[l]):=λi ws hi w hw=>by
 rcases Nat.lt_or_ge i ls.length with h1|h1
 .rw[yat h1]at hi
  exact h i ws hi w hw
 .rw[yaI h1]at hi
  have:i=ls.length:=by
   rcases Nat.eq_or_lt_of_le h1 with h2|h2
   .exact h2.symm
   .rw[List.getElem?_eq_none (by simp;omega)]at hi;cases hi
  subst this
  simp only[Nat.sub_self,List.getElem?_cons_zero,yaR.injEq]at hi
  subst hi
  exact hl w hw
theorem zfG:∀(st:Bool) (k d:Nat) (l:List W) (s:Rs) (n:Int) (e:UInt8) (s':Rs),zH st k d l s=some ((n,e),s')->zoF s.ls->(∀w∈l,Can s.ls.length w)->zoF s'.ls
 | st,0,_,_,_,_,_,_,h,_,_=>by simp[zH]at h
 | st,k+1,d,l,s,n,e,s',h,hs,hl=>by
  rw[zH]at h
  cases hb:zaW s with
  | none=>rw[hb]at h;cases h
  | some p =>
   obtain⟨c,s1⟩:=p
   rw[hb]at h
   simp only[ydx]at h
   obtain⟨b1,b2,b3⟩:=zm hb
   rw[<-b2]at hs hl
   split at h
   .cases h
    exact hs.snoc hl
   .cases hi:zay st (λd s=>zH st k d [] s) d c s1 with
    | none=>rw[hi]at h;cases h
    | some q =>
     obtain⟨w,s2⟩:=q
     rw[hi]at h
     simp only[ydx]at h
     have hq:zoF s2.ls/\s1.ls.length<=s2.ls.length/\Can s2.ls.length w:=by
      unfold zay at hi
      split at hi
      .rename_i hc2
       split at hi
       .unfold zaL at hi
        cases hb1:zaW s1 with
        | none=>rw[hb1]at hi;cases hi
        | some p1 =>
         obtain⟨c1,s3⟩:=p1
         rw[hb1]at hi
         simp only[ydx]at hi
         obtain⟨f1,f2,f3⟩:=zm hb1
         rw[<-f2]at hs
         cases hl1:zH st k (d+1) [] s3 with
         | none=>rw[hl1]at hi;cases hi
         | some q1 =>
          obtain⟨⟨n1,e1⟩,s4⟩:=q1
          rw[hl1]at hi
          simp only[ydx]at hi
          obtain⟨j1,j2,j3,_⟩:=zQ st k (d+1) [] s3 n1 e1 s4 hl1
          have hs4:=zfG st k (d+1) [] s3 n1 e1 s4 hl1 hs (by simp)
          have hle:=j1.length_le
          rw[f2]at hle
          split at hi
          .split at hi
           .rw[ybB]at hi
            obtain⟨⟨⟨n2,e2⟩,s5⟩,hl2,he2⟩:=hi
            simp only[Prod.mk.injEq]at he2
            obtain⟨rfl,rfl⟩:=he2
            obtain⟨g1,g2,g3,_⟩:=zQ st k (d+1) [] s4 n2 e2 _ hl2
            have hs5:=zfG st k (d+1) [] s4 n2 e2 _ hl2 hs4 (by simp)
            have:=g1.length_le
            refine⟨hs5,by omega,⟨λ_=>⟨?_,?_,λ_=>?_⟩,λq=>?_⟩⟩
            .show 0<=n1;omega
            .show n1<_;omega
            .show n2<_;omega
            .simp[zcD,zR]at q
           .cases hi
            refine⟨hs4,by omega,⟨λ_=>⟨?_,?_,λ_=>?_⟩,λq=>?_⟩⟩
            .show 0<=n1;omega
            .show n1<_;omega
            .show(-1:Int)<_;omega
            .simp[zcD,zR]at q
          .rename_i h4
           cases hi
           refine⟨hs4,by omega,⟨λ_=>⟨?_,?_,λh13=>?_⟩,λq=>?_⟩⟩
           .show 0<=n1;omega
           .show n1<_;omega
           .have:((c.toNat:Int)+9)=13:=h13
            omega
           .have:((c.toNat:Int)+9=11\/(c.toNat:Int)+9=12):=by omega
            rcases this with e|e<;>simp[zcD,zR,e]at q
       .cases hi
      .obtain⟨a1,a2,a3,a4,a5,_⟩:=zce hi
       rw[a2]
       exact⟨hs,yah _,⟨λq=>(by rw[a4]at q;cases q),λ_=>⟨c,a5⟩⟩⟩
     obtain⟨q1,q2,q3⟩:=hq
     refine zfG st k d _ s2 n e s' h q1 λw' hw'=>?_
     rcases ybh.1 hw' with h1|h1
     .exact(hl w' h1).mono (by omega)
     .simp only[ydf]at h1
      subst h1
      exact q3
theorem zlV{rec:Int->Option (List UInt8)}:∀{ws:List W},(∀w∈ws,∃a,zgX rec w=some a)->∃y,zcL rec ws=some y
 | [],_=>⟨[],rfl⟩
 | w::r,h=>by
  obtain⟨a,ha⟩:=h w (by simp)
  obtain⟨y,hy⟩:=zlV (ws:=r) λw' hw'=>h w' (by simp[hw'])
  exact⟨a++y,by rw[zcL,ha,ydx,hy];rfl⟩
theorem zkw{ls:To}(h:zoF ls):∀(i j:Nat),i<ls.length->i<j->∃x,zcZ ls j i=some x
 | i,0,_,hj=>by omega
 | i,j+1,hi,hj=>by
  have hg:=yau hi
  rw[zcZ,if_neg (by omega)]
  simp only[ybe,hg]
  refine zlV λw hw=>?_
  have hc:=h i _ hg w hw
  unfold zgX
  by_cases hn:zR w=true
  .obtain⟨h1,h2,h3⟩:=hc.1 hn
   rw[if_pos hn]
   obtain⟨x,hx⟩:=zkw h w.body.toNat j (by omega) (by omega)
   rw[show((w.body.toNat:Nat):Int)=w.body from by omega]at hx
   rw[hx]
   simp only[ydx]
   by_cases h13:w.op=13/\0<=w.other
   .rw[if_pos h13]
    have:=h3 h13.1
    obtain⟨o,ho⟩:=zkw h w.other.toNat j (by omega) (by omega)
    rw[show((w.other.toNat:Nat):Int)=w.other from by omega]at ho
    rw[ho]
    exact⟨_,rfl⟩
   .rw[if_neg h13]
    exact⟨_,rfl⟩
  .rw[if_neg hn]
   obtain⟨c,hc⟩:=hc.2 (by simpa using hn)
   rw[hc]
   exact⟨_,rfl⟩
termination_by i j=>j
theorem zoG(w:W):(zbW w).length<=10:=by
 have h1:=zkp w.n
 have h2:=zaj w.n
 unfold zbW
 split
 .exact h1
 .split
  .exact h2
  .split<;>simp
theorem listP_len{st:Bool}{fin:To}:∀(k d:Nat) (l:List W) (s:Rs) (n:Int) (e:UInt8) (s':Rs),zH st k d l s=some ((n,e),s')->s'.ls<+:fin ->
  ∀(j:Nat) (ws:List W) (y:List UInt8),fin[n.toNat]?=some (l++ws)->zcL (zcZ fin j) ws=some y->y.length+11*s'.b.length+11<=11*s.b.length
 | 0,_,_,_,_,_,_,h,_,_,_,_,_,_=>by simp[zH]at h
 | k+1,d,l,s,n,e,s',h,hp,j,ws,y,hn,hy=>by
  have IH:=@listP_len st fin k
  rw[zH]at h
  cases hb0:zaW s with
  | none=>rw[hb0]at h;cases h
  | some p =>
   obtain⟨c,s1⟩:=p
   rw[hb0]at h
   simp only[ydx]at h
   obtain⟨b1,b2,b3⟩:=zm hb0
   rw[b1]
   simp only[yac]
   split at h
   .rename_i hc
    cases h
    have hat:=zdE hp (i:=s1.ls.length) (v:=l) (by simp)
    simp only[ybe]at hn
    rw[hat]at hn
    have hws:ws=[]:=by simpa using hn
    subst hws
    simp only[zcL,yaR.injEq]at hy
    subst hy
    simp
    omega
   .rename_i hc
    cases hi:zay st (λd s=>zH st k d [] s) d c s1 with
    | none=>rw[hi]at h;cases h
    | some q =>
     obtain⟨w,s2⟩:=q
     rw[hi]at h
     simp only[ydx]at h
     obtain⟨i1,i2,i3,⟨ws2,i4⟩,_,_,_⟩:=zQ st k d _ s2 n e s' h
     have hat:=zdE hp i4
     have hn':=hn
     rw[hat]at hn
     have hws:ws=w::ws2:=by
      simp only[yaR.injEq,ydB,ydD]at hn
      exact hn.symm
     subst hws
     obtain⟨a,y2,ha,hy2,rfl⟩:=zik hy
     have h2:=IH d _ s2 n e s' h hp j ws2 y2 (by rw[hat]) hy2
     have body:∀(d':Nat) (u u':Rs) (n1:Int) (e1:UInt8) (x:List UInt8),zH st k d' [] u=some ((n1,e1),u')->u'.ls<+:fin->zcZ fin j n1=some x->x.length+11*u'.b.length+11<=11*u.b.length:=by
      intro d' u u' n1 e1 x hl1 hp1 hx
      obtain⟨j1,j2,j3,⟨ws1,j4⟩,_⟩:=zQ st k d' [] u n1 e1 u' hl1
      cases j with
      | zero=>simp[zcZ]at hx
      | succ j =>
       have hat1:=zdE hp1 j4
       rw[zcZ,if_neg (by omega),hat1]at hx
       exact IH d' [] u n1 e1 u' hl1 hp1 j ws1 x (by simpa using hat1) (by simpa using hx)
     have key:a.length+11*s2.b.length<=11*s1.b.length+11:=by
      unfold zay at hi
      split at hi
      .rename_i hc2
       split at hi
       .unfold zaL at hi
        cases hb1:zaW s1 with
        | none=>rw[hb1]at hi;cases hi
        | some p1 =>
         obtain⟨c1,s3⟩:=p1
         rw[hb1]at hi
         simp only[ydx]at hi
         obtain⟨f1,f2,f3⟩:=zm hb1
         rw[f1]
         simp only[yac]
         cases hl1:zH st k (d+1) [] s3 with
         | none=>rw[hl1]at hi;cases hi
         | some q1 =>
          obtain⟨⟨n1,e1⟩,s4⟩:=q1
          rw[hl1]at hi
          simp only[ydx]at hi
          split at hi
          .split at hi
           .rw[ybB]at hi
            obtain⟨⟨⟨n2,e2⟩,s5⟩,hl2,he2⟩:=hi
            simp only[Prod.mk.injEq]at he2
            obtain⟨rfl,rfl⟩:=he2
            obtain⟨g1,g2,g3,_⟩:=zQ st k (d+1) [] s4 n2 e2 _ hl2
            obtain⟨j1,j2,j3,_⟩:=zQ st k (d+1) [] s3 n1 e1 s4 hl1
            have hn2:0<=n2:=by omega
            unfold zgX at ha
            simp only[zcD,zR,decide_true,Bool.or_true,if_true,hn2,and_self]at ha
            cases hx:zcZ fin j n1 with
            | none=>rw[hx]at ha;cases ha
            | some x =>
             rw[hx]at ha
             simp only[ydx,ybB]at ha
             obtain⟨o,ho,rfl⟩:=ha
             have hx':=body _ _ _ _ _ _ hl1 (g1.trans (i1.trans hp)) hx
             have ho':=body _ _ _ _ _ _ hl2 (i1.trans hp) ho
             simp only[yac,yab,ybl]
             omega
           .cases hi
            unfold zgX at ha
            have hm1:¬(0:Int)<= -1:=by omega
            simp only[zcD,zR,decide_true,Bool.or_true,if_true,hm1,and_false,if_false]at ha
            cases hx:zcZ fin j n1 with
            | none=>rw[hx]at ha;cases ha
            | some x =>
             rw[hx]at ha
             simp only[ydx,yaR.injEq]at ha
             subst ha
             have hx':=body _ _ _ _ _ _ hl1 (i1.trans hp) hx
             simp only[yac,yab,ybl]
             omega
          .rename_i h4
           cases hi
           unfold zgX at ha
           have h13:¬((c.toNat:Int)+9=13):=by omega
           have hnest:zR (zcD ((c.toNat:Int)+9) n1 0)=true:=by
            have:((c.toNat:Int)+9=11\/(c.toNat:Int)+9=12):=by omega
            rcases this with e|e<;>simp[zcD,zR,e]
           rw[if_pos hnest]at ha
           simp only[zcD,h13,false_and,if_false]at ha
           cases hx:zcZ fin j n1 with
           | none=>rw[hx]at ha;cases ha
           | some x =>
            rw[hx]at ha
            simp only[ydx,yaR.injEq]at ha
            subst ha
            have hx':=body _ _ _ _ _ _ hl1 (i1.trans hp) hx
            simp only[yac,yab,ybl]
            omega
       .cases hi
      .obtain⟨⟨x,l1⟩,l2,l3',l3,l4,_⟩:=zce hi
       unfold zgX at ha
       rw[l3,l4]at ha
       simp only[Bool.false_eq_true,if_false,yaG,yaR.injEq]at ha
       subst ha
       have:=zoG w
       rw[l1]
       simp
       omega
     simp only[yab]
     omega
theorem zcP:∀(st:Bool) (k d:Nat) (l:List W) (s:Rs) (n:Int) (e:UInt8) (s':Rs),zH st k d l s=some ((n,e),s') ->
  s'.ls.length+s'.b.length<=s.ls.length+s.b.length/\∀B:Nat,l.length+s.b.length<=B->(∀ws∈s.ls,ws.length<=B)->∀ws∈s'.ls,ws.length<=B
 | st,0,_,_,_,_,_,_,h=>by simp[zH]at h
 | st,k+1,d,l,s,n,e,s',h=>by
  rw[zH]at h
  cases hb:zaW s with
  | none=>rw[hb]at h;cases h
  | some p =>
   obtain⟨c,s1⟩:=p
   rw[hb]at h
   simp only[ydx]at h
   obtain⟨b1,b2,b3⟩:=zm hb
   rw[<-b2,b1]
   simp only[yac]
   split at h
   .cases h
    refine⟨by simp;omega,λB hB hs ws hw=>?_⟩
    rcases ybh.1 hw with h1|h1
    .exact hs ws h1
    .simp only[ydf]at h1
     subst h1
     omega
   .cases hi:zay st (λd s=>zH st k d [] s) d c s1 with
    | none=>rw[hi]at h;cases h
    | some q =>
     obtain⟨w,s2⟩:=q
     rw[hi]at h
     simp only[ydx]at h
     have hq:s2.ls.length+s2.b.length<=s1.ls.length+s1.b.length/\s2.b.length<=s1.b.length/\∀B:Nat,s1.b.length<=B->(∀ws∈s1.ls,ws.length<=B)->∀ws∈s2.ls,ws.length<=B:=by
      unfold zay at hi
      split at hi
      .split at hi
       .unfold zaL at hi
        cases hb1:zaW s1 with
        | none=>rw[hb1]at hi;cases hi
        | some p1 =>
         obtain⟨c1,s3⟩:=p1
         rw[hb1]at hi
         simp only[ydx]at hi
         obtain⟨f1,f2,f3⟩:=zm hb1
         rw[<-f2,f1]
         simp only[yac]
         cases hl1:zH st k (d+1) [] s3 with
         | none=>rw[hl1]at hi;cases hi
         | some q1 =>
          obtain⟨⟨n1,e1⟩,s4⟩:=q1
          rw[hl1]at hi
          simp only[ydx]at hi
          obtain⟨z1,z2⟩:=zcP st k (d+1) [] s3 n1 e1 s4 hl1
          obtain⟨_,_,_,_,_,⟨x,_,z3⟩,_⟩:=zQ st k (d+1) [] s3 n1 e1 s4 hl1
          have z4:=zbw z3
          simp only[ybl,ydE]at z2
          split at hi
          .split at hi
           .rw[ybB]at hi
            obtain⟨⟨⟨n2,e2⟩,s5⟩,hl2,he2⟩:=hi
            simp only[Prod.mk.injEq]at he2
            obtain⟨rfl,rfl⟩:=he2
            obtain⟨y1,y2⟩:=zcP st k (d+1) [] s4 n2 e2 _ hl2
            obtain⟨_,_,_,_,_,⟨x,_,y3⟩,_⟩:=zQ st k (d+1) [] s4 n2 e2 _ hl2
            have y4:=zbw y3
            simp only[ybl,ydE]at y2
            exact⟨by omega,by omega,λB hB hs=>y2 B (by omega) (z2 B (by omega) hs)⟩
           .cases hi
            exact⟨by omega,by omega,λB hB hs=>z2 B (by omega) hs⟩
          .cases hi
           exact⟨by omega,by omega,λB hB hs=>z2 B (by omega) hs⟩
       .cases hi
      .obtain⟨⟨x,a1⟩,a2,_⟩:=zce hi
       have:=zbw a1
       rw[a2]
       exact⟨by omega,this,λB _ hs=>hs⟩
     obtain⟨q1,q2,q3⟩:=hq
     obtain⟨g1,g2⟩:=zcP st k d _ s2 n e s' h
     refine⟨by omega,λB hB hs=>g2 B (by simp;omega) (q3 B (by omega) hs)⟩
theorem zaa{n:Int}{s:Rs}{p r:List UInt8}(h:s.b=p++r)(hn:n=p.length):zas n s=some { s with b:=r }:=by
 unfold zas
 rw[zkt h hn]
 rfl
theorem zu0{α:Type}{l:List (List α)}{x:List α}(h:x∈l):x.length<=l.flatten.length:=by
 induction l with
 | nil=>cases h
 | cons a l ih =>
  simp only[ydF,yab]
  rcases ybC.1 h with rfl|h
  .omega
  .have:=ih h;omega
theorem zu1{t:Int}(h:t=1\/t=2):(zY (128-t)=126\/zY (128-t)=127)/\(128:Int)-((zY (128-t)).toNat:Int)=t:=by
 rcases h with rfl|rfl<;>decide
theorem zu2(st:Bool){t:Int}(h:t=1\/t=2){s:Rs}{rest:List UInt8}(hb:s.b=[zY (128-t)]++rest):zc8 st s=some (t,{ s with b:=rest }):=by
 obtain⟨h1,h2⟩:=zu1 h
 unfold zc8
 rw[zaX (by simpa using hb)]
 simp only[ydx]
 rw[if_neg (λq=>by rcases h1 with e|e;exact q.2.1 e;exact q.2.2 e),h2]
theorem zu3{α:Type}{f:Rs->Option (α × Rs)}{E:α->List UInt8}:∀{xs:List α} {s:Rs} {rest:List UInt8},(∀x∈xs,∀(s:Rs) (rest:List UInt8),s.b=E x++rest->f s=some (x,{ s with b:=rest }))->s.b=(xs.map E).flatten++rest ->
  zbI f xs.length s=some (xs,{ s with b:=rest })
 | [],s,rest,_,hb=>by
  simp at hb
  simp[zbI,<-hb]
 | x::xs,s,rest,h,hb=>by
  simp only[yaL,ydF,ydB]at hb
  rw[yac,zbI,h x (by simp) s _ hb]
  simp only[ydx]
  rw[zu3 (λy hy=>h y (by simp[hy])) rfl]
  rfl
theorem zs0(l:List Int):(l.map λt=>[zY (128-t)]).flatten=l.map λt=>zY (128-t):=by
 induction l with
 | nil=>rfl
 | cons t l ih=>simp[ih]
theorem znn(st:Bool){l:List Int}(h:∀t∈l,t=1\/t=2)(hl:l.length<2^62){s:Rs}{rest:List UInt8}(hb:s.b=zeW l++rest):zcE st s=some (l,{ s with b:=rest }):=by
 unfold zeW at hb
 rw[ydB]at hb
 unfold zcE
 rw[zbk st (by omega) (by omega) hb]
 simp only[ydx,ybe]
 exact zu3 (E:=λt=>[zY (128-t)]) (λt ht s rest hb=>zu2 st (h t ht) hb) (by rw[zs0])
theorem zs1(st:Bool){t:Int}(h:t=0\/t=1\/t=2){s:Rs}{rest:List UInt8}(hb:s.b=zcY t++rest):∃l,zcE st s=some (l,{ s with b:=rest })/\l.headD 0=t:=by
 unfold zcY at hb
 by_cases h0:t=0
 .rw[if_pos h0]at hb
  exact⟨[],znn st (by simp) (by simp) hb,h0.symm⟩
 .rw[if_neg h0]at hb
  exact⟨[t],znn st (λx hx=>by simp at hx;subst hx;omega) (by simp) hb,rfl⟩
def zhx(f:F):F:={ name:=[],params:=f.params,locals:=[],type:=f.type,lists:=[] }
theorem zDI(st:Bool){f:F}(h1:∀t∈f.params,t=1\/t=2)(h2:f.type=0\/f.type=1\/f.type=2)(hl:f.params.length<2^62){s:Rs}{rest:List UInt8}(hb:s.b=zch f.params f.type++rest):zcN st s=some (zhx f,{ s with b:=rest }):=by
 unfold zch at hb
 simp only[yc1,ydB]at hb
 unfold zcN
 rw[zaX hb]
 simp only[ydx]
 rw[znn st h1 hl rfl]
 simp only[ydx]
 obtain⟨l,h3,h4⟩:=zs1 st h2 (s:={ s with b:=zcY f.type++rest }) rfl
 rw[h3]
 simp only[yaG,h4]
 rfl
theorem zcQ{c:UInt8}{bs rest:List UInt8}{s:Rs}(hb:s.b=zc c bs++rest)(hl:bs.length<2^62):zD c s=some { s with b:=bs++rest }:=by
 unfold zc zi at hb
 simp only[yc1,ydB]at hb
 unfold zD
 rw[zaX hb]
 simp only[ydx,if_true]
 rw[zbk false (by omega) (by omega) rfl]
 rfl
theorem zs2{c:UInt8}{bs rest:List UInt8}{s:Rs}(hb:s.b=zc c bs++rest)(hl:bs.length<2^62):zaW s=some (c,{ s with b:=uI bs.length++(bs++rest) })/\zcd true false { s with b:=uI bs.length++(bs++rest) }=some ((bs.length:Int),{ s with b:=bs++rest }):=by
 unfold zc zi at hb
 simp only[yc1,ydB]at hb
 exact⟨zaX hb,zbk true (by omega) (by omega) rfl⟩
theorem zkx{f:F}(h:zcv f=true):(∀t∈f.params,t=1\/t=2)/\(∀t∈f.locals,t=1\/t=2)/\(f.type=0\/f.type=1\/f.type=2):=by
 unfold zcv zlU at h
 simp only[Bool.not_eq_true',Bool.or_eq_false_iff,ydG,Bool.and_eq_true,decide_eq_true_eq,Bool.and_eq_false_iff,decide_eq_false_iff_not,ne_eq,Classical.not_not]at h
 obtain⟨h1,h2,h3⟩:=h
 refine⟨λt ht=>?_,λt ht=>?_,?_⟩
 .have:=h1 t ht;omega
 .have:=h2 t ht;omega
 .omega
theorem zoH{t:Int}:∀(l:List Int),l.take (zgW t l)=yaj (zgW t l) t
 | []=>rfl
 | x::r=>by
  simp only[zgW]
  split
  .rename_i e
   simp[ydb,zoH r,e]
  .simp
theorem zrJ(st:Bool):∀(k:Nat) (l:List Int),l.length<=k->(∀t∈l,t=1\/t=2)->∀(s:Rs) (rest:List UInt8),s.b=(zq k l).flatten++rest->s.n+l.length<=65536 ->
  ∃gs,zbI (zbv st) (zq k l).length s=some (gs,{ s with b:=rest,n:=s.n+l.length })/\gs.flatten=l
 | k,[],_,_,s,rest,hb,_=>by
  have e:zq k []=[]:=by cases k<;>rfl
  rw[e]at hb ⊢
  simp at hb
  exact⟨[],by simp[zbI,<-hb],rfl⟩
 | 0,t::r,h,_,_,_,_,_=>by simp at h
 | k+1,t::r,hk,ht,s,rest,hb,hn=>by
  have hr:=zqs t r
  simp only[zq,ydF,ydB,yac]at hb hn hk ⊢
  have hd:(r.drop (zgW t r)).length=r.length-zgW t r:=List.length_drop
  obtain⟨gs,h1,h2⟩:=zrJ st k (r.drop (zgW t r)) (by omega) (λx hx=>ht x (List.mem_cons_of_mem _ (ydH hx))) { s with b:=(zq k (r.drop (zgW t r))).flatten++rest,n:=s.n+(zgW t r+1) } rest rfl (by simp only[hd];omega)
  refine⟨yaj (zgW t r+1) t::gs,?_,?_⟩
  .rw[zbI]
   unfold zbv
   rw[zbk st (by omega) (by omega) hb]
   simp only[ydx,ybe]
   rw[if_pos ⟨by omega,by omega⟩]
   rw[zu2 st (ht t (by simp)) (s:={ s with b:=[zY (128-t)]++((zq k (r.drop (zgW t r))).flatten++rest),n:=s.n+(zgW t r+1) }) rfl]
   simp only[yaG,ydx]
   have h1':=h1
   unfold zbv at h1'
   rw[h1']
   simp only[yaG,hd]
   congr 3
   omega
  .rw[ydF,h2,ydb,yc1,<-zoH,List.take_append_drop]
structure zoI(f:F):Prop where
 typed:zcv f=true
 below:∀ws∈f.lists,∀w∈ws,zI w=false
 skel:∃st k s e s',zH st k 0 [] s=some (((f.lists.length:Int)-1,e),s')/\s.ls=[]/\s'.ls=f.lists
theorem zoI.can{f:F}(h:zoI f):zoF f.lists/\f.lists.length≠0:=by
 obtain⟨st,k,s,e,s',h1,h2,h3⟩:=h.skel
 have:=zfG st k 0 [] s _ e s' h1 (by rw[h2];intro i ws hi;simp at hi) (by simp)
 obtain⟨_,g,g2,_⟩:=zQ st k 0 [] s _ e s' h1
 rw[h3]at this g
 exact⟨this,by rw[h2]at g2;simp at g2;omega⟩
theorem zqu(st:Bool){f f0:F}(hf:zoI f){c:List UInt8}(hc:zfE f=some c){s:Rs}{rest:List UInt8}(hb:s.b=c++rest)(hn:s.n+f.locals.length<=65536)(hl:c.length<2^62):
  zX st f0 s=some ({ f0 with locals:=f0.locals++f.locals,lists:=f.lists },{ b:=rest,ls:=f.lists,n:=s.n+f.locals.length }):=by
 unfold zfE at hc
 rw[ybB]at hc
 obtain⟨x,hx,rfl⟩:=hc
 unfold zi at hb hl
 simp only[ydB,yab]at hb hl
 obtain⟨t1,t2,t3⟩:=zkx hf.typed
 unfold zX
 rw[zbk st (by omega) (by simp;omega) hb]
 simp only[ydx]
 have hlr:=zbV f.locals.length f.locals
 rw[zbk st (n:=((zq f.locals.length f.locals).length:Int)) (rest:=(zq f.locals.length f.locals).flatten++(x++([11]++rest))) (by omega) (by omega) (by simp[zb4,zP])]
 simp only[ydx,ybe]
 obtain⟨gs,g1,g2⟩:=zrJ st f.locals.length f.locals (yah _) t2 { s with b:=(zq f.locals.length f.locals).flatten++(x++([11]++rest)) } (x++([11]++rest)) rfl hn
 rw[g1]
 simp only[ydx,g2]
 obtain⟨st0,k,s0,e,s',k1,k2,k3⟩:=hf.skel
 obtain⟨_,q1,q2,⟨ws,q3⟩,_⟩:=zQ st0 k 0 [] s0 _ e s' k1
 have hne:=hf.can.2
 obtain⟨j,hj⟩:∃j,f.lists.length=j+1:=⟨f.lists.length-1,by omega⟩
 rw[hj]at hx
 rw[zcZ,if_neg (by omega)]at hx
 rw[k3]at q3
 have e1:(((j+1:Nat):Int)-1)=(f.lists.length:Int)-1:=by omega
 rw[e1,q3]at hx
 have:=zkv (st:=st0) (st':=st) hf.below k 0 [] s0 _ e s' k1 (by rw[k3];exact ydC _) j ws x (by rw[q3]) (by simpa using hx) ((x++([11]++rest)).length+1) { b:=x++([11]++rest),ls:=[],n:=s.n+f.locals.length } 11 rest (.inl rfl) k2.symm rfl (by simp)
 rw[this]
 simp only[yaG,k3]
def zcF(f:F):F:={ f with name:=[] }
def zbX(fs:List F):Nat:=(fs.map λf=>f.locals.length).sum
theorem zfH(st:Bool):∀(fs:List F) (codes:List (List UInt8)),(∀f∈fs,zoI f)->zaQ fs=some codes->∀(s:Rs) (rest:List UInt8),s.b=codes.flatten++rest->s.n+zbX fs<=65536->codes.flatten.length<2^62 ->
  ∃l,zC st (fs.map zhx) s=some (fs.map zcF,{ b:=rest,ls:=l,n:=s.n+zbX fs })
 | [],codes,_,hc,s,rest,hb,_,_=>by
  simp only[zaQ,yaR.injEq]at hc
  subst hc
  simp at hb
  exact⟨s.ls,by simp[zC,zbX,<-hb]⟩
 | f::fs,codes,hg,hc,s,rest,hb,hn,hl=>by
  rw[zaQ]at hc
  cases hcf:zfE f with
  | none=>rw[hcf]at hc;cases hc
  | some c =>
   rw[hcf]at hc
   simp only[ydx,ybB]at hc
   obtain⟨cs,hcs,rfl⟩:=hc
   simp only[ydF,ydB,yab]at hb hl
   have hm:zbX (f::fs)=f.locals.length+zbX fs:=rfl
   rw[hm]at hn
   have h1:=zqu st (f0:=zhx f) (hg f (by simp)) hcf hb (by omega) (by omega)
   obtain⟨l,h2⟩:=zfH st fs cs (λg hg'=>hg g (by simp[hg'])) hcs { b:=cs.flatten++rest,ls:=f.lists,n:=s.n+f.locals.length } rest rfl (by simp only;omega) (by omega)
   refine⟨l,?_⟩
   rw[yaL,zC,h1]
   simp only[ydx]
   rw[h2]
   simp only[yaG,yaL,hm,Nat.add_assoc]
   rfl
theorem zno(st:Bool):∀(fs:List F) (i:Int),0<=i->i+fs.length<2^62->∀(s:Rs) (rest:List UInt8),s.b=(zn i fs).flatten++rest->(zn i fs).flatten.length<2^62->zc9 st (fs.map zcF) s=some (fs,{ s with b:=rest })
 | [],i,_,_,s,rest,hb,_=>by
  simp[zn]at hb
  simp[zc9,<-hb]
 | f::fs,i,h0,hi,s,rest,hb,hl=>by
  simp only[zn,ydF,ydB,yab,yac,zi]at hb hi hl
  rw[yaL,zc9,zbk st h0 (by omega) hb]
  simp only[ydx]
  rw[zbk st (by omega) (by omega) rfl]
  simp only[ydx]
  rw[zkt (p:=f.name) rfl rfl]
  simp only[ydx]
  rw[zno st fs (i+1) (by omega) (by omega) _ rest rfl (by omega)]
  rfl
theorem zu4:∀(fs:List F) (i:Int),0<=i->i+fs.length<2^62->∀(s:Rs) (rest:List UInt8),s.b=(zak i fs).flatten++rest->∃l,zbI (zcd false false) fs.length s=some (l,{ s with b:=rest })
 | [],i,_,_,s,rest,hb=>by
  simp[zak]at hb
  exact⟨[],by simp[zbI,<-hb]⟩
 | f::fs,i,h0,hi,s,rest,hb=>by
  simp only[zak,ydF,ydB,yac]at hb hi
  obtain⟨l,h⟩:=zu4 fs (i+1) (by omega) (by omega) { s with b:=(zak (i+1) fs).flatten++rest } rest rfl
  refine⟨i::l,?_⟩
  rw[yac,zbI,zbk false h0 (by omega) hb]
  simp only[ydx]
  rw[h]
  rfl
theorem zeg:∀(fs:List F) (i:Int),(zak i fs).length=fs.length
 | [],_=>rfl
 | _::fs,i=>by simp[zak,zeg fs]
theorem zcR:∀(fs:List F) (i:Int),(zn i fs).length=fs.length
 | [],_=>rfl
 | _::fs,i=>by simp[zn,zcR fs]
theorem zdy:∀{fs:List F} {codes:List (List UInt8)},zaQ fs=some codes->codes.length=fs.length
 | [],_,h=>by simp only[zaQ,yaR.injEq]at h;subst h;rfl
 | f::fs,codes,h=>by
  rw[zaQ]at h
  cases hcf:zfE f with
  | none=>rw[hcf]at h;cases h
  | some c =>
   rw[hcf]at h
   simp only[ydx,ybB]at h
   obtain⟨cs,hcs,rfl⟩:=h
   simp[zdy hcs]
def zO:List UInt8:=[1,4,109,97,105,110,0]
def zlt(m:M):List UInt8:=[1,127,0,65]++(sI m.memory++[11])
def zeh(m:M)(rest:List UInt8):List UInt8:=zeX++(zc 1 (zP (zG m.funcs))++(zc 2 (zP zF)++(zc 3 (zP (zak 3 m.funcs))++(zc 5 [1,0,1] ++
  (zc 6 (zlt m)++(7::(uI (zO++uI (zaS m)).length++(zO++rest))))))))
def znI(codes:List (List UInt8))(fs:List F):List UInt8:=zc 10 (zP codes)++zc 0 ([4,110,97,109,101,1]++zi (zP (zn 3 fs)))
theorem zdz{m:M}{b:List UInt8}(h:zkr m=some b):∃codes,zaQ m.funcs=some codes/\b=zeh m (uI (zaS m)++znI codes m.funcs):=by
 unfold zkr at h
 rw[ybB]at h
 obtain⟨codes,hc,rfl⟩:=h
 refine⟨codes,hc,?_⟩
 have e1:zi [109,97,105,110]=[4,109,97,105,110]:=by decide
 have e2:zi [110,97,109,101]=[4,110,97,109,101]:=by decide
 have e3:∀n bs (r:List UInt8),zc n bs++r=n::(uI bs.length++(bs++r)):=λn bs r=>by simp[zc,zi]
 rw[e1,e2]
 unfold zeh znI zlt zO
 simp only[ydB]
 rw[e3 7]
 simp
def zDJ(f:F):Prop:=(∀t∈f.params,t=1\/t=2)/\(f.type=0\/f.type=1\/f.type=2)/\f.params.length<2^62
theorem zrK(st:Bool){fs:List F}(h:∀f∈fs,zDJ f):∀(s:Rs) (rest:List UInt8),s.b=(zG fs).flatten++rest->∃a b c,zbI (zcN st) (fs.length+3) s=some (a::b::c::fs.map zhx,{ s with b:=rest }):=by
 intro s rest hb
 let z (p:List Int) (t:Int):F:={ name:=[],params:=p,locals:=[],type:=t,lists:=[] }
 have e:zG fs=((z [] 2::z [2] 0::z [1] 0::fs.map zhx).map λf=>zch f.params f.type):=by
  unfold zG
  simp only[yaL,ydI,yc1,ydq]
  rfl
 rw[e]at hb
 have:=zu3 (f:=zcN st) (E:=λf=>zch f.params f.type) (xs:=z [] 2::z [2] 0::z [1] 0::fs.map zhx) (s:=s) (rest:=rest) (λf hf s rest hb=>?_) hb
 .refine⟨z [] 2,z [2] 0,z [1] 0,?_⟩
  rw[show fs.length+3=(z [] 2::z [2] 0::z [1] 0::fs.map zhx).length from by simp]
  exact this
 .have key:zDJ f/\zhx f=f:=by
   simp only[ybC,yaV]at hf
   rcases hf with rfl|rfl|rfl|⟨g,hg,rfl⟩
   .exact⟨⟨by simp[z],by simp[z],by simp[z]⟩,rfl⟩
   .exact⟨⟨by simp[z],by simp[z],by simp[z]⟩,rfl⟩
   .exact⟨⟨by simp[z],by simp[z],by simp[z]⟩,rfl⟩
   .exact⟨h g hg,rfl⟩
  have:=zDI st key.1.1 key.1.2.1 key.1.2.2 hb
  rwa [key.2]at this
theorem zu5:zP zF=[3]++(zeI [105,110] 0++(zeI [111,117,116] 1++(zeI [116,114,97,112] 2))):=by decide
theorem zcS(fs:List F):(zG fs).length=fs.length+3:=by simp[zG]
structure zyH(m:M):Prop where
 fs:∀f∈m.funcs,zDJ f
 mem:-(2^63)<=m.memory/\m.memory<2^63
 many:m.funcs.length<2^60
 s1:(zP (zG m.funcs)).length<2^62
 s3:(zP (zak 3 m.funcs)).length<2^62
theorem zoJ{m:M}(h:zyH m){s:Rs}{rest:List UInt8}(hb:s.b=zeh m rest):zhu s=(zcd false false { s with b:=rest }).map λmn=>((m.funcs.map zhx,m.memory,mn.1),mn.2):=by
 obtain⟨h1,h2,h3,h4,h5⟩:=h
 unfold zeh at hb
 unfold zhu
 rw[zaa (n:=8) (p:=zeX) hb rfl]
 simp only[ydx]
 have hh:zdq { s with b:=zc 1 (zP (zG m.funcs))++(zc 2 (zP zF)++(zc 3 (zP (zak 3 m.funcs))++(zc 5 [1,0,1]++(zc 6 (zlt m)++(7::(uI (zO++uI (zaS m)).length++(zO++rest))))))) } =
   some (m.funcs.map zhx,{ s with b:=zc 2 (zP zF)++(zc 3 (zP (zak 3 m.funcs))++(zc 5 [1,0,1]++(zc 6 (zlt m)++(7::(uI (zO++uI (zaS m)).length++(zO++rest)))))) }):=by
  unfold zdq
  rw[zcQ rfl h4]
  simp only[ydx]
  rw[zbk false (n:=(((zG m.funcs).length:Nat):Int)) (by omega) (by rw[zcS];omega) (s:={ s with b:=zP (zG m.funcs)++_ }) (rest:=(zG m.funcs).flatten++(zc 2 (zP zF)++(zc 3 (zP (zak 3 m.funcs))++(zc 5 [1,0,1]++(zc 6 (zlt m)++(7::(uI (zO++uI (zaS m)).length++(zO++rest)))))))) (by simp[zP])]
  simp only[ydx,ybe,zcS]
  obtain⟨a,b,c,e⟩:=zrK false h1 { s with b:=(zG m.funcs).flatten++(zc 2 (zP zF)++(zc 3 (zP (zak 3 m.funcs))++(zc 5 [1,0,1]++(zc 6 (zlt m)++(7::(uI (zO++uI (zaS m)).length++(zO++rest))))))) } _ rfl
  rw[e]
  simp only[ydx]
  rw[if_pos (by simp)]
  rfl
 rw[hh]
 simp only[ydx]
 rw[zcQ rfl (by decide),zu5]
 simp only[ydx,ydB]
 rw[zaa (n:=1) (p:=[3]) rfl rfl]
 simp only[ydx]
 rw[zaa (n:=9) (p:=zeI [105,110] 0) rfl (by decide)]
 simp only[ydx]
 rw[zaa (n:=10) (p:=zeI [111,117,116] 1) rfl (by decide)]
 simp only[ydx]
 rw[zaa (n:=11) (p:=zeI [116,114,97,112] 2) rfl (by decide)]
 simp only[ydx]
 rw[zcQ rfl h5]
 simp only[ydx]
 rw[zbk false (n:=(((zak 3 m.funcs).length:Nat):Int)) (by omega) (by rw[zeg];omega) (rest:=(zak 3 m.funcs).flatten++(zc 5 [1,0,1]++(zc 6 (zlt m)++(7::(uI (zO++uI (zaS m)).length++(zO++rest)))))) (by simp[zP])]
 simp only[ydx,ybe,zeg]
 obtain⟨l,e⟩:=zu4 m.funcs 3 (by omega) (by omega) { s with b:=(zak 3 m.funcs).flatten++(zc 5 [1,0,1]++(zc 6 (zlt m)++(7::(uI (zO++uI (zaS m)).length++(zO++rest))))) } _ rfl
 rw[e]
 simp only[ydx]
 rw[zcQ rfl (by decide)]
 simp only[ydx]
 rw[zaa (n:=3) (p:=[1,0,1]) rfl rfl]
 simp only[ydx]
 have hml:(zlt m).length<2^62:=by have:=zkp m.memory;simp[zlt];omega
 rw[zcQ rfl hml]
 simp only[ydx]
 rw[zaa (n:=4) (p:=[1,127,0,65]) (r:=sI m.memory++([11]++(7::(uI (zO++uI (zaS m)).length++(zO++rest))))) (by simp[zlt]) rfl]
 simp only[ydx]
 rw[zrI false h2.1 h2.2 rfl]
 simp only[ydx]
 rw[zaa (n:=1) (p:=[11]) rfl rfl]
 simp only[ydx]
 have h7:(zO++uI (zaS m)).length<2^62:=by have:=zaj (zaS m);simp[zO];omega
 have s7:zD 7 { s with b:=7::(uI (zO++uI (zaS m)).length++(zO++rest)) }=some { s with b:=zO++rest }:=by
  unfold zD
  rw[zaX rfl]
  simp only[ydx,if_true]
  rw[zbk false (by omega) (by omega) rfl]
  rfl
 rw[s7]
 simp only[ydx]
 rw[zaa (n:=7) (p:=zO) rfl rfl]
 simp only[ydx]
theorem zDK{fs:List F}{codes:List (List UInt8)}(hg:∀f∈fs,zoI f)(hc:zaQ fs=some codes){s:Rs}(hb:s.b=znI codes fs)(hn:s.n+zbX fs<=65536)(hl:(znI codes fs).length<2^60):∃s',znm (fs.map zhx) s=some (fs,s')/\s'.b=[]:=by
 have hcl:=zdy hc
 have hnl:=zcR fs 3
 have hu:=zoA (fs.length)
 have l1:(zP codes).length<2^60/\(zP (zn 3 fs)).length<2^60/\([4,110,97,109,101,1]++zi (zP (zn 3 fs))).length<2^60:=by
  unfold znI zc zi at hl
  simp only[yab,yac]at hl
  refine⟨by omega,by omega,?_⟩
  unfold zi
  simp only[yab,yac]at *
  omega
 obtain⟨l1,l2,l3⟩:=l1
 have l4:codes.flatten.length<2^60:=by unfold zP at l1;simp only[yab]at l1;omega
 have l5:(zn 3 fs).flatten.length<2^60:=by unfold zP at l2;simp only[yab]at l2;omega
 have l6:fs.length<2^60:=by
  have:∀(gs:List F) (i:Int),gs.length<=(zn i gs).flatten.length:=λgs=>by
   induction gs with
   | nil=>intro i;simp
   | cons g gs ih =>
    intro i
    have:=ih (i+1)
    have h1:=ybm.2 (zoA i)
    simp only[zn,ydF,yab,yac]
    omega
  have:=this fs 3
  omega
 unfold znI at hb
 unfold znm
 rw[zcQ hb (by omega)]
 simp only[ydx]
 rw[zbk false (n:=((codes.length:Nat):Int)) (by omega) (by omega) (rest:=codes.flatten++zc 0 ([4,110,97,109,101,1]++zi (zP (zn 3 fs)))) (by simp[zP])]
 simp only[ydx]
 rw[if_pos (by simp[hcl])]
 obtain⟨l,e⟩:=zfH false fs codes hg hc { s with b:=codes.flatten++zc 0 ([4,110,97,109,101,1]++zi (zP (zn 3 fs))) } _ rfl hn (by omega)
 rw[e]
 simp only[ydx]
 rw[zcQ (c:=0) (bs:=[4,110,97,109,101,1]++zi (zP (zn 3 fs))) (rest:=[]) (yb7 _).symm (by omega)]
 simp only[ydx,yb7]
 rw[zaa (n:=6) (p:=[4,110,97,109,101,1]) rfl rfl]
 simp only[ydx]
 rw[zbk false (n:=(((zP (zn 3 fs)).length:Nat):Int)) (by omega) (by omega) (rest:=zP (zn 3 fs)) rfl]
 simp only[ydx]
 rw[zbk false (n:=(((zn 3 fs).length:Nat):Int)) (by omega) (by omega) (rest:=(zn 3 fs).flatten) rfl]
 simp only[ydx]
 rw[if_pos (by simp[hnl]),zno false fs 3 (by omega) (by omega) _ [] (by simp) (by omega)]
 exact⟨_,rfl,rfl⟩
def zqv(s:Rs):Option (Int × Rs):=(zaW s).bind λp=>zcd true false p.2
def ziM(s:Rs):Option (List F × Rs):=(zqv s).bind λa=>(zcd true false a.2).bind λn=>(zbI (zcN true) n.1.toNat n.2).map λh=>(h.1.drop 3,h.2)
def zky(s:Rs):Option ((List F × Int × Int) × Rs):=(zas 8 s).bind λs=>(ziM s).bind λh=>(zqv h.2).bind λa=>(zas a.1 a.2).bind λs=>(zqv s).bind λa=>(zas a.1 a.2).bind λs=>(zas 5 s).bind λs =>
 (zqv s).bind λa=>(zas 4 a.2).bind λs=>(zcd true true s).bind λmem=>(zas 1 mem.2).bind λs=>(zqv s).bind λa=>(zas 7 a.2).bind λs=>(zcd true false s).map λmn=>((h.1,mem.1,mn.1),mn.2)
def zqw(h:List F)(s:Rs):Option (List F × Rs):=(zqv s).bind λa=>(zcd true false a.2).bind λc=>(zC true h c.2).bind λfs=>(zqv fs.2).bind λa=>(zas 6 a.2).bind λs =>
 (zcd true false s).bind λx=>(zcd true false x.2).bind λy=>zc9 true fs.1 y.2
def zfI(s:Rs):Option (M × Rs):=(zky s).bind λp=>(zqw p.1.1 p.2).map λq=>({ funcs:=q.1,memory:=p.1.2.1,main:=yb4 .i64 (p.1.2.2-3) },q.2)
def zb5(b:List UInt8):Option M:=(zfI ⟨b,[],0⟩).bind λp=>if p.2.b=[]/\zkr p.1=some b then some p.1 else none
theorem zlW{c:UInt8}{bs rest:List UInt8}{s:Rs}(hb:s.b=zc c bs++rest)(hl:bs.length<2^62):zqv s=some ((bs.length:Int),{ s with b:=bs++rest }):=by
 obtain⟨h1,h2⟩:=zs2 hb hl
 unfold zqv
 rw[h1]
 simp only[ydx]
 rw[h2]
structure zkz(m:M):Prop where
 fs:∀f∈m.funcs,zoI f
 many:zbX m.funcs<=65536
 mem:-(2^63)<=m.memory/\m.memory<2^63
 main0:0<=zaS m
 main:m.main=yb4 .i64 (zaS m-3)
theorem zrL{m:M}{b:List UInt8}(hf:∀f∈m.funcs,zcv f=true)(hm:-(2^63)<=m.memory/\m.memory<2^63){rest:List UInt8}(hb:b=zeh m rest)(hl:b.length<2^60):zyH m/\rest.length<2^60:=by
 have hb':b.length=(zeh m rest).length:=by rw[hb]
 unfold zeh zc zi at hb'
 simp only[yab,yac]at hb'
 have h1:(zP (zG m.funcs)).length<2^60:=by omega
 have h3:(zP (zak 3 m.funcs)).length<2^60:=by omega
 have h1':=h1
 unfold zP at h1'
 simp only[yab]at h1'
 refine⟨⟨λf hf'=>?_,hm,?_,by omega,by omega⟩,by omega⟩
 .obtain⟨t1,_,t3⟩:=zkx (hf f hf')
  refine⟨t1,t3,?_⟩
  have hmem:zch f.params f.type∈zG m.funcs:=by
   unfold zG
   exact ybh.2 (.inr (yaV.2 ⟨f,hf',rfl⟩))
  have:=zu0 hmem
  have h5:f.params.length<=(zch f.params f.type).length:=by simp[zch,zeW];omega
  omega
 .have:∀(gs:List F) (i:Int),gs.length<=(zak i gs).flatten.length:=λgs=>by
   induction gs with
   | nil=>intro i;simp
   | cons g gs ih =>
    intro i
    have:=ih (i+1)
    have h1:=ybm.2 (zoA i)
    simp only[zak,ydF,yab,yac]
    omega
  have:=this m.funcs 3
  unfold zP at h3
  simp only[yab]at h3
  omega
theorem zu6{m:M}(h:zyH m){s:Rs}{rest:List UInt8}(hb:s.b=zeh m rest):zky s=(zcd true false { s with b:=rest }).map λmn=>((m.funcs.map zhx,m.memory,mn.1),mn.2):=by
 obtain⟨h1,h2,h3,h4,h5⟩:=h
 unfold zeh at hb
 unfold zky
 rw[zaa (n:=8) (p:=zeX) hb rfl]
 simp only[ydx]
 have hh:ziM { s with b:=zc 1 (zP (zG m.funcs))++(zc 2 (zP zF)++(zc 3 (zP (zak 3 m.funcs))++(zc 5 [1,0,1]++(zc 6 (zlt m)++(7::(uI (zO++uI (zaS m)).length++(zO++rest))))))) } =
   some (m.funcs.map zhx,{ s with b:=zc 2 (zP zF)++(zc 3 (zP (zak 3 m.funcs))++(zc 5 [1,0,1]++(zc 6 (zlt m)++(7::(uI (zO++uI (zaS m)).length++(zO++rest)))))) }):=by
  unfold ziM
  rw[zlW rfl h4]
  simp only[ydx]
  rw[zbk true (n:=(((zG m.funcs).length:Nat):Int)) (by omega) (by rw[zcS];omega) (s:={ s with b:=zP (zG m.funcs)++_ }) (rest:=(zG m.funcs).flatten++(zc 2 (zP zF)++(zc 3 (zP (zak 3 m.funcs))++(zc 5 [1,0,1]++(zc 6 (zlt m)++(7::(uI (zO++uI (zaS m)).length++(zO++rest)))))))) (by simp[zP])]
  simp only[ydx,ybe,zcS]
  obtain⟨a,b,c,e⟩:=zrK true h1 { s with b:=(zG m.funcs).flatten++(zc 2 (zP zF)++(zc 3 (zP (zak 3 m.funcs))++(zc 5 [1,0,1]++(zc 6 (zlt m)++(7::(uI (zO++uI (zaS m)).length++(zO++rest))))))) } _ rfl
  rw[e]
  rfl
 rw[hh]
 simp only[ydx]
 rw[zlW rfl (by decide)]
 simp only[ydx]
 rw[zaa (p:=zP zF) rfl rfl]
 simp only[ydx]
 rw[zlW rfl h5]
 simp only[ydx]
 rw[zaa (p:=zP (zak 3 m.funcs)) rfl rfl]
 simp only[ydx]
 rw[zaa (n:=5) (p:=zc 5 [1,0,1]) rfl (by decide)]
 simp only[ydx]
 have hml:(zlt m).length<2^62:=by have:=zkp m.memory;simp[zlt];omega
 rw[zlW rfl hml]
 simp only[ydx]
 rw[zaa (n:=4) (p:=[1,127,0,65]) (r:=sI m.memory++([11]++(7::(uI (zO++uI (zaS m)).length++(zO++rest))))) (by simp[zlt]) rfl]
 simp only[ydx]
 rw[zrI true h2.1 h2.2 rfl]
 simp only[ydx]
 rw[zaa (n:=1) (p:=[11]) rfl rfl]
 simp only[ydx]
 have h7:(zO++uI (zaS m)).length<2^62:=by have:=zaj (zaS m);simp[zO];omega
 have s7:zqv { s with b:=7::(uI (zO++uI (zaS m)).length++(zO++rest)) }=some (((zO++uI (zaS m)).length:Int),{ s with b:=zO++rest }):=by
  unfold zqv
  rw[zaX rfl]
  simp only[ydx,if_true]
  rw[zbk true (by omega) (by omega) rfl]
 rw[s7]
 simp only[ydx]
 rw[zaa (n:=7) (p:=zO) rfl rfl]
 simp only[ydx]
theorem zDL{fs:List F}{codes:List (List UInt8)}(hl:(znI codes fs).length<2^60):(zP codes).length<2^60/\(zP (zn 3 fs)).length<2^60/\([4,110,97,109,101,1]++zi (zP (zn 3 fs))).length<2^60/\codes.flatten.length<2^60/\(zn 3 fs).flatten.length<2^60/\fs.length<2^60:=by
 have l1:(zP codes).length<2^60/\(zP (zn 3 fs)).length<2^60/\([4,110,97,109,101,1]++zi (zP (zn 3 fs))).length<2^60:=by
  unfold znI zc zi at hl
  simp only[yab,yac]at hl
  refine⟨by omega,by omega,?_⟩
  unfold zi
  simp only[yab,yac]at *
  omega
 obtain⟨l1,l2,l3⟩:=l1
 have l4:codes.flatten.length<2^60:=by unfold zP at l1;simp only[yab]at l1;omega
 have l5:(zn 3 fs).flatten.length<2^60:=by unfold zP at l2;simp only[yab]at l2;omega
 refine⟨l1,l2,l3,l4,l5,?_⟩
 have:∀(gs:List F) (i:Int),gs.length<=(zn i gs).flatten.length:=λgs=>by
  induction gs with
  | nil=>intro i;simp
  | cons g gs ih =>
   intro i
   have:=ih (i+1)
   have h1:=ybm.2 (zoA i)
   simp only[zn,ydF,yab,yac]
   omega
 have:=this fs 3
 omega
theorem zDM{fs:List F}{codes:List (List UInt8)}(hg:∀f∈fs,zoI f)(hc:zaQ fs=some codes){s:Rs}(hb:s.b=znI codes fs)(hn:s.n+zbX fs<=65536)(hl:(znI codes fs).length<2^60):∃s',zqw (fs.map zhx) s=some (fs,s')/\s'.b=[]:=by
 have hcl:=zdy hc
 have hnl:=zcR fs 3
 obtain⟨l1,l2,l3,l4,l5,l6⟩:=zDL hl
 unfold znI at hb
 unfold zqw
 rw[zlW hb (by omega)]
 simp only[ydx]
 rw[zbk true (n:=((codes.length:Nat):Int)) (by omega) (by omega) (rest:=codes.flatten++zc 0 ([4,110,97,109,101,1]++zi (zP (zn 3 fs)))) (by simp[zP])]
 simp only[ydx]
 obtain⟨l,e⟩:=zfH true fs codes hg hc { s with b:=codes.flatten++zc 0 ([4,110,97,109,101,1]++zi (zP (zn 3 fs))) } _ rfl hn (by omega)
 rw[e]
 simp only[ydx]
 rw[zlW (c:=0) (bs:=[4,110,97,109,101,1]++zi (zP (zn 3 fs))) (rest:=[]) (yb7 _).symm (by omega)]
 simp only[ydx,yb7]
 rw[zaa (n:=6) (p:=[4,110,97,109,101,1]) rfl rfl]
 simp only[ydx]
 rw[zbk true (n:=(((zP (zn 3 fs)).length:Nat):Int)) (by omega) (by omega) (rest:=zP (zn 3 fs)) rfl]
 simp only[ydx]
 rw[zbk true (n:=(((zn 3 fs).length:Nat):Int)) (by omega) (by omega) (rest:=(zn 3 fs).flatten) rfl]
 simp only[ydx]
 rw[zno true fs 3 (by omega) (by omega) _ [] (by simp) (by omega)]
 exact⟨_,rfl,rfl⟩
theorem zlX{m:M}{b:List UInt8}(hg:zkz m)(he:zkr m=some b)(hl:b.length<2^60):∃codes,zaQ m.funcs=some codes/\b=zeh m (uI (zaS m)++znI codes m.funcs)/\zyH m/\(znI codes m.funcs).length<2^60:=by
 obtain⟨codes,hc,hb⟩:=zdz he
 obtain⟨h1,h2⟩:=zrL (λf hf=>(hg.fs f hf).typed) hg.mem hb hl
 simp only[yab]at h2
 exact⟨codes,hc,hb,h1,by omega⟩
theorem zoK{m:M}{b:List UInt8}(hg:zkz m)(he:zkr m=some b)(hl:b.length<2^60):∃s',zdZ ⟨b,[],0⟩=some (m,s')/\s'.b=[]:=by
 obtain⟨codes,hc,hb,hs,hel⟩:=zlX hg he hl
 have hr:=zef (m.main+3)
 unfold zdZ
 rw[zoJ hs (s:=⟨b,[],0⟩) hb,zbk false hg.main0 (by exact hr.2) rfl]
 simp only[yaG,ydx]
 obtain⟨s',h1,h2⟩:=zDK hg.fs hc (s:=⟨znI codes m.funcs,[],0⟩) rfl (by have:=hg.many;simp only;omega) hel
 rw[h1]
 refine⟨s',?_,h2⟩
 simp only[yaG,<-hg.main]
theorem ziN{m:M}{b:List UInt8}(hg:zkz m)(he:zkr m=some b)(hl:b.length<2^60):∃s',zfI ⟨b,[],0⟩=some (m,s')/\s'.b=[]:=by
 obtain⟨codes,hc,hb,hs,hel⟩:=zlX hg he hl
 have hr:=zef (m.main+3)
 unfold zfI
 rw[zu6 hs (s:=⟨b,[],0⟩) hb,zbk true hg.main0 (by exact hr.2) rfl]
 simp only[yaG,ydx]
 obtain⟨s',h1,h2⟩:=zDM hg.fs hc (s:=⟨znI codes m.funcs,[],0⟩) rfl (by have:=hg.many;simp only;omega) hel
 rw[h1]
 refine⟨s',?_,h2⟩
 simp only[yaG,<-hg.main]
theorem zeJ:∀(k d:Nat) (l:List W) (s:Rs) (n:Int) (e:UInt8) (s':Rs),zH true k d l s=some ((n,e),s')->(∀ws∈s.ls,∀w∈ws,zI w=false)->(∀w∈l,zI w=false)->∀ws∈s'.ls,∀w∈ws,zI w=false
 | 0,_,_,_,_,_,_,h,_,_=>by simp[zH]at h
 | k+1,d,l,s,n,e,s',h,hs,hl=>by
  rw[zH]at h
  cases hb:zaW s with
  | none=>rw[hb]at h;cases h
  | some p =>
   obtain⟨c,s1⟩:=p
   rw[hb]at h
   simp only[ydx]at h
   obtain⟨b1,b2,b3⟩:=zm hb
   rw[<-b2]at hs
   split at h
   .cases h
    intro ws hw
    rcases ybh.1 hw with h1|h1
    .exact hs ws h1
    .simp only[ydf]at h1
     subst h1
     exact hl
   .cases hi:zay true (λd s=>zH true k d [] s) d c s1 with
    | none=>rw[hi]at h;cases h
    | some q =>
     obtain⟨w,s2⟩:=q
     rw[hi]at h
     simp only[ydx]at h
     have hq:(∀ws∈s2.ls,∀w∈ws,zI w=false)/\zI w=false:=by
      unfold zay at hi
      split at hi
      .split at hi
       .unfold zaL at hi
        cases hb1:zaW s1 with
        | none=>rw[hb1]at hi;cases hi
        | some p1 =>
         obtain⟨c1,s3⟩:=p1
         rw[hb1]at hi
         simp only[ydx]at hi
         obtain⟨f1,f2,f3⟩:=zm hb1
         rw[<-f2]at hs
         cases hl1:zH true k (d+1) [] s3 with
         | none=>rw[hl1]at hi;cases hi
         | some q1 =>
          obtain⟨⟨n1,e1⟩,s4⟩:=q1
          rw[hl1]at hi
          simp only[ydx]at hi
          have hs4:=zeJ k (d+1) [] s3 n1 e1 s4 hl1 hs (by simp)
          split at hi
          .split at hi
           .rw[ybB]at hi
            obtain⟨⟨⟨n2,e2⟩,s5⟩,hl2,he2⟩:=hi
            simp only[Prod.mk.injEq]at he2
            obtain⟨rfl,rfl⟩:=he2
            exact⟨zeJ k (d+1) [] s4 n2 e2 _ hl2 hs4 (by simp),by simp[zI,zcD]⟩
           .cases hi
            exact⟨hs4,by simp[zI,zcD]⟩
          .cases hi
           exact⟨hs4,by simp[zI,zcD]⟩
       .cases hi
      .obtain⟨_,a2,_,_,_,_,_,_,a3,_⟩:=zce hi
       rw[a2]
       exact⟨hs,a3 rfl⟩
     refine zeJ k d _ s2 n e s' h hq.1 λw' hw'=>?_
     rcases ybh.1 hw' with h1|h1
     .exact hl w' h1
     .simp only[ydf]at h1
      subst h1
      exact hq.2
def zwD(t:Int):Prop:=t=1\/t=2
theorem zlY{st:Bool}{s s':Rs}{t:Int}(h:zc8 st s=some (t,s')):s'.ls=s.ls/\s'.n=s.n/\(st=true->zwD t):=by
 unfold zc8 at h
 cases hb:zaW s with
 | none=>rw[hb]at h;cases h
 | some p =>
  obtain⟨c,s1⟩:=p
  rw[hb]at h
  simp only[ydx]at h
  obtain⟨b1,b2,b3⟩:=zm hb
  split at h
  .cases h
  .rename_i hno
   cases h
   refine⟨b2,b3,λhst=>?_⟩
   by_cases h1:c=126
   .subst h1;right;rfl
   .by_cases h2:c=127
    .subst h2;left;rfl
    .exact absurd ⟨hst,h1,h2⟩ hno
theorem zlZ{st:Bool}:∀{n:Nat} {s s':Rs} {l:List Int},zbI (zc8 st) n s=some (l,s')->s'.ls=s.ls/\s'.n=s.n/\(st=true->∀t∈l,zwD t)/\l.length=n
 | 0,s,s',l,h=>by
  cases h
  exact⟨rfl,rfl,λ_=>by simp,rfl⟩
 | n+1,s,s',l,h=>by
  rw[zbI]at h
  simp only[ybA,ybB]at h
  obtain⟨⟨t,s1⟩,h1,⟨l',s2⟩,h2,h3⟩:=h
  cases h3
  obtain⟨a1,a2,a3⟩:=zlY h1
  obtain⟨b1,b2,b3,b4⟩:=zlZ h2
  refine⟨b1.trans a1,b2.trans a2,λhst x hx=>?_,by simp[b4]⟩
  rcases ybC.1 hx with rfl|hx
  .exact a3 hst
  .exact b3 hst x hx
theorem zkA{st:Bool}{s s':Rs}{l:List Int}(h:zcE st s=some (l,s')):s'.ls=s.ls/\s'.n=s.n/\(st=true->∀t∈l,zwD t):=by
 unfold zcE at h
 simp only[ybA]at h
 obtain⟨⟨n,s1⟩,h1,h2⟩:=h
 obtain⟨_,a1,a2,_⟩:=zp h1
 obtain⟨b1,b2,b3,_⟩:=zlZ h2
 exact⟨b1.trans a1,b2.trans a2,b3⟩
def zl0(st:Bool)(f:F):Prop:=f.locals=[]/\(st=true->(∀t∈f.params,zwD t)/\(f.type=0\/zwD f.type))
theorem zs3{st:Bool}{s s':Rs}{f:F}(h:zcN st s=some (f,s')):s'.ls=s.ls/\s'.n=s.n/\zl0 st f:=by
 unfold zcN at h
 simp only[ybA,ybB]at h
 obtain⟨⟨c,s1⟩,h1,⟨l,s2⟩,h2,⟨r,s3⟩,h3,h4⟩:=h
 cases h4
 obtain⟨_,a1,a2⟩:=zm h1
 obtain⟨b1,b2,b3⟩:=zkA h2
 obtain⟨c1,c2,c3⟩:=zkA h3
 refine⟨c1.trans (b1.trans a1),c2.trans (b2.trans a2),rfl,λhst=>⟨b3 hst,?_⟩⟩
 cases r with
 | nil=>exact .inl rfl
 | cons t r=>exact .inr (c3 hst t (by simp))
theorem zei{st:Bool}:∀{n:Nat} {s s':Rs} {l:List F},zbI (zcN st) n s=some (l,s')->s'.ls=s.ls/\s'.n=s.n/\∀f∈l,zl0 st f
 | 0,s,s',l,h=>by
  cases h
  exact⟨rfl,rfl,by simp⟩
 | n+1,s,s',l,h=>by
  rw[zbI]at h
  simp only[ybA,ybB]at h
  obtain⟨⟨t,s1⟩,h1,⟨l',s2⟩,h2,h3⟩:=h
  cases h3
  obtain⟨a1,a2,a3⟩:=zs3 h1
  obtain⟨b1,b2,b3⟩:=zei h2
  refine⟨b1.trans a1,b2.trans a2,λx hx=>?_⟩
  rcases ybC.1 hx with rfl|hx
  .exact a3
  .exact b3 x hx
theorem zkB{st:Bool}:∀{n:Nat} {s s':Rs} {l:List (List Int)},zbI (zbv st) n s=some (l,s')->s'.n=s.n+l.flatten.length/\(s.n<=65536->s'.n<=65536)/\(st=true->∀t∈l.flatten,zwD t)
 | 0,s,s',l,h=>by
  cases h
  exact⟨rfl,λh=>h,λ_=>by simp⟩
 | n+1,s,s',l,h=>by
  rw[zbI]at h
  simp only[ybA,ybB]at h
  obtain⟨⟨g,s1⟩,h1,⟨l',s2⟩,h2,h3⟩:=h
  cases h3
  unfold zbv at h1
  simp only[ybA]at h1
  obtain⟨⟨m,s3⟩,h4,h5⟩:=h1
  obtain⟨_,_,a2,_⟩:=zp h4
  split at h5
  .rename_i hm
   rw[ybB]at h5
   obtain⟨⟨t,s4⟩,h6,h7⟩:=h5
   simp only[Prod.mk.injEq]at h7
   obtain⟨rfl,rfl⟩:=h7
   obtain⟨_,c2,c3⟩:=zlY h6
   obtain⟨b1,b2,b3⟩:=zkB h2
   simp only at c2 hm b1 b2 a2
   refine⟨?_,λh0=>b2 (by omega),λhst x hx=>?_⟩
   .rw[b1]
    simp
    omega
   .rw[ydF,ybh]at hx
    rcases hx with hx|hx
    .rw[(ydJ.1 hx).2]
     exact c3 hst
    .exact b3 hst x hx
  .cases h5
def zMx(f:F):Prop:=∃st k s e s',zH st k 0 [] s=some (((f.lists.length:Int)-1,e),s')/\s.ls=[]/\s'.ls=f.lists
def zjz(st:Bool)(h f:F):Prop:=f.params=h.params/\f.type=h.type/\zMx f/\(st=true->(∀t∈f.locals,zwD t)/\∀ws∈f.lists,∀w∈ws,zI w=false)
theorem zd0{st:Bool}{f f':F}{s s':Rs}(h:zX st f s=some (f',s'))(hl:f.locals=[]):zjz st f f'/\s'.n=s.n+f'.locals.length/\(s.n<=65536->s'.n<=65536)/\f'.name=f.name:=by
 unfold zX at h
 simp only[ybA,ybB]at h
 obtain⟨⟨n1,s1⟩,h1,⟨n2,s2⟩,h2,⟨gs,s3⟩,h3,⟨⟨n,e⟩,s4⟩,h4,h5⟩:=h
 simp only[Prod.mk.injEq]at h5
 obtain⟨hf',hs'⟩:=h5
 subst hf'
 subst hs'
 obtain⟨_,_,a2,_⟩:=zp h1
 obtain⟨_,_,b2,_⟩:=zp h2
 obtain⟨c1,c2,c3⟩:=zkB h3
 obtain⟨_,d2,_,_,_,_,d7⟩:=zQ _ _ _ _ _ _ _ _ h4
 simp only at a2 b2 c1 c2 d7
 have hn:n=(s4.ls.length:Int)-1:=by omega
 subst hn
 refine⟨⟨rfl,rfl,⟨st,_,_,e,s4,h4,rfl,rfl⟩,λhst=>⟨?_,?_⟩⟩,?_,λh0=>by rw[d7];exact c2 (by omega),rfl⟩
 .simp only[hl,ydq]
  exact c3 hst
 .subst hst
  exact zeJ _ _ _ _ _ _ _ h4 (by simp) (by simp)
 .simp only[hl,ydq]
  omega
theorem zbx{st:Bool}:∀{hs fs:List F} {s s':Rs},zC st hs s=some (fs,s')->(∀f∈hs,f.locals=[])->(∀f∈fs,∃h∈hs,zjz st h f)/\s'.n=s.n+zbX fs/\(s.n<=65536->s'.n<=65536)/\fs.length=hs.length
 | [],fs,s,s',h,_=>by
  cases h
  exact⟨by simp,rfl,λh=>h,rfl⟩
 | f::hs,fs,s,s',h,hl=>by
  rw[zC]at h
  simp only[ybA,ybB]at h
  obtain⟨⟨f',s1⟩,h1,⟨fs',s2⟩,h2,h3⟩:=h
  cases h3
  obtain⟨a1,a2,a3,_⟩:=zd0 h1 (hl f (by simp))
  obtain⟨b1,b2,b3,b4⟩:=zbx h2 λg hg=>hl g (by simp[hg])
  simp only at b2 b3 a2 a3
  refine⟨λg hg=>?_,?_,λh0=>b3 (a3 h0),by simp[b4]⟩
  .rcases ybC.1 hg with rfl|hg
   .exact⟨f,by simp,a1⟩
   .obtain⟨x,hx,q⟩:=b1 g hg
    exact⟨x,by simp[hx],q⟩
  .have:zbX (f'::fs')=f'.locals.length+zbX fs':=rfl
   simp only
   omega
theorem zeK{st:Bool}:∀{fs fs':List F} {s s':Rs},zc9 st fs s=some (fs',s')->fs'.map zcF=fs.map zcF
 | [],fs',s,s',h=>by
  cases h
  rfl
 | f::fs,fs',s,s',h=>by
  rw[zc9]at h
  simp only[ybA,ybB]at h
  obtain⟨⟨n1,s1⟩,h1,⟨n2,s2⟩,h2,⟨p,s3⟩,h3,⟨fs2,s4⟩,h4,h5⟩:=h
  cases h5
  simp only[yaL,zeK h4]
  rfl
theorem zgY{fs fs':List F}(h:fs'.map zcF=fs.map zcF):zbX fs'=zbX fs:=by
 have:∀l:List F,zbX l=((l.map zcF).map λf=>f.locals.length).sum:=λl=>by simp only[zbX,ydI];rfl
 rw[this,this,h]
theorem zil{fs fs':List F}(h:fs'.map zcF=fs.map zcF){f:F}(hf:f∈fs'):∃g∈fs,zcF g=zcF f:=by
 have:zcF f∈fs.map zcF:=by rw[<-h];exact List.mem_map_of_mem hf
 obtain⟨g,hg,e⟩:=yaV.1 this
 exact⟨g,hg,e⟩
theorem zkC{s s':Rs}{l:List F}(h:zdq s=some (l,s')):∀f∈l,zl0 false f:=by
 unfold zdq at h
 simp only[ybA]at h
 obtain⟨s1,h1,⟨n,s2⟩,h2,⟨hs,s3⟩,h3,h4⟩:=h
 split at h4
 .cases h4
  intro f hf
  exact(zei h3).2.2 f (ydH hf)
 .cases h4
theorem zqx{s s':Rs}{l:List F}(h:ziM s=some (l,s')):∀f∈l,zl0 true f:=by
 unfold ziM at h
 simp only[ybA,ybB]at h
 obtain⟨s1,h1,⟨n,s2⟩,h2,⟨hs,s3⟩,h3,h4⟩:=h
 cases h4
 intro f hf
 exact(zei h3).2.2 f (ydH hf)
theorem zej{c:UInt8}{s s':Rs}(h:zD c s=some s'):s'.n=s.n:=by
 unfold zD at h
 simp only[ybA]at h
 obtain⟨⟨x,s1⟩,h1,h2⟩:=h
 split at h2
 .rw[ybB]at h2
  obtain⟨⟨y,s2⟩,h3,rfl⟩:=h2
  exact(zp h3).2.2.1.trans (zm h1).2.2
 .cases h2
theorem zl1{s s':Rs}{n:Int}(h:zqv s=some (n,s')):s'.n=s.n:=by
 unfold zqv at h
 simp only[ybA]at h
 obtain⟨⟨x,s1⟩,h1,h2⟩:=h
 exact(zp h2).2.2.1.trans (zm h1).2.2
theorem zbR{n:Int}{s s':Rs}(h:zas n s=some s'):s'.n=s.n:=by
 unfold zas at h
 rw[ybB]at h
 obtain⟨⟨p,s1⟩,h1,rfl⟩:=h
 exact(zaY h1).2.2
theorem zu7{s s':Rs}{l:List F}(h:zdq s=some (l,s')):s'.n=s.n:=by
 unfold zdq at h
 simp only[ybA]at h
 obtain⟨s1,h1,⟨n,s2⟩,h2,⟨hs,s3⟩,h3,h4⟩:=h
 split at h4
 .cases h4
  have:=(zei h3).2.1
  have:=(zp h2).2.2.1
  have:=zej h1
  simp only at *
  omega
 .cases h4
theorem zyI{s s':Rs}{l:List F}(h:ziM s=some (l,s')):s'.n=s.n:=by
 unfold ziM at h
 simp only[ybA,ybB]at h
 obtain⟨⟨a,s1⟩,h1,⟨n,s2⟩,h2,⟨hs,s3⟩,h3,h4⟩:=h
 cases h4
 have:=(zei h3).2.1
 have:=(zp h2).2.2.1
 have:=zl1 h1
 simp only at *
 omega
theorem zBr{st:Bool}:∀{n:Nat} {s s':Rs} {l:List Int},zbI (zcd st false) n s=some (l,s')->s'.n=s.n
 | 0,_,_,_,h=>by cases h;rfl
 | n+1,s,s',l,h=>by
  rw[zbI]at h
  simp only[ybA,ybB]at h
  obtain⟨⟨t,s1⟩,h1,⟨l',s2⟩,h2,h3⟩:=h
  cases h3
  exact(zBr h2).trans (zp h1).2.2.1
theorem zkD{s s':Rs}{hs:List F}{mem mn:Int}(h:zhu s=some ((hs,mem,mn),s')):(∀f∈hs,zl0 false f)/\(-(2^63)<=mem/\mem<2^63)/\(-(2^63)<=mn/\mn<2^63)/\s'.n=s.n:=by
 unfold zhu at h
 simp only[ybA,ybB]at h
 obtain⟨s1,h1,⟨hs',s2⟩,h2,s3,h3,s4,h4,s5,h5,s6,h6,s7,h7,s8,h8,⟨n9,s9⟩,h9,⟨l10,s10⟩,h10,s11,h11,s12,h12,s13,h13,s14,h14,⟨mem',s15⟩,h15,s16,h16,s17,h17,s18,h18,⟨mn',s19⟩,h19,h20⟩:=h
 cases h20
 obtain⟨_,_,a3,a4,a5,_⟩:=zp h15
 obtain⟨_,_,b3,b4,b5,_⟩:=zp h19
 refine⟨zkC h2,⟨a4,a5⟩,⟨b4,b5⟩,?_⟩
 have:=(zp h9).2.2.1
 simp only at *
 rw[b3,zbR h18,zej h17,zbR h16,a3,zbR h14,zej h13,zbR h12,zej h11,zBr h10,this,zej h8,zbR h7,zbR h6,zbR h5,zbR h4,zej h3,zu7 h2,zbR h1]
theorem zqy{s s':Rs}{hs:List F}{mem mn:Int}(h:zky s=some ((hs,mem,mn),s')):(∀f∈hs,zl0 true f)/\(-(2^63)<=mem/\mem<2^63)/\(0<=mn/\mn<2^63)/\s'.n=s.n:=by
 unfold zky at h
 simp only[ybA,ybB]at h
 obtain⟨s1,h1,⟨hs',s2⟩,h2,⟨n3,s3⟩,h3,s4,h4,⟨n5,s5⟩,h5,s6,h6,s7,h7,⟨n8,s8⟩,h8,s9,h9,⟨mem',s15⟩,h15,s16,h16,⟨n17,s17⟩,h17,s18,h18,⟨mn',s19⟩,h19,h20⟩:=h
 cases h20
 obtain⟨_,_,a3,a4,a5,_⟩:=zp h15
 obtain⟨_,_,b3,b4,b5,b6⟩:=zp h19
 refine⟨zqx h2,⟨a4,a5⟩,⟨b6 rfl rfl,b5⟩,?_⟩
 simp only at *
 rw[b3,zbR h18,zl1 h17,zbR h16,a3,zbR h9,zl1 h8,zbR h7,zbR h6,zl1 h5,zbR h4,zl1 h3,zyI h2,zbR h1]
theorem zl2{hs fs:List F}{s s':Rs}(h:znm hs s=some (fs,s'))(hl:∀f∈hs,f.locals=[]):(∀f∈fs,∃h∈hs,zjz false h f)/\(s.n=0->zbX fs<=65536):=by
 unfold znm at h
 simp only[ybA]at h
 obtain⟨s1,h1,⟨c,s2⟩,h2,h3⟩:=h
 split at h3
 .simp only[ybA]at h3
  obtain⟨⟨fs1,s3⟩,h4,s4,h5,s5,h6,⟨x,s6⟩,h7,⟨y,s7⟩,h8,h9⟩:=h3
  split at h9
  .obtain⟨a1,a2,a3,_⟩:=zbx h4 hl
   have hn:=zeK h9
   refine⟨λf hf=>?_,λh0=>?_⟩
   .obtain⟨g,hg,e⟩:=zil hn hf
    obtain⟨k,hk,q1,q2,⟨st,k0,s0,e0,s0',q3,q4,q5⟩,q6⟩:=a1 g hg
    have e1:g.params=f.params:=by
     have:=congrArg F.params e
     exact this
    have e2:g.type=f.type:=by
     have:=congrArg F.type e
     exact this
    have e3:g.lists=f.lists:=by
     have:=congrArg F.lists e
     exact this
    exact⟨k,hk,by rw[<-e1];exact q1,by rw[<-e2];exact q2,⟨st,k0,s0,e0,s0',by rw[<-e3];exact q3,q4,by rw[<-e3];exact q5⟩,λh=>by cases h⟩
   .rw[zgY hn]
    have:=(zp h2).2.2.1
    have:=zej h1
    simp only at *
    have:=a3 (by omega)
    omega
  .cases h9
 .cases h3
theorem zs4{hs fs:List F}{s s':Rs}(h:zqw hs s=some (fs,s'))(hl:∀f∈hs,f.locals=[]):(∀f∈fs,∃h∈hs,zjz true h f)/\(s.n=0->zbX fs<=65536):=by
 unfold zqw at h
 simp only[ybA]at h
 obtain⟨⟨c1,s1⟩,h1,⟨c,s2⟩,h2,⟨fs1,s3⟩,h4,⟨c4,s4⟩,h5,s5,h6,⟨x,s6⟩,h7,⟨y,s7⟩,h8,h9⟩:=h
 obtain⟨a1,a2,a3,_⟩:=zbx h4 hl
 have hn:=zeK h9
 refine⟨λf hf=>?_,λh0=>?_⟩
 .obtain⟨g,hg,e⟩:=zil hn hf
  obtain⟨k,hk,q1,q2,⟨st,k0,s0,e0,s0',q3,q4,q5⟩,q6⟩:=a1 g hg
  have e1:g.params=f.params:=by
     have:=congrArg F.params e
     exact this
  have e2:g.type=f.type:=by
     have:=congrArg F.type e
     exact this
  have e3:g.lists=f.lists:=by
     have:=congrArg F.lists e
     exact this
  have e4:g.locals=f.locals:=by
     have:=congrArg F.locals e
     exact this
  exact⟨k,hk,by rw[<-e1];exact q1,by rw[<-e2];exact q2,⟨st,k0,s0,e0,s0',by rw[<-e3];exact q3,q4,by rw[<-e3];exact q5⟩,λh=>by rw[<-e3,<-e4];exact q6 h⟩
 .rw[zgY hn]
  have:=(zp h2).2.2.1
  have:=zl1 h1
  simp only at *
  have:=a3 (by omega)
  omega
theorem zu8{n:Int}(h:-(2^63)<=n/\n<2^63):yb4 .i64 (yb4 .i64 (n-3)+3)=n:=by
 have h1:yb4 .i64 (yb4 .i64 (n-3)+3)=yb4 .i64 n:=by
  refine zcO ?_
  have:yb4 .i64 (n-3)%2^64=(n-3)%2^64:=by
   have e:yb4 .i64 (n-3)=(if(n-3)%2^64≥2^63 then(n-3)%2^64-2^64 else(n-3)%2^64):=by
    simp[yb4,yao,yap]
   rw[e]
   split<;>omega
  omega
 rw[h1,zb]<;>omega
theorem zDN{n n':Int}{r:List UInt8}{ls:To}{k:Nat}{s':Rs}(hn:n<0)(h:zcd false false ⟨uI n++10::r,ls,k⟩=some (n',s')):0<=n':=by
 have e:uI n=[zY n]:=by
  unfold uI
  rw[uF,if_pos (by omega)]
 rw[e]at h
 unfold zcd at h
 simp only[yc1,ydq,ziL]at h
 have e0:∀x:Nat,x<128->orS 0 x 0=x:=λx hx=>by
  rw[zeY (by omega)]
  omega
 have hm:(zY n).toNat%128<128:=ydK _ (by omega)
 rw[e0 _ hm]at h
 generalize (zY n).toNat%128=v at *
 split at h
 .simp only[Bool.false_eq_true,false_and,if_false,ydx,yaR.injEq,Prod.mk.injEq]at h
  rw[<-h.1]
  unfold zDG
  rw[wrap_nat (by omega)]
  omega
 .have h10:(10:UInt8).toNat=10:=rfl
  rw[h10]at h
  have e1:orS v (10%128) (0+7)=v+1280:=by
   rw[zeY (by omega)]
   omega
  rw[e1]at h
  simp only[Bool.false_eq_true,false_and,if_false,ydx,yaR.injEq,Prod.mk.injEq,Nat.reduceLT,if_true]at h
  rw[<-h.1]
  unfold zDG
  rw[wrap_nat (by omega)]
  omega
theorem zrM{m:M}{n:Int}(h:-(2^63)<=n/\n<2^63)(e:m.main=yb4 .i64 (n-3)):zaS m=n:=by
 unfold zaS
 rw[e,zu8 h]
theorem zu9{b:List UInt8}{m:M}(h:zaC b=some m)(hl:b.length<2^60):zkz m/\zkr m=some b:=by
 unfold zaC at h
 simp only[ybA]at h
 obtain⟨⟨m',s'⟩,h1,h2⟩:=h
 split at h2
 .rename_i hc
  cases h2
  obtain⟨c1,c2,c3,c4⟩:=hc
  refine⟨?_,c4⟩
  unfold zdZ at h1
  simp only[ybA,ybB]at h1
  obtain⟨⟨⟨hs,mem,mn⟩,s1⟩,h3,⟨fs,s2⟩,h4,h5⟩:=h1
  simp only[Prod.mk.injEq]at h5
  obtain⟨rfl,rfl⟩:=h5
  obtain⟨a1,a2,a3,a4⟩:=zkD h3
  obtain⟨b1,b2⟩:=zl2 h4 λf hf=>(a1 f hf).1
  simp only at c2 c4
  have hty:∀f∈fs,zcv f=true:=by simpa using c2
  have hmain:zaS ⟨fs,mem,yb4 .i64 (mn-3)⟩=mn:=zrM a3 rfl
  have hbel:∀f∈fs,∀ws∈f.lists,∀w∈ws,zI w=false:=by
   intro f hf ws hws w hw
   unfold zfF at c3
   simp only[Bool.and_eq_true,Bool.not_eq_true',ydG,decide_eq_true_eq]at c3
   have:=c3.2 f hf
   simp only[ydL,not_exists,not_and,Bool.not_eq_true]at this
   exact this ws hws w hw
  refine⟨λf hf=>⟨hty f hf,hbel f hf,?_⟩,b2 a4,a2,?_,by rw[hmain]⟩
  .obtain⟨_,_,_,_,q,_⟩:=b1 f hf
   exact q
  .rw[hmain]
   by_cases h0:0<=mn
   .exact h0
   .obtain⟨codes,hcodes,hb⟩:=zdz c4
    obtain⟨hsh,_⟩:=zrL (m:=⟨fs,mem,yb4 .i64 (mn-3)⟩) hty a2 hb hl
    rw[zoJ hsh (s:=⟨b,[],0⟩) hb,ybB]at h3
    obtain⟨⟨x,sx⟩,h6,h7⟩:=h3
    simp only[Prod.mk.injEq]at h7
    rw[hmain]at h6
    have:znI codes fs=10::(zi (zP codes)++zc 0 ([4,110,97,109,101,1]++zi (zP (zn 3 fs)))):=rfl
    simp only[this]at h6
    have:=zDN (by omega) h6
    omega
 .cases h2
theorem zva{b:List UInt8}{m:M}{s':Rs}(h1:zfI ⟨b,[],0⟩=some (m,s')):zkz m:=by
 unfold zfI at h1
 simp only[ybA,ybB]at h1
 obtain⟨⟨⟨hs,mem,mn⟩,s1⟩,h3,⟨fs,s2⟩,h4,h5⟩:=h1
 simp only[Prod.mk.injEq]at h5
 obtain⟨rfl,rfl⟩:=h5
 obtain⟨a1,a2,a3,a4⟩:=zqy h3
 obtain⟨b1,b2⟩:=zs4 h4 λf hf=>(a1 f hf).1
 have hmain:zaS ⟨fs,mem,yb4 .i64 (mn-3)⟩=mn:=zrM (by omega) rfl
 refine⟨λf hf=>?_,b2 a4,a2,by rw[hmain];exact a3.1,by rw[hmain]⟩
 obtain⟨h,hh,q1,q2,q3,q4⟩:=b1 f hf
 obtain⟨_,p2⟩:=a1 h hh
 obtain⟨p3,p4⟩:=p2 rfl
 obtain⟨q5,q6⟩:=q4 rfl
 refine⟨?_,q6,q3⟩
 unfold zcv
 simp only[Bool.not_eq_true',Bool.or_eq_false_iff,ydG,Bool.and_eq_false_iff,decide_eq_false_iff_not,ne_eq,Classical.not_not,zlU,Bool.and_eq_true,decide_eq_true_eq]
 refine⟨λt ht=>?_,λt ht=>?_,?_⟩
 .rw[q1]at ht
  have:=p3 t ht
  unfold zwD at this
  omega
 .have:=q5 t ht
  unfold zwD at this
  omega
 .rw[q2]
  unfold zwD at p4
  omega
theorem zqz{m:M}(hg:zkz m):zfF m=true:=by
 unfold zfF
 simp only[Bool.and_eq_true,decide_eq_true_eq,Bool.not_eq_true',ydG,ydL,not_exists,not_and,Bool.not_eq_true]
 refine⟨?_,λf hf ws hws w hw=>(hg.fs f hf).below ws hws w hw⟩
 have h0:=hg.main0
 have hr:=(zef (m.main+3)).2
 have:zaS m<2^63:=hr
 rw[hg.main,zb]<;>omega
theorem zkE{b:List UInt8}(hl:b.length<2^60):zaC b=zb5 b:=by
 have h1:∀m,zaC b=some m->zb5 b=some m:=λm h=>by
  obtain⟨hg,he⟩:=zu9 h hl
  obtain⟨s',h3,h4⟩:=ziN hg he hl
  unfold zb5
  rw[h3]
  simp only[ydx,h4,he,and_self,if_true]
 have h2:∀m,zb5 b=some m->zaC b=some m:=λm h=>by
  unfold zb5 at h
  simp only[ybA]at h
  obtain⟨⟨m',s'⟩,h3,h4⟩:=h
  split at h4
  .rename_i hc
   cases h4
   have hg:=zva h3
   obtain⟨s2,h5,h6⟩:=zoK hg hc.2 hl
   unfold zaC
   rw[h5]
   have ht:m'.funcs.all zcv=true:=by simpa using λf hf=>(hg.fs f hf).typed
   simp only[ydx,h6,hc.2,ht,zqz hg,and_self,if_true]
  .cases h4
 cases hp:zaC b with
 | some m=>exact(h1 m hp).symm
 | none =>
  cases hr:zb5 b with
  | none=>rfl
  | some m=>rw[h2 m hr]at hp;cases hp
theorem RepO.len{J:AS}{v:AV}{l:List W}(h:Al.RepO J v l)(K:AV->Prop):ziY yb9 54 v K=K (.int .i64 (l.length:Int)):=by
 rcases h with ⟨rfl,rfl⟩|⟨b,rfl,_⟩<;>simp
theorem RepO.at{J:AS}{v:AV}{l:List W}(h:Al.RepO J v l){i:Nat}(hi:i<l.length):∃φ,Al.Rd J φ/\∀K:AV->Prop,zE yb9 54 v (.int .i64 (i:Int)) K=K (.pv φ l[i].av):=by
 rcases h with ⟨rfl,_⟩|⟨φ,rfl,r⟩
 .simp at hi
 .exact⟨φ,r,λK=>by simp[hi]⟩
@[simp] theorem zMy:za3 32 [(0,Operand.const (.int .u8 5))]=false:=by decide
@[simp] theorem zMg:za3 32 [(0,Operand.const (.int .u8 11))]=false:=by decide
@[simp] theorem zMh:za3 32 [(0,Operand.const (.int .u8 0)),(1,Operand.const (.int .u8 0))]=false:=by decide
def RgW(w:W):Prop:=-(2^63)<=w.n/\w.n<2^63
def RgL(ls:To):Prop:=∀ws∈ls,∀w∈ws,RgW w
def FCs(f:F)(pv lv tv:AV):List AV:=[.str f.name,pv,lv,.int .i64 f.type,tv]
def zHz(G:Env)(ls:To)(k:Nat):Prop:=∀(J:AS) (R:Out->AS->Prop) (f:F) (pv lv tv:AV) (at_:Int) (bs:List UInt8),f.lists=ls->Al.IntsO J pv f.params->Al.IntsO J lv f.locals->Al.LstO J tv f.lists->zcZ ls k at_=some bs->bs.length<=2^38 ->
 (∀v J',zdx J J' v bs->R (.ret v) J')->zzQ G 48 [.agg (FCs f pv lv tv),.int .i64 at_] J R
def LiI(ls:To)(k:Nat)(J:AS)(o:Nat)(fc:List AV)(rv:AV)(ws:List W)(bs:List UInt8)(a:Nat->AV)(Z:AS):Prop:=∃(i:Nat) (done r:List UInt8),i<=ws.length/\zcL (zcZ ls k) (ws.drop i)=some r/\done++r=bs/\a 2=.ptr o 0/\a 11=rv/\a 12=.int .i64 (ws.length:Int)/\a 13=.int .i64 (i:Int)/\zdx J Z (a 4) done/\o<Z.no/\J.no<=o/\Z.objs o=some fc
theorem zvb{w:W}(h:zR w=true):w.op=11\/w.op=12\/w.op=13:=by
 simpa [zR,or_assoc]using h
section
variable {G : Env} {J : AS} {R : Out -> AS -> Prop}
theorem zae{el:Option TypeId}{Z:AS}{v:AV}{ys:List AV}{x y:List UInt8}{K:AV->AS->Prop}(h1:zdx J Z v x)(e:ys=B y)(hl:x.length+y.length<=2^42)(h:∀v' J',zdx J J' v' (x++y)->J'.objs=Z.objs->J'.no=Z.no->K v' J'):zbT el 1 1 v ys Z K:=by
 subst e
 obtain⟨ho,hA⟩:=h1
 have hgn:=hA.nf
 rcases ho with ⟨h0,rfl⟩|⟨g,rfl,g1,g2,g3⟩
 .have hx:x=[]:=by simpa [B]using h0
  subst hx
  cases y with
  | nil=>simp[B];exact h _ _ ⟨.inl ⟨rfl,rfl⟩,hA⟩ rfl rfl
  | cons c y =>
   have e1:B (c::y)=yc0 .u8 (c.toNat:Int)::B y:=rfl
   rw[e1]
   simp
   refine⟨by simp at hl;omega,?_⟩
   exact h _ _ ⟨.inr ⟨Z.nf,by simp[B],hgn,by simp,by simp⟩,hA.newF⟩ (by simp) (by simp)
 .simp[g3]
  exact⟨by omega,h _ _ ⟨.inr ⟨Z.nf,by simp,hgn,by simp,by simp⟩,(hA.setF g1).newF (J':=Z.setF g .dead)⟩ (by simp) (by simp)⟩
theorem zcw{Z:AS}{v v2:AV}{x y:List UInt8}{K:AV->AS->Prop}(h1:zdx J Z v x)(h2:zd9 Z v2 y)(hl:x.length+y.length<=2^42)(h:∀v' J',zdx J J' v' (x++y)->J'.objs=Z.objs->J'.no=Z.no->K v' J'):
  zcG yb9 32 (.int .u8 0) 1 v2 Z.F λys=>(∀y,y∈ys->y.cells.length=1/\∀c,c∈y.cells->c.one=true)/\zbT (elT yb9 32) 1 1 v ys Z K:=by
 rcases h2 with ⟨rfl,rfl⟩|⟨φ,rfl,hr⟩
 .simp
  exact zae h1 rfl hl h
 .have hr':=hr.read
  simp[hr']
  exact⟨zqm y,zae h1 rfl hl h⟩
theorem zvc(V:zdI G){ls:To}{k:Nat}(IH:zHz G ls k){f:F}{pv lv tv rv:AV}{ws:List W}{bs:List UInt8}{o:Nat}(hls:f.lists=ls)(hp:Al.IntsO J pv f.params)(hl:Al.IntsO J lv f.locals)(ht:Al.LstO J tv f.lists)(hrv:Al.RepO J rv ws)(hws:ws.length<=2^40)(hbs:bs.length<=2^38)(hrg:∀w∈ws,RgW w)
  (h:∀v J',zdx J J' v bs->R (.ret v) J') {a:Nat->AV} {Z:AS} (hI:LiI ls k J o (FCs f pv lv tv) rv ws bs a Z) :
  avc yb9 G 89 zeB (zab (λa' J'=>LiI ls k J o (FCs f pv lv tv) rv ws bs a' J'/\MU 13 (ws.length+1) a' J'<MU 13 (ws.length+1) a Z) (zai 0 (zab (avc yb9 G 89 zp0 (zbE yb9 [.tmp 4] R)) (zbE yb9 [.tmp 4] R)))) a Z:=by
 obtain⟨i,done,r,hi,hr,hbsd,a2,a11,a12,a13,hN,ho1,ho2,ho⟩:=hI
 have n1:=hN.byt.one
 have hpl:=congrArg ycT hbsd
 simp only[yab]at hpl
 by_cases hlt:i<ws.length
 .have hlt':(i:Int)<(ws.length:Int):=by omega
  obtain⟨φ,hrd,hix⟩:=RepO.at (hrv.keep hN.2) hlt
  have hrd:=hrd.read
  rw[List.drop_eq_getElem_cons hlt]at hr
  have hrw:=hrg _ (yaw hlt)
  generalize ws[i]=w at *
  obtain⟨x,y,hx,hy,rfl⟩:=zik hr
  have w1:yb4 .i64 ((i:Int)+1)=((i+1:Nat):Int):=by rw[zb]<;>omega
  have next:∀(a':Nat->AV) (J':AS),a' 2=.ptr o 0->a' 11=rv->a' 12=.int .i64 (ws.length:Int)->a' 13=.int .i64 ((i:Int)+1)->zdx J J' (a' 4) (done++x)->Z.no<=J'.no->J'.objs o=some (FCs f pv lv tv) ->
    LiI ls k J o (FCs f pv lv tv) rv ws bs a' J'/\MU 13 (ws.length+1) a' J'<MU 13 (ws.length+1) a Z:=λa' J' e2 e11 e12 e13 e4 e5 e6=>by
   refine⟨⟨i+1,done++x,y,hlt,hy,by rw[<-hbsd];simp,e2,e11,e12,by rw[e13];rfl,e4,by omega,ho2,e6⟩,?_⟩
   simp only[MU,a13,e13];omega
  have kobj:∀{c1:List AV} {J':AS},zd ((Z.newO c1).setO Z.no w.cs) J'->J'.objs o=some (FCs f pv lv tv)/\J'.objs Z.no=some w.cs/\Z.no<J'.no:=λ{c1 J'} A=>by
   have:=A.no
   simp at this
   refine⟨?_,?_,by omega⟩
   .rw[A.obj o (by simp;omega)]
    have:¬o=Z.no:=by omega
    simp[this,ho]
   .rw[A.obj Z.no (by simp)]
    simp
  have hA0:∀c1,zd Z ((Z.newO c1).setO Z.no w.cs):=λc1=>.mk1
  have hlen:done.length+(x.length+y.length)=bs.length:=by rw[<-hpl];simp
  have sub:∀{Z':AS} {z:List UInt8} {at_:Int} {R':Out->AS->Prop},zd J Z'->zcZ ls k at_=some z->z.length<=2^38->(∀v J',zdx Z' J' v z->R' (.ret v) J')->zzQ G 48 [.agg (FCs f pv lv tv),.int .i64 at_] Z' R' :=
   λA he hz hR=>IH _ _ f pv lv tv _ _ hls (hp.keep A) (hl.keep A) (ht.keep A) he hz hR
  have hwcs:w.cs=[.int .i64 w.op,.int .i64 w.ty,.int .i64 w.n,.int .i64 w.body,.int .i64 w.other,.str w.name]:=rfl
  by_cases hn:zR w=true
  .unfold zgX at hx
   rw[if_pos hn]at hx
   cases hb:zcZ ls k w.body with
   | none=>rw[hb]at hx;cases hx
   | some b =>
    rw[hb]at hx
    simp only[ydx]at hx
    have hop:=zvb hn
    have q2:ydM.wrap (yam.wrap (yam.wrap 13-11))=2:=by decide
    have q3:ydM.wrap (yam.wrap (yam.wrap 14-11))=3:=by decide
    have q4:ydM.wrap (yam.wrap (yam.wrap 15-11))=4:=by decide
    have c2:zY (11-9)=2:=by decide
    have c3:zY (12-9)=3:=by decide
    have c4:zY (13-9)=4:=by decide
    rcases hop with e|e|e
    .have h13:¬(w.op=13/\0<=w.other):=by omega
     rw[if_neg h13,e]at hx
     simp only[yaR.injEq,c2,c3,c4]at hx
     subst hx
     simp only[yac,yab,ybl]at hlen
     have A1':=hA0 [yc0 yam 0,yc0 yam 0,yc0 yam 0,yc0 yam 0,yc0 yam 0,ycZ []]
     have hk:=kobj (zd.refl ((Z.newO [yc0 yam 0,yc0 yam 0,yc0 yam 0,yc0 yam 0,yc0 yam 0,ycZ []]).setO Z.no w.cs))
     simp only[hwcs,e]at hk A1'
     obtain⟨k1,k2,k3⟩:=hk
     simp[zeB,a2,a11,a12,a13,hlt',hix,hrd,W.av,W.cs,e,n1,splice,q2]
     refine zae (y:=[2,64]) (hN.keep A1') rfl (by simp;omega) λv1 J1 h1 u1 r1=>?_
     have k1':=(congrFun u1 o).trans k1
     have k2':=(congrFun u1 Z.no).trans k2
     have n2:=h1.byt.one
     have hno1:=A1'.no
     simp only[FCs]at k1'
     simp[a2,k1',k2',n2]
     refine sub h1.2 hb (by omega) λv2 J2 h2=>?_
     have n3:=h2.byt.one
     have k1'':=(h2.2.obj o (by omega)).trans k1'
     have k2'':=(h2.2.obj Z.no (by omega)).trans k2'
     have hno2:=h2.2.no
     simp
     refine zcw (h1.keep h2.2) h2.byt (by simp;omega) λv3 J3 h3 u3 r3=>?_
     have k1a:=(congrFun u3 o).trans k1''
     have k2a:=(congrFun u3 Z.no).trans k2''
     have n4:=h3.byt.one
     simp[k2a,n4]
     refine zae (y:=[11]) h3 rfl (by simp;omega) λv4 J4 h4 u4 r4=>?_
     have k1b:=(congrFun u4 o).trans k1a
     simp[w1,a13]
     exact next _ _ (by simp[a2]) (by simp[a11]) (by simp[a12]) (by simp) (by simpa using h4) (by omega) k1b
    .have h13:¬(w.op=13/\0<=w.other):=by omega
     rw[if_neg h13,e]at hx
     simp only[yaR.injEq,c2,c3,c4]at hx
     subst hx
     simp only[yac,yab,ybl]at hlen
     have A1':=hA0 [yc0 yam 0,yc0 yam 0,yc0 yam 0,yc0 yam 0,yc0 yam 0,ycZ []]
     have hk:=kobj (zd.refl ((Z.newO [yc0 yam 0,yc0 yam 0,yc0 yam 0,yc0 yam 0,yc0 yam 0,ycZ []]).setO Z.no w.cs))
     simp only[hwcs,e]at hk A1'
     obtain⟨k1,k2,k3⟩:=hk
     simp[zeB,a2,a11,a12,a13,hlt',hix,hrd,W.av,W.cs,e,n1,splice,q3]
     refine zae (y:=[3,64]) (hN.keep A1') rfl (by simp;omega) λv1 J1 h1 u1 r1=>?_
     have k1':=(congrFun u1 o).trans k1
     have k2':=(congrFun u1 Z.no).trans k2
     have n2:=h1.byt.one
     have hno1:=A1'.no
     simp only[FCs]at k1'
     simp[a2,k1',k2',n2]
     refine sub h1.2 hb (by omega) λv2 J2 h2=>?_
     have n3:=h2.byt.one
     have k1'':=(h2.2.obj o (by omega)).trans k1'
     have k2'':=(h2.2.obj Z.no (by omega)).trans k2'
     have hno2:=h2.2.no
     simp
     refine zcw (h1.keep h2.2) h2.byt (by simp;omega) λv3 J3 h3 u3 r3=>?_
     have k1a:=(congrFun u3 o).trans k1''
     have k2a:=(congrFun u3 Z.no).trans k2''
     have n4:=h3.byt.one
     simp[k2a,n4]
     refine zae (y:=[11]) h3 rfl (by simp;omega) λv4 J4 h4 u4 r4=>?_
     have k1b:=(congrFun u4 o).trans k1a
     simp[w1,a13]
     exact next _ _ (by simp[a2]) (by simp[a11]) (by simp[a12]) (by simp) (by simpa using h4) (by omega) k1b
    .by_cases h0:0<=w.other
     .have h13:w.op=13/\0<=w.other:=⟨e,h0⟩
      rw[if_pos h13,e]at hx
      simp only[ybB,c4]at hx
      obtain⟨ot,hot,rfl⟩:=hx
      simp only[yac,yab,ybl]at hlen
      have A1':=hA0 [yc0 yam 0,yc0 yam 0,yc0 yam 0,yc0 yam 0,yc0 yam 0,ycZ []]
      have hk:=kobj (zd.refl ((Z.newO [yc0 yam 0,yc0 yam 0,yc0 yam 0,yc0 yam 0,yc0 yam 0,ycZ []]).setO Z.no w.cs))
      simp only[hwcs,e]at hk A1'
      obtain⟨k1,k2,k3⟩:=hk
      simp[zeB,a2,a11,a12,a13,hlt',hix,hrd,W.av,W.cs,e,n1,splice,q4]
      refine zae (y:=[4,64]) (hN.keep A1') rfl (by simp;omega) λv1 J1 h1 u1 r1=>?_
      have k1':=(congrFun u1 o).trans k1
      have k2':=(congrFun u1 Z.no).trans k2
      have n2:=h1.byt.one
      have hno1:=A1'.no
      simp only[FCs]at k1'
      simp[a2,k1',k2',n2]
      refine sub h1.2 hb (by omega) λv2 J2 h2=>?_
      have n3:=h2.byt.one
      have k1'':=(h2.2.obj o (by omega)).trans k1'
      have k2'':=(h2.2.obj Z.no (by omega)).trans k2'
      have hno2:=h2.2.no
      simp
      refine zcw (h1.keep h2.2) h2.byt (by simp;omega) λv3 J3 h3 u3 r3=>?_
      have k1a:=(congrFun u3 o).trans k1''
      have k2a:=(congrFun u3 Z.no).trans k2''
      have n4:=h3.byt.one
      simp[a2,k1a,k2a,n4,h0]
      refine zae (y:=[5]) h3 rfl (by simp;omega) λv4 J4 h4 u4 r4=>?_
      have k1b:=(congrFun u4 o).trans k1a
      have k2b:=(congrFun u4 Z.no).trans k2a
      have n5:=h4.byt.one
      simp[a2,k1b,k2b,n5]
      refine sub h4.2 hot (by omega) λv5 J5 h5=>?_
      have n6:=h5.byt.one
      have k1c:=(h5.2.obj o (by omega)).trans k1b
      have hno3:=h5.2.no
      simp
      refine zcw (h4.keep h5.2) h5.byt (by simp;omega) λv6 J6 h6 u6 r6=>?_
      have k1d:=(congrFun u6 o).trans k1c
      have n7:=h6.byt.one
      simp[n7]
      refine zae (y:=[11]) h6 rfl (by simp;omega) λv7 J7 h7 u7 r7=>?_
      have k1e:=(congrFun u7 o).trans k1d
      simp[w1,a13]
      exact next _ _ (by simp[a2]) (by simp[a11]) (by simp[a12]) (by simp) (by simpa using h7) (by omega) k1e
     .have h13:¬(w.op=13/\0<=w.other):=by omega
      rw[if_neg h13,e]at hx
      simp only[yaR.injEq,c2,c3,c4]at hx
      subst hx
      simp only[yac,yab,ybl]at hlen
      have A1':=hA0 [yc0 yam 0,yc0 yam 0,yc0 yam 0,yc0 yam 0,yc0 yam 0,ycZ []]
      have hk:=kobj (zd.refl ((Z.newO [yc0 yam 0,yc0 yam 0,yc0 yam 0,yc0 yam 0,yc0 yam 0,ycZ []]).setO Z.no w.cs))
      simp only[hwcs,e]at hk A1'
      obtain⟨k1,k2,k3⟩:=hk
      simp[zeB,a2,a11,a12,a13,hlt',hix,hrd,W.av,W.cs,e,n1,splice,q4]
      refine zae (y:=[4,64]) (hN.keep A1') rfl (by simp;omega) λv1 J1 h1 u1 r1=>?_
      have k1':=(congrFun u1 o).trans k1
      have k2':=(congrFun u1 Z.no).trans k2
      have n2:=h1.byt.one
      have hno1:=A1'.no
      simp only[FCs]at k1'
      simp[a2,k1',k2',n2]
      refine sub h1.2 hb (by omega) λv2 J2 h2=>?_
      have n3:=h2.byt.one
      have k1'':=(h2.2.obj o (by omega)).trans k1'
      have k2'':=(h2.2.obj Z.no (by omega)).trans k2'
      have hno2:=h2.2.no
      simp
      refine zcw (h1.keep h2.2) h2.byt (by simp;omega) λv3 J3 h3 u3 r3=>?_
      have k1a:=(congrFun u3 o).trans k1''
      have k2a:=(congrFun u3 Z.no).trans k2''
      have n4:=h3.byt.one
      simp[k2a,n4,h0]
      refine zae (y:=[11]) h3 rfl (by simp;omega) λv4 J4 h4 u4 r4=>?_
      have k1b:=(congrFun u4 o).trans k1a
      simp[w1,a13]
      exact next _ _ (by simp[a2]) (by simp[a11]) (by simp[a12]) (by simp) (by simpa using h4) (by omega) k1b
  .unfold zgX at hx
   rw[if_neg hn]at hx
   simp only[ybB]at hx
   obtain⟨c,hc,rfl⟩:=hx
   have hno:¬w.op=11/\¬w.op=12/\¬w.op=13:=by simpa [zR,not_or,and_assoc]using hn
   obtain⟨o11,o12,o13⟩:=hno
   simp only[yac]at hlen
   have htl:=zoG w
   simp[zeB,a2,a11,a12,a13,hlt',hix,hrd,W.av,W.cs,o11,o12,o13,n1,splice]
   refine zsX V (w:=w) (zsY hc) λJ1 A1=>?_
   obtain⟨k1,k2,k3⟩:=kobj A1
   have A1':=(hA0 _).trans A1
   simp only[hwcs]at k2
   simp[n1]
   refine zae (y:=[c]) (hN.keep A1') rfl (by simp;omega) λv2 J2 h2 u2 r2=>?_
   have k2':=(congrFun u2 Z.no).trans k2
   have k1':=(congrFun u2 o).trans k1
   have n2:=h2.byt.one
   have hno1:=A1'.no
   simp[k2']
   by_cases p1:w.op=1
   .have et:zbW w=sI w.n:=by simp[zbW,p1]
    rw[et]at next htl
    simp[p1,n2,k2']
    refine zql hrw λv3 J3 h3=>?_
    have k1'':=(h3.2.obj o (by omega)).trans k1'
    have hno2:=h3.2.no
    simp
    refine zcw (h2.keep h3.2) h3.byt (by simp;omega) λv4 J4 h4 u4 r4=>?_
    have k1a:=(congrFun u4 o).trans k1''
    simp[w1,a13]
    exact next _ _ (by simp[a2]) (by simp[a11]) (by simp[a12]) (by simp) (by simpa using h4) (by omega) k1a
   .by_cases p2:w.op=2\/w.op=3\/w.op=10\/w.op=14\/w.op=15
    .have et:zbW w=uI w.n:=by simp only[zbW,p1,if_false,p2,if_true]
     rw[et]at next htl
     rcases p2 with p2|p2|p2|p2|p2 <;>
     .simp[p2,n2,k2']
      refine zdC hrw.2 λv3 J3 h3=>?_
      have k1'':=(h3.2.obj o (by omega)).trans k1'
      have hno2:=h3.2.no
      simp
      refine zcw (h2.keep h3.2) h3.byt (by simp;omega) λv4 J4 h4 u4 r4=>?_
      have k1a:=(congrFun u4 o).trans k1''
      simp[w1,a13]
      exact next _ _ (by simp[a2]) (by simp[a11]) (by simp[a12]) (by simp) (by simpa using h4) (by omega) k1a
    .simp only[not_or]at p2
     obtain⟨p2,p3,p10,p14,p15⟩:=p2
     by_cases p8:w.op=8\/w.op=9
     .have et:zbW w=[0,0]:=by simp only[zbW,p1,p2,p3,p10,p14,p15,if_false,or_self,p8,if_true]
      rw[et]at next htl
      rcases p8 with p8|p8 <;>
      .simp[p8,n2,k2']
       refine zae (y:=[0,0]) h2 rfl (by simp;omega) λv4 J4 h4 u4 r4=>?_
       have k1a:=(congrFun u4 o).trans k1'
       simp[w1,a13]
       exact next _ _ (by simp[a2]) (by simp[a11]) (by simp[a12]) (by simp) (by simpa using h4) (by omega) k1a
     .simp only[not_or]at p8
      obtain⟨p8,p9⟩:=p8
      have et:zbW w=[]:=by simp only[zbW,p1,p2,p3,p10,p14,p15,p8,p9,if_false,or_self]
      rw[et]at next htl
      simp[p1,p2,p3,p10,p14,p15,p8,p9,n2,w1,a13]
      exact next _ _ (by simp[a2]) (by simp[a11]) (by simp[a12]) (by simp) (by simpa using h2) (by omega) k1'
 .have hie:i=ws.length:=by omega
  subst hie
  simp only[List.drop_length,zcL,yaR.injEq]at hr
  subst hr
  have:done=bs:=by rw[<-hbsd];simp
  subst this
  simp[zeB,zp0,a12,a13,n1]
  exact h _ _ hN
theorem zvd{G:Env}(V:zdI G){ls:To}(hw:∀ws∈ls,ws.length<=2^40)(hrg:RgL ls):∀k,zHz G ls k
 | 0=>λ_ _ _ _ _ _ _ _ _ _ _ _ h=>by simp[zcZ]at h
 | k+1=>λJ R f pv lv tv at_ bs hls hp hl ht h hb hR=>by
  have IH:=zvd V hw hrg k
  rw[zcZ]at h
  split at h
  .cases h
  rename_i h0
  have h0:¬at_<0:=h0
  obtain⟨n,rfl⟩:∃n:Nat,at_=n:=⟨at_.toNat,by omega⟩
  simp only[ybe]at h
  cases hg:ls[n]? with
  | none=>rw[hg]at h;cases h
  | some ws =>
   rw[hg]at h
   simp only at h
   obtain⟨hn,hge⟩:=yaq.1 hg
   subst hls
   obtain⟨φ,rv,hrd,hrv,hix⟩:=ht.at hn
   rw[hge]at hrv
   have hrd:=hrd.read
   have p1:=hp.one
   have l1:=hl.one
   have t1:=ht.one
   have r1:=hrv.one
   have rl:=RepO.len hrv
   refine zCV rfl ?_
   simp[zLN,FCs,p1,l1,t1,hix,hrd,r1,rl]
   refine zS (LiI f.lists k J J.no (FCs f pv lv tv) rv ws bs) (MU 13 (ws.length+1)) ⟨0,[],bs,by omega,by simpa using h,rfl,by simp,by simp,by simp,by simp,⟨.inl ⟨rfl,by simp⟩,(zd.refl J).newO⟩,by simp,by omega,by simp[FCs]⟩ λa Z hI=>?_
   exact zvc V IH rfl hp hl ht hrv (hw ws (yc5 hg)) hb (hrg ws (yc5 hg)) hR hI
end
end Go.Proofs.YtohfclafhegadaaGreatDoor
namespace Go.Proofs.YtohfclafhegadaaGreatDoor.Ck
open Go Go.Abs Go.Proofs.YtohfclafhegadaaGreatDoor
theorem zs5{a n:Int}{named named':List Bool}(h:ze2 a named n=.ok named'){i:Nat}(hi:named'[i]?=some true):named[i]?=some true\/(i:Int)=n:=by
 unfold ze2 at h
 split at h
 .rename_i hc
  cases h
  by_cases hin:n.toNat=i
  .right;omega
  .left;rwa [List.getElem?_set_ne hin]at hi
 .cases h
theorem zkF{a:Int}:∀{ns:List Int} {named named':List Bool},zbt a ns named=.ok named'->∀{i:Nat},named'[i]?=some true->named[i]?=some true\/(i:Int)∈ns
 | [],named,named',h,i,hi=>by rw[zbt]at h;cases h;exact .inl hi
 | n::ns,named,named',h,i,hi=>by
  rw[zbt]at h
  split at h
  .cases h
  .rename_i nm hnm
   rcases zkF h hi with h1|h1
   .rcases zs5 hnm h1 with h2|h2
    .exact .inl h2
    .exact .inr (by simp[h2])
   .exact .inr (by simp[h1])
theorem zoL{a:Int}:∀{r:List W} {named named':List Bool},zjt a r named=.ok named'->∀{i:Nat},named'[i]?=some true->named[i]?=some true\/∃w∈r,(i:Int)∈zh w
 | [],named,named',h,i,hi=>by rw[zjt]at h;cases h;exact .inl hi
 | w::r,named,named',h,i,hi=>by
  rw[zjt]at h
  split at h
  .cases h
  .rename_i nm hnm
   rcases zoL h hi with h1|⟨w',h1,h2⟩
   .rcases zkF hnm h1 with h2|h2
    .exact .inl h2
    .exact .inr ⟨w,by simp,h2⟩
   .exact .inr ⟨w',by simp[h1],h2⟩
theorem zl3:∀{ls:To} {k:Nat} {named named':List Bool},zcJ k ls named=.ok named'->∀{i:Nat},named'[i]?=some true->named[i]?=some true\/∃(j:Nat) (r:List W),ls[j]?=some r/\∃w∈r,(i:Int)∈zh w
 | [],k,named,named',h,i,hi=>by rw[zcJ]at h;cases h;exact .inl hi
 | r::ls,k,named,named',h,i,hi=>by
  rw[zcJ]at h
  split at h
  .cases h
  .rename_i nm hnm
   rcases zl3 h hi with h1|⟨j,r',h1,h2⟩
   .rcases zoL hnm h1 with h2|h2
    .exact .inl h2
    .exact .inr ⟨0,r,rfl,h2⟩
   .exact .inr ⟨j+1,r',by simpa using h1,h2⟩
theorem zyJ{a n:Int}{named named':List Bool}(h:ze2 a named n=.ok named'):named'.length=named.length:=by
 unfold ze2 at h
 split at h
 .cases h;simp
 .cases h
theorem zoM{a:Int}:∀{ns:List Int} {named named':List Bool},zbt a ns named=.ok named'->named'.length=named.length
 | [],named,named',h=>by rw[zbt]at h;cases h;rfl
 | n::ns,named,named',h=>by
  rw[zbt]at h
  split at h
  .cases h
  .rename_i nm hnm
   rw[zoM h,zyJ hnm]
theorem zve{a:Int}:∀{r:List W} {named named':List Bool},zjt a r named=.ok named'->named'.length=named.length
 | [],named,named',h=>by rw[zjt]at h;cases h;rfl
 | w::r,named,named',h=>by
  rw[zjt]at h
  split at h
  .cases h
  .rename_i nm hnm
   rw[zve h,zoM hnm]
theorem zrN:∀{ls:To} {k:Nat} {named named':List Bool},zcJ k ls named=.ok named'->named'.length=named.length
 | [],k,named,named',h=>by rw[zcJ]at h;cases h;rfl
 | r::ls,k,named,named',h=>by
  rw[zcJ]at h
  split at h
  .cases h
  .rename_i nm hnm
   rw[zrN h,zve hnm]
theorem zoN{ls:To}(h:zdp ls=.ok ()){i:Nat}(hi:i+1<ls.length):∃(j:Nat) (r:List W),ls[j]?=some r/\∃w∈r,(i:Int)∈zh w:=by
 unfold zdp at h
 split at h
 .cases h
 split at h
 .cases h
 rename_i nm hnm
 split at h
 .rename_i hall
  rw[yaM]at hall
  have hlen:nm.length=ls.length:=by
   have:=(zrN hnm)
   simpa using this
  have h1:nm[i]?=some true:=by
   have h2:=hall (nm[i]'(by omega)) (yda.2 ⟨i,by simp;omega,by simp⟩)
   rw[yau (by omega)]
   simpa using h2
  rcases zl3 hnm h1 with h2|h2
  .rw[List.getElem?_replicate]at h2
   split at h2<;>simp at h2
  .exact h2
 .cases h
theorem instrsE_each{fs:List F}{ls:List Int}{ty deep:Int}{look:zm9}:∀{ws:List W} {s s':St},zU fs ls ty deep look ws s=.ok s'->∀w∈ws,∃s0 s1,zag fs ls ty deep look w s0=.ok s1
 | [],_,_,_,w,hw=>by simp at hw
 | v::ws,s,s',h,w,hw=>by
  rw[zU]at h
  split at h
  .cases h
  .rename_i s1 h1
   rcases ybC.1 hw with rfl|hw
   .exact⟨s,s1,h1⟩
   .exact instrsE_each h w hw
theorem zqA{fs:List F}{ls:List Int}{ty deep:Int}{look:zm9}{w:W}{s s':St}(h:zag fs ls ty deep look w s=.ok s'):zT w=true/\∀n∈zh w,look n (deep+1)=.ok ():=by
 unfold zag at h
 split at h
 .cases h
 rename_i hf
 refine⟨by simpa using hf,λn hn=>?_⟩
 split at h
 .cases h
 by_cases h1:w.op=11\/w.op=12
 .rw[if_pos h1]at h
  unfold zh at hn
  rw[if_pos (by omega)]at hn
  simp at hn
  subst hn
  cases hl:look w.body (deep+1)with
  | ok u=>rfl
  | error e=>rw[hl]at h;cases h
 rw[if_neg h1]at h
 by_cases h2:w.op=13
 .rw[if_pos h2]at h
  split at h
  .cases h
  cases hl:look w.body (deep+1)with
  | error e=>rw[hl]at h;cases h
  | ok u =>
   rw[hl]at h
   simp only at h
   unfold zh at hn
   by_cases ho:w.other<0
   .rw[if_pos (by omega)]at hn
    simp at hn
    subst hn
    exact hl
   .rw[if_neg (by omega),if_pos h2]at hn
    rw[if_pos (by omega)]at h
    simp at hn
    rcases hn with rfl|rfl
    .exact hl
    .cases hl2:look w.other (deep+1)with
     | ok u=>rfl
     | error e=>rw[hl2]at h;cases h
 .unfold zh at hn
  rw[if_neg (by omega),if_neg h2]at hn
  simp at hn
theorem zl4{fs:List F}{ls:List Int}{ty:Int}{lists:To}{k:Nat}{at_ deep:Int}(h:zam fs ls ty lists (k+1) at_ deep=.ok ()):∀w∈lists.getD at_.toNat [],zT w=true/\∀n∈zh w,zam fs ls ty lists k n (deep+1)=.ok ():=by
 rw[zam]at h
 split at h
 .cases h
 .rename_i s' hs
  intro w hw
  obtain⟨s0,s1,h1⟩:=instrsE_each hs w hw
  exact zqA h1
theorem seen{fs:List F}{ls:List Int}{ty:Int}{lists:To}(hl:zdp lists=.ok ())(h:zam fs ls ty lists lists.length ((lists.length:Int)-1) 0=.ok ()):∀(d i:Nat),i+d+1=lists.length->∃(k:Nat) (deep:Int),zam fs ls ty lists k (i:Int) deep=.ok ():=by
 intro d
 induction d using ybI with
 | _ d ih =>
  intro i hi
  by_cases h0:d=0
  .subst h0
   refine⟨lists.length,0,?_⟩
   have:(i:Int)=(lists.length:Int)-1:=by omega
   rw[this];exact h
  .obtain⟨j,r,h1,w,h2,h3⟩:=zoN hl (i:=i) (by omega)
   obtain⟨_,ha,_⟩:=zbU hl
   have hj:=(ha j r h1 _ (yc8.2 ⟨w,h2,h3⟩)).2
   have hjl:j<lists.length:=(yaq.1 h1).1
   obtain⟨k,deep,hk⟩:=ih (lists.length-1-j) (by omega) j (by omega)
   cases k with
   | zero=>rw[zam]at hk;cases hk
   | succ k =>
    have hg:lists.getD (j:Int).toNat []=r:=by rw[ybe,ycQ,h1];rfl
    have:=zl4 hk w (by rw[hg];exact h2)
    exact⟨k,deep+1,this.2 _ h3⟩
theorem forms_of{fs:List F}{f:F}(h:zk fs f=.ok ()):∀l∈f.lists,∀w∈l,zT w=true:=by
 have hl:=zV h
 unfold zk at h
 split at h
 .cases h
 rw[hl]at h
 simp only at h
 intro l hlm w hw
 obtain⟨i,hi,e⟩:=List.getElem_of_mem hlm
 obtain⟨k,deep,hk⟩:=seen hl h (f.lists.length-1-i) i (by omega)
 cases k with
 | zero=>rw[zam]at hk;cases hk
 | succ k =>
  have hg:f.lists.getD (i:Int).toNat []=l:=by rw[ybe,ycQ,yau hi,e];rfl
  exact(zl4 hk w (by rw[hg];exact hw)).1
end Go.Proofs.YtohfclafhegadaaGreatDoor.Ck
namespace Go.Proofs.YtohfclafhegadaaGreatDoor
open Go Go.Abs
section
variable {G : Env} {J : AS} {R : Out -> AS -> Prop}
theorem zek{el:Option TypeId}{T:Nat->Nat}{i:Nat}{Z:AS}{v row:AV}{l:List (List UInt8)}{bs:List UInt8}{K:AV->AS->Prop}(hi:1<=i)(hG:zaB T i J Z v l)(hN:zpy T Z row bs)(hT:zcu T Z)(A:zd J Z)(hl:l.length<2^40)
  (h:∀v' Z' T',zaB T' i J Z' v' (l++[bs])->zcu T' Z'->zd J Z'->(∀j v2 l2,j≠i->zaB T j J Z v2 l2->zaB T' j J Z' v2 l2)->Z'.objs=Z.objs->Z'.no=Z.no->K v' Z'):zbT el 24 1 v [row] Z K:=by
 have hgn:=A.nf
 have fr:zcu (upd T Z.nf i) Z.newF:=λf hf=>by
  have hf':Z.nf+1<=f:=hf
  have:¬f=Z.nf:=by omega
  simp[zaO,this]
  exact hT f (by omega)
 rcases hG with ⟨rfl,rfl⟩|⟨φ,vs,rfl,hφ,hv⟩
 .simp
  refine h _ _ (upd T Z.nf i) (.inr ⟨_,[row],rfl,.inr ⟨Z.nf,rfl,hgn,by simp,by simp,by simp[zaO]⟩,.cons hN.new .nil⟩) fr A.newF (λj v2 l2 hj h2=>h2.new) (by simp) (by simp)
 .have hvl:=hv.length
  rcases hφ with rfl|⟨g,rfl,g1,g2,g3,g4⟩
  .simp[zbT]
   refine⟨by omega,?_⟩
   exact h _ _ (upd T Z.nf i) (.inr ⟨_,_,rfl,.inr ⟨Z.nf,rfl,hgn,by simp,by simp,by simp[zaO]⟩,(Al.all2_mono hv λ_ _ q=>q.new).append (.cons hN.new .nil)⟩) fr A.newF (λj v2 l2 hj h2=>h2.new) (by simp) (by simp)
  .simp[g3]
   refine⟨by omega,?_⟩
   refine h _ _ (upd T Z.nf i) (.inr ⟨_,_,rfl,.inr ⟨Z.nf,rfl,hgn,by simp,by simp,by simp[zaO]⟩,(Al.all2_mono hv λ_ _ q=>q.step g4 hi).append (.cons (hN.step g4 hi) .nil)⟩) (λf hf=>fr f hf) ((A.setF g1).newF (J':=Z.setF g .dead)) (λj v2 l2 hj h2=>h2.step g4 hi hj) (by simp) (by simp)
theorem zcu.keep{T Z Z'}(h:zcu T Z)(A:zd Z Z'):zcu T Z':=λf hf=>h f (by have:=A.nf;omega)
theorem B_inj:∀{x y:List UInt8},B x=B y->x=y
 | [],[],_=>rfl
 | [],_::_,h=>by cases h
 | _::_,[],h=>by cases h
 | a::x,b::y,h=>by
  have h1:yc0 .u8 (a.toNat:Int)::B x=yc0 .u8 (b.toNat:Int)::B y:=h
  injection h1 with h1 h2
  injection h1 with _ h3
  have h4:a=b:=UInt8.toNat_inj.1 (by omega)
  rw[B_inj h2,h4]
theorem zrO{K:AV->Prop}{xs:List AV}(x:List UInt8)(e:xs=B x):(∃bs,xs=B bs/\K (.lit bs))↔K (.lit x):=by
 subst e
 refine⟨λ⟨bs,h,k⟩=>?_,λk=>⟨x,rfl,k⟩⟩
 rw[B_inj h];exact k
@[simp] theorem zKL:za3 32 [(0,Operand.const (.int .u8 101)),(1,Operand.const (.int .u8 110)),(2,Operand.const (.int .u8 118))]=true:=by decide
@[simp] theorem zMi{a:Nat->AV}{K:AV->Prop}:zbq yb9 32 3 (ev G a) [(0,Operand.const (.int .u8 101)),(1,Operand.const (.int .u8 110)),(2,Operand.const (.int .u8 118))] K=K (.lit [101,110,118]):=by
 unfold zbq
 simp
 exact zrO [101,110,118] rfl
@[simp] theorem zJs:za3 32 [(0,Operand.const (.int .u8 109)),(1,Operand.const (.int .u8 97)),(2,Operand.const (.int .u8 105)),(3,Operand.const (.int .u8 110))]=true:=by decide
@[simp] theorem zKM{a:Nat->AV}{K:AV->Prop}:zbq yb9 32 4 (ev G a) [(0,Operand.const (.int .u8 109)),(1,Operand.const (.int .u8 97)),(2,Operand.const (.int .u8 105)),(3,Operand.const (.int .u8 110))] K=K (.lit [109,97,105,110]):=by
 unfold zbq
 simp
 exact zrO [109,97,105,110] rfl
@[simp] theorem zJt:za3 32 [(0,Operand.const (.int .u8 110)),(1,Operand.const (.int .u8 97)),(2,Operand.const (.int .u8 109)),(3,Operand.const (.int .u8 101))]=true:=by decide
@[simp] theorem zKN{a:Nat->AV}{K:AV->Prop}:zbq yb9 32 4 (ev G a) [(0,Operand.const (.int .u8 110)),(1,Operand.const (.int .u8 97)),(2,Operand.const (.int .u8 109)),(3,Operand.const (.int .u8 101))] K=K (.lit [110,97,109,101]):=by
 unfold zbq
 simp
 exact zrO [110,97,109,101] rfl
@[simp] theorem zHA:za3 32 [(0,Operand.const (.int .u8 0)),(1,Operand.const (.int .u8 97)),(2,Operand.const (.int .u8 115)),(3,Operand.const (.int .u8 109)),(4,Operand.const (.int .u8 1)),(5,Operand.const (.int .u8 0)),(6,Operand.const (.int .u8 0)),(7,Operand.const (.int .u8 0))]=true:=by decide
@[simp] theorem zJu{a:Nat->AV}{K:AV->Prop}:zbq yb9 32 8 (ev G a) [(0,Operand.const (.int .u8 0)),(1,Operand.const (.int .u8 97)),(2,Operand.const (.int .u8 115)),(3,Operand.const (.int .u8 109)),(4,Operand.const (.int .u8 1)),(5,Operand.const (.int .u8 0)),(6,Operand.const (.int .u8 0)),(7,Operand.const (.int .u8 0))] K=K (.lit zeX):=by
 unfold zbq
 simp
 exact zrO zeX rfl
@[simp] theorem zMz:za3 32 [(0,Operand.const (.int .u8 1))]=false:=by decide
@[simp] theorem zMA:za3 32 [(0,Operand.const (.int .u8 0))]=false:=by decide
@[simp] theorem zKO:za3 32 [(0,Operand.const (.int .u8 1)),(1,Operand.const (.int .u8 0)),(2,Operand.const (.int .u8 1))]=false:=by decide
@[simp] theorem zKP:za3 32 [(0,Operand.const (.int .u8 1)),(1,Operand.const (.int .u8 127)),(2,Operand.const (.int .u8 0)),(3,Operand.const (.int .u8 65))]=false:=by decide
@[simp] theorem zMj{t:Nat}:za3 32 [(0,Operand.const (.int .u8 0)),(1,Operand.tmp t)]=false:=by simp[za3]
theorem zd9.lit(J:AS)(bs:List UInt8){xs:List AV}(e:xs=B bs):zd9 J (.sl (.stat true) 1 xs) bs:=.inr ⟨.stat true,by rw[e],trivial⟩
def zhy:List (List UInt8):=[[105,110],[111,117,116],[116,114,97,112]]
def En1(J:AS)(o:Nat)(oc:List AV)(a:Nat->AV)(Z:AS):Prop:=∃(i:Nat) (T:Nat->Nat),i<=3/\a 1=.ptr o 0/\zaB T 1 J Z (a 3) (zG [])/\zaB T 2 J Z (a 4) (zF.take i)/\a 5=.nilsl/\a 6=.nilsl/\a 7=.nilsl/\a 18=.sl (.stat true) 1 (zhy.map ycZ)/\a 19=.int .i64 3/\a 20=.int .i64 (i:Int)/\zcu T Z/\zd J Z/\J.no<=o/\o<Z.no/\Z.objs o=some oc
theorem zqB{o:Nat}{oc:List AV}{a:Nat->AV}{Z:AS}(hI:En1 J o oc a Z)(fin:∀a Z,(∃T,a 1=.ptr o 0/\zaB T 1 J Z (a 3) (zG [])/\zaB T 2 J Z (a 4) zF/\a 5=.nilsl/\a 6=.nilsl/\a 7=.nilsl/\zcu T Z/\zd J Z/\o<Z.no/\Z.objs o=some oc)->avc yb9 G 140 zmS (zbE yb9 [.tmp 2] R) a Z):
  avc yb9 G 140 zh2 (zab (λa' J'=>En1 J o oc a' J'/\MU 20 4 a' J'<MU 20 4 a Z) (zai 0 (zab (avc yb9 G 140 zmS (zbE yb9 [.tmp 2] R)) (zbE yb9 [.tmp 2] R)))) a Z:=by
 obtain⟨i,T,hi,a1,h3,h4,a5,a6,a7,a18,a19,a20,hT,hA,ho1,ho2,ho⟩:=hI
 by_cases hlt:i<3
 .have hlt':(i:Int)<3:=by omega
  obtain⟨s,hs,hse⟩:∃s,zhy[i]?=some s/\zF[i]?=some (zi [101,110,118]++zi s++[0,zY i]):=by
   rcases i with _|_|_|i
   .exact⟨_,rfl,by decide⟩
   .exact⟨_,rfl,by decide⟩
   .exact⟨_,rfl,by decide⟩
   .omega
  have hs2:(zhy.map ycZ)[i]?=some (.str s):=by simp[hs]
  have w1:yb4 .i64 ((i:Int)+1)=((i+1:Nat):Int):=by rw[zb]<;>omega
  have htk:=zbu hse
  have g4:=h4.bys.one
  simp[zh2,a18,a19,a20,hlt',hs2,g4]
  refine za8 (bs:=[101,110,118]) (.lit _ _ rfl) (by simp) λv1 J1 h1=>?_
  simp
  refine .inl ?_
  simp
  have hsl:s.length<=4:=by
   have:∀x∈zhy,x.length<=4:=by decide
   exact this _ (yc5 hs)
  refine za8 (J:=J1.newF) (bs:=s) (.inr ⟨.fam J1.nf false,rfl,by simp,by simp⟩) (by omega) λv2 J2 h2=>?_
  have A2:=(zd.refl J1).newF.trans h2.2
  have wi:yb4 .u8 (i:Int)=((zY i).toNat:Int):=wrap_u8 _
  have n1:=(h1.byt.keep A2).one
  have n2:=h2.byt.one
  simp[n1,n2,wi]
  refine zbH (l:=[zi [101,110,118],zi s,[0,zY i]]) (zko.lit (.cons (h1.byt.keep A2) (.cons h2.byt (.cons (.lit _ _ rfl) .nil)))) ?_ (by simp) λv3 J3 h3'=>?_
  .have:=zaj s.length
   have:=zaj 3
   simp[zea,zi];omega
  have A3:=(h1.2.trans A2).trans h3'.2
  have n3:=h3'.byt.one
  simp[n3]
  have AA:zd Z J3:=A3
  have eb:([zi [101,110,118],zi s,[0,zY i]]:List (List UInt8)).flatten=zi [101,110,118]++zi s++[0,zY i]:=by simp
  rw[eb]at h3'
  refine zek (i:=2) (by omega) (h4.keep AA) ((zdx.behind ((h1.2.trans A2)) h3').row hT) (hT.keep AA) (hA.trans AA) (by simp;omega) λv4 Z4 T4 g4 f4 a4' oth u4 r4=>?_
  simp[w1,a20]
  refine⟨⟨i+1,T4,by omega,by simp[a1],by simpa using oth 1 _ _ (by omega) (h3.keep AA),by rw[htk];simpa using g4,by simp[a5],by simp[a6],by simp[a7],by simp[a18],by simp[a19],by simp,f4,a4',ho1,?_,?_⟩,?_⟩
  .have:=AA.no;omega
  .rw[u4];exact(AA.obj o ho2).trans ho
  .simp only[MU,a20];simp;omega
 .have:i=3:=by omega
  subst this
  simp[zh2,a19,a20]
  exact fin _ _ ⟨T,by simpa using a1,by simpa using h3,by simpa [zF]using h4,by simpa using a5,by simpa using a6,by simpa using a7,hT,hA,ho2,ho⟩
theorem zl5:∀(xs:List F) (i:Int) (f:F),zak i (xs++[f])=zak i xs++[uI (i+xs.length)]
 | [],i,f=>by simp[zak]
 | x::xs,i,f=>by
  simp only[yc1,zak,zl5 xs (i+1) f,yac]
  congr 4
  omega
theorem zkG:∀(xs:List F) (i:Int) (f:F),zn i (xs++[f])=zn i xs++[uI (i+xs.length)++zi f.name]
 | [],i,f=>by simp[zn]
 | x::xs,i,f=>by
  simp only[yc1,zn,zkG xs (i+1) f,yac]
  congr 5
  omega
theorem zoO:∀{fs:List F} {cs:List (List UInt8)},zaQ fs=some cs->∀{i:Nat} {f:F},fs[i]?=some f->∃c,zfE f=some c/\cs[i]?=some c
 | [],_,_,i,f,h=>by simp at h
 | g::fs,cs,h,i,f,hf=>by
  rw[zaQ]at h
  simp only[ybA,ybB]at h
  obtain⟨c,h1,cs',h2,rfl⟩:=h
  cases i with
  | zero =>
   simp at hf
   subst hf
   exact⟨c,h1,rfl⟩
  | succ i=>exact zoO h2 (by simpa using hf)
structure SzB(f:F):Prop where
 params:f.params.length<=2^38
 locals:f.locals.length<=2^34
 name:f.name.length<2^38
 rows:∀ws∈f.lists,ws.length<=2^40
 many:f.lists.length<=2^40
 rg:RgL f.lists
def En2(J:AS)(fs:List F)(codes:List (List UInt8))(fsv:AV)(o:Nat)(oc:List AV)(a:Nat->AV)(Z:AS):Prop:=∃(i:Nat) (T:Nat->Nat),i<=fs.length/\a 1=.ptr o 0/\zaB T 1 J Z (a 3) (zG (fs.take i))/\zaB T 2 J Z (a 4) zF/\zaB T 3 J Z (a 5) (zak 3 (fs.take i))/\zaB T 4 J Z (a 6) (codes.take i)/\zaB T 5 J Z (a 7) (zn 3 (fs.take i)) /\
 a 41=fsv/\a 42=.int .i64 (fs.length:Int)/\a 43=.int .i64 (i:Int)/\zcu T Z/\zd J Z/\J.no<=o/\o<Z.no/\Z.objs o=some oc
theorem zvf(V:zdI G){fs:List F}{codes:List (List UInt8)}{fsv:AV}{o:Nat}{oc:List AV}(hfs:Al.FsO J fsv fs)(hlen:fs.length<=2^30)(hsz:∀f∈fs,SzB f)(hc:zaQ fs=some codes)(hcl:∀c∈codes,c.length<=2^36){a:Nat->AV}{Z:AS}(hI:En2 J fs codes fsv o oc a Z)
  (fin:∀a Z,(∃T,a 1=.ptr o 0/\zaB T 1 J Z (a 3) (zG fs)/\zaB T 2 J Z (a 4) zF/\zaB T 3 J Z (a 5) (zak 3 fs)/\zaB T 4 J Z (a 6) codes/\zaB T 5 J Z (a 7) (zn 3 fs)/\zcu T Z/\zd J Z/\o<Z.no/\Z.objs o=some oc)->avc yb9 G 140 zh4 (zbE yb9 [.tmp 2] R) a Z) :
  avc yb9 G 140 zh3 (zab (λa' J'=>En2 J fs codes fsv o oc a' J'/\MU 43 (fs.length+1) a' J'<MU 43 (fs.length+1) a Z) (zai 2 (zab (avc yb9 G 140 zh4 (zbE yb9 [.tmp 2] R)) (zbE yb9 [.tmp 2] R)))) a Z:=by
 obtain⟨i,T,hi,a1,g1,g2,g3,g4,g5,a41,a42,a43,hT,hA,ho1,ho2,ho⟩:=hI
 have hcl':=zdy hc
 by_cases hlt:i<fs.length
 .have hlt':(i:Int)<(fs.length:Int):=by omega
  obtain⟨φ,rv,hrd0,hfv,hix⟩:=hfs.at hlt
  have hrd:=(hrd0.keep hA).read
  have hg:=yau hlt
  have htk:=zbu hg
  have hszf:=hsz _ (yaw hlt)
  obtain⟨c,hcf,hcc⟩:=zoO hc hg
  have hck:=zbu hcc
  have hclen:=hcl c (yc5 hcc)
  generalize fs[i]=f at *
  obtain⟨pv,lv,tv,rfl,hp,hl,ht⟩:=hfv
  have p1:=hp.one
  have l1:=hl.one
  have t1:=ht.one
  have tl:=ht.len
  have n3:=g1.bys.one
  have w1:yb4 .i64 ((i:Int)+1)=((i+1:Nat):Int):=by rw[zb]<;>omega
  have w3:yb4 .i64 ((i:Int)+3)=(i:Int)+3:=by rw[zb]<;>omega
  have hA0:∀c1 c2,zd Z ((Z.newO c1).setO Z.no c2):=λc1 c2=>.mk1
  have hsi:(fs.take i).length=i:=by simp;omega
  simp[zh3,a41,a42,a43,hlt',hix,hrd,p1,l1,t1,splice,n3]
  have ec:∀(Z':AS) (x:Nat),(Z'.objs x=Z'.objs x):=λ_ _=>rfl
  refine zf9 (hp.keep (hA.trans (hA0 _ _))) hszf.params λv1 J1 h1=>?_
  have A1:=(hA0 _ _).trans h1.2
  have q1:=h1.byt.one
  have c1:=h1.2.obj Z.no (by simp)
  have c2:=A1.obj o ho2
  rw[ho]at c2
  simp at c1
  have m1:=A1.no
  have m1':=h1.2.no
  simp at m1'
  simp[q1]
  have hrow1:zpy T J1 v1 (zch f.params f.type):=h1.row (hT.keep (hA0 _ _))
  refine zek (i:=1) (by omega) (g1.keep A1) hrow1 (hT.keep A1) (hA.trans A1) (by rw[zcS];simp;omega) λv2 Z2 T2 e1 f2 A2 oth2 u2 r2=>?_
  have x2:=oth2 2 _ _ (by omega) (g2.keep A1)
  have x3:=oth2 3 _ _ (by omega) (g3.keep A1)
  have x4:=oth2 4 _ _ (by omega) (g4.keep A1)
  have x5:=oth2 5 _ _ (by omega) (g5.keep A1)
  have d1:Z2.objs Z.no=_:=(congrFun u2 _).trans c1
  have d2:Z2.objs o=_:=(congrFun u2 _).trans c2
  have q5:=x3.bys.one
  simp[w3,q5]
  refine zdC (n:=(i:Int)+3) (by omega) λv3 J3 h3=>?_
  have q3:=h3.byt.one
  have d1':=(h3.2.obj Z.no (by omega)).trans d1
  have d2':=(h3.2.obj o (by omega)).trans d2
  have m3:=h3.2.no
  simp[q3]
  refine zek (i:=3) (by omega) (x3.keep h3.2) (h3.row f2) (f2.keep h3.2) (A2.trans h3.2) (by rw[zeg];simp;omega) λv4 Z4 T4 e3 f4 A4 oth4 u4 r4=>?_
  have y1:=oth4 1 _ _ (by omega) (e1.keep h3.2)
  have y2:=oth4 2 _ _ (by omega) (x2.keep h3.2)
  have y4:=oth4 4 _ _ (by omega) (x4.keep h3.2)
  have y5:=oth4 5 _ _ (by omega) (x5.keep h3.2)
  have d3:Z4.objs Z.no=_:=(congrFun u4 _).trans d1'
  have d4:Z4.objs o=_:=(congrFun u4 _).trans d2'
  have q6:=y4.bys.one
  have wl:yb4 .i64 ((f.lists.length:Int)-1)=(f.lists.length:Int)-1:=by have:=hszf.many;rw[zb]<;>omega
  unfold zfE at hcf
  rw[ybB]at hcf
  obtain⟨x,hx,rfl⟩:=hcf
  have hxl:x.length<=2^36/\(zb4 f.locals).length<=2^36:=by
   simp only[zi,yab]at hclen
   omega
  simp[d3,q6,p1,l1,t1,tl,wl]
  refine zoB (hl.keep A4) hszf.locals λv5 J5 h5=>?_
  have q7:=h5.byt.one
  have d5:=(h5.2.obj Z.no (by omega)).trans d3
  have d6:=(h5.2.obj o (by omega)).trans d4
  have m5:=h5.2.no
  simp[d5,p1,l1,t1]
  refine zvd V hszf.rows hszf.rg f.lists.length J5 _ f pv lv tv _ x rfl (hp.keep (A4.trans h5.2)) (hl.keep (A4.trans h5.2)) (ht.keep (A4.trans h5.2)) hx (by omega) λv6 J6 h6=>?_
  have q8:=h6.byt.one
  have q9:=(h5.byt.keep h6.2).one
  have d7:=(h6.2.obj Z.no (by omega)).trans d5
  have d8:=(h6.2.obj o (by omega)).trans d6
  have m6:=h6.2.no
  simp[q8,q9]
  refine zbH (l:=[zb4 f.locals,x,[11]]) (zko.lit (.cons (h5.byt.keep h6.2) (.cons h6.byt (.cons (.lit _ _ rfl) .nil)))) (by simp[zea];omega) (by simp) λv7 J7 h7=>?_
  have d9:=(h7.2.obj Z.no (by omega)).trans d7
  have d10:=(h7.2.obj o (by omega)).trans d8
  have m7:=h7.2.no
  have ecat:([zb4 f.locals,x,[11]]:List (List UInt8)).flatten=zb4 f.locals++x++[11]:=by simp
  rw[ecat]at h7
  simp
  refine za8 h7.byt (by simp;omega) λv8 J8 h8=>?_
  have q10:=h8.byt.one
  have d11:=(h8.2.obj Z.no (by omega)).trans d9
  have d12:=(h8.2.obj o (by omega)).trans d10
  have m8:=h8.2.no
  have B8:zd Z4 J8:=((h5.2.trans h6.2).trans h7.2).trans h8.2
  simp[q10]
  refine zek (i:=4) (by omega) (y4.keep B8) ((zdx.behind ((h5.2.trans h6.2).trans h7.2) h8).row f4) (f4.keep B8) (A4.trans B8) (by have:=hcl';simp;omega) λv9 Z9 T9 e9 f9 A9 oth9 u9 r9=>?_
  have z1:=oth9 1 _ _ (by omega) (y1.keep B8)
  have z2:=oth9 2 _ _ (by omega) (y2.keep B8)
  have z3:=oth9 3 _ _ (by omega) (e3.keep B8)
  have z5:=oth9 5 _ _ (by omega) (y5.keep B8)
  have d13:Z9.objs Z.no=_:=(congrFun u9 _).trans d11
  have d14:Z9.objs o=_:=(congrFun u9 _).trans d12
  have q11:=z5.bys.one
  have last:∀(a':Nat->AV) (Z':AS) (T':Nat->Nat),a' 1=.ptr o 0->zaB T' 1 J Z' (a' 3) (zG (fs.take i)++[zch f.params f.type])->zaB T' 2 J Z' (a' 4) zF->zaB T' 3 J Z' (a' 5) (zak 3 (fs.take i)++[uI ((i:Int)+3)])->zaB T' 4 J Z' (a' 6) (codes.take i++[zi (zb4 f.locals++x++[11])])->zaB T' 5 J Z' (a' 7) (zn 3 (fs.take i)++[uI ((i:Int)+3)++zi f.name]) ->
    a' 41=fsv->a' 42=.int .i64 (fs.length:Int)->a' 43=.int .i64 ((i:Int)+1)->zcu T' Z'->zd J Z'->o<Z'.no->Z'.objs o=some oc->En2 J fs codes fsv o oc a' Z'/\MU 43 (fs.length+1) a' Z'<MU 43 (fs.length+1) a Z:=by
   intro a' Z' T' k1 k3 k4 k5 k6 k7 k41 k42 k43 kf kA ko koo
   have es:((fs.take i).length:Int)=i:=by rw[hsi]
   refine⟨⟨i+1,T',by omega,k1,?_,k4,?_,by rw[hck];exact k6,?_,k41,k42,by rw[k43];rfl,kf,kA,ho1,ko,koo⟩,?_⟩
   .rw[htk]
    have:zG (fs.take i++[f])=zG (fs.take i)++[zch f.params f.type]:=by simp[zG]
    rw[this];exact k3
   .rw[htk,zl5,es,Int.add_comm];exact k5
   .rw[htk,zkG,es,Int.add_comm];exact k7
   .simp only[MU,k43,a43];omega
  have hnl:=hszf.name
  simp[d13,q11,w3]
  refine⟨?_,.inl ?_⟩
  .refine zdC (n:=(i:Int)+3) (by omega) λv10 J10 h10=>?_
   have c1:=(h10.2.obj Z.no (by omega)).trans d13
   have c2:=(h10.2.obj o (by omega)).trans d14
   have m10:=h10.2.no
   simp[c1]
   refine .inl ?_
   simp
   refine za8 (J:=J10.newF) (bs:=f.name) (.inr ⟨.fam J10.nf false,rfl,by simp,by simp⟩) (by omega) λv11 J11 h11=>?_
   have A11:=(zd.refl J10).newF.trans h11.2
   have c3:=(A11.obj o (by omega)).trans c2
   have m11:=A11.no
   simp
   have hul:=zaj ((i:Int)+3)
   refine zcw (h10.keep A11) h11.byt (by have:=zaj f.name.length;simp[zi];omega) λv12 J12 h12 u12 r12=>?_
   have q12:=h12.byt.one
   have c4:=(congrFun u12 o).trans c3
   simp[q12]
   refine zek (i:=5) (by omega) (z5.keep h12.2) (h12.row f9) (f9.keep h12.2) (A9.trans h12.2) (by rw[zcR];simp;omega) λv13 Z13 T13 e13 f13 A13 oth13 u13 r13=>?_
   simp[a43,w1]
   exact last _ _ T13 (by simp[a1]) (by simpa using oth13 1 _ _ (by omega) (z1.keep h12.2)) (by simpa using oth13 2 _ _ (by omega) (z2.keep h12.2)) (by simpa using oth13 3 _ _ (by omega) (z3.keep h12.2)) (by simpa using oth13 4 _ _ (by omega) (e9.keep h12.2)) (by simpa using e13) (by simp[a41]) (by simp[a42]) (by simp) f13 A13 (by omega) ((congrFun u13 o).trans c4)
  .simp
   have A0:zd Z9 Z9.newF:=(zd.refl Z9).newF
   refine zdC (J:=Z9.newF) (n:=(i:Int)+3) (by omega) λv10 J10 h10=>?_
   have A10:=A0.trans h10.2
   have c2:=(A10.obj o (by omega)).trans d14
   have m10:=A10.no
   simp
   have hnb:zd9 J10 (.sl (.fam Z9.nf false) 1 (B f.name)) f.name:=.inr ⟨.fam Z9.nf false,rfl,(show Al.Rd Z9.newF (.fam Z9.nf false) from⟨by simp,by simp⟩).keep h10.2⟩
   refine za8 (bs:=f.name) hnb (by omega) λv11 J11 h11=>?_
   have c3:=(h11.2.obj o (by omega)).trans c2
   have m11:=h11.2.no
   simp
   have hul:=zaj ((i:Int)+3)
   refine zcw ((zdx.behind A0 h10).keep h11.2) h11.byt (by have:=zaj f.name.length;simp[zi];omega) λv12 J12 h12 u12 r12=>?_
   have q12:=h12.byt.one
   have c4:=(congrFun u12 o).trans c3
   simp[q12]
   refine zek (i:=5) (by omega) (z5.keep h12.2) (h12.row f9) (f9.keep h12.2) (A9.trans h12.2) (by rw[zcR];simp;omega) λv13 Z13 T13 e13 f13 A13 oth13 u13 r13=>?_
   simp[a43,w1]
   exact last _ _ T13 (by simp[a1]) (by simpa using oth13 1 _ _ (by omega) (z1.keep h12.2)) (by simpa using oth13 2 _ _ (by omega) (z2.keep h12.2)) (by simpa using oth13 3 _ _ (by omega) (z3.keep h12.2)) (by simpa using oth13 4 _ _ (by omega) (e9.keep h12.2)) (by simpa using e13) (by simp[a41]) (by simp[a42]) (by simp) f13 A13 (by omega) ((congrFun u13 o).trans c4)
 .have:i=fs.length:=by omega
  subst this
  rw[ycY]at g1 g3 g5
  rw[<-hcl',ycY]at g4
  simp[zh3,a42,a43]
  exact fin _ _ ⟨T,by simpa using a1,by simpa using g1,by simpa using g2,by simpa using g3,by simpa using g4,by simpa using g5,hT,hA,ho2,ho⟩
theorem zcx(n:UInt8)(bs:List UInt8):(zc n bs).length<=bs.length+11:=by
 have:=zaj bs.length
 simp[zc,zi]
 omega
theorem zda(bs:List UInt8):(zi bs).length<=bs.length+10:=by
 have:=zaj bs.length
 simp[zi]
 omega
theorem zoP{n:UInt8}{v:AV}{bs:List UInt8}(hv:zd9 J v bs)(hs:bs.length<2^38)(h:∀v' J',zdx J J' v' (zc n bs)->R (.ret v') J'):zzQ G 49 [.int .u8 (n.toNat:Int),.sl (.stat true) 1 [v]] J R:=by
 refine zdv (l:=[bs]) (zko.lit (.cons hv .nil)) (by simp[zea];omega) (by simp) λv' J' h'=>?_
 simp at h'
 exact h _ _ h'
set_option maxHeartbeats 1000000 in
theorem zDO{m:M}{codes:List (List UInt8)}{bs:List UInt8}{o:Nat}{fsv:AV}(he:zkr m=some bs)(hc:zaQ m.funcs=some codes)(hl:bs.length<=2^36)(hmem:-(2^63)<=m.memory/\m.memory<2^63)(h:∀v J',zdx J J' v bs->R (.ret v) J'){a:Nat->AV}{Z:AS}{T:Nat->Nat}(hn:m.funcs.length<=2^30)
  (a1:a 1=.ptr o 0) (g1:zaB T 1 J Z (a 3) (zG m.funcs)) (g2:zaB T 2 J Z (a 4) zF) (g3:zaB T 3 J Z (a 5) (zak 3 m.funcs)) (g4:zaB T 4 J Z (a 6) codes) (g5:zaB T 5 J Z (a 7) (zn 3 m.funcs)) (hA:zd J Z) (ho:o<Z.no) (hoo:Z.objs o=some [fsv,.int .i64 m.memory,.int .i64 m.main]) :
  avc yb9 G 140 zh4 (zbE yb9 [.tmp 2] R) a Z:=by
 obtain⟨codes',hc',hbs⟩:=zdz he
 rw[hc]at hc'
 cases hc'
 have b1:=g1.bys
 have b2:=g2.bys
 have b3:=g3.bys
 have b4:=g4.bys
 have b5:=g5.bys
 have e:bs=zeX++(zc 1 (zP (zG m.funcs))++(zc 2 (zP zF)++(zc 3 (zP (zak 3 m.funcs))++(zc 5 [1,0,1]++(zc 6 ([1,127,0,65]++sI m.memory++[11])++(zc 7 ([1]++zi [109,97,105,110]++[0]++uI (zaS m))++(zc 10 (zP codes) ++
   zc 0 (zi [110,97,109,101]++[1]++zi (zP (zn 3 m.funcs)))))))))):=by
  unfold zkr at he
  rw[hc]at he
  simpa using he.symm
 clear hbs
 have hbl:=congrArg ycT e
 simp only[yab,zc,yac,ybl,zi]at hbl
 have r1:(zP (zG m.funcs)).length<=2^36:=by omega
 have r2:(zP zF).length<=2^36:=by omega
 have r3:(zP (zak 3 m.funcs)).length<=2^36:=by omega
 have r4:(zP codes).length<=2^36:=by omega
 have r5:(zP (zn 3 m.funcs)).length<=2^36:=by omega
 have s1:zea (zG m.funcs)<2^37:=by rw[<-zbc];unfold zP at r1;simp only[yab]at r1;omega
 have s2:zea zF<2^37:=by rw[<-zbc];unfold zP at r2;simp only[yab]at r2;omega
 have s3:zea (zak 3 m.funcs)<2^37:=by rw[<-zbc];unfold zP at r3;simp only[yab]at r3;omega
 have s4:zea codes<2^37:=by rw[<-zbc];unfold zP at r4;simp only[yab]at r4;omega
 have s5:zea (zn 3 m.funcs)<2^37:=by rw[<-zbc];unfold zP at r5;simp only[yab]at r5;omega
 have t4:=zdy hc
 have t5:=zcR m.funcs 3
 have t3:=zeg m.funcs 3
 have t1:=zcS m.funcs
 clear hbl
 have n1:=b1.one
 have n2:=b2.one
 have n3:=b3.one
 have n4:=b4.one
 have n5:=b5.one
 simp[zh4,a1,hoo]
 refine zeb b1 (by omega) (by omega) λv1 J1 h1=>?_
 have k1:=h1.byt.one
 have o1:=(h1.2.obj o ho).trans hoo
 have m1:=h1.2.no
 simp[o1,k1]
 refine zoP (n:=1) h1.byt (by omega) λv2 J2 h2=>?_
 have B2:=h1.2.trans h2.2
 have o2:=(h2.2.obj o (by omega)).trans o1
 have m2:=h2.2.no
 simp[o2]
 refine zeb (b2.keep B2) (by omega) (by decide) λv3 J3 h3=>?_
 have B3:=B2.trans h3.2
 have k3:=h3.byt.one
 have o3:=(h3.2.obj o (by omega)).trans o2
 have m3:=h3.2.no
 simp[o3,k3]
 refine zoP (n:=2) h3.byt (by omega) λv4 J4 h4=>?_
 have B4:=B3.trans h4.2
 have o4:=(h4.2.obj o (by omega)).trans o3
 have m4:=h4.2.no
 simp[o4]
 refine zeb (b3.keep B4) (by omega) (by omega) λv5 J5 h5=>?_
 have B5:=B4.trans h5.2
 have k5:=h5.byt.one
 have o5:=(h5.2.obj o (by omega)).trans o4
 have m5:=h5.2.no
 simp[o5,k5]
 refine zoP (n:=3) h5.byt (by omega) λv6 J6 h6=>?_
 have B6:=B5.trans h6.2
 have o6:=(h6.2.obj o (by omega)).trans o5
 have m6:=h6.2.no
 simp[o6]
 refine zoP (n:=5) (bs:=[1,0,1]) (.lit _ _ rfl) (by simp) λv7 J7 h7=>?_
 have B7:=B6.trans h7.2
 have o7:=(h7.2.obj o (by omega)).trans o6
 have m7:=h7.2.no
 simp[o7]
 refine zql hmem λv8 J8 h8=>?_
 have B8:=B7.trans h8.2
 have k8:=h8.byt.one
 have o8:=(h8.2.obj o (by omega)).trans o7
 have m8:=h8.2.no
 simp[o8,k8]
 refine zdv (n:=6) (l:=[[1,127,0,65],sI m.memory,[11]]) (zko.lit (.cons (.lit _ _ rfl) (.cons h8.byt (.cons (.lit _ _ rfl) .nil)))) (by have:=zkp m.memory;simp[zea];omega) (by simp) λv9 J9 h9=>?_
 have B9:=B8.trans h9.2
 have o9:=(h9.2.obj o (by omega)).trans o8
 have m9:=h9.2.no
 simp[o9]
 refine za8 (bs:=[109,97,105,110]) (.lit _ _ rfl) (by simp) λv10 J10 h10=>?_
 have B10:=B9.trans h10.2
 have k10:=h10.byt.one
 have o10:=(h10.2.obj o (by omega)).trans o9
 have m10:=h10.2.no
 have hmr:=zef (m.main+3)
 simp[o10,k10]
 refine zdC (n:=zaS m) hmr.2 λv11 J11 h11=>?_
 have B11:=B10.trans h11.2
 have k11:=h11.byt.one
 have k10':=(h10.byt.keep h11.2).one
 have o11:=(h11.2.obj o (by omega)).trans o10
 have m11:=h11.2.no
 simp[o11,k11,k10']
 refine zdv (n:=7) (l:=[[1],zi [109,97,105,110],[0],uI (zaS m)]) (zko.lit (.cons (.lit _ _ rfl) (.cons (h10.byt.keep h11.2) (.cons (.lit _ _ rfl) (.cons h11.byt .nil))))) (by have:=zaj (zaS m);have:=zda [109,97,105,110];simp[zea]at *;omega) (by simp) λv12 J12 h12=>?_
 have B12:=B11.trans h12.2
 have o12:=(h12.2.obj o (by omega)).trans o11
 have m12:=h12.2.no
 simp[o12]
 refine zeb (b4.keep B12) (by omega) (by omega) λv13 J13 h13=>?_
 have B13:=B12.trans h13.2
 have k13:=h13.byt.one
 have o13:=(h13.2.obj o (by omega)).trans o12
 have m13:=h13.2.no
 simp[o13,k13]
 refine zoP (n:=10) h13.byt (by omega) λv14 J14 h14=>?_
 have B14:=B13.trans h14.2
 have o14:=(h14.2.obj o (by omega)).trans o13
 have m14:=h14.2.no
 simp[o14]
 refine za8 (bs:=[110,97,109,101]) (.lit _ _ rfl) (by simp) λv15 J15 h15=>?_
 have B15:=B14.trans h15.2
 have k15:=h15.byt.one
 have o15:=(h15.2.obj o (by omega)).trans o14
 have m15:=h15.2.no
 simp[o15,k15]
 refine zeb (b5.keep B15) (by omega) (by omega) λv16 J16 h16=>?_
 have B16:=B15.trans h16.2
 have k16:=h16.byt.one
 have o16:=(h16.2.obj o (by omega)).trans o15
 have m16:=h16.2.no
 simp[o16,k16]
 refine za8 h16.byt (by omega) λv17 J17 h17=>?_
 have B17:=B16.trans h17.2
 have k17:=h17.byt.one
 have k15':=(h15.byt.keep (h16.2.trans h17.2)).one
 have o17:=(h17.2.obj o (by omega)).trans o16
 have m17:=h17.2.no
 simp[o17,k17,k15']
 refine zdv (n:=0) (l:=[zi [110,97,109,101],[1],zi (zP (zn 3 m.funcs))]) (zko.lit (.cons (h15.byt.keep (h16.2.trans h17.2)) (.cons (.lit _ _ rfl) (.cons h17.byt .nil)))) (by have:=zda (zP (zn 3 m.funcs));have:=zda [110,97,109,101];simp[zea]at *;omega) (by simp) λv18 J18 h18=>?_
 have B18:=B17.trans h18.2
 have D17:=h18.2
 have D16:=h17.2.trans D17
 have D15:=h16.2.trans D16
 have D14:=h15.2.trans D15
 have D13:=h14.2.trans D14
 have D12:=h13.2.trans D13
 have D11:=h12.2.trans D12
 have D10:=h11.2.trans D11
 have D9:=h10.2.trans D10
 have D8:=h9.2.trans D9
 have D7:=h8.2.trans D8
 have D6:=h7.2.trans D7
 have D5:=h6.2.trans D6
 have D4:=h5.2.trans D5
 have D3:=h4.2.trans D4
 have D2:=h3.2.trans D3
 have k2z:=h2.byt.one
 have k4z:=h4.byt.one
 have k6z:=h6.byt.one
 have k7z:=h7.byt.one
 have k9z:=h9.byt.one
 have k12z:=h12.byt.one
 have k14z:=h14.byt.one
 have k18z:=h18.byt.one
 simp[k2z,k4z,k6z,k7z,k9z,k12z,k14z,k18z]
 have ef:([zeX,zc 1 (zP (zG m.funcs)),zc 2 (zP zF),zc 3 (zP (zak 3 m.funcs)),zc 5 [1,0,1],zc 6 [[1,127,0,65],sI m.memory,[11]].flatten,zc 7 [[1],zi [109,97,105,110],[0],uI (zaS m)].flatten,zc 10 (zP codes),zc 0 [zi [110,97,109,101],[1],zi (zP (zn 3 m.funcs))].flatten]:List (List UInt8)).flatten=bs:=by
  rw[e]
  simp
 refine zbH (l:=[zeX,zc 1 (zP (zG m.funcs)),zc 2 (zP zF),zc 3 (zP (zak 3 m.funcs)),zc 5 [1,0,1],zc 6 [[1,127,0,65],sI m.memory,[11]].flatten,zc 7 [[1],zi [109,97,105,110],[0],uI (zaS m)].flatten,zc 10 (zP codes),zc 0 [zi [110,97,109,101],[1],zi (zP (zn 3 m.funcs))].flatten]) (zko.lit (.cons (.lit _ _ rfl) (.cons (h2.byt.keep D2) (.cons (h4.byt.keep D4) (.cons (h6.byt.keep D6) (.cons (h7.byt.keep D7) (.cons (h9.byt.keep D9) (.cons (h12.byt.keep D12) (.cons (h14.byt.keep D14) (.cons h18.byt .nil)))))))))) (by rw[<-zbc,ef];omega) (by simp) λv19 J19 h19=>?_
 rw[ef]at h19
 simp
 exact h _ _ (zdx.behind (hA.trans B18) h19)
theorem zdP(V:zdI G){m:M}{mv:AV}{bs:List UInt8}(hm:Al.MO J mv m)(he:zkr m=some bs)(hl:bs.length<=2^36)(hn:m.funcs.length<=2^30)(hsz:∀f∈m.funcs,SzB f)(hmem:-(2^63)<=m.memory/\m.memory<2^63)(h:∀v J',zdx J J' v bs->R (.ret v) J'):zzQ G 16 [mv] J R:=by
 obtain⟨fsv,rfl,hfs⟩:=hm
 obtain⟨codes,hc,hbs⟩:=zdz he
 have hcl:∀c∈codes,c.length<=2^36:=λc hcm=>by
  have h1:=zu0 hcm
  have h2:=congrArg ycT hbs
  simp only[zeh,znI,yab,zc,zi,zP,yac]at h2
  omega
 clear hbs
 refine zCz rfl ?_
 have f1:=hfs.one
 have fl:=hfs.len
 have hA0:∀c1,zd J (J.newO c1):=λc1=>(zd.refl J).newO
 simp[zLy,f1]
 refine zf9 (l:=[]) (.inl ⟨rfl,rfl⟩) (by simp) λv1 J1 h1=>?_
 have k1:=h1.byt.one
 have o1:=h1.2.obj J.no (by simp)
 have m1:=h1.2.no
 simp at m1 o1
 simp
 refine zf9 (l:=[2]) (.inr ⟨.stat true,rfl,trivial⟩) (by simp) λv2 J2 h2=>?_
 have k2:=h2.byt.one
 have o2:=(h2.2.obj J.no (by omega)).trans o1
 have m2:=h2.2.no
 simp
 refine zf9 (l:=[1]) (.inr ⟨.stat true,rfl,trivial⟩) (by simp) λv3 J3 h3=>?_
 have k3:=h3.byt.one
 have k1':=(h1.byt.keep (h2.2.trans h3.2)).one
 have k2':=(h2.byt.keep h3.2).one
 have o3:=(h3.2.obj J.no (by omega)).trans o2
 have m3:=h3.2.no
 have A3:zd J J3:=((hA0 _).trans h1.2).trans (h2.2.trans h3.2)
 simp[k1',k2',k3]
 have hT:zcu (λ_=>0) J3:=λ_ _=>rfl
 have hT0:∀Z:AS,zcu (λ_=>0) Z:=λ_ _ _=>rfl
 have hg1:zaB (λ_=>0) 1 J J3 (.sl (.stat true) 1 [v1,v2,v3]) (zG []):=.inr ⟨_,_,rfl,.inl rfl,.cons ((h1.row (hT0 _)).keep (h2.2.trans h3.2)) (.cons ((h2.row (hT0 _)).keep h3.2) (.cons (h3.row (hT0 _)) .nil))⟩
 refine zS (En1 J J.no [fsv,.int .i64 m.memory,.int .i64 m.main]) (MU 20 4) ⟨0,λ_=>0,by omega,by simp,by simpa using hg1,.inl ⟨rfl,by simp⟩,by simp,by simp,by simp,by simp[zhy],by simp,by simp,hT,A3,by omega,by omega,o3⟩ λa Z hI=>?_
 refine zqB hI λa Z ⟨T,a1,g1,g2,a5,a6,a7,hT,hA,ho,hoo⟩=>?_
 simp[zmS,a1,hoo,fl]
 refine zS (En2 J m.funcs codes fsv J.no [fsv,.int .i64 m.memory,.int .i64 m.main]) (MU 43 (m.funcs.length+1)) ⟨0,T,by omega,by simp[a1],by simpa using g1,by simpa using g2,.inl ⟨rfl,by simp[a5]⟩,.inl ⟨rfl,by simp[a6]⟩,.inl ⟨rfl,by simp[a7]⟩,by simp,by simp,by simp,hT,hA,by omega,ho,hoo⟩ λa Z hI=>?_
 refine zvf V hfs hn hsz hc hcl hI λa Z ⟨T,a1,g1,g2,g3,g4,g5,hT,hA,ho,hoo⟩=>?_
 exact zDO he hc hl hmem h hn a1 g1 g2 g3 g4 g5 hA ho hoo
end
end Go.Proofs.YtohfclafhegadaaGreatDoor

namespace Go.Proofs.YtohfclafhegadaaGreatDoor
open Go Go.Abs
structure zKQ(m:M):Prop where
 funcs:m.funcs.length<=2^47
 params:∀f∈m.funcs,f.params.length<=2^47
 locals:∀f∈m.funcs,f.locals.length<=2^47
 lists:∀f∈m.funcs,f.lists.length<=2^47
 rows:∀f∈m.funcs,∀l∈f.lists,l.length<=2^47
structure zoQ(f:F):Prop where
 params:f.params.length<=3000
 locals:f.locals.length<=3000
 lists:f.lists.length<=300
 rows:∀l∈f.lists,l.length<=3000
 sum:f.params.length+f.locals.length+zjv id f.lists<=3000
def BO(fv:AV)(m:M)(mb:Nat)(J1:AS)(a:Nat->AV)(Z:AS):Prop:=∃(i z:Nat),i<=m.funcs.length/\z<=3000/\a 1=.ptr mb 0/\a 3=.int .i64 (z:Int)/\a 4=.int .i64 (i:Int)/\zd J1 Z/\∀j f,j<i->m.funcs[j]?=some f->zoQ f
def BN(m:M)(mb fb:Nat)(J1:AS)(i:Nat)(f:F)(base:Nat)(a:Nat->AV)(Z:AS):Prop:=∃(k:Nat) (z:Int),k<=f.lists.length/\a 1=.ptr mb 0/\a 4=.int .i64 (i:Int)/\a 5=.ptr fb 0/\a 6=.int .i64 (k:Int)/\a 3=.int .i64 z/\zd J1 Z/\(f.lists.length<=300->z=((base+zjv id (f.lists.take k):Nat):Int))
theorem zlu{ls:To}{k:Nat}(h:k<ls.length):zjv id (ls.take (k+1))=zjv id (ls.take k)+ls[k].length:=by
 rw[List.take_succ_eq_append_getElem h,zkl]
 simp[zjv]
theorem zs6{ls:To}{B:Nat}(h:∀l∈ls,l.length<=B):zjv id ls<=ls.length*B:=by
 induction ls with
 | nil=>simp[zjv]
 | cons l ls ih =>
  have h1:=h l (by simp)
  have h2:=ih λx hx=>h x (by simp[hx])
  simp only[zjv,yaL,ycV,yac,id]at h2 ⊢
  rw[Nat.add_mul];omega
theorem zyK{ls:To}{l:List W}(h:l∈ls):l.length<=zjv id ls:=by
 induction ls with
 | nil=>simp at h
 | cons x ls ih =>
  simp only[zjv,yaL,ycV,id]at ih ⊢
  rcases ybC.1 h with rfl|h
  .omega
  .have:=ih h;omega
theorem zvg{G:Env}{J:AS}{R:Out->AS->Prop}{mv:AV}{m:M}(hm:MV mv m)(hf:zKQ m)(h:∀b J',(b=false->m.funcs.length<=12/\∀f∈m.funcs,zoQ f)->zd J J'->R (.ret (.bool b)) J'):zzQ G 24 [mv] J R:=by
 refine zCD rfl ?_
 obtain⟨fv,rfl,hfs⟩:=hm
 have f1:=hfs.one
 have hfl:=hfs.len
 by_cases hb:(12:Int)<(m.funcs.length:Int)
 .simp[zKo,hfl,f1,hb]
  exact h true _ (by simp) (zd.refl J).newO
 .simp[zKo,hfl,f1,hb]
  have A1:zd J (J.newO [fv,yc0 yam m.memory,yc0 yam m.main]):=(zd.refl J).newO
  have hm1:(J.newO [fv,yc0 yam m.memory,yc0 yam m.main]).objs J.no=some [fv,.int .i64 m.memory,.int .i64 m.main]:=by simp
  have hno1:(J.newO [fv,yc0 yam m.memory,yc0 yam m.main]).no=J.no+1:=by simp
  generalize J.newO [fv,yc0 yam m.memory,yc0 yam m.main]=J1 at *
  refine zS (BO fv m J.no J1) (MU 4 (m.funcs.length+1)) ⟨0,0,by omega,by omega,by simp,by simp,by simp,.refl _,λj f hj=>by omega⟩ λa Z hI=>?_
  obtain⟨i,z,hi,hz,a1,a3,a4,A,hall⟩:=hI
  have hm2:=(A.obj J.no (by omega)).trans hm1
  by_cases hlt:i<m.funcs.length
  .obtain⟨b,rv,hfv,hix⟩:=hfs.at hlt
   have hmem:=yaw hlt
   have hget:m.funcs[i]?=some m.funcs[i]:=yau hlt
   have q1:=hf.params _ hmem
   have q2:=hf.locals _ hmem
   have q3:=hf.lists _ hmem
   have q4:=hf.rows _ hmem
   generalize m.funcs[i]=f at *
   obtain⟨pv,lv,tv,rfl,hp,hl,ht⟩:=hfv
   have p1:=hp.one
   have l1:=hl.one
   have t1:=ht.one
   have hpl:=hp.len
   have hll:=hl.len
   have htl:=ht.len
   have w1:yb4 .i64 ((z:Int)+(f.params.length:Int))=(z:Int)+(f.params.length:Int):=by rw[zb]<;>omega
   have w2:yb4 .i64 ((z:Int)+(f.params.length:Int)+(f.locals.length:Int))=(z:Int)+(f.params.length:Int)+(f.locals.length:Int):=by rw[zb]<;>omega
   have w3:yb4 .i64 ((z:Int)+(f.params.length:Int)+(f.locals.length:Int)+(f.lists.length:Int))=(z:Int)+(f.params.length:Int)+(f.locals.length:Int)+(f.lists.length:Int):=by rw[zb]<;>omega
   have hlt':(i:Int)<(m.funcs.length:Int):=by omega
   have hmn:J.no≠Z.no:=by have:=A.no;omega
   simp[zmW,a1,a3,a4,hm2,hfl,f1,hlt,hix,p1,l1,t1,hpl,hll,htl,w1,w2,w3,splice]
   have A3:zd Z ((Z.newO [ycZ [],yc7,yc7,yc0 yam 0,yc7]).setO Z.no [ycZ f.name,pv,lv,yc0 yam f.type,tv]):=((zd.refl Z).newO).setO (yah _)
   have hf3:((Z.newO [ycZ [],yc7,yc7,yc0 yam 0,yc7]).setO Z.no [ycZ f.name,pv,lv,yc0 yam f.type,tv]).objs Z.no=some [.str f.name,pv,lv,.int .i64 f.type,tv]:=by simp
   have hn3:((Z.newO [ycZ [],yc7,yc7,yc0 yam 0,yc7]).setO Z.no [ycZ f.name,pv,lv,yc0 yam f.type,tv]).no=Z.no+1:=by simp
   generalize (Z.newO [ycZ [],yc7,yc7,yc0 yam 0,yc7]).setO Z.no [ycZ f.name,pv,lv,yc0 yam f.type,tv]=J3 at *
   have hbase:f.lists.length<=300->((z:Int)+(f.params.length:Int)+(f.locals.length:Int)+(f.lists.length:Int))=((z+f.params.length+f.locals.length+f.lists.length+zjv id (f.lists.take 0):Nat):Int):=λ_=>by simp[zjv]
   refine zS (BN m J.no Z.no J3 i f (z+f.params.length+f.locals.length+f.lists.length)) (MU 6 (f.lists.length+1)) ⟨0,_,by omega,by simp[a1],by simp[a4],by simp,by simp,by simp,.refl _,hbase⟩ λb ρ hJ=>?_
   obtain⟨k,y,hk,b1,b4,b5,b6,b3,A4,hy⟩:=hJ
   have hf4:=(A4.obj Z.no (by omega)).trans hf3
   by_cases hkl:k<f.lists.length
   .obtain⟨b',rv,hrep,hix2⟩:=ht.at hkl
    have hrl:=q4 _ (yaw hkl)
    have r1:=hrep.one
    have hrlen:=hrep.len
    have w5:yb4 .i64 ((k:Int)+1)=((k+1:Nat):Int):=by rw[zb]<;>omega
    simp[zez,b1,b4,b5,b6,b3,hf4,htl,hkl,hix2,r1,hrlen,w5]
    refine⟨⟨k+1,yb4 .i64 (y+(f.lists[k].length:Int)),by omega,by simp[b1],by simp[b4],by simp[b5],by simp,by simp,A4,λh3=>?_⟩,?_⟩
    .have e:=hy h3
     have hB:=zs6 (ls:=f.lists.take k) (B:=2^47) λl hl=>q4 l (List.mem_of_mem_take hl)
     have hkk:(f.lists.take k).length<=300:=by rw[List.length_take];omega
     have hB2:zjv id (f.lists.take k)<=300*2^47:=yai hB (yax _ hkk)
     rw[zlu hkl,e,zb]<;>omega
    .simp only[MU,b6];simp;omega
   .have he:k=f.lists.length:=by omega
    subst he
    rw[ycY]at hy
    have w5:yb4 .i64 ((i:Int)+1)=((i+1:Nat):Int):=by have:=hf.funcs;rw[zb]<;>omega
    by_cases hbig:(3000:Int)<y
    .simp[zez,zgL,b5,b6,b3,hf4,htl,hbig]
     exact h true _ (by simp) (A1.trans (A.trans (A3.trans A4)))
    .by_cases hbl:(300:Int)<(f.lists.length:Int)
     .simp[zez,zgL,b5,b6,b3,hf4,htl,hbig,hbl]
      exact h true _ (by simp) (A1.trans (A.trans (A3.trans A4)))
     .simp[zez,zgL,zmV,b4,b5,b6,b3,hf4,htl,hbig,hbl,w5]
      have e:=hy (by omega)
      refine⟨⟨i+1,y.toNat,by omega,by omega,by simp[b1],by simp[b3];omega,by simp,A.trans (A3.trans A4),λj g hj hg=>?_⟩,?_⟩
      .by_cases ej:j=i
       .subst ej
        rw[hget]at hg
        cases hg
        exact⟨by omega,by omega,by omega,λl hl=>by have:=zyK hl;omega,by omega⟩
       .exact hall j g (by omega) hg
      .simp only[MU,a4];simp;omega
  .have he:i=m.funcs.length:=by omega
   subst he
   simp[zmW,zus,a1,a4,hm2,hfl,f1]
   refine h false _ (λ_=>⟨by omega,λf hf=>?_⟩) (A1.trans A)
   obtain⟨j,hj,rfl⟩:=yda.1 hf
   exact hall j _ hj (yau hj)
theorem zgb:∀{l:List (List UInt8 × List UInt8)} {s:List UInt8},zcs l s≠[]->s∈l.map (·.1)
 | [],s,h=>by simp[zcs]at h
 | (x,y)::r,s,h=>by
  rw[zcs]at h
  split at h
  .rename_i e;simp[e]
  .simp only[yaL,ybC];exact .inr (zgb h)
theorem zyL:∀s∈signs.map (·.1),∃i,zhs s=some i/\i<16:=by decide
theorem zs7{w:W}(h:zT w=true)(hn:zR w=false):∃c,zee w=some c:=by
 by_cases h4:w.op=4
 .rw[zee,if_pos h4,znl,if_pos h4]
  unfold zT at h
  rw[if_neg (by omega),if_pos h4]at h
  simp only[Bool.and_eq_true,Bool.not_eq_true',beq_eq_false_iff_ne,ne_eq,zac,Bool.or_eq_true,decide_eq_true_eq]at h
  obtain⟨i,hi,hl⟩:=zyL _ (zgb h.2)
  rw[hi]
  simp only
  rcases h.1 with e|e
  .rw[if_pos e,yau (show i<zi6.length from hl)];exact⟨_,rfl⟩
  .rw[if_neg (by omega),if_pos e,yau (show i<zi7.length from hl)];exact⟨_,rfl⟩
 .rw[zee,if_neg h4]
  have key:((zao++zga).find? (zaF w)).isSome=true:=by
   rw[List.find?_isSome]
   obtain⟨op,ty,n,body,other,name⟩:=w
   simp only at h4
   unfold zT at h
   simp only at h
   simp only[zR,Bool.or_eq_false_iff,decide_eq_false_iff_not]at hn
   by_cases h1:op=1\/op=5
   .rw[if_pos h1]at h
    simp only[zac,Bool.or_eq_true,decide_eq_true_eq]at h
    rcases h1 with rfl|rfl<;>rcases h with rfl|rfl
    .exact⟨(0x41,pw 1 1 0),by decide,by simp[zaF,zfC,pw]⟩
    .exact⟨(0x42,pw 1 2 0),by decide,by simp[zaF,zfC,pw]⟩
    .exact⟨(0x45,pw 5 1 0),by decide,by simp[zaF,zfC,pw]⟩
    .exact⟨(0x50,pw 5 2 0),by decide,by simp[zaF,zfC,pw]⟩
   .rw[if_neg h1,if_neg h4]at h
    by_cases h8:op=8\/op=9
    .rw[if_pos h8]at h
     simp only[zfy,Bool.or_eq_true,Bool.and_eq_true,decide_eq_true_eq]at h
     rcases h8 with rfl|rfl
     .rcases h with ⟨rfl,rfl|rfl⟩|⟨rfl,rfl⟩
      .exact⟨(0x2C,pw 8 1 1),by decide,by simp[zaF,zfC,pw]⟩
      .exact⟨(0x28,pw 8 1 4),by decide,by simp[zaF,zfC,pw]⟩
      .exact⟨(0x29,pw 8 2 8),by decide,by simp[zaF,zfC,pw]⟩
     .rcases h with ⟨rfl,rfl|rfl⟩|⟨rfl,rfl⟩
      .exact⟨(0x3A,pw 9 1 1),by decide,by simp[zaF,zfC,pw]⟩
      .exact⟨(0x36,pw 9 1 4),by decide,by simp[zaF,zfC,pw]⟩
      .exact⟨(0x37,pw 9 2 8),by decide,by simp[zaF,zfC,pw]⟩
    .rw[if_neg h8]at h
     simp only[Bool.and_eq_true,decide_eq_true_eq]at h
     rcases(show op=2\/op=3\/op=6\/op=7\/op=10\/op=14\/op=15\/op=16\/op=17\/op=18 by omega)with rfl|rfl|rfl|rfl|rfl|rfl|rfl|rfl|rfl|rfl
     .exact⟨(0x20,pw 2 0 0),by decide,by simp[zaF,zfC,pw]⟩
     .exact⟨(0x21,pw 3 0 0),by decide,by simp[zaF,zfC,pw]⟩
     .exact⟨(0xA7,pw 6 0 0),by decide,by simp[zaF,zfC,pw]⟩
     .exact⟨(0xAC,pw 7 0 0),by decide,by simp[zaF,zfC,pw]⟩
     .exact⟨(0x10,pw 10 0 0),by decide,by simp[zaF,zfC,pw]⟩
     .exact⟨(0x0C,pw 14 0 0),by decide,by simp[zaF,zfC,pw]⟩
     .exact⟨(0x0D,pw 15 0 0),by decide,by simp[zaF,zfC,pw]⟩
     .exact⟨(0x0F,pw 16 0 0),by decide,by simp[zaF,zfC,pw]⟩
     .exact⟨(0x00,pw 17 0 0),by decide,by simp[zaF,zfC,pw]⟩
     .exact⟨(0x1A,pw 18 0 0),by decide,by simp[zaF,zfC,pw]⟩
  obtain⟨x,hx⟩:=yay.1 key
  rw[hx]
  exact⟨_,rfl⟩
def zKR(rec:Int->Option (List UInt8))(T:Nat->Nat)(n:Int):Prop:=∃b,rec n=some b/\b.length<=T n.toNat
theorem zDP(w:W):(zbW w).length<=10:=by
 have h1:=zkp w.n
 have h2:=zaj w.n
 unfold zbW
 split
 .exact h1
 .split
  .exact h2
  .split<;>simp
theorem zqC{rec:Int->Option (List UInt8)}{T:Nat->Nat}{w:W}(h:zT w=true)(hr:∀n∈zh w,zKR rec T n):∃b,zgX rec w=some b/\b.length<=16+zju (zh w) T:=by
 cases hn:zR w with
 | true =>
  unfold zgX
  rw[if_pos hn]
  by_cases h13:w.op=13/\0<=w.other
  .have e:zh w=[w.body,w.other]:=by unfold zh;rw[if_neg (by omega),if_pos h13.1]
   rw[e]at hr ⊢
   obtain⟨b,hb,hl⟩:=hr w.body (by simp)
   obtain⟨o,ho,hl2⟩:=hr w.other (by simp)
   refine⟨_,by rw[hb,ydx,if_pos h13,ho];rfl,?_⟩
   simp[zju]
   omega
  .have e:zh w=[w.body]:=by
    simp only[zR,Bool.or_eq_true,decide_eq_true_eq]at hn
    unfold zh;rw[if_pos (by omega)]
   rw[e]at hr ⊢
   obtain⟨b,hb,hl⟩:=hr w.body (by simp)
   refine⟨_,by rw[hb,ydx,if_neg h13],?_⟩
   simp[zju]
   omega
 | false =>
  obtain⟨c,hc⟩:=zs7 h hn
  have:=zDP w
  refine⟨_,by unfold zgX;rw[if_neg (by simp[hn]),hc];rfl,?_⟩
  simp only[yac]
  omega
theorem ziO{rec:Int->Option (List UInt8)}{T:Nat->Nat}:∀{ws:List W},(∀w∈ws,zT w=true)->(∀n∈ws.flatMap zh,zKR rec T n)->∃b,zcL rec ws=some b/\b.length<=16*ws.length+zju (ws.flatMap zh) T
 | [],_,_=>⟨[],rfl,by simp⟩
 | w::ws,hf,hr=>by
  obtain⟨a,ha,hl⟩:=zqC (hf w (by simp)) (T:=T) (rec:=rec) λn hn=>hr n (yc8.2 ⟨w,by simp,hn⟩)
  obtain⟨b,hb,hl2⟩:=ziO (ws:=ws) (λv hv=>hf v (by simp[hv])) (T:=T) (rec:=rec) λn hn=>by
   obtain⟨v,hv,h2⟩:=yc8.1 hn
   exact hr n (yc8.2 ⟨v,by simp[hv],h2⟩)
  refine⟨a++b,by rw[zcL,ha,ydx,hb];rfl,?_⟩
  rw[yaa,zeF,yab,yac]
  omega
def gR(ls:To)(k:Nat):Nat:=16*(ls.getD k []).length
theorem zgZ{ls:To}(ha:zlm ls)(hf:∀l∈ls,∀w∈l,zT w=true):∀(k:Nat) (n:Int),0<=n->n<(k:Int)->n<(ls.length:Int)->zKR (zcZ ls k) (znc (gR ls) ls) n
 | 0,n,h0,h1,_=>by omega
 | k+1,n,h0,h1,h2=>by
  have hlt:n.toNat<ls.length:=by omega
  have hr:ls[n.toNat]?=some ls[n.toNat]:=yau hlt
  obtain⟨b,hb,hl⟩:=ziO (ws:=ls[n.toNat]) (rec:=zcZ ls k) (T:=znc (gR ls) ls) (hf _ (yaw hlt)) λm hm=>by
   have:=ha n.toNat _ hr m hm
   exact zgZ ha hf k m this.1 (by omega) (by omega)
  refine⟨b,?_,?_⟩
  .rw[zcZ,if_neg (by omega),hr]
   exact hb
  .rw[znd (gR ls) ha hr]
   have e:gR ls n.toNat=16*ls[n.toNat].length:=by unfold gR;rw[ycQ,hr];rfl
   omega
theorem zrP{g:Nat->Nat}{b:Nat}:∀k,(∀i,i<k->g i<=b)->zbO g k<=k*b
 | 0,_=>by simp[zbO]
 | k+1,h=>by
  have h1:=zrP k λi hi=>h i (by omega)
  have h2:=h k (by omega)
  rw[zbO,Nat.succ_mul]
  omega
theorem zs8{fs:List F}{f:F}(h:zk fs f=.ok ())(hs:zoQ f):∃c,zfE f=some c/\c.length<=2^24:=by
 obtain⟨h0,ha,ht⟩:=zbU (zV h)
 obtain⟨b,hb,hl⟩:=zgZ ha (Ck.forms_of h) f.lists.length ((f.lists.length:Int)-1) (by omega) (by omega) (by omega)
 have e:((f.lists.length:Int)-1).toNat=f.lists.length-1:=by omega
 rw[e,ht]at hl
 have h1:zbO (gR f.lists) f.lists.length<=f.lists.length*48000:=zrP _ λi hi=>by
  unfold gR
  rw[ycQ,yau hi]
  have:=hs.rows _ (yaw hi)
  simp only[Option.getD_some]
  omega
 have h2:=hs.lists
 have h3:f.lists.length*48000<=300*48000:=yax _ h2
 have h4:(zb4 f.locals).length<=10+11*3000:=by
  have h5:=(zbV f.locals.length f.locals).2
  have h6:=zaj (zq f.locals.length f.locals).length
  have h7:=hs.locals
  unfold zb4 zP
  rw[yab,List.length_flatten]
  simp only[zea]at h5
  omega
 refine⟨_,by unfold zfE;rw[hb];rfl,?_⟩
 have h5:=zda (zb4 f.locals++b++[11])
 simp only[yab,yac,ybl]at h5
 show(zi (zb4 f.locals++b++[11])).length<=2^24
 omega
theorem zkH{gs:List F}:∀{fs:List F},(∀f∈fs,zk gs f=.ok ()/\zoQ f)->∃cs,zaQ fs=some cs/\∀c∈cs,c.length<=2^24
 | [],_=>⟨[],rfl,by simp⟩
 | f::fs,h=>by
  obtain⟨c,hc,hl⟩:=zs8 (h f (by simp)).1 (h f (by simp)).2
  obtain⟨cs,hcs,hls⟩:=zkH (fs:=fs) λg hg=>h g (by simp[hg])
  refine⟨c::cs,by rw[zaQ,hc,ydx,hcs];rfl,λx hx=>?_⟩
  rcases ybC.1 hx with rfl|hx
  .exact hl
  .exact hls x hx
theorem zl6{α:Type}{b:Nat}:∀{l:List (List α)},(∀x∈l,x.length<=b)->l.flatten.length<=l.length*b
 | [],_=>by simp
 | x::l,h=>by
  have h1:=h x (by simp)
  have h2:=zl6 (l:=l) λy hy=>h y (by simp[hy])
  rw[ydF,yab,yac,Nat.succ_mul]
  omega
theorem zvh:∀{fs:List F} {i:Int},∀x∈zak i fs,x.length<=10
 | [],i,x,hx=>by simp[zak]at hx
 | f::fs,i,x,hx=>by
  rw[zak]at hx
  rcases ybC.1 hx with rfl|hx
  .exact zaj i
  .exact zvh x hx
theorem zrQ{b:Nat}:∀{fs:List F} {i:Int},(∀f∈fs,f.name.length<=b)->∀x∈zn i fs,x.length<=b+20
 | [],i,_,x,hx=>by simp[zn]at hx
 | f::fs,i,h,x,hx=>by
  rw[zn]at hx
  rcases ybC.1 hx with rfl|hx
  .have h1:=zaj i
   have h2:=zda f.name
   have h3:=h f (by simp)
   rw[yab]
   omega
  .exact zrQ (λg hg=>h g (by simp[hg])) x hx
theorem zrR{b:Nat}{l:List (List UInt8)}(h:∀x∈l,x.length<=b):(zP l).length<=10+l.length*b:=by
 have h1:=zaj (l.length:Int)
 have h2:=zl6 h
 rw[zP,yab]
 omega
theorem zvi{m:M}(h:zaP m=.ok ())(hl:m.funcs.length<=12)(hs:∀f∈m.funcs,zoQ f)(hn:∀f∈m.funcs,f.name.length<=2^20):∃bs,zkr m=some bs/\bs.length<=2^28:=by
 obtain⟨cs,hc,hcl⟩:=zkH λf hf=>⟨zbb h f hf,hs f hf⟩
 have he:∃bs,zkr m=some bs:=by unfold zkr;rw[hc];exact⟨_,rfl⟩
 obtain⟨bs,hb⟩:=he
 refine⟨bs,hb,?_⟩
 obtain⟨cs',hc',e⟩:=zdz hb
 obtain rfl:cs=cs':=yaR.inj (hc.symm.trans hc')
 rw[e]
 have l0:=zdy hc
 have l1:=zrR hcl
 have l2:=zrR (zvh (fs:=m.funcs) (i:=3))
 rw[zeg]at l2
 have l3:=zrR (zrQ (fs:=m.funcs) (i:=3) hn)
 rw[zcR]at l3
 have hh:∀x∈zG m.funcs,x.length<=3100:=λx hx=>by
  unfold zG at hx
  rcases ybh.1 hx with hx|hx
  .have d:∀y∈[zch [] 2,zch [2] 0,zch [1] 0],y.length<=3100:=by decide
   exact d x hx
  .obtain⟨f,hf,rfl⟩:=yaV.1 hx
   have h1:=zec f.params
   have h2:=zfA f.type
   have h3:=(hs f hf).params
   simp only[zch,yac,yab]
   omega
 have l4:=zrR hh
 rw[zcS]at l4
 have l5:(zP zF).length<=200:=by decide
 have m1:m.funcs.length*(2^20+20)<=12*(2^20+20):=yax _ hl
 have m2:cs.length*2^24<=12*2^24:=yax _ (by omega)
 have a1:=zcx 1 (zP (zG m.funcs))
 have a2:=zcx 2 (zP zF)
 have a3:=zcx 3 (zP (zak 3 m.funcs))
 have a5:(zc 5 [1,0,1]).length<=20:=by decide
 have a6:=zcx 6 (zlt m)
 have a6':(zlt m).length<=15:=by
  have:=zkp m.memory
  simp[zlt];omega
 have a7:=zaj ((zO++uI (zaS m)).length:Int)
 have a8:=zaj (zaS m)
 have a10:=zcx 10 (zP cs)
 have b1:=zda (zP (zn 3 m.funcs))
 have a0:=zcx 0 ([4,110,97,109,101,1]++zi (zP (zn 3 m.funcs)))
 have c1:zeX.length=8:=rfl
 have c2:zO.length<=20:=by decide
 simp only[zeh,znI,yab,yac,ybl]at *
 omega
theorem zyM{fs:List F}{f:F}(h:zk fs f=.ok ()):zcv f=true:=by
 unfold zk at h
 split at h
 .cases h
 rename_i hb
 simp only[Bool.not_eq_false,Bool.and_eq_true,List.all_append,decide_eq_true_eq]at hb
 obtain⟨⟨⟨h1,h2⟩,h3⟩,h4⟩:=hb
 have key:∀l:List Int,l.all zac=true->l.any zlU=false:=λl hl=>by
  rw[ydG]
  intro x hx
  have:=yaM.1 hl x hx
  simp only[zac,Bool.or_eq_true,decide_eq_true_eq]at this
  simp only[zlU,Bool.and_eq_true,decide_eq_true_eq]
  omega
 have k3:(decide (f.type≠0)&&zlU f.type)=false:=by
  by_cases e:f.type=0
  .simp[e]
  .have:f.type=1\/f.type=2:=by omega
   rcases this with e|e<;>simp[zlU,e]
 unfold zcv
 rw[key _ h1,key _ h2,k3]
 rfl
abbrev Tok:=List UInt8
def zZ(w:W):Tok :=
 if w.op=1 then zaK w.ty++[46,99,111,110,115,116]else if w.op=2 then [108,111,99,97,108,46,103,101,116]else if w.op=3 then [108,111,99,97,108,46,115,101,116]else if w.op=10 then [99,97,108,108]else if w.op=14 then [98,114]else if w.op=15 then [98,114,95,105,102]
 else if w.op=4 then zaK w.ty++46::w.name else if w.op=5 then zaK w.ty++[46,101,113,122]else if w.op=6 then [105,51,50,46,119,114,97,112,95,105,54,52]else if w.op=7 then [105,54,52,46,101,120,116,101,110,100,95,105,51,50,95,115]
 else if w.op=8 then zaK w.ty++(if w.n=1 then [46,108,111,97,100,56,95,115]else [46,108,111,97,100])else if w.op=9 then zaK w.ty++(if w.n=1 then [46,115,116,111,114,101,56]else [46,115,116,111,114,101])
 else if w.op=16 then [114,101,116,117,114,110]else if w.op=17 then [117,110,114,101,97,99,104,97,98,108,101]else [100,114,111,112]
def zaM(w:W):Bool:=decide (w.op=1)||decide (w.op=2)||decide (w.op=3)||decide (w.op=10)||decide (w.op=14)||decide (w.op=15)
def ze5(w:W):List Tok:=if zaM w=true then [zZ w,Lib.itoa w.n]else [zZ w]
def zJ(w:W):W :=
 { op:=w.op,ty:=if w.op=1\/w.op=4\/w.op=5\/w.op=8\/w.op=9 then w.ty else 0,n:=if zaM w=true\/w.op=8\/w.op=9 then w.n else 0,body:=0,other:=0,name:=if w.op=4 then w.name else [] }
def zaf(op b o:Int):W:={ op:=op,ty:=0,n:=0,body:=b,other:=o,name:=[] }
def zd1(op:Int):Tok:=if op=11 then zBf else if op=12 then zHf else tIf
inductive PrB(B:Nat)(ls:To):Nat->List W->To->List Tok->List W->To->Prop
 | nil (d acc):PrB B ls d [] acc [] [] acc
 | leaf {d w r acc t r' acc'}:zR w=false->zT w=true->RgW w->PrB B ls d r acc t r' acc'->PrB B ls d (w::r) acc (ze5 w++t) (zJ w::r') acc'
 | one {d w b r acc tb b' acc1 t r' acc'}:(w.op=11\/w.op=12\/w.op=13/\w.other<0)->d<B->0<=w.body->ls[w.body.toNat]?=some b->PrB B ls (d+1) b acc tb b' acc1->PrB B ls d r (acc1++[b']) t r' acc' ->
   PrB B ls d (w::r) acc (zd1 w.op::(tb++zie::t)) (zaf w.op acc1.length (if w.op=13 then -1 else 0)::r') acc'
 | two {d w b e r acc tb b' acc1 te e' acc2 t r' acc'}:w.op=13->0<=w.other->d<B->0<=w.body->ls[w.body.toNat]?=some b->ls[w.other.toNat]?=some e->PrB B ls (d+1) b acc tb b' acc1->PrB B ls (d+1) e (acc1++[b']) te e' acc2->PrB B ls d r (acc2++[e']) t r' acc' ->
   PrB B ls d (w::r) acc (tIf::(tb++zid::(te++zie::t))) (zaf 13 acc1.length acc2.length::r') acc'
abbrev Pr:=PrB 400
def zKS:List Tok:=[[34,101,110,118,34],[34,105,110,34],[34,111,117,116,34],[34,116,114,97,112,34],[34,109,97,105,110,34]]
def zKT(t:Tok):Bool:=(!t.isEmpty&&t.all λc=>!zKA c)||((t==za2||t==zad)||zKS.contains t)
def zyN:List Tok->List UInt8
 | []=>[10]
 | t::r=>32::(t++zyN r)
def zKU(t:Tok):Bool:=zKT t&&(decide (zHh t=0)&&(!(t==zie)&&(!(t==zad)&&(!(t==zid)&&!(t==za2)))))
theorem zyO:∀s∈signs.map (·.1),∀t∈[1,2],(zKU (zaK t++46::s)=true/\zgo zif (zaK t++46::s)=none/\zgo zKE (zaK t++46::s)=some { op:=4,ty:=t,n:=0,body:=0,other:=0,name:=s }):=by decide
theorem zHB{B:Nat}{ls:To}(ha:zlm ls)(hf:∀l∈ls,∀w∈l,zT w=true)(hr:RgL ls):∀(i:Nat) (d:Nat) (ws:List W) (acc:To),d+i<B->(∀w∈ws,zT w=true)->(∀w∈ws,RgW w)->(∀n∈ws.flatMap zh,0<=n/\n<(i:Int)/\n<(ls.length:Int))->∃toks out acc',PrB B ls d ws acc toks out acc':=by
 intro i
 induction i using ybI with
 | _ i ih =>
  intro d ws
  induction ws with
  | nil=>intro acc _ _ _ _;exact⟨[],[],acc,.nil d acc⟩
  | cons w ws ihw =>
   intro acc hd h1 h2 h3
   have rest:=λacc=>ihw acc hd (λv hv=>h1 v (by simp[hv])) (λv hv=>h2 v (by simp[hv])) λn hn=>h3 n (by rw[yaa];simp[hn])
   have hn:∀n∈zh w,0<=n/\n<(i:Int)/\n<(ls.length:Int):=λn hn=>h3 n (by rw[yaa];simp[hn])
   have sub:∀n:Int,(0<=n/\n<(i:Int)/\n<(ls.length:Int))->∃b,ls[n.toNat]?=some b/\∀acc,∃toks out acc',PrB B ls (d+1) b acc toks out acc':=λn hn=>by
    have hlt:n.toNat<ls.length:=by omega
    have hb:ls[n.toNat]?=some ls[n.toNat]:=yau hlt
    refine⟨_,hb,λacc=>ih n.toNat (by omega) (d+1) _ acc (by omega) (hf _ (yaw hlt)) (hr _ (yaw hlt)) λm hm=>?_⟩
    have:=ha n.toNat _ hb m hm
    omega
   cases hw:zR w with
   | false =>
    obtain⟨t,o,a,hp⟩:=rest acc
    exact⟨_,_,_,.leaf hw (h1 w (by simp)) (h2 w (by simp)) hp⟩
   | true =>
    have hop:w.op=11\/w.op=12\/w.op=13:=zvb hw
    by_cases h13:w.op=13/\0<=w.other
    .have e:zh w=[w.body,w.other]:=by unfold zh;rw[if_neg (by omega),if_pos h13.1]
     rw[e]at hn
     have hb:=hn w.body (by simp)
     obtain⟨b,hb1,hb2⟩:=sub w.body hb
     obtain⟨e,he1,he2⟩:=sub w.other (hn w.other (by simp))
     obtain⟨tb,b',a1,p1⟩:=hb2 acc
     obtain⟨te,e',a2,p2⟩:=he2 (a1++[b'])
     obtain⟨t,o,a3,p3⟩:=rest (a2++[e'])
     exact⟨_,_,_,.two h13.1 h13.2 (by omega) hb.1 hb1 he1 p1 p2 p3⟩
    .have e:zh w=[w.body]:=by unfold zh;rw[if_pos (by omega)]
     rw[e]at hn
     have hb:=hn w.body (by simp)
     obtain⟨b,hb1,hb2⟩:=sub w.body hb
     obtain⟨tb,b',a1,p1⟩:=hb2 acc
     obtain⟨t,o,a3,p3⟩:=rest (a1++[b'])
     exact⟨_,_,_,.one (by omega) (by omega) hb.1 hb1 p1 p3⟩
def zJv(B:Nat)(f:F)(toks:List Tok)(ls':To):Prop:=∃row out acc,f.lists[f.lists.length-1]?=some row/\PrB B f.lists 0 row [] toks out acc/\ls'=acc++[out]
abbrev PrF:=zJv 400
theorem zyP{B:Nat}{fs:List F}{f:F}(h:zk fs f=.ok ())(hr:RgL f.lists)(hl:f.lists.length<=B):∃toks ls',zJv B f toks ls':=by
 obtain⟨h0,ha,_⟩:=zbU (zV h)
 have hlt:f.lists.length-1<f.lists.length:=by omega
 have hb:f.lists[f.lists.length-1]?=some f.lists[f.lists.length-1]:=yau hlt
 have hf:=Ck.forms_of h
 obtain⟨t,o,a,hp⟩:=zHB (B:=B) ha hf hr (f.lists.length-1) 0 f.lists[f.lists.length-1] [] (by omega) (hf _ (yaw hlt)) (hr _ (yaw hlt)) λm hm=>by
  have:=ha (f.lists.length-1) _ hb m hm
  omega
 exact⟨t,_,_,_,_,hb,hp,rfl⟩
def zby(kw:Tok)(l:List Int):List Tok:=if l=[]then []else za2::kw::(l.map zaK++[zad])
def ztI(t:Int):List Tok:=if t=0 then []else [za2,zqa,zaK t,zad]
def znp(f:F)(toks:List Tok):List Tok:=za2::ze3::(36::f.name)::(zby zhp f.params++(ztI f.type++(zby ziJ f.locals++(toks++[zad]))))
structure Pf(mx:Nat)(f:F):Prop where
 name:ztH mx f.name=true
 params:∀t∈f.params,t=1\/t=2
 locals:∀t∈f.locals,t=1\/t=2
 type:f.type=0\/f.type=1\/f.type=2
inductive PrFsB(B:Nat):List F->List Tok->List F->Prop
 | nil:PrFsB B [] [] []
 | cons {f fs toks ls' ts fs'}:zJv B f toks ls'->PrFsB B fs ts fs'->PrFsB B (f::fs) (znp f toks++ts) ({ f with lists:=ls' }::fs')
abbrev zrS:=PrFsB 400
def zMk:List Tok:=[za2,zic,zsJ,za2,ze3]
def zfJ(m:M)(toks:List Tok):List Tok:=zDw++(Lib.itoa m.memory::zad::zad::(toks++(zMk++(Lib.itoa (yb4 .i64 (m.main+3))::[zad,zad,zad]))))
theorem zvj(x:Int):(-(2^63)<=yb4 .i64 x/\yb4 .i64 x<2^63)/\∃k:Int,yb4 .i64 x=x+2^64*k:=by
 simp only[yb4,yao,yap,Bool.true_and]
 split
 .rename_i k
  have k:=of_decide_eq_true k
  exact⟨by omega,-(x/2^64)-1,by omega⟩
 .rename_i k
  have k:=of_decide_eq_false (eq_false_of_ne_true k)
  exact⟨by omega,-(x/2^64),by omega⟩
def zqD(ts:List Tok):List UInt8:=(zyN ts).tail
theorem zbz{α:Type}{a:List α}{x:α}{fin:List α}(h:a++[x]<+:fin):fin[a.length]?=some x:=by
 obtain⟨z,rfl⟩:=h
 rw[ydB,yaI (yah _)]
 simp
theorem zaw{ls:To}{d:Nat}{ws:List W}{acc acc':To}{toks:List Tok}{out:List W}(h:Pr ls d ws acc toks out acc'):acc<+:acc':=by
 induction h with
 | nil=>exact ydC _
 | leaf _ _ _ _ ih=>exact ih
 | one _ _ _ _ _ _ ih1 ih2=>exact ih1.trans ((ydA _ _).trans ih2)
 | two _ _ _ _ _ _ _ _ _ ih1 ih2 ih3=>exact ih1.trans ((ydA _ _).trans (ih2.trans ((ydA _ _).trans ih3)))
end Go.Proofs.YtohfclafhegadaaGreatDoor

namespace Go.Proofs.YtohfclafhegadaaGreatDoor
open Go Go.Abs
def zcT(J:AS)(x f:Nat):Prop:=∃cs v,J.objs x=some cs/\cs[1]?=some v/\zeG v=some f
structure zbY(x:Nat)(J J':AS):Prop where
 no:J.no<=J'.no
 nf:J.nf<=J'.nf
 obj:∀o,o<J.no->o≠x->J'.objs o=J.objs o
 fam:∀f,f<J.nf->¬zcT J x f->J'.F f=J.F f
 use:∀f,f<J.nf->zcT J' x f->zcT J x f
theorem zbY.refl(x J):zbY x J J:=⟨yah _,yah _,λ_ _ _=>rfl,λ_ _ _=>rfl,λ_ _ h=>h⟩
theorem zbY.trans{x J J1 J2}(h:zbY x J J1)(h':zbY x J1 J2):zbY x J J2 where
 no:=yai h.no h'.no
 nf:=yai h.nf h'.nf
 obj o a b:=by rw[h'.obj o (yag a h.no) b,h.obj o a b]
 fam f a b:=by rw[h'.fam f (yag a h.nf) λu=>b (h.use f a u),h.fam f a b]
 use f a u:=h.use f a (h'.use f (yag a h.nf) u)
theorem zd.keepR{x J J'}(h:zd J J')(hx:x<J.no):zbY x J J' where
 no:=h.no
 nf:=h.nf
 obj o a _:=h.obj o a
 fam f a _:=h.fam f a
 use f _ u:=by unfold zcT at *;rwa [h.obj x hx]at u
structure zaN(x:Nat)(J J':AS):Prop where
 no:J.no<=J'.no
 nf:J.nf<=J'.nf
 obj:∀o,o<J.no->o≠x->J'.objs o=J.objs o
 fam:∀f,f<J.nf->J'.F f=J.F f
 lst:∀cs,J.objs x=some cs->∃cs',J'.objs x=some cs'/\cs'[1]?=cs[1]?
 some:(J.objs x).isSome=true
theorem zaN.refl{x J cs}(h:J.objs x=yaR cs):zaN x J J:=⟨yah _,yah _,λ_ _ _=>rfl,λ_ _=>rfl,λcs h=>⟨cs,h,rfl⟩,by rw[h];rfl⟩
theorem zaN.trans{x J J1 J2}(h:zaN x J J1)(h':zaN x J1 J2):zaN x J J2 where
 no:=yai h.no h'.no
 nf:=yai h.nf h'.nf
 obj o a b:=by rw[h'.obj o (yag a h.no) b,h.obj o a b]
 fam f a:=by rw[h'.fam f (yag a h.nf),h.fam f a]
 lst cs e:=by
  obtain⟨c1,e1,e2⟩:=h.lst cs e
  obtain⟨c2,e3,e4⟩:=h'.lst c1 e1
  exact⟨c2,e3,e4.trans e2⟩
 some:=h.some
theorem zaN.r{x J J'}(h:zaN x J J'):zbY x J J' where
 no:=h.no
 nf:=h.nf
 obj:=h.obj
 fam f a _:=h.fam f a
 use f a u:=by
  obtain⟨cs,v,h1,h2,h3⟩:=u
  obtain⟨c0,hc0⟩:=yay.1 h.some
  obtain⟨c1,e1,e2⟩:=h.lst c0 hc0
  rw[h1]at e1
  cases e1
  exact⟨c0,v,hc0,by rw[<-e2];exact h2,h3⟩
theorem zd.keepS{x J J' cs}(h:zd J J')(hx:x<J.no)(ho:J.objs x=yaR cs):zaN x J J' where
 no:=h.no
 nf:=h.nf
 obj o a _:=h.obj o a
 fam f a:=h.fam f a
 lst cs e:=⟨cs,(h.obj x hx).trans e,rfl⟩
 some:=by rw[ho];rfl
theorem zaN.set{x J cs cs'}(ho:J.objs x=yaR cs)(h:cs'[1]?=cs[1]?):zaN x J (J.setO x cs') where
 no:=yah _
 nf:=yah _
 obj o _ ho:=by simp[ho]
 fam f _:=rfl
 lst c e:=⟨cs',by simp,by rw[h];rw[ho]at e;cases e;rfl⟩
 some:=by rw[ho];rfl
theorem zaN.endF{x J Z}(K:zaN x J Z){g:Nat}(hg:J.nf<=g):zaN x J (Z.setF g .dead) where
 no:=K.no
 nf:=K.nf
 obj:=K.obj
 fam f a:=by
  have:¬f=g:=by omega
  simp[this]
  exact K.fam f a
 lst:=K.lst
 some:=K.some
theorem zaN.newF{x J Z}(K:zaN x J Z):zaN x J Z.newF where
 no:=K.no
 nf:=ydN K.nf
 obj:=K.obj
 fam f a:=by
  have:=K.nf
  have:¬f=Z.nf:=by omega
  simp[this]
  exact K.fam f a
 lst:=K.lst
 some:=K.some
theorem zaN.mrg{x J Z}(K:zaN x J Z){g:Nat}(hg:J.nf<=g):zaN x J (Z.mrg g λ_=>false) where
 no:=K.no
 nf:=K.nf
 obj o a b:=by simpa [AS.mrg]using K.obj o a b
 fam f a:=by
  have:¬f=g:=by omega
  simp[AS.mrg,zkb,this]
  exact K.fam f a
 lst cs e:=by
  obtain⟨c1,e1,e2⟩:=K.lst cs e
  exact⟨c1,by simpa [AS.mrg]using e1,e2⟩
 some:=K.some
def famO:Go.Abs.Own->Option Nat
 | .stat _=>none
 | .fam f _=>some f
def BV(β:Option Nat)(v:AV)(bs:List UInt8):Prop:=(bs=[]/\v=.nilsl)\/∃φ,famO φ=β/\v=.sl φ 1 (B bs)
theorem BV.one{β v bs}(h:BV β v bs):v.known=true/\v.one=true/\v.cells=[v]:=by rcases h with ⟨_,rfl⟩|⟨b,_,rfl⟩<;>simp
def ToR(base:Nat)(J:AS)(v:AV)(tO:To):Prop:=(tO=[]/\v=.nilsl)\/∃g tos,v=.sl (.fam g false) 1 tos/\base<=g/\g<J.nf/\J.F g=.alive/\All2 Al.RepE tos tO
theorem ToR.one{base J v bs}(h:ToR base J v bs):v.known=true/\v.one=true/\v.cells=[v]:=by rcases h with ⟨_,rfl⟩|⟨b,_,rfl,_⟩<;>simp
structure Rdr(base:Nat)(β:Option Nat)(x:Nat)(s:Rs)(J:AS):Prop where
 hx:x<J.no
 hb:0<base/\base<=J.nf
 h0:J.F 0=.alive
 hβ:∀f,β=some f->f<base/\J.F f=.alive
 cells:∃bv lv,J.objs x=some [bv,lv,.int .i64 (s.n:Int)]/\BV β bv s.b/\ToR base J lv s.ls
theorem Rdr.uses{base β x s J}(h:Rdr base β x s J){f:Nat}(hf:f<base):¬zcT J x f:=λ⟨cs,v,h1,h2,h3⟩=>by
 obtain⟨bv,lv,ho,_,hl⟩:=h.cells
 rw[ho]at h1
 cases h1
 simp at h2
 subst h2
 rcases hl with ⟨_,rfl⟩|⟨g,tos,rfl,hg,_⟩
 .cases h3
 .simp only[zeG,yaR.injEq]at h3
  omega
theorem BV.byt{base β x s J}(h:Rdr base β x s J){v bs}(hv:BV β v bs):zd9 J v bs:=by
 rcases hv with h1|⟨φ,h1,h2⟩
 .exact .inl h1
 .refine .inr ⟨φ,h2,?_⟩
  cases φ with
  | stat b=>exact trivial
  | fam f b =>
   obtain⟨h3,h4⟩:=h.hβ f h1.symm
   exact⟨by have:=h.hb.2;omega,h4⟩
theorem Rdr.set{base β x s J bv lv s'}(h:Rdr base β x s J)(hv:BV β bv s'.b)(hl:ToR base J lv s'.ls):Rdr base β x s' (J.setO x [bv,lv,.int .i64 (s'.n:Int)]):=by
 refine⟨h.hx,h.hb,h.h0,h.hβ,bv,lv,by simp,hv,?_⟩
 rcases hl with h1|⟨g,tos,h1,h2,h3,h4,h5⟩
 .exact .inl h1
 .exact .inr ⟨g,tos,h1,h2,h3,h4,h5⟩
theorem Rdr.adds{base β x s J J'}(h:Rdr base β x s J)(A:zd J J'):Rdr base β x s J':=by
 obtain⟨bv,lv,ho,hv,hl⟩:=h.cells
 have hn:=A.nf
 have hb:=h.hb
 refine⟨yag h.hx A.no,⟨hb.1,by omega⟩,(A.fam 0 (by omega)).trans h.h0,λf hf=>?_,bv,lv,(A.obj x h.hx).trans ho,hv,?_⟩
 .obtain⟨h1,h2⟩:=h.hβ f hf
  exact⟨h1,(A.fam f (by omega)).trans h2⟩
 .rcases hl with h1|⟨g,tos,h1,h2,h3,h4,h5⟩
  .exact .inl h1
  .exact .inr ⟨g,tos,h1,h2,by omega,(A.fam g h3).trans h4,h5⟩
def zFh(e:Int):AV:=.iface 33 (.int .i64 e)
def zKV(v:AV):Prop:=v=zFh 2\/v=zFh 3\/v=zFh 9
section
variable {G : Env} {J : AS} {R : Out -> AS -> Prop}
theorem zB{b:Bool}{e:Int}(h1:b=true->R (.ret (.tuple [])) J)(h2:b=false->R (.panic (zFh e)) J):zzQ G 40 [.bool b,.int .i64 e] J R:=by
 refine zCN rfl ?_
 cases b with
 | true =>
  simp[zKs]
  exact h1 rfl
 | false =>
  simp[zKs]
  exact h2 rfl
def zbd(R:Out->AS->Prop)(x:Nat)(J:AS):Prop:=∀e J',zKV e->zbY x J J'->R (.panic e) J'
theorem zbd.mono{R x J J'}(h:zbd R x J)(K:zbY x J J'):zbd R x J':=λe Z he k=>h e Z he (K.trans k)
theorem zrT(φ:Go.Abs.Own)(b:Bool):famO (cut φ b)=famO φ:=by cases φ<;>rfl
theorem zBs(bs:List UInt8)(n:Nat):(B bs).take n=B (bs.take n):=by simp[B]
theorem zHC(bs:List UInt8)(n:Nat):(B bs).drop n=B (bs.drop n):=by simp[B]
theorem zax{base β x s}{n:Int}(h:Rdr base β x s J)(hn:zcM n s=none->zbd R x J)(hs:∀p s',zcM n s=some (p,s')->∀v J',BV β v p->Rdr base β x s' J'->zaN x J J'->R (.ret v) J'):zzQ G 87 [.ptr x 0,.int .i64 n] J R:=by
 refine zC8 rfl ?_
 obtain⟨bv,lv,ho,hv,hl⟩:=h.cells
 have b1:=hv.one
 have l1:=hl.one
 have bl:=(BV.byt h hv).len
 have hx:=h.hx
 by_cases h0:0<=n
 .by_cases hlen:n<=s.b.length
  .have ht:zcM n s=some (s.b.take n.toNat,{ s with b:=s.b.drop n.toNat }):=by unfold zcM;rw[if_pos ⟨h0,hlen⟩]
   simp[zJb,ho,bl,h0,hlen]
   refine zB (λ_=>?_) (λq=>by cases q)
   obtain⟨k,rfl⟩:∃k:Nat,n=k:=⟨n.toNat,by omega⟩
   simp only[ybe]at ht
   rcases hv with ⟨hs0,rfl⟩|⟨φ,hφ,rfl⟩
   .have hk:k=0:=by rw[hs0]at hlen;simp at hlen;exact hlen
    subst hk
    have hd:List.drop 0 s.b=s.b:=by simp
    simp[ho,splice]
    exact hs _ _ ht _ _ (.inl ⟨by simp,rfl⟩) (h.set (bv:=.nilsl) (.inl ⟨by simp[hs0],rfl⟩) hl) (.set ho rfl)
   .simp[ho,splice]
    refine⟨by omega,?_⟩
    have e1:List.drop k (List.take s.b.length (B s.b))=B (s.b.drop k):=by rw[List.take_of_length_le (by simp)];exact zHC _ _
    rw[e1,zBs]
    exact hs _ _ ht _ _ (.inr ⟨_,by rw[zrT];exact hφ,rfl⟩) (h.set (s':={ s with b:=s.b.drop k }) (.inr ⟨_,by rw[zrT];exact hφ,rfl⟩) hl) (.set ho rfl)
  .have ht:zcM n s=none:=by unfold zcM;rw[if_neg (λq=>hlen q.2)]
   simp[zJb,ho,bl,h0,hlen]
   refine zB (λq=>by cases q) (λ_=>?_)
   simp
   exact hn ht _ _ (.inl rfl) (.refl ..)
 .have ht:zcM n s=none:=by unfold zcM;rw[if_neg (λq=>h0 q.1)]
  simp[zJb,ho,h0]
  refine zB (λq=>by cases q) (λ_=>?_)
  simp
  exact hn ht _ _ (.inl rfl) (.refl ..)
theorem zgc{base β x s}{n:Int}(h:Rdr base β x s J)(hn:zcM n s=none->zbd R x J)(hs:∀p s',zcM n s=some (p,s')->∀v J',BV β v p->Rdr base β x s' J'->zbY x J J'->R (.ret v) J'):zzQ G 87 [.ptr x 0,.int .i64 n] J R :=
 zax h hn λp s' q v J' a b c=>hs p s' q v J' a b c.r
theorem zrU{s:Rs}:zcM 1 s=(zaW s).map λp=>([p.1],p.2):=by
 unfold zcM zaW
 cases h:s.b with
 | nil=>simp
 | cons c r =>
  simp
  omega
theorem zcf{base β x s}(h:Rdr base β x s J)(hn:zaW s=none->zbd R x J)(hs:∀c s',zaW s=some (c,s')->∀v J',(∃φ,famO φ=β/\v=.sl φ 1 [.int .u8 (c.toNat:Int)])->Rdr base β x s' J'->zaN x J J'->R (.ret v) J'):zzQ G 87 [.ptr x 0,.int .i64 1] J R:=by
 refine zax h (λq=>hn ?_) (λp s' q v J' hv hr hk=>?_)
 .rw[zrU,Option.map_eq_none_iff]at q
  exact q
 .rw[zrU,ybB]at q
  obtain⟨⟨c,s1⟩,h1,h2⟩:=q
  simp only[Prod.mk.injEq]at h2
  obtain⟨rfl,rfl⟩:=h2
  refine hs c _ h1 v J' ?_ hr hk
  rcases hv with ⟨h3,_⟩|⟨φ,h3,h4⟩
  .cases h3
  .exact⟨φ,h3,h4⟩
theorem zkI{base β x s}(h:Rdr base β x s J)(hn:zaW s=none->zbd R x J)(hs:∀c s',zaW s=some (c,s')->∀v J',(∃φ,famO φ=β/\v=.sl φ 1 [.int .u8 (c.toNat:Int)])->Rdr base β x s' J'->zbY x J J'->R (.ret v) J'):zzQ G 87 [.ptr x 0,.int .i64 1] J R :=
 zcf h hn λc s' q v J' a b d=>hs c s' q v J' a b d.r
theorem zs9{base β x s}(h:Rdr base β x s J){φ:Go.Abs.Own}(hφ:famO φ=β):zo J.F φ:=by
 cases φ with
 | stat b=>exact trivial
 | fam f b=>exact(h.hβ f hφ.symm).2
theorem wrap_u64(n:Nat):yb4 .u64 (n:Int)=((n%2^64:Nat):Int):=by
 simp[yb4,yao,yap]
theorem zBt{a b:Nat}(ha:a<2^64)(hb:b<2^64):zbo .u64 (λx1 x2=>x1 ||| x2) (a:Int) (b:Int)=((a ||| b:Nat):Int):=by
 have e:∀n:Nat,n<2^64->(BitVec.ofInt 64 (n:Int)).toNat=n:=λn hn=>by
  rw[BitVec.toNat_ofInt]
  omega
 show yb4 .u64 (((BitVec.ofInt 64 (a:Int) ||| BitVec.ofInt 64 (b:Int)).toNat:Nat):Int)=_
 rw[BitVec.toNat_or,e a ha,e b hb,wrap_u64,ydp (Nat.or_lt_two_pow ha hb)]
theorem zBu{u x k:Nat}(hu:u<2^64):orS u x k=u ||| (x*2^k)%2^64:=by
 unfold orS
 rw[Nat.or_mod_two_pow,ydp hu,Nat.shiftLeft_eq]
theorem zDQ{u i:Nat}{c:UInt8}(hu:u<2^64)(hi:i<10):zbo .u64 (λx1 x2=>x1 ||| x2) (u:Int) (ydO.wrap (ydO.wrap (zbo .u8 (λx1 x2=>x1 &&& x2) (c.toNat:Int) 127)*2^min (7*(i:Int)).toNat ydO.bits))=((orS u (c.toNat%128) (7*i):Nat):Int):=by
 have e1:zbo .u8 (λx1 x2=>x1 &&& x2) (c.toNat:Int) 127=((c.toNat%128:Nat):Int):=by
  have:=zuS c
  rw[zBo]at this
  exact this
 have e2:(7*(i:Int)).toNat=7*i:=by omega
 have e3:min (7*i) ydO.bits=7*i:=by
  have:ydO.bits=64:=rfl
  rw[this]
  omega
 have hp:((2:Int)^(7*i))=((2^(7*i):Nat):Int):=by rw[ydv];rfl
 rw[e1,wrap_u64,e2,e3,hp,<-ybd,wrap_u64,ydp (a:=c.toNat%128) (by omega),zBt hu (ydK _ (by decide)),zBu hu]
theorem zHD(u x k:Nat):orS u x k<2^64:=ydK _ (by decide)
theorem zyQ{u i:Nat}(hu:u<2^64)(hi:i<9):zbo .u64 (λx1 x2=>x1 ||| x2) (u:Int) (ydO.wrap (18446744073709551615*2^min (7*(i:Int)+7).toNat ydO.bits))=((orS u (2^64-1) (7*i+7):Nat):Int):=by
 have e2:(7*(i:Int)+7).toNat=7*i+7:=by omega
 have e3:min (7*i+7) ydO.bits=7*i+7:=by
  have:ydO.bits=64:=rfl
  rw[this]
  omega
 have hp:((2:Int)^(7*i+7))=((2^(7*i+7):Nat):Int):=by rw[ydv];rfl
 have e4:(18446744073709551615:Int)=((2^64-1:Nat):Int):=by decide
 rw[e2,e3,hp,e4,<-ybd,wrap_u64,zBt hu (ydK _ (by decide)),zBu hu]
def NuI(base:Nat)(β:Option Nat)(x:Nat)(sg:Bool)(s:Rs)(J:AS)(a:Nat->AV)(Z:AS):Prop:=∃(i u:Nat) (r:List UInt8),i<=10/\ziL sg 10 0 0 s.b=ziL sg (10-i) (7*i) u r/\u<2^64/\a 0=.ptr x 0/\a 1=.bool sg/\a 5=.int .u64 (u:Int)/\a 6=.int .i64 (7*(i:Int))/\Rdr base β x { s with b:=r } Z/\zaN x J Z
theorem zA{base β x s}{sg:Bool}(h:Rdr base β x s J)(hn:zcd false sg s=none->zbd R x J)(hs:∀n s',zcd false sg s=some (n,s')->∀J',Rdr base β x s' J'->zaN x J J'->R (.ret (.int .i64 n)) J'):zzQ G 90 [.ptr x 0,.bool sg] J R:=by
 refine zDb rfl ?_
 have hnp:zcd false sg s=(ziL sg 10 0 0 s.b).map λp=>(p.1,{ s with b:=p.2 }):=by
  unfold zcd
  cases ziL sg 10 0 0 s.b with
  | none=>rfl
  | some p=>simp
 simp[zLZ]
 refine zS (NuI base β x sg s J) (λa _=>match a 6 with|.int _ n=>100-n.toNat|_=>0) ⟨0,0,s.b,by omega,rfl,by omega,by simp,by simp,by simp,by simp,h,.refl h.cells.choose_spec.choose_spec.1⟩ λa Z hI=>?_
 obtain⟨i,u,r,hi,hg,hu,a0,a1,a5,a6,hr,hk⟩:=hI
 by_cases hlt:i<10
 .have hlt':7*(i:Int)<70:=by omega
  obtain⟨k,hk10⟩:∃k,10-i=k+1:=⟨9-i,by omega⟩
  rw[hk10]at hg
  simp[zp4,a0,a1,a5,a6,hlt']
  refine zB (λ_=>?_) (λq=>by cases q)
  simp[a0]
  refine zcf hr (λq=>?_) (λc s' q v J1 hv hr1 hk1=>?_)
  .refine zbd.mono (hn ?_) hk.r
   rw[hnp,hg]
   have:r=[]:=by
    unfold zaW at q
    cases r with
    | nil=>rfl
    | cons c r=>cases q
   subst this
   rw[ziL]
   rfl
  .obtain⟨φ,hφ,rfl⟩:=hv
   have hrd:=zs9 hr1 hφ
   obtain⟨q1,q2,q3⟩:=zm q
   simp only at q1 q2 q3
   rw[q1,ziL]at hg
   have hE:=zDQ (c:=c) hu hlt
   have hlv:=zHD u (c.toNat%128) (7*i)
   generalize orS u (c.toNat%128) (7*i)=u' at *
   by_cases hc:c.toNat<128
   .have hc':(c.toNat:Int)<128:=by omega
    simp only[hc,if_true]at hg
    have fin:∀(n:Nat) J',zDG (if sg=true/\64<=c.toNat/\7*i<57 then orS u' (2^64-1) (7*i+7)else u')=yb4 .i64 (n:Int)->Rdr base β x s' J'->zaN x Z J'->R (.ret (.int .i64 (yb4 .i64 (n:Int)))) J':=λn J' e1 e2 e3=>by
     refine hs _ { s with b:=s'.b } ?_ J' ?_ (hk.trans e3)
     .rw[hnp,hg,e1]
      rfl
     .have:s'={ s with b:=s'.b }:=by
       obtain⟨b',l',n'⟩:=s'
       try simp only at q2 q3
       rw[q2,q3]
      rw[<-this];exact e2
    cases sg with
    | false =>
     simp[hrd,a0,a1,a5,a6,hc',hE]
     exact⟨by omega,fin _ _ (by simp[zDG]) hr1 hk1⟩
    | true =>
     by_cases h64:64<=c.toNat
     .have h64':64<=(c.toNat:Int):=by omega
      by_cases h57:7*i<57
      .have h57':7*(i:Int)<57:=by omega
       have w7:yb4 .i64 (7*(i:Int)+7)=7*(i:Int)+7:=by rw[zb]<;>omega
       have hX:=zyQ (i:=i) hlv (by omega)
       simp[hrd,a0,a1,a5,a6,hc',hE,h64',h57',w7,hX]
       exact⟨by omega,by omega,fin _ _ (by rw[if_pos ⟨rfl,h64,h57⟩];rfl) hr1 hk1⟩
      .have h57':¬7*(i:Int)<57:=by omega
       simp[hrd,a0,a1,a5,a6,hc',hE,h64',h57']
       exact⟨by omega,fin _ _ (by rw[if_neg (λq=>h57 q.2.2)];rfl) hr1 hk1⟩
     .have h64':¬64<=(c.toNat:Int):=by omega
      simp[hrd,a0,a1,a5,a6,hc',hE,h64']
      exact⟨by omega,fin _ _ (by rw[if_neg (λq=>h64 q.2.1)];rfl) hr1 hk1⟩
   .have hc':¬(c.toNat:Int)<128:=by omega
    simp only[hc,if_false]at hg
    have w7:yb4 .i64 (7*(i:Int)+7)=7*(i:Int)+7:=by rw[zb]<;>omega
    simp[hrd,a0,a1,a5,a6,hc',hE,w7]
    have e7:7*(i:Int)+7=7*((i+1:Nat):Int):=by omega
    refine⟨by omega,⟨i+1,u',s'.b,by omega,?_,hlv,by simp[a0],by simp[a1],by simp,by simp[e7],?_,hk.trans hk1⟩,?_⟩
    .rw[hg]
     have:10-(i+1)=k:=by omega
     rw[this]
     rfl
    .have:s'={ s with b:=s'.b }:=by
      obtain⟨b',l',n'⟩:=s'
      try simp only at q2 q3
      rw[q2,q3]
     rw[<-this];exact hr1
    .omega
 .have:i=10:=by omega
  subst this
  have hnone:zcd false sg s=none:=by rw[hnp,hg];rfl
  simp[zp4,a0,a1,a5,a6]
  refine zB (λq=>by cases q) (λ_=>?_)
  simp
  exact hn hnone _ _ (.inl rfl) hk.r
theorem ziP{base β x s}{sg:Bool}(h:Rdr base β x s J)(hn:zcd false sg s=none->zbd R x J)(hs:∀n s',zcd false sg s=some (n,s')->∀J',Rdr base β x s' J'->zbY x J J'->R (.ret (.int .i64 n)) J'):zzQ G 90 [.ptr x 0,.bool sg] J R :=
 zA h hn λn s' q J' a b=>hs n s' q J' a b.r
end
def zdb(J0:AS)(x sz:Nat)(Z:AS)(v:AV)(xs:List AV):Prop:=(xs=[]/\v=.nilsl)\/∃g,v=.sl (.fam g false) sz xs/\J0.nf<=g/\g<Z.nf/\Z.F g=.alive/\¬zcT Z x g
theorem zdb.one{J0 x sz Z v xs}(h:zdb J0 x sz Z v xs):v.known=true/\v.one=true/\v.cells=[v]:=by rcases h with ⟨_,rfl⟩|⟨b,rfl,_⟩<;>simp
theorem zdb.keep{J0 x sz Z Z' v xs}(h:zdb J0 x sz Z v xs)(K:zbY x Z Z'):zdb J0 x sz Z' v xs:=by
 rcases h with h|⟨g,h1,h2,h3,h4,h5⟩
 .exact .inl h
 .exact .inr ⟨g,h1,h2,yag h3 K.nf,(K.fam g h3 h5).trans h4,λu=>h5 (K.use g h3 u)⟩
theorem Rdr.lt{base β x s J}(h:Rdr base β x s J){f:Nat}(u:zcT J x f):f<J.nf:=by
 obtain⟨cs,v,h1,h2,h3⟩:=u
 obtain⟨bv,lv,ho,_,hl⟩:=h.cells
 rw[ho]at h1
 cases h1
 simp at h2
 subst h2
 rcases hl with ⟨_,rfl⟩|⟨g,tos,rfl,hg,hg2,_⟩
 .cases h3
 .simp only[zeG,yaR.injEq]at h3
  omega
theorem Rdr.newF{base β x s Z}(h:Rdr base β x s Z):Rdr base β x s Z.newF:=h.adds (zd.refl Z).newF
theorem Rdr.endF{base β x s Z}(h:Rdr base β x s Z){g:Nat}(hg:base<=g)(hu:¬zcT Z x g):Rdr base β x s (Z.setF g .dead):=by
 obtain⟨bv,lv,ho,hv,hl⟩:=h.cells
 have hb:=h.hb
 refine⟨h.hx,hb,?_,λf hf=>?_,bv,lv,ho,hv,?_⟩
 .have:¬0=g:=by omega
  simp[this,h.h0]
 .obtain⟨h1,h2⟩:=h.hβ f hf
  have:¬f=g:=by omega
  exact⟨h1,by simp[this,h2]⟩
 .rcases hl with h1|⟨f,tos,h1,h2,h3,h4,h5⟩
  .exact .inl h1
  .have:¬f=g:=λe=>hu ⟨_,_,ho,rfl,by rw[h1,<-e];rfl⟩
   exact .inr ⟨f,tos,h1,h2,h3,by simp[this,h4],h5⟩
theorem zbY.endF{x J Z}(K:zbY x J Z){g:Nat}(hg:J.nf<=g):zbY x J (Z.setF g .dead) where
 no:=K.no
 nf:=K.nf
 obj:=K.obj
 fam f a b:=by
  have:¬f=g:=by omega
  simp[this]
  exact K.fam f a b
 use f a u:=K.use f a u
theorem zbY.newF{x J Z}(K:zbY x J Z):zbY x J Z.newF where
 no:=K.no
 nf:=ydN K.nf
 obj:=K.obj
 fam f a b:=by
  have:=K.nf
  have:¬f=Z.nf:=by omega
  simp[this]
  exact K.fam f a b
 use f a u:=K.use f a u
theorem zrV{el:Option TypeId}{base β x s}{J0 Z:AS}{v row:AV}{xs:List AV}{bsz sz:Nat}{K:AV->AS->Prop}(hG:zdb J0 x sz Z v xs)(hR:Rdr base β x s Z)(hK:zbY x J0 Z)(hb:base<=J0.nf)(hrow:row.cells.length=sz)(hl:(xs.length+1)*bsz<=2^47)
  (h:∀v' Z',zdb J0 x sz Z' v' (xs++[row])->Rdr base β x s Z'->zbY x J0 Z'->Z'.objs=Z.objs->Z'.no=Z.no->(zaN x J0 Z->zaN x J0 Z')->K v' Z'):zbT el bsz sz v [row] Z K:=by
 have hn:=hK.nf
 rcases hG with ⟨rfl,rfl⟩|⟨g,rfl,h2,h3,h4,h5⟩
 .have hnu:¬zcT Z.newF x Z.nf:=λu=>by have:=hR.lt (f:=Z.nf) u;omega
  have:=h (.sl (.fam Z.nf false) sz [row]) Z.newF (.inr ⟨Z.nf,rfl,hn,by simp,by simp,hnu⟩) hR.newF hK.newF (by simp) (by simp) (λq=>q.newF)
  simp at hl
  simp
  first|exact this|exact⟨by omega,this⟩
 .have hR':=(hR.endF (by omega) h5).newF
  have hK':=(hK.endF h2).newF
  have hnu:¬zcT (Z.setF g .dead).newF x Z.nf:=λu=>by have:=hR.lt (f:=Z.nf) u;omega
  have:=h (.sl (.fam Z.nf false) sz (xs++[row])) (Z.setF g .dead).newF (.inr ⟨Z.nf,rfl,hn,by simp,by simp,hnu⟩) hR' hK' (by simp) (by simp) (λq=>(q.endF h2).newF)
  simp[h4]
  exact⟨hl,this⟩
section
variable {G : Env} {J : AS} {R : Out -> AS -> Prop}
theorem za4{base β x s}{n:UInt8}(h:Rdr base β x s J)(hn:zD n s=none->zbd R x J)(hs:∀s',zD n s=some s'->∀J',Rdr base β x s' J'->zaN x J J'->R (.ret (.tuple [])) J'):zzQ G 89 [.ptr x 0,.int .u8 (n.toNat:Int)] J R:=by
 refine zDa rfl ?_
 simp[zLY]
 refine zcf h (λq=>hn (by unfold zD;rw[q];rfl)) (λc s1 q v J1 hv hr hk=>?_)
 obtain⟨φ,hφ,rfl⟩:=hv
 have hrd:=zs9 hr hφ
 by_cases hc:c=n
 .have hc':(c.toNat:Int)=(n.toNat:Int):=by rw[hc]
  simp[hrd,hc']
  refine zB (λ_=>?_) (λq=>by cases q)
  simp
  refine zA hr (λq2=>zbd.mono (hn ?_) hk.r) (λm s2 q2 J2 hr2 hk2=>?_)
  .unfold zD
   rw[q]
   simp only[ydx]
   rw[if_pos hc,q2]
   rfl
  .simp
   refine hs s2 ?_ J2 hr2 (hk.trans hk2)
   unfold zD
   rw[q]
   simp only[ydx]
   rw[if_pos hc,q2]
   rfl
 .have hc':¬(c.toNat:Int)=(n.toNat:Int):=λe=>hc (UInt8.toNat_inj.1 (by omega))
  simp[hrd,hc']
  refine zB (λq=>by cases q) (λ_=>?_)
  simp
  refine hn ?_ _ _ (.inl rfl) hk.r
  unfold zD
  rw[q]
  simp only[ydx]
  rw[if_neg hc]
theorem zdF{α:Type}{f:Rs->Option (α × Rs)}{n:Nat}{s:Rs}(hn:1<=n)(h:f s=none):zbI f n s=none:=by
 obtain⟨n,rfl⟩:∃k,n=k+1:=⟨n-1,by omega⟩
 rw[zbI,h]
 rfl
theorem zhz{α:Type}{f:Rs->Option (α × Rs)}{n:Nat}{s s':Rs}{a:α}(hn:1<=n)(h:f s=some (a,s')):zbI f n s=(zbI f (n-1) s').map λq=>(a::q.1,q.2):=by
 obtain⟨n,rfl⟩:∃k,n=k+1:=⟨n-1,by omega⟩
 rw[zbI,h]
 rfl
def TyR(base:Nat)(β:Option Nat)(x:Nat)(N:Int)(s1:Rs)(J:AS)(a:Nat->AV)(Z:AS):Prop:=∃(i:Nat) (done:List Int) (s:Rs),(i:Int)<=max N 0/\zbI (zc8 false) N.toNat s1=(zbI (zc8 false) (N.toNat-i) s).map (λq=>(done++q.1,q.2))/\s.b.length+done.length<=s1.b.length/\a 0=.ptr x 0/\a 4=.int .i64 N/\a 5=.int .i64 (i:Int)/\zdb J x 1 Z (a 2) (done.map (.int .i64))/\Rdr base β x s Z/\zaN x J Z
theorem zta{base β x}{N:Int}{s1:Rs}(hN:N<2^63)(hb1:s1.b.length<=2^38)(hbase:base<=J.nf)(hnone:zbI (zc8 false) N.toNat s1=none->zbd R x J)(fin:∀l s',zbI (zc8 false) N.toNat s1=some (l,s')->∀a Z,zdb J x 1 Z (a 2) (l.map (.int .i64))->Rdr base β x s' Z->zaN x J Z->avc yb9 G 18 zhl (zbE yb9 [.tmp 2] R) a Z)
  {a:Nat->AV} {Z:AS} (hI:TyR base β x N s1 J a Z):avc yb9 G 18 zhk (zab (λa' J'=>TyR base β x N s1 J a' J'/\MU 5 (N.toNat+1) a' J'<MU 5 (N.toNat+1) a Z) (zai 0 (zab (avc yb9 G 18 zhl (zbE yb9 [.tmp 2] R)) (zbE yb9 [.tmp 2] R)))) a Z:=by
 obtain⟨i,done,s,hi,he,hlen,a0,a4,a5,hG,hR,hK⟩:=hI
 have g1:=hG.one
 by_cases hlt:(i:Int)<N
 .have w1:yb4 .i64 ((i:Int)+1)=((i+1:Nat):Int):=by rw[zb]<;>omega
  simp[zhk,a0,a4,a5,hlt,g1]
  refine zcf hR (λq=>?_) (λc s' q v J1 hv hr1 hk1=>?_)
  .refine zbd.mono (hnone ?_) hK.r
   rw[he,zdF (by omega) (by unfold zc8;rw[q];rfl)]
   rfl
  .obtain⟨φ,hφ,rfl⟩:=hv
   have hrd:=zs9 hr1 hφ
   obtain⟨q1,q2,q3⟩:=zm q
   have w2:yb4 .i64 (c.toNat:Int)=(c.toNat:Int):=by have:=c.toNat_lt;rw[zb]<;>omega
   have w3:yb4 .i64 (128-(c.toNat:Int))=128-(c.toNat:Int):=by have:=c.toNat_lt;rw[zb]<;>omega
   have hK1:=hK.trans hk1
   rw[q1]at hlen
   simp only[yac]at hlen
   simp[hrd,w2,w3,g1]
   refine zrV (hG.keep hk1.r) hr1 hK1.r hbase (by simp) (by simp;omega) λv' Z' e1 e2 e3 e4 e5 e6=>?_
   simp[a5,w1]
   refine⟨⟨i+1,done++[128-(c.toNat:Int)],s',by omega,?_,by simp;omega,by simp[a0],by simp[a4],by simp,by simpa using e1,e2,e6 hK1⟩,?_⟩
   .rw[he,zhz (s':=s') (a:=128-(c.toNat:Int)) (by omega) (by unfold zc8;rw[q];simp)]
    have:N.toNat-i-1=N.toNat-(i+1):=by omega
    rw[this]
    cases zbI (zc8 false) (N.toNat-(i+1)) s' with
    | none=>rfl
    | some p=>simp
   .simp only[MU,a5];simp;omega
 .simp[zhk,a4,a5,hlt]
  have hz:N.toNat-i=0:=by omega
  rw[hz]at he
  simp only[zbI,yaG,yb7]at he
  exact fin _ _ he _ _ (by simpa using hG) hR hK
theorem Rdr.mrg{base β x s Z}(h:Rdr base β x s Z){g:Nat}(hg:base<=g)(hu:¬zcT Z x g):Rdr base β x s (Z.mrg g λ_=>false):=by
 obtain⟨bv,lv,ho,hv,hl⟩:=h.cells
 have hb:=h.hb
 refine⟨h.hx,hb,?_,λf hf=>?_,bv,lv,by simpa [AS.mrg]using ho,hv,?_⟩
 .have:¬0=g:=by omega
  simp[AS.mrg,zkb,this,h.h0]
 .obtain⟨h1,h2⟩:=h.hβ f hf
  have:¬f=g:=by omega
  exact⟨h1,by simp[AS.mrg,zkb,this,h2]⟩
 .rcases hl with h1|⟨f,tos,h1,h2,h3,h4,h5⟩
  .exact .inl h1
  .have:¬f=g:=λe=>hu ⟨_,_,ho,rfl,by rw[h1,<-e];rfl⟩
   exact .inr ⟨f,tos,h1,h2,h3,by simp[AS.mrg,zkb,this,h4],h5⟩
theorem zgw{base β x s}(h:Rdr base β x s J)(hb1:s.b.length<=2^38)(hn:zcE false s=none->zbd R x J)(hs:∀l s',zcE false s=some (l,s')->∀v J',Al.IntsE v l->Rdr base β x s' J'->zaN x J J'->R (.ret v) J'):zzQ G 150 [.ptr x 0] J R:=by
 refine Al.merging (zxC rfl ?_)
 simp[zGJ]
 refine zA h (λq=>?_) (λN s1 q J1 hr1 hk1=>?_)
 .intro e J' h1 h2
  exact .inl (hn (by unfold zcE;rw[q];rfl) e J' h1 h2)
 .obtain⟨⟨xx,_,hxx⟩,_,_,n1,n2,_⟩:=zp q
  have hsl:=zbw hxx
  have hsplit:∀l s',zbI (zc8 false) N.toNat s1=some (l,s')->zcE false s=some (l,s'):=λl s' e=>by
   unfold zcE
   rw[q]
   exact e
  simp
  refine zS (TyR base β x N s1 J1) (MU 5 (N.toNat+1)) ⟨0,[],s1,by omega,by cases hh:zbI (zc8 false) N.toNat s1<;>simp[hh],by simp,by simp,by simp,by simp,.inl ⟨rfl,by simp⟩,hr1,.refl hr1.cells.choose_spec.choose_spec.1⟩ λa Z hI=>?_
  refine zta n2 (by omega) hr1.hb.2 (λq2=>?_) (λl s' q2 a Z hG hR hK=>?_) hI
  .intro e J' h1 h2
   refine .inl (hn ?_ e J' h1 (hk1.r.trans h2))
   unfold zcE
   rw[q]
   exact q2
  .have g1:=hG.one
   have he:=hsplit l s' q2
   have hK':=hk1.trans hK
   rcases hG with ⟨h1,h2⟩|⟨g,h1,h2,h3,h4,h5⟩
   .have hl:l=[]:=by simpa using h1
    subst hl
    simp[zhl,h2]
    exact .inl (hs _ _ he _ _ (.inl ⟨rfl,.inl rfl⟩) hR hK')
   .have hb:=hr1.hb.2
    have hnf:=hk1.nf
    have:=hs _ _ he (.sl (.fam 0 false) 1 (l.map (.int .i64))) (Z.mrg g λ_=>false) (.inr ⟨_,rfl⟩) (hR.mrg (by omega) h5) (hK'.mrg (by omega))
    simp[zhl,h1]
    refine Al.MrgOr.merged g (λ_=>false) (by omega) h4 ?_
    simpa [Function.comp_def]using this
end
theorem zHE(l:List UInt8)(c:UInt8):Lib.indexByte l c=match l.findIdx? (·==c)with|some i=>(i:Int)|none=>-1:=by
 induction l with
 | nil=>rfl
 | cons b l ih =>
  rw[Lib.indexByte,ih,ydP]
  by_cases h:(b==c)=true
  .simp[h]
  .simp only[h,if_false,Bool.false_eq_true]
   cases hq:l.findIdx? (·==c)with
   | none=>simp
   | some i =>
    have:¬((i:Int)==-1)=true:=by simp
    simp[this]
theorem zyR{l T:List (UInt8 × W)}(hp:l.Perm T)(hT:∀p∈T,zci T p.1=some p.2)(c:UInt8):zci l c=zci T c:=by
 unfold zci
 cases h:l.find? (λp=>p.1==c)with
 | none =>
  have h1:=ydm.1 h
  have:T.find? (λp=>p.1==c)=none:=ydm.2 λp hp'=>h1 p (hp.mem_iff.2 hp')
  rw[this]
 | some p =>
  have h1:=ydy h
  have h2:=hp.mem_iff.1 (ydz h)
  simp only[beq_iff_eq]at h1
  have h3:=hT p h2
  unfold zci at h3
  rw[h1]at h3
  rw[h3]
  rfl
theorem zl7(c:UInt8):∀(l:List (UInt8 × W)) (i:Nat),zlf (.int .u8 (c.toNat:Int)) (zbQ l) i=some ((l.findIdx? (λp=>p.1==c)).map (·+i))
 | [],i=>rfl
 | p::l,i=>by
  have e:zbQ (p::l)=.int .u8 (p.1.toNat:Int)::zbQ l:=rfl
  rw[e,zlf,ydP]
  have hs:zi1 (.int .u8 (c.toNat:Int)) (.int .u8 (p.1.toNat:Int))=some (p.1==c):=by
   simp only[zi1,if_true,yaR.injEq]
   by_cases h:p.1=c
   .simp[h]
   .have h':¬(c.toNat:Int)=(p.1.toNat:Int):=λe=>h (UInt8.toNat_inj.1 (by omega))
    rw[beq_eq_false_iff_ne.2 h,beq_eq_false_iff_ne.2 h']
  rw[hs]
  cases h:(p.1==c)with
  | true=>simp
  | false =>
   simp only[Bool.false_eq_true,if_false]
   rw[zl7 c l (i+1)]
   cases l.findIdx? (λp=>p.1==c)with
   | none=>rfl
   | some j=>simp;omega
theorem zHF:z9 yb9 53=some (.agg [.int .i64 0,.int .i64 0,.int .i64 0,.int .i64 0,.int .i64 0,.str []]):=by kernel_rfl
theorem zHG:yb9.underlying 184=some (.map 5 53):=by kernel_rfl
theorem zHH(n:Int):zfe yb9 5 (.int .u8 n)=true:=by
 have:yb9.underlying 5=some (.int .u8):=by kernel_rfl
 simp[zfe,this]
theorem zoR{l T:List (UInt8 × W)}(hp:l.Perm T)(hT:∀p∈T,zci T p.1=some p.2)(c:UInt8)(K:AV->Prop):zco yb9 184 (.mp (zbQ l) (zcC l)) (.int .u8 (c.toNat:Int)) true K=(match zci T c with
  | some w=>K (.tuple [w.av,.bool true])
  | none=>K (.tuple [.agg [.int .i64 0,.int .i64 0,.int .i64 0,.int .i64 0,.int .i64 0,.str []],.bool false])):=by
 rw[<-zyR hp hT c]
 unfold zco
 rw[zHG]
 simp only[zHH,true_and,zl7,yaR.injEq,if_true,exists_eq_left']
 unfold zci
 cases h:l.findIdx? (λp=>p.1==c)with
 | none =>
  have:l.find? (λp=>p.1==c)=none:=by
   rw[List.findIdx?_eq_none_iff]at h
   exact ydm.2 λp hp=>by simp[h p hp]
  rw[this]
  simp[zHF]
 | some i =>
  rw[ydn]at h
  obtain⟨hi,h1,h2⟩:=h
  have:l.find? (λp=>p.1==c)=some l[i]:=by
   rw[List.find?_eq_some_iff_getElem]
   exact⟨h1,i,hi,rfl,λj hj=>by simpa using h2 j hj⟩
  rw[this]
  simp[zcC,hi]
section
variable {G : Env} {J : AS} {R : Out -> AS -> Prop}
theorem zfK{s:List UInt8}{c:UInt8}(h:R (.ret (.int .i64 (match s.findIdx? (·==c)with|some i=>(i:Int)|none=>-1))) J):zzQ G 227 [.str s,.int .u8 (c.toNat:Int)] J R:=by
 refine ACalls.of_below λM w cargs S g hc=>?_
 obtain⟨c0,e0,v0⟩:=hc.2 0 _ rfl
 obtain⟨c1,e1,v1⟩:=hc.2 1 _ rfl
 obtain⟨b0,rfl,rfl⟩:=v0.str_inv
 have:c1=.int .u8 (c.toNat:Int):=by cases v1;rfl
 subst this
 have hcargs:cargs=#[.string b0,.int .u8 (c.toNat:Int)]:=by
  have hsz:cargs.size=2:=hc.1
  apply Array.ext
  .simpa using hsz
  .intro i h1 h2
   match i,h1 with
   | 0,_=>simpa using (yaU.1 e0).2
   | 1,_=>simpa using (yaU.1 e1).2
   | i+2,h=>omega
 rw[hcargs]
 refine(Tryz.strings_IndexByte b0 (c.toNat:Int) w).mono λe w' ⟨he,hw⟩=>?_
 subst he hw
 have hcc:(c.toNat:Int).toNat.toUInt8=c:=by simp
 rw[hcc,zHE]
 exact⟨⟨.int .i64 _,_,rfl,λM F w=>.int _ _,h⟩,rfl,rfl,rfl,yah _,λ_ _=>rfl⟩
end
theorem Rdr.setO{base β x s J o cs}(h:Rdr base β x s J)(ho:o≠x):Rdr base β x s (J.setO o cs):=by
 obtain⟨bv,lv,hox,hv,hl⟩:=h.cells
 refine⟨h.hx,h.hb,h.h0,h.hβ,bv,lv,?_,hv,?_⟩
 .have:¬x=o:=λe=>ho e.symm
  simp[this,hox]
 .rcases hl with h1|⟨g,tos,h1,h2,h3,h4,h5⟩
  .exact .inl h1
  .exact .inr ⟨g,tos,h1,h2,h3,h4,h5⟩
theorem zbY.setO{x J Z o cs}(K:zbY x J Z)(ho:J.no<=o)(hox:o≠x):zbY x J (Z.setO o cs) where
 no:=K.no
 nf:=K.nf
 obj p a b:=by
  have:¬p=o:=by omega
  simp[this]
  exact K.obj p a b
 fam f a b:=K.fam f a b
 use f a u:=K.use f a (by
  obtain⟨cs',v,h1,h2,h3⟩:=u
  have:¬x=o:=λe=>hox e.symm
  simp[this]at h1
  exact⟨cs',v,h1,h2,h3⟩)
abbrev zW:List AV:=[.int .i64 0,.int .i64 0,.int .i64 0,.int .i64 0,.int .i64 0,.str []]
def zqE(G:Env)(base:Nat)(β:Option Nat)(x k:Nat):Prop:=∀(J:AS) (R:Out->AS->Prop) (s:Rs) (d:Nat),Rdr base β x s J->s.b.length<k->s.ls.length+s.b.length<=2^38->d<=400->(zH false k d [] s=none->zbd R x J) ->
 (∀n e s',zH false k d [] s=some ((n,e),s')->∀J',Rdr base β x s' J'->zbY x J J'->R (.ret (.tuple [.int .i64 n,.int .u8 (e.toNat:Int)])) J')->zzQ G 152 [.ptr x 0,.int .i64 (d:Int)] J R
section
variable {G : Env} {J : AS} {R : Out -> AS -> Prop}
def FtI(c:UInt8)(o:Nat)(J3:AS)(a:Nat->AV)(Z:AS):Prop:=∃i:Nat,i<=2/\a 1=.int .u8 (c.toNat:Int)/\a 6=.ptr o 0/\a 86=.agg [.str zi6,.str zi7]/\a 87=.int .i64 (i:Int)/\Z=J3/\(1<=i->zi6.findIdx? (·==c)=none)/\(2<=i->zi7.findIdx? (·==c)=none)
theorem zvk(V:zdI G){c:UInt8}{o:Nat}{J3:AS}(ho:o<J3.no)(hoo:J3.objs o=some zW)(hn:zht c=none->∀J',J'=J3->R (.panic (zFh 2)) J')(hs:∀w,zht c=some w->∀J',zd J3 J'->R (.ret w.av) (J'.setO o w.cs)){a:Nat->AV}{Z:AS}(hI:FtI c o J3 a Z):
  avc yb9 G 105 zeC (zab (λa' J'=>FtI c o J3 a' J'/\MU 87 3 a' J'<MU 87 3 a Z) (zai 0 (zab (avc yb9 G 105 zjq (zbE yb9 [.cell 6 53] R)) (zbE yb9 [.cell 6 53] R)))) a Z:=by
 obtain⟨i,hi,a1,a6,a86,a87,rfl,f1,f2⟩:=hI
 have hl:zar.length=16:=rfl
 have hit:∀(tab:List UInt8) (ty:Int) (j:Nat),tab.findIdx? (·==c)=some j->tab.length=16->j<16:=λtab ty j h ht=>by
  rw[ydn]at h
  obtain⟨h,_⟩:=h
  omega
 rcases i with _|_|_|i
 .simp[zeC,a1,a6,a86,a87]
  refine zfK ?_
  cases hf:zi6.findIdx? (·==c)with
  | none =>
   simp[a87]
   refine⟨⟨1,by omega,by simp[a1],by simp[a6],by simp[a86],by simp;rfl,rfl,λ_=>hf,λh=>by omega⟩,?_⟩
   have w1:yb4 .i64 1=1:=rfl
   simp only[MU,a87];simp[w1]
  | some j =>
   have hj:=hit zi6 1 j hf rfl
   have hg:=yau (show j<zar.length by omega)
   have hsp:zht c=some (zks 1 j):=by unfold zht;rw[hf]
   have hj0:0<=(j:Int):=by omega
   simp[hj0]
   refine zfB V.space λx J' A h1 h2 h3=>?_
   have w1:yb4 .i64 1=1:=rfl
   have o1:=(A.obj o ho).trans hoo
   generalize hnm:zar[j]=nm at *
   simp[h3,hg,w1,a6,o1,splice]
   refine⟨by omega,?_⟩
   have:=hs _ hsp J' A
   simpa [zks,W.av,W.cs,hg]using this
 .have f1:=f1 (by omega)
  simp only[ydE,Int.natCast_one]at a87
  simp[zeC,a1,a6,a86,a87]
  refine zfK ?_
  cases hf:zi7.findIdx? (·==c)with
  | none =>
   simp[a87]
   refine⟨⟨2,by omega,by simp[a1],by simp[a6],by simp[a86],by simp;rfl,rfl,λ_=>f1,λ_=>hf⟩,?_⟩
   have w1:yb4 .i64 2=2:=rfl
   simp only[MU,a87];simp[w1]
  | some j =>
   have hj:=hit zi7 2 j hf rfl
   have hg:=yau (show j<zar.length by omega)
   have hsp:zht c=some (zks 2 j):=by unfold zht;rw[f1,hf]
   have hj0:0<=(j:Int):=by omega
   simp[hj0]
   refine zfB V.space λx J' A h1 h2 h3=>?_
   have w1:yb4 .i64 2=2:=rfl
   have o1:=(A.obj o ho).trans hoo
   generalize hnm:zar[j]=nm at *
   simp[h3,hg,w1,a6,o1,splice]
   refine⟨by omega,?_⟩
   have:=hs _ hsp J' A
   simpa [zks,W.av,W.cs,hg]using this
 .have f1:=f1 (by omega)
  have f2:=f2 (by omega)
  have hsp:zht c=none:=by unfold zht;rw[f1,f2]
  simp only[ydE,Nat.reduceAdd]at a87
  simp[zeC,zjq,a87]
  exact hn hsp _ rfl
 .omega
theorem zqF(V:zdI G){base β x s}{k d:Nat}{c:UInt8}(h:Rdr base β x s J)(hd:d<=400)(IH:zqE G base β x k)(hk:s.b.length<=k)(hz:s.ls.length+s.b.length<=2^38)(hn:zay false (λd s=>zH false k d [] s) d c s=none->zbd R x J)
  (hs:∀w s',zay false (λd s=>zH false k d [] s) d c s=some (w,s')->∀J',Rdr base β x s' J'->zbY x J J'->R (.ret w.av) J'):zzQ G 189 [.ptr x 0,.int .u8 (c.toNat:Int),.int .i64 (d:Int)] J R:=by
 obtain⟨ln,hln,vn⟩:=V.nums
 obtain⟨lp,hlp,vp⟩:=V.plain
 have v0:=V.bytes
 have hx:=h.hx
 have lkn:=λc K=>zoR hln (λp hp=>(zhw p hp).1) c K
 have lkp:=λc K=>zoR hlp (λp hp=>(zku p hp).2.1) c K
 refine zxU rfl ?_
 have hc2:((2:Int)<=(c.toNat:Int))=(2<=c.toNat):=by simp;omega
 have hc4:((c.toNat:Int)<=4)=(c.toNat<=4):=by simp;omega
 by_cases hc:2<=c.toNat/\c.toNat<=4
 .have h2:(2:Int)<=(c.toNat:Int):=by omega
  have h4:(c.toNat:Int)<=4:=by omega
  have hin:zay false (λd s=>zH false k d [] s) d c s=if d<400 then zaL (λd s=>zH false k d [] s) d c s else none:=by
   unfold zay
   rw[if_pos hc]
  rw[hin]at hn
  simp only[hin]at hs
  have A1:zd J (J.newO zW):=(zd.refl J).newO
  have hA1n:(J.newO zW).no=J.no+1:=by simp
  have hox:¬x=J.no:=by omega
  have hox':¬J.no=x:=by omega
  by_cases hd2:d<400
  .have hd2':(d:Int)<400:=by omega
   rw[if_pos hd2]at hn
   simp only[hd2,if_true]at hs
   simp[zib,h2,h4,hd2']
   refine zB (λ_=>?_) (λq=>by cases q)
   simp
   refine zkI (h.adds A1) (λq=>?_) (λc1 s2 q v J2 hv hr2 hk2=>?_)
   .exact zbd.mono (hn (by unfold zaL;rw[q];rfl)) (A1.keepR hx)
   .obtain⟨q1,q2,q3⟩:=zm q
    have K2:=(A1.keepR hx).trans hk2
    have m2:=hk2.no
    simp at m2
    have o2:=hk2.obj J.no (by simp) hox'
    have w1:yb4 .i64 (c.toNat:Int)=(c.toNat:Int):=by rw[zb]<;>omega
    have w2:yb4 .i64 (11+(c.toNat:Int))=11+(c.toNat:Int):=by rw[zb]<;>omega
    have w3:yb4 .i64 (11+(c.toNat:Int)-2)=(c.toNat:Int)+9:=by rw[zb]<;>omega
    have w4:yb4 .i64 ((d:Int)+1)=((d+1:Nat):Int):=by rw[zb]<;>omega
    have A3:zd J2 ((J2.newO zW).setO J2.no [.int .i64 ((c.toNat:Int)+9),.int .i64 0,.int .i64 0,.int .i64 0,.int .i64 0,.str []]):=.mk1
    have hx2:=hr2.hx
    have hr3:=hr2.adds A3
    have K3:=K2.trans (A3.keepR hx2)
    rw[q1]at hk hz
    simp only[yac]at hk hz
    simp at o2 hA1n
    have hox2:¬x=J2.no:=by omega
    have hox2':¬J2.no=x:=by omega
    have hne:¬J.no=J2.no:=by omega
    have hne':¬J2.no=J.no:=by omega
    have o3:((J2.newO zW).setO J2.no [.int .i64 ((c.toNat:Int)+9),.int .i64 0,.int .i64 0,.int .i64 0,.int .i64 0,.str []]).objs J.no=some zW:=by simp[hne,o2]
    have o3':((J2.newO zW).setO J2.no [.int .i64 ((c.toNat:Int)+9),.int .i64 0,.int .i64 0,.int .i64 0,.int .i64 0,.str []]).objs J2.no=some [.int .i64 ((c.toNat:Int)+9),.int .i64 0,.int .i64 0,.int .i64 0,.int .i64 0,.str []]:=by simp
    have n3:((J2.newO zW).setO J2.no [.int .i64 ((c.toNat:Int)+9),.int .i64 0,.int .i64 0,.int .i64 0,.int .i64 0,.str []]).no=J2.no+1:=by simp
    simp[w1,w2,w3,w4,splice]
    generalize hJ3:(J2.newO zW).setO J2.no [.int .i64 ((c.toNat:Int)+9),.int .i64 0,.int .i64 0,.int .i64 0,.int .i64 0,.str []]=J3 at *
    have wi:∀q5,zH false k (d+1) [] s2=q5->zaL (λd s=>zH false k d [] s) d c s=q5.bind λq =>
      if c.toNat=4 then
       if q.1.2=5 then(zH false k (d+1) [] q.2).map λr=>(zcD 13 q.1.1 r.1.1,r.2)else some (zcD 13 q.1.1 (-1),q.2)
      else some (zcD ((c.toNat:Int)+9) q.1.1 0,q.2):=λq5 e=>by
     unfold zaL
     rw[q]
     simp only[ydx]
     rw[e]
    refine IH J3 _ s2 (d+1) hr3 (by omega) (by rw[q2];omega) (by omega) (λq5=>?_) (λn e s4 q5 J4 hr4 hk4=>?_)
    .exact zbd.mono (hn (by rw[wi _ q5];rfl)) K3
    .have hw:=wi _ q5
     simp only[ydx]at hw
     obtain⟨i1,i2,i3,_,i5,⟨xx,hxx0,i6⟩,_⟩:=zQ _ _ _ _ _ _ _ _ q5
     have i7:=zbw i6
     have i8:s4.b.length<s2.b.length:=by
      rw[i6]
      have:=ybm.2 hxx0
      simp
      omega
     have isz:=(zcP _ _ _ _ _ _ _ _ q5).1
     rw[q2]at isz
     have K4:=K3.trans hk4
     have m4:=hk4.no
     rw[n3]at m4
     have o4:=(hk4.obj J.no (by omega) hox').trans o3
     have o4':=(hk4.obj J2.no (by omega) hox2').trans o3'
     by_cases hc4':c.toNat=4
     .have hc4i:(c.toNat:Int)=4:=by omega
      rw[if_pos hc4']at hw
      simp[o4,o4',splice,hc4i]
      by_cases he5:e=5
      .subst he5
       simp only[if_true]at hw
       have h5:(UInt8.toNat 5:Int)=5:=rfl
       simp[hne,hne',o4,o4',splice,w4]
       have hr4a:Rdr base β x s4 ((J4.setO J2.no [.int .i64 13,.int .i64 0,.int .i64 0,.int .i64 n,.int .i64 0,.str []]).setO J2.no [.int .i64 13,.int .i64 0,.int .i64 0,.int .i64 n,.int .i64 (-1),.str []]):=(hr4.setO hox2').setO hox2'
       have K4a:zbY x J ((J4.setO J2.no [.int .i64 13,.int .i64 0,.int .i64 0,.int .i64 n,.int .i64 0,.str []]).setO J2.no [.int .i64 13,.int .i64 0,.int .i64 0,.int .i64 n,.int .i64 (-1),.str []]):=(K4.setO (by omega) hox2').setO (by omega) hox2'
       refine IH _ _ s4 (d+1) hr4a (by omega) (by omega) (by omega) (λq6=>?_) (λn2 e2 s6 q6 J6 hr6 hk6=>?_)
       .exact zbd.mono (hn (by rw[hw,q6];rfl)) K4a
       .rw[q6]at hw
        simp only[yaG]at hw
        have o6:=(hk6.obj J.no (by simp;omega) hox').trans (show _=some zW by simp[hne,o4])
        have o6':=(hk6.obj J2.no (by simp;omega) hox2').trans (show _=some [.int .i64 13,.int .i64 0,.int .i64 0,.int .i64 n,.int .i64 (-1),.str []]by simp)
        simp[hne,hne',o6,o6',splice]
        refine hs _ s6 hw _ ((hr6.setO hox2').setO hox') (((K4a.trans hk6).setO (by omega) hox2').setO (by omega) hox')
      .rw[if_neg he5]at hw
       have h5:¬(e.toNat:Int)=5:=λq=>he5 (UInt8.toNat_inj.1 (show e.toNat=(5:UInt8).toNat by have:(5:UInt8).toNat=5:=rfl;omega))
       simp[hne,hne',o4,o4',splice,w4,h5]
       exact hs _ s4 hw _ (((hr4.setO hox2').setO hox2').setO hox') (((K4.setO (by omega) hox2').setO (by omega) hox2').setO (by omega) hox')
     .have hc4i:¬(c.toNat:Int)=4:=by omega
      rw[if_neg hc4']at hw
      simp[hne,hne',o4,o4',splice,hc4i]
      exact hs _ s4 hw _ ((hr4.setO hox2').setO hox') ((K4.setO (by omega) hox2').setO (by omega) hox')
  .have hd2':¬(d:Int)<400:=by omega
   rw[if_neg hd2]at hn
   simp[zib,h2,h4,hd2']
   refine zB (λq=>by cases q) (λ_=>?_)
   simp
   exact hn rfl _ _ (.inr (.inl rfl)) (A1.keepR hx)
 .have hin:zay false (λd s=>zH false k d [] s) d c s=ze4 false c s:=by
   unfold zay
   rw[if_neg hc]
  rw[hin]at hn
  simp only[hin]at hs
  have hlf:ze4 false c s=match zci zga c with
   | some w=>(zcd false (decide (w.op=1)) s).map λp=>({ w with n:=p.1 },p.2)
   | none=>match zci zao c with
    | some w=>if w.op=8\/w.op=9 then(zcM 2 s).map λp=>(w,p.2)else some (w,s)
    | none=>(zht c).map λw=>(w,s):=rfl
  have A1:zd J (J.newO zW):=(zd.refl J).newO
  have A2:∀cs,zd J (((J.newO zW).newO zW).setO (J.no+1) cs):=λcs=>((zd.refl J).newO.newO).setO (by omega)
  have hox:¬x=J.no:=by omega
  have hox':¬J.no=x:=by omega
  have hox1:¬x=J.no+1:=by omega
  have hox1':¬J.no+1=x:=by omega
  have hbr:(2<=(c.toNat:Int)/\(c.toNat:Int)<=4)=False:=by simp;omega
  have start:∀(Q:Prop),(¬(2:Int)<=(c.toNat:Int)->Q)->((2:Int)<=(c.toNat:Int)->¬(c.toNat:Int)<=4->Q)->Q:=λQ f g=>by
   by_cases h2:(2:Int)<=(c.toNat:Int)
   .exact g h2 (by omega)
   .exact f h2
  cases hf:zci zga c with
  | some w =>
   rw[hf]at hlf
   simp only at hlf
   have lk:=λK=>lkn c K
   simp only[hf]at lk
   obtain⟨_,_,_,_,_,_,_,_,_,hwn,hops⟩:=zhw _ (zhv hf)
   refine start _ (λh2=>?_) (λh2 h4=>?_)
   .simp[zib,h2,vn,lk,W.av,W.cs,splice]
    refine ziP (h.adds (A2 _)) (λq=>?_) (λm s1 q J1 hr1 hk1=>?_)
    .exact zbd.mono (hn (by rw[hlf,q];rfl)) ((A2 _).keepR hx)
    .rw[q]at hlf
     have m1:=hk1.no
     simp at m1
     have o1:=(hk1.obj J.no (by simp;omega) hox').trans (show _=some zW by simp)
     have o1':=(hk1.obj (J.no+1) (by simp) hox1').trans (show _=some w.cs by simp[W.cs])
     simp only[W.cs]at o1'
     simp[o1,o1',splice]
     exact hs _ s1 hlf _ ((hr1.setO hox1').setO hox') (((((A2 _).keepR hx).trans hk1).setO (by omega) hox1').setO (by omega) hox')
   .simp[zib,h2,h4,vn,lk,W.av,W.cs,splice]
    refine ziP (h.adds (A2 _)) (λq=>?_) (λm s1 q J1 hr1 hk1=>?_)
    .exact zbd.mono (hn (by rw[hlf,q];rfl)) ((A2 _).keepR hx)
    .rw[q]at hlf
     have m1:=hk1.no
     simp at m1
     have o1:=(hk1.obj J.no (by simp;omega) hox').trans (show _=some zW by simp)
     have o1':=(hk1.obj (J.no+1) (by simp) hox1').trans (show _=some w.cs by simp[W.cs])
     simp only[W.cs]at o1'
     simp[o1,o1',splice]
     exact hs _ s1 hlf _ ((hr1.setO hox1').setO hox') (((((A2 _).keepR hx).trans hk1).setO (by omega) hox1').setO (by omega) hox')
  | none =>
   rw[hf]at hlf
   simp only at hlf
   have lk:=λK=>lkn c K
   simp only[hf]at lk
   have A3:∀cs,zd J ((((J.newO zW).newO zW).setO (J.no+1) zW).newO zW |>.setO (J.no+1+1) cs):=λcs=>((((zd.refl J).newO.newO).setO (by omega)).newO).setO (by omega)
   have hox2':¬J.no+1+1=x:=by omega
   have hq:¬J.no=J.no+1+1:=by omega
   cases hp:zci zao c with
   | some w =>
    rw[hp]at hlf
    simp only at hlf
    have lk2:=λK=>lkp c K
    simp only[hp]at lk2
    by_cases h89:w.op=8\/w.op=9
    .rw[if_pos h89]at hlf
     rcases h89 with e8|e8
     .refine start _ (λh2=>?_) (λh2 h4=>?_)
      .simp[zib,h2,vn,lk,vp,lk2,W.av,W.cs,splice,e8]
       refine zgc (h.adds (A3 _)) (λq=>?_) (λp s1 q v J1 hv hr1 hk1=>?_)
       .exact zbd.mono (hn (by rw[hlf,q];rfl)) ((A3 _).keepR hx)
       .rw[q]at hlf
        have m1:=hk1.no
        simp at m1
        have o1:=(hk1.obj J.no (by simp;omega) hox').trans (show _=some zW by simp;omega)
        have o1':=(hk1.obj (J.no+1+1) (by simp) hox2').trans (show _=some w.cs by simp[W.cs,e8])
        simp only[W.cs,e8]at o1'
        simp[o1,o1',splice]
        have:=hs w s1 hlf (J1.setO J.no w.cs) (hr1.setO hox') ((((A3 _).keepR hx).trans hk1).setO (by omega) hox')
        simpa [W.av,W.cs,e8]using this
      .simp[zib,h2,h4,vn,lk,vp,lk2,W.av,W.cs,splice,e8]
       refine zgc (h.adds (A3 _)) (λq=>?_) (λp s1 q v J1 hv hr1 hk1=>?_)
       .exact zbd.mono (hn (by rw[hlf,q];rfl)) ((A3 _).keepR hx)
       .rw[q]at hlf
        have m1:=hk1.no
        simp at m1
        have o1:=(hk1.obj J.no (by simp;omega) hox').trans (show _=some zW by simp;omega)
        have o1':=(hk1.obj (J.no+1+1) (by simp) hox2').trans (show _=some w.cs by simp[W.cs,e8])
        simp only[W.cs,e8]at o1'
        simp[o1,o1',splice]
        have:=hs w s1 hlf (J1.setO J.no w.cs) (hr1.setO hox') ((((A3 _).keepR hx).trans hk1).setO (by omega) hox')
        simpa [W.av,W.cs,e8]using this
     .refine start _ (λh2=>?_) (λh2 h4=>?_)
      .simp[zib,h2,vn,lk,vp,lk2,W.av,W.cs,splice,e8]
       refine zgc (h.adds (A3 _)) (λq=>?_) (λp s1 q v J1 hv hr1 hk1=>?_)
       .exact zbd.mono (hn (by rw[hlf,q];rfl)) ((A3 _).keepR hx)
       .rw[q]at hlf
        have m1:=hk1.no
        simp at m1
        have o1:=(hk1.obj J.no (by simp;omega) hox').trans (show _=some zW by simp;omega)
        have o1':=(hk1.obj (J.no+1+1) (by simp) hox2').trans (show _=some w.cs by simp[W.cs,e8])
        simp only[W.cs,e8]at o1'
        simp[o1,o1',splice]
        have:=hs w s1 hlf (J1.setO J.no w.cs) (hr1.setO hox') ((((A3 _).keepR hx).trans hk1).setO (by omega) hox')
        simpa [W.av,W.cs,e8]using this
      .simp[zib,h2,h4,vn,lk,vp,lk2,W.av,W.cs,splice,e8]
       refine zgc (h.adds (A3 _)) (λq=>?_) (λp s1 q v J1 hv hr1 hk1=>?_)
       .exact zbd.mono (hn (by rw[hlf,q];rfl)) ((A3 _).keepR hx)
       .rw[q]at hlf
        have m1:=hk1.no
        simp at m1
        have o1:=(hk1.obj J.no (by simp;omega) hox').trans (show _=some zW by simp;omega)
        have o1':=(hk1.obj (J.no+1+1) (by simp) hox2').trans (show _=some w.cs by simp[W.cs,e8])
        simp only[W.cs,e8]at o1'
        simp[o1,o1',splice]
        have:=hs w s1 hlf (J1.setO J.no w.cs) (hr1.setO hox') ((((A3 _).keepR hx).trans hk1).setO (by omega) hox')
        simpa [W.av,W.cs,e8]using this
    .rw[if_neg h89]at hlf
     simp only[not_or]at h89
     obtain⟨e8,e9⟩:=h89
     refine start _ (λh2=>?_) (λh2 h4=>?_)
     .simp[zib,h2,vn,lk,vp,lk2,W.av,W.cs,splice,e8,e9,hq]
      exact hs _ s hlf _ ((h.adds (A3 _)).setO hox') (((A3 _).keepR hx).setO (by omega) hox')
     .simp[zib,h2,h4,vn,lk,vp,lk2,W.av,W.cs,splice,e8,e9,hq]
      exact hs _ s hlf _ ((h.adds (A3 _)).setO hox') (((A3 _).keepR hx).setO (by omega) hox')
   | none =>
    rw[hp]at hlf
    simp only at hlf
    have lk2:=λK=>lkp c K
    simp only[hp]at lk2
    have hq1:¬J.no=J.no+1:=by omega
    have go:∀a,a 1=.int .u8 (c.toNat:Int)->a 6=.ptr J.no 0->a 86=.agg [.str zi6,.str zi7]->a 87=.int .i64 0 ->
      zj5 yb9 G 105 zeC (zai 0 (zab (avc yb9 G 105 zjq (zbE yb9 [.cell 6 53] R)) (zbE yb9 [.cell 6 53] R))) a (((((J.newO zW).newO zW).setO (J.no+1) zW).newO zW).setO (J.no+1+1) zW):=λa e1 e6 e86 e87=>by
     refine zS (FtI c J.no _) (MU 87 3) ⟨0,by omega,e1,e6,e86,by simpa using e87,rfl,λh=>by omega,λh=>by omega⟩ λb Z hI=>?_
     refine zvk V (by simp;omega) (by simp[hq,hq1]) (λq J' e=>?_) (λw q J' A=>?_) hI
     .subst e
      exact hn (by rw[hlf,q];rfl) _ _ (.inl rfl) ((A3 _).keepR hx)
     .have AA:=(A3 zW).trans A
      have:=AA.no
      exact hs w s (by rw[hlf,q];rfl) _ ((h.adds AA).setO hox') ((AA.keepR hx).setO (by omega) hox')
    refine start _ (λh2=>?_) (λh2 h4=>?_)
    .simp[zib,h2,vn,lk,vp,lk2,v0,splice]
     exact go _ (by simp) (by simp) (by simp) (by simp)
    .simp[zib,h2,h4,vn,lk,vp,lk2,v0,splice]
     exact go _ (by simp) (by simp) (by simp) (by simp)
theorem Rdr.push{base β x s Z bv g tos lv l}(h:Rdr base β x s Z)(hv:BV β bv s.b)(ht:All2 Al.RepE tos s.ls)(hG:zdb J x 6 Z lv (l.map W.av))(hσ:base<=J.nf){Z':AS}(e1:Z'.objs=upd Z.objs x (some [bv,.sl (.fam Z.nf false) 1 (tos++[lv]),.int .i64 (s.n:Int)]))(e2:Z'.no=Z.no)(e3:Z'.nf=Z.nf+1)(e4:Z'.F Z.nf=.alive)
  (e5:∀f,f<Z.nf->¬zcT Z x f->Z'.F f=Z.F f) (K:zbY x J Z) (hg:∀f,zcT Z x f->f=g) {v:AV} (hmv:∀f,Go.Abs.mrg f v=v) (hR:∀J',Rdr base β x { s with ls:=s.ls++[l] } J'->zbY x J J'->R (.ret v) J'):Al.MrgOr R (.ret v) Z':=by
 have hb:=h.hb
 have hn:=K.nf
 have base0:∀J':AS,J'.no=Z.no->J'.nf=Z.nf+1->(∀o,o≠x->J'.objs o=Z.objs o)->(∃bv' tos',J'.objs x=some [bv',.sl (.fam Z.nf false) 1 tos',.int .i64 (s.n:Int)]/\BV β bv' s.b/\All2 Al.RepE tos' (s.ls++[l]))->J'.F Z.nf=.alive ->
   (∀f,f<Z.nf->¬zcT Z x f->f<J.nf\/f<base->J'.F f=Z.F f)->R (.ret v) J':=by
  intro J' a1 a2 a3 ⟨bv',tos',a4,a5,a6⟩ a7 a8
  have nb:∀f,f<base->¬zcT Z x f:=λf hf=>h.uses hf
  refine hR J' ⟨by rw[a1];exact h.hx,⟨hb.1,by omega⟩,?_,λf hf=>?_,bv',_,a4,a5,.inr ⟨Z.nf,tos',rfl,hb.2,by omega,a7,a6⟩⟩ ⟨by rw[a1];exact K.no,by omega,λo h1 h2=>(a3 o h2).trans (K.obj o h1 h2),λf h1 h2=>?_,λf h1 h2=>?_⟩
  .rw[a8 0 (by omega) (nb 0 hb.1) (.inr hb.1)];exact h.h0
  .obtain⟨h1,h2⟩:=h.hβ f hf
   exact⟨h1,by rw[a8 f (by omega) (nb f h1) (.inr h1)];exact h2⟩
  .have hu:¬zcT Z x f:=λu=>h2 (K.use f h1 u)
   rw[a8 f (by omega) hu (.inl h1)]
   exact K.fam f h1 h2
  .obtain⟨cs,v,q1,q2,q3⟩:=h2
   rw[a4]at q1
   cases q1
   simp at q2
   subst q2
   simp[zeG]at q3
   omega
 rcases hG with ⟨h1,rfl⟩|⟨f,rfl,h2,h3,h4,h5⟩
 .have hl:l=[]:=by simpa using h1
  subst hl
  exact .inl (base0 Z' e2 e3 (λo ho=>by rw[e1];simp[ho]) ⟨bv,tos++[.nilsl],by rw[e1];simp,hv,ht.append (.cons (.inl ⟨rfl,rfl⟩) .nil)⟩ e4 (λf q1 q2 _=>e5 f q1 q2))
 .refine Al.MrgOr.merged f (λo=>o==x) (by omega) (by rw[e5 f h3 h5];exact h4) ?_
  rw[hmv]
  have hbf:Go.Abs.mrg f bv=bv:=by
   rcases hv with ⟨_,rfl⟩|⟨φ,hφ,rfl⟩
   .simp
   .cases φ with
    | stat b=>simp[B,Function.comp_def]
    | fam g' b =>
     obtain⟨q1,_⟩:=h.hβ g' hφ.symm
     have:¬g'=f:=by omega
     simp[this,B,Function.comp_def]
  refine base0 _ e2 e3 (λo ho=>by simp[AS.mrg,e1,ho]) ⟨bv,tos++[.sl (.fam 0 false) 6 (l.map W.av)],?_,hv,ht.append (.cons (.inr ⟨_,rfl⟩) .nil)⟩ ?_ (λf' q1 q2 q3=>?_)
  .have:¬Z.nf=f:=by omega
   simp[AS.mrg,e1,hbf,Al.mrg_rows ht,this,Function.comp_def,Al.mrg_W]
  .have:¬Z.nf=f:=by omega
   simp[AS.mrg,zkb,this,e4]
  .have:¬f'=f:=by omega
   simp only[AS.mrg,zkb,zaO,this,if_false]
   exact e5 f' q1 q2
theorem zvl{st:Bool}{k d:Nat}{c:UInt8}{s s':Rs}{w:W}(h:zay st (λd s=>zH st k d [] s) d c s=some (w,s')):s'.ls.length+s'.b.length<=s.ls.length+s.b.length/\s'.b.length<=s.b.length:=by
 unfold zay at h
 split at h
 .split at h
  .unfold zaL at h
   simp only[ybA]at h
   obtain⟨⟨c1,s1⟩,h1,⟨⟨n,e⟩,s2⟩,h2,h3⟩:=h
   obtain⟨f1,f2,f3⟩:=zm h1
   have z1:=(zcP _ _ _ _ _ _ _ _ h2).1
   obtain⟨_,_,_,_,_,⟨xx,_,z3⟩,_⟩:=zQ _ _ _ _ _ _ _ _ h2
   have z4:=zbw z3
   have f2':s1.ls.length=s.ls.length:=congrArg ycT f2
   have f1':s.b.length=s1.b.length+1:=by rw[f1];rfl
   simp only at z1 z4
   split at h3
   .split at h3
    .rw[ybB]at h3
     obtain⟨⟨⟨n2,e2⟩,s5⟩,h4,h5⟩:=h3
     simp only[Prod.mk.injEq]at h5
     obtain⟨rfl,rfl⟩:=h5
     have y1:=(zcP _ _ _ _ _ _ _ _ h4).1
     obtain⟨_,_,_,_,_,⟨xx,_,y3⟩,_⟩:=zQ _ _ _ _ _ _ _ _ h4
     have y4:=zbw y3
     simp only at y1 y4
     exact⟨by omega,by omega⟩
    .cases h3
     refine⟨?_,?_⟩<;>simp only<;>omega
   .cases h3
    refine⟨?_,?_⟩<;>simp only<;>omega
  .cases h
 .obtain⟨⟨xx,a1⟩,a2,_⟩:=zce h
  have:=zbw a1
  rw[a2]
  omega
def MBx(x:Nat)(_:Nat->AV)(Z:AS):Nat:=match Z.objs x with
 | some (.sl _ _ xs::_)=>xs.length
 | _=>0
theorem zrW{base β x s Z}(h:Rdr base β x s Z)(a:Nat->AV):MBx x a Z=s.b.length:=by
 obtain⟨bv,lv,ho,hv,hl⟩:=h.cells
 unfold MBx
 rw[ho]
 rcases hv with ⟨h1,rfl⟩|⟨φ,_,rfl⟩
 .simp[h1]
 .simp
def LsR(base:Nat)(β:Option Nat)(x d k0:Nat)(s0:Rs)(J:AS)(a:Nat->AV)(Z:AS):Prop:=∃(k:Nat) (l:List W) (s:Rs),zH false k0 d [] s0=zH false k d l s/\k<=k0/\s.b.length<k/\l.length+s.b.length<=2^38/\s.ls.length+s.b.length<=2^38/\a 0=.ptr x 0/\a 1=.int .i64 (d:Int)/\zdb J x 6 Z (a 6) (l.map W.av)/\Rdr base β x s Z/\zbY x J Z
theorem zqG(V:zdI G){base β x s0}{k0 d:Nat}(hd:d<=400)(hσ:base<=J.nf)(IH:∀j,j<k0->zqE G base β x j)(hn:zH false k0 d [] s0=none->zbd R x J)(hs:∀n e s',zH false k0 d [] s0=some ((n,e),s')->∀J',Rdr base β x s' J'->zbY x J J'->R (.ret (.tuple [.int .i64 n,.int .u8 (e.toNat:Int)])) J')
  {a:Nat->AV} {Z:AS} (hI:LsR base β x d k0 s0 J a Z):avc yb9 G 42 zm5 (zab (λa' J'=>LsR base β x d k0 s0 J a' J'/\MBx x a' J'<MBx x a Z) (zai 0 (zbE yb9 [.tmp 4,.tmp 5] (Al.MrgOr R)))) a Z:=by
 obtain⟨k,l,s,he,hk,hkb,hlb,hsb,a0,a1,hG,hR,hK⟩:=hI
 have hmb:=zrW hR a
 obtain⟨k,rfl⟩:∃j,k=j+1:=⟨k-1,by omega⟩
 rw[zH]at he
 simp[zm5,a0]
 refine zkI hR (λq=>?_) (λc s1 q v J1 hv hr1 hk1=>?_)
 .intro e J' h1 h2
  exact .inl (hn (by rw[he,q];rfl) e J' h1 (hK.trans h2))
 .obtain⟨φ,hφ,rfl⟩:=hv
  have hrd:=zs9 hr1 hφ
  obtain⟨q1,q2,q3⟩:=zm q
  rw[q]at he
  simp only[ydx]at he
  have hK1:=hK.trans hk1
  have hG1:=hG.keep hk1
  have hmb1:=zrW hr1 a
  rw[q1]at hkb hlb hsb hmb
  simp only[yac]at hkb hlb hsb hmb
  by_cases hc:c=11\/c=5
  .rw[if_pos hc]at he
   obtain⟨bv,lv,ho,hbv,hlv⟩:=hr1.cells
   have l1:=hlv.one
   have b1:=hbv.one
   have g1:=hG1.one
   have wl:yb4 .i64 (s1.ls.length:Int)=(s1.ls.length:Int):=by rw[zb]<;>(rw[q2];omega)
   have fin:∀Z':AS,∀tos g,All2 Al.RepE tos s1.ls->(∀f,zcT J1 x f->f=g)->Z'.objs=upd J1.objs x (some [bv,.sl (.fam J1.nf false) 1 (tos++[a 6]),.int .i64 (s1.n:Int)])->Z'.no=J1.no->Z'.nf=J1.nf+1->Z'.F J1.nf=.alive->(∀f,f<J1.nf->¬zcT J1 x f->Z'.F f=J1.F f) ->
     Al.MrgOr R (.ret (.tuple [.int .i64 (s1.ls.length:Int),.int .u8 (c.toNat:Int)])) Z':=λZ' tos g t1 t2 t3 t4 t5 t6 t7 =>
    Rdr.push hr1 hbv t1 hG1 hσ t3 t4 t5 t6 t7 hK1 t2 (by intro f;simp) λJ' r1 r2=>hs _ _ _ he J' r1 r2
   have hcc:(c.toNat:Int)=11\/¬(c.toNat:Int)=11/\(c.toNat:Int)=5:=by
    rcases hc with rfl|rfl
    .exact .inl rfl
    .exact .inr ⟨by decide,rfl⟩
   have hlen:s1.ls.length<=2^38:=by rw[q2];omega
   rcases hlv with ⟨hl0,rfl⟩|⟨g,tos,rfl,t1,t2,t3,t4⟩
   .have wl':yb4 .i64 0=0:=rfl
    have key:=fin ((J1.newF).setO x [bv,.sl (.fam J1.nf false) 1 ([]++[a 6]),.int .i64 (s1.n:Int)]) [] 0 (by rw[hl0];exact .nil) (λf ⟨cs,v,u1,u2,u3⟩=>by rw[ho]at u1;cases u1;simp at u2;subst u2;cases u3) (by simp) (by simp) (by simp) (by simp) (λf h1 h2=>by
     have:¬f=J1.nf:=by omega
     simp[this])
    rw[hl0]at key
    rcases hcc with h1|⟨h1,h2⟩
    .simp[hrd,a0,ho,h1,g1,splice,wl']
     simpa [h1]using key
    .simp[hrd,a0,ho,h1,h2,g1,splice,wl']
     simpa [h2]using key
   .have tl:=t4.length
    have key:=fin (((J1.setF g .dead).newF).setO x [bv,.sl (.fam J1.nf false) 1 (tos++[a 6]),.int .i64 (s1.n:Int)]) tos g t4 (λf ⟨cs,v,u1,u2,u3⟩=>by rw[ho]at u1;cases u1;simp at u2;subst u2;simpa [zeG]using u3.symm) (by simp) (by simp) (by simp) (by simp) (λf h1 h2=>by
     have:¬f=J1.nf:=by omega
     have:¬f=g:=λe=>h2 ⟨_,_,ho,rfl,by rw[e];rfl⟩
     simp[*])
    rcases hcc with h1|⟨h1,h2⟩
    .simp[hrd,a0,ho,h1,g1,splice,t3,tl,wl]
     refine⟨by omega,?_⟩
     simpa [h1]using key
    .simp[hrd,a0,ho,h1,h2,g1,splice,t3,tl,wl]
     refine⟨by omega,?_⟩
     simpa [h2]using key
  .rw[if_neg hc]at he
   have h11:¬(c.toNat:Int)=11:=λe=>hc (.inl (UInt8.toNat_inj.1 (show c.toNat=(11:UInt8).toNat by have:(11:UInt8).toNat=11:=rfl;omega)))
   have h5:¬(c.toNat:Int)=5:=λe=>hc (.inr (UInt8.toNat_inj.1 (show c.toNat=(5:UInt8).toNat by have:(5:UInt8).toNat=5:=rfl;omega)))
   have g1:=hG1.one
   simp[hrd,a0,a1,h11,h5,g1]
   refine zqF V hr1 hd (IH k (by omega)) (by omega) (by rw[q2];omega) (λq5=>?_) (λw s2 q5 J2 hr2 hk2=>?_)
   .intro e J' e1 e2
    exact .inl (hn (by rw[he,q5];rfl) e J' e1 (hK1.trans e2))
   .rw[q5]at he
    simp only[ydx]at he
    have hin:s2.ls.length+s2.b.length<=s1.ls.length+s1.b.length/\s2.b.length<=s1.b.length:=by
     have hx:=zvl q5
     exact hx
    rw[q2]at hin
    have hmb2:=zrW hr2 a
    have g2:=(hG1.keep hk2).one
    simp[W.av,W.cs,g2]
    refine zrV (row:=w.av) (hG1.keep hk2) hr2 (hK1.trans hk2) hσ (by simp[W.av,W.cs]) (by simp;omega) λv' Z' e1 e2 e3 e4 e5 _=>?_
    simp
    refine⟨⟨k,l++[w],s2,he,by omega,by omega,by simp;omega,by omega,by simp[a0],by simp[a1],by simpa using e1,e2,e3⟩,?_⟩
    rw[zrW e2,hmb]
    omega
theorem zrX(V:zdI G){base β x}:∀k j:Nat,j<=k->zqE G base β x j
 | 0,j,hj=>λJ R s d h hk=>by omega
 | k+1,j,hj=>by
  have IH:=zrX V (base:=base) (β:=β) (x:=x) k
  intro J R s d h hk hz hd hn hs
  refine Al.merging (zxE rfl ?_)
  have hb:=h.hb
  simp[zGL]
  refine zS (LsR base β x d j s J) (MBx x) ⟨j,[],s,rfl,yah _,hk,by simp;omega,hz,by simp,by simp,.inl ⟨rfl,by simp⟩,h,.refl ..⟩ λa Z hI=>?_
  exact zqG V hd hb.2 (λi hi=>IH i (by omega)) hn hs hI
theorem zvm{x y:Nat}(hx:x<18446744073709551616)(hy:y<18446744073709551616)(h:R (.ret (.tuple [.int .u64 ((x*y/18446744073709551616:Nat):Int),.int .u64 ((x*y%18446744073709551616:Nat):Int)])) J):zzQ G 188 [.int .u64 (x:Int),.int .u64 (y:Int)] J R:=by
 refine ACalls.of_below λM w cargs S g hc=>?_
 obtain⟨c0,e0,v0⟩:=hc.2 0 _ rfl
 obtain⟨c1,e1,v1⟩:=hc.2 1 _ rfl
 have h0:c0=.int .u64 (x:Int):=by cases v0;rfl
 have h1:c1=.int .u64 (y:Int):=by cases v1;rfl
 subst h0
 subst h1
 have hcargs:cargs=#[.int .u64 (x:Int),.int .u64 (y:Int)]:=by
  have hsz:cargs.size=2:=hc.1
  apply Array.ext
  .simpa using hsz
  .intro i h1 h2
   match i,h1 with
   | 0,_=>simpa using (yaU.1 e0).2
   | 1,_=>simpa using (yaU.1 e1).2
   | i+2,h=>omega
 rw[hcargs]
 refine(Tryz.bits_Mul x y hx hy w).mono λe w' ⟨he,hw⟩=>?_
 subst he hw
 refine⟨⟨.tuple [.int .u64 _,.int .u64 _],_,rfl,λM F w=>.tuple _ _ rfl λj hj hj'=>?_,h⟩,rfl,rfl,rfl,yah _,λ_ _=>rfl⟩
 match j,hj with
 | 0,_=>exact .int _ _
 | 1,_=>exact .int _ _
 | j+2,h=>simp at h;omega
theorem ztb{n:Nat}(hn:n<2^40){K:AV->AS->Prop}:zmG yb9 44 (.int .i64 (n:Int)) (.int .i64 (n:Int)) J K=K (.slm J.no 0 1 n) (J.newO (yaj n (.int .i64 0))):=by
 have e1:zdf yb9 44=some 1:=by kernel_rfl
 have e2:zcn yb9 44=some 8:=by kernel_rfl
 have e3:zbn yb9 44=some (.int .i64 0):=by kernel_rfl
 have e5:zu (yaj n (yc0 .i64 0))=yaj n (yc0 .i64 0):=by
  induction n with
  | zero=>rfl
  | succ n ih =>
   have:=ih (by omega)
   simp only[zu,ydb,yaa]at *
   rw[this]
   rfl
 simp[zmG,e1,e2,e3,AV.cells,AV.known,e5]
 exact⟨λq=>q.2.2,λq=>⟨by omega,by omega,q⟩⟩
theorem ztc{n:Nat}(hn:n<=65536)(h:R (.ret (.tuple [.int .u64 0,.int .u64 (n:Int)])) J):zzQ G 188 [.int .u64 1,.int .u64 (n:Int)] J R:=by
 refine zvm (x:=1) (y:=n) (by decide) (by omega) ?_
 have e1:1*n/18446744073709551616=0:=by omega
 have e2:1*n%18446744073709551616=n:=by omega
 rw[e1,e2]
 exact h
theorem zl8(t z:AV){n k m:Nat}(h:k+m<=n):splice (yaj k t++yaj (n-k) z) k (yaj m t)=yaj (k+m) t++yaj (n-(k+m)) z:=by
 unfold splice
 rw[List.take_left' (by simp),List.drop_append,List.drop_eq_nil_of_le (by simp)]
 simp only[List.length_replicate,ydq,List.drop_replicate,List.replicate_append_replicate]
 congr 2
 omega
theorem zHI{P:Program}{f:FuncId}{args:List AV}
  (h:ACalls P G f args J λo J'=>R o J'\/∃ob sz rows,o=.ret (.slm ob 0 sz rows.length)/\J'.objs ob=some (zu rows)/\(∀x∈rows,x.cells.length=sz)/\R (.ret (.sl (.fam J'.nf false) sz rows)) (J'.famO ob)):ACalls P G f args J R:=by
 intro M w cargs S g c
 refine(h M w cargs S g c).mono λe w' ⟨o,J',M',hR,h2,h3,h4⟩=>?_
 rcases hR with hR|⟨ob,sz,rows,ho,hob,hsz,hR⟩
 .exact⟨o,J',M',hR,h2,h3,h4⟩
 subst ho
 cases e<;>simp only[zbj]at h2
 have hrole:=(h3.obj ob _ hob).2.1
 have E:=zmQ (M:=M') (F:=J'.F) (w:=w') hrole
 have hF:(J'.famO ob).F=upd J'.F M'.nf .alive:=by rw[h3.nf];rfl
 cases h2 with
 | slm _ _ _ _ cap hob' hcap hr =>
 obtain⟨S',v'⟩:=h3.famO hob hsz hcap (λj hj=>by simpa using hr (λm e=>by rw[hrole]at e;cases e) j hj)
 exact⟨_,_,M'.famO (M'.obj ob).1,hR,v',S',by rw[hF];exact h4.trans E⟩
theorem flat_one:∀(l:List AV),(∀x∈l,x.cells=[x])->zu l=l
 | [],_=>rfl
 | x::l,h=>by
  have:=flat_one l λy hy=>h y (by simp[hy])
  simp only[zu,yaa]at *
  rw[this,h x (by simp)]
  rfl
def ReI(t:Int)(n o:Nat)(J:AS)(a:Nat->AV)(Z:AS):Prop:=∃k:Nat,k<=n/\(1<=n->1<=k)/\a 7=.slm o 0 1 n/\a 8=.int .i64 (k:Int)/\zd J Z/\o=J.no/\o<Z.no/\Z.objs o=some (yaj k (.int .i64 t)++yaj (n-k) (.int .i64 0))
theorem zoS{t:Int}{n:Nat}(hn:n<=65536)(h:∀J' g,zd J J'->J.nf<=g->g<J'.nf->J'.F g=.alive->R (.ret (.sl (.fam g false) 1 (yaj n (.int .i64 t)))) J'):zzQ G 151 [.sl (.stat true) 1 [.int .i64 t],.int .i64 (n:Int)] J R:=by
 refine zHI (zxD rfl ?_)
 have w0:¬(n:Int)<0:=by omega
 have w1:yb4 .u64 1=((1:Nat):Int):=rfl
 have w2:yb4 .u64 (n:Int)=((n:Nat):Int):=by rw[wrap_u64];omega
 simp[zGK,w0,w1,w2]
 refine ztc hn ?_
 have w3:yb4 .i64 (n:Int)=(n:Int):=by rw[zb]<;>omega
 have w4:¬(9223372036854775807:Int)<(n:Int):=by omega
 simp[w3,w4,ztb (show n<2^40 by omega),zlQ]
 have hst:∀cs,zd J ((J.newO (yaj n (.int .i64 0))).setO J.no cs):=λcs=>.mk1
 have hmin:ybx 1 n=if n=0 then 0 else 1:=by
  split
  .rename_i h0;subst h0;rfl
  .exact Nat.min_eq_left (by omega)
 refine zS (ReI t n J.no J) (MU 8 (n+1)) ⟨ybx 1 n,Nat.min_le_right _ _,λh=>by rw[hmin,if_neg (by omega)];omega,by simp,by simp,hst _,rfl,by simp,?_⟩ λa Z hI=>?_
 .have e1:List.take n [yc0 .i64 t]=yaj (ybx 1 n) (.int .i64 t):=by
   rw[hmin]
   cases n with
   | zero=>rfl
   | succ n=>simp
  have:=zl8 (.int .i64 t) (.int .i64 0) (n:=n) (k:=0) (m:=ybx 1 n) (by rw[hmin];split<;>omega)
  simp at this
  simp[e1,this]
 .obtain⟨k,hk,hk1,a7,a8,hA,_,ho1,ho⟩:=hI
  by_cases hlt:k<n
  .have hlt':(k:Int)<(n:Int):=by omega
   have hk1:=hk1 (by omega)
   obtain⟨m,hm,hm1,hm2,hm3⟩:∃m,k.min (n-k)=m/\min (n-k) k=m/\k+m<=n/\1<=m:=by
    refine⟨min k (n-k),rfl,Nat.min_comm _ _,?_,?_⟩<;>omega
   have w5:yb4 .i64 ((k:Int)+(m:Int))=((k+m:Nat):Int):=by rw[zb]<;>omega
   simp[zjl,a7,a8,hlt',zlQ,ho,hm,hm1,w5]
   refine⟨by omega,.inl hlt,by omega,⟨k+m,hm2,λ_=>by omega,by simp[a7],by simp,hA.setO (yah _),rfl,by simpa using ho1,?_⟩,?_⟩
   .rw[zl8 _ _ hm2]
    simp
   .simp only[MU,a8];simp;omega
  .have:k=n:=by omega
   subst this
   simp[zjl,zrq,a7,a8]
   refine .inr ⟨J.no,1,yaj k (.int .i64 t),by simp,?_,λx hx=>by rw[(ydJ.1 hx).2];rfl,?_⟩
   .rw[flat_one _ (λx hx=>by rw[(ydJ.1 hx).2];rfl)]
    simpa using ho
   .have hn:=hA.nf
    refine h _ Z.nf ⟨by simpa using hA.no,by simp;omega,λo ho=>?_,λf hf=>?_⟩ hn (by simp) (by simp)
    .have:¬o=J.no:=by omega
     simp[this]
     exact hA.obj o ho
    .have:¬f=Z.nf:=by omega
     simp[this]
     exact hA.fam f hf
end
end Go.Proofs.YtohfclafhegadaaGreatDoor
