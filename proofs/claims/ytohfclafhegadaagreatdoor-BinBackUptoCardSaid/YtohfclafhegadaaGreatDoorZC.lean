/- Parts of the proof of the row BinBackUpto: contracts of functions, each under the conditions that its theorem names. -/
import Derived.Test.YtohfclafhegadaaGreatDoorZB
import Derived.Test.YtohfclafhegadaaGreatDoorZA
import Derived.Test.YtohfclafhegadaaGreatDoorShelf
import Derived.Lib.AppendIntMem
import Derived.Deep.LoopGhost
import Derived.Laws.Runes
import Derived.Laws.RangeString
import Derived.RegionTactic
import Derived.ChangeAlike
import Derived.Deep.RegionWith
import Derived.Lib.ItoaLen
import Derived.Test.YtohfclafhegadaaGreatDoorTie
import Derived.ProofKit
import Derived.OpenShut
import Derived.ChangeOld
import Derived.ChangeSame
import Derived.ChangeVars
import Derived.Lib.LaidTab
import Derived.LaidLaws
import Derived.LaidHandle
import Derived.ShapedOpen
import Derived.Lay
import Derived.LaidMore
import Derived.Test.YtohfclafhegadaaGreatDoorCards
import Derived.Test.YtohfclafhegadaaGreatDoorRows
set_option linter.unusedSimpArgs false
set_option linter.unusedVariables false
set_option maxRecDepth 100000
open List renaming append_assoc->ydB,getElem?_append_right->yaI,ext_getElem?->ydQ,getElem?_set_ne->ydR,getElem?_set_self->ydS,singleton_append->ydT,length_cons->yac,length_nil->ybl,getElem?_drop->yas,replicate->yaj,length_map->ybb,length_append->yab,append_nil->yb7,mem_cons->ybC,set_append_right->ydU,flatMap_cons->yaa,map_append->ydk,drop_eq_getElem_cons->yc2,getElem_mem->yaw,mem_map->yaV,mem_append->ybh,mem_singleton->ydf,map_cons->yaL,findIdx?_eq_some_iff_getElem->ydn,findIdx?_eq_none_iff->ydV,flatten_cons->ydF,cons->ydW,sum_cons->ycV,take_append_drop->ydX,length->ycT,getElem_cons_zero->yaz,getElem?_eq_some_iff->yaq,getElem?_eq_getElem->yau,getElem?_cons_zero->yd0,cons_append->yc1,length_pos_iff->ybm,drop_eq_nil_of_le->yd1,all_append->yd3,mem_map_of_mem->yaW,getElem?_map->ydd,getElem?_eq_none->yb2,getElem_map->yak,not_mem_nil->yde,getD_eq_getElem?_getD->ycQ
open Nat renaming le_refl->yah,le_trans->yai,lt_of_lt_of_le->yag,le_succ_of_le->ydN,zero_add->ydE,lt_or_ge->ydo,add_zero->yaK,not_lt_zero->yaA,succ_lt_succ->ybn,div_add_mod'->yd4
open Option renaming bind_some->ydx,map_some->yaG,bind_eq_some_iff->ybA,map_eq_some_iff->ybB,some->yaR
open Array renaming getElem?_eq_some_iff->yaU
open Go.Proofs.Tryz renaming prog->yb9,func175->ydY,ntmps175->ydZ,underlying53->yd5,underlying3->yd6,underlying9->yd7,underlying5->yd8,underlying184->yd9,underlying182->yea,underlying44->yec,underlying57->yed,underlying28->yee
open Go.IntKind renaming wrap->yb4,i64->yam,min->yeb,max->yan,signed->yao,bits->yap
open Go.Abs.AV renaming int->yc0,str->ycZ,ptr->yc4,nilsl->yc7,pv->yd2
namespace Go.Proofs.YtohfclafhegadaaGreatDoor
open Go Go.Abs
structure zbm(x fo:Nat)(J J':AS):Prop where
 no:J.no<=J'.no
 nf:J.nf<=J'.nf
 obj:∀o,o<J.no->o≠x->o≠fo->J'.objs o=J.objs o
 fam:∀f,f<J.nf->J'.F f=J.F f
theorem zbm.refl(x fo J):zbm x fo J J:=⟨yah _,yah _,λ_ _ _ _=>rfl,λ_ _=>rfl⟩
theorem zbm.trans{x fo J J1 J2}(h:zbm x fo J J1)(h':zbm x fo J1 J2):zbm x fo J J2 where
 no:=yai h.no h'.no
 nf:=yai h.nf h'.nf
 obj o a b c:=by rw[h'.obj o (yag a h.no) b c,h.obj o a b c]
 fam f a:=by rw[h'.fam f (yag a h.nf),h.fam f a]
theorem zaN.f{x fo J J'}(h:zaN x J J'):zbm x fo J J':=⟨h.no,h.nf,λo a b _=>h.obj o a b,h.fam⟩
theorem zbm.setO{x fo J J' o cs}(h:zbm x fo J J')(ho:o=x\/o=fo\/J.no<=o):zbm x fo J (J'.setO o cs) where
 no:=h.no
 nf:=h.nf
 obj p a b c:=by
  have:¬p=o:=by rcases ho with h|h|h<;>omega
  simp[this]
  exact h.obj p a b c
 fam:=h.fam
theorem zbm.adds{x fo J J1 J2}(h:zbm x fo J J1)(A:zd J1 J2):zbm x fo J J2:=h.trans ⟨A.no,A.nf,λo a _ _=>A.obj o a,A.fam⟩
theorem zbm.endF{x fo J Z}(K:zbm x fo J Z){g:Nat}(hg:J.nf<=g):zbm x fo J (Z.setF g .dead) where
 no:=K.no
 nf:=K.nf
 obj:=K.obj
 fam f a:=by
  have:¬f=g:=by omega
  simp[this]
  exact K.fam f a
theorem zbm.newF{x fo J Z}(K:zbm x fo J Z):zbm x fo J Z.newF where
 no:=K.no
 nf:=ydN K.nf
 obj:=K.obj
 fam f a:=by
  have:=K.nf
  have:¬f=Z.nf:=by omega
  simp[this]
  exact K.fam f a
def ze6(R:Out->AS->Prop)(J0:AS):Prop:=∀e J',zKV e->zd J0 J'->R (.panic e) J'
theorem zhA{R J0 J base β x s}(h:ze6 R J0)(A:zd J0 J)(hx:J0.no<=x)(hb:J0.nf<=base)(hR:Rdr base β x s J):zbd R x J:=λe J' he K=>h e J' he ⟨yai A.no K.no,yai A.nf K.nf,λo ho=>by
 have:=A.no
 rw[K.obj o (by omega) (by omega),A.obj o ho],λf hf=>by
 have:=A.nf
 rw[K.fam f (by omega) (hR.uses (by omega)),A.fam f hf]⟩
theorem zbm.adds0{x fo J0 J J'}(K:zbm x fo J J')(A:zd J0 J)(hx:J0.no<=x)(hf:J0.no<=fo):zd J0 J':=⟨yai A.no K.no,yai A.nf K.nf,λo ho=>by
 have:=A.no
 rw[K.obj o (by omega) (by omega) (by omega),A.obj o ho],λf hf=>by
 have:=A.nf
 rw[K.fam f (by omega),A.fam f hf]⟩
theorem zvn{cs:List AV}{i:Nat}{v:AV}(h:i<cs.length):(splice cs i [v])[i]?=some v:=by
 unfold splice
 rw[ydB,yaI (by simp;omega)]
 have:i-(cs.take i).length=0:=by simp;omega
 rw[this]
 rfl
theorem zgd{cs:List AV}{i:Nat}{v:AV}(h:i<cs.length):(splice cs i [v]).length=cs.length:=by
 unfold splice
 simp
 omega
theorem zcU{cs:List AV}{i:Nat}{v:AV}(h:i<cs.length):splice cs i [v]=cs.set i v:=by
 unfold splice
 apply ydQ
 intro j
 rw[ydB]
 rcases Nat.lt_trichotomy j i with h1|h1|h1
 .rw[List.getElem?_append_left (by simp;omega),List.getElem?_take_of_lt h1,ydR (by omega)]
 .subst h1
  rw[yaI (by simp;omega),ydS h]
  have:j-(cs.take j).length=0:=by simp;omega
  rw[this]
  rfl
 .rw[yaI (by simp;omega),ydR (by omega)]
  have e:j-(cs.take i).length=(j-i-1)+1:=by simp;omega
  rw[e]
  simp only[ydT,List.getElem?_cons_succ,yac,ybl,ydE,yas]
  congr 1
  omega
theorem zDR{el:Option TypeId}{base β x s}{J0 Z:AS}{v:AV}{xs ys:List AV}{bsz:Nat}{K:AV->AS->Prop}(hG:zdb J0 x 1 Z v xs)(hR:Rdr base β x s Z)(hn:J0.nf<=Z.nf)(hb:base<=J0.nf)(hl:(xs.length+ys.length)*bsz<=2^47)
  (h:∀v' Z',zdb J0 x 1 Z' v' (xs++ys)->Rdr base β x s Z'->Z'.objs=Z.objs->Z'.no=Z.no->(∀fo,zbm x fo J0 Z->zbm x fo J0 Z')->K v' Z'):zbT el bsz 1 v ys Z K:=by
 rcases hG with ⟨rfl,rfl⟩|⟨g,rfl,h2,h3,h4,h5⟩
 .cases ys with
  | nil =>
   simp
   exact h _ _ (.inl ⟨rfl,rfl⟩) hR rfl rfl λ_ q=>q
  | cons y ys =>
   have hnu:¬zcT Z.newF x Z.nf:=λu=>by have:=hR.lt (f:=Z.nf) u;omega
   have:=h (.sl (.fam Z.nf false) 1 (y::ys)) Z.newF (.inr ⟨Z.nf,rfl,hn,by simp,by simp,hnu⟩) hR.newF (by simp) (by simp) (λ_ q=>q.newF)
   simp at hl
   simp
   exact⟨by omega,this⟩
 .have hR':=(hR.endF (by omega) h5).newF
  have hnu:¬zcT (Z.setF g .dead).newF x Z.nf:=λu=>by have:=hR.lt (f:=Z.nf) u;omega
  have:=h (.sl (.fam Z.nf false) 1 (xs++ys)) (Z.setF g .dead).newF (.inr ⟨Z.nf,rfl,hn,by simp,by simp,hnu⟩) hR' (by simp) (by simp) (λ_ q=>(q.endF h2).newF)
  simp[h4]
  exact⟨hl,this⟩
section
variable {G : Env} {J : AS} {R : Out -> AS -> Prop}
theorem zdb.setO{J0 x sz Z v xs o cs}(h:zdb J0 x sz Z v xs)(ho:o≠x):zdb J0 x sz (Z.setO o cs) v xs:=by
 rcases h with h|⟨g,h1,h2,h3,h4,h5⟩
 .exact .inl h
 .refine .inr ⟨g,h1,h2,h3,h4,λ⟨cs',v,u1,u2,u3⟩=>h5 ?_⟩
  have:¬x=o:=λe=>ho e.symm
  simp[this]at u1
  exact⟨cs',v,u1,u2,u3⟩
def GpR(base:Nat)(β:Option Nat)(x fo off:Nat)(cs:List AV)(N:Int)(s1:Rs)(J:AS)(a:Nat->AV)(Z:AS):Prop:=∃(i:Nat) (done:List (List Int)) (s:Rs) (lv:AV),(i:Int)<=max N 0/\zbI (zbv false) N.toNat s1=(zbI (zbv false) (N.toNat-i) s).map (λq=>(done++q.1,q.2))/\s.n=s1.n+done.flatten.length/\s.b.length<=s1.b.length/\s.n<=65536/\s.ls=s1.ls /\
 a 0=.ptr x 0/\a 1=.ptr fo off/\a 8=.int .i64 N/\a 9=.int .i64 (i:Int)/\Z.objs fo=some (splice cs (off+2) [lv])/\zdb J x 1 Z lv (done.flatten.map (.int .i64))/\Rdr base β x s Z/\zbm x fo J Z/\fo<Z.no
theorem ztd{base β x fo off cs J0}{N:Int}{s1:Rs}(hN:N<2^63)(hbase:base<=J.nf)(hfx:fo≠x)(hlen:off+5<=cs.length)(hA:zd J0 J)(hx0:J0.no<=x)(hf0:J0.no<=fo)(hb0:J0.nf<=base)(hnone:zbI (zbv false) N.toNat s1=none->ze6 R J0)
  (fin:∀l s',zbI (zbv false) N.toNat s1=some (l,s')->∀a Z lv,a 0=.ptr x 0->a 1=.ptr fo off->Z.objs fo=some (splice cs (off+2) [lv])->zdb J x 1 Z lv (l.flatten.map (.int .i64))->Rdr base β x s' Z->zbm x fo J Z->fo<Z.no->s'.b.length<=s1.b.length->s'.ls=s1.ls->avc yb9 G 63 zm4 (zbE yb9 [] R) a Z)
  {a:Nat->AV} {Z:AS} (hI:GpR base β x fo off cs N s1 J a Z):avc yb9 G 63 zki (zab (λa' J'=>GpR base β x fo off cs N s1 J a' J'/\MU 9 (N.toNat+1) a' J'<MU 9 (N.toNat+1) a Z) (zai 0 (zab (avc yb9 G 63 zm4 (zbE yb9 [] R)) (zbE yb9 [] R)))) a Z:=by
 obtain⟨i,done,s,lv,hi,he,hsn,hsb,hs65,hsl,a0,a1,a8,a9,hfo,hG,hR,hK,hfn⟩:=hI
 have g1:=hG.one
 have hNA:∀{Z' s'},Rdr base β x s' Z'->zbm x fo J Z'->zbI (zbv false) N.toNat s1=none->zbd R x Z':=λhr hk hq=>zhA (hnone hq) (hk.adds0 hA hx0 hf0) hx0 hb0 hr
 by_cases hlt:(i:Int)<N
 .have w1:yb4 .i64 ((i:Int)+1)=((i+1:Nat):Int):=by rw[zb]<;>omega
  simp[zki,a0,a1,a8,a9,hlt]
  refine zA hR (λq=>?_) (λm s2 q Z2 hr2 hk2=>?_)
  .exact hNA hR hK (by rw[he,zdF (by omega) (by unfold zbv;rw[q];rfl)];rfl)
  .have hK2:=hK.trans hk2.f
   obtain⟨⟨xx,_,hxx⟩,e1',e2,n1,n2,_⟩:=zp q
   have hsl2:=zbw hxx
   obtain⟨bv,lsv,ho2,hbv,hlv⟩:=hr2.cells
   have b1:=hbv.one
   have l1:=hlv.one
   have hfo2:=(hk2.obj fo hfn hfx).trans hfo
   have w6:yb4 .i64 (65536-(s2.n:Int))=65536-(s2.n:Int):=by rw[zb]<;>omega
   have gno:∀q,¬(0<=m/\m<=65536-(s2.n:Int))->zbv false s=q->q=none:=λq' hno hq=>by
    rw[<-hq]
    unfold zbv
    rw[q]
    simp only[ydx]
    rw[if_neg hno]
   by_cases hm0:0<=m
   .by_cases hm1:m<=65536-(s2.n:Int)
    .obtain⟨k,rfl⟩:∃k:Nat,m=k:=⟨m.toNat,by omega⟩
     have hk65:s2.n+k<=65536:=by omega
     have w7:yb4 .i64 ((s2.n:Int)+(k:Int))=((s2.n+k:Nat):Int):=by rw[zb]<;>omega
     have hgr:zbv false s=(zc8 false { s2 with n:=s2.n+k }).map λq=>(yaj k q.1,q.2):=by
      unfold zbv
      rw[q]
      simp only[ydx,Int.toNat_natCast]
      rw[if_pos ⟨hm0,hm1⟩]
     simp[a0,a1,hm0,ho2,w6,hm1]
     refine zB (λ_=>?_) (λq=>by cases q)
     have hr3:Rdr base β x { s2 with n:=s2.n+k } (Z2.setO x [bv,lsv,.int .i64 ((s2.n+k:Nat):Int)]):=hr2.set (s':={ s2 with n:=s2.n+k }) hbv hlv
     have hK3:zbm x fo J (Z2.setO x [bv,lsv,.int .i64 ((s2.n+k:Nat):Int)]):=hK2.setO (.inl rfl)
     have hfx':¬fo=x:=hfx
     have hxf':¬x=fo:=λe=>hfx e.symm
     have hfo3:(Z2.setO x [bv,lsv,.int .i64 ((s2.n+k:Nat):Int)]).objs fo=some (splice cs (off+2) [lv]):=by simp[hfx',hfo2]
     have hfn2:=hk2.no
     have hget:(splice cs (off+2) [lv])[off+2]?=some lv:=zvn (by omega)
     have hset:∀v',splice (splice cs (off+2) [lv]) (off+2) [v']=splice cs (off+2) [v']:=λv'=>by
      rw[zcU (by rw[zgd (by omega)];omega),zcU (by omega),zcU (by omega),List.set_set]
     have hCl:(splice cs (off+2) [lv]).length=cs.length:=zgd (by omega)
     generalize splice cs (off+2) [lv]=C at *
     simp[a0,a1,ho2,b1,l1,w7,splice,hfx',hxf',hfo2,hget]
     generalize hZ3:Z2.setO x [bv,lsv,.int .i64 ((s2.n:Int)+(k:Int))]=Z3 at *
     have hZ3':Z2.setO x [bv,lsv,.int .i64 ((s2.n+k:Nat):Int)]=Z3:=hZ3
     rw[hZ3']at hr3 hK3 hfo3
     have hn3:Z3.no=Z2.no:=by rw[<-hZ3];simp
     refine zcf hr3 (λq4=>?_) (λc s4 q4 v Z4 hv hr4 hk4=>?_)
     .refine hNA hr3 hK3 ?_
      rw[he,zdF (by omega) (by rw[hgr];unfold zc8;rw[q4];rfl)]
      rfl
     .obtain⟨φ,hφ,rfl⟩:=hv
      have hrd:=zs9 hr4 hφ
      obtain⟨z1,z2,z3⟩:=zm q4
      simp only at z1 z2 z3
      have hfo4:=(hk4.obj fo (by omega) hfx).trans hfo3
      have hK4:=hK3.trans hk4.f
      have hn4:=hk4.no
      have w8:yb4 .i64 (c.toNat:Int)=(c.toNat:Int):=by have:=c.toNat_lt;rw[zb]<;>omega
      have w9:yb4 .i64 (128-(c.toNat:Int))=128-(c.toNat:Int):=by have:=c.toNat_lt;rw[zb]<;>omega
      simp[a0,a1,hfo4,hget,hrd,w8,w9]
      refine zoS (by omega) λZ5 g5 A5 ng5 lg5 al5=>?_
      have hr5:=hr4.adds A5
      have hK5:=hK4.adds A5
      have hfo5:=(A5.obj fo (by omega)).trans hfo4
      have hn5:=A5.no
      have hG5:zdb J x 1 Z5 lv (done.flatten.map (.int .i64)):=by
       have h1:zdb J x 1 Z2 lv (done.flatten.map (.int .i64)):=hG.keep hk2.r
       have h2:zdb J x 1 Z3 lv (done.flatten.map (.int .i64)):=by
        rw[<-hZ3]
        rcases h1 with h|⟨g,q1,q2,q3,q4,q5⟩
        .exact .inl h
        .refine .inr ⟨g,q1,q2,q3,q4,λ⟨cs',v,u1,u2,u3⟩=>q5 ?_⟩
         simp at u1
         subst u1
         exact⟨_,_,ho2,u2,u3⟩
       exact(h2.keep hk4.r).keep (A5.keepR hr4.hx)
      have hmp:yaj k (yc0 .i64 (128-(c.toNat:Int)))=(yaj k (128-(c.toNat:Int))).map (.int .i64):=by simp
      have hdl:done.flatten.length<=65536:=by omega
      simp[hfo5,hget,al5]
      rw[hmp]
      refine zDR hG5 hr5 hK5.nf hbase (by rw[ybb,ybb,List.length_replicate];omega) λv' Z6 e1 e2' e3 e4 e5=>?_
      have hv1:=e1.one
      have hfo6:Z6.objs fo=some C:=(congrFun e3 fo).trans hfo5
      simp[a1,a9,hfo6,hv1,w1,hCl]
      refine⟨by omega,⟨i+1,done++[yaj k (128-(c.toNat:Int))],s4,v',by omega,?_,?_,?_,?_,?_,by simp[a0],by simp[a1],by simp[a8],by simp,?_,?_,?_,?_,?_⟩,?_⟩
      .rw[he,zhz (s':=s4) (a:=yaj k (128-(c.toNat:Int))) (by omega) (by rw[hgr];unfold zc8;rw[q4];simp)]
       have:N.toNat-i-1=N.toNat-(i+1):=by omega
       rw[this]
       cases zbI (zbv false) (N.toNat-(i+1)) s4 with
       | none=>rfl
       | some p=>simp
      .rw[List.flatten_append,yab,z3,e2,hsn]
       simp
       omega
      .rw[z1]at hsl2
       simp only[yac]at hsl2
       omega
      .omega
      .rw[z2,e1',hsl]
      .simp[hset]
      .have e7:(done++[yaj k (128-(c.toNat:Int))]).flatten.map (yc0 .i64)=done.flatten.map (.int .i64)++(yaj k (128-(c.toNat:Int))).map (.int .i64):=by simp
       rw[e7]
       exact e1.setO hfx
      .exact e2'.setO hfx
      .exact(e5 fo hK5).setO (.inr (.inl rfl))
      .simp;omega
      .simp only[MU,a9];simp;omega
    .have hg:=gno _ (λh=>hm1 h.2) rfl
     simp[a0,a1,hm0,ho2,w6,hm1]
     refine zB (λq=>by cases q) (λ_=>?_)
     simp
     exact hNA hr2 hK2 (by rw[he,zdF (by omega) hg];rfl) _ _ (.inr (.inr rfl)) (.refl ..)
   .have hg:=gno _ (λh=>hm0 h.1) rfl
    simp[a0,a1,hm0]
    refine zB (λq=>by cases q) (λ_=>?_)
    simp
    exact hNA hr2 hK2 (by rw[he,zdF (by omega) hg];rfl) _ _ (.inr (.inr rfl)) (.refl ..)
 .simp[zki,a8,a9,hlt]
  have hz:N.toNat-i=0:=by omega
  rw[hz]at he
  simp only[zbI,yaG,yb7]at he
  exact fin _ _ he _ _ lv (by simpa using a0) (by simpa using a1) hfo hG hR hK hfn hsb hsl
theorem Rdr.mrgP{base β x s Z}(h:Rdr base β x s Z){g:Nat}{p:Nat->Bool}(hp:p x=false)(hg:base<=g)(hu:¬zcT Z x g):Rdr base β x s (Z.mrg g p):=by
 obtain⟨bv,lv,ho,hv,hl⟩:=h.cells
 have hb:=h.hb
 refine⟨h.hx,hb,?_,λf hf=>?_,bv,lv,by simpa [AS.mrg,hp]using ho,hv,?_⟩
 .have:¬0=g:=by omega
  simp[AS.mrg,zkb,this,h.h0]
 .obtain⟨h1,h2⟩:=h.hβ f hf
  have:¬f=g:=by omega
  exact⟨h1,by simp[AS.mrg,zkb,this,h2]⟩
 .rcases hl with h1|⟨f,tos,h1,h2,h3,h4,h5⟩
  .exact .inl h1
  .have:¬f=g:=λe=>hu ⟨_,_,ho,rfl,by rw[h1,<-e];rfl⟩
   exact .inr ⟨f,tos,h1,h2,h3,by simp[AS.mrg,zkb,this,h4],h5⟩
theorem zbm.mrg{x fo J Z}(K:zbm x fo J Z){g:Nat}(hg:J.nf<=g):zbm x fo J (Z.mrg g λo=>o==fo) where
 no:=K.no
 nf:=K.nf
 obj o a b c:=by
  have:¬o=fo:=c
  simpa [AS.mrg,this]using K.obj o a b c
 fam f a:=by
  have:¬f=g:=by omega
  simp[AS.mrg,zkb,this]
  exact K.fam f a
theorem zte(f:AV->AV)(cs:List AV)(i:Nat)(v:AV):(splice cs i [v]).map f=splice (cs.map f) i [f v]:=by
 simp[splice]
theorem zlv(V:zdI G){base β x s fo off cs f J0}(h:Rdr base β x s J)(hfx:fo≠x)(hfn:fo<J.no)(ho:J.objs fo=some cs)(hc2:cs[off+2]?=some .nilsl)(hlen:off+5<=cs.length)(hfl:f.locals=[])(hsz:s.b.length<=2^37)(hs65:s.n<=65536)(hmr:∀g,J.nf<=g->cs.map (Go.Abs.mrg g)=cs)
  (hA:zd J0 J) (hx0:J0.no<=x) (hf0:J0.no<=fo) (hb0:J0.nf<=base) (hn:zX false f s=none->ze6 R J0)
  (hs:∀f' s',zX false f s=some (f',s')->∀J' lv tv g,Al.IntsE lv f'.locals->Al.LstE g tv f'.lists->(f'.lists≠[]->J.nf<=g/\g<J'.nf/\J'.F g=.alive)->Rdr base β x s' J'->zbm x fo J J'->J'.objs fo=some (splice (splice cs (off+2) [lv]) (off+4) [tv])->R (.ret (.tuple [])) J'):zzQ G 91 [.ptr x 0,.ptr fo off] J R:=by
 have hnM:ze6 R J0->ze6 (Al.MrgOr R) J0:=λq e J' a b=>.inl (q e J' a b)
 refine Al.merging (zDc rfl ?_)
 have hbase:=h.hb.2
 simp[zL0]
 refine zA h (λq=>zhA (hnM (hn (by unfold zX;rw[q];rfl))) hA hx0 hb0 h) (λm1 s1 q1 J1 hr1 hk1=>?_)
 have K1:zbm x fo J J1:=hk1.f
 simp
 refine zA hr1 (λq=>zhA (hnM (hn (by unfold zX;rw[q1];simp only[ydx];rw[q];rfl))) (K1.adds0 hA hx0 hf0) hx0 hb0 hr1) (λN s2 q2 J2 hr2 hk2=>?_)
 have K2:zbm x fo J J2:=K1.trans hk2.f
 obtain⟨⟨xx,_,hxx⟩,z1,z2,_⟩:=zp q1
 obtain⟨⟨yy,_,hyy⟩,z3,z4,n1,n2,_⟩:=zp q2
 have l1:=zbw hxx
 have l2:=zbw hyy
 have hfn1:=hk1.no
 have hfn2:=hk2.no
 have ho2:J2.objs fo=some cs:=(hk2.obj fo (by omega) hfx).trans ((hk1.obj fo hfn hfx).trans ho)
 have A2:=K2.adds0 hA hx0 hf0
 have hfp:zX false f s=(zbI (zbv false) N.toNat s2).bind λl=>(zH false (l.2.b.length+1) 0 [] { l.2 with ls:=[] }).map λr=>({ f with locals:=f.locals++l.1.flatten,lists:=r.2.ls },r.2):=by
  unfold zX
  rw[q1]
  simp only[ydx]
  rw[q2]
  rfl
 have hcs0:splice cs (off+2) [.nilsl]=cs:=by
  rw[zcU (by omega)]
  apply ydQ
  intro j
  by_cases hj:j=off+2
  .subst hj
   rw[ydS (by omega),hc2]
  .rw[ydR (by omega)]
 simp
 refine zS (GpR base β x fo off cs N s2 J2) (MU 9 (N.toNat+1)) ⟨0,[],s2,.nilsl,by omega,by cases hh:zbI (zbv false) N.toNat s2<;>simp[hh],by simp,yah _,by omega,rfl,by simp,by simp,by simp,by simp,by rw[hcs0];exact ho2,.inl ⟨rfl,rfl⟩,hr2,.refl ..,by omega⟩ λa Z hI=>?_
 refine ztd n2 hr2.hb.2 hfx hlen A2 hx0 hf0 hb0 (λq=>hnM (hn (by rw[hfp,q];rfl))) (λl s3 q3 a Z lv a0 a1 hfo hG hR hK hfn3 hl3 hls3=>?_) hI
 rw[q3]at hfp
 simp only[ydx]at hfp
 have K3:=K2.trans hK
 obtain⟨bv,lsv,hox,hbv,hlv⟩:=hR.cells
 have b1:=hbv.one
 have hfx':¬fo=x:=hfx
 have hxf':¬x=fo:=λe=>hfx e.symm
 simp[zm4,a0,a1,hox,splice]
 have hr4:Rdr base β x { s3 with ls:=[] } (Z.setO x [bv,.nilsl,.int .i64 (s3.n:Int)]):=hR.set (s':={ s3 with ls:=[] }) hbv (.inl ⟨rfl,rfl⟩)
 have K4:zbm x fo J (Z.setO x [bv,.nilsl,.int .i64 (s3.n:Int)]):=K3.setO (.inl rfl)
 have nou:∀g,¬zcT (Z.setO x [bv,.nilsl,.int .i64 (s3.n:Int)]) x g:=λg ⟨cs',v,u1,u2,u3⟩=>by
  simp at u1
  subst u1
  simp at u2
  subst u2
  cases u3
 have hfo4:(Z.setO x [bv,.nilsl,.int .i64 (s3.n:Int)]).objs fo=some (splice cs (off+2) [lv]):=by simp[hfx',hfo]
 have hG4:zdb J2 x 1 (Z.setO x [bv,.nilsl,.int .i64 (s3.n:Int)]) lv (l.flatten.map (.int .i64)):=by
  rcases hG with h|⟨g,h1,h2,h3,h4,h5⟩
  .exact .inl h
  .exact .inr ⟨g,h1,h2,h3,h4,nou g⟩
 have hn4:(Z.setO x [bv,.nilsl,.int .i64 (s3.n:Int)]).no=Z.no:=by simp
 have hnf4:(Z.setO x [bv,.nilsl,.int .i64 (s3.n:Int)]).nf=Z.nf:=by simp
 generalize Z.setO x [bv,.nilsl,.int .i64 (s3.n:Int)]=Z4 at *
 refine zrX V (s3.b.length+1) (s3.b.length+1) (yah _) Z4 _ { s3 with ls:=[] } 0 hr4 (by simp) (by simp;omega) (by omega) (λq4=>zhA (hnM (hn (by rw[hfp,q4];rfl))) (K4.adds0 hA hx0 hf0) hx0 hb0 hr4) (λn e s5 q5 Z5 hr5 hk5=>?_)
 rw[q5]at hfp
 simp only[yaG]at hfp
 have K5:zbm x fo J Z5:=K4.trans ⟨hk5.no,hk5.nf,λo a b _=>hk5.obj o a b,λf a=>hk5.fam f a (nou f)⟩
 have hn5:=hk5.no
 have hfo5:=(hk5.obj fo (by omega) hfx).trans hfo4
 obtain⟨bv5,tv,hox5,hbv5,htv⟩:=hr5.cells
 have t1:=htv.one
 have hG5:=hG4.keep hk5
 have hLst:∃g,Al.LstE g tv s5.ls/\(s5.ls≠[]->Z4.nf<=g/\g<Z5.nf/\Z5.F g=.alive/\zcT Z5 x g):=by
  rcases htv with ⟨h1,h2⟩|⟨g,tos,h1,h2,h3,h4,h5⟩
  .exact⟨0,.inl ⟨h1,h2⟩,λq=>absurd h1 q⟩
  .have hu:zcT Z5 x g:=⟨_,_,hox5,rfl,by rw[h1];rfl⟩
   refine⟨g,.inr ⟨tos,h1,h5⟩,λ_=>⟨?_,h3,h4,hu⟩⟩
   by_cases hlt:g<Z4.nf
   .exact absurd (hk5.use g hlt hu) (nou g)
   .omega
 obtain⟨g,hL,hLg⟩:=hLst
 have hsl:(splice cs (off+2) [lv]).length=cs.length:=zgd (by omega)
 have fin:∀(Z6:AS) (lv':AV),Al.IntsE lv' (f.locals++l.flatten)->Rdr base β x s5 Z6->zbm x fo J Z6->Z6.objs fo=some (splice (splice cs (off+2) [lv']) (off+4) [tv])->(s5.ls≠[]->J.nf<=g/\g<Z6.nf/\Z6.F g=.alive)->R (.ret (.tuple [])) Z6:=λZ6 lv' e1 e2 e3 e4 e5 =>
  hs _ _ hfp Z6 lv' tv g e1 hL e5 e2 e3 e4
 simp[a0,a1,hox5,t1,hfo5]
 refine⟨by rw[hsl];omega,?_⟩
 have hr6:=hr5.setO (o:=fo) (cs:=splice (splice cs (off+2) [lv]) (off+4) [tv]) hfx
 have K6:=K5.setO (o:=fo) (cs:=splice (splice cs (off+2) [lv]) (off+4) [tv]) (.inr (.inl rfl))
 have hnfs:J.nf<=J2.nf:=K2.nf
 rcases hG5 with ⟨e1,rfl⟩|⟨gl,rfl,e2,e3,e4,e5⟩
 .have hl0:l.flatten=[]:=by simpa using e1
  refine .inl (fin _ .nilsl (.inl ⟨by rw[hl0,hfl];rfl,.inl rfl⟩) hr6 K6 (by simp) λq=>?_)
  obtain⟨u1,u2,u3,_⟩:=hLg q
  have:=K4.nf
  exact⟨by omega,by simpa using u2,by simpa using u3⟩
 .have hne:s5.ls≠[]->¬g=gl:=λq e=>by
   subst e
   exact e5 (hLg q).2.2.2
  have hnu6:¬zcT (Z5.setO fo (splice (splice cs (off+2) [AV.sl (.fam gl false) 1 (l.flatten.map (.int .i64))]) (off+4) [tv])) x gl :=
   λ⟨cs',v,u1,u2,u3⟩=>e5 ⟨cs',v,by simpa [hxf']using u1,u2,u3⟩
  have hne5:s5.ls≠[]:=λq=>by
   obtain⟨_,y1,y2,_⟩:=zQ _ _ _ _ _ _ _ _ q5
   rw[q]at y1
   simp at y1 y2
   omega
  have htvm:Go.Abs.mrg gl tv=tv:=by
   rcases hL with ⟨_,rfl⟩|⟨tos,rfl,ht⟩
   .simp
   .rw[zd6,Al.mrg_rows ht]
    rw[if_neg (hne hne5)]
  refine Al.MrgOr.merged gl (λo=>o==fo) (by simp;omega) (by simpa using e4) ?_
  have hmm:Go.Abs.mrg gl (.tuple [])=.tuple []:=by simp
  rw[hmm]
  refine fin _ (.sl (.fam 0 false) 1 (l.flatten.map (.int .i64))) (.inr ⟨false,by rw[hfl];rfl⟩) (hr6.mrgP (by simpa using hxf') (by omega) hnu6) (K6.mrg (by omega)) ?_ λq=>?_
  .simp[AS.mrg,zte,hmr gl (by omega),htvm,Function.comp_def]
  .obtain⟨u1,u2,u3,_⟩:=hLg q
   have:=K4.nf
   have:=hne q
   exact⟨by omega,by simpa [AS.mrg]using u2,by simpa [AS.mrg,zkb,this]using u3⟩
end
def HV(v:AV)(f:F):Prop:=∃pv,v=.agg [.str [],pv,.nilsl,.int .i64 f.type,.nilsl]/\Al.IntsE pv f.params/\f.name=[]/\f.locals=[]/\f.lists=[]
theorem zge{st:Bool}{s s':Rs}{l:List Int}(h:zcE st s=some (l,s')):s'.b.length+l.length<=s.b.length:=by
 unfold zcE at h
 simp only[ybA]at h
 obtain⟨⟨n,s1⟩,h1,h2⟩:=h
 obtain⟨⟨xx,_,hx⟩,_⟩:=zp h1
 have hl:=zbw hx
 have key:∀{n:Nat} {s s':Rs} {l:List Int},zbI (zc8 st) n s=some (l,s')->s'.b.length+l.length<=s.b.length:=by
  intro n
  induction n with
  | zero=>intro s s' l h;cases h;simp
  | succ n ih =>
   intro s s' l h
   rw[zbI]at h
   simp only[ybA,ybB]at h
   obtain⟨⟨t,s1⟩,h1,⟨l',s2⟩,h2,h3⟩:=h
   cases h3
   have:=ih h2
   unfold zc8 at h1
   simp only[ybA]at h1
   obtain⟨⟨c,s3⟩,h4,h5⟩:=h1
   obtain⟨b1,_,_⟩:=zm h4
   have b2:s.b.length=s3.b.length+1:=by rw[b1];rfl
   split at h5
   .cases h5
   .cases h5
    simp only[yac]at *
    omega
 have:=key h2
 simp only at *
 omega
theorem zvo{st:Bool}{s s':Rs}{f:F}(h:zcN st s=some (f,s')):s'.b.length+1+f.params.length<=s.b.length:=by
 unfold zcN at h
 simp only[ybA,ybB]at h
 obtain⟨⟨c,s1⟩,h1,⟨l,s2⟩,h2,⟨r,s3⟩,h3,h4⟩:=h
 cases h4
 obtain⟨a0,a1,a2⟩:=zm h1
 have b2:s.b.length=s1.b.length+1:=by rw[a0];rfl
 have:=zge h2
 have:=zge h3
 simp only at *
 omega
section
variable {G : Env} {J : AS} {R : Out -> AS -> Prop}
def HdI(base:Nat)(β:Option Nat)(x:Nat)(N:Int)(s1:Rs)(J:AS)(a:Nat->AV)(Z:AS):Prop:=∃(i:Nat) (done:List F) (rows:List AV) (s:Rs),(i:Int)<=max N 0/\zbI (zcN false) N.toNat s1=(zbI (zcN false) (N.toNat-i) s).map (λq=>(done++q.1,q.2))/\s.b.length+done.length<=s1.b.length/\a 0=.ptr x 0/\a 8=.int .i64 N/\a 9=.int .i64 (i:Int)/\All2 HV rows done/\zdb J x 5 Z (a 2) rows/\Rdr base β x s Z/\zaN x J Z
theorem ztf{base β x}{N:Int}{s1:Rs}(hN:N<2^63)(hb1:s1.b.length<=2^37)(hbase:base<=J.nf)(hnone:zbI (zcN false) N.toNat s1=none->zbd R x J)(fin:∀l s',zbI (zcN false) N.toNat s1=some (l,s')->∀a Z rows,All2 HV rows l->zdb J x 5 Z (a 2) rows->Rdr base β x s' Z->zaN x J Z->s'.b.length+l.length<=s1.b.length->avc yb9 G 36 zkh (zbE yb9 [.tmp 2] R) a Z)
  {a:Nat->AV} {Z:AS} (hI:HdI base β x N s1 J a Z):avc yb9 G 36 zkg (zab (λa' J'=>HdI base β x N s1 J a' J'/\MU 9 (N.toNat+1) a' J'<MU 9 (N.toNat+1) a Z) (zai 0 (zab (avc yb9 G 36 zkh (zbE yb9 [.tmp 2] R)) (zbE yb9 [.tmp 2] R)))) a Z:=by
 obtain⟨i,done,rows,s,hi,he,hlen,a0,a8,a9,hrows,hG,hR,hK⟩:=hI
 have g1:=hG.one
 have hx:=hR.hx
 by_cases hlt:(i:Int)<N
 .have w1:yb4 .i64 ((i:Int)+1)=((i+1:Nat):Int):=by rw[zb]<;>omega
  have hnn:zcN false s=none->zbd R x J:=λq=>hnone (by rw[he,zdF (by omega) q];rfl)
  simp[zkg,a0,a8,a9,hlt]
  refine zcf hR (λq=>zbd.mono (hnn (by unfold zcN;rw[q];rfl)) hK.r) (λc s2 q v Z2 hv hr2 hk2=>?_)
  obtain⟨z1,z2,z3⟩:=zm q
  have hsl:s.b.length=s2.b.length+1:=by rw[z1];rfl
  have K2:=hK.trans hk2
  simp[a0]
  refine zgw hr2 (by omega) (λq3=>zbd.mono (hnn (by unfold zcN;rw[q];simp only[ydx];rw[q3];rfl)) K2.r) (λps s3 q3 pv Z3 hpv hr3 hk3=>?_)
  have hl3:=zge q3
  have K3:=K2.trans hk3
  have p1:=hpv.one
  have hx3:=hr3.hx
  obtain⟨bv3,lsv3,ho3,_⟩:=hr3.cells
  have A4:zd Z3 ((Z3.newO [.str [],.nilsl,.nilsl,.int .i64 0,.nilsl]).setO Z3.no [.str [],pv,.nilsl,.int .i64 0,.nilsl]):=.mk1
  have K4:=K3.trans (A4.keepS hx3 ho3)
  have hr4:=hr3.adds A4
  simp[a0,p1,splice]
  refine zgw hr4 (by omega) (λq5=>zbd.mono (hnn (by unfold zcN;rw[q];simp only[ydx];rw[q3];simp only[ydx];rw[q5];rfl)) K4.r) (λgs s5 q5 gv Z5 hgv hr5 hk5=>?_)
  have hl5:=zge q5
  have K5:=K4.trans hk5
  have gv1:=hgv.one
  have gvo:=Al.ints_e (J:=Z5) ⟨by have:=hr5.hb;omega,hr5.h0⟩ hgv
  have gvl:=gvo.len
  have hxo:¬x=Z3.no:=by omega
  have hxo':¬Z3.no=x:=by omega
  have o5:=(hk5.obj Z3.no (by simp) hxo').trans (show _=some [.str [],pv,.nilsl,.int .i64 0,.nilsl]by simp)
  have n5:=hk5.no
  simp at n5
  have hh:zcN false s=some ({ name:=[],params:=ps,locals:=[],type:=gs.headD 0,lists:=[] },s5):=by
   unfold zcN
   rw[q]
   simp only[ydx]
   rw[q3]
   simp only[ydx]
   rw[q5]
   rfl
  have hG5:zdb J x 5 Z5 (a 2) rows:=((hG.keep hk2.r).keep hk3.r).keep ((A4.keepR hx3).trans hk5.r)
  have next:∀(a':Nat->AV) (Z':AS) rows',a' 0=.ptr x 0->a' 8=.int .i64 N->a' 9=.int .i64 ((i+1:Nat):Int)->All2 HV rows' (done++[{ name:=[],params:=ps,locals:=[],type:=gs.headD 0,lists:=[] }])->zdb J x 5 Z' (a' 2) rows'->Rdr base β x s5 Z'->zaN x J Z'->HdI base β x N s1 J a' Z'/\MU 9 (N.toNat+1) a' Z'<MU 9 (N.toNat+1) a Z:=by
   intro a' Z' rows' e0 e8 e9 eR eG eD eK
   refine⟨⟨i+1,_,rows',s5,by omega,?_,by simp;omega,e0,e8,e9,eR,eG,eD,eK⟩,?_⟩
   .rw[he,zhz (s':=s5) (a:=_) (by omega) hh]
    have:N.toNat-i-1=N.toNat-(i+1):=by omega
    rw[this]
    cases zbI (zcN false) (N.toNat-(i+1)) s5 with
    | none=>rfl
    | some p=>simp
   .simp only[MU,e9,a9];omega
  have hrl:=hrows.length
  cases gs with
  | nil =>
   simp at gvl
   simp[gvl,o5,p1]
   refine zrV (row:=.agg [.str [],pv,.nilsl,.int .i64 0,.nilsl]) hG5 hr5 K5.r hbase (by simp) (by rw[hrl];omega) λv' Z6 e1 e2 e3 e4 e5 e6=>?_
   simp[a9,w1]
   exact next _ _ _ (by simp[a0]) (by simp[a8]) (by simp) (hrows.append (.cons ⟨pv,rfl,hpv,rfl,rfl,rfl⟩ .nil)) (by simpa using e1) e2 (e6 K5)
  | cons t gs =>
   obtain⟨φ,hrd,hix⟩:=gvo.at (i:=0) (by simp)
   have hrd:=hrd.read
   simp at gvl hix
   have hpos:(0:Int)<(gs.length:Int)+1:=by omega
   simp[gvl,hpos,hix,hrd,o5,p1,splice]
   have hr6:=hr5.setO (o:=Z3.no) (cs:=[.str [],pv,.nilsl,.int .i64 t,.nilsl]) hxo'
   have K6:zaN x J (Z5.setO Z3.no [.str [],pv,.nilsl,.int .i64 t,.nilsl]):=by
    refine⟨K5.no,K5.nf,λo h1 h2=>?_,K5.fam,λcs' h1=>?_,K5.some⟩
    .have:=K3.no
     have:¬o=Z3.no:=by omega
     simp[this]
     exact K5.obj o h1 h2
    .obtain⟨c1,h2,h3⟩:=K5.lst cs' h1
     exact⟨c1,by simp[hxo,h2],h3⟩
   refine zrV (row:=.agg [.str [],pv,.nilsl,.int .i64 t,.nilsl]) (hG5.setO hxo') hr6 K6.r hbase (by simp) (by rw[hrl];omega) λv' Z6 e1 e2 e3 e4 e5 e6=>?_
   simp[a9,w1]
   exact next _ _ _ (by simp[a0]) (by simp[a8]) (by simp) (hrows.append (.cons ⟨pv,rfl,hpv,rfl,rfl,rfl⟩ .nil)) (by simpa using e1) e2 (e6 K6)
 .simp[zkg,a8,a9,hlt]
  have hz:N.toNat-i=0:=by omega
  rw[hz]at he
  simp only[zbI,yaG,yb7]at he
  exact fin _ _ he _ _ rows hrows (by simpa using hG) hR hK hlen
theorem zoT{α β:Type}{Q:α->β->Prop}:∀{xs:List α} {ys:List β} (n:Nat),All2 Q xs ys->All2 Q (xs.drop n) (ys.drop n)
 | _,_,0,h=>by simpa using h
 | _,_,n+1,.nil=>by simpa using All2.nil
 | _,_,n+1,.cons h r=>by simpa using zoT n r
theorem znq{base β x s}(h:Rdr base β x s J)(hb1:s.b.length<=2^37)(hn:zdq s=none->zbd R x J)(hs:∀l s',zdq s=some (l,s')->∀J' rows g,All2 HV rows l->J.nf<=g->g<J'.nf->J'.F g=.alive->¬zcT J' x g->Rdr base β x s' J'->zaN x J J'->s'.b.length+l.length<=s.b.length->R (.ret (.sl (.fam g false) 5 rows)) J'):zzQ G 88 [.ptr x 0] J R:=by
 refine zC9 rfl ?_
 simp[zLX]
 refine za4 (n:=1) h (λq=>hn (by unfold zdq;rw[q];rfl)) (λs1 q1 J1 hr1 hk1=>?_)
 have hsl1:s1.b.length<=s.b.length:=by
  unfold zD at q1
  simp only[ybA]at q1
  obtain⟨⟨c,s2⟩,h1,h2⟩:=q1
  obtain⟨b1,_⟩:=zm h1
  split at h2
  .rw[ybB]at h2
   obtain⟨⟨m,s3⟩,h3,rfl⟩:=h2
   obtain⟨⟨xx,_,hxx⟩,_⟩:=zp h3
   have:=zbw hxx
   have:s.b.length=s2.b.length+1:=by rw[b1];rfl
   simp only at *
   omega
  .cases h2
 simp
 refine zA hr1 (λq=>zbd.mono (hn (by unfold zdq;rw[q1];simp only[ydx];rw[q];rfl)) hk1.r) (λN s2 q2 J2 hr2 hk2=>?_)
 obtain⟨⟨xx,_,hxx⟩,_,_,n1,n2,_⟩:=zp q2
 have hsl2:=zbw hxx
 have K2:=hk1.trans hk2
 have hh:zdq s=(zbI (zcN false) N.toNat s2).bind λq=>if 3<=q.1.length then some (q.1.drop 3,q.2)else none:=by
  unfold zdq
  rw[q1]
  simp only[ydx]
  rw[q2]
  rfl
 obtain⟨_,_,ho2,_⟩:=hr2.cells
 simp
 refine zS (HdI base β x N s2 J2) (MU 9 (N.toNat+1)) ⟨0,[],[],s2,by omega,by cases hq:zbI (zcN false) N.toNat s2<;>simp[hq],by simp,by simp,by simp,by simp,.nil,.inl ⟨rfl,by simp⟩,hr2,.refl ho2⟩ λa Z hI=>?_
 refine ztf n2 (by omega) hr2.hb.2 (λq=>zbd.mono (hn (by rw[hh,q];rfl)) K2.r) (λl s' q a Z rows hrows hG hR hK hlen=>?_) hI
 rw[q]at hh
 simp only[ydx]at hh
 have hrl:=hrows.length
 have K3:=K2.trans hK
 by_cases h3:3<=l.length
 .rw[if_pos h3]at hh
  rcases hG with ⟨e1,_⟩|⟨g,e1,e2,e3,e4,e5⟩
  .rw[e1]at hrl
   simp at hrl
   omega
  .have h3':(3:Int)<=(l.length:Int):=by omega
   simp[zkh,e1,hrl,h3']
   refine zB (λ_=>?_) (λq=>by cases q)
   have hcut:cut (.fam g false) false=.fam g false:=rfl
   have htk:List.take l.length rows=rows:=List.take_of_length_le (by omega)
   simp[e1,hrl,htk]
   refine⟨by omega,?_⟩
   have:=K2.nf
   exact hs _ _ hh _ _ g (zoT 3 hrows) (by omega) e3 e4 e5 hR K3 (by simp;omega)
 .have h3':¬(3:Int)<=(l.length:Int):=by omega
  rw[if_neg h3]at hh
  have hln:∀K:AV->Prop,ziY yb9 26 (a 2) K=K (.int .i64 (l.length:Int)):=λK=>by
   rcases hG with ⟨e1,e2⟩|⟨g,e1,_⟩
   .rw[e2,<-hrl,e1];simp
   .rw[e1,<-hrl];simp
  simp[zkh,hln,h3']
  refine zB (λq=>by cases q) (λ_=>?_)
  simp
  exact hn hh _ _ (.inl rfl) K3.r
end
structure Md(J0:AS)(base:Nat)(β:Option Nat)(x mo:Nat)(mc:List AV)(s:Rs)(Z:AS):Prop where
 rd:Rdr base β x s Z
 ad:zd J0 Z
 ob:Z.objs mo=some mc
 lt:mo<Z.no
 mx:mo≠x
 x0:J0.no<=x
 m0:J0.no<=mo
 b0:J0.nf<=base
 len:s.b.length<=2^37
theorem zaN.adds0{x J0 J J'}(K:zaN x J J')(A:zd J0 J)(hx:J0.no<=x):zd J0 J':=⟨yai A.no K.no,yai A.nf K.nf,λo ho=>by
 have:=A.no
 rw[K.obj o (by omega) (by omega),A.obj o ho],λf hf=>by
 have:=A.nf
 rw[K.fam f (by omega),A.fam f hf]⟩
theorem Md.keepS{J0 base β x mo mc s s' Z Z'}(M:Md J0 base β x mo mc s Z)(K:zaN x Z Z')(h:Rdr base β x s' Z')(hl:s'.b.length<=s.b.length):Md J0 base β x mo mc s' Z' :=
 ⟨h,K.adds0 M.ad M.x0,(K.obj mo M.lt M.mx).trans M.ob,yag M.lt K.no,M.mx,M.x0,M.m0,M.b0,by have:=M.len;omega⟩
theorem Md.none{J0 base β x mo mc s Z}(M:Md J0 base β x mo mc s Z){R:Out->AS->Prop}(h:ze6 R J0):zbd R x Z:=zhA h M.ad M.x0 M.b0 M.rd
theorem Md.setM{J0 base β x mo mc mc' s Z}(M:Md J0 base β x mo mc s Z):Md J0 base β x mo mc' s (Z.setO mo mc') :=
 ⟨M.rd.setO M.mx,M.ad.setO M.m0,by simp,M.lt,M.mx,M.x0,M.m0,M.b0,M.len⟩
theorem zdc{n:Int}{s:Rs}(h:zcM n s=none):zas n s=none:=by unfold zas;rw[h];rfl
theorem zdd{n:Int}{s s':Rs}{p:List UInt8}(h:zcM n s=some (p,s')):zas n s=some s':=by unfold zas;rw[h];rfl
theorem zc0{n:Int}{s s':Rs}{p:List UInt8}(h:zcM n s=some (p,s')):s'.b.length<=s.b.length:=zbw (zaY h).1
theorem zaq{st sg:Bool}{n:Int}{s s':Rs}(h:zcd st sg s=some (n,s')):s'.b.length<=s.b.length:=by
 obtain⟨⟨xx,_,hx⟩,_⟩:=zp h
 exact zbw hx
theorem za9{n:UInt8}{s s':Rs}(h:zD n s=some s'):s'.b.length<=s.b.length:=by
 unfold zD at h
 simp only[ybA]at h
 obtain⟨⟨c,s2⟩,h1,h2⟩:=h
 obtain⟨b1,_⟩:=zm h1
 have:s.b.length=s2.b.length+1:=by rw[b1];rfl
 split at h2
 .rw[ybB]at h2
  obtain⟨⟨m,s3⟩,h3,rfl⟩:=h2
  have:=zaq h3
  simp only at *
  omega
 .cases h2
structure Fn(x mo fo:Nat)(C:List AV)(Z:AS):Prop where
 ob:Z.objs fo=some C
 lt:fo<Z.no
 fx:fo≠x
 fm:fo≠mo
theorem Fn.keepS{x mo fo C Z Z'}(h:Fn x mo fo C Z)(K:zaN x Z Z'):Fn x mo fo C Z':=⟨(K.obj fo h.lt h.fx).trans h.ob,yag h.lt K.no,h.fx,h.fm⟩
theorem Fn.setM{x mo fo C Z cs}(h:Fn x mo fo C Z):Fn x mo fo C (Z.setO mo cs):=⟨by have:¬fo=mo:=h.fm;simp[this,h.ob],h.lt,h.fx,h.fm⟩
def zoU(h:List F)(s:Rs):Option ((List F × Int × Int) × Rs):=(zD 5 s).bind λs=>(zas 3 s).bind λs=>(zD 6 s).bind λs=>(zas 4 s).bind λs =>
 (zcd false true s).bind λmem=>(zas 1 mem.2).bind λs=>(zD 7 s).bind λs=>(zas 7 s).bind λs=>(zcd false false s).map λmn=>((h,mem.1,mn.1),mn.2)
def ziQ(h:List F)(s:Rs):Option ((List F × Int × Int) × Rs):=(zD 3 s).bind λs=>(zcd false false s).bind λp=>(zbI (zcd false false) p.1.toNat p.2).bind λr=>zoU h r.2
theorem zvp(s:Rs):zhu s=(zas 8 s).bind λs=>(zdq s).bind λh=>(zD 2 h.2).bind λs=>(zas 1 s).bind λs=>(zas 9 s).bind λs=>(zas 10 s).bind λs=>(zas 11 s).bind λs=>ziQ h.1 s:=rfl
def zDS(p:(List F × Int × Int) × Rs):Option (M × Rs):=(znm p.1.1 p.2).map λq=>({ funcs:=q.1,memory:=p.1.2.1,main:=yb4 .i64 (p.1.2.2-3) },q.2)
theorem ztg(s:Rs):zdZ s=(zhu s).bind zDS:=rfl
def zoV(h:List F)(fs:List F)(s:Rs):Option (List F × Rs):=(zD 0 s).bind λs=>(zas 6 s).bind λs=>(zcd false false s).bind λx=>(zcd false false x.2).bind λy =>
  if y.1=h.length then zc9 false fs y.2 else none
def zKW(h:List F)(s:Rs):Option (List F × Rs):=(zC false h s).bind λfs=>zoV h fs.1 fs.2
theorem zyS(h:List F)(s:Rs):znm h s=(zD 10 s).bind λs=>(zcd false false s).bind λc=>if c.1=h.length then zKW h c.2 else none:=rfl
section
variable {G : Env} {J : AS} {R : Out -> AS -> Prop}
def imK(h:List F)(i:Nat)(s:Rs):Option ((List F × Int × Int) × Rs):=match i with
 | 0=>(zas 9 s).bind λs=>(zas 10 s).bind λs=>(zas 11 s).bind λs=>ziQ h s
 | 1=>(zas 10 s).bind λs=>(zas 11 s).bind λs=>ziQ h s
 | 2=>(zas 11 s).bind λs=>ziQ h s
 | _=>ziQ h s
def Im1(J0:AS)(base:Nat)(β:Option Nat)(x mo fo:Nat)(mc C:List AV)(h:List F)(res:Option (M × Rs))(n0:Nat)(a:Nat->AV)(Z:AS):Prop:=∃(i:Nat) (s:Rs),i<=3/\a 0=.ptr x 0/\a 2=.ptr mo 0/\a 16=.sl (.stat true) 1 (zhy.map ycZ)/\a 17=.int .i64 3/\a 18=.int .i64 (i:Int)/\Md J0 base β x mo mc s Z/\Fn x mo fo C Z/\s.n=n0/\res=(imK h i s).bind zDS
theorem zoW{J0 base β x mo fo mc C}{h:List F}{res:Option (M × Rs)}{n0:Nat}(hn:res=none->ze6 R J0)(fin:∀s a Z,a 0=.ptr x 0->a 2=.ptr mo 0->Md J0 base β x mo mc s Z->Fn x mo fo C Z->s.n=n0->res=(ziQ h s).bind zDS->avc yb9 G 114 zke (zbE yb9 [.cell 2 28] R) a Z)
  {a:Nat->AV} {Z:AS} (hI:Im1 J0 base β x mo fo mc C h res n0 a Z):avc yb9 G 114 zdB (zab (λa' J'=>Im1 J0 base β x mo fo mc C h res n0 a' J'/\MU 18 4 a' J'<MU 18 4 a Z) (zai 0 (zab (avc yb9 G 114 zke (zbE yb9 [.cell 2 28] R)) (zbE yb9 [.cell 2 28] R)))) a Z:=by
 obtain⟨i,s,hi,a0,a2,a16,a17,a18,hM,hF,hs,he⟩:=hI
 by_cases hlt:i<3
 .have hlt':(i:Int)<3:=by omega
  have w1:yb4 .i64 ((i:Int)+1)=((i+1:Nat):Int):=by rw[zb]<;>omega
  obtain⟨w,k,hw,hk1,hk2,hk3⟩:∃(w:List UInt8) (k:Nat),zhy[i]?=some w/\yb4 .i64 (yb4 .i64 (5+(w.length:Int))+2)=(k:Int)/\(zas (k:Int) s=none->imK h i s=none)/\(∀s',zas (k:Int) s=some s'->imK h i s=imK h (i+1) s'):=by
   rcases i with _|_|_|i
   .exact⟨[105,110],9,rfl,rfl,λq=>by unfold imK;rw[show((9:Nat):Int)=9 from rfl]at q;rw[q];rfl,λs' q=>by rw[show((9:Nat):Int)=9 from rfl]at q;simp only[imK];rw[q];rfl⟩
   .exact⟨[111,117,116],10,rfl,rfl,λq=>by unfold imK;rw[show((10:Nat):Int)=10 from rfl]at q;rw[q];rfl,λs' q=>by rw[show((10:Nat):Int)=10 from rfl]at q;simp only[imK];rw[q];rfl⟩
   .exact⟨[116,114,97,112],11,rfl,rfl,λq=>by unfold imK;rw[show((11:Nat):Int)=11 from rfl]at q;rw[q];rfl,λs' q=>by rw[show((11:Nat):Int)=11 from rfl]at q;simp only[imK];rw[q];rfl⟩
   .omega
  have hw2:(zhy.map ycZ)[i]?=some (.str w):=by simp[hw]
  simp[zdB,a0,a16,a17,a18,hlt',hw2,hk1]
  refine zax hM.rd (λq=>hM.none (hn (by rw[he,hk2 (zdc q)];rfl))) (λp s1 q v Z1 _ hr hk=>?_)
  have hM1:=hM.keepS hk hr (zc0 q)
  simp[a18,w1]
  refine⟨⟨i+1,s1,by omega,by simp[a0],by simp[a2],by simp[a16],by simp[a17],by simp,hM1,hF.keepS hk,by rw[(zaY q).2.2,hs],by rw[he,hk3 s1 (zdd q)]⟩,?_⟩
  simp only[MU,a18];simp;omega
 .have:i=3:=by omega
  subst this
  simp[zdB,a17,a18]
  exact fin s _ _ (by simpa using a0) (by simpa using a2) hM hF hs he
def Nm2(J0:AS)(base:Nat)(β:Option Nat)(x mo fo:Nat)(mc C:List AV)(h:List F)(res:Option (M × Rs))(n0:Nat)(N:Int)(a:Nat->AV)(Z:AS):Prop:=∃(i:Nat) (s:Rs),(i:Int)<=max N 0/\a 0=.ptr x 0/\a 2=.ptr mo 0/\a 32=.int .i64 N/\a 33=.int .i64 (i:Int)/\Md J0 base β x mo mc s Z/\Fn x mo fo C Z/\s.n=n0/\res=((zbI (zcd false false) (N.toNat-i) s).bind λr=>zoU h r.2).bind zDS
theorem zoX{J0 base β x mo fo mc C}{h:List F}{res:Option (M × Rs)}{n0:Nat}{N:Int}(hN:N<2^63)(hn:res=none->ze6 R J0)(fin:∀s a Z,a 0=.ptr x 0->a 2=.ptr mo 0->Md J0 base β x mo mc s Z->Fn x mo fo C Z->s.n=n0->res=(zoU h s).bind zDS->avc yb9 G 114 zh6 (zbE yb9 [.cell 2 28] R) a Z)
  {a:Nat->AV} {Z:AS} (hI:Nm2 J0 base β x mo fo mc C h res n0 N a Z):avc yb9 G 114 zdW (zab (λa' J'=>Nm2 J0 base β x mo fo mc C h res n0 N a' J'/\MU 33 (N.toNat+1) a' J'<MU 33 (N.toNat+1) a Z) (zai 2 (zab (avc yb9 G 114 zh6 (zbE yb9 [.cell 2 28] R)) (zbE yb9 [.cell 2 28] R)))) a Z:=by
 obtain⟨i,s,hi,a0,a2,a32,a33,hM,hF,hs,he⟩:=hI
 by_cases hlt:(i:Int)<N
 .have w1:yb4 .i64 ((i:Int)+1)=((i+1:Nat):Int):=by rw[zb]<;>omega
  simp[zdW,a0,a32,a33,hlt]
  refine zA hM.rd (λq=>hM.none (hn (by rw[he,zdF (by omega) q];rfl))) (λn s1 q Z1 hr hk=>?_)
  have hM1:=hM.keepS hk hr (zaq q)
  simp[a33,w1]
  refine⟨⟨i+1,s1,by omega,by simp[a0],by simp[a2],by simp[a32],by simp,hM1,hF.keepS hk,by rw[(zp q).2.2.1,hs],?_⟩,?_⟩
  .rw[he,zhz (s':=s1) (a:=n) (by omega) q]
   have:N.toNat-i-1=N.toNat-(i+1):=by omega
   rw[this]
   cases zbI (zcd false false) (N.toNat-(i+1)) s1 with
   | none=>rfl
   | some p=>rfl
  .simp only[MU,a33];simp;omega
 .simp[zdW,a32,a33,hlt]
  have hz:N.toNat-i=0:=by omega
  rw[hz]at he
  exact fin s _ _ (by simpa using a0) (by simpa using a2) hM hF hs he
end
theorem zgf(c0 c1 c2 c3 c4:AV)(r:List AV):zu (.agg [c0,c1,c2,c3,c4]::r)=c0::c1::c2::c3::c4::zu r:=by simp[zu]
theorem zkJ{v p}(h:Al.FVE v p):v.cells.length=5:=by
 obtain⟨pv,lv,tv,rfl,_⟩:=h
 rfl
theorem zhB{α:Type}{Q:AV->α->Prop}(hq:∀v a,Q v a->v.cells.length=5):∀{rows:List AV} {l:List α},All2 Q rows l->∀x∈rows,x.cells.length=5
 | _,_,.nil,x,h=>by cases h
 | _,_,.cons h r,x,hx=>by
  rcases ybC.1 hx with rfl|hx
  .exact hq _ _ h
  .exact zhB hq r x hx
theorem zoY{rows:List AV}(h:∀x∈rows,x.cells.length=5):(zu rows).length=rows.length*5:=zy 5 rows h
theorem zDT{X:List AV}{c0 c1 c2 c3 c4 v w:AV}{Y:List AV}{off:Nat}(ho:off=X.length):splice (splice (X++c0::c1::c2::c3::c4::Y) (off+2) [v]) (off+4) [w]=X++c0::c1::v::c3::w::Y:=by
 subst ho
 rw[zcU (by rw[zgd (by simp)];simp),zcU (by simp)]
 rw[ydU _ _ (by omega),ydU _ _ (by simp)]
 simp
theorem zkK{v:AV}{l:List Int}(h:Al.IntsE v l)(g:Nat):Go.Abs.mrg g v=v:=by
 rcases h with ⟨_,rfl|⟨b,rfl⟩⟩|⟨b,rfl⟩
 .simp
 .simp
 .rw[zd6]
  have:(l.map (yc0 .i64)).map (Go.Abs.mrg g)=l.map (yc0 .i64):=by simp[Function.comp_def]
  rw[this]
  split<;>rfl
theorem zyT{v:AV}{k g:Nat}{l:To}(h:Al.LstE k v l)(hg:k≠g):Go.Abs.mrg g v=v:=by
 rcases h with ⟨_,rfl⟩|⟨tos,rfl,ht⟩
 .simp
 .rw[zd6,Al.mrg_rows ht]
  rw[if_neg hg]
theorem zDU{v p}(h:Al.FVE v p){g:Nat}(hg:p.2≠g):v.cells.map (Go.Abs.mrg g)=v.cells:=by
 obtain⟨pv,lv,tv,rfl,h1,h2,h3⟩:=h
 simp[zkK h1,zkK h2,zyT h3 hg]
theorem zHJ{v f}(h:HV v f)(g:Nat):v.cells.map (Go.Abs.mrg g)=v.cells:=by
 obtain⟨pv,rfl,h1,_⟩:=h
 simp[zkK h1]
theorem zkL{α:Type}{Q:AV->α->Prop}{g:Nat}:∀{rows:List AV} {l:List α},All2 Q rows l->(∀v a,a∈l->Q v a->v.cells.map (Go.Abs.mrg g)=v.cells)->(zu rows).map (Go.Abs.mrg g)=zu rows
 | _,_,.nil,_=>rfl
 | _,_,.cons (x:=x) (xs:=xs) h r,hq=>by
  have ih:=zkL r λv a ha=>hq v a (by simp[ha])
  simp only[zu,yaa,ydk]at *
  rw[ih,hq x _ (by simp) h]
theorem zim{st:Bool}:∀{n:Nat} {s s':Rs} {l:List (List Int)},zbI (zbv st) n s=some (l,s')->s'.b.length<=s.b.length
 | 0,s,s',l,h=>by cases h;exact yah _
 | n+1,s,s',l,h=>by
  rw[zbI]at h
  simp only[ybA,ybB]at h
  obtain⟨⟨g,s1⟩,h1,⟨l',s2⟩,h2,h3⟩:=h
  cases h3
  have:=zim h2
  unfold zbv at h1
  simp only[ybA]at h1
  obtain⟨⟨m,s3⟩,h4,h5⟩:=h1
  have h6:=zaq h4
  split at h5
  .rw[ybB]at h5
   obtain⟨⟨t,s4⟩,h6',h7⟩:=h5
   simp only[Prod.mk.injEq]at h7
   obtain⟨_,rfl⟩:=h7
   unfold zc8 at h6'
   simp only[ybA]at h6'
   obtain⟨⟨c,s5⟩,h8,h9⟩:=h6'
   obtain⟨b1,_,_⟩:=zm h8
   simp only at b1
   have:s3.b.length=s5.b.length+1:=by rw[b1];rfl
   split at h9
   .cases h9
   .cases h9
    simp only at *
    omega
  .cases h5
theorem zeL{st:Bool}{f f':F}{s s':Rs}(h:zX st f s=some (f',s')):s'.b.length<=s.b.length:=by
 unfold zX at h
 simp only[ybA,ybB]at h
 obtain⟨⟨n1,s1⟩,h1,⟨n2,s2⟩,h2,⟨gs,s3⟩,h3,⟨⟨n,e⟩,s4⟩,h4,h5⟩:=h
 simp only[Prod.mk.injEq]at h5
 obtain⟨_,rfl⟩:=h5
 have:=zaq h1
 have:=zaq h2
 have:=zim h3
 obtain⟨_,_,_,_,_,⟨xx,_,z⟩,_⟩:=zQ _ _ _ _ _ _ _ _ h4
 have:=zbw z
 simp only at *
 omega
section
variable {G : Env} {J : AS} {R : Out -> AS -> Prop}
structure FnL(J0:AS)(x mo fo:Nat)(h0:List F)(dps:List (F × Nat))(drows hrows:List AV)(Z:AS):Prop where
 fn:Fn x mo fo (zu (drows++hrows)) Z
 f0:J0.no<=fo
 dl:dps.length<=h0.length
 dr:All2 Al.FVE drows dps
 hr:All2 HV hrows (h0.drop dps.length)
 nd:(dps.map Prod.snd).Nodup
 each:∀p∈dps,J0.nf<=p.2/\p.2<Z.nf/\Z.F p.2=.alive
 nm:∀p∈dps,p.1.name=[]
def zau(fo n:Nat)(mem mn:Int):List AV:=[.slm fo 0 5 n,.int .i64 mem,.int .i64 mn]
def FL3(J0:AS)(base:Nat)(β:Option Nat)(x mo fo:Nat)(mem mn:Int)(h0:List F)(res:Option (M × Rs))(a:Nat->AV)(Z:AS):Prop:=∃(dps:List (F × Nat)) (drows hrows:List AV) (s:Rs),a 0=.ptr x 0/\a 2=.ptr mo 0/\a 70=.int .i64 (h0.length:Int)/\a 71=.int .i64 (dps.length:Int)/\Md J0 base β x mo (zau fo h0.length mem mn) s Z/\FnL J0 x mo fo h0 dps drows hrows Z/\s.n<=65536 /\
 res=(((zC false (h0.drop dps.length) s).bind λfs=>zoV h0 (dps.map Prod.fst++fs.1) fs.2).map λq=>({ funcs:=q.1,memory:=mem,main:=mn },q.2))
theorem zth(V:zdI G){J0 base β x mo fo mem mn}{h0:List F}{res:Option (M × Rs)}(hn:res=none->ze6 R J0)(hh:∀f∈h0,f.locals=[]/\f.name=[])
  (fin:∀dps drows s a Z,a 0=.ptr x 0->a 2=.ptr mo 0->Md J0 base β x mo (zau fo h0.length mem mn) s Z->FnL J0 x mo fo h0 dps drows [] Z->dps.length=h0.length->res=((zoV h0 (dps.map Prod.fst) s).map λq=>({ funcs:=q.1,memory:=mem,main:=mn },q.2))->avc yb9 G 114 zgM (zbE yb9 [.cell 2 28] R) a Z)
  (hlen:h0.length<=2^37) {a:Nat->AV} {Z:AS} (hI:FL3 J0 base β x mo fo mem mn h0 res a Z):avc yb9 G 114 zeA (zab (λa' J'=>FL3 J0 base β x mo fo mem mn h0 res a' J'/\MU 71 (h0.length+1) a' J'<MU 71 (h0.length+1) a Z) (zai 4 (zab (avc yb9 G 114 zgM (zbE yb9 [.cell 2 28] R)) (zbE yb9 [.cell 2 28] R)))) a Z:=by
 obtain⟨dps,drows,hrows,s,a0,a2,a70,a71,hM,hF,hs65,he⟩:=hI
 have hdrl:=hF.dr.length
 have hmo:=hM.ob
 simp only[zau]at hmo
 by_cases hlt:dps.length<h0.length
 .have hlt':(dps.length:Int)<(h0.length:Int):=by omega
  have w1:yb4 .i64 ((dps.length:Int)+1)=((dps.length+1:Nat):Int):=by rw[zb]<;>omega
  have hdr:=yc2 hlt
  have hhr:=hF.hr
  have hfh:=hh _ (yaw hlt)
  rw[hdr]at hhr he
  generalize h0[dps.length]=f at *
  cases hhr with
  | cons hv hrest =>
  rename_i row hrows
  have hv':=hv
  obtain⟨pv,rfl,hpv,e1,e2,e3⟩:=hv
  have hd5:=zhB (λv a h=>zkJ h) hF.dr
  have hfl:(zu drows).length=dps.length*5:=by rw[zoY hd5,hdrl]
  have hC:zu (drows++.agg [.str [],pv,.nilsl,.int .i64 f.type,.nilsl]::hrows)=zu drows++.str []::pv::.nilsl::.int .i64 f.type::.nilsl::zu hrows:=by
   rw[za5,zgf]
  have hfn:=hF.fn
  simp[zeA,a0,a2,a70,a71,hlt',hmo]
  refine zlv V (cs:=zu (drows++.agg [.str [],pv,.nilsl,.int .i64 f.type,.nilsl]::hrows)) (f:=f) (J0:=J0) hM.rd hfn.fx hfn.lt hfn.ob ?_ ?_ hfh.1 hM.len hs65 ?_ hM.ad hM.x0 hF.f0 hM.b0 ?_ ?_
  .rw[hC,yaI (by omega)]
   have:dps.length*5+2-(zu drows).length=2:=by omega
   rw[this]
   rfl
  .rw[hC]
   simp
   omega
  .intro g hg
   rw[za5,ydk,zkL hF.dr (λv p hp h=>zDU h (by have:=(hF.each p hp).2.1;omega)),zkL (.cons hv' hrest) (λv p _ h=>zHJ h g)]
  .intro q
   exact hn (by rw[he,zC,q];rfl)
  .intro f' s' q Z1 lv tv g hlv htv hg hr hk ho
   obtain⟨p1,p2,p3,p4⟩:=zd0 q hfh.1
   have hne:f'.lists≠[]:=by
    obtain⟨st,k,s0,e,s1,k1,k2,k3⟩:=p1.2.2.1
    intro e0
    obtain⟨_,y1,y2,_⟩:=zQ _ _ _ _ _ _ _ _ k1
    simp only[e0,ybl]at y2
    omega
   obtain⟨g1,g2,g3⟩:=hg hne
   have hnf:=hM.ad.nf
   rw[hC,zDT (by omega)]at ho
   simp[a71,w1]
   refine⟨⟨dps++[(f',g)],drows++[.agg [.str [],pv,lv,.int .i64 f.type,tv]],hrows,s',by simp[a0],by simp[a2],by simp[a70],by simp,?_,?_,p3 hs65,?_⟩,?_⟩
   .have hmfo:mo≠fo:=λe=>hfn.fm e.symm
    have hno:=hk.no
    have:=hM.lt
    exact⟨hr,hk.adds0 hM.ad hM.x0 hF.f0,(hk.obj mo hM.lt hM.mx hmfo).trans hM.ob,by omega,hM.mx,hM.x0,hM.m0,hM.b0,by have:=zeL q;have:=hM.len;omega⟩
   .have hno:=hk.no
    have:=hfn.lt
    refine⟨⟨?_,by omega,hfn.fx,hfn.fm⟩,hF.f0,by simp;omega,hF.dr.append (.cons ⟨pv,lv,tv,?_,?_,hlv,htv⟩ .nil),by simpa using hrest,?_,λp hp=>?_,λp hp=>?_⟩
    .rw[ho,ydB,ydT,za5,zgf]
    .rw[p4,hfh.2,p1.2.1]
    .rw[p1.1]
     exact hpv
    .rw[ydk,List.nodup_append]
     refine⟨hF.nd,by simp,λy hy z hz e=>?_⟩
     obtain⟨p,hp,rfl⟩:=yaV.1 hy
     have:=(hF.each p hp).2.1
     simp at hz
     omega
    .rcases ybh.1 hp with hp|hp
     .obtain⟨u1,u2,u3⟩:=hF.each p hp
      have:=hk.nf
      exact⟨u1,by omega,(hk.fam _ u2).trans u3⟩
     .simp only[ydf]at hp
      subst hp
      exact⟨by simp only;omega,g2,g3⟩
    .rcases ybh.1 hp with hp|hp
     .exact hF.nm p hp
     .simp only[ydf]at hp
      subst hp
      exact p4.trans hfh.2
   .rw[he,zC,q]
    simp only[ydx,yab,yac,ybl,ydE]
    cases zC false (h0.drop (dps.length+1)) s' with
    | none=>rfl
    | some r=>simp
   .simp only[MU,a71];simp;omega
 .have hdl:=hF.dl
  have hde:dps.length=h0.length:=by omega
  have hhr:=hF.hr
  rw[hde,List.drop_length]at hhr he
  cases hhr
  simp[zeA,a70,a71,hde]
  exact fin dps drows s _ _ (by simpa using a0) (by simpa using a2) hM hF hde (by rw[he];simp[zC])
end
theorem zvq{X:List AV}{c v:AV}{Y:List AV}{off:Nat}(ho:off=X.length):splice (X++c::Y) off [v]=X++v::Y:=by
 subst ho
 rw[zcU (by simp),ydU _ _ (by omega)]
 simp
structure FnN(J0:AS)(x mo fo:Nat)(dps rps:List (F × Nat))(drows rrows:List AV)(Z:AS):Prop where
 fn:Fn x mo fo (zu (drows++rrows)) Z
 f0:J0.no<=fo
 dr:All2 Al.FVE drows dps
 rr:All2 Al.FVE rrows rps
 nd:((dps++rps).map Prod.snd).Nodup
 each:∀p∈dps++rps,J0.nf<=p.2/\p.2<Z.nf/\Z.F p.2=.alive
theorem FnN.keepS{J0 x mo fo dps rps drows rrows Z Z'}(h:FnN J0 x mo fo dps rps drows rrows Z)(K:zaN x Z Z'):FnN J0 x mo fo dps rps drows rrows Z' :=
 ⟨h.fn.keepS K,h.f0,h.dr,h.rr,h.nd,λp hp=>by
  obtain⟨a,b,c⟩:=h.each p hp
  exact⟨a,yag b K.nf,(K.fam _ b).trans c⟩⟩
section
variable {G : Env} {J : AS} {R : Out -> AS -> Prop}
def NL4(J0:AS)(base:Nat)(β:Option Nat)(x mo fo n:Nat)(mem mn:Int)(res:Option (M × Rs))(a:Nat->AV)(Z:AS):Prop:=∃(dps rps:List (F × Nat)) (drows rrows:List AV) (s:Rs),a 0=.ptr x 0/\a 2=.ptr mo 0/\a 96=.int .i64 (n:Int)/\a 97=.int .i64 (dps.length:Int)/\dps.length+rps.length=n/\Md J0 base β x mo (zau fo n mem mn) s Z/\FnN J0 x mo fo dps rps drows rrows Z /\
 res=((zc9 false (rps.map Prod.fst) s).map λq=>({ funcs:=dps.map Prod.fst++q.1,memory:=mem,main:=mn },q.2))
theorem zti{J0 base β x mo fo n mem mn}{res:Option (M × Rs)}(hn:res=none->ze6 R J0)(hnn:n<=2^37)
  (fin:∀dps drows s a Z,a 0=.ptr x 0->a 2=.ptr mo 0->Md J0 base β x mo (zau fo n mem mn) s Z->FnN J0 x mo fo dps [] drows [] Z->dps.length=n->res=some ({ funcs:=dps.map Prod.fst,memory:=mem,main:=mn },s)->avc yb9 G 114 zft (zbE yb9 [.cell 2 28] R) a Z)
  {a:Nat->AV} {Z:AS} (hI:NL4 J0 base β x mo fo n mem mn res a Z):avc yb9 G 114 zfs (zab (λa' J'=>NL4 J0 base β x mo fo n mem mn res a' J'/\MU 97 (n+1) a' J'<MU 97 (n+1) a Z) (zai 6 (zab (avc yb9 G 114 zft (zbE yb9 [.cell 2 28] R)) (zbE yb9 [.cell 2 28] R)))) a Z:=by
 obtain⟨dps,rps,drows,rrows,s,a0,a2,a96,a97,hnl,hM,hF,he⟩:=hI
 have hdrl:=hF.dr.length
 have hmo:=hM.ob
 simp only[zau]at hmo
 cases rps with
 | cons p rps =>
  simp only[yac]at hnl
  have hlt':(dps.length:Int)<(n:Int):=by omega
  have w1:yb4 .i64 ((dps.length:Int)+1)=((dps.length+1:Nat):Int):=by rw[zb]<;>omega
  have hrr:=hF.rr
  cases hrr with
  | cons hv hrest =>
  rename_i row rrows
  obtain⟨pv,lv,tv,rfl,hpv,hlv,htv⟩:=hv
  have hd5:=zhB (λv a h=>zkJ h) hF.dr
  have hfl:(zu drows).length=dps.length*5:=by rw[zoY hd5,hdrl]
  have hC:zu (drows++.agg [.str p.1.name,pv,lv,.int .i64 p.1.type,tv]::rrows)=zu drows++.str p.1.name::pv::lv::.int .i64 p.1.type::tv::zu rrows:=by
   rw[za5,zgf]
  simp only[yaL]at he
  rw[zc9]at he
  simp[zfs,a0,a2,a96,a97,hlt',hmo]
  refine zA hM.rd (λq=>hM.none (hn (by rw[he,q];rfl))) (λk1 s1 q1 Z1 hr1 hk1=>?_)
  rw[q1]at he
  simp only[ydx]at he
  have hM1:=hM.keepS hk1 hr1 (zaq q1)
  have hF1:=hF.keepS hk1
  have hmo1:=hM1.ob
  simp only[zau]at hmo1
  simp[a0,a2,hmo1]
  refine zA hr1 (λq=>hM1.none (hn (by rw[he,q];rfl))) (λk2 s2 q2 Z2 hr2 hk2=>?_)
  rw[q2]at he
  simp only[ydx]at he
  have hM2:=hM1.keepS hk2 hr2 (zaq q2)
  have hF2:=hF1.keepS hk2
  have hmo2:=hM2.ob
  simp only[zau]at hmo2
  simp[a0,a2,hmo2]
  refine zax hr2 (λq=>hM2.none (hn (by rw[he,q];rfl))) (λbs s3 q3 v Z3 hv hr3 hk3=>?_)
  rw[q3]at he
  simp only[ydx]at he
  have hM3:=hM2.keepS hk3 hr3 (zc0 q3)
  have hF3:=hF2.keepS hk3
  have hmo3:=hM3.ob
  simp only[zau]at hmo3
  have hfn:=hF3.fn
  have hfo:=hfn.ob
  rw[hC]at hfo
  have hbound:dps.length*5+1<=(zu drows++.str p.1.name::pv::lv::.int .i64 p.1.type::tv::zu rrows).length:=by simp;omega
  have hset:=zvq (X:=zu drows) (c:=.str p.1.name) (v:=.str bs) (Y:=pv::lv::.int .i64 p.1.type::tv::zu rrows) (off:=dps.length*5) (by omega)
  generalize zu drows++.str p.1.name::pv::lv::.int .i64 p.1.type::tv::zu rrows=C at *
  have next:∀(a':Nat->AV),a' 0=.ptr x 0->a' 2=.ptr mo 0->a' 96=.int .i64 (n:Int)->a' 97=.int .i64 ((dps.length+1:Nat):Int)->NL4 J0 base β x mo fo n mem mn res a' (Z3.setO fo (splice C (dps.length*5) [.str bs]))/\MU 97 (n+1) a' (Z3.setO fo (splice C (dps.length*5) [.str bs]))<MU 97 (n+1) a Z:=by
   intro a' e0 e2 e96 e97
   have hfm:¬mo=fo:=λe=>hfn.fm e.symm
   refine⟨⟨dps++[({ p.1 with name:=bs },p.2)],rps,drows++[.agg [.str bs,pv,lv,.int .i64 p.1.type,tv]],rrows,s3,e0,e2,e96,by rw[e97];simp,by simp;omega,⟨hr3.setO hfn.fx,hM3.ad.setO hF.f0,by simp[hfm,hM3.ob],hM3.lt,hM3.mx,hM3.x0,hM3.m0,hM3.b0,hM3.len⟩,⟨⟨?_,hfn.lt,hfn.fx,hfn.fm⟩,hF.f0,hF3.dr.append (.cons ⟨pv,lv,tv,rfl,hpv,hlv,htv⟩ .nil),hrest,by simpa using hF3.nd,λy hy=>?_⟩,?_⟩,?_⟩
   .simp only[zue,zaO,if_true]
    rw[hset,ydB,ydT,za5,zgf]
   .simp only[ybh,ydf]at hy
    rcases hy with (hy|rfl)|hy
    .exact hF3.each y (by simp[hy])
    .exact hF3.each p (by simp)
    .exact hF3.each y (by simp[hy])
   .rw[he]
    cases zc9 false (rps.map Prod.fst) s3 with
    | none=>rfl
    | some u=>simp
   .simp only[MU,e97,a97];omega
  rcases hv with ⟨hb0,rfl⟩|⟨φ,hφ,rfl⟩
  .subst hb0
   simp[a2,hmo3,hfo,a97,w1,hlt']
   exact⟨hbound,next _ (by simp[a0]) (by simp[a2]) (by simp[a96]) (by simp)⟩
  .have hrd:=zs9 hr3 hφ
   simp[a2,hmo3,hfo,a97,w1,hlt',hrd]
   exact⟨hbound,next _ (by simp[a0]) (by simp[a2]) (by simp[a96]) (by simp)⟩
 | nil =>
  have hlt:¬(dps.length:Int)<(n:Int):=by simp at hnl;omega
  have hrr:=hF.rr
  cases hrr
  simp[zfs,a96,a97,hlt]
  exact fin dps drows s _ _ (by simpa using a0) (by simpa using a2) hM hF (by simpa using hnl) (by rw[he];simp[zc9])
theorem Rdr.famO{base β x s Z}(h:Rdr base β x s Z){fo:Nat}(hf:fo≠x):Rdr base β x s (Z.famO fo):=by
 obtain⟨bv,lv,ho,hv,hl⟩:=h.cells
 have hb:=h.hb
 refine⟨h.hx,⟨hb.1,by simp;omega⟩,?_,λf q=>?_,bv,lv,?_,hv,?_⟩
 .have:¬0=Z.nf:=by omega
  simp[this,h.h0]
 .obtain⟨h1,h2⟩:=h.hβ f q
  have:¬f=Z.nf:=by omega
  exact⟨h1,by simp[this,h2]⟩
 .have:¬x=fo:=λe=>hf e.symm
  simp[this,ho]
 .rcases hl with h1|⟨g,tos,h1,h2,h3,h4,h5⟩
  .exact .inl h1
  .have:¬g=Z.nf:=by omega
   exact .inr ⟨g,tos,h1,h2,by simp;omega,by simp[this,h4],h5⟩
theorem zd.famO{J0 Z:AS}(A:zd J0 Z){fo:Nat}(hf:J0.no<=fo):zd J0 (Z.famO fo):=⟨A.no,by have:=A.nf;simp;omega,λo ho=>by
 have:¬o=fo:=by omega
 simp[this]
 exact A.obj o ho,λf hf'=>by
 have:=A.nf
 have:¬f=Z.nf:=by omega
 simp[this]
 exact A.fam f hf'⟩
def zyU(R:Out->AS->Prop)(o:Out)(J':AS):Prop:=R o J'\/∃ob sz rows rest,o=.ret (.agg (.slm ob 0 sz rows.length::rest))/\J'.objs ob=some (zu rows)/\(∀x∈rows,x.cells.length=sz)/\R (.ret (.agg (.sl (.fam J'.nf false) sz rows::rest))) (J'.famO ob)
theorem ztj{J0 base β x mo fo n mem mn dps drows s}(hs:∀J' mv,Al.ME J' J0.nf mv ⟨dps.map Prod.fst,mem,mn⟩->zd J0 J'->Rdr base β x s J'->R (.ret mv) J'){a:Nat->AV}{Z:AS}(a2:a 2=.ptr mo 0)(hM:Md J0 base β x mo (zau fo n mem mn) s Z)(hF:FnN J0 x mo fo dps [] drows [] Z)(hl:dps.length=n):avc yb9 G 114 zft (zbE yb9 [.cell 2 28] (zyU R)) a Z:=by
 have hmo:=hM.ob
 simp only[zau]at hmo
 have hdrl:=hF.dr.length
 have hfn:=hF.fn
 have hmf:¬fo=mo:=hfn.fm
 have hM':Md J0 base β x mo (zau fo n mem mn) s (Z.setO mo (zau fo n mem mn)):=hM.setM
 simp only[zau]at hM'
 simp[zft,a2,hmo,splice]
 refine .inr ⟨fo,5,drows,[.int .i64 mem,.int .i64 mn],by simp[hdrl,hl],?_,zhB (λv a h=>zkJ h) hF.dr,?_⟩
 .simp[hmf]
  simpa using hfn.ob
 .have hA:=hM'.ad
  refine hs _ _ ⟨_,rfl,.inr ⟨Z.nf,drows,dps,by simp,hM.ad.nf,by simp,by simp,rfl,hF.dr,by simpa using hF.nd,λy hy=>?_⟩⟩ (hA.famO hF.f0) (hM'.rd.famO hfn.fx)
  obtain⟨p,hp,rfl⟩:=yaV.1 hy
  obtain⟨u1,u2,u3⟩:=hF.each p (by simpa using hp)
  have:¬p.2=Z.nf:=by omega
  exact⟨u1,by simp;omega,by simp[this,u3],by omega⟩
theorem zvr{J0 base β x mo fo mem mn}{h0:List F}{res:Option (M × Rs)}(hlen:h0.length<=2^37)(hn:res=none->ze6 R J0)(hs:∀m s',res=some (m,s')->∀J' mv,Al.ME J' J0.nf mv m->zd J0 J'->Rdr base β x s' J'->R (.ret mv) J')
  {dps:List (F × Nat)} {drows:List AV} {s:Rs} {a:Nat->AV} {Z:AS} (a0:a 0=.ptr x 0) (a2:a 2=.ptr mo 0) (hM:Md J0 base β x mo (zau fo h0.length mem mn) s Z) (hF:FnL J0 x mo fo h0 dps drows [] Z) (hl:dps.length=h0.length) (he:res=((zoV h0 (dps.map Prod.fst) s).map λq=>({ funcs:=q.1,memory:=mem,main:=mn },q.2))) :
  avc yb9 G 114 zgM (zbE yb9 [.cell 2 28] (zyU R)) a Z:=by
 have hnO:res=none->ze6 (zyU R) J0:=λq e J' a b=>.inl (hn q e J' a b)
 have hF0:FnN J0 x mo fo [] dps [] drows Z:=⟨by simpa using hF.fn,hF.f0,.nil,hF.dr,by simpa using hF.nd,by simpa using hF.each⟩
 unfold zoV at he
 simp[zgM,a0]
 refine za4 (n:=0) hM.rd (λq=>hM.none (hnO (by rw[he,q];rfl))) (λs1 q Z1 hr hk=>?_)
 rw[q]at he
 simp only[ydx]at he
 have hM1:=hM.keepS hk hr (za9 q)
 have hF1:=hF0.keepS hk
 simp[a0]
 refine zax hM1.rd (λq=>hM1.none (hnO (by rw[he,zdc q];rfl))) (λp s2 q v Z2 _ hr hk=>?_)
 rw[zdd q]at he
 simp only[ydx]at he
 have hM2:=hM1.keepS hk hr (zc0 q)
 have hF2:=hF1.keepS hk
 simp[a0]
 refine zA hM2.rd (λq=>hM2.none (hnO (by rw[he,q];rfl))) (λk3 s3 q Z3 hr hk=>?_)
 rw[q]at he
 simp only[ydx]at he
 have hM3:=hM2.keepS hk hr (zaq q)
 have hF3:=hF2.keepS hk
 have hmo3:=hM3.ob
 simp only[zau]at hmo3
 simp[a0,a2,hmo3]
 refine zA hM3.rd (λq=>hM3.none (hnO (by rw[he,q];rfl))) (λk4 s4 q Z4 hr hk=>?_)
 rw[q]at he
 simp only[ydx]at he
 have hM4:=hM3.keepS hk hr (zaq q)
 have hF4:=hF3.keepS hk
 have hmo4:=hM4.ob
 simp only[zau]at hmo4
 by_cases hk4:k4=(h0.length:Int)
 .rw[if_pos hk4]at he
  simp[a2,hmo4,hk4]
  refine zB (λ_=>?_) (λq=>by cases q)
  simp[a2,hmo4]
  refine zS (NL4 J0 base β x mo fo h0.length mem mn res) (MU 97 (h0.length+1)) ⟨[],dps,[],drows,s4,by simp[a0],by simp[a2],by simp,by simp,by simp[hl],hM4,hF4,by rw[he];rfl⟩ λa Z hI=>?_
  refine zti hnO hlen (λdps drows s a Z b0 b2 hM hF hl he=>?_) hI
  exact ztj (λJ' mv h1 h2 h3=>hs _ _ he J' mv h1 h2 h3) b2 hM hF hl
 .rw[if_neg hk4]at he
  simp[a2,hmo4,hk4]
  refine zB (λq=>by cases q) (λ_=>?_)
  simp
  exact hM4.none (hnO (by rw[he];rfl)) _ _ (.inl rfl) (.refl ..)
theorem zvs(V:zdI G){J0 base β x mo fo mem0 mn0}{h0:List F}{res:Option (M × Rs)}{hrows:List AV}(hlen:h0.length<=2^37)(hh:∀f∈h0,f.locals=[]/\f.name=[])(hhr:All2 HV hrows h0)(hf0:J0.no<=fo)(hn:res=none->ze6 R J0)(hs:∀m s',res=some (m,s')->∀J' mv,Al.ME J' J0.nf mv m->zd J0 J'->Rdr base β x s' J'->R (.ret mv) J')
  {s:Rs} {a:Nat->AV} {Z:AS} (a0:a 0=.ptr x 0) (a2:a 2=.ptr mo 0) (hM:Md J0 base β x mo (zau fo h0.length mem0 mn0) s Z) (hF:Fn x mo fo (zu hrows) Z) (hs65:s.n<=65536) (he:res=(zoU h0 s).bind zDS) :
  avc yb9 G 114 zh6 (zbE yb9 [.cell 2 28] (zyU R)) a Z:=by
 have hnO:res=none->ze6 (zyU R) J0:=λq e J' a b=>.inl (hn q e J' a b)
 unfold zoU at he
 simp[zh6,a0]
 refine za4 (n:=5) hM.rd (λq=>hM.none (hnO (by rw[he,q];rfl))) (λs1 q Z1 hr hk=>?_)
 rw[q]at he
 simp only[ydx]at he
 have n1:=zej q
 have hM1:=hM.keepS hk hr (za9 q)
 have hF1:=hF.keepS hk
 simp[a0]
 refine zax hM1.rd (λq=>hM1.none (hnO (by rw[he,zdc q];rfl))) (λp s2 q v Z2 _ hr hk=>?_)
 rw[zdd q]at he
 simp only[ydx]at he
 have n2:=(zaY q).2.2
 have hM2:=hM1.keepS hk hr (zc0 q)
 have hF2:=hF1.keepS hk
 simp[a0]
 refine za4 (n:=6) hM2.rd (λq=>hM2.none (hnO (by rw[he,q];rfl))) (λs3 q Z3 hr hk=>?_)
 rw[q]at he
 simp only[ydx]at he
 have n3:=zej q
 have hM3:=hM2.keepS hk hr (za9 q)
 have hF3:=hF2.keepS hk
 simp[a0]
 refine zax hM3.rd (λq=>hM3.none (hnO (by rw[he,zdc q];rfl))) (λp s4 q v Z4 _ hr hk=>?_)
 rw[zdd q]at he
 simp only[ydx]at he
 have n4:=(zaY q).2.2
 have hM4:=hM3.keepS hk hr (zc0 q)
 have hF4:=hF3.keepS hk
 simp[a0]
 refine zA hM4.rd (λq=>hM4.none (hnO (by rw[he,q];rfl))) (λmem s5 q Z5 hr hk=>?_)
 rw[q]at he
 simp only[ydx]at he
 have n5:=(zp q).2.2.1
 have hM5:=hM4.keepS hk hr (zaq q)
 have hF5:=hF4.keepS hk
 have hmo5:=hM5.ob
 simp only[zau]at hmo5
 have hM5':Md J0 base β x mo (zau fo h0.length mem mn0) s5 (Z5.setO mo (zau fo h0.length mem mn0)):=hM5.setM
 have hF5':Fn x mo fo (zu hrows) (Z5.setO mo (zau fo h0.length mem mn0)):=hF5.setM
 have hmo5':=hM5'.ob
 simp only[zau]at hM5' hF5' hmo5'
 simp[a0,a2,hmo5,splice]
 refine zax hM5'.rd (λq=>hM5'.none (hnO (by rw[he,zdc q];rfl))) (λp s6 q v Z6 _ hr hk=>?_)
 rw[zdd q]at he
 simp only[ydx]at he
 have n6:=(zaY q).2.2
 have hM6:=hM5'.keepS hk hr (zc0 q)
 have hF6:=hF5'.keepS hk
 simp[a0]
 refine za4 (n:=7) hM6.rd (λq=>hM6.none (hnO (by rw[he,q];rfl))) (λs7 q Z7 hr hk=>?_)
 rw[q]at he
 simp only[ydx]at he
 have n7:=zej q
 have hM7:=hM6.keepS hk hr (za9 q)
 have hF7:=hF6.keepS hk
 simp[a0]
 refine zax hM7.rd (λq=>hM7.none (hnO (by rw[he,zdc q];rfl))) (λp s8 q v Z8 _ hr hk=>?_)
 rw[zdd q]at he
 simp only[ydx]at he
 have n8:=(zaY q).2.2
 have hM8:=hM7.keepS hk hr (zc0 q)
 have hF8:=hF7.keepS hk
 simp[a0]
 refine zA hM8.rd (λq=>hM8.none (hnO (by rw[he,q];rfl))) (λmn s9 q Z9 hr hk=>?_)
 rw[q]at he
 simp only[yaG,ydx]at he
 have n9:=(zp q).2.2.1
 have hM9:=hM8.keepS hk hr (zaq q)
 have hF9:=hF8.keepS hk
 have hmo9:=hM9.ob
 have hM9':Md J0 base β x mo (zau fo h0.length mem (yb4 .i64 (mn-3))) s9 (Z9.setO mo (zau fo h0.length mem (yb4 .i64 (mn-3)))):=hM9.setM
 have hF9':Fn x mo fo (zu hrows) (Z9.setO mo (zau fo h0.length mem (yb4 .i64 (mn-3)))):=hF9.setM
 have he9:res=(znm h0 s9).map λq=>({ funcs:=q.1,memory:=mem,main:=yb4 .i64 (mn-3) },q.2):=he
 rw[zyS]at he9
 simp only[zau]at hM9' hF9'
 simp[a0,a2,hmo9,splice]
 refine za4 (n:=10) hM9'.rd (λq=>hM9'.none (hnO (by rw[he9,q];rfl))) (λs10 q Z10 hr hk=>?_)
 rw[q]at he9
 simp only[ydx]at he9
 have n10:=zej q
 have hM10:=hM9'.keepS hk hr (za9 q)
 have hF10:=hF9'.keepS hk
 have hmo10:=hM10.ob
 simp[a0,a2,hmo10]
 refine zA hM10.rd (λq=>hM10.none (hnO (by rw[he9,q];rfl))) (λk s11 q Z11 hr hk=>?_)
 rw[q]at he9
 simp only[ydx]at he9
 have n11:=(zp q).2.2.1
 have hM11:=hM10.keepS hk hr (zaq q)
 have hF11:=hF10.keepS hk
 have hmo11:=hM11.ob
 by_cases hk':k=(h0.length:Int)
 .rw[if_pos hk']at he9
  simp[a2,hmo11,hk']
  refine zB (λ_=>?_) (λq=>by cases q)
  simp[a2,hmo11]
  refine zS (FL3 J0 base β x mo fo mem (yb4 .i64 (mn-3)) h0 res) (MU 71 (h0.length+1)) ⟨[],[],hrows,s11,by simp[a0],by simp[a2],by simp,by simp,hM11,⟨by simpa using hF11,hf0,by simp,.nil,by simpa using hhr,by simp,by simp,by simp⟩,by omega,by rw[he9];rfl⟩ λa Z hI=>?_
  refine zth V hnO hh (λdps drows s a Z b0 b2 hM hF hl he=>?_) hlen hI
  exact zvr hlen hn hs b0 b2 hM hF hl he
 .rw[if_neg hk']at he9
  simp[a2,hmo11,hk']
  refine zB (λq=>by cases q) (λ_=>?_)
  simp
  exact hM11.none (hnO (by rw[he9];rfl)) _ _ (.inl rfl) (.refl ..)
theorem zvt(V:zdI G){J0 base β x mo fo mem0 mn0}{h0:List F}{res:Option (M × Rs)}{hrows:List AV}(hlen:h0.length<=2^37)(hh:∀f∈h0,f.locals=[]/\f.name=[])(hhr:All2 HV hrows h0)(hf0:J0.no<=fo)(hn:res=none->ze6 R J0)(hs:∀m s',res=some (m,s')->∀J' mv,Al.ME J' J0.nf mv m->zd J0 J'->Rdr base β x s' J'->R (.ret mv) J')
  {s:Rs} {a:Nat->AV} {Z:AS} (a0:a 0=.ptr x 0) (a2:a 2=.ptr mo 0) (hM:Md J0 base β x mo (zau fo h0.length mem0 mn0) s Z) (hF:Fn x mo fo (zu hrows) Z) (hs65:s.n<=65536) (he:res=(ziQ h0 s).bind zDS) :
  avc yb9 G 114 zke (zbE yb9 [.cell 2 28] (zyU R)) a Z:=by
 have hnO:res=none->ze6 (zyU R) J0:=λq e J' a b=>.inl (hn q e J' a b)
 unfold ziQ at he
 simp[zke,a0]
 refine za4 (n:=3) hM.rd (λq=>hM.none (hnO (by rw[he,q];rfl))) (λs1 q Z1 hr hk=>?_)
 rw[q]at he
 simp only[ydx]at he
 have n1:=zej q
 have hM1:=hM.keepS hk hr (za9 q)
 have hF1:=hF.keepS hk
 simp[a0]
 refine zA hM1.rd (λq=>hM1.none (hnO (by rw[he,q];rfl))) (λN s2 q Z2 hr hk=>?_)
 rw[q]at he
 simp only[ydx]at he
 have n2:=(zp q).2.2.1
 have hM2:=hM1.keepS hk hr (zaq q)
 have hF2:=hF1.keepS hk
 have hNr:=(zp q).2.2.2.2.1
 simp
 refine zS (Nm2 J0 base β x mo fo (zau fo h0.length mem0 mn0) (zu hrows) h0 res s2.n N) (MU 33 (N.toNat+1)) ⟨0,s2,by omega,by simp[a0],by simp[a2],by simp,by simp,hM2,hF2,rfl,he⟩ λa Z hI=>?_
 refine zoX hNr hnO (λs a Z b0 b2 hM hF hsn he=>?_) hI
 exact zvs V hlen hh hhr hf0 hn hs b0 b2 hM hF (by omega) he
theorem zoZ(V:zdI G){J0 base β x s}(h:Rdr base β x s J)(hA:zd J0 J)(hx0:J0.no<=x)(hb0:J0.nf<=base)(hl:s.b.length<=2^37)(hs65:s.n<=65536)(hn:zdZ s=none->ze6 R J0)(hs:∀m s',zdZ s=some (m,s')->∀J' mv,Al.ME J' J0.nf mv m->zd J0 J'->Rdr base β x s' J'->R (.ret mv) J'):zzQ G 39 [.ptr x 0] J R:=by
 refine zKk (zCM rfl ?_)
 show avc yb9 G 114 zKr (zbE yb9 [.cell 2 28] (zyU R)) _ J
 generalize hres:zdZ s=res at *
 have he:=hres.symm
 rw[ztg,zvp]at he
 have hnO:res=none->ze6 (zyU R) J0:=λq e J' a b=>.inl (hn q e J' a b)
 have hx:=h.hx
 have hmx:¬J.no=x:=by omega
 have hno:=hA.no
 have hM:Md J0 base β x J.no [.nilsl,.int .i64 0,.int .i64 0] s (J.newO [.nilsl,.int .i64 0,.int .i64 0]):=⟨h.adds (zd.refl J).newO,hA.newO,by simp,by simp,hmx,hx0,hno,hb0,hl⟩
 simp[zKr]
 refine zax hM.rd (λq=>hM.none (hnO (by rw[he,zdc q];rfl))) (λp s1 q v Z1 _ hr hk=>?_)
 rw[zdd q]at he
 simp only[ydx]at he
 have n1:=(zaY q).2.2
 have hM1:=hM.keepS hk hr (zc0 q)
 simp
 refine znq hM1.rd hM1.len (λq=>hM1.none (hnO (by rw[he,q];rfl))) (λh0 s2 q Z2 hrows g hhr hg1 hg2 hg3 hg4 hr hk hlen2=>?_)
 rw[q]at he
 simp only[ydx]at he
 have n2:=zu7 q
 have hh:=zkC q
 have hM2:=hM1.keepS hk hr (by omega)
 have hmo2:=hM2.ob
 have hrl:=hhr.length
 have hl1:=hM1.len
 simp[hmo2,splice]
 have hM2':Md J0 base β x J.no [.sl (.fam g false) 5 hrows,.int .i64 0,.int .i64 0] s2 (Z2.setO J.no [.sl (.fam g false) 5 hrows,.int .i64 0,.int .i64 0]):=hM2.setM
 refine zKh (za4 (n:=2) hM2'.rd (λq e J' b1 b2=>.inl (hM2'.none (hnO (by rw[he,q];rfl)) e J' b1 b2)) (λs3 q Z3 hr3 hk3=>.inr ⟨g,J.no,0,5,false,[.sl (.fam g false) 5 hrows,.int .i64 0,.int .i64 0],hrows,?_,?_,rfl,?_⟩))
 .rw[hk3.fam g (by simpa using hg2)]
  simpa using hg3
 .exact(hk3.obj J.no (by simpa using hM2.lt) hmx).trans (by simp)
 .rw[q]at he
  simp only[ydx]at he
  have n3:=zej q
  have hM3:=hM2'.keepS hk3 hr3 (za9 q)
  have hno3:=hM3.lt
  have hnf3:=hk3.nf
  have hnu3:¬zcT Z3 x g:=λu=>hg4 (by
   have:=hk3.r.use g (by simpa using hg2) u
   obtain⟨cs',v,u1,u2,u3⟩:=this
   have hxm:¬x=J.no:=λe=>hmx e.symm
   simp[hxm]at u1
   exact⟨cs',v,u1,u2,u3⟩)
  have hgb:base<=g:=by have:=hM1.rd.hb.2;omega
  simp at hnf3
  have hM4:Md J0 base β x J.no (zau Z3.no h0.length 0 0) s3 (Z3.own g J.no ([.sl (.fam g false) 5 hrows,.int .i64 0,.int .i64 0].set 0 (.slm Z3.no 0 5 hrows.length)) (zu hrows)):=by
   have r1:=hM3.rd.endF hgb hnu3
   obtain⟨bv,lv,ho,hv,hl⟩:=r1.cells
   have hxm:¬x=J.no:=λe=>hmx e.symm
   have hxn:=hM3.rd.hx
   have hx3:¬x=Z3.no:=by omega
   have hm3:¬J.no=Z3.no:=by omega
   refine⟨⟨by simp;omega,r1.hb,by simpa using r1.h0,λf hf=>by simpa using r1.hβ f hf,bv,lv,by simpa [hxm,hx3]using ho,hv,?_⟩,⟨by have:=hM3.ad.no;simp;omega,hM3.ad.nf,λo ho=>?_,λf hf=>?_⟩,by simp[hm3,zau,hrl],by simp;omega,hmx,hx0,hno,hb0,hM3.len⟩
   .rcases hl with h1|⟨f,tos,h1,h2,h3,h4,h5⟩
    .exact .inl h1
    .exact .inr ⟨f,tos,h1,h2,h3,by simpa using h4,h5⟩
   .have h1:¬o=Z3.no:=by omega
    have h2:¬o=J.no:=by omega
    simp[h1,h2]
    exact hM3.ad.obj o ho
   .have:¬f=g:=by omega
    simp[this]
    exact hM3.ad.fam f hf
  have hF4:Fn x J.no Z3.no (zu hrows) (Z3.own g J.no ([.sl (.fam g false) 5 hrows,.int .i64 0,.int .i64 0].set 0 (.slm Z3.no 0 5 hrows.length)) (zu hrows)):=⟨by simp,by simp,by have:=hM3.rd.hx;omega,by omega⟩
  generalize Z3.own g J.no ([.sl (.fam g false) 5 hrows,.int .i64 0,.int .i64 0].set 0 (.slm Z3.no 0 5 hrows.length)) (zu hrows)=Z4 at *
  have hh':∀f∈h0,f.locals=[]/\f.name=[]:=λf hf=>⟨(hh f hf).1,by
   have key:∀{rows:List AV} {l:List F},All2 HV rows l->∀f∈l,f.name=[]:=λ{rows l} hr=>by
    induction hr with
    | nil=>intro f hf;cases hf
    | cons h r ih =>
     intro f hf
     rcases ybC.1 hf with rfl|hf
     .obtain⟨_,_,_,e,_⟩:=h
      exact e
     .exact ih f hf
   exact key hhr f hf⟩
  have hf0:J0.no<=Z3.no:=by omega
  simp
  refine zax hM4.rd (λq=>hM4.none (hnO (by rw[he,zdc q];rfl))) (λp s5 q v Z5 _ hr hk=>?_)
  rw[zdd q]at he
  simp only[ydx]at he
  have n5:=(zaY q).2.2
  have hM5:=hM4.keepS hk hr (zc0 q)
  have hF5:=hF4.keepS hk
  simp
  refine zS (Im1 J0 base β x J.no Z3.no (zau Z3.no h0.length 0 0) (zu hrows) h0 res s5.n) (MU 18 4) ⟨0,s5,by omega,by simp,by simp,by simp[zhy],by simp,by simp,hM5,hF5,rfl,he⟩ λa Z hI=>?_
  refine zoW hnO (λs a Z b0 b2 hM hF hsn he=>?_) hI
  exact zvt V (by omega) hh' hhr hf0 hn hs b0 b2 hM hF (by omega) he
end
def ixI(o:Option Nat):Int:=match o with
 | some i=>(i:Int)
 | none=>-1
theorem zrY(o:Option Nat):decide (0<=ixI o)=o.isSome:=by
 cases o with
 | none=>rfl
 | some i=>simp[ixI]
theorem zjA{α:Type}(P:α->Bool)(l:List α):(l.findIdx? P).isSome=l.any P:=by
 rw[List.findIdx?_isSome]
theorem znr{α:Type}{P:α->Bool}{l:List α}{i:Nat}(hi:i<l.length)(hp:P l[i]=true)(hn:∀j (h:j<l.length),j<i->P l[j]=false):l.findIdx? P=some i:=by
 rw[ydn]
 exact⟨hi,hp,λj hj=>by simp[hn j (by omega) hj]⟩
theorem zns{α:Type}{P:α->Bool}{l:List α}(hn:∀j (h:j<l.length),P l[j]=false):l.findIdx? P=none:=by
 rw[ydV]
 intro x hx
 obtain⟨j,hj,rfl⟩:=List.getElem_of_mem hx
 exact hn j hj
section
variable {G : Env} {J : AS} {R : Out -> AS -> Prop}
def IxA{α:Type}(P:α->Bool)(v fv:AV)(l:List α)(J:AS)(a:Nat->AV)(Z:AS):Prop:=∃i:Nat,i<=l.length/\a 0=v/\a 1=fv/\a 7=.int .i64 (l.length:Int)/\a 8=.int .i64 (i:Int)/\zd J Z/\∀j (h:j<l.length),j<i->P l[j]=false
theorem zMB{n:Nat}{caps:List AV}{P:Int->Bool}{l:List Int}{v:AV}(hv:Al.IntsO J v l)(hl:l.length<=2^40)(hc:za yb9 n=true)
  (hcall:∀x∈l,∀rv Z (R':Out->AS->Prop),zd J Z->rv=.int .i64 x->(∀Z',zd Z Z'->R' (.ret (.bool (P x))) Z')->zzQ G n (rv::caps) Z R') (h:∀J',zd J J'->R (.ret (.int .i64 (ixI (l.findIdx? P)))) J'):zzQ G 154 [v,.fn (.func n) [] caps] J R:=by
 refine zrs rfl ?_
 have v1:=hv.one
 have v2:=hv.len
 simp[zDq,v1,v2]
 refine zS (IxA P v (.fn (.func n) [] caps) l J) (MU 8 (l.length+1)) ⟨0,by omega,by simp,by simp,by simp,by simp,.refl _,λj _ h=>by omega⟩ λa Z hI=>?_
 obtain⟨i,hi,a0,a1,a7,a8,hA,hno⟩:=hI
 by_cases hlt:i<l.length
 .have hlt':(i:Int)<(l.length:Int):=by omega
  obtain⟨φ,hrd,hix⟩:=(hv.keep hA).at hlt
  have hrd:=hrd.read
  have hmem:=yaw hlt
  have w1:yb4 .i64 ((i:Int)+1)=((i+1:Nat):Int):=by rw[zb]<;>omega
  skip
  simp[zf5,a0,a1,a7,a8,hlt',hix,hrd,hc ]
  refine hcall _ hmem _ Z _ hA rfl λZ' A'=>?_
  cases hp:P l[i]with
  | true =>
   have e:=znr hlt hp hno
   have:=h _ (hA.trans A')
   rw[e]at this
   simp
   exact this
  | false =>
   simp[a8,w1]
   refine⟨⟨i+1,by omega,by simp[a0],by simp[a1],by simp[a7],by simp,hA.trans A',λj hj hji=>?_⟩,?_⟩
   .rcases ydo j i with h1|h1
    .exact hno j hj h1
    .have:j=i:=by omega
     subst this
     exact hp
   .simp only[MU,a8];simp;omega
 .have he:=zns (P:=P) (l:=l) λj hj=>hno j hj (by omega)
  have:=h _ hA
  rw[he]at this
  simp[zf5,zm6,a7,a8,hlt]
  exact this
theorem zKX{n:Nat}{caps:List AV}{P:Int->Bool}{l:List Int}{v:AV}(hv:Al.IntsO J v l)(hl:l.length<=2^40)(hc:za yb9 n=true)
  (hcall:∀x∈l,∀rv Z (R':Out->AS->Prop),zd J Z->rv=.int .i64 x->(∀Z',zd Z Z'->R' (.ret (.bool (P x))) Z')->zzQ G n (rv::caps) Z R') (h:∀J',zd J J'->R (.ret (.bool (l.any P))) J'):zzQ G 95 [v,.fn (.func n) [] caps] J R:=by
 refine zuB rfl ?_
 have v1:=hv.one
 simp[zKx,v1]
 refine zMB hv hl hc hcall λJ' A=>?_
 have e:decide (0<=ixI (l.findIdx? P))=l.any P:=by rw[zrY,zjA]
 simp[e]
 exact h _ A
theorem zKY{n:Nat}{caps:List AV}{P:W->Bool}{l:List W}{v:AV}(hv:Al.RepO J v l)(hl:l.length<=2^40)(hc:za yb9 n=true)
  (hcall:∀x∈l,∀rv Z (R':Out->AS->Prop),zd J Z->rv=x.av->(∀Z',zd Z Z'->R' (.ret (.bool (P x))) Z')->zzQ G n (rv::caps) Z R') (h:∀J',zd J J'->R (.ret (.int .i64 (ixI (l.findIdx? P)))) J'):zzQ G 156 [v,.fn (.func n) [] caps] J R:=by
 refine zxH rfl ?_
 have v1:=hv.one
 have v2:=RepO.len hv
 simp[zGO,v1,v2]
 refine zS (IxA P v (.fn (.func n) [] caps) l J) (MU 8 (l.length+1)) ⟨0,by omega,by simp,by simp,by simp,by simp,.refl _,λj _ h=>by omega⟩ λa Z hI=>?_
 obtain⟨i,hi,a0,a1,a7,a8,hA,hno⟩:=hI
 by_cases hlt:i<l.length
 .have hlt':(i:Int)<(l.length:Int):=by omega
  obtain⟨φ,hrd,hix⟩:=RepO.at (hv.keep hA) hlt
  have hrd:=hrd.read
  have hmem:=yaw hlt
  have w1:yb4 .i64 ((i:Int)+1)=((i+1:Nat):Int):=by rw[zb]<;>omega
  skip
  simp[zjo,a0,a1,a7,a8,hlt',hix,hrd,hc ,W.av,W.cs]
  refine hcall _ hmem _ Z _ hA rfl λZ' A'=>?_
  cases hp:P l[i]with
  | true =>
   have e:=znr hlt hp hno
   have:=h _ (hA.trans A')
   rw[e]at this
   simp
   exact this
  | false =>
   simp[a8,w1]
   refine⟨⟨i+1,by omega,by simp[a0],by simp[a1],by simp[a7],by simp,hA.trans A',λj hj hji=>?_⟩,?_⟩
   .rcases ydo j i with h1|h1
    .exact hno j hj h1
    .have:j=i:=by omega
     subst this
     exact hp
   .simp only[MU,a8];simp;omega
 .have he:=zns (P:=P) (l:=l) λj hj=>hno j hj (by omega)
  have:=h _ hA
  rw[he]at this
  simp[zjo,zru,a7,a8,hlt]
  exact this
theorem zKZ{n:Nat}{caps:List AV}{P:W->Bool}{l:List W}{v:AV}(hv:Al.RepO J v l)(hl:l.length<=2^40)(hc:za yb9 n=true)
  (hcall:∀x∈l,∀rv Z (R':Out->AS->Prop),zd J Z->rv=x.av->(∀Z',zd Z Z'->R' (.ret (.bool (P x))) Z')->zzQ G n (rv::caps) Z R') (h:∀J',zd J J'->R (.ret (.bool (l.any P))) J'):zzQ G 100 [v,.fn (.func n) [] caps] J R:=by
 refine zxg rfl ?_
 have v1:=hv.one
 simp[zGy,v1]
 refine zKY hv hl hc hcall λJ' A=>?_
 have e:decide (0<=ixI (l.findIdx? P))=l.any P:=by rw[zrY,zjA]
 simp[e]
 exact h _ A
theorem zMC{n:Nat}{caps:List AV}{P:(List W)->Bool}{l:List (List W)}{v:AV}(hv:Al.LstO J v l)(hl:l.length<=2^40)(hc:za yb9 n=true)
  (hcall:∀x∈l,∀rv Z (R':Out->AS->Prop),zd J Z->Al.RepO Z rv x->(∀Z',zd Z Z'->R' (.ret (.bool (P x))) Z')->zzQ G n (rv::caps) Z R') (h:∀J',zd J J'->R (.ret (.int .i64 (ixI (l.findIdx? P)))) J'):zzQ G 155 [v,.fn (.func n) [] caps] J R:=by
 refine zxG rfl ?_
 have v1:=hv.one
 have v2:=hv.len
 simp[zGN,v1,v2]
 refine zS (IxA P v (.fn (.func n) [] caps) l J) (MU 8 (l.length+1)) ⟨0,by omega,by simp,by simp,by simp,by simp,.refl _,λj _ h=>by omega⟩ λa Z hI=>?_
 obtain⟨i,hi,a0,a1,a7,a8,hA,hno⟩:=hI
 by_cases hlt:i<l.length
 .have hlt':(i:Int)<(l.length:Int):=by omega
  obtain⟨φ,rv,hrd,hel,hix⟩:=(hv.keep hA).at hlt
  have hrd:=hrd.read
  have hmem:=yaw hlt
  have w1:yb4 .i64 ((i:Int)+1)=((i+1:Nat):Int):=by rw[zb]<;>omega
  have o1:=hel.one
  simp[zjn,a0,a1,a7,a8,hlt',hix,hrd,hc ,o1]
  refine hcall _ hmem _ Z _ hA hel λZ' A'=>?_
  cases hp:P l[i]with
  | true =>
   have e:=znr hlt hp hno
   have:=h _ (hA.trans A')
   rw[e]at this
   simp
   exact this
  | false =>
   simp[a8,w1]
   refine⟨⟨i+1,by omega,by simp[a0],by simp[a1],by simp[a7],by simp,hA.trans A',λj hj hji=>?_⟩,?_⟩
   .rcases ydo j i with h1|h1
    .exact hno j hj h1
    .have:j=i:=by omega
     subst this
     exact hp
   .simp only[MU,a8];simp;omega
 .have he:=zns (P:=P) (l:=l) λj hj=>hno j hj (by omega)
  have:=h _ hA
  rw[he]at this
  simp[zjn,zrt,a7,a8,hlt]
  exact this
theorem zK0{n:Nat}{caps:List AV}{P:(List W)->Bool}{l:List (List W)}{v:AV}(hv:Al.LstO J v l)(hl:l.length<=2^40)(hc:za yb9 n=true)
  (hcall:∀x∈l,∀rv Z (R':Out->AS->Prop),zd J Z->Al.RepO Z rv x->(∀Z',zd Z Z'->R' (.ret (.bool (P x))) Z')->zzQ G n (rv::caps) Z R') (h:∀J',zd J J'->R (.ret (.bool (l.any P))) J'):zzQ G 98 [v,.fn (.func n) [] caps] J R:=by
 refine zDi rfl ?_
 have v1:=hv.one
 simp[zL4,v1]
 refine zMC hv hl hc hcall λJ' A=>?_
 have e:decide (0<=ixI (l.findIdx? P))=l.any P:=by rw[zrY,zjA]
 simp[e]
 exact h _ A
theorem zMD{n:Nat}{caps:List AV}{P:F->Bool}{l:List F}{v:AV}(hv:Al.FsO J v l)(hl:l.length<=2^40)(hc:za yb9 n=true)
  (hcall:∀x∈l,∀rv Z (R':Out->AS->Prop),zd J Z->Al.FVO Z rv x->(∀Z',zd Z Z'->R' (.ret (.bool (P x))) Z')->zzQ G n (rv::caps) Z R') (h:∀J',zd J J'->R (.ret (.int .i64 (ixI (l.findIdx? P)))) J'):zzQ G 153 [v,.fn (.func n) [] caps] J R:=by
 refine zxF rfl ?_
 have v1:=hv.one
 have v2:=hv.len
 simp[zGM,v1,v2]
 refine zS (IxA P v (.fn (.func n) [] caps) l J) (MU 8 (l.length+1)) ⟨0,by omega,by simp,by simp,by simp,by simp,.refl _,λj _ h=>by omega⟩ λa Z hI=>?_
 obtain⟨i,hi,a0,a1,a7,a8,hA,hno⟩:=hI
 by_cases hlt:i<l.length
 .have hlt':(i:Int)<(l.length:Int):=by omega
  obtain⟨φ,rv,hrd,hel,hix⟩:=(hv.keep hA).at hlt
  have hrd:=hrd.read
  have hmem:=yaw hlt
  have w1:yb4 .i64 ((i:Int)+1)=((i+1:Nat):Int):=by rw[zb]<;>omega
  obtain⟨pv,lv,tv,hrv,hpv,hlv,htv⟩:=id hel
  have o1:=hpv.one
  have o2:=hlv.one
  have o3:=htv.one
  subst hrv
  simp[zjm,a0,a1,a7,a8,hlt',hix,hrd,hc ,o1,o2,o3]
  refine hcall _ hmem _ Z _ hA hel λZ' A'=>?_
  cases hp:P l[i]with
  | true =>
   have e:=znr hlt hp hno
   have:=h _ (hA.trans A')
   rw[e]at this
   simp
   exact this
  | false =>
   simp[a8,w1]
   refine⟨⟨i+1,by omega,by simp[a0],by simp[a1],by simp[a7],by simp,hA.trans A',λj hj hji=>?_⟩,?_⟩
   .rcases ydo j i with h1|h1
    .exact hno j hj h1
    .have:j=i:=by omega
     subst this
     exact hp
   .simp only[MU,a8];simp;omega
 .have he:=zns (P:=P) (l:=l) λj hj=>hno j hj (by omega)
  have:=h _ hA
  rw[he]at this
  simp[zjm,zrr,a7,a8,hlt]
  exact this
theorem zHK{n:Nat}{caps:List AV}{P:F->Bool}{l:List F}{v:AV}(hv:Al.FsO J v l)(hl:l.length<=2^40)(hc:za yb9 n=true)
  (hcall:∀x∈l,∀rv Z (R':Out->AS->Prop),zd J Z->Al.FVO Z rv x->(∀Z',zd Z Z'->R' (.ret (.bool (P x))) Z')->zzQ G n (rv::caps) Z R') (h:∀J',zd J J'->R (.ret (.bool (l.any P))) J'):zzQ G 93 [v,.fn (.func n) [] caps] J R:=by
 refine zDe rfl ?_
 have v1:=hv.one
 simp[zL1,v1]
 refine zMD hv hl hc hcall λJ' A=>?_
 have e:decide (0<=ixI (l.findIdx? P))=l.any P:=by rw[zrY,zjA]
 simp[e]
 exact h _ A
theorem zo0{t:Int}(h:R (.ret (.bool (zlU t))) J):zzQ G 92 [.int .i64 t] J R:=by
 refine zDd rfl ?_
 by_cases h1:t=1
 .subst h1
  simp[zJc]
  simpa [zlU]using h
 .by_cases h2:t=2
  .subst h2
   simp[zJc]
   simpa [zlU]using h
  .simp[zJc,h1,h2]
   simpa [zlU,h1,h2]using h
theorem zBv:za yb9 92=true:=by kernel_rfl
theorem zHL:za yb9 94=true:=by kernel_rfl
theorem zHM:za yb9 96=true:=by kernel_rfl
theorem zHN:za yb9 97=true:=by kernel_rfl
theorem zHO:za yb9 99=true:=by kernel_rfl
theorem zBw{l:List Int}{v:AV}(hv:Al.IntsO J v l)(hl:l.length<=2^40)(h:∀J',zd J J'->R (.ret (.bool (l.any zlU))) J'):zzQ G 95 [v,.fn (.func 92) [] []] J R:=by
 refine zKX (P:=zlU) hv hl zBv (λx _ rv Z R' A e h=>?_) h
 subst e
 exact zo0 (h _ (.refl _))
theorem zo1{f:F}{fv:AV}{o:Nat}(hf:Al.FVO J fv f)(hs:SzB f)(ho:J.objs o=some [.fn (.func 92) [] []])(hol:o<J.no)(h:∀J',zd J J'->R (.ret (.bool (!zcv f))) J'):zzQ G 94 [fv,.ptr o 0] J R:=by
 refine zDf rfl ?_
 obtain⟨pv,lv,tv,rfl,hp,hl,ht⟩:=hf
 have p1:=hp.one
 have l1:=hl.one
 have t1:=ht.one
 have A0:zd J (J.newO [.str f.name,pv,lv,.int .i64 f.type,tv]):=(zd.refl J).newO
 have hne:¬o=J.no:=by omega
 have hs1:=hs.params
 have hs2:=hs.locals
 have eF:(!zcv f)=(f.params.any zlU||(f.locals.any zlU||(decide (f.type≠0)&&zlU f.type))):=by simp[zcv]
 rw[eF]at h
 simp[zL2,p1,l1,t1,hne,ho]
 refine zBw (hp.keep A0) (by omega) λJ1 A1=>?_
 have o1:=(A1.obj J.no (by simp)).trans (show _=some [.str f.name,pv,lv,.int .i64 f.type,tv]by simp)
 have o2:=(A1.obj o (by simp;omega)).trans (show _=some [.fn (.func 92) [] []]by simp[hne,ho])
 have n1:=A1.no
 simp at n1
 cases hq:f.params.any zlU with
 | true =>
  rw[hq]at h
  simp
  exact h _ (A0.trans A1)
 | false =>
  rw[hq]at h
  simp[o1,o2,l1]
  refine zBw (hl.keep (A0.trans A1)) (by omega) λJ2 A2=>?_
  have o3:=(A2.obj J.no (by omega)).trans o1
  have o4:=(A2.obj o (by omega)).trans o2
  cases hq2:f.locals.any zlU with
  | true =>
   rw[hq2]at h
   simp
   exact h _ ((A0.trans A1).trans A2)
  | false =>
   rw[hq2]at h
   by_cases h0:f.type=0
   .simp[o3,o4,h0]
    have:=h _ ((A0.trans A1).trans A2)
    simpa [h0]using this
   .simp[o3,o4,h0,zBv]
    refine zo0 ?_
    have:=h _ ((A0.trans A1).trans A2)
    simpa [h0]using this
theorem zqH{m:M}{mv:AV}(hm:Al.MO J mv m)(hl:m.funcs.length<=2^40)(hs:∀f∈m.funcs,SzB f)(h:∀J',zd J J'->R (.ret (.bool (m.funcs.all zcv))) J'):zzQ G 41 [mv] J R:=by
 refine zCO rfl ?_
 obtain⟨fv,rfl,hf⟩:=hm
 have f1:=hf.one
 have A0:zd J (((J.newO [fv,.int .i64 m.memory,.int .i64 m.main]).newO [.nilfn]).setO (J.no+1) [.fn (.func 92) [] []]):=((zd.refl J).newO.newO).setO (by omega)
 have e:(m.funcs.any λf=>!zcv f)=!(m.funcs.all zcv):=by simp[List.any_eq_not_all_not]
 simp[zLI,f1,splice]
 refine zHK (P:=λf=>!zcv f) (hf.keep A0) hl zHL (λx hx rv Z R' A e h'=>?_) λJ' A'=>?_
 .refine zo1 e (hs x hx) (o:=J.no+1) ((A.obj _ (by simp)).trans (by simp)) (by have:=A.no;simp at this;omega) h'
 .rw[e]
  simp
  exact h _ (A0.trans A')
theorem zqI{w:W}(h:∀J',zd J J'->R (.ret (.bool (zI w))) J'):zzQ G 96 [w.av] J R:=by
 refine zDg rfl ?_
 have A0:zd J (J.newO w.cs):=(zd.refl J).newO
 simp only[W.cs]at A0
 by_cases h0:w.n<0
 .simp[zKy,W.av,W.cs,h0]
  have:=h _ A0
  simpa [zI,h0]using this
 .simp[zKy,W.av,W.cs,h0]
  have:=h _ A0
  simpa [zI,h0]using this
theorem zo2{l:List W}{v:AV}{o:Nat}(hv:Al.RepO J v l)(hl:l.length<=2^40)(ho:J.objs o=some [.fn (.func 96) [] []])(h:∀J',zd J J'->R (.ret (.bool (l.any zI))) J'):zzQ G 99 [v,.ptr o 0] J R:=by
 refine zDj rfl ?_
 have v1:=hv.one
 simp[zL5,ho,v1]
 refine zKZ (P:=zI) hv hl zHM (λx _ rv Z R' A e h'=>?_) λJ' A'=>?_
 .subst e
  exact zqI h'
 .simp
  exact h _ A'
theorem zo3{f:F}{fv:AV}{o:Nat}(hf:Al.FVO J fv f)(hs:SzB f)(ho:J.objs o=some [.fn (.func 96) [] []])(hol:o<J.no)(h:∀J',zd J J'->R (.ret (.bool (f.lists.any λl=>l.any zI))) J'):zzQ G 97 [fv,.ptr o 0] J R:=by
 refine zDh rfl ?_
 obtain⟨pv,lv,tv,rfl,hp,hl,ht⟩:=hf
 have p1:=hp.one
 have l1:=hl.one
 have t1:=ht.one
 have A0:zd J (J.newO [.str f.name,pv,lv,.int .i64 f.type,tv]):=(zd.refl J).newO
 have hne:¬o=J.no:=by omega
 simp[zL3,p1,l1,t1]
 refine zK0 (P:=λl=>l.any zI) (ht.keep A0) hs.many zHO (λx hx rv Z R' A e h'=>?_) λJ' A'=>?_
 .exact zo2 e (hs.rows x hx) ((A.obj o (by simp;omega)).trans (by simp[hne,ho])) h'
 .simp
  exact h _ (A0.trans A')
theorem zo4{m:M}{mv:AV}(hm:Al.MO J mv m)(hl:m.funcs.length<=2^40)(hs:∀f∈m.funcs,SzB f)(h:∀J',zd J J'->R (.ret (.bool (zfF m))) J'):zzQ G 42 [mv] J R:=by
 refine zCP rfl ?_
 obtain⟨fv,rfl,hf⟩:=hm
 have f1:=hf.one
 have A0:zd J (((J.newO [fv,.int .i64 m.memory,.int .i64 m.main]).newO [.nilfn]).setO (J.no+1) [.fn (.func 96) [] []]):=((zd.refl J).newO.newO).setO (by omega)
 have hne:¬J.no=J.no+1:=by omega
 unfold zfF at h
 by_cases h3:-3<=m.main
 .simp[zKt,f1,splice,h3]
  refine zHK (P:=λf=>f.lists.any λl=>l.any zI) (hf.keep A0) hl zHN (λx hx rv Z R' A e h'=>?_) λJ' A'=>?_
  .refine zo3 e (hs x hx) (o:=J.no+1) ((A.obj _ (by simp)).trans (by simp)) (by have:=A.no;simp at this;omega) h'
  .have:=h _ (A0.trans A')
   simp
   simpa [h3]using this
 .simp[zKt,f1,splice,h3]
  have:=h _ A0
  simpa [h3]using this
end
theorem zyV{st:Bool}{c:UInt8}{s s':Rs}{w:W}(h:ze4 st c s=some (w,s')):RgW w:=by
 unfold ze4 at h
 cases hf:zci zga c with
 | some w0 =>
  rw[hf]at h
  simp only[ybB]at h
  obtain⟨⟨n,s1⟩,hn,he⟩:=h
  cases he
  obtain⟨_,_,_,n1,n2,_⟩:=zp hn
  exact⟨n1,n2⟩
 | none =>
  rw[hf]at h
  simp only at h
  cases hp:zci zao c with
  | some w0 =>
   rw[hp]at h
   simp only at h
   have hz:∀p∈zao,RgW p.2:=by
    have:∀p∈zao,0<=p.2.n/\p.2.n<=8:=by decide
    intro p hp
    have:=this p hp
    exact⟨by omega,by omega⟩
   have hm:=hz _ (zhv hp)
   split at h
   .rw[ybB]at h
    obtain⟨_,_,he⟩:=h
    cases he
    exact hm
   .cases h
    exact hm
  | none =>
   rw[hp]at h
   simp only[ybB]at h
   obtain⟨w0,hn,he⟩:=h
   cases he
   have hm:(c,w)∈zqt:=by
    have:=zoD ⟨c.toNat,c.toNat_lt⟩ w (by simpa using hn)
    simpa using this
   have hz:∀p∈zqt,p.2.n=0:=by decide
   have:=hz _ hm
   simp only at this
   exact⟨by omega,by omega⟩
theorem zjB:∀(st:Bool) (k d:Nat) (l:List W) (s:Rs) (n:Int) (e:UInt8) (s':Rs),zH st k d l s=some ((n,e),s')->RgL s.ls->(∀w∈l,RgW w)->RgL s'.ls
 | st,0,_,_,_,_,_,_,h,_,_=>by simp[zH]at h
 | st,k+1,d,l,s,n,e,s',h,hs,hl=>by
  have hz:∀op b o:Int,RgW (zcD op b o):=λ_ _ _=>⟨by simp[zcD],by simp[zcD]⟩
  rw[zH]at h
  simp only[ybA]at h
  obtain⟨⟨c,s1⟩,hb,h⟩:=h
  obtain⟨b1,b2,b3⟩:=zm hb
  rw[<-b2]at hs
  split at h
  .cases h
   intro ws hw
   rcases ybh.1 hw with h1|h1
   .exact hs ws h1
   .simp only[ydf]at h1
    subst h1
    exact hl
  .simp only[ybA]at h
   obtain⟨⟨w,s2⟩,hi,h⟩:=h
   have hq:RgL s2.ls/\RgW w:=by
    unfold zay at hi
    split at hi
    .split at hi
     .unfold zaL at hi
      simp only[ybA]at hi
      obtain⟨⟨c1,s3⟩,hb1,⟨⟨n1,e1⟩,s4⟩,hl1,hi⟩:=hi
      obtain⟨f1,f2,f3⟩:=zm hb1
      rw[<-f2]at hs
      have hs4:=zjB st k (d+1) [] s3 n1 e1 s4 hl1 hs (by simp)
      split at hi
      .split at hi
       .rw[ybB]at hi
        obtain⟨⟨⟨n2,e2⟩,s5⟩,hl2,he2⟩:=hi
        simp only[Prod.mk.injEq]at he2
        obtain⟨rfl,rfl⟩:=he2
        exact⟨zjB st k (d+1) [] s4 n2 e2 _ hl2 hs4 (by simp),hz _ _ _⟩
       .cases hi
        exact⟨hs4,hz _ _ _⟩
      .cases hi
       exact⟨hs4,hz _ _ _⟩
     .cases hi
    .obtain⟨_,a2,_⟩:=zce hi
     rw[a2]
     exact⟨hs,zyV hi⟩
   refine zjB st k d _ s2 n e s' h hq.1 λw' hw'=>?_
   rcases ybh.1 hw' with h1|h1
   .exact hl w' h1
   .simp only[ydf]at h1
    subst h1
    exact hq.2
theorem zlw{st:Bool}{f f':F}{s s':Rs}(h:zX st f s=some (f',s'))(hl:f.locals=[]):(∃c,zfE f'=some c/\c.length+11*s'.b.length<=11*s.b.length+11*f'.locals.length+40)/\f'.lists.length<=s.b.length/\(∀ws∈f'.lists,ws.length<=s.b.length)/\RgL f'.lists:=by
 obtain⟨⟨_,_,⟨st0,k0,s00,e0,s0',k1,k2,k3⟩,_⟩,hn,_,_⟩:=zd0 h hl
 unfold zX at h
 simp only[ybA,ybB]at h
 obtain⟨⟨n1,s1⟩,h1,⟨n2,s2⟩,h2,⟨gs,s3⟩,h3,⟨⟨n,e⟩,s4⟩,h4,h5⟩:=h
 simp only[Prod.mk.injEq]at h5
 obtain⟨hf',hs'⟩:=h5
 subst hf'
 subst hs'
 have l1:=zaq h1
 have l2:=zaq h2
 have l3:=zim h3
 simp only at l1 l2 l3 h4
 obtain⟨_,d2,d3,⟨ws0,d4⟩,_,_,_⟩:=zQ _ _ _ _ _ _ _ _ h4
 obtain⟨z1,z2⟩:=zcP _ _ _ _ _ _ _ _ h4
 have hr:=zjB _ _ _ _ _ _ _ _ h4 (by simp[RgL]) (by simp)
 have hc:=zfG _ _ _ _ _ _ _ _ h4 (by intro i ws hi;simp at hi) (by simp)
 simp at z1 d3
 have hpos:0<s4.ls.length:=by omega
 have hnn:n=(s4.ls.length:Int)-1:=by omega
 obtain⟨x,hx⟩:=zkw hc (s4.ls.length-1) s4.ls.length (by omega) (by omega)
 have hx':zcZ s4.ls s4.ls.length ((s4.ls.length:Int)-1)=some x:=by
  rwa [show(((s4.ls.length-1:Nat)):Int)=(s4.ls.length:Int)-1 from by omega]at hx
 refine⟨⟨zi (zb4 (f.locals++gs.flatten)++x++[11]),by unfold zfE;rw[hx'];rfl,?_⟩,by simp only;omega,λws hw=>?_,hr⟩
 .obtain⟨j,hj⟩:∃j,s4.ls.length=j+1:=⟨s4.ls.length-1,by omega⟩
  have hx2:=hx'
  rw[hj,zcZ,if_neg (by omega)]at hx2
  rw[hnn]at d4
  have e1:(((j+1:Nat):Int)-1)=(s4.ls.length:Int)-1:=by omega
  rw[e1,d4]at hx2
  have:=listP_len (fin:=s4.ls) _ _ _ _ _ _ _ h4 (List.prefix_refl _) j ws0 x (by rw[hnn,d4]) (by simpa using hx2)
  have hlo:=zbV (f.locals++gs.flatten).length (f.locals++gs.flatten)
  have hsb:=zbc (zq (f.locals++gs.flatten).length (f.locals++gs.flatten))
  have hu1:=zaj ((zq (f.locals++gs.flatten).length (f.locals++gs.flatten)).length:Int)
  have hu2:=zaj (((zb4 (f.locals++gs.flatten)++x++[11]).length:Nat):Int)
  simp only at this
  simp only[zi,yab,zb4,zP,yac,ybl]at hu1 hu2 ⊢
  simp only[yab]at hlo hsb
  omega
 .have:=z2 s3.b.length (by simp) (by simp) ws hw
  omega
theorem zfL{st:Bool}:∀{hs fs:List F} {s s':Rs},zC st hs s=some (fs,s')->(∀f∈hs,f.locals=[])->(∃cs,zaQ fs=some cs/\cs.flatten.length+11*s'.b.length<=11*s.b.length+11*zbX fs+40*fs.length)/\∀f∈fs,f.lists.length<=s.b.length/\(∀ws∈f.lists,ws.length<=s.b.length)/\RgL f.lists
 | [],fs,s,s',h,_=>by
  cases h
  exact⟨⟨[],rfl,by simp[zbX]⟩,by simp⟩
 | f::hs,fs,s,s',h,hl=>by
  have hl0:=zbx h hl
  rw[zC]at h
  simp only[ybA,ybB]at h
  obtain⟨⟨f',s1⟩,h1,⟨fs',s2⟩,h2,h3⟩:=h
  cases h3
  obtain⟨⟨c,a1,a2⟩,a3,a4,a5⟩:=zlw h1 (hl f (by simp))
  obtain⟨⟨cs,b1,b2⟩,b3⟩:=zfL h2 λg hg=>hl g (by simp[hg])
  have:=zeL h1
  have hm:zbX (f'::fs')=f'.locals.length+zbX fs':=rfl
  simp only at *
  refine⟨⟨c::cs,by rw[zaQ,a1];simp only[ydx];rw[b1];rfl,?_⟩,λg hg=>?_⟩
  .rw[ydF,yab,hm,yac]
   omega
  .rcases ybC.1 hg with rfl|hg
   .exact⟨a3,a4,a5⟩
   .obtain⟨q1,q2,q3⟩:=b3 g hg
    exact⟨by omega,λws hw=>by have:=q2 ws hw;omega,q3⟩
theorem zhC:∀{fs fs':List F},fs'.map zcF=fs.map zcF->zaQ fs'=zaQ fs
 | [],[],_=>rfl
 | [],_::_,h=>by simp at h
 | _::_,[],h=>by simp at h
 | f::fs,f'::fs',h=>by
  simp only[yaL,ydW.injEq]at h
  obtain⟨h1,h2⟩:=h
  have e1:f'.lists=f.lists:=by have:=congrArg F.lists h1;exact this
  have e2:f'.locals=f.locals:=by have:=congrArg F.locals h1;exact this
  have e:zfE f'=zfE f:=by unfold zfE;rw[e1,e2]
  rw[zaQ,zaQ,e,zhC h2]
theorem zkM{st:Bool}:∀{fs fs':List F} {s s':Rs},zc9 st fs s=some (fs',s')->(∀i,(zn i fs').flatten.length+s'.b.length<=s.b.length+20*fs'.length)/\(∀f∈fs',f.name.length<=s.b.length)/\fs'.length=fs.length
 | [],fs',s,s',h=>by
  cases h
  exact⟨λi=>by simp[zn],by simp,rfl⟩
 | f::fs,fs',s,s',h=>by
  rw[zc9]at h
  simp only[ybA,ybB]at h
  obtain⟨⟨n1,s1⟩,h1,⟨n2,s2⟩,h2,⟨p,s3⟩,h3,⟨fs2,s4⟩,h4,h5⟩:=h
  cases h5
  obtain⟨a1,a2,a3⟩:=zkM h4
  have l1:=zaq h1
  have l2:=zaq h2
  have l3:=(zaY h3).1
  have l4:s2.b.length=p.length+s3.b.length:=by rw[l3];simp
  simp only at *
  refine⟨λi=>?_,λg hg=>?_,by simp[a3]⟩
  .have u1:=zaj i
   have u2:=zda p
   have:=a1 (i+1)
   simp only[zn,ydF,yab,yac]
   omega
  .rcases ybC.1 hg with rfl|hg
   .simp only;omega
   .have:=a2 g hg;omega
theorem zl9{st:Bool}:∀{n:Nat} {s s':Rs} {l:List F},zbI (zcN st) n s=some (l,s')->s'.b.length+l.length+(l.map λf=>f.params.length).sum<=s.b.length
 | 0,s,s',l,h=>by cases h;simp
 | n+1,s,s',l,h=>by
  rw[zbI]at h
  simp only[ybA,ybB]at h
  obtain⟨⟨t,s1⟩,h1,⟨l',s2⟩,h2,h3⟩:=h
  cases h3
  have a:=zvo h1
  have b:=zl9 h2
  simp only[yac,yaL,ycV]at *
  omega
theorem zbZ{n:Int}{s s':Rs}(h:zas n s=some s'):s'.b.length<=s.b.length:=by
 unfold zas at h
 rw[ybB]at h
 obtain⟨⟨p,s1⟩,h1,rfl⟩:=h
 exact zc0 h1
theorem zrZ{st:Bool}:∀{n:Nat} {s s':Rs} {l:List Int},zbI (zcd st false) n s=some (l,s')->s'.b.length<=s.b.length
 | 0,_,_,_,h=>by cases h;exact yah _
 | n+1,s,s',l,h=>by
  rw[zbI]at h
  simp only[ybA,ybB]at h
  obtain⟨⟨t,s1⟩,h1,⟨l',s2⟩,h2,h3⟩:=h
  cases h3
  exact yai (zrZ h2) (zaq h1)
def zaD(l:List F):Nat:=(l.map λf=>f.params.length).sum
theorem zo5(l:List F)(n:Nat):zaD (l.drop n)<=zaD l:=by
 have:zaD (l.take n)+zaD (l.drop n)=zaD l:=by
  simp only[zaD]
  rw[<-List.sum_append,<-ydk,ydX]
 omega
theorem zqJ{l:List F}{f:F}(h:f∈l):f.params.length<=zaD l:=by
 induction l with
 | nil=>cases h
 | cons a l ih =>
  simp only[zaD,yaL,ycV]at *
  rcases ybC.1 h with rfl|h
  .omega
  .have:=ih h;omega
theorem zqK{s s':Rs}{l:List F}(h:zdq s=some (l,s')):s'.b.length+l.length+zaD l<=s.b.length:=by
 unfold zdq at h
 simp only[ybA]at h
 obtain⟨s1,h1,⟨n,s2⟩,h2,⟨hs,s3⟩,h3,h4⟩:=h
 split at h4
 .cases h4
  have a:=zl9 h3
  have b:=zo5 hs 3
  have c:=zaq h2
  have d:=za9 h1
  have e:(hs.drop 3).length<=hs.length:=by simp
  simp only[zaD]at *
  omega
 .cases h4
theorem zqL{s s':Rs}{hs:List F}{mem mn:Int}(h:zhu s=some ((hs,mem,mn),s')):s'.b.length+hs.length+zaD hs<=s.b.length:=by
 unfold zhu at h
 simp only[ybA,ybB]at h
 obtain⟨s1,h1,⟨hs',s2⟩,h2,s3,h3,s4,h4,s5,h5,s6,h6,s7,h7,s8,h8,⟨n9,s9⟩,h9,⟨l10,s10⟩,h10,s11,h11,s12,h12,s13,h13,s14,h14,⟨mem',s15⟩,h15,s16,h16,s17,h17,s18,h18,⟨mn',s19⟩,h19,h20⟩:=h
 cases h20
 have a1:=zbZ h1
 have a2:=zqK h2
 have a3:=za9 h3
 have a4:=zbZ h4
 have a5:=zbZ h5
 have a6:=zbZ h6
 have a7:=zbZ h7
 have a8:=za9 h8
 have a9:=zaq h9
 have a10:=zrZ h10
 have a11:=za9 h11
 have a12:=zbZ h12
 have a13:=za9 h13
 have a14:=zbZ h14
 have a15:=zaq h15
 have a16:=zbZ h16
 have a17:=za9 h17
 have a18:=zbZ h18
 have a19:=zaq h19
 simp only at *
 omega
theorem zkN:∀(fs:List F),((fs.map λf=>zch f.params f.type).flatten).length<=32*fs.length+zaD fs
 | []=>by simp
 | f::fs=>by
  have ih:=zkN fs
  have h1:=zec f.params
  have h2:=zfA f.type
  simp only[yaL,ydF,yab,yac,zaD,ycV,zch]at *
  omega
theorem zma:∀(fs:List F) (i:Int),(zak i fs).flatten.length<=10*fs.length
 | [],_=>by simp[zak]
 | f::fs,i=>by
  have:=zma fs (i+1)
  have:=zaj i
  simp only[zak,ydF,yab,yac]
  omega
theorem zlx{fs fs':List F}(h:fs'.map zcF=fs.map zcF):zaD fs'=zaD fs:=by
 have:∀l:List F,zaD l=((l.map zcF).map λf=>f.params.length).sum:=λl=>by simp only[zaD,List.map_map];rfl
 rw[this,this,h]
theorem ziR:∀{st:Bool} {hs fs:List F} {s s':Rs},zC st hs s=some (fs,s')->zaD fs=zaD hs
 | st,[],fs,s,s',h=>by cases h;rfl
 | st,f::hs,fs,s,s',h=>by
  rw[zC]at h
  simp only[ybA,ybB]at h
  obtain⟨⟨f',s1⟩,h1,⟨fs',s2⟩,h2,h3⟩:=h
  cases h3
  have e:f'.params=f.params:=by
   unfold zX at h1
   simp only[ybA,ybB]at h1
   obtain⟨_,_,_,_,_,_,_,_,h5⟩:=h1
   cases h5
   rfl
  simp only[zaD,yaL,ycV,e]
  have:=ziR h2
  simp only[zaD]at this
  omega
theorem zqM{b:List UInt8}{m:M}{s':Rs}(h:zdZ ⟨b,[],0⟩=some (m,s'))(hb:b.length<=2^29):(∀f∈m.funcs,SzB f)/\m.funcs.length<=2^30/\(-(2^63)<=m.memory/\m.memory<2^63)/\∃y,zkr m=some y/\y.length<=2^36:=by
 unfold zdZ at h
 simp only[ybA,ybB]at h
 obtain⟨⟨⟨hs,mem,mn⟩,s1⟩,h3,⟨fs,s2⟩,h4,h5⟩:=h
 simp only[Prod.mk.injEq]at h5
 obtain⟨rfl,rfl⟩:=h5
 obtain⟨a1,a2,a3,a4⟩:=zkD h3
 have a5:=zqL h3
 obtain⟨b1,b2⟩:=zl2 h4 λf hf=>(a1 f hf).1
 have b2:=b2 a4
 unfold znm at h4
 simp only[ybA]at h4
 obtain⟨s4,h6,⟨c,s5⟩,h7,h8⟩:=h4
 split at h8
 .simp only[ybA]at h8
  obtain⟨⟨fs1,s6⟩,h9,s7,h10,s8,h11,⟨xx,s9⟩,h12,⟨y,s10⟩,h13,h14⟩:=h8
  split at h14
  .obtain⟨⟨cs,c1,c2⟩,c3⟩:=zfL h9 λf hf=>(a1 f hf).1
   have cl:=(zbx h9 λf hf=>(a1 f hf).1).2.2.2
   obtain⟨d1,d2,d3⟩:=zkM h14
   have hnn:=zeK h14
   have l1:=za9 h6
   have l2:=zaq h7
   have l3:=za9 h10
   have l4:=zbZ h11
   have l5:=zaq h12
   have l6:=zaq h13
   have hmn:=zgY hnn
   have hpn:=zlx hnn
   have hpf:=ziR h9
   simp only at *
   have hs6:s6.b.length<=s5.b.length:=by
    have:∀{hs fs:List F} {s s':Rs},zC false hs s=some (fs,s')->s'.b.length<=s.b.length:=by
     intro hs
     induction hs with
     | nil=>intro fs s s' h;cases h;exact yah _
     | cons f hs ih =>
      intro fs s s' h
      rw[zC]at h
      simp only[ybA,ybB]at h
      obtain⟨⟨f',s1⟩,h1,⟨fs',s2⟩,h2,h3⟩:=h
      cases h3
      exact yai (ih h2) (zeL h1)
    exact this h9
   refine⟨λf hf=>?_,by omega,a2,?_⟩
   .obtain⟨g,hg,e⟩:=zil hnn hf
    have e1:g.params=f.params:=by have:=congrArg F.params e;exact this
    have e3:g.lists=f.lists:=by have:=congrArg F.lists e;exact this
    obtain⟨q1,q2,q3⟩:=c3 g hg
    rw[e3]at q1 q2 q3
    have hp:=zqJ hg
    rw[e1]at hp
    have hlo:f.locals.length<=zbX fs:=by
     have:∀{l:List F},f∈l->f.locals.length<=zbX l:=by
      intro l h
      induction l with
      | nil=>cases h
      | cons a l ih =>
       simp only[zbX,yaL,ycV]at *
       rcases ybC.1 h with rfl|h
       .omega
       .have:=ih h;omega
     exact this hf
    have hna:=d2 f hf
    exact⟨by omega,by omega,by omega,λws hw=>by have:=q2 ws hw;omega,by omega,q3⟩
   .have hcc:zaQ fs=some cs:=by rw[zhC hnn];exact c1
    refine⟨_,by unfold zkr;simp only;rw[hcc];rfl,?_⟩
    have u1:=zkN fs
    have u2:=zma fs 3
    have u3:=d1 3
    have u4:(zG fs).flatten.length<=120+(32*fs.length+zaD fs):=by
     have e1:(zG fs).flatten=zch [] 2++(zch [2] 0++(zch [1] 0++(fs.map λf=>zch f.params f.type).flatten)):=by simp[zG]
     have e2:(zch [] 2).length<=40:=by decide
     have e3:(zch [2] 0).length<=40:=by decide
     have e4:(zch [1] 0).length<=40:=by decide
     rw[e1]
     simp only[yab]
     omega
    have u5:(zP zF).length<=40:=by decide
    have s1':=zcx 1 (zP (zG fs))
    have s2':=zcx 2 (zP zF)
    have s3':=zcx 3 (zP (zak 3 fs))
    have s5':=zcx 5 [1,0,1]
    have s6':=zcx 6 ([1,127,0,65]++sI mem++[11])
    have s7':=zcx 7 ([1]++zi [109,97,105,110]++[0]++uI (zaS { funcs:=fs,memory:=mem,main:=yb4 .i64 (mn-3) }))
    have s10':=zcx 10 (zP cs)
    have s0':=zcx 0 (zi [110,97,109,101]++[1]++zi (zP (zn 3 fs)))
    have v1:=zda (zP (zn 3 fs))
    have v2:=zkp mem
    have v3:=zaj (zaS { funcs:=fs,memory:=mem,main:=yb4 .i64 (mn-3) })
    have v4:(zi [109,97,105,110]).length=5:=by decide
    have v5:(zi [110,97,109,101]).length=5:=by decide
    have w1:(zP (zG fs)).length<=10+(zG fs).flatten.length:=by have:=zaj (zG fs).length;simp only[zP,yab];omega
    have w3:(zP (zak 3 fs)).length<=10+(zak 3 fs).flatten.length:=by have:=zaj (zak 3 fs).length;simp only[zP,yab];omega
    have w10:(zP cs).length<=10+cs.flatten.length:=by have:=zaj cs.length;simp only[zP,yab];omega
    have w0:(zP (zn 3 fs)).length<=10+(zn 3 fs).flatten.length:=by have:=zaj (zn 3 fs).length;simp only[zP,yab];omega
    have hmg:zeX.length=8:=rfl
    simp only[yab,yac,ybl]at *
    omega
  .cases h14
 .cases h8
def zhD(ls:To):Nat:=(ls.map ycT).sum
theorem zel(a:To)(l:List W):zhD (a++[l])=zhD a+l.length:=by simp[zhD]
end Go.Proofs.YtohfclafhegadaaGreatDoor


namespace Go.Proofs.YtohfclafhegadaaGreatDoor
open Go Go.Abs
abbrev zDV(G:Env):Prop:=G.fix 9=some (Lib.pow10Tab.map λz=>Value.int .u64 z).toArray
section
variable {G : Env} {J : AS} {R : Out -> AS -> Prop}
theorem zHP{M:Mp}{F:Nat->FSt}{w:World}{v:AV}{cargs:Array Value}(hc:Cells M F w [v] cargs):∃c,cargs=#[c]/\VR M F w v c:=by
 obtain⟨c0,e0,v0⟩:=hc.2 0 _ rfl
 refine⟨c0,?_,v0⟩
 have hsz:cargs.size=1:=hc.1
 apply Array.ext
 .simpa using hsz
 .intro i h1 h2
  match i,h1 with
  | 0,_=>simpa using (yaU.1 e0).2
  | i+1,h=>omega
theorem zin(V:zDV G){n:Int}(hn:-(2^63)<=n/\n<2^63)(h:R (.ret (.str (Lib.itoa n))) J):zzQ G 64 [.int .i64 n] J R:=by
 refine ACalls.of_below λM w cargs S g hc=>?_
 obtain⟨c,rfl,hv⟩:=zHP hc
 rw[hv.int_inv]
 obtain⟨_,t,fr,hh⟩:=g.fixed 9 _ V
 have hn9 : Tryz.prog.globalNamed "internal/strconv.uint64pow10" = some 9 := by kernel_rfl
 have htab : Lib.TabIs Tryz.prog w "internal/strconv.uint64pow10" .u64 Lib.pow10Tab := by simp [Lib.TabIs, World.var?, hn9, hh]
 refine(Tryz.strconv_Itoa n (by omega) (by omega) w htab).mono λe w' ⟨he,k,os,hw'⟩=>?_
 subst he hw'
 exact⟨⟨.str (Lib.itoa n),_,rfl,λM F w=>VR.str' rfl,h⟩,Lib.below_grow _ w (yah _) k os⟩
end
end Go.Proofs.YtohfclafhegadaaGreatDoor






namespace Go.Proofs.YtohfclafhegadaaGreatDoor
open Go Go.Abs
@[simp] theorem zMl(J:AS)(f g:Nat):(J.turn f).F g=if g=J.nf then .alive else if g=f then .dead else J.F g:=by simp[AS.turn,upd]
@[simp] theorem zK1(J:AS)(f:Nat):(J.turn f).nf=J.nf+1:=rfl
@[simp] theorem zK2(J:AS)(f:Nat):(J.turn f).no=J.no:=rfl
@[simp] theorem zHQ(J:AS)(f:Nat):(J.turn f).objs=J.objs:=rfl
theorem zd.turn{J J':AS}(h:zd J J'){f:Nat}(hf:J.nf<=f):zd J (J'.turn f) where
 no:=h.no
 nf:=ydN h.nf
 obj:=h.obj
 fam g hg:=by
  have:=h.nf
  have h1:¬g=J'.nf:=by omega
  have h2:¬g=f:=by omega
  simp[h1,h2]
  exact h.fam g hg
theorem zBx:yb9.underlying 208=some (.map 9 53):=by kernel_rfl
theorem zMm:yb9.underlying 242=some (.map 9 3):=by kernel_rfl
theorem zBy(s:List UInt8):zfe yb9 9 (.str s)=true:=by
 have:yb9.underlying 9=some .string:=by kernel_rfl
 simp[zfe,this]
def zwE(l:List (List UInt8)):List AV:=l.map ycZ
theorem zkO(s:List UInt8):∀(l:List (List UInt8)) (i:Nat),zlf (.str s) (zwE l) i=some ((l.findIdx? (λk=>k==s)).map (·+i))
 | [],i=>rfl
 | k::l,i=>by
  rw[show zwE (k::l)=.str k::zwE l from rfl,zlf,List.findIdx?_cons]
  by_cases h:s=k
  .subst h
   simp[zi1]
  .have h':¬k=s:=λe=>h e.symm
   have ih:=zkO s l (i+1)
   simp only[zi1,show(s==k)=false from by simpa using h]
   rw[ih]
   simp[h']
   cases l.findIdx? (λk=>k==s)with
   | none=>simp
   | some j=>simp;omega
@[simp] theorem zFi{J:AS}{f:Nat}{ks:List (List UInt8)}{vs:List AV}{k:List UInt8}{v:AV}{K:AV->AS->Prop}:zff yb9 208 (.mpo f (zwE ks) vs) (.str k) v J K=(J.F f=.alive/\v.plainV=true/\ks.contains k=false/\K (.mpo J.nf (zwE (ks++[k])) (vs++[v])) (J.turn f)):=by
 simp only[zff,zBx,zBy,zkO,true_and]
 have e:(some ((ks.findIdx? (λx=>x==k)).map (·+0))=some none)↔ks.contains k=false:=by
  cases h:ks.findIdx? (λx=>x==k)with
  | none =>
   have:=ydV.1 h
   simp
   intro q
   have:=this k q
   simp at this
  | some i =>
   obtain⟨hi,hc,_⟩:=ydn.1 h
   have hc:ks[i]=k:=by simpa using hc
   simp
   rw[<-hc]
   exact yaw hi
 rw[propext e]
 rw[show zwE (ks++[k])=zwE ks++[.str k] from by simp[zwE]]
@[simp] theorem zJw{J:AS}{K:AV->AS->Prop}{r:Option AV}:zfY r J K=(r=none/\K (.mpo J.nf (zwE []) []) J.newF):=rfl
def zi8:W:={ op:=0,ty:=0,n:=0,body:=0,other:=0,name:=[] }
theorem zvu(T:List (List UInt8 × W))(s:List UInt8)(K:AV->Prop):zco yb9 208 (.mp (zwE (T.map (·.1))) (T.map λp=>p.2.av)) (.str s) true K=K (.tuple [((zgo T s).getD zi8).av,.bool (zgo T s).isSome]):=by
 have hz:z9 yb9 53=some zi8.av:=by kernel_rfl
 simp only[zco,zBx,zBy,zkO,true_and,hz]
 have e:(T.map (·.1)).findIdx? (λk=>k==s)=T.findIdx? (λp=>p.1==s):=by rw[List.findIdx?_map];rfl
 rw[e]
 unfold zgo
 cases h:T.findIdx? (λp=>p.1==s)with
 | none =>
  have hn:T.find? (λp=>p.1==s)=none:=List.find?_eq_none.2 λp hp=>by have:=ydV.1 h p hp;simp[this]
  rw[hn]
  simp
 | some i =>
  obtain⟨hi,hc,hlt⟩:=ydn.1 h
  have hf:T.find? (λp=>p.1==s)=some T[i]:=by
   rw[List.find?_eq_some_iff_getElem]
   exact⟨hc,i,hi,rfl,λj hj=>by simpa using hlt j hj⟩
  rw[hf]
  have hg:(T.map λp=>p.2.av)[i]?=some T[i].2.av:=by simp[hi]
  apply propext
  simp only[yaG,yaK,Option.getD_some,Option.isSome_some,if_true]
  constructor
  .rintro ⟨r,h1,h2⟩
   cases h1
   obtain⟨v,h3,h4⟩:=h2
   rw[hg]at h3
   cases h3
   exact h4
  .exact λq=>⟨some i,rfl,_,hg,q⟩
section
variable {G : Env} {J : AS} {R : Out -> AS -> Prop}
theorem ztk{s:List UInt8}(h:∀J',zd J J'->R (.ret (.tuple [((zgo zif s).getD zi8).av,.bool (zgo zif s).isSome])) J'):zzQ G 134 [.str s] J R:=by
 refine zxx rfl ?_
 simp[zGF,splice,AV.plainV,AV.atom]
 refine(zvu zif s _).mpr ?_
 have key:∀w b,(zgo zif s).getD zi8=w->(zgo zif s).isSome=b->∀J',zd J J'->R (.ret (.tuple [w.av,.bool b])) J':=λw b e1 e2=>e1▸e2▸h
 cases hf:zgo zif s with
 | none =>
  have:=key zi8 false (by rw[hf];rfl) (by rw[hf];rfl)
  simp[splice,W.av,W.cs,zi8]
  simp[W.av,W.cs,zi8]at this
  refine this _ ?_
  repeat (first|exact zd.refl _|refine zd.setO ?_ (by simp)|refine zd.newO ?_|refine zd.newF ?_|refine zd.turn ?_ (by omega))
 | some w =>
  have:=key w true (by rw[hf];rfl) (by rw[hf];rfl)
  simp[W.av,W.cs]at this
  simp[splice,W.av,W.cs]
  refine this _ ?_
  repeat (first|exact zd.refl _|refine zd.setO ?_ (by simp)|refine zd.newO ?_|refine zd.newF ?_|refine zd.turn ?_ (by omega))
theorem zio{t:Int}(ht:t=1\/t=2)(h:R (.ret (.str (zaK t))) J):zzQ G 131 [.int .i64 t] J R:=by
 refine zxt rfl ?_
 rcases ht with rfl|rfl
 .simp[zDo]
  exact h
 .simp[zDo]
  exact h
end
end Go.Proofs.YtohfclafhegadaaGreatDoor

namespace Go.Proofs.YtohfclafhegadaaGreatDoor
open Go Go.Abs
@[simp] theorem zyW{P:Program}(t)(x y:List UInt8){K:AV->Prop}:zcz P .add t (.str x) (.str y) K=(x.length+y.length<2^62/\K (.str (x++y))):=by simp only[zcz,zjF]
section
variable {G : Env} {J : AS} {R : Out -> AS -> Prop}
end
end Go.Proofs.YtohfclafhegadaaGreatDoor







namespace Go.Proofs.YtohfclafhegadaaGreatDoor
open Go Go.Abs
@[simp] theorem zHR(t:Nat)(v:AV):aeq yb9 20 (.iface t v) .nilif=some false:=by simp[aeq,zk9,show yb9.underlying 20=some (.interface #[]) from by kernel_rfl]
@[simp] theorem zFj(t:Nat)(v:AV)(K:AV->Prop):zcz yb9 .neq 20 (.iface t v) .nilif K=K (.bool true):=by simp[zcz]
@[simp] theorem zK3:zbr yb9 20=some true:=by kernel_rfl
@[simp] theorem zK4(H:Option AV->(Nat->AV)->AS->Prop)(a:Nat->AV)(J:AS):aq H .ret a J=H none a J:=Eq.trans rfl rfl
@[simp] theorem zHS(H:Option AV->(Nat->AV)->AS->Prop)(v:AV)(a:Nat->AV)(J:AS):aq H (.panic v) a J=H (some v) a J:=Eq.trans rfl rfl
section
variable {G : Env} {J : AS} {R : Out -> AS -> Prop}
theorem zd9.bv{J v bs}(h:zd9 J v bs):∃β,BV β v bs/\∀f,β=some f->f<J.nf/\J.F f=.alive:=by
 rcases h with ⟨rfl,rfl⟩|⟨φ,rfl,r⟩
 .exact⟨none,.inl ⟨rfl,rfl⟩,by simp⟩
 .refine⟨famO φ,.inr ⟨φ,rfl,rfl⟩,λf e=>?_⟩
  cases φ with
  | stat b=>cases e
  | fam g b=>cases e;exact⟨r.1,r.2⟩
theorem zDW{Z Z':AS}{base v l}(h:Al.OutE Z base v l)(hn:Z.nf<=Z'.nf)(hF:∀f,f<Z.nf->Z'.F f=Z.F f):Al.OutE Z' base v l:=by
 rcases h with h|⟨g,rows,ps,h1,h2,h3,h4,h5,h6,h7⟩
 .exact .inl h
 .exact .inr ⟨g,rows,ps,h1,h2,by omega,(hF g h3).trans h4,h5,h6,h7.nd,λx hx=>by
   obtain⟨q1,q2,q3,q4⟩:=h7.each x hx
   exact⟨q1,by omega,(hF x q2).trans q3,q4⟩⟩
theorem zDX{Z Z':AS}{base v m}(h:Al.ME Z base v m)(hn:Z.nf<=Z'.nf)(hF:∀f,f<Z.nf->Z'.F f=Z.F f):Al.ME Z' base v m:=by
 obtain⟨fv,rfl,h⟩:=h
 exact⟨fv,rfl,zDW h hn hF⟩
def ziS:AV:=.agg [.nilsl,.int .i64 0,.int .i64 0]
theorem zfM(V:zdI G)(h00:0<J.nf/\J.F 0=.alive){v:AV}{bs:List UInt8}(hv:zd9 J v bs)(hl:bs.length<=2^29)
  (hn:zaC bs=none->∀e J',(e=2\/e=3\/e=9)->zd J J'->R (.ret (.tuple [ziS,.int .i64 e])) J')
  (hs:∀m,zaC bs=some m->∀mv J',Al.ME J' J.nf mv m->zd J J'->R (.ret (.tuple [mv,.int .i64 0])) J'):zzQ G 14 [v] J R:=by
 refine zgu (px:=zA9) (pz:=zBa) (k:=37) (py:=zom) (n:=34) (nk:=9) (t:=5) (d0:=3) (d1:=2) (res:=[.cell 2 28,.cell 3 33]) zup Tryz.func14 rfl rfl rfl rfl (by kernel_rfl) (by kernel_rfl) (by simp) rfl rfl rfl rfl rfl rfl (by decide) Tryz.func37 rfl (by kernel_rfl) rfl rfl rfl rfl rfl rfl rfl rfl rfl (by kernel_rfl) (by decide) (by decide) (by decide) ?_
 have v1:=hv.one
 simp[zA9]
 have ecap:List.map (ev G (upd (upd (zc5 [v]) 2 (yc4 J.no 0)) 3 (yc4 (J.no+1) 0))) #[Operand.tmp 2,Operand.tmp 3].toList=[.ptr J.no 0,.ptr (J.no+1) 0]:=rfl
 rw[ecap]
 generalize hfr:upd (upd (upd (zc5 [v]) 2 (yc4 J.no 0)) 3 (yc4 (J.no+1) 0)) 5 (AV.fn (Fn.func 37) [] [yc4 J.no 0,yc4 (J.no+1) 0])=fr
 have fr0:fr 0=v:=by rw[<-hfr];simp
 have fr2:fr 2=.ptr J.no 0:=by rw[<-hfr];simp
 have fr3:fr 3=.ptr (J.no+1) 0:=by rw[<-hfr];simp
 have hno1:((J.newO [yc7,yc0 yam 0,yc0 yam 0]).newO [yc0 yam 0]).no=J.no+2:=by simp
 have hnf1:((J.newO [yc7,yc0 yam 0,yc0 yam 0]).newO [yc0 yam 0]).nf=J.nf:=by simp
 have A1:zd J ((J.newO [yc7,yc0 yam 0,yc0 yam 0]).newO [yc0 yam 0]):=(zd.refl J).newO.newO
 have hm1:((J.newO [yc7,yc0 yam 0,yc0 yam 0]).newO [yc0 yam 0]).objs J.no=some [.nilsl,.int .i64 0,.int .i64 0]:=by simp
 have he1:((J.newO [yc7,yc0 yam 0,yc0 yam 0]).newO [yc0 yam 0]).objs (J.no+1)=some [.int .i64 0]:=by simp
 generalize (J.newO [yc7,yc0 yam 0,yc0 yam 0]).newO [yc0 yam 0]=J1 at *
 -- what is recovered
 have hand:∀(ev:AV) (a:Nat->AV) (Z:AS) (mc:List AV),zKV ev->a 2=.ptr J.no 0->a 3=.ptr (J.no+1) 0->zd J Z->Z.objs J.no=some mc->mc.length=3->Z.objs (J.no+1)=some [.int .i64 0]->J.no+1<Z.no->(∀e J',(e=2\/e=3\/e=9)->zd J J'->R (.ret (.tuple [ziS,.int .i64 e])) J') ->
   zb2 yb9 G 9 zom 3 2 [.ptr J.no 0,.ptr (J.no+1) 0] [.cell 2 28,.cell 3 33] R (some ev) a Z:=by
  intro ev a Z mc hev a2 a3 A hmc hml he hlt hh
  have hz:∃e,ev=.iface 33 (.int .i64 e)/\(e=2\/e=3\/e=9):=by
   rcases hev with rfl|rfl|rfl
   .exact⟨2,rfl,by simp⟩
   .exact⟨3,rfl,by simp⟩
   .exact⟨9,rfl,by simp⟩
  obtain⟨e,rfl,hz⟩:=hz
  obtain⟨x1,x2,x3,rfl⟩:∃x y z,mc=[x,y,z]:=by
   match mc,hml with
   | [x,y,z],_=>exact⟨x,y,z,rfl⟩
  simp[zb2,zom,he,hmc,splice,a2,a3]
  exact hh e _ hz ((A.setO (yah _)).setO (by omega))
 have nope:zaC bs=none->∀e J',(e=2\/e=3\/e=9)->zd J J'->R (.ret (.tuple [ziS,.int .i64 e])) J':=hn
 simp[zBa,fr0,fr2,fr3,splice,v1]
 refine zqp (hv.keep A1) (by omega) λv' J2 hv2 A2=>?_
 obtain⟨β,hbv,hβ⟩:=hv2.bv
 have w1:=hv2.one
 have n2:=A2.no
 have f2:=A2.nf
 simp[w1,splice,fr2,fr3]
 have hR:Rdr J2.nf β J2.no ⟨bs,[],0⟩ (J2.newO [v',.nilsl,.int .i64 0]):=⟨by simp,⟨by omega,by simp⟩,by simpa using ((A1.trans A2).fam 0 h00.1).trans h00.2,hβ,v',.nilsl,by simp,hbv,.inl ⟨rfl,rfl⟩⟩
 refine zoZ V hR ((A2).newO) (by omega) (by omega) (by simp;omega) (by simp) (λhq ev J3 hev A3=>?_) λm s' hq J3 mv hm A3 hR3=>?_
 .simp
  refine hand ev _ J3 _ hev (by simp[zgt,fr2]) (by simp[zgt,fr3]) (A1.trans A3) ((A3.obj _ (by omega)).trans hm1) rfl ((A3.obj _ (by omega)).trans he1) (by have:=A3.no;omega) (nope (by simp[zaC,hq]))
 obtain⟨z1,z2,z3,y,hy,hyl⟩:=zqM hq hl
 have hdec:zaC bs=if s'.b=[]/\m.funcs.all zcv=true/\zfF m=true/\zkr m=some bs then some m else none:=by simp[zaC,hq]
 have n3:=A3.no
 have f3:=A3.nf
 have hm':=hm
 obtain⟨fv,rfl,hof⟩:=hm'
 have fv1:fv.known=true/\fv.one=true/\fv.cells=[fv]:=by
  rcases hof with ⟨_,rfl⟩|⟨_,_,_,rfl,_⟩<;>simp
 have hm3:=(A3.obj J.no (by omega)).trans hm1
 have he3:=(A3.obj (J.no+1) (by omega)).trans he1
 obtain⟨bv,lv,ho3,hbv3,hlv3⟩:=hR3.cells
 have b31:=hbv3.one
 have bl3:=(BV.byt hR3 hbv3).len
 have hx3:=hR3.hx
 have hne:¬J2.no=J.no:=by omega
 simp[fr2,fr3,hm3,splice,hne,ho3,b31,bl3,fv1]
 have hmT:Al.ME (J3.setO J.no [fv,.int .i64 m.memory,.int .i64 m.main]) J.nf (.agg [fv,.int .i64 m.memory,.int .i64 m.main]) m:=zDX (Z:=J3) (by rw[hnf1]at hm;exact hm) (yah _) λ_ _=>rfl
 have AT:zd J (J3.setO J.no [fv,.int .i64 m.memory,.int .i64 m.main]):=(A1.trans A3).setO (yah _)
 have hmo:(J3.setO J.no [fv,.int .i64 m.memory,.int .i64 m.main]).objs J.no=some [fv,.int .i64 m.memory,.int .i64 m.main]:=by simp
 have heo:(J3.setO J.no [fv,.int .i64 m.memory,.int .i64 m.main]).objs (J.no+1)=some [.int .i64 0]:=by simp[he3]
 have hnoT:J.no+2<=(J3.setO J.no [fv,.int .i64 m.memory,.int .i64 m.main]).no:=by simp;omega
 generalize J3.setO J.no [fv,.int .i64 m.memory,.int .i64 m.main]=Z at *
 have hfn:=AT.nf
 have hMO:=Al.m_e (J:=Z) ⟨by omega,(AT.fam 0 h00.1).trans h00.2⟩ hmT
 have bad:∀(a:Nat->AV) (Z':AS),zaC bs=none->a 2=.ptr J.no 0->a 3=.ptr (J.no+1) 0->zd Z Z'->zb2 yb9 G 9 zom 3 2 [.ptr J.no 0,.ptr (J.no+1) 0] [.cell 2 28,.cell 3 33] R (some (zFh 2)) a Z':=λa Z' hq2 a2 a3 A=>hand _ a Z' _ (.inl rfl) a2 a3 (AT.trans A) ((A.obj _ (by omega)).trans hmo) rfl ((A.obj _ (by omega)).trans heo) (by have:=A.no;omega) (nope hq2)
 by_cases c1:s'.b=[]
 .simp[c1,fr2,fr3,hmo]
  refine zqH hMO (by omega) z1 λZ4 A4=>?_
  have hm4:=(A4.obj J.no (by omega)).trans hmo
  cases c2:m.funcs.all zcv with
  | false =>
   simp[c2]
   refine zB (λq=>by simp at q) (λ_=>?_)
   simp
   exact bad _ _ (by rw[hdec,if_neg (by simp[c2])]) (by simp[zgt,fr2]) (by simp[zgt,fr3]) A4
  | true =>
   simp[c2,fr2,fr3,hm4]
   refine zo4 (Al.MO.keep hMO A4) (by omega) z1 λZ5 A5=>?_
   have A45:=A4.trans A5
   have hm5:=(A45.obj J.no (by omega)).trans hmo
   cases c3:zfF m with
   | false =>
    simp[c3]
    refine zB (λq=>by simp at q) (λ_=>?_)
    simp
    exact bad _ _ (by rw[hdec,if_neg (by simp[c3])]) (by simp[zgt,fr2]) (by simp[zgt,fr3]) A45
   | true =>
    simp[c3,fr2,fr3,hm5]
    refine zdP V (Al.MO.keep hMO A45) hy hyl z2 z1 z3 λv6 Z6 h6=>?_
    have A6:=A45.trans h6.2
    have hm6:=(A6.obj J.no (by omega)).trans hmo
    have he6:=(A6.obj (J.no+1) (by omega)).trans heo
    simp[fr2,fr3,fr0]
    refine zqo h6.byt (hv.keep (AT.trans A6)) ?_
    by_cases c4:y=bs
    .simp[c4]
     refine zB (λ_=>?_) (λq=>by simp at q)
     simp[fr2,fr3,hm6,he6,zb2,zom,splice,fv1]
     have AA:zd J ((Z6.setO J.no [fv,yc0 yam m.memory,yc0 yam m.main]).setO (J.no+1) [yc0 yam 0]):=((AT.trans A6).setO (yah _)).setO (by omega)
     refine hs m (by rw[hdec,if_pos ⟨c1,c2,c3,by rw[hy,c4]⟩]) _ _ (zDX (Z:=Z) hmT A6.nf λf hf=>A6.fam f hf) AA
    .simp[c4]
     refine zB (λq=>by simp at q) (λ_=>?_)
     simp
     exact bad _ _ (by rw[hdec,if_neg (by rw[hy];simp[c4])]) (by simp[zgt,fr2]) (by simp[zgt,fr3]) A6
 .simp[c1]
  refine zB (λq=>by simp at q) (λ_=>?_)
  simp
  exact bad _ _ (by rw[hdec,if_neg (by simp[c1])]) (by simp[zgt,fr2]) (by simp[zgt,fr3]) (.refl _)
end
end Go.Proofs.YtohfclafhegadaaGreatDoor


namespace Go.Proofs.YtohfclafhegadaaGreatDoor
open Go Go.Abs Go.Shelf Go.RowKit
theorem zHT:liesAt yb9 yb9.depth 88 (2/yb9.cellsOf 88) 0 86 1=true:=by kernel_rfl
theorem u84:yb9.underlying 84=some (.pointer 86):=by kernel_rfl
theorem zMn:yb9.underlying 244=some .unsafePointer:=by kernel_rfl
theorem zBz:(yb9.info? 86).map (·.size)=some 2:=by kernel_rfl
set_option maxHeartbeats 1000000 in
theorem zDY(b:Nat)(w:World)(h0:w.cell? ⟨b,0,none⟩=some (.pointer (some ⟨b,0,none⟩))):
  Calls yb9 175 #[.pointer (some ⟨b,0,none⟩)] w λe w'=>e=.returned (.tuple #[])/\w'=w:=by
 obtain⟨j,hj,_⟩:=ybB.1 zBz
 go_enter ydY,ydZ
 go_wp2
 rw[Lib.run_neq_ptr_same w _ u84 hj]
 go_wp2
 go_end0
 exact⟨rfl,rfl⟩
set_option maxHeartbeats 1000000 in
theorem zyX(b:Nat)(w:World)(h0:w.cell? ⟨b,0,none⟩=some (.pointer none))(hsh:w.shape? b=some (88,2))(hfz:w.frozen? ⟨b,0,none⟩=false):
  Calls yb9 175 #[.pointer (some ⟨b,0,none⟩)] w λe w'=>e=.returned (.tuple #[])/\w'=w.setCell ⟨b,0,none⟩ (.pointer (some ⟨b,0,none⟩)):=by
 obtain⟨j,hj,hjs⟩:=ybB.1 zBz
 go_enter ydY,ydZ
 go_wp2
 rw[Lib.run_to_unsafe w ⟨b,0,none⟩ u84 zMn hj (by rw[hjs];decide) hsh (Nat.zero_lt_succ 1)]
 simp only[Result.andThen]
 rw[Oper.upon_value]
 go_wp2
 rw[run_callFunc_extern Tryz.func211 (by kernel_rfl) (by kernel_rfl) (by kernel_rfl) (e:=Extern.AbiNoEscape.same) (by kernel_rfl)]
 rw[Lib.run_noEscape]
 simp only[Result.andThen]
 rw[Oper.upon_value]
 go_wp2
 rw[Lib.run_from_unsafe w ⟨b,0,none⟩ zMn u84 hj hsh zHT]
 simp only[Result.andThen]
 rw[Oper.upon_value]
 go_wp2
 go_end0
 exact⟨rfl,rfl⟩
section
variable {G : Env} {J : AS} {R : Out -> AS -> Prop}
def zHU(o:Nat)(v:AV):Prop:=v=.nilp\/v=.pt 88 2 o 0
theorem zkP{o:Nat}{v u:AV}(ho:J.objs o=some [v,u])(hv:zHU o v)(h:∀J',J'=J.setO o [.pt 88 2 o 0,u]->R (.ret (.tuple [])) J'):zzQ G 175 [.pt 88 2 o 0] J R:=by
 intro M w cargs S g hc
 obtain⟨c,rfl,hcv⟩:=zHP hc
 obtain⟨q1,q2,⟨cc,z,q3,q4⟩,rfl⟩:=zra hcv
 obtain⟨r1,r2,r3⟩:=S.obj o _ ho
 obtain⟨c0,s1,s2,s3⟩:=r3 0 (by simp)
 rw[q2]at s1 s2
 simp only[ydE,yaK]at s1 s2
 have hpt:VR M J.F w (.pt 88 2 o 0) (.pointer (some ⟨(M.obj o).1,0,none⟩)):=hcv
 rcases hv with rfl|rfl
 .have hc0:c0=.pointer none:=by
   simp only[yaz]at s3
   cases s3
   rfl
  subst hc0
  have hsh:w.shape? (M.obj o).1=some (88,2):=by simp[World.shape?,q3,q4]
  refine(zyX _ w s1 hsh s2).mono λe w' ⟨he,hw⟩=>?_
  subst he
  obtain⟨w2,hrun,S',E'⟩:=zn4 (P:=yb9) S ho (off:=0) (vs:=[.pt 88 2 o 0]) (l:=[.pointer (some ⟨(M.obj o).1,0,none⟩)]) (by simp) rfl (by simp[Value.oneCell']) (λj h1 h2=>by
   have:j=0:=by simp at h1;omega
   subst this
   exact hpt)
  have hw2:w2=w':=by
   have hrun2:=run_storeCells_cells (P:=yb9) (M.obj o).1 ((M.obj o).2+0) [.pointer (some ⟨(M.obj o).1,0,none⟩)] 0 w (λj hj=>by
    have:j=0:=by simp at hj;omega
    subst this
    rw[q2]
    simp only[ydE,yaK]
    rw[s1];rfl) (λj hj=>by
    have:j=0:=by simp at hj;omega
    subst this
    rw[q2]
    simpa using s2) (by simp[Value.oneCell'])
   rw[hrun2]at hrun
   cases hrun
   rw[hw,q2]
   rfl
  subst hw2
  refine⟨.ret (.tuple []),_,M,h _ ?_,.tuple _ _ rfl (λj h=>absurd h (yaA _)),S',E'⟩
  simp[splice]
 .have hc0:c0=.pointer (some ⟨(M.obj o).1,0,none⟩):=by
   simp only[yaz]at s3
   exact(zra s3).2.2.2
  subst hc0
  refine(zDY _ w s1).mono λe w' ⟨he,hw⟩=>?_
  subst he hw
  have e1:J.setO o [.pt 88 2 o 0,u]=J:=by
   unfold AS.setO
   have:upd J.objs o (some [.pt 88 2 o 0,u])=J.objs:=by
    funext x
    by_cases hx:x=o
    .subst hx;simp[ho]
    .simp[hx]
   rw[this]
  refine⟨.ret (.tuple []),J,M,h _ e1.symm,.tuple _ _ rfl (λj h=>absurd h (yaA _)),S,.refl ..⟩
end
theorem zHV{P:Program}{G:Env}{f:FuncId}{args:List AV}{J:AS}{R:Out->AS->Prop}{o i:Nat}{cs:List AV}{e:Nat}(ho:J.objs o=some cs)(hi:cs[i]?=some .nilsl)(h:ACalls P G f args (J.setO o (splice cs i [.tys e .nilsl])) R):ACalls P G f args J R:=by
 intro M w cargs S g c
 have hil:i<cs.length:=(yaq.1 hi).1
 have hb:i+[AV.tys e .nilsl].length<=cs.length:=by simp only[yac,ybl];omega
 have S':Sim M (J.setO o (splice cs i [.tys e .nilsl])) w:=by
  refine⟨S.no,S.nf,S.role,λx cs' hx=>?_,λx y hx hy hxy=>?_⟩
  .by_cases hxo:x=o
   .subst hxo
    simp only[AS.setO,zf]at hx
    cases hx
    obtain⟨a1,a2,a3⟩:=S.obj x cs ho
    refine⟨a1,a2,λj hj=>?_⟩
    have hj':j<cs.length:=by rwa [zds hb]at hj
    obtain⟨u,h1,h2,h3⟩:=a3 j hj'
    refine⟨u,h1,h2,?_⟩
    have e1:=zdw (cs:=cs) (vs:=[AV.tys e .nilsl]) (off:=i) (j:=j) hb
    rw[yau hj]at e1
    by_cases hji:j=i
    .subst hji
     rw[if_pos (by simp)]at e1
     simp only[Nat.sub_self,yd0,yaR.injEq]at e1
     rw[e1]
     have e2:cs[j]=.nilsl:=by
      rw[yau hj']at hi
      exact yaR.inj hi
     rw[e2]at h3
     have e3:=zbS h3
     subst e3
     exact .tys e .nilsl _ h3 trivial
    .rw[if_neg (by simp only[yac,ybl];omega),yau hj']at e1
     rw[yaR.inj e1]
     exact h3
   .simp only[AS.setO]at hx
    rw[zg _ _ hxo]at hx
    exact S.obj x cs' hx
  .have key:∀z,((J.setO o (splice cs i [.tys e .nilsl])).objs z).isSome=true->(J.objs z).isSome=true:=by
    intro z hz
    by_cases hzo:z=o
    .subst hzo;rw[ho];rfl
    .simp only[AS.setO]at hz;rwa [zg _ _ hzo]at hz
   exact S.inj x y (key x hx) (key y hy) hxy
 exact h M w cargs S' g c
theorem zME:yb9.underlying 160=some (.pointer 5):=by kernel_rfl
theorem zHW:yb9.cellsOf 5=1:=by kernel_rfl
def zBA(J0 J:AS)(v:AV)(bs:List UInt8):Prop:=(bs=[]/\v=.tys 5 .nilsl)\/∃g,v=.tys 5 (.sl (.fam g false) 1 (B bs))/\J0.nf<=g/\g<J.nf/\J.F g=.alive/\bs≠[]
theorem zBA.one{J0 J v bs}(h:zBA J0 J v bs):v.known=true/\v.one=true/\v.cells=[v]:=by
 rcases h with ⟨_,rfl⟩|⟨g,rfl,_⟩<;>simp
structure Pw(J0:AS)(x:Nat)(bs:List UInt8)(Z:AS):Prop where
 x0:J0.no<=x
 hx:x<Z.no
 ad:zd J0 Z
 cells:∃hd v,Z.objs x=some [hd,v]/\zHU x hd/\zBA J0 Z v bs
structure PwK(x:Nat)(Z Z':AS):Prop where
 no:Z.no<=Z'.no
 obj:∀o,o<Z.no->o≠x->Z'.objs o=Z.objs o
theorem PwK.refl(x Z):PwK x Z Z:=⟨yah _,λ_ _ _=>rfl⟩
theorem PwK.trans{x a b c}(h:PwK x a b)(k:PwK x b c):PwK x a c:=⟨yai h.no k.no,λo h1 h2=>(k.obj o (yag h1 h.no) h2).trans (h.obj o h1 h2)⟩
theorem zd.pwk{x a b}(A:zd a b):PwK x a b:=⟨A.no,λo h _=>A.obj o h⟩
theorem PwK.set{x a b cs}(h:PwK x a b):PwK x a (b.setO x cs):=⟨h.no,λo h1 h2=>by
 simp[h2]
 exact h.obj o h1 h2⟩
theorem Pw.adds{J0 x bs Z Z'}(h:Pw J0 x bs Z)(A:zd Z Z'):Pw J0 x bs Z':=by
 obtain⟨hd,v,h1,h2,h3⟩:=h.cells
 refine⟨h.x0,yag h.hx A.no,h.ad.trans A,hd,v,(A.obj x h.hx).trans h1,h2,?_⟩
 rcases h3 with h3|⟨g,q1,q2,q3,q4,q5⟩
 .exact .inl h3
 .exact .inr ⟨g,q1,q2,yag q3 A.nf,(A.fam g q3).trans q4,q5⟩
section
variable {G : Env} {J : AS} {R : Out -> AS -> Prop}
theorem zK5{J0 x bs}(h:Pw J0 x bs J)(hl:bs.length<2^60)(hR:R (.ret (.int .i64 (bs.length:Int))) J):zzQ G 127 [.pt 88 2 x 0] J R:=by
 obtain⟨hd,v,h1,h2,h3⟩:=h.cells
 refine zxq rfl ?_
 rcases h3 with ⟨rfl,rfl⟩|⟨g,rfl,q2,q3,q4,q5⟩
 .simp[zDn,h1]
  exact hR
 .simp[zDn,h1]
  simpa [B]using hR
theorem zMF:elT yb9 32=some 5:=by kernel_rfl
theorem zBB{J0 Z:AS}{v:AV}{bs w:List UInt8}{K:AV->AS->Prop}(hb:zBA J0 Z v bs)(A:zd J0 Z)(hl:bs.length+w.length<2^46)
  (h:∀v' Z',zBA J0 Z' v' (bs++w)->Z'.objs=Z.objs->Z'.no=Z.no->zd J0 Z'->K v' Z'):zbT (elT yb9 32) 1 1 v (B w) Z K:=by
 have An:=A.nf
 have Bl:(B w).length=w.length:=by simp[B]
 have Bb:(B bs).length=bs.length:=by simp[B]
 have Ba:B (bs++w)=B bs++B w:=by simp[B]
 rw[zMF]
 rcases hb with ⟨rfl,rfl⟩|⟨g,rfl,q2,q3,q4,q5⟩
 .rw[zmK]
  refine⟨rfl,by rw[Bl];simp at hl;omega,λe=>?_,λe=>?_⟩
  .have hw:w=[]:=by
    cases w with
    | nil=>rfl
    | cons c r=>simp[B]at e
   subst hw
   exact h _ _ (.inl ⟨rfl,rfl⟩) rfl rfl A
  .have hw:w≠[]:=λq=>e (by rw[q];rfl)
   exact h _ _ (.inr ⟨Z.nf,rfl,An,by simp,by simp,by simpa using hw⟩) (by simp) (by simp) A.newF
 .rw[zmL]
  refine⟨rfl,rfl,by rw[Bl,Bb];omega,q4,?_⟩
  refine h _ _ (.inr ⟨Z.nf,by rw[Ba],An,by simp,by simp,by simp[q5]⟩) (by simp) (by simp) ?_
  exact⟨A.no,by simp;omega,λo ho=>A.obj o ho,λf hf=>by
   have h1:¬f=Z.nf:=by omega
   have h2:¬f=g:=by omega
   simp[h1,h2]
   exact A.fam f hf⟩
theorem Pw.head{J0 x bs Z hd v}(h:Pw J0 x bs Z)(h1:Z.objs x=some [hd,v])(h3:zBA J0 Z v bs):Pw J0 x bs (Z.setO x [.pt 88 2 x 0,v]) :=
 ⟨h.x0,h.hx,h.ad.setO h.x0,_,v,by simp,.inr rfl,h3⟩
theorem zhE{J0 x bs w}(h:Pw J0 x bs J)(hl:bs.length+w.length<2^46)(hR:∀J' v,Pw J0 x (bs++w) J'->PwK x J J'->R (.ret v) J'):zzQ G 129 [.pt 88 2 x 0,.str w] J R:=by
 obtain⟨hd,v,h1,h2,h3⟩:=h.cells
 have v1:=h3.one
 refine zxs rfl ?_
 simp[zGE]
 refine zkP h1 h2 λJ1 e1=>?_
 have hx1:J1.objs x=some [.pt 88 2 x 0,v]:=by rw[e1];simp
 have hP1:Pw J0 x bs J1:=by rw[e1];exact h.head h1 h3
 have K1:PwK x J J1:=by rw[e1];exact(PwK.refl x J).set
 have h31:zBA J0 J1 v bs:=by rw[e1];exact h3
 simp[hx1,v1]
 refine zBB h31 hP1.ad hl λv' Z' b' o' n' A'=>?_
 have v1':=b'.one
 have hx2:Z'.objs x=some [.pt 88 2 x 0,v]:=by rw[o'];exact hx1
 have hlt:=hP1.hx
 simp[hx2,v1',splice]
 refine hR _ _ ⟨hP1.x0,by simp;omega,A'.setO hP1.x0,_,v',by simp,.inr rfl,?_⟩ (K1.trans (PwK.set ⟨by omega,λo q1 q2=>by rw[o']⟩))
 exact b'
theorem zqN{J0 x bs}{c:UInt8}(h:Pw J0 x bs J)(hl:bs.length+1<2^46)(hR:∀J' v,Pw J0 x (bs++[c]) J'->PwK x J J'->R (.ret v) J'):zzQ G 128 [.pt 88 2 x 0,.int .u8 (c.toNat:Int)] J R:=by
 obtain⟨hd,v,h1,h2,h3⟩:=h.cells
 have v1:=h3.one
 refine zxr rfl ?_
 simp[zGD]
 refine zkP h1 h2 λJ1 e1=>?_
 have hx1:J1.objs x=some [.pt 88 2 x 0,v]:=by rw[e1];simp
 have hP1:Pw J0 x bs J1:=by rw[e1];exact h.head h1 h3
 have K1:PwK x J J1:=by rw[e1];exact(PwK.refl x J).set
 have h31:zBA J0 J1 v bs:=by rw[e1];exact h3
 simp[hx1,v1]
 refine zBB (w:=[c]) h31 hP1.ad hl λv' Z' b' o' n' A'=>?_
 have v1':=b'.one
 have hx2:Z'.objs x=some [.pt 88 2 x 0,v]:=by rw[o'];exact hx1
 have hlt:=hP1.hx
 simp[hx2,v1',splice]
 refine hR _ _ ⟨hP1.x0,by simp;omega,A'.setO hP1.x0,_,v',by simp,.inr rfl,?_⟩ (K1.trans (PwK.set ⟨by omega,λo q1 q2=>by rw[o']⟩))
 exact b'
theorem zyY{J0 x bs}(h:Pw J0 x bs J)(hne:bs≠[])(hl:bs.length<2^46)(hR:∀J',zd J0 J'->PwK x J J'->R (.ret (.str bs)) J'):zzQ G 67 [.pt 88 2 x 0] J R:=by
 obtain⟨hd,v,h1,h2,h3⟩:=h.cells
 refine zC5 rfl ?_
 rcases h3 with ⟨rfl,rfl⟩|⟨g,rfl,q2,q3,q4,q5⟩
 .exact absurd rfl hne
 .simp[zLV,h1]
  refine⟨zME,zHW,q4,bs,rfl,rfl,hne,by omega,?_⟩
  simp
  have A:=h.ad
  refine hR _ ⟨A.no,A.nf,A.obj,λf hf=>?_⟩ ⟨yah _,λ_ _ _=>rfl⟩
  have:¬f=g:=by omega
  simp[this]
  exact A.fam f hf
end
def zr0(bs w:List UInt8):List UInt8:=if bs=[]then w else bs++32::w
def zhF(bs:List UInt8)(ws:List (List UInt8)):List UInt8:=ws.foldl zr0 bs
def spT(ts:List (List UInt8)):List UInt8:=ts.flatMap λt=>32::t
theorem zj(a b:List (List UInt8)):spT (a++b)=spT a++spT b:=by simp[spT]
theorem zr1:∀ts,zyN ts=spT ts++[10]
 | []=>rfl
 | t::r=>by
  have:=zr1 r
  simp only[zyN,this,spT,yaa,yc1,ydB]
theorem zvv{bs w:List UInt8}(h:bs≠[]):zr0 bs w=bs++32::w:=by unfold zr0;rw[if_neg h]
theorem zqO:∀(ws:List (List UInt8)) {bs:List UInt8},bs≠[]->zhF bs ws=bs++spT ws
 | [],bs,_=>by simp[zhF,spT]
 | w::r,bs,h=>by
  have e:zhF bs (w::r)=zhF (zr0 bs w) r:=rfl
  rw[e,zvv h,zqO r (by simp)]
  simp[spT]
theorem zvw(bs w:List UInt8):bs.length<=(zr0 bs w).length/\w.length<=(zr0 bs w).length:=by
 unfold zr0
 split
 .rename_i h;subst h;simp
 .simp only[yab,yac];omega
theorem zvx:∀(ws:List (List UInt8)) (bs:List UInt8),bs.length<=(zhF bs ws).length
 | [],bs=>yah _
 | w::r,bs=>yai (zvw bs w).1 (zvx r (zr0 bs w))
theorem zr2(bs:List UInt8)(d r:List (List UInt8)):zhF bs (d++r)=zhF (zhF bs d) r:=by simp[zhF]
section
variable {G : Env} {J : AS} {R : Out -> AS -> Prop}
def SyI(J0:AS)(x:Nat)(bs:List UInt8)(ws:List (List UInt8))(J:AS)(a:Nat->AV)(Z:AS):Prop:=∃(d r:List (List UInt8)),ws=d++r/\a 0=.pt 88 2 x 0/\a 6=.sl (.stat true) 1 (ws.map ycZ)/\a 7=.int .i64 (ws.length:Int)/\a 8=.int .i64 (d.length:Int)/\Pw J0 x (zhF bs d) Z/\PwK x J Z
theorem zBC{J0 x bs ws}(h:Pw J0 x bs J)(hw:ws.length<1000)(hl:(zhF bs ws).length<2^45)(hR:∀J' v,Pw J0 x (zhF bs ws) J'->PwK x J J'->R (.ret v) J'):zzQ G 63 [.pt 88 2 x 0,.sl (.stat true) 1 (ws.map ycZ)] J R:=by
 refine zC2 rfl ?_
 simp[zLT]
 refine zS (SyI J0 x bs ws J) (MU 8 (ws.length+1)) ⟨[],ws,rfl,by simp,by simp,by simp,by simp,h,.refl ..⟩ λa Z hI=>?_
 obtain⟨d,r,hdr,a0,a6,a7,a8,hP,hK⟩:=hI
 cases r with
 | nil =>
  have e:ws=d:=by simpa using hdr
  have e2:ws.length=d.length:=by rw[e]
  rw[e2]at a7
  simp[zp2,a0,a6,a7,a8]
  exact hR _ _ (by rw[e];exact hP) hK
 | cons t r =>
  have hlt:(d.length:Int)<(ws.length:Int):=by simp[hdr];omega
  have hi:ws[d.length]?=some t:=by simp[hdr]
  have w1:yb4 .i64 ((d.length:Int)+1)=((d.length+1:Nat):Int):=by rw[zb]<;>omega
  have e3:zhF bs ws=zhF (zr0 (zhF bs d) t) r:=by rw[hdr,zr2];rfl
  have l1:(zr0 (zhF bs d) t).length<=(zhF bs ws).length:=by rw[e3];exact zvx _ _
  have l2:=zvw (zhF bs d) t
  have e4:zhF bs (d++[t])=zr0 (zhF bs d) t:=by rw[zr2];rfl
  simp[zp2,a0,a6,a7,a8,hlt,hi]
  refine zK5 hP (by omega) ?_
  by_cases hb:zhF bs d=[]
  .have e5:zr0 (zhF bs d) t=t:=by unfold zr0;rw[if_pos hb]
   rw[hb]at hP
   simp[hb,a0]
   refine zhE (w:=t) hP (by simp;omega) λZ' v' P' K'=>?_
   simp[a0,a6,a7,a8,w1]
   refine⟨⟨d++[t],r,by simp[hdr],by simp[a0],by simp[a6],by simp[a7],by simp,?_,hK.trans K'⟩,?_⟩
   .rw[e4,e5];simpa using P'
   .simp[MU,a8];omega
  .have hpos:(0:Int)<((zhF bs d).length:Int):=by have:=ybm.2 hb;omega
   have hposN:0<(zhF bs d).length:=by omega
   have e5:zr0 (zhF bs d) t=zhF bs d++32::t:=zvv hb
   rw[e5]at l1
   simp only[yab,yac]at l1
   simp[hpos,hposN,hb,a0]
   refine zqN (c:=32) hP (by omega) λZ1 v1 P1 K1=>?_
   simp[a0]
   refine zhE (w:=t) P1 (by simp;omega) λZ' v' P' K'=>?_
   simp[a0,a6,a7,a8,w1]
   refine⟨⟨d++[t],r,by simp[hdr],by simp[a0],by simp[a6],by simp[a7],by simp,?_,(hK.trans K1).trans K'⟩,?_⟩
   .rw[e4,e5];simpa using P'
   .simp[MU,a8];omega
theorem znt{op:Int}(h:op=11\/op=12\/op=13)(hR:R (.ret (.str (zd1 op))) J):zzQ G 132 [.int .i64 op] J R:=by
 refine zxv rfl ?_
 rcases h with rfl|rfl|rfl
 .simp[zxu]
  exact hR
 .simp[zxu]
  exact hR
 .simp[zxu]
  exact hR
theorem zvy{n:Int}{a b:List UInt8}(h:n=1\/n=4\/n=8)(hR:R (.ret (.str (if n=1 then a else b))) J):zzQ G 177 [.int .i64 n,.str a,.str b] J R:=by
 refine zxP rfl ?_
 rcases h with rfl|rfl|rfl
 .simp[zxO]
  simpa using hR
 .simp[zxO]
  simpa using hR
 .simp[zxO]
  simpa using hR
theorem zkQ(t:Int):(zaK t).length=3:=by unfold zaK;split<;>rfl
theorem zo6{t:Int}(h:zac t=true):t=1\/t=2:=by simpa [zac]using h
theorem zyZ{t n:Int}(h:zfy t n=true):(t=1\/t=2)/\(n=1\/n=4\/n=8):=by
 unfold zfy at h
 simp at h
 omega
theorem zqP{w:W}(h:zT w=true):1<=w.op/\w.op<=18/\(w.op=1\/w.op=4\/w.op=5\/w.op=8\/w.op=9->w.ty=1\/w.ty=2)/\(w.op=8\/w.op=9->w.n=1\/w.n=4\/w.n=8)/\(w.op=4->zcs signs w.name≠[]):=by
 unfold zT at h
 split at h
 .rename_i h1
  have:=zo6 h
  refine⟨by omega,by omega,λ_=>this,λ_=>by omega,λ_=>by omega⟩
 .split at h
  .rename_i h1 h2
   simp only[Bool.and_eq_true]at h
   have:=zo6 h.1
   refine⟨by omega,by omega,λ_=>this,λ_=>by omega,λ_=>?_⟩
   simpa using h.2
  .split at h
   .rename_i h1 h2 h3
    have:=zyZ h
    exact⟨by omega,by omega,λ_=>this.1,λ_=>this.2,λ_=>by omega⟩
   .simp at h
    refine⟨by omega,by omega,λ_=>by omega,λ_=>by omega,λ_=>by omega⟩
theorem zvz{w:W}(hf:zT w=true)(hn:zR w=false)(h:∀J',zd J J'->R (.ret (.str (zZ w))) J'):zzQ G 133 [w.av] J R:=by
 refine zxw rfl ?_
 obtain⟨f1,f2,f3,f4,f5⟩:=zqP hf
 have A1:zd J (J.newO w.cs):=(zd.refl J).newO
 have hn':w.op≠11/\w.op≠12/\w.op≠13:=by simpa [zR,and_assoc]using hn
 have hc:w.op=1\/w.op=2\/w.op=3\/w.op=4\/w.op=5\/w.op=6\/w.op=7\/w.op=8\/w.op=9\/w.op=10\/w.op=14\/w.op=15\/w.op=16\/w.op=17\/w.op=18:=by omega
 have tl:=zkQ w.ty
 have key:∀t,zZ w=t->R (.ret (.str t)) (J.newO w.cs):=λt e=>e▸h _ A1
 rcases hc with e|e|e|e|e|e|e|e|e|e|e|e|e|e|e
 .simp[zgl,W.av,W.cs,e]
  refine zio (f3 (by omega)) ?_
  simp[tl]
  have:=key _ (by unfold zZ;rw[if_pos e])
  simpa [W.cs,e]using this
 .have:=key [108,111,99,97,108,46,103,101,116] (by simp[zZ,e])
  simp[zgl,W.av,W.cs,e]
  simpa [W.cs,e]using this
 .have:=key [108,111,99,97,108,46,115,101,116] (by simp[zZ,e])
  simp[zgl,W.av,W.cs,e]
  simpa [W.cs,e]using this
 .have:=key (zaK w.ty++46::w.name) (by simp[zZ,e])
  have hl:=zih w.name (f5 e)
  simp[zgl,W.av,W.cs,e]
  refine zio (f3 (by omega)) ?_
  simp[tl]
  refine⟨by omega,?_⟩
  simpa [W.cs,e]using this
 .have:=key (zaK w.ty++[46,101,113,122]) (by simp[zZ,e])
  simp[zgl,W.av,W.cs,e]
  refine zio (f3 (by omega)) ?_
  simp[tl]
  simpa [W.cs,e]using this
 .have:=key [105,51,50,46,119,114,97,112,95,105,54,52] (by simp[zZ,e])
  simp[zgl,W.av,W.cs,e]
  simpa [W.cs,e]using this
 .have:=key [105,54,52,46,101,120,116,101,110,100,95,105,51,50,95,115] (by simp[zZ,e])
  simp[zgl,W.av,W.cs,e]
  simpa [W.cs,e]using this
 .have:=key (zaK w.ty++(if w.n=1 then [46,108,111,97,100,56,95,115]else [46,108,111,97,100])) (by simp[zZ,e])
  simp[zgl,W.av,W.cs,e]
  refine zio (f3 (by omega)) ?_
  simp
  refine zvy (f4 (by omega)) ?_
  have ln:(if w.n=1 then [46,108,111,97,100,56,95,115]else([46,108,111,97,100]:List UInt8)).length<=8:=by split<;>decide
  simp[tl]
  refine⟨by omega,?_⟩
  simpa [W.cs,e]using this
 .have:=key (zaK w.ty++(if w.n=1 then [46,115,116,111,114,101,56]else [46,115,116,111,114,101])) (by simp[zZ,e])
  simp[zgl,W.av,W.cs,e]
  refine zio (f3 (by omega)) ?_
  simp
  refine zvy (f4 (by omega)) ?_
  have ln:(if w.n=1 then [46,115,116,111,114,101,56]else([46,115,116,111,114,101]:List UInt8)).length<=8:=by split<;>decide
  simp[tl]
  refine⟨by omega,?_⟩
  simpa [W.cs,e]using this
 .have:=key [99,97,108,108] (by simp[zZ,e])
  simp[zgl,W.av,W.cs,e]
  simpa [W.cs,e]using this
 .have:=key [98,114] (by simp[zZ,e])
  simp[zgl,W.av,W.cs,e]
  simpa [W.cs,e]using this
 .have:=key [98,114,95,105,102] (by simp[zZ,e])
  simp[zgl,W.av,W.cs,e]
  simpa [W.cs,e]using this
 .have:=key [114,101,116,117,114,110] (by simp[zZ,e])
  simp[zgl,W.av,W.cs,e]
  simpa [W.cs,e]using this
 .have:=key [117,110,114,101,97,99,104,97,98,108,101] (by simp[zZ,e])
  simp[zgl,W.av,W.cs,e]
  simpa [W.cs,e]using this
 .have:=key [100,114,111,112] (by simp[zZ,e])
  simp[zgl,W.av,W.cs,e]
  simpa [W.cs,e]using this
end
theorem zvA{w:W}(hf:zT w=true)(hn:zR w=false):(zgo zif (zZ w)).isSome=zaM w:=by
 obtain⟨f1,f2,f3,f4,f5⟩:=zqP hf
 have hn':w.op≠11/\w.op≠12/\w.op≠13:=by simpa [zR,and_assoc]using hn
 have hc:w.op=1\/w.op=2\/w.op=3\/w.op=4\/w.op=5\/w.op=6\/w.op=7\/w.op=8\/w.op=9\/w.op=10\/w.op=14\/w.op=15\/w.op=16\/w.op=17\/w.op=18:=by omega
 have key:∀t b,zZ w=t->zaM w=b->(zgo zif t).isSome=b->(zgo zif (zZ w)).isSome=zaM w:=λt b e1 e2 e3=>by rw[e1,e2,e3]
 rcases hc with e|e|e|e|e|e|e|e|e|e|e|e|e|e|e
 .rcases f3 (by omega)with t|t
  .exact key [105,51,50,46,99,111,110,115,116] true (by simp[zZ,e,t,zaK,zKB]) (by simp[zaM,e]) (by decide)
  .exact key [105,54,52,46,99,111,110,115,116] true (by simp[zZ,e,t,zaK,zKC]) (by simp[zaM,e]) (by decide)
 .exact key [108,111,99,97,108,46,103,101,116] true (by simp[zZ,e]) (by simp[zaM,e]) (by decide)
 .exact key [108,111,99,97,108,46,115,101,116] true (by simp[zZ,e]) (by simp[zaM,e]) (by decide)
 .have ht:=f3 (by omega)
  have:=(zyO w.name (zgb (f5 e)) w.ty (by simpa using ht)).2.1
  exact key (zaK w.ty++46::w.name) false (by simp[zZ,e]) (by simp[zaM,e]) (by rw[this];rfl)
 .rcases f3 (by omega)with t|t
  .exact key [105,51,50,46,101,113,122] false (by simp[zZ,e,t,zaK,zKB]) (by simp[zaM,e]) (by decide)
  .exact key [105,54,52,46,101,113,122] false (by simp[zZ,e,t,zaK,zKC]) (by simp[zaM,e]) (by decide)
 .exact key [105,51,50,46,119,114,97,112,95,105,54,52] false (by simp[zZ,e]) (by simp[zaM,e]) (by decide)
 .exact key [105,54,52,46,101,120,116,101,110,100,95,105,51,50,95,115] false (by simp[zZ,e]) (by simp[zaM,e]) (by decide)
 .have k:∀t n:Int,(t=1\/t=2)->(n=1\/¬n=1)->(zgo zif (zaK t++(if n=1 then [46,108,111,97,100,56,95,115]else [46,108,111,97,100]))).isSome=false:=by
   intro t n ht hn
   rcases ht with rfl|rfl<;>rcases hn with rfl|hn
   .decide
   .rw[if_neg hn];decide
   .decide
   .rw[if_neg hn];decide
  exact key _ false (by simp only[zZ,e];rfl) (by simp[zaM,e]) (k w.ty w.n (f3 (by omega)) (by omega))
 .have k:∀t n:Int,(t=1\/t=2)->(n=1\/¬n=1)->(zgo zif (zaK t++(if n=1 then [46,115,116,111,114,101,56]else [46,115,116,111,114,101]))).isSome=false:=by
   intro t n ht hn
   rcases ht with rfl|rfl<;>rcases hn with rfl|hn
   .decide
   .rw[if_neg hn];decide
   .decide
   .rw[if_neg hn];decide
  exact key _ false (by simp only[zZ,e];rfl) (by simp[zaM,e]) (k w.ty w.n (f3 (by omega)) (by omega))
 .exact key [99,97,108,108] true (by simp[zZ,e]) (by simp[zaM,e]) (by decide)
 .exact key [98,114] true (by simp[zZ,e]) (by simp[zaM,e]) (by decide)
 .exact key [98,114,95,105,102] true (by simp[zZ,e]) (by simp[zaM,e]) (by decide)
 .exact key [114,101,116,117,114,110] false (by simp[zZ,e]) (by simp[zaM,e]) (by decide)
 .exact key [117,110,114,101,97,99,104,97,98,108,101] false (by simp[zZ,e]) (by simp[zaM,e]) (by decide)
 .exact key [100,114,111,112] false (by simp[zZ,e]) (by simp[zaM,e]) (by decide)
theorem zkR(l:List Int):(spT (l.map zaK)).length=4*l.length:=by
 induction l with
 | nil=>rfl
 | cons t r ih=>simp only[yaL,spT,yaa,yab,yac,zkQ]at *;omega
section
variable {G : Env} {J : AS} {R : Out -> AS -> Prop}
theorem zbg{J0 x bs ws}(h:Pw J0 x bs J)(hb:bs≠[])(hw:ws.length<1000)(hl:(bs++spT ws).length<2^45)(hR:∀J' v,Pw J0 x (bs++spT ws) J'->PwK x J J'->R (.ret v) J'):zzQ G 63 [.pt 88 2 x 0,.sl (.stat true) 1 (ws.map ycZ)] J R:=by
 have e:=zqO ws hb
 exact zBC h hw (by rw[e];exact hl) (by rw[e];exact hR)
def TpI(J0:AS)(x:Nat)(bs:List UInt8)(kw:List UInt8)(v:AV)(l:List Int)(J:AS)(a:Nat->AV)(Z:AS):Prop:=∃(d r:List Int),l=d++r/\a 0=.pt 88 2 x 0/\a 15=v/\a 16=.int .i64 (l.length:Int)/\a 17=.int .i64 (d.length:Int)/\Pw J0 x (bs++spT (za2::kw::d.map zaK)) Z/\PwK x J Z
theorem zjC{J0 x bs kw l v}(h:Pw J0 x bs J)(hb:bs≠[])(hv:Al.IntsO J0 v l)(ht:∀t∈l,t=1\/t=2)(hl:(bs++spT (zby kw l)).length<2^45)(hR:∀J' u,Pw J0 x (bs++spT (zby kw l)) J'->PwK x J J'->R (.ret u) J'):zzQ G 65 [.pt 88 2 x 0,.str kw,v] J R:=by
 refine zC3 rfl ?_
 have v1:=hv.one
 have vl:=hv.len
 by_cases h0:l=[]
 .subst h0
  have e:bs++spT (zby kw [])=bs:=by simp[zby,spT]
  rw[e]at hR
  simp[zKv,vl]
  exact hR _ _ h (.refl ..)
 .have hne:¬(l.length:Int)=0:=by have:=ybm.2 h0;omega
  have hneN:¬l.length=0:=by omega
  have e:zby kw l=za2::kw::(l.map zaK++[zad]):=by unfold zby;rw[if_neg h0]
  have e2:spT (zby kw l)=spT (za2::kw::l.map zaK)++spT [zad]:=by rw[e,<-zj];rfl
  rw[e2]at hl hR
  simp only[yab]at hl
  have e3:spT (za2::kw::l.map zaK)=spT [za2,kw]++spT (l.map zaK):=by rw[<-zj];rfl
  have hl3:=congrArg ycT e3
  simp only[yab]at hl3
  have hlt:=zkR l
  simp[zKv,vl,hne,hneN,h0]
  refine zbg (ws:=[za2,kw]) h hb (by simp) (by rw[yab];omega) λJ1 u1 P1 K1=>?_
  simp[vl]
  refine zS (TpI J0 x bs kw v l J) (MU 17 (l.length+1)) ⟨[],l,rfl,by simp,by simp,by simp,by simp,P1,K1⟩ λa Z hI=>?_
  obtain⟨d,r,hdr,a0,a15,a16,a17,hP,hK⟩:=hI
  have hvt:=hv.keep hP.ad
  cases r with
  | nil =>
   have e5:l=d:=by simpa using hdr
   have e6:l.length=d.length:=by rw[e5]
   rw[e6]at a16
   simp[zm2,a0,a15,a16,a17,zuy]
   refine zbg (ws:=[zad]) hP (by simp[hb]) (by simp) (by rw[<-e5,yab,yab];omega) λJ2 u2 P2 K2=>?_
   simp
   refine hR _ _ ?_ (hK.trans K2)
   rw[<-e5,ydB]at P2
   exact P2
  | cons t r =>
   have hlt2:d.length<l.length:=by simp[hdr]
   obtain⟨φ,hr,hat⟩:=hvt.at hlt2
   have hr':=hr.read
   have hlt3:(d.length:Int)<(l.length:Int):=by omega
   have hi:l[d.length]=t:=by simp[hdr]
   rw[hi]at hat
   have w1:yb4 .i64 ((d.length:Int)+1)=((d.length+1:Nat):Int):=by rw[zb]<;>omega
   have htt:=ht t (by rw[hdr];simp)
   have e7:bs++spT (za2::kw::d.map zaK)++spT [zaK t]=bs++spT (za2::kw::(d++[t]).map zaK):=by
    rw[ydB,<-zj];simp
   have e8:spT (za2::kw::(d++[t]).map zaK)=spT [za2,kw]++spT ((d++[t]).map zaK):=by rw[<-zj];rfl
   have l8:=congrArg ycT e8
   simp only[yab]at l8
   have l9:=zkR (d++[t])
   have l10:(d++[t]).length<=l.length:=by simp;omega
   simp[zm2,a0,a15,a16,a17,hlt2,hlt3,hat,hr',htt]
   refine zio htt ?_
   simp
   refine zbg (ws:=[zaK t]) hP (by simp[hb]) (by simp) (by rw[e7,yab];omega) λJ2 u2 P2 K2=>?_
   simp[a0,a15,a16,a17,w1]
   rw[e7]at P2
   refine⟨⟨d++[t],r,by simp[hdr],by simp[a0],by simp[a15],by simp[a16],by simp,P2,hK.trans K2⟩,?_⟩
   simp[MU,a17];omega
end
theorem zem(c:Prop)[Decidable c](x y:List UInt8)(h1:x.length<=24)(h2:y.length<=24):(if c then x else y).length<=24:=by split<;>assumption
theorem zvB{w:W}(hf:zT w=true)(hn:zR w=false):(zZ w).length<=24:=by
 obtain⟨f1,f2,f3,f4,f5⟩:=zqP hf
 have tl:=zkQ w.ty
 by_cases e4:w.op=4
 .have hs:=zih w.name (f5 e4)
  have e:zZ w=zaK w.ty++46::w.name:=by simp[zZ,e4]
  rw[e]
  simp only[yab,yac,tl]
  omega
 .unfold zZ
  rw[if_neg e4]
  have a:∀x:List UInt8,x.length<=21->(zaK w.ty++x).length<=24:=λx hx=>by rw[yab,tl];omega
  refine zem _ _ _ (a _ (by decide)) (zem _ _ _ (by decide) (zem _ _ _ (by decide) (zem _ _ _ (by decide) (zem _ _ _ (by decide) (zem _ _ _ (by decide) (zem _ _ _ (a _ (by decide)) (zem _ _ _ (by decide) (zem _ _ _ (by decide) (zem _ _ _ (a _ ?_) (zem _ _ _ (a _ ?_) (zem _ _ _ (by decide) (zem _ _ _ (by decide) (by decide)))))))))))))
  .split<;>decide
  .split<;>decide
theorem zvC{w:W}(hf:zT w=true)(hn:zR w=false)(hr:RgW w):(spT (ze5 w)).length<=64:=by
 have h1:=zvB hf hn
 have h2:=Lib.itoa_length_le w.n (by have:=hr.1;omega) (by have:=hr.2;omega)
 unfold ze5
 split
 .simp[spT];omega
 .simp[spT];omega
theorem zHX{B:Nat}{ls:To}{d:Nat}{ws:List W}{acc acc':To}{toks:List Tok}{out:List W}(h:PrB B ls d ws acc toks out acc'):(spT toks).length+64*zhD acc<=64*(out.length+zhD acc'):=by
 induction h with
 | nil=>simp[spT]
 | leaf h1 h2 h3 _ ih =>
  have:=zvC h2 h1 h3
  rw[zj,yab,yac]
  omega
 | @one d w b r acc tb b' acc1 t r' acc' _ _ _ _ _ _ ih1 ih2 =>
  have hol:(zd1 w.op).length<=5:=by unfold zd1;split<;>(try split)<;>decide
  have e1:zd1 w.op::(tb++zie::t)=[zd1 w.op]++(tb++([zie]++t)):=rfl
  have e2:(spT [zd1 w.op]).length=(zd1 w.op).length+1:=by simp[spT]
  have e3:(spT [zie]).length=4:=rfl
  rw[e1,zj,zj,zj]
  rw[zel]at ih2
  simp only[yab,yac]
  omega
 | @two d w b e r acc tb b' acc1 te e' acc2 t r' acc' _ _ _ _ _ _ _ _ _ ih1 ih2 ih3 =>
  have e1:tIf::(tb++zid::(te++zie::t))=[tIf]++(tb++([zid]++(te++([zie]++t)))):=rfl
  have e2:(spT [tIf]).length=3:=rfl
  have e3:(spT [zie]).length=4:=rfl
  have e4:(spT [zid]).length=5:=rfl
  rw[e1,zj,zj,zj,zj,zj]
  rw[zel]at ih2 ih3
  simp only[yab,yac]
  omega
theorem zmb(kw:Tok)(l:List Int)(h:kw.length<=6):(spT (zby kw l)).length<=4*l.length+12:=by
 unfold zby
 split
 .simp[spT]
 .have e:za2::kw::(l.map zaK++[zad])=[za2]++([kw]++(l.map zaK++[zad])):=rfl
  have e1:(spT [za2]).length=2:=rfl
  have e2:(spT [zad]).length=2:=rfl
  have e3:(spT [kw]).length=kw.length+1:=by simp[spT]
  rw[e,zj,zj,zj]
  simp only[yab,zkR]
  omega
theorem zal(t:List UInt8):(spT [t]).length=t.length+1:=by simp[spT]
section
variable {G : Env} {J : AS} {R : Out -> AS -> Prop}
def zJx(B:Nat)(G:Env)(J0:AS)(x:Nat)(ls:To)(d:Nat):Prop:=∀(J:AS) (R:Out->AS->Prop) (fv:AV) (f:F) (i:Int) (ws:List W) (toks:List Tok) (acc:To) (out:List W) (acc':To) (bs:List UInt8),f.lists=ls->Al.FVO J0 fv f->Pw J0 x bs J->bs≠[]->0<=i->ls[i.toNat]?=some ws->PrB B ls d ws acc toks out acc'->(bs++spT toks).length<2^45 ->
 (∀J' u,Pw J0 x (bs++spT toks) J'->PwK x J J'->R (.ret u) J')->zzQ G 66 [.pt 88 2 x 0,fv,.int .i64 i] J R
def LqI(B:Nat)(J0:AS)(x:Nat)(ls:To)(d:Nat)(fc:List AV)(o:Nat)(rv:AV)(ws:List W)(toks:List Tok)(acc':To)(bs:List UInt8)(J:AS)(a:Nat->AV)(Z:AS):Prop:=∃(j:Nat) (t1 t2:List Tok) (acc1:To) (out1:List W),j<=ws.length/\toks=t1++t2/\PrB B ls d (ws.drop j) acc1 t2 out1 acc' /\
 a 0=.pt 88 2 x 0/\a 4=.ptr o 0/\a 14=rv/\a 15=.int .i64 (ws.length:Int)/\a 16=.int .i64 (j:Int)/\Pw J0 x (bs++spT t1) Z/\PwK x J Z/\Z.objs o=some fc/\o<Z.no/\o≠x
theorem zqQ{B:Nat}(V:zDV G){J0 x ls d}(IH:d<B->zJx B G J0 x ls (d+1)){f:F}{pv lv tv rv:AV}{ws:List W}{toks:List Tok}{acc':To}{bs:List UInt8}{o:Nat}(hls:f.lists=ls)(hf:Al.FVO J0 (.agg [.str f.name,pv,lv,.int .i64 f.type,tv]) f)(h1:pv.known=true/\pv.one=true/\pv.cells=[pv])(h2:lv.known=true/\lv.one=true/\lv.cells=[lv])(h3:tv.known=true/\tv.one=true/\tv.cells=[tv])
  (hrv:Al.RepO J0 rv ws) (hwl:ws.length<=2^40) (hb:bs≠[]) (hl:(bs++spT toks).length<2^45) (hR:∀J' u,Pw J0 x (bs++spT toks) J'->PwK x J J'->R (.ret u) J') {a:Nat->AV} {Z:AS} (hI:LqI B J0 x ls d [.str f.name,pv,lv,.int .i64 f.type,tv] o rv ws toks acc' bs J a Z) :
  avc yb9 G 75 zfv (zab (λa' J'=>LqI B J0 x ls d [.str f.name,pv,lv,.int .i64 f.type,tv] o rv ws toks acc' bs J a' J'/\MU 16 (ws.length+1) a' J'<MU 16 (ws.length+1) a Z) (zai 0 (zbE yb9 [] R))) a Z:=by
 obtain⟨j,t1,t2,acc1,out1,hj,ht,hpr,a0,a4,a14,a15,a16,hP,hK,ho,hon,hox⟩:=hI
 by_cases hlt:j<ws.length
 .have hdrop:ws.drop j=ws[j]::ws.drop (j+1):=yc2 hlt
  have hrt:=hrv.keep hP.ad
  obtain⟨φ,hr,hat⟩:=RepO.at hrt hlt
  have hr':=hr.read
  have hlti:(j:Int)<(ws.length:Int):=by omega
  have w1:yb4 .i64 ((j:Int)+1)=((j+1:Nat):Int):=by rw[zb]<;>omega
  rw[hdrop]at hpr
  generalize hw:ws[j]=w at *
  have A1:zd Z ((Z.newO zi8.cs).setO Z.no w.cs):=(zd.refl Z).newO.setO (yah _)
  have hP1:=hP.adds A1
  have K1:=hK.trans A1.pwk
  have o1:((Z.newO zi8.cs).setO Z.no w.cs).objs Z.no=some w.cs:=by simp
  have ho1:=(A1.obj o hon).trans ho
  have n1:((Z.newO zi8.cs).setO Z.no w.cs).no=Z.no+1:=by simp
  have hx:=hP.hx
  have hqx:Z.no≠x:=by omega
  have hbt:bs++spT t1≠[]:=by simp[hb]
  have hlt1:(bs++spT toks).length=bs.length+(spT t1).length+(spT t2).length:=by rw[ht,zj];simp only[yab];omega
  simp only[W.cs,zi8]at A1 o1 hP1 K1 ho1 n1
  have fin:∀(a':Nat->AV) (Z':AS) (t2a t2b:List Tok) (acc2 out2),t2=t2a++t2b->PrB B ls d (ws.drop (j+1)) acc2 t2b out2 acc'->Pw J0 x (bs++spT t1++spT t2a) Z'->PwK x J Z'->Z'.objs o=some [.str f.name,pv,lv,.int .i64 f.type,tv]->o<Z'.no->a' 0=.pt 88 2 x 0->a' 4=.ptr o 0->a' 14=rv->a' 15=.int .i64 (ws.length:Int)->a' 16=.int .i64 ((j+1:Nat):Int) ->
    LqI B J0 x ls d [.str f.name,pv,lv,.int .i64 f.type,tv] o rv ws toks acc' bs J a' Z'/\MU 16 (ws.length+1) a' Z'<MU 16 (ws.length+1) a Z:=by
   intro a' Z' t2a t2b acc2 out2 q1 q2 q3 q4 q5 q6 q7 q8 q9 q10 q11
   refine⟨⟨j+1,t1++t2a,t2b,acc2,out2,hlt,by rw[ht,q1,ydB],q2,q7,q8,q9,q10,q11,?_,q4,q5,q6,hox⟩,?_⟩
   .rw[zj,<-ydB];exact q3
   .simp[MU,a16,q11];omega
  cases hpr with
  | @leaf _ _ _ _ t r' _ hn hform hrg hpr' =>
   have hn':¬w.op=11/\¬w.op=12/\¬w.op=13:=by simpa [zR,and_assoc]using hn
   simp[zfv,a0,a4,a14,a15,a16,hlt,hlti,hat,hr',W.av,W.cs,splice,hn']
   generalize (Z.newO [yc0 .i64 0,yc0 .i64 0,yc0 .i64 0,yc0 .i64 0,yc0 .i64 0,ycZ []]).setO Z.no [yc0 .i64 w.op,yc0 .i64 w.ty,yc0 .i64 w.n,yc0 .i64 w.body,yc0 .i64 w.other,ycZ w.name]=Z1 at *
   have hsp:(spT (ze5 w++t)).length=(spT (ze5 w)).length+(spT t).length:=by rw[zj,yab]
   refine zvz hform hn λZ2 A2=>?_
   have n2:=A2.no
   have lw:(zZ w).length+1<=(spT (ze5 w)).length:=by
    unfold ze5
    split
    .simp[spT]
    .simp[spT]
   simp[a0]
   refine zbg (ws:=[zZ w]) (hP1.adds A2) hbt (by simp) (by rw[yab,yab,zal];omega) λZ3 u3 P3 K3=>?_
   have n3:=K3.no
   have q3:=(K3.obj Z.no (by omega) hqx).trans ((A2.obj Z.no (by omega)).trans o1)
   have r3:=(K3.obj o (by omega) hox).trans ((A2.obj o (by omega)).trans ho1)
   have K13:=(K1.trans A2.pwk).trans K3
   simp[q3]
   refine zvz hform hn λZ4 A4=>?_
   simp
   refine ztk λZ5 A5=>?_
   have A45:=A4.trans A5
   have n5:=A45.no
   have q5:=(A45.obj Z.no (by omega)).trans q3
   have r5:=(A45.obj o (by omega)).trans r3
   have P5:=P3.adds A45
   have K15:=K13.trans A45.pwk
   have hnum:=zvA hform hn
   cases hfd:zgo zif (zZ w)with
   | none =>
    rw[hfd]at hnum
    have hnum':zaM w=false:=hnum.symm
    have e1:ze5 w=[zZ w]:=by unfold ze5;rw[hnum'];rfl
    have A6:zd Z5 ((Z5.newO [yc0 .i64 0,yc0 .i64 0,yc0 .i64 0,yc0 .i64 0,yc0 .i64 0,ycZ []]).setO Z5.no [yc0 .i64 0,yc0 .i64 0,yc0 .i64 0,yc0 .i64 0,yc0 .i64 0,ycZ []]):=(zd.refl Z5).newO.setO (yah _)
    simp[W.av,W.cs,zi8,splice,a0,a4,a14,a15,a16,w1]
    refine fin _ _ [zZ w] t acc1 r' (by rw[e1]) hpr' (P5.adds A6) (K15.trans A6.pwk) ((A6.obj o (by omega)).trans r5) (by simp;omega) (by simp[a0]) (by simp[a4]) (by simp[a14]) (by simp[a15]) (by simp)
   | some w' =>
    rw[hfd]at hnum
    have hnum':zaM w=true:=hnum.symm
    have e1:ze5 w=[zZ w,Lib.itoa w.n]:=by unfold ze5;rw[hnum'];rfl
    have A6:zd Z5 ((Z5.newO [yc0 .i64 0,yc0 .i64 0,yc0 .i64 0,yc0 .i64 0,yc0 .i64 0,ycZ []]).setO Z5.no w'.cs):=(zd.refl Z5).newO.setO (yah _)
    have P6:=P5.adds A6
    have K16:=K15.trans A6.pwk
    have q6:=(A6.obj Z.no (by omega)).trans q5
    have r6:=(A6.obj o (by omega)).trans r5
    have n6:=A6.no
    have hqn:¬Z.no=Z5.no:=by omega
    simp only[W.cs]at A6 P6 K16 q6 r6 n6
    simp[W.av,W.cs,splice,a0,q5,hqn]
    generalize (Z5.newO [yc0 .i64 0,yc0 .i64 0,yc0 .i64 0,yc0 .i64 0,yc0 .i64 0,ycZ []]).setO Z5.no [yc0 .i64 w'.op,yc0 .i64 w'.ty,yc0 .i64 w'.n,yc0 .i64 w'.body,yc0 .i64 w'.other,ycZ w'.name]=Z6 at *
    refine zin V hrg ?_
    simp
    have l2:(spT (ze5 w)).length=(zZ w).length+1+((Lib.itoa w.n).length+1):=by rw[e1];simp[spT];omega
    refine zbg (ws:=[Lib.itoa w.n]) P6 (by simp[hb]) (by simp) (by rw[yab,yab,yab,zal,zal];omega) λZ7 u7 P7 K7=>?_
    have n7:=K7.no
    simp[a0,a4,a14,a15,a16,w1]
    refine fin _ _ [zZ w,Lib.itoa w.n] t acc1 r' (by rw[e1]) hpr' ?_ (K16.trans K7) ((K7.obj o (by omega) hox).trans r6) (by omega) (by simp[a0]) (by simp[a4]) (by simp[a14]) (by simp[a15]) (by simp)
    have e2:spT [zZ w,Lib.itoa w.n]=spT [zZ w]++spT [Lib.itoa w.n]:=by rw[<-zj];rfl
    rw[e2,<-ydB]
    exact P7
  | @one _ _ b _ _ tb b' acc2 t r' _ hop hd hb0 hbs hpb hpr' =>
   have hnest:w.op=11\/w.op=12\/w.op=13:=by omega
   have hcond:¬(w.op=13/\0<=w.other):=by omega
   have hol:(zd1 w.op).length<=5:=by unfold zd1;split<;>(try split)<;>decide
   have hsp:(spT (zd1 w.op::(tb++zie::t))).length=(zd1 w.op).length+1+((spT tb).length+(4+(spT t).length)):=by
    have e1:zd1 w.op::(tb++zie::t)=[zd1 w.op]++(tb++([zie]++t)):=rfl
    rw[e1,zj,zj,zj]
    simp only[yab,zal]
    rfl
   rcases hnest with e|e|e
   .obtain⟨op,ty,n,body,other,name⟩:=w
    dsimp only at *
    subst e
    have wb:((body.toNat:Nat):Int)=body:=by omega
    simp[zfv,a0,a4,a14,a15,a16,hlt,hlti,hat,hr',W.av,W.cs,splice]
    generalize (Z.newO [yc0 .i64 0,yc0 .i64 0,yc0 .i64 0,yc0 .i64 0,yc0 .i64 0,ycZ []]).setO Z.no [yc0 .i64 11,yc0 .i64 ty,yc0 .i64 n,yc0 .i64 body,yc0 .i64 other,ycZ name]=Z1 at *
    refine znt (by omega) ?_
    simp
    refine zbg (ws:=[zd1 11]) hP1 hbt (by simp) (by rw[yab,yab,zal];omega) λZ2 u2 P2 K2=>?_
    have n2:=K2.no
    have q2:=(K2.obj Z.no (by omega) hqx).trans o1
    have r2:=(K2.obj o (by omega) hox).trans ho1
    simp[a0,a4,q2,r2]
    refine IH hd Z2 _ _ f body b tb _ _ _ _ hls hf P2 (by simp[hb]) hb0 hbs hpb (by rw[yab,yab,yab,zal];omega) λZ3 u3 P3 K3=>?_
    have n3:=K3.no
    have q3:=(K3.obj Z.no (by omega) hqx).trans q2
    have r3:=(K3.obj o (by omega) hox).trans r2
    simp[a0,q3]
    refine zbg (ws:=[zie]) P3 (by simp[hb]) (by simp) (by rw[yab,yab,yab,yab,zal,zal];have:zie.length=3:=rfl;omega) λZ4 u4 P4 K4=>?_
    have n4:=K4.no
    simp[a0,a4,a14,a15,a16,w1]
    refine fin _ _ ([zd1 11]++tb++[zie]) t (acc2++[b']) r' (by simp) hpr' ?_ (((K1.trans K2).trans K3).trans K4) ((K4.obj o (by omega) hox).trans r3) (by omega) (by simp[a0]) (by simp[a4]) (by simp[a14]) (by simp[a15]) (by simp)
    rw[zj,zj]
    simpa [ydB]using P4
   .obtain⟨op,ty,n,body,other,name⟩:=w
    dsimp only at *
    subst e
    have wb:((body.toNat:Nat):Int)=body:=by omega
    simp[zfv,a0,a4,a14,a15,a16,hlt,hlti,hat,hr',W.av,W.cs,splice]
    generalize (Z.newO [yc0 .i64 0,yc0 .i64 0,yc0 .i64 0,yc0 .i64 0,yc0 .i64 0,ycZ []]).setO Z.no [yc0 .i64 12,yc0 .i64 ty,yc0 .i64 n,yc0 .i64 body,yc0 .i64 other,ycZ name]=Z1 at *
    refine znt (by omega) ?_
    simp
    refine zbg (ws:=[zd1 12]) hP1 hbt (by simp) (by rw[yab,yab,zal];omega) λZ2 u2 P2 K2=>?_
    have n2:=K2.no
    have q2:=(K2.obj Z.no (by omega) hqx).trans o1
    have r2:=(K2.obj o (by omega) hox).trans ho1
    simp[a0,a4,q2,r2]
    refine IH hd Z2 _ _ f body b tb _ _ _ _ hls hf P2 (by simp[hb]) hb0 hbs hpb (by rw[yab,yab,yab,zal];omega) λZ3 u3 P3 K3=>?_
    have n3:=K3.no
    have q3:=(K3.obj Z.no (by omega) hqx).trans q2
    have r3:=(K3.obj o (by omega) hox).trans r2
    simp[a0,q3]
    refine zbg (ws:=[zie]) P3 (by simp[hb]) (by simp) (by rw[yab,yab,yab,yab,zal,zal];have:zie.length=3:=rfl;omega) λZ4 u4 P4 K4=>?_
    have n4:=K4.no
    simp[a0,a4,a14,a15,a16,w1]
    refine fin _ _ ([zd1 12]++tb++[zie]) t (acc2++[b']) r' (by simp) hpr' ?_ (((K1.trans K2).trans K3).trans K4) ((K4.obj o (by omega) hox).trans r3) (by omega) (by simp[a0]) (by simp[a4]) (by simp[a14]) (by simp[a15]) (by simp)
    rw[zj,zj]
    simpa [ydB]using P4
   .obtain⟨op,ty,n,body,other,name⟩:=w
    dsimp only at *
    subst e
    have hno:¬0<=other:=by omega
    have wb:((body.toNat:Nat):Int)=body:=by omega
    simp[zfv,a0,a4,a14,a15,a16,hlt,hlti,hat,hr',W.av,W.cs,splice]
    generalize (Z.newO [yc0 .i64 0,yc0 .i64 0,yc0 .i64 0,yc0 .i64 0,yc0 .i64 0,ycZ []]).setO Z.no [yc0 .i64 13,yc0 .i64 ty,yc0 .i64 n,yc0 .i64 body,yc0 .i64 other,ycZ name]=Z1 at *
    refine znt (by omega) ?_
    simp
    refine zbg (ws:=[zd1 13]) hP1 hbt (by simp) (by rw[yab,yab,zal];omega) λZ2 u2 P2 K2=>?_
    have n2:=K2.no
    have q2:=(K2.obj Z.no (by omega) hqx).trans o1
    have r2:=(K2.obj o (by omega) hox).trans ho1
    simp[a0,a4,q2,r2]
    refine IH hd Z2 _ _ f body b tb _ _ _ _ hls hf P2 (by simp[hb]) hb0 hbs hpb (by rw[yab,yab,yab,zal];omega) λZ3 u3 P3 K3=>?_
    have n3:=K3.no
    have q3:=(K3.obj Z.no (by omega) hqx).trans q2
    have r3:=(K3.obj o (by omega) hox).trans r2
    simp[a0,q3,hno]
    refine zbg (ws:=[zie]) P3 (by simp[hb]) (by simp) (by rw[yab,yab,yab,yab,zal,zal];have:zie.length=3:=rfl;omega) λZ4 u4 P4 K4=>?_
    have n4:=K4.no
    simp[a0,a4,a14,a15,a16,w1]
    refine fin _ _ ([zd1 13]++tb++[zie]) t (acc2++[b']) r' (by simp) hpr' ?_ (((K1.trans K2).trans K3).trans K4) ((K4.obj o (by omega) hox).trans r3) (by omega) (by simp[a0]) (by simp[a4]) (by simp[a14]) (by simp[a15]) (by simp)
    rw[zj,zj]
    simpa [ydB]using P4
  | @two _ _ b e _ _ tb b' acc2 te e' acc3 t r' _ hop hot hd hb0 hbs hes hpb hpe hpr' =>
   have hsp:(spT (tIf::(tb++zid::(te++zie::t)))).length=3+((spT tb).length+(5+((spT te).length+(4+(spT t).length)))):=by
    have e1:tIf::(tb++zid::(te++zie::t))=[tIf]++(tb++([zid]++(te++([zie]++t)))):=rfl
    rw[e1,zj,zj,zj,zj,zj]
    simp only[yab,zal]
    rfl
   obtain⟨op,ty,n,body,other,name⟩:=w
   dsimp only at *
   subst hop
   have hoi:(zd1 13)=tIf:=rfl
   simp[zfv,a0,a4,a14,a15,a16,hlt,hlti,hat,hr',W.av,W.cs,splice]
   generalize (Z.newO [yc0 .i64 0,yc0 .i64 0,yc0 .i64 0,yc0 .i64 0,yc0 .i64 0,ycZ []]).setO Z.no [yc0 .i64 13,yc0 .i64 ty,yc0 .i64 n,yc0 .i64 body,yc0 .i64 other,ycZ name]=Z1 at *
   refine znt (by omega) ?_
   rw[hoi]
   simp
   refine zbg (ws:=[tIf]) hP1 hbt (by simp) (by rw[yab,yab,zal];have:tIf.length=2:=rfl;omega) λZ2 u2 P2 K2=>?_
   have n2:=K2.no
   have q2:=(K2.obj Z.no (by omega) hqx).trans o1
   have r2:=(K2.obj o (by omega) hox).trans ho1
   simp[a0,a4,q2,r2]
   refine IH hd Z2 _ _ f body b tb _ _ _ _ hls hf P2 (by simp[hb]) hb0 hbs hpb (by rw[yab,yab,yab,zal];have:tIf.length=2:=rfl;omega) λZ3 u3 P3 K3=>?_
   have n3:=K3.no
   have q3:=(K3.obj Z.no (by omega) hqx).trans q2
   have r3:=(K3.obj o (by omega) hox).trans r2
   simp[a0,q3,hot]
   refine zbg (ws:=[zid]) P3 (by simp[hb]) (by simp) (by rw[yab,yab,yab,yab,zal,zal];have:zid.length=4:=rfl;have:tIf.length=2:=rfl;omega) λZ4 u4 P4 K4=>?_
   have n4:=K4.no
   have q4:=(K4.obj Z.no (by omega) hqx).trans q3
   have r4:=(K4.obj o (by omega) hox).trans r3
   simp[a0,a4,q4,r4]
   refine IH hd Z4 _ _ f other e te _ _ _ _ hls hf P4 (by simp[hb]) hot hes hpe (by rw[yab,yab,yab,yab,yab,zal,zal];have:zid.length=4:=rfl;have:tIf.length=2:=rfl;omega) λZ5 u5 P5 K5=>?_
   have n5:=K5.no
   have r5:=(K5.obj o (by omega) hox).trans r4
   simp[a0]
   refine zbg (ws:=[zie]) P5 (by simp[hb]) (by simp) (by rw[yab,yab,yab,yab,yab,yab,zal,zal,zal];have:zid.length=4:=rfl;have:tIf.length=2:=rfl;have:zie.length=3:=rfl;omega) λZ6 u6 P6 K6=>?_
   have n6:=K6.no
   simp[a0,a4,a14,a15,a16,w1]
   refine fin _ _ ([tIf]++tb++[zid]++te++[zie]) t (acc3++[e']) r' (by simp) hpr' ?_ (((((K1.trans K2).trans K3).trans K4).trans K5).trans K6) ((K6.obj o (by omega) hox).trans r5) (by omega) (by simp[a0]) (by simp[a4]) (by simp[a14]) (by simp[a15]) (by simp)
   rw[zj,zj,zj,zj]
   simpa [ydB]using P6
 .have e:j=ws.length:=by omega
  rw[yd1 (by omega)]at hpr
  cases hpr
  rw[yb7]at ht
  subst ht
  simp[zfv,a0,a4,a14,a15,a16,e]
  exact hR _ _ hP hK
theorem zmc{B:Nat}(V:zDV G){J0 x ls d}(hsz:∀ws∈ls,ws.length<=2^40)(IH:d<B->zJx B G J0 x ls (d+1)):zJx B G J0 x ls d:=by
 intro J R fv f i ws toks acc out acc' bs hls hf hP hb hi hws hpr hl hR
 have hf0:=hf
 obtain⟨pv,lv,tv,rfl,i1,i2,i3⟩:=hf
 have h1:=i1.one
 have h2:=i2.one
 have h3:=i3.one
 obtain⟨hlt,hget⟩:=yaq.1 hws
 have hwl:=hsz ws (List.mem_of_getElem? hws)
 have i3t:=i3.keep hP.ad
 rw[<-hls]at hlt
 obtain⟨φ,rv,hr,hrv,hat⟩:=i3.at hlt
 obtain⟨φ',rv',hr',hrv',hat'⟩:=i3t.at hlt
 subst hls
 rw[hget]at hrv hrv'
 refine zC4 rfl ?_
 have wi:((i.toNat:Nat):Int)=i:=by omega
 rw[wi]at hat hat'
 have hsame:yd2 φ' rv'=yd2 φ rv:=by
  have q1:=hat λv=>v=yd2 φ rv
  have q2:=hat' λv=>v=yd2 φ rv
  rw[<-q2,q1]
 injection hsame with hs1 hs2
 subst hs1 hs2
 have hrd:=hr'.read
 have v1:=hrv'.one
 have vl:=RepO.len hrv'
 have hx:=hP.hx
 simp[zLU,h1,h2,h3,hat',hrd,v1,vl]
 have A:zd J (J.newO [.str f.name,pv,lv,.int .i64 f.type,tv]):=(zd.refl J).newO
 refine zS (LqI B J0 x f.lists d [.str f.name,pv,lv,.int .i64 f.type,tv] J.no rv' ws toks acc' bs J) (MU 16 (ws.length+1)) ⟨0,[],toks,acc,out,Nat.zero_le _,rfl,by simpa using hpr,by simp,by simp,by simp,by simp,by simp,by simpa [spT]using hP.adds A,A.pwk,by simp,by simp,by omega⟩ λa Z hI=>?_
 exact zqQ V IH rfl hf0 h1 h2 h3 hrv hwl hb hl hR hI
theorem zkS{B:Nat}(V:zDV G){J0 x ls}(hsz:∀ws∈ls,ws.length<=2^40):∀k d:Nat,B<=d+k->zJx B G J0 x ls d
 | 0,d,hd=>zmc V hsz (λh=>by omega)
 | k+1,d,hd=>zmc V hsz (λ_=>zkS V hsz k (d+1) (by omega))
end
theorem zy0:spT zDw=32::zdY:=by decide
theorem zvD(t:Int)(h:t≠0):zby zqa [t]=ztI t:=by
 unfold zby ztI
 rw[if_neg (by simp),if_neg h]
 rfl
section
variable {G : Env} {J : AS} {R : Out -> AS -> Prop}
def FlI(B:Nat)(J0:AS)(x mo:Nat)(fv:AV)(m:M)(toks:List Tok)(bs:List UInt8)(a:Nat->AV)(Z:AS):Prop:=∃(j:Nat) (t1 t2:List Tok) (fs2:List F),j<=m.funcs.length/\toks=t1++t2/\PrFsB B (m.funcs.drop j) t2 fs2/\a 1=.ptr mo 0/\a 3=.pt 88 2 x 0/\a 15=fv/\a 16=.int .i64 (m.funcs.length:Int)/\a 17=.int .i64 (j:Int) /\
 Pw J0 x (bs++spT t1) Z/\Z.objs mo=some [fv,.int .i64 m.memory,.int .i64 m.main]/\mo<Z.no/\mo≠x
theorem ztl{B:Nat}(V:zDV G){J0 x mo fv}{m:M}{toks:List Tok}{bs:List UInt8}{mx:Nat}(hfv:Al.FsO J0 fv m.funcs)(hf:∀f∈m.funcs,Pf mx f)(hmx:mx<=1000)(hsz:∀f∈m.funcs,f.lists.length<=2^40/\∀ws∈f.lists,ws.length<=2^40)(hfl:m.funcs.length<=2^40)(hb:bs≠[])(hl:(bs++spT toks).length<2^44)
  (fin:∀(a:Nat->AV) (Z:AS),a 1=.ptr mo 0->a 3=.pt 88 2 x 0->Pw J0 x (bs++spT toks) Z->Z.objs mo=some [fv,.int .i64 m.memory,.int .i64 m.main]->avc yb9 G 66 zmU (zbE yb9 [.tmp 2] R) a Z) {a:Nat->AV} {Z:AS} (hI:FlI B J0 x mo fv m toks bs a Z) :
  avc yb9 G 66 zkd (zab (λa' J'=>FlI B J0 x mo fv m toks bs a' J'/\MU 17 (m.funcs.length+1) a' J'<MU 17 (m.funcs.length+1) a Z) (zai 0 (zab (avc yb9 G 66 zmU (zbE yb9 [.tmp 2] R)) (zbE yb9 [.tmp 2] R)))) a Z:=by
 obtain⟨j,t1,t2,fs2,hj,ht,hpr,a1,a3,a15,a16,a17,hP,hmo,hmon,hmox⟩:=hI
 by_cases hlt:j<m.funcs.length
 .have hdrop:m.funcs.drop j=m.funcs[j]::m.funcs.drop (j+1):=yc2 hlt
  have hmem:m.funcs[j]∈m.funcs:=yaw hlt
  have hft:=hfv.keep hP.ad
  obtain⟨φ0,row0,hr0,hrow0,hat0⟩:=hfv.at hlt
  obtain⟨φ,row,hr,hrow,hat⟩:=hft.at hlt
  have hsame:yd2 φ row=yd2 φ0 row0:=by
   have q1:=hat0 λv=>v=yd2 φ0 row0
   have q2:=hat λv=>v=yd2 φ0 row0
   rw[<-q2,q1]
  injection hsame with hs1 hs2
  subst hs1 hs2
  have hr':=hr.read
  have hlti:(j:Int)<(m.funcs.length:Int):=by omega
  have w1:yb4 .i64 ((j:Int)+1)=((j+1:Nat):Int):=by rw[zb]<;>omega
  rw[hdrop]at hpr
  generalize hw:m.funcs[j]=f at *
  have hpf:=hf f hmem
  have hszf:=hsz f hmem
  obtain⟨pv,lv,tv,rfl,i1,i2,i3⟩:=id hrow0
  have p1:=i1.one
  have p2:=i2.one
  have p3:=i3.one
  have i3len:=i3.len
  have hnl:f.name.length<=1000:=by
   have:=hpf.name
   unfold ztH at this
   split at this
   .cases this
   .rename_i c r _
    simp only[Bool.and_eq_true,decide_eq_true_eq]at this
    omega
  have hlt1:(bs++spT toks).length=bs.length+(spT t1).length+(spT t2).length:=by rw[ht,zj];simp only[yab];omega
  simp[zkd,a1,a3,a15,a16,a17,hlt,hlti,hat,hr',p1,p2,p3,splice]
  have A1:zd Z ((Z.newO [.str [],.nilsl,.nilsl,.int .i64 0,.nilsl]).setO Z.no [.str f.name,pv,lv,.int .i64 f.type,tv]):=(zd.refl Z).newO.setO (yah _)
  have q1:((Z.newO [.str [],.nilsl,.nilsl,.int .i64 0,.nilsl]).setO Z.no [.str f.name,pv,lv,.int .i64 f.type,tv]).objs Z.no=some [.str f.name,pv,lv,.int .i64 f.type,tv]:=by simp
  have n1:((Z.newO [.str [],.nilsl,.nilsl,.int .i64 0,.nilsl]).setO Z.no [.str f.name,pv,lv,.int .i64 f.type,tv]).no=Z.no+1:=by simp
  have hP1:=hP.adds A1
  have hx:=hP.hx
  have hqx:Z.no≠x:=by omega
  have m1:=(A1.obj mo hmon).trans hmo
  refine⟨by omega,?_⟩
  generalize (Z.newO [.str [],.nilsl,.nilsl,.int .i64 0,.nilsl]).setO Z.no [.str f.name,pv,lv,.int .i64 f.type,tv]=Z1 at *
  cases hpr with
  | @cons _ _ tf ls' ts fs' hpF hprs =>
  obtain⟨row,out,acc,h1,h2,_⟩:=hpF
  have hl1:f.lists.length-1<f.lists.length:=(yaq.1 h1).1
  have wl:yb4 .i64 ((f.lists.length:Int)-1)=((f.lists.length-1:Nat):Int):=by
   have:=hszf.1
   rw[zb]<;>omega
  have hl0:(0:Int)<=((f.lists.length-1:Nat):Int):=by omega
  have hln:((f.lists.length-1:Nat):Int).toNat=f.lists.length-1:=by omega
  have hft1:spT (znp f tf)=spT [za2,ze3,36::f.name]++spT (zby zhp f.params)++spT (ztI f.type)++spT (zby ziJ f.locals)++spT tf++spT [zad]:=by
   have:znp f tf=[za2,ze3,36::f.name]++zby zhp f.params++ztI f.type++zby ziJ f.locals++tf++[zad]:=by simp[znp]
   rw[this,zj,zj,zj,zj,zj]
  have hl2:(spT (znp f tf++ts)).length=(spT [za2,ze3,36::f.name]).length+(spT (zby zhp f.params)).length+(spT (ztI f.type)).length+(spT (zby ziJ f.locals)).length+(spT tf).length+(spT [zad]).length+(spT ts).length:=by
   rw[zj,hft1]
   simp only[yab]
  refine zbg (ws:=[za2,ze3,36::f.name]) hP1 (by simp[hb]) (by simp) (by simp only[yab];omega) λZ2 u2 P2 K2=>?_
  have n2:=K2.no
  have q2:=(K2.obj Z.no (by omega) hqx).trans q1
  have m2:=(K2.obj mo (by omega) hmox).trans m1
  simp[q2,a3,p1]
  refine zjC (kw:=zhp) P2 (by simp[hb]) i1 hpf.params (by simp only[yab];omega) λZ3 u3 P3 K3=>?_
  have n3:=K3.no
  have q3:=(K3.obj Z.no (by omega) hqx).trans q2
  have m3:=(K3.obj mo (by omega) hmox).trans m2
  by_cases hty:f.type=0
  .have hrz:ztI f.type=[]:=by unfold ztI;rw[if_pos hty]
   have hty':(f.type=0)=True:=eq_true hty
   simp[q3,a3,hty']
   have P4:=P3
   have K4:=PwK.refl x Z3
   have q4:=q3
   have m4:=m3
   have e4:bs++spT t1++spT [za2,ze3,36::f.name]++spT (zby zhp f.params)=bs++spT t1++spT [za2,ze3,36::f.name]++spT (zby zhp f.params)++spT (ztI f.type):=by rw[hrz];simp[spT]
   rw[e4]at P4
   generalize hZ4:Z3=Z4 at *
   simp[q4,a3]
   refine zjC (kw:=ziJ) P4 (by simp[hb]) i2 hpf.locals (by simp only[yab];omega) λZ5 u5 P5 K5=>?_
   have n5:=K5.no
   have q5:=(K5.obj Z.no (by omega) hqx).trans q4
   have m5:=(K5.obj mo (by omega) hmox).trans m4
   simp[q5,a3,i3len,wl]
   refine zkS (B:=B) V (x:=x) hszf.2 B 0 (by omega) Z5 _ _ f _ row tf [] out acc _ rfl hrow0 P5 (by simp[hb]) hl0 (by rw[hln];exact h1) h2 (by simp only[yab];omega) λZ6 u6 P6 K6=>?_
   have n6:=K6.no
   have m6:=(K6.obj mo (by omega) hmox).trans m5
   simp[a3]
   refine zbg (ws:=[zad]) P6 (by simp[hb]) (by simp) (by simp only[yab];omega) λZ7 u7 P7 K7=>?_
   have n7:=K7.no
   have m7:=(K7.obj mo (by omega) hmox).trans m6
   simp[a1,a3,a15,a16,a17,w1]
   refine⟨⟨j+1,t1++znp f tf,ts,fs',hlt,by rw[ht,ydB],hprs,by simp[a1],by simp[a3],by simp[a15],by simp[a16],by simp,?_,m7,by omega,hmox⟩,?_⟩
   .rw[zj,hft1]
    simpa [ydB]using P7
   .simp[MU,a17];omega
  .have hrz:=zvD f.type hty
   have hty':(f.type=0)=False:=eq_false hty
   have htt:∀t∈[f.type],t=1\/t=2:=by
    intro t ht
    simp only[ydf]at ht
    subst ht
    have:=hpf.type
    omega
   simp[q3,a3,hty']
   refine zjC (kw:=zqa) (l:=[f.type]) P3 (by simp[hb]) (.inr ⟨.stat true,rfl,trivial⟩) htt (by rw[hrz];simp only[yab];omega) λZ4 u4 P4 K4=>?_
   rw[hrz]at P4
   have n4:=K4.no
   have q4:=(K4.obj Z.no (by omega) hqx).trans q3
   have m4:=(K4.obj mo (by omega) hmox).trans m3
   simp[q4,a3]
   refine zjC (kw:=ziJ) P4 (by simp[hb]) i2 hpf.locals (by simp only[yab];omega) λZ5 u5 P5 K5=>?_
   have n5:=K5.no
   have q5:=(K5.obj Z.no (by omega) hqx).trans q4
   have m5:=(K5.obj mo (by omega) hmox).trans m4
   simp[q5,a3,i3len,wl]
   refine zkS (B:=B) V (x:=x) hszf.2 B 0 (by omega) Z5 _ _ f _ row tf [] out acc _ rfl hrow0 P5 (by simp[hb]) hl0 (by rw[hln];exact h1) h2 (by simp only[yab];omega) λZ6 u6 P6 K6=>?_
   have n6:=K6.no
   have m6:=(K6.obj mo (by omega) hmox).trans m5
   simp[a3]
   refine zbg (ws:=[zad]) P6 (by simp[hb]) (by simp) (by simp only[yab];omega) λZ7 u7 P7 K7=>?_
   have n7:=K7.no
   have m7:=(K7.obj mo (by omega) hmox).trans m6
   simp[a1,a3,a15,a16,a17,w1]
   refine⟨⟨j+1,t1++znp f tf,ts,fs',hlt,by rw[ht,ydB],hprs,by simp[a1],by simp[a3],by simp[a15],by simp[a16],by simp,?_,m7,by omega,hmox⟩,?_⟩
   .rw[zj,hft1]
    simpa [ydB]using P7
   .simp[MU,a17];omega
 .have e:j=m.funcs.length:=by omega
  rw[yd1 (by omega)]at hpr
  cases hpr
  rw[yb7]at ht
  subst ht
  simp[zkd,a1,a3,a15,a16,a17,e]
  exact fin _ _ (by simp[a1]) (by simp[a3]) hP hmo
theorem zkT(m:M)(toks:List Tok):zqD (zfJ m toks)=zdY++spT [Lib.itoa m.memory,zad,zad]++spT toks++spT [za2,zic,zsJ,za2,ze3,Lib.itoa (yb4 .i64 (m.main+3)),zad,zad,zad]++[10]:=by
 have e:zfJ m toks=zDw++[Lib.itoa m.memory,zad,zad]++toks++[za2,zic,zsJ,za2,ze3,Lib.itoa (yb4 .i64 (m.main+3)),zad,zad,zad]:=by simp[zfJ,zMk]
 unfold zqD
 rw[zr1,e,zj,zj,zj,zy0]
 simp only[yc1,List.tail_cons]
theorem zvE{B:Nat}(V:zDV G){m:M}{mv:AV}{toks:List Tok}{fs2:List F}{mx:Nat}(hm:Al.MO J mv m)(hpr:PrFsB B m.funcs toks fs2)(hf:∀f∈m.funcs,Pf mx f)(hmx:mx<=1000)(hsz:∀f∈m.funcs,f.lists.length<=2^40/\∀ws∈f.lists,ws.length<=2^40)(hfl:m.funcs.length<=2^40)
  (hmem:-(2^63)<=m.memory/\m.memory<2^63) (hl:(zqD (zfJ m toks)).length<2^43) (h:∀J',zd J J'->R (.ret (.str (zqD (zfJ m toks)))) J'):zzQ G 20 [mv] J R:=by
 refine zCB rfl ?_
 obtain⟨fv,rfl,hfv⟩:=hm
 have f1:=hfv.one
 have fl:=hfv.len
 rw[zkT]at hl
 simp only[yab]at hl
 simp[zLA,f1]
 have A1:zd J ((J.newO [fv,.int .i64 m.memory,.int .i64 m.main]).newO [.nilp,.nilsl]):=(zd.refl J).newO.newO
 have m1:((J.newO [fv,.int .i64 m.memory,.int .i64 m.main]).newO [.nilp,.nilsl]).objs J.no=some [fv,.int .i64 m.memory,.int .i64 m.main]:=by
  have:¬J.no=J.no+1:=by omega
  simp[this]
 have p1:((J.newO [fv,.int .i64 m.memory,.int .i64 m.main]).newO [.nilp,.nilsl]).objs (J.no+1)=some [.nilp,.nilsl]:=by simp
 have n1:((J.newO [fv,.int .i64 m.memory,.int .i64 m.main]).newO [.nilp,.nilsl]).no=J.no+2:=by simp
 generalize (J.newO [fv,.int .i64 m.memory,.int .i64 m.main]).newO [.nilp,.nilsl]=Z1 at *
 refine zin V hmem ?_
 simp
 refine zHV (o:=J.no+1) (i:=1) (cs:=[.nilp,.nilsl]) (e:=5) p1 rfl ?_
 have e1:splice [AV.nilp,yc7] 1 [AV.tys 5 .nilsl]=[.nilp,.tys 5 .nilsl]:=rfl
 rw[e1]
 have hP0:Pw J (J.no+1) [] (Z1.setO (J.no+1) [.nilp,.tys 5 .nilsl]):=⟨by omega,by simp;omega,A1.setO (by omega),_,_,by simp,.inl rfl,.inl ⟨rfl,rfl⟩⟩
 have m2:(Z1.setO (J.no+1) [.nilp,.tys 5 .nilsl]).objs J.no=some [fv,.int .i64 m.memory,.int .i64 m.main]:=by
  have:¬J.no=J.no+1:=by omega
  simp[this,m1]
 have n2:(Z1.setO (J.no+1) [.nilp,.tys 5 .nilsl]).no=J.no+2:=by simp[n1]
 generalize Z1.setO (J.no+1) [.nilp,.tys 5 .nilsl]=Z2 at *
 have hh:zdY≠[]:=by decide
 have es:zhF [] [zdY,Lib.itoa m.memory,zad,zad]=zdY++spT [Lib.itoa m.memory,zad,zad]:=by
  have:zhF [] [zdY,Lib.itoa m.memory,zad,zad]=zhF zdY [Lib.itoa m.memory,zad,zad]:=rfl
  rw[this,zqO _ hh]
 refine zBC (ws:=[zdY,Lib.itoa m.memory,zad,zad]) hP0 (by simp) (by rw[es,yab];omega) λZ3 u3 P3 K3=>?_
 rw[es]at P3
 have n3:=K3.no
 have m3:=(K3.obj J.no (by omega) (by omega)).trans m2
 simp[m3,f1,fl]
 refine zS (FlI B J (J.no+1) J.no fv m toks (zdY++spT [Lib.itoa m.memory,zad,zad])) (MU 17 (m.funcs.length+1)) ⟨0,[],toks,fs2,Nat.zero_le _,rfl,by simpa using hpr,by simp,by simp,by simp,by simp,by simp,by simpa [spT]using P3,m3,by omega,by omega⟩ λa Z hI=>?_
 refine ztl V hfv hf hmx hsz hfl (by simp[hh]) (by simp only[yab];omega) (λa Z a1 a3 hP hmo=>?_) hI
 simp[zmU,a1,a3,hmo]
 refine zin V (zvj _).1 ?_
 simp
 refine zbg (ws:=[za2,zic,zsJ,za2,ze3,Lib.itoa (yb4 .i64 (m.main+3)),zad,zad,zad]) hP (by simp[hh]) (by simp) (by simp only[yab];omega) λZ5 u5 P5 K5=>?_
 simp[a3]
 refine zyY P5 (by simp[hh]) (by simp only[yab];omega) λZ6 A6 K6=>?_
 have:=h _ A6
 rw[zkT]at this
 simp
 refine⟨by have:([10]:List UInt8).length=1:=rfl;omega,?_⟩
 simpa [ydB]using this
end
end Go.Proofs.YtohfclafhegadaaGreatDoor

namespace Go.Proofs.YtohfclafhegadaaGreatDoor
open Go Go.Abs
def zBD:F:={ name:=[102],params:=[],locals:=[],type:=1,lists:=[[{ op:=1,ty:=1,n:=7,body:=0,other:=0,name:=[] }]] }
def zdG:M:={ funcs:=[zBD],memory:=16,main:=0 }
def zvF:List UInt8:=[0,97,115,109,1,0,0,0,1,17,4,0x60,0,1,0x7E,0x60,1,0x7E,0,0x60,1,0x7F,0,0x60,0,1,0x7F,2,31,3,3,101,110,118,2,105,110,0,0,3,101,110,118,3,111,117,116,0,1,3,101,110,118,4,116,114,97,112,0,2,3,2,1,3,5,3,1,0,1,6,6,1,0x7F,0,0x41,16,0x0B,7,8,1,4,109,97,105,110,0,3,10,6,1,4,0,0x41,7,0x0B,0,11,4,110,97,109,101,1,4,1,3,1,102]
theorem zvG:zkr zdG=some zvF:=by decide
theorem zo7:zaC zvF=some zdG:=by rfl
@[simp] theorem zMo:za3 32 [(0,Operand.const (.int .u8 229)),(1,Operand.const (.int .u8 142)),(2,Operand.const (.int .u8 38))]=false:=by decide
@[simp] theorem zMp:za3 32 [(0,Operand.const (.int .u8 192)),(1,Operand.const (.int .u8 187)),(2,Operand.const (.int .u8 120))]=false:=by decide
theorem uK:uI 624485=[229,142,38]:=by decide
theorem sK:sI (-123456)=[192,187,120]:=by decide
section
variable {G : Env} {J : AS} {R : Out -> AS -> Prop}
theorem zkU(h:∀v J',Al.MO J' v zdG->zd J J'->R (.ret v) J'):zzQ G 34 [] J R:=by
 refine zCI rfl ?_
 simp[zLF,splice]
 refine h _ _ ⟨_,rfl,.inr ⟨_,_,rfl,trivial,.cons ⟨_,_,_,rfl,.inl ⟨rfl,rfl⟩,.inl ⟨rfl,rfl⟩,.inr ⟨_,_,rfl,trivial,.cons (.inr ⟨_,rfl,trivial⟩) .nil⟩⟩ .nil⟩⟩ ((zd.refl J).newO.setO (yah _))
theorem zqR(V:zdI G)(h00:0<J.nf/\J.F 0=.alive)(h:∀J',zd J J'->R (.ret (.bool true)) J'):zzQ G 13 [] J R:=by
 refine zCx rfl ?_
 simp[zLx]
 refine zkU λv J1 hv A1=>?_
 simp
 refine zdP V hv zvG (by decide) (by decide) (λf hf=>?_) (by decide) λb J2 hb=>?_
 .simp only[zdG,ydf]at hf
  subst hf
  exact⟨by decide,by decide,by decide,by decide,by decide,λws hw w hx=>by simp[zBD]at hw;subst hw;simp at hx;subst hx;exact⟨by decide,by decide⟩⟩
 have b1:=hb.byt.one
 have A2:=A1.trans hb.2
 simp[b1]
 refine zfM V ⟨by have:=A2.nf;omega,(A2.fam 0 h00.1).trans h00.2⟩ hb.byt (by decide) (λq=>by rw[zo7]at q;cases q) λm hm mv J3 hv3 A3=>?_
 rw[zo7]at hm
 cases hm
 have hv3':=hv3
 obtain⟨fv,rfl,hof⟩:=hv3'
 have fv1:fv.known=true/\fv.one=true/\fv.cells=[fv]:=by
  rcases hof with ⟨_,rfl⟩|⟨_,_,_,rfl,_⟩<;>simp
 simp[fv1,splice]
 have A4:zd J3 ((J3.newO [yc7,.int .i64 0,.int .i64 0]).setO J3.no [fv,.int .i64 zdG.memory,.int .i64 zdG.main]):=(zd.refl J3).newO.setO (yah _)
 have ho4:((J3.newO [yc7,.int .i64 0,.int .i64 0]).setO J3.no [fv,.int .i64 zdG.memory,.int .i64 zdG.main]).objs J3.no=some [fv,.int .i64 zdG.memory,.int .i64 zdG.main]:=by simp
 have hl4:J3.no<((J3.newO [yc7,.int .i64 0,.int .i64 0]).setO J3.no [fv,.int .i64 zdG.memory,.int .i64 zdG.main]).no:=by simp
 generalize (J3.newO [yc7,.int .i64 0,.int .i64 0]).setO J3.no [fv,.int .i64 zdG.memory,.int .i64 zdG.main]=Z at *
 have A5:=A2.trans (A3.trans A4)
 refine zdC (by decide) λv6 J6 h6=>?_
 have B5:=A5.trans h6.2
 simp
 refine zdD h6.byt (zd9.lit J6 [229,142,38] rfl) (by rw[uK];decide) ?_
 rw[uK]
 simp
 refine zql (by decide) λv7 J7 h7=>?_
 have B6:=B5.trans h7.2
 have C6:zd Z J7:=h6.2.trans h7.2
 have ho7:=(C6.obj J3.no hl4).trans ho4
 simp
 refine zdD h7.byt (zd9.lit J7 [192,187,120] rfl) (by rw[sK];decide) ?_
 rw[sK]
 simp[ho7,fv1]
 refine zkU λv8 J8 hv8 A8=>?_
 have C8:=C6.trans A8
 have ho8:=(C8.obj J3.no hl4).trans ho4
 have B8:=B6.trans A8
 have hme:=zDX hv3 (A4.trans C8).nf λf hf=>(A4.trans C8).fam f hf
 have hM:=Al.m_e (J:=J8) ⟨by have:=B8.nf;omega,(B8.fam 0 h00.1).trans h00.2⟩ hme
 simp[ho8,fv1]
 refine Al.eqM_calls hM hv8 (by decide) (λf hf=>?_) λJ9 A9=>?_
 .simp only[zdG,ydf]at hf
  subst hf
  exact⟨by decide,by decide,by decide,by decide⟩
 have hb9:=(hb.byt.keep (A3.trans (A4.trans (C8.trans A9))))
 have bl:=hb9.len
 obtain⟨φ,hφ,hi⟩:=hb9.at (i:=1) (by decide)
 have hr:=hφ.read
 simp at hi
 simp[bl,hi,hr,zvF]
 exact h _ (B8.trans A9)
end
def NZ{α:Type}(r:Res α):Prop:=∀e,r=.error e->e≠0
theorem NZ.ok{α:Type}(a:α):NZ (.ok a:Res α):=λe h=>by cases h
theorem NZ.err{α:Type}{k:Int}(h:k≠0):NZ (.error k:Res α):=λe q=>by cases q;exact h
theorem zr3(s:St):NZ (ze1 s):=by
 unfold ze1
 split
 .split
  .exact .ok _
  .exact .err (by omega)
 .exact .ok _
theorem zgg:∀(ts:List Int) (s:St),NZ (zaA ts s)
 | [],s=>.ok _
 | t::ts,s=>by
  rw[zaA]
  split
  .have:=zr3 s
   cases hd:ze1 s with
   | ok s'=>exact zgg ts s'
   | error e=>rw[hd]at this;exact .err (this e rfl)
  .exact .err (by omega)
theorem zr4{r:Res St}{t:Int}(h:NZ r):NZ (zgR r t):=by
 cases r with
 | ok s=>exact .ok _
 | error e=>exact .err (h e rfl)
theorem zeM(ty:Int)(s:St):NZ (zK ty s):=by unfold zK;split;exact .ok _;exact zgg _ _
theorem zvH(fs:List F)(ls:List Int)(w:W)(s:St):NZ (zc7 fs ls w s):=by
 unfold zc7
 repeat' split
 all_goals first
  | exact .ok _
  | exact zr4 (zgg _ _)
  | exact zgg _ _
  | exact zr3 _
theorem zvI{fs:List F}{ls:List Int}{ty deep:Int}{lk:zm9}(hl:∀a d,NZ (lk a d))(w:W)(s:St):NZ (zag fs ls ty deep lk w s):=by
 unfold zag
 split
 .exact .err (by omega)
 split
 .exact .err (by omega)
 split
 .have:=hl w.body (deep+1)
  cases hq:lk w.body (deep+1)with
  | ok u=>exact .ok _
  | error e=>rw[hq]at this;exact .err (this e rfl)
 split
 .have ht:=zgg [1] s
  cases hq:zaA [1] s with
  | error e=>rw[hq]at ht;exact .err (ht e rfl)
  | ok s1 =>
   have:=hl w.body (deep+1)
   simp only
   cases hq:lk w.body (deep+1)with
   | error e=>rw[hq]at this;exact .err (this e rfl)
   | ok u =>
    simp only
    split
    .have:=hl w.other (deep+1)
     cases hq:lk w.other (deep+1)with
     | error e=>rw[hq]at this;exact .err (this e rfl)
     | ok u=>exact .ok _
    .exact .ok _
 split
 .have ht:=zgg [1] s
  cases hq:zaA [1] s with
  | error e=>rw[hq]at ht;exact .err (ht e rfl)
  | ok s1 =>
   simp only
   split
   .exact zr4 (zeM _ _)
   .exact .ok _
 split
 .split
  .have ht:=zeM ty s
   cases hq:zK ty s with
   | error e=>rw[hq]at ht;exact .err (ht e rfl)
   | ok s1=>exact .ok _
  .exact .ok _
 split
 .have ht:=zeM ty s
  cases hq:zK ty s with
  | error e=>rw[hq]at ht;exact .err (ht e rfl)
  | ok s1=>exact .ok _
 split
 .exact .ok _
 .exact zvH _ _ _ _
theorem zmd{fs:List F}{ls:List Int}{ty deep:Int}{lk:zm9}(hl:∀a d,NZ (lk a d)):∀(ws:List W) (s:St),NZ (zU fs ls ty deep lk ws s)
 | [],s=>.ok _
 | w::ws,s=>by
  rw[zU]
  have:=zvI (fs:=fs) (ls:=ls) (ty:=ty) (deep:=deep) hl w s
  cases hq:zag fs ls ty deep lk w s with
  | error e=>rw[hq]at this;exact .err (this e rfl)
  | ok s1=>exact zmd hl ws s1
theorem zr5(fs:List F)(ls:List Int)(ty:Int)(lists:To):∀(k:Nat) (a d:Int),NZ (zam fs ls ty lists k a d)
 | 0,a,d=>.err (by omega)
 | k+1,a,d=>by
  rw[zam]
  have:=zmd (fs:=fs) (ls:=ls) (ty:=ty) (deep:=d) (zr5 fs ls ty lists k) (lists.getD a.toNat []) ⟨[],false⟩
  cases hq:zU fs ls ty d (zam fs ls ty lists k) (lists.getD a.toNat []) ⟨[],false⟩with
  | error e=>rw[hq]at this;exact .err (this e rfl)
  | ok s =>
   simp only
   unfold zHe
   have:NZ (if d=0 then zK ty s else .ok s):=by
    split
    .exact zeM _ _
    .exact .ok _
   cases hq:(if d=0 then zK ty s else .ok s:Res St)with
   | error e=>rw[hq]at this;exact .err (this e rfl)
   | ok s' =>
    simp only
    split
    .exact .ok _
    .exact .err (by omega)
theorem zo8(a:Int):∀(ns:List Int) (named:List Bool),NZ (zbt a ns named)
 | [],named=>.ok _
 | n::ns,named=>by
  rw[zbt]
  unfold ze2
  split
  .rename_i e he
   split at he
   .cases he
   .cases he;exact .err (by omega)
  .exact zo8 a ns _
theorem zvJ(a:Int):∀(ws:List W) (named:List Bool),NZ (zjt a ws named)
 | [],named=>.ok _
 | w::ws,named=>by
  rw[zjt]
  have:=zo8 a (zh w) named
  cases hq:zbt a (zh w) named with
  | error e=>rw[hq]at this;exact .err (this e rfl)
  | ok n=>exact zvJ a ws n
theorem zr6:∀(ls:To) (k:Nat) (named:List Bool),NZ (zcJ k ls named)
 | [],k,named=>.ok _
 | l::ls,k,named=>by
  rw[zcJ]
  have:=zvJ (k:Int) l named
  cases hq:zjt (k:Int) l named with
  | error e=>rw[hq]at this;exact .err (this e rfl)
  | ok n=>exact zr6 ls (k+1) n
theorem zvK(ls:To):NZ (zdp ls):=by
 unfold zdp
 split
 .exact .err (by omega)
 .have:=zr6 ls 0 (yaj ls.length false)
  cases hq:zcJ 0 ls (yaj ls.length false)with
  | error e=>rw[hq]at this;exact .err (this e rfl)
  | ok n =>
   simp only
   split
   .exact .ok _
   .exact .err (by omega)
theorem zo9(fs:List F)(f:F):NZ (zk fs f):=by
 unfold zk
 split
 .exact .err (by omega)
 .have:=zvK f.lists
  cases hq:zdp f.lists with
  | error e=>rw[hq]at this;exact .err (this e rfl)
  | ok u=>exact zr5 _ _ _ _ _ _ _
theorem zhG(fs:List F):∀r,NZ (zan fs r)
 | []=>.ok _
 | f::r=>by
  rw[zan]
  have:=zo9 fs f
  cases hq:zk fs f with
  | error e=>rw[hq]at this;exact .err (this e rfl)
  | ok u=>exact zhG fs r
theorem zvL(m:M):NZ (zaP m):=by
 unfold zaP
 split
 .exact .err (by omega)
 .have:=zhG m.funcs m.funcs
  cases hq:zan m.funcs m.funcs with
  | error e=>rw[hq]at this;exact .err (this e rfl)
  | ok u =>
   simp only
   split
   .exact .ok _
   .exact .err (by omega)
theorem zy1{m:M}(h:zsI (zaP m)=0):zaP m=.ok ():=by
 cases hq:zaP m with
 | ok u=>rfl
 | error e=>rw[hq]at h;exact absurd h (zvL m e hq)
end Go.Proofs.YtohfclafhegadaaGreatDoor


namespace Go.Proofs.YtohfclafhegadaaGreatDoor
open Go Go.Abs
theorem ztm:0<AS.bare.nf/\AS.bare.F 0=.alive:=⟨by decide,rfl⟩
section
variable {G : Env} {J : AS} {R : Out -> AS -> Prop}
theorem zhH(V:zdI G)(hG:∀k,StillI (G.g k))(hy:∀l,¬G.has l)(h:R (.ret (.bool true)) J):zzQ G 13 [] J R :=
 zqk (vs:=[]) (Q:=λx=>x=.bool true) hG hy (λv hv=>by cases hv) (zqR V ztm λ_ _=>⟨_,rfl,.bool _,rfl⟩) λx hx=>by rw[hx];exact h
end
end Go.Proofs.YtohfclafhegadaaGreatDoor
namespace Go.Proofs.YtohfclafhegadaaGreatDoor
open Go Go.Abs Go.RowKit
def zdr(w:World)(v:AV)(cs:List Value):Prop:=v.cells.length=cs.length/\∀j (h:j<v.cells.length) (h':j<cs.length),VR (Mp.all w) AS.zero.F w v.cells[j] cs[j]
theorem zdr.one{w:World}{v:AV}{c:Value}(h:VR (Mp.all w) AS.zero.F w v c)(hv:v.cells=[v]):zdr w v [c]:=by
 refine⟨by rw[hv];rfl,λj h1 h2=>?_⟩
 have:j=0:=by simpa using h2
 subst this
 simpa [hv]using h
theorem zdr.tO{w:World}{v:AV}{c:Value}(h:zdr w v [c])(hv:v.cells=[v]):VR (Mp.all w) AS.zero.F w v c:=by
 have:=h.2 0 (by rw[hv];simp) (by simp)
 simpa [hv]using this
def znJ{H:Type}(t:TypeId)(d:DataW H):Prop:=(d.weights yb9 t).all (·<=reachBytes)=true
theorem zHY{H:Type}{e:TypeId}:∀{ds:List (DataW H)},(DataW.weightsAll yb9 e ds).all (·<=reachBytes)=true->∀d∈ds,znJ e d
 | [],_=>by simp
 | d::ds,h=>by
  rw[DataW.weightsAll,yd3,Bool.and_eq_true]at h
  intro x hx
  rcases ybC.1 hx with rfl|hx
  .exact h.1
  .exact zHY h.2 x hx
theorem zpa{H:Type}:∀{ts:List TypeId} {ds:List (DataW H)},(DataW.weightsEach yb9 ts ds).all (·<=reachBytes)=true->∀(i:Nat) t d,ts[i]?=some t->ds[i]?=some d->znJ t d
 | [],ds,_=>by simp
 | _::_,[],_=>by simp
 | t::ts,d::ds,h=>by
  rw[DataW.weightsEach,yd3,Bool.and_eq_true]at h
  intro i t' d' h1 h2
  cases i with
  | zero=>simp at h1 h2;subst h1 h2;exact h.1
  | succ i=>exact zpa h.2 i t' d' (by simpa using h1) (by simpa using h2)
theorem exists_list{X:Type}{n:Nat}{P:Nat->X->Prop}(h:∀i,i<n->∃x,P i x):∃l:List X,l.length=n/\∀i (hi:i<l.length),P i l[i]:=by
 induction n with
 | zero=>exact⟨[],rfl,λi hi=>by simp at hi⟩
 | succ n ih =>
  obtain⟨l,hl,hp⟩:=ih λi hi=>h i (by omega)
  obtain⟨x,hx⟩:=h n (by omega)
  refine⟨l++[x],by simp[hl],λi hi=>?_⟩
  by_cases hi':i<l.length
  .rw[List.getElem_append_left hi'];exact hp i hi'
  .have e:i=l.length:=by simp at hi;omega
   subst e
   rw[List.getElem_append_right (by omega)]
   simpa [hl]using hx
theorem All2.of_get{α β:Type}{R:α->β->Prop}:∀{xs:List α} {ys:List β},xs.length=ys.length->(∀i (h:i<xs.length) (h':i<ys.length),R xs[i] ys[i])->All2 R xs ys
 | [],[],_,_=>.nil
 | [],_::_,h,_=>by simp at h
 | _::_,[],h,_=>by simp at h
 | x::xs,y::ys,h,hr=>.cons (hr 0 (by simp) (by simp)) (All2.of_get (by simpa using h) λi h1 h2=>hr (i+1) (ybn h1) (ybn h2))
theorem ztn{H T:Type}{enc:TypeId × Value->H}{w:World}{fuel:Nat}{t e:TypeId}{cs:List Value}{x:DataW H × List MemPlace}{sz:Nat}(Rel:AV->T->Prop)(P:DataW H->Prop)
  (ht:yb9.underlying t=some (.slice e)) (hc:yb9.cellsOf e=sz) (hsz:0<sz) (hb:0<yb9.bytesOf e)
  (ih:∀n cs' d q,DataW.trod enc yb9 w 0 (λ_=>true) true n e cs'=some (d,q)->znJ e d->P d->∃v o,Rel v o/\zdr w v cs')
  (h:DataW.trod enc yb9 w 0 (λ_=>true) true fuel t cs=some x) (hw:znJ t x.1) (hP:∀ds rs,x.1=.slice ds rs->∀d∈ds,P d) :
  ∃(v:AV) (os:List T),zdr w v cs/\((os=[]/\v=.nilsl)\/∃vs,v=.sl (.stat false) sz vs/\All2 Rel vs os)/\os.length<=2^47/\∀ds rs,x.1=.slice ds rs->os.length<=ds.length:=by
 rcases DataW.trod_slice ht h with ⟨rfl,rfl⟩|⟨a,len,cap,elems,rest,n,rfl,rfl,rfl,hb0,hl,hm,hlen,hel,hsp,hns⟩
 .exact⟨.nilsl,[],.one .nilsl rfl,.inl ⟨rfl,rfl⟩,by simp,by simp⟩
 obtain⟨hrl,hrest⟩:=hsp rfl
 have hw':=hw
 unfold znJ DataW.weights at hw'
 rw[ht]at hw'
 simp only[List.all_cons,yd3,Bool.and_eq_true,ybb,decide_eq_true_eq]at hw'
 obtain⟨w1,w2,w3⟩:=hw'
 have hel2:=zHY w2
 have hel3:=hP _ _ rfl
 have each:∀i,i<len->∃p:AV × T,Rel p.1 p.2/\∃cs',w.cells? 0 (a.add (i*sz)) sz=some cs'/\zdr w p.1 cs':=λi hi=>by
  have h1:=hel i hi
  have hi':i<elems.length:=by omega
  rw[hc,yau hi',ybA]at h1
  obtain⟨cs',h2,h3⟩:=h1
  obtain⟨v,o,h4,h5⟩:=ih n cs' elems[i].1 elems[i].2 h3 (hel2 _ (yaW (yaw hi'))) (hel3 _ (yaW (yaw hi')))
  exact⟨(v,o),h4,cs',h2,h5⟩
 obtain⟨l,hll,hp⟩:=exists_list each
 have hcap:len<=2^47:=by
  have h1:(elems.length+rest.length)*1<=(elems.length+rest.length)*yb9.bytesOf e:=Nat.mul_le_mul_left _ hb
  have h2:reachBytes<=2^47:=by unfold reachBytes;omega
  omega
 have hall:All2 Rel (l.map (·.1)) (l.map (·.2)):=All2.of_get (by simp) λi h1 h2=>by simpa using (hp i (by simpa using h1)).1
 by_cases hz:cap=0
 .have e1:len=0:=by omega
  have e2:l=[]:=List.eq_nil_of_length_eq_zero (by omega)
  subst e1 hz e2
  exact⟨.sl (.stat false) sz [],[],.one (.slz ..) rfl,.inr ⟨[],rfl,.nil⟩,by simp,by simp⟩
 have h0:∃c,w.cell? a=some c:=by
  have key:∀(y:DataW H × List MemPlace),(w.cells? 0 (a.add (0*yb9.cellsOf e)) (yb9.cellsOf e)).bind (DataW.trod enc yb9 w 0 (λ_=>true) true n e)=some y->∃c,w.cell? a=some c:=λy hy=>by
   rw[ybA]at hy
   obtain⟨cs',h2,_⟩:=hy
   obtain⟨_,h3,h4⟩:=World.cells?_some h2
   have h5:=h4 0 (by omega)
   rw[Nat.zero_mul]at h5
   have e:(a.add 0).add 0=a:=by simp[Addr.add]
   rw[e,yau (by omega)]at h5
   exact⟨_,h5⟩
  by_cases hl0:0<len
  .have:=hel 0 hl0
   rw[yau (by omega)]at this
   exact key _ this
  .have e1:len=0:=by omega
   subst e1
   have:=hrest 0 (by omega)
   rw[yau (by omega)]at this
   exact key _ this
 obtain⟨c0,hc0⟩:=h0
 obtain⟨B,off,spot⟩:=a
 have hBs:B<w.heap.size/\spot=none:=by
  unfold World.cell? at hc0
  split at hc0
  .rename_i c t' fr hh
   refine⟨(yaU.1 hh).1,?_⟩
   split at hc0
   .cases hc0
   .rename_i hs;simpa using hs
  .cases hc0
 obtain⟨hB,rfl⟩:=hBs
 have hsz':∀v∈l.map (·.1),v.cells.length=sz:=λv hv=>by
  obtain⟨p,hp',rfl⟩:=yaV.1 hv
  obtain⟨i,hi,rfl⟩:=List.mem_iff_getElem.1 hp'
  obtain⟨_,cs',h2,h3⟩:=hp i hi
  rw[h3.1,(World.cells?_some h2).2.1]
 have hfl:=zy sz (l.map (·.1)) hsz'
 have key:∀j (hj:j<(zu (l.map (·.1))).length),∃c,w.cell? ⟨B,off+j,none⟩=some c/\VR (Mp.all w) AS.zero.F w (zu (l.map (·.1)))[j] c:=λj hj=>by
  have hj':j<l.length*sz:=by simpa [hfl]using hj
  have hi:j/sz<l.length:=(Nat.div_lt_iff_lt_mul hsz).2 hj'
  have hr:j%sz<sz:=Nat.mod_lt _ hsz
  obtain⟨_,cs',h2,h3⟩:=hp (j/sz) hi
  obtain⟨_,h4,h5⟩:=World.cells?_some h2
  have h6:=h5 (j%sz) hr
  rw[z8,z8,Nat.add_assoc,yd4,yau (by omega)]at h6
  refine⟨_,h6,?_⟩
  have hl1:l[j/sz].1.cells.length=sz:=by rw[h3.1,h4]
  have h7:=(zmu hsz' (i:=j/sz) (v:=l[j/sz].1) (by simp[yau hi]) (j:=j%sz) (by omega)).2
  rw[yd4,yau hj]at h7
  rw[yaR.inj h7]
  exact h3.2 _ _ _
 have hv:=VR.sl (M:=Mp.all w) (F:=AS.zero.F) (w:=w) (.stat false) sz (l.map (·.1)) B off cap (λj=>(w.cell? ⟨B,off+j,none⟩).getD undef) (by simp;omega) (by simp[Own.full]) hsz' (by simp[Mem,Mp.all,hB])
  (λ_ j hj=>by obtain⟨c,h1,_⟩:=key j hj;simp[h1]) (λ_ j hj=>by obtain⟨c,h1,h2⟩:=key j hj;simpa [h1]using h2)
 rw[ybb,hll]at hv
 exact⟨_,l.map (·.2),.one hv rfl,.inr ⟨_,rfl,hall⟩,by simpa [hll]using hcap,λds rs e=>by
  simp only[DataW.slice.injEq]at e
  rw[<-e.1]
  simp;omega⟩
end Go.Proofs.YtohfclafhegadaaGreatDoor
namespace Go
open Go.ChangeShapes Go.WideShapes Go.ChangeAt Go.RowKit
theorem zhI{H:Type}{enc:TypeId × Value->H}{P:Program}{w:World}{base:Nat}{sp:Nat->Bool}{held:Bool}{fuel:Nat}{t e:TypeId}{n:Nat}{cs:List Value}{ls:List (List UInt8)}{p:List MemPlace}
  (ht:P.underlying t=some (.array n e)) (he:P.underlying e=some .string) (hce:P.cellsOf e=1) (hct:P.cellsOf t=n)
  (h:DataW.trod enc P w base sp held fuel t cs=some (.agg (ls.map λl=>.lit (.string l)),p)):cs=ls.map λl=>Value.string ⟨l.toArray⟩:=by
 cases fuel with
 | zero=>simp[DataW.trod]at h
 | succ fuel =>
  simp only[DataW.trod,ht,hce,hct,Nat.mul_one]at h
  split at h
  .rename_i hl
   obtain⟨xs,hm,hx⟩:=ybB.1 h
   have hxs:xs.map (·.1)=ls.map λl=>(DataW.lit (.string l):DataW H):=by
    have:=congrArg Prod.fst hx
    simpa using this
   have hxl:xs.length=n:=by simpa using Lib.mapM_length hm
   have hzl:ls.length=n:=by
    have:=congrArg ycT hxs
    simp at this
    omega
   apply ydQ
   intro i
   by_cases hi:i<n
   .obtain⟨b,hb,hf⟩:=Lib.mapM_at hm i i (by simp[hi])
    obtain⟨s,hc,rfl,_⟩:=DataW.trod_string he hf
    have h1:cs[i]?=some (.string s):=by
     have:=congrArg (·[0]?) hc
     simpa [List.getElem?_take,yas]using this
    have h2:(xs.map (·.1))[i]?=some (DataW.lit (.string s.data.toList):DataW H):=by simp[hb]
    rw[hxs]at h2
    simp only[ydd,ybB,DataW.lit.injEq,Lit.string.injEq]at h2
    obtain⟨l,hl1,hl2⟩:=h2
    simp[h1,hl1,hl2]
   .rw[yb2 (by omega),yb2 (by simp;omega)]
  .cases h
theorem zto{α β:Type}{f:α->β}:∀{l:List β} {T:List α},l.Perm (T.map f)->∃l':List α,l'.Perm T/\l=l'.map f
 | l,T,h=>by
  generalize hm:T.map f=m at h
  induction h generalizing T with
  | nil =>
   cases T with
   | nil=>exact⟨[],.refl _,rfl⟩
   | cons a t=>cases hm
  | cons x h ih =>
   cases T with
   | nil=>cases hm
   | cons a t =>
    simp only[yaL,ydW.injEq]at hm
    obtain⟨rfl,hm⟩:=hm
    obtain⟨l',h1,rfl⟩:=ih t hm
    exact⟨a::l',.cons _ h1,rfl⟩
  | swap x y l =>
   match T,hm with
   | a::b::t,hm =>
    simp only[yaL,ydW.injEq]at hm
    obtain⟨rfl,rfl,rfl⟩:=hm
    exact⟨b::a::t,.swap ..,rfl⟩
  | trans h1 h2 ih1 ih2 =>
   obtain⟨l2,p2,rfl⟩:=ih2 T hm
   obtain⟨l1,p1,rfl⟩:=ih1 l2 rfl
   exact⟨l1,p1.trans p2,rfl⟩
end Go
namespace Go.Proofs.YtohfclafhegadaaGreatDoor
open Go Go.Abs Go.RowKit
theorem own:ownKnob yb9.godebug=none:=by kernel_rfl
def toD(p:UInt8 × W):Lit × DataW Unit:=(.int .u8 (p.1.toNat:Int),.agg [.lit (.int .i64 p.2.op),.lit (.int .i64 p.2.ty),.lit (.int .i64 p.2.n),.lit (.int .i64 p.2.body),.lit (.int .i64 p.2.other),.lit (.string p.2.name)])
def zMq(w:W):List Value:=[.int .i64 w.op,.int .i64 w.ty,.int .i64 w.n,.int .i64 w.body,.int .i64 w.other,.string ⟨w.name.toArray⟩]
theorem zHZ{w:World}{fuel:Nat}{cs:List Value}{o:W}{c:UInt8}{p:List MemPlace}(h:DataW.trod (λ_=>()) yb9 w 0 (λ_=>true) false fuel 53 cs=some ((toD (c,o)).2,p)):cs=zMq o:=by
 obtain⟨xs,n,rfl,hx,hlen,hxl,hf⟩:=DataW.trod_struct yd5 h
 have hxl':xs.length=6:=hxl
 have hlen':cs.length=6:=hlen.trans (by kernel_rfl)
 simp only[toD,Prod.mk.injEq,DataW.agg.injEq]at hx
 obtain⟨hx,_⟩:=hx
 match cs,hlen' with
 | [a,b,c,d,e,f],_ =>
  have c9:yb9.cellsOf 9=1:=by kernel_rfl
  have c3:yb9.cellsOf 3=1:=by kernel_rfl
  have key:∀(k:Nat) (v:Value) (m:Int) (hk:k<xs.length),(xs.map (·.1))[k]?=some (DataW.lit (.int .i64 m))->DataW.trod (λ_=>()) yb9 w 0 (λ_=>true) false n 3 [v]=xs[k]?->v=.int .i64 m:=λk v m hk h1 h2=>by
   rw[yau hk]at h2
   rw[ydd,yau hk]at h1
   simp only[yaG,yaR.injEq]at h1
   obtain⟨z,e1,e2,_⟩:=DataW.trod_int yd6 h2
   rw[e2]at h1
   simp only[DataW.lit.injEq,Lit.int.injEq,true_and]at h1
   simp only[ydW.injEq,and_true]at e1
   rw[e1,h1]
  have f0:DataW.trod (λ_=>()) yb9 w 0 (λ_=>true) false n 3 [a]=xs[0]?:=by
   have h:DataW.trod (λ_=>()) yb9 w 0 (λ_=>true) false n 3 ((([a,b,c,d,e,f]:List Value).drop 0).take (yb9.cellsOf 3))=xs[0]?:=hf 0 _ rfl
   rw[c3]at h;exact h
  have f1:DataW.trod (λ_=>()) yb9 w 0 (λ_=>true) false n 3 [b]=xs[1]?:=by
   have h:DataW.trod (λ_=>()) yb9 w 0 (λ_=>true) false n 3 ((([a,b,c,d,e,f]:List Value).drop 1).take (yb9.cellsOf 3))=xs[1]?:=hf 1 _ rfl
   rw[c3]at h;exact h
  have f2:DataW.trod (λ_=>()) yb9 w 0 (λ_=>true) false n 3 [c]=xs[2]?:=by
   have h:DataW.trod (λ_=>()) yb9 w 0 (λ_=>true) false n 3 ((([a,b,c,d,e,f]:List Value).drop 2).take (yb9.cellsOf 3))=xs[2]?:=hf 2 _ rfl
   rw[c3]at h;exact h
  have f3:DataW.trod (λ_=>()) yb9 w 0 (λ_=>true) false n 3 [d]=xs[3]?:=by
   have h:DataW.trod (λ_=>()) yb9 w 0 (λ_=>true) false n 3 ((([a,b,c,d,e,f]:List Value).drop 3).take (yb9.cellsOf 3))=xs[3]?:=hf 3 _ rfl
   rw[c3]at h;exact h
  have f4:DataW.trod (λ_=>()) yb9 w 0 (λ_=>true) false n 3 [e]=xs[4]?:=by
   have h:DataW.trod (λ_=>()) yb9 w 0 (λ_=>true) false n 3 ((([a,b,c,d,e,f]:List Value).drop 4).take (yb9.cellsOf 3))=xs[4]?:=hf 4 _ rfl
   rw[c3]at h;exact h
  have f5:DataW.trod (λ_=>()) yb9 w 0 (λ_=>true) false n 9 [f]=xs[5]?:=by
   have h:DataW.trod (λ_=>()) yb9 w 0 (λ_=>true) false n 9 ((([a,b,c,d,e,f]:List Value).drop 5).take (yb9.cellsOf 9))=xs[5]?:=hf 5 _ rfl
   rw[c9]at h;exact h
  have e0:=key 0 a o.op (by omega) (by rw[<-hx];rfl) f0
  have e1:=key 1 b o.ty (by omega) (by rw[<-hx];rfl) f1
  have e2:=key 2 c o.n (by omega) (by rw[<-hx];rfl) f2
  have e3:=key 3 d o.body (by omega) (by rw[<-hx];rfl) f3
  have e4:=key 4 e o.other (by omega) (by rw[<-hx];rfl) f4
  have e5:f=.string ⟨o.name.toArray⟩:=by
   rw[yau (by omega)]at f5
   have h1:(xs.map (·.1))[5]?=some (DataW.lit (.string o.name)):=by rw[<-hx];rfl
   rw[ydd,yau (by omega)]at h1
   simp only[yaG,yaR.injEq]at h1
   obtain⟨z,e1,e2,_⟩:=DataW.trod_string yd7 f5
   rw[e2]at h1
   simp only[DataW.lit.injEq,Lit.string.injEq]at h1
   simp only[ydW.injEq,and_true]at e1
   rw[e1,<-h1]
  rw[e0,e1,e2,e3,e4,e5]
  rfl
theorem zH0{v:Value}{n:Int}(h:keyOf yb9 5 v=some (.int .u8 n)):v=.int .u8 n:=by
 simp only[keyOf,mapKey,yd8]at h
 cases v<;>simp at h
 obtain⟨⟨rfl,_⟩,rfl⟩:=h
 rfl
theorem zvM{v:Value}(h:v.formed yb9 53=true):∃A,v=.agg A:=by
 cases v<;>simp[Value.formed,yd5]at h
 exact⟨_,rfl⟩
theorem zBE{w:World}{fuel:Nat}{cs:List Value}{p:List MemPlace}{T:List (UInt8 × W)}{L:List (Lit × DataW Unit)}(hT:L.Perm (T.map toD))(h:DataW.trod (λ_=>()) yb9 w 0 (λ_=>true) false fuel 184 cs=some (.map L,p)):
  ∃(l:List (UInt8 × W)) (b:Nat) (es:Array MapEntry) (clock:Nat),l.Perm T/\cs=[.map (some b)]/\w.heap[b]?=some (.map es clock)/\ztL (zbQ l) (zcC l) es clock:=by
 cases fuel with
 | zero=>simp[DataW.trod]at h
 | succ n =>
  have h0:=h
  rw[DataW.trod_step]at h
  unfold DataW.trodStep at h
  rw[yd9]at h
  split at h<;>simp_all
  rename_i b _
  rw[DataW.trod_step]at h0
  unfold DataW.trodStep at h0
  cases hb:w.heap[b]? with
  | none=>simp[yd9,hb]at h0
  | some o =>
   cases o
   case map es clock =>
    simp only[yd9,hb]at h0
    split at h0
    .rename_i hc
     simp only[ybA]at h0
     obtain⟨entries,he,h3⟩:=h0
     split at h3
     .simp only[yaR.injEq,Prod.mk.injEq,DataW.map.injEq]at h3
      obtain⟨h3,_⟩:=h3
      have hp:(entries.map (·.1)).Perm (T.map toD):=(WideShapes.sorted_perm _).symm.trans (by rw[h3];exact hT)
      obtain⟨l,hl,hle⟩:=zto hp
      have hlen:entries.length=es.size:=by rw[Lib.mapM_length he];simp
      have hll:l.length=es.size:=by
       have:=congrArg ycT hle
       simp at this
       omega
      have ent:∀i (hi:i<es.size),es[i].key=.int .u8 ((l[i]'(by omega)).1.toNat:Int)/\∃A,es[i].val=.agg A/\A.toList=zMq (l[i]'(by omega)).2:=λi hi=>by
       obtain⟨y,h1,h2⟩:=Lib.mapM_at he i es[i] (by simp[hi])
       have h3:(entries.map (·.1))[i]?=some y.1:=by rw[ydd,h1];rfl
       rw[hle,ydd,yau (by omega)]at h3
       simp only[yaG,yaR.injEq]at h3
       rw[ybA]at h2
       obtain⟨key,k1,k2⟩:=h2
       split at k2
       .rename_i hfm
        rw[ybB]at k2
        obtain⟨z,z1,rfl⟩:=k2
        obtain⟨A,hA⟩:=zvM hfm
        simp only at h3
        have q1:key=.int .u8 ((l[i]'(by omega)).1.toNat:Int):=(congrArg Prod.fst h3).symm
        have q2:z.1=(toD l[i]).2:=(congrArg Prod.snd h3).symm
        rw[q1]at k1
        refine⟨zH0 k1,A,hA,?_⟩
        rw[hA]at z1
        obtain⟨z1a,z1b⟩:=z
        simp only at q2
        subst q2
        exact zHZ (c:=l[i].1) z1
       .cases k2
      refine⟨l,hl,es,clock,rfl,⟨by simp[zbQ,hll],by simp[zbQ,zcC],λi h1 h2=>?_,λi h1 h2=>?_,λi hi=>?_,λi j hi hj e=>?_⟩⟩
      .obtain⟨e1,_⟩:=ent i h2
       rw[e1]
       simp only[zbQ,yak]
       exact .int ..
      .obtain⟨_,A,e1,e2⟩:=ent i h2
       rw[e1]
       simp only[zcC,yak,W.av]
       have hs:A.size=6:=by rw[<-Array.length_toList,e2];rfl
       refine .agg _ A (by rw[hs];rfl) λj g1 g2=>?_
       have g3:A[j]=A.toList[j]'(by simpa using g2):=by simp
       rw[g3]
       simp only[e2]
       clear g3
       rcases j with _|_|_|_|_|_|j
       .exact .int ..
       .exact .int ..
       .exact .int ..
       .exact .int ..
       .exact .int ..
       .exact At.str ⟨(l[i]'(by omega)).2.name.toArray⟩
       .exact absurd g1 (by simp[W.cs])
      .have:=Array.all_eq_true.1 hc.2.2.1 i hi
       simpa using this
      .have hnd:=ChangeMaps.nodup_of_eraseDups _ (by rw[hc.2.2.2];simp)
       have:=List.getElem_inj (h₀:=by simpa using hi) (h₁:=by simpa using hj) hnd (i:=i) (j:=j)
       simp at this
       exact this.1 e
     .cases h3
    .cases h0
   all_goals (simp[yd9,hb]at h0;done)
end Go.Proofs.YtohfclafhegadaaGreatDoor
namespace Go
open Go.ChangeShapes Go.WideShapes Go.ChangeAt Go.RowKit
theorem zeN{P:Program}{w:World}:∀{l:List (String × DataW Unit)} {ps:List MemPlace} {n:String} {d:DataW Unit} {k:Nat},DataW.LaidVars P w l ps->l[k]?=some (n,d)->∃g t cs fuel p,P.globalNamed n=some g/\(P.globals[g]?).map (·.type)=some t/\w.var? P n=some cs/\DataW.trod (λ_=>()) P w 0 (λ_=>true) false fuel t cs.toList=some (d,p)
 | [],ps,n,d,k,h,hk=>by simp at hk
 | (n',d')::l,ps,n,d,k,h,hk=>by
  obtain⟨g,t,cs,fuel,p,q,h1,h2,h3,h4,h5,rfl⟩:=h
  cases k with
  | zero =>
   simp only[yd0,yaR.injEq,Prod.mk.injEq]at hk
   obtain⟨rfl,rfl⟩:=hk
   exact⟨g,t,cs,fuel,p,h1,h2,h3,h4⟩
  | succ k=>exact zeN h5 (by simpa using hk)
theorem zme{g:List UInt8 × List UInt8->List Value}:∀(ls:List (List UInt8 × List UInt8)) (cs:List Value),cs.length=ls.length*2->(∀i (h:i<ls.length),(cs.drop (i*2)).take 2=g ls[i])->cs=(ls.map g).flatten
 | [],cs,h,_=>by simpa using h
 | l::ls,cs,h,hg=>by
  have h0:=hg 0 (by simp)
  have ih:=zme (g:=g) ls (cs.drop 2) (by rw[List.length_drop,h,yac];omega) λi hi=>by
   have:=hg (i+1) (ybn hi)
   rw[List.drop_drop]
   have e:2+i*2=(i+1)*2:=by omega
   rw[e];exact this
  simp only[yaL,ydF,<-ih]
  simp at h0
  rw[<-h0,ydX]
theorem zly{H:Type}{enc:TypeId × Value->H}{P:Program}{w:World}{base:Nat}{sp:Nat->Bool}{held:Bool}{fuel:Nat}{t e u:TypeId}{n:Nat}{cs:List Value}{ls:List (List UInt8 × List UInt8)}{p:List MemPlace}
  (ht:P.underlying t=some (.array n e)) (he:P.underlying e=some (.array 2 u)) (hu:P.underlying u=some .string) (hcu:P.cellsOf u=1) (hce:P.cellsOf e=2) (hct:P.cellsOf t=n*2)
  (h:DataW.trod enc P w base sp held fuel t cs=some (.agg (ls.map λl=>.agg [.lit (.string l.1),.lit (.string l.2)]),p)):cs=(ls.map λl=>[Value.string ⟨l.1.toArray⟩,Value.string ⟨l.2.toArray⟩]).flatten:=by
 cases fuel with
 | zero=>simp[DataW.trod]at h
 | succ fuel =>
  simp only[DataW.trod,ht,hce,hct]at h
  split at h
  .rename_i hl
   obtain⟨xs,hm,hx⟩:=ybB.1 h
   have hxs:xs.map (·.1)=ls.map λl=>(DataW.agg [.lit (.string l.1),.lit (.string l.2)]:DataW H):=by
    have:=congrArg Prod.fst hx
    simpa using this
   have hxl:xs.length=n:=by simpa using Lib.mapM_length hm
   have hzl:ls.length=n:=by
    have:=congrArg ycT hxs
    simp at this
    omega
   refine zme ls cs (by omega) λi hi=>?_
   have hin:i<n:=by omega
   obtain⟨b,hb,hf⟩:=Lib.mapM_at hm i i (by simp[hin])
   obtain⟨b1,b2⟩:=b
   have hbe:b1=(DataW.agg ([ls[i].1,ls[i].2].map λl=>.lit (.string l)):DataW H):=by
    have h2:(xs.map (·.1))[i]?=some b1:=by simp[hb]
    rw[hxs]at h2
    have h3:=h2
    rw[ydd,yau hi]at h3
    exact(yaR.inj h3).symm
   rw[hbe]at hf
   exact zhI he hu hcu hce hf
  .cases h
end Go
namespace Go.Proofs.YtohfclafhegadaaGreatDoor
open Go Go.Abs Go.RowKit Go.ChangeShapes Go.WideShapes
def zhJ:List Value:=(signs.map λp=>[Value.string ⟨p.1.toArray⟩,Value.string ⟨p.2.toArray⟩]).flatten
theorem zkV{M F}{w:World}:∀(ls:List (List UInt8 × List UInt8)) (j:Nat) (h:j<((ls.map λp=>[ycZ p.1,ycZ p.2]).flatten).length),
  ∃c,((ls.map λp=>[Value.string ⟨p.1.toArray⟩,Value.string ⟨p.2.toArray⟩]).flatten)[j]?=some c/\VR M F w ((ls.map λp=>[ycZ p.1,ycZ p.2]).flatten)[j] c
 | [],j,h=>by simp at h
 | l::ls,j,h=>by
  simp only[yaL,ydF,yc1,List.nil_append]at h ⊢
  match j with
  | 0=>exact⟨_,rfl,by simpa using VR.str (M:=M) (F:=F) (w:=w) ⟨l.1.toArray⟩⟩
  | 1=>exact⟨_,rfl,by simpa using VR.str (M:=M) (F:=F) (w:=w) ⟨l.2.toArray⟩⟩
  | j+2=>simpa using zkV ls j (by simpa using h)
def spZ:List Int:=(List.range 256).map λc=>if zgV (UInt8.ofNat c)then 1 else 0
def zBF:List (UInt8 × W):=[(0x00,pw 17 0 0),(0x0F,pw 16 0 0),(0x1A,pw 18 0 0),(0x28,pw 8 1 4),(0x29,pw 8 2 8),(0x2C,pw 8 1 1),(0x36,pw 9 1 4),(0x37,pw 9 2 8),(0x3A,pw 9 1 1),(0x45,pw 5 1 0),(0x50,pw 5 2 0),(0xA7,pw 6 0 0),(0xAC,pw 7 0 0)]
def zMr:List (UInt8 × W):=[(0x0C,pw 14 0 0),(0x0D,pw 15 0 0),(0x10,pw 10 0 0),(0x20,pw 2 0 0),(0x21,pw 3 0 0),(0x41,pw 1 1 0),(0x42,pw 1 2 0)]
theorem ztp:zBF.Perm zao:=by decide
theorem zy2:zMr.Perm zga:=by decide
theorem zqS:laidOutB yb9=true:=by kernel_rfl
end Go.Proofs.YtohfclafhegadaaGreatDoor

namespace Go.Proofs.YtohfclafhegadaaGreatDoor
open Go Go.Abs Go.RowKit Go.ChangeShapes Go.WideShapes
abbrev zy3 : List (String × DataW Unit) := [("math/bits.deBruijn32tab", Rows.laid_math_bits_deBruijn32tab), ("math/bits.deBruijn64tab", Rows.laid_math_bits_deBruijn64tab), ("internal/strconv.uint64pow10", Rows.laid_internal_strconv_uint64pow10), ("unicode.White_Space", Rows.laid_unicode_White_Space), ("strings.asciiSpace", Rows.laid_strings_asciiSpace), ("mortise/bin.bytesOf", Rows.laid_mortise_bin_bytesOf), ("mortise/bin.plain", Rows.laid_mortise_bin_plain), ("mortise/bin.numbered", Rows.laid_mortise_bin_numbered), ("mortise/wasm.signs", Rows.laid_mortise_wasm_signs)]
def GB(lp ln:List (UInt8 × W))(m:Int):Env where
 g:=λx=>match x with
  | 0=>.pv (.stat true) (.agg zii)
  | 1=>.pv (.stat true) (.agg [.str zi6,.str zi7])
  | 2=>.pv (.stat true) (.mp (zbQ lp) (zcC lp))
  | 3=>.pv (.stat true) (.mp (zbQ ln) (zcC ln))
  | 10=>.pv (.stat true) (.agg zd8)
  | 11=>.pv (.stat true) (.int .i64 m)
  | _=>.undef
 has:=λ_=>False
 y:=λ_ _ _ _ _=>False
 fix:=λB=>if B=9 then some (Lib.pow10Tab.map λz=>Value.int .u64 z).toArray else none
structure zJy(lp ln:List (UInt8 × W))(m:Int)(w:World):Prop where
 g:GOk yb9 (GB lp ln m) (Mp.all w) AS.zero.F w
 p:lp.Perm zao
 n:ln.Perm zga
theorem zJy.vars{lp ln m w}(h:zJy lp ln m w):zdI (GB lp ln m):=⟨rfl,⟨lp,h.p,rfl⟩,⟨ln,h.n,rfl⟩,rfl⟩
theorem zDZ(lp ln m):znH (GB lp ln m):=⟨rfl,m,rfl⟩
theorem zy4(lp ln:List (UInt8 × W))(m:Int):∀k,StillI ((GB lp ln m).g k):=by
 intro k
 match k with
 | 0 =>
  exact .pv _ _ λc hc=>by
   simp only[AV.cells,zii,yaV]at hc
   obtain⟨x,_,rfl⟩:=hc
   exact .int _ _
 | 1 =>
  exact .pv _ _ λc hc=>by
   simp only[AV.cells,ybC,yde,or_false]at hc
   rcases hc with rfl|rfl<;>exact .str _
 | 2 =>
  exact .pv _ _ λc hc=>by
   simp only[AV.cells,ydf]at hc
   subst hc
   exact .mp _ _
 | 3 =>
  exact .pv _ _ λc hc=>by
   simp only[AV.cells,ydf]at hc
   subst hc
   exact .mp _ _
 | 4=>exact .undef
 | 5=>exact .undef
 | 6=>exact .undef
 | 7=>exact .undef
 | 8=>exact .undef
 | 9=>exact .undef
 | 10 =>
  exact .pv _ _ λc hc=>by
   simp only[AV.cells,zd8,List.mem_flatten,yaV]at hc
   obtain⟨l,⟨x,_,rfl⟩,hc⟩:=hc
   simp only[ybC,yde,or_false]at hc
   rcases hc with rfl|rfl<;>exact .str _
 | 11 =>
  exact .pv _ _ λc hc=>by
   simp only[AV.cells,ydf]at hc
   subst hc
   exact .int _ _
 | n+12=>exact .undef
theorem zpb{W:World}(hs:W.ShapedOpen yb9)(hl:laidMetH yb9 zy3 W):∃lp ln m,zJy lp ln m W:=by
 have hl0:laidMet yb9 zy3 W:=hl
 obtain⟨ps,hv,_⟩:=hl0
 obtain⟨g0,t0,cs0,fuel0,p0,a1,a2,a3,a4⟩:=zeN (k:=4) hv rfl
 obtain⟨g1,t1,cs1,fuel1,p1,b1,b2,b3,b4⟩:=zeN (k:=5) hv rfl
 obtain⟨g2,t2,cs2,fuel2,p2,c1,c2,c3,c4⟩:=zeN (k:=6) hv rfl
 obtain⟨g3,t3,cs3,fuel3,p3,d1,d2,d3,d4⟩:=zeN (k:=7) hv rfl
 obtain⟨g9,t9,cs9,fuel9,p9,f1,f2,f3,f4⟩:=zeN (k:=2) hv rfl
 obtain⟨g10,t10,cs10,fuel10,p10,h1,h2,h3,h4⟩:=zeN (k:=8) hv rfl
 obtain rfl : 0 = g0 := Option.some.inj ((show Tryz.prog.globalNamed "strings.asciiSpace" = some 0 by kernel_rfl).symm.trans a1)
 obtain rfl : 1 = g1 := Option.some.inj ((show Tryz.prog.globalNamed "mortise/bin.bytesOf" = some 1 by kernel_rfl).symm.trans b1)
 obtain rfl : 2 = g2 := Option.some.inj ((show Tryz.prog.globalNamed "mortise/bin.plain" = some 2 by kernel_rfl).symm.trans c1)
 obtain rfl : 3 = g3 := Option.some.inj ((show Tryz.prog.globalNamed "mortise/bin.numbered" = some 3 by kernel_rfl).symm.trans d1)
 obtain rfl : 9 = g9 := Option.some.inj ((show Tryz.prog.globalNamed "internal/strconv.uint64pow10" = some 9 by kernel_rfl).symm.trans f1)
 obtain rfl : 10 = g10 := Option.some.inj ((show Tryz.prog.globalNamed "mortise/wasm.signs" = some 10 by kernel_rfl).symm.trans h1)
 obtain rfl:135=t0:=yaR.inj ((show(yb9.globals[0]?).map (·.type)=some 135 by kernel_rfl).symm.trans a2)
 obtain rfl:182=t1:=yaR.inj ((show(yb9.globals[1]?).map (·.type)=some 182 by kernel_rfl).symm.trans b2)
 obtain rfl:184=t2:=yaR.inj ((show(yb9.globals[2]?).map (·.type)=some 184 by kernel_rfl).symm.trans c2)
 obtain rfl:184=t3:=yaR.inj ((show(yb9.globals[3]?).map (·.type)=some 184 by kernel_rfl).symm.trans d2)
 obtain rfl:282=t9:=yaR.inj ((show(yb9.globals[9]?).map (·.type)=some 282 by kernel_rfl).symm.trans f2)
 obtain rfl:287=t10:=yaR.inj ((show(yb9.globals[10]?).map (·.type)=some 287 by kernel_rfl).symm.trans h2)
 have k0:cs0.toList=spZ.map λz=>Value.int .u8 z:=Lib.cells_of_tab (n:=256) (e:=5) (k:=.u8) Tryz.underlying135 yd8 (by kernel_rfl) (by kernel_rfl) (zs:=spZ) (by have:=a4;exact this)
 have k1:cs1.toList=[zi6,zi7].map λl=>Value.string ⟨l.toArray⟩:=zhI (n:=2) (e:=9) yea yd7 (by kernel_rfl) (by kernel_rfl) (ls:=[zi6,zi7]) b4
 obtain⟨lp,mb1,es1,kk1,hp,hc1,hb1,hm1⟩:=zBE (T:=zao) (L:=zBF.map toD) (ztp.map toD) c4
 obtain⟨ln,mb2,es2,kk2,hn,hc2,hb2,hm2⟩:=zBE (T:=zga) (L:=zMr.map toD) (zy2.map toD) d4
 have k9:cs9.toList=Lib.pow10Tab.map λz=>Value.int .u64 z:=Lib.cells_of_tab (n:=20) (e:=174) (k:=.u64) Tryz.underlying282 Tryz.underlying174 (by kernel_rfl) (by kernel_rfl) (zs:=Lib.pow10Tab) (by have:=f4;exact this)
 have k10:cs10.toList=zhJ:=zly (n:=16) (e:=182) (u:=9) (ls:=signs) Tryz.underlying287 yea yd7 (by kernel_rfl) (by kernel_rfl) (by kernel_rfl) h4
 obtain⟨m,hm⟩:=Tryz.laysM143.s1_3 W hs
 have cell:∀(nm:String) (g:Nat) (cs:Array Value),yb9.globalNamed nm=some g->W.var? yb9 nm=some cs->∀j,W.cell? ⟨g,j,none⟩=cs.toList[j]?:=λnm g cs h1 h2 j=>by
  have:=World.var?_cell h1 h2 j
  rw[Array.getElem?_toList]
  simpa using this
 have v0:=cell _ 0 cs0 a1 a3
 have v1:=cell _ 1 cs1 b1 b3
 have v2:=cell _ 2 cs2 c1 c3
 have v3:=cell _ 3 cs3 d1 d3
 have v10:=cell _ 10 cs10 h1 h3
 rw[k0]at v0
 rw[k1]at v1
 rw[hc1]at v2
 rw[hc2]at v3
 rw[k10]at v10
 have l11:11<W.heap.size:=World.block_lt_of_cell? W _ hm
 have y1:mb1<W.heap.size:=(yaU.1 hb1).1
 have y2:mb2<W.heap.size:=(yaU.1 hb2).1
 refine⟨lp,ln,m,⟨⟨λx=>?_,λ_ h=>h.elim,λB c h=>?_⟩,hp,hn⟩⟩
 .match x with
  | 0 =>
   have hl:zii=spZ.map (yc0 .u8):=by simp[zii,spZ]
   refine .pv _ _ 0 0 (λj=>(spZ.map λz=>Value.int .u8 z).getD j undef) (by simp[Mem,Mp.all];omega) (λ_ j hj=>?_) (λ_ j hj=>?_)
   .have hj':j<(spZ.map λz=>Value.int .u8 z).length:=by
     have:j<zii.length:=hj
     rw[hl]at this
     simpa using this
    rw[ydE,v0 j,ycQ,yau hj']
    rfl
   .have hj':j<spZ.length:=by
     have:j<zii.length:=hj
     rw[hl]at this
     simpa using this
    have:((AV.agg zii).cells[j]'hj)=.int .u8 spZ[j]:=by simp[AV.cells,hl]
    rw[this,ycQ,ydd,yau hj']
    exact .int ..
  | 1 =>
   refine .pv _ _ 1 0 (λj=>([zi6,zi7].map λl=>Value.string ⟨l.toArray⟩).getD j undef) (by simp[Mem,Mp.all];omega) (λ_ j hj=>?_) (λ_ j hj=>?_)
   .have hj':j<2:=hj
    rw[ydE,v1 j]
    rcases j with _|_|j
    .rfl
    .rfl
    .omega
   .have hj':j<2:=hj
    rcases j with _|_|j
    .exact .str ⟨zi6.toArray⟩
    .exact .str ⟨zi7.toArray⟩
    .omega
  | 2 =>
   refine .pv _ _ 2 0 (λj=>.map (some mb1)) (by simp[Mem,Mp.all];omega) (λ_ j hj=>?_) (λ_ j hj=>?_)
   .have hj':j=0:=by simpa using hj
    subst hj'
    exact v2 0
   .have hj':j=0:=by simpa using hj
    subst hj'
    exact .mp _ _ mb1 es1 kk1 (by simp[Mp.all,y1]) hb1 hm1
  | 3 =>
   refine .pv _ _ 3 0 (λj=>.map (some mb2)) (by simp[Mem,Mp.all];omega) (λ_ j hj=>?_) (λ_ j hj=>?_)
   .have hj':j=0:=by simpa using hj
    subst hj'
    exact v3 0
   .have hj':j=0:=by simpa using hj
    subst hj'
    exact .mp _ _ mb2 es2 kk2 (by simp[Mp.all,y2]) hb2 hm2
  | 4=>exact .undef _
  | 5=>exact .undef _
  | 6=>exact .undef _
  | 7=>exact .undef _
  | 8=>exact .undef _
  | 9=>exact .undef _
  | 10 =>
   refine .pv _ _ 10 0 (λj=>zhJ.getD j undef) (by simp[Mem,Mp.all];omega) (λ_ j hj=>?_) (λ_ j hj=>?_)
   .obtain⟨c,h1,_⟩:=zkV (M:=Mp.all W) (F:=AS.zero.F) (w:=W) signs j hj
    rw[ydE,v10 j,ycQ]
    show zhJ[j]?=_
    have h1':zhJ[j]?=some c:=h1
    rw[h1'];rfl
   .obtain⟨c,h1,h2⟩:=zkV (M:=Mp.all W) (F:=AS.zero.F) (w:=W) signs j hj
    have h1':zhJ[j]?=some c:=h1
    rw[ycQ,h1']
    exact h2
  | 11 =>
   refine .pv _ _ 11 0 (λj=>.int .i64 m) (by simp[Mem,Mp.all,l11]) (λ_ j hj=>?_) (λ_ j hj=>?_)
   .have hj':j=0:=by simpa using hj
    subst hj'
    exact hm
   .have hj':j=0:=by simpa using hj
    subst hj'
    exact VR.int ..
  | n+12=>exact .undef _
 .simp only[GB]at h
  split at h
  .rename_i hB
   subst hB
   cases h
   refine⟨by simp[Mp.all];omega,?_⟩
   have hq:cs9=(Lib.pow10Tab.map λz=>Value.int .u64 z).toArray:=by
    rw[<-k9]
   rw[<-hq]
   have:=f3
   simp only[World.var?,f1]at this
   rw[ydx]at this
   split at this
   .rename_i cs elem frozen hh
    cases this
    exact⟨_,_,hh⟩
   .cases this
  .cases h
noncomputable def ziq(os:Os):World:=World.doorLaid yb9 400 os
theorem zvN(os:Os)(args:Array Value):laidMetH yb9 zy3 ((ziq os).forCall (λ_ _=>0) ⟨#[],args,[]⟩).memory :=
 show laidMet yb9 zy3 _ from(LaidIn.of_run ((List.range 26).filter λb=>b != 7) 8 (by kernel_rfl) (by kernel_rfl) (by kernel_rfl) (by kernel_rfl)).met
structure zJz(f:F):Prop where
 params:f.params.length<=2^20
 locals:f.locals.length<=2^20
 lists:f.lists.length<=2^20
 rows:∀l∈f.lists,l.length<=2^20
 name:f.name.length<=2^20
 nums:∀l∈f.lists,∀w∈l,w.n<=2^63-1
section
variable {G : Env} {J : AS} {R : Out -> AS -> Prop}
end
end Go.Proofs.YtohfclafhegadaaGreatDoor
namespace Go.Proofs.YtohfclafhegadaaGreatDoor
open Go Go.Abs Go.RowKit Go.ChangeShapes Go.WideShapes Go.ChangeAt
def Bk{H:Type}(d:DataW H):Prop:=Rows.uptoBulk d<=1048576
theorem znu{H:Type}{d:DataW H}{l:List (DataW H)}(h:d∈l):Rows.uptoBulk d<=Rows.uptoBulkAll l:=by
 induction l with
 | nil=>cases h
 | cons x r ih =>
  simp only[Rows.uptoBulkAll]
  rcases ybC.1 h with rfl|e
  .omega
  .have:=ih e;omega
theorem Bk.slice{H:Type}{ds rs:List (DataW H)}(h:Bk (.slice ds rs)):∀d∈ds,Bk d:=λd hd=>by
 have:=znu hd
 unfold Bk at *
 simp only[Rows.uptoBulk]at h
 omega
theorem Bk.agg{H:Type}{ds:List (DataW H)}(h:Bk (.agg ds)):∀d∈ds,Bk d:=λd hd=>by
 have:=znu hd
 unfold Bk at *
 simp only[Rows.uptoBulk]at h
 omega
theorem Bk.str{H:Type}{s:List UInt8}(h:Bk (.lit (.string s):DataW H)):s.length<=2^20:=by
 unfold Bk at h
 simp only[Rows.uptoBulk]at h
 omega
theorem zr7{H:Type}:∀{l:List (DataW H)},l.length<=Rows.uptoBulkAll l
 | []=>by simp[Rows.uptoBulkAll]
 | d::r=>by
  have:=zr7 (l:=r)
  have h1:1<=Rows.uptoBulk d:=by cases d<;>(try rename_i x;cases x)<;>simp[Rows.uptoBulk]
  simp only[Rows.uptoBulkAll,yac]
  omega
theorem Bk.len{H:Type}{ds rs:List (DataW H)}(h:Bk (.slice ds rs)):ds.length<=2^20:=by
 have:=zr7 (l:=ds)
 unfold Bk at h
 simp only[Rows.uptoBulk]at h
 omega
theorem zgh{H T:Type}{enc:TypeId × Value->H}{w:World}{fuel:Nat}{t e:TypeId}{cs:List Value}{x:DataW H × List MemPlace}{sz:Nat}(Rel:AV->T->Prop)
  (ht:yb9.underlying t=some (.slice e)) (hc:yb9.cellsOf e=sz) (hsz:0<sz) (hb:0<yb9.bytesOf e)
  (ih:∀n cs' d q,DataW.trod enc yb9 w 0 (λ_=>true) true n e cs'=some (d,q)->znJ e d->Bk d->∃v o,Rel v o/\zdr w v cs')
  (h:DataW.trod enc yb9 w 0 (λ_=>true) true fuel t cs=some x) (hw:znJ t x.1) (hk:Bk x.1) :
  ∃(v:AV) (os:List T),zdr w v cs/\((os=[]/\v=.nilsl)\/∃vs,v=.sl (.stat false) sz vs/\All2 Rel vs os)/\os.length<=2^20:=by
 obtain⟨v,os,h1,h2,h3,h4⟩:=ztn Rel Bk ht hc hsz hb ih h hw λds rs e=>Bk.slice (e▸hk)
 rcases h2 with h2|h2
 .exact⟨v,os,h1,.inl h2,by rw[h2.1];simp⟩
 .refine⟨v,os,h1,.inr h2,?_⟩
  rcases DataW.trod_slice ht h with ⟨rfl,rfl⟩|⟨a,len,cap,elems,rest,n,rfl,rfl,rfl,_⟩
  .obtain⟨vs,rfl,_⟩:=h2
   exact absurd h1.2 λq=>by
    have:=q 0 (by simp[AV.cells]) (by simp)
    cases this
  .exact yai (h4 _ _ rfl) hk.len
def zK6(v:AV)(n:Int):Prop:=v=.int .i64 n/\-(2^63)<=n/\n<=2^63-1
theorem zD0{H:Type}{enc:TypeId × Value->H}{w:World}{n:Nat}{cs:List Value}{x:DataW H × List MemPlace}(h:DataW.trod enc yb9 w 0 (λ_=>true) true n 3 cs=some x):∃v o,zK6 v o/\zdr w v cs:=by
 obtain⟨k,rfl,_,hw⟩:=DataW.trod_int yd6 h
 simp[Lit.wf,yeb,yan,yao,yap]at hw
 exact⟨.int .i64 k,k,⟨rfl,by omega,by omega⟩,.one (.int ..) rfl⟩
theorem All2.ints{vs:List AV}{l:List Int}(h:All2 zK6 vs l):vs=l.map (.int .i64):=by
 induction h with
 | nil=>rfl
 | cons h r ih=>rw[h.1,ih];rfl
def zK7(v:AV)(l:List Int):Prop:=zaR v l/\l.length<=2^20
theorem znv{H:Type}{enc:TypeId × Value->H}{w:World}{n:Nat}{cs:List Value}{x:DataW H × List MemPlace}(h:DataW.trod enc yb9 w 0 (λ_=>true) true n 44 cs=some x)(hw:znJ 44 x.1)(hk:Bk x.1):∃v o,zK7 v o/\zdr w v cs:=by
 obtain⟨v,os,h1,h2,h3⟩:=zgh (sz:=1) zK6 yec (by kernel_rfl) (by omega) (of_decide_eq_true (by kernel_rfl)) (λn cs' d q h _ _=>zD0 h) h hw hk
 refine⟨v,os,⟨?_,h3⟩,h1⟩
 rcases h2 with h2|⟨vs,rfl,h4⟩
 .exact .inl h2
 .exact .inr ⟨false,by rw[h4.ints]⟩
def WR(v:AV)(w:W):Prop:=v=w.av/\RgW w
theorem zeO{H:Type}{enc:TypeId × Value->H}{w:World}{n:Nat}{c:Value}{x:DataW H × List MemPlace}(h:DataW.trod enc yb9 w 0 (λ_=>true) true n 3 [c]=some x):∃k:Int,c=.int .i64 k/\-(2^63)<=k/\k<2^63:=by
 obtain⟨k,h1,_,hw⟩:=DataW.trod_int yd6 h
 simp[Lit.wf,yeb,yan,yao,yap]at hw
 exact⟨k,by simpa using h1,by omega,by omega⟩
theorem zBG{H:Type}{enc:TypeId × Value->H}{w:World}{n:Nat}{c:Value}{x:DataW H × List MemPlace}(h:DataW.trod enc yb9 w 0 (λ_=>true) true n 9 [c]=some x):∃s:ByteArray,c=.string s/\x.1=.lit (.string s.data.toList):=by
 obtain⟨s,h1,h2,_⟩:=DataW.trod_string yd7 h
 exact⟨s,by simpa using h1,by rw[h2]⟩
theorem zK8{H:Type}{enc:TypeId × Value->H}{w:World}{n:Nat}{cs:List Value}{x:DataW H × List MemPlace}(h:DataW.trod enc yb9 w 0 (λ_=>true) true n 53 cs=some x):∃v o,WR v o/\zdr w v cs:=by
 obtain⟨xs,n,rfl,hx,hlen,hxl,hf⟩:=DataW.trod_struct yd5 h
 have hxl':xs.length=6:=hxl
 have hlen':cs.length=6:=hlen.trans (by kernel_rfl)
 match cs,hlen' with
 | [a,b,c,d,e,f],_ =>
  have c9:yb9.cellsOf 9=1:=by kernel_rfl
  have c3:yb9.cellsOf 3=1:=by kernel_rfl
  have f0:DataW.trod enc yb9 w 0 (λ_=>true) true n 3 [a]=xs[0]?:=by
   have h:DataW.trod enc yb9 w 0 (λ_=>true) true n 3 ((([a,b,c,d,e,f]:List Value).drop 0).take (yb9.cellsOf 3))=xs[0]?:=hf 0 _ rfl
   rw[c3]at h;exact h
  have f1:DataW.trod enc yb9 w 0 (λ_=>true) true n 3 [b]=xs[1]?:=by
   have h:DataW.trod enc yb9 w 0 (λ_=>true) true n 3 ((([a,b,c,d,e,f]:List Value).drop 1).take (yb9.cellsOf 3))=xs[1]?:=hf 1 _ rfl
   rw[c3]at h;exact h
  have f2:DataW.trod enc yb9 w 0 (λ_=>true) true n 3 [c]=xs[2]?:=by
   have h:DataW.trod enc yb9 w 0 (λ_=>true) true n 3 ((([a,b,c,d,e,f]:List Value).drop 2).take (yb9.cellsOf 3))=xs[2]?:=hf 2 _ rfl
   rw[c3]at h;exact h
  have f3:DataW.trod enc yb9 w 0 (λ_=>true) true n 3 [d]=xs[3]?:=by
   have h:DataW.trod enc yb9 w 0 (λ_=>true) true n 3 ((([a,b,c,d,e,f]:List Value).drop 3).take (yb9.cellsOf 3))=xs[3]?:=hf 3 _ rfl
   rw[c3]at h;exact h
  have f4:DataW.trod enc yb9 w 0 (λ_=>true) true n 3 [e]=xs[4]?:=by
   have h:DataW.trod enc yb9 w 0 (λ_=>true) true n 3 ((([a,b,c,d,e,f]:List Value).drop 4).take (yb9.cellsOf 3))=xs[4]?:=hf 4 _ rfl
   rw[c3]at h;exact h
  have f5:DataW.trod enc yb9 w 0 (λ_=>true) true n 9 [f]=xs[5]?:=by
   have h:DataW.trod enc yb9 w 0 (λ_=>true) true n 9 ((([a,b,c,d,e,f]:List Value).drop 5).take (yb9.cellsOf 9))=xs[5]?:=hf 5 _ rfl
   rw[c9]at h;exact h
  rw[yau (by omega)]at f0 f1 f2 f3 f4 f5
  obtain⟨k0,rfl,_⟩:=zeO f0
  obtain⟨k1,rfl,_⟩:=zeO f1
  obtain⟨k2,rfl,hn⟩:=zeO f2
  obtain⟨k3,rfl,_⟩:=zeO f3
  obtain⟨k4,rfl,_⟩:=zeO f4
  obtain⟨s,rfl,_⟩:=zBG f5
  refine⟨_,⟨k0,k1,k2,k3,k4,s.data.toList⟩,⟨rfl,hn⟩,rfl,λj h1 h2=>?_⟩
  have:j<6:=h2
  match j,this with
  | 0,_=>exact .int ..
  | 1,_=>exact .int ..
  | 2,_=>exact .int ..
  | 3,_=>exact .int ..
  | 4,_=>exact .int ..
  | 5,_=>exact .str s
theorem All2.ws{vs:List AV}{l:List W}(h:All2 WR vs l):vs=l.map W.av/\∀w∈l,RgW w:=by
 induction h with
 | nil=>simp
 | cons h r ih=>refine⟨by rw[h.1,ih.1];rfl,λw hw=>?_⟩;rcases ybC.1 hw with rfl|hw;exact h.2;exact ih.2 w hw
theorem All2.mono{α β:Type}{R S:α->β->Prop}{xs ys}(h:All2 R xs ys)(hs:∀x y,R x y->S x y):All2 S xs ys:=by
 induction h with
 | nil=>exact .nil
 | cons h r ih=>exact .cons (hs _ _ h) ih
theorem All2.right{α β:Type}{R:α->β->Prop}{P:β->Prop}{xs ys}(h:All2 R xs ys)(hs:∀x y,R x y->P y):∀y∈ys,P y:=by
 induction h with
 | nil=>simp
 | cons h r ih=>intro y hy;rcases ybC.1 hy with rfl|hy;exact hs _ _ h;exact ih y hy
def zMs(v:AV)(l:List W):Prop:=zsM v l/\l.length<=2^20/\∀w∈l,RgW w
theorem zD1{H:Type}{enc:TypeId × Value->H}{w:World}{n:Nat}{cs:List Value}{x:DataW H × List MemPlace}(h:DataW.trod enc yb9 w 0 (λ_=>true) true n 54 cs=some x)(hw:znJ 54 x.1)(hk:Bk x.1):∃v o,zMs v o/\zdr w v cs:=by
 obtain⟨v,os,h1,h2,h3⟩:=zgh (sz:=6) WR Tryz.underlying54 (by kernel_rfl) (by omega) (of_decide_eq_true (by kernel_rfl)) (λn cs' d q h _ _=>zK8 h) h hw hk
 rcases h2 with ⟨rfl,rfl⟩|⟨vs,rfl,h4⟩
 .exact⟨_,[],⟨.inl ⟨rfl,rfl⟩,h3,by simp⟩,h1⟩
 .obtain⟨e,hn⟩:=h4.ws
  exact⟨_,os,⟨.inr ⟨false,by rw[e]⟩,h3,hn⟩,h1⟩
def zH1(v:AV)(l:To):Prop:=zdN v l/\l.length<=2^20/\(∀r∈l,r.length<=2^20)/\∀r∈l,∀w∈r,RgW w
theorem zvO{H:Type}{enc:TypeId × Value->H}{w:World}{n:Nat}{cs:List Value}{x:DataW H × List MemPlace}(h:DataW.trod enc yb9 w 0 (λ_=>true) true n 55 cs=some x)(hw:znJ 55 x.1)(hk:Bk x.1):∃v o,zH1 v o/\zdr w v cs:=by
 obtain⟨v,os,h1,h2,h3⟩:=zgh (sz:=1) zMs Tryz.underlying55 (by kernel_rfl) (by omega) (of_decide_eq_true (by kernel_rfl)) (λn cs' d q h hw hk=>zD1 h hw hk) h hw hk
 rcases h2 with ⟨rfl,rfl⟩|⟨vs,rfl,h4⟩
 .exact⟨_,[],⟨.inl ⟨rfl,rfl⟩,h3,by simp,by simp⟩,h1⟩
 .exact⟨_,os,⟨.inr ⟨false,vs,rfl,h4.mono λ_ _ h=>h.1⟩,h3,h4.right λ_ _ h=>h.2.1,h4.right λ_ _ h=>h.2.2⟩,h1⟩
def FR(v:AV)(f:F):Prop:=FV v f/\zJz f/\RgL f.lists
theorem zK9{H:Type}{enc:TypeId × Value->H}{w:World}{n:Nat}{cs:List Value}{x:DataW H × List MemPlace}(h:DataW.trod enc yb9 w 0 (λ_=>true) true n 57 cs=some x)(hw:znJ 57 x.1)(hb:Bk x.1):∃v o,FR v o/\zdr w v cs:=by
 obtain⟨xs,n,rfl,hx,hlen,hxl,hf⟩:=DataW.trod_struct yed h
 have hxl':xs.length=5:=hxl
 have hlen':cs.length=5:=hlen.trans (by kernel_rfl)
 unfold znJ at hw
 rw[hx]at hw hb
 unfold DataW.weights at hw
 rw[yed]at hw
 simp only at hw
 have hwt:=zpa hw
 match cs,hlen' with
 | [a,b,c,d,e],_ =>
  have c9:yb9.cellsOf 9=1:=by kernel_rfl
  have c3:yb9.cellsOf 3=1:=by kernel_rfl
  have c44:yb9.cellsOf 44=1:=by kernel_rfl
  have c55:yb9.cellsOf 55=1:=by kernel_rfl
  have f0:DataW.trod enc yb9 w 0 (λ_=>true) true n 9 [a]=xs[0]?:=by
   have h:DataW.trod enc yb9 w 0 (λ_=>true) true n 9 ((([a,b,c,d,e]:List Value).drop 0).take (yb9.cellsOf 9))=xs[0]?:=hf 0 _ rfl
   rw[c9]at h;exact h
  have f1:DataW.trod enc yb9 w 0 (λ_=>true) true n 44 [b]=xs[1]?:=by
   have h:DataW.trod enc yb9 w 0 (λ_=>true) true n 44 ((([a,b,c,d,e]:List Value).drop 1).take (yb9.cellsOf 44))=xs[1]?:=hf 1 _ rfl
   rw[c44]at h;exact h
  have f2:DataW.trod enc yb9 w 0 (λ_=>true) true n 44 [c]=xs[2]?:=by
   have h:DataW.trod enc yb9 w 0 (λ_=>true) true n 44 ((([a,b,c,d,e]:List Value).drop 2).take (yb9.cellsOf 44))=xs[2]?:=hf 2 _ rfl
   rw[c44]at h;exact h
  have f3:DataW.trod enc yb9 w 0 (λ_=>true) true n 3 [d]=xs[3]?:=by
   have h:DataW.trod enc yb9 w 0 (λ_=>true) true n 3 ((([a,b,c,d,e]:List Value).drop 3).take (yb9.cellsOf 3))=xs[3]?:=hf 3 _ rfl
   rw[c3]at h;exact h
  have f4:DataW.trod enc yb9 w 0 (λ_=>true) true n 55 [e]=xs[4]?:=by
   have h:DataW.trod enc yb9 w 0 (λ_=>true) true n 55 ((([a,b,c,d,e]:List Value).drop 4).take (yb9.cellsOf 55))=xs[4]?:=hf 4 _ rfl
   rw[c55]at h;exact h
  rw[yau (by omega)]at f0 f1 f2 f3 f4
  obtain⟨s,rfl,hs⟩:=zBG f0
  have hsl:s.data.toList.length<=2^20:=Bk.str (H:=H) (hs▸hb.agg _ (yaW (yaw (show 0<xs.length by omega))))
  obtain⟨k,rfl,_⟩:=zeO f3
  obtain⟨pv,ps,⟨hp,hpl⟩,hp'⟩:=znv f1 (hwt 1 44 _ rfl (by simp[yau (show 1<xs.length by omega)])) (hb.agg _ (yaW (yaw (show 1<xs.length by omega))))
  obtain⟨lv,ls,⟨hl,hll⟩,hl'⟩:=znv f2 (hwt 2 44 _ rfl (by simp[yau (show 2<xs.length by omega)])) (hb.agg _ (yaW (yaw (show 2<xs.length by omega))))
  obtain⟨tv,ts,⟨ht,htl,htr,htn⟩,ht'⟩:=zvO f4 (hwt 4 55 _ rfl (by simp[yau (show 4<xs.length by omega)])) (hb.agg _ (yaW (yaw (show 4<xs.length by omega))))
  refine⟨_,⟨s.data.toList,ps,ls,k,ts⟩,⟨⟨pv,lv,tv,rfl,hp,hl,ht⟩,⟨hpl,hll,htl,htr,hsl,λl h w hw=>by have:=(htn l h w hw).2;omega⟩,htn⟩,rfl,λj h1 h2=>?_⟩
  have:j<5:=h2
  match j,this with
  | 0,_=>exact .str s
  | 1,_=>exact hp'.tO hp.one.2.2
  | 2,_=>exact hl'.tO hl.one.2.2
  | 3,_=>exact .int ..
  | 4,_=>exact ht'.tO ht.one.2.2
theorem zLa{H:Type}{enc:TypeId × Value->H}{w:World}{n:Nat}{cs:List Value}{x:DataW H × List MemPlace}(h:DataW.trod enc yb9 w 0 (λ_=>true) true n 28 cs=some x)(hw:znJ 28 x.1)(hb:Bk x.1):∃v m,MV v m/\m.funcs.length<=2^20/\(∀f∈m.funcs,zJz f)/\(∀f∈m.funcs,RgL f.lists)/\zdr w v cs:=by
 obtain⟨xs,n,rfl,hx,hlen,hxl,hf⟩:=DataW.trod_struct yee h
 have hxl':xs.length=3:=hxl
 have hlen':cs.length=3:=hlen.trans (by kernel_rfl)
 unfold znJ at hw
 rw[hx]at hw hb
 unfold DataW.weights at hw
 rw[yee]at hw
 simp only at hw
 have hwt:=zpa hw
 match cs,hlen' with
 | [a,b,c],_ =>
  have c26:yb9.cellsOf 26=1:=by kernel_rfl
  have c3:yb9.cellsOf 3=1:=by kernel_rfl
  have f0:DataW.trod enc yb9 w 0 (λ_=>true) true n 26 [a]=xs[0]?:=by
   have h:DataW.trod enc yb9 w 0 (λ_=>true) true n 26 ((([a,b,c]:List Value).drop 0).take (yb9.cellsOf 26))=xs[0]?:=hf 0 _ rfl
   rw[c26]at h;exact h
  have f1:DataW.trod enc yb9 w 0 (λ_=>true) true n 3 [b]=xs[1]?:=by
   have h:DataW.trod enc yb9 w 0 (λ_=>true) true n 3 ((([a,b,c]:List Value).drop 1).take (yb9.cellsOf 3))=xs[1]?:=hf 1 _ rfl
   rw[c3]at h;exact h
  have f2:DataW.trod enc yb9 w 0 (λ_=>true) true n 3 [c]=xs[2]?:=by
   have h:DataW.trod enc yb9 w 0 (λ_=>true) true n 3 ((([a,b,c]:List Value).drop 2).take (yb9.cellsOf 3))=xs[2]?:=hf 2 _ rfl
   rw[c3]at h;exact h
  rw[yau (by omega)]at f0 f1 f2
  obtain⟨k1,rfl,_⟩:=zeO f1
  obtain⟨k2,rfl,_⟩:=zeO f2
  obtain⟨fv,fs,h1,h2,h3⟩:=zgh (sz:=5) FR Tryz.underlying26 (by kernel_rfl) (by omega) (of_decide_eq_true (by kernel_rfl)) (λn cs' d q h hw hb=>zK9 h hw hb) f0 (hwt 0 26 _ rfl (by simp[yau (show 0<xs.length by omega)])) (hb.agg _ (yaW (yaw (show 0<xs.length by omega))))
  have hfv:FsV fv fs/\∀f∈fs,∃v,FR v f:=by
   rcases h2 with ⟨rfl,rfl⟩|⟨vs,rfl,h4⟩
   .exact⟨.inl ⟨rfl,rfl⟩,by simp⟩
   .exact⟨.inr ⟨false,vs,rfl,h4.mono λ_ _ h=>h.1⟩,h4.right λv _ h=>⟨v,h⟩⟩
  obtain⟨hfv,hall⟩:=hfv
  refine⟨_,⟨fs,k1,k2⟩,⟨fv,rfl,hfv⟩,h3,λf hf=>?_,λf hf=>?_,rfl,λj h4 h5=>?_⟩
  .obtain⟨v,h⟩:=hall f hf;exact h.2.1
  .obtain⟨v,h⟩:=hall f hf;exact h.2.2
  have:j<3:=h5
  match j,this with
  | 0,_=>exact h1.tO hfv.one.2.2
  | 1,_=>exact .int ..
  | 2,_=>exact .int ..
theorem zLb{H:Type}{enc:TypeId × Value->H}{W:World}{v:Value}{d:DataW H}{p:List MemPlace}{base:Nat}(hval:Value.okWide yb9 W .any base 28 v)(h:DataW.Trod enc yb9 W 0 (λ_=>true) true 28 v d p)
  (hw:znJ 28 d) (hb:Bk d):∃mv m,MV mv m/\m.funcs.length<=2^20/\(∀f∈m.funcs,zJz f)/\(∀f∈m.funcs,RgL f.lists)/\VR (Mp.all W) AS.zero.F W mv v:=by
 obtain⟨cs,rfl,hsz⟩:=okWide_struct yee hval
 obtain⟨fuel,hf⟩:=h
 obtain⟨mv,m,h1,h2,h3,h4,h5⟩:=zLa hf hw hb
 obtain⟨fv,rfl,hfs⟩:=h1
 refine⟨_,m,⟨fv,rfl,hfs⟩,h2,h3,h4,.agg _ _ ?_ λj h h'=>?_⟩
 .have:=h5.1
  simp[AV.cells,Value.cells]at this ⊢
  omega
 .exact h5.2 j h (by simpa [Value.cells]using h')
theorem zy5{H:Type}{enc:TypeId × Value->H}{W:World}{v:Value}{d:DataW H}{p:List MemPlace}{base:Nat}(hval:Value.okWide yb9 W .any base 44 v)(h:DataW.Trod enc yb9 W 0 (λ_=>true) true 44 v d p)
  (hw:znJ 44 d) (hb:Bk d):∃iv input,zaR iv input/\VR (Mp.all W) AS.zero.F W iv v:=by
 obtain⟨a,len,cap,rfl⟩:=okWide_slice yec hval
 obtain⟨fuel,hf⟩:=h
 obtain⟨iv,input,⟨h1,h2⟩,h4⟩:=znv (cs:=[.slice a len cap]) hf hw hb
 exact⟨iv,input,h1,h4.tO h1.one.2.2⟩
theorem zy6{H:Type}{enc:TypeId × Value->H}{w:World}{n:Int}{d:DataW H}{p:List MemPlace}(h:DataW.Trod enc yb9 w 0 (λ_=>true) true 3 (.int .i64 n) d p):-(2^63)<=n/\n<2^63:=by
 obtain⟨fuel,hf⟩:=h
 obtain⟨k,e,h1,h2⟩:=zeO (c:=.int .i64 n) hf
 simp only[Value.int.injEq,true_and]at e
 subst e
 exact⟨h1,h2⟩
def zi9(M:Mp):Mp:={ M with role:=λB=>match M.role B with
  | some (.fam _)=>some .stat
  | r=>r }
def zy7:Nat->FSt:=λ_=>.dead
def znw(J:AS):AS:={ J with F:=zy7 }
@[simp] theorem zFk(J:AS):(znw J).objs=J.objs:=rfl
@[simp] theorem zJA(J:AS):(znw J).no=J.no:=rfl
theorem zvP{M:Mp}{B f:Nat}(h:M.role B=some (.fam f)):(zi9 M).role B=some .stat:=by simp[zi9,h]
theorem zg0{M:Mp}{B:Nat}{r:Role}(h:M.role B=some r)(hr:∀f,r≠.fam f):(zi9 M).role B=some r:=by
 cases r with
 | fam f=>exact absurd rfl (hr f)
 | st m=>simp[zi9,h]
 | obj=>simp[zi9,h]
theorem znx{M:Mp}{F:Nat->FSt}{w:World}:Ext M F w (zi9 M) zy7 w where
 io:=.refl _
 no:=yah _
 nf:=yah _
 obj _ _:=rfl
 dead _ _ _:=rfl
 spoil _ _ _:=by simp[zy7]
 size:=yah _
 shape _ _ _ _ h:=.same h rfl
 stat B m h:=⟨zg0 h (λf q=>by cases q),.inl rfl⟩
 free B _ h:=⟨by simp[zi9,h],rfl⟩
 famr _ _ _ _ h:=absurd rfl h
 famc _ _ _ _ _:=rfl
end Go.Proofs.YtohfclafhegadaaGreatDoor
namespace Go.Abs
open Go Go.Abs Go.RowKit Go.ChangeShapes Go.WideShapes Go.ChangeAt
open Go.Proofs.YtohfclafhegadaaGreatDoor
theorem Sim.kill{M:Mp}{J:AS}{w:World}(S:Sim M J w):Sim (zi9 M) (znw J) w where
 no:=S.no
 nf:=S.nf
 role B r h:=by
  cases hq:M.role B with
  | none=>simp[zi9,hq]at h
  | some r'=>exact S.role B r' hq
 obj o cs h:=by
  obtain⟨h1,h2,h3⟩:=S.obj o cs h
  refine⟨h1,zg0 h2 (λf q=>by cases q),λj hj=>?_⟩
  obtain⟨c,a,b,d⟩:=h3 j hj
  exact⟨c,a,b,d.mono znx⟩
 inj:=S.inj
end Go.Abs
namespace Go.Proofs.YtohfclafhegadaaGreatDoor
open Go Go.Abs Go.RowKit Go.ChangeShapes Go.WideShapes Go.ChangeAt
end Go.Proofs.YtohfclafhegadaaGreatDoor
namespace Go.Abs
open Go Go.Abs Go.RowKit Go.ChangeShapes Go.WideShapes Go.ChangeAt
open Go.Proofs.YtohfclafhegadaaGreatDoor
theorem VR.kill{M:Mp}{F:Nat->FSt}{w:World}{v:AV}{c:Value}(h:VR M F w v c)(hs:Cb F v):VR (zi9 M) zy7 w (Go.Proofs.YtohfclafhegadaaGreatDoor.clm v) c :=
 h.clmTo (λ_ m h=>zg0 h (λf q=>by cases q)) (λ_ f h=>⟨false,zvP h⟩) hs
end Go.Abs
namespace Go.Proofs.YtohfclafhegadaaGreatDoor
open Go Go.Abs Go.RowKit Go.ChangeShapes Go.WideShapes Go.ChangeAt
theorem zH2{P:Program}{G:Env}{f:FuncId}{args:List AV}{J:AS}{R:Out->AS->Prop}
  (h:ACalls P G f args J λo J'=>R o J'\/(∃v,o=.ret v/\Cb J'.F v/\R (.ret (clm v)) (znw J'))\/∃vs,o=.ret (.tuple vs)/\(∀v∈vs,Cb J'.F v)/\R (.ret (.tuple (vs.map clm))) (znw J')):ACalls P G f args J R:=by
 intro M w cargs S g c
 refine(h M w cargs S g c).mono λe w' ⟨o,J',M',hR,h2,h3,h4⟩=>?_
 rcases hR with hR|⟨v,ho,hv,hR⟩|⟨vs,ho,hv,hR⟩
 .exact⟨o,J',M',hR,h2,h3,h4⟩
 .subst ho
  refine⟨_,_,zi9 M',hR,?_,h3.kill,h4.trans znx⟩
  cases e<;>simp only[zbj]at h2 ⊢
  exact h2.kill hv
 .subst ho
  refine⟨_,_,zi9 M',hR,?_,h3.kill,h4.trans znx⟩
  cases e<;>simp only[zbj]at h2 ⊢
  generalize hq:AV.tuple vs=t at h2
  cases h2 with
  | tuple ws A hA va =>
   cases hq
   refine .tuple _ _ (by simpa using hA) λj h h'=>?_
   rw[yak]
   exact(va j (by simpa using h) h').kill (hv _ (yaw _))
  | _=>cases hq
end Go.Proofs.YtohfclafhegadaaGreatDoor
