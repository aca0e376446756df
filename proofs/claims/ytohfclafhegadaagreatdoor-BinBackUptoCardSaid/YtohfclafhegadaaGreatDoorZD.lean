/- Parts of the proof of the row BinBackUpto: contracts of functions, each under the conditions that its theorem names. -/
import Derived.Test.YtohfclafhegadaaGreatDoorZC
import Derived.Test.YtohfclafhegadaaGreatDoorZB
import Derived.Test.YtohfclafhegadaaGreatDoorZA
import Derived.Test.YtohfclafhegadaaGreatDoorAbsB
set_option linter.unusedSimpArgs false
set_option linter.unusedVariables false
set_option maxRecDepth 100000
open List renaming mem_of_getElem?->yc5,getElem_mem->yaw,take_succ_eq_append_getElem->ycX,take_length->ycY,take_of_length_le->ydg,replicate->yaj,length_cons->yac,length_pos_iff->ybm,getLast?_eq_some_getLast->yeg,append_assoc->ydB,getElem?_eq_getElem->yau,getD_eq_getElem?_getD->ycQ,all_eq_true->yaM,length_nil->ybl,reverse_nil->yei,reverse_cons->yej,nil_append->ydq,length_take->ybf,mem_flatMap->yc8,cons->ydW,take->ydl,map_take->yc3,cons_append->yc1,length_append->yab,length_singleton->yem,mem_append->ybh,replicate_succ->ydb,getElem?_eq_some_iff->yaq,map_set->yeo,flatMap_cons->yaa,count_append->yep,count_singleton->yeq,getElem_of_mem->ya9,mem_cons->ybC,getElem?_append_left->yat,getElem?_append_right->yaI,getElem?_cons_zero->yd0,prefix_append->ydA,prefix_refl->ydC,getElem?_eq_none_iff->yer,getElem?_eq_none->yb2,find?_cons->yet,map_cons->yaL,mem_singleton->ydf
open Nat renaming le_refl->yah,lt_of_lt_of_le->yag,le_trans->yai,pow_le_pow_right->yel
open Option renaming map_some->yaG,some->yaR,bind_some->ydx,bind_eq_some_iff->ybA,map_eq_some_iff->ybB
open Int renaming le_refl->yeh,eq_ofNat_of_zero_le->yek,toNat_natCast->ybe
open Go.Proofs.Tryz renaming prog->yb9
open Go.IntKind renaming wrap->yb4,u64->ydO,i64->yam,i32->yef,u8->ydM,bits->yap,signed->yao
open Go.Abs.AV renaming int->yc0,str->ycZ,slm->yen
namespace Go.Proofs.YtohfclafhegadaaGreatDoor
open Go Go.Abs
def zpz(M:Mp):Mp where
 role B:=match M.role B with
  | some (.st m)=>some (.st m)
  | _=>none
 obj:=M.obj
 no:=0
 nf:=1
def zkW(M M':Mp)(n:Nat):Mp:={ M with role:=λB=>match M.role B with
  | some r=>some r
  | none=>if B<n then none else match M'.role B with
   | some (.st m)=>some (.st m)
   | some (.fam _)=>some .stat
   | _=>none }
theorem zpc{M:Mp}{B m}(h:M.role B=some (.st m)):(zpz M).role B=some (.st m):=by simp[zpz,h]
theorem zmf{M:Mp}{B}(h:∀m,M.role B≠some (.st m)):(zpz M).role B=none:=by
 cases hq:M.role B with
 | none=>simp[zpz,hq]
 | some r =>
  cases r with
  | st m=>exact absurd hq (h m)
  | fam f=>simp[zpz,hq]
  | obj=>simp[zpz,hq]
theorem zfN{M M':Mp}{n B r}(h:M.role B=some r):(zkW M M' n).role B=some r:=by simp[zkW,h]
theorem zvQ{M M':Mp}{n B}(h:M.role B=none)(hB:B<n):(zkW M M' n).role B=none:=by simp[zkW,h,hB]
end Go.Proofs.YtohfclafhegadaaGreatDoor
namespace Go.Abs
open Go Go.Abs
open Go.Proofs.YtohfclafhegadaaGreatDoor
theorem Sim.rid{M:Mp}{J:AS}{w:World}(S:Sim M J w):Sim (zpz M) AS.bare w where
 no:=rfl
 nf:=rfl
 role B r h:=by
  cases hq:M.role B with
  | none=>simp[zpz,hq]at h
  | some r'=>exact S.role B r' hq
 obj o cs h:=by cases h
 inj o o' h:=by cases h
end Go.Abs
namespace Go.Proofs.YtohfclafhegadaaGreatDoor
open Go Go.Abs
section
variable {M M' : Mp} {J : AS} {w w' : World} {F' : Nat -> FSt}
theorem zr8(S:Sim M J w)(E:Ext (zpz M) AS.bare.F w M' F' w'){B:Nat}{r:Role}(h:M.role B=some r)(hr:∀m,r≠.st m):w'.heap[B]?=w.heap[B]? :=
 (E.free B (S.role B r h) (zmf λm q=>by rw[h]at q;cases q;exact hr m rfl)).2
theorem zr9(S:Sim M J w)(E:Ext (zpz M) AS.bare.F w M' F' w'):Ext M J.F w (zkW M M' w.heap.size) J.F w' where
 io:=E.io
 no:=yah _
 nf:=yah _
 obj _ _:=rfl
 dead _ _ h:=h
 spoil _ _ h:=by rw[h];simp
 size:=E.size
 shape B c e z h:=by
  obtain⟨c',z',h1,h2,h3⟩:=E.shape B c e z h
  refine⟨c',z',h1,h2,λhn=>?_⟩
  have hB:=(Array.getElem?_eq_some_iff.1 h).1
  have hq:w'.heap[B]?=w.heap[B]?:=(E.free B hB (zmf λm q=>hn m (zfN q))).2
  rw[hq,h]at h1
  cases h1
  exact λ_ _ q=>q
 stat B m h:=⟨zfN h,(E.stat B m (zpc h)).2⟩
 free B hB h:=⟨zvQ h hB,(E.free B hB (zmf λm q=>by rw[h]at q;cases q)).2⟩
 famr B f _ h _:=zfN h
 famc B f _ h _:=zr8 S E h (λm q=>by cases q)
theorem zy8(S:Sim M J w)(E:Ext (zpz M) AS.bare.F w M' F' w'){J':AS}(S':Sim M' J' w'):Sim (zkW M M' w.heap.size) J w' where
 no:=S.no
 nf:=S.nf
 role B r h:=by
  cases hq:M.role B with
  | some r'=>exact yag (S.role B r' hq) E.size
  | none =>
   by_cases hB:B<w.heap.size
   .exact yag hB E.size
   .cases hq':M'.role B with
    | none=>simp[zkW,hq,hB,hq']at h
    | some r'=>exact S'.role B r' hq'
 obj o cs h:=by
  obtain⟨h1,h2,h3⟩:=S.obj o cs h
  have hq:=zr8 S E h2 (λm q=>by cases q)
  refine⟨h1,zfN h2,λj hj=>?_⟩
  obtain⟨c,a,b,d⟩:=h3 j hj
  exact⟨c,(zt hq).trans a,(zr hq).trans b,d.mono (zr9 S E)⟩
 inj:=S.inj
theorem zD2(S:Sim M J w)(E:Ext (zpz M) AS.bare.F w M' F' w'){v:AV}{c:Value}(h:VR M' F' w' v c)(hs:Cb F' v):VR (zkW M M' w.heap.size) J.F w' (clm v) c:=by
 have old:∀B r,B<w.heap.size->M'.role B=some r->∃m,r=.st m/\M.role B=some (.st m):=λB r hB hr=>by
  cases hq:M.role B with
  | none =>
   have:=(E.free B hB (zmf λm q=>by rw[hq]at q;cases q)).1
   rw[hr]at this;cases this
  | some r' =>
   cases r' with
   | st m =>
    have:=(E.stat B m (zpc hq)).1
    rw[hr]at this;cases this
    exact⟨m,rfl,rfl⟩
   | fam f =>
    have:=(E.free B hB (zmf λm q=>by rw[hq]at q;cases q)).1
    rw[hr]at this;cases this
   | obj =>
    have:=(E.free B hB (zmf λm q=>by rw[hq]at q;cases q)).1
    rw[hr]at this;cases this
 have new:∀B,¬B<w.heap.size->M.role B=none:=λB hB=>by
  cases hq:M.role B with
  | none=>rfl
  | some r=>exact absurd (S.role B r hq) hB
 refine h.clmTo (λB m hm=>?_) (λB f hf=>?_) hs
 .by_cases hB:B<w.heap.size
  .obtain⟨m',e,hm'⟩:=old B _ hB hm
   cases e
   exact zfN hm'
  .simp[zkW,new B hB,hB,hm]
 .by_cases hB:B<w.heap.size
  .obtain⟨m',e,hm'⟩:=old B _ hB hf
   cases e
  .exact⟨false,by simp[zkW,new B hB,hB,hf]⟩
end
theorem zD3{P:Program}{G:Env}{M:Mp}{J:AS}{w:World}(g:GOk P G M J.F w)(hG:∀k,StillI (G.g k))(hy:∀l,¬G.has l):GOk P G (zpz M) AS.bare.F w where
 vars k:=(g.vars k).stillI (λ_ _ h=>zpc h) (hG k)
 yields l hl:=absurd hl (hy l)
 fixed B cs hB:=by
  obtain⟨h1,h2⟩:=g.fixed B cs hB
  exact⟨zpc h1,h2⟩
theorem zy9{P:Program}{G:Env}{f:FuncId}{J:AS}{R:Out->AS->Prop}{vs:List AV}{Q:List AV->Prop}(hG:∀k,StillI (G.g k))(hy:∀l,¬G.has l)(hv:∀v∈vs,∀(M:Mp) (F:Nat->FSt) (w:World) (c:Value),VR M F w v c->VR (zpz M) AS.bare.F w v c)(h:ACalls P G f vs AS.bare λo J'=>∃xs,o=.ret (.tuple xs)/\(∀v∈xs,Cb J'.F v)/\Q xs)(hR:∀xs,Q xs->R (.ret (.tuple (xs.map clm))) J):ACalls P G f vs J R:=by
 intro M w cargs S g c
 refine(h (zpz M) w cargs S.rid (zD3 g hG hy) ⟨c.1,λj v hj=>?_⟩).mono λe w' ⟨o,J',M',⟨xs,ho,hx,hq⟩,h2,h3,h4⟩=>?_
 .obtain⟨c0,e0,q0⟩:=c.2 j v hj
  exact⟨c0,e0,hv v (yc5 hj) _ _ _ _ q0⟩
 .subst ho
  refine⟨_,J,zkW M M' w.heap.size,hR xs hq,?_,zy8 S h4 h3,zr9 S h4⟩
  cases e<;>simp only[zbj]at h2 ⊢
  generalize hq:AV.tuple xs=t at h2
  cases h2 with
  | tuple ws A hA va =>
   cases hq
   refine .tuple _ _ (by simpa using hA) λj h h'=>?_
   rw[List.getElem_map]
   exact zD2 S h4 (va j (by simpa using h) h') (hx _ (yaw _))
  | _=>cases hq
def SJ(va vb:AV)(p q:List Int)(J:AS)(a:Nat->AV)(Z:AS):Prop:=∃i:Nat,i<=p.length/\a 0=va/\a 1=vb/\a 5=.int .i64 (i:Int)/\Z=J/\p.take i=q.take i
theorem zlz{G:Env}{J:AS}{R:Out->AS->Prop}{va vb:AV}{p q:List Int}(ha:zaR va p)(hb:zaR vb q)(hl:p.length<=2^40)(h:R (.ret (.bool (decide (p=q)))) J):zzQ G 79 [va,vb] J R:=by
 refine zuA rfl ?_
 have hal:=ha.len
 have hbl:=hb.len
 by_cases he:p.length=q.length
 .have he':(p.length:Int)=(q.length:Int):=by omega
  simp[zJa,hal,hbl,he]
  refine zS (SJ va vb p q J) (MU 5 (p.length+1)) ⟨0,by omega,by simp,by simp,by simp,rfl,by simp⟩ λa Z hI=>?_
  obtain⟨i,hi,a0,a1,a5,rfl,ht⟩:=hI
  by_cases hlt:i<p.length
  .have hlq:i<q.length:=by omega
   obtain⟨b1,hx1⟩:=ha.at hlt
   obtain⟨b2,hx2⟩:=hb.at hlq
   have w5:yb4 .i64 ((i:Int)+1)=((i+1:Nat):Int):=by rw[zb]<;>omega
   by_cases hv:p[i]=q[i]
   .simp[zgQ,a0,a1,a5,hal,hlt,hx1,hx2,hv,w5]
    refine⟨⟨i+1,by omega,by simp[a0],by simp[a1],by simp,rfl,?_⟩,?_⟩
    .rw[ycX hlt,ycX hlq,ht,hv]
    .simp only[MU,a5];simp;omega
   .have hne:p≠q:=by rintro rfl;exact hv rfl
    rw[decide_eq_false hne]at h
    simp[zgQ,a0,a1,a5,hal,hlt,hx1,hx2,hv]
    exact h
  .have e:i=p.length:=by omega
   subst e
   rw[ycY,ydg (by omega)]at ht
   rw[decide_eq_true ht]at h
   simp[zgQ,zp3,a0,a1,a5,hal]
   exact h
 .have hne:p≠q:=by rintro rfl;exact he rfl
  rw[decide_eq_false hne]at h
  have he':¬(p.length:Int)=(q.length:Int):=by omega
  simp[zJa,hal,hbl,he']
  exact h
end Go.Proofs.YtohfclafhegadaaGreatDoor


namespace Go.Proofs.YtohfclafhegadaaGreatDoor
open Go Go.Abs
structure za1 where
 input:List Int
 steps:Int
 memory:List UInt8
 out:List Int
 calls:Int
structure Fr where
 fn:F
 locals:List Int
 stack:List Int
 result:Int
inductive Ev(α:Type) where
 | ok (a:α) (x:za1) (r:Fr)
 | over (status code:Int) (x:za1)
 | bad
def Fr.push(r:Fr)(v:Int):Fr:={ r with stack:=r.stack++[v] }
def zde{α:Type}(r:Fr)(k:Int->Fr->Ev α):Ev α:=match r.stack.getLast? with
 | none=>.bad
 | some v=>k v { r with stack:=r.stack.dropLast }
def zg1(k:IntKind)(op:List UInt8)(a b:Int):Int × Int :=
 if b=0 then(0,1)
 else if op=[37]/\b=-1 then(0,0)
 else if op=[37]then(a.tmod b,0)
 else if b=-1/\a≠0/\k.wrap (-a)=a then(0,2)
 else(k.wrap (a.tdiv b),0)
def zwF(b:Bool):Int:=if b then 1 else 0
def zvR(k:IntKind)(op:List UInt8)(a b:Int)(width:Int):Int :=
 let n:=zbo .u64 (· &&& ·) (ydO.wrap b) (ydO.wrap (width-1))
 if op=[43]then k.wrap (a+b)
 else if op=[45]then k.wrap (a-b)
 else if op=[42]then k.wrap (a*b)
 else if op=[38]then zbo k (· &&& ·) a b
 else if op=[124]then zbo k (· ||| ·) a b
 else if op=[94]then zbo k (· ^^^ ·) a b
 else if op=[60,60]then k.wrap (a*2^(min n.toNat k.bits))
 else if op=[62,62]then a.fdiv (2^(min n.toNat k.bits))
 else if op=[61,61]then zwF (decide (a=b))
 else if op=[33,61]then zwF (!decide (a=b))
 else if op=[60]then zwF (decide (a<b))
 else if op=[60,61]then zwF (decide (a<=b))
 else if op=[62]then zwF (decide (b<a))
 else if op=[62,61]then zwF (decide (b<=a))
 else 0
def zAa(k:IntKind)(op:List UInt8)(a b:Int)(width:Int):Int × Int :=
 if op=[47]\/op=[37]then zg1 k op a b else(zvR k op a b width,0)
def zFl(t:Int)(op:List UInt8)(a b:Int):Int × Int :=
 if t=1 then(yam.wrap (zAa .i32 op (yef.wrap a) (yef.wrap b) 32).1,(zAa .i32 op (yef.wrap a) (yef.wrap b) 32).2)
 else if t=2 then zAa .i64 op a b 64
 else(0,0)
def zfO:List UInt8->Int
 | []=>0
 | c::l=>(c.toNat:Int)+256*zfO l
def zD4(l:List UInt8):Int:=if zfO l<2^(8*l.length-1)then zfO l else zfO l-2^(8*l.length)
def zvS(v:Int)(i:Nat):UInt8:=UInt8.ofNat (ydM.wrap (v.fdiv (2^(8*i)))).toNat
def zkX{α:Type}(x:za1)(at_ n:Int)(k:List UInt8->Ev α):Ev α :=
 if n<1\/8<n then .bad else if at_<0\/(x.memory.length:Int)-n<at_ then .over 2 3 x else k ((x.memory.drop at_.toNat).take n.toNat)
def zen(mem:List UInt8)(at_:Nat)(v:Int)(n:Nat):List UInt8:=mem.take at_++(List.range n).map (zvS v)++mem.drop (at_+n)
abbrev zg2:=za1->Fr->Int->Int->Ev Int
def zdj(rec:zg2)(x:za1)(g:F)(args:List Int)(r:Fr):Ev Int :=
 if 32<=x.calls then .over 2 4 x
 else match rec { x with calls:=x.calls+1 } ⟨g,args++yaj g.locals.length 0,[],0⟩ ((g.lists.length:Int)-1) 0 with
  | .bad=>.bad
  | .over s c x=>.over s c x
  | .ok o x f=>if o=-1/\g.type≠0 then zde f λv f'=>.ok v { x with calls:=x.calls-1 } r else .ok f.result { x with calls:=x.calls-1 } r
def zaG(fs:List F)(rec:zg2)(x:za1)(r:Fr)(n:Int):Ev Unit :=
 if n=0 then match x.input with
  | []=>.ok () x (r.push 0)
  | v::l=>.ok () { x with input:=l } (r.push v)
 else if n=1 then zde r λv r=>.ok () { x with out:=x.out++[v] } r
 else if n=2 then zde r λv r=>.over 2 v x
 else if n<3 then .bad
 else match fs[(n-3).toNat]? with
  | none=>.bad
  | some g =>
   if r.stack.length<g.params.length then .bad
   else match zdj rec x g (r.stack.drop (r.stack.length-g.params.length)) { r with stack:=r.stack.take (r.stack.length-g.params.length) }with
    | .bad=>.bad
    | .over s c x=>.over s c x
    | .ok v x r=>.ok () x (if g.type≠0 then r.push v else r)
def zaH(fs:List F)(rec:zg2)(w:W)(x:za1)(r:Fr):Ev Unit :=
 if w.op=1 then .ok () x (r.push w.n)
 else if w.op=2 then(if w.n<0 then .bad else match r.locals[w.n.toNat]? with
  | none=>.bad
  | some v=>.ok () x (r.push v))
 else if w.op=3 then(if w.n<0\/(r.locals.length:Int)<=w.n then .bad else zde r λv r=>.ok () x { r with locals:=r.locals.set w.n.toNat v })
 else if w.op=4 then zde r λb r=>zde r λa r =>
  if(zFl w.ty (zcs signs w.name) a b).2≠0 then .over 2 (zFl w.ty (zcs signs w.name) a b).2 x else .ok () x (r.push (zFl w.ty (zcs signs w.name) a b).1)
 else if w.op=5 then zde r λv r=>.ok () x (r.push (if v=0 then 1 else 0))
 else if w.op=6 then zde r λv r=>.ok () x (r.push (yef.wrap v))
 else if w.op=8 then zde r λa r=>zkX x a w.n λl=>.ok () x (r.push (zD4 l))
 else if w.op=9 then zde r λv r=>zde r λa r=>zkX x a w.n λl=>.ok () { x with memory:=zen x.memory a.toNat v l.length } r
 else if w.op=10 then zaG fs rec x r w.n
 else if w.op=17 then .over 2 5 x
 else if w.op=18 then zde r λv r=>.ok () x r
 else .ok () x r
def zdH(rec:zg2)(isLoop:Bool)(at_ deep:Int):Nat->za1->Fr->Ev Int
 | 0,_,_=>.bad
 | j+1,x,r=>match rec x r at_ deep with
  | .bad=>.bad
  | .over s c x=>.over s c x
  | .ok o x r=>if o=0/\isLoop=true then zdH rec isLoop at_ deep j x r else .ok (if 0<o then o-1 else -1) x r
def zbh(rec:zg2)(k:Nat)(w:W)(deep:Int)(x:za1)(r:Fr):Ev Int :=
 let go (at_:Int) (r:Fr):=if at_<0 then Ev.ok (-1) x r else zdH rec (decide (w.op=12)) at_ deep k x r
 if w.op=13 then zde r λc r=>go (if c=0 then w.other else w.body) r else go w.body r
def zja(w:W)(deep:Int)(x:za1)(r:Fr):Ev Int :=
 let go (n:Int) (r:Fr):=if n=deep/\r.fn.type≠0 then zde r λv r=>Ev.ok n x { r with result:=v }else .ok n x r
 if w.op=16 then go deep r
 else if w.op=15 then zde r λc r=>if c=0 then .ok (-1) x r else go w.n r
 else go w.n r
def zdk(fs:List F)(rec:zg2)(k:Nat)(deep:Int)(w:W)(x:za1)(r:Fr):Ev Int :=
 if w.op=11\/w.op=12\/w.op=13 then zbh rec k w (deep+1) x r
 else if w.op=14\/w.op=15\/w.op=16 then zja w deep x r
 else match zaH fs rec w x r with
  | .bad=>.bad
  | .over s c x=>.over s c x
  | .ok _ x r=>.ok (-1) x r
def zaZ(fs:List F)(rec:zg2)(k:Nat)(deep:Int)(height:Nat):List W->za1->Fr->Ev Int
 | [],x,r=>.ok (-1) x r
 | w::ws,x,r=>if x.steps<1 then .over 3 0 x else
  match zdk fs rec k deep w { x with steps:=x.steps-1 } r with
  | .bad=>.bad
  | .over s c x=>.over s c x
  | .ok o x r=>if o=-1 then zaZ fs rec k deep height ws x r else if r.stack.length<height then .bad else .ok o x { r with stack:=r.stack.take height }
def zny(fs:List F):Nat->zg2
 | 0,_,_,_,_=>.bad
 | k+1,x,r,at_,deep=>if at_<0 then .bad else match r.fn.lists[at_.toNat]? with
  | none=>.bad
  | some ws=>zaZ fs (zny fs k) k deep r.stack.length ws x r
def ztJ(m:M)(input:List Int)(steps:Int)(k:Nat):Option (List Int × Int × Int) :=
 if m.main<0 then none else match m.funcs[m.main.toNat]? with
 | none=>none
 | some g=>match zdj (zny m.funcs k) ⟨input,steps,yaj m.memory.toNat 0,[],0⟩ g [] ⟨g,[],[],0⟩with
  | .bad=>none
  | .over s c x=>some (x.out,s,c)
  | .ok v x _=>some (x.out,1,v)
theorem zaI:∀{ts:List Int} {s s':St},zaA ts s=.ok s'->s.any=false->s'.any=false/\s'.stack.length+ts.length=s.stack.length
 | [],s,s',h,ha=>by simp[zaA]at h;subst h;exact⟨ha,by simp⟩
 | t::ts,s,s',h,ha=>by
  rw[zaA]at h
  split at h
  .cases hd:ze1 s with
   | error e=>rw[hd]at h;cases h
   | ok s1 =>
    rw[hd]at h
    unfold ze1 at hd
    split at hd
    .rw[ha]at hd;cases hd
    .rename_i hne
     cases hd
     obtain⟨a1,a2⟩:=zaI h ha
     simp only[List.length_dropLast]at a2
     exact⟨a1,by simp only[yac];omega⟩
  .cases h
theorem zvT{s s':St}(h:ze1 s=.ok s')(ha:s.any=false):s'.any=false/\s'.stack.length+1=s.stack.length:=by
 unfold ze1 at h
 split at h
 .rw[ha]at h;cases h
 .cases h;exact⟨ha,by simp;omega⟩
theorem zfP(s:St)(t:Int):(zeE s t).any=s.any/\(zeE s t).stack.length=s.stack.length+(if t=0 then 0 else 1):=by
 unfold zeE;split<;>simp
theorem zc1{r:Res St}{t:Int}{s':St}(h:zgR r t=.ok s'):∃s,r=.ok s/\s'=zeE s t:=by
 cases r with
 | error e=>cases h
 | ok s=>exact⟨s,rfl,by cases h;rfl⟩
theorem zdQ{ty:Int}{s s':St}(h:zK ty s=.ok s')(ha:s.any=false):s'.any=false/\s'.stack.length+(if ty=0 then 0 else 1)=s.stack.length:=by
 unfold zK at h
 by_cases h0:ty=0
 .rw[if_pos h0]at h ⊢;cases h;exact⟨ha,rfl⟩
 .rw[if_neg h0]at h ⊢;have:=zaI h ha;simpa using this
theorem zg3{α:Type}{r:Fr}{k:Int->Fr->Ev α}(h:0<r.stack.length):∃v st,st.length+1=r.stack.length/\zde r k=k v { r with stack:=st }:=by
 unfold zde
 have hne:r.stack≠[]:=ybm.1 h
 rw[yeg hne]
 exact⟨_,_,by simp;omega,rfl⟩
structure zD5(fs:List F)(r:Fr):Prop where
 mem:r.fn∈fs
 loc:r.locals.length=(r.fn.params++r.fn.locals).length
structure Beh(d:Int)(x x':za1):Prop where
 steps:x'.steps<=x.steps
 low:min x.steps 0<=x'.steps
 out:∃l,x'.out=x.out++l/\(l.length:Int)<=x.steps-x'.steps+d
theorem Beh.refl(x):Beh 0 x x:=⟨yeh _,by omega,[],by simp,by simp⟩
theorem Beh.trans{d e a b c}(h:Beh d a b)(k:Beh e b c):Beh (d+e) a c:=by
 obtain⟨h1,h4,l,h2,h3⟩:=h
 obtain⟨k1,k4,m,k2,k3⟩:=k
 exact⟨by omega,by omega,l++m,by rw[k2,h2,ydB],by simp;omega⟩
theorem Beh.trans0{d a b c}(h:Beh 0 a b)(k:Beh d b c):Beh d a c:=by have:=h.trans k;simpa using this
theorem Beh.weak{d e x x'}(h:Beh d x x')(hd:d<=e):Beh e x x':=⟨h.steps,h.low,let ⟨l,a,b⟩:=h.out;⟨l,a,by omega⟩⟩
theorem Beh.step{x x':za1}(h:Beh 1 { x with steps:=x.steps-1 } x')(hx:1<=x.steps):Beh 0 x x'/\x'.steps<x.steps:=by
 obtain⟨h1,h4,l,h2,h3⟩:=h
 simp only at h1 h2 h3 h4
 exact⟨⟨by omega,by omega,l,h2,by omega⟩,by omega⟩
def zkY(s c:Int):Prop:=s=2\/(s=3/\c=0)
def zMG(x:za1)(r:Fr)(deep:Int):Ev Int->Prop
 | .bad=>False
 | .over s c x'=>Beh 0 x x'/\zkY s c
 | .ok o x' r'=>Beh 0 x x'/\r'.fn=r.fn/\r'.locals.length=r.locals.length/\(o=-1->r'.stack.length=r.stack.length+(if deep=0/\r.fn.type≠0 then 1 else 0)) /\
   (o≠-1->0<=o/\o<=deep/\r'.stack.length=r.stack.length/\x'.steps<x.steps/\0<x.steps)
def zqT(fs:List F)(rec:zg2)(n:Nat):Prop:=∀(x:za1) (r:Fr) (at_ deep:Int) (K:Nat),zD5 fs r->x.steps.toNat<n->0<=deep->0<=at_->at_<(r.fn.lists.length:Int) ->
 zam fs (r.fn.params++r.fn.locals) r.fn.type r.fn.lists K at_ deep=.ok ()->zMG x r deep (rec x r at_ deep)
def zH3(d:Int)(x:za1)(r:Fr)(h:Nat)(s':St)(deep:Int):Ev Int->Prop
 | .bad=>False
 | .over s c x'=>Beh d x x'/\zkY s c
 | .ok o x' r'=>Beh d x x'/\r'.fn=r.fn/\r'.locals.length=r.locals.length/\(o=-1->s'.any=false/\r'.stack.length=h+s'.stack.length)/\(o≠-1->0<=o/\o<=deep/\h<=r'.stack.length)
def zJB(x:za1)(r:Fr)(h:Nat)(s':St):Ev Unit->Prop
 | .bad=>False
 | .over s c x'=>Beh 1 x x'/\zkY s c
 | .ok _ x' r'=>Beh 1 x x'/\r'.fn=r.fn/\r'.locals.length=r.locals.length/\s'.any=false/\r'.stack.length=h+s'.stack.length
theorem zlA{fs:List F}{f:F}(h:zk fs f=.ok ()):∃K,zam fs (f.params++f.locals) f.type f.lists K ((f.lists.length:Int)-1) 0=.ok ():=by
 unfold zk at h
 split at h
 .cases h
 .split at h
  .cases h
  .exact⟨_,h⟩
section
variable {fs : List F} {rec : zg2} {n : Nat} (hv : ∀ f ∈ fs,zk fs f = .ok ())
include hv
theorem zmg(hs:zqT fs rec n){x:za1}(hx:x.steps.toNat<n){g:F}(hg:g∈fs){args:List Int}(ha:args.length=g.params.length)(r:Fr):
  match zdj rec x g args r with
  | .bad=>False
  | .over s c x'=>Beh 0 x x'/\zkY s c
  | .ok _ x' r'=>Beh 0 x x'/\r'=r:=by
 unfold zdj
 by_cases hc:32<=x.calls
 .rw[if_pos hc];exact⟨.refl _,.inl rfl⟩
 .rw[if_neg hc]
  obtain⟨K,hK⟩:=zlA (hv g hg)
  have hl:=(zbU (zV (hv g hg))).1
  have:=hs { x with calls:=x.calls+1 } ⟨g,args++yaj g.locals.length 0,[],0⟩ ((g.lists.length:Int)-1) 0 K ⟨hg,by simp[ha]⟩ hx (by omega) (by omega) (by simp only;omega) hK
  revert this
  cases rec { x with calls:=x.calls+1 } ⟨g,args++yaj g.locals.length 0,[],0⟩ ((g.lists.length:Int)-1) 0 with
  | bad=>intro h;exact h
  | over s c x'=>intro h;exact⟨⟨h.1.steps,h.1.low,h.1.out⟩,h.2⟩
  | ok o x' f =>
   intro ⟨h1,h2,h3,h4,h5⟩
   simp only at h4 ⊢
   by_cases ho:o=-1/\g.type≠0
   .rw[if_pos ho]
    have:=h4 ho.1
    rw[if_pos ⟨trivial,ho.2⟩]at this
    obtain⟨v,st,_,e⟩:=zg3 (r:=f) (k:=λv f'=>Ev.ok v { x' with calls:=x'.calls-1 } r) (by simp at this;omega)
    rw[e]
    exact⟨⟨h1.steps,h1.low,h1.out⟩,rfl⟩
   .rw[if_neg ho]
    exact⟨⟨h1.steps,h1.low,h1.out⟩,rfl⟩
theorem plain_sound(hs:zqT fs rec n){x:za1}(hx:x.steps.toNat<n){r:Fr}(hr:zD5 fs r){w:W}{s s':St}{h:Nat}(ha:s.any=false)(hst:r.stack.length=h+s.stack.length){deep:Int}
  (hform:zT w=true) (hrg:zN fs (r.fn.params++r.fn.locals) deep w=true) (hnum:(r.fn.params++r.fn.locals).all zac=true) (hp:zc7 fs (r.fn.params++r.fn.locals) w s=.ok s') (hop:w.op<=10\/w.op=18):zJB x r h s' (zaH fs rec w x r):=by
 have b0:Beh 1 x x:=(Beh.refl x).weak (by omega)
 have nz:∀{t:Int},zac t=true->t≠0:=by
  intro t ht q;subst q;simp[zac]at ht
 have push:∀{x':za1} {r1:Fr} {s1:St} {t v:Int},Beh 1 x x'->r1.fn=r.fn->r1.locals.length=r.locals.length->s1.any=false->r1.stack.length=h+s1.stack.length->t≠0->zJB x r h (zeE s1 t) (.ok () x' (r1.push v)):=by
  intro x' r1 s1 t v b e1 e2 a l ht
  have g:=zfP s1 t
  refine⟨b,e1,e2,g.1.trans a,?_⟩
  rw[g.2,if_neg ht]
  simp[Fr.push,l];omega
 have pop:∀{r1:Fr} {s1 s2:St} {k:Int->Fr->Ev Unit},r1.fn=r.fn->r1.locals.length=r.locals.length->r1.stack.length=h+(s1.stack.length+1)->(∀v (r2:Fr),r2.fn=r.fn->r2.locals.length=r.locals.length->r2.stack.length=h+s1.stack.length->zJB x r h s2 (k v r2))->zJB x r h s2 (zde r1 k):=by
  intro r1 s1 s2 k e1 e2 l hk
  obtain⟨v,st,hl,e⟩:=zg3 (r:=r1) (k:=k) (by omega)
  rw[e]
  exact hk v _ e1 e2 (by simp only;omega)
 unfold zc7 at hp
 unfold zaH
 by_cases h1:w.op=1
 .rw[if_pos h1]at hp ⊢
  cases hp
  exact push b0 rfl rfl ha hst (nz (by simpa [zT,h1]using hform))
 rw[if_neg h1]at hp ⊢
 by_cases h2:w.op=2
 .rw[if_pos h2]at hp ⊢
  cases hp
  have hr2:0<=w.n/\w.n<(((r.fn.params++r.fn.locals).length:Nat):Int):=by simpa [zN,h1,h2]using hrg
  rw[if_neg (by omega)]
  have hlt:w.n.toNat<r.locals.length:=by rw[hr.loc];omega
  rw[yau hlt]
  refine push b0 rfl rfl ha hst (nz ?_)
  unfold zkj
  have hlt2:w.n.toNat<(r.fn.params++r.fn.locals).length:=by omega
  rw[ycQ,yau hlt2]
  exact yaM.1 hnum _ (yaw hlt2)
 rw[if_neg h2]at hp ⊢
 by_cases h3:w.op=3
 .rw[if_pos h3]at hp ⊢
  have hr2:0<=w.n/\w.n<(((r.fn.params++r.fn.locals).length:Nat):Int):=by simpa [zN,h1,h2,h3]using hrg
  rw[if_neg (by rw[hr.loc];omega)]
  obtain⟨a1,l1⟩:=zaI hp ha
  simp only[yac,ybl]at l1
  exact pop (s1:=s') rfl rfl (by omega) λv r2 e1 e2 l=>⟨b0,e1,by simpa using e2,a1,l⟩
 rw[if_neg h3]at hp ⊢
 by_cases h4:w.op=4
 .rw[if_pos h4]at hp ⊢
  obtain⟨s1,e1,rfl⟩:=zc1 hp
  obtain⟨a1,l1⟩:=zaI e1 ha
  simp only[yac,ybl]at l1
  have hty:w.ty≠0:=nz (by
   simp[zT,h4]at hform
   exact hform.1)
  have hcmp:(if zHd w.name=true then(1:Int)else w.ty)≠0:=by split<;>omega
  clear hp
  generalize (if zHd w.name=true then(1:Int)else w.ty)=tt at hcmp ⊢
  refine pop (s1:=⟨0::s1.stack,false⟩) rfl rfl (by simp only[yac];omega) λb r2 e2 e3 l2=>?_
  refine pop (s1:=s1) e2 e3 (by simpa using l2) λa r3 e4 e5 l3=>?_
  split
  .exact⟨b0,.inl rfl⟩
  .exact push b0 e4 e5 a1 l3 hcmp
 rw[if_neg h4]at hp ⊢
 by_cases h5:w.op=5
 .rw[if_pos h5]at hp ⊢
  obtain⟨s1,e1,rfl⟩:=zc1 hp
  obtain⟨a1,l1⟩:=zaI e1 ha
  simp only[yac,ybl]at l1
  exact pop (s1:=s1) rfl rfl (by omega) λv r2 e1 e2 l=>push b0 e1 e2 a1 l (by omega)
 rw[if_neg h5]at hp ⊢
 by_cases h6:w.op=6
 .rw[if_pos h6]at hp ⊢
  obtain⟨s1,e1,rfl⟩:=zc1 hp
  obtain⟨a1,l1⟩:=zaI e1 ha
  simp only[yac,ybl]at l1
  exact pop (s1:=s1) rfl rfl (by omega) λv r2 e1 e2 l=>push b0 e1 e2 a1 l (by omega)
 rw[if_neg h6]at hp ⊢
 by_cases h7:w.op=7
 .rw[if_pos h7]at hp
  obtain⟨s1,e1,rfl⟩:=zc1 hp
  obtain⟨a1,l1⟩:=zaI e1 ha
  simp only[yac,ybl]at l1
  rw[if_neg (by omega),if_neg (by omega),if_neg (by omega),if_neg (by omega),if_neg (by omega)]
  have g:=zfP s1 2
  exact⟨b0,rfl,rfl,g.1.trans a1,by rw[g.2,if_neg (by omega)];omega⟩
 rw[if_neg h7]at hp
 by_cases h8:w.op=8
 .rw[if_pos h8]at hp ⊢
  obtain⟨s1,e1,rfl⟩:=zc1 hp
  obtain⟨a1,l1⟩:=zaI e1 ha
  simp only[yac,ybl]at l1
  have hty:w.ty≠0:=by
   intro q
   simp[zT,h1,h4,h5,h8,zfy,q]at hform
  have hn:¬(w.n<1\/8<w.n):=by simp[zT,h1,h4,h5,h8,zfy]at hform;omega
  refine pop (s1:=s1) rfl rfl (by omega) λa r2 e1 e2 l=>?_
  unfold zkX
  rw[if_neg hn]
  split
  .exact⟨b0,.inl rfl⟩
  .exact push b0 e1 e2 a1 l hty
 rw[if_neg h8]at hp ⊢
 by_cases h9:w.op=9
 .rw[if_pos h9]at hp ⊢
  obtain⟨a1,l1⟩:=zaI hp ha
  simp only[yac,ybl]at l1
  refine pop (s1:=⟨0::s'.stack,false⟩) rfl rfl (by simp only[yac];omega) λv r2 e2 e3 l2=>?_
  have hn:¬(w.n<1\/8<w.n):=by simp[zT,h1,h4,h5,h9,zfy]at hform;omega
  refine pop (s1:=s') e2 e3 (by simpa using l2) λa r3 e4 e5 l3=>?_
  unfold zkX
  rw[if_neg hn]
  split
  .exact⟨b0,.inl rfl⟩
  .exact⟨⟨b0.steps,b0.low,b0.out⟩,e4,e5,a1,l3⟩
 rw[if_neg h9]at hp ⊢
 by_cases h10:w.op=10
 .rw[if_pos h10]at hp ⊢
  have hh:(zbK fs w.n).isSome=true:=by simpa [zN,h1,h2,h3,h10]using hrg
  unfold zaG
  unfold zbK at hp hh
  by_cases n0:w.n=0
  .rw[if_pos n0]at hp ⊢
   simp only[yei]at hp
   obtain⟨s1,e1,rfl⟩:=zc1 hp
   cases e1
   cases x.input with
   | nil=>exact push b0 rfl rfl ha hst (by omega)
   | cons v l=>exact push ⟨b0.steps,b0.low,b0.out⟩ rfl rfl ha hst (by omega)
  rw[if_neg n0]at hp hh ⊢
  by_cases n1:w.n=1
  .rw[if_pos n1]at hp ⊢
   simp only[yej,yei,ydq]at hp
   obtain⟨s1,e1,e9⟩:=zc1 hp
   have e9:s'=zeE s1 0:=e9
   obtain⟨a1,l1⟩:=zaI e1 ha
   simp only[yac,ybl]at l1
   refine pop (s1:=s1) rfl rfl (by omega) λv r2 e1 e2 l=>?_
   have g:=zfP s1 0
   exact⟨⟨yeh _,by simp only;omega,[v],rfl,by simp⟩,e1,e2,by rw[e9];exact g.1.trans a1,by rw[e9,g.2,if_pos rfl];omega⟩
  rw[if_neg n1]at hp hh ⊢
  by_cases n2:w.n=2
  .rw[if_pos n2]at hp ⊢
   simp only[yej,yei,ydq]at hp
   obtain⟨s1,e1,e9⟩:=zc1 hp
   obtain⟨a1,l1⟩:=zaI e1 ha
   simp only[yac,ybl]at l1
   exact pop (s1:=s1) rfl rfl (by omega) λv r2 e1 e2 l=>⟨b0,.inl rfl⟩
  rw[if_neg n2]at hp hh ⊢
  by_cases n3:w.n<0
  .rw[if_pos n3]at hh;cases hh
  rw[if_neg n3]at hp hh
  rw[if_neg (by omega)]
  cases hg:fs[(w.n-3).toNat]? with
  | none=>rw[hg]at hh;cases hh
  | some g =>
   rw[hg]at hp
   simp only[yaG]at hp ⊢
   obtain⟨s1,e1,rfl⟩:=zc1 hp
   obtain⟨a1,l1⟩:=zaI e1 ha
   rw[List.length_reverse]at l1
   rw[if_neg (by omega)]
   have key:=zmg hv hs hx (yc5 hg) (args:=r.stack.drop (r.stack.length-g.params.length)) (by simp;omega) { r with stack:=r.stack.take (r.stack.length-g.params.length) }
   revert key
   cases zdj rec x g (r.stack.drop (r.stack.length-g.params.length)) { r with stack:=r.stack.take (r.stack.length-g.params.length) }with
   | bad=>exact λh=>h
   | over s c x'=>exact λh=>⟨h.1.weak (by omega),h.2⟩
   | ok v x' r' =>
    intro ⟨k1,k2⟩
    subst k2
    simp only
    by_cases hz:g.type=0
    .rw[if_neg (by simpa using hz)]
     have gl:=zfP s1 g.type
     exact⟨k1.weak (by omega),rfl,rfl,gl.1.trans a1,by rw[gl.2,if_pos hz];simp;omega⟩
    .rw[if_pos hz]
     exact push (k1.weak (by omega)) rfl rfl a1 (by simp;omega) hz
 rw[if_neg h10]at hp ⊢
 have h18:w.op=18:=by
  rcases hop with q|q
  .exfalso
   simp[zT,h1,h4,h5,h8,h9]at hform
   omega
  .exact q
 rw[if_pos h18]at hp
 rw[if_neg (by omega),if_pos h18]
 obtain⟨a1,l1⟩:=zvT hp ha
 exact pop (s1:=s') rfl rfl (by omega) λv r2 e1 e2 l=>⟨b0,e1,e2,a1,l⟩
end
section
variable {fs : List F} {rec : zg2} {n : Nat}
theorem zkZ(hs:zqT fs rec n){r0:Fr}{K:Nat}{at_ deep:Int}(hd:0<deep)(h0:0<=at_)(h1:at_<(r0.fn.lists.length:Int))(hl:zam fs (r0.fn.params++r0.fn.locals) r0.fn.type r0.fn.lists K at_ deep=.ok ())(isLoop:Bool):
  ∀(j:Nat) (x:za1) (r:Fr),zD5 fs r->r.fn=r0.fn->x.steps.toNat<n->x.steps.toNat<j ->
  match zdH rec isLoop at_ deep j x r with
  | .bad=>False
  | .over s c x'=>Beh 0 x x'/\zkY s c
  | .ok o x' r'=>Beh 0 x x'/\r'.fn=r.fn/\r'.locals.length=r.locals.length/\r'.stack.length=r.stack.length/\(o=-1\/(0<=o/\o+1<=deep))
 | 0,x,r,_,_,_,hj=>by omega
 | j+1,x,r,hr,hf,hx,hj=>by
  rw[zdH]
  have key:=hs x r at_ deep K hr hx (by omega) h0 (by rw[hf];exact h1) (by rw[hf];exact hl)
  revert key
  cases rec x r at_ deep with
  | bad=>exact λh=>h
  | over s c x'=>exact λh=>h
  | ok o x' r' =>
   intro ⟨k1,k2,k3,k4,k5⟩
   simp only
   have hst:r'.stack.length=r.stack.length:=by
    by_cases ho:o=-1
    .have:=k4 ho;rw[if_neg (by omega)]at this;omega
    .exact(k5 ho).2.2.1
   by_cases hc:o=0/\isLoop=true
   .rw[if_pos hc]
    have hlt:=(k5 (by omega)).2.2.2.1
    have hpos:=(k5 (by omega)).2.2.2.2
    have hb:=k1.steps
    have key:=zkZ hs hd h0 h1 hl isLoop j x' r' ⟨by rw[k2];exact hr.mem,by rw[k3,k2];exact hr.loc⟩ (k2.trans hf) (by omega) (by omega)
    revert key
    cases zdH rec isLoop at_ deep j x' r' with
    | bad=>exact λh=>h
    | over s c x2=>exact λh=>⟨k1.trans0 h.1,h.2⟩
    | ok o2 x2 r2=>exact λh=>⟨k1.trans0 h.1,h.2.1.trans k2,h.2.2.1.trans k3,h.2.2.2.1.trans hst,h.2.2.2.2⟩
   .rw[if_neg hc]
    refine⟨k1,k2,k3,hst,?_⟩
    by_cases ho:0<o
    .rw[if_pos ho]
     have:=k5 (by omega)
     exact .inr ⟨by omega,by omega⟩
    .rw[if_neg ho];exact .inl rfl
theorem zfQ(hs:zqT fs rec n){k:Nat}{x:za1}(hx:x.steps.toNat<n)(hxk:x.steps.toNat<k){r:Fr}(hr:zD5 fs r){w:W}{h:Nat}{s1:St}{deep:Int}(hd:0<=deep)(ha:s1.any=false)(hst:r.stack.length=h+s1.stack.length+(if w.op=13 then 1 else 0))
  (hb:∃K,0<=w.body/\w.body<(r.fn.lists.length:Int)/\zam fs (r.fn.params++r.fn.locals) r.fn.type r.fn.lists K w.body (deep+1)=.ok ())
  (ho:w.op=13->0<=w.other->∃K,w.other<(r.fn.lists.length:Int)/\zam fs (r.fn.params++r.fn.locals) r.fn.type r.fn.lists K w.other (deep+1)=.ok ()) :
  zH3 0 x r h s1 deep (zbh rec k w (deep+1) x r):=by
 have go:∀(at_:Int) (r1:Fr),zD5 fs r1->r1.fn=r.fn->r1.locals.length=r.locals.length->r1.stack.length=h+s1.stack.length->(0<=at_->∃K,at_<(r.fn.lists.length:Int)/\zam fs (r.fn.params++r.fn.locals) r.fn.type r.fn.lists K at_ (deep+1)=.ok ()) ->
   zH3 0 x r h s1 deep (if at_<0 then Ev.ok (-1) x r1 else zdH rec (decide (w.op=12)) at_ (deep+1) k x r1):=by
  intro at_ r1 hr1 e1 e2 e3 hK
  by_cases h0:at_<0
  .rw[if_pos h0]
   exact⟨.refl _,e1,e2,λ_=>⟨ha,e3⟩,λq=>absurd rfl q⟩
  .rw[if_neg h0]
   obtain⟨K,q1,q2⟩:=hK (by omega)
   have key:=zkZ hs (r0:=r) (by omega) (by omega) q1 q2 (decide (w.op=12)) k x r1 hr1 e1 hx hxk
   revert key
   cases zdH rec (decide (w.op=12)) at_ (deep+1) k x r1 with
   | bad=>exact λh=>h
   | over s c x2=>exact λh=>h
   | ok o x2 r2 =>
    intro ⟨k1,k2,k3,k4,k5⟩
    refine⟨k1,k2.trans e1,k3.trans e2,λ_=>⟨ha,by omega⟩,λq=>?_⟩
    rcases k5 with k5|k5
    .exact absurd k5 q
    .exact⟨k5.1,by omega,by omega⟩
 unfold zbh
 simp only
 obtain⟨K,b0,b1,b2⟩:=hb
 by_cases h13:w.op=13
 .rw[if_pos h13]at hst ⊢
  obtain⟨v,st,hl,e⟩:=zg3 (r:=r) (k:=λc r=>if(if c=0 then w.other else w.body)<0 then Ev.ok (-1) x r else zdH rec (decide (w.op=12)) (if c=0 then w.other else w.body) (deep+1) k x r) (by omega)
  rw[e]
  refine go _ _ ⟨hr.mem,hr.loc⟩ rfl rfl (by simp only;omega) λq=>?_
  by_cases hv0:v=0
  .rw[if_pos hv0]at q ⊢;exact ho h13 q
  .rw[if_neg hv0]at q ⊢;exact⟨K,b1,b2⟩
 .rw[if_neg h13]at hst ⊢
  exact go _ _ hr rfl rfl (by omega) λ_=>⟨K,b1,b2⟩
end
section
variable {fs : List F} {rec : zg2} {n : Nat} (hv : ∀ f ∈ fs,zk fs f = .ok ())
include hv
theorem ztq(hs:zqT fs rec n){k:Nat}{x:za1}(hx:x.steps.toNat<n)(hxk:x.steps.toNat<k){r:Fr}(hr:zD5 fs r){w:W}{h:Nat}{s s':St}{deep:Int}{K:Nat}(hd:0<=deep)(ha:s.any=false)(hst:r.stack.length=h+s.stack.length)
  (hin:∀m∈zh w,0<=m/\m<(r.fn.lists.length:Int))
  (hi:zag fs (r.fn.params++r.fn.locals) r.fn.type deep (zam fs (r.fn.params++r.fn.locals) r.fn.type r.fn.lists K) w s=.ok s'):zH3 1 x r h s' deep (zdk fs rec k deep w x r):=by
 have hnum:(r.fn.params++r.fn.locals).all zac=true:=by
  have:=hv _ hr.mem
  unfold zk at this
  split at this
  .cases this
  .rename_i q
   simp only[Bool.and_eq_true,Bool.not_eq_false]at q
   exact q.1.1
 have b0:Beh 1 x x:=(Beh.refl x).weak (by omega)
 unfold zag at hi
 by_cases hf:zT w=false
 .rw[if_pos hf]at hi;cases hi
 rw[if_neg hf]at hi
 by_cases hg:zN fs (r.fn.params++r.fn.locals) deep w=false
 .rw[if_pos hg]at hi;cases hi
 rw[if_neg hg]at hi
 have up:∀{e:Ev Int},zH3 0 x r h s' deep e->zH3 1 x r h s' deep e:=by
  intro e he
  cases e with
  | bad=>exact he
  | over s c x'=>exact⟨he.1.weak (by omega),he.2⟩
  | ok o x' r'=>exact⟨he.1.weak (by omega),he.2⟩
 unfold zdk
 by_cases h11:w.op=11\/w.op=12
 .rw[if_pos h11]at hi
  rw[if_pos (by omega)]
  have hn:zh w=[w.body]:=by unfold zh;rw[if_pos (by omega)]
  rw[hn]at hin
  have hb:=hin w.body (by simp)
  cases hl:zam fs (r.fn.params++r.fn.locals) r.fn.type r.fn.lists K w.body (deep+1)with
  | error e=>rw[hl]at hi;cases hi
  | ok u =>
   rw[hl]at hi
   cases hi
   exact up (zfQ hs hx hxk hr hd ha (by rw[if_neg (by omega)];omega) ⟨K,hb.1,hb.2,hl⟩ (λq=>by omega))
 rw[if_neg h11]at hi
 by_cases h13:w.op=13
 .rw[if_pos h13]at hi
  rw[if_pos (by omega)]
  cases ht:zaA [1] s with
  | error e=>rw[ht]at hi;cases hi
  | ok s1 =>
   rw[ht]at hi
   simp only at hi
   obtain⟨a1,l1⟩:=zaI ht ha
   simp only[yac,ybl]at l1
   cases hl:zam fs (r.fn.params++r.fn.locals) r.fn.type r.fn.lists K w.body (deep+1)with
   | error e=>rw[hl]at hi;cases hi
   | ok u =>
    rw[hl]at hi
    simp only at hi
    have hb:0<=w.body/\w.body<(r.fn.lists.length:Int):=hin w.body (by
     unfold zh
     by_cases ho:w.other<0
     .rw[if_pos (by omega)];simp
     .rw[if_neg (by omega),if_pos h13];simp)
    by_cases ho:0<=w.other
    .rw[if_pos ho]at hi
     cases hl2:zam fs (r.fn.params++r.fn.locals) r.fn.type r.fn.lists K w.other (deep+1)with
     | error e=>rw[hl2]at hi;cases hi
     | ok u2 =>
      rw[hl2]at hi
      cases hi
      have hb2:=hin w.other (by unfold zh;rw[if_neg (by omega),if_pos h13];simp)
      exact up (zfQ hs hx hxk hr hd a1 (by rw[if_pos h13];omega) ⟨K,hb.1,hb.2,hl⟩ (λ_ _=>⟨K,hb2.2,hl2⟩))
    .rw[if_neg ho]at hi
     cases hi
     exact up (zfQ hs hx hxk hr hd a1 (by rw[if_pos h13];omega) ⟨K,hb.1,hb.2,hl⟩ (λ_ q=>absurd q ho))
 rw[if_neg h13]at hi
 have ret:∀{s2:St} {r1:Fr} {q:Int},zK r.fn.type s=.ok s2\/True->True:=λ_=>trivial
 by_cases h15:w.op=15
 .rw[if_pos h15]at hi
  rw[if_neg (by omega),if_pos (by omega)]
  have hrg:0<=w.n/\w.n<=deep:=by
   have q:zN fs (r.fn.params++r.fn.locals) deep w=true:=by simpa using hg
   simpa [zN,h15]using q
  cases ht:zaA [1] s with
  | error e=>rw[ht]at hi;cases hi
  | ok s1 =>
   rw[ht]at hi
   simp only at hi
   obtain⟨a1,l1⟩:=zaI ht ha
   simp only[yac,ybl]at l1
   unfold zja
   simp only
   rw[if_neg (by omega),if_pos h15]
   obtain⟨v,st,hl,e⟩:=zg3 (r:=r) (k:=λc r=>if c=0 then Ev.ok (-1) x r else if w.n=deep/\r.fn.type≠0 then zde r λv r=>Ev.ok w.n x { r with result:=v }else .ok w.n x r) (by omega)
   rw[e]
   have hs':s'.any=false/\s'.stack.length=s1.stack.length/\(w.n=deep->r.fn.type≠0->0<s1.stack.length):=by
    by_cases hq:w.n=deep
    .rw[if_pos hq]at hi
     obtain⟨s2,e2,rfl⟩:=zc1 hi
     obtain⟨a2,l2⟩:=zdQ e2 a1
     have g:=zfP s2 r.fn.type
     refine⟨g.1.trans a2,by rw[g.2];omega,λ_ hz=>by rw[if_neg hz]at l2;omega⟩
    .rw[if_neg hq]at hi
     cases hi
     exact⟨a1,rfl,λq=>absurd q hq⟩
   by_cases hv0:v=0
   .rw[if_pos hv0]
    exact⟨b0,rfl,rfl,λ_=>⟨hs'.1,by simp only;omega⟩,λq=>absurd rfl q⟩
   .rw[if_neg hv0]
    by_cases hq:w.n=deep/\r.fn.type≠0
    .rw[if_pos hq]
     have:=hs'.2.2 hq.1 hq.2
     obtain⟨v2,st2,hl2,e2⟩:=zg3 (r:={ r with stack:=st }) (k:=λv r=>Ev.ok w.n x { r with result:=v }) (by simp only;omega)
     simp only at e2 hl2
     rw[e2]
     exact⟨b0,rfl,rfl,λq=>by omega,λ_=>⟨hrg.1,hrg.2,by simp only;omega⟩⟩
    .rw[if_neg hq]
     exact⟨b0,rfl,rfl,λq=>by omega,λ_=>⟨hrg.1,hrg.2,by simp only;omega⟩⟩
 rw[if_neg h15]at hi
 by_cases h14:w.op=14
 .rw[if_pos h14]at hi
  rw[if_neg (by omega),if_pos (by omega)]
  have hrg:0<=w.n/\w.n<=deep:=by
   have q:zN fs (r.fn.params++r.fn.locals) deep w=true:=by simpa using hg
   simpa [zN,h14]using q
  unfold zja
  simp only
  rw[if_neg (by omega),if_neg h15]
  by_cases hq:w.n=deep/\r.fn.type≠0
  .rw[if_pos hq]
   rw[if_pos hq.1]at hi
   cases ht:zK r.fn.type s with
   | error e=>rw[ht]at hi;cases hi
   | ok s2 =>
    obtain⟨a2,l2⟩:=zdQ ht ha
    rw[if_neg hq.2]at l2
    obtain⟨v2,st2,hl2,e2⟩:=zg3 (r:=r) (k:=λv r=>Ev.ok w.n x { r with result:=v }) (by omega)
    rw[e2]
    exact⟨b0,rfl,rfl,λq=>by omega,λ_=>⟨hrg.1,hrg.2,by simp only;omega⟩⟩
  .rw[if_neg hq]
   exact⟨b0,rfl,rfl,λq=>by omega,λ_=>⟨hrg.1,hrg.2,by omega⟩⟩
 rw[if_neg h14]at hi
 by_cases h16:w.op=16
 .rw[if_pos h16]at hi
  rw[if_neg (by omega),if_pos (by omega)]
  unfold zja
  simp only
  rw[if_pos h16]
  cases ht:zK r.fn.type s with
  | error e=>rw[ht]at hi;cases hi
  | ok s2 =>
   obtain⟨a2,l2⟩:=zdQ ht ha
   by_cases hq:r.fn.type≠0
   .rw[if_pos ⟨trivial,hq⟩]
    rw[if_neg hq]at l2
    obtain⟨v2,st2,hl2,e2⟩:=zg3 (r:=r) (k:=λv r=>Ev.ok deep x { r with result:=v }) (by omega)
    rw[e2]
    exact⟨b0,rfl,rfl,λq=>by omega,λ_=>⟨hd,yeh _,by simp only;omega⟩⟩
   .rw[if_neg (λq=>hq q.2)]
    exact⟨b0,rfl,rfl,λq=>by omega,λ_=>⟨hd,yeh _,by omega⟩⟩
 rw[if_neg h16]at hi
 rw[if_neg (by omega),if_neg (by omega)]
 by_cases h17:w.op=17
 .have e:zaH fs rec w x r=.over 2 5 x:=by
   unfold zaH
   simp[h17]
  rw[e]
  exact⟨b0,.inl rfl⟩
 rw[if_neg h17]at hi
 have hf':zT w=true:=by simpa using hf
 have hop:w.op<=10\/w.op=18:=by
  by_cases q:w.op<=10
  .exact .inl q
  .right
   have:1<=w.op/\w.op<=18:=by
    unfold zT at hf'
    rw[if_neg (by omega),if_neg (by omega),if_neg (by omega)]at hf'
    simpa using hf'
   omega
 have key:=plain_sound hv hs hx hr ha hst hf' (by simpa using hg) hnum hi hop
 revert key
 cases zaH fs rec w x r with
 | bad=>exact λh=>h
 | over s c x'=>exact λh=>h
 | ok u x' r'=>exact λh=>⟨h.1,h.2.1,h.2.2.1,λ_=>⟨h.2.2.2.1,h.2.2.2.2⟩,λq=>absurd rfl q⟩
theorem ziT(hs:zqT fs rec n){k:Nat}{h:Nat}{deep:Int}{K:Nat}(hd:0<=deep){f:F}:∀(ws:List W),(∀w∈ws,∀m∈zh w,0<=m/\m<(f.lists.length:Int))->∀(x:za1) (r:Fr) (s s':St),zD5 fs r->r.fn=f->x.steps.toNat<n+1->x.steps.toNat<k+1->s.any=false->r.stack.length=h+s.stack.length ->
  zU fs (f.params++f.locals) f.type deep (zam fs (f.params++f.locals) f.type f.lists K) ws s=.ok s' ->
  match zaZ fs rec k deep h ws x r with
  | .bad=>False
  | .over st c x'=>Beh 0 x x'/\zkY st c
  | .ok o x' r'=>Beh 0 x x'/\r'.fn=r.fn/\r'.locals.length=r.locals.length/\(o=-1->s'.any=false/\r'.stack.length=h+s'.stack.length)/\(o≠-1->0<=o/\o<=deep/\r'.stack.length=h/\x'.steps<x.steps/\0<x.steps)
 | [],_,x,r,s,s',hr,hf,_,_,ha,hst,hi=>by
  simp only[zU]at hi
  cases hi
  exact⟨.refl _,rfl,rfl,λ_=>⟨ha,hst⟩,λq=>absurd rfl q⟩
 | w::ws,hin,x,r,s,s',hr,hf,hx,hxk,ha,hst,hi=>by
  rw[zU]at hi
  cases he:zag fs (f.params++f.locals) f.type deep (zam fs (f.params++f.locals) f.type f.lists K) w s with
  | error e=>rw[he]at hi;cases hi
  | ok s1 =>
   rw[he]at hi
   simp only at hi
   rw[zaZ]
   by_cases hs1:x.steps<1
   .rw[if_pos hs1]
    exact⟨.refl _,.inr ⟨rfl,rfl⟩⟩
   .rw[if_neg hs1]
    subst hf
    have key:=ztq hv hs (k:=k) (x:={ x with steps:=x.steps-1 }) (by simp only;omega) (by simp only;omega) hr hd ha hst (hin w (by simp)) he
    revert key
    cases zdk fs rec k deep w { x with steps:=x.steps-1 } r with
    | bad=>exact λh=>h
    | over st c x'=>exact λh=>⟨(h.1.step (by omega)).1,h.2⟩
    | ok o x' r' =>
     intro ⟨k1,k2,k3,k4,k5⟩
     obtain⟨b,lt⟩:=k1.step (by omega)
     simp only
     by_cases ho:o=-1
     .rw[if_pos ho]
      obtain⟨a1,l1⟩:=k4 ho
      have key:=ziT hs (k:=k) (h:=h) hd (f:=r.fn) ws (λw hw=>hin w (by simp[hw])) x' r' s1 s' ⟨by rw[k2];exact hr.mem,by rw[k3,k2];exact hr.loc⟩ k2 (by omega) (by omega) a1 l1 hi
      revert key
      cases zaZ fs rec k deep h ws x' r' with
      | bad=>exact λh=>h
      | over st c x2=>exact λh=>⟨b.trans0 h.1,h.2⟩
      | ok o2 x2 r2 =>
       intro ⟨j1,j2,j3,j4,j5⟩
       exact⟨b.trans0 j1,j2.trans k2,j3.trans k3,j4,λq=>by
        have:=j5 q
        have h4:=this.2.2.2.1
        exact⟨this.1,this.2.1,this.2.2.1,by omega,by omega⟩⟩
     .rw[if_neg ho]
      obtain⟨q1,q2,q3⟩:=k5 ho
      rw[if_neg (by omega)]
      exact⟨b,k2,k3,λq=>absurd q ho,λ_=>⟨q1,q2,by simp only[ybf];omega,lt,by omega⟩⟩
theorem zmh:∀k,zqT fs (zny fs k) k
 | 0=>λx r at_ deep K _ hx=>by omega
 | k+1=>by
  intro x r at_ deep K hr hx hd h0 h1 hl
  have ih:=zmh k
  rw[zny,if_neg (by omega)]
  have hlt:at_.toNat<r.fn.lists.length:=by omega
  rw[yau hlt]
  simp only
  cases K with
  | zero=>simp[zam]at hl
  | succ K =>
   rw[zam]at hl
   have hrow:r.fn.lists.getD at_.toNat []=r.fn.lists[at_.toNat]:=by rw[ycQ,yau hlt];rfl
   rw[hrow]at hl
   cases hi:zU fs (r.fn.params++r.fn.locals) r.fn.type deep (zam fs (r.fn.params++r.fn.locals) r.fn.type r.fn.lists K) r.fn.lists[at_.toNat] ⟨[],false⟩with
   | error e=>rw[hi]at hl;cases hl
   | ok s' =>
    rw[hi]at hl
    simp only at hl
    have hah:=(zbU (zV (hv _ hr.mem))).2.1
    have key:=ziT hv ih (k:=k) (h:=r.stack.length) hd (f:=r.fn) r.fn.lists[at_.toNat] (λw hw m hm=>by
     have:=hah at_.toNat _ (yau hlt) m (yc8.2 ⟨w,hw,hm⟩)
     omega) x r ⟨[],false⟩ s' hr rfl (by omega) (by omega) rfl (by simp) hi
    revert key
    cases zaZ fs (zny fs k) k deep r.stack.length r.fn.lists[at_.toNat] x r with
    | bad=>exact λh=>h
    | over st c x'=>exact λh=>h
    | ok o x' r' =>
     intro ⟨j1,j2,j3,j4,j5⟩
     refine⟨j1,j2,j3,λho=>?_,j5⟩
     obtain⟨a1,l1⟩:=j4 ho
     rw[l1]
     unfold zHe at hl
     by_cases hz:deep=0
     .rw[if_pos hz]at hl
      cases hq:zK r.fn.type s' with
      | error e=>rw[hq]at hl;cases hl
      | ok s2 =>
       rw[hq]at hl
       simp only at hl
       obtain⟨_,l2⟩:=zdQ hq a1
       by_cases he:s2.stack.length=0
       .by_cases ht:r.fn.type=0
        .rw[if_pos ht]at l2
         rw[if_neg (λq=>q.2 ht)];omega
        .rw[if_neg ht]at l2
         rw[if_pos ⟨hz,ht⟩];omega
       .rw[if_neg he]at hl;cases hl
     .rw[if_neg hz]at hl
      simp only at hl
      rw[if_neg (λq=>hz q.1)]
      by_cases he:s'.stack.length=0
      .omega
      .rw[if_neg he]at hl;cases hl
end
theorem zmi{m:M}(hc:zaP m=.ok ())(input:List Int)(steps:Int)(k:Nat)(hk:steps.toNat<k):∃(out:List Int) (st code:Int),ztJ m input steps k=some (out,st,code)/\(st=1\/zkY st code)/\(out.length:Int)<=max steps 0:=by
 have hv:=zbb hc
 have hm:zgS m=true:=by
  unfold zaP at hc
  split at hc
  .cases hc
  .split at hc
   .cases hc
   .split at hc
    .assumption
    .cases hc
 unfold zgS at hm
 simp only[Bool.and_eq_true,decide_eq_true_eq]at hm
 obtain⟨h0,h1⟩:=hm
 unfold ztJ
 rw[if_neg (by omega)]
 cases hg:m.funcs[m.main.toNat]? with
 | none=>rw[hg]at h1;cases h1
 | some g =>
  rw[hg]at h1
  simp only[Bool.and_eq_true,decide_eq_true_eq]at h1 ⊢
  have key:=zmg hv (zmh hv k) (x:=⟨input,steps,yaj m.memory.toNat 0,[],0⟩) hk (yc5 hg) (args:=[]) (by simp[h1.2]) ⟨g,[],[],0⟩
  revert key
  cases zdj (zny m.funcs k) ⟨input,steps,yaj m.memory.toNat 0,[],0⟩ g [] ⟨g,[],[],0⟩with
  | bad=>exact λh=>h.elim
  | over s c x =>
   intro ⟨⟨q1,q4,l,q2,q3⟩,ho⟩
   refine⟨_,_,_,rfl,.inr ho,?_⟩
   simp only[ydq]at q2 q1 q3 q4
   rw[q2]
   omega
  | ok v x r =>
   intro ⟨⟨q1,q4,l,q2,q3⟩,_⟩
   refine⟨_,_,_,rfl,.inl rfl,?_⟩
   simp only[ydq]at q2 q1 q3 q4
   rw[q2]
   omega
theorem zdR(f:BitVec 64->BitVec 64->BitVec 64)(a b:Int):0<=zbo .u64 f a b:=by
 unfold zbo
 simp[yb4,yap,yao]
 omega
theorem zcV{G:Env}{J:AS}{R:Out->AS->Prop}{b:Bool}(h:R (.ret (.int .i32 (zwF b))) J):zzQ G 262 [.bool b] J R:=by
 refine zyr rfl ?_
 unfold zwF at h
 cases b<;>simp[zG0,splice]at h ⊢<;>exact h
theorem zcW{G:Env}{J:AS}{R:Out->AS->Prop}{b:Bool}(h:R (.ret (.int .i64 (zwF b))) J):zzQ G 263 [.bool b] J R:=by
 refine zys rfl ?_
 unfold zwF at h
 cases b<;>simp[zG1,splice]at h ⊢<;>exact h
theorem zgx{G:Env}{J:AS}{R:Out->AS->Prop}{op:List UInt8}{a b:Int}(h:R (.ret (.tuple [.int .i32 (zg1 .i32 op a b).1,.int .i64 (zg1 .i32 op a b).2])) J):zzQ G 256 [.str op,.int .i32 a,.int .i32 b] J R:=by
 refine zyn rfl ?_
 unfold zg1 at h
 by_cases h0:b=0
 .simp[h0]at h;simp[zop,splice,h0];exact h
 .by_cases h1:op=[37]
  .by_cases h2:b=-1
   .simp[h0,h1,h2]at h;simp[zop,splice,h0,h1,h2];exact h
   .simp[h0,h1,h2]at h;simp[zop,splice,h0,h1,h2];exact h
  .by_cases h2:b=-1
   .by_cases h3:a=0
    .simp[h0,h1,h2,h3]at h;simp[zop,splice,h0,h1,h2,h3];exact h
    .by_cases h4:yb4 .i32 (-a)=a
     .simp[h0,h1,h2,h3,h4]at h;simp[zop,splice,h0,h1,h2,h3,h4];exact h
     .simp[h0,h1,h2,h3,h4]at h;simp[zop,splice,h0,h1,h2,h3,h4];exact h
   .simp[h0,h1,h2]at h;simp[zop,splice,h0,h1,h2];exact h
theorem zgy{G:Env}{J:AS}{R:Out->AS->Prop}{op:List UInt8}{a b:Int}(h:R (.ret (.tuple [.int .i64 (zg1 .i64 op a b).1,.int .i64 (zg1 .i64 op a b).2])) J):zzQ G 258 [.str op,.int .i64 a,.int .i64 b] J R:=by
 refine zyp rfl ?_
 unfold zg1 at h
 by_cases h0:b=0
 .simp[h0]at h;simp[zoq,splice,h0];exact h
 .by_cases h1:op=[37]
  .by_cases h2:b=-1
   .simp[h0,h1,h2]at h;simp[zoq,splice,h0,h1,h2];exact h
   .simp[h0,h1,h2]at h;simp[zoq,splice,h0,h1,h2];exact h
  .by_cases h2:b=-1
   .by_cases h3:a=0
    .simp[h0,h1,h2,h3]at h;simp[zoq,splice,h0,h1,h2,h3];exact h
    .by_cases h4:yb4 .i64 (-a)=a
     .simp[h0,h1,h2,h3,h4]at h;simp[zoq,splice,h0,h1,h2,h3,h4];exact h
     .simp[h0,h1,h2,h3,h4]at h;simp[zoq,splice,h0,h1,h2,h3,h4];exact h
   .simp[h0,h1,h2]at h;simp[zoq,splice,h0,h1,h2];exact h
theorem zpd{G:Env}{J:AS}{R:Out->AS->Prop}{op:List UInt8}{a b:Int}(h:R (.ret (.int .i32 (zvR .i32 op a b 32))) J):zzQ G 257 [.str op,.int .i32 a,.int .i32 b,.int .i64 32] J R:=by
 refine zyo rfl ?_
 unfold zvR at h
 by_cases h1:op=[43]
 .subst h1;simp at h;simp[zgm,splice];exact h
 by_cases h2:op=[45]
 .subst h2;simp at h;simp[zgm,splice];exact h
 by_cases h3:op=[42]
 .subst h3;simp at h;simp[zgm,splice];exact h
 by_cases h4:op=[38]
 .subst h4;simp at h;simp[zgm,splice];exact h
 by_cases h5:op=[124]
 .subst h5;simp at h;simp[zgm,splice];exact h
 by_cases h6:op=[94]
 .subst h6;simp at h;simp[zgm,splice];exact h
 by_cases h7:op=[60,60]
 .subst h7;simp at h;simp[zgm,splice,show yb4 .i64 31=31 by decide];exact⟨zdR _ _ _,h⟩
 by_cases h8:op=[62,62]
 .subst h8;simp at h;simp[zgm,splice,show yb4 .i64 31=31 by decide];exact⟨zdR _ _ _,h⟩
 by_cases h9:op=[61,61]
 .subst h9;simp at h;simp[zgm,splice];refine zcV ?_;simp;exact h
 by_cases h10:op=[33,61]
 .subst h10;simp at h;simp[zgm,splice];refine zcV ?_;simp;exact h
 by_cases h11:op=[60]
 .subst h11;simp at h;simp[zgm,splice];refine zcV ?_;simp;exact h
 by_cases h12:op=[60,61]
 .subst h12;simp at h;simp[zgm,splice];refine zcV ?_;simp;exact h
 by_cases h13:op=[62]
 .subst h13;simp at h;simp[zgm,splice];refine zcV ?_;simp;exact h
 by_cases h14:op=[62,61]
 .subst h14;simp at h;simp[zgm,splice];refine zcV ?_;simp;exact h
 .simp[h1,h2,h3,h4,h5,h6,h7,h8,h9,h10,h11,h12,h13,h14]at h
  simp[zgm,splice,h1,h2,h3,h4,h5,h6,h7,h8,h9,h10,h11,h12,h13,h14]
  exact h
theorem zpe{G:Env}{J:AS}{R:Out->AS->Prop}{op:List UInt8}{a b:Int}(h:R (.ret (.int .i64 (zvR .i64 op a b 64))) J):zzQ G 259 [.str op,.int .i64 a,.int .i64 b,.int .i64 64] J R:=by
 refine zyq rfl ?_
 unfold zvR at h
 by_cases h1:op=[43]
 .subst h1;simp at h;simp[zgn,splice];exact h
 by_cases h2:op=[45]
 .subst h2;simp at h;simp[zgn,splice];exact h
 by_cases h3:op=[42]
 .subst h3;simp at h;simp[zgn,splice];exact h
 by_cases h4:op=[38]
 .subst h4;simp at h;simp[zgn,splice];exact h
 by_cases h5:op=[124]
 .subst h5;simp at h;simp[zgn,splice];exact h
 by_cases h6:op=[94]
 .subst h6;simp at h;simp[zgn,splice];exact h
 by_cases h7:op=[60,60]
 .subst h7;simp at h;simp[zgn,splice,show yb4 .i64 63=63 by decide];exact⟨zdR _ _ _,h⟩
 by_cases h8:op=[62,62]
 .subst h8;simp at h;simp[zgn,splice,show yb4 .i64 63=63 by decide];exact⟨zdR _ _ _,h⟩
 by_cases h9:op=[61,61]
 .subst h9;simp at h;simp[zgn,splice];refine zcW ?_;simp;exact h
 by_cases h10:op=[33,61]
 .subst h10;simp at h;simp[zgn,splice];refine zcW ?_;simp;exact h
 by_cases h11:op=[60]
 .subst h11;simp at h;simp[zgn,splice];refine zcW ?_;simp;exact h
 by_cases h12:op=[60,61]
 .subst h12;simp at h;simp[zgn,splice];refine zcW ?_;simp;exact h
 by_cases h13:op=[62]
 .subst h13;simp at h;simp[zgn,splice];refine zcW ?_;simp;exact h
 by_cases h14:op=[62,61]
 .subst h14;simp at h;simp[zgn,splice];refine zcW ?_;simp;exact h
 .simp[h1,h2,h3,h4,h5,h6,h7,h8,h9,h10,h11,h12,h13,h14]at h
  simp[zgn,splice,h1,h2,h3,h4,h5,h6,h7,h8,h9,h10,h11,h12,h13,h14]
  exact h
theorem zqU{G:Env}{J:AS}{R:Out->AS->Prop}{op:List UInt8}{a b:Int}(h:R (.ret (.tuple [.int .i64 (yb4 .i64 (zAa .i32 op a b 32).1),.int .i64 (zAa .i32 op a b 32).2])) J):zzQ G 245 [.str op,.int .i32 a,.int .i32 b,.int .i64 32] J R:=by
 refine zyg rfl ?_
 unfold zAa at h
 by_cases h1:op=[47]
 .subst h1;simp at h
  simp[zyf,splice]
  refine zgx ?_
  simp;exact h
 by_cases h2:op=[37]
 .subst h2;simp at h
  simp[zyf,splice]
  refine zgx ?_
  simp;exact h
 .simp[h1,h2]at h
  simp[zyf,splice,h1,h2]
  refine zpd ?_
  simp;exact h
theorem zqV{G:Env}{J:AS}{R:Out->AS->Prop}{op:List UInt8}{a b:Int}(h:R (.ret (.tuple [.int .i64 (zAa .i64 op a b 64).1,.int .i64 (zAa .i64 op a b 64).2])) J):zzQ G 246 [.str op,.int .i64 a,.int .i64 b,.int .i64 64] J R:=by
 refine zyi rfl ?_
 unfold zAa at h
 by_cases h1:op=[47]
 .subst h1;simp at h
  simp[zyh,splice]
  refine zgy ?_
  simp;exact h
 by_cases h2:op=[37]
 .subst h2;simp at h
  simp[zyh,splice]
  refine zgy ?_
  simp;exact h
 .simp[h1,h2]at h
  simp[zyh,splice,h1,h2]
  refine zpe ?_
  simp;exact h
theorem zvU{G:Env}{J:AS}{R:Out->AS->Prop}{t:Int}{op:List UInt8}{a b:Int}(h:R (.ret (.tuple [.int .i64 (zFl t op a b).1,.int .i64 (zFl t op a b).2])) J):zzQ G 218 [.int .i64 t,.str op,.int .i64 a,.int .i64 b] J R:=by
 refine zx4 rfl ?_
 unfold zFl at h
 by_cases h1:t=1
 .subst h1;simp at h
  simp[zx3,splice]
  refine zqU ?_
  simp
  exact h
 by_cases h2:t=2
 .subst h2;simp at h
  simp[zx3,splice]
  refine zqV ?_
  simp;exact h
 .simp[h1,h2]at h
  simp[zx3,splice,h1,h2]
  exact h
def znz(J:AS)(v:AV)(l:List Int):Prop:=(l=[]/\v=.nilsl)\/∃g,v=.sl (.fam g false) 1 (l.map (.int .i64))/\g<J.nf/\J.F g=.alive
def zaz:AV->List Nat
 | .sl (.fam g _) _ _=>[g]
 | _=>[]
theorem znz.one{J v l}(h:znz J v l):v.known=true/\v.one=true/\v.cells=[v]:=by
 rcases h with ⟨_,rfl⟩|⟨g,rfl,_⟩<;>simp
theorem znz.len{J v l}(h:znz J v l)(K:AV->Prop):ziY yb9 44 v K=K (.int .i64 (l.length:Int)):=by
 rcases h with ⟨rfl,rfl⟩|⟨g,rfl,_⟩<;>simp
theorem znz.keep{J J' v l}(h:znz J v l)(hn:J.nf<=J'.nf)(hk:∀g∈zaz v,J'.F g=J.F g):znz J' v l:=by
 rcases h with h|⟨g,rfl,h1,h2⟩
 .exact .inl h
 .exact .inr ⟨g,rfl,by omega,by rw[hk g (by simp[zaz])];exact h2⟩
theorem znz.lt{J v l}(h:znz J v l):∀g∈zaz v,g<J.nf:=by
 rcases h with ⟨_,rfl⟩|⟨g,rfl,h1,_⟩<;>simp[zaz]
 exact h1
def zD6(J:AS)(L:List Nat)(v:AV)(l:List Int):Prop:=(L=[]/\l=[]/\(v=.nilsl\/∃φ,v=.sl φ 1 []))\/∃lo,L=[lo]/\v=.slm lo 0 1 l.length/\J.objs lo=some (l.map (.int .i64))
theorem zD6.one{J L v l}(h:zD6 J L v l):v.known=true/\v.one=true/\v.cells=[v]:=by
 rcases h with ⟨_,_,rfl|⟨φ,rfl⟩⟩|⟨lo,_,rfl,_⟩<;>simp
theorem zD6.keep{J J' L v l}(h:zD6 J L v l)(hk:∀o∈L,J'.objs o=J.objs o):zD6 J' L v l:=by
 rcases h with h|⟨lo,rfl,rfl,h⟩
 .exact .inl h
 .exact .inr ⟨lo,rfl,rfl,by rw[hk lo (by simp)];exact h⟩
structure XM(fs:List F)(mm mn:Int)(J0:AS)(xo mo:Nat)(D T:List Nat)(x:za1)(ov:AV)(J:AS):Prop where
 no:J0.no<=J.no
 nf:J0.nf<=J.nf
 obj:∀o,o<J0.no->o≠xo->o≠mo->o∉D->J.objs o=J0.objs o
 fam:∀g,g<J0.nf->g∉T->J.F g=J0.F g
 xl:xo<J0.no
 ml:mo<J0.no
 xm:xo≠mo
 dl:∀o∈D,o<J.no/\o≠xo/\o≠mo
 mach:∃fv iv,J.objs xo=some [fv,.int .i64 mm,.int .i64 mn,iv,.int .i64 x.steps,.slm mo 0 1 x.memory.length,ov,.int .i64 x.calls]/\FsV fv fs/\zaR iv x.input
 own:znz J ov x.out
 ownT:∀g∈zaz ov,g∈T\/J0.nf<=g
 mem:J.objs mo=some (x.memory.map λb=>.int .u8 b.toNat)
structure XR(J0:AS)(fo:Nat)(L T:List Nat)(r:Fr)(sv:AV)(J:AS):Prop where
 fr:∃pv lv tv cv,J.objs fo=some [.str r.fn.name,pv,lv,.int .i64 r.fn.type,tv,cv,sv,.int .i64 r.result]/\zaR pv r.fn.params/\zaR lv r.fn.locals/\zdN tv r.fn.lists/\zD6 J L cv r.locals
 fl:fo∉L
 own:znz J sv r.stack
 ownT:∀g∈zaz sv,g∈T\/J0.nf<=g
def XF(fs:List F)(mm mn:Int)(J0:AS)(xo mo fo:Nat)(L T:List Nat)(x:za1)(r:Fr)(J:AS):Prop :=
 ∃ov sv,XM fs mm mn J0 xo mo (fo::L) T x ov J/\XR J0 fo L T r sv J/\∀g∈zaz ov,g∉zaz sv
def zk0(s c:Int):AV:=.iface 111 (.agg [.int .i64 s,.int .i64 c])
section
variable {G : Env} {fs : List F} {mm mn : Int} {J0 J : AS} {xo mo fo : Nat} {L T : List Nat} {x : za1} {r : Fr} {R : Out -> AS -> Prop}
theorem XF.setFr(h:XF fs mm mn J0 xo mo fo L T x r J){pv lv tv cv sv sv':AV}{st':List Int}{res':Int}{J1:AS}
  (ho:J.objs fo=some [.str r.fn.name,pv,lv,.int .i64 r.fn.type,tv,cv,sv,.int .i64 r.result]) (e1:J1.objs=J.objs) (e2:J1.no=J.no) (e3:J.nf<=J1.nf) (e4:∀g,g<J.nf->g∉zaz sv->J1.F g=J.F g)
  (hs:znz J1 sv' st') (hsf:∀g∈zaz sv',g∈zaz sv\/J.nf<=g) :
  XF fs mm mn J0 xo mo fo L T x { r with stack:=st',result:=res' } (J1.setO fo [.str r.fn.name,pv,lv,.int .i64 r.fn.type,tv,cv,sv',.int .i64 res']):=by
 obtain⟨ov,sv0,hm,hr,hd⟩:=h
 obtain⟨pv0,lv0,tv0,cv0,ho0,hpv,hlv,htv,hcv⟩:=hr.fr
 rw[ho]at ho0
 simp only[yaR.injEq,ydW.injEq]at ho0
 obtain⟨_,rfl,rfl,_,rfl,rfl,rfl,_,_⟩:=ho0
 have hfd:=hm.dl fo (by simp)
 have hltm:=hm.xl
 have hltml:=hm.ml
 have hno:=hm.no
 have hlt:=hm.own.lt
 have key:∀o,o≠fo->(J1.setO fo [.str r.fn.name,pv,lv,.int .i64 r.fn.type,tv,cv,sv',.int .i64 res']).objs o=J.objs o:=λo ho=>by simp[ho,e1]
 have hof:∀g∈zaz ov,J1.F g=J.F g:=λg hg=>e4 g (hlt g hg) (hd g hg)
 refine⟨ov,sv',⟨by simp[e2];omega,yai hm.nf e3,λo h1 h2 h3 h4=>?_,λg h1 h2=>?_,hm.xl,hm.ml,hm.xm,λo h1=>?_,?_,?_,hm.ownT,?_⟩,⟨⟨pv,lv,tv,cv,by simp,hpv,hlv,htv,?_⟩,hr.fl,hs,λg hg=>?_⟩,λg hg=>?_⟩
 .rw[key o (λe=>h4 (by simp[e]))];exact hm.obj o h1 h2 h3 h4
 .have h3:g∉zaz sv:=λhg=>by rcases hr.ownT g hg with h|h;exact h2 h;omega
  have:=hm.nf
  show J1.F g=J0.F g
  rw[e4 g (by omega) h3];exact hm.fam g h1 h2
 .simpa [e2]using hm.dl o h1
 .obtain⟨fv,iv,a,b,c⟩:=hm.mach
  exact⟨fv,iv,by rw[key xo (Ne.symm hfd.2.1)];exact a,b,c⟩
 .exact hm.own.keep (by simpa using e3) (by simpa using hof)
 .rw[key mo (Ne.symm hfd.2.2)];exact hm.mem
 .exact hcv.keep λo ho=>key o λe=>hr.fl (e▸ho)
 .rcases hsf g hg with h|h
  .exact hr.ownT g h
  .right;have:=hm.nf;omega
 .intro h'
  rcases hsf g h' with h|h
  .exact hd g hg h
  .have:=hlt g hg;omega
theorem za0{v:Int}(h:XF fs mm mn J0 xo mo fo L T x r J)(hl:r.stack.length<=2^40)(hR:∀J',XF fs mm mn J0 xo mo fo L T x (r.push v) J'->R (.ret (.tuple [])) J'):zzQ G 217 [.ptr fo 0,.int .i64 v] J R:=by
 refine zx2 rfl ?_
 obtain⟨ov,sv,hm,hr,hd⟩:=h
 obtain⟨pv,lv,tv,cv,ho,hpv,hlv,htv,hcv⟩:=hr.fr
 have s1:=hr.own.one
 have p1:=hpv.one
 have l1:=hlv.one
 have t1:=htv.one
 have c1:=hcv.one
 have hx:XF fs mm mn J0 xo mo fo L T x r J:=⟨ov,sv,hm,hr,hd⟩
 rcases hr.own with ⟨hs,rfl⟩|⟨g,rfl,hg1,hg2⟩
 .simp[zDu,ho,splice]
  refine hR _ (hx.setFr ho (by simp) (by simp) (by simp) (λg h1 _=>by simp;intro h;omega) ?_ ?_)
  .exact .inr ⟨J.nf,by simp[hs],by simp,by simp⟩
  .simp[zaz]
 .simp[zDu,ho,splice,hg2]
  refine⟨by omega,hR _ (hx.setFr ho (by simp) (by simp) (by simp) (λk h1 h2=>?_) ?_ ?_)⟩
  .have:k≠g:=by simpa [zaz]using h2
   simp[this];intro h;omega
  .exact .inr ⟨J.nf,by simp,by simp,by simp⟩
  .simp[zaz]
theorem zmj{v:Int}(h:XF fs mm mn J0 xo mo fo L T x r J)(hl:r.stack.length<=2^40)(hv:r.stack.getLast?=some v)(hR:∀J',XF fs mm mn J0 xo mo fo L T x { r with stack:=r.stack.dropLast } J'->(∀o,o≠fo->J'.objs o=J.objs o)->R (.ret (.int .i64 v)) J'):zzQ G 147 [.ptr fo 0] J R:=by
 refine zxB rfl ?_
 obtain⟨ov,sv,hm,hr,hd⟩:=h
 obtain⟨pv,lv,tv,cv,ho,hpv,hlv,htv,hcv⟩:=hr.fr
 have s1:=hr.own.one
 have p1:=hpv.one
 have l1:=hlv.one
 have t1:=htv.one
 have c1:=hcv.one
 have hx:XF fs mm mn J0 xo mo fo L T x r J:=⟨ov,sv,hm,hr,hd⟩
 rcases hr.own with ⟨hs,rfl⟩|⟨g,rfl,hg1,hg2⟩
 .rw[hs]at hv;simp at hv
 .have hne:r.stack≠[]:=by rintro e;rw[e]at hv;simp at hv
  have hpos:0<r.stack.length:=ybm.2 hne
  have w1:yb4 .i64 ((r.stack.length:Int)-1)=((r.stack.length-1:Nat):Int):=by rw[zb]<;>omega
  have hix:(r.stack.map (yc0 .i64))[r.stack.length-1]?=some (.int .i64 v):=by
   rw[List.getLast?_eq_getElem?]at hv
   simp[hv]
  have e:ydl (r.stack.length-1) (r.stack.map (yc0 .i64))=r.stack.dropLast.map (yc0 .i64):=by rw[<-yc3,List.dropLast_eq_take]
  simp[zGI,ho,splice,hg2,w1,hix,e]
  exact hR _ (hx.setFr (J1:=J) ho rfl rfl (yah _) (λ_ _ _=>rfl) (.inr ⟨g,by simp,hg1,hg2⟩) (λk hk=>.inl hk)) λo h=>by simp[h]
theorem zaJ{v:Int}(h:XF fs mm mn J0 xo mo fo L T x r J)(hl:r.stack.length<=2^40)(hv:r.stack.getLast?=some v)(hR:∀J',XF fs mm mn J0 xo mo fo L T x { r with stack:=r.stack.dropLast } J'->R (.ret (.int .i64 v)) J'):zzQ G 147 [.ptr fo 0] J R :=
 zmj h hl hv λJ' hx _=>hR J' hx
theorem XF.setX(h:XF fs mm mn J0 xo mo fo L T x r J){fv iv ov iv' ov':AV}{inp out:List Int}{steps calls:Int}{J1:AS}
  (ho:J.objs xo=some [fv,.int .i64 mm,.int .i64 mn,iv,.int .i64 x.steps,.slm mo 0 1 x.memory.length,ov,.int .i64 x.calls]) (e1:J1.objs=J.objs) (e2:J1.no=J.no) (e3:J.nf<=J1.nf) (e4:∀g,g<J.nf->g∉zaz ov->J1.F g=J.F g)
  (hi:zaR iv' inp) (hs:znz J1 ov' out) (hsf:∀g∈zaz ov',g∈zaz ov\/J.nf<=g) :
  XF fs mm mn J0 xo mo fo L T { x with input:=inp,out:=out,steps:=steps,calls:=calls } r (J1.setO xo [fv,.int .i64 mm,.int .i64 mn,iv',.int .i64 steps,.slm mo 0 1 x.memory.length,ov',.int .i64 calls]):=by
 obtain⟨ov0,sv,hm,hr,hd⟩:=h
 obtain⟨fv0,iv0,ho0,hfv,hiv⟩:=hm.mach
 rw[ho]at ho0
 simp only[yaR.injEq,ydW.injEq]at ho0
 obtain⟨rfl,_,_,rfl,_,_,rfl,_⟩:=ho0
 have hfd:=hm.dl fo (by simp)
 have hltm:=hm.xl
 have hltml:=hm.ml
 have hno:=hm.no
 have hlt:=hr.own.lt
 have key:∀o,o≠xo->(J1.setO xo [fv,.int .i64 mm,.int .i64 mn,iv',.int .i64 steps,.slm mo 0 1 x.memory.length,ov',.int .i64 calls]).objs o=J.objs o:=λo ho=>by simp[ho,e1]
 have hof:∀g∈zaz sv,J1.F g=J.F g:=λg hg=>e4 g (hlt g hg) (λh=>hd g h hg)
 refine⟨ov',sv,⟨by simp[e2];omega,yai hm.nf e3,λo h1 h2 h3 h4=>?_,λg h1 h2=>?_,hm.xl,hm.ml,hm.xm,λo h1=>?_,?_,hs,λg hg=>?_,?_⟩,⟨?_,hr.fl,?_,hr.ownT⟩,λg hg h'=>?_⟩
 .rw[key o h2];exact hm.obj o h1 h2 h3 h4
 .have h3:g∉zaz ov:=λhg=>by rcases hm.ownT g hg with h|h;exact h2 h;omega
  have:=hm.nf
  show J1.F g=J0.F g
  rw[e4 g (by omega) h3];exact hm.fam g h1 h2
 .simpa [e2]using hm.dl o h1
 .exact⟨fv,iv',by simp,hfv,hi⟩
 .rcases hsf g hg with h|h
  .exact hm.ownT g h
  .right;have:=hm.nf;omega
 .rw[key mo (Ne.symm hm.xm)];exact hm.mem
 .obtain⟨pv,lv,tv,cv,a,b,c,d,e⟩:=hr.fr
  exact⟨pv,lv,tv,cv,by rw[key fo hfd.2.1];exact a,b,c,d,e.keep λo ho=>key o (hm.dl o (by simp[ho])).2.1⟩
 .exact hr.own.keep (by simpa using e3) (by simpa using hof)
 .rcases hsf g hg with h|h
  .exact hd g h h'
  .have:=hlt g h';omega
theorem zeo{t:Int}(h0:t=0->R (.ret (.tuple [])) J)(h1:t≠0->R (.panic (zk0 2 t)) J):zzQ G 145 [.int .i64 t] J R:=by
 refine zxz rfl ?_
 by_cases h:t=0
 .simp[zDp,splice,h];exact h0 h
 .simp[zDp,splice,h];exact h1 h
theorem ztr(h:XF fs mm mn J0 xo mo fo L T x r J)(hl:x.input.length<=2^40)(hR:∀J',(match x.input with|[]=>XF fs mm mn J0 xo mo fo L T x r J'|_::l=>XF fs mm mn J0 xo mo fo L T { x with input:=l } r J')->R (.ret (.int .i64 (x.input.headD 0))) J'):zzQ G 247 [.ptr xo 0] J R:=by
 refine zyj rfl ?_
 have hx:=h
 obtain⟨ov,sv,hm,hr,hd⟩:=h
 obtain⟨fv,iv,ho,hfv,hiv⟩:=hm.mach
 have i1:=hiv.one
 have i2:=hiv.len
 have f1:=hfv.one
 have o1:=hm.own.one
 cases hin:x.input with
 | nil =>
  rw[hin]at hR i2
  simp[zDv,ho,splice,i2]
  exact hR _ hx
 | cons v l =>
  rw[hin]at hR i2 hiv
  rcases hiv with ⟨hh,_⟩|⟨b,rfl⟩
  .cases hh
  .have hne:¬((l.length:Int)+1=0):=by omega
   have ht:ydl l.length (l.map (yc0 .i64))=l.map (yc0 .i64):=ydg (by simp)
   simp[zDv,ho,splice,hne,ht]
   exact⟨by omega,hR _ (hx.setX (J1:=J) ho rfl rfl (yah _) (λ_ _ _=>rfl) (.inr ⟨_,rfl⟩) hm.own λk hk=>.inl hk)⟩
theorem zmk{at_ n:Int}(h:XF fs mm mn J0 xo mo fo L T x r J)(hn:1<=n/\n<=8)(hml:x.memory.length<=2^40)(hR:(at_<0\/(x.memory.length:Int)-n<at_)->R (.panic (zk0 2 3)) J)
  (hR':¬(at_<0\/(x.memory.length:Int)-n<at_)->R (.ret (.slm mo at_.toNat 1 n.toNat)) J):zzQ G 222 [.ptr xo 0,.int .i64 at_,.int .i64 n] J R:=by
 refine zx9 rfl ?_
 obtain⟨ov,sv,hm,hr,hd⟩:=h
 obtain⟨fv,iv,ho,hfv,hiv⟩:=hm.mach
 have i1:=hiv.one
 have f1:=hfv.one
 have o1:=hm.own.one
 have w1:yb4 .i64 ((x.memory.length:Int)-n)=(x.memory.length:Int)-n:=by rw[zb]<;>omega
 by_cases h1:at_<0
 .simp[zx8,ho,splice,h1]
  refine zeo (λh=>by omega) λ_=>?_
  simp
  exact hR (.inl h1)
 .by_cases h2:(x.memory.length:Int)-n<at_
  .simp[zx8,ho,splice,h1,w1,h2]
   refine zeo (λh=>by omega) λ_=>?_
   simp
   exact hR (.inr h2)
  .have w2:yb4 .i64 (at_+n)=at_+n:=by rw[zb]<;>omega
   simp[zx8,ho,splice,h1,w1,h2,w2]
   refine⟨by omega,by omega,by omega,by omega,?_⟩
   rw[show(at_+n).toNat-at_.toNat=n.toNat by omega]
   exact hR' (by omega)
end
theorem znA:∀(l:List UInt8),0<=zfO l/\zfO l<256^l.length
 | []=>by simp[zfO]
 | c::l=>by
  obtain⟨h1,h2⟩:=znA l
  have hc:=c.toNat_lt
  simp only[zfO,yac]
  rw[Int.pow_succ]
  omega
theorem zml:∀(l:List UInt8) (c:UInt8),zfO (l++[c])=zfO l+256^l.length*(c.toNat:Int)
 | [],c=>by simp[zfO]
 | d::l,c=>by
  simp only[yc1,zfO,zml l c,yac]
  rw[Int.pow_succ,Int.mul_add,Int.mul_comm (256^l.length) 256,Int.mul_assoc];omega
theorem zH4{a b k:Nat}(ha:a<2^k):a ||| (b*2^k)=a+b*2^k:=by
 rw[Nat.add_comm,Nat.mul_comm,Nat.or_comm]
 exact(Nat.two_pow_add_eq_or_of_lt ha b).symm
theorem zAb{a c:Int}{k:Nat}{n:Nat}(h0:0<=a)(ha:a<2^k)(hc:0<=c)(hc2:c<256)(hk:k+8<=64):zbo .u64 (· ||| ·) a (ydO.wrap (c*2^k))=a+2^k*c:=by
 obtain⟨a,rfl⟩:=yek h0
 obtain⟨c,rfl⟩:=yek hc
 have hp:(2:Nat)^(k+8)<=2^64:=yel (by omega) hk
 have ha':a<2^k:=by exact_mod_cast ha
 have hb:c*2^k<2^64:=by
  have h1:c*2^k<256*2^k:=Nat.mul_lt_mul_of_pos_right (by omega) (Nat.two_pow_pos k)
  rw[Nat.pow_add]at hp
  omega
 have hak:a<2^64:=by
  have:(2:Nat)^k<=2^64:=yel (by omega) (by omega)
  omega
 have hab:a+c*2^k<2^64:=by
  rw[Nat.pow_add]at hp
  have h1:c*2^k<=255*2^k:=Nat.mul_le_mul_right _ (by omega)
  omega
 have wn:∀z:Nat,z<2^64->ydO.wrap (z:Int)=(z:Int):=λz hz=>by
  simp[yb4,yap,yao];omega
 have e1:ydO.wrap ((c:Int)*2^k)=((c*2^k:Nat):Int):=by
  rw[<-wn _ hb];congr 1
 rw[e1]
 unfold zbo
 have e2:∀z:Nat,z<2^64->(BitVec.ofInt ydO.bits (z:Int)).toNat=z:=λz hz=>by
  rw[BitVec.ofInt_natCast,BitVec.toNat_ofNat];exact Nat.mod_eq_of_lt hz
 rw[BitVec.toNat_or,e2 a hak,e2 _ hb,zH4 ha',wn _ hab]
 push_cast
 rw[Int.mul_comm (2^k)]
theorem zts{z:Int}{n:Nat}(h1:1<=n)(h8:n<=8)(h0:0<=z)(hz:z<256^n):
  (yam.wrap (ydO.wrap (z*2^(min (64-8*n) 64)))).fdiv (2^(min (64-8*n) 64))=if z<2^(8*n-1)then z else z-2^(8*n):=by
 have hn:n=1\/n=2\/n=3\/n=4\/n=5\/n=6\/n=7\/n=8:=by omega
 rw[Int.fdiv_eq_ediv_of_nonneg _ (Int.pow_nonneg (by omega))]
 rcases hn with rfl|rfl|rfl|rfl|rfl|rfl|rfl|rfl<;>simp[yb4,yap,yao]at hz ⊢<;>split<;>split<;>omega
def LDI(mo at_ n:Nat)(l:List UInt8)(J:AS)(a:Nat->AV)(Z:AS):Prop:=∃i:Nat,i<=n/\a 0=.slm mo at_ 1 n/\a 7=.slm mo at_ 1 n/\a 8=.int .i64 (n:Int)/\a 9=.int .i64 (i:Int)/\a 3=.int .u64 (zfO (l.take i))/\Z=J
theorem ztt{G:Env}{J:AS}{R:Out->AS->Prop}{mo at_ n:Nat}{mem:List UInt8}(ho:J.objs mo=some (mem.map λb=>.int .u8 b.toNat))(h1:1<=n)(h8:n<=8)(hl:at_+n<=mem.length)(hR:R (.ret (.int .i64 (zD4 ((mem.drop at_).take n)))) J):
  zzQ G 221 [.slm mo at_ 1 n] J R:=by
 refine zx7 rfl ?_
 generalize hle:(mem.drop at_).take n=l at *
 have hll:l.length=n:=by rw[<-hle];simp;omega
 simp[zGX]
 refine zS (LDI mo at_ n l J) (MU 9 (n+1)) ⟨0,by omega,by simp,by simp,by simp,by simp,by simp[zfO],rfl⟩ λa Z hI=>?_
 obtain⟨i,hi,a0,a7,a8,a9,a3,rfl⟩:=hI
 by_cases hlt:i<n
 .have hil:i<l.length:=by omega
  have hm:mem[at_+i]?=some l[i]:=by
   rw[<-yau hil,<-hle,List.getElem?_take,List.getElem?_drop,if_pos hlt]
  have hc:=l[i].toNat_lt
  have w1:yb4 .i64 (8*(i:Int))=8*(i:Int):=by rw[zb]<;>omega
  have w2:yb4 .i64 ((i:Int)+1)=((i+1:Nat):Int):=by rw[zb]<;>omega
  have w3:yb4 .u64 (l[i].toNat:Int)=(l[i].toNat:Int):=by simp[yb4,yap,yao];omega
  obtain⟨q1,q2⟩:=znA (l.take i)
  have hti:(l.take i).length=i:=by simp;omega
  have w4:=zAb (a:=zfO (l.take i)) (c:=(l[i].toNat:Int)) (k:=8*i) (n:=0) q1 (by rw[hti]at q2;rw[Int.pow_mul];exact q2) (by omega) (by omega) (by omega)
  have w5:zfO (l.take (i+1))=zfO (l.take i)+2^(8*i)*(l[i].toNat:Int):=by
   rw[ycX hil,zml,hti,Int.pow_mul];rfl
  have w6:min (8*(i:Int)).toNat ydO.bits=8*i:=by simp[yap];omega
  simp[zjs,a0,a7,a8,a9,a3,hlt,ho,hm,w1,w2,w3,w6]
  refine⟨by omega,⟨i+1,by omega,by simp[a0],by simp[a7],by simp[a8],by simp,?_,rfl⟩,?_⟩
  .simp[w4,w5]
  .simp only[MU,a9];simp;omega
 .have e:i=n:=by omega
  subst e
  rw[ydg (by omega)]at a3
  obtain⟨q1,q2⟩:=znA l
  have w1:yb4 .i64 (8*(i:Int))=8*(i:Int):=by rw[zb]<;>omega
  have w2:yb4 .i64 (64-8*(i:Int))=((64-8*i:Nat):Int):=by rw[zb]<;>omega
  have w3:=zts h1 h8 q1 (by rw[hll]at q2;exact q2)
  simp[zjs,zrA,a0,a7,a8,a9,a3,w1,w2]
  unfold zD4 at hR
  rw[hll,<-w3]at hR
  exact hR
structure OkF(f:F):Prop where
 params:f.params.length<=2^38
 locals:f.locals.length<=2^38
 lists:f.lists.length<=2^38
 rows:∀l∈f.lists,l.length<=2^38
 nums:∀l∈f.lists,∀w∈l,w.n<=2^63-1
structure Bd(N:Nat)(x:za1)(r:Fr):Prop where
 n:N<=2^38
 stack:(r.stack.length:Int)+max x.steps 0<=N
 out:(x.out.length:Int)+max x.steps 0<=N
 fn:OkF r.fn
 calls:0<=x.calls/\x.calls<=32
 mem:x.memory.length<=2^38
 inp:x.input.length<=2^38
structure Aft(N:Nat)(x:za1)(r:Fr)(x':za1)(r':Fr):Prop where
 bd:Bd N x' r'
 steps:x'.steps<=x.steps
 calls:x'.calls=x.calls
 fn:r'.fn=r.fn
theorem Aft.trans{N x r x' r' x'' r''}(h:Aft N x r x' r')(k:Aft N x' r' x'' r''):Aft N x r x'' r'':=⟨k.bd,Int.le_trans k.steps h.steps,k.calls.trans h.calls,k.fn.trans h.fn⟩
def RBd(N:Nat)(D:Int)(rec:zg2):Prop:=∀x r at_ deep o x' r',Bd N x r->deep<=D->rec x r at_ deep=.ok o x' r'->Aft N x r x' r'/\o<=2^63-1
theorem zb6{α:Type}{r:Fr}{k:Int->Fr->Ev α}{e:Ev α}(h:zde r k=e)(hb:e≠.bad):∃v,r.stack.getLast?=some v/\k v { r with stack:=r.stack.dropLast }=e:=by
 unfold zde at h
 cases hg:r.stack.getLast? with
 | none=>rw[hg]at h;exact absurd h.symm hb
 | some v=>rw[hg]at h;exact⟨v,rfl,h⟩
structure B1(N:Nat)(x:za1)(r:Fr):Prop where
 bd:Bd N x r
 st:(r.stack.length:Int)+max x.steps 0+1<=N
 ou:(x.out.length:Int)+max x.steps 0+1<=N
theorem Bd.one{N x r}(h:Bd N x r)(hs:1<=x.steps):B1 N { x with steps:=x.steps-1 } r:=by
 obtain⟨a,b,c,d,e,f,g⟩:=h
 exact⟨⟨a,by simp only;omega,by simp only;omega,d,e,f,g⟩,by simp only;omega,by simp only;omega⟩
theorem B1.stack{N x r}(h:B1 N x r){st:List Int}{loc:List Int}{res:Int}(hs:st.length<=r.stack.length):B1 N x { r with stack:=st,locals:=loc,result:=res }:=by
 obtain⟨⟨a,b,c,d,e,f,g⟩,k,m⟩:=h
 exact⟨⟨a,by simp only;omega,c,d,e,f,g⟩,by simp only;omega,m⟩
theorem Bd.stackLe{N x r}(h:Bd N x r){st:List Int}{loc:List Int}{res:Int}(hs:st.length<=r.stack.length):Bd N x { r with stack:=st,locals:=loc,result:=res }:=by
 obtain⟨a,b,c,d,e,f,g⟩:=h
 exact⟨a,by simp only;omega,c,d,e,f,g⟩
theorem B1.aft{N x r}(h:B1 N x r){st:List Int}{loc:List Int}{res:Int}(hs:st.length<=r.stack.length+1):Aft N x r x { r with stack:=st,locals:=loc,result:=res }:=by
 obtain⟨⟨a,b,c,d,e,f,g⟩,k,m⟩:=h
 exact⟨⟨a,by simp only;omega,c,d,e,f,g⟩,yeh _,rfl,rfl⟩
theorem Bd.aft{N x r}(h:Bd N x r){st:List Int}{loc:List Int}{res:Int}(hs:st.length<=r.stack.length):Aft N x r x { r with stack:=st,locals:=loc,result:=res }:=by
 obtain⟨a,b,c,d,e,f,g⟩:=h
 exact⟨⟨a,by simp only;omega,c,d,e,f,g⟩,yeh _,rfl,rfl⟩
def ztK(fs:List F):Prop:=∀f∈fs,OkF f
theorem zvV{N:Nat}{D:Int}{rec:zg2}{fs:List F}(hr:RBd N D rec)(hf:ztK fs)(hD:0<=D){x:za1}{r:Fr}(hb:Bd N x r){g:F}(hg:g∈fs){args:List Int}{v:Int}{x':za1}{r':Fr}(h:zdj rec x g args r=.ok v x' r'):
  r'=r/\Aft N x r x' r:=by
 unfold zdj at h
 split at h
 .cases h
 rename_i hc
 obtain⟨a,b,c,d,e,f,k⟩:=hb
 have hb':Bd N { x with calls:=x.calls+1 } ⟨g,args++yaj g.locals.length 0,[],0⟩:=⟨a,by simp only[ybl];omega,c,hf g hg,by simp only;omega,f,k⟩
 have fin:∀{x1:za1} {f1:Fr},Aft N { x with calls:=x.calls+1 } ⟨g,args++yaj g.locals.length 0,[],0⟩ x1 f1->Aft N x r { x1 with calls:=x1.calls-1 } r:=λ{x1 f1} ha=>by
  obtain⟨⟨a',b',c',d',e',f',k'⟩,s1,s2,s3⟩:=ha
  simp only at s1 s2
  exact⟨⟨a,by simp only;omega,c',d,by simp only;omega,f',k'⟩,s1,by simp only;omega,rfl⟩
 split at h
 .cases h
 .cases h
 .rename_i o x1 f1 hq
  have ha:=(hr _ _ _ _ _ _ _ hb' hD hq).1
  split at h
  .obtain⟨v1,_,h⟩:=zb6 h (by simp)
   cases h
   exact⟨rfl,fin ha⟩
  .cases h
   exact⟨rfl,fin ha⟩
theorem zeP{mem:List UInt8}{at_ n:Nat}{v:Int}(h:at_+n<=mem.length):(zen mem at_ v n).length=mem.length:=by
 simp[zen];omega
theorem zap{l:List Int}{v:Int}(hv:l.getLast?=some v):l.dropLast.length+1=l.length:=by
 have:l≠[]:=by rintro rfl;simp at hv
 have:=ybm.2 this
 simp;omega
theorem ztu{N:Nat}{D:Int}{rec:zg2}{fs:List F}(hr:RBd N D rec)(hf:ztK fs)(hD:0<=D){n:Int}{x:za1}{r:Fr}(hb:B1 N x r){u:Unit}{x':za1}{r':Fr}(h:zaG fs rec x r n=.ok u x' r'):Aft N x r x' r':=by
 unfold zaG at h
 split at h
 .split at h
  .cases h;exact hb.aft (by simp[Fr.push])
  .rename_i v l hi
   cases h
   obtain⟨a,b,c,d⟩:=hb.aft (st:=r.stack++[v]) (loc:=r.locals) (res:=r.result) (by simp)
   obtain⟨a1,a2,a3,a4,a5,a6,a7⟩:=a
   rw[hi,yac]at a7
   exact⟨⟨a1,a2,a3,a4,a5,a6,by simp only;omega⟩,b,c,d⟩
 split at h
 .obtain⟨v,hv,h⟩:=zb6 h (by simp)
  have h1:=zap hv
  cases h
  obtain⟨⟨a,b,c,d,e,f,g⟩,k,m⟩:=hb
  refine⟨⟨a,?_,?_,d,e,f,g⟩,yeh _,rfl,rfl⟩
  .simp only;omega
  .simp only[yab,yem];omega
 split at h
 .obtain⟨v,hv,h⟩:=zb6 h (by simp)
  cases h
 split at h
 .cases h
 split at h
 .cases h
 rename_i g hg
 split at h
 .cases h
 have hgm:g∈fs:=yc5 hg
 split at h
 .cases h
 .cases h
 .rename_i v x1 r1 hq
  have hb2:B1 N x { r with stack:=r.stack.take (r.stack.length-g.params.length) }:=hb.stack (by simp)
  obtain⟨rfl,ha⟩:=zvV hr hf hD hb2.bd hgm hq
  cases h
  obtain⟨⟨a,b,c,d,e,f,k⟩,s1,s2,s3⟩:=ha
  have h3:=hb.st
  refine⟨⟨a,?_,c,?_,e,f,k⟩,s1,s2,?_⟩
  .split<;>simp only[Fr.push,yab,yem,ybf]at b ⊢<;>omega
  .split<;>exact d
  .split<;>rfl
set_option maxHeartbeats 2000000 in
theorem zAc{N:Nat}{D:Int}{rec:zg2}{fs:List F}(hr:RBd N D rec)(hf:ztK fs)(hD:0<=D){w:W}{x:za1}{r:Fr}(hb:B1 N x r){u:Unit}{x':za1}{r':Fr}(h:zaH fs rec w x r=.ok u x' r'):Aft N x r x' r':=by
 unfold zaH at h
 split at h
 .cases h;exact hb.aft (by simp)
 split at h
 .split at h
  .cases h
  .split at h
   .cases h
   .cases h;exact hb.aft (by simp)
 split at h
 .split at h
  .cases h
  .obtain⟨v,hv,h⟩:=zb6 h (by simp)
   cases h;exact hb.aft (by simp;omega)
 split at h
 .obtain⟨v,hv,h⟩:=zb6 h (by simp)
  obtain⟨v2,hv2,h⟩:=zb6 h (by simp)
  have h1:=zap hv
  have h2:=zap hv2
  simp only at h2
  split at h
  .cases h
  .cases h;exact hb.aft (by simp only[Fr.push,yab,yem];omega)
 split at h
 .obtain⟨v,hv,h⟩:=zb6 h (by simp)
  have h1:=zap hv
  cases h;exact hb.aft (by simp only[Fr.push,yab,yem];omega)
 split at h
 .obtain⟨v,hv,h⟩:=zb6 h (by simp)
  have h1:=zap hv
  cases h;exact hb.aft (by simp only[Fr.push,yab,yem];omega)
 split at h
 .obtain⟨v,hv,h⟩:=zb6 h (by simp)
  have h1:=zap hv
  unfold zkX at h
  split at h
  .cases h
  split at h
  .cases h
  .cases h;exact hb.aft (by simp only[Fr.push,yab,yem];omega)
 split at h
 .obtain⟨v,hv,h⟩:=zb6 h (by simp)
  obtain⟨v2,hv2,h⟩:=zb6 h (by simp)
  have h1:=zap hv
  have h2:=zap hv2
  simp only at h2
  unfold zkX at h
  split at h
  .cases h
  split at h
  .cases h
  .rename_i n1 n2
   cases h
   obtain⟨a,b,c,d⟩:=hb.aft (st:=r.stack.dropLast.dropLast) (loc:=r.locals) (res:=r.result) (by omega)
   obtain⟨a1,a2,a3,a4,a5,a6,a7⟩:=a
   refine⟨⟨a1,a2,a3,a4,a5,?_,a7⟩,b,c,d⟩
   simp only
   rw[zeP]
   .exact a6
   .simp;omega
 split at h
 .exact ztu hr hf hD hb h
 split at h
 .cases h
 split at h
 .obtain⟨v,hv,h⟩:=zb6 h (by simp)
  cases h;exact hb.aft (by simp;omega)
 .cases h;exact hb.aft (by simp)
theorem Bd.refl{N x r}(h:Bd N x r):Aft N x r x r:=⟨h,yeh _,rfl,rfl⟩
theorem zH5{N:Nat}{w:W}(hw:w.n<=2^63-1){deep:Int}(hd:deep<=2^62){x:za1}{r:Fr}(hb:Bd N x r){o:Int}{x':za1}{r':Fr}(h:zja w deep x r=.ok o x' r'):Aft N x r x' r'/\o<=2^63-1:=by
 have go:∀{n:Int} {r1:Fr},n<=2^63-1->Aft N x r x r1->(if n=deep/\r1.fn.type≠0 then zde r1 λv r=>Ev.ok n x { r with result:=v }else .ok n x r1)=.ok o x' r'->Aft N x r x' r'/\o<=2^63-1:=λ{n r1} hn ha h=>by
  split at h
  .obtain⟨v,hv,h⟩:=zb6 h (by simp)
   have:=zap hv
   cases h
   exact⟨ha.trans (ha.bd.aft (st:=r1.stack.dropLast) (loc:=r1.locals) (res:=v) (by omega)),hn⟩
  .cases h;exact⟨ha,hn⟩
 unfold zja at h
 dsimp only at h
 split at h
 .exact go (by omega) hb.refl h
 split at h
 .obtain⟨v,hv,h⟩:=zb6 h (by simp)
  have h1:=zap hv
  have ha:Aft N x r x { r with stack:=r.stack.dropLast }:=hb.aft (by omega)
  split at h
  .cases h;exact⟨ha,by omega⟩
  .exact go hw ha h
 .exact go hw hb.refl h
theorem zsa{N:Nat}{D:Int}{rec:zg2}(hr:RBd N D rec){isLoop:Bool}{at_ deep:Int}(hd:deep<=D):∀(j:Nat) {x:za1} {r:Fr},Bd N x r->∀{o:Int} {x':za1} {r':Fr},zdH rec isLoop at_ deep j x r=.ok o x' r'->Aft N x r x' r'/\o<=2^63-1
 | 0,x,r,hb,o,x',r',h=>by cases h
 | j+1,x,r,hb,o,x',r',h=>by
  rw[zdH]at h
  split at h
  .cases h
  .cases h
  .rename_i o1 x1 r1 hq
   obtain⟨ha,ho⟩:=hr _ _ _ _ _ _ _ hb hd hq
   split at h
   .obtain⟨h1,h2⟩:=zsa hr hd j ha.bd h
    exact⟨ha.trans h1,h2⟩
   .cases h
    exact⟨ha,by split<;>omega⟩
theorem zvW{N:Nat}{D:Int}{rec:zg2}(hr:RBd N D rec){k:Nat}{w:W}{deep:Int}(hd:deep<=D){x:za1}{r:Fr}(hb:Bd N x r){o:Int}{x':za1}{r':Fr}(h:zbh rec k w deep x r=.ok o x' r'):Aft N x r x' r'/\o<=2^63-1:=by
 have go:∀{at_:Int} {r1:Fr},Aft N x r x r1->(if at_<0 then Ev.ok (-1) x r1 else zdH rec (decide (w.op=12)) at_ deep k x r1)=.ok o x' r'->Aft N x r x' r'/\o<=2^63-1:=λ{at_ r1} ha h=>by
  split at h
  .cases h;exact⟨ha,by omega⟩
  .obtain⟨h1,h2⟩:=zsa hr hd k ha.bd h
   exact⟨ha.trans h1,h2⟩
 unfold zbh at h
 simp only at h
 split at h
 .obtain⟨v,hv,h⟩:=zb6 h (by simp)
  have h1:=zap hv
  exact go (hb.aft (by omega)) h
 .exact go hb.refl h
theorem zvX{N:Nat}{D:Int}{rec:zg2}{fs:List F}(hr:RBd N D rec)(hf:ztK fs)(hD:0<=D)(hD2:D<=2^62){k:Nat}{w:W}(hw:w.n<=2^63-1){deep:Int}(hd:deep+1<=D){x:za1}{r:Fr}(hb:B1 N x r){o:Int}{x':za1}{r':Fr}(h:zdk fs rec k deep w x r=.ok o x' r'):
  Aft N x r x' r'/\o<=2^63-1:=by
 unfold zdk at h
 split at h
 .exact zvW hr hd hb.bd h
 split at h
 .exact zH5 hw (by omega) hb.bd h
 split at h
 .cases h
 .cases h
 .rename_i u x1 r1 hq
  cases h
  exact⟨zAc hr hf hD hb hq,by omega⟩
theorem zpf{N:Nat}{D:Int}{rec:zg2}{fs:List F}(hr:RBd N D rec)(hf:ztK fs)(hD:0<=D)(hD2:D<=2^62){k:Nat}{deep:Int}(hd:deep+1<=D){height:Nat}:∀(ws:List W),(∀w∈ws,w.n<=2^63-1)->∀{x:za1} {r:Fr},Bd N x r->∀{o:Int} {x':za1} {r':Fr},zaZ fs rec k deep height ws x r=.ok o x' r' ->
  Aft N x r x' r'/\o<=2^63-1
 | [],_,x,r,hb,o,x',r',h=>by cases h;exact⟨hb.refl,by omega⟩
 | w::ws,hw,x,r,hb,o,x',r',h=>by
  rw[zaZ]at h
  split at h
  .cases h
  rename_i hs
  split at h
  .cases h
  .cases h
  .rename_i o1 x1 r1 hq
   obtain⟨ha,ho⟩:=zvX hr hf hD hD2 (hw w (by simp)) hd (hb.one (by omega)) hq
   have ha':Aft N x r x1 r1:=⟨ha.bd,by have:=ha.steps;simp only at this;omega,ha.calls,ha.fn⟩
   split at h
   .obtain⟨h1,h2⟩:=zpf hr hf hD hD2 hd ws (λw h=>hw w (by simp[h])) ha.bd h
    exact⟨ha'.trans h1,h2⟩
   .split at h
    .cases h
    .cases h
     exact⟨ha'.trans (ha.bd.aft (by rw[ybf];omega)),ho⟩
theorem zqW{N:Nat}{fs:List F}(hf:ztK fs):∀(k:Nat) (D:Int),0<=D->D+k<=2^62->RBd N D (zny fs k)
 | 0,D,_,_=>λx r at_ deep o x' r' _ _ h=>by cases h
 | k+1,D,h0,h1=>λx r at_ deep o x' r' hb hd h=>by
  rw[zny]at h
  split at h
  .cases h
  split at h
  .cases h
  .rename_i ws hws
   exact zpf (zqW hf k (D+1) (by omega) (by push_cast at h1;omega)) hf (by omega) (by push_cast at h1;omega) (by omega) ws (λw hw=>hb.fn.nums _ (yc5 hws) w hw) hb h
def XO(fs:List F)(mm mn:Int)(J0:AS)(xo mo:Nat)(D T:List Nat)(x:za1)(J:AS):Prop:=∃ov,XM fs mm mn J0 xo mo D T x ov J
section
variable {G : Env} {fs : List F} {mm mn : Int} {J0 J : AS} {xo mo fo : Nat} {L T : List Nat} {x : za1} {r : Fr} {R : Out -> AS -> Prop}
theorem XF.adds{J':AS}(h:XF fs mm mn J0 xo mo fo L T x r J)(A:zd J J'):XF fs mm mn J0 xo mo fo L T x r J':=by
 obtain⟨ov,sv,hm,hr,hd⟩:=h
 have hno:=hm.no
 have hxl:=hm.xl
 have hml:=hm.ml
 refine⟨ov,sv,⟨yai hm.no A.no,yai hm.nf A.nf,λo h1 h2 h3 h4=>?_,λg h1 h2=>?_,hm.xl,hm.ml,hm.xm,λo h1=>?_,?_,?_,hm.ownT,?_⟩,⟨?_,hr.fl,?_,hr.ownT⟩,hd⟩
 .rw[A.obj o (by omega)];exact hm.obj o h1 h2 h3 h4
 .have:=hm.nf;rw[A.fam g (by omega)];exact hm.fam g h1 h2
 .have:=hm.dl o h1;have:=A.no;exact⟨by omega,(hm.dl o h1).2⟩
 .obtain⟨fv,iv,a,b,c⟩:=hm.mach
  exact⟨fv,iv,by rw[A.obj xo (by omega)];exact a,b,c⟩
 .exact hm.own.keep A.nf λg hg=>A.fam g (hm.own.lt g hg)
 .rw[A.obj mo (by omega)];exact hm.mem
 .obtain⟨pv,lv,tv,cv,a,b,c,d,e⟩:=hr.fr
  exact⟨pv,lv,tv,cv,by rw[A.obj fo (hm.dl fo (by simp)).1];exact a,b,c,d,e.keep λo ho=>A.obj o (hm.dl o (by simp[ho])).1⟩
 .exact hr.own.keep A.nf λg hg=>A.fam g (hr.own.lt g hg)
theorem XF.other(h:XF fs mm mn J0 xo mo fo L T x r J){o:Nat}(h1:o<J0.no)(h2:o≠xo)(h3:o≠mo)(h4:o≠fo)(h5:o∉L):J.objs o=J0.objs o:=by
 obtain⟨ov,sv,hm,_,_⟩:=h
 exact hm.obj o h1 h2 h3 (by simp[h4,h5])
theorem XF.lts(h:XF fs mm mn J0 xo mo fo L T x r J):xo<J.no/\mo<J.no/\fo<J.no/\∀o∈L,o<J.no:=by
 obtain⟨ov,sv,hm,_,_⟩:=h
 have:=hm.no;have:=hm.xl;have:=hm.ml
 exact⟨by omega,by omega,(hm.dl fo (by simp)).1,λo ho=>(hm.dl o (by simp[ho])).1⟩
theorem XF.anchor(h:XF fs mm mn J0 xo mo fo L T x r J):∃T',XF fs mm mn J xo mo fo L T' x r J/\(∀x' r' J',XF fs mm mn J xo mo fo L T' x' r' J'->XF fs mm mn J0 xo mo fo L T x' r' J') /\
  ∀x' J',XO fs mm mn J xo mo (fo::L) T' x' J'->XO fs mm mn J0 xo mo (fo::L) T x' J':=by
 have hl:=h.lts
 obtain⟨ov,sv,hm,hr,hd⟩:=h
 have tT:∀g,g∈zaz ov++zaz sv->g∈T\/J0.nf<=g:=λg hg=>by
  rcases ybh.1 hg with hg|hg
  .exact hm.ownT g hg
  .exact hr.ownT g hg
 have mt:∀x' ov' J',XM fs mm mn J xo mo (fo::L) (zaz ov++zaz sv) x' ov' J'->XM fs mm mn J0 xo mo (fo::L) T x' ov' J':=λx' ov' J' k=>by
  have h1:=hm.no;have h2:=hm.nf;have h3:=k.no;have h4:=k.nf
  refine⟨by omega,by omega,λo a b c d=>?_,λg a b=>?_,hm.xl,hm.ml,hm.xm,k.dl,k.mach,k.own,λg hg=>?_,k.mem⟩
  .rw[k.obj o (by omega) b c d];exact hm.obj o a b c d
  .rw[k.fam g (by omega) (λhg=>by rcases tT g hg with h|h;exact b h;omega)];exact hm.fam g a b
  .rcases k.ownT g hg with h|h
   .exact tT g h
   .right;omega
 refine⟨zaz ov++zaz sv,⟨ov,sv,⟨yah _,yah _,λ_ _ _ _ _=>rfl,λ_ _ _=>rfl,hl.1,hl.2.1,hm.xm,hm.dl,hm.mach,hm.own,λg hg=>.inl (by simp[hg]),hm.mem⟩,⟨hr.fr,hr.fl,hr.own,λg hg=>.inl (by simp[hg])⟩,hd⟩,?_,?_⟩
 .rintro x' r' J' ⟨ov',sv',km,kr,kd⟩
  refine⟨ov',sv',mt _ _ _ km,⟨kr.fr,kr.fl,kr.own,λg hg=>?_⟩,kd⟩
  rcases kr.ownT g hg with h|h
  .exact tT g h
  .right;have:=hm.nf;omega
 .rintro x' J' ⟨ov',km⟩
  exact⟨ov',mt _ _ _ km⟩
theorem XF.stop(h:XF fs mm mn J0 xo mo fo L T x r J):XO fs mm mn J0 xo mo (fo::L) T x J:=by
 obtain⟨ov,sv,hm,_,_⟩:=h;exact⟨ov,hm⟩
def zk1(G:Env)(fs:List F)(mm mn:Int)(N:Nat)(D:Int)(rec:zg2):Prop:=∀{J0 J:AS} {xo mo fo:Nat} {L T:List Nat} {x:za1} {r:Fr} {at_ deep:Int} {R:Out->AS->Prop},
 XF fs mm mn J0 xo mo fo L T x r J->Bd N x r->0<=deep->deep<=D->rec x r at_ deep≠.bad ->
 (∀o x' r' J',rec x r at_ deep=.ok o x' r'->XF fs mm mn J0 xo mo fo L T x' r' J'->R (.ret (.int .i64 o)) J') ->
 (∀s c x' J',rec x r at_ deep=.over s c x'->XO fs mm mn J0 xo mo (fo::L) T x' J'->R (.panic (zk0 s c)) J') ->
 zzQ G 146 [.ptr xo 0,.ptr fo 0,.int .i64 at_,.int .i64 deep] J R
theorem XF.cells(h:XF fs mm mn J0 xo mo fo L T x r J):∃pv lv tv cv sv,J.objs fo=some [.str r.fn.name,pv,lv,.int .i64 r.fn.type,tv,cv,sv,.int .i64 r.result]/\(pv.known=true/\pv.one=true/\pv.cells=[pv])/\(lv.known=true/\lv.one=true/\lv.cells=[lv]) /\
  (tv.known=true/\tv.one=true/\tv.cells=[tv])/\(cv.known=true/\cv.one=true/\cv.cells=[cv])/\(sv.known=true/\sv.one=true/\sv.cells=[sv])/\znz J sv r.stack/\zdN tv r.fn.lists/\zD6 J L cv r.locals /\
  ∀v,XF fs mm mn J0 xo mo fo L T x { r with result:=v } (J.setO fo [.str r.fn.name,pv,lv,.int .i64 r.fn.type,tv,cv,sv,.int .i64 v]):=by
 have hx:=h
 obtain⟨ov,sv,hm,hr,hd⟩:=h
 obtain⟨pv,lv,tv,cv,ho,hpv,hlv,htv,hcv⟩:=hr.fr
 exact⟨pv,lv,tv,cv,sv,ho,hpv.one,hlv.one,htv.one,hcv.one,hr.own.one,hr.own,htv,hcv,λv=>hx.setFr (J1:=J) (st':=r.stack) ho rfl rfl (yah _) (λ_ _ _=>rfl) hr.own λg hg=>.inl hg⟩
theorem zbA{l:List Int}(h:l≠[]):∃v,l.getLast?=some v:=⟨_,yeg h⟩
set_option maxHeartbeats 1000000 in
theorem zk2{N:Nat}{w:W}{deep:Int}(h:XF fs mm mn J0 xo mo fo L T x r J)(hb:Bd N x r)(hw:zja w deep x r≠.bad)(hR:∀o x' r' J',zja w deep x r=.ok o x' r'->XF fs mm mn J0 xo mo fo L T x' r' J'->R (.ret (.int .i64 o)) J'):
  zzQ G 182 [.ptr fo 0,w.av,.int .i64 deep] J R:=by
 refine zxS rfl ?_
 obtain⟨wop,wty,wn,wbody,wother,wname⟩:=w
 have hn:=hb.n
 have hst:r.stack.length<=2^40:=by have:=hb.stack;omega
 have hlts:=h.lts
 have h1:XF fs mm mn J0 xo mo fo L T x r (J.newO [.int .i64 wop,.int .i64 wty,.int .i64 wn,.int .i64 wbody,.int .i64 wother,.str wname]):=h.adds (zd.refl J).newO
 obtain⟨T',k1,k2,_⟩:=h1.anchor
 have hfo:fo≠J.no:=by omega
 have hbo:∀{r1:Fr} {J':AS},XF fs mm mn (J.newO [.int .i64 wop,.int .i64 wty,.int .i64 wn,.int .i64 wbody,.int .i64 wother,.str wname]) xo mo fo L T' x r1 J'->J'.objs J.no=some [.int .i64 wop,.int .i64 wty,.int .i64 wn,.int .i64 wbody,.int .i64 wother,.str wname]:=λ{r1 J'} hx=>by
  rw[hx.other (o:=J.no) (by simp) (by omega) (by omega) (by omega) (λhh=>by have:=hlts.2.2.2 _ hh;omega)];simp
 obtain⟨pv,lv,tv,cv,sv,ho,e1,e2,e3,e4,e5,_,_,_,_⟩:=h.cells
 -- the branch tO the body,that takes the result
 have last:∀{r1:Fr} {J1:AS} {n:Int},XF fs mm mn (J.newO [.int .i64 wop,.int .i64 wty,.int .i64 wn,.int .i64 wbody,.int .i64 wother,.str wname]) xo mo fo L T' x r1 J1->r1.stack.length<=2^40->zde r1 (λv r=>Ev.ok n x { r with result:=v })≠.bad ->
   ∀{K:Out->AS->Prop},(∀v J' pv lv tv cv sv,r1.stack.getLast?=some v->J'.objs fo=some [.str r1.fn.name,pv,lv,.int .i64 r1.fn.type,tv,cv,sv,.int .i64 r1.result]->(pv.known=true/\pv.one=true/\pv.cells=[pv])->(lv.known=true/\lv.one=true/\lv.cells=[lv])->(tv.known=true/\tv.one=true/\tv.cells=[tv])->(cv.known=true/\cv.one=true/\cv.cells=[cv])->(sv.known=true/\sv.one=true/\sv.cells=[sv]) ->
    XF fs mm mn J0 xo mo fo L T x { r1 with stack:=r1.stack.dropLast,result:=v } (J'.setO fo [.str r1.fn.name,pv,lv,.int .i64 r1.fn.type,tv,cv,sv,.int .i64 v])->K (.ret (.int .i64 v)) J')->zzQ G 147 [.ptr fo 0] J1 K:=by
  intro r1 J1 n hx hl hp K hK
  have hne:r1.stack≠[]:=by rintro e;simp[zde,e]at hp
  obtain⟨v,hv⟩:=zbA hne
  refine zaJ hx hl hv λJ' hx'=>?_
  obtain⟨pv,lv,tv,cv,sv,ho,e1,e2,e3,e4,e5,_,_,_,hset⟩:=hx'.cells
  exact hK v J' pv lv tv cv sv hv ho e1 e2 e3 e4 e5 (k2 _ _ _ (hset v))
 by_cases h16:wop=16
 .subst h16
  simp only[zja,if_true]at hw hR
  by_cases ht:r.fn.type=0
  .simp[ht]at hR
   simp[zp5,W.av,W.cs,splice,hfo,ho,ht,e1,e2,e3,e4,e5]
   exact hR _ _ _ _ rfl rfl rfl h1
  .simp[ht]at hR hw
   simp[zp5,W.av,W.cs,splice,hfo,ho,ht,e1,e2,e3,e4,e5]
   refine last k1 hst hw λv J' pv lv tv cv sv hv ho e1 e2 e3 e4 e5 hx=>?_
   simp[ho,e1,e2,e3,e4,e5,splice]
   exact hR _ _ _ _ (by simp[zde,hv]) hx
 by_cases h15:wop=15
 .subst h15
  have hne:r.stack≠[]:=by rintro e;simp[zja,zde,e]at hw
  obtain⟨v,hv⟩:=zbA hne
  have hd:=zap hv
  simp[zp5,W.av,W.cs,splice,hfo,ho,e1,e2,e3,e4,e5]
  refine zaJ k1 hst hv λJ' hx'=>?_
  obtain⟨pv,lv,tv,cv,sv,ho',e1,e2,e3,e4,e5,_,_,_,_⟩:=hx'.cells
  have hbo':=hbo hx'
  by_cases hv0:v=0
  .simp[zja,zde,hv,hv0]at hR
   simp[hv0,splice]
   exact hR _ _ _ _ rfl rfl rfl (k2 _ _ _ hx')
  .by_cases hnd:wn=deep
   .by_cases ht:r.fn.type=0
    .simp[zja,zde,hv,hv0,hnd,ht]at hR
     simp[hv0,splice,hnd,ho',ht,e1,e2,e3,e4,e5,hbo',W.cs]
     exact hR _ _ _ _ rfl rfl rfl (k2 _ _ _ hx')
    .have hw':zde { r with stack:=r.stack.dropLast } (λv r=>Ev.ok deep x { r with result:=v })≠.bad:=by
      intro hh;apply hw;rw[<-hh];simp only[zja];simp[zde,hv,hv0,hnd,ht]
     simp[hv0,splice,hnd,ho',ht,e1,e2,e3,e4,e5,hbo',W.cs]
     refine last hx' (by simp;omega) hw' λv2 J' pv lv tv cv sv hv2 ho e1 e2 e3 e4 e5 hx=>?_
     simp[ho,e1,e2,e3,e4,e5,splice]
     refine hR _ _ _ _ ?_ hx
     simp only[zja]
     simp[zde,hv,hv0,hnd,ht,hv2]
   .simp[zja,zde,hv,hv0,hnd]at hR
    simp[hv0,splice,hnd,ho',e1,e2,e3,e4,e5,hbo',W.cs]
    exact hR _ _ _ _ rfl rfl rfl (k2 _ _ _ hx')
 by_cases hnd:wn=deep
 .by_cases ht:r.fn.type=0
  .simp[zja,h16,h15,hnd,ht]at hR
   simp[zp5,W.av,W.cs,splice,h16,h15,hnd,hfo,ho,ht,e1,e2,e3,e4,e5]
   exact hR _ _ _ _ rfl rfl rfl (by simpa [hnd]using h1)
  .simp[zja,h16,h15,hnd,ht]at hR hw
   subst hnd
   simp[zp5,W.av,W.cs,splice,h16,h15,hfo,ho,ht,e1,e2,e3,e4,e5]
   refine last k1 hst hw λv J' pv lv tv cv sv hv ho e1 e2 e3 e4 e5 hx=>?_
   simp[ho,e1,e2,e3,e4,e5,splice]
   exact hR _ _ _ _ (by simp[zde,hv]) hx
 .simp[zja,h16,h15,hnd]at hR
  simp[zp5,W.av,W.cs,splice,h16,h15,hnd,hfo,ho,e1,e2,e3,e4,e5]
  exact hR _ _ _ _ rfl rfl rfl h1
end
section
variable {G : Env} {fs : List F} {mm mn : Int} {J0 J : AS} {xo mo fo : Nat} {L T : List Nat} {x : za1} {r : Fr} {R : Out -> AS -> Prop}
theorem zhK{N:Nat}{D:Int}{rec:zg2}(hrec:zk1 G fs mm mn N D rec)(hbd:RBd N D rec){wop wty wn wbody wother at_ deep:Int}{wname:List UInt8}{bo:Nat}(h0:0<=deep)(hd:deep<=D)(hat:0<=at_)
  (hbo:∀{x1:za1} {r1:Fr} {J':AS},XF fs mm mn J0 xo mo fo L T x1 r1 J'->J'.objs bo=some [.int .i64 wop,.int .i64 wty,.int .i64 wn,.int .i64 wbody,.int .i64 wother,.str wname]) :
  ∀(j:Nat) {x1:za1} {r1:Fr} {Z:AS} {a:Nat->AV},XF fs mm mn J0 xo mo fo L T x1 r1 Z->Bd N x1 r1->zdH rec (decide (wop=12)) at_ deep j x1 r1≠.bad->a 0=.ptr xo 0->a 1=.ptr fo 0->a 3=.int .i64 deep->a 6=.ptr bo 0->a 9=.int .i64 at_ ->
   (∀o x' r' J',zdH rec (decide (wop=12)) at_ deep j x1 r1=.ok o x' r'->XF fs mm mn J0 xo mo fo L T x' r' J'->R (.ret (.int .i64 o)) J') ->
   (∀s c x' J',zdH rec (decide (wop=12)) at_ deep j x1 r1=.over s c x'->XO fs mm mn J0 xo mo (fo::L) T x' J'->R (.panic (zk0 s c)) J') ->
   zdV yb9 G 41 zf6 (zai 0 (zab (avc yb9 G 41 zf7 (zbE yb9 [ResultVar.tmp 8] R)) (zbE yb9 [ResultVar.tmp 8] R))) j a Z
 | 0,x1,r1,Z,a,hx,hb,hw,_,_,_,_,_,_,_=>by simp[zdH]at hw
 | j+1,x1,r1,Z,a,hx,hb,hw,a0,a1,a3,a6,a9,hR,hO=>by
  have hat':¬at_<0:=by omega
  simp only[zdH]at hw hR hO
  simp[zf6,a0,a1,a3,a6,a9,hat,hat']
  refine hrec hx hb h0 hd (λe=>by rw[e]at hw;exact hw rfl) (λo x' r' J' e hx'=>?_) (λs c x' J' e ho=>?_)
  .rw[e]at hw hR hO
   obtain⟨hA,ho2⟩:=hbd _ _ _ _ _ _ _ hb hd e
   have hbo':=hbo hx'
   simp only at hw hR hO
   by_cases ho:o=0
   .by_cases h12:wop=12
    .simp only[ho,h12,decide_true,and_self,if_true]at hw hR hO
     simp[ho,h12,hbo',splice,a0,a1,a3,a6,a9]
     exact zhK hrec hbd h0 hd hat hbo j hx' hA.bd (by simpa [h12]using hw) (by simp[a0]) (by simp[a1]) (by simp[a3]) (by simp[a6]) (by simp[a9]) (by simpa [h12]using hR) (by simpa [h12]using hO)
    .simp[ho,h12]at hR
     simp[ho,h12,hbo',zf7,a0,a1,a3,a6,a9]
     exact hR _ _ _ _ rfl rfl rfl hx'
   .by_cases hp:0<o
    .have w1:yb4 .i64 (o-1)=o-1:=by rw[zb]<;>omega
     simp[ho,hp]at hR
     simp[ho,hp,hbo',w1,splice,a0,a1,a3,a6,a9]
     exact hR _ _ _ _ rfl rfl rfl hx'
    .simp[ho,hp]at hR
     simp[ho,hp,hbo',zf7,a0,a1,a3,a6,a9]
     exact hR _ _ _ _ rfl rfl rfl hx'
  .rw[e]at hO
   simp
   exact hO _ _ _ _ rfl ho
theorem zfR{N:Nat}{D:Int}{rec:zg2}(hrec:zk1 G fs mm mn N D rec)(hbd:RBd N D rec){k:Nat}{w:W}{deep:Int}(h:XF fs mm mn J0 xo mo fo L T x r J)(hb:Bd N x r)(h0:0<=deep)(hd:deep<=D)(hw:zbh rec k w deep x r≠.bad)
  (hR:∀o x' r' J',zbh rec k w deep x r=.ok o x' r'->XF fs mm mn J0 xo mo fo L T x' r' J'->R (.ret (.int .i64 o)) J')
  (hO:∀s c x' J',zbh rec k w deep x r=.over s c x'->XO fs mm mn J0 xo mo (fo::L) T x' J'->R (.panic (zk0 s c)) J') :
  zzQ G 181 [.ptr xo 0,.ptr fo 0,w.av,.int .i64 deep] J R:=by
 refine zxR rfl ?_
 obtain⟨wop,wty,wn,wbody,wother,wname⟩:=w
 have hn:=hb.n
 have hst:r.stack.length<=2^40:=by have:=hb.stack;omega
 have hlts:=h.lts
 have h1:XF fs mm mn J0 xo mo fo L T x r (J.newO [.int .i64 wop,.int .i64 wty,.int .i64 wn,.int .i64 wbody,.int .i64 wother,.str wname]):=h.adds (zd.refl J).newO
 obtain⟨T',k1,k2,k3⟩:=h1.anchor
 have hbo:∀{x1:za1} {r1:Fr} {J':AS},XF fs mm mn (J.newO [.int .i64 wop,.int .i64 wty,.int .i64 wn,.int .i64 wbody,.int .i64 wother,.str wname]) xo mo fo L T' x1 r1 J'->J'.objs J.no=some [.int .i64 wop,.int .i64 wty,.int .i64 wn,.int .i64 wbody,.int .i64 wother,.str wname]:=λ{x1 r1 J'} hx=>by
  rw[hx.other (o:=J.no) (by simp) (by omega) (by omega) (by omega) (λhh=>by have:=hlts.2.2.2 _ hh;omega)];simp
 have go:∀{at_:Int} {r1:Fr} {J1:AS} {a:Nat->AV},XF fs mm mn (J.newO [.int .i64 wop,.int .i64 wty,.int .i64 wn,.int .i64 wbody,.int .i64 wother,.str wname]) xo mo fo L T' x r1 J1->Bd N x r1->(if at_<0 then Ev.ok (-1) x r1 else zdH rec (decide (wop=12)) at_ deep k x r1)=zbh rec k ⟨wop,wty,wn,wbody,wother,wname⟩ deep x r ->
   a 0=.ptr xo 0->a 1=.ptr fo 0->a 3=.int .i64 deep->a 6=.ptr J.no 0->a 9=.int .i64 at_->zj5 yb9 G 41 zf6 (zai 0 (zab (avc yb9 G 41 zf7 (zbE yb9 [ResultVar.tmp 8] R)) (zbE yb9 [ResultVar.tmp 8] R))) a J1:=by
  intro at_ r1 J1 a hx hb1 e a0 a1 a3 a6 a9
  by_cases hat:at_<0
  .refine zcb 1 ?_
   have hat':¬0<=at_:=by omega
   rw[if_pos hat]at e
   simp[zf6,zf7,a0,a1,a3,a6,a9,hat,hat']
   exact hR _ _ _ _ e.symm (k2 _ _ _ hx)
  .rw[if_neg hat]at e
   refine zcb k ?_
   exact zhK (R:=R) hrec hbd h0 hd (by omega) hbo k hx hb1 (by rw[e];exact hw) a0 a1 a3 a6 a9 (λo x' r' J' e2 hx'=>hR _ _ _ _ (e▸e2) (k2 _ _ _ hx')) (λs c x' J' e2 ho=>hO _ _ _ _ (e▸e2) (k3 _ _ ho))
 by_cases h13:wop=13
 .subst h13
  have hne:r.stack≠[]:=by rintro e;simp[zbh,zde,e]at hw
  obtain⟨v,hv⟩:=zbA hne
  have hdl:=zap hv
  simp[zDt,W.av,W.cs]
  refine zaJ k1 hst hv λJ' hx'=>?_
  have hbo':=hbo hx'
  by_cases hv0:v=0
  .simp[hv0,hbo',splice]
   refine go (at_:=wother) hx' (hb.stackLe (by omega)) ?_ (by simp) (by simp) (by simp) (by simp) (by simp)
   simp[zbh,zde,hv,hv0]
  .simp[hv0,hbo',splice]
   refine go (at_:=wbody) hx' (hb.stackLe (by omega)) ?_ (by simp) (by simp) (by simp) (by simp) (by simp)
   simp[zbh,zde,hv,hv0]
 .simp[zDt,W.av,W.cs,h13]
  refine go (at_:=wbody) k1 hb ?_ (by simp) (by simp) (by simp) (by simp) (by simp)
  simp[zbh,h13]
end
section
variable {G : Env} {fs : List F} {mm mn : Int} {J0 J : AS} {xo mo fo : Nat} {L T D : List Nat} {x : za1} {r : Fr} {R : Out -> AS -> Prop}
def zwG(J:AS)(v:AV)(l:List Int):Prop:=(l=[]/\v=.sl (.stat true) 1 [])\/znz J v l
theorem zwG.one{J v l}(h:zwG J v l):v.known=true/\v.one=true/\v.cells=[v]:=by
 rcases h with ⟨_,rfl⟩|h
 .simp
 .exact h.one
theorem zgz{l:List Int}{sv:AV}(h:znz J sv l)(hl:l.length<=2^40)(hR:∀av J',zwG J' av l->zd J J'->(∀g∈zaz av,J.nf<=g)->R (.ret av) J'):zzQ G 248 [sv] J R:=by
 refine zyl rfl ?_
 rcases h with ⟨rfl,rfl⟩|⟨g,rfl,h1,h2⟩
 .have:=hR .nilsl J (.inr (.inl ⟨rfl,rfl⟩)) (.refl _) (by simp[zaz])
  simp[zyk,aeq]
  exact this
 .cases l with
  | nil =>
   have:=hR (.sl (.stat true) 1 []) J (.inl ⟨rfl,rfl⟩) (.refl _) (by simp[zaz])
   simp[zyk,aeq,h2]
   exact this
  | cons n l =>
   have:=hR (.sl (.fam J.nf false) 1 ((n::l).map (.int .i64))) J.newF (.inr (.inr ⟨_,rfl,by simp,by simp⟩)) (zd.refl J).newF (by simp[zaz])
   simp at hl
   simp[zyk,aeq,h2]
   exact⟨by omega,by simpa using this⟩
theorem ztv{el:Option TypeId}{av:AV}{args:List Int}{n:Nat}{K:AV->AS->Prop}(h:zwG J av args)(hl:args.length+n<=2^40)
  (hK:∀cv J',zwG J' cv (args++yaj n 0)->J'.objs=J.objs->J'.no=J.no->J.nf<=J'.nf->(∀k,k<J.nf->k∉zaz av->J'.F k=J.F k)->(∀k∈zaz cv,k∈zaz av\/J.nf<=k)->K cv J') :
  zbT el 8 1 av (yaj n (.int .i64 0)) J K:=by
 have hrep:∀m,(yaj m (yc0 .i64 0))=(yaj m (0:Int)).map (.int .i64):=λm=>by simp
 have fresh:∀{a:List Int},zwG J.newF (.sl (.fam J.nf false) 1 ((a++yaj n 0).map (.int .i64))) (a++yaj n 0):=λ{a}=>.inr (.inr ⟨_,rfl,by simp,by simp⟩)
 rcases h with ⟨rfl,rfl⟩|⟨rfl,rfl⟩|⟨g,rfl,h1,h2⟩
 .cases n with
  | zero=>simpa using hK (.sl (.stat true) 1 []) J (.inl ⟨rfl,rfl⟩) rfl rfl (yah _) (λ_ _ _=>rfl) (by simp[zaz])
  | succ n =>
   have:=hK _ J.newF (fresh (a:=[])) (by simp) (by simp) (by simp) (λk h1 _=>by simp;intro h;omega) (by simp[zaz])
   rw[ydb]
   simp at hl
   simp
   refine⟨by omega,?_⟩
   simpa [ydb]using this
 .cases n with
  | zero=>simpa using hK .nilsl J (.inr (.inl ⟨rfl,rfl⟩)) rfl rfl (yah _) (λ_ _ _=>rfl) (by simp[zaz])
  | succ n =>
   have:=hK _ J.newF (fresh (a:=[])) (by simp) (by simp) (by simp) (λk h1 _=>by simp;intro h;omega) (by simp[zaz])
   rw[ydb]
   simp at hl
   simp
   refine⟨by omega,?_⟩
   simpa [ydb]using this
 .have:=hK (.sl (.fam J.nf false) 1 ((args++yaj n 0).map (.int .i64))) (J.setF g .dead).newF (.inr (.inr ⟨_,rfl,by simp,by simp⟩)) (by simp) (by simp) (by simp) (λk h1 h2=>by simp[zaz]at h2;simp[h2];intro h;omega) (by simp[zaz])
  simp[h2]
  exact⟨by omega,by simpa using this⟩
theorem XM.adds{ov:AV}{J':AS}(hm:XM fs mm mn J0 xo mo D T x ov J)(A:zd J J'):XM fs mm mn J0 xo mo D T x ov J':=by
 have hno:=hm.no
 have hxl:=hm.xl
 have hml:=hm.ml
 refine⟨yai hm.no A.no,yai hm.nf A.nf,λo h1 h2 h3 h4=>?_,λg h1 h2=>?_,hm.xl,hm.ml,hm.xm,λo h1=>?_,?_,?_,hm.ownT,?_⟩
 .rw[A.obj o (by omega)];exact hm.obj o h1 h2 h3 h4
 .have:=hm.nf;rw[A.fam g (by omega)];exact hm.fam g h1 h2
 .have:=hm.dl o h1;have:=A.no;exact⟨by omega,(hm.dl o h1).2⟩
 .obtain⟨fv,iv,a,b,c⟩:=hm.mach
  exact⟨fv,iv,by rw[A.obj xo (by omega)];exact a,b,c⟩
 .exact hm.own.keep A.nf λg hg=>A.fam g (hm.own.lt g hg)
 .rw[A.obj mo (by omega)];exact hm.mem
theorem XM.calls{fv iv ov:AV}{c:Int}(hm:XM fs mm mn J0 xo mo D T x ov J)(ho:J.objs xo=some [fv,.int .i64 mm,.int .i64 mn,iv,.int .i64 x.steps,.slm mo 0 1 x.memory.length,ov,.int .i64 x.calls])(hf:FsV fv fs)(hi:zaR iv x.input):
  XM fs mm mn J0 xo mo D T { x with calls:=c } ov (J.setO xo [fv,.int .i64 mm,.int .i64 mn,iv,.int .i64 x.steps,.slm mo 0 1 x.memory.length,ov,.int .i64 c]):=by
 refine⟨by simpa using hm.no,hm.nf,λo h1 h2 h3 h4=>by simp[h2];exact hm.obj o h1 h2 h3 h4,hm.fam,hm.xl,hm.ml,hm.xm,λo h=>by simpa using hm.dl o h,⟨fv,iv,by simp,hf,hi⟩,hm.own.keep (by simp) (λ_ _=>rfl),hm.ownT,?_⟩
 simp[Ne.symm hm.xm];exact hm.mem
theorem XM.reanchor{ov:AV}(hm:XM fs mm mn J0 xo mo D T x ov J){D':List Nat}(hd:∀o∈D',o<J.no/\o≠xo/\o≠mo):XM fs mm mn J xo mo D' (zaz ov) x ov J:=by
 have:=hm.no;have:=hm.xl;have:=hm.ml
 exact⟨yah _,yah _,λ_ _ _ _ _=>rfl,λ_ _ _=>rfl,by omega,by omega,hm.xm,hd,hm.mach,hm.own,λg hg=>.inl hg,hm.mem⟩
theorem XM.back{ov:AV}(hm:XM fs mm mn J0 xo mo D T x ov J){D':List Nat}(hd:∀o∈D',J0.no<=o){x':za1}{J':AS}(h:XO fs mm mn J xo mo D' (zaz ov) x' J'):XO fs mm mn J0 xo mo D T x' J':=by
 obtain⟨ov',k⟩:=h
 have h1:=hm.no;have h2:=hm.nf;have h3:=k.no;have h4:=k.nf
 refine⟨ov',by omega,by omega,λo a b c d=>?_,λg a b=>?_,hm.xl,hm.ml,hm.xm,λo ho=>?_,k.mach,k.own,λg hg=>?_,k.mem⟩
 .rw[k.obj o (by omega) b c (λhh=>by have:=hd o hh;omega)];exact hm.obj o a b c d
 .rw[k.fam g (by omega) (λhg=>by rcases hm.ownT g hg with h|h;exact b h;omega)];exact hm.fam g a b
 .have:=hm.dl o ho;exact⟨by omega,this.2⟩
 .rcases k.ownT g hg with h|h
  .exact hm.ownT g h
  .right;omega
theorem XM.fams{ov:AV}(hm:XM fs mm mn J0 xo mo D T x ov J){J1:AS}{av:AV}(haT:∀k∈zaz av,k∈T\/J0.nf<=k)(hao:∀k∈zaz av,k∉zaz ov)(q1:J1.objs=J.objs)(q2:J1.no=J.no)(q3:J.nf<=J1.nf)(q4:∀k,k<J.nf->k∉zaz av->J1.F k=J.F k):
  XM fs mm mn J0 xo mo D T x ov J1:=by
 have h2:=hm.nf
 refine⟨by rw[q2];exact hm.no,by omega,λo a b c d=>by rw[q1];exact hm.obj o a b c d,λg a b=>?_,hm.xl,hm.ml,hm.xm,λo ho=>by rw[q2];exact hm.dl o ho,by rw[q1];exact hm.mach,hm.own.keep q3 λg hg=>q4 g (hm.own.lt g hg) λh=>hao g h hg,hm.ownT,by rw[q1];exact hm.mem⟩
 rw[q4 g (by omega) (λh=>by rcases haT g h with h|h;exact b h;omega)];exact hm.fam g a b
theorem zpg:∀(l:List Int),zu (l.map (yc0 .i64))=l.map (yc0 .i64)
 | []=>rfl
 | a::l=>by have:=zpg l;simp[zu,AV.cells]at this ⊢;exact this
theorem enter{ov cv pv lv tv:AV}{g:F}{locs:List Int}(hm:XM fs mm mn J0 xo mo D T x ov J)(hcv:zwG J cv locs)(hcT:∀k∈zaz cv,k∈T\/J0.nf<=k)(hco:∀k∈zaz cv,k∉zaz ov)(hp:zaR pv g.params)(hl:zaR lv g.locals)(ht:zdN tv g.lists):
  ∃Jc L',XF fs mm mn Jc xo mo J.no L' (zaz ov) x ⟨g,locs,[],0⟩ Jc/\(∀x' J',XO fs mm mn Jc xo mo (J.no::L') (zaz ov) x' J'->XO fs mm mn J0 xo mo D T x' J')/\(∀o,o<J.no->Jc.objs o=J.objs o/\o<Jc.no/\o≠J.no/\o∉L') /\
   ∀{us:List AV} {K:Out->AS->Prop},zzQ G 146 us Jc K->zzQ G 146 us (J.newO [.str g.name,pv,lv,.int .i64 g.type,tv,cv,.nilsl,.int .i64 0]) K:=by
 have hno:=hm.no;have hxl:=hm.xl;have hml:=hm.ml
 have h2:XM fs mm mn J0 xo mo D T x ov (J.newO [.str g.name,pv,lv,.int .i64 g.type,tv,cv,.nilsl,.int .i64 0]):=hm.adds (zd.refl J).newO
 have empty:locs=[]->(cv=.nilsl\/∃φ,cv=.sl φ 1 [])->∃Jc L',XF fs mm mn Jc xo mo J.no L' (zaz ov) x ⟨g,locs,[],0⟩ Jc/\(∀x' J',XO fs mm mn Jc xo mo (J.no::L') (zaz ov) x' J'->XO fs mm mn J0 xo mo D T x' J')/\(∀o,o<J.no->Jc.objs o=J.objs o/\o<Jc.no/\o≠J.no/\o∉L') /\
   ∀{us:List AV} {K:Out->AS->Prop},zzQ G 146 us Jc K->zzQ G 146 us (J.newO [.str g.name,pv,lv,.int .i64 g.type,tv,cv,.nilsl,.int .i64 0]) K:=λh0 hc=>by
  refine⟨_,[],⟨ov,.nilsl,h2.reanchor (by simp;omega),⟨⟨pv,lv,tv,cv,by simp,hp,hl,ht,.inl ⟨rfl,h0,hc⟩⟩,by simp,.inl ⟨rfl,rfl⟩,by simp[zaz]⟩,by simp[zaz]⟩,λx' J' h=>h2.back (by simp;omega) h,λo ho=>⟨by simp;intro h;omega,by simp;omega,by omega,by simp⟩,λh=>h⟩
 rcases hcv with ⟨h0,rfl⟩|⟨h0,rfl⟩|⟨f,rfl,hf1,hf2⟩
 .exact empty h0 (.inr ⟨_,rfl⟩)
 .exact empty h0 (.inl rfl)
 .have hfo:f∉zaz ov:=hco f (by simp[zaz])
  have h3:XM fs mm mn J0 xo mo D T x ov ((J.newO [.str g.name,pv,lv,.int .i64 g.type,tv,.sl (.fam f false) 1 (locs.map (.int .i64)),.nilsl,.int .i64 0]).own f J.no [.str g.name,pv,lv,.int .i64 g.type,tv,.slm (J.no+1) 0 1 locs.length,.nilsl,.int .i64 0] (locs.map (.int .i64))):=by
   have k1:=hm.fams (J1:={ J with F:=upd J.F f .dead }) hcT hco rfl rfl (yah _) (λk _ hk=>by simp[zaz]at hk;simp[upd,hk])
   refine k1.adds ⟨by simp[AS.own];omega,by simp[AS.own],λo ho=>?_,λk hk=>by simp[AS.own]⟩
   have e1:o≠J.no:=by simp at ho;omega
   have e2:o≠J.no+1:=by simp at ho;omega
   simp[AS.own,upd,e1,e2]
  refine⟨(J.newO [.str g.name,pv,lv,.int .i64 g.type,tv,.sl (.fam f false) 1 (locs.map (.int .i64)),.nilsl,.int .i64 0]).own f J.no [.str g.name,pv,lv,.int .i64 g.type,tv,.slm (J.no+1) 0 1 locs.length,.nilsl,.int .i64 0] (locs.map (.int .i64)),[J.no+1],⟨ov,.nilsl,h3.reanchor (by simp[AS.own];omega),⟨⟨pv,lv,tv,_,by simp[AS.own,upd],hp,hl,ht,.inr ⟨J.no+1,rfl,rfl,by simp[AS.own,upd]⟩⟩,by simp,.inl ⟨rfl,rfl⟩,by simp[zaz]⟩,by simp[zaz]⟩,λx' J' h=>h3.back (by simp;omega) h,λo ho=>⟨?_,?_,by omega,by simp;omega⟩,λ{us K} h=>?_⟩
  .have e1:o≠J.no:=by omega
   have e2:o≠J.no+1:=by omega
   simp[AS.own,upd,e1,e2]
  .simp[AS.own];omega
  .refine ACalls.own (f:=f) (fo:=J.no) (j:=5) (sz:=1) (b:=false) (xs:=locs.map (.int .i64)) (cs:=[.str g.name,pv,lv,.int .i64 g.type,tv,.sl (.fam f false) 1 (locs.map (.int .i64)),.nilsl,.int .i64 0]) (by simpa using hf2) (by simp) (by simp) ?_
   rw[zpg]
   simpa using h
theorem XF.xcells(h:XF fs mm mn J0 xo mo fo L T x r J):∃fv iv ov,J.objs xo=some [fv,.int .i64 mm,.int .i64 mn,iv,.int .i64 x.steps,.slm mo 0 1 x.memory.length,ov,.int .i64 x.calls]/\(fv.known=true/\fv.one=true/\fv.cells=[fv])/\(iv.known=true/\iv.one=true/\iv.cells=[iv])/\(ov.known=true/\ov.one=true/\ov.cells=[ov]) /\
  FsV fv fs/\zaR iv x.input/\znz J ov x.out/\xo≠fo/\∀st c,XF fs mm mn J0 xo mo fo L T { x with steps:=st,calls:=c } r (J.setO xo [fv,.int .i64 mm,.int .i64 mn,iv,.int .i64 st,.slm mo 0 1 x.memory.length,ov,.int .i64 c]):=by
 have hx:=h
 obtain⟨ov,sv,hm,hr,hd⟩:=h
 obtain⟨fv,iv,ho,hf,hi⟩:=hm.mach
 exact⟨fv,iv,ov,ho,hf.one,hi.one,hm.own.one,hf,hi,hm.own,λe=>(hm.dl fo (by simp)).2.1 e.symm,λst c=>hx.setX (J1:=J) ho rfl rfl (yah _) (λ_ _ _=>rfl) hi hm.own λk hk=>.inl hk⟩
set_option maxHeartbeats 1000000 in
theorem zmm{N:Nat}{Dp:Int}{rec:zg2}(hrec:zk1 G fs mm mn N Dp rec)(hbd:RBd N Dp rec)(hD0:0<=Dp){ov fv av:AV}{g:F}{args:List Int}{v0:Fr}(hm:XM fs mm mn J0 xo mo D T x ov J)(hN:N<=2^38)(hst:max x.steps 0<=N)(hou:(x.out.length:Int)+max x.steps 0<=N)(hcl:0<=x.calls)
  (hml:x.memory.length<=2^38) (hil:x.input.length<=2^38) (hg:OkF g) (hfv:FV fv g) (hav:zwG J av args) (hal:args.length<=2^38) (haT:∀k∈zaz av,k∈T\/J0.nf<=k) (hao:∀k∈zaz av,k∉zaz ov)
  (hw:zdj rec x g args v0≠.bad)
  (hR:∀v x' r' J',zdj rec x g args v0=.ok v x' r'->XO fs mm mn J0 xo mo D T x' J'->R (.ret (.int .i64 v)) J')
  (hO:∀s c x' J',zdj rec x g args v0=.over s c x'->XO fs mm mn J0 xo mo D T x' J'->R (.panic (zk0 s c)) J') :
  zzQ G 81 [.ptr xo 0,fv,av] J R:=by
 refine zC7 rfl ?_
 obtain⟨pv,lv,tv,rfl,hp,hl,ht⟩:=hfv
 have p1:=hp.one
 have l1:=hl.one
 have t1:=ht.one
 have ll:=hl.len
 have tl:=ht.len
 obtain⟨mfv,miv,mo1,mo2,mo3⟩:=hm.mach
 have m1:=mo2.one
 have m2:=mo3.one
 have m3:=hm.own.one
 have hxl:=hm.xl
 have hno:=hm.no
 have hxo:xo≠J.no:=by omega
 have hxo':J.no≠xo:=by omega
 have hltn:=hm.no
 by_cases hc:32<=x.calls
 .simp[zKw,p1,l1,t1,splice,hxo,mo1,m1,m2,m3,hc]
  refine zeo (λh=>by omega) λ_=>?_
  simp
  exact hO _ _ _ _ (by simp[zdj,hc]) ⟨ov,hm.adds (zd.refl J).newO⟩
 .have w1:yb4 .i64 (x.calls+1)=x.calls+1:=by rw[zb]<;>omega
  have hgl:=hg.locals
  have hgls:=hg.lists
  simp[zKw,p1,l1,t1,splice,hxo,hxo',mo1,m1,m2,m3,hc,w1,ll]
  have S0:XM fs mm mn J0 xo mo D T { x with calls:=x.calls+1 } ov ((J.newO [ycZ g.name,pv,lv,yc0 yam g.type,tv]).setO xo [mfv,yc0 yam mm,yc0 yam mn,miv,yc0 yam x.steps,yen mo 0 1 x.memory.length,ov,yc0 yam (x.calls+1)]) :=
   (hm.adds (zd.refl J).newO).calls (by simp[hxo,mo1]) mo2 mo3
  have S1:((J.newO [ycZ g.name,pv,lv,yc0 yam g.type,tv]).setO xo [mfv,yc0 yam mm,yc0 yam mn,miv,yc0 yam x.steps,yen mo 0 1 x.memory.length,ov,yc0 yam (x.calls+1)]).objs J.no=some [ycZ g.name,pv,lv,yc0 yam g.type,tv]:=by simp[hxo']
  have S2:((J.newO [ycZ g.name,pv,lv,yc0 yam g.type,tv]).setO xo [mfv,yc0 yam mm,yc0 yam mn,miv,yc0 yam x.steps,yen mo 0 1 x.memory.length,ov,yc0 yam (x.calls+1)]).no=J.no+1:=by simp
  have S3:zwG ((J.newO [ycZ g.name,pv,lv,yc0 yam g.type,tv]).setO xo [mfv,yc0 yam mm,yc0 yam mn,miv,yc0 yam x.steps,yen mo 0 1 x.memory.length,ov,yc0 yam (x.calls+1)]) av args:=hav
  generalize (J.newO [ycZ g.name,pv,lv,yc0 yam g.type,tv]).setO xo [mfv,yc0 yam mm,yc0 yam mn,miv,yc0 yam x.steps,yen mo 0 1 x.memory.length,ov,yc0 yam (x.calls+1)]=S at *
  refine⟨by omega,ztv S3 (by omega) λcv J1 hcv q1 q2 q3 q4 q5=>?_⟩
  have c1:=hcv.one
  have w2:yb4 .i64 ((g.lists.length:Int)-1)=(g.lists.length:Int)-1:=by rw[zb]<;>omega
  have q6:J1.objs J.no=some [ycZ g.name,pv,lv,yc0 yam g.type,tv]:=by rw[q1];exact S1
  have q7:¬J.no=J1.no:=by omega
  simp[q6,p1,l1,t1,c1,tl,w2,q7,splice]
  have hSl:=S0.own.lt
  have hSn:=S0.nf
  obtain⟨Jc,L',hX,hXO,hbo,hac⟩:=enter (S0.fams haT hao q1 q2 q3 q4) hcv (λk hk=>by rcases q5 k hk with h|h;exact haT k h;right;omega) (λk hk h'=>by rcases q5 k hk with h|h;exact hao k h h';have:=hSl k h';omega) hp hl ht
  obtain⟨b1,b2,b3,b4⟩:=hbo J.no (by omega)
  have bdn:Bd N { x with calls:=x.calls+1 } ⟨g,args++yaj g.locals.length 0,[],0⟩:=⟨hN,by simpa using hst,hou,hg,by simp only;omega,hml,hil⟩
  simp only[zdj,if_neg hc]at hw hR hO
  refine hac (hrec hX bdn (yeh _) hD0 (λe=>by rw[e]at hw;exact hw rfl) (λo x' r' J' e hx'=>?_) (λs c x' J' e ho=>?_))
  .rw[e]at hw hR hO
   obtain⟨hA,ho2⟩:=hbd _ _ _ _ _ _ _ bdn hD0 e
   have hcs:=hA.calls
   simp only at hw hR hO hcs
   have hbo':∀{x1:za1} {r1:Fr} {J2:AS},XF fs mm mn Jc xo mo J1.no L' (zaz ov) x1 r1 J2->J2.objs J.no=some [ycZ g.name,pv,lv,yc0 yam g.type,tv]:=λhh=>by
    rw[hh.other b2 (by omega) (by have:=hm.ml;omega) b3 b4,b1];exact q6
   have hb1:=hbo' hx'
   have w3:yb4 .i64 (x'.calls-1)=x'.calls-1:=by rw[zb]<;>omega
   by_cases hh:o=-1/\g.type≠0
   .rw[if_pos hh]at hw hR
    obtain⟨h1,h2⟩:=hh
    have hne:r'.stack≠[]:=by rintro e;simp[zde,e]at hw
    obtain⟨v,hv⟩:=zbA hne
    have hsl:r'.stack.length<=2^40:=by have:=hA.bd.stack;omega
    simp[h1,h2,hb1,p1,l1,t1]
    refine zaJ hx' hsl hv λJ3 hx3=>?_
    obtain⟨fpv,flv,ftv,fcv,fsv,fo1,e1,e2,e3,e4,e5,_,_,_,hset⟩:=hx3.cells
    have hx4:=hset v
    obtain⟨gfv,giv,gov,go1,g1,g2,g3,_,_,_,gne,hset2⟩:=hx4.xcells
    have go1':J3.objs xo=some [gfv,.int .i64 mm,.int .i64 mn,giv,.int .i64 x'.steps,.slm mo 0 1 x'.memory.length,gov,.int .i64 x'.calls]:=by simpa [gne]using go1
    simp[fo1,e1,e2,e3,e4,e5,splice,go1',g1,g2,g3,gne,Ne.symm gne,w3]
    exact hR _ _ _ _ (by simp[zde,hv];rfl) (hXO _ _ (hset2 x'.steps (x'.calls-1)).stop)
   .rw[if_neg hh]at hw hR
    obtain⟨fpv,flv,ftv,fcv,fsv,fo1,e1,e2,e3,e4,e5,_,_,_,hset⟩:=hx'.cells
    obtain⟨gfv,giv,gov,go1,g1,g2,g3,_,_,_,gne,hset2⟩:=hx'.xcells
    by_cases h1:o=-1
    .have h2:g.type=0:=by simpa [h1]using hh
     simp[h1,h2,hb1,p1,l1,t1,fo1,e1,e2,e3,e4,e5,splice,go1,g1,g2,g3,gne,Ne.symm gne,w3]
     exact hR _ _ _ _ rfl (hXO _ _ (hset2 x'.steps (x'.calls-1)).stop)
    .simp[h1,hb1,p1,l1,t1,fo1,e1,e2,e3,e4,e5,splice,go1,g1,g2,g3,gne,Ne.symm gne,w3]
     exact hR _ _ _ _ rfl (hXO _ _ (hset2 x'.steps (x'.calls-1)).stop)
  .rw[e]at hO
   simp
   exact hO _ _ _ _ rfl (hXO _ _ ho)
end
section
variable {G : Env} {fs : List F} {mm mn : Int} {J0 J : AS} {xo mo fo : Nat} {L T D : List Nat} {x : za1} {r : Fr} {R : Out -> AS -> Prop}
theorem XF.after(h:XF fs mm mn J0 xo mo fo L T x r J){av:AV}(hav:∃Jq:AS,Jq.nf<=J.nf/\(∀g∈zaz av,Jq.nf<=g)/\J0.nf<=Jq.nf/\∀sv,(∃cs,J.objs fo=some cs/\cs[6]?=some sv)->∀g∈zaz sv,g<Jq.nf)(hax:∀ov,(∃cs,J.objs xo=some cs/\cs[6]?=some ov)->∀g∈zaz av,g∉zaz ov):
  ∃ov T2,XM fs mm mn J xo mo [] T2 x ov J/\(∀k∈zaz av,k∈T2\/J.nf<=k)/\(∀k∈zaz av,k∉zaz ov)/\(∀x' J',XO fs mm mn J xo mo [] T2 x' J'->XF fs mm mn J0 xo mo fo L T x' r J')/\∀x' J',XO fs mm mn J xo mo [] T2 x' J'->XO fs mm mn J0 xo mo (fo::L) T x' J':=by
 have hx:=h
 obtain⟨ov,sv,hm,hr,hd⟩:=h
 obtain⟨Jq,v1,v2,v3,v4⟩:=hav
 obtain⟨pv,lv,tv,cv,ho,hpv,hlv,htv,hcv⟩:=hr.fr
 have v5:=v4 sv ⟨_,ho,rfl⟩
 obtain⟨fv,iv,hxo,hfv,hiv⟩:=hm.mach
 have v6:=hax ov ⟨_,hxo,rfl⟩
 have hno:=hm.no;have hxl:=hm.xl;have hml:=hm.ml;have hnf:=hm.nf
 have hT2:∀g∈zaz ov++zaz av,g∈T\/J0.nf<=g:=λg hg=>by
  rcases ybh.1 hg with h|h
  .exact hm.ownT g h
  .right;have:=v2 g h;omega
 have back:∀x' ov' J',XM fs mm mn J xo mo [] (zaz ov++zaz av) x' ov' J'->XM fs mm mn J0 xo mo (fo::L) T x' ov' J':=λx' ov' J' k=>by
  have h3:=k.no;have h4:=k.nf
  refine⟨by omega,by omega,λo a b c d=>?_,λg a b=>?_,hxl,hml,hm.xm,λo ho=>?_,k.mach,k.own,λg hg=>?_,k.mem⟩
  .rw[k.obj o (by omega) b c (by simp)];exact hm.obj o a b c d
  .rw[k.fam g (by omega) (λhg=>by rcases hT2 g hg with h|h;exact b h;omega)];exact hm.fam g a b
  .have:=hm.dl o ho;exact⟨by omega,this.2⟩
  .rcases k.ownT g hg with h|h
   .exact hT2 g h
   .right;omega
 have rn:=hm.reanchor (D':=[]) (by simp)
 refine⟨ov,zaz ov++zaz av,⟨rn.no,rn.nf,rn.obj,λg a b=>rn.fam g a (λh=>b (by simp[h])),rn.xl,rn.ml,rn.xm,rn.dl,rn.mach,rn.own,λg hg=>.inl (by simp[hg]),rn.mem⟩,λk hk=>.inl (by simp[hk]),v6,?_,λx' J' ⟨ov',k⟩=>⟨ov',back _ _ _ k⟩⟩
 rintro x' J' ⟨ov',k⟩
 have same:∀o∈fo::L,J'.objs o=J.objs o:=λo ho=>by have:=hm.dl o ho;exact k.obj o this.1 this.2.1 this.2.2 (by simp)
 have hlt:=hr.own.lt
 refine⟨ov',sv,back _ _ _ k,⟨⟨pv,lv,tv,cv,by rw[same fo (by simp)];exact ho,hpv,hlv,htv,hcv.keep λo ho=>same o (by simp[ho])⟩,hr.fl,hr.own.keep k.nf λg hg=>k.fam g (hlt g hg) (λh=>?_),hr.ownT⟩,λg hg hs=>?_⟩
 .rcases ybh.1 h with h|h
  .exact hd g h hg
  .have:=v2 g h;have:=v5 g hg;omega
 .rcases k.ownT g hg with h|h
  .rcases ybh.1 h with h|h
   .exact hd g h hs
   .have:=v2 g h;have:=v5 g hs;omega
  .have:=hlt g hs;omega
theorem znB{N:Nat}{Dp:Int}{rec:zg2}(hrec:zk1 G fs mm mn N Dp rec)(hbd:RBd N Dp rec)(hD0:0<=Dp)(hfs:ztK fs){n:Int}(hnn:n<=2^63-1)(h:XF fs mm mn J0 xo mo fo L T x r J)(hb:B1 N x r)(hw:zaG fs rec x r n≠.bad)
  (hR:∀x' r' J',zaG fs rec x r n=.ok () x' r'->XF fs mm mn J0 xo mo fo L T x' r' J'->R (.ret (.tuple [])) J')
  (hO:∀s c x' J',zaG fs rec x r n=.over s c x'->XO fs mm mn J0 xo mo (fo::L) T x' J'->R (.panic (zk0 s c)) J') :
  zzQ G 223 [.ptr xo 0,.ptr fo 0,.int .i64 n] J R:=by
 refine zya rfl ?_
 have hN:=hb.bd.n
 have hst:r.stack.length<=2^40:=by have:=hb.bd.stack;omega
 have hinl:x.input.length<=2^40:=by have:=hb.bd.inp;omega
 have hol:x.out.length<=2^40:=by have:=hb.ou;omega
 by_cases n0:n=0
 .subst n0
  simp only[zaG,if_true]at hw hR
  simp[zsH,splice]
  refine ztr h hinl λJ' hx'=>?_
  simp
  cases hin:x.input with
  | nil =>
   rw[hin]at hx' hR
   refine za0 hx' hst λJ2 hx2=>?_
   simp
   exact hR _ _ _ rfl hx2
  | cons v l =>
   rw[hin]at hx' hR
   refine za0 hx' hst λJ2 hx2=>?_
   simp
   exact hR _ _ _ rfl hx2
 by_cases n1:n=1
 .subst n1
  have hne:r.stack≠[]:=by rintro e;simp[zaG,zde,e]at hw
  obtain⟨v,hv⟩:=zbA hne
  obtain⟨fv,iv,ov,xo1,f1,i1,o1,hfv,hiv,hov,xne,_⟩:=h.xcells
  simp[zsH,splice,xo1,f1,i1,o1]
  refine zmj h hst hv λJ' hx' hob=>?_
  have xo2:=(hob xo xne).trans xo1
  simp only[zaG,zde,hv]at hR
  simp at hR
  have fin:∀{J3:AS} {ov':AV},J3.objs=J'.objs->J3.no=J'.no->J'.nf<=J3.nf->(∀g,g<J'.nf->g∉zaz ov->J3.F g=J'.F g)->znz J3 ov' (x.out++[v])->(∀g∈zaz ov',g∈zaz ov\/J'.nf<=g) ->
    R (.ret (.tuple [])) (J3.setO xo [fv,.int .i64 mm,.int .i64 mn,iv,.int .i64 x.steps,.slm mo 0 1 x.memory.length,ov',.int .i64 x.calls]):=λa b c d e f=>hR _ _ _ rfl rfl (hx'.setX xo2 a b c d hiv e f)
  obtain⟨gfv,giv,gov,go1,_,_,_,_,_,gov1,_⟩:=hx'.xcells
  rw[xo2]at go1
  simp only[yaR.injEq,ydW.injEq]at go1
  obtain⟨_,_,_,_,_,_,rfl,_,_⟩:=go1
  simp[xo2,f1,i1,o1]
  rcases gov1 with ⟨hs,rfl⟩|⟨g,rfl,hg1,hg2⟩
  .simp[xo2,f1,i1,splice]
   exact fin (J3:=J'.newF) (by simp) (by simp) (by simp) (λg h1 _=>by simp;intro h;omega) (.inr ⟨J'.nf,by simp[hs],by simp,by simp⟩) (by simp[zaz])
  .simp[xo2,f1,i1,splice,hg2]
   exact⟨by omega,fin (J3:=(J'.setF g .dead).newF) (by simp) (by simp) (by simp) (λk h1 h2=>by simp[zaz]at h2;simp[h2];intro h;omega) (.inr ⟨J'.nf,by simp,by simp,by simp⟩) (by simp[zaz])⟩
 by_cases n2:n=2
 .subst n2
  have hne:r.stack≠[]:=by rintro e;simp[zaG,zde,e]at hw
  obtain⟨v,hv⟩:=zbA hne
  simp only[zaG,zde,hv]at hO
  simp at hO
  simp[zsH,splice]
  refine zaJ h hst hv λJ' hx'=>?_
  simp[splice]
  exact hO _ _ _ _ rfl rfl rfl hx'.stop
 have n3:¬n<3:=by
  intro hh;simp[zaG,n0,n1,n2,hh]at hw
 simp only[zaG,n0,n1,n2,n3,if_false]at hw hR hO
 cases hgg:fs[(n-3).toNat]? with
 | none=>rw[hgg]at hw;exact absurd rfl hw
 | some g =>
 rw[hgg]at hw hR hO
 simp only at hw hR hO
 by_cases hps:r.stack.length<g.params.length
 .rw[if_pos hps]at hw;exact absurd rfl hw
 rw[if_neg hps]at hw hR hO
 obtain⟨hgi,hge⟩:=yaq.1 hgg
 have hgm:g∈fs:=yc5 hgg
 have hgf:=hfs g hgm
 have hgp:=hgf.params
 obtain⟨mfv,miv,mov,xo1,f1,i1,o1,hfv,hiv,hov,xne,_⟩:=h.xcells
 obtain⟨bq,gv,hgv,hix⟩:=hfv.at hgi
 rw[hge]at hgv
 have e3:(((n-3).toNat:Nat):Int)=n-3:=by omega
 rw[e3]at hix
 have w1:yb4 .i64 (n-3)=n-3:=by rw[zb]<;>omega
 have hgv0:=hgv
 obtain⟨gp,gl,gt,rfl,hgp',hgl',hgt'⟩:=hgv0
 have p1:=hgp'.one
 have l1:=hgl'.one
 have t1:=hgt'.one
 have pl:=hgp'.len
 have hlts:=h.lts
 have A:zd J ((J.newO [.str [],.nilsl,.nilsl,.int .i64 0,.nilsl]).setO J.no [.str g.name,gp,gl,.int .i64 g.type,gt]):=(zd.refl J).newO.setO (yah _)
 have h1:=h.adds A
 have hS:((J.newO [.str [],.nilsl,.nilsl,.int .i64 0,.nilsl]).setO J.no [.str g.name,gp,gl,.int .i64 g.type,gt]).objs J.no=some [.str g.name,gp,gl,.int .i64 g.type,gt]:=by simp
 have hSn:((J.newO [.str [],.nilsl,.nilsl,.int .i64 0,.nilsl]).setO J.no [.str g.name,gp,gl,.int .i64 g.type,gt]).no=J.no+1:=by simp
 obtain⟨pv,lv,tv,cv,sv,fo1,e1,e2,e3',e4,e5,hsv,htv,hcv,_⟩:=h.cells
 have sl:=hsv.len
 have hfo:fo≠J.no:=by have:=hlts.2.2.1;omega
 have hfo':J.no≠fo:=by have:=hlts.2.2.1;omega
 have hfl:fo<J.no:=hlts.2.2.1
 have w2:yb4 .i64 ((r.stack.length:Int)-(g.params.length:Int))=((r.stack.length-g.params.length:Nat):Int):=by rw[zb]<;>omega
 have hst':=hb.bd.stack
 have hmv:=hov.lt
 -- from the clone on
 have tail:∀{sv' av:AV} {J2:AS} {K:Out->AS->Prop},zd ((J.newO [.str [],.nilsl,.nilsl,.int .i64 0,.nilsl]).setO J.no [.str g.name,gp,gl,.int .i64 g.type,gt]) J2->zwG J2 av (r.stack.drop (r.stack.length-g.params.length))->(∀k∈zaz av,J.nf<=k)->znz J2 sv' (r.stack.take (r.stack.length-g.params.length)) ->
   (∀k∈zaz sv',k<J.nf/\k∈zaz sv) ->
   (∀v x' J',zdj rec x g (r.stack.drop (r.stack.length-g.params.length)) { r with stack:=r.stack.take (r.stack.length-g.params.length) }=.ok v x' { r with stack:=r.stack.take (r.stack.length-g.params.length) }->XF fs mm mn J0 xo mo fo L T x' { r with stack:=r.stack.take (r.stack.length-g.params.length) } J'->J'.objs J.no=some [.str g.name,gp,gl,.int .i64 g.type,gt]->x'.steps<=x.steps->K (.ret (.int .i64 v)) J') ->
   (∀s c x' J',zdj rec x g (r.stack.drop (r.stack.length-g.params.length)) { r with stack:=r.stack.take (r.stack.length-g.params.length) }=.over s c x'->XO fs mm mn J0 xo mo (fo::L) T x' J'->K (.panic (zk0 s c)) J') ->
   zzQ G 81 [.ptr xo 0,.agg [.str g.name,gp,gl,.int .i64 g.type,gt],av] (J2.setO fo [.str r.fn.name,pv,lv,.int .i64 r.fn.type,tv,cv,sv',.int .i64 r.result]) K:=by
  intro sv' av J2 K A2 hav hfr hsv' hsf hK hKO
  have fo2:J2.objs fo=some [.str r.fn.name,pv,lv,.int .i64 r.fn.type,tv,cv,sv,.int .i64 r.result]:=by
   rw[A2.obj fo (by simp;omega)];simp[hfo];exact fo1
  have hA2:=A2.nf
  have hA3:=A2.no
  simp at hA2 hA3
  have h3:XF fs mm mn J0 xo mo fo L T x { r with stack:=r.stack.take (r.stack.length-g.params.length) } (J2.setO fo [.str r.fn.name,pv,lv,.int .i64 r.fn.type,tv,cv,sv',.int .i64 r.result]) :=
   (h1.adds A2).setFr (J1:=J2) (res':=r.result) fo2 rfl rfl (yah _) (λ_ _ _=>rfl) hsv' λk hk=>.inl (hsf k hk).2
  have hxo3:(J2.setO fo [.str r.fn.name,pv,lv,.int .i64 r.fn.type,tv,cv,sv',.int .i64 r.result]).objs xo=some [mfv,.int .i64 mm,.int .i64 mn,miv,.int .i64 x.steps,.slm mo 0 1 x.memory.length,mov,.int .i64 x.calls]:=by
   have e:xo≠J.no:=by omega
   simp[xne];rw[A2.obj xo (by simp;omega)];simp[e];exact xo1
  obtain⟨ov,T2,k1,k2,k3,k4,k5⟩:=h3.after (av:=av) ⟨J,by simpa using hA2,hfr,by obtain⟨_,_,hm,_⟩:=h;exact hm.nf,λsv1 ⟨cs,hc1,hc2⟩=>by
   simp at hc1;subst hc1;simp at hc2;subst hc2;exact λk hk=>(hsf k hk).1⟩ (λov ⟨cs,hc1,hc2⟩ k hk hk'=>by
   rw[hxo3]at hc1;cases hc1;simp at hc2;subst hc2;have:=hmv k hk';have:=hfr k hk;omega)
  refine zmm hrec hbd hD0 (N:=N) (v0:={ r with stack:=r.stack.take (r.stack.length-g.params.length) }) k1 hN (by omega) hb.bd.out hb.bd.calls.1 hb.bd.mem hb.bd.inp hgf ⟨gp,gl,gt,rfl,hgp',hgl',hgt'⟩ ?_ (by simp;omega) k2 k3 (λe=>by rw[e]at hw;exact hw rfl) (λv x' r' J' e ho=>?_) λs c x' J' e ho=>hKO s c x' J' e (k5 _ _ ho)
  .rcases hav with h|h
   .exact .inl h
   .exact .inr (h.keep (by simp) λ_ _=>rfl)
  .have hb2:B1 N x { r with stack:=r.stack.take (r.stack.length-g.params.length) }:=hb.stack (by simp)
   obtain⟨rfl,ha⟩:=zvV hbd hfs hD0 hb2.bd hgm e
   refine hK v x' J' e (k4 _ _ ho) ?_ ha.steps
   obtain⟨ov',k⟩:=ho
   have e1:J.no≠xo:=by omega
   have e2:J.no≠mo:=by omega
   rw[k.obj J.no (by simp;omega) e1 e2 (by simp)]
   simp[hfo']
   rw[A2.obj J.no (by simp)];simp
 have hsv0:=hsv
 rcases hsv with ⟨hs,rfl⟩|⟨q,rfl,hq1,hq2⟩
 .have hs0:r.stack.length=0:=by rw[hs];rfl
  have hp0:g.params.length=0:=by omega
  have w0:yb4 .i64 0=0:=by decide
  simp[zsH,splice,n0,n1,n2,xo1,f1,i1,o1,w1,hix,p1,l1,t1,hfo,hfo',fo1,e1,e2,e3',e4,pl,hs,hp0,w0]
  refine zgz (l:=[]) (.inl ⟨rfl,rfl⟩) (by simp) λav J2 hav A2 hfr=>?_
  have fo2:J2.objs fo=some [.str r.fn.name,pv,lv,.int .i64 r.fn.type,tv,cv,.nilsl,.int .i64 r.result]:=by
   rw[A2.obj fo (by simp;omega)];simp[hfo];exact fo1
  have bo2:J2.objs J.no=some [.str g.name,gp,gl,.int .i64 g.type,gt]:=by rw[A2.obj J.no (by simp)];simp
  simp[fo2,e1,e2,e3',e4,splice,w0,bo2,p1,l1,t1,hfo']
  refine tail A2 (by simpa [hs]using hav) (by simpa using hfr) (.inl ⟨by simp[hs],rfl⟩) (by simp[zaz]) (λv x' J' e hx' hbx hss=>?_) (λs c x' J' e ho=>?_)
  .rw[e]at hR
   have hb2:B1 N x { r with stack:=r.stack.take (r.stack.length-g.params.length) }:=hb.stack (by simp)
   by_cases ht:g.type=0
   .simp[ht]at hR
    simp[hbx,p1,l1,t1,ht]
    exact hR _ _ _ rfl rfl hx'
   .simp[ht]at hR
    simp[hbx,p1,l1,t1,ht]
    refine za0 hx' (by simp;omega) λJ4 hx4=>?_
    simp
    exact hR _ _ _ rfl rfl hx4
  .rw[e]at hO
   simp
   exact hO _ _ _ _ rfl ho
 .have el:List.drop (r.stack.length-g.params.length) (ydl r.stack.length (r.stack.map (yc0 .i64)))=(r.stack.drop (r.stack.length-g.params.length)).map (yc0 .i64):=by rw[ydg (by simp),List.map_drop]
  have el2:ydl (r.stack.length-g.params.length) (r.stack.map (yc0 .i64))=(r.stack.take (r.stack.length-g.params.length)).map (yc0 .i64):=by rw[yc3]
  simp[zsH,splice,n0,n1,n2,xo1,f1,i1,o1,w1,hix,p1,l1,t1,hfo,hfo',fo1,e1,e2,e3',e4,pl,w2,el]
  refine zgz (l:=r.stack.drop (r.stack.length-g.params.length)) (.inr ⟨q,by simp,by simpa using hq1,by simpa using hq2⟩) (by simp;omega) λav J2 hav A2 hfr=>?_
  have fo2:J2.objs fo=some [.str r.fn.name,pv,lv,.int .i64 r.fn.type,tv,cv,.sl (.fam q false) 1 (r.stack.map (.int .i64)),.int .i64 r.result]:=by
   rw[A2.obj fo (by simp;omega)];simp[hfo];exact fo1
  have bo2:J2.objs J.no=some [.str g.name,gp,gl,.int .i64 g.type,gt]:=by rw[A2.obj J.no (by simp)];simp
  simp[fo2,e1,e2,e3',e4,splice,bo2,p1,l1,t1,hfo']
  refine tail A2 hav (by simpa using hfr) (.inr ⟨q,by rw[<-el2],by have:=A2.nf;simp at this;omega,by rw[A2.fam q (by simpa using hq1)];simpa using hq2⟩) (by simp[zaz];exact hq1) (λv x' J' e hx' hbx hss=>?_) (λs c x' J' e ho=>?_)
  .rw[e]at hR
   have hb2:B1 N x { r with stack:=r.stack.take (r.stack.length-g.params.length) }:=hb.stack (by simp)
   by_cases ht:g.type=0
   .simp[ht]at hR
    simp[hbx,p1,l1,t1,ht]
    exact hR _ _ _ rfl rfl hx'
   .simp[ht]at hR
    simp[hbx,p1,l1,t1,ht]
    refine za0 hx' (by simp;omega) λJ4 hx4=>?_
    simp
    exact hR _ _ _ rfl rfl hx4
  .rw[e]at hO
   simp
   exact hO _ _ _ _ rfl ho
end
section
variable {G : Env} {fs : List F} {mm mn : Int} {J0 J : AS} {xo mo fo : Nat} {L T D : List Nat} {x : za1} {r : Fr} {R : Out -> AS -> Prop}
theorem zk3{l:List AV}{n:Nat}{v:AV}(h:n<l.length):splice l n [v]=l.set n v:=by
 rw[List.set_eq_take_append_cons_drop,if_pos h];simp[splice]
theorem XF.setLoc{lo n:Nat}{v:Int}(h:XF fs mm mn J0 xo mo fo [lo] T x r J)(hn:n<r.locals.length):XF fs mm mn J0 xo mo fo [lo] T x { r with locals:=r.locals.set n v } (J.setO lo (splice (r.locals.map (.int .i64)) n [.int .i64 v])):=by
 obtain⟨ov,sv,hm,hr,hd⟩:=h
 obtain⟨pv,lv,tv,cv,ho,hpv,hlv,htv,hcv⟩:=hr.fr
 have hfl:fo≠lo:=by have:=hr.fl;simpa using this
 have hll:=hm.dl lo (by simp)
 have e:splice (r.locals.map (.int .i64)) n [.int .i64 v]=(r.locals.set n v).map (.int .i64):=by rw[zk3 (by simpa using hn),yeo]
 rw[e]
 rcases hcv with ⟨hL,_⟩|⟨lo',hL,rfl,hlo⟩
 .cases hL
 cases hL
 obtain⟨fv,iv,a,b,c⟩:=hm.mach
 refine⟨ov,sv,⟨by simpa using hm.no,hm.nf,λo h1 h2 h3 h4=>?_,hm.fam,hm.xl,hm.ml,hm.xm,λo ho=>by simpa using hm.dl o ho,⟨fv,iv,by simp[Ne.symm hll.2.1];exact a,b,c⟩,hm.own.keep (by simp) λ_ _=>rfl,hm.ownT,by simp[Ne.symm hll.2.2];exact hm.mem⟩,⟨⟨pv,lv,tv,.slm lo 0 1 (r.locals.set n v).length,by simp[hfl];exact ho,hpv,hlv,htv,.inr ⟨lo,rfl,rfl,by simp⟩⟩,hr.fl,hr.own.keep (by simp) λ_ _=>rfl,hr.ownT⟩,hd⟩
 have:o≠lo:=λe=>h4 (by simp[e])
 simp[this];exact hm.obj o h1 h2 h3 h4
theorem XF.setMem{m':List UInt8}(h:XF fs mm mn J0 xo mo fo L T x r J)(hl:m'.length=x.memory.length):XF fs mm mn J0 xo mo fo L T { x with memory:=m' } r (J.setO mo (m'.map λb=>.int .u8 b.toNat)):=by
 obtain⟨ov,sv,hm,hr,hd⟩:=h
 obtain⟨pv,lv,tv,cv,ho,hpv,hlv,htv,hcv⟩:=hr.fr
 have hf:=hm.dl fo (by simp)
 obtain⟨fv,iv,a,b,c⟩:=hm.mach
 refine⟨ov,sv,⟨by simpa using hm.no,hm.nf,λo h1 h2 h3 h4=>by simp[h3];exact hm.obj o h1 h2 h3 h4,hm.fam,hm.xl,hm.ml,hm.xm,λo ho=>by simpa using hm.dl o ho,⟨fv,iv,by simp[hm.xm,hl];exact a,b,c⟩,hm.own.keep (by simp) λ_ _=>rfl,hm.ownT,by simp⟩,⟨⟨pv,lv,tv,cv,by simp[hf.2.2];exact ho,hpv,hlv,htv,hcv.keep λo ho=>by simp[(hm.dl o (by simp[ho])).2.2]⟩,hr.fl,hr.own.keep (by simp) λ_ _=>rfl,hr.ownT⟩,hd⟩
theorem zqX(mem:List UInt8)(at_:Nat)(v:Int):zen mem at_ v 0=mem:=by simp[zen]
theorem zqY{mem:List UInt8}{at_ i:Nat}{v:Int}(h:at_+i<mem.length):zen mem at_ v (i+1)=(zen mem at_ v i).set (at_+i) (zvS v i):=by
 have hl:(mem.take at_++(List.range i).map (zvS v)).length=at_+i:=by simp;omega
 unfold zen
 rw[List.set_append_right _ _ (by rw[hl];omega),hl,Nat.sub_self,List.range_succ,List.map_append,List.drop_eq_getElem_cons h]
 simp[Nat.add_assoc]
theorem zqZ(v:Int)(i:Nat):((zvS v i).toNat:Int)=ydM.wrap (v.fdiv (2^(8*i))):=by
 unfold zvS
 simp only[yb4,yap,yao]
 simp
 omega
def STI(fs:List F)(mm mn:Int)(S:AS)(xo mo fo:Nat)(L T:List Nat)(x:za1)(r:Fr)(at_ n:Nat)(v:Int)(a:Nat->AV)(Z:AS):Prop:=∃i:Nat,i<=n/\a 0=.ptr xo 0/\a 11=.int .i64 v/\a 12=.int .i64 (at_:Int)/\a 104=.int .i64 (n:Int)/\a 105=.int .i64 (i:Int)/\XF fs mm mn S xo mo fo L T { x with memory:=zen x.memory at_ v i } r Z
theorem XF.memo(h:XF fs mm mn J0 xo mo fo L T x r J):J.objs mo=some (x.memory.map λb=>.int .u8 b.toNat):=by obtain⟨_,_,hm,_⟩:=h;exact hm.mem
set_option maxHeartbeats 2000000 in
theorem zph(V:znH G){N:Nat}{Dp:Int}{rec:zg2}(hrec:zk1 G fs mm mn N Dp rec)(hbd:RBd N Dp rec)(hD0:0<=Dp)(hfs:ztK fs){w:W}(hnn:w.n<=2^63-1)(h:XF fs mm mn J0 xo mo fo L T x r J)(hb:B1 N x r)(hw:zaH fs rec w x r≠.bad)
  (hR:∀x' r' J',zaH fs rec w x r=.ok () x' r'->XF fs mm mn J0 xo mo fo L T x' r' J'->R (.ret (.tuple [])) J')
  (hO:∀s c x' J',zaH fs rec w x r=.over s c x'->XO fs mm mn J0 xo mo (fo::L) T x' J'->R (.panic (zk0 s c)) J') :
  zzQ G 183 [.ptr xo 0,.ptr fo 0,w.av] J R:=by
 refine zxT rfl ?_
 obtain⟨wop,wty,wn,wbody,wother,wname⟩:=w
 simp only at hnn
 have hN:=hb.bd.n
 have hst:r.stack.length<=2^40:=by have:=hb.bd.stack;omega
 have hlts:=h.lts
 have h1:XF fs mm mn J0 xo mo fo L T x r (J.newO [.int .i64 wop,.int .i64 wty,.int .i64 wn,.int .i64 wbody,.int .i64 wother,.str wname]):=h.adds (zd.refl J).newO
 obtain⟨T',k1,k2,k3⟩:=h1.anchor
 have hfo:fo≠J.no:=by have:=hlts.2.2.1;omega
 have hbo:∀{x1:za1} {r1:Fr} {J':AS},XF fs mm mn (J.newO [.int .i64 wop,.int .i64 wty,.int .i64 wn,.int .i64 wbody,.int .i64 wother,.str wname]) xo mo fo L T' x1 r1 J'->J'.objs J.no=some [.int .i64 wop,.int .i64 wty,.int .i64 wn,.int .i64 wbody,.int .i64 wother,.str wname]:=λ{x1 r1 J'} hx=>by
  rw[hx.other (o:=J.no) (by simp) (by omega) (by omega) (by omega) (λhh=>by have:=hlts.2.2.2 _ hh;omega)];simp
 -- what is popped
 have popped:∀{r1:Fr} {f:Int->Fr->Ev Unit},zde r1 f≠.bad->∃v,r1.stack.getLast?=some v/\zde r1 f=f v { r1 with stack:=r1.stack.dropLast }:=λ{r1 f} hh=>by
  have hne:r1.stack≠[]:=by rintro e;simp[zde,e]at hh
  obtain⟨v,hv⟩:=zbA hne
  exact⟨v,hv,by simp[zde,hv]⟩
 by_cases o1:wop=1
 .subst o1
  simp[zaH]at hR
  simp[zia,W.av,W.cs,splice]
  refine za0 k1 hst λJ' hx'=>?_
  simp
  exact hR _ _ _ rfl rfl (k2 _ _ _ hx')
 by_cases o2:wop=2
 .subst o2
  simp only[zaH]at hR hw
  by_cases hn0:wn<0
  .simp[hn0]at hw
  cases hloc:r.locals[wn.toNat]? with
  | none=>simp[hn0,hloc]at hw
  | some v =>
  simp[hn0,hloc]at hR
  obtain⟨hli,hle⟩:=yaq.1 hloc
  obtain⟨pv,lv,tv,cv,sv,fo1,e1,e2,e3,e4,e5,_,_,hcv,_⟩:=k1.cells
  rcases hcv with ⟨_,hl,_⟩|⟨lo,rfl,rfl,hlo⟩
  .rw[hl]at hli;simp at hli
  .have fo2:J.objs fo=some [.str r.fn.name,pv,lv,.int .i64 r.fn.type,tv,.slm lo 0 1 r.locals.length,sv,.int .i64 r.result]:=by simpa [hfo]using fo1
   have hlo0:lo<J.no:=hlts.2.2.2 lo (by simp)
   have hlo1:lo≠J.no:=by omega
   have lo2:J.objs lo=some (r.locals.map (.int .i64)):=by simpa [hlo1]using hlo
   simp[zia,W.av,W.cs,splice,hfo,fo2,e1,e2,e3,e4,e5,hlo1,lo2,hloc]
   refine⟨by omega,by omega,za0 k1 hst λJ' hx'=>?_⟩
   simp
   exact hR _ _ _ rfl rfl (k2 _ _ _ hx')
 by_cases o3:wop=3
 .subst o3
  simp only[zaH]at hR hw
  by_cases hn0:wn<0\/(r.locals.length:Int)<=wn
  .simp[hn0]at hw
  simp[hn0]at hR hw
  obtain⟨v,hv1,e1⟩:=popped hw
  rw[e1]at hR
  obtain⟨pv,lv,tv,cv,sv,fo1,e1,e2,e3,e4,e5,_,_,hcv,_⟩:=k1.cells
  rcases hcv with ⟨_,hl,_⟩|⟨lo,rfl,rfl,hlo⟩
  .rw[hl]at hn0;simp at hn0;omega
  .have fo2:J.objs fo=some [.str r.fn.name,pv,lv,.int .i64 r.fn.type,tv,.slm lo 0 1 r.locals.length,sv,.int .i64 r.result]:=by simpa [hfo]using fo1
   simp[zia,W.av,W.cs,splice,hfo,fo2,e1,e2,e3,e4,e5]
   refine zaJ k1 hst hv1 λJ1 hx1=>?_
   have hb2:=hbo hx1
   obtain⟨pv',lv',tv',cv',sv',fo1',e1',e2',e3',e4',e5',_,_,hcv',_⟩:=hx1.cells
   rcases hcv' with ⟨hL,_⟩|⟨lo',hL,rfl,hlo'⟩
   .cases hL
   .cases hL
    have hni:wn.toNat<r.locals.length:=by omega
    simp[hb2,fo1',e1',e2',e3',e4',e5',hlo']
    refine⟨by omega,by omega,by omega,hR _ _ _ rfl (k2 _ _ _ (hx1.setLoc hni))⟩
 by_cases o4:wop=4
 .subst o4
  simp only[zaH]at hR hw hO
  simp at hR hw hO
  obtain⟨b,hv1,e1⟩:=popped hw
  rw[e1]at hR hw hO
  obtain⟨a,hv2,e2⟩:=popped hw
  rw[e2]at hR hw hO
  have d1:=zap hv1
  have d2:=zap hv2
  simp only at hR hw hO d2
  simp[zia,W.av,W.cs,splice]
  refine zaJ k1 hst hv1 λJ1 hx1=>?_
  simp
  refine zaJ hx1 (by simp;omega) hv2 λJ2 hx2=>?_
  have hb2:=hbo hx2
  simp[hb2]
  refine zlT V λJ3 A3=>?_
  have hx3:=hx2.adds A3
  have hb3:=hbo hx3
  simp[hb3]
  refine zvU ?_
  simp
  refine zeo (λh0=>?_) (λh0=>?_)
  .rw[if_pos h0]at hR
   simp
   refine za0 hx3 (by simp;omega) λJ4 hx4=>?_
   simp
   exact hR _ _ _ rfl (k2 _ _ _ hx4)
  .rw[if_neg h0]at hO
   simp
   exact hO _ _ _ _ rfl (k3 _ _ hx3.stop)
 by_cases o5:wop=5
 .subst o5
  simp only[zaH]at hR hw
  simp at hR hw
  obtain⟨b,hv1,e1⟩:=popped hw
  rw[e1]at hR hw
  have d1:=zap hv1
  simp[zia,W.av,W.cs,splice]
  refine zaJ k1 hst hv1 λJ1 hx1=>?_
  by_cases hb0:b=0
  .simp[hb0]at hR
   simp[hb0,splice]
   refine za0 hx1 (by simp;omega) λJ2 hx2=>?_
   simp
   exact hR _ _ _ rfl rfl (k2 _ _ _ hx2)
  .simp[hb0]at hR
   simp[hb0,splice]
   refine za0 hx1 (by simp;omega) λJ2 hx2=>?_
   simp
   exact hR _ _ _ rfl rfl (k2 _ _ _ hx2)
 by_cases o6:wop=6
 .subst o6
  simp only[zaH]at hR hw
  simp at hR hw
  obtain⟨b,hv1,e1⟩:=popped hw
  rw[e1]at hR hw
  have d1:=zap hv1
  simp[zia,W.av,W.cs,splice]
  refine zaJ k1 hst hv1 λJ1 hx1=>?_
  simp
  refine zlS ?_
  simp
  refine za0 hx1 (by simp;omega) λJ2 hx2=>?_
  simp
  refine hR _ _ _ rfl (k2 _ _ _ ?_)
  simpa [Fr.push,zyt]using hx2
 by_cases o8:wop=8
 .subst o8
  simp only[zaH]at hR hw hO
  simp at hR hw hO
  obtain⟨a,hv1,e1⟩:=popped hw
  rw[e1]at hR hw hO
  have d1:=zap hv1
  unfold zkX at hR hw hO
  by_cases hn8:wn<1\/8<wn
  .rw[if_pos hn8]at hw;exact absurd rfl hw
  rw[if_neg hn8]at hR hw hO
  simp[zia,W.av,W.cs,splice]
  refine zaJ k1 hst hv1 λJ1 hx1=>?_
  have hb2:=hbo hx1
  simp[hb2]
  have hml:=hb.bd.mem
  refine zmk hx1 (by omega) (by omega) (λhh=>?_) (λhh=>?_)
  .rw[if_pos hh]at hO
   simp
   exact hO _ _ _ _ rfl (k3 _ _ hx1.stop)
  .rw[if_neg hh]at hR
   simp
   refine ztt hx1.memo (by omega) (by omega) (by omega) ?_
   simp
   refine za0 hx1 (by simp;omega) λJ2 hx2=>?_
   simp
   exact hR _ _ _ rfl (k2 _ _ _ hx2)
 by_cases o9:wop=9
 .subst o9
  simp only[zaH]at hR hw hO
  simp at hR hw hO
  obtain⟨v,hv1,e1⟩:=popped hw
  rw[e1]at hR hw hO
  obtain⟨a,hv2,e2⟩:=popped hw
  rw[e2]at hR hw hO
  have d1:=zap hv1
  have d2:=zap hv2
  simp only at d2
  unfold zkX at hR hw hO
  by_cases hn8:wn<1\/8<wn
  .rw[if_pos hn8]at hw;exact absurd rfl hw
  rw[if_neg hn8]at hR hw hO
  simp[zia,W.av,W.cs,splice]
  refine zaJ k1 hst hv1 λJ1 hx1=>?_
  simp
  refine zaJ hx1 (by simp;omega) hv2 λJ2 hx2=>?_
  have hb2:=hbo hx2
  simp[hb2]
  have hml:=hb.bd.mem
  refine zmk hx2 (by omega) (by omega) (λhh=>?_) (λhh=>?_)
  .rw[if_pos hh]at hO
   simp
   exact hO _ _ _ _ rfl (k3 _ _ hx2.stop)
  .rw[if_neg hh]at hR
   obtain⟨n,hn⟩:=yek (show 0<=wn by omega)
   obtain⟨p,hp⟩:=yek (show 0<=a by omega)
   subst hn hp
   have hll:((x.memory.drop p).take n).length=n:=by simp;omega
   simp only[ybe]at hR
   rw[hll]at hR
   simp
   refine zS (STI fs mm mn (J.newO [.int .i64 9,.int .i64 wty,.int .i64 (n:Int),.int .i64 wbody,.int .i64 wother,.str wname]) xo mo fo L T' x { r with stack:=r.stack.dropLast.dropLast } p n v) (MU 105 (n+1)) ⟨0,by omega,by simp,by simp,by simp,by simp,by simp,by rw[zqX];exact hx2⟩ λb Z hI=>?_
   obtain⟨i,hi,b0,b11,b12,b104,b105,hx⟩:=hI
   by_cases hlt:i<n
   .have hwl:(zen x.memory p v i).length=x.memory.length:=zeP (by omega)
    obtain⟨gfv,giv,gov,go1,g1,g2,g3,_,_,_,gne,_⟩:=hx.xcells
    have hmm:=hx.memo
    simp only at go1 hmm
    have u1:yb4 .i64 ((p:Int)+(i:Int))=((p+i:Nat):Int):=by rw[zb]<;>omega
    have u2:yb4 .i64 (8*(i:Int))=8*(i:Int):=by rw[zb]<;>omega
    have u3:yb4 .i64 ((i:Int)+1)=((i+1:Nat):Int):=by rw[zb]<;>omega
    have u4:min (8*(i:Int)).toNat yam.bits=8*i:=by simp[yap];omega
    simp[zm7,b0,b11,b12,b104,b105,hlt,go1,g1,g2,g3,u1,u2,u3,u4,hmm,hwl]
    have hpi:((p:Int)+(i:Int)).toNat=p+i:=by omega
    have hm2:=hx.setMem (m':=zen x.memory p v (i+1)) (by rw[zeP (by omega)];exact hwl.symm)
    have es:splice ((zen x.memory p v i).map λb=>yc0 .u8 b.toNat) (p+i) [.int .u8 (ydM.wrap (v.fdiv (2^(8*i))))]=(zen x.memory p v (i+1)).map λb=>.int .u8 b.toNat:=by
     rw[zk3 (by simp[hwl];omega),zqY (by omega),yeo,zqZ]
    refine⟨by omega,by omega,by omega,by omega,⟨i+1,by omega,by simp[b0],by simp[b11],by simp[b12],by simp[b104],by simp,?_⟩,?_⟩
    .rw[hpi,es];exact hm2
    .simp only[MU,b105];simp;omega
   .have e:i=n:=by omega
    subst e
    simp[zm7,b0,b11,b12,b104,b105]
    exact hR _ _ _ rfl (k2 _ _ _ hx)
 by_cases o10:wop=10
 .subst o10
  simp only[zaH]at hR hw hO
  simp at hR hw hO
  simp[zia,W.av,W.cs,splice]
  refine znB hrec hbd hD0 hfs hnn k1 hb hw (λx' r' J' e hx'=>?_) (λs c x' J' e ho=>?_)
  .simp
   exact hR _ _ _ e (k2 _ _ _ hx')
  .simp
   exact hO _ _ _ _ e (k3 _ _ ho)
 by_cases o17:wop=17
 .subst o17
  simp only[zaH]at hO
  simp at hO
  simp[zia,W.av,W.cs,splice]
  refine zeo (λh0=>by omega) (λh0=>?_)
  simp
  exact hO _ _ _ _ rfl rfl rfl h1.stop
 by_cases o18:wop=18
 .subst o18
  simp only[zaH]at hR hw
  simp at hR hw
  obtain⟨b,hv1,e1⟩:=popped hw
  rw[e1]at hR hw
  simp[zia,W.av,W.cs,splice]
  refine zaJ k1 hst hv1 λJ1 hx1=>?_
  simp
  exact hR _ _ _ rfl (k2 _ _ _ hx1)
 simp[zaH,o1,o2,o3,o4,o5,o6,o8,o9,o10,o17,o18]at hR
 simp[zia,W.av,W.cs,splice,o1,o2,o3,o4,o5,o6,o8,o9,o10,o17,o18]
 exact hR _ _ _ rfl rfl h1
end
section
variable {G : Env} {fs : List F} {mm mn : Int} {J0 J : AS} {xo mo fo : Nat} {L T D : List Nat} {x : za1} {r : Fr} {R : Out -> AS -> Prop}
set_option maxHeartbeats 2000000 in
theorem zk4(V:znH G){N:Nat}{Dp:Int}{rec:zg2}(hrec:zk1 G fs mm mn N Dp rec)(hbd:RBd N Dp rec)(hD0:0<=Dp)(hD2:Dp<=2^62)(hfs:ztK fs){k:Nat}{deep:Int}(h0:0<=deep)(hd:deep+1<=Dp){height:Nat}{rv:AV}{all:List W}(hrv:zsM rv all)(hall:all.length<=2^38)(hnum:∀w∈all,w.n<=2^63-1):
  ∀(ws:List W) (pre:List W),all=pre++ws->∀{x1:za1} {r1:Fr} {Z:AS} {a:Nat->AV},XF fs mm mn J0 xo mo fo L T x1 r1 Z->Bd N x1 r1->zaZ fs rec k deep height ws x1 r1≠.bad ->
   a 0=.ptr xo 0->a 1=.ptr fo 0->a 3=.int .i64 deep->a 9=.int .i64 (height:Int)->a 25=rv->a 26=.int .i64 (all.length:Int)->a 27=.int .i64 (pre.length:Int) ->
   (∀o x' r' J',zaZ fs rec k deep height ws x1 r1=.ok o x' r'->XF fs mm mn J0 xo mo fo L T x' r' J'->R (.ret (.int .i64 o)) J') ->
   (∀s c x' J',zaZ fs rec k deep height ws x1 r1=.over s c x'->XO fs mm mn J0 xo mo (fo::L) T x' J'->R (.panic (zk0 s c)) J') ->
   zdV yb9 G 82 zbG (zai 0 (zab (avc yb9 G 82 zjk (zbE yb9 [ResultVar.tmp 8] R)) (zbE yb9 [ResultVar.tmp 8] R))) (ws.length+1) a Z
 | [],pre,hall2,x1,r1,Z,a,hx,hb,hw,a0,a1,a3,a9,a25,a26,a27,hR,hO=>by
  have hl:all.length=pre.length:=by rw[hall2];simp
  simp[zbG,zjk,a0,a1,a3,a9,a25,a26,a27,hl]
  exact hR _ _ _ _ rfl hx
 | w::ws,pre,hall2,x1,r1,Z,a,hx,hb,hw,a0,a1,a3,a9,a25,a26,a27,hR,hO=>by
  obtain⟨wop,wty,wn,wbody,wother,wname⟩:=w
  have hl:pre.length<all.length:=by rw[hall2];simp
  have hget:all[pre.length]=(⟨wop,wty,wn,wbody,wother,wname⟩:W):=by simp[hall2]
  obtain⟨b,hix⟩:=hrv.at hl
  rw[hget]at hix
  have hwn:=hnum (⟨wop,wty,wn,wbody,wother,wname⟩:W) (by rw[hall2];simp)
  obtain⟨gfv,giv,gov,go1,g1,g2,g3,hgf,hgi,hgo,gne,_⟩:=hx.xcells
  have hlts:=hx.lts
  have hxo:xo≠Z.no:=by omega
  simp only[zaZ]at hw hR hO
  have hxo':Z.no≠xo:=by omega
  have A:zd Z ((Z.newO [.int .i64 0,.int .i64 0,.int .i64 0,.int .i64 0,.int .i64 0,.str []]).setO Z.no [.int .i64 wop,.int .i64 wty,.int .i64 wn,.int .i64 wbody,.int .i64 wother,.str wname]):=(zd.refl Z).newO.setO (yah _)
  have wst:yb4 .i64 (x1.steps-1)=x1.steps-1\/x1.steps<1:=by
   by_cases h:x1.steps<1
   .exact .inr h
   .left;have:=hb.stack;have:=hb.n;rw[zb]<;>omega
  by_cases hs:x1.steps<1
  .simp[hs]at hO
   simp[zbG,a0,a1,a3,a9,a25,a26,a27,hl,hix,W.av,W.cs,splice,hxo,go1,g1,g2,g3,hs]
   exact hO _ _ _ _ rfl rfl rfl (hx.adds A).stop
  .have w1:yb4 .i64 (x1.steps-1)=x1.steps-1:=by rcases wst with h|h;exact h;exact absurd h hs
   rw[if_neg hs]at hw hR hO
   have hb1:=hb.one (by omega)
   have hx2:XF fs mm mn J0 xo mo fo L T { x1 with steps:=x1.steps-1 } r1 (((Z.newO [.int .i64 0,.int .i64 0,.int .i64 0,.int .i64 0,.int .i64 0,.str []]).setO Z.no [.int .i64 wop,.int .i64 wty,.int .i64 wn,.int .i64 wbody,.int .i64 wother,.str wname]).setO xo [gfv,.int .i64 mm,.int .i64 mn,giv,.int .i64 (x1.steps-1),.slm mo 0 1 x1.memory.length,gov,.int .i64 x1.calls]) :=
    (hx.adds A).setX (J1:=(Z.newO [.int .i64 0,.int .i64 0,.int .i64 0,.int .i64 0,.int .i64 0,.str []]).setO Z.no [.int .i64 wop,.int .i64 wty,.int .i64 wn,.int .i64 wbody,.int .i64 wother,.str wname]) (by simp[hxo];exact go1) rfl rfl (yah _) (λ_ _ _=>rfl) hgi (hgo.keep A.nf λg hg=>rfl) λk hk=>.inl hk
   -- behind the instruction
   have w3:yb4 .i64 ((pre.length:Int)+1)=((pre.length+1:Nat):Int):=by rw[zb]<;>omega
   have w4:yb4 .i64 (deep+1)=deep+1:=by rw[zb]<;>omega
   have fin:∀{o:Int} {x2:za1} {r2:Fr} {J2:AS} {b:Nat->AV},zdk fs rec k deep (⟨wop,wty,wn,wbody,wother,wname⟩:W) { x1 with steps:=x1.steps-1 } r1=.ok o x2 r2->XF fs mm mn J0 xo mo fo L T x2 r2 J2->o=-1->b 0=.ptr xo 0->b 1=.ptr fo 0->b 3=.int .i64 deep->b 9=.int .i64 (height:Int)->b 25=rv->b 26=.int .i64 (all.length:Int)->b 27=.int .i64 ((pre.length+1:Nat):Int) ->
     zdV yb9 G 82 zbG (zai 0 (zab (avc yb9 G 82 zjk (zbE yb9 [ResultVar.tmp 8] R)) (zbE yb9 [ResultVar.tmp 8] R))) (ws.length+1) b J2:=by
    intro o x2 r2 J2 b e hx3 ho b0 b1 b3 b9 b25 b26 b27
    rw[e]at hw hR hO
    simp only[ho,if_true]at hw hR hO
    have hbd2:=(zvX hbd hfs hD0 hD2 hwn hd hb1 e).1.bd
    exact zk4 V hrec hbd hD0 hD2 hfs h0 hd hrv hall hnum ws (pre++[(⟨wop,wty,wn,wbody,wother,wname⟩:W)]) (by rw[hall2];simp) hx3 hbd2 hw b0 b1 b3 b9 b25 b26 (by rw[b27];simp) hR hO
   by_cases hA:wop=11\/wop=12\/wop=13
   .have hex:zdk fs rec k deep (⟨wop,wty,wn,wbody,wother,wname⟩:W) { x1 with steps:=x1.steps-1 } r1=zbh rec k (⟨wop,wty,wn,wbody,wother,wname⟩:W) (deep+1) { x1 with steps:=x1.steps-1 } r1:=by unfold zdk;rw[if_pos hA]
    have hne:zbh rec k (⟨wop,wty,wn,wbody,wother,wname⟩:W) (deep+1) { x1 with steps:=x1.steps-1 } r1≠.bad:=λe=>by rw[hex,e]at hw;exact hw rfl
    rcases hA with hop|hop|hop
    .subst hop
     simp[zbG,a0,a1,a3,a9,a25,a26,a27,hl,hix,W.av,W.cs,splice,hxo,hxo',go1,g1,g2,g3,hs,w1,w4]
     refine zfR (w:=⟨11,wty,wn,wbody,wother,wname⟩) hrec hbd hx2 hb1.bd (by omega) hd hne (λo x2 r2 J2 e hx3=>?_) (λs c x2 J2 e ho=>?_)
     .by_cases ho:o=-1
      .simp[-zx,ho,a0,a1,a3,a9,a25,a26,a27,w3]
       refine fin (hex.trans e) hx3 ho ?_ ?_ ?_ ?_ ?_ ?_ ?_<;>simp[a0,a1,a3,a9,a25,a26]
      .rw[hex,e]at hw hR
       simp only[if_neg ho]at hw hR
       by_cases hh:r2.stack.length<height
       .rw[if_pos hh]at hw;exact absurd rfl hw
       rw[if_neg hh]at hR
       obtain⟨pv,lv,tv,cv,sv,fo1,e1,e2,e3,e4,e5,hsv,_,_,_⟩:=hx3.cells
       rcases hsv with ⟨hs0,rfl⟩|⟨q,rfl,q1,q2⟩
       .have hh0:height=0:=by rw[hs0]at hh;simp at hh;exact hh
        subst hh0
        simp[-zx,ho,a0,a1,a3,a9,a25,a26,a27,fo1,e1,e2,e3,e4,splice]
        exact hR _ _ _ _ rfl (hx3.setFr (J1:=J2) (st':=r2.stack.take 0) (res':=r2.result) fo1 rfl rfl (yah _) (λ_ _ _=>rfl) (.inl ⟨by simp,rfl⟩) λk hk=>.inl hk)
       .simp[-zx,ho,a0,a1,a3,a9,a25,a26,a27,fo1,e1,e2,e3,e4,splice]
        refine⟨by omega,hR _ _ _ _ rfl (hx3.setFr (J1:=J2) (st':=r2.stack.take height) (res':=r2.result) fo1 rfl rfl (yah _) (λ_ _ _=>rfl) (.inr ⟨q,by rw[yc3],q1,q2⟩) λk hk=>.inl hk)⟩
     .rw[hex,e]at hO
      simp
      exact hO _ _ _ _ rfl ho
    .subst hop
     simp[zbG,a0,a1,a3,a9,a25,a26,a27,hl,hix,W.av,W.cs,splice,hxo,hxo',go1,g1,g2,g3,hs,w1,w4]
     refine zfR (w:=⟨12,wty,wn,wbody,wother,wname⟩) hrec hbd hx2 hb1.bd (by omega) hd hne (λo x2 r2 J2 e hx3=>?_) (λs c x2 J2 e ho=>?_)
     .by_cases ho:o=-1
      .simp[-zx,ho,a0,a1,a3,a9,a25,a26,a27,w3]
       refine fin (hex.trans e) hx3 ho ?_ ?_ ?_ ?_ ?_ ?_ ?_<;>simp[a0,a1,a3,a9,a25,a26]
      .rw[hex,e]at hw hR
       simp only[if_neg ho]at hw hR
       by_cases hh:r2.stack.length<height
       .rw[if_pos hh]at hw;exact absurd rfl hw
       rw[if_neg hh]at hR
       obtain⟨pv,lv,tv,cv,sv,fo1,e1,e2,e3,e4,e5,hsv,_,_,_⟩:=hx3.cells
       rcases hsv with ⟨hs0,rfl⟩|⟨q,rfl,q1,q2⟩
       .have hh0:height=0:=by rw[hs0]at hh;simp at hh;exact hh
        subst hh0
        simp[-zx,ho,a0,a1,a3,a9,a25,a26,a27,fo1,e1,e2,e3,e4,splice]
        exact hR _ _ _ _ rfl (hx3.setFr (J1:=J2) (st':=r2.stack.take 0) (res':=r2.result) fo1 rfl rfl (yah _) (λ_ _ _=>rfl) (.inl ⟨by simp,rfl⟩) λk hk=>.inl hk)
       .simp[-zx,ho,a0,a1,a3,a9,a25,a26,a27,fo1,e1,e2,e3,e4,splice]
        refine⟨by omega,hR _ _ _ _ rfl (hx3.setFr (J1:=J2) (st':=r2.stack.take height) (res':=r2.result) fo1 rfl rfl (yah _) (λ_ _ _=>rfl) (.inr ⟨q,by rw[yc3],q1,q2⟩) λk hk=>.inl hk)⟩
     .rw[hex,e]at hO
      simp
      exact hO _ _ _ _ rfl ho
    .subst hop
     simp[zbG,a0,a1,a3,a9,a25,a26,a27,hl,hix,W.av,W.cs,splice,hxo,hxo',go1,g1,g2,g3,hs,w1,w4]
     refine zfR (w:=⟨13,wty,wn,wbody,wother,wname⟩) hrec hbd hx2 hb1.bd (by omega) hd hne (λo x2 r2 J2 e hx3=>?_) (λs c x2 J2 e ho=>?_)
     .by_cases ho:o=-1
      .simp[-zx,ho,a0,a1,a3,a9,a25,a26,a27,w3]
       refine fin (hex.trans e) hx3 ho ?_ ?_ ?_ ?_ ?_ ?_ ?_<;>simp[a0,a1,a3,a9,a25,a26]
      .rw[hex,e]at hw hR
       simp only[if_neg ho]at hw hR
       by_cases hh:r2.stack.length<height
       .rw[if_pos hh]at hw;exact absurd rfl hw
       rw[if_neg hh]at hR
       obtain⟨pv,lv,tv,cv,sv,fo1,e1,e2,e3,e4,e5,hsv,_,_,_⟩:=hx3.cells
       rcases hsv with ⟨hs0,rfl⟩|⟨q,rfl,q1,q2⟩
       .have hh0:height=0:=by rw[hs0]at hh;simp at hh;exact hh
        subst hh0
        simp[-zx,ho,a0,a1,a3,a9,a25,a26,a27,fo1,e1,e2,e3,e4,splice]
        exact hR _ _ _ _ rfl (hx3.setFr (J1:=J2) (st':=r2.stack.take 0) (res':=r2.result) fo1 rfl rfl (yah _) (λ_ _ _=>rfl) (.inl ⟨by simp,rfl⟩) λk hk=>.inl hk)
       .simp[-zx,ho,a0,a1,a3,a9,a25,a26,a27,fo1,e1,e2,e3,e4,splice]
        refine⟨by omega,hR _ _ _ _ rfl (hx3.setFr (J1:=J2) (st':=r2.stack.take height) (res':=r2.result) fo1 rfl rfl (yah _) (λ_ _ _=>rfl) (.inr ⟨q,by rw[yc3],q1,q2⟩) λk hk=>.inl hk)⟩
     .rw[hex,e]at hO
      simp
      exact hO _ _ _ _ rfl ho
   .by_cases hB:wop=14\/wop=15\/wop=16
    .have hex:zdk fs rec k deep (⟨wop,wty,wn,wbody,wother,wname⟩:W) { x1 with steps:=x1.steps-1 } r1=zja (⟨wop,wty,wn,wbody,wother,wname⟩:W) deep { x1 with steps:=x1.steps-1 } r1:=by unfold zdk;rw[if_neg hA,if_pos hB]
     have hne:zja (⟨wop,wty,wn,wbody,wother,wname⟩:W) deep { x1 with steps:=x1.steps-1 } r1≠.bad:=λe=>by rw[hex,e]at hw;exact hw rfl
     rcases hB with hop|hop|hop
     .subst hop
      simp[zbG,a0,a1,a3,a9,a25,a26,a27,hl,hix,W.av,W.cs,splice,hxo,hxo',go1,g1,g2,g3,hs,w1,w4]
      refine zk2 (w:=⟨14,wty,wn,wbody,wother,wname⟩) hx2 hb1.bd hne (λo x2 r2 J2 e hx3=>?_)
      by_cases ho:o=-1
      .simp[-zx,ho,a0,a1,a3,a9,a25,a26,a27,w3]
       refine fin (hex.trans e) hx3 ho ?_ ?_ ?_ ?_ ?_ ?_ ?_<;>simp[a0,a1,a3,a9,a25,a26]
      .rw[hex,e]at hw hR
       simp only[if_neg ho]at hw hR
       by_cases hh:r2.stack.length<height
       .rw[if_pos hh]at hw;exact absurd rfl hw
       rw[if_neg hh]at hR
       obtain⟨pv,lv,tv,cv,sv,fo1,e1,e2,e3,e4,e5,hsv,_,_,_⟩:=hx3.cells
       rcases hsv with ⟨hs0,rfl⟩|⟨q,rfl,q1,q2⟩
       .have hh0:height=0:=by rw[hs0]at hh;simp at hh;exact hh
        subst hh0
        simp[-zx,ho,a0,a1,a3,a9,a25,a26,a27,fo1,e1,e2,e3,e4,splice]
        exact hR _ _ _ _ rfl (hx3.setFr (J1:=J2) (st':=r2.stack.take 0) (res':=r2.result) fo1 rfl rfl (yah _) (λ_ _ _=>rfl) (.inl ⟨by simp,rfl⟩) λk hk=>.inl hk)
       .simp[-zx,ho,a0,a1,a3,a9,a25,a26,a27,fo1,e1,e2,e3,e4,splice]
        refine⟨by omega,hR _ _ _ _ rfl (hx3.setFr (J1:=J2) (st':=r2.stack.take height) (res':=r2.result) fo1 rfl rfl (yah _) (λ_ _ _=>rfl) (.inr ⟨q,by rw[yc3],q1,q2⟩) λk hk=>.inl hk)⟩
     .subst hop
      simp[zbG,a0,a1,a3,a9,a25,a26,a27,hl,hix,W.av,W.cs,splice,hxo,hxo',go1,g1,g2,g3,hs,w1,w4]
      refine zk2 (w:=⟨15,wty,wn,wbody,wother,wname⟩) hx2 hb1.bd hne (λo x2 r2 J2 e hx3=>?_)
      by_cases ho:o=-1
      .simp[-zx,ho,a0,a1,a3,a9,a25,a26,a27,w3]
       refine fin (hex.trans e) hx3 ho ?_ ?_ ?_ ?_ ?_ ?_ ?_<;>simp[a0,a1,a3,a9,a25,a26]
      .rw[hex,e]at hw hR
       simp only[if_neg ho]at hw hR
       by_cases hh:r2.stack.length<height
       .rw[if_pos hh]at hw;exact absurd rfl hw
       rw[if_neg hh]at hR
       obtain⟨pv,lv,tv,cv,sv,fo1,e1,e2,e3,e4,e5,hsv,_,_,_⟩:=hx3.cells
       rcases hsv with ⟨hs0,rfl⟩|⟨q,rfl,q1,q2⟩
       .have hh0:height=0:=by rw[hs0]at hh;simp at hh;exact hh
        subst hh0
        simp[-zx,ho,a0,a1,a3,a9,a25,a26,a27,fo1,e1,e2,e3,e4,splice]
        exact hR _ _ _ _ rfl (hx3.setFr (J1:=J2) (st':=r2.stack.take 0) (res':=r2.result) fo1 rfl rfl (yah _) (λ_ _ _=>rfl) (.inl ⟨by simp,rfl⟩) λk hk=>.inl hk)
       .simp[-zx,ho,a0,a1,a3,a9,a25,a26,a27,fo1,e1,e2,e3,e4,splice]
        refine⟨by omega,hR _ _ _ _ rfl (hx3.setFr (J1:=J2) (st':=r2.stack.take height) (res':=r2.result) fo1 rfl rfl (yah _) (λ_ _ _=>rfl) (.inr ⟨q,by rw[yc3],q1,q2⟩) λk hk=>.inl hk)⟩
     .subst hop
      simp[zbG,a0,a1,a3,a9,a25,a26,a27,hl,hix,W.av,W.cs,splice,hxo,hxo',go1,g1,g2,g3,hs,w1,w4]
      refine zk2 (w:=⟨16,wty,wn,wbody,wother,wname⟩) hx2 hb1.bd hne (λo x2 r2 J2 e hx3=>?_)
      by_cases ho:o=-1
      .simp[-zx,ho,a0,a1,a3,a9,a25,a26,a27,w3]
       refine fin (hex.trans e) hx3 ho ?_ ?_ ?_ ?_ ?_ ?_ ?_<;>simp[a0,a1,a3,a9,a25,a26]
      .rw[hex,e]at hw hR
       simp only[if_neg ho]at hw hR
       by_cases hh:r2.stack.length<height
       .rw[if_pos hh]at hw;exact absurd rfl hw
       rw[if_neg hh]at hR
       obtain⟨pv,lv,tv,cv,sv,fo1,e1,e2,e3,e4,e5,hsv,_,_,_⟩:=hx3.cells
       rcases hsv with ⟨hs0,rfl⟩|⟨q,rfl,q1,q2⟩
       .have hh0:height=0:=by rw[hs0]at hh;simp at hh;exact hh
        subst hh0
        simp[-zx,ho,a0,a1,a3,a9,a25,a26,a27,fo1,e1,e2,e3,e4,splice]
        exact hR _ _ _ _ rfl (hx3.setFr (J1:=J2) (st':=r2.stack.take 0) (res':=r2.result) fo1 rfl rfl (yah _) (λ_ _ _=>rfl) (.inl ⟨by simp,rfl⟩) λk hk=>.inl hk)
       .simp[-zx,ho,a0,a1,a3,a9,a25,a26,a27,fo1,e1,e2,e3,e4,splice]
        refine⟨by omega,hR _ _ _ _ rfl (hx3.setFr (J1:=J2) (st':=r2.stack.take height) (res':=r2.result) fo1 rfl rfl (yah _) (λ_ _ _=>rfl) (.inr ⟨q,by rw[yc3],q1,q2⟩) λk hk=>.inl hk)⟩
    .have n1:wop≠11/\wop≠12/\wop≠13:=by simpa using hA
     have n2:wop≠14/\wop≠15/\wop≠16:=by simpa using hB
     have hne:zaH fs rec (⟨wop,wty,wn,wbody,wother,wname⟩:W) { x1 with steps:=x1.steps-1 } r1≠.bad:=λe=>by
      unfold zdk at hw;rw[if_neg hA,if_neg hB,e]at hw;exact hw rfl
     simp[zbG,a0,a1,a3,a9,a25,a26,a27,hl,hix,W.av,W.cs,splice,hxo,hxo',go1,g1,g2,g3,hs,w1,w4,n1,n2]
     refine zph (w:=⟨wop,wty,wn,wbody,wother,wname⟩) V hrec hbd hD0 hfs hwn hx2 hb1 hne (λx2 r2 J2 e hx3=>?_) (λs c x2 J2 e ho=>?_)
     .simp[-zx,a0,a1,a3,a9,a25,a26,a27,w3]
      refine fin (o:=-1) (by unfold zdk;rw[if_neg hA,if_neg hB,e]) hx3 rfl ?_ ?_ ?_ ?_ ?_ ?_ ?_<;>simp[a0,a1,a3,a9,a25,a26]
     .have e2:zdk fs rec k deep (⟨wop,wty,wn,wbody,wother,wname⟩:W) { x1 with steps:=x1.steps-1 } r1=.over s c x2:=by unfold zdk;rw[if_neg hA,if_neg hB,e]
      rw[e2]at hO
      simp
      exact hO _ _ _ _ rfl ho
end
theorem zsb{G:Env}(V:znH G){fs:List F}(hfs:ztK fs){mm mn:Int}{N:Nat}:∀(k:Nat) (D:Int),0<=D->D+k<=2^62->zk1 G fs mm mn N D (zny fs k)
 | 0,D,_,_=>by
  intro h hb h0 hd hw
  exact absurd rfl hw
 | k+1,D,hD,hDk=>by
  rename_i J0 J xo mo fo L T x r at_ deep R
  intro h hb h0 hd hw hR hO
  refine zxA rfl ?_
  simp only[zny]at hw hR hO
  by_cases ha:at_<0
  .rw[if_pos ha]at hw;exact absurd rfl hw
  rw[if_neg ha]at hw hR hO
  cases hws:r.fn.lists[at_.toNat]? with
  | none=>rw[hws]at hw;exact absurd rfl hw
  | some ws =>
  rw[hws]at hw hR hO
  simp only at hw hR hO
  obtain⟨hi,hie⟩:=yaq.1 hws
  obtain⟨pv,lv,tv,cv,sv,fo1,e1,e2,e3,e4,e5,hsv,htv,_,_⟩:=h.cells
  obtain⟨b,rv,hrv,hix⟩:=htv.at hi
  rw[hie]at hrv
  have ea:((at_.toNat:Nat):Int)=at_:=by omega
  rw[ea]at hix
  have sl:=hsv.len
  have rl:=hrv.len
  have r1:=hrv.one
  have hmem:=yc5 hws
  simp[zGH,fo1,e1,e2,e3,e4,e5,sl,hix,rl,r1]
  refine zcb (ws.length+1) ?_
  refine zk4 V (zsb V hfs k (D+1) (by omega) (by push_cast at hDk;omega)) (zqW hfs k (D+1) (by omega) (by push_cast at hDk;omega)) (by omega) (by push_cast at hDk;omega) hfs h0 (by omega) hrv (hb.fn.rows _ hmem) (hb.fn.nums _ hmem) ws [] rfl h hb hw ?_ ?_ ?_ ?_ ?_ ?_ ?_ hR hO<;>simp
end Go.Proofs.YtohfclafhegadaaGreatDoor

namespace Go.Proofs.YtohfclafhegadaaGreatDoor
open Go Go.Abs
theorem ziU{m:M}(h:zaP m=.ok ()):0<=m.memory/\m.memory<=4096:=by
 unfold zaP at h
 split at h
 .cases h
 .rename_i q
  simpa using q
theorem zmn{m:M}(h:zaP m=.ok ()):0<=m.main/\∃g,m.funcs[m.main.toNat]?=some g/\g.type=1/\g.params.length=0:=by
 have hm:zgS m=true:=by
  unfold zaP at h
  split at h
  .cases h
  .split at h
   .cases h
   .split at h
    .assumption
    .cases h
 unfold zgS at hm
 simp only[Bool.and_eq_true,decide_eq_true_eq]at hm
 obtain⟨h0,h1⟩:=hm
 refine⟨h0,?_⟩
 cases hg:m.funcs[m.main.toNat]? with
 | none=>rw[hg]at h1;cases h1
 | some g =>
  rw[hg]at h1
  simp only[Bool.and_eq_true,decide_eq_true_eq]at h1
  exact⟨g,rfl,h1.1,h1.2⟩
theorem zsc(n:Nat)(k:IntKind)(v:Int):zu (yaj n (yc0 k v))=yaj n (yc0 k v):=by
 induction n with
 | zero=>rfl
 | succ n ih=>simp only[ydb,zu,yaa]at ih ⊢;rw[ih];rfl
theorem zq0{G:Env}{n:Int}(h0:0<=n)(h1:n<=4096){J:AS}{K:AV->AS->Prop}:zmG yb9 32 (.int .i64 n) (.int .i64 n) J K=K (.slm J.no 0 1 n.toNat) (J.newO (yaj n.toNat (.int .u8 0))):=by
 refine propext ⟨λh=>?_,λh=>?_⟩
 .obtain⟨sz,bs,z,e1,e2,e3,e4,e5,_,_,_,_,h⟩:=h
  rw[zBd]at e1
  rw[zBe]at e3
  cases e1;cases e3
  rw[zsc]at h
  exact h
 .refine⟨1,1,_,zBd,zG2,zBe,rfl,rfl,rfl,h0,by omega,by omega,?_⟩
  rw[zsc]
  exact h
set_option maxHeartbeats 1000000 in
theorem zpi{G:Env}(V:znH G){m:M}{mv iv:AV}{input:List Int}{steps:Int}{J:AS}{R:Out->AS->Prop}(hm:MV mv m)(hc:zaP m=.ok ())(hfs:ztK m.funcs)(hi:zaR iv input)(hil:input.length<=2^38)(hs:steps<=2^38)
  (hR:∀ov out st code J',ztJ m input steps (steps.toNat+1)=some (out,st,code)->zaR ov out->zd J J'->R (.ret (.agg [ov,.int .i64 st,.int .i64 code])) J'):zzQ G 28 [mv,iv,.int .i64 steps] J R:=by
 refine zrB ?_
 refine zj9 (px:=zBc) (px2:=zuu) (pz:=zpW) (k:=80) (py:=zrl) (n:=32) (nk:=18) (t:=17) (d0:=4) (d1:=2) (res:=[.cell 6 48]) zup Tryz.func28 rfl rfl rfl rfl (by kernel_rfl) (by kernel_rfl) (by kernel_rfl) (by simp) rfl rfl rfl rfl rfl rfl (by decide) Tryz.func80 rfl (by kernel_rfl) rfl rfl rfl rfl rfl rfl rfl rfl rfl (by kernel_rfl) (by decide) (by decide) (by decide) ?_
 obtain⟨fsv,rfl,hfsv⟩:=hm
 have f1:=hfsv.one
 have i1:=hi.one
 obtain⟨m0,m1⟩:=ziU hc
 obtain⟨mn0,g,hg,hgt,hgp⟩:=zmn hc
 obtain⟨out,st,code,he,_,hout⟩:=zmi hc input steps (steps.toNat+1) (by omega)
 have hgm:m.funcs[m.main.toNat]?=some g:=hg
 have hlt:m.main.toNat<m.funcs.length:=(yaq.1 hg).1
 obtain⟨bb,gv,hgv,hix⟩:=hfsv.at hlt
 have hge:m.funcs[m.main.toNat]=g:=(yaq.1 hg).2
 rw[hge]at hgv
 rw[Int.toNat_of_nonneg mn0]at hix
 obtain⟨gpv,glv,gtv,rfl,hgpv,hglv,hgtv⟩:=hgv
 have g1:=hgpv.one
 have g2:=hglv.one
 have g3:=hgtv.one
 have hgv:FV (.agg [.str g.name,gpv,glv,.int .i64 g.type,gtv]) g:=⟨gpv,glv,gtv,rfl,hgpv,hglv,hgtv⟩
 have hgo:OkF g:=hfs g (yc5 hg)
 have hcallw:zdj (zny m.funcs (steps.toNat+1)) ⟨input,steps,yaj m.memory.toNat 0,[],0⟩ g [] ⟨g,[],[],0⟩≠.bad:=by
  intro e
  unfold ztJ at he
  rw[if_neg (by omega),hg]at he
  simp only at he
  rw[e]at he
  cases he
 have hov:∀s c x',zdj (zny m.funcs (steps.toNat+1)) ⟨input,steps,yaj m.memory.toNat 0,[],0⟩ g [] ⟨g,[],[],0⟩=.over s c x'->ztJ m input steps (steps.toNat+1)=some (x'.out,s,c):=λs c x' e=>by
  unfold ztJ
  rw[if_neg (by omega),hg]
  simp only
  rw[e]
 have hok:∀v x' r',zdj (zny m.funcs (steps.toNat+1)) ⟨input,steps,yaj m.memory.toNat 0,[],0⟩ g [] ⟨g,[],[],0⟩=.ok v x' r'->ztJ m input steps (steps.toNat+1)=some (x'.out,1,v):=λv x' r' e=>by
  unfold ztJ
  rw[if_neg (by omega),hg]
  simp only
  rw[e]
 have fin:∀(Z J':AS) (xo mo ro:Nat) (x':za1) (ov:AV) (s c:Int),zd J Z->J.no<=xo->J.no<=mo->J.no<=ro->XM m.funcs m.memory m.main Z xo mo [] [] x' ov J'->ztJ m input steps (steps.toNat+1)=some (x'.out,s,c)->zsN R (.ret (.agg [ov,.int .i64 s,.int .i64 c])) (J'.setO ro [ov,.int .i64 s,.int .i64 c]):=by
  intro Z J' xo mo ro x' ov s c A hx hmo hr hm e
  have A2:zd J (J'.setO ro [ov,.int .i64 s,.int .i64 c]):=by
   have h1:=hm.no;have h2:=hm.nf;have h3:=A.no;have h4:=A.nf
   refine⟨by simp;omega,by simp;omega,λo ho=>?_,λf hf=>?_⟩
   .have:o≠ro:=by omega
    simp[this]
    rw[hm.obj o (by omega) (by omega) (by omega) (by simp)];exact A.obj o ho
   .simp
    rw[hm.fam f (by omega) (by simp)];exact A.fam f hf
  rcases hm.own with ⟨h1,rfl⟩|⟨q,rfl,h1,h2⟩
  .exact .inl (hR _ _ _ _ _ e (.inl ⟨h1,rfl⟩) A2)
  .have hq:Z.nf<=q:=by
    rcases hm.ownT q (by simp[zaz])with h|h
    .simp at h
    .exact h
   refine .inr ⟨_,q,λ_=>false,rfl,by simpa using h2,?_⟩
   have hI:zaR (.sl (.stat false) 1 (x'.out.map (.int .i64))) x'.out:=.inr ⟨_,rfl⟩
   have:=hR _ _ _ _ ((J'.setO ro [.sl (.fam q false) 1 (x'.out.map (.int .i64)),.int .i64 s,.int .i64 c]).frz q λ_=>false) e hI (A2.frz (by have:=A.nf;omega) λ_ _=>rfl)
   simpa [Function.comp_def]using this
 have key:∀(a:Nat->AV) (Z:AS) (caps:List AV) (xo mo vo po ro:Nat),caps=[.ptr vo 0,.ptr ro 0]->a 3=.ptr po 0->a 6=.ptr ro 0->a 7=.ptr vo 0->Z.objs po=some [fsv,.int .i64 m.memory,.int .i64 m.main]->Z.objs ro=some [.nilsl,.int .i64 0,.int .i64 0]->Z.objs vo=some [.ptr xo 0] ->
   Z.objs xo=some [fsv,.int .i64 m.memory,.int .i64 m.main,iv,.int .i64 steps,.slm mo 0 1 m.memory.toNat,.nilsl,.int .i64 0]->Z.objs mo=some (yaj m.memory.toNat (.int .u8 0))->zd J Z->(po<Z.no/\ro<Z.no/\vo<Z.no/\xo<Z.no/\mo<Z.no)->(J.no<=xo/\J.no<=mo/\J.no<=ro) ->
   (xo≠mo/\vo≠xo/\vo≠mo/\ro≠xo/\ro≠mo/\ro≠vo)->avc yb9 G 32 zpW (aq (zb2 yb9 G 18 zrl 4 2 caps [.cell 6 48] (zsN R))) a Z:=by
  intro a Z caps xo mo vo po ro hcaps a3 a6 a7 op orr ov ox om A lts ges nes
  obtain⟨l1,l2,l3,l4,l5⟩:=lts
  obtain⟨q1,q2,q3⟩:=ges
  obtain⟨n1,n2,n3,n4,n5,n6⟩:=nes
  subst hcaps
  have hM:XM m.funcs m.memory m.main Z xo mo [] [] ⟨input,steps,yaj m.memory.toNat 0,[],0⟩ .nilsl Z :=
   ⟨yah _,yah _,λ_ _ _ _ _=>rfl,λ_ _ _=>rfl,l4,l5,n1,by simp,⟨fsv,iv,by simpa using ox,hfsv,hi⟩,.inl ⟨rfl,rfl⟩,by simp[zaz],by simpa using om⟩
  simp[zpW,a3,a7,op,ov,f1,hix,splice,g1,g2,g3]
  refine zmm (N:=2^38) (zsb V hfs (steps.toNat+1) 0 (yeh _) (by omega)) (zqW hfs (steps.toNat+1) 0 (yeh _) (by omega)) (yeh _) hM (yah _) (by simp only;omega) (by simp;omega) (yeh _) (by simp;omega) hil hgo hgv (.inr (.inl ⟨rfl,rfl⟩)) (by simp) (by simp[zaz]) (by simp[zaz]) hcallw (λv x' r' J' e hx=>?_) (λs c x' J' e hx=>?_)
  .obtain⟨xov,hm⟩:=hx
   have o1:=hm.own.one
   obtain⟨fv,iv',ho,_,_⟩:=hm.mach
   have hv:=(hm.obj vo l3 n2 n3 (by simp)).trans ov
   have hr:=(hm.obj ro l2 n4 n5 (by simp)).trans orr
   have hfin:=fin Z J' xo mo ro x' xov 1 v A q1 q2 q3 hm (hok _ _ _ e)
   simp[a6,a7,hv,ho,hr,o1,splice]
   simp[zb2,zrl,splice,a6]
   exact hfin
  .obtain⟨xov,hm⟩:=hx
   have o1:=hm.own.one
   obtain⟨fv,iv',ho,_,_⟩:=hm.mach
   have hv:=(hm.obj vo l3 n2 n3 (by simp)).trans ov
   have hr:=(hm.obj ro l2 n4 n5 (by simp)).trans orr
   have hl:=hm.no
   have A3:zd J' ((J'.newO [.int .i64 0,.int .i64 0]).setO J'.no [.int .i64 s,.int .i64 c]):=(zd.refl J').newO.setO (yah _)
   have hfin:=fin Z _ xo mo ro x' xov s c A q1 q2 q3 (hm.adds A3) (hov _ _ _ e)
   have y1:vo≠J'.no:=by omega
   have y2:ro≠J'.no:=by omega
   have y3:xo≠J'.no:=by omega
   simp
   simp[zb2,zrl,zk0,splice,zgt,a6,hv,ho,hr,o1,y1,y2,y3]
   exact hfin
 simp[zBc]
 have z2:¬J.no=J.no+1+1:=by omega
 have z3:¬J.no=J.no+1+1+1:=by omega
 have z4:¬J.no=J.no+1+1+1+1:=by omega
 have z5:¬J.no+1=J.no+1+1+1:=by omega
 have z6:¬J.no+1=J.no+1+1+1+1:=by omega
 have z7:¬J.no+1+1=J.no+1+1+1+1:=by omega
 simp[zuu,f1,i1,splice,zq0 (G:=G) m0 m1,z2,z3,z4]
 refine⟨key _ _ _ (J.no+1+1+1) (J.no+1+1) (J.no+1+1+1+1) J.no (J.no+1) rfl ?_ ?_ ?_ ?_ ?_ ?_ ?_ ?_ ?_ ?_ ?_ ?_,key _ _ _ (J.no+1+1+1+1) (J.no+1+1) (J.no+1+1+1) J.no (J.no+1) rfl ?_ ?_ ?_ ?_ ?_ ?_ ?_ ?_ ?_ ?_ ?_ ?_,key _ _ _ (J.no+1+1+1+1) (J.no+1+1+1) (J.no+1+1) J.no (J.no+1) rfl ?_ ?_ ?_ ?_ ?_ ?_ ?_ ?_ ?_ ?_ ?_ ?_⟩
 all_goals first|(simp;done)|(simp;omega)|(simp[z2,z3,z4,z5,z6,z7];done)|exact((zd.refl J).newO.newO.newO.newO.newO).setO (by omega)|omega
end Go.Proofs.YtohfclafhegadaaGreatDoor
namespace Go.Proofs.YtohfclafhegadaaGreatDoor.Ck
open Go Go.Abs Go.Proofs.YtohfclafhegadaaGreatDoor
def zjD(r:List W):List Int:=r.flatMap zh
def zeQ(l:To):List Int:=l.flatMap zjD
def NOk(L:Nat)(named:List Bool)(P:List Int):Prop:=named.length=L/\∀i,i<L->named[i]?=some (decide (0<P.count (i:Int)))
theorem zAd{L:Nat}{named:List Bool}{P:List Int}{k:Nat}{n:Int}(h:NOk L named P)(hk:k<=L)(h0:0<=n/\n<(k:Int))(hc:P.count n=0):∃named',ze2 (k:Int) named n=.ok named'/\NOk L named' (P++[n]):=by
 obtain⟨i,hi⟩:=yek h0.1
 subst hi
 have hi:i<L:=by omega
 have hg:=h.2 i hi
 rw[hc]at hg
 have e:named.getD (Int.toNat (i:Int)) true=false:=by rw[ybe,ycQ,hg];rfl
 refine⟨named.set i true,?_,by simp[h.1],λj hj=>?_⟩
 .unfold ze2
  rw[if_pos ⟨h0.1,h0.2,e⟩,ybe]
 .rw[List.getElem?_set,yep]
  by_cases hij:i=j
  .subst hij
   rw[if_pos rfl,if_pos (by rw[h.1];exact hj)]
   simp
  .rw[if_neg hij,h.2 j hj]
   have:List.count (j:Int) [(i:Int)]=0:=by
    rw[yeq]
    have:¬((i:Int)==(j:Int))=true:=by simp;omega
    simp[this]
   rw[this,Nat.add_zero]
theorem zpj{L k:Nat}(hk:k<=L):∀{ns:List Int} {named:List Bool} {P:List Int},NOk L named P->(∀n∈ns,0<=n/\n<(k:Int))->(∀n:Int,(P++ns).count n<=1)->∃named',zbt (k:Int) ns named=.ok named'/\NOk L named' (P++ns)
 | [],named,P,h,_,_=>⟨named,rfl,by simpa using h⟩
 | n::ns,named,P,h,h0,hc=>by
  have h1:=hc n
  rw[yep,List.count_cons_self]at h1
  obtain⟨nm,e1,e2⟩:=zAd h hk (h0 n (by simp)) (by omega)
  obtain⟨nm2,e3,e4⟩:=zpj hk (ns:=ns) e2 (λm hm=>h0 m (by simp[hm])) (λm=>by have:=hc m;simpa using this)
  refine⟨nm2,?_,by simpa using e4⟩
  rw[zbt,e1];exact e3
theorem zvY{L k:Nat}(hk:k<=L):∀{r:List W} {named:List Bool} {P:List Int},NOk L named P->(∀n∈zjD r,0<=n/\n<(k:Int))->(∀n:Int,(P++zjD r).count n<=1)->∃named',zjt (k:Int) r named=.ok named'/\NOk L named' (P++zjD r)
 | [],named,P,h,_,_=>⟨named,rfl,by simpa [zjD]using h⟩
 | w::r,named,P,h,h0,hc=>by
  have e:zjD (w::r)=zh w++zjD r:=by simp[zjD]
  rw[e]at h0 hc ⊢
  obtain⟨nm,e1,e2⟩:=zpj hk h (ns:=zh w) (λn hn=>h0 n (by simp[hn])) (λn=>by
   have:=hc n
   rw[<-ydB,yep]at this
   omega)
  obtain⟨nm2,e3,e4⟩:=zvY hk (r:=r) e2 (λm hm=>h0 m (by simp[hm])) (λm=>by rw[ydB];exact hc m)
  refine⟨nm2,?_,by rw[<-ydB];exact e4⟩
  rw[zjt,e1];exact e3
theorem zsd{L:Nat}:∀{k:Nat} {ls:To} {named:List Bool} {P:List Int},k+ls.length<=L->NOk L named P->(∀i r,ls[i]?=some r->∀n∈zjD r,0<=n/\n<((k+i:Nat):Int))->(∀n:Int,(P++zeQ ls).count n<=1)->∃named',zcJ k ls named=.ok named'/\NOk L named' (P++zeQ ls)
 | k,[],named,P,_,h,_,_=>⟨named,rfl,by simpa [zeQ]using h⟩
 | k,r::ls,named,P,hk,h,h0,hc=>by
  have e:zeQ (r::ls)=zjD r++zeQ ls:=by simp[zeQ]
  rw[e]at hc ⊢
  simp only[yac]at hk
  obtain⟨nm,e1,e2⟩:=zvY (k:=k) (by omega) h (r:=r) (λn hn=>by have:=h0 0 r rfl n hn;simpa using this) (λn=>by
   have:=hc n
   rw[<-ydB,yep]at this
   omega)
  obtain⟨nm2,e3,e4⟩:=zsd (k:=k+1) (ls:=ls) (by omega) e2 (λi q hq m hm=>by have:=h0 (i+1) q (by simpa using hq) m hm;simp at this ⊢;omega) (λm=>by rw[ydB];exact hc m)
  refine⟨nm2,?_,by rw[<-ydB];exact e4⟩
  rw[zcJ,e1];exact e3
theorem zvZ{ls:To}(h0:ls.length≠0)(hv:∀(i:Nat) r,ls[i]?=some r->∀n∈zjD r,0<=n/\n<(i:Int))(hc:∀i:Nat,i+1<ls.length->(zeQ ls).count (i:Int)=1):zdp ls=.ok ():=by
 have hall:∀n∈zeQ ls,0<=n/\n<((ls.length-1:Nat):Int):=λn hn=>by
  simp only[zeQ,yc8]at hn
  obtain⟨r,hr,hn⟩:=hn
  obtain⟨i,hi,e⟩:=ya9 hr
  have:=hv i r (by rw[yau hi,e]) n hn
  omega
 have hc1:∀n:Int,(zeQ ls).count n<=1:=λn=>by
  by_cases hm:n∈zeQ ls
  .have:=hall n hm
   obtain⟨i,hi⟩:=yek this.1
   subst hi
   rw[hc i (by omega)]
   exact yah _
  .rw[List.count_eq_zero_of_not_mem hm];omega
 obtain⟨nm,e1,e2,e3⟩:=zsd (L:=ls.length) (k:=0) (ls:=ls) (named:=yaj ls.length false) (P:=[]) (by omega) ⟨by simp,λi hi=>by simp[hi]⟩ (λi r hr n hn=>by have:=hv i r hr n hn;simpa using this) (by simpa using hc1)
 unfold zdp
 rw[if_neg h0,e1]
 simp only
 rw[if_pos]
 rw[yaM]
 intro b hb
 obtain⟨i,hi,e⟩:=ya9 hb
 simp at hi
 have:=e3 i (by omega)
 rw[ydq,hc i (by omega)]at this
 rw[<-e,List.getElem_take]
 have h4:=yaq.1 this
 obtain⟨h5,h6⟩:=h4
 rw[h6]
 rfl
end Go.Proofs.YtohfclafhegadaaGreatDoor.Ck
namespace Go.Proofs.YtohfclafhegadaaGreatDoor
open Go Go.Abs Go.Proofs.YtohfclafhegadaaGreatDoor.Ck
theorem ztw{w:W}(h:zR w=false):zh (zJ w)=[]:=by
 simp only[zR,Bool.or_eq_false_iff,decide_eq_false_iff_not]at h
 unfold zh zJ
 simp only
 rw[if_neg (by omega),if_neg (by omega)]
theorem zep(w:W)(r:List W):zjD (w::r)=zh w++zjD r:=by simp[zjD]
theorem zfS(x y:To):zeQ (x++y)=zeQ x++zeQ y:=by simp[zeQ]
theorem zpk(x:List W):zeQ [x]=zjD x:=by simp[zeQ]
structure Inv(n0 n1:Nat)(z:To)(out:List W):Prop where
 len:n1=n0+z.length
 names:∀n∈zjD out,∃j:Nat,n=(j:Int)/\j<n1
 rows:∀i r,z[i]?=some r->∀n∈zjD r,∃j:Nat,n=(j:Int)/\j<n0+i
 once:∀n:Nat,(zjD out).count (n:Int)+(zeQ z).count (n:Int)=if n0<=n/\n<n1 then 1 else 0
theorem zq1{n0 n1 n2:Nat}{z1 z2:To}{b out:List W}(h1:Inv n0 n1 z1 b)(h2:Inv (n1+1) n2 z2 out){w:W}(hw:zh w=[(n1:Int)]):Inv n0 n2 (z1++b::z2) (w::out) where
 len:=by have:=h1.len;have:=h2.len;simp;omega
 names n hn:=by
  rw[zep,hw]at hn
  have:=h2.len
  rcases ybC.1 hn with rfl|hn
  .exact⟨n1,rfl,by omega⟩
  .exact h2.names n hn
 rows i r hi n hn:=by
  have l1:=h1.len
  by_cases c:i<z1.length
  .rw[yat c]at hi
   exact h1.rows i r hi n hn
  .rw[yaI (by omega)]at hi
   obtain⟨k,hk⟩:∃k,i=z1.length+k:=⟨i-z1.length,by omega⟩
   subst hk
   rw[Nat.add_sub_cancel_left]at hi
   cases k with
   | zero =>
    simp only[yd0,yaR.injEq]at hi
    subst hi
    obtain⟨j,e,hj⟩:=h1.names n hn
    exact⟨j,e,by omega⟩
   | succ k =>
    simp only[List.getElem?_cons_succ]at hi
    obtain⟨j,e,hj⟩:=h2.rows k r hi n hn
    exact⟨j,e,by omega⟩
 once n:=by
  have a1:=h1.once n
  have a2:=h2.once n
  have l1:=h1.len
  have l2:=h2.len
  have e:z1++b::z2=z1++([b]++z2):=by simp
  rw[zep,hw,e,zfS,zfS,zpk]
  simp only[yep,yeq]
  have q:((n1:Int)==(n:Int))=decide (n1=n):=by
   by_cases c:n1=n
   .subst c;simp
   .have:¬(n1:Int)=(n:Int):=by omega
    rw[decide_eq_false c]
    exact beq_eq_false_iff_ne.2 this
  rw[q]
  by_cases c:n1=n
  .subst c
   rw[if_neg (by omega)]at a1
   rw[if_neg (by omega)]at a2
   have c3:n0<=n1/\n1<n2:=by omega
   rw[if_pos c3]
   simp only[decide_true,if_true]
   omega
  .rw[decide_eq_false c]
   simp only[Bool.false_eq_true,if_false]
   by_cases c1:n0<=n/\n<n1
   .rw[if_pos c1]at a1
    rw[if_neg (by omega)]at a2
    rw[if_pos (by omega)]
    omega
   .rw[if_neg c1]at a1
    by_cases c2:n1+1<=n/\n<n2
    .rw[if_pos c2]at a2
     rw[if_pos (by omega)]
     omega
    .rw[if_neg c2]at a2
     rw[if_neg (by omega)]
     omega
theorem zfT{op o:Int}{b:Nat}(h:op=11\/op=12\/op=13/\o<0):zh (zaf op b o)=[(b:Int)]:=by
 unfold zh zaf
 simp only
 rw[if_pos h]
theorem zH6{ls:To}{d:Nat}{ws:List W}{acc acc':To}{toks:List Tok}{out:List W}(h:Pr ls d ws acc toks out acc'):∃z,acc'=acc++z/\Inv acc.length acc'.length z out:=by
 induction h with
 | nil d acc=>exact⟨[],by simp,⟨by simp,by simp[zjD],by simp,λn=>by rw[if_neg (by omega)];simp[zjD,zeQ]⟩⟩
 | @leaf d w r acc t r' acc' hn hf hr _ ih =>
  obtain⟨z,e,h⟩:=ih
  have en:zjD (zJ w::r')=zjD r':=by rw[zep,ztw hn,ydq]
  exact⟨z,e,⟨h.len,by rw[en];exact h.names,h.rows,λn=>by rw[en];exact h.once n⟩⟩
 | @one d w b r acc tb b' acc1 t r' acc' ho hd hb0 hb _ _ ih1 ih2 =>
  obtain⟨z1,e1,h1⟩:=ih1
  obtain⟨z2,e2,h2⟩:=ih2
  simp only[yab,yac,ybl]at h2
  refine⟨z1++b'::z2,by rw[e2,e1];simp,zq1 h1 h2 (zfT ?_)⟩
  rcases ho with h|h|h
  .exact .inl h
  .exact .inr (.inl h)
  .exact .inr (.inr ⟨h.1,by rw[if_pos h.1];omega⟩)
 | @two d w b f r acc tb b' acc1 te e' acc2 t r' acc' ho hoo hd hb0 hb hf _ _ _ ih1 ih2 ih3 =>
  obtain⟨z1,e1,h1⟩:=ih1
  obtain⟨z2,e2,h2⟩:=ih2
  obtain⟨z3,e3,h3⟩:=ih3
  simp only[yab,yac,ybl]at h2 h3
  have k2:=zq1 h2 h3 (w:=zaf 12 acc2.length 0) (zfT (.inr (.inl rfl)))
  have k1:=zq1 h1 k2 (w:=zaf 12 acc1.length 0) (zfT (.inr (.inl rfl)))
  have en:∀(a b:Nat),zjD (zaf 12 a 0::zaf 12 b 0::r')=zjD (zaf 13 a b::r'):=λa b=>by
   rw[zep,zep,zep]
   have q1:=zfT (op:=12) (o:=0) (b:=a) (.inr (.inl rfl))
   have q2:=zfT (op:=12) (o:=0) (b:=b) (.inr (.inl rfl))
   have q3:zh (zaf 13 a b)=[(a:Int),(b:Int)]:=by
    unfold zh zaf
    simp only
    rw[if_neg (by omega),if_pos trivial]
   rw[q1,q2,q3]
   simp
  refine⟨z1++b'::(z2++e'::z3),by rw[e3,e2,e1];simp,⟨k1.len,?_,k1.rows,λn=>?_⟩⟩
  .rw[<-en];exact k1.names
  .rw[<-en];exact k1.once n
theorem zse{ls:To}{row:List W}{acc':To}{toks:List Tok}{out:List W}(h:Pr ls 0 row [] toks out acc'):zdp (acc'++[out])=.ok ():=by
 obtain⟨z,e,h⟩:=zH6 h
 simp only[ydq]at e
 subst e
 simp only[ybl]at h
 refine zvZ (by simp) (λi r hi n hn=>?_) λi hi=>?_
 .by_cases c:i<acc'.length
  .rw[yat c]at hi
   obtain⟨j,rfl,hj⟩:=h.rows i r hi n hn
   exact⟨by omega,by omega⟩
  .have hl:i=acc'.length:=by
    have:=(yaq.1 hi).1
    simp at this
    omega
   subst hl
   simp only[yaI (yah _),Nat.sub_self,yd0,yaR.injEq]at hi
   subst hi
   obtain⟨j,rfl,hj⟩:=h.names n hn
   exact⟨by omega,by omega⟩
 .simp at hi
  rw[zfS,zpk,yep]
  have:=h.once i
  rw[if_pos (by omega)]at this
  omega
theorem ztx{w:W}(h:zR w=false):zh w=[]:=by
 simp only[zR,Bool.or_eq_false_iff,decide_eq_false_iff_not]at h
 unfold zh
 rw[if_neg (by omega),if_neg (by omega)]
theorem zv0{w:W}(h:w.op=11\/w.op=12\/w.op=13/\w.other<0):zh w=[w.body]:=by
 unfold zh
 rw[if_pos h]
theorem zv1{w:W}(h:w.op=13)(ho:0<=w.other):zh w=[w.body,w.other]:=by
 unfold zh
 rw[if_neg (by omega),if_pos h]
def gL(ls:To)(k:Nat):Nat:=(ls.getD k []).length
theorem zAe{B:Nat}{ls:To}(ha:zlm ls){d:Nat}{ws:List W}{acc acc':To}{toks:List Tok}{out:List W}(h:PrB B ls d ws acc toks out acc'):
  out.length+zhD acc'=zhD acc+ws.length+zju (ws.flatMap zh) (znc (gL ls) ls)/\acc'.length+2*zhD acc<=acc.length+2*(out.length+zhD acc'):=by
 have tot:∀{n:Int} {b:List W},ls[n.toNat]?=some b->znc (gL ls) ls n.toNat=b.length+zju (b.flatMap zh) (znc (gL ls) ls):=λ{n b} hb=>by
  rw[znd (gL ls) ha hb]
  have:gL ls n.toNat=b.length:=by unfold gL;rw[ycQ,hb];rfl
  rw[this]
 induction h with
 | nil=>simp[zju]
 | @leaf d w r acc t r' acc' hn hf hr _ ih =>
  rw[yaa,ztx hn,ydq]
  simp only[yac]
  omega
 | @one d w b r acc tb b' acc1 t r' acc' ho hd hb0 hb p1 p2 ih1 ih2 =>
  have e:=tot hb
  rw[yaa,zv0 ho,zeF]
  rw[zel]at ih2
  have e2:zju [w.body] (znc (gL ls) ls)=znc (gL ls) ls w.body.toNat:=by simp[zju]
  rw[e2,e]
  simp only[yac,yab,ybl]at *
  omega
 | @two d w b e r acc tb b' acc1 te e' acc2 t r' acc' ho hoo hd hb0 hb he p1 p2 p3 ih1 ih2 ih3 =>
  have q1:=tot hb
  have q2:=tot he
  rw[yaa,zv1 ho hoo,zeF]
  rw[zel]at ih2 ih3
  have e2:zju [w.body,w.other] (znc (gL ls) ls)=znc (gL ls) ls w.body.toNat+znc (gL ls) ls w.other.toNat:=by simp[zju]
  rw[e2,q1,q2]
  simp only[yac,yab,ybl]at *
  omega
theorem zsf:∀(ls:To) (k:Nat),k<=ls.length->zbO (gL ls) k=zjv id (ls.take k)
 | ls,0,_=>by simp[zbO,zjv]
 | ls,k+1,h=>by
  rw[zbO,zsf ls k (by omega),ycX (by omega),zkl]
  have:gL ls k=ls[k].length:=by unfold gL;rw[ycQ,yau (by omega)];rfl
  rw[this]
  simp[zjv]
theorem zv2{B:Nat}{fs:List F}{f:F}(h:zk fs f=.ok ()){toks:List Tok}{ls':To}(hp:zJv B f toks ls'):zhD ls'=zjv id f.lists/\ls'.length<=1+2*zjv id f.lists/\(spT toks).length<=64*zjv id f.lists:=by
 obtain⟨h0,ha,ht⟩:=zbU (zV h)
 obtain⟨row,out,acc,h1,h2,rfl⟩:=hp
 have e:=ht (gL f.lists)
 rw[znd (gL f.lists) ha h1,zsf _ _ (yah _),ycY]at e
 have e1:gL f.lists (f.lists.length-1)=row.length:=by unfold gL;rw[ycQ,h1];rfl
 rw[e1]at e
 obtain⟨c1,c2⟩:=zAe ha h2
 have c3:=zHX h2
 have r0:zhD []=0:=rfl
 rw[r0]at c1 c2 c3
 rw[zel]
 simp only[yab,yac,ybl]at *
 omega
end Go.Proofs.YtohfclafhegadaaGreatDoor
namespace Go.Proofs.YtohfclafhegadaaGreatDoor
open Go Go.Abs Go.Proofs.YtohfclafhegadaaGreatDoor.Ck
theorem zq2{fs:List F}{ls:List Int}{ty d:Int}{lk:zm9}{w:W}(hf:zT w=true)(hn:zR w=false)(s:St):zag fs ls ty d lk (zJ w) s=zag fs ls ty d lk w s:=by
 obtain⟨op,t,n,body,other,name⟩:=w
 simp only[zR,Bool.or_eq_false_iff,decide_eq_false_iff_not]at hn
 unfold zT at hf
 simp only at hf
 by_cases h1:op=1\/op=5
 .rw[if_pos h1]at hf
  rcases h1 with rfl|rfl<;>simp[zag,zT,zN,zc7,zJ,zaM]
 .rw[if_neg h1]at hf
  by_cases h4:op=4
  .subst h4
   simp[zag,zT,zN,zc7,zJ,zaM]
  .rw[if_neg h4]at hf
   by_cases h8:op=8\/op=9
   .rcases h8 with rfl|rfl<;>simp[zag,zT,zN,zc7,zJ,zaM]
   .rw[if_neg h8]at hf
    simp only[Bool.and_eq_true,decide_eq_true_eq]at hf
    rcases(show op=2\/op=3\/op=10\/op=14\/op=15\/op=6\/op=7\/op=16\/op=17\/op=18 by omega)with rfl|rfl|rfl|rfl|rfl|rfl|rfl|rfl|rfl|rfl<;>simp[zag,zT,zN,zc7,zJ,zaM]
def znC(op:Int)(rb:Res Unit)(ro:Option (Res Unit))(s:St):Res St :=
 if op=13 then(match zaA [1] s with
  | .error e=>.error e
  | .ok s1=>match rb with
   | .error e=>.error e
   | .ok _=>match ro with
    | none=>.ok s1
    | some (.ok _)=>.ok s1
    | some (.error e)=>.error e)
 else match rb with
  | .ok _=>.ok s
  | .error e=>.error e
theorem zk5{fs:List F}{ls:List Int}{ty d:Int}{lk:zm9}{w:W}(h:w.op=11\/w.op=12\/w.op=13)(s:St):zag fs ls ty d lk w s=znC w.op (lk w.body (d+1)) (if 0<=w.other then some (lk w.other (d+1))else none) s:=by
 have hf:zT w=true:=by
  unfold zT
  rw[if_neg (by omega),if_neg (by omega),if_neg (by omega)]
  simp;omega
 have hr:zN fs ls d w=true:=by
  unfold zN
  rw[if_neg (by omega),if_neg (by omega),if_neg (by omega),if_neg (by omega)]
 unfold zag znC
 rw[if_neg (by simp[hf]),if_neg (by simp[hr])]
 by_cases h13:w.op=13
 .rw[if_neg (by omega),if_pos h13,if_pos h13]
  cases zaA [1] s with
  | error e=>rfl
  | ok s1 =>
   simp only
   cases lk w.body (d+1)with
   | error e=>rfl
   | ok u =>
    simp only
    by_cases ho:0<=w.other
    .rw[if_pos ho,if_pos ho]
     cases lk w.other (d+1)<;>rfl
    .rw[if_neg ho,if_neg ho]
 .rw[if_pos (by omega),if_neg h13]
  cases lk w.body (d+1)<;>rfl
theorem zir{fs:List F}{ls:List Int}{ty d:Int}{lk:zm9}{w:W}(h:w.op=11\/w.op=12\/w.op=13/\w.other<0)(s:St):zag fs ls ty d lk w s=znC w.op (lk w.body (d+1)) none s:=by
 rw[zk5 (by omega)]
 by_cases h13:w.op=13
 .rw[if_neg (by omega)]
 .unfold znC
  rw[if_neg h13,if_neg h13]
theorem zis{fs:List F}{ls:List Int}{ty d:Int}{lk:zm9}{w:W}(h:w.op=13)(ho:0<=w.other)(s:St):zag fs ls ty d lk w s=znC 13 (lk w.body (d+1)) (some (lk w.other (d+1))) s:=by
 rw[zk5 (by omega),if_pos ho,h]
theorem zgi{op:Int}{rb:Res Unit}{ro:Option (Res Unit)}{s s':St}(h:znC op rb ro s=.ok s'):rb=.ok ():=by
 unfold znC at h
 cases rb with
 | ok u=>rfl
 | error e =>
  split at h
  .split at h<;>cases h
  .cases h
theorem zk6{rb r:Res Unit}{s s':St}(h:znC 13 rb (some r) s=.ok s'):r=.ok ():=by
 unfold znC at h
 rw[if_pos rfl]at h
 cases r with
 | ok u=>rfl
 | error e =>
  split at h
  .cases h
  .split at h<;>cases h
theorem zdS{fs:List F}{ls:List Int}{ty d:Int}{lk:zm9}{w:W}{ws:List W}{s s':St}:zU fs ls ty d lk (w::ws) s=.ok s'↔∃s1,zag fs ls ty d lk w s=.ok s1/\zU fs ls ty d lk ws s1=.ok s':=by
 rw[zU]
 cases zag fs ls ty d lk w s with
 | error e=>exact⟨λh=>(by cases h),λ⟨_,h,_⟩=>(by cases h)⟩
 | ok s1=>exact⟨λh=>⟨s1,rfl,h⟩,λ⟨s2,h1,h2⟩=>(by cases h1;exact h2)⟩
theorem zhL{fs:List F}{ls:List Int}{ty:Int}{lists:To}{k:Nat}{a d:Int}:zam fs ls ty lists (k+1) a d=.ok ()↔∃s,zU fs ls ty d (zam fs ls ty lists k) (lists.getD a.toNat []) ⟨[],false⟩=.ok s/\zHe ty d s=.ok ():=by
 rw[zam]
 cases zU fs ls ty d (zam fs ls ty lists k) (lists.getD a.toNat []) ⟨[],false⟩with
 | error e=>exact⟨λh=>(by cases h),λ⟨_,h,_⟩=>(by cases h)⟩
 | ok s1=>exact⟨λh=>⟨s1,rfl,h⟩,λ⟨s2,h1,h2⟩=>(by cases h1;exact h2)⟩
theorem zit{ls:To}{i:Nat}{b:List W}(h:ls[i]?=some b):ls.getD i []=b:=by rw[ycQ,h];rfl
theorem zD7{fs:List F}{locs:List Int}{ty:Int}{ls fin:To}{d:Nat}{ws:List W}{acc acc':To}{toks:List Tok}{out:List W}(h:Pr ls d ws acc toks out acc'):acc'<+:fin->∀(k:Nat) (deep:Int) (s s':St),zU fs locs ty deep (zam fs locs ty ls k) ws s=.ok s'->zU fs locs ty deep (zam fs locs ty fin k) out s=.ok s':=by
 have key:∀{b b':List W} {acc1:To} {k:Nat} {deep:Int} {n:Int},ls[n.toNat]?=some b->acc1++[b']<+:fin->(∀(k:Nat) (deep:Int) (s s':St),zU fs locs ty deep (zam fs locs ty ls k) b s=.ok s'->zU fs locs ty deep (zam fs locs ty fin k) b' s=.ok s')->zam fs locs ty ls k n deep=.ok ()->zam fs locs ty fin k (acc1.length:Int) deep=.ok ():=by
  intro b b' acc1 k deep n hb hp ih hl
  cases k with
  | zero=>simp[zam]at hl
  | succ k =>
   rw[zhL]at hl ⊢
   obtain⟨s,h1,h2⟩:=hl
   rw[zit hb]at h1
   rw[ybe,zit (zbz hp)]
   exact⟨s,ih k deep _ _ h1,h2⟩
 induction h with
 | nil=>intro _ k deep s s' h;exact h
 | leaf hn hf hr _ ih =>
  intro hp k deep s s' h
  rw[zdS]at h ⊢
  obtain⟨s1,h1,h2⟩:=h
  refine⟨s1,?_,ih hp k deep s1 s' h2⟩
  rw[zq2 hf hn]
  unfold zag at h1 ⊢
  simp only[zR,Bool.or_eq_false_iff,decide_eq_false_iff_not]at hn
  have n1:¬(_=_\/_=_):=not_or.2 ⟨hn.1.1,hn.1.2⟩
  rw[if_neg n1,if_neg hn.2]at h1 ⊢
  exact h1
 | @one d w b r acc tb b' acc1 t r' acc' ho hd hb0 hb p1 p2 ih1 ih2 =>
  intro hp k deep s s' h
  rw[zdS]at h ⊢
  obtain⟨s1,h1,h2⟩:=h
  refine⟨s1,?_,ih2 hp k deep s1 s' h2⟩
  rw[zir ho]at h1
  have hv:(zaf w.op acc1.length (if w.op=13 then -1 else 0)).op=11\/(zaf w.op acc1.length (if w.op=13 then -1 else 0)).op=12\/(zaf w.op acc1.length (if w.op=13 then -1 else 0)).op=13/\(zaf w.op acc1.length (if w.op=13 then -1 else 0)).other<0:=by
   simp only[zaf]
   rcases ho with e|e|e
   .exact .inl e
   .exact .inr (.inl e)
   .exact .inr (.inr ⟨e.1,by rw[if_pos e.1];omega⟩)
  rw[zir hv]
  have q:=zgi h1
  have hp1:acc1++[b']<+:fin:=(zaw p2).trans hp
  have q2:=key hb hp1 (ih1 ((ydA _ _).trans hp1)) q
  simp only[zaf]
  rw[q2]
  rw[q]at h1
  exact h1
 | @two d w b f r acc tb b' acc1 te e' acc2 t r' acc' ho hoo hd hb0 hb hf p1 p2 p3 ih1 ih2 ih3 =>
  intro hp k deep s s' h
  rw[zdS]at h ⊢
  obtain⟨s1,h1,h2⟩:=h
  refine⟨s1,?_,ih3 hp k deep s1 s' h2⟩
  rw[zis ho hoo]at h1
  rw[zis (w:=zaf 13 acc1.length acc2.length) rfl (by simp only[zaf];omega)]
  have q:=zgi h1
  have r1:=zk6 h1
  have hp2:acc2++[e']<+:fin:=(zaw p3).trans hp
  have hp1:acc1++[b']<+:fin:=(zaw p2).trans ((ydA _ _).trans hp2)
  have q2:=key hb hp1 (ih1 ((ydA _ _).trans hp1)) q
  have q3:=key hf hp2 (ih2 ((ydA _ _).trans hp2)) r1
  simp only[zaf]
  rw[q2,q3]
  rw[q,r1]at h1
  exact h1
end Go.Proofs.YtohfclafhegadaaGreatDoor
namespace Go.Proofs.YtohfclafhegadaaGreatDoor
open Go Go.Abs Go.Proofs.YtohfclafhegadaaGreatDoor.Ck
theorem zq3{fs:List F}{ls:List Int}{ty d:Int}{lk lk':zm9}{w:W}{s s':St}(hl:∀m∈zh w,lk m (d+1)=.ok ()->lk' m (d+1)=.ok ())(h:zag fs ls ty d lk w s=.ok s'):zag fs ls ty d lk' w s=.ok s':=by
 by_cases h2:w.op=13/\0<=w.other
 .have e:zh w=[w.body,w.other]:=by unfold zh;rw[if_neg (by omega),if_pos h2.1]
  rw[e]at hl
  rw[zis h2.1 h2.2]at h ⊢
  have q:=zgi h
  have r:=zk6 h
  rw[hl _ (by simp) q,hl _ (by simp) r]
  rw[q,r]at h
  exact h
 .by_cases h1:w.op=11\/w.op=12\/w.op=13/\w.other<0
  .have e:zh w=[w.body]:=by unfold zh;rw[if_pos h1]
   rw[e]at hl
   rw[zir h1]at h ⊢
   have q:=zgi h
   rw[hl _ (by simp) q]
   rw[q]at h
   exact h
  .unfold zag at h ⊢
   rw[if_neg (show ¬(w.op=11\/w.op=12)by omega),if_neg (show ¬w.op=13 by omega)]at h ⊢
   exact h
theorem ziV{fs:List F}{ls:List Int}{ty d:Int}{lk lk':zm9}:∀(ws:List W) (s s':St),(∀w∈ws,∀m∈zh w,lk m (d+1)=.ok ()->lk' m (d+1)=.ok ())->zU fs ls ty d lk ws s=.ok s'->zU fs ls ty d lk' ws s=.ok s'
 | [],s,s',_,h=>h
 | w::ws,s,s',hl,h=>by
  rw[zdS]at h ⊢
  obtain⟨s1,h1,h2⟩:=h
  exact⟨s1,zq3 (hl w (by simp)) h1,ziV ws s1 s' (λw hw=>hl w (by simp[hw])) h2⟩
theorem zmo{fs:List F}{ls:List Int}{ty:Int}{lists:To}(ha:zlm lists):∀(K2 K:Nat) (a d:Int),0<=a->a.toNat<K2->zam fs ls ty lists K a d=.ok ()->zam fs ls ty lists K2 a d=.ok ()
 | 0,_,a,d,_,h,_=>by omega
 | K2+1,0,a,d,_,_,h=>by simp[zam]at h
 | K2+1,K+1,a,d,h0,h1,h=>by
  rw[zhL]at h ⊢
  obtain⟨s,h2,h3⟩:=h
  refine⟨s,ziV _ _ _ (λw hw m hm hk=>?_) h2,h3⟩
  cases hr:lists[a.toNat]? with
  | none=>rw[ycQ,hr]at hw;simp at hw
  | some row =>
   rw[zit hr]at hw
   have hq:=ha a.toNat row hr m (yc8.2 ⟨w,hw,hm⟩)
   exact zmo ha K2 K m (d+1) hq.1 (by omega) hk
theorem zq4{fs fs':List F}(h:zbK fs'=zbK fs){ls:List Int}{ty d:Int}{lk:zm9}(w:W)(s:St):zag fs' ls ty d lk w s=zag fs ls ty d lk w s:=by
 have e1:zN fs' ls d w=zN fs ls d w:=by unfold zN;rw[h]
 have e2:zc7 fs' ls w s=zc7 fs ls w s:=by unfold zc7;rw[h]
 unfold zag
 rw[e1,e2]
theorem ziW{fs fs':List F}(h:zbK fs'=zbK fs){ls:List Int}{ty d:Int}{lk:zm9}:∀(ws:List W) (s:St),zU fs' ls ty d lk ws s=zU fs ls ty d lk ws s
 | [],s=>rfl
 | w::ws,s=>by
  rw[zU,zU,zq4 h]
  cases zag fs ls ty d lk w s with
  | error e=>rfl
  | ok s1=>exact ziW h ws s1
theorem zmp{fs fs':List F}(h:zbK fs'=zbK fs){ls:List Int}{ty:Int}{lists:To}:∀(k:Nat),zam fs' ls ty lists k=zam fs ls ty lists k
 | 0=>rfl
 | k+1=>by
  funext a d
  rw[zam,zam,zmp h k,ziW h]
theorem zlB{fs fs':List F}(h:zbK fs'=zbK fs)(f:F):zk fs' f=zk fs f:=by
 unfold zk
 rw[zmp h]
theorem ziX{fs:List F}{f:F}(h:zk fs f=.ok ()){toks:List Tok}{ls':To}(hp:PrF f toks ls'):zk fs { f with lists:=ls' }=.ok ():=by
 obtain⟨row,out,acc,h1,h2,rfl⟩:=hp
 have hl:=zV h
 have hl':=zse h2
 obtain⟨_,ha',_⟩:=zbU hl'
 unfold zk at h ⊢
 split at h
 .cases h
 rename_i hb
 rw[if_neg hb]
 rw[hl]at h
 simp only at h ⊢
 rw[hl']
 simp only
 obtain⟨k,hk⟩:∃k,f.lists.length=k+1:=⟨f.lists.length-1,by have:=(yaq.1 h1).1;omega⟩
 have e:((f.lists.length:Int)-1).toNat=f.lists.length-1:=by omega
 rw[hk]at h
 rw[zhL]at h
 obtain⟨s,g1,g2⟩:=h
 rw[<-hk,e,zit h1]at g1
 have g3:=zD7 (fin:=acc++[out]) h2 (ydA _ _) k 0 _ _ g1
 have e2:(((acc++[out]).length:Int)-1)=(acc.length:Int):=by simp
 have g4:zam fs (f.params++f.locals) f.type (acc++[out]) (k+1) (((acc++[out]).length:Int)-1) 0=.ok ():=by
  rw[zhL]
  refine⟨s,?_,g2⟩
  rw[e2,ybe,zit (zbz (ydC _))]
  exact g3
 exact zmo ha' _ _ _ _ (by rw[e2];omega) (by rw[e2];simp) g4
theorem zfU{fs:List F}:∀{r:List F},(∀f∈r,zk fs f=.ok ())->zan fs r=.ok ()
 | [],_=>rfl
 | f::r,h=>by
  rw[zan,h f (by simp)]
  exact zfU λg hg=>h g (by simp[hg])
theorem ziu{fs fs':List F}{toks:List Tok}(h:zrS fs toks fs'):fs'.length=fs.length/\∀(i:Nat) (f':F),fs'[i]?=some f'->∃f t ls',fs[i]?=some f/\PrF f t ls'/\f'={ f with lists:=ls' }:=by
 induction h with
 | nil=>exact⟨rfl,λi f' h=>by simp at h⟩
 | cons p _ ih =>
  refine⟨by simp[ih.1],λi f' h=>?_⟩
  cases i with
  | zero =>
   simp only[yd0,yaR.injEq]at h
   exact⟨_,_,_,rfl,p,h.symm⟩
  | succ i=>simpa using ih.2 i f' (by simpa using h)
theorem zv3{fs fs':List F}{toks:List Tok}(h:zrS fs toks fs'):zbK fs'=zbK fs:=by
 obtain⟨h1,h2⟩:=ziu h
 have key:∀i:Nat,(fs'[i]?).map (λf=>(f.params,f.type))=(fs[i]?).map λf=>(f.params,f.type):=λi=>by
  cases hi:fs'[i]? with
  | none =>
   rw[yer]at hi
   rw[yb2 (by omega)]
  | some f' =>
   obtain⟨f,t,ls',q1,q2,rfl⟩:=h2 i f' hi
   rw[q1];rfl
 funext n
 unfold zbK
 simp only[key]
theorem zv4{m:M}(h:zaP m=.ok ()){toks:List Tok}{fs':List F}(hp:zrS m.funcs toks fs'):zaP ⟨fs',m.memory,m.main⟩=.ok ():=by
 have hv:=zbb h
 obtain⟨h1,h2⟩:=ziu hp
 have hh:=zv3 hp
 have hall:zan fs' fs'=.ok ():=zfU λf' hf'=>by
  obtain⟨i,hi,e⟩:=ya9 hf'
  obtain⟨f,t,ls',q1,q2,q3⟩:=h2 i f' (by rw[yau hi,e])
  subst q3
  rw[zlB hh]
  exact ziX (hv f (yc5 q1)) q2
 have hm:zgS ⟨fs',m.memory,m.main⟩=zgS m:=by
  unfold zgS
  simp only
  cases hi:fs'[m.main.toNat]? with
  | none =>
   rw[yer]at hi
   rw[yb2 (by omega)]
  | some f' =>
   obtain⟨f,t,ls',q1,q2,rfl⟩:=h2 _ f' hi
   rw[q1]
 unfold zaP at h ⊢
 split at h
 .cases h
 rename_i hb
 rw[if_neg hb]
 simp only
 rw[hall]
 simp only
 rw[hm]
 split at h
 .cases h
 .exact h
inductive EvR{α:Type}(f f':F):Ev α->Ev α->Prop
 | ok (a x r):r.fn=f->EvR f f' (.ok a x r) (.ok a x { r with fn:=f' })
 | over (s c x):EvR f f' (.over s c x) (.over s c x)
 | bad:EvR f f' .bad .bad
def Im(f f':F):Prop:=∃t ls',PrF f t ls'/\f'={ f with lists:=ls' }
def Lk(f f':F)(a a':Int):Prop:=∃d b acc toks b' acc1,0<=a/\f.lists[a.toNat]?=some b/\Pr f.lists d b acc toks b' acc1/\a'=acc1.length/\acc1++[b']<+:f'.lists
def zgA(rec rec':zg2):Prop:=∀(f f':F),Im f f'->∀(x:za1) (r:Fr) (a a' deep:Int),r.fn=f->Lk f f' a a'->EvR f f' (rec x r a deep) (rec' x { r with fn:=f' } a' deep)
theorem Im.root{f f':F}(h:Im f f'):Lk f f' ((f.lists.length:Int)-1) ((f'.lists.length:Int)-1):=by
 obtain⟨t,ls',⟨row,out,acc,h1,h2,rfl⟩,rfl⟩:=h
 have hl:=(yaq.1 h1).1
 exact⟨0,row,[],t,out,acc,by omega,by rw[show((f.lists.length:Int)-1).toNat=f.lists.length-1 by omega];exact h1,h2,by simp,ydC _⟩
theorem Im.same{f f':F}(h:Im f f'):f'.type=f.type/\f'.locals=f.locals/\f'.params=f.params:=by
 obtain⟨_,_,_,rfl⟩:=h
 exact⟨rfl,rfl,rfl⟩
theorem zba{α:Type}{R:Ev α->Ev α->Prop}(hb:R .bad .bad){g g':F}{r:Fr}(hr:r.fn=g){k k':Int->Fr->Ev α}(h:∀v r,r.fn=g->R (k v r) (k' v { r with fn:=g' })):R (zde r k) (zde { r with fn:=g' } k'):=by
 unfold zde
 simp only
 cases r.stack.getLast? with
 | none=>exact hb
 | some v=>exact h v { r with stack:=r.stack.dropLast } hr
theorem zpl{α:Type}{f f':F}{x:za1}{a n:Int}{k k':List UInt8->Ev α}(h:∀l,EvR f f' (k l) (k' l)):EvR f f' (zkX x a n k) (zkX x a n k'):=by
 unfold zkX
 split
 .exact .bad
 .split
  .exact .over ..
  .exact h _
theorem zpm{rec rec':zg2}(hs:zgA rec rec'){g g' f f':F}(hg:Im g g'){r:Fr}(hr:r.fn=f)(x:za1)(args:List Int):EvR f f' (zdj rec x g args r) (zdj rec' x g' args { r with fn:=f' }):=by
 obtain⟨e1,e2,e3⟩:=hg.same
 unfold zdj
 rw[e1,e2]
 split
 .exact .over ..
 .have h:=hs g g' hg { x with calls:=x.calls+1 } ⟨g,args++yaj g.locals.length 0,[],0⟩ _ _ 0 rfl hg.root
  revert h
  generalize rec { x with calls:=x.calls+1 } ⟨g,args++yaj g.locals.length 0,[],0⟩ ((g.lists.length:Int)-1) 0=u
  generalize rec' { x with calls:=x.calls+1 } ⟨g',args++yaj g.locals.length 0,[],0⟩ ((g'.lists.length:Int)-1) 0=u'
  intro h
  cases h with
  | bad=>exact .bad
  | over s c x=>exact .over ..
  | ok o x1 r1 h1 =>
   simp only
   split
   .exact zba .bad h1 λv r2 _=>.ok _ _ _ hr
   .exact .ok _ _ _ hr
section
variable {fs fs' : List F} {rec rec' : zg2} {f f' : F}
def Ims(fs fs':List F):Prop:=fs'.length=fs.length/\∀(i:Nat) (g:F),fs[i]?=some g->∃g',fs'[i]?=some g'/\Im g g'
theorem zq5(hs:zgA rec rec')(hf:Ims fs fs'){r:Fr}(hr:r.fn=f)(x:za1)(n:Int):EvR f f' (zaG fs rec x r n) (zaG fs' rec' x { r with fn:=f' } n):=by
 unfold zaG
 split
 .cases x.input with
  | nil=>exact .ok () x (r.push 0) hr
  | cons v l=>exact .ok () _ (r.push v) hr
 .split
  .exact zba .bad hr λv r2 h2=>.ok _ _ _ h2
  .split
   .exact zba .bad hr λv r2 h2=>.over ..
   .split
    .exact .bad
    .cases hg:fs[(n-3).toNat]? with
     | none =>
      rw[yer]at hg
      rw[yb2 (by rw[hf.1];exact hg)]
      exact .bad
     | some g =>
      obtain⟨g',hg',im⟩:=hf.2 _ g hg
      rw[hg']
      obtain⟨e1,e2,e3⟩:=im.same
      simp only
      rw[e1,e3]
      split
      .exact .bad
      .have h:=zpm (f:=f) (f':=f') hs im (r:={ r with stack:=r.stack.take (r.stack.length-g.params.length) }) hr x (r.stack.drop (r.stack.length-g.params.length))
       revert h
       generalize zdj rec x g (r.stack.drop (r.stack.length-g.params.length)) { r with stack:=r.stack.take (r.stack.length-g.params.length) }=u
       generalize hu':zdj rec' x g' (r.stack.drop (r.stack.length-g.params.length)) { { r with stack:=r.stack.take (r.stack.length-g.params.length) }with fn:=f' }=u'
       intro h
       cases h with
       | bad=>exact .bad
       | over s c x=>exact .over ..
       | ok v x1 r1 h1 =>
        simp only
        split
        .exact .ok _ _ (r1.push v) h1
        .exact .ok _ _ r1 h1
theorem zv5(hs:zgA rec rec')(hf:Ims fs fs'){r:Fr}(hr:r.fn=f)(x:za1){w:W}(hw:zT w=true)(hn:zR w=false):EvR f f' (zaH fs rec w x r) (zaH fs' rec' (zJ w) x { r with fn:=f' }):=by
 obtain⟨op,t,n,body,other,name⟩:=w
 simp only[zR,Bool.or_eq_false_iff,decide_eq_false_iff_not]at hn
 have hop:1<=op/\op<=18:=by
  unfold zT at hw
  simp only at hw
  split at hw
  .omega
  .split at hw
   .omega
   .split at hw
    .omega
    .simpa using hw
 rcases(show op=1\/op=2\/op=3\/op=4\/op=5\/op=6\/op=7\/op=8\/op=9\/op=10\/op=14\/op=15\/op=16\/op=17\/op=18 by omega)with rfl|rfl|rfl|rfl|rfl|rfl|rfl|rfl|rfl|rfl|rfl|rfl|rfl|rfl|rfl<;>simp[zaH,zJ,zaM]
 .exact .ok _ _ (r.push n) hr
 .split
  .exact .bad
  .cases r.locals[n.toNat]? with
   | none=>exact .bad
   | some v=>exact .ok _ _ (r.push v) hr
 .split
  .exact .bad
  .exact zba .bad hr λv r2 h2=>.ok _ _ { r2 with locals:=r2.locals.set n.toNat v } h2
 .refine zba .bad hr λb r2 h2=>zba .bad h2 λa r3 h3=>?_
  split
  .exact .ok _ _ (r3.push _) h3
  .exact .over ..
 .exact zba .bad hr λv r2 h2=>.ok _ _ (r2.push _) h2
 .exact zba .bad hr λv r2 h2=>.ok _ _ (r2.push _) h2
 .exact .ok _ _ r hr
 .exact zba .bad hr λa r2 h2=>zpl λl=>.ok _ _ (r2.push _) h2
 .exact zba .bad hr λv r2 h2=>zba .bad h2 λa r3 h3=>zpl λl=>.ok _ _ r3 h3
 .exact zq5 hs hf hr x n
 .exact .ok _ _ r hr
 .exact .ok _ _ r hr
 .exact .ok _ _ r hr
 .exact .over ..
 .exact zba .bad hr λv r2 h2=>.ok _ _ r2 h2
theorem zD8(im:Im f f'){r:Fr}(hr:r.fn=f)(x:za1)(deep:Int){w:W}(hop:w.op=14\/w.op=15\/w.op=16):EvR f f' (zja w deep x r) (zja (zJ w) deep x { r with fn:=f' }):=by
 obtain⟨e1,_,_⟩:=im.same
 have go:∀(n:Int) (r:Fr),r.fn=f->EvR f f' (if n=deep/\r.fn.type≠0 then zde r λv r=>Ev.ok n x { r with result:=v }else .ok n x r) (if n=deep/\f'.type≠0 then zde { r with fn:=f' } λv r=>Ev.ok n x { r with result:=v }else .ok n x { r with fn:=f' }):=λn r hr=>by
  rw[e1,hr]
  split
  .exact zba .bad hr λv r2 h2=>.ok _ _ { r2 with result:=v } h2
  .exact .ok _ _ r hr
 obtain⟨op,t,n,body,other,name⟩:=w
 simp only at hop
 rcases hop with rfl|rfl|rfl
 .have:=go n r hr
  simpa [zja,zJ,zaM]using this
 .have:=zba (R:=EvR f f') .bad hr (k:=λc r=>if c=0 then Ev.ok (-1) x r else(if n=deep/\r.fn.type≠0 then zde r λv r=>Ev.ok n x { r with result:=v }else .ok n x r))
   (k':=λc r=>if c=0 then Ev.ok (-1) x r else(if n=deep/\r.fn.type≠0 then zde r λv r=>Ev.ok n x { r with result:=v }else .ok n x r)) λc r2 h2=>by
    simp only
    split
    .exact .ok _ _ r2 h2
    .exact go n r2 h2
  simpa [zja,zJ,zaM]using this
 .have:=go deep r hr
  simpa [zja,zJ,zaM]using this
theorem zsg(hs:zgA rec rec')(im:Im f f'){a a':Int}(hl:Lk f f' a a')(b:Bool)(deep:Int):∀(j:Nat) (x:za1) (r:Fr),r.fn=f->EvR f f' (zdH rec b a deep j x r) (zdH rec' b a' deep j x { r with fn:=f' })
 | 0,x,r,hr=>.bad
 | j+1,x,r,hr=>by
  rw[zdH,zdH]
  have h:=hs f f' im x r a a' deep hr hl
  revert h
  generalize rec x r a deep=u
  generalize rec' x { r with fn:=f' } a' deep=u'
  intro h
  cases h with
  | bad=>exact .bad
  | over s c x=>exact .over ..
  | ok o x1 r1 h1 =>
   simp only
   split
   .exact zsg hs im hl b deep j x1 r1 h1
   .exact .ok _ _ r1 h1
end
section
variable {fs fs' : List F} {rec rec' : zg2} {f f' : F}
theorem zv6(hs:zgA rec rec')(im:Im f f'){a a':Int}(h:(a<0/\a'<0)\/Lk f f' a a')(b:Bool)(deep:Int)(k:Nat)(x:za1){r:Fr}(hr:r.fn=f):
  EvR f f' (if a<0 then Ev.ok (-1) x r else zdH rec b a deep k x r) (if a'<0 then Ev.ok (-1) x { r with fn:=f' }else zdH rec' b a' deep k x { r with fn:=f' }):=by
 rcases h with ⟨h1,h2⟩|h
 .rw[if_pos h1,if_pos h2]
  exact .ok _ _ r hr
 .have h1:¬a<0:=by obtain⟨_,_,_,_,_,_,h1,_⟩:=h;omega
  have h2:¬a'<0:=by obtain⟨_,_,_,_,_,_,_,_,_,h2,_⟩:=h;omega
  rw[if_neg h1,if_neg h2]
  exact zsg hs im h b deep k x r hr
theorem zty(hs:zgA rec rec')(im:Im f f'){w w':W}(ho:w'.op=w.op)(hb:Lk f f' w.body w'.body)(hoth:w.op=13->(w.other<0/\w'.other<0)\/Lk f f' w.other w'.other)(k:Nat)(deep:Int)(x:za1){r:Fr}(hr:r.fn=f):
  EvR f f' (zbh rec k w deep x r) (zbh rec' k w' deep x { r with fn:=f' }):=by
 unfold zbh
 simp only[ho]
 by_cases h13:w.op=13
 .rw[if_pos h13,if_pos h13]
  refine zba (R:=EvR f f') .bad hr λc r2 h2=>?_
  by_cases hc:c=0
  .simp only[hc,if_true]
   exact zv6 hs im (hoth h13) _ deep k x h2
  .simp only[hc,if_false]
   exact zv6 hs im (.inr hb) _ deep k x h2
 .rw[if_neg h13,if_neg h13]
  exact zv6 hs im (.inr hb) _ deep k x hr
theorem zv7(hs:zgA rec rec')(hf:Ims fs fs')(im:Im f f'){w:W}(hw:zT w=true)(hn:zR w=false)(k:Nat)(deep:Int)(x:za1){r:Fr}(hr:r.fn=f):EvR f f' (zdk fs rec k deep w x r) (zdk fs' rec' k deep (zJ w) x { r with fn:=f' }):=by
 have hn':=hn
 simp only[zR,Bool.or_eq_false_iff,decide_eq_false_iff_not]at hn'
 have e:(zJ w).op=w.op:=rfl
 unfold zdk
 rw[e,if_neg (show ¬(w.op=11\/w.op=12\/w.op=13)by omega),if_neg (show ¬(w.op=11\/w.op=12\/w.op=13)by omega)]
 by_cases ho:w.op=14\/w.op=15\/w.op=16
 .rw[if_pos ho,if_pos ho]
  exact zD8 im hr x deep ho
 .rw[if_neg ho,if_neg ho]
  have h:=zv5 (f:=f) (f':=f') hs hf hr x hw hn
  revert h
  generalize zaH fs rec w x r=u
  generalize zaH fs' rec' (zJ w) x { r with fn:=f' }=u'
  intro h
  cases h with
  | bad=>exact .bad
  | over s c x=>exact .over ..
  | ok v x1 r1 h1=>exact .ok _ _ r1 h1
theorem zpn(hs:zgA rec rec')(im:Im f f'){w w':W}(hw:w.op=11\/w.op=12\/w.op=13)(ho:w'.op=w.op)(hb:Lk f f' w.body w'.body)(hoth:w.op=13->(w.other<0/\w'.other<0)\/Lk f f' w.other w'.other)(k:Nat)(deep:Int)(x:za1){r:Fr}(hr:r.fn=f):
  EvR f f' (zdk fs rec k deep w x r) (zdk fs' rec' k deep w' x { r with fn:=f' }):=by
 unfold zdk
 rw[ho,if_pos hw,if_pos hw]
 exact zty hs im ho hb hoth k _ x hr
theorem znD{w w':W}{ws out:List W}{k:Nat}{deep:Int}{height:Nat}(hw:∀(x:za1) (r:Fr),r.fn=f->EvR f f' (zdk fs rec k deep w x r) (zdk fs' rec' k deep w' x { r with fn:=f' }))
  (ih:∀(x:za1) (r:Fr),r.fn=f->EvR f f' (zaZ fs rec k deep height ws x r) (zaZ fs' rec' k deep height out x { r with fn:=f' })) (x:za1) {r:Fr} (hr:r.fn=f) :
  EvR f f' (zaZ fs rec k deep height (w::ws) x r) (zaZ fs' rec' k deep height (w'::out) x { r with fn:=f' }):=by
 rw[zaZ,zaZ]
 by_cases hx:x.steps<1
 .rw[if_pos hx,if_pos hx]
  exact .over ..
 .rw[if_neg hx,if_neg hx]
  have h:=hw { x with steps:=x.steps-1 } r hr
  revert h
  generalize zdk fs rec k deep w { x with steps:=x.steps-1 } r=u
  generalize zdk fs' rec' k deep w' { x with steps:=x.steps-1 } { r with fn:=f' }=u'
  intro h
  cases h with
  | bad=>exact .bad
  | over s c x=>exact .over ..
  | ok o x1 r1 h1 =>
   simp only
   split
   .exact ih x1 r1 h1
   .split
    .exact .bad
    .exact .ok _ _ { r1 with stack:=r1.stack.take height } h1
theorem ztz(hs:zgA rec rec')(hf:Ims fs fs')(im:Im f f'){d:Nat}{ws:List W}{acc acc':To}{toks:List Tok}{out:List W}(h:Pr f.lists d ws acc toks out acc'):acc'<+:f'.lists->∀(k:Nat) (deep:Int) (height:Nat) (x:za1) (r:Fr),r.fn=f ->
  EvR f f' (zaZ fs rec k deep height ws x r) (zaZ fs' rec' k deep height out x { r with fn:=f' }):=by
 generalize hls:f.lists=ls at h
 induction h with
 | nil=>intro _ k deep height x r hr;exact .ok _ _ r hr
 | leaf hn hw hrg _ ih =>
  intro hp k deep height x r hr
  exact znD (λx r hr=>zv7 hs hf im hw hn k deep x hr) (λx r hr=>ih hp k deep height x r hr) x hr
 | @one d w b r0 acc tb b' acc1 t r' acc' ho hd hb0 hb p1 p2 ih1 ih2 =>
  intro hp k deep height x r hr
  have hp1:acc1++[b']<+:f'.lists:=(zaw p2).trans hp
  have hlk:Lk f f' w.body (acc1.length:Int):=⟨d+1,b,acc,tb,b',acc1,hb0,by rw[hls];exact hb,by rw[hls];exact p1,rfl,hp1⟩
  have hop:w.op=11\/w.op=12\/w.op=13:=by omega
  refine znD (λx r hr=>zpn (w':=zaf w.op acc1.length (if w.op=13 then -1 else 0)) hs im hop rfl (by simpa [zaf]using hlk) (λh13=>?_) k deep x hr) (λx r hr=>ih2 hp k deep height x r hr) x hr
  rcases ho with e|e|e
  .omega
  .omega
  .exact .inl ⟨e.2,by simp[zaf,e.1]⟩
 | @two d w b e0 r0 acc tb b' acc1 te e' acc2 t r' acc' ho hoo hd hb0 hb hf0 p1 p2 p3 ih1 ih2 ih3 =>
  intro hp k deep height x r hr
  have hp2:acc2++[e']<+:f'.lists:=(zaw p3).trans hp
  have hp1:acc1++[b']<+:f'.lists:=(zaw p2).trans ((ydA _ _).trans hp2)
  have hlk:Lk f f' w.body (acc1.length:Int):=⟨d+1,b,acc,tb,b',acc1,hb0,by rw[hls];exact hb,by rw[hls];exact p1,rfl,hp1⟩
  have hlk2:Lk f f' w.other (acc2.length:Int):=⟨d+1,e0,_,te,e',acc2,hoo,by rw[hls];exact hf0,by rw[hls];exact p2,rfl,hp2⟩
  exact znD (λx r hr=>zpn hs im (.inr (.inr ho)) (by simp[zaf,ho]) (by simpa [zaf]using hlk) (λ_=>.inr (by simpa [zaf]using hlk2)) k deep x hr) (λx r hr=>ih3 hp k deep height x r hr) x hr
end
theorem zsh{fs fs':List F}(hf:Ims fs fs'):∀k,zgA (zny fs k) (zny fs' k)
 | 0=>λ_ _ _ _ _ _ _ _ _ _=>.bad
 | k+1=>λf f' im x r a a' deep hr hl=>by
  obtain⟨d,b,acc,toks,b',acc1,h0,h1,h2,rfl,h3⟩:=hl
  rw[zny,zny,if_neg (by omega),if_neg (by omega),hr,h1,ybe,zbz h3]
  simp only
  exact ztz (zsh hf k) hf im h2 ((ydA _ _).trans h3) k deep r.stack.length x r hr
theorem zAf{fs fs':List F}{toks:List Tok}(h:zrS fs toks fs'):Ims fs fs':=by
 obtain⟨h1,h2⟩:=ziu h
 refine⟨h1,λi g hg=>?_⟩
 have hi:=(yaq.1 hg).1
 have h3:fs'[i]?=some (fs'[i]'(by omega)):=yau _
 obtain⟨f,t,ls',q1,q2,q3⟩:=h2 i _ h3
 obtain rfl:=yaR.inj (hg.symm.trans q1)
 exact⟨_,h3,t,ls',q2,q3⟩
theorem zD9{m:M}{toks:List Tok}{fs':List F}(h:zrS m.funcs toks fs')(input:List Int)(steps:Int)(k:Nat):ztJ ⟨fs',m.memory,m.main⟩ input steps k=ztJ m input steps k:=by
 have hf:=zAf h
 unfold ztJ
 simp only
 by_cases hm:m.main<0
 .rw[if_pos hm,if_pos hm]
 .rw[if_neg hm,if_neg hm]
  cases hg:m.funcs[m.main.toNat]? with
  | none =>
   rw[yer]at hg
   rw[yb2 (by rw[hf.1];exact hg)]
  | some g =>
   obtain⟨g',hg',im⟩:=hf.2 _ g hg
   rw[hg']
   simp only
   have q:=zpm (f:=g) (f':=g') (zsh hf k) im (r:=⟨g,[],[],0⟩) rfl ⟨input,steps,yaj m.memory.toNat 0,[],0⟩ []
   revert q
   generalize zdj (zny m.funcs k) ⟨input,steps,yaj m.memory.toNat 0,[],0⟩ g [] ⟨g,[],[],0⟩=u
   generalize hu:zdj (zny fs' k) ⟨input,steps,yaj m.memory.toNat 0,[],0⟩ g' [] ⟨g',[],[],0⟩=u'
   intro q
   cases q with
   | bad=>rfl
   | over s c x=>rfl
   | ok v x r _=>rfl
theorem zpo{α:Type}{p q:α->Bool}:∀{l:List α},(∀x∈l,p x=q x)->l.find? p=l.find? q
 | [],_=>rfl
 | x::l,h=>by
  have h1:=h x (by simp)
  rw[yet,yet,h1,zpo λy hy=>h y (by simp[hy])]
theorem zAg:∀p∈zao++zga,p.2.ty=0\/p.2.op=1\/p.2.op=5\/p.2.op=8\/p.2.op=9:=by decide
theorem zAh(w:W):zfC (zJ w)=zfC w:=by
 unfold zfC zJ
 simp only
 split
 .rename_i h
  rw[if_pos (by omega)]
 .rfl
theorem zv8(w:W):∀p∈zao++zga,zaF (zJ w) p=zaF w p:=λp hp=>by
 have ht:=zAg p hp
 have e1:(zJ w).op=w.op:=rfl
 unfold zaF
 rw[e1,zAh]
 by_cases ho:p.2.op=w.op
 .have e3:p.2.ty=0\/(zJ w).ty=w.ty:=by
   rcases ht with e|e
   .exact .inl e
   .right
    unfold zJ
    simp only
    rw[if_pos (by omega)]
  rcases e3 with e|e
  .simp[e]
  .rw[e]
 .simp[ho]
theorem zv9(w:W):zbW (zJ w)=zbW w:=by
 have e1:(zJ w).op=w.op:=rfl
 have e2:(w.op=1\/w.op=2\/w.op=3\/w.op=10\/w.op=14\/w.op=15)->(zJ w).n=w.n:=λh=>by
  unfold zJ zaM
  simp only
  rw[if_pos (by left;simp;omega)]
 unfold zbW
 rw[e1]
 by_cases h1:w.op=1
 .rw[if_pos h1,if_pos h1,e2 (.inl h1)]
 .rw[if_neg h1,if_neg h1]
  by_cases h2:w.op=2\/w.op=3\/w.op=10\/w.op=14\/w.op=15
  .rw[if_pos h2,if_pos h2,e2 (.inr h2)]
  .rw[if_neg h2,if_neg h2]
theorem zpp(w:W):zee (zJ w)=zee w/\zbW (zJ w)=zbW w:=by
 refine⟨?_,zv9 w⟩
 have e1:(zJ w).op=w.op:=rfl
 unfold zee
 rw[e1]
 by_cases h4:w.op=4
 .rw[if_pos h4,if_pos h4]
  unfold znl
  rw[e1,if_pos h4,if_pos h4]
  have e2:(zJ w).name=w.name:=by unfold zJ;simp only;rw[if_pos h4]
  have e3:(zJ w).ty=w.ty:=by unfold zJ;simp only;rw[if_pos (by omega)]
  rw[e2,e3]
 .rw[if_neg h4,if_neg h4,zpo (zv8 w)]
theorem zwa{rec rec':Int->Option (List UInt8)}{w:W}(hf:zT w=true)(hn:zR w=false):zgX rec' (zJ w)=zgX rec w:=by
 have hn':zR (zJ w)=false:=hn
 unfold zgX
 rw[if_neg (show ¬zR (zJ w)=true by rw[hn'];simp),if_neg (show ¬zR w=true by rw[hn];simp),(zpp w).1,(zpp w).2]
theorem zhM{rec:Int->Option (List UInt8)}{w:W}(h:w.op=11\/w.op=12\/w.op=13/\w.other<0):zgX rec w=(rec w.body).map λb=>zY (w.op-9)::64::(b++[11]):=by
 have hn:zR w=true:=by simp[zR];omega
 unfold zgX
 rw[if_pos hn]
 cases rec w.body with
 | none=>rfl
 | some b=>simp only[ydx,yaG];rw[if_neg (by omega)]
theorem zhN{rec:Int->Option (List UInt8)}{w:W}(h:w.op=13)(ho:0<=w.other):zgX rec w=(rec w.body).bind λb=>(rec w.other).map λo=>zY (w.op-9)::64::(b++5::(o++[11])):=by
 have hn:zR w=true:=by simp[zR,h]
 unfold zgX
 rw[if_pos hn]
 cases rec w.body with
 | none=>rfl
 | some b=>simp only[ydx];rw[if_pos ⟨h,ho⟩]
theorem zb7{rec:Int->Option (List UInt8)}{w:W}{ws:List W}{bs:List UInt8}:zcL rec (w::ws)=some bs↔∃a b,zgX rec w=some a/\zcL rec ws=some b/\bs=a++b:=by
 rw[zcL]
 simp only[ybA,ybB]
 exact⟨λ⟨a,h1,b,h2,h3⟩=>⟨a,b,h1,h2,h3.symm⟩,λ⟨a,b,h1,h2,h3⟩=>⟨a,h1,b,h2,h3.symm⟩⟩
theorem zeR{ls:To}{k:Nat}{n:Int}{bs:List UInt8}{row:List W}(h0:0<=n)(hr:ls[n.toNat]?=some row):zcZ ls (k+1) n=some bs↔zcL (zcZ ls k) row=some bs:=by
 rw[zcZ,if_neg (by omega),hr]
theorem zH7{ls fin:To}{d:Nat}{ws:List W}{acc acc':To}{toks:List Tok}{out:List W}(h:Pr ls d ws acc toks out acc'):acc'<+:fin->∀(k:Nat) (bs:List UInt8),zcL (zcZ ls k) ws=some bs->zcL (zcZ fin k) out=some bs:=by
 have key:∀{b b':List W} {acc1:To} {k:Nat} {n:Int} {x:List UInt8},0<=n->ls[n.toNat]?=some b->acc1++[b']<+:fin->(∀(k:Nat) (bs:List UInt8),zcL (zcZ ls k) b=some bs->zcL (zcZ fin k) b'=some bs)->zcZ ls k n=some x->zcZ fin k (acc1.length:Int)=some x:=by
  intro b b' acc1 k n x h0 hb hp ih hl
  cases k with
  | zero=>simp[zcZ]at hl
  | succ k =>
   rw[zeR h0 hb]at hl
   rw[zeR (by omega) (by rw[ybe];exact zbz hp)]
   exact ih k x hl
 induction h with
 | nil=>intro _ k bs h;exact h
 | leaf hn hf hr _ ih =>
  intro hp k bs h
  rw[zb7]at h ⊢
  obtain⟨a,b,h1,h2,h3⟩:=h
  exact⟨a,b,by rw[zwa (rec:=zcZ ls k) hf hn];exact h1,ih hp k b h2,h3⟩
 | @one d w b r acc tb b' acc1 t r' acc' ho hd hb0 hb p1 p2 ih1 ih2 =>
  intro hp k bs h
  rw[zb7]at h ⊢
  obtain⟨a,c,h1,h2,h3⟩:=h
  refine⟨a,c,?_,ih2 hp k c h2,h3⟩
  have hp1:acc1++[b']<+:fin:=(zaw p2).trans hp
  rw[zhM ho,ybB]at h1
  obtain⟨x,hx,hx2⟩:=h1
  have hv:(zaf w.op acc1.length (if w.op=13 then -1 else 0)).op=11\/(zaf w.op acc1.length (if w.op=13 then -1 else 0)).op=12\/(zaf w.op acc1.length (if w.op=13 then -1 else 0)).op=13/\(zaf w.op acc1.length (if w.op=13 then -1 else 0)).other<0:=by
   simp only[zaf]
   rcases ho with e|e|e
   .exact .inl e
   .exact .inr (.inl e)
   .exact .inr (.inr ⟨e.1,by rw[if_pos e.1];omega⟩)
  have q:=key hb0 hb hp1 (ih1 ((ydA _ _).trans hp1)) hx
  rw[zhM hv]
  simp only[zaf]
  rw[q]
  simpa using hx2
 | @two d w b f r acc tb b' acc1 te e' acc2 t r' acc' ho hoo hd hb0 hb hf p1 p2 p3 ih1 ih2 ih3 =>
  intro hp k bs h
  rw[zb7]at h ⊢
  obtain⟨a,c,h1,h2,h3⟩:=h
  refine⟨a,c,?_,ih3 hp k c h2,h3⟩
  have hp2:acc2++[e']<+:fin:=(zaw p3).trans hp
  have hp1:acc1++[b']<+:fin:=(zaw p2).trans ((ydA _ _).trans hp2)
  rw[zhN ho hoo,ybA]at h1
  obtain⟨x,hx,h1⟩:=h1
  rw[ybB]at h1
  obtain⟨y,hy,hx2⟩:=h1
  have q:=key hb0 hb hp1 (ih1 ((ydA _ _).trans hp1)) hx
  have q2:=key hoo hf hp2 (ih2 ((ydA _ _).trans hp2)) hy
  rw[zhN (w:=zaf 13 acc1.length acc2.length) rfl (by simp only[zaf];omega)]
  simp only[zaf]
  rw[q,q2]
  rw[ho]at hx2
  simpa using hx2
theorem zwb{rec rec':Int->Option (List UInt8)}{w:W}{a:List UInt8}(hl:∀m∈zh w,∀x,rec m=some x->rec' m=some x)(h:zgX rec w=some a):zgX rec' w=some a:=by
 by_cases h2:w.op=13/\0<=w.other
 .have e:zh w=[w.body,w.other]:=by unfold zh;rw[if_neg (by omega),if_pos h2.1]
  rw[e]at hl
  rw[zhN h2.1 h2.2,ybA]at h
  obtain⟨x,hx,h⟩:=h
  rw[ybB]at h
  obtain⟨y,hy,h⟩:=h
  rw[zhN h2.1 h2.2,hl _ (by simp) x hx,hl _ (by simp) y hy]
  simpa using h
 .by_cases h1:w.op=11\/w.op=12\/w.op=13/\w.other<0
  .have e:zh w=[w.body]:=by unfold zh;rw[if_pos h1]
   rw[e]at hl
   rw[zhM h1,ybB]at h
   obtain⟨x,hx,h⟩:=h
   rw[zhM h1,hl _ (by simp) x hx]
   simpa using h
  .have hn:zR w=false:=by simp[zR];omega
   unfold zgX at h ⊢
   rw[if_neg (by simp[hn])]at h ⊢
   exact h
theorem zmq{rec rec':Int->Option (List UInt8)}:∀(ws:List W) (bs:List UInt8),(∀w∈ws,∀m∈zh w,∀x,rec m=some x->rec' m=some x)->zcL rec ws=some bs->zcL rec' ws=some bs
 | [],bs,_,h=>h
 | w::ws,bs,hl,h=>by
  rw[zb7]at h ⊢
  obtain⟨a,b,h1,h2,h3⟩:=h
  exact⟨a,b,zwb (hl w (by simp)) h1,zmq ws b (λw hw=>hl w (by simp[hw])) h2,h3⟩
theorem zpq{ls:To}(ha:zlm ls):∀(K2 K:Nat) (n:Int) (x:List UInt8),0<=n->n.toNat<K2->zcZ ls K n=some x->zcZ ls K2 n=some x
 | 0,_,n,x,_,h,_=>by omega
 | K2+1,0,n,x,_,_,h=>by simp[zcZ]at h
 | K2+1,K+1,n,x,h0,h1,h=>by
  cases hr:ls[n.toNat]? with
  | none=>rw[zcZ,if_neg (by omega),hr]at h;cases h
  | some row =>
   rw[zeR h0 hr]at h ⊢
   refine zmq _ _ (λw hw m hm y hy=>?_) h
   have hq:=ha n.toNat row hr m (yc8.2 ⟨w,hw,hm⟩)
   exact zpq ha K2 K m y hq.1 (by omega) hy
theorem zAi{f:F}{toks:List Tok}{ls':To}(hp:PrF f toks ls'){c:List UInt8}(h:zfE f=some c):zfE { f with lists:=ls' }=some c:=by
 obtain⟨row,out,acc,h1,h2,rfl⟩:=hp
 obtain⟨_,ha',_⟩:=zbU (zse h2)
 unfold zfE at h ⊢
 rw[ybB]at h
 obtain⟨b,hb,h⟩:=h
 obtain⟨k,hk⟩:∃k,f.lists.length=k+1:=⟨f.lists.length-1,by have:=(yaq.1 h1).1;omega⟩
 have e:((f.lists.length:Int)-1).toNat=f.lists.length-1:=by omega
 have hb2:zcZ f.lists (k+1) ((f.lists.length:Int)-1)=some b:=by rw[<-hk];exact hb
 rw[zeR (by omega) (by rw[e];exact h1)]at hb2
 have q:=zH7 (fin:=acc++[out]) h2 (ydA _ _) k b hb2
 have e2:(((acc++[out]).length:Int)-1)=(acc.length:Int):=by simp
 have q2:zcZ (acc++[out]) (k+1) (((acc++[out]).length:Int)-1)=some b:=by
  rw[e2,zeR (by omega) (by rw[ybe];exact zbz (ydC _))]
  exact q
 have q3:=zpq ha' (acc++[out]).length (k+1) _ b (by rw[e2];omega) (by rw[e2];simp) q2
 simp only
 rw[q3]
 exact congrArg some h
theorem zwc{fs fs':List F}{toks:List Tok}(h:zrS fs toks fs'):∀{cs:List (List UInt8)},zaQ fs=some cs->zaQ fs'=some cs:=by
 induction h with
 | nil=>intro cs h;exact h
 | cons p _ ih =>
  intro cs h
  rw[zaQ]at h ⊢
  rw[ybA]at h
  obtain⟨c,hc,h⟩:=h
  rw[ybB]at h
  obtain⟨r,hr,h⟩:=h
  rw[zAi p hc,ydx,ih hr]
  simpa using h
theorem zAj{fs fs':List F}{toks:List Tok}(h:zrS fs toks fs'):zG fs'=zG fs/\(∀i,zak i fs'=zak i fs)/\∀i,zn i fs'=zn i fs:=by
 induction h with
 | nil=>exact⟨rfl,λ_=>rfl,λ_=>rfl⟩
 | cons p _ ih =>
  obtain⟨h1,h2,h3⟩:=ih
  refine⟨?_,λi=>?_,λi=>?_⟩
  .unfold zG at h1 ⊢
   simp only[yaL]
   have:=List.append_cancel_left h1
   rw[this]
  .rw[zak,zak,h2]
  .rw[zn,zn,h3]
theorem zwd{m:M}{toks:List Tok}{fs':List F}(h:zrS m.funcs toks fs'){bs:List UInt8}(he:zkr m=some bs):zkr ⟨fs',m.memory,m.main⟩=some bs:=by
 obtain⟨h1,h2,h3⟩:=zAj h
 unfold zkr at he ⊢
 rw[ybB]at he
 obtain⟨cs,hc,he⟩:=he
 simp only[h1,h2,h3]
 rw[zwc h hc]
 exact congrArg some he
structure Rd1(w:W)(c:UInt8):Prop where
 code:zee w=some c
 n11:c≠11
 n5:c≠5
 leaf:¬(2<=c.toNat/\c.toNat<=4)
 read:∀(st:Bool) (s:Rs) (r:List UInt8),s.b=zbW w++r->ze4 st c s=some (zJ w,{ s with b:=r })
theorem zwe:∀s∈signs.map (·.1),∃i,i<16/\zhs s=some i/\zar.getD i []=s:=by decide
theorem zwf:∀i,i<16->∀t∈[(1:Int),2],zci zga ((if t=1 then zi6 else zi7).getD i 0)=none/\zci zao ((if t=1 then zi6 else zi7).getD i 0)=none/\zht ((if t=1 then zi6 else zi7).getD i 0)=some (zks t i)/\(if t=1 then zi6 else zi7).getD i 0≠11/\(if t=1 then zi6 else zi7).getD i 0≠5 /\
  ¬(2<=((if t=1 then zi6 else zi7).getD i 0).toNat/\((if t=1 then zi6 else zi7).getD i 0).toNat<=4)/\(if t=1 then zi6 else zi7)[i]?=some ((if t=1 then zi6 else zi7).getD i 0):=by decide
theorem zeS{w:W}{c:UInt8}{w0:W}(h1:zee w=some c)(h2:c≠11/\c≠5/\¬(2<=c.toNat/\c.toNat<=4))(h3:zci zga c=some w0)(h4:zJ w={ w0 with n:=w.n })(h5:(w0.op=1/\zbW w=sI w.n)\/(w0.op≠1/\zbW w=uI w.n/\0<=w.n))(hr:RgW w):Rd1 w c :=
 ⟨h1,h2.1,h2.2.1,h2.2.2,λst s r hb=>by
  unfold ze4
  rw[h3]
  simp only
  rcases h5 with ⟨e,t⟩|⟨e,t,h0⟩
  .rw[t]at hb
   rw[decide_eq_true e,zrI st hr.1 hr.2 hb,h4]
   rfl
  .rw[t]at hb
   rw[decide_eq_false e,zbk st h0 hr.2 hb,h4]
   rfl⟩
theorem zav{w:W}{c:UInt8}{w0:W}(h1:zee w=some c)(h2:c≠11/\c≠5/\¬(2<=c.toNat/\c.toNat<=4))(h3:zci zga c=none)(h4:zci zao c=some w0)(h5:zJ w=w0)(h6:(¬(w0.op=8\/w0.op=9)/\zbW w=[])\/((w0.op=8\/w0.op=9)/\zbW w=[0,0])):Rd1 w c :=
 ⟨h1,h2.1,h2.2.1,h2.2.2,λst s r hb=>by
  unfold ze4
  rw[h3]
  simp only
  rw[h4]
  simp only
  rcases h6 with ⟨e,t⟩|⟨e,t⟩
  .rw[t,ydq]at hb
   rw[if_neg e,h5,<-hb]
  .rw[t]at hb
   rw[if_pos e,h5]
   unfold zcM
   rw[if_pos (by rw[hb];simp;omega),hb]
   rfl⟩
theorem zwg{w:W}(hf:zT w=true)(hn:zR w=false)(hr:RgW w)(hb:zI (zJ w)=false):∃c,Rd1 w c:=by
 obtain⟨op,ty,n,body,other,name⟩:=w
 simp only[zR,Bool.or_eq_false_iff,decide_eq_false_iff_not]at hn
 unfold zT at hf
 simp only at hf
 by_cases h1:op=1\/op=5
 .rw[if_pos h1]at hf
  simp only[zac,Bool.or_eq_true,decide_eq_true_eq]at hf
  rcases h1 with rfl|rfl<;>rcases hf with rfl|rfl
  .exact⟨0x41,zeS (w0:=pw 1 1 0) (by rfl) (by decide) (by rfl) rfl (.inl ⟨rfl,rfl⟩) hr⟩
  .exact⟨0x42,zeS (w0:=pw 1 2 0) (by rfl) (by decide) (by rfl) rfl (.inl ⟨rfl,rfl⟩) hr⟩
  .exact⟨0x45,zav (w0:=pw 5 1 0) (by rfl) (by decide) (by rfl) (by rfl) rfl (.inl ⟨by decide,rfl⟩)⟩
  .exact⟨0x50,zav (w0:=pw 5 2 0) (by rfl) (by decide) (by rfl) (by rfl) rfl (.inl ⟨by decide,rfl⟩)⟩
 .rw[if_neg h1]at hf
  by_cases h4:op=4
  .subst h4
   rw[if_pos rfl]at hf
   simp only[Bool.and_eq_true,Bool.not_eq_true',beq_eq_false_iff_ne,ne_eq,zac,Bool.or_eq_true,decide_eq_true_eq]at hf
   obtain⟨i,hi,hix,hnm⟩:=zwe name (zgb hf.2)
   obtain⟨s1,s2,s3,s4,s5,s6,s7⟩:=zwf i hi ty (by simpa using hf.1)
   refine⟨_,⟨?_,s4,s5,s6,λst s r hb=>?_⟩⟩
   .unfold zee znl
    simp only[if_true]
    rw[hix]
    simp only
    rcases hf.1 with rfl|rfl
    .exact s7
    .exact s7
   .unfold ze4
    rw[s1]
    simp only
    rw[s2]
    simp only
    rw[s3]
    have ht:zbW { op:=4,ty:=ty,n:=n,body:=body,other:=other,name:=name }=[]:=rfl
    rw[ht,ydq]at hb
    have e:zJ { op:=4,ty:=ty,n:=n,body:=body,other:=other,name:=name }=zks ty i:=by
     unfold zJ zks
     rw[hnm]
     rfl
    rw[e,<-hb]
    rfl
  .rw[if_neg h4]at hf
   by_cases h8:op=8\/op=9
   .rw[if_pos h8]at hf
    simp only[zfy,Bool.or_eq_true,Bool.and_eq_true,decide_eq_true_eq]at hf
    rcases h8 with rfl|rfl<;>rcases hf with ⟨rfl,rfl|rfl⟩|⟨rfl,rfl⟩
    .exact⟨0x2c,zav (w0:=pw 8 1 1) (by rfl) (by decide) (by rfl) (by rfl) rfl (.inr ⟨by decide,rfl⟩)⟩
    .exact⟨0x28,zav (w0:=pw 8 1 4) (by rfl) (by decide) (by rfl) (by rfl) rfl (.inr ⟨by decide,rfl⟩)⟩
    .exact⟨0x29,zav (w0:=pw 8 2 8) (by rfl) (by decide) (by rfl) (by rfl) rfl (.inr ⟨by decide,rfl⟩)⟩
    .exact⟨0x3a,zav (w0:=pw 9 1 1) (by rfl) (by decide) (by rfl) (by rfl) rfl (.inr ⟨by decide,rfl⟩)⟩
    .exact⟨0x36,zav (w0:=pw 9 1 4) (by rfl) (by decide) (by rfl) (by rfl) rfl (.inr ⟨by decide,rfl⟩)⟩
    .exact⟨0x37,zav (w0:=pw 9 2 8) (by rfl) (by decide) (by rfl) (by rfl) rfl (.inr ⟨by decide,rfl⟩)⟩
   .rw[if_neg h8]at hf
    simp only[Bool.and_eq_true,decide_eq_true_eq]at hf
    rcases(show op=2\/op=3\/op=10\/op=14\/op=15\/op=6\/op=7\/op=16\/op=17\/op=18 by omega)with rfl|rfl|rfl|rfl|rfl|rfl|rfl|rfl|rfl|rfl
    .exact⟨0x20,zeS (w0:=pw 2 0 0) (by rfl) (by decide) (by rfl) rfl (.inr ⟨by decide,rfl,by simpa [zI,zJ,zaM]using hb⟩) hr⟩
    .exact⟨0x21,zeS (w0:=pw 3 0 0) (by rfl) (by decide) (by rfl) rfl (.inr ⟨by decide,rfl,by simpa [zI,zJ,zaM]using hb⟩) hr⟩
    .exact⟨0x10,zeS (w0:=pw 10 0 0) (by rfl) (by decide) (by rfl) rfl (.inr ⟨by decide,rfl,by simpa [zI,zJ,zaM]using hb⟩) hr⟩
    .exact⟨0xc,zeS (w0:=pw 14 0 0) (by rfl) (by decide) (by rfl) rfl (.inr ⟨by decide,rfl,by simpa [zI,zJ,zaM]using hb⟩) hr⟩
    .exact⟨0xd,zeS (w0:=pw 15 0 0) (by rfl) (by decide) (by rfl) rfl (.inr ⟨by decide,rfl,by simpa [zI,zJ,zaM]using hb⟩) hr⟩
    .exact⟨0xa7,zav (w0:=pw 6 0 0) (by rfl) (by decide) (by rfl) (by rfl) rfl (.inl ⟨by decide,rfl⟩)⟩
    .exact⟨0xac,zav (w0:=pw 7 0 0) (by rfl) (by decide) (by rfl) (by rfl) rfl (.inl ⟨by decide,rfl⟩)⟩
    .exact⟨0xf,zav (w0:=pw 16 0 0) (by rfl) (by decide) (by rfl) (by rfl) rfl (.inl ⟨by decide,rfl⟩)⟩
    .exact⟨0x0,zav (w0:=pw 17 0 0) (by rfl) (by decide) (by rfl) (by rfl) rfl (.inl ⟨by decide,rfl⟩)⟩
    .exact⟨0x1a,zav (w0:=pw 18 0 0) (by rfl) (by decide) (by rfl) (by rfl) rfl (.inl ⟨by decide,rfl⟩)⟩
theorem zEa{st:Bool}{ls:To}{d:Nat}{ws:List W}{acc acc':To}{toks:List Tok}{out:List W}(h:Pr ls d ws acc toks out acc'):(∀w∈out,zI w=false)->(∀l∈acc',∀w∈l,zI w=false)->∀(K:Nat) (bs:List UInt8),zcL (zcZ ls K) ws=some bs->∀(k:Nat) (l:List W) (e:UInt8) (rest:List UInt8) (n:Nat),bs.length<k->(e=11\/e=5) ->
  zH st k d l ⟨bs++e::rest,acc,n⟩=some (((acc'.length:Int),e),⟨rest,acc'++[l++out],n⟩):=by
 induction h with
 | nil d acc =>
  intro _ _ K bs hbs k l e rest n hk he
  simp only[zcL,yaR.injEq]at hbs
  subst hbs
  obtain⟨k,rfl⟩:∃j,k=j+1:=⟨k-1,by simp at hk;omega⟩
  rw[zH]
  simp only[ydq,zaW,ydx]
  rw[if_pos he,List.append_nil]
 | @leaf d w r acc t r' acc' hn hf hr _ ih =>
  intro hb1 hb2 K bs hbs k l e rest n hk he
  rw[zb7]at hbs
  obtain⟨a,b,h1,h2,rfl⟩:=hbs
  obtain⟨c,hc⟩:=zwg hf hn hr (hb1 _ (by simp))
  unfold zgX at h1
  rw[if_neg (by rw[hn];simp),hc.code,yaG,yaR.injEq]at h1
  subst h1
  simp only[yab,yac]at hk
  obtain⟨k,rfl⟩:∃j,k=j+1:=⟨k-1,by omega⟩
  rw[zH]
  simp only[yc1,zaW,ydx]
  rw[if_neg (by rintro (q|q);exact hc.n11 q;exact hc.n5 q),zay,if_neg hc.leaf,hc.read st _ (b++e::rest) (by simp)]
  simp only[ydx]
  rw[ih (λv hv=>hb1 v (by simp[hv])) hb2 K b h2 k (l++[zJ w]) e rest n (by omega) he]
  simp
 | @one d w b r acc tb b' acc1 t r' acc' ho hd hb0 hb p1 p2 ih1 ih2 =>
  intro hb1 hb2 K bs hbs k l e rest n hk he
  rw[zb7]at hbs
  obtain⟨a,c,h1,h2,rfl⟩:=hbs
  rw[zhM ho,ybB]at h1
  obtain⟨x,hx,rfl⟩:=h1
  have hp1:acc1++[b']<+:acc':=zaw p2
  have hb':b'∈acc':=hp1.subset (by simp)
  obtain⟨K,rfl⟩:∃j,K=j+1:=by cases K with
   | zero=>simp[zcZ]at hx
   | succ j=>exact⟨j,rfl⟩
  have hx':=hx
  rw[zeR hb0 hb]at hx'
  simp only[yab,yac,ybl]at hk
  obtain⟨k,rfl⟩:∃j,k=j+1:=⟨k-1,by omega⟩
  have r1:=ih1 (λv hv=>hb2 b' hb' v hv) (λz hz v hv=>hb2 z (hp1.subset (by simp[hz])) v hv) K x hx' k [] 11 (c++e::rest) n (by omega) (.inl rfl)
  have r2:=ih2 (λv hv=>hb1 v (by simp[hv])) hb2 (K+1) c h2 k (l++[zaf w.op acc1.length (if w.op=13 then -1 else 0)]) e rest n (by omega) he
  obtain⟨c0,hc0,g1,g2,g3,g4⟩:∃c0:UInt8,zY (w.op-9)=c0/\¬(c0=11\/c0=5)/\(2<=c0.toNat/\c0.toNat<=4)/\(c0.toNat:Int)+9=w.op/\(c0.toNat=4↔w.op=13):=by
   rcases(show w.op=11\/w.op=12\/w.op=13 by omega)with q|q|q<;>rw[q]<;>exact⟨_,rfl,by decide,by decide,by decide,by decide⟩
  rw[hc0,zH]
  simp only[yc1,ydB,zaW,ydx,ydq]
  rw[if_neg g1,zay,if_pos g2,if_pos hd,zaL]
  simp only[zaW,ydx]
  rw[r1]
  simp only[ydx,ydq]
  by_cases h13:w.op=13
  .rw[if_pos (g4.2 h13),if_neg (by decide)]
   simp only[ydx]
   rw[if_pos h13,h13]at r2
   rw[if_pos h13,h13]
   simpa [zcD,zaf]using r2
  .rw[if_neg (λq=>h13 (g4.1 q)),g3]
   simp only[ydx]
   rw[if_neg h13]at r2
   rw[if_neg h13]
   simpa [zcD,zaf]using r2
 | @two d w b f r acc tb b' acc1 te e' acc2 t r' acc' ho hoo hd hb0 hb hf p1 p2 p3 ih1 ih2 ih3 =>
  intro hb1 hb2 K bs hbs k l e rest n hk he
  rw[zb7]at hbs
  obtain⟨a,c,h1,h2,rfl⟩:=hbs
  rw[zhN ho hoo,ybA]at h1
  obtain⟨x,hx,h1⟩:=h1
  rw[ybB]at h1
  obtain⟨y,hy,rfl⟩:=h1
  have hp2:acc2++[e']<+:acc':=zaw p3
  have hp1:acc1++[b']<+:acc':=(zaw p2).trans ((ydA _ _).trans hp2)
  obtain⟨K,rfl⟩:∃j,K=j+1:=by cases K with
   | zero=>simp[zcZ]at hx
   | succ j=>exact⟨j,rfl⟩
  rw[zeR hb0 hb]at hx
  rw[zeR hoo hf]at hy
  simp only[yab,yac,ybl]at hk
  obtain⟨k,rfl⟩:∃j,k=j+1:=⟨k-1,by omega⟩
  have r1:=ih1 (λv hv=>hb2 b' (hp1.subset (by simp)) v hv) (λz hz v hv=>hb2 z (hp1.subset (by simp[hz])) v hv) K x hx k [] 5 (y++11::(c++e::rest)) n (by omega) (.inr rfl)
  have r2:=ih2 (λv hv=>hb2 e' (hp2.subset (by simp)) v hv) (λz hz v hv=>hb2 z (hp2.subset (by simp[hz])) v hv) K y hy k [] 11 (c++e::rest) n (by omega) (.inl rfl)
  have r3:=ih3 (λv hv=>hb1 v (by simp[hv])) hb2 (K+1) c h2 k (l++[zaf 13 acc1.length acc2.length]) e rest n (by omega) he
  have hc0:zY (w.op-9)=4:=by rw[ho];decide
  rw[hc0,zH]
  simp only[yc1,ydB,zaW,ydx,ydq]
  rw[if_neg (by decide),zay,if_pos (by decide),if_pos hd,zaL]
  simp only[zaW,ydx]
  rw[r1]
  simp only[ydx,ydq]
  rw[if_pos (by decide),if_pos trivial,r2]
  simp only[yaG,ydx,ydq]
  simpa [zcD,zaf]using r3
theorem zwh{fs:List F}{f:F}(h:zk fs f=.ok ()):∀l∈f.lists,∀w∈l,zT w=true/\∃deep,zN fs (f.params++f.locals) deep w=true/\(0:Int)<=0:=by
 have hl:=zV h
 unfold zk at h
 split at h
 .cases h
 rw[hl]at h
 simp only at h
 intro l hlm w hw
 obtain⟨i,hi,e⟩:=ya9 hlm
 obtain⟨k,deep,hk⟩:=Ck.seen hl h (f.lists.length-1-i) i (by omega)
 cases k with
 | zero=>rw[zam]at hk;cases hk
 | succ k =>
  rw[zhL]at hk
  obtain⟨s,h1,_⟩:=hk
  have hg:f.lists.getD (i:Int).toNat []=l:=by rw[ybe];exact zit (by rw[yau hi,e])
  rw[hg]at h1
  obtain⟨s0,s1,h2⟩:=Ck.instrsE_each h1 w hw
  unfold zag at h2
  split at h2
  .cases h2
  rename_i hf
  split at h2
  .cases h2
  rename_i hr
  exact⟨by simpa using hf,deep,by simpa using hr,by omega⟩
theorem ztA{fs:List F}{ls:List Int}{deep:Int}{w:W}(hf:zT w=true)(hr:zN fs ls deep w=true):zI (zJ w)=false:=by
 obtain⟨op,ty,n,body,other,name⟩:=w
 have hb:zI (zJ { op:=op,ty:=ty,n:=n,body:=body,other:=other,name:=name })=(decide ((zJ { op:=op,ty:=ty,n:=n,body:=body,other:=other,name:=name }).n<0)&&decide (op≠1)):=rfl
 rw[hb]
 by_cases h1:op=1
 .simp[h1]
 .have hn:0<=(zJ { op:=op,ty:=ty,n:=n,body:=body,other:=other,name:=name }).n:=by
   unfold zJ zaM
   simp only
   by_cases h2:op=2\/op=3
   .unfold zN at hr
    simp only at hr
    rw[if_neg h1,if_pos h2]at hr
    simp only[Bool.and_eq_true,decide_eq_true_eq]at hr
    split<;>omega
   .by_cases h10:op=10
    .unfold zN at hr
     simp only at hr
     rw[if_neg h1,if_neg h2,if_pos h10]at hr
     unfold zbK at hr
     by_cases hneg:n<0
     .rw[if_neg (by omega),if_neg (by omega),if_neg (by omega),if_pos hneg]at hr
      simp at hr
     .split<;>omega
    .by_cases h14:op=14\/op=15
     .unfold zN at hr
      simp only at hr
      rw[if_neg h1,if_neg h2,if_neg h10,if_pos h14]at hr
      simp only[Bool.and_eq_true,decide_eq_true_eq]at hr
      split<;>omega
     .by_cases h8:op=8\/op=9
      .unfold zT at hf
       simp only at hf
       rw[if_neg (by omega),if_neg (by omega),if_pos h8]at hf
       simp only[zfy,Bool.or_eq_true,Bool.and_eq_true,decide_eq_true_eq]at hf
       split<;>omega
      .rw[if_neg]
       .omega
       .simp only[Bool.or_eq_true,decide_eq_true_eq]
        omega
  simp;omega
theorem zAk{ls:To}{d:Nat}{ws:List W}{acc acc':To}{toks:List Tok}{out:List W}(h:Pr ls d ws acc toks out acc')(hls:∀l∈ls,∀w∈l,zI (zJ w)=false):(∀w∈ws,zI (zJ w)=false)->(∀l∈acc,∀w∈l,zI w=false)->(∀w∈out,zI w=false)/\∀l∈acc',∀w∈l,zI w=false:=by
 have nb:∀(op b o:Int),zI (zaf op b o)=false:=λop b o=>by simp[zI,zaf]
 have snoc:∀{a:To} {b:List W},(∀l∈a,∀w∈l,zI w=false)->(∀w∈b,zI w=false)->∀l∈a++[b],∀w∈l,zI w=false:=λha hb l hl w hw=>by
  rcases ybh.1 hl with hl|hl
  .exact ha l hl w hw
  .simp only[ydf]at hl;subst hl;exact hb w hw
 induction h with
 | nil=>intro _ ha;exact⟨by simp,ha⟩
 | leaf hn hf hr _ ih =>
  intro hw ha
  obtain⟨i1,i2⟩:=ih (λv hv=>hw v (by simp[hv])) ha
  refine⟨λv hv=>?_,i2⟩
  rcases ybC.1 hv with rfl|hv
  .exact hw _ (by simp)
  .exact i1 v hv
 | one ho hd hb0 hb _ _ ih1 ih2 =>
  intro hw ha
  obtain⟨i1,i2⟩:=ih1 (hls _ (yc5 hb)) ha
  obtain⟨j1,j2⟩:=ih2 (λv hv=>hw v (by simp[hv])) (snoc i2 i1)
  refine⟨λv hv=>?_,j2⟩
  rcases ybC.1 hv with rfl|hv
  .exact nb _ _ _
  .exact j1 v hv
 | two ho hoo hd hb0 hb hf _ _ _ ih1 ih2 ih3 =>
  intro hw ha
  obtain⟨i1,i2⟩:=ih1 (hls _ (yc5 hb)) ha
  obtain⟨j1,j2⟩:=ih2 (hls _ (yc5 hf)) (snoc i2 i1)
  obtain⟨k1,k2⟩:=ih3 (λv hv=>hw v (by simp[hv])) (snoc j2 j1)
  refine⟨λv hv=>?_,k2⟩
  rcases ybC.1 hv with rfl|hv
  .exact nb _ _ _
  .exact k1 v hv
theorem zAl{fs:List F}{f:F}(h:zk fs f=.ok ()){toks:List Tok}{ls':To}(hp:PrF f toks ls'):zoI { f with lists:=ls' }:=by
 obtain⟨row,out,acc,h1,h2,rfl⟩:=hp
 have hr:=zwh h
 have hbel:∀l∈f.lists,∀w∈l,zI (zJ w)=false:=λl hl w hw=>by
  obtain⟨q1,deep,q2,_⟩:=hr l hl w hw
  exact ztA q1 q2
 obtain⟨b1,b2⟩:=zAk h2 hbel (hbel _ (yc5 h1)) (by simp)
 obtain⟨_,ha,_⟩:=zbU (zV h)
 have hlt:=(yaq.1 h1).1
 obtain⟨bs,hbs,_⟩:=zgZ ha (λl hl w hw=>(hr l hl w hw).1) f.lists.length ((f.lists.length:Int)-1) (by omega) (by omega) (by omega)
 obtain⟨k,hk⟩:∃k,f.lists.length=k+1:=⟨f.lists.length-1,by omega⟩
 have e:((f.lists.length:Int)-1).toNat=f.lists.length-1:=by omega
 have hb2:zcZ f.lists (k+1) ((f.lists.length:Int)-1)=some bs:=by rw[<-hk];exact hbs
 rw[zeR (by omega) (by rw[e];exact h1)]at hb2
 have q:=zEa (st:=true) h2 b1 b2 k bs hb2 (bs.length+1) [] 11 [] 0 (by omega) (.inl rfl)
 refine⟨zyM (f:={ f with lists:=acc++[out] }) (fs:=fs) (ziX h ⟨row,out,acc,h1,h2,rfl⟩),λl hl w hw=>?_,⟨true,bs.length+1,⟨bs++[11],[],0⟩,11,⟨[],acc++[out],0⟩,?_,rfl,rfl⟩⟩
 .rcases ybh.1 hl with hl|hl
  .exact b2 l hl w hw
  .simp only[ydf]at hl;subst hl;exact b1 w hw
 .rw[q]
  simp
theorem zEb{fs fs':List F}{toks:List Tok}(h:zrS fs toks fs'):zbX fs'=zbX fs:=by
 induction h with
 | nil=>rfl
 | cons _ _ ih=>simp only[zbX,yaL,List.sum_cons]at ih ⊢;omega
theorem zEc{m:M}(hc:zaP m=.ok ()){toks:List Tok}{fs':List F}(hp:zrS m.funcs toks fs')(hm:zbX m.funcs<=65536)(hl:m.funcs.length<=2^40):zkz ⟨fs',m.memory,m.main⟩:=by
 have hv:=zbb hc
 obtain⟨_,h2⟩:=ziu hp
 have hmem:0<=m.memory/\m.memory<=4096:=by
  have:=hc
  unfold zaP at this
  split at this
  .cases this
  .rename_i q
   simpa using q
 have hmain:0<=m.main/\m.main<(m.funcs.length:Int):=by
  have:=hc
  unfold zaP at this
  split at this
  .cases this
  .split at this
   .cases this
   .split at this
    .rename_i q
     unfold zgS at q
     rw[Bool.and_eq_true]at q
     obtain⟨q1,q2⟩:=q
     have q1:=of_decide_eq_true q1
     cases hg:m.funcs[m.main.toNat]? with
     | none=>rw[hg]at q2;simp at q2
     | some g =>
      have:=(yaq.1 hg).1
      omega
    .cases this
 have hw:yb4 .i64 (m.main+3)=m.main+3:=by rw[zb]<;>omega
 have hw2:yb4 .i64 (m.main+3-3)=m.main:=by rw[zb]<;>omega
 refine⟨λf' hf'=>?_,by simp only[zEb hp];exact hm,⟨by simp only;omega,by simp only;omega⟩,?_,?_⟩
 .obtain⟨i,hi,e⟩:=ya9 hf'
  obtain⟨f,t,ls',q1,q2,q3⟩:=h2 i f' (by rw[yau hi,e])
  subst q3
  exact zAl (hv f (yc5 q1)) q2
 .simp only[zaS,hw];omega
 .simp only[zaS,hw,hw2]
theorem ztB{m:M}(hc:zaP m=.ok ()){toks:List Tok}{fs':List F}(hp:zrS m.funcs toks fs')(hm:zbX m.funcs<=65536)(hl:m.funcs.length<=2^40){b:List UInt8}(he:zkr m=some b)(hb:b.length<2^60):zb5 b=some ⟨fs',m.memory,m.main⟩:=by
 have he':=zwd hp he
 obtain⟨s',h1,h2⟩:=ziN (zEc hc hp hm hl) he' hb
 unfold zb5
 rw[h1,ydx,if_pos ⟨h2,he'⟩]
def Rs.app(s:Rs)(r:List UInt8):Rs:={ s with b:=s.b++r }
def Sta{α:Type}(f:Rs->Option (α × Rs)):Prop:=∀(s s':Rs) (a:α) (r:List UInt8),f s=some (a,s')->f (s.app r)=some (a,s'.app r)
theorem Sta.bind{α β:Type}{f:Rs->Option (α × Rs)}{g:α->Rs->Option (β × Rs)}(hf:Sta f)(hg:∀a,Sta (g a)):Sta λs=>(f s).bind λp=>g p.1 p.2:=λs s' b r h=>by
 simp only[ybA]at h
 obtain⟨⟨a,s1⟩,h1,h2⟩:=h
 show(f (s.app r)).bind _=_
 rw[hf _ _ _ r h1]
 exact hg a _ _ _ r h2
theorem Sta.map{α β:Type}{f:Rs->Option (α × Rs)}(hf:Sta f)(g:α->β):Sta λs=>(f s).map λp=>(g p.1,p.2):=λs s' b r h=>by
 simp only[ybB]at h
 obtain⟨⟨a,s1⟩,h1,h2⟩:=h
 simp only[Prod.mk.injEq]at h2
 obtain⟨rfl,rfl⟩:=h2
 show(f (s.app r)).map _=_
 rw[hf _ _ _ r h1]
 rfl
theorem Sta.pure{α:Type}(a:α):Sta λs=>some (a,s):=λs s' b r h=>by cases h;rfl
theorem zhO:Sta zaW:=λs s' a r h=>by
 unfold zaW at h ⊢
 cases hb:s.b with
 | nil=>rw[hb]at h;cases h
 | cons c z =>
  rw[hb]at h
  simp only[yaR.injEq,Prod.mk.injEq]at h
  obtain⟨rfl,rfl⟩:=h
  simp only[Rs.app,hb,yc1]
theorem znE(n:Int):Sta (zcM n):=λs s' a r h=>by
 unfold zcM at h ⊢
 split at h
 .rename_i hn
  simp only[yaR.injEq,Prod.mk.injEq]at h
  obtain⟨rfl,rfl⟩:=h
  have hl:n.toNat<=s.b.length:=by omega
  rw[if_pos (by simp only[Rs.app,yab];omega)]
  simp only[Rs.app,List.take_append_of_le_length hl,List.drop_append_of_le_length hl]
 .cases h
theorem zsi(sg:Bool):∀(k sh u:Nat) (b:List UInt8) (v:Int) (z r:List UInt8),ziL sg k sh u b=some (v,z)->ziL sg k sh u (b++r)=some (v,z++r)
 | 0,_,_,_,_,_,_,h=>by simp[ziL]at h
 | k+1,sh,u,[],v,z,r,h=>by simp[ziL]at h
 | k+1,sh,u,c::b,v,z,r,h=>by
  rw[yc1]
  simp only[ziL]at h ⊢
  split at h
  .rename_i hc
   rw[if_pos hc]
   simp only[yaR.injEq,Prod.mk.injEq]at h ⊢
   exact⟨h.1,by rw[h.2]⟩
  .rename_i hc
   rw[if_neg hc]
   exact zsi sg k _ _ b v z r h
theorem zcy(sg:Bool):Sta (zcd true sg):=λs s' a r h=>by
 unfold zcd at h ⊢
 simp only[ybA]at h
 obtain⟨⟨v,z⟩,h1,h2⟩:=h
 have h3:=zsi sg 10 0 0 s.b v z r h1
 show(ziL sg 10 0 0 (s.b++r)).bind _=_
 rw[h3,ydx]
 simp only at h2 ⊢
 split at h2
 .cases h2
 .rename_i hc
  simp only[yaR.injEq,Prod.mk.injEq]at h2
  obtain⟨rfl,rfl⟩:=h2
  simp only[true_and,not_or,Decidable.not_not]at hc
  rw[if_neg]
  .rfl
  .simp only[true_and,not_or,Decidable.not_not,Rs.app]
   exact⟨by rw[hc.1,ydB],hc.2⟩
theorem znF{α:Type}{f:Rs->Option (α × Rs)}(hf:Sta f):∀n,Sta (zbI f n)
 | 0=>Sta.pure []
 | n+1=>by
  have h:Sta λs=>(f s).bind λp=>(zbI f n p.2).map λq=>(p.1::q.1,q.2):=hf.bind λa=>(znF hf n).map (a::·)
  exact h
theorem zsj:Sta (zc8 true):=λs s' a r h=>by
 unfold zc8 at h ⊢
 simp only[ybA]at h
 obtain⟨⟨c,s1⟩,h1,h2⟩:=h
 rw[zhO _ _ _ r h1,ydx]
 simp only at h2 ⊢
 split at h2
 .cases h2
 .rename_i hc
  rw[if_neg hc]
  simp only[yaR.injEq,Prod.mk.injEq]at h2
  obtain⟨rfl,rfl⟩:=h2
  rfl
theorem zpr:Sta (zcE true):=by
 have h:Sta λs=>(zcd true false s).bind λp=>zbI (zc8 true) p.1.toNat p.2:=(zcy false).bind λa=>znF zsj a.toNat
 exact h
theorem zAm(c:UInt8):Sta (ze4 true c):=λs s' w r h=>by
 unfold ze4 at h ⊢
 split at h
 .rename_i w0 hw
  simp only[ybB]at h
  obtain⟨⟨n,s1⟩,h1,h2⟩:=h
  rw[zcy _ _ _ _ r h1]
  simp only[Prod.mk.injEq]at h2
  obtain⟨rfl,rfl⟩:=h2
  rfl
 .rename_i hw
  split at h
  .rename_i w0 hw2
   split at h
   .rename_i h8
    simp only[ybB]at h
    obtain⟨⟨n,s1⟩,h1,h2⟩:=h
    simp only[Prod.mk.injEq]at h2
    obtain⟨rfl,rfl⟩:=h2
    try simp only
    rw[if_pos h8,znE 2 _ _ _ r h1]
    rfl
   .rename_i h8
    cases h
    try simp only
    rw[if_neg h8]
  .rename_i hw2
   simp only[ybB]at h ⊢
   obtain⟨w1,h1,h2⟩:=h
   simp only[Prod.mk.injEq]at h2
   obtain⟨rfl,rfl⟩:=h2
   exact⟨w1,h1,rfl⟩
theorem zjE:∀(k k2 d:Nat) (l:List W) (s s':Rs) (a:Int × UInt8) (r:List UInt8),k<=k2->zH true k d l s=some (a,s')->zH true k2 d l (s.app r)=some (a,s'.app r)
 | 0,k2,d,l,s,s',a,r,_,h=>by simp[zH]at h
 | k+1,0,d,l,s,s',a,r,hk,h=>by omega
 | k+1,k2+1,d,l,s,s',a,r,hk,h=>by
  rw[zH]at h ⊢
  simp only[ybA]at h
  obtain⟨⟨c,s1⟩,h1,h2⟩:=h
  rw[zhO _ _ _ r h1,ydx]
  simp only at h2 ⊢
  split at h2
  .rename_i hc
   rw[if_pos hc]
   simp only[yaR.injEq,Prod.mk.injEq]at h2
   obtain⟨rfl,rfl⟩:=h2
   rfl
  .rename_i hc
   rw[if_neg hc]
   simp only[ybA]at h2
   obtain⟨⟨w,s2⟩,h3,h4⟩:=h2
   have hi:zay true (λd s=>zH true k2 d [] s) d c (s1.app r)=some (w,s2.app r):=by
    unfold zay at h3 ⊢
    split at h3
    .rename_i hn
     rw[if_pos hn]
     split at h3
     .rename_i hd
      rw[if_pos hd]
      unfold zaL at h3 ⊢
      simp only[ybA]at h3
      obtain⟨⟨c2,s3⟩,h5,⟨q,s4⟩,h6,h7⟩:=h3
      rw[zhO _ _ _ r h5,ydx]
      simp only at h6 h7 ⊢
      rw[zjE k k2 (d+1) [] s3 s4 q r (by omega) h6,ydx]
      simp only
      split at h7
      .rename_i h4c
       rw[if_pos h4c]
       split at h7
       .rename_i h5c
        rw[if_pos h5c]
        simp only[ybB]at h7
        obtain⟨⟨q2,s5⟩,h8,h9⟩:=h7
        rw[zjE k k2 (d+1) [] s4 s5 q2 r (by omega) h8]
        simp only[Prod.mk.injEq]at h9
        obtain⟨rfl,rfl⟩:=h9
        rfl
       .rename_i h5c
        rw[if_neg h5c]
        simp only[yaR.injEq,Prod.mk.injEq]at h7
        obtain⟨rfl,rfl⟩:=h7
        rfl
      .rename_i h4c
       rw[if_neg h4c]
       simp only[yaR.injEq,Prod.mk.injEq]at h7
       obtain⟨rfl,rfl⟩:=h7
       rfl
     .cases h3
    .rename_i hn
     rw[if_neg hn]
     exact zAm c _ _ _ r h3
   rw[hi,ydx]
   exact zjE k k2 d (l++[w]) s2 s' a r (by omega) h4
theorem zwi:Sta (zbv true):=λs s' a r h=>by
 unfold zbv at h ⊢
 simp only[ybA]at h
 obtain⟨⟨n,s1⟩,h1,h2⟩:=h
 rw[zcy _ _ _ _ r h1,ydx]
 simp only at h2 ⊢
 split at h2
 .rename_i hc
  rw[if_pos (show 0<=n/\n<=65536-((s1.app r).n:Int) from hc)]
  simp only[ybB]at h2
  obtain⟨⟨t,s2⟩,h3,h4⟩:=h2
  have q:=zsj _ _ _ r h3
  simp only[Prod.mk.injEq]at h4
  obtain⟨rfl,rfl⟩:=h4
  have q':zc8 true { (s1.app r)with n:=(s1.app r).n+n.toNat }=some (t,s2.app r):=q
  rw[q']
  rfl
 .cases h2
theorem zEd(f:F):Sta (zX true f):=λs s' a r h=>by
 unfold zX at h ⊢
 simp only[ybA]at h
 obtain⟨⟨n,s1⟩,h1,⟨m,s2⟩,h2,⟨l,s3⟩,h3,h4⟩:=h
 rw[zcy _ _ _ _ r h1,ydx]
 simp only at h2 h3 h4 ⊢
 rw[zcy _ _ _ _ r h2,ydx]
 simp only
 rw[znF zwi _ _ _ _ r h3,ydx]
 simp only[ybB]at h4
 obtain⟨⟨q,s4⟩,h5,h6⟩:=h4
 simp only[Prod.mk.injEq]at h6
 obtain⟨rfl,rfl⟩:=h6
 have q':=zjE (s3.b.length+1) ((s3.app r).b.length+1) 0 [] { s3 with ls:=[] } s4 q r (by simp[Rs.app]) h5
 have q2:zH true ((s3.app r).b.length+1) 0 [] { (s3.app r)with ls:=[] }=some (q,s4.app r):=q'
 simp only
 rw[q2]
 rfl
theorem zAn:Sta (zcN true):=by
 have h:Sta λs=>(zaW s).bind λp=>(zcE true p.2).bind λq=>(zcE true q.2).map λr=>(({ name:=[],params:=q.1,locals:=[],type:=r.1.headD 0,lists:=[] }:F),r.2) :=
  zhO.bind λ_=>zpr.bind λa=>zpr.map λb=>({ name:=[],params:=a,locals:=[],type:=b.headD 0,lists:=[] }:F)
 exact h
theorem zg4:Sta zqv:=by
 have h:Sta λs=>(zaW s).bind λp=>zcd true false p.2:=zhO.bind λ_=>zcy false
 exact h
theorem zdT{n:Int}{s s':Rs}(r:List UInt8)(h:zas n s=some s'):zas n (s.app r)=some (s'.app r):=by
 unfold zas at h ⊢
 simp only[ybB]at h
 obtain⟨⟨a,s1⟩,h1,rfl⟩:=h
 rw[znE _ _ _ _ r h1]
 rfl
theorem zwj:Sta ziM:=by
 have h:Sta λs=>(zqv s).bind λa=>(zcd true false a.2).bind λn=>(zbI (zcN true) n.1.toNat n.2).map λh=>(h.1.drop 3,h.2) :=
  zg4.bind λ_=>(zcy false).bind λn=>(znF zAn n.toNat).map λx=>x.drop 3
 exact h
theorem zsk:∀hs:List F,Sta (zC true hs)
 | []=>Sta.pure []
 | f::hs=>by
  have h:Sta λs=>(zX true f s).bind λp=>(zC true hs p.2).map λq=>(p.1::q.1,q.2):=(zEd f).bind λa=>(zsk hs).map (a::·)
  exact h
theorem zps:∀fs:List F,Sta (zc9 true fs)
 | []=>Sta.pure []
 | f::fs=>by
  have h:Sta λs=>(zcd true false s).bind λp=>(zcd true false p.2).bind λq=>(zcM q.1 q.2).bind λt=>(zc9 true fs t.2).map λu=>(({ f with name:=t.1 }:F)::u.1,u.2) :=
   (zcy false).bind λ_=>(zcy false).bind λn=>(znE n).bind λt=>(zps fs).map (({ f with name:=t }:F)::·)
  exact h
theorem zwk:Sta zky:=λs s' a r h=>by
 unfold zky at h ⊢
 simp only[ybA,ybB]at h
 obtain⟨s1,h1,⟨hh,s2⟩,h2,⟨a3,s3⟩,h3,s4,h4,⟨a5,s5⟩,h5,s6,h6,s7,h7,⟨a8,s8⟩,h8,s9,h9,⟨mem,s10⟩,h10,s11,h11,⟨a12,s12⟩,h12,s13,h13,⟨mn,s14⟩,h14,h15⟩:=h
 simp only[Prod.mk.injEq]at h15
 obtain⟨rfl,rfl⟩:=h15
 rw[zdT r h1,ydx,zwj _ _ _ r h2,ydx]
 simp only
 rw[zg4 _ _ _ r h3,ydx]
 simp only
 rw[zdT r h4,ydx,zg4 _ _ _ r h5,ydx]
 simp only
 rw[zdT r h6,ydx,zdT r h7,ydx,zg4 _ _ _ r h8,ydx]
 simp only
 rw[zdT r h9,ydx,zcy _ _ _ _ r h10,ydx]
 simp only
 rw[zdT r h11,ydx,zg4 _ _ _ r h12,ydx]
 simp only
 rw[zdT r h13,ydx,zcy _ _ _ _ r h14]
 rfl
theorem zAo(hs:List F):Sta (zqw hs):=λs s' a r h=>by
 unfold zqw at h ⊢
 simp only[ybA]at h
 obtain⟨⟨a1,s1⟩,h1,⟨c,s2⟩,h2,⟨fs,s3⟩,h3,⟨a4,s4⟩,h4,s5,h5,⟨x,s6⟩,h6,⟨y,s7⟩,h7,h8⟩:=h
 rw[zg4 _ _ _ r h1,ydx]
 simp only at h2 h3 h4 h5 h6 h7 h8 ⊢
 rw[zcy _ _ _ _ r h2,ydx]
 simp only
 rw[zsk hs _ _ _ r h3,ydx]
 simp only
 rw[zg4 _ _ _ r h4,ydx]
 simp only
 rw[zdT r h5,ydx,zcy _ _ _ _ r h6,ydx]
 simp only
 rw[zcy _ _ _ _ r h7,ydx]
 exact zps fs _ _ _ r h8
theorem ztC:Sta zfI:=λs s' a r h=>by
 unfold zfI at h ⊢
 simp only[ybA,ybB]at h
 obtain⟨⟨p,s1⟩,h1,⟨q,s2⟩,h2,h3⟩:=h
 simp only[Prod.mk.injEq]at h3
 obtain⟨rfl,rfl⟩:=h3
 rw[zwk _ _ _ r h1,ydx]
 simp only
 rw[zAo _ _ _ _ r h2]
 rfl
theorem zk7{b r:List UInt8}{m:M}(h:zb5 b=some m)(hr:r≠[]):zb5 (b++r)=none:=by
 unfold zb5 at h ⊢
 simp only[ybA]at h
 obtain⟨⟨p,s'⟩,h1,h2⟩:=h
 have q:zfI ⟨b++r,[],0⟩=some (p,s'.app r):=ztC _ _ _ r h1
 rw[q,ydx,if_neg]
 intro hc
 have:=hc.1
 simp only[Rs.app,List.append_eq_nil_iff]at this
 exact hr this.2
theorem zq6{b r:List UInt8}{m:M}(h:zb5 (b++r)=some m)(hr:r≠[]):zb5 b=none:=by
 cases hd:zb5 b with
 | none=>rfl
 | some p=>rw[zk7 hd hr]at h;cases h
end Go.Proofs.YtohfclafhegadaaGreatDoor
