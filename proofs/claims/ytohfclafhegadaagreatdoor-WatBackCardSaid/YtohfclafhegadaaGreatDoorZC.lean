/- Parts of the proof of the row WatBack: contracts of functions, each under the conditions that its theorem names. -/
import Derived.Test.YtohfclafhegadaaGreatDoorZB
import Derived.Test.YtohfclafhegadaaGreatDoorZA
import Derived.Test.YtohfclafhegadaaGreatDoorRows
import Derived.Test.YtohfclafhegadaaGreatDoorAbsB
set_option linter.unusedSimpArgs false
set_option linter.unusedVariables false
set_option maxRecDepth 100000
open List renaming mem_map->yaV,mem_singleton->yc4,mem_cons->ybD,getD_eq_getElem?_getD->ycJ,getElem?_eq_getElem->yau,getElem_mem->yaw,take_succ_eq_append_getElem->ycP,mem_append->ybh,take_of_length_le->ydn,take_length->ycQ,replicate->yaj,length_cons->yac,length_pos_iff->ybn,getLast?_eq_some_getLast->ydT,append_assoc->ydf,all_eq_true->yaM,length_nil->ybm,reverse_nil->ydV,reverse_cons->ydW,nil_append->yde,mem_of_getElem?->ycW,length_take->ybf,mem_flatMap->ycZ,cons->ydX,take->ydm,map_take->ydY,length_append->yab,length_singleton->yd1,replicate_succ->yc2,getElem?_eq_some_iff->yaq,map_set->yd3,flatMap_cons->yaa,count_append->yd4,count_singleton->yd5,getElem_of_mem->ya9,getElem?_append_left->yat,getElem?_append_right->yaI,getElem?_cons_zero->ydF,prefix_append->ydh,prefix_refl->yd6,getElem?_eq_none_iff->yd7,getElem?_eq_none->yb3
open Nat renaming le_refl->yah,le_trans->yai,pow_le_pow_right->yd0
open Option renaming some->yaR
open Int renaming le_refl->ydU,eq_ofNat_of_zero_le->ydZ,toNat_natCast->ybe,tmod_lt_of_pos->yd8
open Go.Proofs.Tryz renaming prog->yca,underlying9->ydK,underlying3->ydL,underlying44->ydN,underlying57->ydO,underlying28->ydP
open Go.IntKind renaming wrap->yb5,min->ydM,max->yan,signed->yao,bits->yap,u64->ydQ,i64->yam,i32->ydR,u8->ydS
open Go.Abs.AV renaming int->ycS,str->ycR,slm->yd2
namespace Go.Proofs.YtohfclafhegadaaGreatDoor
open Go Go.Abs Go.RowKit Go.ChangeShapes Go.WideShapes
abbrev zmn : List (String × DataW Unit) := [("math/bits.deBruijn32tab", Rows.laid_math_bits_deBruijn32tab), ("math/bits.deBruijn64tab", Rows.laid_math_bits_deBruijn64tab), ("internal/strconv.uint64pow10", Rows.laid_internal_strconv_uint64pow10), ("unicode/utf8.acceptRanges", Rows.laid_unicode_utf8_acceptRanges), ("strconv.ErrRange", Rows.laid_strconv_ErrRange), ("strconv.ErrSyntax", Rows.laid_strconv_ErrSyntax), ("unicode.White_Space", Rows.laid_unicode_White_Space), ("strings.asciiSpace", Rows.laid_strings_asciiSpace), ("mortise/wasm.signs", Rows.laid_mortise_wasm_signs), ("unicode/utf8.first", Rows.laid_unicode_utf8_first)]
def GW(m:Int)(u:TypeId):Env where
 g:=λx=>match x with
  | 0=>.pv (.stat true) (.agg zdV)
  | 6=>.pv (.stat true) (.iface u .undef)
  | 10=>.pv (.stat true) (.agg zcM)
  | 11=>.pv (.stat true) (.int .i64 m)
  | _=>.undef
 has:=λ_=>False
 y:=λ_ _ _ _ _=>False
 fix:=λB=>if B=9 then some (Lib.pow10Tab.map λz=>Value.int .u64 z).toArray else none
theorem zGv(m u):zdw (GW m u):=⟨rfl,⟨u,.undef,rfl⟩,rfl⟩
theorem zGw(m u):zkB (GW m u):=⟨rfl,m,rfl⟩
theorem zuX(m:Int)(u:TypeId):∀k,StillI ((GW m u).g k):=by
 intro k
 match k with
 | 0 =>
  exact .pv _ _ λc hc=>by
   simp only[AV.cells,zdV,yaV]at hc
   obtain⟨x,_,rfl⟩:=hc
   exact .int _ _
 | 1=>exact .undef
 | 2=>exact .undef
 | 3=>exact .undef
 | 4=>exact .undef
 | 5=>exact .undef
 | 6 =>
  exact .pv _ _ λc hc=>by
   simp only[AV.cells,yc4]at hc
   subst hc
   exact .iface _ _ .undef
 | 7=>exact .undef
 | 8=>exact .undef
 | 9=>exact .undef
 | 10 =>
  exact .pv _ _ λc hc=>by
   simp only[AV.cells,zcM,List.mem_flatten,yaV]at hc
   obtain⟨l,⟨x,_,rfl⟩,hc⟩:=hc
   simp only[ybD,List.not_mem_nil,or_false]at hc
   rcases hc with rfl|rfl<;>exact .str _
 | 11 =>
  exact .pv _ _ λc hc=>by
   simp only[AV.cells,yc4]at hc
   subst hc
   exact .int _ _
 | n+12=>exact .undef
theorem zmo{W:World}(hs:W.ShapedOpen yca)(hl:laidMetH yca zmn W):∃m u,GOk yca (GW m u) (Mp.all W) AS.zero.F W:=by
 have hl0:laidMet yca zmn W:=hl
 obtain⟨ps,hv,_⟩:=hl0
 obtain⟨g0,t0,cs0,fuel0,p0,a1,a2,a3,a4⟩:=zfL (k:=7) hv rfl
 obtain⟨g6,t6,cs6,fuel6,p6,e1,e2,e3,e4⟩:=zfL (k:=4) hv rfl
 obtain⟨g9,t9,cs9,fuel9,p9,f1,f2,f3,f4⟩:=zfL (k:=2) hv rfl
 obtain⟨g10,t10,cs10,fuel10,p10,h1,h2,h3,h4⟩:=zfL (k:=8) hv rfl
 obtain rfl : 0 = g0 := Option.some.inj ((show Tryz.prog.globalNamed "strings.asciiSpace" = some 0 by kernel_rfl).symm.trans a1)
 obtain rfl : 6 = g6 := Option.some.inj ((show Tryz.prog.globalNamed "strconv.ErrRange" = some 6 by kernel_rfl).symm.trans e1)
 obtain rfl : 9 = g9 := Option.some.inj ((show Tryz.prog.globalNamed "internal/strconv.uint64pow10" = some 9 by kernel_rfl).symm.trans f1)
 obtain rfl : 10 = g10 := Option.some.inj ((show Tryz.prog.globalNamed "mortise/wasm.signs" = some 10 by kernel_rfl).symm.trans h1)
 obtain rfl:135=t0:=yaR.inj ((show(yca.globals[0]?).map (·.type)=some 135 by kernel_rfl).symm.trans a2)
 obtain rfl:139=t6:=yaR.inj ((show(yca.globals[6]?).map (·.type)=some 139 by kernel_rfl).symm.trans e2)
 obtain rfl:282=t9:=yaR.inj ((show(yca.globals[9]?).map (·.type)=some 282 by kernel_rfl).symm.trans f2)
 obtain rfl:287=t10:=yaR.inj ((show(yca.globals[10]?).map (·.type)=some 287 by kernel_rfl).symm.trans h2)
 have k0:cs0.toList=spZ.map λz=>Value.int .u8 z:=Lib.cells_of_tab (n:=256) (e:=5) (k:=.u8) Tryz.underlying135 Tryz.underlying5 (by kernel_rfl) (by kernel_rfl) (zs:=spZ) (by have:=a4;exact this)
 obtain⟨u,ev,hc6⟩:=zuW Tryz.underlying139 e4
 have k9:cs9.toList=Lib.pow10Tab.map λz=>Value.int .u64 z:=Lib.cells_of_tab (n:=20) (e:=174) (k:=.u64) Tryz.underlying282 Tryz.underlying174 (by kernel_rfl) (by kernel_rfl) (zs:=Lib.pow10Tab) (by have:=f4;exact this)
 have k10:cs10.toList=zfM:=zi4 (n:=16) (e:=182) (u:=9) (ls:=signs) Tryz.underlying287 Tryz.underlying182 ydK (by kernel_rfl) (by kernel_rfl) (by kernel_rfl) h4
 obtain⟨m,hm⟩:=Tryz.laysM143.s1_3 W hs
 have cell:∀(nm:String) (g:Nat) (cs:Array Value),yca.globalNamed nm=some g->W.var? yca nm=some cs->∀j,W.cell? ⟨g,j,none⟩=cs.toList[j]?:=λnm g cs h1 h2 j=>by
  have:=World.var?_cell h1 h2 j
  rw[Array.getElem?_toList]
  simpa using this
 have v0:=cell _ 0 cs0 a1 a3
 have v6:=cell _ 6 cs6 e1 e3
 have v10:=cell _ 10 cs10 h1 h3
 rw[k0]at v0
 rw[hc6]at v6
 rw[k10]at v10
 have l11:11<W.heap.size:=World.block_lt_of_cell? W _ hm
 refine⟨m,u,⟨λx=>?_,λ_ h=>h.elim,λB c h=>?_⟩⟩
 .match x with
  | 0 =>
   have hl:zdV=spZ.map (ycS .u8):=by simp[zdV,spZ]
   refine .pv _ _ 0 0 (λj=>(spZ.map λz=>Value.int .u8 z).getD j undef) (by simp[Mem,Mp.all];omega) (λ_ j hj=>?_) (λ_ j hj=>?_)
   .have hj':j<(spZ.map λz=>Value.int .u8 z).length:=by
     have:j<zdV.length:=hj
     rw[hl]at this
     simpa using this
    rw[Nat.zero_add,v0 j,ycJ,yau hj']
    rfl
   .have hj':j<spZ.length:=by
     have:j<zdV.length:=hj
     rw[hl]at this
     simpa using this
    have:((AV.agg zdV).cells[j]'hj)=.int .u8 spZ[j]:=by simp[AV.cells,hl]
    rw[this,ycJ,List.getElem?_map,yau hj']
    exact .int ..
  | 1=>exact .undef _
  | 2=>exact .undef _
  | 3=>exact .undef _
  | 4=>exact .undef _
  | 5=>exact .undef _
  | 6 =>
   refine .pv _ _ 6 0 (λj=>.iface u ev) (by simp[Mem,Mp.all];omega) (λ_ j hj=>?_) (λ_ j hj=>?_)
   .have hj':j=0:=by simpa using hj
    subst hj'
    exact v6 0
   .have hj':j=0:=by simpa using hj
    subst hj'
    exact .iface _ _ _ (.undef _)
  | 7=>exact .undef _
  | 8=>exact .undef _
  | 9=>exact .undef _
  | 10 =>
   refine .pv _ _ 10 0 (λj=>zfM.getD j undef) (by simp[Mem,Mp.all];omega) (λ_ j hj=>?_) (λ_ j hj=>?_)
   .obtain⟨c,h1,_⟩:=ziu (M:=Mp.all W) (F:=AS.zero.F) (w:=W) signs j hj
    rw[Nat.zero_add,v10 j,ycJ]
    show zfM[j]?=_
    have h1':zfM[j]?=some c:=h1
    rw[h1'];rfl
   .obtain⟨c,h1,h2⟩:=ziu (M:=Mp.all W) (F:=AS.zero.F) (w:=W) signs j hj
    have h1':zfM[j]?=some c:=h1
    rw[ycJ,h1']
    exact h2
  | 11 =>
   refine .pv _ _ 11 0 (λj=>.int .i64 m) (by simp[Mem,Mp.all,l11]) (λ_ j hj=>?_) (λ_ j hj=>?_)
   .have hj':j=0:=by simpa using hj
    subst hj'
    exact hm
   .have hj':j=0:=by simpa using hj
    subst hj'
    exact VR.int ..
  | n+12=>exact .undef _
 .simp only[GW]at h
  split at h
  .rename_i hB
   subst hB
   cases h
   refine⟨by simp[Mp.all];omega,?_⟩
   have hq:cs9=(Lib.pow10Tab.map λz=>Value.int .u64 z).toArray:=by
    rw[<-k9]
   rw[<-hq]
   have:=f3
   simp only[World.var?,f1]at this
   rw[Option.bind_some]at this
   split at this
   .rename_i cs elem frozen hh
    cases this
    exact⟨_,_,hh⟩
   .cases this
  .cases h
theorem zpG(os:Os):laidMet yca zmn (ziv os) :=
 laidMet_layVars (w0:=World.doorLaid yca 400 os) zCW zGl rfl (by kernel_rfl) (by kernel_rfl) (LaidIn.of_run zGl 8 (by kernel_rfl) (by kernel_rfl) (by kernel_rfl) (by kernel_rfl))
theorem zrE(os:Os)(args:Array Value):laidMetH yca zmn ((ziv os).forCall (λ_ _=>0) ⟨#[],args,[]⟩).memory :=
 show laidMet yca zmn _ from(zpG os).of_heap (by simp[World.memory,World.forCall,Input.heap])
def zEs(f:F):Prop:=f.params.length+f.locals.length+f.lists.length+zh5 id f.lists<=3000/\zh3 24 f.name=true
structure Few(m:M):Prop where
 funcs:m.funcs.length<=40
 each:∀f∈m.funcs,zEs f
 good:zav m=.ok ()
section
variable {G : Env} {J : AS} {R : Out -> AS -> Prop}
theorem zuY{J:AS}{v:AV}{l:List W}(h:Al.RepO J v l)(K:AV->Prop):zgT yca 54 v K=K (.int .i64 (l.length:Int)):=by
 rcases h with ⟨rfl,rfl⟩|⟨b,rfl,_⟩<;>simp
def MnI(m:M)(o:Nat)(fv:AV)(J:AS)(a:Nat->AV)(Z:AS):Prop:=∃i:Nat,i<=m.funcs.length/\(∀f∈m.funcs.take i,f.lists.length<=400)/\a 1=.ptr o 0/\a 3=.int .i64 (i:Int)/\Z.objs o=some [fv,.int .i64 m.memory,.int .i64 m.main]/\Z=J
theorem zCX{m:M}{mv:AV}(hm:Al.MO J mv m)(hl:m.funcs.length<=2^60)(hn:∀f∈m.funcs,f.lists.length<2^60)(h:∀b J',(b=false->∀f∈m.funcs,f.lists.length<=400)->ze J J'->R (.ret (.bool b)) J'):zzQ G 33 [mv] J R:=by
 refine zxf rfl ?_
 obtain⟨fv,rfl,hfv⟩:=hm
 have f1:=hfv.one
 have A1:ze J (J.newO [fv,.int .i64 m.memory,.int .i64 m.main]):=(ze.refl J).newO
 have hf1:=hfv.keep A1
 have o1:(J.newO [fv,.int .i64 m.memory,.int .i64 m.main]).objs J.no=some [fv,.int .i64 m.memory,.int .i64 m.main]:=by simp
 simp[zF0,f1]
 generalize J.newO [fv,.int .i64 m.memory,.int .i64 m.main]=J1 at *
 have fl:=hf1.len
 refine zS (MnI m J.no fv J1) (MU 3 (m.funcs.length+1)) ⟨0,Nat.zero_le _,by simp,by simp,by simp,o1,rfl⟩ λa Z hI=>?_
 obtain⟨i,hi,hok,a1,a3,ho,rfl⟩:=hI
 by_cases hlt:i<m.funcs.length
 .obtain⟨φ,row,hr,hrow,hat⟩:=hf1.at hlt
  have hr':=hr.read
  have hlti:(i:Int)<(m.funcs.length:Int):=by omega
  have w1:yb5 .i64 ((i:Int)+1)=((i+1:Nat):Int):=by rw[wrap_i64]<;>omega
  have hmem:m.funcs[i]∈m.funcs:=yaw hlt
  have htk:m.funcs.take (i+1)=m.funcs.take i++[m.funcs[i]]:=ycP hlt
  have hnf:=hn _ hmem
  generalize hf:m.funcs[i]=f at *
  obtain⟨pv,lv,tv,rfl,_,_,ht⟩:=hrow
  have t1:=ht.one
  have tl:=ht.len
  by_cases hb:(400:Int)<(f.lists.length:Int)
  .have hb':400<f.lists.length:=by omega
   simp[zhV,a1,a3,ho,f1,fl,hlt,hlti,hat,hr',t1,tl,hb,hb']
   exact h true _ (by simp) A1
  .have hb':¬400<f.lists.length:=by omega
   simp[zhV,a1,a3,ho,f1,fl,hlt,hlti,hat,hr',t1,tl,hb,hb',w1]
   refine⟨⟨i+1,hlt,λg hg=>?_,by simp[a1],by simp,ho,rfl⟩,?_⟩
   .rw[htk,ybh,yc4]at hg
    rcases hg with hg|rfl
    .exact hok g hg
    .omega
   .simp[MU,a3];omega
 .have e:i=m.funcs.length:=by omega
  simp[zhV,zqG,a1,a3,ho,f1,fl,e]
  exact h false _ (λ_ f hf=>hok f (by rw[e,ydn (yah _)];exact hf)) A1
end
end Go.Proofs.YtohfclafhegadaaGreatDoor
namespace Go.Proofs.YtohfclafhegadaaGreatDoor
open Go Go.Abs Go.RowKit Go.ChangeShapes Go.WideShapes Go.ChangeAt
def zFA(v:AV)(n:Int):Prop:=v=.int .i64 n/\-(2^63)<=n/\n<=2^63-1
theorem zyj{H:Type}{enc:TypeId × Value->H}{w:World}{n:Nat}{cs:List Value}{x:DataW H × List MemPlace}(h:DataW.trod enc yca w 0 (λ_=>true) true n 3 cs=some x):∃v o,zFA v o/\zb5 w v cs:=by
 obtain⟨k,rfl,_,hw⟩:=DataW.trod_int ydL h
 simp[Lit.wf,ydM,yan,yao,yap]at hw
 exact⟨.int .i64 k,k,⟨rfl,by omega,by omega⟩,.one (.int ..) rfl⟩
theorem All2.ints{vs:List AV}{l:List Int}(h:All2 zFA vs l):vs=l.map (.int .i64):=by
 induction h with
 | nil=>rfl
 | cons h r ih=>rw[h.1,ih];rfl
def WR(v:AV)(w:W):Prop:=v=w.av/\RgW w
theorem zdg{H:Type}{enc:TypeId × Value->H}{w:World}{n:Nat}{c:Value}{x:DataW H × List MemPlace}(h:DataW.trod enc yca w 0 (λ_=>true) true n 3 [c]=some x):∃k:Int,c=.int .i64 k/\-(2^63)<=k/\k<2^63:=by
 obtain⟨k,h1,_,hw⟩:=DataW.trod_int ydL h
 simp[Lit.wf,ydM,yan,yao,yap]at hw
 exact⟨k,by simpa using h1,by omega,by omega⟩
theorem zwi{H:Type}{enc:TypeId × Value->H}{w:World}{n:Nat}{c:Value}{x:DataW H × List MemPlace}(h:DataW.trod enc yca w 0 (λ_=>true) true n 9 [c]=some x):∃s:ByteArray,c=.string s/\x.1=.lit (.string s.data.toList):=by
 obtain⟨s,h1,h2,_⟩:=DataW.trod_string ydK h
 exact⟨s,by simpa using h1,by rw[h2]⟩
theorem zFB{H:Type}{enc:TypeId × Value->H}{w:World}{n:Nat}{cs:List Value}{x:DataW H × List MemPlace}(h:DataW.trod enc yca w 0 (λ_=>true) true n 53 cs=some x):∃v o,WR v o/\zb5 w v cs:=by
 obtain⟨xs,n,rfl,hx,hlen,hxl,hf⟩:=DataW.trod_struct Tryz.underlying53 h
 have hxl':xs.length=6:=hxl
 have hlen':cs.length=6:=hlen.trans (by kernel_rfl)
 match cs,hlen' with
 | [a,b,c,d,e,f],_ =>
  have c9:yca.cellsOf 9=1:=by kernel_rfl
  have c3:yca.cellsOf 3=1:=by kernel_rfl
  have f0:DataW.trod enc yca w 0 (λ_=>true) true n 3 [a]=xs[0]?:=by
   have h:DataW.trod enc yca w 0 (λ_=>true) true n 3 ((([a,b,c,d,e,f]:List Value).drop 0).take (yca.cellsOf 3))=xs[0]?:=hf 0 _ rfl
   rw[c3]at h;exact h
  have f1:DataW.trod enc yca w 0 (λ_=>true) true n 3 [b]=xs[1]?:=by
   have h:DataW.trod enc yca w 0 (λ_=>true) true n 3 ((([a,b,c,d,e,f]:List Value).drop 1).take (yca.cellsOf 3))=xs[1]?:=hf 1 _ rfl
   rw[c3]at h;exact h
  have f2:DataW.trod enc yca w 0 (λ_=>true) true n 3 [c]=xs[2]?:=by
   have h:DataW.trod enc yca w 0 (λ_=>true) true n 3 ((([a,b,c,d,e,f]:List Value).drop 2).take (yca.cellsOf 3))=xs[2]?:=hf 2 _ rfl
   rw[c3]at h;exact h
  have f3:DataW.trod enc yca w 0 (λ_=>true) true n 3 [d]=xs[3]?:=by
   have h:DataW.trod enc yca w 0 (λ_=>true) true n 3 ((([a,b,c,d,e,f]:List Value).drop 3).take (yca.cellsOf 3))=xs[3]?:=hf 3 _ rfl
   rw[c3]at h;exact h
  have f4:DataW.trod enc yca w 0 (λ_=>true) true n 3 [e]=xs[4]?:=by
   have h:DataW.trod enc yca w 0 (λ_=>true) true n 3 ((([a,b,c,d,e,f]:List Value).drop 4).take (yca.cellsOf 3))=xs[4]?:=hf 4 _ rfl
   rw[c3]at h;exact h
  have f5:DataW.trod enc yca w 0 (λ_=>true) true n 9 [f]=xs[5]?:=by
   have h:DataW.trod enc yca w 0 (λ_=>true) true n 9 ((([a,b,c,d,e,f]:List Value).drop 5).take (yca.cellsOf 9))=xs[5]?:=hf 5 _ rfl
   rw[c9]at h;exact h
  rw[yau (by omega)]at f0 f1 f2 f3 f4 f5
  obtain⟨k0,rfl,_⟩:=zdg f0
  obtain⟨k1,rfl,_⟩:=zdg f1
  obtain⟨k2,rfl,hn⟩:=zdg f2
  obtain⟨k3,rfl,_⟩:=zdg f3
  obtain⟨k4,rfl,_⟩:=zdg f4
  obtain⟨s,rfl,_⟩:=zwi f5
  refine⟨_,⟨k0,k1,k2,k3,k4,s.data.toList⟩,⟨rfl,hn⟩,rfl,λj h1 h2=>?_⟩
  have:j<6:=h2
  match j,this with
  | 0,_=>exact .int ..
  | 1,_=>exact .int ..
  | 2,_=>exact .int ..
  | 3,_=>exact .int ..
  | 4,_=>exact .int ..
  | 5,_=>exact .str s
theorem All2.ws{vs:List AV}{l:List W}(h:All2 WR vs l):vs=l.map W.av/\∀w∈l,RgW w:=by
 induction h with
 | nil=>simp
 | cons h r ih=>refine⟨by rw[h.1,ih.1];rfl,λw hw=>?_⟩;rcases ybD.1 hw with rfl|hw;exact h.2;exact ih.2 w hw
theorem All2.mono{α β:Type}{R S:α->β->Prop}{xs ys}(h:All2 R xs ys)(hs:∀x y,R x y->S x y):All2 S xs ys:=by
 induction h with
 | nil=>exact .nil
 | cons h r ih=>exact .cons (hs _ _ h) ih
theorem All2.right{α β:Type}{R:α->β->Prop}{P:β->Prop}{xs ys}(h:All2 R xs ys)(hs:∀x y,R x y->P y):∀y∈ys,P y:=by
 induction h with
 | nil=>simp
 | cons h r ih=>intro y hy;rcases ybD.1 hy with rfl|hy;exact hs _ _ h;exact ih y hy
theorem zuZ{H:Type}{enc:TypeId × Value->H}{w:World}{n:Int}{d:DataW H}{p:List MemPlace}(h:DataW.Trod enc yca w 0 (λ_=>true) true 3 (.int .i64 n) d p):-(2^63)<=n/\n<2^63:=by
 obtain⟨fuel,hf⟩:=h
 obtain⟨k,e,h1,h2⟩:=zdg (c:=.int .i64 n) hf
 simp only[Value.int.injEq,true_and]at e
 subst e
 exact⟨h1,h2⟩
end Go.Proofs.YtohfclafhegadaaGreatDoor
namespace Go.Proofs.YtohfclafhegadaaGreatDoor
open Go Go.Abs Go.RowKit Go.ChangeShapes Go.WideShapes
structure zyk(f:F):Prop where
 params:f.params.length<=2^44-512
 locals:f.locals.length<=2^44-512
 lists:f.lists.length<=2^43
 rows:∀l∈f.lists,l.length<=2^42
 name:f.name.length<=2^47
 nums:∀l∈f.lists,∀w∈l,w.n<=2^63-1
theorem zeu{H T:Type}{enc:TypeId × Value->H}{w:World}{fuel:Nat}{t e:TypeId}{cs:List Value}{x:DataW H × List MemPlace}{sz:Nat}(Rel:AV->T->Prop)
  (ht:yca.underlying t=some (.slice e)) (hc:yca.cellsOf e=sz) (hsz:0<sz) {by_:Nat} (hb2:yca.bytesOf e=by_) (hb:0<by_)
  (ih:∀n cs' d q,DataW.trod enc yca w 0 (λ_=>true) true n e cs'=some (d,q)->zjH e d->∃v o,Rel v o/\zb5 w v cs')
  (h:DataW.trod enc yca w 0 (λ_=>true) true fuel t cs=some x) (hw:zjH t x.1) :
  ∃(v:AV) (os:List T),zb5 w v cs/\((os=[]/\v=.nilsl)\/∃vs,v=.sl (.stat false) sz vs/\All2 Rel vs os)/\os.length*by_<=2^47-4096:=by
 obtain⟨v,os,h1,h2,_,_,h3⟩:=zpF Rel (λ_=>True) ht hc hsz (by omega) (λn cs' d q h hw _=>ih n cs' d q h hw) h hw (λ_ _ _ _ _=>trivial)
 exact⟨v,os,h1,h2,by rw[hb2]at h3;exact h3⟩
theorem zCY{H:Type}{s:List UInt8}(h:zjH (H:=H) 9 (.lit (.string s))):s.length<=2^47:=by
 have h2:reachBytes=2^47-4096:=rfl
 simp[zjH,DataW.weights]at h
 omega
def zCZ(v:AV)(l:List Int):Prop:=zaf v l/\l.length<=2^44-512
theorem ziw{H:Type}{enc:TypeId × Value->H}{w:World}{n:Nat}{cs:List Value}{x:DataW H × List MemPlace}(h:DataW.trod enc yca w 0 (λ_=>true) true n 44 cs=some x)(hw:zjH 44 x.1):∃v o,zCZ v o/\zb5 w v cs:=by
 obtain⟨v,os,h1,h2,h3⟩:=zeu (sz:=1) zFA ydN (by kernel_rfl) (by omega) (by_:=8) (by kernel_rfl) (by omega) (λn cs' d q h _=>zyj h) h hw
 have h3:os.length<=2^44-512:=by omega
 refine⟨v,os,⟨?_,h3⟩,h1⟩
 rcases h2 with h2|⟨vs,rfl,h4⟩
 .exact .inl h2
 .exact .inr ⟨false,by rw[h4.ints]⟩
def zC0(v:AV)(l:List W):Prop:=zph v l/\l.length<=2^42/\∀w∈l,RgW w
theorem zu0{H:Type}{enc:TypeId × Value->H}{w:World}{n:Nat}{cs:List Value}{x:DataW H × List MemPlace}(h:DataW.trod enc yca w 0 (λ_=>true) true n 54 cs=some x)(hw:zjH 54 x.1):∃v o,zC0 v o/\zb5 w v cs:=by
 obtain⟨v,os,h1,h2,h3⟩:=zeu (sz:=6) WR Tryz.underlying54 (by kernel_rfl) (by omega) (by_:=56) (by kernel_rfl) (by omega) (λn cs' d q h _=>zFB h) h hw
 have h3:os.length<=2^42:=by omega
 rcases h2 with ⟨rfl,rfl⟩|⟨vs,rfl,h4⟩
 .exact⟨_,[],⟨.inl ⟨rfl,rfl⟩,h3,by simp⟩,h1⟩
 .obtain⟨e,hn⟩:=h4.ws
  exact⟨_,os,⟨.inr ⟨false,by rw[e]⟩,h3,hn⟩,h1⟩
def zyl(v:AV)(l:To):Prop:=zcu v l/\l.length<=2^43/\(∀r∈l,r.length<=2^42)/\∀r∈l,∀w∈r,RgW w
theorem zpH{H:Type}{enc:TypeId × Value->H}{w:World}{n:Nat}{cs:List Value}{x:DataW H × List MemPlace}(h:DataW.trod enc yca w 0 (λ_=>true) true n 55 cs=some x)(hw:zjH 55 x.1):∃v o,zyl v o/\zb5 w v cs:=by
 obtain⟨v,os,h1,h2,h3⟩:=zeu (sz:=1) zC0 Tryz.underlying55 (by kernel_rfl) (by omega) (by_:=24) (by kernel_rfl) (by omega) (λn cs' d q h hw=>zu0 h hw) h hw
 have h3:os.length<=2^43:=by omega
 rcases h2 with ⟨rfl,rfl⟩|⟨vs,rfl,h4⟩
 .exact⟨_,[],⟨.inl ⟨rfl,rfl⟩,h3,by simp,by simp⟩,h1⟩
 .exact⟨_,os,⟨.inr ⟨false,vs,rfl,h4.mono λ_ _ h=>h.1⟩,h3,h4.right λ_ _ h=>h.2.1,h4.right λ_ _ h=>h.2.2⟩,h1⟩
def FRG(v:AV)(f:F):Prop:=FV v f/\zyk f/\RgL f.lists
theorem zC1{H:Type}{enc:TypeId × Value->H}{w:World}{n:Nat}{cs:List Value}{x:DataW H × List MemPlace}(h:DataW.trod enc yca w 0 (λ_=>true) true n 57 cs=some x)(hw:zjH 57 x.1):∃v o,FRG v o/\zb5 w v cs:=by
 obtain⟨xs,n,rfl,hx,hlen,hxl,hf⟩:=DataW.trod_struct ydO h
 have hxl':xs.length=5:=hxl
 have hlen':cs.length=5:=hlen.trans (by kernel_rfl)
 unfold zjH at hw
 rw[hx]at hw
 unfold DataW.weights at hw
 rw[ydO]at hw
 simp only at hw
 have hwt:=zmm hw
 match cs,hlen' with
 | [a,b,c,d,e],_ =>
  have c9:yca.cellsOf 9=1:=by kernel_rfl
  have c3:yca.cellsOf 3=1:=by kernel_rfl
  have c44:yca.cellsOf 44=1:=by kernel_rfl
  have c55:yca.cellsOf 55=1:=by kernel_rfl
  have f0:DataW.trod enc yca w 0 (λ_=>true) true n 9 [a]=xs[0]?:=by
   have h:DataW.trod enc yca w 0 (λ_=>true) true n 9 ((([a,b,c,d,e]:List Value).drop 0).take (yca.cellsOf 9))=xs[0]?:=hf 0 _ rfl
   rw[c9]at h;exact h
  have f1:DataW.trod enc yca w 0 (λ_=>true) true n 44 [b]=xs[1]?:=by
   have h:DataW.trod enc yca w 0 (λ_=>true) true n 44 ((([a,b,c,d,e]:List Value).drop 1).take (yca.cellsOf 44))=xs[1]?:=hf 1 _ rfl
   rw[c44]at h;exact h
  have f2:DataW.trod enc yca w 0 (λ_=>true) true n 44 [c]=xs[2]?:=by
   have h:DataW.trod enc yca w 0 (λ_=>true) true n 44 ((([a,b,c,d,e]:List Value).drop 2).take (yca.cellsOf 44))=xs[2]?:=hf 2 _ rfl
   rw[c44]at h;exact h
  have f3:DataW.trod enc yca w 0 (λ_=>true) true n 3 [d]=xs[3]?:=by
   have h:DataW.trod enc yca w 0 (λ_=>true) true n 3 ((([a,b,c,d,e]:List Value).drop 3).take (yca.cellsOf 3))=xs[3]?:=hf 3 _ rfl
   rw[c3]at h;exact h
  have f4:DataW.trod enc yca w 0 (λ_=>true) true n 55 [e]=xs[4]?:=by
   have h:DataW.trod enc yca w 0 (λ_=>true) true n 55 ((([a,b,c,d,e]:List Value).drop 4).take (yca.cellsOf 55))=xs[4]?:=hf 4 _ rfl
   rw[c55]at h;exact h
  rw[yau (by omega)]at f0 f1 f2 f3 f4
  obtain⟨s,rfl,hs⟩:=zwi f0
  have hsl:s.data.toList.length<=2^47:=zCY (H:=H) (hs▸hwt 0 9 _ rfl (by simp[yau (show 0<xs.length by omega)]))
  obtain⟨k,rfl,_⟩:=zdg f3
  obtain⟨pv,ps,⟨hp,hpl⟩,hp'⟩:=ziw f1 (hwt 1 44 _ rfl (by simp[yau (show 1<xs.length by omega)]))
  obtain⟨lv,ls,⟨hl,hll⟩,hl'⟩:=ziw f2 (hwt 2 44 _ rfl (by simp[yau (show 2<xs.length by omega)]))
  obtain⟨tv,ts,⟨ht,htl,htr,htn⟩,ht'⟩:=zpH f4 (hwt 4 55 _ rfl (by simp[yau (show 4<xs.length by omega)]))
  refine⟨_,⟨s.data.toList,ps,ls,k,ts⟩,⟨⟨pv,lv,tv,rfl,hp,hl,ht⟩,⟨hpl,hll,htl,htr,hsl,λl h w hw=>by have:=(htn l h w hw).2;omega⟩,htn⟩,rfl,λj h1 h2=>?_⟩
  have:j<5:=h2
  match j,this with
  | 0,_=>exact .str s
  | 1,_=>exact hp'.tO hp.one.2.2
  | 2,_=>exact hl'.tO hl.one.2.2
  | 3,_=>exact .int ..
  | 4,_=>exact ht'.tO ht.one.2.2
theorem zC2{H:Type}{enc:TypeId × Value->H}{w:World}{n:Nat}{cs:List Value}{x:DataW H × List MemPlace}(h:DataW.trod enc yca w 0 (λ_=>true) true n 28 cs=some x)(hw:zjH 28 x.1):∃v m,MV v m/\m.funcs.length<=2^47/\(∀f∈m.funcs,zyk f)/\(∀f∈m.funcs,RgL f.lists)/\zb5 w v cs:=by
 obtain⟨xs,n,rfl,hx,hlen,hxl,hf⟩:=DataW.trod_struct ydP h
 have hxl':xs.length=3:=hxl
 have hlen':cs.length=3:=hlen.trans (by kernel_rfl)
 unfold zjH at hw
 rw[hx]at hw
 unfold DataW.weights at hw
 rw[ydP]at hw
 simp only at hw
 have hwt:=zmm hw
 match cs,hlen' with
 | [a,b,c],_ =>
  have c26:yca.cellsOf 26=1:=by kernel_rfl
  have c3:yca.cellsOf 3=1:=by kernel_rfl
  have f0:DataW.trod enc yca w 0 (λ_=>true) true n 26 [a]=xs[0]?:=by
   have h:DataW.trod enc yca w 0 (λ_=>true) true n 26 ((([a,b,c]:List Value).drop 0).take (yca.cellsOf 26))=xs[0]?:=hf 0 _ rfl
   rw[c26]at h;exact h
  have f1:DataW.trod enc yca w 0 (λ_=>true) true n 3 [b]=xs[1]?:=by
   have h:DataW.trod enc yca w 0 (λ_=>true) true n 3 ((([a,b,c]:List Value).drop 1).take (yca.cellsOf 3))=xs[1]?:=hf 1 _ rfl
   rw[c3]at h;exact h
  have f2:DataW.trod enc yca w 0 (λ_=>true) true n 3 [c]=xs[2]?:=by
   have h:DataW.trod enc yca w 0 (λ_=>true) true n 3 ((([a,b,c]:List Value).drop 2).take (yca.cellsOf 3))=xs[2]?:=hf 2 _ rfl
   rw[c3]at h;exact h
  rw[yau (by omega)]at f0 f1 f2
  obtain⟨k1,rfl,_⟩:=zdg f1
  obtain⟨k2,rfl,_⟩:=zdg f2
  obtain⟨fv,fs,h1,h2,h3⟩:=zeu (sz:=5) FRG Tryz.underlying26 (by kernel_rfl) (by omega) (by_:=96) (by kernel_rfl) (by omega) (λn cs' d q h hw=>zC1 h hw) f0 (hwt 0 26 _ rfl (by simp[yau (show 0<xs.length by omega)]))
  have hfv:FsV fv fs/\∀f∈fs,∃v,FRG v f:=by
   rcases h2 with ⟨rfl,rfl⟩|⟨vs,rfl,h4⟩
   .exact⟨.inl ⟨rfl,rfl⟩,by simp⟩
   .exact⟨.inr ⟨false,vs,rfl,h4.mono λ_ _ h=>h.1⟩,h4.right λv _ h=>⟨v,h⟩⟩
  obtain⟨hfv,hall⟩:=hfv
  refine⟨_,⟨fs,k1,k2⟩,⟨fv,rfl,hfv⟩,by simp only;omega,λf hf=>?_,λf hf=>?_,rfl,λj h4 h5=>?_⟩
  .obtain⟨v,h⟩:=hall f hf;exact h.2.1
  .obtain⟨v,h⟩:=hall f hf;exact h.2.2
  have:j<3:=h5
  match j,this with
  | 0,_=>exact h1.tO hfv.one.2.2
  | 1,_=>exact .int ..
  | 2,_=>exact .int ..
theorem zC3{H:Type}{enc:TypeId × Value->H}{W:World}{v:Value}{d:DataW H}{p:List MemPlace}{base:Nat}(hval:Value.okWide yca W .any base 28 v)(h:DataW.Trod enc yca W 0 (λ_=>true) true 28 v d p)
  (hw:zjH 28 d):∃mv m,MV mv m/\m.funcs.length<=2^47/\(∀f∈m.funcs,zyk f)/\(∀f∈m.funcs,RgL f.lists)/\VR (Mp.all W) AS.zero.F W mv v:=by
 obtain⟨cs,rfl,hsz⟩:=okWide_struct ydP hval
 obtain⟨fuel,hf⟩:=h
 obtain⟨mv,m,h1,h2,h3,h4,h5⟩:=zC2 hf hw
 obtain⟨fv,rfl,hfs⟩:=h1
 refine⟨_,m,⟨fv,rfl,hfs⟩,h2,h3,h4,.agg _ _ ?_ λj h h'=>?_⟩
 .have:=h5.1
  simp[AV.cells,Value.cells]at this ⊢
  omega
 .exact h5.2 j h (by simpa [Value.cells]using h')
theorem zrF{H:Type}{enc:TypeId × Value->H}{W:World}{v:Value}{d:DataW H}{p:List MemPlace}{base:Nat}(hval:Value.okWide yca W .any base 44 v)(h:DataW.Trod enc yca W 0 (λ_=>true) true 44 v d p)
  (hw:zjH 44 d):∃iv input,zaf iv input/\input.length<=2^44/\VR (Mp.all W) AS.zero.F W iv v:=by
 obtain⟨a,len,cap,rfl⟩:=okWide_slice ydN hval
 obtain⟨fuel,hf⟩:=h
 obtain⟨iv,input,⟨h1,h2⟩,h4⟩:=ziw (cs:=[.slice a len cap]) hf hw
 exact⟨iv,input,h1,by omega,h4.tO h1.one.2.2⟩
def zgR(M:Mp):Mp:={ M with role:=λB=>match M.role B with
  | some (.fam _)=>some .stat
  | r=>r }
def zu1:Nat->FSt:=λ_=>.dead
def zmp(J:AS):AS:={ J with F:=zu1 }
@[simp] theorem zAw(J:AS):(zmp J).objs=J.objs:=rfl
@[simp] theorem zEt(J:AS):(zmp J).no=J.no:=rfl
theorem zrG{M:Mp}{B f:Nat}(h:M.role B=some (.fam f)):(zgR M).role B=some .stat:=by simp[zgR,h]
theorem ze9{M:Mp}{B:Nat}{r:Role}(h:M.role B=some r)(hr:∀f,r≠.fam f):(zgR M).role B=some r:=by
 cases r with
 | fam f=>exact absurd rfl (hr f)
 | st m=>simp[zgR,h]
 | obj=>simp[zgR,h]
theorem zkU{M:Mp}{F:Nat->FSt}{w:World}:Ext M F w (zgR M) zu1 w where
 io:=.refl _
 no:=yah _
 nf:=yah _
 obj _ _:=rfl
 dead _ _ _:=rfl
 spoil _ _ _:=by simp[zu1]
 size:=yah _
 shape _ _ _ _ h:=.same h rfl
 stat B m h:=⟨ze9 h (λf q=>by cases q),.inl rfl⟩
 free B _ h:=⟨by simp[zgR,h],rfl⟩
 famr _ _ _ _ h:=absurd rfl h
 famc _ _ _ _ _:=rfl
end Go.Proofs.YtohfclafhegadaaGreatDoor
namespace Go.Abs
open Go Go.Abs Go.RowKit Go.ChangeShapes Go.WideShapes
open Go.Proofs.YtohfclafhegadaaGreatDoor
theorem Sim.kill{M:Mp}{J:AS}{w:World}(S:Sim M J w):Sim (zgR M) (zmp J) w where
 no:=S.no
 nf:=S.nf
 role B r h:=by
  cases hq:M.role B with
  | none=>simp[zgR,hq]at h
  | some r'=>exact S.role B r' hq
 obj o cs h:=by
  obtain⟨h1,h2,h3⟩:=S.obj o cs h
  refine⟨h1,ze9 h2 (λf q=>by cases q),λj hj=>?_⟩
  obtain⟨c,a,b,d⟩:=h3 j hj
  exact⟨c,a,b,d.mono zkU⟩
 inj:=S.inj
end Go.Abs
namespace Go.Proofs.YtohfclafhegadaaGreatDoor
open Go Go.Abs Go.RowKit Go.ChangeShapes Go.WideShapes
end Go.Proofs.YtohfclafhegadaaGreatDoor
namespace Go.Abs
open Go Go.Abs Go.RowKit Go.ChangeShapes Go.WideShapes
open Go.Proofs.YtohfclafhegadaaGreatDoor
theorem VR.kill{M:Mp}{F:Nat->FSt}{w:World}{v:AV}{c:Value}(h:VR M F w v c)(hs:Cb F v):VR (zgR M) zu1 w (Go.Proofs.YtohfclafhegadaaGreatDoor.clm v) c :=
 h.clmTo (λ_ m h=>ze9 h (λf q=>by cases q)) (λ_ f h=>⟨false,zrG h⟩) hs
end Go.Abs
namespace Go.Proofs.YtohfclafhegadaaGreatDoor
open Go Go.Abs Go.RowKit Go.ChangeShapes Go.WideShapes
theorem zC4{P:Program}{G:Env}{f:FuncId}{args:List AV}{J:AS}{R:Out->AS->Prop}
  (h:ACalls P G f args J λo J'=>R o J'\/(∃v,o=.ret v/\Cb J'.F v/\R (.ret (clm v)) (zmp J'))\/∃vs,o=.ret (.tuple vs)/\(∀v∈vs,Cb J'.F v)/\R (.ret (.tuple (vs.map clm))) (zmp J')):ACalls P G f args J R:=by
 intro M w cargs S g c
 refine(h M w cargs S g c).mono λe w' ⟨o,J',M',hR,h2,h3,h4⟩=>?_
 rcases hR with hR|⟨v,ho,hv,hR⟩|⟨vs,ho,hv,hR⟩
 .exact⟨o,J',M',hR,h2,h3,h4⟩
 .subst ho
  refine⟨_,_,zgR M',hR,?_,h3.kill,h4.trans zkU⟩
  cases e<;>simp only[zbx]at h2 ⊢
  exact h2.kill hv
 .subst ho
  refine⟨_,_,zgR M',hR,?_,h3.kill,h4.trans zkU⟩
  cases e<;>simp only[zbx]at h2 ⊢
  generalize hq:AV.tuple vs=t at h2
  cases h2 with
  | tuple ws A hA va =>
   cases hq
   refine .tuple _ _ (by simpa using hA) λj h h'=>?_
   rw[List.getElem_map]
   exact(va j (by simpa using h) h').kill (hv _ (yaw _))
  | _=>cases hq
def SJ(va vb:AV)(p q:List Int)(J:AS)(a:Nat->AV)(Z:AS):Prop:=∃i:Nat,i<=p.length/\a 0=va/\a 1=vb/\a 5=.int .i64 (i:Int)/\Z=J/\p.take i=q.take i
theorem zi5{G:Env}{J:AS}{R:Out->AS->Prop}{va vb:AV}{p q:List Int}(ha:zaf va p)(hb:zaf vb q)(hl:p.length<=2^40)(h:R (.ret (.bool (decide (p=q)))) J):zzQ G 79 [va,vb] J R:=by
 refine zqJ rfl ?_
 have hal:=ha.len
 have hbl:=hb.len
 by_cases he:p.length=q.length
 .have he':(p.length:Int)=(q.length:Int):=by omega
  simp[zEb,hal,hbl,he]
  refine zS (SJ va vb p q J) (MU 5 (p.length+1)) ⟨0,by omega,by simp,by simp,by simp,rfl,by simp⟩ λa Z hI=>?_
  obtain⟨i,hi,a0,a1,a5,rfl,ht⟩:=hI
  by_cases hlt:i<p.length
  .have hlq:i<q.length:=by omega
   obtain⟨b1,hx1⟩:=ha.at hlt
   obtain⟨b2,hx2⟩:=hb.at hlq
   have w5:yb5 .i64 ((i:Int)+1)=((i+1:Nat):Int):=by rw[wrap_i64]<;>omega
   by_cases hv:p[i]=q[i]
   .simp[ze1,a0,a1,a5,hal,hlt,hx1,hx2,hv,w5]
    refine⟨⟨i+1,by omega,by simp[a0],by simp[a1],by simp,rfl,?_⟩,?_⟩
    .rw[ycP hlt,ycP hlq,ht,hv]
    .simp only[MU,a5];simp;omega
   .have hne:p≠q:=by rintro rfl;exact hv rfl
    rw[decide_eq_false hne]at h
    simp[ze1,a0,a1,a5,hal,hlt,hx1,hx2,hv]
    exact h
  .have e:i=p.length:=by omega
   subst e
   rw[ycQ,ydn (by omega)]at ht
   rw[decide_eq_true ht]at h
   simp[ze1,zm5,a0,a1,a5,hal]
   exact h
 .have hne:p≠q:=by rintro rfl;exact he rfl
  rw[decide_eq_false hne]at h
  have he':¬(p.length:Int)=(q.length:Int):=by omega
  simp[zEb,hal,hbl,he']
  exact h
end Go.Proofs.YtohfclafhegadaaGreatDoor


namespace Go.Proofs.YtohfclafhegadaaGreatDoor
open Go Go.Abs
structure zap where
 input:List Int
 steps:Int
 memory:List UInt8
 out:List Int
 calls:Int
structure Fr where
 fn:F
 locals:List Int
 stack:List Int
 result:Int
inductive Ev(α:Type) where
 | ok (a:α) (x:zap) (r:Fr)
 | over (status code:Int) (x:zap)
 | bad
def Fr.push(r:Fr)(v:Int):Fr:={ r with stack:=r.stack++[v] }
def zbQ{α:Type}(r:Fr)(k:Int->Fr->Ev α):Ev α:=match r.stack.getLast? with
 | none=>.bad
 | some v=>k v { r with stack:=r.stack.dropLast }
def zfa(k:IntKind)(op:List UInt8)(a b:Int):Int × Int :=
 if b=0 then(0,1)
 else if op=[37]/\b=-1 then(0,0)
 else if op=[37]then(a.tmod b,0)
 else if b=-1/\a≠0/\k.wrap (-a)=a then(0,2)
 else(k.wrap (a.tdiv b),0)
def zsk(b:Bool):Int:=if b then 1 else 0
def zrH(k:IntKind)(op:List UInt8)(a b:Int)(width:Int):Int :=
 let n:=zag .u64 (· &&& ·) (ydQ.wrap b) (ydQ.wrap (width-1))
 if op=[43]then k.wrap (a+b)
 else if op=[45]then k.wrap (a-b)
 else if op=[42]then k.wrap (a*b)
 else if op=[38]then zag k (· &&& ·) a b
 else if op=[124]then zag k (· ||| ·) a b
 else if op=[94]then zag k (· ^^^ ·) a b
 else if op=[60,60]then k.wrap (a*2^(min n.toNat k.bits))
 else if op=[62,62]then a.fdiv (2^(min n.toNat k.bits))
 else if op=[61,61]then zsk (decide (a=b))
 else if op=[33,61]then zsk (!decide (a=b))
 else if op=[60]then zsk (decide (a<b))
 else if op=[60,61]then zsk (decide (a<=b))
 else if op=[62]then zsk (decide (b<a))
 else if op=[62,61]then zsk (decide (b<=a))
 else 0
def zu2(k:IntKind)(op:List UInt8)(a b:Int)(width:Int):Int × Int :=
 if op=[47]\/op=[37]then zfa k op a b else(zrH k op a b width,0)
def zAx(t:Int)(op:List UInt8)(a b:Int):Int × Int :=
 if t=1 then(yam.wrap (zu2 .i32 op (ydR.wrap a) (ydR.wrap b) 32).1,(zu2 .i32 op (ydR.wrap a) (ydR.wrap b) 32).2)
 else if t=2 then zu2 .i64 op a b 64
 else(0,0)
def zd3:List UInt8->Int
 | []=>0
 | c::l=>(c.toNat:Int)+256*zd3 l
def zym(l:List UInt8):Int:=if zd3 l<2^(8*l.length-1)then zd3 l else zd3 l-2^(8*l.length)
def zrI(v:Int)(i:Nat):UInt8:=UInt8.ofNat (ydS.wrap (v.fdiv (2^(8*i)))).toNat
def zix{α:Type}(x:zap)(at_ n:Int)(k:List UInt8->Ev α):Ev α :=
 if n<1\/8<n then .bad else if at_<0\/(x.memory.length:Int)-n<at_ then .over 2 3 x else k ((x.memory.drop at_.toNat).take n.toNat)
def zcT(mem:List UInt8)(at_:Nat)(v:Int)(n:Nat):List UInt8:=mem.take at_++(List.range n).map (zrI v)++mem.drop (at_+n)
abbrev zfb:=zap->Fr->Int->Int->Ev Int
def zbW(rec:zfb)(x:zap)(g:F)(args:List Int)(r:Fr):Ev Int :=
 if 32<=x.calls then .over 2 4 x
 else match rec { x with calls:=x.calls+1 } ⟨g,args++yaj g.locals.length 0,[],0⟩ ((g.lists.length:Int)-1) 0 with
  | .bad=>.bad
  | .over s c x=>.over s c x
  | .ok o x f=>if o=-1/\g.type≠0 then zbQ f λv f'=>.ok v { x with calls:=x.calls-1 } r else .ok f.result { x with calls:=x.calls-1 } r
def z9(fs:List F)(rec:zfb)(x:zap)(r:Fr)(n:Int):Ev Unit :=
 if n=0 then match x.input with
  | []=>.ok () x (r.push 0)
  | v::l=>.ok () { x with input:=l } (r.push v)
 else if n=1 then zbQ r λv r=>.ok () { x with out:=x.out++[v] } r
 else if n=2 then zbQ r λv r=>.over 2 v x
 else if n<3 then .bad
 else match fs[(n-3).toNat]? with
  | none=>.bad
  | some g =>
   if r.stack.length<g.params.length then .bad
   else match zbW rec x g (r.stack.drop (r.stack.length-g.params.length)) { r with stack:=r.stack.take (r.stack.length-g.params.length) }with
    | .bad=>.bad
    | .over s c x=>.over s c x
    | .ok v x r=>.ok () x (if g.type≠0 then r.push v else r)
def zaa(fs:List F)(rec:zfb)(w:W)(x:zap)(r:Fr):Ev Unit :=
 if w.op=1 then .ok () x (r.push w.n)
 else if w.op=2 then(if w.n<0 then .bad else match r.locals[w.n.toNat]? with
  | none=>.bad
  | some v=>.ok () x (r.push v))
 else if w.op=3 then(if w.n<0\/(r.locals.length:Int)<=w.n then .bad else zbQ r λv r=>.ok () x { r with locals:=r.locals.set w.n.toNat v })
 else if w.op=4 then zbQ r λb r=>zbQ r λa r =>
  if(zAx w.ty (zbn signs w.name) a b).2≠0 then .over 2 (zAx w.ty (zbn signs w.name) a b).2 x else .ok () x (r.push (zAx w.ty (zbn signs w.name) a b).1)
 else if w.op=5 then zbQ r λv r=>.ok () x (r.push (if v=0 then 1 else 0))
 else if w.op=6 then zbQ r λv r=>.ok () x (r.push (ydR.wrap v))
 else if w.op=8 then zbQ r λa r=>zix x a w.n λl=>.ok () x (r.push (zym l))
 else if w.op=9 then zbQ r λv r=>zbQ r λa r=>zix x a w.n λl=>.ok () { x with memory:=zcT x.memory a.toNat v l.length } r
 else if w.op=10 then z9 fs rec x r w.n
 else if w.op=17 then .over 2 5 x
 else if w.op=18 then zbQ r λv r=>.ok () x r
 else .ok () x r
def zcp(rec:zfb)(isLoop:Bool)(at_ deep:Int):Nat->zap->Fr->Ev Int
 | 0,_,_=>.bad
 | j+1,x,r=>match rec x r at_ deep with
  | .bad=>.bad
  | .over s c x=>.over s c x
  | .ok o x r=>if o=0/\isLoop=true then zcp rec isLoop at_ deep j x r else .ok (if 0<o then o-1 else -1) x r
def zaB(rec:zfb)(k:Nat)(w:W)(deep:Int)(x:zap)(r:Fr):Ev Int :=
 let go (at_:Int) (r:Fr):=if at_<0 then Ev.ok (-1) x r else zcp rec (decide (w.op=12)) at_ deep k x r
 if w.op=13 then zbQ r λc r=>go (if c=0 then w.other else w.body) r else go w.body r
def zgS(w:W)(deep:Int)(x:zap)(r:Fr):Ev Int :=
 let go (n:Int) (r:Fr):=if n=deep/\r.fn.type≠0 then zbQ r λv r=>Ev.ok n x { r with result:=v }else .ok n x r
 if w.op=16 then go deep r
 else if w.op=15 then zbQ r λc r=>if c=0 then .ok (-1) x r else go w.n r
 else go w.n r
def zbX(fs:List F)(rec:zfb)(k:Nat)(deep:Int)(w:W)(x:zap)(r:Fr):Ev Int :=
 if w.op=11\/w.op=12\/w.op=13 then zaB rec k w (deep+1) x r
 else if w.op=14\/w.op=15\/w.op=16 then zgS w deep x r
 else match zaa fs rec w x r with
  | .bad=>.bad
  | .over s c x=>.over s c x
  | .ok _ x r=>.ok (-1) x r
def zan(fs:List F)(rec:zfb)(k:Nat)(deep:Int)(height:Nat):List W->zap->Fr->Ev Int
 | [],x,r=>.ok (-1) x r
 | w::ws,x,r=>if x.steps<1 then .over 3 0 x else
  match zbX fs rec k deep w { x with steps:=x.steps-1 } r with
  | .bad=>.bad
  | .over s c x=>.over s c x
  | .ok o x r=>if o=-1 then zan fs rec k deep height ws x r else if r.stack.length<height then .bad else .ok o x { r with stack:=r.stack.take height }
def zkV(fs:List F):Nat->zfb
 | 0,_,_,_,_=>.bad
 | k+1,x,r,at_,deep=>if at_<0 then .bad else match r.fn.lists[at_.toNat]? with
  | none=>.bad
  | some ws=>zan fs (zkV fs k) k deep r.stack.length ws x r
def zp0(m:M)(input:List Int)(steps:Int)(k:Nat):Option (List Int × Int × Int) :=
 if m.main<0 then none else match m.funcs[m.main.toNat]? with
 | none=>none
 | some g=>match zbW (zkV m.funcs k) ⟨input,steps,yaj m.memory.toNat 0,[],0⟩ g [] ⟨g,[],[],0⟩with
  | .bad=>none
  | .over s c x=>some (x.out,s,c)
  | .ok v x _=>some (x.out,1,v)
theorem zab:∀{ts:List Int} {s s':St},zW ts s=.ok s'->s.any=false->s'.any=false/\s'.stack.length+ts.length=s.stack.length
 | [],s,s',h,ha=>by simp[zW]at h;subst h;exact⟨ha,by simp⟩
 | t::ts,s,s',h,ha=>by
  rw[zW]at h
  split at h
  .cases hd:zdt s with
   | error e=>rw[hd]at h;cases h
   | ok s1 =>
    rw[hd]at h
    unfold zdt at hd
    split at hd
    .rw[ha]at hd;cases hd
    .rename_i hne
     cases hd
     obtain⟨a1,a2⟩:=zab h ha
     simp only[List.length_dropLast]at a2
     exact⟨a1,by simp only[yac];omega⟩
  .cases h
theorem zrJ{s s':St}(h:zdt s=.ok s')(ha:s.any=false):s'.any=false/\s'.stack.length+1=s.stack.length:=by
 unfold zdt at h
 split at h
 .rw[ha]at h;cases h
 .cases h;exact⟨ha,by simp;omega⟩
theorem zd4(s:St)(t:Int):(zc9 s t).any=s.any/\(zc9 s t).stack.length=s.stack.length+(if t=0 then 0 else 1):=by
 unfold zc9;split<;>simp
theorem zbK{r:Res St}{t:Int}{s':St}(h:zf2 r t=.ok s'):∃s,r=.ok s/\s'=zc9 s t:=by
 cases r with
 | error e=>cases h
 | ok s=>exact⟨s,rfl,by cases h;rfl⟩
theorem zcw{ty:Int}{s s':St}(h:zw ty s=.ok s')(ha:s.any=false):s'.any=false/\s'.stack.length+(if ty=0 then 0 else 1)=s.stack.length:=by
 unfold zw at h
 by_cases h0:ty=0
 .rw[if_pos h0]at h ⊢;cases h;exact⟨ha,rfl⟩
 .rw[if_neg h0]at h ⊢;have:=zab h ha;simpa using this
theorem zfc{α:Type}{r:Fr}{k:Int->Fr->Ev α}(h:0<r.stack.length):∃v st,st.length+1=r.stack.length/\zbQ r k=k v { r with stack:=st }:=by
 unfold zbQ
 have hne:r.stack≠[]:=ybn.1 h
 rw[ydT hne]
 exact⟨_,_,by simp;omega,rfl⟩
structure zyn(fs:List F)(r:Fr):Prop where
 mem:r.fn∈fs
 loc:r.locals.length=(r.fn.params++r.fn.locals).length
structure Beh(d:Int)(x x':zap):Prop where
 steps:x'.steps<=x.steps
 low:min x.steps 0<=x'.steps
 out:∃l,x'.out=x.out++l/\(l.length:Int)<=x.steps-x'.steps+d
theorem Beh.refl(x):Beh 0 x x:=⟨ydU _,by omega,[],by simp,by simp⟩
theorem Beh.trans{d e a b c}(h:Beh d a b)(k:Beh e b c):Beh (d+e) a c:=by
 obtain⟨h1,h4,l,h2,h3⟩:=h
 obtain⟨k1,k4,m,k2,k3⟩:=k
 exact⟨by omega,by omega,l++m,by rw[k2,h2,ydf],by simp;omega⟩
theorem Beh.trans0{d a b c}(h:Beh 0 a b)(k:Beh d b c):Beh d a c:=by have:=h.trans k;simpa using this
theorem Beh.weak{d e x x'}(h:Beh d x x')(hd:d<=e):Beh e x x':=⟨h.steps,h.low,let ⟨l,a,b⟩:=h.out;⟨l,a,by omega⟩⟩
theorem Beh.step{x x':zap}(h:Beh 1 { x with steps:=x.steps-1 } x')(hx:1<=x.steps):Beh 0 x x'/\x'.steps<x.steps:=by
 obtain⟨h1,h4,l,h2,h3⟩:=h
 simp only at h1 h2 h3 h4
 exact⟨⟨by omega,by omega,l,h2,by omega⟩,by omega⟩
def ziy(s c:Int):Prop:=s=2\/(s=3/\c=0)
def zGx(x:zap)(r:Fr)(deep:Int):Ev Int->Prop
 | .bad=>False
 | .over s c x'=>Beh 0 x x'/\ziy s c
 | .ok o x' r'=>Beh 0 x x'/\r'.fn=r.fn/\r'.locals.length=r.locals.length/\(o=-1->r'.stack.length=r.stack.length+(if deep=0/\r.fn.type≠0 then 1 else 0)) /\
   (o≠-1->0<=o/\o<=deep/\r'.stack.length=r.stack.length/\x'.steps<x.steps/\0<x.steps)
def znG(fs:List F)(rec:zfb)(n:Nat):Prop:=∀(x:zap) (r:Fr) (at_ deep:Int) (K:Nat),zyn fs r->x.steps.toNat<n->0<=deep->0<=at_->at_<(r.fn.lists.length:Int) ->
 zP fs (r.fn.params++r.fn.locals) r.fn.type r.fn.lists K at_ deep=.ok ()->zGx x r deep (rec x r at_ deep)
def zC5(d:Int)(x:zap)(r:Fr)(h:Nat)(s':St)(deep:Int):Ev Int->Prop
 | .bad=>False
 | .over s c x'=>Beh d x x'/\ziy s c
 | .ok o x' r'=>Beh d x x'/\r'.fn=r.fn/\r'.locals.length=r.locals.length/\(o=-1->s'.any=false/\r'.stack.length=h+s'.stack.length)/\(o≠-1->0<=o/\o<=deep/\h<=r'.stack.length)
def zEu(x:zap)(r:Fr)(h:Nat)(s':St):Ev Unit->Prop
 | .bad=>False
 | .over s c x'=>Beh 1 x x'/\ziy s c
 | .ok _ x' r'=>Beh 1 x x'/\r'.fn=r.fn/\r'.locals.length=r.locals.length/\s'.any=false/\r'.stack.length=h+s'.stack.length
theorem zi6{fs:List F}{f:F}(h:zm fs f=.ok ()):∃K,zP fs (f.params++f.locals) f.type f.lists K ((f.lists.length:Int)-1) 0=.ok ():=by
 unfold zm at h
 split at h
 .cases h
 .split at h
  .cases h
  .exact⟨_,h⟩
section
variable {fs : List F} {rec : zfb} {n : Nat} (hv : ∀ f ∈ fs,zm fs f = .ok ())
include hv
theorem zjJ(hs:znG fs rec n){x:zap}(hx:x.steps.toNat<n){g:F}(hg:g∈fs){args:List Int}(ha:args.length=g.params.length)(r:Fr):
  match zbW rec x g args r with
  | .bad=>False
  | .over s c x'=>Beh 0 x x'/\ziy s c
  | .ok _ x' r'=>Beh 0 x x'/\r'=r:=by
 unfold zbW
 by_cases hc:32<=x.calls
 .rw[if_pos hc];exact⟨.refl _,.inl rfl⟩
 .rw[if_neg hc]
  obtain⟨K,hK⟩:=zi6 (hv g hg)
  have hl:=(zcl (zal (hv g hg))).1
  have:=hs { x with calls:=x.calls+1 } ⟨g,args++yaj g.locals.length 0,[],0⟩ ((g.lists.length:Int)-1) 0 K ⟨hg,by simp[ha]⟩ hx (by omega) (by omega) (by simp only;omega) hK
  revert this
  cases rec { x with calls:=x.calls+1 } ⟨g,args++yaj g.locals.length 0,[],0⟩ ((g.lists.length:Int)-1) 0 with
  | bad=>intro h;exact h
  | over s c x'=>intro h;exact⟨⟨h.1.steps,h.1.low,h.1.out⟩,h.2⟩
  | ok o x' f =>
   intro ⟨h1,h2,h3,h4,h5⟩
   simp only at h4 ⊢
   by_cases ho:o=-1/\g.type≠0
   .rw[if_pos ho]
    have:=h4 ho.1
    rw[if_pos ⟨trivial,ho.2⟩]at this
    obtain⟨v,st,_,e⟩:=zfc (r:=f) (k:=λv f'=>Ev.ok v { x' with calls:=x'.calls-1 } r) (by simp at this;omega)
    rw[e]
    exact⟨⟨h1.steps,h1.low,h1.out⟩,rfl⟩
   .rw[if_neg ho]
    exact⟨⟨h1.steps,h1.low,h1.out⟩,rfl⟩
theorem plain_sound(hs:znG fs rec n){x:zap}(hx:x.steps.toNat<n){r:Fr}(hr:zyn fs r){w:W}{s s':St}{h:Nat}(ha:s.any=false)(hst:r.stack.length=h+s.stack.length){deep:Int}
  (hform:zQ w=true) (hrg:zH fs (r.fn.params++r.fn.locals) deep w=true) (hnum:(r.fn.params++r.fn.locals).all zT=true) (hp:zbO fs (r.fn.params++r.fn.locals) w s=.ok s') (hop:w.op<=10\/w.op=18):zEu x r h s' (zaa fs rec w x r):=by
 have b0:Beh 1 x x:=(Beh.refl x).weak (by omega)
 have nz:∀{t:Int},zT t=true->t≠0:=by
  intro t ht q;subst q;simp[zT]at ht
 have push:∀{x':zap} {r1:Fr} {s1:St} {t v:Int},Beh 1 x x'->r1.fn=r.fn->r1.locals.length=r.locals.length->s1.any=false->r1.stack.length=h+s1.stack.length->t≠0->zEu x r h (zc9 s1 t) (.ok () x' (r1.push v)):=by
  intro x' r1 s1 t v b e1 e2 a l ht
  have g:=zd4 s1 t
  refine⟨b,e1,e2,g.1.trans a,?_⟩
  rw[g.2,if_neg ht]
  simp[Fr.push,l];omega
 have pop:∀{r1:Fr} {s1 s2:St} {k:Int->Fr->Ev Unit},r1.fn=r.fn->r1.locals.length=r.locals.length->r1.stack.length=h+(s1.stack.length+1)->(∀v (r2:Fr),r2.fn=r.fn->r2.locals.length=r.locals.length->r2.stack.length=h+s1.stack.length->zEu x r h s2 (k v r2))->zEu x r h s2 (zbQ r1 k):=by
  intro r1 s1 s2 k e1 e2 l hk
  obtain⟨v,st,hl,e⟩:=zfc (r:=r1) (k:=k) (by omega)
  rw[e]
  exact hk v _ e1 e2 (by simp only;omega)
 unfold zbO at hp
 unfold zaa
 by_cases h1:w.op=1
 .rw[if_pos h1]at hp ⊢
  cases hp
  exact push b0 rfl rfl ha hst (nz (by simpa [zQ,h1]using hform))
 rw[if_neg h1]at hp ⊢
 by_cases h2:w.op=2
 .rw[if_pos h2]at hp ⊢
  cases hp
  have hr2:0<=w.n/\w.n<(((r.fn.params++r.fn.locals).length:Nat):Int):=by simpa [zH,h1,h2]using hrg
  rw[if_neg (by omega)]
  have hlt:w.n.toNat<r.locals.length:=by rw[hr.loc];omega
  rw[yau hlt]
  refine push b0 rfl rfl ha hst (nz ?_)
  unfold zhY
  have hlt2:w.n.toNat<(r.fn.params++r.fn.locals).length:=by omega
  rw[ycJ,yau hlt2]
  exact yaM.1 hnum _ (yaw hlt2)
 rw[if_neg h2]at hp ⊢
 by_cases h3:w.op=3
 .rw[if_pos h3]at hp ⊢
  have hr2:0<=w.n/\w.n<(((r.fn.params++r.fn.locals).length:Nat):Int):=by simpa [zH,h1,h2,h3]using hrg
  rw[if_neg (by rw[hr.loc];omega)]
  obtain⟨a1,l1⟩:=zab hp ha
  simp only[yac,ybm]at l1
  exact pop (s1:=s') rfl rfl (by omega) λv r2 e1 e2 l=>⟨b0,e1,by simpa using e2,a1,l⟩
 rw[if_neg h3]at hp ⊢
 by_cases h4:w.op=4
 .rw[if_pos h4]at hp ⊢
  obtain⟨s1,e1,rfl⟩:=zbK hp
  obtain⟨a1,l1⟩:=zab e1 ha
  simp only[yac,ybm]at l1
  have hty:w.ty≠0:=nz (by
   simp[zQ,h4]at hform
   exact hform.1)
  have hcmp:(if zCq w.name=true then(1:Int)else w.ty)≠0:=by split<;>omega
  clear hp
  generalize (if zCq w.name=true then(1:Int)else w.ty)=tt at hcmp ⊢
  refine pop (s1:=⟨0::s1.stack,false⟩) rfl rfl (by simp only[yac];omega) λb r2 e2 e3 l2=>?_
  refine pop (s1:=s1) e2 e3 (by simpa using l2) λa r3 e4 e5 l3=>?_
  split
  .exact⟨b0,.inl rfl⟩
  .exact push b0 e4 e5 a1 l3 hcmp
 rw[if_neg h4]at hp ⊢
 by_cases h5:w.op=5
 .rw[if_pos h5]at hp ⊢
  obtain⟨s1,e1,rfl⟩:=zbK hp
  obtain⟨a1,l1⟩:=zab e1 ha
  simp only[yac,ybm]at l1
  exact pop (s1:=s1) rfl rfl (by omega) λv r2 e1 e2 l=>push b0 e1 e2 a1 l (by omega)
 rw[if_neg h5]at hp ⊢
 by_cases h6:w.op=6
 .rw[if_pos h6]at hp ⊢
  obtain⟨s1,e1,rfl⟩:=zbK hp
  obtain⟨a1,l1⟩:=zab e1 ha
  simp only[yac,ybm]at l1
  exact pop (s1:=s1) rfl rfl (by omega) λv r2 e1 e2 l=>push b0 e1 e2 a1 l (by omega)
 rw[if_neg h6]at hp ⊢
 by_cases h7:w.op=7
 .rw[if_pos h7]at hp
  obtain⟨s1,e1,rfl⟩:=zbK hp
  obtain⟨a1,l1⟩:=zab e1 ha
  simp only[yac,ybm]at l1
  rw[if_neg (by omega),if_neg (by omega),if_neg (by omega),if_neg (by omega),if_neg (by omega)]
  have g:=zd4 s1 2
  exact⟨b0,rfl,rfl,g.1.trans a1,by rw[g.2,if_neg (by omega)];omega⟩
 rw[if_neg h7]at hp
 by_cases h8:w.op=8
 .rw[if_pos h8]at hp ⊢
  obtain⟨s1,e1,rfl⟩:=zbK hp
  obtain⟨a1,l1⟩:=zab e1 ha
  simp only[yac,ybm]at l1
  have hty:w.ty≠0:=by
   intro q
   simp[zQ,h1,h4,h5,h8,zfx,q]at hform
  have hn:¬(w.n<1\/8<w.n):=by simp[zQ,h1,h4,h5,h8,zfx]at hform;omega
  refine pop (s1:=s1) rfl rfl (by omega) λa r2 e1 e2 l=>?_
  unfold zix
  rw[if_neg hn]
  split
  .exact⟨b0,.inl rfl⟩
  .exact push b0 e1 e2 a1 l hty
 rw[if_neg h8]at hp ⊢
 by_cases h9:w.op=9
 .rw[if_pos h9]at hp ⊢
  obtain⟨a1,l1⟩:=zab hp ha
  simp only[yac,ybm]at l1
  refine pop (s1:=⟨0::s'.stack,false⟩) rfl rfl (by simp only[yac];omega) λv r2 e2 e3 l2=>?_
  have hn:¬(w.n<1\/8<w.n):=by simp[zQ,h1,h4,h5,h9,zfx]at hform;omega
  refine pop (s1:=s') e2 e3 (by simpa using l2) λa r3 e4 e5 l3=>?_
  unfold zix
  rw[if_neg hn]
  split
  .exact⟨b0,.inl rfl⟩
  .exact⟨⟨b0.steps,b0.low,b0.out⟩,e4,e5,a1,l3⟩
 rw[if_neg h9]at hp ⊢
 by_cases h10:w.op=10
 .rw[if_pos h10]at hp ⊢
  have hh:(zaY fs w.n).isSome=true:=by simpa [zH,h1,h2,h3,h10]using hrg
  unfold z9
  unfold zaY at hp hh
  by_cases n0:w.n=0
  .rw[if_pos n0]at hp ⊢
   simp only[ydV]at hp
   obtain⟨s1,e1,rfl⟩:=zbK hp
   cases e1
   cases x.input with
   | nil=>exact push b0 rfl rfl ha hst (by omega)
   | cons v l=>exact push ⟨b0.steps,b0.low,b0.out⟩ rfl rfl ha hst (by omega)
  rw[if_neg n0]at hp hh ⊢
  by_cases n1:w.n=1
  .rw[if_pos n1]at hp ⊢
   simp only[ydW,ydV,yde]at hp
   obtain⟨s1,e1,e9⟩:=zbK hp
   have e9:s'=zc9 s1 0:=e9
   obtain⟨a1,l1⟩:=zab e1 ha
   simp only[yac,ybm]at l1
   refine pop (s1:=s1) rfl rfl (by omega) λv r2 e1 e2 l=>?_
   have g:=zd4 s1 0
   exact⟨⟨ydU _,by simp only;omega,[v],rfl,by simp⟩,e1,e2,by rw[e9];exact g.1.trans a1,by rw[e9,g.2,if_pos rfl];omega⟩
  rw[if_neg n1]at hp hh ⊢
  by_cases n2:w.n=2
  .rw[if_pos n2]at hp ⊢
   simp only[ydW,ydV,yde]at hp
   obtain⟨s1,e1,e9⟩:=zbK hp
   obtain⟨a1,l1⟩:=zab e1 ha
   simp only[yac,ybm]at l1
   exact pop (s1:=s1) rfl rfl (by omega) λv r2 e1 e2 l=>⟨b0,.inl rfl⟩
  rw[if_neg n2]at hp hh ⊢
  by_cases n3:w.n<0
  .rw[if_pos n3]at hh;cases hh
  rw[if_neg n3]at hp hh
  rw[if_neg (by omega)]
  cases hg:fs[(w.n-3).toNat]? with
  | none=>rw[hg]at hh;cases hh
  | some g =>
   rw[hg]at hp
   simp only[Option.map_some]at hp ⊢
   obtain⟨s1,e1,rfl⟩:=zbK hp
   obtain⟨a1,l1⟩:=zab e1 ha
   rw[List.length_reverse]at l1
   rw[if_neg (by omega)]
   have key:=zjJ hv hs hx (ycW hg) (args:=r.stack.drop (r.stack.length-g.params.length)) (by simp;omega) { r with stack:=r.stack.take (r.stack.length-g.params.length) }
   revert key
   cases zbW rec x g (r.stack.drop (r.stack.length-g.params.length)) { r with stack:=r.stack.take (r.stack.length-g.params.length) }with
   | bad=>exact λh=>h
   | over s c x'=>exact λh=>⟨h.1.weak (by omega),h.2⟩
   | ok v x' r' =>
    intro ⟨k1,k2⟩
    subst k2
    simp only
    by_cases hz:g.type=0
    .rw[if_neg (by simpa using hz)]
     have gl:=zd4 s1 g.type
     exact⟨k1.weak (by omega),rfl,rfl,gl.1.trans a1,by rw[gl.2,if_pos hz];simp;omega⟩
    .rw[if_pos hz]
     exact push (k1.weak (by omega)) rfl rfl a1 (by simp;omega) hz
 rw[if_neg h10]at hp ⊢
 have h18:w.op=18:=by
  rcases hop with q|q
  .exfalso
   simp[zQ,h1,h4,h5,h8,h9]at hform
   omega
  .exact q
 rw[if_pos h18]at hp
 rw[if_neg (by omega),if_pos h18]
 obtain⟨a1,l1⟩:=zrJ hp ha
 exact pop (s1:=s') rfl rfl (by omega) λv r2 e1 e2 l=>⟨b0,e1,e2,a1,l⟩
end
section
variable {fs : List F} {rec : zfb} {n : Nat}
theorem ziz(hs:znG fs rec n){r0:Fr}{K:Nat}{at_ deep:Int}(hd:0<deep)(h0:0<=at_)(h1:at_<(r0.fn.lists.length:Int))(hl:zP fs (r0.fn.params++r0.fn.locals) r0.fn.type r0.fn.lists K at_ deep=.ok ())(isLoop:Bool):
  ∀(j:Nat) (x:zap) (r:Fr),zyn fs r->r.fn=r0.fn->x.steps.toNat<n->x.steps.toNat<j ->
  match zcp rec isLoop at_ deep j x r with
  | .bad=>False
  | .over s c x'=>Beh 0 x x'/\ziy s c
  | .ok o x' r'=>Beh 0 x x'/\r'.fn=r.fn/\r'.locals.length=r.locals.length/\r'.stack.length=r.stack.length/\(o=-1\/(0<=o/\o+1<=deep))
 | 0,x,r,_,_,_,hj=>by omega
 | j+1,x,r,hr,hf,hx,hj=>by
  rw[zcp]
  have key:=hs x r at_ deep K hr hx (by omega) h0 (by rw[hf];exact h1) (by rw[hf];exact hl)
  revert key
  cases rec x r at_ deep with
  | bad=>exact λh=>h
  | over s c x'=>exact λh=>h
  | ok o x' r' =>
   intro ⟨k1,k2,k3,k4,k5⟩
   simp only
   have hst:r'.stack.length=r.stack.length:=by
    by_cases ho:o=-1
    .have:=k4 ho;rw[if_neg (by omega)]at this;omega
    .exact(k5 ho).2.2.1
   by_cases hc:o=0/\isLoop=true
   .rw[if_pos hc]
    have hlt:=(k5 (by omega)).2.2.2.1
    have hpos:=(k5 (by omega)).2.2.2.2
    have hb:=k1.steps
    have key:=ziz hs hd h0 h1 hl isLoop j x' r' ⟨by rw[k2];exact hr.mem,by rw[k3,k2];exact hr.loc⟩ (k2.trans hf) (by omega) (by omega)
    revert key
    cases zcp rec isLoop at_ deep j x' r' with
    | bad=>exact λh=>h
    | over s c x2=>exact λh=>⟨k1.trans0 h.1,h.2⟩
    | ok o2 x2 r2=>exact λh=>⟨k1.trans0 h.1,h.2.1.trans k2,h.2.2.1.trans k3,h.2.2.2.1.trans hst,h.2.2.2.2⟩
   .rw[if_neg hc]
    refine⟨k1,k2,k3,hst,?_⟩
    by_cases ho:0<o
    .rw[if_pos ho]
     have:=k5 (by omega)
     exact .inr ⟨by omega,by omega⟩
    .rw[if_neg ho];exact .inl rfl
theorem zd5(hs:znG fs rec n){k:Nat}{x:zap}(hx:x.steps.toNat<n)(hxk:x.steps.toNat<k){r:Fr}(hr:zyn fs r){w:W}{h:Nat}{s1:St}{deep:Int}(hd:0<=deep)(ha:s1.any=false)(hst:r.stack.length=h+s1.stack.length+(if w.op=13 then 1 else 0))
  (hb:∃K,0<=w.body/\w.body<(r.fn.lists.length:Int)/\zP fs (r.fn.params++r.fn.locals) r.fn.type r.fn.lists K w.body (deep+1)=.ok ())
  (ho:w.op=13->0<=w.other->∃K,w.other<(r.fn.lists.length:Int)/\zP fs (r.fn.params++r.fn.locals) r.fn.type r.fn.lists K w.other (deep+1)=.ok ()) :
  zC5 0 x r h s1 deep (zaB rec k w (deep+1) x r):=by
 have go:∀(at_:Int) (r1:Fr),zyn fs r1->r1.fn=r.fn->r1.locals.length=r.locals.length->r1.stack.length=h+s1.stack.length->(0<=at_->∃K,at_<(r.fn.lists.length:Int)/\zP fs (r.fn.params++r.fn.locals) r.fn.type r.fn.lists K at_ (deep+1)=.ok ()) ->
   zC5 0 x r h s1 deep (if at_<0 then Ev.ok (-1) x r1 else zcp rec (decide (w.op=12)) at_ (deep+1) k x r1):=by
  intro at_ r1 hr1 e1 e2 e3 hK
  by_cases h0:at_<0
  .rw[if_pos h0]
   exact⟨.refl _,e1,e2,λ_=>⟨ha,e3⟩,λq=>absurd rfl q⟩
  .rw[if_neg h0]
   obtain⟨K,q1,q2⟩:=hK (by omega)
   have key:=ziz hs (r0:=r) (by omega) (by omega) q1 q2 (decide (w.op=12)) k x r1 hr1 e1 hx hxk
   revert key
   cases zcp rec (decide (w.op=12)) at_ (deep+1) k x r1 with
   | bad=>exact λh=>h
   | over s c x2=>exact λh=>h
   | ok o x2 r2 =>
    intro ⟨k1,k2,k3,k4,k5⟩
    refine⟨k1,k2.trans e1,k3.trans e2,λ_=>⟨ha,by omega⟩,λq=>?_⟩
    rcases k5 with k5|k5
    .exact absurd k5 q
    .exact⟨k5.1,by omega,by omega⟩
 unfold zaB
 simp only
 obtain⟨K,b0,b1,b2⟩:=hb
 by_cases h13:w.op=13
 .rw[if_pos h13]at hst ⊢
  obtain⟨v,st,hl,e⟩:=zfc (r:=r) (k:=λc r=>if(if c=0 then w.other else w.body)<0 then Ev.ok (-1) x r else zcp rec (decide (w.op=12)) (if c=0 then w.other else w.body) (deep+1) k x r) (by omega)
  rw[e]
  refine go _ _ ⟨hr.mem,hr.loc⟩ rfl rfl (by simp only;omega) λq=>?_
  by_cases hv0:v=0
  .rw[if_pos hv0]at q ⊢;exact ho h13 q
  .rw[if_neg hv0]at q ⊢;exact⟨K,b1,b2⟩
 .rw[if_neg h13]at hst ⊢
  exact go _ _ hr rfl rfl (by omega) λ_=>⟨K,b1,b2⟩
end
section
variable {fs : List F} {rec : zfb} {n : Nat} (hv : ∀ f ∈ fs,zm fs f = .ok ())
include hv
theorem zpI(hs:znG fs rec n){k:Nat}{x:zap}(hx:x.steps.toNat<n)(hxk:x.steps.toNat<k){r:Fr}(hr:zyn fs r){w:W}{h:Nat}{s s':St}{deep:Int}{K:Nat}(hd:0<=deep)(ha:s.any=false)(hst:r.stack.length=h+s.stack.length)
  (hin:∀m∈zj w,0<=m/\m<(r.fn.lists.length:Int))
  (hi:zJ fs (r.fn.params++r.fn.locals) r.fn.type deep (zP fs (r.fn.params++r.fn.locals) r.fn.type r.fn.lists K) w s=.ok s'):zC5 1 x r h s' deep (zbX fs rec k deep w x r):=by
 have hnum:(r.fn.params++r.fn.locals).all zT=true:=by
  have:=hv _ hr.mem
  unfold zm at this
  split at this
  .cases this
  .rename_i q
   simp only[Bool.and_eq_true,Bool.not_eq_false]at q
   exact q.1.1
 have b0:Beh 1 x x:=(Beh.refl x).weak (by omega)
 unfold zJ at hi
 by_cases hf:zQ w=false
 .rw[if_pos hf]at hi;cases hi
 rw[if_neg hf]at hi
 by_cases hg:zH fs (r.fn.params++r.fn.locals) deep w=false
 .rw[if_pos hg]at hi;cases hi
 rw[if_neg hg]at hi
 have up:∀{e:Ev Int},zC5 0 x r h s' deep e->zC5 1 x r h s' deep e:=by
  intro e he
  cases e with
  | bad=>exact he
  | over s c x'=>exact⟨he.1.weak (by omega),he.2⟩
  | ok o x' r'=>exact⟨he.1.weak (by omega),he.2⟩
 unfold zbX
 by_cases h11:w.op=11\/w.op=12
 .rw[if_pos h11]at hi
  rw[if_pos (by omega)]
  have hn:zj w=[w.body]:=by unfold zj;rw[if_pos (by omega)]
  rw[hn]at hin
  have hb:=hin w.body (by simp)
  cases hl:zP fs (r.fn.params++r.fn.locals) r.fn.type r.fn.lists K w.body (deep+1)with
  | error e=>rw[hl]at hi;cases hi
  | ok u =>
   rw[hl]at hi
   cases hi
   exact up (zd5 hs hx hxk hr hd ha (by rw[if_neg (by omega)];omega) ⟨K,hb.1,hb.2,hl⟩ (λq=>by omega))
 rw[if_neg h11]at hi
 by_cases h13:w.op=13
 .rw[if_pos h13]at hi
  rw[if_pos (by omega)]
  cases ht:zW [1] s with
  | error e=>rw[ht]at hi;cases hi
  | ok s1 =>
   rw[ht]at hi
   simp only at hi
   obtain⟨a1,l1⟩:=zab ht ha
   simp only[yac,ybm]at l1
   cases hl:zP fs (r.fn.params++r.fn.locals) r.fn.type r.fn.lists K w.body (deep+1)with
   | error e=>rw[hl]at hi;cases hi
   | ok u =>
    rw[hl]at hi
    simp only at hi
    have hb:0<=w.body/\w.body<(r.fn.lists.length:Int):=hin w.body (by
     unfold zj
     by_cases ho:w.other<0
     .rw[if_pos (by omega)];simp
     .rw[if_neg (by omega),if_pos h13];simp)
    by_cases ho:0<=w.other
    .rw[if_pos ho]at hi
     cases hl2:zP fs (r.fn.params++r.fn.locals) r.fn.type r.fn.lists K w.other (deep+1)with
     | error e=>rw[hl2]at hi;cases hi
     | ok u2 =>
      rw[hl2]at hi
      cases hi
      have hb2:=hin w.other (by unfold zj;rw[if_neg (by omega),if_pos h13];simp)
      exact up (zd5 hs hx hxk hr hd a1 (by rw[if_pos h13];omega) ⟨K,hb.1,hb.2,hl⟩ (λ_ _=>⟨K,hb2.2,hl2⟩))
    .rw[if_neg ho]at hi
     cases hi
     exact up (zd5 hs hx hxk hr hd a1 (by rw[if_pos h13];omega) ⟨K,hb.1,hb.2,hl⟩ (λ_ q=>absurd q ho))
 rw[if_neg h13]at hi
 have ret:∀{s2:St} {r1:Fr} {q:Int},zw r.fn.type s=.ok s2\/True->True:=λ_=>trivial
 by_cases h15:w.op=15
 .rw[if_pos h15]at hi
  rw[if_neg (by omega),if_pos (by omega)]
  have hrg:0<=w.n/\w.n<=deep:=by
   have q:zH fs (r.fn.params++r.fn.locals) deep w=true:=by simpa using hg
   simpa [zH,h15]using q
  cases ht:zW [1] s with
  | error e=>rw[ht]at hi;cases hi
  | ok s1 =>
   rw[ht]at hi
   simp only at hi
   obtain⟨a1,l1⟩:=zab ht ha
   simp only[yac,ybm]at l1
   unfold zgS
   simp only
   rw[if_neg (by omega),if_pos h15]
   obtain⟨v,st,hl,e⟩:=zfc (r:=r) (k:=λc r=>if c=0 then Ev.ok (-1) x r else if w.n=deep/\r.fn.type≠0 then zbQ r λv r=>Ev.ok w.n x { r with result:=v }else .ok w.n x r) (by omega)
   rw[e]
   have hs':s'.any=false/\s'.stack.length=s1.stack.length/\(w.n=deep->r.fn.type≠0->0<s1.stack.length):=by
    by_cases hq:w.n=deep
    .rw[if_pos hq]at hi
     obtain⟨s2,e2,rfl⟩:=zbK hi
     obtain⟨a2,l2⟩:=zcw e2 a1
     have g:=zd4 s2 r.fn.type
     refine⟨g.1.trans a2,by rw[g.2];omega,λ_ hz=>by rw[if_neg hz]at l2;omega⟩
    .rw[if_neg hq]at hi
     cases hi
     exact⟨a1,rfl,λq=>absurd q hq⟩
   by_cases hv0:v=0
   .rw[if_pos hv0]
    exact⟨b0,rfl,rfl,λ_=>⟨hs'.1,by simp only;omega⟩,λq=>absurd rfl q⟩
   .rw[if_neg hv0]
    by_cases hq:w.n=deep/\r.fn.type≠0
    .rw[if_pos hq]
     have:=hs'.2.2 hq.1 hq.2
     obtain⟨v2,st2,hl2,e2⟩:=zfc (r:={ r with stack:=st }) (k:=λv r=>Ev.ok w.n x { r with result:=v }) (by simp only;omega)
     simp only at e2 hl2
     rw[e2]
     exact⟨b0,rfl,rfl,λq=>by omega,λ_=>⟨hrg.1,hrg.2,by simp only;omega⟩⟩
    .rw[if_neg hq]
     exact⟨b0,rfl,rfl,λq=>by omega,λ_=>⟨hrg.1,hrg.2,by simp only;omega⟩⟩
 rw[if_neg h15]at hi
 by_cases h14:w.op=14
 .rw[if_pos h14]at hi
  rw[if_neg (by omega),if_pos (by omega)]
  have hrg:0<=w.n/\w.n<=deep:=by
   have q:zH fs (r.fn.params++r.fn.locals) deep w=true:=by simpa using hg
   simpa [zH,h14]using q
  unfold zgS
  simp only
  rw[if_neg (by omega),if_neg h15]
  by_cases hq:w.n=deep/\r.fn.type≠0
  .rw[if_pos hq]
   rw[if_pos hq.1]at hi
   cases ht:zw r.fn.type s with
   | error e=>rw[ht]at hi;cases hi
   | ok s2 =>
    obtain⟨a2,l2⟩:=zcw ht ha
    rw[if_neg hq.2]at l2
    obtain⟨v2,st2,hl2,e2⟩:=zfc (r:=r) (k:=λv r=>Ev.ok w.n x { r with result:=v }) (by omega)
    rw[e2]
    exact⟨b0,rfl,rfl,λq=>by omega,λ_=>⟨hrg.1,hrg.2,by simp only;omega⟩⟩
  .rw[if_neg hq]
   exact⟨b0,rfl,rfl,λq=>by omega,λ_=>⟨hrg.1,hrg.2,by omega⟩⟩
 rw[if_neg h14]at hi
 by_cases h16:w.op=16
 .rw[if_pos h16]at hi
  rw[if_neg (by omega),if_pos (by omega)]
  unfold zgS
  simp only
  rw[if_pos h16]
  cases ht:zw r.fn.type s with
  | error e=>rw[ht]at hi;cases hi
  | ok s2 =>
   obtain⟨a2,l2⟩:=zcw ht ha
   by_cases hq:r.fn.type≠0
   .rw[if_pos ⟨trivial,hq⟩]
    rw[if_neg hq]at l2
    obtain⟨v2,st2,hl2,e2⟩:=zfc (r:=r) (k:=λv r=>Ev.ok deep x { r with result:=v }) (by omega)
    rw[e2]
    exact⟨b0,rfl,rfl,λq=>by omega,λ_=>⟨hd,ydU _,by simp only;omega⟩⟩
   .rw[if_neg (λq=>hq q.2)]
    exact⟨b0,rfl,rfl,λq=>by omega,λ_=>⟨hd,ydU _,by omega⟩⟩
 rw[if_neg h16]at hi
 rw[if_neg (by omega),if_neg (by omega)]
 by_cases h17:w.op=17
 .have e:zaa fs rec w x r=.over 2 5 x:=by
   unfold zaa
   simp[h17]
  rw[e]
  exact⟨b0,.inl rfl⟩
 rw[if_neg h17]at hi
 have hf':zQ w=true:=by simpa using hf
 have hop:w.op<=10\/w.op=18:=by
  by_cases q:w.op<=10
  .exact .inl q
  .right
   have:1<=w.op/\w.op<=18:=by
    unfold zQ at hf'
    rw[if_neg (by omega),if_neg (by omega),if_neg (by omega)]at hf'
    simpa using hf'
   omega
 have key:=plain_sound hv hs hx hr ha hst hf' (by simpa using hg) hnum hi hop
 revert key
 cases zaa fs rec w x r with
 | bad=>exact λh=>h
 | over s c x'=>exact λh=>h
 | ok u x' r'=>exact λh=>⟨h.1,h.2.1,h.2.2.1,λ_=>⟨h.2.2.2.1,h.2.2.2.2⟩,λq=>absurd rfl q⟩
theorem zgE(hs:znG fs rec n){k:Nat}{h:Nat}{deep:Int}{K:Nat}(hd:0<=deep){f:F}:∀(ws:List W),(∀w∈ws,∀m∈zj w,0<=m/\m<(f.lists.length:Int))->∀(x:zap) (r:Fr) (s s':St),zyn fs r->r.fn=f->x.steps.toNat<n+1->x.steps.toNat<k+1->s.any=false->r.stack.length=h+s.stack.length ->
  zD fs (f.params++f.locals) f.type deep (zP fs (f.params++f.locals) f.type f.lists K) ws s=.ok s' ->
  match zan fs rec k deep h ws x r with
  | .bad=>False
  | .over st c x'=>Beh 0 x x'/\ziy st c
  | .ok o x' r'=>Beh 0 x x'/\r'.fn=r.fn/\r'.locals.length=r.locals.length/\(o=-1->s'.any=false/\r'.stack.length=h+s'.stack.length)/\(o≠-1->0<=o/\o<=deep/\r'.stack.length=h/\x'.steps<x.steps/\0<x.steps)
 | [],_,x,r,s,s',hr,hf,_,_,ha,hst,hi=>by
  simp only[zD]at hi
  cases hi
  exact⟨.refl _,rfl,rfl,λ_=>⟨ha,hst⟩,λq=>absurd rfl q⟩
 | w::ws,hin,x,r,s,s',hr,hf,hx,hxk,ha,hst,hi=>by
  rw[zD]at hi
  cases he:zJ fs (f.params++f.locals) f.type deep (zP fs (f.params++f.locals) f.type f.lists K) w s with
  | error e=>rw[he]at hi;cases hi
  | ok s1 =>
   rw[he]at hi
   simp only at hi
   rw[zan]
   by_cases hs1:x.steps<1
   .rw[if_pos hs1]
    exact⟨.refl _,.inr ⟨rfl,rfl⟩⟩
   .rw[if_neg hs1]
    subst hf
    have key:=zpI hv hs (k:=k) (x:={ x with steps:=x.steps-1 }) (by simp only;omega) (by simp only;omega) hr hd ha hst (hin w (by simp)) he
    revert key
    cases zbX fs rec k deep w { x with steps:=x.steps-1 } r with
    | bad=>exact λh=>h
    | over st c x'=>exact λh=>⟨(h.1.step (by omega)).1,h.2⟩
    | ok o x' r' =>
     intro ⟨k1,k2,k3,k4,k5⟩
     obtain⟨b,lt⟩:=k1.step (by omega)
     simp only
     by_cases ho:o=-1
     .rw[if_pos ho]
      obtain⟨a1,l1⟩:=k4 ho
      have key:=zgE hs (k:=k) (h:=h) hd (f:=r.fn) ws (λw hw=>hin w (by simp[hw])) x' r' s1 s' ⟨by rw[k2];exact hr.mem,by rw[k3,k2];exact hr.loc⟩ k2 (by omega) (by omega) a1 l1 hi
      revert key
      cases zan fs rec k deep h ws x' r' with
      | bad=>exact λh=>h
      | over st c x2=>exact λh=>⟨b.trans0 h.1,h.2⟩
      | ok o2 x2 r2 =>
       intro ⟨j1,j2,j3,j4,j5⟩
       exact⟨b.trans0 j1,j2.trans k2,j3.trans k3,j4,λq=>by
        have:=j5 q
        have h4:=this.2.2.2.1
        exact⟨this.1,this.2.1,this.2.2.1,by omega,by omega⟩⟩
     .rw[if_neg ho]
      obtain⟨q1,q2,q3⟩:=k5 ho
      rw[if_neg (by omega)]
      exact⟨b,k2,k3,λq=>absurd q ho,λ_=>⟨q1,q2,by simp only[ybf];omega,lt,by omega⟩⟩
theorem zjK:∀k,znG fs (zkV fs k) k
 | 0=>λx r at_ deep K _ hx=>by omega
 | k+1=>by
  intro x r at_ deep K hr hx hd h0 h1 hl
  have ih:=zjK k
  rw[zkV,if_neg (by omega)]
  have hlt:at_.toNat<r.fn.lists.length:=by omega
  rw[yau hlt]
  simp only
  cases K with
  | zero=>simp[zP]at hl
  | succ K =>
   rw[zP]at hl
   have hrow:r.fn.lists.getD at_.toNat []=r.fn.lists[at_.toNat]:=by rw[ycJ,yau hlt];rfl
   rw[hrow]at hl
   cases hi:zD fs (r.fn.params++r.fn.locals) r.fn.type deep (zP fs (r.fn.params++r.fn.locals) r.fn.type r.fn.lists K) r.fn.lists[at_.toNat] ⟨[],false⟩with
   | error e=>rw[hi]at hl;cases hl
   | ok s' =>
    rw[hi]at hl
    simp only at hl
    have hah:=(zcl (zal (hv _ hr.mem))).2.1
    have key:=zgE hv ih (k:=k) (h:=r.stack.length) hd (f:=r.fn) r.fn.lists[at_.toNat] (λw hw m hm=>by
     have:=hah at_.toNat _ (yau hlt) m (ycZ.2 ⟨w,hw,hm⟩)
     omega) x r ⟨[],false⟩ s' hr rfl (by omega) (by omega) rfl (by simp) hi
    revert key
    cases zan fs (zkV fs k) k deep r.stack.length r.fn.lists[at_.toNat] x r with
    | bad=>exact λh=>h
    | over st c x'=>exact λh=>h
    | ok o x' r' =>
     intro ⟨j1,j2,j3,j4,j5⟩
     refine⟨j1,j2,j3,λho=>?_,j5⟩
     obtain⟨a1,l1⟩:=j4 ho
     rw[l1]
     unfold zCr at hl
     by_cases hz:deep=0
     .rw[if_pos hz]at hl
      cases hq:zw r.fn.type s' with
      | error e=>rw[hq]at hl;cases hl
      | ok s2 =>
       rw[hq]at hl
       simp only at hl
       obtain⟨_,l2⟩:=zcw hq a1
       by_cases he:s2.stack.length=0
       .by_cases ht:r.fn.type=0
        .rw[if_pos ht]at l2
         rw[if_neg (λq=>q.2 ht)];omega
        .rw[if_neg ht]at l2
         rw[if_pos ⟨hz,ht⟩];omega
       .rw[if_neg he]at hl;cases hl
     .rw[if_neg hz]at hl
      simp only at hl
      rw[if_neg (λq=>hz q.1)]
      by_cases he:s'.stack.length=0
      .omega
      .rw[if_neg he]at hl;cases hl
end
theorem zjL{m:M}(hc:zav m=.ok ())(input:List Int)(steps:Int)(k:Nat)(hk:steps.toNat<k):∃(out:List Int) (st code:Int),zp0 m input steps k=some (out,st,code)/\(st=1\/ziy st code)/\(out.length:Int)<=max steps 0:=by
 have hv:=zbU hc
 have hm:zfy m=true:=by
  unfold zav at hc
  split at hc
  .cases hc
  .split at hc
   .cases hc
   .split at hc
    .assumption
    .cases hc
 unfold zfy at hm
 simp only[Bool.and_eq_true,decide_eq_true_eq]at hm
 obtain⟨h0,h1⟩:=hm
 unfold zp0
 rw[if_neg (by omega)]
 cases hg:m.funcs[m.main.toNat]? with
 | none=>rw[hg]at h1;cases h1
 | some g =>
  rw[hg]at h1
  simp only[Bool.and_eq_true,decide_eq_true_eq]at h1 ⊢
  have key:=zjJ hv (zjK hv k) (x:=⟨input,steps,yaj m.memory.toNat 0,[],0⟩) hk (ycW hg) (args:=[]) (by simp[h1.2]) ⟨g,[],[],0⟩
  revert key
  cases zbW (zkV m.funcs k) ⟨input,steps,yaj m.memory.toNat 0,[],0⟩ g [] ⟨g,[],[],0⟩with
  | bad=>exact λh=>h.elim
  | over s c x =>
   intro ⟨⟨q1,q4,l,q2,q3⟩,ho⟩
   refine⟨_,_,_,rfl,.inr ho,?_⟩
   simp only[yde]at q2 q1 q3 q4
   rw[q2]
   omega
  | ok v x r =>
   intro ⟨⟨q1,q4,l,q2,q3⟩,_⟩
   refine⟨_,_,_,rfl,.inl rfl,?_⟩
   simp only[yde]at q2 q1 q3 q4
   rw[q2]
   omega
theorem zcx(f:BitVec 64->BitVec 64->BitVec 64)(a b:Int):0<=zag .u64 f a b:=by
 unfold zag
 simp[yb5,yap,yao]
 omega
theorem zbH{G:Env}{J:AS}{R:Out->AS->Prop}{b:Bool}(h:R (.ret (.int .i32 (zsk b))) J):zzQ G 262 [.bool b] J R:=by
 refine zuk rfl ?_
 unfold zsk at h
 cases b<;>simp[zCe,splice]at h ⊢<;>exact h
theorem zbI{G:Env}{J:AS}{R:Out->AS->Prop}{b:Bool}(h:R (.ret (.int .i64 (zsk b))) J):zzQ G 263 [.bool b] J R:=by
 refine zul rfl ?_
 unfold zsk at h
 cases b<;>simp[zCf,splice]at h ⊢<;>exact h
theorem zeL{G:Env}{J:AS}{R:Out->AS->Prop}{op:List UInt8}{a b:Int}(h:R (.ret (.tuple [.int .i32 (zfa .i32 op a b).1,.int .i64 (zfa .i32 op a b).2])) J):zzQ G 256 [.str op,.int .i32 a,.int .i32 b] J R:=by
 refine zug rfl ?_
 unfold zfa at h
 by_cases h0:b=0
 .simp[h0]at h;simp[zlK,splice,h0];exact h
 .by_cases h1:op=[37]
  .by_cases h2:b=-1
   .simp[h0,h1,h2]at h;simp[zlK,splice,h0,h1,h2];exact h
   .simp[h0,h1,h2]at h;simp[zlK,splice,h0,h1,h2];exact h
  .by_cases h2:b=-1
   .by_cases h3:a=0
    .simp[h0,h1,h2,h3]at h;simp[zlK,splice,h0,h1,h2,h3];exact h
    .by_cases h4:yb5 .i32 (-a)=a
     .simp[h0,h1,h2,h3,h4]at h;simp[zlK,splice,h0,h1,h2,h3,h4];exact h
     .simp[h0,h1,h2,h3,h4]at h;simp[zlK,splice,h0,h1,h2,h3,h4];exact h
   .simp[h0,h1,h2]at h;simp[zlK,splice,h0,h1,h2];exact h
theorem zeM{G:Env}{J:AS}{R:Out->AS->Prop}{op:List UInt8}{a b:Int}(h:R (.ret (.tuple [.int .i64 (zfa .i64 op a b).1,.int .i64 (zfa .i64 op a b).2])) J):zzQ G 258 [.str op,.int .i64 a,.int .i64 b] J R:=by
 refine zui rfl ?_
 unfold zfa at h
 by_cases h0:b=0
 .simp[h0]at h;simp[zlL,splice,h0];exact h
 .by_cases h1:op=[37]
  .by_cases h2:b=-1
   .simp[h0,h1,h2]at h;simp[zlL,splice,h0,h1,h2];exact h
   .simp[h0,h1,h2]at h;simp[zlL,splice,h0,h1,h2];exact h
  .by_cases h2:b=-1
   .by_cases h3:a=0
    .simp[h0,h1,h2,h3]at h;simp[zlL,splice,h0,h1,h2,h3];exact h
    .by_cases h4:yb5 .i64 (-a)=a
     .simp[h0,h1,h2,h3,h4]at h;simp[zlL,splice,h0,h1,h2,h3,h4];exact h
     .simp[h0,h1,h2,h3,h4]at h;simp[zlL,splice,h0,h1,h2,h3,h4];exact h
   .simp[h0,h1,h2]at h;simp[zlL,splice,h0,h1,h2];exact h
theorem zmq{G:Env}{J:AS}{R:Out->AS->Prop}{op:List UInt8}{a b:Int}(h:R (.ret (.int .i32 (zrH .i32 op a b 32))) J):zzQ G 257 [.str op,.int .i32 a,.int .i32 b,.int .i64 32] J R:=by
 refine zuh rfl ?_
 unfold zrH at h
 by_cases h1:op=[43]
 .subst h1;simp at h;simp[zez,splice];exact h
 by_cases h2:op=[45]
 .subst h2;simp at h;simp[zez,splice];exact h
 by_cases h3:op=[42]
 .subst h3;simp at h;simp[zez,splice];exact h
 by_cases h4:op=[38]
 .subst h4;simp at h;simp[zez,splice];exact h
 by_cases h5:op=[124]
 .subst h5;simp at h;simp[zez,splice];exact h
 by_cases h6:op=[94]
 .subst h6;simp at h;simp[zez,splice];exact h
 by_cases h7:op=[60,60]
 .subst h7;simp at h;simp[zez,splice,show yb5 .i64 31=31 by decide];exact⟨zcx _ _ _,h⟩
 by_cases h8:op=[62,62]
 .subst h8;simp at h;simp[zez,splice,show yb5 .i64 31=31 by decide];exact⟨zcx _ _ _,h⟩
 by_cases h9:op=[61,61]
 .subst h9;simp at h;simp[zez,splice];refine zbH ?_;simp;exact h
 by_cases h10:op=[33,61]
 .subst h10;simp at h;simp[zez,splice];refine zbH ?_;simp;exact h
 by_cases h11:op=[60]
 .subst h11;simp at h;simp[zez,splice];refine zbH ?_;simp;exact h
 by_cases h12:op=[60,61]
 .subst h12;simp at h;simp[zez,splice];refine zbH ?_;simp;exact h
 by_cases h13:op=[62]
 .subst h13;simp at h;simp[zez,splice];refine zbH ?_;simp;exact h
 by_cases h14:op=[62,61]
 .subst h14;simp at h;simp[zez,splice];refine zbH ?_;simp;exact h
 .simp[h1,h2,h3,h4,h5,h6,h7,h8,h9,h10,h11,h12,h13,h14]at h
  simp[zez,splice,h1,h2,h3,h4,h5,h6,h7,h8,h9,h10,h11,h12,h13,h14]
  exact h
theorem zmr{G:Env}{J:AS}{R:Out->AS->Prop}{op:List UInt8}{a b:Int}(h:R (.ret (.int .i64 (zrH .i64 op a b 64))) J):zzQ G 259 [.str op,.int .i64 a,.int .i64 b,.int .i64 64] J R:=by
 refine zuj rfl ?_
 unfold zrH at h
 by_cases h1:op=[43]
 .subst h1;simp at h;simp[zeA,splice];exact h
 by_cases h2:op=[45]
 .subst h2;simp at h;simp[zeA,splice];exact h
 by_cases h3:op=[42]
 .subst h3;simp at h;simp[zeA,splice];exact h
 by_cases h4:op=[38]
 .subst h4;simp at h;simp[zeA,splice];exact h
 by_cases h5:op=[124]
 .subst h5;simp at h;simp[zeA,splice];exact h
 by_cases h6:op=[94]
 .subst h6;simp at h;simp[zeA,splice];exact h
 by_cases h7:op=[60,60]
 .subst h7;simp at h;simp[zeA,splice,show yb5 .i64 63=63 by decide];exact⟨zcx _ _ _,h⟩
 by_cases h8:op=[62,62]
 .subst h8;simp at h;simp[zeA,splice,show yb5 .i64 63=63 by decide];exact⟨zcx _ _ _,h⟩
 by_cases h9:op=[61,61]
 .subst h9;simp at h;simp[zeA,splice];refine zbI ?_;simp;exact h
 by_cases h10:op=[33,61]
 .subst h10;simp at h;simp[zeA,splice];refine zbI ?_;simp;exact h
 by_cases h11:op=[60]
 .subst h11;simp at h;simp[zeA,splice];refine zbI ?_;simp;exact h
 by_cases h12:op=[60,61]
 .subst h12;simp at h;simp[zeA,splice];refine zbI ?_;simp;exact h
 by_cases h13:op=[62]
 .subst h13;simp at h;simp[zeA,splice];refine zbI ?_;simp;exact h
 by_cases h14:op=[62,61]
 .subst h14;simp at h;simp[zeA,splice];refine zbI ?_;simp;exact h
 .simp[h1,h2,h3,h4,h5,h6,h7,h8,h9,h10,h11,h12,h13,h14]at h
  simp[zeA,splice,h1,h2,h3,h4,h5,h6,h7,h8,h9,h10,h11,h12,h13,h14]
  exact h
theorem znH{G:Env}{J:AS}{R:Out->AS->Prop}{op:List UInt8}{a b:Int}(h:R (.ret (.tuple [.int .i64 (yb5 .i64 (zu2 .i32 op a b 32).1),.int .i64 (zu2 .i32 op a b 32).2])) J):zzQ G 245 [.str op,.int .i32 a,.int .i32 b,.int .i64 32] J R:=by
 refine zt9 rfl ?_
 unfold zu2 at h
 by_cases h1:op=[47]
 .subst h1;simp at h
  simp[zt8,splice]
  refine zeL ?_
  simp;exact h
 by_cases h2:op=[37]
 .subst h2;simp at h
  simp[zt8,splice]
  refine zeL ?_
  simp;exact h
 .simp[h1,h2]at h
  simp[zt8,splice,h1,h2]
  refine zmq ?_
  simp;exact h
theorem znI{G:Env}{J:AS}{R:Out->AS->Prop}{op:List UInt8}{a b:Int}(h:R (.ret (.tuple [.int .i64 (zu2 .i64 op a b 64).1,.int .i64 (zu2 .i64 op a b 64).2])) J):zzQ G 246 [.str op,.int .i64 a,.int .i64 b,.int .i64 64] J R:=by
 refine zub rfl ?_
 unfold zu2 at h
 by_cases h1:op=[47]
 .subst h1;simp at h
  simp[zua,splice]
  refine zeM ?_
  simp;exact h
 by_cases h2:op=[37]
 .subst h2;simp at h
  simp[zua,splice]
  refine zeM ?_
  simp;exact h
 .simp[h1,h2]at h
  simp[zua,splice,h1,h2]
  refine zmr ?_
  simp;exact h
theorem zrK{G:Env}{J:AS}{R:Out->AS->Prop}{t:Int}{op:List UInt8}{a b:Int}(h:R (.ret (.tuple [.int .i64 (zAx t op a b).1,.int .i64 (zAx t op a b).2])) J):zzQ G 218 [.int .i64 t,.str op,.int .i64 a,.int .i64 b] J R:=by
 refine ztW rfl ?_
 unfold zAx at h
 by_cases h1:t=1
 .subst h1;simp at h
  simp[ztV,splice]
  refine znH ?_
  simp
  exact h
 by_cases h2:t=2
 .subst h2;simp at h
  simp[ztV,splice]
  refine znI ?_
  simp;exact h
 .simp[h1,h2]at h
  simp[ztV,splice,h1,h2]
  exact h
def zkW(J:AS)(v:AV)(l:List Int):Prop:=(l=[]/\v=.nilsl)\/∃g,v=.sl (.fam g false) 1 (l.map (.int .i64))/\g<J.nf/\J.F g=.alive
def zV:AV->List Nat
 | .sl (.fam g _) _ _=>[g]
 | _=>[]
theorem zkW.one{J v l}(h:zkW J v l):v.known=true/\v.one=true/\v.cells=[v]:=by
 rcases h with ⟨_,rfl⟩|⟨g,rfl,_⟩<;>simp
theorem zkW.len{J v l}(h:zkW J v l)(K:AV->Prop):zgT yca 44 v K=K (.int .i64 (l.length:Int)):=by
 rcases h with ⟨rfl,rfl⟩|⟨g,rfl,_⟩<;>simp
theorem zkW.keep{J J' v l}(h:zkW J v l)(hn:J.nf<=J'.nf)(hk:∀g∈zV v,J'.F g=J.F g):zkW J' v l:=by
 rcases h with h|⟨g,rfl,h1,h2⟩
 .exact .inl h
 .exact .inr ⟨g,rfl,by omega,by rw[hk g (by simp[zV])];exact h2⟩
theorem zkW.lt{J v l}(h:zkW J v l):∀g∈zV v,g<J.nf:=by
 rcases h with ⟨_,rfl⟩|⟨g,rfl,h1,_⟩<;>simp[zV]
 exact h1
def zyo(J:AS)(L:List Nat)(v:AV)(l:List Int):Prop:=(L=[]/\l=[]/\(v=.nilsl\/∃φ,v=.sl φ 1 []))\/∃lo,L=[lo]/\v=.slm lo 0 1 l.length/\J.objs lo=some (l.map (.int .i64))
theorem zyo.one{J L v l}(h:zyo J L v l):v.known=true/\v.one=true/\v.cells=[v]:=by
 rcases h with ⟨_,_,rfl|⟨φ,rfl⟩⟩|⟨lo,_,rfl,_⟩<;>simp
theorem zyo.keep{J J' L v l}(h:zyo J L v l)(hk:∀o∈L,J'.objs o=J.objs o):zyo J' L v l:=by
 rcases h with h|⟨lo,rfl,rfl,h⟩
 .exact .inl h
 .exact .inr ⟨lo,rfl,rfl,by rw[hk lo (by simp)];exact h⟩
structure XM(fs:List F)(mm mn:Int)(J0:AS)(xo mo:Nat)(D T:List Nat)(x:zap)(ov:AV)(J:AS):Prop where
 no:J0.no<=J.no
 nf:J0.nf<=J.nf
 obj:∀o,o<J0.no->o≠xo->o≠mo->o∉D->J.objs o=J0.objs o
 fam:∀g,g<J0.nf->g∉T->J.F g=J0.F g
 xl:xo<J0.no
 ml:mo<J0.no
 xm:xo≠mo
 dl:∀o∈D,o<J.no/\o≠xo/\o≠mo
 mach:∃fv iv,J.objs xo=some [fv,.int .i64 mm,.int .i64 mn,iv,.int .i64 x.steps,.slm mo 0 1 x.memory.length,ov,.int .i64 x.calls]/\FsV fv fs/\zaf iv x.input
 own:zkW J ov x.out
 ownT:∀g∈zV ov,g∈T\/J0.nf<=g
 mem:J.objs mo=some (x.memory.map λb=>.int .u8 b.toNat)
structure XR(J0:AS)(fo:Nat)(L T:List Nat)(r:Fr)(sv:AV)(J:AS):Prop where
 fr:∃pv lv tv cv,J.objs fo=some [.str r.fn.name,pv,lv,.int .i64 r.fn.type,tv,cv,sv,.int .i64 r.result]/\zaf pv r.fn.params/\zaf lv r.fn.locals/\zcu tv r.fn.lists/\zyo J L cv r.locals
 fl:fo∉L
 own:zkW J sv r.stack
 ownT:∀g∈zV sv,g∈T\/J0.nf<=g
def XF(fs:List F)(mm mn:Int)(J0:AS)(xo mo fo:Nat)(L T:List Nat)(x:zap)(r:Fr)(J:AS):Prop :=
 ∃ov sv,XM fs mm mn J0 xo mo (fo::L) T x ov J/\XR J0 fo L T r sv J/\∀g∈zV ov,g∉zV sv
def ziA(s c:Int):AV:=.iface 111 (.agg [.int .i64 s,.int .i64 c])
section
variable {G : Env} {fs : List F} {mm mn : Int} {J0 J : AS} {xo mo fo : Nat} {L T : List Nat} {x : zap} {r : Fr} {R : Out -> AS -> Prop}
theorem XF.setFr(h:XF fs mm mn J0 xo mo fo L T x r J){pv lv tv cv sv sv':AV}{st':List Int}{res':Int}{J1:AS}
  (ho:J.objs fo=some [.str r.fn.name,pv,lv,.int .i64 r.fn.type,tv,cv,sv,.int .i64 r.result]) (e1:J1.objs=J.objs) (e2:J1.no=J.no) (e3:J.nf<=J1.nf) (e4:∀g,g<J.nf->g∉zV sv->J1.F g=J.F g)
  (hs:zkW J1 sv' st') (hsf:∀g∈zV sv',g∈zV sv\/J.nf<=g) :
  XF fs mm mn J0 xo mo fo L T x { r with stack:=st',result:=res' } (J1.setO fo [.str r.fn.name,pv,lv,.int .i64 r.fn.type,tv,cv,sv',.int .i64 res']):=by
 obtain⟨ov,sv0,hm,hr,hd⟩:=h
 obtain⟨pv0,lv0,tv0,cv0,ho0,hpv,hlv,htv,hcv⟩:=hr.fr
 rw[ho]at ho0
 simp only[yaR.injEq,ydX.injEq]at ho0
 obtain⟨_,rfl,rfl,_,rfl,rfl,rfl,_,_⟩:=ho0
 have hfd:=hm.dl fo (by simp)
 have hltm:=hm.xl
 have hltml:=hm.ml
 have hno:=hm.no
 have hlt:=hm.own.lt
 have key:∀o,o≠fo->(J1.setO fo [.str r.fn.name,pv,lv,.int .i64 r.fn.type,tv,cv,sv',.int .i64 res']).objs o=J.objs o:=λo ho=>by simp[ho,e1]
 have hof:∀g∈zV ov,J1.F g=J.F g:=λg hg=>e4 g (hlt g hg) (hd g hg)
 refine⟨ov,sv',⟨by simp[e2];omega,yai hm.nf e3,λo h1 h2 h3 h4=>?_,λg h1 h2=>?_,hm.xl,hm.ml,hm.xm,λo h1=>?_,?_,?_,hm.ownT,?_⟩,⟨⟨pv,lv,tv,cv,by simp,hpv,hlv,htv,?_⟩,hr.fl,hs,λg hg=>?_⟩,λg hg=>?_⟩
 .rw[key o (λe=>h4 (by simp[e]))];exact hm.obj o h1 h2 h3 h4
 .have h3:g∉zV sv:=λhg=>by rcases hr.ownT g hg with h|h;exact h2 h;omega
  have:=hm.nf
  show J1.F g=J0.F g
  rw[e4 g (by omega) h3];exact hm.fam g h1 h2
 .simpa [e2]using hm.dl o h1
 .obtain⟨fv,iv,a,b,c⟩:=hm.mach
  exact⟨fv,iv,by rw[key xo (Ne.symm hfd.2.1)];exact a,b,c⟩
 .exact hm.own.keep (by simpa using e3) (by simpa using hof)
 .rw[key mo (Ne.symm hfd.2.2)];exact hm.mem
 .exact hcv.keep λo ho=>key o λe=>hr.fl (e▸ho)
 .rcases hsf g hg with h|h
  .exact hr.ownT g h
  .right;have:=hm.nf;omega
 .intro h'
  rcases hsf g h' with h|h
  .exact hd g hg h
  .have:=hlt g hg;omega
theorem zao{v:Int}(h:XF fs mm mn J0 xo mo fo L T x r J)(hl:r.stack.length<=2^40)(hR:∀J',XF fs mm mn J0 xo mo fo L T x (r.push v) J'->R (.ret (.tuple [])) J'):zzQ G 217 [.ptr fo 0,.int .i64 v] J R:=by
 refine ztU rfl ?_
 obtain⟨ov,sv,hm,hr,hd⟩:=h
 obtain⟨pv,lv,tv,cv,ho,hpv,hlv,htv,hcv⟩:=hr.fr
 have s1:=hr.own.one
 have p1:=hpv.one
 have l1:=hlv.one
 have t1:=htv.one
 have c1:=hcv.one
 have hx:XF fs mm mn J0 xo mo fo L T x r J:=⟨ov,sv,hm,hr,hd⟩
 rcases hr.own with ⟨hs,rfl⟩|⟨g,rfl,hg1,hg2⟩
 .simp[zxH,ho,splice]
  refine hR _ (hx.setFr ho (by simp) (by simp) (by simp) (λg h1 _=>by simp;intro h;omega) ?_ ?_)
  .exact .inr ⟨J.nf,by simp[hs],by simp,by simp⟩
  .simp[zV]
 .simp[zxH,ho,splice,hg2]
  refine⟨by omega,hR _ (hx.setFr ho (by simp) (by simp) (by simp) (λk h1 h2=>?_) ?_ ?_)⟩
  .have:k≠g:=by simpa [zV]using h2
   simp[this];intro h;omega
  .exact .inr ⟨J.nf,by simp,by simp,by simp⟩
  .simp[zV]
theorem zjM{v:Int}(h:XF fs mm mn J0 xo mo fo L T x r J)(hl:r.stack.length<=2^40)(hv:r.stack.getLast?=some v)(hR:∀J',XF fs mm mn J0 xo mo fo L T x { r with stack:=r.stack.dropLast } J'->(∀o,o≠fo->J'.objs o=J.objs o)->R (.ret (.int .i64 v)) J'):zzQ G 147 [.ptr fo 0] J R:=by
 refine ztr rfl ?_
 obtain⟨ov,sv,hm,hr,hd⟩:=h
 obtain⟨pv,lv,tv,cv,ho,hpv,hlv,htv,hcv⟩:=hr.fr
 have s1:=hr.own.one
 have p1:=hpv.one
 have l1:=hlv.one
 have t1:=htv.one
 have c1:=hcv.one
 have hx:XF fs mm mn J0 xo mo fo L T x r J:=⟨ov,sv,hm,hr,hd⟩
 rcases hr.own with ⟨hs,rfl⟩|⟨g,rfl,hg1,hg2⟩
 .rw[hs]at hv;simp at hv
 .have hne:r.stack≠[]:=by rintro e;rw[e]at hv;simp at hv
  have hpos:0<r.stack.length:=ybn.2 hne
  have w1:yb5 .i64 ((r.stack.length:Int)-1)=((r.stack.length-1:Nat):Int):=by rw[wrap_i64]<;>omega
  have hix:(r.stack.map (ycS .i64))[r.stack.length-1]?=some (.int .i64 v):=by
   rw[List.getLast?_eq_getElem?]at hv
   simp[hv]
  have e:ydm (r.stack.length-1) (r.stack.map (ycS .i64))=r.stack.dropLast.map (ycS .i64):=by rw[<-ydY,List.dropLast_eq_take]
  simp[zBU,ho,splice,hg2,w1,hix,e]
  exact hR _ (hx.setFr (J1:=J) ho rfl rfl (yah _) (λ_ _ _=>rfl) (.inr ⟨g,by simp,hg1,hg2⟩) (λk hk=>.inl hk)) λo h=>by simp[h]
theorem zac{v:Int}(h:XF fs mm mn J0 xo mo fo L T x r J)(hl:r.stack.length<=2^40)(hv:r.stack.getLast?=some v)(hR:∀J',XF fs mm mn J0 xo mo fo L T x { r with stack:=r.stack.dropLast } J'->R (.ret (.int .i64 v)) J'):zzQ G 147 [.ptr fo 0] J R :=
 zjM h hl hv λJ' hx _=>hR J' hx
theorem XF.setX(h:XF fs mm mn J0 xo mo fo L T x r J){fv iv ov iv' ov':AV}{inp out:List Int}{steps calls:Int}{J1:AS}
  (ho:J.objs xo=some [fv,.int .i64 mm,.int .i64 mn,iv,.int .i64 x.steps,.slm mo 0 1 x.memory.length,ov,.int .i64 x.calls]) (e1:J1.objs=J.objs) (e2:J1.no=J.no) (e3:J.nf<=J1.nf) (e4:∀g,g<J.nf->g∉zV ov->J1.F g=J.F g)
  (hi:zaf iv' inp) (hs:zkW J1 ov' out) (hsf:∀g∈zV ov',g∈zV ov\/J.nf<=g) :
  XF fs mm mn J0 xo mo fo L T { x with input:=inp,out:=out,steps:=steps,calls:=calls } r (J1.setO xo [fv,.int .i64 mm,.int .i64 mn,iv',.int .i64 steps,.slm mo 0 1 x.memory.length,ov',.int .i64 calls]):=by
 obtain⟨ov0,sv,hm,hr,hd⟩:=h
 obtain⟨fv0,iv0,ho0,hfv,hiv⟩:=hm.mach
 rw[ho]at ho0
 simp only[yaR.injEq,ydX.injEq]at ho0
 obtain⟨rfl,_,_,rfl,_,_,rfl,_⟩:=ho0
 have hfd:=hm.dl fo (by simp)
 have hltm:=hm.xl
 have hltml:=hm.ml
 have hno:=hm.no
 have hlt:=hr.own.lt
 have key:∀o,o≠xo->(J1.setO xo [fv,.int .i64 mm,.int .i64 mn,iv',.int .i64 steps,.slm mo 0 1 x.memory.length,ov',.int .i64 calls]).objs o=J.objs o:=λo ho=>by simp[ho,e1]
 have hof:∀g∈zV sv,J1.F g=J.F g:=λg hg=>e4 g (hlt g hg) (λh=>hd g h hg)
 refine⟨ov',sv,⟨by simp[e2];omega,yai hm.nf e3,λo h1 h2 h3 h4=>?_,λg h1 h2=>?_,hm.xl,hm.ml,hm.xm,λo h1=>?_,?_,hs,λg hg=>?_,?_⟩,⟨?_,hr.fl,?_,hr.ownT⟩,λg hg h'=>?_⟩
 .rw[key o h2];exact hm.obj o h1 h2 h3 h4
 .have h3:g∉zV ov:=λhg=>by rcases hm.ownT g hg with h|h;exact h2 h;omega
  have:=hm.nf
  show J1.F g=J0.F g
  rw[e4 g (by omega) h3];exact hm.fam g h1 h2
 .simpa [e2]using hm.dl o h1
 .exact⟨fv,iv',by simp,hfv,hi⟩
 .rcases hsf g hg with h|h
  .exact hm.ownT g h
  .right;have:=hm.nf;omega
 .rw[key mo (Ne.symm hm.xm)];exact hm.mem
 .obtain⟨pv,lv,tv,cv,a,b,c,d,e⟩:=hr.fr
  exact⟨pv,lv,tv,cv,by rw[key fo hfd.2.1];exact a,b,c,d,e.keep λo ho=>key o (hm.dl o (by simp[ho])).2.1⟩
 .exact hr.own.keep (by simpa using e3) (by simpa using hof)
 .rcases hsf g hg with h|h
  .exact hd g h h'
  .have:=hlt g h';omega
theorem zcU{t:Int}(h0:t=0->R (.ret (.tuple [])) J)(h1:t≠0->R (.panic (ziA 2 t)) J):zzQ G 145 [.int .i64 t] J R:=by
 refine ztp rfl ?_
 by_cases h:t=0
 .simp[zxz,splice,h];exact h0 h
 .simp[zxz,splice,h];exact h1 h
theorem zpJ(h:XF fs mm mn J0 xo mo fo L T x r J)(hl:x.input.length<=2^40)(hR:∀J',(match x.input with|[]=>XF fs mm mn J0 xo mo fo L T x r J'|_::l=>XF fs mm mn J0 xo mo fo L T { x with input:=l } r J')->R (.ret (.int .i64 (x.input.headD 0))) J'):zzQ G 247 [.ptr xo 0] J R:=by
 refine zuc rfl ?_
 have hx:=h
 obtain⟨ov,sv,hm,hr,hd⟩:=h
 obtain⟨fv,iv,ho,hfv,hiv⟩:=hm.mach
 have i1:=hiv.one
 have i2:=hiv.len
 have f1:=hfv.one
 have o1:=hm.own.one
 cases hin:x.input with
 | nil =>
  rw[hin]at hR i2
  simp[zxI,ho,splice,i2]
  exact hR _ hx
 | cons v l =>
  rw[hin]at hR i2 hiv
  rcases hiv with ⟨hh,_⟩|⟨b,rfl⟩
  .cases hh
  .have hne:¬((l.length:Int)+1=0):=by omega
   have ht:ydm l.length (l.map (ycS .i64))=l.map (ycS .i64):=ydn (by simp)
   simp[zxI,ho,splice,hne,ht]
   exact⟨by omega,hR _ (hx.setX (J1:=J) ho rfl rfl (yah _) (λ_ _ _=>rfl) (.inr ⟨_,rfl⟩) hm.own λk hk=>.inl hk)⟩
theorem zjN{at_ n:Int}(h:XF fs mm mn J0 xo mo fo L T x r J)(hn:1<=n/\n<=8)(hml:x.memory.length<=2^40)(hR:(at_<0\/(x.memory.length:Int)-n<at_)->R (.panic (ziA 2 3)) J)
  (hR':¬(at_<0\/(x.memory.length:Int)-n<at_)->R (.ret (.slm mo at_.toNat 1 n.toNat)) J):zzQ G 222 [.ptr xo 0,.int .i64 at_,.int .i64 n] J R:=by
 refine zt1 rfl ?_
 obtain⟨ov,sv,hm,hr,hd⟩:=h
 obtain⟨fv,iv,ho,hfv,hiv⟩:=hm.mach
 have i1:=hiv.one
 have f1:=hfv.one
 have o1:=hm.own.one
 have w1:yb5 .i64 ((x.memory.length:Int)-n)=(x.memory.length:Int)-n:=by rw[wrap_i64]<;>omega
 by_cases h1:at_<0
 .simp[zt0,ho,splice,h1]
  refine zcU (λh=>by omega) λ_=>?_
  simp
  exact hR (.inl h1)
 .by_cases h2:(x.memory.length:Int)-n<at_
  .simp[zt0,ho,splice,h1,w1,h2]
   refine zcU (λh=>by omega) λ_=>?_
   simp
   exact hR (.inr h2)
  .have w2:yb5 .i64 (at_+n)=at_+n:=by rw[wrap_i64]<;>omega
   simp[zt0,ho,splice,h1,w1,h2,w2]
   refine⟨by omega,by omega,by omega,by omega,?_⟩
   rw[show(at_+n).toNat-at_.toNat=n.toNat by omega]
   exact hR' (by omega)
end
theorem zkX:∀(l:List UInt8),0<=zd3 l/\zd3 l<256^l.length
 | []=>by simp[zd3]
 | c::l=>by
  obtain⟨h1,h2⟩:=zkX l
  have hc:=c.toNat_lt
  simp only[zd3,yac]
  rw[Int.pow_succ]
  omega
theorem zjO:∀(l:List UInt8) (c:UInt8),zd3 (l++[c])=zd3 l+256^l.length*(c.toNat:Int)
 | [],c=>by simp[zd3]
 | d::l,c=>by
  simp only[List.cons_append,zd3,zjO l c,yac]
  rw[Int.pow_succ,Int.mul_add,Int.mul_comm (256^l.length) 256,Int.mul_assoc];omega
theorem zC6{a b k:Nat}(ha:a<2^k):a ||| (b*2^k)=a+b*2^k:=by
 rw[Nat.add_comm,Nat.mul_comm,Nat.or_comm]
 exact(Nat.two_pow_add_eq_or_of_lt ha b).symm
theorem zu3{a c:Int}{k:Nat}{n:Nat}(h0:0<=a)(ha:a<2^k)(hc:0<=c)(hc2:c<256)(hk:k+8<=64):zag .u64 (· ||| ·) a (ydQ.wrap (c*2^k))=a+2^k*c:=by
 obtain⟨a,rfl⟩:=ydZ h0
 obtain⟨c,rfl⟩:=ydZ hc
 have hp:(2:Nat)^(k+8)<=2^64:=yd0 (by omega) hk
 have ha':a<2^k:=by exact_mod_cast ha
 have hb:c*2^k<2^64:=by
  have h1:c*2^k<256*2^k:=Nat.mul_lt_mul_of_pos_right (by omega) (Nat.two_pow_pos k)
  rw[Nat.pow_add]at hp
  omega
 have hak:a<2^64:=by
  have:(2:Nat)^k<=2^64:=yd0 (by omega) (by omega)
  omega
 have hab:a+c*2^k<2^64:=by
  rw[Nat.pow_add]at hp
  have h1:c*2^k<=255*2^k:=Nat.mul_le_mul_right _ (by omega)
  omega
 have wn:∀z:Nat,z<2^64->ydQ.wrap (z:Int)=(z:Int):=λz hz=>by
  simp[yb5,yap,yao];omega
 have e1:ydQ.wrap ((c:Int)*2^k)=((c*2^k:Nat):Int):=by
  rw[<-wn _ hb];congr 1
 rw[e1]
 unfold zag
 have e2:∀z:Nat,z<2^64->(BitVec.ofInt ydQ.bits (z:Int)).toNat=z:=λz hz=>by
  rw[BitVec.ofInt_natCast,BitVec.toNat_ofNat];exact Nat.mod_eq_of_lt hz
 rw[BitVec.toNat_or,e2 a hak,e2 _ hb,zC6 ha',wn _ hab]
 push_cast
 rw[Int.mul_comm (2^k)]
theorem zpK{z:Int}{n:Nat}(h1:1<=n)(h8:n<=8)(h0:0<=z)(hz:z<256^n):
  (yam.wrap (ydQ.wrap (z*2^(min (64-8*n) 64)))).fdiv (2^(min (64-8*n) 64))=if z<2^(8*n-1)then z else z-2^(8*n):=by
 have hn:n=1\/n=2\/n=3\/n=4\/n=5\/n=6\/n=7\/n=8:=by omega
 rw[Int.fdiv_eq_ediv_of_nonneg _ (Int.pow_nonneg (by omega))]
 rcases hn with rfl|rfl|rfl|rfl|rfl|rfl|rfl|rfl<;>simp[yb5,yap,yao]at hz ⊢<;>split<;>split<;>omega
def LDI(mo at_ n:Nat)(l:List UInt8)(J:AS)(a:Nat->AV)(Z:AS):Prop:=∃i:Nat,i<=n/\a 0=.slm mo at_ 1 n/\a 7=.slm mo at_ 1 n/\a 8=.int .i64 (n:Int)/\a 9=.int .i64 (i:Int)/\a 3=.int .u64 (zd3 (l.take i))/\Z=J
theorem zpL{G:Env}{J:AS}{R:Out->AS->Prop}{mo at_ n:Nat}{mem:List UInt8}(ho:J.objs mo=some (mem.map λb=>.int .u8 b.toNat))(h1:1<=n)(h8:n<=8)(hl:at_+n<=mem.length)(hR:R (.ret (.int .i64 (zym ((mem.drop at_).take n)))) J):
  zzQ G 221 [.slm mo at_ 1 n] J R:=by
 refine ztZ rfl ?_
 generalize hle:(mem.drop at_).take n=l at *
 have hll:l.length=n:=by rw[<-hle];simp;omega
 simp[zCa]
 refine zS (LDI mo at_ n l J) (MU 9 (n+1)) ⟨0,by omega,by simp,by simp,by simp,by simp,by simp[zd3],rfl⟩ λa Z hI=>?_
 obtain⟨i,hi,a0,a7,a8,a9,a3,rfl⟩:=hI
 by_cases hlt:i<n
 .have hil:i<l.length:=by omega
  have hm:mem[at_+i]?=some l[i]:=by
   rw[<-yau hil,<-hle,List.getElem?_take,List.getElem?_drop,if_pos hlt]
  have hc:=l[i].toNat_lt
  have w1:yb5 .i64 (8*(i:Int))=8*(i:Int):=by rw[wrap_i64]<;>omega
  have w2:yb5 .i64 ((i:Int)+1)=((i+1:Nat):Int):=by rw[wrap_i64]<;>omega
  have w3:yb5 .u64 (l[i].toNat:Int)=(l[i].toNat:Int):=by simp[yb5,yap,yao];omega
  obtain⟨q1,q2⟩:=zkX (l.take i)
  have hti:(l.take i).length=i:=by simp;omega
  have w4:=zu3 (a:=zd3 (l.take i)) (c:=(l[i].toNat:Int)) (k:=8*i) (n:=0) q1 (by rw[hti]at q2;rw[Int.pow_mul];exact q2) (by omega) (by omega) (by omega)
  have w5:zd3 (l.take (i+1))=zd3 (l.take i)+2^(8*i)*(l[i].toNat:Int):=by
   rw[ycP hil,zjO,hti,Int.pow_mul];rfl
  have w6:min (8*(i:Int)).toNat ydQ.bits=8*i:=by simp[yap];omega
  simp[zg9,a0,a7,a8,a9,a3,hlt,ho,hm,w1,w2,w3,w6]
  refine⟨by omega,⟨i+1,by omega,by simp[a0],by simp[a7],by simp[a8],by simp,?_,rfl⟩,?_⟩
  .simp[w4,w5]
  .simp only[MU,a9];simp;omega
 .have e:i=n:=by omega
  subst e
  rw[ydn (by omega)]at a3
  obtain⟨q1,q2⟩:=zkX l
  have w1:yb5 .i64 (8*(i:Int))=8*(i:Int):=by rw[wrap_i64]<;>omega
  have w2:yb5 .i64 (64-8*(i:Int))=((64-8*i:Nat):Int):=by rw[wrap_i64]<;>omega
  have w3:=zpK h1 h8 q1 (by rw[hll]at q2;exact q2)
  simp[zg9,zol,a0,a7,a8,a9,a3,w1,w2]
  unfold zym at hR
  rw[hll,<-w3]at hR
  exact hR
structure OkF(f:F):Prop where
 params:f.params.length<=2^38
 locals:f.locals.length<=2^38
 lists:f.lists.length<=2^38
 rows:∀l∈f.lists,l.length<=2^38
 nums:∀l∈f.lists,∀w∈l,w.n<=2^63-1
structure Bd(N:Nat)(x:zap)(r:Fr):Prop where
 n:N<=2^38
 stack:(r.stack.length:Int)+max x.steps 0<=N
 out:(x.out.length:Int)+max x.steps 0<=N
 fn:OkF r.fn
 calls:0<=x.calls/\x.calls<=32
 mem:x.memory.length<=2^38
 inp:x.input.length<=2^38
structure Aft(N:Nat)(x:zap)(r:Fr)(x':zap)(r':Fr):Prop where
 bd:Bd N x' r'
 steps:x'.steps<=x.steps
 calls:x'.calls=x.calls
 fn:r'.fn=r.fn
theorem Aft.trans{N x r x' r' x'' r''}(h:Aft N x r x' r')(k:Aft N x' r' x'' r''):Aft N x r x'' r'':=⟨k.bd,Int.le_trans k.steps h.steps,k.calls.trans h.calls,k.fn.trans h.fn⟩
def RBd(N:Nat)(D:Int)(rec:zfb):Prop:=∀x r at_ deep o x' r',Bd N x r->deep<=D->rec x r at_ deep=.ok o x' r'->Aft N x r x' r'/\o<=2^63-1
theorem za4{α:Type}{r:Fr}{k:Int->Fr->Ev α}{e:Ev α}(h:zbQ r k=e)(hb:e≠.bad):∃v,r.stack.getLast?=some v/\k v { r with stack:=r.stack.dropLast }=e:=by
 unfold zbQ at h
 cases hg:r.stack.getLast? with
 | none=>rw[hg]at h;exact absurd h.symm hb
 | some v=>rw[hg]at h;exact⟨v,rfl,h⟩
structure B1(N:Nat)(x:zap)(r:Fr):Prop where
 bd:Bd N x r
 st:(r.stack.length:Int)+max x.steps 0+1<=N
 ou:(x.out.length:Int)+max x.steps 0+1<=N
theorem Bd.one{N x r}(h:Bd N x r)(hs:1<=x.steps):B1 N { x with steps:=x.steps-1 } r:=by
 obtain⟨a,b,c,d,e,f,g⟩:=h
 exact⟨⟨a,by simp only;omega,by simp only;omega,d,e,f,g⟩,by simp only;omega,by simp only;omega⟩
theorem B1.stack{N x r}(h:B1 N x r){st:List Int}{loc:List Int}{res:Int}(hs:st.length<=r.stack.length):B1 N x { r with stack:=st,locals:=loc,result:=res }:=by
 obtain⟨⟨a,b,c,d,e,f,g⟩,k,m⟩:=h
 exact⟨⟨a,by simp only;omega,c,d,e,f,g⟩,by simp only;omega,m⟩
theorem Bd.stackLe{N x r}(h:Bd N x r){st:List Int}{loc:List Int}{res:Int}(hs:st.length<=r.stack.length):Bd N x { r with stack:=st,locals:=loc,result:=res }:=by
 obtain⟨a,b,c,d,e,f,g⟩:=h
 exact⟨a,by simp only;omega,c,d,e,f,g⟩
theorem B1.aft{N x r}(h:B1 N x r){st:List Int}{loc:List Int}{res:Int}(hs:st.length<=r.stack.length+1):Aft N x r x { r with stack:=st,locals:=loc,result:=res }:=by
 obtain⟨⟨a,b,c,d,e,f,g⟩,k,m⟩:=h
 exact⟨⟨a,by simp only;omega,c,d,e,f,g⟩,ydU _,rfl,rfl⟩
theorem Bd.aft{N x r}(h:Bd N x r){st:List Int}{loc:List Int}{res:Int}(hs:st.length<=r.stack.length):Aft N x r x { r with stack:=st,locals:=loc,result:=res }:=by
 obtain⟨a,b,c,d,e,f,g⟩:=h
 exact⟨⟨a,by simp only;omega,c,d,e,f,g⟩,ydU _,rfl,rfl⟩
def zp1(fs:List F):Prop:=∀f∈fs,OkF f
theorem zrL{N:Nat}{D:Int}{rec:zfb}{fs:List F}(hr:RBd N D rec)(hf:zp1 fs)(hD:0<=D){x:zap}{r:Fr}(hb:Bd N x r){g:F}(hg:g∈fs){args:List Int}{v:Int}{x':zap}{r':Fr}(h:zbW rec x g args r=.ok v x' r'):
  r'=r/\Aft N x r x' r:=by
 unfold zbW at h
 split at h
 .cases h
 rename_i hc
 obtain⟨a,b,c,d,e,f,k⟩:=hb
 have hb':Bd N { x with calls:=x.calls+1 } ⟨g,args++yaj g.locals.length 0,[],0⟩:=⟨a,by simp only[ybm];omega,c,hf g hg,by simp only;omega,f,k⟩
 have fin:∀{x1:zap} {f1:Fr},Aft N { x with calls:=x.calls+1 } ⟨g,args++yaj g.locals.length 0,[],0⟩ x1 f1->Aft N x r { x1 with calls:=x1.calls-1 } r:=λ{x1 f1} ha=>by
  obtain⟨⟨a',b',c',d',e',f',k'⟩,s1,s2,s3⟩:=ha
  simp only at s1 s2
  exact⟨⟨a,by simp only;omega,c',d,by simp only;omega,f',k'⟩,s1,by simp only;omega,rfl⟩
 split at h
 .cases h
 .cases h
 .rename_i o x1 f1 hq
  have ha:=(hr _ _ _ _ _ _ _ hb' hD hq).1
  split at h
  .obtain⟨v1,_,h⟩:=za4 h (by simp)
   cases h
   exact⟨rfl,fin ha⟩
  .cases h
   exact⟨rfl,fin ha⟩
theorem zdh{mem:List UInt8}{at_ n:Nat}{v:Int}(h:at_+n<=mem.length):(zcT mem at_ v n).length=mem.length:=by
 simp[zcT];omega
theorem zO{l:List Int}{v:Int}(hv:l.getLast?=some v):l.dropLast.length+1=l.length:=by
 have:l≠[]:=by rintro rfl;simp at hv
 have:=ybn.2 this
 simp;omega
theorem zpM{N:Nat}{D:Int}{rec:zfb}{fs:List F}(hr:RBd N D rec)(hf:zp1 fs)(hD:0<=D){n:Int}{x:zap}{r:Fr}(hb:B1 N x r){u:Unit}{x':zap}{r':Fr}(h:z9 fs rec x r n=.ok u x' r'):Aft N x r x' r':=by
 unfold z9 at h
 split at h
 .split at h
  .cases h;exact hb.aft (by simp[Fr.push])
  .rename_i v l hi
   cases h
   obtain⟨a,b,c,d⟩:=hb.aft (st:=r.stack++[v]) (loc:=r.locals) (res:=r.result) (by simp)
   obtain⟨a1,a2,a3,a4,a5,a6,a7⟩:=a
   rw[hi,yac]at a7
   exact⟨⟨a1,a2,a3,a4,a5,a6,by simp only;omega⟩,b,c,d⟩
 split at h
 .obtain⟨v,hv,h⟩:=za4 h (by simp)
  have h1:=zO hv
  cases h
  obtain⟨⟨a,b,c,d,e,f,g⟩,k,m⟩:=hb
  refine⟨⟨a,?_,?_,d,e,f,g⟩,ydU _,rfl,rfl⟩
  .simp only;omega
  .simp only[yab,yd1];omega
 split at h
 .obtain⟨v,hv,h⟩:=za4 h (by simp)
  cases h
 split at h
 .cases h
 split at h
 .cases h
 rename_i g hg
 split at h
 .cases h
 have hgm:g∈fs:=ycW hg
 split at h
 .cases h
 .cases h
 .rename_i v x1 r1 hq
  have hb2:B1 N x { r with stack:=r.stack.take (r.stack.length-g.params.length) }:=hb.stack (by simp)
  obtain⟨rfl,ha⟩:=zrL hr hf hD hb2.bd hgm hq
  cases h
  obtain⟨⟨a,b,c,d,e,f,k⟩,s1,s2,s3⟩:=ha
  have h3:=hb.st
  refine⟨⟨a,?_,c,?_,e,f,k⟩,s1,s2,?_⟩
  .split<;>simp only[Fr.push,yab,yd1,ybf]at b ⊢<;>omega
  .split<;>exact d
  .split<;>rfl
set_option maxHeartbeats 2000000 in
theorem zu4{N:Nat}{D:Int}{rec:zfb}{fs:List F}(hr:RBd N D rec)(hf:zp1 fs)(hD:0<=D){w:W}{x:zap}{r:Fr}(hb:B1 N x r){u:Unit}{x':zap}{r':Fr}(h:zaa fs rec w x r=.ok u x' r'):Aft N x r x' r':=by
 unfold zaa at h
 split at h
 .cases h;exact hb.aft (by simp)
 split at h
 .split at h
  .cases h
  .split at h
   .cases h
   .cases h;exact hb.aft (by simp)
 split at h
 .split at h
  .cases h
  .obtain⟨v,hv,h⟩:=za4 h (by simp)
   cases h;exact hb.aft (by simp;omega)
 split at h
 .obtain⟨v,hv,h⟩:=za4 h (by simp)
  obtain⟨v2,hv2,h⟩:=za4 h (by simp)
  have h1:=zO hv
  have h2:=zO hv2
  simp only at h2
  split at h
  .cases h
  .cases h;exact hb.aft (by simp only[Fr.push,yab,yd1];omega)
 split at h
 .obtain⟨v,hv,h⟩:=za4 h (by simp)
  have h1:=zO hv
  cases h;exact hb.aft (by simp only[Fr.push,yab,yd1];omega)
 split at h
 .obtain⟨v,hv,h⟩:=za4 h (by simp)
  have h1:=zO hv
  cases h;exact hb.aft (by simp only[Fr.push,yab,yd1];omega)
 split at h
 .obtain⟨v,hv,h⟩:=za4 h (by simp)
  have h1:=zO hv
  unfold zix at h
  split at h
  .cases h
  split at h
  .cases h
  .cases h;exact hb.aft (by simp only[Fr.push,yab,yd1];omega)
 split at h
 .obtain⟨v,hv,h⟩:=za4 h (by simp)
  obtain⟨v2,hv2,h⟩:=za4 h (by simp)
  have h1:=zO hv
  have h2:=zO hv2
  simp only at h2
  unfold zix at h
  split at h
  .cases h
  split at h
  .cases h
  .rename_i n1 n2
   cases h
   obtain⟨a,b,c,d⟩:=hb.aft (st:=r.stack.dropLast.dropLast) (loc:=r.locals) (res:=r.result) (by omega)
   obtain⟨a1,a2,a3,a4,a5,a6,a7⟩:=a
   refine⟨⟨a1,a2,a3,a4,a5,?_,a7⟩,b,c,d⟩
   simp only
   rw[zdh]
   .exact a6
   .simp;omega
 split at h
 .exact zpM hr hf hD hb h
 split at h
 .cases h
 split at h
 .obtain⟨v,hv,h⟩:=za4 h (by simp)
  cases h;exact hb.aft (by simp;omega)
 .cases h;exact hb.aft (by simp)
theorem Bd.refl{N x r}(h:Bd N x r):Aft N x r x r:=⟨h,ydU _,rfl,rfl⟩
theorem zC7{N:Nat}{w:W}(hw:w.n<=2^63-1){deep:Int}(hd:deep<=2^62){x:zap}{r:Fr}(hb:Bd N x r){o:Int}{x':zap}{r':Fr}(h:zgS w deep x r=.ok o x' r'):Aft N x r x' r'/\o<=2^63-1:=by
 have go:∀{n:Int} {r1:Fr},n<=2^63-1->Aft N x r x r1->(if n=deep/\r1.fn.type≠0 then zbQ r1 λv r=>Ev.ok n x { r with result:=v }else .ok n x r1)=.ok o x' r'->Aft N x r x' r'/\o<=2^63-1:=λ{n r1} hn ha h=>by
  split at h
  .obtain⟨v,hv,h⟩:=za4 h (by simp)
   have:=zO hv
   cases h
   exact⟨ha.trans (ha.bd.aft (st:=r1.stack.dropLast) (loc:=r1.locals) (res:=v) (by omega)),hn⟩
  .cases h;exact⟨ha,hn⟩
 unfold zgS at h
 dsimp only at h
 split at h
 .exact go (by omega) hb.refl h
 split at h
 .obtain⟨v,hv,h⟩:=za4 h (by simp)
  have h1:=zO hv
  have ha:Aft N x r x { r with stack:=r.stack.dropLast }:=hb.aft (by omega)
  split at h
  .cases h;exact⟨ha,by omega⟩
  .exact go hw ha h
 .exact go hw hb.refl h
theorem zoN{N:Nat}{D:Int}{rec:zfb}(hr:RBd N D rec){isLoop:Bool}{at_ deep:Int}(hd:deep<=D):∀(j:Nat) {x:zap} {r:Fr},Bd N x r->∀{o:Int} {x':zap} {r':Fr},zcp rec isLoop at_ deep j x r=.ok o x' r'->Aft N x r x' r'/\o<=2^63-1
 | 0,x,r,hb,o,x',r',h=>by cases h
 | j+1,x,r,hb,o,x',r',h=>by
  rw[zcp]at h
  split at h
  .cases h
  .cases h
  .rename_i o1 x1 r1 hq
   obtain⟨ha,ho⟩:=hr _ _ _ _ _ _ _ hb hd hq
   split at h
   .obtain⟨h1,h2⟩:=zoN hr hd j ha.bd h
    exact⟨ha.trans h1,h2⟩
   .cases h
    exact⟨ha,by split<;>omega⟩
theorem zrM{N:Nat}{D:Int}{rec:zfb}(hr:RBd N D rec){k:Nat}{w:W}{deep:Int}(hd:deep<=D){x:zap}{r:Fr}(hb:Bd N x r){o:Int}{x':zap}{r':Fr}(h:zaB rec k w deep x r=.ok o x' r'):Aft N x r x' r'/\o<=2^63-1:=by
 have go:∀{at_:Int} {r1:Fr},Aft N x r x r1->(if at_<0 then Ev.ok (-1) x r1 else zcp rec (decide (w.op=12)) at_ deep k x r1)=.ok o x' r'->Aft N x r x' r'/\o<=2^63-1:=λ{at_ r1} ha h=>by
  split at h
  .cases h;exact⟨ha,by omega⟩
  .obtain⟨h1,h2⟩:=zoN hr hd k ha.bd h
   exact⟨ha.trans h1,h2⟩
 unfold zaB at h
 simp only at h
 split at h
 .obtain⟨v,hv,h⟩:=za4 h (by simp)
  have h1:=zO hv
  exact go (hb.aft (by omega)) h
 .exact go hb.refl h
theorem zrN{N:Nat}{D:Int}{rec:zfb}{fs:List F}(hr:RBd N D rec)(hf:zp1 fs)(hD:0<=D)(hD2:D<=2^62){k:Nat}{w:W}(hw:w.n<=2^63-1){deep:Int}(hd:deep+1<=D){x:zap}{r:Fr}(hb:B1 N x r){o:Int}{x':zap}{r':Fr}(h:zbX fs rec k deep w x r=.ok o x' r'):
  Aft N x r x' r'/\o<=2^63-1:=by
 unfold zbX at h
 split at h
 .exact zrM hr hd hb.bd h
 split at h
 .exact zC7 hw (by omega) hb.bd h
 split at h
 .cases h
 .cases h
 .rename_i u x1 r1 hq
  cases h
  exact⟨zu4 hr hf hD hb hq,by omega⟩
theorem zms{N:Nat}{D:Int}{rec:zfb}{fs:List F}(hr:RBd N D rec)(hf:zp1 fs)(hD:0<=D)(hD2:D<=2^62){k:Nat}{deep:Int}(hd:deep+1<=D){height:Nat}:∀(ws:List W),(∀w∈ws,w.n<=2^63-1)->∀{x:zap} {r:Fr},Bd N x r->∀{o:Int} {x':zap} {r':Fr},zan fs rec k deep height ws x r=.ok o x' r' ->
  Aft N x r x' r'/\o<=2^63-1
 | [],_,x,r,hb,o,x',r',h=>by cases h;exact⟨hb.refl,by omega⟩
 | w::ws,hw,x,r,hb,o,x',r',h=>by
  rw[zan]at h
  split at h
  .cases h
  rename_i hs
  split at h
  .cases h
  .cases h
  .rename_i o1 x1 r1 hq
   obtain⟨ha,ho⟩:=zrN hr hf hD hD2 (hw w (by simp)) hd (hb.one (by omega)) hq
   have ha':Aft N x r x1 r1:=⟨ha.bd,by have:=ha.steps;simp only at this;omega,ha.calls,ha.fn⟩
   split at h
   .obtain⟨h1,h2⟩:=zms hr hf hD hD2 hd ws (λw h=>hw w (by simp[h])) ha.bd h
    exact⟨ha'.trans h1,h2⟩
   .split at h
    .cases h
    .cases h
     exact⟨ha'.trans (ha.bd.aft (by rw[ybf];omega)),ho⟩
theorem znJ{N:Nat}{fs:List F}(hf:zp1 fs):∀(k:Nat) (D:Int),0<=D->D+k<=2^62->RBd N D (zkV fs k)
 | 0,D,_,_=>λx r at_ deep o x' r' _ _ h=>by cases h
 | k+1,D,h0,h1=>λx r at_ deep o x' r' hb hd h=>by
  rw[zkV]at h
  split at h
  .cases h
  split at h
  .cases h
  .rename_i ws hws
   exact zms (znJ hf k (D+1) (by omega) (by push_cast at h1;omega)) hf (by omega) (by push_cast at h1;omega) (by omega) ws (λw hw=>hb.fn.nums _ (ycW hws) w hw) hb h
def XO(fs:List F)(mm mn:Int)(J0:AS)(xo mo:Nat)(D T:List Nat)(x:zap)(J:AS):Prop:=∃ov,XM fs mm mn J0 xo mo D T x ov J
section
variable {G : Env} {fs : List F} {mm mn : Int} {J0 J : AS} {xo mo fo : Nat} {L T : List Nat} {x : zap} {r : Fr} {R : Out -> AS -> Prop}
theorem XF.adds{J':AS}(h:XF fs mm mn J0 xo mo fo L T x r J)(A:ze J J'):XF fs mm mn J0 xo mo fo L T x r J':=by
 obtain⟨ov,sv,hm,hr,hd⟩:=h
 have hno:=hm.no
 have hxl:=hm.xl
 have hml:=hm.ml
 refine⟨ov,sv,⟨yai hm.no A.no,yai hm.nf A.nf,λo h1 h2 h3 h4=>?_,λg h1 h2=>?_,hm.xl,hm.ml,hm.xm,λo h1=>?_,?_,?_,hm.ownT,?_⟩,⟨?_,hr.fl,?_,hr.ownT⟩,hd⟩
 .rw[A.obj o (by omega)];exact hm.obj o h1 h2 h3 h4
 .have:=hm.nf;rw[A.fam g (by omega)];exact hm.fam g h1 h2
 .have:=hm.dl o h1;have:=A.no;exact⟨by omega,(hm.dl o h1).2⟩
 .obtain⟨fv,iv,a,b,c⟩:=hm.mach
  exact⟨fv,iv,by rw[A.obj xo (by omega)];exact a,b,c⟩
 .exact hm.own.keep A.nf λg hg=>A.fam g (hm.own.lt g hg)
 .rw[A.obj mo (by omega)];exact hm.mem
 .obtain⟨pv,lv,tv,cv,a,b,c,d,e⟩:=hr.fr
  exact⟨pv,lv,tv,cv,by rw[A.obj fo (hm.dl fo (by simp)).1];exact a,b,c,d,e.keep λo ho=>A.obj o (hm.dl o (by simp[ho])).1⟩
 .exact hr.own.keep A.nf λg hg=>A.fam g (hr.own.lt g hg)
theorem XF.other(h:XF fs mm mn J0 xo mo fo L T x r J){o:Nat}(h1:o<J0.no)(h2:o≠xo)(h3:o≠mo)(h4:o≠fo)(h5:o∉L):J.objs o=J0.objs o:=by
 obtain⟨ov,sv,hm,_,_⟩:=h
 exact hm.obj o h1 h2 h3 (by simp[h4,h5])
theorem XF.lts(h:XF fs mm mn J0 xo mo fo L T x r J):xo<J.no/\mo<J.no/\fo<J.no/\∀o∈L,o<J.no:=by
 obtain⟨ov,sv,hm,_,_⟩:=h
 have:=hm.no;have:=hm.xl;have:=hm.ml
 exact⟨by omega,by omega,(hm.dl fo (by simp)).1,λo ho=>(hm.dl o (by simp[ho])).1⟩
theorem XF.anchor(h:XF fs mm mn J0 xo mo fo L T x r J):∃T',XF fs mm mn J xo mo fo L T' x r J/\(∀x' r' J',XF fs mm mn J xo mo fo L T' x' r' J'->XF fs mm mn J0 xo mo fo L T x' r' J') /\
  ∀x' J',XO fs mm mn J xo mo (fo::L) T' x' J'->XO fs mm mn J0 xo mo (fo::L) T x' J':=by
 have hl:=h.lts
 obtain⟨ov,sv,hm,hr,hd⟩:=h
 have tT:∀g,g∈zV ov++zV sv->g∈T\/J0.nf<=g:=λg hg=>by
  rcases ybh.1 hg with hg|hg
  .exact hm.ownT g hg
  .exact hr.ownT g hg
 have mt:∀x' ov' J',XM fs mm mn J xo mo (fo::L) (zV ov++zV sv) x' ov' J'->XM fs mm mn J0 xo mo (fo::L) T x' ov' J':=λx' ov' J' k=>by
  have h1:=hm.no;have h2:=hm.nf;have h3:=k.no;have h4:=k.nf
  refine⟨by omega,by omega,λo a b c d=>?_,λg a b=>?_,hm.xl,hm.ml,hm.xm,k.dl,k.mach,k.own,λg hg=>?_,k.mem⟩
  .rw[k.obj o (by omega) b c d];exact hm.obj o a b c d
  .rw[k.fam g (by omega) (λhg=>by rcases tT g hg with h|h;exact b h;omega)];exact hm.fam g a b
  .rcases k.ownT g hg with h|h
   .exact tT g h
   .right;omega
 refine⟨zV ov++zV sv,⟨ov,sv,⟨yah _,yah _,λ_ _ _ _ _=>rfl,λ_ _ _=>rfl,hl.1,hl.2.1,hm.xm,hm.dl,hm.mach,hm.own,λg hg=>.inl (by simp[hg]),hm.mem⟩,⟨hr.fr,hr.fl,hr.own,λg hg=>.inl (by simp[hg])⟩,hd⟩,?_,?_⟩
 .rintro x' r' J' ⟨ov',sv',km,kr,kd⟩
  refine⟨ov',sv',mt _ _ _ km,⟨kr.fr,kr.fl,kr.own,λg hg=>?_⟩,kd⟩
  rcases kr.ownT g hg with h|h
  .exact tT g h
  .right;have:=hm.nf;omega
 .rintro x' J' ⟨ov',km⟩
  exact⟨ov',mt _ _ _ km⟩
theorem XF.stop(h:XF fs mm mn J0 xo mo fo L T x r J):XO fs mm mn J0 xo mo (fo::L) T x J:=by
 obtain⟨ov,sv,hm,_,_⟩:=h;exact⟨ov,hm⟩
def ziB(G:Env)(fs:List F)(mm mn:Int)(N:Nat)(D:Int)(rec:zfb):Prop:=∀{J0 J:AS} {xo mo fo:Nat} {L T:List Nat} {x:zap} {r:Fr} {at_ deep:Int} {R:Out->AS->Prop},
 XF fs mm mn J0 xo mo fo L T x r J->Bd N x r->0<=deep->deep<=D->rec x r at_ deep≠.bad ->
 (∀o x' r' J',rec x r at_ deep=.ok o x' r'->XF fs mm mn J0 xo mo fo L T x' r' J'->R (.ret (.int .i64 o)) J') ->
 (∀s c x' J',rec x r at_ deep=.over s c x'->XO fs mm mn J0 xo mo (fo::L) T x' J'->R (.panic (ziA s c)) J') ->
 zzQ G 146 [.ptr xo 0,.ptr fo 0,.int .i64 at_,.int .i64 deep] J R
theorem XF.cells(h:XF fs mm mn J0 xo mo fo L T x r J):∃pv lv tv cv sv,J.objs fo=some [.str r.fn.name,pv,lv,.int .i64 r.fn.type,tv,cv,sv,.int .i64 r.result]/\(pv.known=true/\pv.one=true/\pv.cells=[pv])/\(lv.known=true/\lv.one=true/\lv.cells=[lv]) /\
  (tv.known=true/\tv.one=true/\tv.cells=[tv])/\(cv.known=true/\cv.one=true/\cv.cells=[cv])/\(sv.known=true/\sv.one=true/\sv.cells=[sv])/\zkW J sv r.stack/\zcu tv r.fn.lists/\zyo J L cv r.locals /\
  ∀v,XF fs mm mn J0 xo mo fo L T x { r with result:=v } (J.setO fo [.str r.fn.name,pv,lv,.int .i64 r.fn.type,tv,cv,sv,.int .i64 v]):=by
 have hx:=h
 obtain⟨ov,sv,hm,hr,hd⟩:=h
 obtain⟨pv,lv,tv,cv,ho,hpv,hlv,htv,hcv⟩:=hr.fr
 exact⟨pv,lv,tv,cv,sv,ho,hpv.one,hlv.one,htv.one,hcv.one,hr.own.one,hr.own,htv,hcv,λv=>hx.setFr (J1:=J) (st':=r.stack) ho rfl rfl (yah _) (λ_ _ _=>rfl) hr.own λg hg=>.inl hg⟩
theorem zaK{l:List Int}(h:l≠[]):∃v,l.getLast?=some v:=⟨_,ydT h⟩
set_option maxHeartbeats 1000000 in
theorem ziC{N:Nat}{w:W}{deep:Int}(h:XF fs mm mn J0 xo mo fo L T x r J)(hb:Bd N x r)(hw:zgS w deep x r≠.bad)(hR:∀o x' r' J',zgS w deep x r=.ok o x' r'->XF fs mm mn J0 xo mo fo L T x' r' J'->R (.ret (.int .i64 o)) J'):
  zzQ G 182 [.ptr fo 0,w.av,.int .i64 deep] J R:=by
 refine ztI rfl ?_
 obtain⟨wop,wty,wn,wbody,wother,wname⟩:=w
 have hn:=hb.n
 have hst:r.stack.length<=2^40:=by have:=hb.stack;omega
 have hlts:=h.lts
 have h1:XF fs mm mn J0 xo mo fo L T x r (J.newO [.int .i64 wop,.int .i64 wty,.int .i64 wn,.int .i64 wbody,.int .i64 wother,.str wname]):=h.adds (ze.refl J).newO
 obtain⟨T',k1,k2,_⟩:=h1.anchor
 have hfo:fo≠J.no:=by omega
 have hbo:∀{r1:Fr} {J':AS},XF fs mm mn (J.newO [.int .i64 wop,.int .i64 wty,.int .i64 wn,.int .i64 wbody,.int .i64 wother,.str wname]) xo mo fo L T' x r1 J'->J'.objs J.no=some [.int .i64 wop,.int .i64 wty,.int .i64 wn,.int .i64 wbody,.int .i64 wother,.str wname]:=λ{r1 J'} hx=>by
  rw[hx.other (o:=J.no) (by simp) (by omega) (by omega) (by omega) (λhh=>by have:=hlts.2.2.2 _ hh;omega)];simp
 obtain⟨pv,lv,tv,cv,sv,ho,e1,e2,e3,e4,e5,_,_,_,_⟩:=h.cells
 -- the branch tO the body,that takes the result
 have last:∀{r1:Fr} {J1:AS} {n:Int},XF fs mm mn (J.newO [.int .i64 wop,.int .i64 wty,.int .i64 wn,.int .i64 wbody,.int .i64 wother,.str wname]) xo mo fo L T' x r1 J1->r1.stack.length<=2^40->zbQ r1 (λv r=>Ev.ok n x { r with result:=v })≠.bad ->
   ∀{K:Out->AS->Prop},(∀v J' pv lv tv cv sv,r1.stack.getLast?=some v->J'.objs fo=some [.str r1.fn.name,pv,lv,.int .i64 r1.fn.type,tv,cv,sv,.int .i64 r1.result]->(pv.known=true/\pv.one=true/\pv.cells=[pv])->(lv.known=true/\lv.one=true/\lv.cells=[lv])->(tv.known=true/\tv.one=true/\tv.cells=[tv])->(cv.known=true/\cv.one=true/\cv.cells=[cv])->(sv.known=true/\sv.one=true/\sv.cells=[sv]) ->
    XF fs mm mn J0 xo mo fo L T x { r1 with stack:=r1.stack.dropLast,result:=v } (J'.setO fo [.str r1.fn.name,pv,lv,.int .i64 r1.fn.type,tv,cv,sv,.int .i64 v])->K (.ret (.int .i64 v)) J')->zzQ G 147 [.ptr fo 0] J1 K:=by
  intro r1 J1 n hx hl hp K hK
  have hne:r1.stack≠[]:=by rintro e;simp[zbQ,e]at hp
  obtain⟨v,hv⟩:=zaK hne
  refine zac hx hl hv λJ' hx'=>?_
  obtain⟨pv,lv,tv,cv,sv,ho,e1,e2,e3,e4,e5,_,_,_,hset⟩:=hx'.cells
  exact hK v J' pv lv tv cv sv hv ho e1 e2 e3 e4 e5 (k2 _ _ _ (hset v))
 by_cases h16:wop=16
 .subst h16
  simp only[zgS,if_true]at hw hR
  by_cases ht:r.fn.type=0
  .simp[ht]at hR
   simp[zm6,W.av,W.cs,splice,hfo,ho,ht,e1,e2,e3,e4,e5]
   exact hR _ _ _ _ rfl rfl rfl h1
  .simp[ht]at hR hw
   simp[zm6,W.av,W.cs,splice,hfo,ho,ht,e1,e2,e3,e4,e5]
   refine last k1 hst hw λv J' pv lv tv cv sv hv ho e1 e2 e3 e4 e5 hx=>?_
   simp[ho,e1,e2,e3,e4,e5,splice]
   exact hR _ _ _ _ (by simp[zbQ,hv]) hx
 by_cases h15:wop=15
 .subst h15
  have hne:r.stack≠[]:=by rintro e;simp[zgS,zbQ,e]at hw
  obtain⟨v,hv⟩:=zaK hne
  have hd:=zO hv
  simp[zm6,W.av,W.cs,splice,hfo,ho,e1,e2,e3,e4,e5]
  refine zac k1 hst hv λJ' hx'=>?_
  obtain⟨pv,lv,tv,cv,sv,ho',e1,e2,e3,e4,e5,_,_,_,_⟩:=hx'.cells
  have hbo':=hbo hx'
  by_cases hv0:v=0
  .simp[zgS,zbQ,hv,hv0]at hR
   simp[hv0,splice]
   exact hR _ _ _ _ rfl rfl rfl (k2 _ _ _ hx')
  .by_cases hnd:wn=deep
   .by_cases ht:r.fn.type=0
    .simp[zgS,zbQ,hv,hv0,hnd,ht]at hR
     simp[hv0,splice,hnd,ho',ht,e1,e2,e3,e4,e5,hbo',W.cs]
     exact hR _ _ _ _ rfl rfl rfl (k2 _ _ _ hx')
    .have hw':zbQ { r with stack:=r.stack.dropLast } (λv r=>Ev.ok deep x { r with result:=v })≠.bad:=by
      intro hh;apply hw;rw[<-hh];simp only[zgS];simp[zbQ,hv,hv0,hnd,ht]
     simp[hv0,splice,hnd,ho',ht,e1,e2,e3,e4,e5,hbo',W.cs]
     refine last hx' (by simp;omega) hw' λv2 J' pv lv tv cv sv hv2 ho e1 e2 e3 e4 e5 hx=>?_
     simp[ho,e1,e2,e3,e4,e5,splice]
     refine hR _ _ _ _ ?_ hx
     simp only[zgS]
     simp[zbQ,hv,hv0,hnd,ht,hv2]
   .simp[zgS,zbQ,hv,hv0,hnd]at hR
    simp[hv0,splice,hnd,ho',e1,e2,e3,e4,e5,hbo',W.cs]
    exact hR _ _ _ _ rfl rfl rfl (k2 _ _ _ hx')
 by_cases hnd:wn=deep
 .by_cases ht:r.fn.type=0
  .simp[zgS,h16,h15,hnd,ht]at hR
   simp[zm6,W.av,W.cs,splice,h16,h15,hnd,hfo,ho,ht,e1,e2,e3,e4,e5]
   exact hR _ _ _ _ rfl rfl rfl (by simpa [hnd]using h1)
  .simp[zgS,h16,h15,hnd,ht]at hR hw
   subst hnd
   simp[zm6,W.av,W.cs,splice,h16,h15,hfo,ho,ht,e1,e2,e3,e4,e5]
   refine last k1 hst hw λv J' pv lv tv cv sv hv ho e1 e2 e3 e4 e5 hx=>?_
   simp[ho,e1,e2,e3,e4,e5,splice]
   exact hR _ _ _ _ (by simp[zbQ,hv]) hx
 .simp[zgS,h16,h15,hnd]at hR
  simp[zm6,W.av,W.cs,splice,h16,h15,hnd,hfo,ho,e1,e2,e3,e4,e5]
  exact hR _ _ _ _ rfl rfl rfl h1
end
section
variable {G : Env} {fs : List F} {mm mn : Int} {J0 J : AS} {xo mo fo : Nat} {L T : List Nat} {x : zap} {r : Fr} {R : Out -> AS -> Prop}
theorem zfN{N:Nat}{D:Int}{rec:zfb}(hrec:ziB G fs mm mn N D rec)(hbd:RBd N D rec){wop wty wn wbody wother at_ deep:Int}{wname:List UInt8}{bo:Nat}(h0:0<=deep)(hd:deep<=D)(hat:0<=at_)
  (hbo:∀{x1:zap} {r1:Fr} {J':AS},XF fs mm mn J0 xo mo fo L T x1 r1 J'->J'.objs bo=some [.int .i64 wop,.int .i64 wty,.int .i64 wn,.int .i64 wbody,.int .i64 wother,.str wname]) :
  ∀(j:Nat) {x1:zap} {r1:Fr} {Z:AS} {a:Nat->AV},XF fs mm mn J0 xo mo fo L T x1 r1 Z->Bd N x1 r1->zcp rec (decide (wop=12)) at_ deep j x1 r1≠.bad->a 0=.ptr xo 0->a 1=.ptr fo 0->a 3=.int .i64 deep->a 6=.ptr bo 0->a 9=.int .i64 at_ ->
   (∀o x' r' J',zcp rec (decide (wop=12)) at_ deep j x1 r1=.ok o x' r'->XF fs mm mn J0 xo mo fo L T x' r' J'->R (.ret (.int .i64 o)) J') ->
   (∀s c x' J',zcp rec (decide (wop=12)) at_ deep j x1 r1=.over s c x'->XO fs mm mn J0 xo mo (fo::L) T x' J'->R (.panic (ziA s c)) J') ->
   zcC yca G 41 zel (za6 0 (zbi (avc yca G 41 zem (zfn yca [ResultVar.tmp 8] R)) (zfn yca [ResultVar.tmp 8] R))) j a Z
 | 0,x1,r1,Z,a,hx,hb,hw,_,_,_,_,_,_,_=>by simp[zcp]at hw
 | j+1,x1,r1,Z,a,hx,hb,hw,a0,a1,a3,a6,a9,hR,hO=>by
  have hat':¬at_<0:=by omega
  simp only[zcp]at hw hR hO
  simp[zel,a0,a1,a3,a6,a9,hat,hat']
  refine hrec hx hb h0 hd (λe=>by rw[e]at hw;exact hw rfl) (λo x' r' J' e hx'=>?_) (λs c x' J' e ho=>?_)
  .rw[e]at hw hR hO
   obtain⟨hA,ho2⟩:=hbd _ _ _ _ _ _ _ hb hd e
   have hbo':=hbo hx'
   simp only at hw hR hO
   by_cases ho:o=0
   .by_cases h12:wop=12
    .simp only[ho,h12,decide_true,and_self,if_true]at hw hR hO
     simp[ho,h12,hbo',splice,a0,a1,a3,a6,a9]
     exact zfN hrec hbd h0 hd hat hbo j hx' hA.bd (by simpa [h12]using hw) (by simp[a0]) (by simp[a1]) (by simp[a3]) (by simp[a6]) (by simp[a9]) (by simpa [h12]using hR) (by simpa [h12]using hO)
    .simp[ho,h12]at hR
     simp[ho,h12,hbo',zem,a0,a1,a3,a6,a9]
     exact hR _ _ _ _ rfl rfl rfl hx'
   .by_cases hp:0<o
    .have w1:yb5 .i64 (o-1)=o-1:=by rw[wrap_i64]<;>omega
     simp[ho,hp]at hR
     simp[ho,hp,hbo',w1,splice,a0,a1,a3,a6,a9]
     exact hR _ _ _ _ rfl rfl rfl hx'
    .simp[ho,hp]at hR
     simp[ho,hp,hbo',zem,a0,a1,a3,a6,a9]
     exact hR _ _ _ _ rfl rfl rfl hx'
  .rw[e]at hO
   simp
   exact hO _ _ _ _ rfl ho
theorem zd6{N:Nat}{D:Int}{rec:zfb}(hrec:ziB G fs mm mn N D rec)(hbd:RBd N D rec){k:Nat}{w:W}{deep:Int}(h:XF fs mm mn J0 xo mo fo L T x r J)(hb:Bd N x r)(h0:0<=deep)(hd:deep<=D)(hw:zaB rec k w deep x r≠.bad)
  (hR:∀o x' r' J',zaB rec k w deep x r=.ok o x' r'->XF fs mm mn J0 xo mo fo L T x' r' J'->R (.ret (.int .i64 o)) J')
  (hO:∀s c x' J',zaB rec k w deep x r=.over s c x'->XO fs mm mn J0 xo mo (fo::L) T x' J'->R (.panic (ziA s c)) J') :
  zzQ G 181 [.ptr xo 0,.ptr fo 0,w.av,.int .i64 deep] J R:=by
 refine ztH rfl ?_
 obtain⟨wop,wty,wn,wbody,wother,wname⟩:=w
 have hn:=hb.n
 have hst:r.stack.length<=2^40:=by have:=hb.stack;omega
 have hlts:=h.lts
 have h1:XF fs mm mn J0 xo mo fo L T x r (J.newO [.int .i64 wop,.int .i64 wty,.int .i64 wn,.int .i64 wbody,.int .i64 wother,.str wname]):=h.adds (ze.refl J).newO
 obtain⟨T',k1,k2,k3⟩:=h1.anchor
 have hbo:∀{x1:zap} {r1:Fr} {J':AS},XF fs mm mn (J.newO [.int .i64 wop,.int .i64 wty,.int .i64 wn,.int .i64 wbody,.int .i64 wother,.str wname]) xo mo fo L T' x1 r1 J'->J'.objs J.no=some [.int .i64 wop,.int .i64 wty,.int .i64 wn,.int .i64 wbody,.int .i64 wother,.str wname]:=λ{x1 r1 J'} hx=>by
  rw[hx.other (o:=J.no) (by simp) (by omega) (by omega) (by omega) (λhh=>by have:=hlts.2.2.2 _ hh;omega)];simp
 have go:∀{at_:Int} {r1:Fr} {J1:AS} {a:Nat->AV},XF fs mm mn (J.newO [.int .i64 wop,.int .i64 wty,.int .i64 wn,.int .i64 wbody,.int .i64 wother,.str wname]) xo mo fo L T' x r1 J1->Bd N x r1->(if at_<0 then Ev.ok (-1) x r1 else zcp rec (decide (wop=12)) at_ deep k x r1)=zaB rec k ⟨wop,wty,wn,wbody,wother,wname⟩ deep x r ->
   a 0=.ptr xo 0->a 1=.ptr fo 0->a 3=.int .i64 deep->a 6=.ptr J.no 0->a 9=.int .i64 at_->zka yca G 41 zel (za6 0 (zbi (avc yca G 41 zem (zfn yca [ResultVar.tmp 8] R)) (zfn yca [ResultVar.tmp 8] R))) a J1:=by
  intro at_ r1 J1 a hx hb1 e a0 a1 a3 a6 a9
  by_cases hat:at_<0
  .refine za9 1 ?_
   have hat':¬0<=at_:=by omega
   rw[if_pos hat]at e
   simp[zel,zem,a0,a1,a3,a6,a9,hat,hat']
   exact hR _ _ _ _ e.symm (k2 _ _ _ hx)
  .rw[if_neg hat]at e
   refine za9 k ?_
   exact zfN (R:=R) hrec hbd h0 hd (by omega) hbo k hx hb1 (by rw[e];exact hw) a0 a1 a3 a6 a9 (λo x' r' J' e2 hx'=>hR _ _ _ _ (e▸e2) (k2 _ _ _ hx')) (λs c x' J' e2 ho=>hO _ _ _ _ (e▸e2) (k3 _ _ ho))
 by_cases h13:wop=13
 .subst h13
  have hne:r.stack≠[]:=by rintro e;simp[zaB,zbQ,e]at hw
  obtain⟨v,hv⟩:=zaK hne
  have hdl:=zO hv
  simp[zxD,W.av,W.cs]
  refine zac k1 hst hv λJ' hx'=>?_
  have hbo':=hbo hx'
  by_cases hv0:v=0
  .simp[hv0,hbo',splice]
   refine go (at_:=wother) hx' (hb.stackLe (by omega)) ?_ (by simp) (by simp) (by simp) (by simp) (by simp)
   simp[zaB,zbQ,hv,hv0]
  .simp[hv0,hbo',splice]
   refine go (at_:=wbody) hx' (hb.stackLe (by omega)) ?_ (by simp) (by simp) (by simp) (by simp) (by simp)
   simp[zaB,zbQ,hv,hv0]
 .simp[zxD,W.av,W.cs,h13]
  refine go (at_:=wbody) k1 hb ?_ (by simp) (by simp) (by simp) (by simp) (by simp)
  simp[zaB,h13]
end
section
variable {G : Env} {fs : List F} {mm mn : Int} {J0 J : AS} {xo mo fo : Nat} {L T D : List Nat} {x : zap} {r : Fr} {R : Out -> AS -> Prop}
def zsl(J:AS)(v:AV)(l:List Int):Prop:=(l=[]/\v=.sl (.stat true) 1 [])\/zkW J v l
theorem zsl.one{J v l}(h:zsl J v l):v.known=true/\v.one=true/\v.cells=[v]:=by
 rcases h with ⟨_,rfl⟩|h
 .simp
 .exact h.one
theorem zeN{l:List Int}{sv:AV}(h:zkW J sv l)(hl:l.length<=2^40)(hR:∀av J',zsl J' av l->ze J J'->(∀g∈zV av,J.nf<=g)->R (.ret av) J'):zzQ G 248 [sv] J R:=by
 refine zue rfl ?_
 rcases h with ⟨rfl,rfl⟩|⟨g,rfl,h1,h2⟩
 .have:=hR .nilsl J (.inr (.inl ⟨rfl,rfl⟩)) (.refl _) (by simp[zV])
  simp[zud,aeq]
  exact this
 .cases l with
  | nil =>
   have:=hR (.sl (.stat true) 1 []) J (.inl ⟨rfl,rfl⟩) (.refl _) (by simp[zV])
   simp[zud,aeq,h2]
   exact this
  | cons n l =>
   have:=hR (.sl (.fam J.nf false) 1 ((n::l).map (.int .i64))) J.newF (.inr (.inr ⟨_,rfl,by simp,by simp⟩)) (ze.refl J).newF (by simp[zV])
   simp at hl
   simp[zud,aeq,h2]
   exact⟨by omega,by simpa using this⟩
theorem zpN{el:Option TypeId}{av:AV}{args:List Int}{n:Nat}{K:AV->AS->Prop}(h:zsl J av args)(hl:args.length+n<=2^40)
  (hK:∀cv J',zsl J' cv (args++yaj n 0)->J'.objs=J.objs->J'.no=J.no->J.nf<=J'.nf->(∀k,k<J.nf->k∉zV av->J'.F k=J.F k)->(∀k∈zV cv,k∈zV av\/J.nf<=k)->K cv J') :
  zb7 el 8 1 av (yaj n (.int .i64 0)) J K:=by
 have hrep:∀m,(yaj m (ycS .i64 0))=(yaj m (0:Int)).map (.int .i64):=λm=>by simp
 have fresh:∀{a:List Int},zsl J.newF (.sl (.fam J.nf false) 1 ((a++yaj n 0).map (.int .i64))) (a++yaj n 0):=λ{a}=>.inr (.inr ⟨_,rfl,by simp,by simp⟩)
 rcases h with ⟨rfl,rfl⟩|⟨rfl,rfl⟩|⟨g,rfl,h1,h2⟩
 .cases n with
  | zero=>simpa using hK (.sl (.stat true) 1 []) J (.inl ⟨rfl,rfl⟩) rfl rfl (yah _) (λ_ _ _=>rfl) (by simp[zV])
  | succ n =>
   have:=hK _ J.newF (fresh (a:=[])) (by simp) (by simp) (by simp) (λk h1 _=>by simp;intro h;omega) (by simp[zV])
   rw[yc2]
   simp at hl
   simp
   refine⟨by omega,?_⟩
   simpa [yc2]using this
 .cases n with
  | zero=>simpa using hK .nilsl J (.inr (.inl ⟨rfl,rfl⟩)) rfl rfl (yah _) (λ_ _ _=>rfl) (by simp[zV])
  | succ n =>
   have:=hK _ J.newF (fresh (a:=[])) (by simp) (by simp) (by simp) (λk h1 _=>by simp;intro h;omega) (by simp[zV])
   rw[yc2]
   simp at hl
   simp
   refine⟨by omega,?_⟩
   simpa [yc2]using this
 .have:=hK (.sl (.fam J.nf false) 1 ((args++yaj n 0).map (.int .i64))) (J.setF g .dead).newF (.inr (.inr ⟨_,rfl,by simp,by simp⟩)) (by simp) (by simp) (by simp) (λk h1 h2=>by simp[zV]at h2;simp[h2];intro h;omega) (by simp[zV])
  simp[h2]
  exact⟨by omega,by simpa using this⟩
theorem XM.adds{ov:AV}{J':AS}(hm:XM fs mm mn J0 xo mo D T x ov J)(A:ze J J'):XM fs mm mn J0 xo mo D T x ov J':=by
 have hno:=hm.no
 have hxl:=hm.xl
 have hml:=hm.ml
 refine⟨yai hm.no A.no,yai hm.nf A.nf,λo h1 h2 h3 h4=>?_,λg h1 h2=>?_,hm.xl,hm.ml,hm.xm,λo h1=>?_,?_,?_,hm.ownT,?_⟩
 .rw[A.obj o (by omega)];exact hm.obj o h1 h2 h3 h4
 .have:=hm.nf;rw[A.fam g (by omega)];exact hm.fam g h1 h2
 .have:=hm.dl o h1;have:=A.no;exact⟨by omega,(hm.dl o h1).2⟩
 .obtain⟨fv,iv,a,b,c⟩:=hm.mach
  exact⟨fv,iv,by rw[A.obj xo (by omega)];exact a,b,c⟩
 .exact hm.own.keep A.nf λg hg=>A.fam g (hm.own.lt g hg)
 .rw[A.obj mo (by omega)];exact hm.mem
theorem XM.calls{fv iv ov:AV}{c:Int}(hm:XM fs mm mn J0 xo mo D T x ov J)(ho:J.objs xo=some [fv,.int .i64 mm,.int .i64 mn,iv,.int .i64 x.steps,.slm mo 0 1 x.memory.length,ov,.int .i64 x.calls])(hf:FsV fv fs)(hi:zaf iv x.input):
  XM fs mm mn J0 xo mo D T { x with calls:=c } ov (J.setO xo [fv,.int .i64 mm,.int .i64 mn,iv,.int .i64 x.steps,.slm mo 0 1 x.memory.length,ov,.int .i64 c]):=by
 refine⟨by simpa using hm.no,hm.nf,λo h1 h2 h3 h4=>by simp[h2];exact hm.obj o h1 h2 h3 h4,hm.fam,hm.xl,hm.ml,hm.xm,λo h=>by simpa using hm.dl o h,⟨fv,iv,by simp,hf,hi⟩,hm.own.keep (by simp) (λ_ _=>rfl),hm.ownT,?_⟩
 simp[Ne.symm hm.xm];exact hm.mem
theorem XM.reanchor{ov:AV}(hm:XM fs mm mn J0 xo mo D T x ov J){D':List Nat}(hd:∀o∈D',o<J.no/\o≠xo/\o≠mo):XM fs mm mn J xo mo D' (zV ov) x ov J:=by
 have:=hm.no;have:=hm.xl;have:=hm.ml
 exact⟨yah _,yah _,λ_ _ _ _ _=>rfl,λ_ _ _=>rfl,by omega,by omega,hm.xm,hd,hm.mach,hm.own,λg hg=>.inl hg,hm.mem⟩
theorem XM.back{ov:AV}(hm:XM fs mm mn J0 xo mo D T x ov J){D':List Nat}(hd:∀o∈D',J0.no<=o){x':zap}{J':AS}(h:XO fs mm mn J xo mo D' (zV ov) x' J'):XO fs mm mn J0 xo mo D T x' J':=by
 obtain⟨ov',k⟩:=h
 have h1:=hm.no;have h2:=hm.nf;have h3:=k.no;have h4:=k.nf
 refine⟨ov',by omega,by omega,λo a b c d=>?_,λg a b=>?_,hm.xl,hm.ml,hm.xm,λo ho=>?_,k.mach,k.own,λg hg=>?_,k.mem⟩
 .rw[k.obj o (by omega) b c (λhh=>by have:=hd o hh;omega)];exact hm.obj o a b c d
 .rw[k.fam g (by omega) (λhg=>by rcases hm.ownT g hg with h|h;exact b h;omega)];exact hm.fam g a b
 .have:=hm.dl o ho;exact⟨by omega,this.2⟩
 .rcases k.ownT g hg with h|h
  .exact hm.ownT g h
  .right;omega
theorem XM.fams{ov:AV}(hm:XM fs mm mn J0 xo mo D T x ov J){J1:AS}{av:AV}(haT:∀k∈zV av,k∈T\/J0.nf<=k)(hao:∀k∈zV av,k∉zV ov)(q1:J1.objs=J.objs)(q2:J1.no=J.no)(q3:J.nf<=J1.nf)(q4:∀k,k<J.nf->k∉zV av->J1.F k=J.F k):
  XM fs mm mn J0 xo mo D T x ov J1:=by
 have h2:=hm.nf
 refine⟨by rw[q2];exact hm.no,by omega,λo a b c d=>by rw[q1];exact hm.obj o a b c d,λg a b=>?_,hm.xl,hm.ml,hm.xm,λo ho=>by rw[q2];exact hm.dl o ho,by rw[q1];exact hm.mach,hm.own.keep q3 λg hg=>q4 g (hm.own.lt g hg) λh=>hao g h hg,hm.ownT,by rw[q1];exact hm.mem⟩
 rw[q4 g (by omega) (λh=>by rcases haT g h with h|h;exact b h;omega)];exact hm.fam g a b
theorem zmt:∀(l:List Int),zy (l.map (ycS .i64))=l.map (ycS .i64)
 | []=>rfl
 | a::l=>by have:=zmt l;simp[zy,AV.cells]at this ⊢;exact this
theorem enter{ov cv pv lv tv:AV}{g:F}{locs:List Int}(hm:XM fs mm mn J0 xo mo D T x ov J)(hcv:zsl J cv locs)(hcT:∀k∈zV cv,k∈T\/J0.nf<=k)(hco:∀k∈zV cv,k∉zV ov)(hp:zaf pv g.params)(hl:zaf lv g.locals)(ht:zcu tv g.lists):
  ∃Jc L',XF fs mm mn Jc xo mo J.no L' (zV ov) x ⟨g,locs,[],0⟩ Jc/\(∀x' J',XO fs mm mn Jc xo mo (J.no::L') (zV ov) x' J'->XO fs mm mn J0 xo mo D T x' J')/\(∀o,o<J.no->Jc.objs o=J.objs o/\o<Jc.no/\o≠J.no/\o∉L') /\
   ∀{us:List AV} {K:Out->AS->Prop},zzQ G 146 us Jc K->zzQ G 146 us (J.newO [.str g.name,pv,lv,.int .i64 g.type,tv,cv,.nilsl,.int .i64 0]) K:=by
 have hno:=hm.no;have hxl:=hm.xl;have hml:=hm.ml
 have h2:XM fs mm mn J0 xo mo D T x ov (J.newO [.str g.name,pv,lv,.int .i64 g.type,tv,cv,.nilsl,.int .i64 0]):=hm.adds (ze.refl J).newO
 have empty:locs=[]->(cv=.nilsl\/∃φ,cv=.sl φ 1 [])->∃Jc L',XF fs mm mn Jc xo mo J.no L' (zV ov) x ⟨g,locs,[],0⟩ Jc/\(∀x' J',XO fs mm mn Jc xo mo (J.no::L') (zV ov) x' J'->XO fs mm mn J0 xo mo D T x' J')/\(∀o,o<J.no->Jc.objs o=J.objs o/\o<Jc.no/\o≠J.no/\o∉L') /\
   ∀{us:List AV} {K:Out->AS->Prop},zzQ G 146 us Jc K->zzQ G 146 us (J.newO [.str g.name,pv,lv,.int .i64 g.type,tv,cv,.nilsl,.int .i64 0]) K:=λh0 hc=>by
  refine⟨_,[],⟨ov,.nilsl,h2.reanchor (by simp;omega),⟨⟨pv,lv,tv,cv,by simp,hp,hl,ht,.inl ⟨rfl,h0,hc⟩⟩,by simp,.inl ⟨rfl,rfl⟩,by simp[zV]⟩,by simp[zV]⟩,λx' J' h=>h2.back (by simp;omega) h,λo ho=>⟨by simp;intro h;omega,by simp;omega,by omega,by simp⟩,λh=>h⟩
 rcases hcv with ⟨h0,rfl⟩|⟨h0,rfl⟩|⟨f,rfl,hf1,hf2⟩
 .exact empty h0 (.inr ⟨_,rfl⟩)
 .exact empty h0 (.inl rfl)
 .have hfo:f∉zV ov:=hco f (by simp[zV])
  have h3:XM fs mm mn J0 xo mo D T x ov ((J.newO [.str g.name,pv,lv,.int .i64 g.type,tv,.sl (.fam f false) 1 (locs.map (.int .i64)),.nilsl,.int .i64 0]).own f J.no [.str g.name,pv,lv,.int .i64 g.type,tv,.slm (J.no+1) 0 1 locs.length,.nilsl,.int .i64 0] (locs.map (.int .i64))):=by
   have k1:=hm.fams (J1:={ J with F:=upd J.F f .dead }) hcT hco rfl rfl (yah _) (λk _ hk=>by simp[zV]at hk;simp[upd,hk])
   refine k1.adds ⟨by simp[AS.own];omega,by simp[AS.own],λo ho=>?_,λk hk=>by simp[AS.own]⟩
   have e1:o≠J.no:=by simp at ho;omega
   have e2:o≠J.no+1:=by simp at ho;omega
   simp[AS.own,upd,e1,e2]
  refine⟨(J.newO [.str g.name,pv,lv,.int .i64 g.type,tv,.sl (.fam f false) 1 (locs.map (.int .i64)),.nilsl,.int .i64 0]).own f J.no [.str g.name,pv,lv,.int .i64 g.type,tv,.slm (J.no+1) 0 1 locs.length,.nilsl,.int .i64 0] (locs.map (.int .i64)),[J.no+1],⟨ov,.nilsl,h3.reanchor (by simp[AS.own];omega),⟨⟨pv,lv,tv,_,by simp[AS.own,upd],hp,hl,ht,.inr ⟨J.no+1,rfl,rfl,by simp[AS.own,upd]⟩⟩,by simp,.inl ⟨rfl,rfl⟩,by simp[zV]⟩,by simp[zV]⟩,λx' J' h=>h3.back (by simp;omega) h,λo ho=>⟨?_,?_,by omega,by simp;omega⟩,λ{us K} h=>?_⟩
  .have e1:o≠J.no:=by omega
   have e2:o≠J.no+1:=by omega
   simp[AS.own,upd,e1,e2]
  .simp[AS.own];omega
  .refine ACalls.own (f:=f) (fo:=J.no) (j:=5) (sz:=1) (b:=false) (xs:=locs.map (.int .i64)) (cs:=[.str g.name,pv,lv,.int .i64 g.type,tv,.sl (.fam f false) 1 (locs.map (.int .i64)),.nilsl,.int .i64 0]) (by simpa using hf2) (by simp) (by simp) ?_
   rw[zmt]
   simpa using h
theorem XF.xcells(h:XF fs mm mn J0 xo mo fo L T x r J):∃fv iv ov,J.objs xo=some [fv,.int .i64 mm,.int .i64 mn,iv,.int .i64 x.steps,.slm mo 0 1 x.memory.length,ov,.int .i64 x.calls]/\(fv.known=true/\fv.one=true/\fv.cells=[fv])/\(iv.known=true/\iv.one=true/\iv.cells=[iv])/\(ov.known=true/\ov.one=true/\ov.cells=[ov]) /\
  FsV fv fs/\zaf iv x.input/\zkW J ov x.out/\xo≠fo/\∀st c,XF fs mm mn J0 xo mo fo L T { x with steps:=st,calls:=c } r (J.setO xo [fv,.int .i64 mm,.int .i64 mn,iv,.int .i64 st,.slm mo 0 1 x.memory.length,ov,.int .i64 c]):=by
 have hx:=h
 obtain⟨ov,sv,hm,hr,hd⟩:=h
 obtain⟨fv,iv,ho,hf,hi⟩:=hm.mach
 exact⟨fv,iv,ov,ho,hf.one,hi.one,hm.own.one,hf,hi,hm.own,λe=>(hm.dl fo (by simp)).2.1 e.symm,λst c=>hx.setX (J1:=J) ho rfl rfl (yah _) (λ_ _ _=>rfl) hi hm.own λk hk=>.inl hk⟩
set_option maxHeartbeats 1000000 in
theorem zjP{N:Nat}{Dp:Int}{rec:zfb}(hrec:ziB G fs mm mn N Dp rec)(hbd:RBd N Dp rec)(hD0:0<=Dp){ov fv av:AV}{g:F}{args:List Int}{v0:Fr}(hm:XM fs mm mn J0 xo mo D T x ov J)(hN:N<=2^38)(hst:max x.steps 0<=N)(hou:(x.out.length:Int)+max x.steps 0<=N)(hcl:0<=x.calls)
  (hml:x.memory.length<=2^38) (hil:x.input.length<=2^38) (hg:OkF g) (hfv:FV fv g) (hav:zsl J av args) (hal:args.length<=2^38) (haT:∀k∈zV av,k∈T\/J0.nf<=k) (hao:∀k∈zV av,k∉zV ov)
  (hw:zbW rec x g args v0≠.bad)
  (hR:∀v x' r' J',zbW rec x g args v0=.ok v x' r'->XO fs mm mn J0 xo mo D T x' J'->R (.ret (.int .i64 v)) J')
  (hO:∀s c x' J',zbW rec x g args v0=.over s c x'->XO fs mm mn J0 xo mo D T x' J'->R (.panic (ziA s c)) J') :
  zzQ G 81 [.ptr xo 0,fv,av] J R:=by
 refine zxu rfl ?_
 obtain⟨pv,lv,tv,rfl,hp,hl,ht⟩:=hfv
 have p1:=hp.one
 have l1:=hl.one
 have t1:=ht.one
 have ll:=hl.len
 have tl:=ht.len
 obtain⟨mfv,miv,mo1,mo2,mo3⟩:=hm.mach
 have m1:=mo2.one
 have m2:=mo3.one
 have m3:=hm.own.one
 have hxl:=hm.xl
 have hno:=hm.no
 have hxo:xo≠J.no:=by omega
 have hxo':J.no≠xo:=by omega
 have hltn:=hm.no
 by_cases hc:32<=x.calls
 .simp[zFj,p1,l1,t1,splice,hxo,mo1,m1,m2,m3,hc]
  refine zcU (λh=>by omega) λ_=>?_
  simp
  exact hO _ _ _ _ (by simp[zbW,hc]) ⟨ov,hm.adds (ze.refl J).newO⟩
 .have w1:yb5 .i64 (x.calls+1)=x.calls+1:=by rw[wrap_i64]<;>omega
  have hgl:=hg.locals
  have hgls:=hg.lists
  simp[zFj,p1,l1,t1,splice,hxo,hxo',mo1,m1,m2,m3,hc,w1,ll]
  have S0:XM fs mm mn J0 xo mo D T { x with calls:=x.calls+1 } ov ((J.newO [ycR g.name,pv,lv,ycS yam g.type,tv]).setO xo [mfv,ycS yam mm,ycS yam mn,miv,ycS yam x.steps,yd2 mo 0 1 x.memory.length,ov,ycS yam (x.calls+1)]) :=
   (hm.adds (ze.refl J).newO).calls (by simp[hxo,mo1]) mo2 mo3
  have S1:((J.newO [ycR g.name,pv,lv,ycS yam g.type,tv]).setO xo [mfv,ycS yam mm,ycS yam mn,miv,ycS yam x.steps,yd2 mo 0 1 x.memory.length,ov,ycS yam (x.calls+1)]).objs J.no=some [ycR g.name,pv,lv,ycS yam g.type,tv]:=by simp[hxo']
  have S2:((J.newO [ycR g.name,pv,lv,ycS yam g.type,tv]).setO xo [mfv,ycS yam mm,ycS yam mn,miv,ycS yam x.steps,yd2 mo 0 1 x.memory.length,ov,ycS yam (x.calls+1)]).no=J.no+1:=by simp
  have S3:zsl ((J.newO [ycR g.name,pv,lv,ycS yam g.type,tv]).setO xo [mfv,ycS yam mm,ycS yam mn,miv,ycS yam x.steps,yd2 mo 0 1 x.memory.length,ov,ycS yam (x.calls+1)]) av args:=hav
  generalize (J.newO [ycR g.name,pv,lv,ycS yam g.type,tv]).setO xo [mfv,ycS yam mm,ycS yam mn,miv,ycS yam x.steps,yd2 mo 0 1 x.memory.length,ov,ycS yam (x.calls+1)]=S at *
  refine⟨by omega,zpN S3 (by omega) λcv J1 hcv q1 q2 q3 q4 q5=>?_⟩
  have c1:=hcv.one
  have w2:yb5 .i64 ((g.lists.length:Int)-1)=(g.lists.length:Int)-1:=by rw[wrap_i64]<;>omega
  have q6:J1.objs J.no=some [ycR g.name,pv,lv,ycS yam g.type,tv]:=by rw[q1];exact S1
  have q7:¬J.no=J1.no:=by omega
  simp[q6,p1,l1,t1,c1,tl,w2,q7,splice]
  have hSl:=S0.own.lt
  have hSn:=S0.nf
  obtain⟨Jc,L',hX,hXO,hbo,hac⟩:=enter (S0.fams haT hao q1 q2 q3 q4) hcv (λk hk=>by rcases q5 k hk with h|h;exact haT k h;right;omega) (λk hk h'=>by rcases q5 k hk with h|h;exact hao k h h';have:=hSl k h';omega) hp hl ht
  obtain⟨b1,b2,b3,b4⟩:=hbo J.no (by omega)
  have bdn:Bd N { x with calls:=x.calls+1 } ⟨g,args++yaj g.locals.length 0,[],0⟩:=⟨hN,by simpa using hst,hou,hg,by simp only;omega,hml,hil⟩
  simp only[zbW,if_neg hc]at hw hR hO
  refine hac (hrec hX bdn (ydU _) hD0 (λe=>by rw[e]at hw;exact hw rfl) (λo x' r' J' e hx'=>?_) (λs c x' J' e ho=>?_))
  .rw[e]at hw hR hO
   obtain⟨hA,ho2⟩:=hbd _ _ _ _ _ _ _ bdn hD0 e
   have hcs:=hA.calls
   simp only at hw hR hO hcs
   have hbo':∀{x1:zap} {r1:Fr} {J2:AS},XF fs mm mn Jc xo mo J1.no L' (zV ov) x1 r1 J2->J2.objs J.no=some [ycR g.name,pv,lv,ycS yam g.type,tv]:=λhh=>by
    rw[hh.other b2 (by omega) (by have:=hm.ml;omega) b3 b4,b1];exact q6
   have hb1:=hbo' hx'
   have w3:yb5 .i64 (x'.calls-1)=x'.calls-1:=by rw[wrap_i64]<;>omega
   by_cases hh:o=-1/\g.type≠0
   .rw[if_pos hh]at hw hR
    obtain⟨h1,h2⟩:=hh
    have hne:r'.stack≠[]:=by rintro e;simp[zbQ,e]at hw
    obtain⟨v,hv⟩:=zaK hne
    have hsl:r'.stack.length<=2^40:=by have:=hA.bd.stack;omega
    simp[h1,h2,hb1,p1,l1,t1]
    refine zac hx' hsl hv λJ3 hx3=>?_
    obtain⟨fpv,flv,ftv,fcv,fsv,fo1,e1,e2,e3,e4,e5,_,_,_,hset⟩:=hx3.cells
    have hx4:=hset v
    obtain⟨gfv,giv,gov,go1,g1,g2,g3,_,_,_,gne,hset2⟩:=hx4.xcells
    have go1':J3.objs xo=some [gfv,.int .i64 mm,.int .i64 mn,giv,.int .i64 x'.steps,.slm mo 0 1 x'.memory.length,gov,.int .i64 x'.calls]:=by simpa [gne]using go1
    simp[fo1,e1,e2,e3,e4,e5,splice,go1',g1,g2,g3,gne,Ne.symm gne,w3]
    exact hR _ _ _ _ (by simp[zbQ,hv];rfl) (hXO _ _ (hset2 x'.steps (x'.calls-1)).stop)
   .rw[if_neg hh]at hw hR
    obtain⟨fpv,flv,ftv,fcv,fsv,fo1,e1,e2,e3,e4,e5,_,_,_,hset⟩:=hx'.cells
    obtain⟨gfv,giv,gov,go1,g1,g2,g3,_,_,_,gne,hset2⟩:=hx'.xcells
    by_cases h1:o=-1
    .have h2:g.type=0:=by simpa [h1]using hh
     simp[h1,h2,hb1,p1,l1,t1,fo1,e1,e2,e3,e4,e5,splice,go1,g1,g2,g3,gne,Ne.symm gne,w3]
     exact hR _ _ _ _ rfl (hXO _ _ (hset2 x'.steps (x'.calls-1)).stop)
    .simp[h1,hb1,p1,l1,t1,fo1,e1,e2,e3,e4,e5,splice,go1,g1,g2,g3,gne,Ne.symm gne,w3]
     exact hR _ _ _ _ rfl (hXO _ _ (hset2 x'.steps (x'.calls-1)).stop)
  .rw[e]at hO
   simp
   exact hO _ _ _ _ rfl (hXO _ _ ho)
end
section
variable {G : Env} {fs : List F} {mm mn : Int} {J0 J : AS} {xo mo fo : Nat} {L T D : List Nat} {x : zap} {r : Fr} {R : Out -> AS -> Prop}
theorem XF.after(h:XF fs mm mn J0 xo mo fo L T x r J){av:AV}(hav:∃Jq:AS,Jq.nf<=J.nf/\(∀g∈zV av,Jq.nf<=g)/\J0.nf<=Jq.nf/\∀sv,(∃cs,J.objs fo=some cs/\cs[6]?=some sv)->∀g∈zV sv,g<Jq.nf)(hax:∀ov,(∃cs,J.objs xo=some cs/\cs[6]?=some ov)->∀g∈zV av,g∉zV ov):
  ∃ov T2,XM fs mm mn J xo mo [] T2 x ov J/\(∀k∈zV av,k∈T2\/J.nf<=k)/\(∀k∈zV av,k∉zV ov)/\(∀x' J',XO fs mm mn J xo mo [] T2 x' J'->XF fs mm mn J0 xo mo fo L T x' r J')/\∀x' J',XO fs mm mn J xo mo [] T2 x' J'->XO fs mm mn J0 xo mo (fo::L) T x' J':=by
 have hx:=h
 obtain⟨ov,sv,hm,hr,hd⟩:=h
 obtain⟨Jq,v1,v2,v3,v4⟩:=hav
 obtain⟨pv,lv,tv,cv,ho,hpv,hlv,htv,hcv⟩:=hr.fr
 have v5:=v4 sv ⟨_,ho,rfl⟩
 obtain⟨fv,iv,hxo,hfv,hiv⟩:=hm.mach
 have v6:=hax ov ⟨_,hxo,rfl⟩
 have hno:=hm.no;have hxl:=hm.xl;have hml:=hm.ml;have hnf:=hm.nf
 have hT2:∀g∈zV ov++zV av,g∈T\/J0.nf<=g:=λg hg=>by
  rcases ybh.1 hg with h|h
  .exact hm.ownT g h
  .right;have:=v2 g h;omega
 have back:∀x' ov' J',XM fs mm mn J xo mo [] (zV ov++zV av) x' ov' J'->XM fs mm mn J0 xo mo (fo::L) T x' ov' J':=λx' ov' J' k=>by
  have h3:=k.no;have h4:=k.nf
  refine⟨by omega,by omega,λo a b c d=>?_,λg a b=>?_,hxl,hml,hm.xm,λo ho=>?_,k.mach,k.own,λg hg=>?_,k.mem⟩
  .rw[k.obj o (by omega) b c (by simp)];exact hm.obj o a b c d
  .rw[k.fam g (by omega) (λhg=>by rcases hT2 g hg with h|h;exact b h;omega)];exact hm.fam g a b
  .have:=hm.dl o ho;exact⟨by omega,this.2⟩
  .rcases k.ownT g hg with h|h
   .exact hT2 g h
   .right;omega
 have rn:=hm.reanchor (D':=[]) (by simp)
 refine⟨ov,zV ov++zV av,⟨rn.no,rn.nf,rn.obj,λg a b=>rn.fam g a (λh=>b (by simp[h])),rn.xl,rn.ml,rn.xm,rn.dl,rn.mach,rn.own,λg hg=>.inl (by simp[hg]),rn.mem⟩,λk hk=>.inl (by simp[hk]),v6,?_,λx' J' ⟨ov',k⟩=>⟨ov',back _ _ _ k⟩⟩
 rintro x' J' ⟨ov',k⟩
 have same:∀o∈fo::L,J'.objs o=J.objs o:=λo ho=>by have:=hm.dl o ho;exact k.obj o this.1 this.2.1 this.2.2 (by simp)
 have hlt:=hr.own.lt
 refine⟨ov',sv,back _ _ _ k,⟨⟨pv,lv,tv,cv,by rw[same fo (by simp)];exact ho,hpv,hlv,htv,hcv.keep λo ho=>same o (by simp[ho])⟩,hr.fl,hr.own.keep k.nf λg hg=>k.fam g (hlt g hg) (λh=>?_),hr.ownT⟩,λg hg hs=>?_⟩
 .rcases ybh.1 h with h|h
  .exact hd g h hg
  .have:=v2 g h;have:=v5 g hg;omega
 .rcases k.ownT g hg with h|h
  .rcases ybh.1 h with h|h
   .exact hd g h hs
   .have:=v2 g h;have:=v5 g hs;omega
  .have:=hlt g hs;omega
theorem zkY{N:Nat}{Dp:Int}{rec:zfb}(hrec:ziB G fs mm mn N Dp rec)(hbd:RBd N Dp rec)(hD0:0<=Dp)(hfs:zp1 fs){n:Int}(hnn:n<=2^63-1)(h:XF fs mm mn J0 xo mo fo L T x r J)(hb:B1 N x r)(hw:z9 fs rec x r n≠.bad)
  (hR:∀x' r' J',z9 fs rec x r n=.ok () x' r'->XF fs mm mn J0 xo mo fo L T x' r' J'->R (.ret (.tuple [])) J')
  (hO:∀s c x' J',z9 fs rec x r n=.over s c x'->XO fs mm mn J0 xo mo (fo::L) T x' J'->R (.panic (ziA s c)) J') :
  zzQ G 223 [.ptr xo 0,.ptr fo 0,.int .i64 n] J R:=by
 refine zt2 rfl ?_
 have hN:=hb.bd.n
 have hst:r.stack.length<=2^40:=by have:=hb.bd.stack;omega
 have hinl:x.input.length<=2^40:=by have:=hb.bd.inp;omega
 have hol:x.out.length<=2^40:=by have:=hb.ou;omega
 by_cases n0:n=0
 .subst n0
  simp only[z9,if_true]at hw hR
  simp[zpd,splice]
  refine zpJ h hinl λJ' hx'=>?_
  simp
  cases hin:x.input with
  | nil =>
   rw[hin]at hx' hR
   refine zao hx' hst λJ2 hx2=>?_
   simp
   exact hR _ _ _ rfl hx2
  | cons v l =>
   rw[hin]at hx' hR
   refine zao hx' hst λJ2 hx2=>?_
   simp
   exact hR _ _ _ rfl hx2
 by_cases n1:n=1
 .subst n1
  have hne:r.stack≠[]:=by rintro e;simp[z9,zbQ,e]at hw
  obtain⟨v,hv⟩:=zaK hne
  obtain⟨fv,iv,ov,xo1,f1,i1,o1,hfv,hiv,hov,xne,_⟩:=h.xcells
  simp[zpd,splice,xo1,f1,i1,o1]
  refine zjM h hst hv λJ' hx' hob=>?_
  have xo2:=(hob xo xne).trans xo1
  simp only[z9,zbQ,hv]at hR
  simp at hR
  have fin:∀{J3:AS} {ov':AV},J3.objs=J'.objs->J3.no=J'.no->J'.nf<=J3.nf->(∀g,g<J'.nf->g∉zV ov->J3.F g=J'.F g)->zkW J3 ov' (x.out++[v])->(∀g∈zV ov',g∈zV ov\/J'.nf<=g) ->
    R (.ret (.tuple [])) (J3.setO xo [fv,.int .i64 mm,.int .i64 mn,iv,.int .i64 x.steps,.slm mo 0 1 x.memory.length,ov',.int .i64 x.calls]):=λa b c d e f=>hR _ _ _ rfl rfl (hx'.setX xo2 a b c d hiv e f)
  obtain⟨gfv,giv,gov,go1,_,_,_,_,_,gov1,_⟩:=hx'.xcells
  rw[xo2]at go1
  simp only[yaR.injEq,ydX.injEq]at go1
  obtain⟨_,_,_,_,_,_,rfl,_,_⟩:=go1
  simp[xo2,f1,i1,o1]
  rcases gov1 with ⟨hs,rfl⟩|⟨g,rfl,hg1,hg2⟩
  .simp[xo2,f1,i1,splice]
   exact fin (J3:=J'.newF) (by simp) (by simp) (by simp) (λg h1 _=>by simp;intro h;omega) (.inr ⟨J'.nf,by simp[hs],by simp,by simp⟩) (by simp[zV])
  .simp[xo2,f1,i1,splice,hg2]
   exact⟨by omega,fin (J3:=(J'.setF g .dead).newF) (by simp) (by simp) (by simp) (λk h1 h2=>by simp[zV]at h2;simp[h2];intro h;omega) (.inr ⟨J'.nf,by simp,by simp,by simp⟩) (by simp[zV])⟩
 by_cases n2:n=2
 .subst n2
  have hne:r.stack≠[]:=by rintro e;simp[z9,zbQ,e]at hw
  obtain⟨v,hv⟩:=zaK hne
  simp only[z9,zbQ,hv]at hO
  simp at hO
  simp[zpd,splice]
  refine zac h hst hv λJ' hx'=>?_
  simp[splice]
  exact hO _ _ _ _ rfl rfl rfl hx'.stop
 have n3:¬n<3:=by
  intro hh;simp[z9,n0,n1,n2,hh]at hw
 simp only[z9,n0,n1,n2,n3,if_false]at hw hR hO
 cases hgg:fs[(n-3).toNat]? with
 | none=>rw[hgg]at hw;exact absurd rfl hw
 | some g =>
 rw[hgg]at hw hR hO
 simp only at hw hR hO
 by_cases hps:r.stack.length<g.params.length
 .rw[if_pos hps]at hw;exact absurd rfl hw
 rw[if_neg hps]at hw hR hO
 obtain⟨hgi,hge⟩:=yaq.1 hgg
 have hgm:g∈fs:=ycW hgg
 have hgf:=hfs g hgm
 have hgp:=hgf.params
 obtain⟨mfv,miv,mov,xo1,f1,i1,o1,hfv,hiv,hov,xne,_⟩:=h.xcells
 obtain⟨bq,gv,hgv,hix⟩:=hfv.at hgi
 rw[hge]at hgv
 have e3:(((n-3).toNat:Nat):Int)=n-3:=by omega
 rw[e3]at hix
 have w1:yb5 .i64 (n-3)=n-3:=by rw[wrap_i64]<;>omega
 have hgv0:=hgv
 obtain⟨gp,gl,gt,rfl,hgp',hgl',hgt'⟩:=hgv0
 have p1:=hgp'.one
 have l1:=hgl'.one
 have t1:=hgt'.one
 have pl:=hgp'.len
 have hlts:=h.lts
 have A:ze J ((J.newO [.str [],.nilsl,.nilsl,.int .i64 0,.nilsl]).setO J.no [.str g.name,gp,gl,.int .i64 g.type,gt]):=(ze.refl J).newO.setO (yah _)
 have h1:=h.adds A
 have hS:((J.newO [.str [],.nilsl,.nilsl,.int .i64 0,.nilsl]).setO J.no [.str g.name,gp,gl,.int .i64 g.type,gt]).objs J.no=some [.str g.name,gp,gl,.int .i64 g.type,gt]:=by simp
 have hSn:((J.newO [.str [],.nilsl,.nilsl,.int .i64 0,.nilsl]).setO J.no [.str g.name,gp,gl,.int .i64 g.type,gt]).no=J.no+1:=by simp
 obtain⟨pv,lv,tv,cv,sv,fo1,e1,e2,e3',e4,e5,hsv,htv,hcv,_⟩:=h.cells
 have sl:=hsv.len
 have hfo:fo≠J.no:=by have:=hlts.2.2.1;omega
 have hfo':J.no≠fo:=by have:=hlts.2.2.1;omega
 have hfl:fo<J.no:=hlts.2.2.1
 have w2:yb5 .i64 ((r.stack.length:Int)-(g.params.length:Int))=((r.stack.length-g.params.length:Nat):Int):=by rw[wrap_i64]<;>omega
 have hst':=hb.bd.stack
 have hmv:=hov.lt
 -- from the clone on
 have tail:∀{sv' av:AV} {J2:AS} {K:Out->AS->Prop},ze ((J.newO [.str [],.nilsl,.nilsl,.int .i64 0,.nilsl]).setO J.no [.str g.name,gp,gl,.int .i64 g.type,gt]) J2->zsl J2 av (r.stack.drop (r.stack.length-g.params.length))->(∀k∈zV av,J.nf<=k)->zkW J2 sv' (r.stack.take (r.stack.length-g.params.length)) ->
   (∀k∈zV sv',k<J.nf/\k∈zV sv) ->
   (∀v x' J',zbW rec x g (r.stack.drop (r.stack.length-g.params.length)) { r with stack:=r.stack.take (r.stack.length-g.params.length) }=.ok v x' { r with stack:=r.stack.take (r.stack.length-g.params.length) }->XF fs mm mn J0 xo mo fo L T x' { r with stack:=r.stack.take (r.stack.length-g.params.length) } J'->J'.objs J.no=some [.str g.name,gp,gl,.int .i64 g.type,gt]->x'.steps<=x.steps->K (.ret (.int .i64 v)) J') ->
   (∀s c x' J',zbW rec x g (r.stack.drop (r.stack.length-g.params.length)) { r with stack:=r.stack.take (r.stack.length-g.params.length) }=.over s c x'->XO fs mm mn J0 xo mo (fo::L) T x' J'->K (.panic (ziA s c)) J') ->
   zzQ G 81 [.ptr xo 0,.agg [.str g.name,gp,gl,.int .i64 g.type,gt],av] (J2.setO fo [.str r.fn.name,pv,lv,.int .i64 r.fn.type,tv,cv,sv',.int .i64 r.result]) K:=by
  intro sv' av J2 K A2 hav hfr hsv' hsf hK hKO
  have fo2:J2.objs fo=some [.str r.fn.name,pv,lv,.int .i64 r.fn.type,tv,cv,sv,.int .i64 r.result]:=by
   rw[A2.obj fo (by simp;omega)];simp[hfo];exact fo1
  have hA2:=A2.nf
  have hA3:=A2.no
  simp at hA2 hA3
  have h3:XF fs mm mn J0 xo mo fo L T x { r with stack:=r.stack.take (r.stack.length-g.params.length) } (J2.setO fo [.str r.fn.name,pv,lv,.int .i64 r.fn.type,tv,cv,sv',.int .i64 r.result]) :=
   (h1.adds A2).setFr (J1:=J2) (res':=r.result) fo2 rfl rfl (yah _) (λ_ _ _=>rfl) hsv' λk hk=>.inl (hsf k hk).2
  have hxo3:(J2.setO fo [.str r.fn.name,pv,lv,.int .i64 r.fn.type,tv,cv,sv',.int .i64 r.result]).objs xo=some [mfv,.int .i64 mm,.int .i64 mn,miv,.int .i64 x.steps,.slm mo 0 1 x.memory.length,mov,.int .i64 x.calls]:=by
   have e:xo≠J.no:=by omega
   simp[xne];rw[A2.obj xo (by simp;omega)];simp[e];exact xo1
  obtain⟨ov,T2,k1,k2,k3,k4,k5⟩:=h3.after (av:=av) ⟨J,by simpa using hA2,hfr,by obtain⟨_,_,hm,_⟩:=h;exact hm.nf,λsv1 ⟨cs,hc1,hc2⟩=>by
   simp at hc1;subst hc1;simp at hc2;subst hc2;exact λk hk=>(hsf k hk).1⟩ (λov ⟨cs,hc1,hc2⟩ k hk hk'=>by
   rw[hxo3]at hc1;cases hc1;simp at hc2;subst hc2;have:=hmv k hk';have:=hfr k hk;omega)
  refine zjP hrec hbd hD0 (N:=N) (v0:={ r with stack:=r.stack.take (r.stack.length-g.params.length) }) k1 hN (by omega) hb.bd.out hb.bd.calls.1 hb.bd.mem hb.bd.inp hgf ⟨gp,gl,gt,rfl,hgp',hgl',hgt'⟩ ?_ (by simp;omega) k2 k3 (λe=>by rw[e]at hw;exact hw rfl) (λv x' r' J' e ho=>?_) λs c x' J' e ho=>hKO s c x' J' e (k5 _ _ ho)
  .rcases hav with h|h
   .exact .inl h
   .exact .inr (h.keep (by simp) λ_ _=>rfl)
  .have hb2:B1 N x { r with stack:=r.stack.take (r.stack.length-g.params.length) }:=hb.stack (by simp)
   obtain⟨rfl,ha⟩:=zrL hbd hfs hD0 hb2.bd hgm e
   refine hK v x' J' e (k4 _ _ ho) ?_ ha.steps
   obtain⟨ov',k⟩:=ho
   have e1:J.no≠xo:=by omega
   have e2:J.no≠mo:=by omega
   rw[k.obj J.no (by simp;omega) e1 e2 (by simp)]
   simp[hfo']
   rw[A2.obj J.no (by simp)];simp
 have hsv0:=hsv
 rcases hsv with ⟨hs,rfl⟩|⟨q,rfl,hq1,hq2⟩
 .have hs0:r.stack.length=0:=by rw[hs];rfl
  have hp0:g.params.length=0:=by omega
  have w0:yb5 .i64 0=0:=by decide
  simp[zpd,splice,n0,n1,n2,xo1,f1,i1,o1,w1,hix,p1,l1,t1,hfo,hfo',fo1,e1,e2,e3',e4,pl,hs,hp0,w0]
  refine zeN (l:=[]) (.inl ⟨rfl,rfl⟩) (by simp) λav J2 hav A2 hfr=>?_
  have fo2:J2.objs fo=some [.str r.fn.name,pv,lv,.int .i64 r.fn.type,tv,cv,.nilsl,.int .i64 r.result]:=by
   rw[A2.obj fo (by simp;omega)];simp[hfo];exact fo1
  have bo2:J2.objs J.no=some [.str g.name,gp,gl,.int .i64 g.type,gt]:=by rw[A2.obj J.no (by simp)];simp
  simp[fo2,e1,e2,e3',e4,splice,w0,bo2,p1,l1,t1,hfo']
  refine tail A2 (by simpa [hs]using hav) (by simpa using hfr) (.inl ⟨by simp[hs],rfl⟩) (by simp[zV]) (λv x' J' e hx' hbx hss=>?_) (λs c x' J' e ho=>?_)
  .rw[e]at hR
   have hb2:B1 N x { r with stack:=r.stack.take (r.stack.length-g.params.length) }:=hb.stack (by simp)
   by_cases ht:g.type=0
   .simp[ht]at hR
    simp[hbx,p1,l1,t1,ht]
    exact hR _ _ _ rfl rfl hx'
   .simp[ht]at hR
    simp[hbx,p1,l1,t1,ht]
    refine zao hx' (by simp;omega) λJ4 hx4=>?_
    simp
    exact hR _ _ _ rfl rfl hx4
  .rw[e]at hO
   simp
   exact hO _ _ _ _ rfl ho
 .have el:List.drop (r.stack.length-g.params.length) (ydm r.stack.length (r.stack.map (ycS .i64)))=(r.stack.drop (r.stack.length-g.params.length)).map (ycS .i64):=by rw[ydn (by simp),List.map_drop]
  have el2:ydm (r.stack.length-g.params.length) (r.stack.map (ycS .i64))=(r.stack.take (r.stack.length-g.params.length)).map (ycS .i64):=by rw[ydY]
  simp[zpd,splice,n0,n1,n2,xo1,f1,i1,o1,w1,hix,p1,l1,t1,hfo,hfo',fo1,e1,e2,e3',e4,pl,w2,el]
  refine zeN (l:=r.stack.drop (r.stack.length-g.params.length)) (.inr ⟨q,by simp,by simpa using hq1,by simpa using hq2⟩) (by simp;omega) λav J2 hav A2 hfr=>?_
  have fo2:J2.objs fo=some [.str r.fn.name,pv,lv,.int .i64 r.fn.type,tv,cv,.sl (.fam q false) 1 (r.stack.map (.int .i64)),.int .i64 r.result]:=by
   rw[A2.obj fo (by simp;omega)];simp[hfo];exact fo1
  have bo2:J2.objs J.no=some [.str g.name,gp,gl,.int .i64 g.type,gt]:=by rw[A2.obj J.no (by simp)];simp
  simp[fo2,e1,e2,e3',e4,splice,bo2,p1,l1,t1,hfo']
  refine tail A2 hav (by simpa using hfr) (.inr ⟨q,by rw[<-el2],by have:=A2.nf;simp at this;omega,by rw[A2.fam q (by simpa using hq1)];simpa using hq2⟩) (by simp[zV];exact hq1) (λv x' J' e hx' hbx hss=>?_) (λs c x' J' e ho=>?_)
  .rw[e]at hR
   have hb2:B1 N x { r with stack:=r.stack.take (r.stack.length-g.params.length) }:=hb.stack (by simp)
   by_cases ht:g.type=0
   .simp[ht]at hR
    simp[hbx,p1,l1,t1,ht]
    exact hR _ _ _ rfl rfl hx'
   .simp[ht]at hR
    simp[hbx,p1,l1,t1,ht]
    refine zao hx' (by simp;omega) λJ4 hx4=>?_
    simp
    exact hR _ _ _ rfl rfl hx4
  .rw[e]at hO
   simp
   exact hO _ _ _ _ rfl ho
end
section
variable {G : Env} {fs : List F} {mm mn : Int} {J0 J : AS} {xo mo fo : Nat} {L T D : List Nat} {x : zap} {r : Fr} {R : Out -> AS -> Prop}
theorem ziD{l:List AV}{n:Nat}{v:AV}(h:n<l.length):splice l n [v]=l.set n v:=by
 rw[List.set_eq_take_append_cons_drop,if_pos h];simp[splice]
theorem XF.setLoc{lo n:Nat}{v:Int}(h:XF fs mm mn J0 xo mo fo [lo] T x r J)(hn:n<r.locals.length):XF fs mm mn J0 xo mo fo [lo] T x { r with locals:=r.locals.set n v } (J.setO lo (splice (r.locals.map (.int .i64)) n [.int .i64 v])):=by
 obtain⟨ov,sv,hm,hr,hd⟩:=h
 obtain⟨pv,lv,tv,cv,ho,hpv,hlv,htv,hcv⟩:=hr.fr
 have hfl:fo≠lo:=by have:=hr.fl;simpa using this
 have hll:=hm.dl lo (by simp)
 have e:splice (r.locals.map (.int .i64)) n [.int .i64 v]=(r.locals.set n v).map (.int .i64):=by rw[ziD (by simpa using hn),yd3]
 rw[e]
 rcases hcv with ⟨hL,_⟩|⟨lo',hL,rfl,hlo⟩
 .cases hL
 cases hL
 obtain⟨fv,iv,a,b,c⟩:=hm.mach
 refine⟨ov,sv,⟨by simpa using hm.no,hm.nf,λo h1 h2 h3 h4=>?_,hm.fam,hm.xl,hm.ml,hm.xm,λo ho=>by simpa using hm.dl o ho,⟨fv,iv,by simp[Ne.symm hll.2.1];exact a,b,c⟩,hm.own.keep (by simp) λ_ _=>rfl,hm.ownT,by simp[Ne.symm hll.2.2];exact hm.mem⟩,⟨⟨pv,lv,tv,.slm lo 0 1 (r.locals.set n v).length,by simp[hfl];exact ho,hpv,hlv,htv,.inr ⟨lo,rfl,rfl,by simp⟩⟩,hr.fl,hr.own.keep (by simp) λ_ _=>rfl,hr.ownT⟩,hd⟩
 have:o≠lo:=λe=>h4 (by simp[e])
 simp[this];exact hm.obj o h1 h2 h3 h4
theorem XF.setMem{m':List UInt8}(h:XF fs mm mn J0 xo mo fo L T x r J)(hl:m'.length=x.memory.length):XF fs mm mn J0 xo mo fo L T { x with memory:=m' } r (J.setO mo (m'.map λb=>.int .u8 b.toNat)):=by
 obtain⟨ov,sv,hm,hr,hd⟩:=h
 obtain⟨pv,lv,tv,cv,ho,hpv,hlv,htv,hcv⟩:=hr.fr
 have hf:=hm.dl fo (by simp)
 obtain⟨fv,iv,a,b,c⟩:=hm.mach
 refine⟨ov,sv,⟨by simpa using hm.no,hm.nf,λo h1 h2 h3 h4=>by simp[h3];exact hm.obj o h1 h2 h3 h4,hm.fam,hm.xl,hm.ml,hm.xm,λo ho=>by simpa using hm.dl o ho,⟨fv,iv,by simp[hm.xm,hl];exact a,b,c⟩,hm.own.keep (by simp) λ_ _=>rfl,hm.ownT,by simp⟩,⟨⟨pv,lv,tv,cv,by simp[hf.2.2];exact ho,hpv,hlv,htv,hcv.keep λo ho=>by simp[(hm.dl o (by simp[ho])).2.2]⟩,hr.fl,hr.own.keep (by simp) λ_ _=>rfl,hr.ownT⟩,hd⟩
theorem znK(mem:List UInt8)(at_:Nat)(v:Int):zcT mem at_ v 0=mem:=by simp[zcT]
theorem znL{mem:List UInt8}{at_ i:Nat}{v:Int}(h:at_+i<mem.length):zcT mem at_ v (i+1)=(zcT mem at_ v i).set (at_+i) (zrI v i):=by
 have hl:(mem.take at_++(List.range i).map (zrI v)).length=at_+i:=by simp;omega
 unfold zcT
 rw[List.set_append_right _ _ (by rw[hl];omega),hl,Nat.sub_self,List.range_succ,List.map_append,List.drop_eq_getElem_cons h]
 simp[Nat.add_assoc]
theorem znM(v:Int)(i:Nat):((zrI v i).toNat:Int)=ydS.wrap (v.fdiv (2^(8*i))):=by
 unfold zrI
 simp only[yb5,yap,yao]
 simp
 omega
def STI(fs:List F)(mm mn:Int)(S:AS)(xo mo fo:Nat)(L T:List Nat)(x:zap)(r:Fr)(at_ n:Nat)(v:Int)(a:Nat->AV)(Z:AS):Prop:=∃i:Nat,i<=n/\a 0=.ptr xo 0/\a 11=.int .i64 v/\a 12=.int .i64 (at_:Int)/\a 104=.int .i64 (n:Int)/\a 105=.int .i64 (i:Int)/\XF fs mm mn S xo mo fo L T { x with memory:=zcT x.memory at_ v i } r Z
theorem XF.memo(h:XF fs mm mn J0 xo mo fo L T x r J):J.objs mo=some (x.memory.map λb=>.int .u8 b.toNat):=by obtain⟨_,_,hm,_⟩:=h;exact hm.mem
set_option maxHeartbeats 2000000 in
theorem zmu(V:zkB G){N:Nat}{Dp:Int}{rec:zfb}(hrec:ziB G fs mm mn N Dp rec)(hbd:RBd N Dp rec)(hD0:0<=Dp)(hfs:zp1 fs){w:W}(hnn:w.n<=2^63-1)(h:XF fs mm mn J0 xo mo fo L T x r J)(hb:B1 N x r)(hw:zaa fs rec w x r≠.bad)
  (hR:∀x' r' J',zaa fs rec w x r=.ok () x' r'->XF fs mm mn J0 xo mo fo L T x' r' J'->R (.ret (.tuple [])) J')
  (hO:∀s c x' J',zaa fs rec w x r=.over s c x'->XO fs mm mn J0 xo mo (fo::L) T x' J'->R (.panic (ziA s c)) J') :
  zzQ G 183 [.ptr xo 0,.ptr fo 0,w.av] J R:=by
 refine ztJ rfl ?_
 obtain⟨wop,wty,wn,wbody,wother,wname⟩:=w
 simp only at hnn
 have hN:=hb.bd.n
 have hst:r.stack.length<=2^40:=by have:=hb.bd.stack;omega
 have hlts:=h.lts
 have h1:XF fs mm mn J0 xo mo fo L T x r (J.newO [.int .i64 wop,.int .i64 wty,.int .i64 wn,.int .i64 wbody,.int .i64 wother,.str wname]):=h.adds (ze.refl J).newO
 obtain⟨T',k1,k2,k3⟩:=h1.anchor
 have hfo:fo≠J.no:=by have:=hlts.2.2.1;omega
 have hbo:∀{x1:zap} {r1:Fr} {J':AS},XF fs mm mn (J.newO [.int .i64 wop,.int .i64 wty,.int .i64 wn,.int .i64 wbody,.int .i64 wother,.str wname]) xo mo fo L T' x1 r1 J'->J'.objs J.no=some [.int .i64 wop,.int .i64 wty,.int .i64 wn,.int .i64 wbody,.int .i64 wother,.str wname]:=λ{x1 r1 J'} hx=>by
  rw[hx.other (o:=J.no) (by simp) (by omega) (by omega) (by omega) (λhh=>by have:=hlts.2.2.2 _ hh;omega)];simp
 -- what is popped
 have popped:∀{r1:Fr} {f:Int->Fr->Ev Unit},zbQ r1 f≠.bad->∃v,r1.stack.getLast?=some v/\zbQ r1 f=f v { r1 with stack:=r1.stack.dropLast }:=λ{r1 f} hh=>by
  have hne:r1.stack≠[]:=by rintro e;simp[zbQ,e]at hh
  obtain⟨v,hv⟩:=zaK hne
  exact⟨v,hv,by simp[zbQ,hv]⟩
 by_cases o1:wop=1
 .subst o1
  simp[zaa]at hR
  simp[zf1,W.av,W.cs,splice]
  refine zao k1 hst λJ' hx'=>?_
  simp
  exact hR _ _ _ rfl rfl (k2 _ _ _ hx')
 by_cases o2:wop=2
 .subst o2
  simp only[zaa]at hR hw
  by_cases hn0:wn<0
  .simp[hn0]at hw
  cases hloc:r.locals[wn.toNat]? with
  | none=>simp[hn0,hloc]at hw
  | some v =>
  simp[hn0,hloc]at hR
  obtain⟨hli,hle⟩:=yaq.1 hloc
  obtain⟨pv,lv,tv,cv,sv,fo1,e1,e2,e3,e4,e5,_,_,hcv,_⟩:=k1.cells
  rcases hcv with ⟨_,hl,_⟩|⟨lo,rfl,rfl,hlo⟩
  .rw[hl]at hli;simp at hli
  .have fo2:J.objs fo=some [.str r.fn.name,pv,lv,.int .i64 r.fn.type,tv,.slm lo 0 1 r.locals.length,sv,.int .i64 r.result]:=by simpa [hfo]using fo1
   have hlo0:lo<J.no:=hlts.2.2.2 lo (by simp)
   have hlo1:lo≠J.no:=by omega
   have lo2:J.objs lo=some (r.locals.map (.int .i64)):=by simpa [hlo1]using hlo
   simp[zf1,W.av,W.cs,splice,hfo,fo2,e1,e2,e3,e4,e5,hlo1,lo2,hloc]
   refine⟨by omega,by omega,zao k1 hst λJ' hx'=>?_⟩
   simp
   exact hR _ _ _ rfl rfl (k2 _ _ _ hx')
 by_cases o3:wop=3
 .subst o3
  simp only[zaa]at hR hw
  by_cases hn0:wn<0\/(r.locals.length:Int)<=wn
  .simp[hn0]at hw
  simp[hn0]at hR hw
  obtain⟨v,hv1,e1⟩:=popped hw
  rw[e1]at hR
  obtain⟨pv,lv,tv,cv,sv,fo1,e1,e2,e3,e4,e5,_,_,hcv,_⟩:=k1.cells
  rcases hcv with ⟨_,hl,_⟩|⟨lo,rfl,rfl,hlo⟩
  .rw[hl]at hn0;simp at hn0;omega
  .have fo2:J.objs fo=some [.str r.fn.name,pv,lv,.int .i64 r.fn.type,tv,.slm lo 0 1 r.locals.length,sv,.int .i64 r.result]:=by simpa [hfo]using fo1
   simp[zf1,W.av,W.cs,splice,hfo,fo2,e1,e2,e3,e4,e5]
   refine zac k1 hst hv1 λJ1 hx1=>?_
   have hb2:=hbo hx1
   obtain⟨pv',lv',tv',cv',sv',fo1',e1',e2',e3',e4',e5',_,_,hcv',_⟩:=hx1.cells
   rcases hcv' with ⟨hL,_⟩|⟨lo',hL,rfl,hlo'⟩
   .cases hL
   .cases hL
    have hni:wn.toNat<r.locals.length:=by omega
    simp[hb2,fo1',e1',e2',e3',e4',e5',hlo']
    refine⟨by omega,by omega,by omega,hR _ _ _ rfl (k2 _ _ _ (hx1.setLoc hni))⟩
 by_cases o4:wop=4
 .subst o4
  simp only[zaa]at hR hw hO
  simp at hR hw hO
  obtain⟨b,hv1,e1⟩:=popped hw
  rw[e1]at hR hw hO
  obtain⟨a,hv2,e2⟩:=popped hw
  rw[e2]at hR hw hO
  have d1:=zO hv1
  have d2:=zO hv2
  simp only at hR hw hO d2
  simp[zf1,W.av,W.cs,splice]
  refine zac k1 hst hv1 λJ1 hx1=>?_
  simp
  refine zac hx1 (by simp;omega) hv2 λJ2 hx2=>?_
  have hb2:=hbo hx2
  simp[hb2]
  refine zjq V λJ3 A3=>?_
  have hx3:=hx2.adds A3
  have hb3:=hbo hx3
  simp[hb3]
  refine zrK ?_
  simp
  refine zcU (λh0=>?_) (λh0=>?_)
  .rw[if_pos h0]at hR
   simp
   refine zao hx3 (by simp;omega) λJ4 hx4=>?_
   simp
   exact hR _ _ _ rfl (k2 _ _ _ hx4)
  .rw[if_neg h0]at hO
   simp
   exact hO _ _ _ _ rfl (k3 _ _ hx3.stop)
 by_cases o5:wop=5
 .subst o5
  simp only[zaa]at hR hw
  simp at hR hw
  obtain⟨b,hv1,e1⟩:=popped hw
  rw[e1]at hR hw
  have d1:=zO hv1
  simp[zf1,W.av,W.cs,splice]
  refine zac k1 hst hv1 λJ1 hx1=>?_
  by_cases hb0:b=0
  .simp[hb0]at hR
   simp[hb0,splice]
   refine zao hx1 (by simp;omega) λJ2 hx2=>?_
   simp
   exact hR _ _ _ rfl rfl (k2 _ _ _ hx2)
  .simp[hb0]at hR
   simp[hb0,splice]
   refine zao hx1 (by simp;omega) λJ2 hx2=>?_
   simp
   exact hR _ _ _ rfl rfl (k2 _ _ _ hx2)
 by_cases o6:wop=6
 .subst o6
  simp only[zaa]at hR hw
  simp at hR hw
  obtain⟨b,hv1,e1⟩:=popped hw
  rw[e1]at hR hw
  have d1:=zO hv1
  simp[zf1,W.av,W.cs,splice]
  refine zac k1 hst hv1 λJ1 hx1=>?_
  simp
  refine zjp ?_
  simp
  refine zao hx1 (by simp;omega) λJ2 hx2=>?_
  simp
  refine hR _ _ _ rfl (k2 _ _ _ ?_)
  simpa [Fr.push,zum]using hx2
 by_cases o8:wop=8
 .subst o8
  simp only[zaa]at hR hw hO
  simp at hR hw hO
  obtain⟨a,hv1,e1⟩:=popped hw
  rw[e1]at hR hw hO
  have d1:=zO hv1
  unfold zix at hR hw hO
  by_cases hn8:wn<1\/8<wn
  .rw[if_pos hn8]at hw;exact absurd rfl hw
  rw[if_neg hn8]at hR hw hO
  simp[zf1,W.av,W.cs,splice]
  refine zac k1 hst hv1 λJ1 hx1=>?_
  have hb2:=hbo hx1
  simp[hb2]
  have hml:=hb.bd.mem
  refine zjN hx1 (by omega) (by omega) (λhh=>?_) (λhh=>?_)
  .rw[if_pos hh]at hO
   simp
   exact hO _ _ _ _ rfl (k3 _ _ hx1.stop)
  .rw[if_neg hh]at hR
   simp
   refine zpL hx1.memo (by omega) (by omega) (by omega) ?_
   simp
   refine zao hx1 (by simp;omega) λJ2 hx2=>?_
   simp
   exact hR _ _ _ rfl (k2 _ _ _ hx2)
 by_cases o9:wop=9
 .subst o9
  simp only[zaa]at hR hw hO
  simp at hR hw hO
  obtain⟨v,hv1,e1⟩:=popped hw
  rw[e1]at hR hw hO
  obtain⟨a,hv2,e2⟩:=popped hw
  rw[e2]at hR hw hO
  have d1:=zO hv1
  have d2:=zO hv2
  simp only at d2
  unfold zix at hR hw hO
  by_cases hn8:wn<1\/8<wn
  .rw[if_pos hn8]at hw;exact absurd rfl hw
  rw[if_neg hn8]at hR hw hO
  simp[zf1,W.av,W.cs,splice]
  refine zac k1 hst hv1 λJ1 hx1=>?_
  simp
  refine zac hx1 (by simp;omega) hv2 λJ2 hx2=>?_
  have hb2:=hbo hx2
  simp[hb2]
  have hml:=hb.bd.mem
  refine zjN hx2 (by omega) (by omega) (λhh=>?_) (λhh=>?_)
  .rw[if_pos hh]at hO
   simp
   exact hO _ _ _ _ rfl (k3 _ _ hx2.stop)
  .rw[if_neg hh]at hR
   obtain⟨n,hn⟩:=ydZ (show 0<=wn by omega)
   obtain⟨p,hp⟩:=ydZ (show 0<=a by omega)
   subst hn hp
   have hll:((x.memory.drop p).take n).length=n:=by simp;omega
   simp only[ybe]at hR
   rw[hll]at hR
   simp
   refine zS (STI fs mm mn (J.newO [.int .i64 9,.int .i64 wty,.int .i64 (n:Int),.int .i64 wbody,.int .i64 wother,.str wname]) xo mo fo L T' x { r with stack:=r.stack.dropLast.dropLast } p n v) (MU 105 (n+1)) ⟨0,by omega,by simp,by simp,by simp,by simp,by simp,by rw[znK];exact hx2⟩ λb Z hI=>?_
   obtain⟨i,hi,b0,b11,b12,b104,b105,hx⟩:=hI
   by_cases hlt:i<n
   .have hwl:(zcT x.memory p v i).length=x.memory.length:=zdh (by omega)
    obtain⟨gfv,giv,gov,go1,g1,g2,g3,_,_,_,gne,_⟩:=hx.xcells
    have hmm:=hx.memo
    simp only at go1 hmm
    have u1:yb5 .i64 ((p:Int)+(i:Int))=((p+i:Nat):Int):=by rw[wrap_i64]<;>omega
    have u2:yb5 .i64 (8*(i:Int))=8*(i:Int):=by rw[wrap_i64]<;>omega
    have u3:yb5 .i64 ((i:Int)+1)=((i+1:Nat):Int):=by rw[wrap_i64]<;>omega
    have u4:min (8*(i:Int)).toNat yam.bits=8*i:=by simp[yap];omega
    simp[zkv,b0,b11,b12,b104,b105,hlt,go1,g1,g2,g3,u1,u2,u3,u4,hmm,hwl]
    have hpi:((p:Int)+(i:Int)).toNat=p+i:=by omega
    have hm2:=hx.setMem (m':=zcT x.memory p v (i+1)) (by rw[zdh (by omega)];exact hwl.symm)
    have es:splice ((zcT x.memory p v i).map λb=>ycS .u8 b.toNat) (p+i) [.int .u8 (ydS.wrap (v.fdiv (2^(8*i))))]=(zcT x.memory p v (i+1)).map λb=>.int .u8 b.toNat:=by
     rw[ziD (by simp[hwl];omega),znL (by omega),yd3,znM]
    refine⟨by omega,by omega,by omega,by omega,⟨i+1,by omega,by simp[b0],by simp[b11],by simp[b12],by simp[b104],by simp,?_⟩,?_⟩
    .rw[hpi,es];exact hm2
    .simp only[MU,b105];simp;omega
   .have e:i=n:=by omega
    subst e
    simp[zkv,b0,b11,b12,b104,b105]
    exact hR _ _ _ rfl (k2 _ _ _ hx)
 by_cases o10:wop=10
 .subst o10
  simp only[zaa]at hR hw hO
  simp at hR hw hO
  simp[zf1,W.av,W.cs,splice]
  refine zkY hrec hbd hD0 hfs hnn k1 hb hw (λx' r' J' e hx'=>?_) (λs c x' J' e ho=>?_)
  .simp
   exact hR _ _ _ e (k2 _ _ _ hx')
  .simp
   exact hO _ _ _ _ e (k3 _ _ ho)
 by_cases o17:wop=17
 .subst o17
  simp only[zaa]at hO
  simp at hO
  simp[zf1,W.av,W.cs,splice]
  refine zcU (λh0=>by omega) (λh0=>?_)
  simp
  exact hO _ _ _ _ rfl rfl rfl h1.stop
 by_cases o18:wop=18
 .subst o18
  simp only[zaa]at hR hw
  simp at hR hw
  obtain⟨b,hv1,e1⟩:=popped hw
  rw[e1]at hR hw
  simp[zf1,W.av,W.cs,splice]
  refine zac k1 hst hv1 λJ1 hx1=>?_
  simp
  exact hR _ _ _ rfl (k2 _ _ _ hx1)
 simp[zaa,o1,o2,o3,o4,o5,o6,o8,o9,o10,o17,o18]at hR
 simp[zf1,W.av,W.cs,splice,o1,o2,o3,o4,o5,o6,o8,o9,o10,o17,o18]
 exact hR _ _ _ rfl rfl h1
end
section
variable {G : Env} {fs : List F} {mm mn : Int} {J0 J : AS} {xo mo fo : Nat} {L T D : List Nat} {x : zap} {r : Fr} {R : Out -> AS -> Prop}
set_option maxHeartbeats 2000000 in
theorem ziE(V:zkB G){N:Nat}{Dp:Int}{rec:zfb}(hrec:ziB G fs mm mn N Dp rec)(hbd:RBd N Dp rec)(hD0:0<=Dp)(hD2:Dp<=2^62)(hfs:zp1 fs){k:Nat}{deep:Int}(h0:0<=deep)(hd:deep+1<=Dp){height:Nat}{rv:AV}{all:List W}(hrv:zph rv all)(hall:all.length<=2^38)(hnum:∀w∈all,w.n<=2^63-1):
  ∀(ws:List W) (pre:List W),all=pre++ws->∀{x1:zap} {r1:Fr} {Z:AS} {a:Nat->AV},XF fs mm mn J0 xo mo fo L T x1 r1 Z->Bd N x1 r1->zan fs rec k deep height ws x1 r1≠.bad ->
   a 0=.ptr xo 0->a 1=.ptr fo 0->a 3=.int .i64 deep->a 9=.int .i64 (height:Int)->a 25=rv->a 26=.int .i64 (all.length:Int)->a 27=.int .i64 (pre.length:Int) ->
   (∀o x' r' J',zan fs rec k deep height ws x1 r1=.ok o x' r'->XF fs mm mn J0 xo mo fo L T x' r' J'->R (.ret (.int .i64 o)) J') ->
   (∀s c x' J',zan fs rec k deep height ws x1 r1=.over s c x'->XO fs mm mn J0 xo mo (fo::L) T x' J'->R (.panic (ziA s c)) J') ->
   zcC yca G 82 zaQ (za6 0 (zbi (avc yca G 82 zg4 (zfn yca [ResultVar.tmp 8] R)) (zfn yca [ResultVar.tmp 8] R))) (ws.length+1) a Z
 | [],pre,hall2,x1,r1,Z,a,hx,hb,hw,a0,a1,a3,a9,a25,a26,a27,hR,hO=>by
  have hl:all.length=pre.length:=by rw[hall2];simp
  simp[zaQ,zg4,a0,a1,a3,a9,a25,a26,a27,hl]
  exact hR _ _ _ _ rfl hx
 | w::ws,pre,hall2,x1,r1,Z,a,hx,hb,hw,a0,a1,a3,a9,a25,a26,a27,hR,hO=>by
  obtain⟨wop,wty,wn,wbody,wother,wname⟩:=w
  have hl:pre.length<all.length:=by rw[hall2];simp
  have hget:all[pre.length]=(⟨wop,wty,wn,wbody,wother,wname⟩:W):=by simp[hall2]
  obtain⟨b,hix⟩:=hrv.at hl
  rw[hget]at hix
  have hwn:=hnum (⟨wop,wty,wn,wbody,wother,wname⟩:W) (by rw[hall2];simp)
  obtain⟨gfv,giv,gov,go1,g1,g2,g3,hgf,hgi,hgo,gne,_⟩:=hx.xcells
  have hlts:=hx.lts
  have hxo:xo≠Z.no:=by omega
  simp only[zan]at hw hR hO
  have hxo':Z.no≠xo:=by omega
  have A:ze Z ((Z.newO [.int .i64 0,.int .i64 0,.int .i64 0,.int .i64 0,.int .i64 0,.str []]).setO Z.no [.int .i64 wop,.int .i64 wty,.int .i64 wn,.int .i64 wbody,.int .i64 wother,.str wname]):=(ze.refl Z).newO.setO (yah _)
  have wst:yb5 .i64 (x1.steps-1)=x1.steps-1\/x1.steps<1:=by
   by_cases h:x1.steps<1
   .exact .inr h
   .left;have:=hb.stack;have:=hb.n;rw[wrap_i64]<;>omega
  by_cases hs:x1.steps<1
  .simp[hs]at hO
   simp[zaQ,a0,a1,a3,a9,a25,a26,a27,hl,hix,W.av,W.cs,splice,hxo,go1,g1,g2,g3,hs]
   exact hO _ _ _ _ rfl rfl rfl (hx.adds A).stop
  .have w1:yb5 .i64 (x1.steps-1)=x1.steps-1:=by rcases wst with h|h;exact h;exact absurd h hs
   rw[if_neg hs]at hw hR hO
   have hb1:=hb.one (by omega)
   have hx2:XF fs mm mn J0 xo mo fo L T { x1 with steps:=x1.steps-1 } r1 (((Z.newO [.int .i64 0,.int .i64 0,.int .i64 0,.int .i64 0,.int .i64 0,.str []]).setO Z.no [.int .i64 wop,.int .i64 wty,.int .i64 wn,.int .i64 wbody,.int .i64 wother,.str wname]).setO xo [gfv,.int .i64 mm,.int .i64 mn,giv,.int .i64 (x1.steps-1),.slm mo 0 1 x1.memory.length,gov,.int .i64 x1.calls]) :=
    (hx.adds A).setX (J1:=(Z.newO [.int .i64 0,.int .i64 0,.int .i64 0,.int .i64 0,.int .i64 0,.str []]).setO Z.no [.int .i64 wop,.int .i64 wty,.int .i64 wn,.int .i64 wbody,.int .i64 wother,.str wname]) (by simp[hxo];exact go1) rfl rfl (yah _) (λ_ _ _=>rfl) hgi (hgo.keep A.nf λg hg=>rfl) λk hk=>.inl hk
   -- behind the instruction
   have w3:yb5 .i64 ((pre.length:Int)+1)=((pre.length+1:Nat):Int):=by rw[wrap_i64]<;>omega
   have w4:yb5 .i64 (deep+1)=deep+1:=by rw[wrap_i64]<;>omega
   have fin:∀{o:Int} {x2:zap} {r2:Fr} {J2:AS} {b:Nat->AV},zbX fs rec k deep (⟨wop,wty,wn,wbody,wother,wname⟩:W) { x1 with steps:=x1.steps-1 } r1=.ok o x2 r2->XF fs mm mn J0 xo mo fo L T x2 r2 J2->o=-1->b 0=.ptr xo 0->b 1=.ptr fo 0->b 3=.int .i64 deep->b 9=.int .i64 (height:Int)->b 25=rv->b 26=.int .i64 (all.length:Int)->b 27=.int .i64 ((pre.length+1:Nat):Int) ->
     zcC yca G 82 zaQ (za6 0 (zbi (avc yca G 82 zg4 (zfn yca [ResultVar.tmp 8] R)) (zfn yca [ResultVar.tmp 8] R))) (ws.length+1) b J2:=by
    intro o x2 r2 J2 b e hx3 ho b0 b1 b3 b9 b25 b26 b27
    rw[e]at hw hR hO
    simp only[ho,if_true]at hw hR hO
    have hbd2:=(zrN hbd hfs hD0 hD2 hwn hd hb1 e).1.bd
    exact ziE V hrec hbd hD0 hD2 hfs h0 hd hrv hall hnum ws (pre++[(⟨wop,wty,wn,wbody,wother,wname⟩:W)]) (by rw[hall2];simp) hx3 hbd2 hw b0 b1 b3 b9 b25 b26 (by rw[b27];simp) hR hO
   by_cases hA:wop=11\/wop=12\/wop=13
   .have hex:zbX fs rec k deep (⟨wop,wty,wn,wbody,wother,wname⟩:W) { x1 with steps:=x1.steps-1 } r1=zaB rec k (⟨wop,wty,wn,wbody,wother,wname⟩:W) (deep+1) { x1 with steps:=x1.steps-1 } r1:=by unfold zbX;rw[if_pos hA]
    have hne:zaB rec k (⟨wop,wty,wn,wbody,wother,wname⟩:W) (deep+1) { x1 with steps:=x1.steps-1 } r1≠.bad:=λe=>by rw[hex,e]at hw;exact hw rfl
    rcases hA with hop|hop|hop
    .subst hop
     simp[zaQ,a0,a1,a3,a9,a25,a26,a27,hl,hix,W.av,W.cs,splice,hxo,hxo',go1,g1,g2,g3,hs,w1,w4]
     refine zd6 (w:=⟨11,wty,wn,wbody,wother,wname⟩) hrec hbd hx2 hb1.bd (by omega) hd hne (λo x2 r2 J2 e hx3=>?_) (λs c x2 J2 e ho=>?_)
     .by_cases ho:o=-1
      .simp[-zq,ho,a0,a1,a3,a9,a25,a26,a27,w3]
       refine fin (hex.trans e) hx3 ho ?_ ?_ ?_ ?_ ?_ ?_ ?_<;>simp[a0,a1,a3,a9,a25,a26]
      .rw[hex,e]at hw hR
       simp only[if_neg ho]at hw hR
       by_cases hh:r2.stack.length<height
       .rw[if_pos hh]at hw;exact absurd rfl hw
       rw[if_neg hh]at hR
       obtain⟨pv,lv,tv,cv,sv,fo1,e1,e2,e3,e4,e5,hsv,_,_,_⟩:=hx3.cells
       rcases hsv with ⟨hs0,rfl⟩|⟨q,rfl,q1,q2⟩
       .have hh0:height=0:=by rw[hs0]at hh;simp at hh;exact hh
        subst hh0
        simp[-zq,ho,a0,a1,a3,a9,a25,a26,a27,fo1,e1,e2,e3,e4,splice]
        exact hR _ _ _ _ rfl (hx3.setFr (J1:=J2) (st':=r2.stack.take 0) (res':=r2.result) fo1 rfl rfl (yah _) (λ_ _ _=>rfl) (.inl ⟨by simp,rfl⟩) λk hk=>.inl hk)
       .simp[-zq,ho,a0,a1,a3,a9,a25,a26,a27,fo1,e1,e2,e3,e4,splice]
        refine⟨by omega,hR _ _ _ _ rfl (hx3.setFr (J1:=J2) (st':=r2.stack.take height) (res':=r2.result) fo1 rfl rfl (yah _) (λ_ _ _=>rfl) (.inr ⟨q,by rw[ydY],q1,q2⟩) λk hk=>.inl hk)⟩
     .rw[hex,e]at hO
      simp
      exact hO _ _ _ _ rfl ho
    .subst hop
     simp[zaQ,a0,a1,a3,a9,a25,a26,a27,hl,hix,W.av,W.cs,splice,hxo,hxo',go1,g1,g2,g3,hs,w1,w4]
     refine zd6 (w:=⟨12,wty,wn,wbody,wother,wname⟩) hrec hbd hx2 hb1.bd (by omega) hd hne (λo x2 r2 J2 e hx3=>?_) (λs c x2 J2 e ho=>?_)
     .by_cases ho:o=-1
      .simp[-zq,ho,a0,a1,a3,a9,a25,a26,a27,w3]
       refine fin (hex.trans e) hx3 ho ?_ ?_ ?_ ?_ ?_ ?_ ?_<;>simp[a0,a1,a3,a9,a25,a26]
      .rw[hex,e]at hw hR
       simp only[if_neg ho]at hw hR
       by_cases hh:r2.stack.length<height
       .rw[if_pos hh]at hw;exact absurd rfl hw
       rw[if_neg hh]at hR
       obtain⟨pv,lv,tv,cv,sv,fo1,e1,e2,e3,e4,e5,hsv,_,_,_⟩:=hx3.cells
       rcases hsv with ⟨hs0,rfl⟩|⟨q,rfl,q1,q2⟩
       .have hh0:height=0:=by rw[hs0]at hh;simp at hh;exact hh
        subst hh0
        simp[-zq,ho,a0,a1,a3,a9,a25,a26,a27,fo1,e1,e2,e3,e4,splice]
        exact hR _ _ _ _ rfl (hx3.setFr (J1:=J2) (st':=r2.stack.take 0) (res':=r2.result) fo1 rfl rfl (yah _) (λ_ _ _=>rfl) (.inl ⟨by simp,rfl⟩) λk hk=>.inl hk)
       .simp[-zq,ho,a0,a1,a3,a9,a25,a26,a27,fo1,e1,e2,e3,e4,splice]
        refine⟨by omega,hR _ _ _ _ rfl (hx3.setFr (J1:=J2) (st':=r2.stack.take height) (res':=r2.result) fo1 rfl rfl (yah _) (λ_ _ _=>rfl) (.inr ⟨q,by rw[ydY],q1,q2⟩) λk hk=>.inl hk)⟩
     .rw[hex,e]at hO
      simp
      exact hO _ _ _ _ rfl ho
    .subst hop
     simp[zaQ,a0,a1,a3,a9,a25,a26,a27,hl,hix,W.av,W.cs,splice,hxo,hxo',go1,g1,g2,g3,hs,w1,w4]
     refine zd6 (w:=⟨13,wty,wn,wbody,wother,wname⟩) hrec hbd hx2 hb1.bd (by omega) hd hne (λo x2 r2 J2 e hx3=>?_) (λs c x2 J2 e ho=>?_)
     .by_cases ho:o=-1
      .simp[-zq,ho,a0,a1,a3,a9,a25,a26,a27,w3]
       refine fin (hex.trans e) hx3 ho ?_ ?_ ?_ ?_ ?_ ?_ ?_<;>simp[a0,a1,a3,a9,a25,a26]
      .rw[hex,e]at hw hR
       simp only[if_neg ho]at hw hR
       by_cases hh:r2.stack.length<height
       .rw[if_pos hh]at hw;exact absurd rfl hw
       rw[if_neg hh]at hR
       obtain⟨pv,lv,tv,cv,sv,fo1,e1,e2,e3,e4,e5,hsv,_,_,_⟩:=hx3.cells
       rcases hsv with ⟨hs0,rfl⟩|⟨q,rfl,q1,q2⟩
       .have hh0:height=0:=by rw[hs0]at hh;simp at hh;exact hh
        subst hh0
        simp[-zq,ho,a0,a1,a3,a9,a25,a26,a27,fo1,e1,e2,e3,e4,splice]
        exact hR _ _ _ _ rfl (hx3.setFr (J1:=J2) (st':=r2.stack.take 0) (res':=r2.result) fo1 rfl rfl (yah _) (λ_ _ _=>rfl) (.inl ⟨by simp,rfl⟩) λk hk=>.inl hk)
       .simp[-zq,ho,a0,a1,a3,a9,a25,a26,a27,fo1,e1,e2,e3,e4,splice]
        refine⟨by omega,hR _ _ _ _ rfl (hx3.setFr (J1:=J2) (st':=r2.stack.take height) (res':=r2.result) fo1 rfl rfl (yah _) (λ_ _ _=>rfl) (.inr ⟨q,by rw[ydY],q1,q2⟩) λk hk=>.inl hk)⟩
     .rw[hex,e]at hO
      simp
      exact hO _ _ _ _ rfl ho
   .by_cases hB:wop=14\/wop=15\/wop=16
    .have hex:zbX fs rec k deep (⟨wop,wty,wn,wbody,wother,wname⟩:W) { x1 with steps:=x1.steps-1 } r1=zgS (⟨wop,wty,wn,wbody,wother,wname⟩:W) deep { x1 with steps:=x1.steps-1 } r1:=by unfold zbX;rw[if_neg hA,if_pos hB]
     have hne:zgS (⟨wop,wty,wn,wbody,wother,wname⟩:W) deep { x1 with steps:=x1.steps-1 } r1≠.bad:=λe=>by rw[hex,e]at hw;exact hw rfl
     rcases hB with hop|hop|hop
     .subst hop
      simp[zaQ,a0,a1,a3,a9,a25,a26,a27,hl,hix,W.av,W.cs,splice,hxo,hxo',go1,g1,g2,g3,hs,w1,w4]
      refine ziC (w:=⟨14,wty,wn,wbody,wother,wname⟩) hx2 hb1.bd hne (λo x2 r2 J2 e hx3=>?_)
      by_cases ho:o=-1
      .simp[-zq,ho,a0,a1,a3,a9,a25,a26,a27,w3]
       refine fin (hex.trans e) hx3 ho ?_ ?_ ?_ ?_ ?_ ?_ ?_<;>simp[a0,a1,a3,a9,a25,a26]
      .rw[hex,e]at hw hR
       simp only[if_neg ho]at hw hR
       by_cases hh:r2.stack.length<height
       .rw[if_pos hh]at hw;exact absurd rfl hw
       rw[if_neg hh]at hR
       obtain⟨pv,lv,tv,cv,sv,fo1,e1,e2,e3,e4,e5,hsv,_,_,_⟩:=hx3.cells
       rcases hsv with ⟨hs0,rfl⟩|⟨q,rfl,q1,q2⟩
       .have hh0:height=0:=by rw[hs0]at hh;simp at hh;exact hh
        subst hh0
        simp[-zq,ho,a0,a1,a3,a9,a25,a26,a27,fo1,e1,e2,e3,e4,splice]
        exact hR _ _ _ _ rfl (hx3.setFr (J1:=J2) (st':=r2.stack.take 0) (res':=r2.result) fo1 rfl rfl (yah _) (λ_ _ _=>rfl) (.inl ⟨by simp,rfl⟩) λk hk=>.inl hk)
       .simp[-zq,ho,a0,a1,a3,a9,a25,a26,a27,fo1,e1,e2,e3,e4,splice]
        refine⟨by omega,hR _ _ _ _ rfl (hx3.setFr (J1:=J2) (st':=r2.stack.take height) (res':=r2.result) fo1 rfl rfl (yah _) (λ_ _ _=>rfl) (.inr ⟨q,by rw[ydY],q1,q2⟩) λk hk=>.inl hk)⟩
     .subst hop
      simp[zaQ,a0,a1,a3,a9,a25,a26,a27,hl,hix,W.av,W.cs,splice,hxo,hxo',go1,g1,g2,g3,hs,w1,w4]
      refine ziC (w:=⟨15,wty,wn,wbody,wother,wname⟩) hx2 hb1.bd hne (λo x2 r2 J2 e hx3=>?_)
      by_cases ho:o=-1
      .simp[-zq,ho,a0,a1,a3,a9,a25,a26,a27,w3]
       refine fin (hex.trans e) hx3 ho ?_ ?_ ?_ ?_ ?_ ?_ ?_<;>simp[a0,a1,a3,a9,a25,a26]
      .rw[hex,e]at hw hR
       simp only[if_neg ho]at hw hR
       by_cases hh:r2.stack.length<height
       .rw[if_pos hh]at hw;exact absurd rfl hw
       rw[if_neg hh]at hR
       obtain⟨pv,lv,tv,cv,sv,fo1,e1,e2,e3,e4,e5,hsv,_,_,_⟩:=hx3.cells
       rcases hsv with ⟨hs0,rfl⟩|⟨q,rfl,q1,q2⟩
       .have hh0:height=0:=by rw[hs0]at hh;simp at hh;exact hh
        subst hh0
        simp[-zq,ho,a0,a1,a3,a9,a25,a26,a27,fo1,e1,e2,e3,e4,splice]
        exact hR _ _ _ _ rfl (hx3.setFr (J1:=J2) (st':=r2.stack.take 0) (res':=r2.result) fo1 rfl rfl (yah _) (λ_ _ _=>rfl) (.inl ⟨by simp,rfl⟩) λk hk=>.inl hk)
       .simp[-zq,ho,a0,a1,a3,a9,a25,a26,a27,fo1,e1,e2,e3,e4,splice]
        refine⟨by omega,hR _ _ _ _ rfl (hx3.setFr (J1:=J2) (st':=r2.stack.take height) (res':=r2.result) fo1 rfl rfl (yah _) (λ_ _ _=>rfl) (.inr ⟨q,by rw[ydY],q1,q2⟩) λk hk=>.inl hk)⟩
     .subst hop
      simp[zaQ,a0,a1,a3,a9,a25,a26,a27,hl,hix,W.av,W.cs,splice,hxo,hxo',go1,g1,g2,g3,hs,w1,w4]
      refine ziC (w:=⟨16,wty,wn,wbody,wother,wname⟩) hx2 hb1.bd hne (λo x2 r2 J2 e hx3=>?_)
      by_cases ho:o=-1
      .simp[-zq,ho,a0,a1,a3,a9,a25,a26,a27,w3]
       refine fin (hex.trans e) hx3 ho ?_ ?_ ?_ ?_ ?_ ?_ ?_<;>simp[a0,a1,a3,a9,a25,a26]
      .rw[hex,e]at hw hR
       simp only[if_neg ho]at hw hR
       by_cases hh:r2.stack.length<height
       .rw[if_pos hh]at hw;exact absurd rfl hw
       rw[if_neg hh]at hR
       obtain⟨pv,lv,tv,cv,sv,fo1,e1,e2,e3,e4,e5,hsv,_,_,_⟩:=hx3.cells
       rcases hsv with ⟨hs0,rfl⟩|⟨q,rfl,q1,q2⟩
       .have hh0:height=0:=by rw[hs0]at hh;simp at hh;exact hh
        subst hh0
        simp[-zq,ho,a0,a1,a3,a9,a25,a26,a27,fo1,e1,e2,e3,e4,splice]
        exact hR _ _ _ _ rfl (hx3.setFr (J1:=J2) (st':=r2.stack.take 0) (res':=r2.result) fo1 rfl rfl (yah _) (λ_ _ _=>rfl) (.inl ⟨by simp,rfl⟩) λk hk=>.inl hk)
       .simp[-zq,ho,a0,a1,a3,a9,a25,a26,a27,fo1,e1,e2,e3,e4,splice]
        refine⟨by omega,hR _ _ _ _ rfl (hx3.setFr (J1:=J2) (st':=r2.stack.take height) (res':=r2.result) fo1 rfl rfl (yah _) (λ_ _ _=>rfl) (.inr ⟨q,by rw[ydY],q1,q2⟩) λk hk=>.inl hk)⟩
    .have n1:wop≠11/\wop≠12/\wop≠13:=by simpa using hA
     have n2:wop≠14/\wop≠15/\wop≠16:=by simpa using hB
     have hne:zaa fs rec (⟨wop,wty,wn,wbody,wother,wname⟩:W) { x1 with steps:=x1.steps-1 } r1≠.bad:=λe=>by
      unfold zbX at hw;rw[if_neg hA,if_neg hB,e]at hw;exact hw rfl
     simp[zaQ,a0,a1,a3,a9,a25,a26,a27,hl,hix,W.av,W.cs,splice,hxo,hxo',go1,g1,g2,g3,hs,w1,w4,n1,n2]
     refine zmu (w:=⟨wop,wty,wn,wbody,wother,wname⟩) V hrec hbd hD0 hfs hwn hx2 hb1 hne (λx2 r2 J2 e hx3=>?_) (λs c x2 J2 e ho=>?_)
     .simp[-zq,a0,a1,a3,a9,a25,a26,a27,w3]
      refine fin (o:=-1) (by unfold zbX;rw[if_neg hA,if_neg hB,e]) hx3 rfl ?_ ?_ ?_ ?_ ?_ ?_ ?_<;>simp[a0,a1,a3,a9,a25,a26]
     .have e2:zbX fs rec k deep (⟨wop,wty,wn,wbody,wother,wname⟩:W) { x1 with steps:=x1.steps-1 } r1=.over s c x2:=by unfold zbX;rw[if_neg hA,if_neg hB,e]
      rw[e2]at hO
      simp
      exact hO _ _ _ _ rfl ho
end
theorem zoO{G:Env}(V:zkB G){fs:List F}(hfs:zp1 fs){mm mn:Int}{N:Nat}:∀(k:Nat) (D:Int),0<=D->D+k<=2^62->ziB G fs mm mn N D (zkV fs k)
 | 0,D,_,_=>by
  intro h hb h0 hd hw
  exact absurd rfl hw
 | k+1,D,hD,hDk=>by
  rename_i J0 J xo mo fo L T x r at_ deep R
  intro h hb h0 hd hw hR hO
  refine ztq rfl ?_
  simp only[zkV]at hw hR hO
  by_cases ha:at_<0
  .rw[if_pos ha]at hw;exact absurd rfl hw
  rw[if_neg ha]at hw hR hO
  cases hws:r.fn.lists[at_.toNat]? with
  | none=>rw[hws]at hw;exact absurd rfl hw
  | some ws =>
  rw[hws]at hw hR hO
  simp only at hw hR hO
  obtain⟨hi,hie⟩:=yaq.1 hws
  obtain⟨pv,lv,tv,cv,sv,fo1,e1,e2,e3,e4,e5,hsv,htv,_,_⟩:=h.cells
  obtain⟨b,rv,hrv,hix⟩:=htv.at hi
  rw[hie]at hrv
  have ea:((at_.toNat:Nat):Int)=at_:=by omega
  rw[ea]at hix
  have sl:=hsv.len
  have rl:=hrv.len
  have r1:=hrv.one
  have hmem:=ycW hws
  simp[zBT,fo1,e1,e2,e3,e4,e5,sl,hix,rl,r1]
  refine za9 (ws.length+1) ?_
  refine ziE V (zoO V hfs k (D+1) (by omega) (by push_cast at hDk;omega)) (znJ hfs k (D+1) (by omega) (by push_cast at hDk;omega)) (by omega) (by push_cast at hDk;omega) hfs h0 (by omega) hrv (hb.fn.rows _ hmem) (hb.fn.nums _ hmem) ws [] rfl h hb hw ?_ ?_ ?_ ?_ ?_ ?_ ?_ hR hO<;>simp
end Go.Proofs.YtohfclafhegadaaGreatDoor

namespace Go.Proofs.YtohfclafhegadaaGreatDoor
open Go Go.Abs
theorem zgF{m:M}(h:zav m=.ok ()):0<=m.memory/\m.memory<=4096:=by
 unfold zav at h
 split at h
 .cases h
 .rename_i q
  simpa using q
theorem zjQ{m:M}(h:zav m=.ok ()):0<=m.main/\∃g,m.funcs[m.main.toNat]?=some g/\g.type=1/\g.params.length=0:=by
 have hm:zfy m=true:=by
  unfold zav at h
  split at h
  .cases h
  .split at h
   .cases h
   .split at h
    .assumption
    .cases h
 unfold zfy at hm
 simp only[Bool.and_eq_true,decide_eq_true_eq]at hm
 obtain⟨h0,h1⟩:=hm
 refine⟨h0,?_⟩
 cases hg:m.funcs[m.main.toNat]? with
 | none=>rw[hg]at h1;cases h1
 | some g =>
  rw[hg]at h1
  simp only[Bool.and_eq_true,decide_eq_true_eq]at h1
  exact⟨g,rfl,h1.1,h1.2⟩
theorem zoP(n:Nat)(k:IntKind)(v:Int):zy (yaj n (ycS k v))=yaj n (ycS k v):=by
 induction n with
 | zero=>rfl
 | succ n ih=>simp only[yc2,zy,yaa]at ih ⊢;rw[ih];rfl
theorem znN{G:Env}{n:Int}(h0:0<=n)(h1:n<=4096){J:AS}{K:AV->AS->Prop}:zhF yca 32 (.int .i64 n) (.int .i64 n) J K=K (.slm J.no 0 1 n.toNat) (J.newO (yaj n.toNat (.int .u8 0))):=by
 refine propext ⟨λh=>?_,λh=>?_⟩
 .obtain⟨sz,bs,z,e1,e2,e3,e4,e5,_,_,_,_,h⟩:=h
  rw[zvW]at e1
  rw[zvX]at e3
  cases e1;cases e3
  rw[zoP]at h
  exact h
 .refine⟨1,1,_,zvW,zCh,zvX,rfl,rfl,rfl,h0,by omega,by omega,?_⟩
  rw[zoP]
  exact h
set_option maxHeartbeats 1000000 in
theorem zmv{G:Env}(V:zkB G){m:M}{mv iv:AV}{input:List Int}{steps:Int}{J:AS}{R:Out->AS->Prop}(hm:MV mv m)(hc:zav m=.ok ())(hfs:zp1 m.funcs)(hi:zaf iv input)(hil:input.length<=2^38)(hs:steps<=2^38)
  (hR:∀ov out st code J',zp0 m input steps (steps.toNat+1)=some (out,st,code)->zaf ov out->ze J J'->R (.ret (.agg [ov,.int .i64 st,.int .i64 code])) J'):zzQ G 28 [mv,iv,.int .i64 steps] J R:=by
 refine zop ?_
 refine zhR (px:=zvV) (px2:=zqF) (pz:=zm1) (k:=80) (py:=zn6) (n:=32) (nk:=18) (t:=17) (d0:=4) (d1:=2) (res:=[.cell 6 48]) zqE Tryz.func28 rfl rfl rfl rfl (by kernel_rfl) (by kernel_rfl) (by kernel_rfl) (by simp) rfl rfl rfl rfl rfl rfl (by decide) Tryz.func80 rfl (by kernel_rfl) rfl rfl rfl rfl rfl rfl rfl rfl rfl (by kernel_rfl) (by decide) (by decide) (by decide) ?_
 obtain⟨fsv,rfl,hfsv⟩:=hm
 have f1:=hfsv.one
 have i1:=hi.one
 obtain⟨m0,m1⟩:=zgF hc
 obtain⟨mn0,g,hg,hgt,hgp⟩:=zjQ hc
 obtain⟨out,st,code,he,_,hout⟩:=zjL hc input steps (steps.toNat+1) (by omega)
 have hgm:m.funcs[m.main.toNat]?=some g:=hg
 have hlt:m.main.toNat<m.funcs.length:=(yaq.1 hg).1
 obtain⟨bb,gv,hgv,hix⟩:=hfsv.at hlt
 have hge:m.funcs[m.main.toNat]=g:=(yaq.1 hg).2
 rw[hge]at hgv
 rw[Int.toNat_of_nonneg mn0]at hix
 obtain⟨gpv,glv,gtv,rfl,hgpv,hglv,hgtv⟩:=hgv
 have g1:=hgpv.one
 have g2:=hglv.one
 have g3:=hgtv.one
 have hgv:FV (.agg [.str g.name,gpv,glv,.int .i64 g.type,gtv]) g:=⟨gpv,glv,gtv,rfl,hgpv,hglv,hgtv⟩
 have hgo:OkF g:=hfs g (ycW hg)
 have hcallw:zbW (zkV m.funcs (steps.toNat+1)) ⟨input,steps,yaj m.memory.toNat 0,[],0⟩ g [] ⟨g,[],[],0⟩≠.bad:=by
  intro e
  unfold zp0 at he
  rw[if_neg (by omega),hg]at he
  simp only at he
  rw[e]at he
  cases he
 have hov:∀s c x',zbW (zkV m.funcs (steps.toNat+1)) ⟨input,steps,yaj m.memory.toNat 0,[],0⟩ g [] ⟨g,[],[],0⟩=.over s c x'->zp0 m input steps (steps.toNat+1)=some (x'.out,s,c):=λs c x' e=>by
  unfold zp0
  rw[if_neg (by omega),hg]
  simp only
  rw[e]
 have hok:∀v x' r',zbW (zkV m.funcs (steps.toNat+1)) ⟨input,steps,yaj m.memory.toNat 0,[],0⟩ g [] ⟨g,[],[],0⟩=.ok v x' r'->zp0 m input steps (steps.toNat+1)=some (x'.out,1,v):=λv x' r' e=>by
  unfold zp0
  rw[if_neg (by omega),hg]
  simp only
  rw[e]
 have fin:∀(Z J':AS) (xo mo ro:Nat) (x':zap) (ov:AV) (s c:Int),ze J Z->J.no<=xo->J.no<=mo->J.no<=ro->XM m.funcs m.memory m.main Z xo mo [] [] x' ov J'->zp0 m input steps (steps.toNat+1)=some (x'.out,s,c)->zpi R (.ret (.agg [ov,.int .i64 s,.int .i64 c])) (J'.setO ro [ov,.int .i64 s,.int .i64 c]):=by
  intro Z J' xo mo ro x' ov s c A hx hmo hr hm e
  have A2:ze J (J'.setO ro [ov,.int .i64 s,.int .i64 c]):=by
   have h1:=hm.no;have h2:=hm.nf;have h3:=A.no;have h4:=A.nf
   refine⟨by simp;omega,by simp;omega,λo ho=>?_,λf hf=>?_⟩
   .have:o≠ro:=by omega
    simp[this]
    rw[hm.obj o (by omega) (by omega) (by omega) (by simp)];exact A.obj o ho
   .simp
    rw[hm.fam f (by omega) (by simp)];exact A.fam f hf
  rcases hm.own with ⟨h1,rfl⟩|⟨q,rfl,h1,h2⟩
  .exact .inl (hR _ _ _ _ _ e (.inl ⟨h1,rfl⟩) A2)
  .have hq:Z.nf<=q:=by
    rcases hm.ownT q (by simp[zV])with h|h
    .simp at h
    .exact h
   refine .inr ⟨_,q,λ_=>false,rfl,by simpa using h2,?_⟩
   have hI:zaf (.sl (.stat false) 1 (x'.out.map (.int .i64))) x'.out:=.inr ⟨_,rfl⟩
   have:=hR _ _ _ _ ((J'.setO ro [.sl (.fam q false) 1 (x'.out.map (.int .i64)),.int .i64 s,.int .i64 c]).frz q λ_=>false) e hI (A2.frz (by have:=A.nf;omega) λ_ _=>rfl)
   simpa [Function.comp_def]using this
 have key:∀(a:Nat->AV) (Z:AS) (caps:List AV) (xo mo vo po ro:Nat),caps=[.ptr vo 0,.ptr ro 0]->a 3=.ptr po 0->a 6=.ptr ro 0->a 7=.ptr vo 0->Z.objs po=some [fsv,.int .i64 m.memory,.int .i64 m.main]->Z.objs ro=some [.nilsl,.int .i64 0,.int .i64 0]->Z.objs vo=some [.ptr xo 0] ->
   Z.objs xo=some [fsv,.int .i64 m.memory,.int .i64 m.main,iv,.int .i64 steps,.slm mo 0 1 m.memory.toNat,.nilsl,.int .i64 0]->Z.objs mo=some (yaj m.memory.toNat (.int .u8 0))->ze J Z->(po<Z.no/\ro<Z.no/\vo<Z.no/\xo<Z.no/\mo<Z.no)->(J.no<=xo/\J.no<=mo/\J.no<=ro) ->
   (xo≠mo/\vo≠xo/\vo≠mo/\ro≠xo/\ro≠mo/\ro≠vo)->avc yca G 32 zm1 (aq (zay yca G 18 zn6 4 2 caps [.cell 6 48] (zpi R))) a Z:=by
  intro a Z caps xo mo vo po ro hcaps a3 a6 a7 op orr ov ox om A lts ges nes
  obtain⟨l1,l2,l3,l4,l5⟩:=lts
  obtain⟨q1,q2,q3⟩:=ges
  obtain⟨n1,n2,n3,n4,n5,n6⟩:=nes
  subst hcaps
  have hM:XM m.funcs m.memory m.main Z xo mo [] [] ⟨input,steps,yaj m.memory.toNat 0,[],0⟩ .nilsl Z :=
   ⟨yah _,yah _,λ_ _ _ _ _=>rfl,λ_ _ _=>rfl,l4,l5,n1,by simp,⟨fsv,iv,by simpa using ox,hfsv,hi⟩,.inl ⟨rfl,rfl⟩,by simp[zV],by simpa using om⟩
  simp[zm1,a3,a7,op,ov,f1,hix,splice,g1,g2,g3]
  refine zjP (N:=2^38) (zoO V hfs (steps.toNat+1) 0 (ydU _) (by omega)) (znJ hfs (steps.toNat+1) 0 (ydU _) (by omega)) (ydU _) hM (yah _) (by simp only;omega) (by simp;omega) (ydU _) (by simp;omega) hil hgo hgv (.inr (.inl ⟨rfl,rfl⟩)) (by simp) (by simp[zV]) (by simp[zV]) hcallw (λv x' r' J' e hx=>?_) (λs c x' J' e hx=>?_)
  .obtain⟨xov,hm⟩:=hx
   have o1:=hm.own.one
   obtain⟨fv,iv',ho,_,_⟩:=hm.mach
   have hv:=(hm.obj vo l3 n2 n3 (by simp)).trans ov
   have hr:=(hm.obj ro l2 n4 n5 (by simp)).trans orr
   have hfin:=fin Z J' xo mo ro x' xov 1 v A q1 q2 q3 hm (hok _ _ _ e)
   simp[a6,a7,hv,ho,hr,o1,splice]
   simp[zay,zn6,splice,a6]
   exact hfin
  .obtain⟨xov,hm⟩:=hx
   have o1:=hm.own.one
   obtain⟨fv,iv',ho,_,_⟩:=hm.mach
   have hv:=(hm.obj vo l3 n2 n3 (by simp)).trans ov
   have hr:=(hm.obj ro l2 n4 n5 (by simp)).trans orr
   have hl:=hm.no
   have A3:ze J' ((J'.newO [.int .i64 0,.int .i64 0]).setO J'.no [.int .i64 s,.int .i64 c]):=(ze.refl J').newO.setO (yah _)
   have hfin:=fin Z _ xo mo ro x' xov s c A q1 q2 q3 (hm.adds A3) (hov _ _ _ e)
   have y1:vo≠J'.no:=by omega
   have y2:ro≠J'.no:=by omega
   have y3:xo≠J'.no:=by omega
   simp
   simp[zay,zn6,ziA,splice,zdn,a6,hv,ho,hr,o1,y1,y2,y3]
   exact hfin
 simp[zvV]
 have z2:¬J.no=J.no+1+1:=by omega
 have z3:¬J.no=J.no+1+1+1:=by omega
 have z4:¬J.no=J.no+1+1+1+1:=by omega
 have z5:¬J.no+1=J.no+1+1+1:=by omega
 have z6:¬J.no+1=J.no+1+1+1+1:=by omega
 have z7:¬J.no+1+1=J.no+1+1+1+1:=by omega
 simp[zqF,f1,i1,splice,znN (G:=G) m0 m1,z2,z3,z4]
 refine⟨key _ _ _ (J.no+1+1+1) (J.no+1+1) (J.no+1+1+1+1) J.no (J.no+1) rfl ?_ ?_ ?_ ?_ ?_ ?_ ?_ ?_ ?_ ?_ ?_ ?_,key _ _ _ (J.no+1+1+1+1) (J.no+1+1) (J.no+1+1+1) J.no (J.no+1) rfl ?_ ?_ ?_ ?_ ?_ ?_ ?_ ?_ ?_ ?_ ?_ ?_,key _ _ _ (J.no+1+1+1+1) (J.no+1+1+1) (J.no+1+1) J.no (J.no+1) rfl ?_ ?_ ?_ ?_ ?_ ?_ ?_ ?_ ?_ ?_ ?_ ?_⟩
 all_goals first|(simp;done)|(simp;omega)|(simp[z2,z3,z4,z5,z6,z7];done)|exact((ze.refl J).newO.newO.newO.newO.newO).setO (by omega)|omega
end Go.Proofs.YtohfclafhegadaaGreatDoor
namespace Go.Proofs.YtohfclafhegadaaGreatDoor.Ck
open Go Go.Abs Go.Proofs.YtohfclafhegadaaGreatDoor
def zhh(r:List W):List Int:=r.flatMap zj
def zdi(l:To):List Int:=l.flatMap zhh
def NOk(L:Nat)(named:List Bool)(P:List Int):Prop:=named.length=L/\∀i,i<L->named[i]?=some (decide (0<P.count (i:Int)))
theorem zu5{L:Nat}{named:List Bool}{P:List Int}{k:Nat}{n:Int}(h:NOk L named P)(hk:k<=L)(h0:0<=n/\n<(k:Int))(hc:P.count n=0):∃named',zdu (k:Int) named n=.ok named'/\NOk L named' (P++[n]):=by
 obtain⟨i,hi⟩:=ydZ h0.1
 subst hi
 have hi:i<L:=by omega
 have hg:=h.2 i hi
 rw[hc]at hg
 have e:named.getD (Int.toNat (i:Int)) true=false:=by rw[ybe,ycJ,hg];rfl
 refine⟨named.set i true,?_,by simp[h.1],λj hj=>?_⟩
 .unfold zdu
  rw[if_pos ⟨h0.1,h0.2,e⟩,ybe]
 .rw[List.getElem?_set,yd4]
  by_cases hij:i=j
  .subst hij
   rw[if_pos rfl,if_pos (by rw[h.1];exact hj)]
   simp
  .rw[if_neg hij,h.2 j hj]
   have:List.count (j:Int) [(i:Int)]=0:=by
    rw[yd5]
    have:¬((i:Int)==(j:Int))=true:=by simp;omega
    simp[this]
   rw[this,Nat.add_zero]
theorem zmw{L k:Nat}(hk:k<=L):∀{ns:List Int} {named:List Bool} {P:List Int},NOk L named P->(∀n∈ns,0<=n/\n<(k:Int))->(∀n:Int,(P++ns).count n<=1)->∃named',zaJ (k:Int) ns named=.ok named'/\NOk L named' (P++ns)
 | [],named,P,h,_,_=>⟨named,rfl,by simpa using h⟩
 | n::ns,named,P,h,h0,hc=>by
  have h1:=hc n
  rw[yd4,List.count_cons_self]at h1
  obtain⟨nm,e1,e2⟩:=zu5 h hk (h0 n (by simp)) (by omega)
  obtain⟨nm2,e3,e4⟩:=zmw hk (ns:=ns) e2 (λm hm=>h0 m (by simp[hm])) (λm=>by have:=hc m;simpa using this)
  refine⟨nm2,?_,by simpa using e4⟩
  rw[zaJ,e1];exact e3
theorem zrO{L k:Nat}(hk:k<=L):∀{r:List W} {named:List Bool} {P:List Int},NOk L named P->(∀n∈zhh r,0<=n/\n<(k:Int))->(∀n:Int,(P++zhh r).count n<=1)->∃named',zha (k:Int) r named=.ok named'/\NOk L named' (P++zhh r)
 | [],named,P,h,_,_=>⟨named,rfl,by simpa [zhh]using h⟩
 | w::r,named,P,h,h0,hc=>by
  have e:zhh (w::r)=zj w++zhh r:=by simp[zhh]
  rw[e]at h0 hc ⊢
  obtain⟨nm,e1,e2⟩:=zmw hk h (ns:=zj w) (λn hn=>h0 n (by simp[hn])) (λn=>by
   have:=hc n
   rw[<-ydf,yd4]at this
   omega)
  obtain⟨nm2,e3,e4⟩:=zrO hk (r:=r) e2 (λm hm=>h0 m (by simp[hm])) (λm=>by rw[ydf];exact hc m)
  refine⟨nm2,?_,by rw[<-ydf];exact e4⟩
  rw[zha,e1];exact e3
theorem zoQ{L:Nat}:∀{k:Nat} {ls:To} {named:List Bool} {P:List Int},k+ls.length<=L->NOk L named P->(∀i r,ls[i]?=some r->∀n∈zhh r,0<=n/\n<((k+i:Nat):Int))->(∀n:Int,(P++zdi ls).count n<=1)->∃named',zbD k ls named=.ok named'/\NOk L named' (P++zdi ls)
 | k,[],named,P,_,h,_,_=>⟨named,rfl,by simpa [zdi]using h⟩
 | k,r::ls,named,P,hk,h,h0,hc=>by
  have e:zdi (r::ls)=zhh r++zdi ls:=by simp[zdi]
  rw[e]at hc ⊢
  simp only[yac]at hk
  obtain⟨nm,e1,e2⟩:=zrO (k:=k) (by omega) h (r:=r) (λn hn=>by have:=h0 0 r rfl n hn;simpa using this) (λn=>by
   have:=hc n
   rw[<-ydf,yd4]at this
   omega)
  obtain⟨nm2,e3,e4⟩:=zoQ (k:=k+1) (ls:=ls) (by omega) e2 (λi q hq m hm=>by have:=h0 (i+1) q (by simpa using hq) m hm;simp at this ⊢;omega) (λm=>by rw[ydf];exact hc m)
  refine⟨nm2,?_,by rw[<-ydf];exact e4⟩
  rw[zbD,e1];exact e3
theorem zrP{ls:To}(h0:ls.length≠0)(hv:∀(i:Nat) r,ls[i]?=some r->∀n∈zhh r,0<=n/\n<(i:Int))(hc:∀i:Nat,i+1<ls.length->(zdi ls).count (i:Int)=1):zb2 ls=.ok ():=by
 have hall:∀n∈zdi ls,0<=n/\n<((ls.length-1:Nat):Int):=λn hn=>by
  simp only[zdi,ycZ]at hn
  obtain⟨r,hr,hn⟩:=hn
  obtain⟨i,hi,e⟩:=ya9 hr
  have:=hv i r (by rw[yau hi,e]) n hn
  omega
 have hc1:∀n:Int,(zdi ls).count n<=1:=λn=>by
  by_cases hm:n∈zdi ls
  .have:=hall n hm
   obtain⟨i,hi⟩:=ydZ this.1
   subst hi
   rw[hc i (by omega)]
   exact yah _
  .rw[List.count_eq_zero_of_not_mem hm];omega
 obtain⟨nm,e1,e2,e3⟩:=zoQ (L:=ls.length) (k:=0) (ls:=ls) (named:=yaj ls.length false) (P:=[]) (by omega) ⟨by simp,λi hi=>by simp[hi]⟩ (λi r hr n hn=>by have:=hv i r hr n hn;simpa using this) (by simpa using hc1)
 unfold zb2
 rw[if_neg h0,e1]
 simp only
 rw[if_pos]
 rw[yaM]
 intro b hb
 obtain⟨i,hi,e⟩:=ya9 hb
 simp at hi
 have:=e3 i (by omega)
 rw[yde,hc i (by omega)]at this
 rw[<-e,List.getElem_take]
 have h4:=yaq.1 this
 obtain⟨h5,h6⟩:=h4
 rw[h6]
 rfl
end Go.Proofs.YtohfclafhegadaaGreatDoor.Ck
namespace Go.Proofs.YtohfclafhegadaaGreatDoor
open Go Go.Abs Go.Proofs.YtohfclafhegadaaGreatDoor.Ck
theorem zpO{w:W}(h:zbP w=false):zj (zaX w)=[]:=by
 simp only[zbP,Bool.or_eq_false_iff,decide_eq_false_iff_not]at h
 unfold zj zaX
 simp only
 rw[if_neg (by omega),if_neg (by omega)]
theorem zcV(w:W)(r:List W):zhh (w::r)=zj w++zhh r:=by simp[zhh]
theorem zd7(x y:To):zdi (x++y)=zdi x++zdi y:=by simp[zdi]
theorem zmx(x:List W):zdi [x]=zhh x:=by simp[zdi]
structure Inv(n0 n1:Nat)(z:To)(out:List W):Prop where
 len:n1=n0+z.length
 names:∀n∈zhh out,∃j:Nat,n=(j:Int)/\j<n1
 rows:∀i r,z[i]?=some r->∀n∈zhh r,∃j:Nat,n=(j:Int)/\j<n0+i
 once:∀n:Nat,(zhh out).count (n:Int)+(zdi z).count (n:Int)=if n0<=n/\n<n1 then 1 else 0
theorem znO{n0 n1 n2:Nat}{z1 z2:To}{b out:List W}(h1:Inv n0 n1 z1 b)(h2:Inv (n1+1) n2 z2 out){w:W}(hw:zj w=[(n1:Int)]):Inv n0 n2 (z1++b::z2) (w::out) where
 len:=by have:=h1.len;have:=h2.len;simp;omega
 names n hn:=by
  rw[zcV,hw]at hn
  have:=h2.len
  rcases ybD.1 hn with rfl|hn
  .exact⟨n1,rfl,by omega⟩
  .exact h2.names n hn
 rows i r hi n hn:=by
  have l1:=h1.len
  by_cases c:i<z1.length
  .rw[yat c]at hi
   exact h1.rows i r hi n hn
  .rw[yaI (by omega)]at hi
   obtain⟨k,hk⟩:∃k,i=z1.length+k:=⟨i-z1.length,by omega⟩
   subst hk
   rw[Nat.add_sub_cancel_left]at hi
   cases k with
   | zero =>
    simp only[ydF,yaR.injEq]at hi
    subst hi
    obtain⟨j,e,hj⟩:=h1.names n hn
    exact⟨j,e,by omega⟩
   | succ k =>
    simp only[List.getElem?_cons_succ]at hi
    obtain⟨j,e,hj⟩:=h2.rows k r hi n hn
    exact⟨j,e,by omega⟩
 once n:=by
  have a1:=h1.once n
  have a2:=h2.once n
  have l1:=h1.len
  have l2:=h2.len
  have e:z1++b::z2=z1++([b]++z2):=by simp
  rw[zcV,hw,e,zd7,zd7,zmx]
  simp only[yd4,yd5]
  have q:((n1:Int)==(n:Int))=decide (n1=n):=by
   by_cases c:n1=n
   .subst c;simp
   .have:¬(n1:Int)=(n:Int):=by omega
    rw[decide_eq_false c]
    exact beq_eq_false_iff_ne.2 this
  rw[q]
  by_cases c:n1=n
  .subst c
   rw[if_neg (by omega)]at a1
   rw[if_neg (by omega)]at a2
   have c3:n0<=n1/\n1<n2:=by omega
   rw[if_pos c3]
   simp only[decide_true,if_true]
   omega
  .rw[decide_eq_false c]
   simp only[Bool.false_eq_true,if_false]
   by_cases c1:n0<=n/\n<n1
   .rw[if_pos c1]at a1
    rw[if_neg (by omega)]at a2
    rw[if_pos (by omega)]
    omega
   .rw[if_neg c1]at a1
    by_cases c2:n1+1<=n/\n<n2
    .rw[if_pos c2]at a2
     rw[if_pos (by omega)]
     omega
    .rw[if_neg c2]at a2
     rw[if_neg (by omega)]
     omega
theorem zd8{op o:Int}{b:Nat}(h:op=11\/op=12\/op=13/\o<0):zj (zX op b o)=[(b:Int)]:=by
 unfold zj zX
 simp only
 rw[if_pos h]
theorem zC8{ls:To}{d:Nat}{ws:List W}{acc acc':To}{toks:List Tok}{out:List W}(h:Pr ls d ws acc toks out acc'):∃z,acc'=acc++z/\Inv acc.length acc'.length z out:=by
 induction h with
 | nil d acc=>exact⟨[],by simp,⟨by simp,by simp[zhh],by simp,λn=>by rw[if_neg (by omega)];simp[zhh,zdi]⟩⟩
 | @leaf d w r acc t r' acc' hn hf hr _ ih =>
  obtain⟨z,e,h⟩:=ih
  have en:zhh (zaX w::r')=zhh r':=by rw[zcV,zpO hn,yde]
  exact⟨z,e,⟨h.len,by rw[en];exact h.names,h.rows,λn=>by rw[en];exact h.once n⟩⟩
 | @one d w b r acc tb b' acc1 t r' acc' ho hd hb0 hb _ _ ih1 ih2 =>
  obtain⟨z1,e1,h1⟩:=ih1
  obtain⟨z2,e2,h2⟩:=ih2
  simp only[yab,yac,ybm]at h2
  refine⟨z1++b'::z2,by rw[e2,e1];simp,znO h1 h2 (zd8 ?_)⟩
  rcases ho with h|h|h
  .exact .inl h
  .exact .inr (.inl h)
  .exact .inr (.inr ⟨h.1,by rw[if_pos h.1];omega⟩)
 | @two d w b f r acc tb b' acc1 te e' acc2 t r' acc' ho hoo hd hb0 hb hf _ _ _ ih1 ih2 ih3 =>
  obtain⟨z1,e1,h1⟩:=ih1
  obtain⟨z2,e2,h2⟩:=ih2
  obtain⟨z3,e3,h3⟩:=ih3
  simp only[yab,yac,ybm]at h2 h3
  have k2:=znO h2 h3 (w:=zX 12 acc2.length 0) (zd8 (.inr (.inl rfl)))
  have k1:=znO h1 k2 (w:=zX 12 acc1.length 0) (zd8 (.inr (.inl rfl)))
  have en:∀(a b:Nat),zhh (zX 12 a 0::zX 12 b 0::r')=zhh (zX 13 a b::r'):=λa b=>by
   rw[zcV,zcV,zcV]
   have q1:=zd8 (op:=12) (o:=0) (b:=a) (.inr (.inl rfl))
   have q2:=zd8 (op:=12) (o:=0) (b:=b) (.inr (.inl rfl))
   have q3:zj (zX 13 a b)=[(a:Int),(b:Int)]:=by
    unfold zj zX
    simp only
    rw[if_neg (by omega),if_pos trivial]
   rw[q1,q2,q3]
   simp
  refine⟨z1++b'::(z2++e'::z3),by rw[e3,e2,e1];simp,⟨k1.len,?_,k1.rows,λn=>?_⟩⟩
  .rw[<-en];exact k1.names
  .rw[<-en];exact k1.once n
theorem zu6{ls:To}{row:List W}{acc':To}{toks:List Tok}{out:List W}(h:Pr ls 0 row [] toks out acc'):zb2 (acc'++[out])=.ok ():=by
 obtain⟨z,e,h⟩:=zC8 h
 simp only[yde]at e
 subst e
 simp only[ybm]at h
 refine zrP (by simp) (λi r hi n hn=>?_) λi hi=>?_
 .by_cases c:i<acc'.length
  .rw[yat c]at hi
   obtain⟨j,rfl,hj⟩:=h.rows i r hi n hn
   exact⟨by omega,by omega⟩
  .have hl:i=acc'.length:=by
    have:=(yaq.1 hi).1
    simp at this
    omega
   subst hl
   simp only[yaI (yah _),Nat.sub_self,ydF,yaR.injEq]at hi
   subst hi
   obtain⟨j,rfl,hj⟩:=h.names n hn
   exact⟨by omega,by omega⟩
 .simp at hi
  rw[zd7,zmx,yd4]
  have:=h.once i
  rw[if_pos (by omega)]at this
  omega
theorem zpP{w:W}(h:zbP w=false):zj w=[]:=by
 simp only[zbP,Bool.or_eq_false_iff,decide_eq_false_iff_not]at h
 unfold zj
 rw[if_neg (by omega),if_neg (by omega)]
theorem zrQ{w:W}(h:w.op=11\/w.op=12\/w.op=13/\w.other<0):zj w=[w.body]:=by
 unfold zj
 rw[if_pos h]
theorem zrR{w:W}(h:w.op=13)(ho:0<=w.other):zj w=[w.body,w.other]:=by
 unfold zj
 rw[if_neg (by omega),if_pos h]
def gL(ls:To)(k:Nat):Nat:=(ls.getD k []).length
theorem zu7{B:Nat}{ls:To}(ha:zlS ls){d:Nat}{ws:List W}{acc acc':To}{toks:List Tok}{out:List W}(h:PrB B ls d ws acc toks out acc'):
  out.length+ze5 acc'=ze5 acc+ws.length+zjn (ws.flatMap zj) (zlU (gL ls) ls)/\acc'.length+2*ze5 acc<=acc.length+2*(out.length+ze5 acc'):=by
 have tot:∀{n:Int} {b:List W},ls[n.toNat]?=some b->zlU (gL ls) ls n.toNat=b.length+zjn (b.flatMap zj) (zlU (gL ls) ls):=λ{n b} hb=>by
  rw[zni (gL ls) ha hb]
  have:gL ls n.toNat=b.length:=by unfold gL;rw[ycJ,hb];rfl
  rw[this]
 induction h with
 | nil=>simp[zjn]
 | @leaf d w r acc t r' acc' hn hf hr _ ih =>
  rw[yaa,zpP hn,yde]
  simp only[yac]
  omega
 | @one d w b r acc tb b' acc1 t r' acc' ho hd hb0 hb p1 p2 ih1 ih2 =>
  have e:=tot hb
  rw[yaa,zrQ ho,ze3]
  rw[zcP]at ih2
  have e2:zjn [w.body] (zlU (gL ls) ls)=zlU (gL ls) ls w.body.toNat:=by simp[zjn]
  rw[e2,e]
  simp only[yac,yab,ybm]at *
  omega
 | @two d w b e r acc tb b' acc1 te e' acc2 t r' acc' ho hoo hd hb0 hb he p1 p2 p3 ih1 ih2 ih3 =>
  have q1:=tot hb
  have q2:=tot he
  rw[yaa,zrR ho hoo,ze3]
  rw[zcP]at ih2 ih3
  have e2:zjn [w.body,w.other] (zlU (gL ls) ls)=zlU (gL ls) ls w.body.toNat+zlU (gL ls) ls w.other.toNat:=by simp[zjn]
  rw[e2,q1,q2]
  simp only[yac,yab,ybm]at *
  omega
theorem zoR:∀(ls:To) (k:Nat),k<=ls.length->zbp (gL ls) k=zh5 id (ls.take k)
 | ls,0,_=>by simp[zbp,zh5]
 | ls,k+1,h=>by
  rw[zbp,zoR ls k (by omega),ycP (by omega),zh6]
  have:gL ls k=ls[k].length:=by unfold gL;rw[ycJ,yau (by omega)];rfl
  rw[this]
  simp[zh5]
theorem zrS{B:Nat}{fs:List F}{f:F}(h:zm fs f=.ok ()){toks:List Tok}{ls':To}(hp:zCC B f toks ls'):ze5 ls'=zh5 id f.lists/\ls'.length<=1+2*zh5 id f.lists/\(spT toks).length<=64*zh5 id f.lists:=by
 obtain⟨h0,ha,ht⟩:=zcl (zal h)
 obtain⟨row,out,acc,h1,h2,rfl⟩:=hp
 have e:=ht (gL f.lists)
 rw[zni (gL f.lists) ha h1,zoR _ _ (yah _),ycQ]at e
 have e1:gL f.lists (f.lists.length-1)=row.length:=by unfold gL;rw[ycJ,h1];rfl
 rw[e1]at e
 obtain⟨c1,c2⟩:=zu7 ha h2
 have c3:=zCQ h2
 have r0:ze5 []=0:=rfl
 rw[r0]at c1 c2 c3
 rw[zcP]
 simp only[yab,yac,ybm]at *
 omega
theorem zmy{B:Nat}{gs:List F}:∀(fs:List F),(∀f∈fs,zm gs f=.ok ()/\RgL f.lists/\f.lists.length<=B/\f.name.length<=24/\f.params.length+f.locals.length+zh5 id f.lists<=3000) ->
  ∃toks fs2,PrFsB B fs toks fs2/\(spT toks).length<=200000*fs.length/\∀f'∈fs2,∃f∈fs,∃t ls',zCC B f t ls'/\f'={ f with lists:=ls' }/\ze5 ls'<=3000/\ls'.length<=6001
 | [],_=>⟨[],[],.nil,by simp[spT],λf hf=>by cases hf⟩
 | f::fs,h=>by
  obtain⟨h1,h2,h3,h4,h5⟩:=h f (by simp)
  obtain⟨t1,ls',p1⟩:=zuA h1 h2 h3
  obtain⟨c1,c2,c3⟩:=zrS h1 p1
  obtain⟨t2,fs2,q1,q2,q3⟩:=zmy fs λg hg=>h g (by simp[hg])
  refine⟨zgO f t1++t2,_,.cons p1 q1,?_,λf' hf'=>?_⟩
  .have e:zgO f t1=[zB,zbT,36::f.name]++(zI zb3 f.params++(zkI f.type++(zI zaZ f.locals++(t1++[zf])))):=rfl
   have e1:(spT [zB,zbT,36::f.name]).length=9+f.name.length:=by
    have:spT [zB,zbT,36::f.name]=spT [zB,zbT]++spT [36::f.name]:=by rw[<-zg];rfl
    rw[this,yab]
    have a:(spT [zB,zbT]).length=7:=rfl
    have b:(spT [36::f.name]).length=f.name.length+2:=by simp[spT]
    omega
   have e2:=zjE zb3 f.params (by decide)
   have e3:=zjE zaZ f.locals (by decide)
   have e4:(spT (zkI f.type)).length<=20:=by
    unfold zkI zC
    split
    .decide
    .split<;>decide
   have e5:(spT [zf]).length=2:=rfl
   rw[zg,yab,e,zg,zg,zg,zg,zg]
   simp only[yab,yac]at *
   omega
  .rcases ybD.1 hf' with rfl|hf'
   .exact⟨f,by simp,t1,ls',p1,rfl,by omega,by omega⟩
   .obtain⟨g,hg,r⟩:=q3 f' hf'
    exact⟨g,by simp[hg],r⟩
end Go.Proofs.YtohfclafhegadaaGreatDoor
namespace Go.Proofs.YtohfclafhegadaaGreatDoor
open Go Go.Abs Go.Proofs.YtohfclafhegadaaGreatDoor.Ck
theorem znP{fs:List F}{ls:List Int}{ty d:Int}{lk:zkx}{w:W}(hf:zQ w=true)(hn:zbP w=false)(s:St):zJ fs ls ty d lk (zaX w) s=zJ fs ls ty d lk w s:=by
 obtain⟨op,t,n,body,other,name⟩:=w
 simp only[zbP,Bool.or_eq_false_iff,decide_eq_false_iff_not]at hn
 unfold zQ at hf
 simp only at hf
 by_cases h1:op=1\/op=5
 .rw[if_pos h1]at hf
  rcases h1 with rfl|rfl<;>simp[zJ,zQ,zH,zbO,zaX,zaE]
 .rw[if_neg h1]at hf
  by_cases h4:op=4
  .subst h4
   simp[zJ,zQ,zH,zbO,zaX,zaE]
  .rw[if_neg h4]at hf
   by_cases h8:op=8\/op=9
   .rcases h8 with rfl|rfl<;>simp[zJ,zQ,zH,zbO,zaX,zaE]
   .rw[if_neg h8]at hf
    simp only[Bool.and_eq_true,decide_eq_true_eq]at hf
    rcases(show op=2\/op=3\/op=10\/op=14\/op=15\/op=6\/op=7\/op=16\/op=17\/op=18 by omega)with rfl|rfl|rfl|rfl|rfl|rfl|rfl|rfl|rfl|rfl<;>simp[zJ,zQ,zH,zbO,zaX,zaE]
def zkZ(op:Int)(rb:Res Unit)(ro:Option (Res Unit))(s:St):Res St :=
 if op=13 then(match zW [1] s with
  | .error e=>.error e
  | .ok s1=>match rb with
   | .error e=>.error e
   | .ok _=>match ro with
    | none=>.ok s1
    | some (.ok _)=>.ok s1
    | some (.error e)=>.error e)
 else match rb with
  | .ok _=>.ok s
  | .error e=>.error e
theorem ziF{fs:List F}{ls:List Int}{ty d:Int}{lk:zkx}{w:W}(h:w.op=11\/w.op=12\/w.op=13)(s:St):zJ fs ls ty d lk w s=zkZ w.op (lk w.body (d+1)) (if 0<=w.other then some (lk w.other (d+1))else none) s:=by
 have hf:zQ w=true:=by
  unfold zQ
  rw[if_neg (by omega),if_neg (by omega),if_neg (by omega)]
  simp;omega
 have hr:zH fs ls d w=true:=by
  unfold zH
  rw[if_neg (by omega),if_neg (by omega),if_neg (by omega),if_neg (by omega)]
 unfold zJ zkZ
 rw[if_neg (by simp[hf]),if_neg (by simp[hr])]
 by_cases h13:w.op=13
 .rw[if_neg (by omega),if_pos h13,if_pos h13]
  cases zW [1] s with
  | error e=>rfl
  | ok s1 =>
   simp only
   cases lk w.body (d+1)with
   | error e=>rfl
   | ok u =>
    simp only
    by_cases ho:0<=w.other
    .rw[if_pos ho,if_pos ho]
     cases lk w.other (d+1)<;>rfl
    .rw[if_neg ho,if_neg ho]
 .rw[if_pos (by omega),if_neg h13]
  cases lk w.body (d+1)<;>rfl
theorem zgd{fs:List F}{ls:List Int}{ty d:Int}{lk:zkx}{w:W}(h:w.op=11\/w.op=12\/w.op=13/\w.other<0)(s:St):zJ fs ls ty d lk w s=zkZ w.op (lk w.body (d+1)) none s:=by
 rw[ziF (by omega)]
 by_cases h13:w.op=13
 .rw[if_neg (by omega)]
 .unfold zkZ
  rw[if_neg h13,if_neg h13]
theorem zge{fs:List F}{ls:List Int}{ty d:Int}{lk:zkx}{w:W}(h:w.op=13)(ho:0<=w.other)(s:St):zJ fs ls ty d lk w s=zkZ 13 (lk w.body (d+1)) (some (lk w.other (d+1))) s:=by
 rw[ziF (by omega),if_pos ho,h]
theorem zev{op:Int}{rb:Res Unit}{ro:Option (Res Unit)}{s s':St}(h:zkZ op rb ro s=.ok s'):rb=.ok ():=by
 unfold zkZ at h
 cases rb with
 | ok u=>rfl
 | error e =>
  split at h
  .split at h<;>cases h
  .cases h
theorem ziG{rb r:Res Unit}{s s':St}(h:zkZ 13 rb (some r) s=.ok s'):r=.ok ():=by
 unfold zkZ at h
 rw[if_pos rfl]at h
 cases r with
 | ok u=>rfl
 | error e =>
  split at h
  .cases h
  .split at h<;>cases h
theorem zcy{fs:List F}{ls:List Int}{ty d:Int}{lk:zkx}{w:W}{ws:List W}{s s':St}:zD fs ls ty d lk (w::ws) s=.ok s'↔∃s1,zJ fs ls ty d lk w s=.ok s1/\zD fs ls ty d lk ws s1=.ok s':=by
 rw[zD]
 cases zJ fs ls ty d lk w s with
 | error e=>exact⟨λh=>(by cases h),λ⟨_,h,_⟩=>(by cases h)⟩
 | ok s1=>exact⟨λh=>⟨s1,rfl,h⟩,λ⟨s2,h1,h2⟩=>(by cases h1;exact h2)⟩
theorem zhi{fs:List F}{ls:List Int}{ty:Int}{lists:To}{k:Nat}{a d:Int}:zP fs ls ty lists (k+1) a d=.ok ()↔∃s,zD fs ls ty d (zP fs ls ty lists k) (lists.getD a.toNat []) ⟨[],false⟩=.ok s/\zCr ty d s=.ok ():=by
 rw[zP]
 cases zD fs ls ty d (zP fs ls ty lists k) (lists.getD a.toNat []) ⟨[],false⟩with
 | error e=>exact⟨λh=>(by cases h),λ⟨_,h,_⟩=>(by cases h)⟩
 | ok s1=>exact⟨λh=>⟨s1,rfl,h⟩,λ⟨s2,h1,h2⟩=>(by cases h1;exact h2)⟩
theorem ziH{ls:To}{i:Nat}{b:List W}(h:ls[i]?=some b):ls.getD i []=b:=by rw[ycJ,h];rfl
theorem zyp{fs:List F}{locs:List Int}{ty:Int}{ls fin:To}{d:Nat}{ws:List W}{acc acc':To}{toks:List Tok}{out:List W}(h:Pr ls d ws acc toks out acc'):acc'<+:fin->∀(k:Nat) (deep:Int) (s s':St),zD fs locs ty deep (zP fs locs ty ls k) ws s=.ok s'->zD fs locs ty deep (zP fs locs ty fin k) out s=.ok s':=by
 have key:∀{b b':List W} {acc1:To} {k:Nat} {deep:Int} {n:Int},ls[n.toNat]?=some b->acc1++[b']<+:fin->(∀(k:Nat) (deep:Int) (s s':St),zD fs locs ty deep (zP fs locs ty ls k) b s=.ok s'->zD fs locs ty deep (zP fs locs ty fin k) b' s=.ok s')->zP fs locs ty ls k n deep=.ok ()->zP fs locs ty fin k (acc1.length:Int) deep=.ok ():=by
  intro b b' acc1 k deep n hb hp ih hl
  cases k with
  | zero=>simp[zP]at hl
  | succ k =>
   rw[zhi]at hl ⊢
   obtain⟨s,h1,h2⟩:=hl
   rw[ziH hb]at h1
   rw[ybe,ziH (zbG hp)]
   exact⟨s,ih k deep _ _ h1,h2⟩
 induction h with
 | nil=>intro _ k deep s s' h;exact h
 | leaf hn hf hr _ ih =>
  intro hp k deep s s' h
  rw[zcy]at h ⊢
  obtain⟨s1,h1,h2⟩:=h
  refine⟨s1,?_,ih hp k deep s1 s' h2⟩
  rw[znP hf hn]
  unfold zJ at h1 ⊢
  simp only[zbP,Bool.or_eq_false_iff,decide_eq_false_iff_not]at hn
  have n1:¬(_=_\/_=_):=not_or.2 ⟨hn.1.1,hn.1.2⟩
  rw[if_neg n1,if_neg hn.2]at h1 ⊢
  exact h1
 | @one d w b r acc tb b' acc1 t r' acc' ho hd hb0 hb p1 p2 ih1 ih2 =>
  intro hp k deep s s' h
  rw[zcy]at h ⊢
  obtain⟨s1,h1,h2⟩:=h
  refine⟨s1,?_,ih2 hp k deep s1 s' h2⟩
  rw[zgd ho]at h1
  have hv:(zX w.op acc1.length (if w.op=13 then -1 else 0)).op=11\/(zX w.op acc1.length (if w.op=13 then -1 else 0)).op=12\/(zX w.op acc1.length (if w.op=13 then -1 else 0)).op=13/\(zX w.op acc1.length (if w.op=13 then -1 else 0)).other<0:=by
   simp only[zX]
   rcases ho with e|e|e
   .exact .inl e
   .exact .inr (.inl e)
   .exact .inr (.inr ⟨e.1,by rw[if_pos e.1];omega⟩)
  rw[zgd hv]
  have q:=zev h1
  have hp1:acc1++[b']<+:fin:=(zbr p2).trans hp
  have q2:=key hb hp1 (ih1 ((ydh _ _).trans hp1)) q
  simp only[zX]
  rw[q2]
  rw[q]at h1
  exact h1
 | @two d w b f r acc tb b' acc1 te e' acc2 t r' acc' ho hoo hd hb0 hb hf p1 p2 p3 ih1 ih2 ih3 =>
  intro hp k deep s s' h
  rw[zcy]at h ⊢
  obtain⟨s1,h1,h2⟩:=h
  refine⟨s1,?_,ih3 hp k deep s1 s' h2⟩
  rw[zge ho hoo]at h1
  rw[zge (w:=zX 13 acc1.length acc2.length) rfl (by simp only[zX];omega)]
  have q:=zev h1
  have r1:=ziG h1
  have hp2:acc2++[e']<+:fin:=(zbr p3).trans hp
  have hp1:acc1++[b']<+:fin:=(zbr p2).trans ((ydh _ _).trans hp2)
  have q2:=key hb hp1 (ih1 ((ydh _ _).trans hp1)) q
  have q3:=key hf hp2 (ih2 ((ydh _ _).trans hp2)) r1
  simp only[zX]
  rw[q2,q3]
  rw[q,r1]at h1
  exact h1
end Go.Proofs.YtohfclafhegadaaGreatDoor
namespace Go.Proofs.YtohfclafhegadaaGreatDoor
open Go Go.Abs Go.Proofs.YtohfclafhegadaaGreatDoor.Ck
theorem znQ{fs:List F}{ls:List Int}{ty d:Int}{lk lk':zkx}{w:W}{s s':St}(hl:∀m∈zj w,lk m (d+1)=.ok ()->lk' m (d+1)=.ok ())(h:zJ fs ls ty d lk w s=.ok s'):zJ fs ls ty d lk' w s=.ok s':=by
 by_cases h2:w.op=13/\0<=w.other
 .have e:zj w=[w.body,w.other]:=by unfold zj;rw[if_neg (by omega),if_pos h2.1]
  rw[e]at hl
  rw[zge h2.1 h2.2]at h ⊢
  have q:=zev h
  have r:=ziG h
  rw[hl _ (by simp) q,hl _ (by simp) r]
  rw[q,r]at h
  exact h
 .by_cases h1:w.op=11\/w.op=12\/w.op=13/\w.other<0
  .have e:zj w=[w.body]:=by unfold zj;rw[if_pos h1]
   rw[e]at hl
   rw[zgd h1]at h ⊢
   have q:=zev h
   rw[hl _ (by simp) q]
   rw[q]at h
   exact h
  .unfold zJ at h ⊢
   rw[if_neg (show ¬(w.op=11\/w.op=12)by omega),if_neg (show ¬w.op=13 by omega)]at h ⊢
   exact h
theorem zgG{fs:List F}{ls:List Int}{ty d:Int}{lk lk':zkx}:∀(ws:List W) (s s':St),(∀w∈ws,∀m∈zj w,lk m (d+1)=.ok ()->lk' m (d+1)=.ok ())->zD fs ls ty d lk ws s=.ok s'->zD fs ls ty d lk' ws s=.ok s'
 | [],s,s',_,h=>h
 | w::ws,s,s',hl,h=>by
  rw[zcy]at h ⊢
  obtain⟨s1,h1,h2⟩:=h
  exact⟨s1,znQ (hl w (by simp)) h1,zgG ws s1 s' (λw hw=>hl w (by simp[hw])) h2⟩
theorem zjR{fs:List F}{ls:List Int}{ty:Int}{lists:To}(ha:zlS lists):∀(K2 K:Nat) (a d:Int),0<=a->a.toNat<K2->zP fs ls ty lists K a d=.ok ()->zP fs ls ty lists K2 a d=.ok ()
 | 0,_,a,d,_,h,_=>by omega
 | K2+1,0,a,d,_,_,h=>by simp[zP]at h
 | K2+1,K+1,a,d,h0,h1,h=>by
  rw[zhi]at h ⊢
  obtain⟨s,h2,h3⟩:=h
  refine⟨s,zgG _ _ _ (λw hw m hm hk=>?_) h2,h3⟩
  cases hr:lists[a.toNat]? with
  | none=>rw[ycJ,hr]at hw;simp at hw
  | some row =>
   rw[ziH hr]at hw
   have hq:=ha a.toNat row hr m (ycZ.2 ⟨w,hw,hm⟩)
   exact zjR ha K2 K m (d+1) hq.1 (by omega) hk
theorem znR{fs fs':List F}(h:zaY fs'=zaY fs){ls:List Int}{ty d:Int}{lk:zkx}(w:W)(s:St):zJ fs' ls ty d lk w s=zJ fs ls ty d lk w s:=by
 have e1:zH fs' ls d w=zH fs ls d w:=by unfold zH;rw[h]
 have e2:zbO fs' ls w s=zbO fs ls w s:=by unfold zbO;rw[h]
 unfold zJ
 rw[e1,e2]
theorem zgH{fs fs':List F}(h:zaY fs'=zaY fs){ls:List Int}{ty d:Int}{lk:zkx}:∀(ws:List W) (s:St),zD fs' ls ty d lk ws s=zD fs ls ty d lk ws s
 | [],s=>rfl
 | w::ws,s=>by
  rw[zD,zD,znR h]
  cases zJ fs ls ty d lk w s with
  | error e=>rfl
  | ok s1=>exact zgH h ws s1
theorem zjS{fs fs':List F}(h:zaY fs'=zaY fs){ls:List Int}{ty:Int}{lists:To}:∀(k:Nat),zP fs' ls ty lists k=zP fs ls ty lists k
 | 0=>rfl
 | k+1=>by
  funext a d
  rw[zP,zP,zjS h k,zgH h]
theorem zi7{fs fs':List F}(h:zaY fs'=zaY fs)(f:F):zm fs' f=zm fs f:=by
 unfold zm
 rw[zjS h]
theorem zmz{fs:List F}{f:F}(h:zm fs f=.ok ()){toks:List Tok}{ls':To}(hp:PrF f toks ls'):zm fs { f with lists:=ls' }=.ok ():=by
 obtain⟨row,out,acc,h1,h2,rfl⟩:=hp
 have hl:=zal h
 have hl':=zu6 h2
 obtain⟨_,ha',_⟩:=zcl hl'
 unfold zm at h ⊢
 split at h
 .cases h
 rename_i hb
 rw[if_neg hb]
 rw[hl]at h
 simp only at h ⊢
 rw[hl']
 simp only
 obtain⟨k,hk⟩:∃k,f.lists.length=k+1:=⟨f.lists.length-1,by have:=(yaq.1 h1).1;omega⟩
 have e:((f.lists.length:Int)-1).toNat=f.lists.length-1:=by omega
 rw[hk]at h
 rw[zhi]at h
 obtain⟨s,g1,g2⟩:=h
 rw[<-hk,e,ziH h1]at g1
 have g3:=zyp (fin:=acc++[out]) h2 (ydh _ _) k 0 _ _ g1
 have e2:(((acc++[out]).length:Int)-1)=(acc.length:Int):=by simp
 have g4:zP fs (f.params++f.locals) f.type (acc++[out]) (k+1) (((acc++[out]).length:Int)-1) 0=.ok ():=by
  rw[zhi]
  refine⟨s,?_,g2⟩
  rw[e2,ybe,ziH (zbG (yd6 _))]
  exact g3
 exact zjR ha' _ _ _ _ (by rw[e2];omega) (by rw[e2];simp) g4
theorem zd9{fs:List F}:∀{r:List F},(∀f∈r,zm fs f=.ok ())->zN fs r=.ok ()
 | [],_=>rfl
 | f::r,h=>by
  rw[zN,h f (by simp)]
  exact zd9 λg hg=>h g (by simp[hg])
theorem zk0{fs fs':List F}{toks:List Tok}(h:zpY fs toks fs'):fs'.length=fs.length/\∀(i:Nat) (f':F),fs'[i]?=some f'->∃f t ls',fs[i]?=some f/\PrF f t ls'/\f'={ f with lists:=ls' }:=by
 induction h with
 | nil=>exact⟨rfl,λi f' h=>by simp at h⟩
 | cons p _ ih =>
  refine⟨by simp[ih.1],λi f' h=>?_⟩
  cases i with
  | zero =>
   simp only[ydF,yaR.injEq]at h
   exact⟨_,_,_,rfl,p,h.symm⟩
  | succ i=>simpa using ih.2 i f' (by simpa using h)
theorem zrT{fs fs':List F}{toks:List Tok}(h:zpY fs toks fs'):zaY fs'=zaY fs:=by
 obtain⟨h1,h2⟩:=zk0 h
 have key:∀i:Nat,(fs'[i]?).map (λf=>(f.params,f.type))=(fs[i]?).map λf=>(f.params,f.type):=λi=>by
  cases hi:fs'[i]? with
  | none =>
   rw[yd7]at hi
   rw[yb3 (by omega)]
  | some f' =>
   obtain⟨f,t,ls',q1,q2,rfl⟩:=h2 i f' hi
   rw[q1];rfl
 funext n
 unfold zaY
 simp only[key]
theorem zrU{m:M}(h:zav m=.ok ()){toks:List Tok}{fs':List F}(hp:zpY m.funcs toks fs'):zav ⟨fs',m.memory,m.main⟩=.ok ():=by
 have hv:=zbU h
 obtain⟨h1,h2⟩:=zk0 hp
 have hh:=zrT hp
 have hall:zN fs' fs'=.ok ():=zd9 λf' hf'=>by
  obtain⟨i,hi,e⟩:=ya9 hf'
  obtain⟨f,t,ls',q1,q2,q3⟩:=h2 i f' (by rw[yau hi,e])
  subst q3
  rw[zi7 hh]
  exact zmz (hv f (ycW q1)) q2
 have hm:zfy ⟨fs',m.memory,m.main⟩=zfy m:=by
  unfold zfy
  simp only
  cases hi:fs'[m.main.toNat]? with
  | none =>
   rw[yd7]at hi
   rw[yb3 (by omega)]
  | some f' =>
   obtain⟨f,t,ls',q1,q2,rfl⟩:=h2 _ f' hi
   rw[q1]
 unfold zav at h ⊢
 split at h
 .cases h
 rename_i hb
 rw[if_neg hb]
 simp only
 rw[hall]
 simp only
 rw[hm]
 split at h
 .cases h
 .exact h
inductive EvR{α:Type}(f f':F):Ev α->Ev α->Prop
 | ok (a x r):r.fn=f->EvR f f' (.ok a x r) (.ok a x { r with fn:=f' })
 | over (s c x):EvR f f' (.over s c x) (.over s c x)
 | bad:EvR f f' .bad .bad
def Im(f f':F):Prop:=∃t ls',PrF f t ls'/\f'={ f with lists:=ls' }
def Lk(f f':F)(a a':Int):Prop:=∃d b acc toks b' acc1,0<=a/\f.lists[a.toNat]?=some b/\Pr f.lists d b acc toks b' acc1/\a'=acc1.length/\acc1++[b']<+:f'.lists
def zeO(rec rec':zfb):Prop:=∀(f f':F),Im f f'->∀(x:zap) (r:Fr) (a a' deep:Int),r.fn=f->Lk f f' a a'->EvR f f' (rec x r a deep) (rec' x { r with fn:=f' } a' deep)
theorem Im.root{f f':F}(h:Im f f'):Lk f f' ((f.lists.length:Int)-1) ((f'.lists.length:Int)-1):=by
 obtain⟨t,ls',⟨row,out,acc,h1,h2,rfl⟩,rfl⟩:=h
 have hl:=(yaq.1 h1).1
 exact⟨0,row,[],t,out,acc,by omega,by rw[show((f.lists.length:Int)-1).toNat=f.lists.length-1 by omega];exact h1,h2,by simp,yd6 _⟩
theorem Im.same{f f':F}(h:Im f f'):f'.type=f.type/\f'.locals=f.locals/\f'.params=f.params:=by
 obtain⟨_,_,_,rfl⟩:=h
 exact⟨rfl,rfl,rfl⟩
theorem zau{α:Type}{R:Ev α->Ev α->Prop}(hb:R .bad .bad){g g':F}{r:Fr}(hr:r.fn=g){k k':Int->Fr->Ev α}(h:∀v r,r.fn=g->R (k v r) (k' v { r with fn:=g' })):R (zbQ r k) (zbQ { r with fn:=g' } k'):=by
 unfold zbQ
 simp only
 cases r.stack.getLast? with
 | none=>exact hb
 | some v=>exact h v { r with stack:=r.stack.dropLast } hr
theorem zmA{α:Type}{f f':F}{x:zap}{a n:Int}{k k':List UInt8->Ev α}(h:∀l,EvR f f' (k l) (k' l)):EvR f f' (zix x a n k) (zix x a n k'):=by
 unfold zix
 split
 .exact .bad
 .split
  .exact .over ..
  .exact h _
theorem zmB{rec rec':zfb}(hs:zeO rec rec'){g g' f f':F}(hg:Im g g'){r:Fr}(hr:r.fn=f)(x:zap)(args:List Int):EvR f f' (zbW rec x g args r) (zbW rec' x g' args { r with fn:=f' }):=by
 obtain⟨e1,e2,e3⟩:=hg.same
 unfold zbW
 rw[e1,e2]
 split
 .exact .over ..
 .have h:=hs g g' hg { x with calls:=x.calls+1 } ⟨g,args++yaj g.locals.length 0,[],0⟩ _ _ 0 rfl hg.root
  revert h
  generalize rec { x with calls:=x.calls+1 } ⟨g,args++yaj g.locals.length 0,[],0⟩ ((g.lists.length:Int)-1) 0=u
  generalize rec' { x with calls:=x.calls+1 } ⟨g',args++yaj g.locals.length 0,[],0⟩ ((g'.lists.length:Int)-1) 0=u'
  intro h
  cases h with
  | bad=>exact .bad
  | over s c x=>exact .over ..
  | ok o x1 r1 h1 =>
   simp only
   split
   .exact zau .bad h1 λv r2 _=>.ok _ _ _ hr
   .exact .ok _ _ _ hr
section
variable {fs fs' : List F} {rec rec' : zfb} {f f' : F}
def Ims(fs fs':List F):Prop:=fs'.length=fs.length/\∀(i:Nat) (g:F),fs[i]?=some g->∃g',fs'[i]?=some g'/\Im g g'
theorem znS(hs:zeO rec rec')(hf:Ims fs fs'){r:Fr}(hr:r.fn=f)(x:zap)(n:Int):EvR f f' (z9 fs rec x r n) (z9 fs' rec' x { r with fn:=f' } n):=by
 unfold z9
 split
 .cases x.input with
  | nil=>exact .ok () x (r.push 0) hr
  | cons v l=>exact .ok () _ (r.push v) hr
 .split
  .exact zau .bad hr λv r2 h2=>.ok _ _ _ h2
  .split
   .exact zau .bad hr λv r2 h2=>.over ..
   .split
    .exact .bad
    .cases hg:fs[(n-3).toNat]? with
     | none =>
      rw[yd7]at hg
      rw[yb3 (by rw[hf.1];exact hg)]
      exact .bad
     | some g =>
      obtain⟨g',hg',im⟩:=hf.2 _ g hg
      rw[hg']
      obtain⟨e1,e2,e3⟩:=im.same
      simp only
      rw[e1,e3]
      split
      .exact .bad
      .have h:=zmB (f:=f) (f':=f') hs im (r:={ r with stack:=r.stack.take (r.stack.length-g.params.length) }) hr x (r.stack.drop (r.stack.length-g.params.length))
       revert h
       generalize zbW rec x g (r.stack.drop (r.stack.length-g.params.length)) { r with stack:=r.stack.take (r.stack.length-g.params.length) }=u
       generalize hu':zbW rec' x g' (r.stack.drop (r.stack.length-g.params.length)) { { r with stack:=r.stack.take (r.stack.length-g.params.length) }with fn:=f' }=u'
       intro h
       cases h with
       | bad=>exact .bad
       | over s c x=>exact .over ..
       | ok v x1 r1 h1 =>
        simp only
        split
        .exact .ok _ _ (r1.push v) h1
        .exact .ok _ _ r1 h1
theorem zrV(hs:zeO rec rec')(hf:Ims fs fs'){r:Fr}(hr:r.fn=f)(x:zap){w:W}(hw:zQ w=true)(hn:zbP w=false):EvR f f' (zaa fs rec w x r) (zaa fs' rec' (zaX w) x { r with fn:=f' }):=by
 obtain⟨op,t,n,body,other,name⟩:=w
 simp only[zbP,Bool.or_eq_false_iff,decide_eq_false_iff_not]at hn
 have hop:1<=op/\op<=18:=by
  unfold zQ at hw
  simp only at hw
  split at hw
  .omega
  .split at hw
   .omega
   .split at hw
    .omega
    .simpa using hw
 rcases(show op=1\/op=2\/op=3\/op=4\/op=5\/op=6\/op=7\/op=8\/op=9\/op=10\/op=14\/op=15\/op=16\/op=17\/op=18 by omega)with rfl|rfl|rfl|rfl|rfl|rfl|rfl|rfl|rfl|rfl|rfl|rfl|rfl|rfl|rfl<;>simp[zaa,zaX,zaE]
 .exact .ok _ _ (r.push n) hr
 .split
  .exact .bad
  .cases r.locals[n.toNat]? with
   | none=>exact .bad
   | some v=>exact .ok _ _ (r.push v) hr
 .split
  .exact .bad
  .exact zau .bad hr λv r2 h2=>.ok _ _ { r2 with locals:=r2.locals.set n.toNat v } h2
 .refine zau .bad hr λb r2 h2=>zau .bad h2 λa r3 h3=>?_
  split
  .exact .ok _ _ (r3.push _) h3
  .exact .over ..
 .exact zau .bad hr λv r2 h2=>.ok _ _ (r2.push _) h2
 .exact zau .bad hr λv r2 h2=>.ok _ _ (r2.push _) h2
 .exact .ok _ _ r hr
 .exact zau .bad hr λa r2 h2=>zmA λl=>.ok _ _ (r2.push _) h2
 .exact zau .bad hr λv r2 h2=>zau .bad h2 λa r3 h3=>zmA λl=>.ok _ _ r3 h3
 .exact znS hs hf hr x n
 .exact .ok _ _ r hr
 .exact .ok _ _ r hr
 .exact .ok _ _ r hr
 .exact .over ..
 .exact zau .bad hr λv r2 h2=>.ok _ _ r2 h2
theorem zyq(im:Im f f'){r:Fr}(hr:r.fn=f)(x:zap)(deep:Int){w:W}(hop:w.op=14\/w.op=15\/w.op=16):EvR f f' (zgS w deep x r) (zgS (zaX w) deep x { r with fn:=f' }):=by
 obtain⟨e1,_,_⟩:=im.same
 have go:∀(n:Int) (r:Fr),r.fn=f->EvR f f' (if n=deep/\r.fn.type≠0 then zbQ r λv r=>Ev.ok n x { r with result:=v }else .ok n x r) (if n=deep/\f'.type≠0 then zbQ { r with fn:=f' } λv r=>Ev.ok n x { r with result:=v }else .ok n x { r with fn:=f' }):=λn r hr=>by
  rw[e1,hr]
  split
  .exact zau .bad hr λv r2 h2=>.ok _ _ { r2 with result:=v } h2
  .exact .ok _ _ r hr
 obtain⟨op,t,n,body,other,name⟩:=w
 simp only at hop
 rcases hop with rfl|rfl|rfl
 .have:=go n r hr
  simpa [zgS,zaX,zaE]using this
 .have:=zau (R:=EvR f f') .bad hr (k:=λc r=>if c=0 then Ev.ok (-1) x r else(if n=deep/\r.fn.type≠0 then zbQ r λv r=>Ev.ok n x { r with result:=v }else .ok n x r))
   (k':=λc r=>if c=0 then Ev.ok (-1) x r else(if n=deep/\r.fn.type≠0 then zbQ r λv r=>Ev.ok n x { r with result:=v }else .ok n x r)) λc r2 h2=>by
    simp only
    split
    .exact .ok _ _ r2 h2
    .exact go n r2 h2
  simpa [zgS,zaX,zaE]using this
 .have:=go deep r hr
  simpa [zgS,zaX,zaE]using this
theorem zoS(hs:zeO rec rec')(im:Im f f'){a a':Int}(hl:Lk f f' a a')(b:Bool)(deep:Int):∀(j:Nat) (x:zap) (r:Fr),r.fn=f->EvR f f' (zcp rec b a deep j x r) (zcp rec' b a' deep j x { r with fn:=f' })
 | 0,x,r,hr=>.bad
 | j+1,x,r,hr=>by
  rw[zcp,zcp]
  have h:=hs f f' im x r a a' deep hr hl
  revert h
  generalize rec x r a deep=u
  generalize rec' x { r with fn:=f' } a' deep=u'
  intro h
  cases h with
  | bad=>exact .bad
  | over s c x=>exact .over ..
  | ok o x1 r1 h1 =>
   simp only
   split
   .exact zoS hs im hl b deep j x1 r1 h1
   .exact .ok _ _ r1 h1
end
section
variable {fs fs' : List F} {rec rec' : zfb} {f f' : F}
theorem zrW(hs:zeO rec rec')(im:Im f f'){a a':Int}(h:(a<0/\a'<0)\/Lk f f' a a')(b:Bool)(deep:Int)(k:Nat)(x:zap){r:Fr}(hr:r.fn=f):
  EvR f f' (if a<0 then Ev.ok (-1) x r else zcp rec b a deep k x r) (if a'<0 then Ev.ok (-1) x { r with fn:=f' }else zcp rec' b a' deep k x { r with fn:=f' }):=by
 rcases h with ⟨h1,h2⟩|h
 .rw[if_pos h1,if_pos h2]
  exact .ok _ _ r hr
 .have h1:¬a<0:=by obtain⟨_,_,_,_,_,_,h1,_⟩:=h;omega
  have h2:¬a'<0:=by obtain⟨_,_,_,_,_,_,_,_,_,h2,_⟩:=h;omega
  rw[if_neg h1,if_neg h2]
  exact zoS hs im h b deep k x r hr
theorem zpQ(hs:zeO rec rec')(im:Im f f'){w w':W}(ho:w'.op=w.op)(hb:Lk f f' w.body w'.body)(hoth:w.op=13->(w.other<0/\w'.other<0)\/Lk f f' w.other w'.other)(k:Nat)(deep:Int)(x:zap){r:Fr}(hr:r.fn=f):
  EvR f f' (zaB rec k w deep x r) (zaB rec' k w' deep x { r with fn:=f' }):=by
 unfold zaB
 simp only[ho]
 by_cases h13:w.op=13
 .rw[if_pos h13,if_pos h13]
  refine zau (R:=EvR f f') .bad hr λc r2 h2=>?_
  by_cases hc:c=0
  .simp only[hc,if_true]
   exact zrW hs im (hoth h13) _ deep k x h2
  .simp only[hc,if_false]
   exact zrW hs im (.inr hb) _ deep k x h2
 .rw[if_neg h13,if_neg h13]
  exact zrW hs im (.inr hb) _ deep k x hr
theorem zrX(hs:zeO rec rec')(hf:Ims fs fs')(im:Im f f'){w:W}(hw:zQ w=true)(hn:zbP w=false)(k:Nat)(deep:Int)(x:zap){r:Fr}(hr:r.fn=f):EvR f f' (zbX fs rec k deep w x r) (zbX fs' rec' k deep (zaX w) x { r with fn:=f' }):=by
 have hn':=hn
 simp only[zbP,Bool.or_eq_false_iff,decide_eq_false_iff_not]at hn'
 have e:(zaX w).op=w.op:=rfl
 unfold zbX
 rw[e,if_neg (show ¬(w.op=11\/w.op=12\/w.op=13)by omega),if_neg (show ¬(w.op=11\/w.op=12\/w.op=13)by omega)]
 by_cases ho:w.op=14\/w.op=15\/w.op=16
 .rw[if_pos ho,if_pos ho]
  exact zyq im hr x deep ho
 .rw[if_neg ho,if_neg ho]
  have h:=zrV (f:=f) (f':=f') hs hf hr x hw hn
  revert h
  generalize zaa fs rec w x r=u
  generalize zaa fs' rec' (zaX w) x { r with fn:=f' }=u'
  intro h
  cases h with
  | bad=>exact .bad
  | over s c x=>exact .over ..
  | ok v x1 r1 h1=>exact .ok _ _ r1 h1
theorem zmC(hs:zeO rec rec')(im:Im f f'){w w':W}(hw:w.op=11\/w.op=12\/w.op=13)(ho:w'.op=w.op)(hb:Lk f f' w.body w'.body)(hoth:w.op=13->(w.other<0/\w'.other<0)\/Lk f f' w.other w'.other)(k:Nat)(deep:Int)(x:zap){r:Fr}(hr:r.fn=f):
  EvR f f' (zbX fs rec k deep w x r) (zbX fs' rec' k deep w' x { r with fn:=f' }):=by
 unfold zbX
 rw[ho,if_pos hw,if_pos hw]
 exact zpQ hs im ho hb hoth k _ x hr
theorem zk1{w w':W}{ws out:List W}{k:Nat}{deep:Int}{height:Nat}(hw:∀(x:zap) (r:Fr),r.fn=f->EvR f f' (zbX fs rec k deep w x r) (zbX fs' rec' k deep w' x { r with fn:=f' }))
  (ih:∀(x:zap) (r:Fr),r.fn=f->EvR f f' (zan fs rec k deep height ws x r) (zan fs' rec' k deep height out x { r with fn:=f' })) (x:zap) {r:Fr} (hr:r.fn=f) :
  EvR f f' (zan fs rec k deep height (w::ws) x r) (zan fs' rec' k deep height (w'::out) x { r with fn:=f' }):=by
 rw[zan,zan]
 by_cases hx:x.steps<1
 .rw[if_pos hx,if_pos hx]
  exact .over ..
 .rw[if_neg hx,if_neg hx]
  have h:=hw { x with steps:=x.steps-1 } r hr
  revert h
  generalize zbX fs rec k deep w { x with steps:=x.steps-1 } r=u
  generalize zbX fs' rec' k deep w' { x with steps:=x.steps-1 } { r with fn:=f' }=u'
  intro h
  cases h with
  | bad=>exact .bad
  | over s c x=>exact .over ..
  | ok o x1 r1 h1 =>
   simp only
   split
   .exact ih x1 r1 h1
   .split
    .exact .bad
    .exact .ok _ _ { r1 with stack:=r1.stack.take height } h1
theorem zpR(hs:zeO rec rec')(hf:Ims fs fs')(im:Im f f'){d:Nat}{ws:List W}{acc acc':To}{toks:List Tok}{out:List W}(h:Pr f.lists d ws acc toks out acc'):acc'<+:f'.lists->∀(k:Nat) (deep:Int) (height:Nat) (x:zap) (r:Fr),r.fn=f ->
  EvR f f' (zan fs rec k deep height ws x r) (zan fs' rec' k deep height out x { r with fn:=f' }):=by
 generalize hls:f.lists=ls at h
 induction h with
 | nil=>intro _ k deep height x r hr;exact .ok _ _ r hr
 | leaf hn hw hrg _ ih =>
  intro hp k deep height x r hr
  exact zk1 (λx r hr=>zrX hs hf im hw hn k deep x hr) (λx r hr=>ih hp k deep height x r hr) x hr
 | @one d w b r0 acc tb b' acc1 t r' acc' ho hd hb0 hb p1 p2 ih1 ih2 =>
  intro hp k deep height x r hr
  have hp1:acc1++[b']<+:f'.lists:=(zbr p2).trans hp
  have hlk:Lk f f' w.body (acc1.length:Int):=⟨d+1,b,acc,tb,b',acc1,hb0,by rw[hls];exact hb,by rw[hls];exact p1,rfl,hp1⟩
  have hop:w.op=11\/w.op=12\/w.op=13:=by omega
  refine zk1 (λx r hr=>zmC (w':=zX w.op acc1.length (if w.op=13 then -1 else 0)) hs im hop rfl (by simpa [zX]using hlk) (λh13=>?_) k deep x hr) (λx r hr=>ih2 hp k deep height x r hr) x hr
  rcases ho with e|e|e
  .omega
  .omega
  .exact .inl ⟨e.2,by simp[zX,e.1]⟩
 | @two d w b e0 r0 acc tb b' acc1 te e' acc2 t r' acc' ho hoo hd hb0 hb hf0 p1 p2 p3 ih1 ih2 ih3 =>
  intro hp k deep height x r hr
  have hp2:acc2++[e']<+:f'.lists:=(zbr p3).trans hp
  have hp1:acc1++[b']<+:f'.lists:=(zbr p2).trans ((ydh _ _).trans hp2)
  have hlk:Lk f f' w.body (acc1.length:Int):=⟨d+1,b,acc,tb,b',acc1,hb0,by rw[hls];exact hb,by rw[hls];exact p1,rfl,hp1⟩
  have hlk2:Lk f f' w.other (acc2.length:Int):=⟨d+1,e0,_,te,e',acc2,hoo,by rw[hls];exact hf0,by rw[hls];exact p2,rfl,hp2⟩
  exact zk1 (λx r hr=>zmC hs im (.inr (.inr ho)) (by simp[zX,ho]) (by simpa [zX]using hlk) (λ_=>.inr (by simpa [zX]using hlk2)) k deep x hr) (λx r hr=>ih3 hp k deep height x r hr) x hr
end
theorem zoT{fs fs':List F}(hf:Ims fs fs'):∀k,zeO (zkV fs k) (zkV fs' k)
 | 0=>λ_ _ _ _ _ _ _ _ _ _=>.bad
 | k+1=>λf f' im x r a a' deep hr hl=>by
  obtain⟨d,b,acc,toks,b',acc1,h0,h1,h2,rfl,h3⟩:=hl
  rw[zkV,zkV,if_neg (by omega),if_neg (by omega),hr,h1,ybe,zbG h3]
  simp only
  exact zpR (zoT hf k) hf im h2 ((ydh _ _).trans h3) k deep r.stack.length x r hr
theorem zu8{fs fs':List F}{toks:List Tok}(h:zpY fs toks fs'):Ims fs fs':=by
 obtain⟨h1,h2⟩:=zk0 h
 refine⟨h1,λi g hg=>?_⟩
 have hi:=(yaq.1 hg).1
 have h3:fs'[i]?=some (fs'[i]'(by omega)):=yau _
 obtain⟨f,t,ls',q1,q2,q3⟩:=h2 i _ h3
 obtain rfl:=yaR.inj (hg.symm.trans q1)
 exact⟨_,h3,t,ls',q2,q3⟩
theorem zyr{m:M}{toks:List Tok}{fs':List F}(h:zpY m.funcs toks fs')(input:List Int)(steps:Int)(k:Nat):zp0 ⟨fs',m.memory,m.main⟩ input steps k=zp0 m input steps k:=by
 have hf:=zu8 h
 unfold zp0
 simp only
 by_cases hm:m.main<0
 .rw[if_pos hm,if_pos hm]
 .rw[if_neg hm,if_neg hm]
  cases hg:m.funcs[m.main.toNat]? with
  | none =>
   rw[yd7]at hg
   rw[yb3 (by rw[hf.1];exact hg)]
  | some g =>
   obtain⟨g',hg',im⟩:=hf.2 _ g hg
   rw[hg']
   simp only
   have q:=zmB (f:=g) (f':=g') (zoT hf k) im (r:=⟨g,[],[],0⟩) rfl ⟨input,steps,yaj m.memory.toNat 0,[],0⟩ []
   revert q
   generalize zbW (zkV m.funcs k) ⟨input,steps,yaj m.memory.toNat 0,[],0⟩ g [] ⟨g,[],[],0⟩=u
   generalize hu:zbW (zkV fs' k) ⟨input,steps,yaj m.memory.toNat 0,[],0⟩ g' [] ⟨g',[],[],0⟩=u'
   intro q
   cases q with
   | bad=>rfl
   | over s c x=>rfl
   | ok v x r _=>rfl
end Go.Proofs.YtohfclafhegadaaGreatDoor




namespace Go.Proofs.YtohfclafhegadaaGreatDoor
open Go Go.Abs
theorem zrY{w:W}(hf:zQ w=true)(hn:zbP w=false):zQ (zaX w)=true/\zcN (zaX w)=zcN w/\zaX (zaX w)=zaX w:=by
 obtain⟨op,ty,n,body,other,name⟩:=w
 simp only[zbP,Bool.or_eq_false_iff,decide_eq_false_iff_not]at hn
 by_cases h1:op=1\/op=5
 .rcases h1 with rfl|rfl<;>simpa [zQ,zcN,zE,zaX,zaE]using hf
 .by_cases h4:op=4
  .subst h4
   simpa [zQ,zcN,zE,zaX,zaE]using hf
  .by_cases h8:op=8\/op=9
   .rcases h8 with rfl|rfl<;>simpa [zQ,zcN,zE,zaX,zaE]using hf
   .have hf':=hf
    unfold zQ at hf'
    simp only at hf'
    rw[if_neg h1,if_neg h4,if_neg h8]at hf'
    simp only[Bool.and_eq_true,decide_eq_true_eq]at hf'
    rcases(show op=2\/op=3\/op=10\/op=14\/op=15\/op=6\/op=7\/op=16\/op=17\/op=18 by omega)with rfl|rfl|rfl|rfl|rfl|rfl|rfl|rfl|rfl|rfl<;>simp[zQ,zcN,zE,zaX,zaE]
theorem zrZ{w:W}(h:RgW w):RgW (zaX w):=by
 have h1:=h.1
 have h2:=h.2
 unfold RgW zaX
 simp only
 split
 .exact h
 .omega
theorem zys{ls fin:To}{d:Nat}{ws:List W}{acc acc':To}{toks:List Tok}{out:List W}(h:Pr ls d ws acc toks out acc'):acc'<+:fin->Pr fin d out acc toks out acc':=by
 induction h with
 | nil d acc=>intro _;exact .nil d acc
 | leaf hn hf hr _ ih =>
  intro hp
  obtain⟨e1,e2,e3⟩:=zrY hf hn
  have q:=PrB.leaf (w:=zaX _) hn e1 (zrZ hr) (ih hp)
  rw[e2,e3]at q
  exact q
 | @one d w b r acc tb b' acc1 t r' acc' ho hd hb0 hb p1 p2 ih1 ih2 =>
  intro hp
  have hp1:acc1++[b']<+:fin:=(zbr p2).trans hp
  have hv:(zX w.op acc1.length (if w.op=13 then -1 else 0)).op=11\/(zX w.op acc1.length (if w.op=13 then -1 else 0)).op=12\/(zX w.op acc1.length (if w.op=13 then -1 else 0)).op=13/\(zX w.op acc1.length (if w.op=13 then -1 else 0)).other<0:=by
   simp only[zX]
   rcases ho with e|e|e
   .exact .inl e
   .exact .inr (.inl e)
   .exact .inr (.inr ⟨e.1,by rw[if_pos e.1];omega⟩)
  exact PrB.one (w:=zX w.op acc1.length (if w.op=13 then -1 else 0)) hv hd (by simp[zX]) (by simpa [zX]using zbG hp1) (ih1 ((ydh _ _).trans hp1)) (ih2 hp)
 | @two d w b f r acc tb b' acc1 te e' acc2 t r' acc' ho hoo hd hb0 hb hf p1 p2 p3 ih1 ih2 ih3 =>
  intro hp
  have hp2:acc2++[e']<+:fin:=(zbr p3).trans hp
  have hp1:acc1++[b']<+:fin:=(zbr p2).trans ((ydh _ _).trans hp2)
  exact PrB.two (w:=zX 13 acc1.length acc2.length) rfl (by simp[zX]) hd (by simp[zX]) (by simpa [zX]using zbG hp1) (by simpa [zX]using zbG hp2) (ih1 ((ydh _ _).trans hp1)) (ih2 ((ydh _ _).trans hp2)) (ih3 hp)
theorem zu9{f:F}{toks:List Tok}{ls':To}(h:PrF f toks ls'):PrF { f with lists:=ls' } toks ls':=by
 obtain⟨row,out,acc,h1,h2,rfl⟩:=h
 exact⟨out,out,acc,by simp,zys h2 (ydh _ _),rfl⟩
theorem zr0{fs fs':List F}{toks:List Tok}(h:zpY fs toks fs'):zpY fs' toks fs':=by
 induction h with
 | nil=>exact .nil
 | cons p _ ih=>exact .cons (zu9 p) ih
theorem zFC{gs:List F}{f:F}(h:zm gs f=.ok ())(ht:zh3 24 f.name=true):Pf 24 f:=by
 unfold zm at h
 split at h
 .cases h
 rename_i hb
 simp only[Bool.not_eq_false,Bool.and_eq_true,List.all_append,decide_eq_true_eq]at hb
 obtain⟨⟨⟨h1,h2⟩,h3⟩,h4⟩:=hb
 have key:∀l:List Int,l.all zT=true->∀t∈l,t=1\/t=2:=λl hl x hx=>by
  have:=yaM.1 hl x hx
  simpa only[zT,Bool.or_eq_true,decide_eq_true_eq]using this
 exact⟨ht,key _ h1,key _ h2,by omega⟩
theorem zyt{t:List UInt8}(h:zh3 24 t=true):t.length<=24:=by
 rw[zqT]at h
 simp only[Bool.and_eq_true,decide_eq_true_eq]at h
 exact h.1.2
theorem zva(m:M)(toks:List Tok)(h1:-(2^63)<=m.memory)(h2:m.memory<2^63):(zf9 (zbV m toks)).length<=(spT toks).length+400:=by
 have hw:=(ze4 (m.main+3)).1
 have i1:=Lib.itoa_length_le m.memory (by omega) (by omega)
 have i2:=Lib.itoa_length_le (yb5 .i64 (m.main+3)) (by omega) (by omega)
 have hh:zk.length=185:=by rfl
 have e1:(spT [Lib.itoa m.memory,zf,zf]).length=(Lib.itoa m.memory).length+5:=by simp[spT,zf]
 have e2:(spT [zB,zcE,ziU,zB,zbT,Lib.itoa (yb5 .i64 (m.main+3)),zf,zf,zf]).length<=(Lib.itoa (yb5 .i64 (m.main+3))).length+60:=by
  simp[spT,zf,zB,zcE,ziU,zbT]
 rw[zit]
 simp only[yab,yac,ybm]
 omega
theorem zr1(op b o:Int):RgW { op:=op,ty:=0,n:=0,body:=b,other:=o,name:=[] }:=⟨by simp,by simp⟩
theorem zk2{acc:To}{b:List W}(h1:∀l∈acc,∀w∈l,RgW w)(h2:∀w∈b,RgW w):∀l∈acc++[b],∀w∈l,RgW w:=λl hl=>by
 rcases ybh.1 hl with hl|hl
 .exact h1 l hl
 .simp at hl;subst hl;exact h2
theorem znT{w:W}{l:List W}(h1:RgW w)(h2:∀w∈l,RgW w):∀v∈w::l,RgW v:=λv hv=>by
 rcases ybD.1 hv with rfl|hv
 .exact h1
 .exact h2 v hv
theorem zFD{ls:To}{d:Nat}{ws:List W}{acc acc':To}{toks:List Tok}{out:List W}(h:Pr ls d ws acc toks out acc'):(∀l∈acc,∀w∈l,RgW w)->(∀w∈out,RgW w)/\∀l∈acc',∀w∈l,RgW w:=by
 induction h with
 | nil=>exact λh=>⟨by simp,h⟩
 | leaf hn hf hr _ ih =>
  intro h
  obtain⟨a,b⟩:=ih h
  exact⟨znT (zrZ hr) a,b⟩
 | one _ _ _ _ _ _ ih1 ih2 =>
  intro h
  obtain⟨a1,b1⟩:=ih1 h
  obtain⟨a2,b2⟩:=ih2 (zk2 b1 a1)
  exact⟨znT (zr1 ..) a2,b2⟩
 | two _ _ _ _ _ _ _ _ _ ih1 ih2 ih3 =>
  intro h
  obtain⟨a1,b1⟩:=ih1 h
  obtain⟨a2,b2⟩:=ih2 (zk2 b1 a1)
  obtain⟨a3,b3⟩:=ih3 (zk2 b2 a2)
  exact⟨znT (zr1 ..) a3,b3⟩
theorem zmD{l:List W}:∀{ls:To},l∈ls->l.length<=ze5 ls
 | x::ls,h=>by
  simp only[ze5,List.map_cons,List.sum_cons]
  rcases ybD.1 h with rfl|h
  .omega
  .have:=zmD h
   simp only[ze5]at this
   omega
structure zr2(f:F):Prop where
 params:f.params.length<=3000
 locals:f.locals.length<=3000
 lists:f.lists.length<=6001
 rows:∀l∈f.lists,l.length<=3000
 rg:∀l∈f.lists,∀w∈l,RgW w
 pf:Pf 24 f
theorem zr3{m:M}(hF:Few m)(hrg:∀f∈m.funcs,RgL f.lists)(h4:∀f∈m.funcs,f.lists.length<=400):∃toks fs2,zpY m.funcs toks fs2/\(spT toks).length<=8000000/\(∀f∈m.funcs,zr2 f)/\fs2.length<=40/\∀f∈fs2,zr2 f:=by
 have hfn:=zbU hF.good
 have key:∀f∈m.funcs,zr2 f:=λf hf=>by
  obtain⟨e1,e2⟩:=hF.each f hf
  have h400:=h4 f hf
  exact⟨by omega,by omega,by omega,λl hl=>by have:=zuy hl;omega,hrg f hf,zFC (hfn f hf) e2⟩
 obtain⟨toks,fs2,h1,h2,h3⟩:=zmy (gs:=m.funcs) m.funcs λf hf=>⟨hfn f hf,hrg f hf,h4 f hf,zyt (hF.each f hf).2,by have:=(hF.each f hf).1;omega⟩
 have hl:=(zk0 h1).1
 have h40:=hF.funcs
 refine⟨toks,fs2,h1,by omega,key,by omega,λf' hf'=>?_⟩
 obtain⟨f,hf,t,ls',p,rfl,r1,r2⟩:=h3 f' hf'
 have k:=key f hf
 obtain⟨row,out,acc,q1,q2,rfl⟩:=p
 obtain⟨g1,g2⟩:=zFD q2 (λl hl=>by cases hl)
 exact⟨k.params,k.locals,r2,λl hl=>yai (zmD hl) r1,zk2 g2 g1,⟨k.pf.name,k.pf.params,k.pf.locals,k.pf.type⟩⟩
theorem zr4{fs:List F}(h:∀f∈fs,zr2 f):zp1 fs:=λf hf=>by
 obtain⟨h1,h2,h3,h4,h5,_⟩:=h f hf
 exact⟨by omega,by omega,by omega,λl hl=>by have:=h4 l hl;omega,λl hl w hw=>by have:=(h5 l hl w hw).2;omega⟩
theorem zpS{m:M}(hl:m.funcs.length<=40)(h:∀f∈m.funcs,zr2 f):zpn m :=
 ⟨by omega,λf hf=>by have:=(h f hf).params;omega,λf hf=>by have:=(h f hf).locals;omega,λf hf=>by have:=(h f hf).lists;omega,λf hf l hl=>by have:=(h f hf).rows l hl;omega,λf hf l hl w hw=>by have:=((h f hf).rg l hl w hw).2;omega⟩
section
variable {G : Env} {J : AS} {R : Out -> AS -> Prop}
theorem zC9{n k:Int}(hn:-(2^63)<=n/\n<2^63)(hk:1<=k/\k<=2^40)(h:∀r,0<=r->r<k->R (.ret (.int .i64 r)) J):zzQ G 26 [.int .i64 n,.int .i64 k] J R:=by
 refine zxc rfl ?_
 have h1:¬k<1:=by omega
 have h0:¬k=0:=by omega
 have t1:=yd8 n (show 0<k by omega)
 have t2:-k<n.tmod k:=by
  have:=yd8 (-n) (show 0<k by omega)
  rw[Int.neg_tmod]at this
  omega
 have w1:yb5 .i64 (n.tmod k)=n.tmod k:=by rw[wrap_i64]<;>omega
 by_cases hneg:n.tmod k<0
 .have w2:yb5 .i64 (n.tmod k+k)=n.tmod k+k:=by rw[wrap_i64]<;>omega
  simp[zFd,h1,h0,w1,hneg,w2]
  exact h _ (by omega) (by omega)
 .simp[zFd,h1,h0,w1,hneg]
  exact h _ (by omega) (by omega)
theorem zr5{va vb:AV}{p:List Int}{s c:Int}(ha:zaf va p)(hb:zaf vb p)(hl:p.length<=2^40)(h:∀J',ze J J'->R (.ret (.bool true)) J'):
  zzQ G 27 [.agg [va,.int .i64 s,.int .i64 c],.agg [vb,.int .i64 s,.int .i64 c]] J R:=by
 refine zxd rfl ?_
 have a1:=ha.one
 have b1:=hb.one
 have A:ze J ((J.newO [va,.int .i64 s,.int .i64 c]).newO [vb,.int .i64 s,.int .i64 c]):=(ze.refl J).newO.newO
 have k:=h _ A
 simp[zFY,a1,b1]
 refine zi5 ha hb hl ?_
 simp
 exact k
theorem zoU(V:zdw G)(hG:∀k,StillI (G.g k))(hy:∀l,¬G.has l)(h:R (.ret (.bool true)) J):zzQ G 12 [] J R :=
 zq1 (vs:=[]) (Q:=λx=>x=.bool true) hG hy (λv hv=>by cases hv) (zyi V ⟨by decide,rfl⟩ λ_ _=>⟨_,rfl,.bool _,rfl⟩) λx hx=>by rw[hx];exact h
theorem zDa:∀{iv:AV} {input:List Int},zaf iv input->∀K:AV->Prop,zgT yca 44 iv K=K (.int .i64 (input.length:Int)):=λh=>zaf.len h
end
end Go.Proofs.YtohfclafhegadaaGreatDoor
