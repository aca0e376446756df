/- Parts of the proof of the row WatKnown: contracts of functions, each under the conditions that its theorem names. -/
import Derived.Test.YtohfclafhegadaaGreatDoorZB
import Derived.Test.YtohfclafhegadaaGreatDoorZA
import Derived.Test.YtohfclafhegadaaGreatDoorTie
import Derived.ProofKit
import Derived.OpenShut
import Derived.ChangeOld
import Derived.ChangeSame
import Derived.ChangeVars
import Derived.Lib.LaidTab
import Derived.LaidLaws
import Derived.LaidHandle
import Derived.ShapedOpen
import Derived.Lay
import Derived.LaidMore
import Derived.Test.YtohfclafhegadaaGreatDoorCards
import Derived.Test.YtohfclafhegadaaGreatDoorRows
import Derived.Lib.ItoaLen
import Derived.Test.YtohfclafhegadaaGreatDoorAbsB
set_option linter.unusedSimpArgs false
set_option linter.unusedVariables false
set_option maxRecDepth 100000
open List renaming length_append->yab,mem_singleton->ydr,getElem?_take->yaH,getElem?_drop->yas,getElem?_map->ydU,getElem?_eq_none->yb2,length_drop->ydx,length_cons->yac,map_cons->yaL,flatten_cons->ydV,getElem?_eq_getElem->yau,cons_append->ydc,nil_append->ydo,range->ya7,mem_map->yaV,getD_eq_getElem?_getD->ycZ,getElem_mem->yaw,length_take->ybf,take_length->yda,take_succ_eq_append_getElem->yc5,mem_append->ybh,take_of_length_le->yc7,getElem_map->yak,mem_of_getElem?->ydb,contains_cons->ydm,contains_nil->ydn,drop_eq_nil_of_le->ydA,drop_eq_getElem_cons->ydd,dropWhile_cons_of_pos->ydW,drop_append_of_le_length->ydX,append_nil->yb7,dropWhile_cons_of_neg->ydY,all_cons->ycV,getElem?_eq_some_iff->yaq,length_eq_zero_iff->ybS,cons->ydZ,length_pos_iff->ybm,replicate->yaj,getLast?_eq_some_getLast->yd3,length_nil->ybl,reverse_nil->yd5,reverse_cons->yd6,take->ydB,map_take->yd7,length_singleton->yea,replicate_succ->ydj,map_set->yec
open Nat renaming le_refl->yah,le_trans->yai,mul_le_mul_right->yax,zero_le->yc3,lt_of_lt_of_le->yag,le_succ_of_le->ydw,pow_le_pow_right->yd9
open Option renaming some->yaR,map_eq_some_iff->ybB
open Int renaming toNat_natCast->ybe,le_refl->yd4,eq_ofNat_of_zero_le->yd8
open Go.Proofs.Tryz renaming prog->yb9
open Go.IntKind renaming i64->yam,wrap->yb4,signed->yao,bits->yap,u64->yd0,i32->yd1,u8->yd2
open Go.Abs.AV renaming nilsl->yc9,str->yc8,int->yc6,slm->yeb
namespace Go.Proofs.YtohfclafhegadaaGreatDoor
open Go Go.Abs
theorem zEh:zLi.length=218:=by rfl
theorem zAe:zEf.length=34:=by rfl
theorem zfx(t:List UInt8):(zei t).length=t.length+252:=by
 simp only[zei,yab,zEh,zAe];omega
theorem zIs:∀f∈zaP.funcs,Al.SzE f:=λf hf=>by
 simp only[zaP,ydr]at hf
 subst hf
 exact⟨by decide,by decide,by decide,by decide⟩
section
variable {G : Env} {J : AS} {R : Out -> AS -> Prop}
theorem zic{t:List UInt8}(hl:t.length<2^40)(h:R (.ret (.str (zei t))) J):zzQ G 10 [.str t] J R:=by
 refine zCR rfl ?_
 have e:∀l:List UInt8,l=zei t->R (.ret (.str l)) J:=λl q=>q▸h
 simp[zLz]
 refine⟨by omega,by omega,?_⟩
 refine e _ ?_
 simp[zei,zLi,zEf]
theorem zgV(h:∀v J',Al.MO J' v zaP->zb J J'->R (.ret v) J'):zzQ G 11 [] J R:=by
 refine zCS rfl ?_
 simp[zLA,splice]
 refine h _ _ ⟨_,rfl,.inr ⟨_,_,rfl,trivial,.cons ⟨_,_,_,rfl,.inl ⟨rfl,rfl⟩,.inl ⟨rfl,rfl⟩,.inr ⟨_,_,rfl,trivial,.cons (.inr ⟨_,rfl,trivial⟩) .nil⟩⟩ .nil⟩⟩ ((zb.refl J).newO.setO (yah _))
theorem zEi:∀f∈zaP.funcs,Pf 24 f:=λf hf=>by
 simp only[zaP,ydr]at hf
 subst hf
 exact⟨by decide,λt ht=>(by cases ht),λt ht=>(by cases ht),.inr (.inl rfl)⟩
theorem zEj:∀f∈zaP.funcs,f.lists.length<=2^40/\∀ws∈f.lists,ws.length<=2^40:=λf hf=>by
 simp only[zaP,ydr]at hf
 subst hf
 exact⟨by decide,λws hw=>by simp[zoQ]at hw;subst hw;decide⟩
theorem ok7:zj8 (zei t7):=znd
theorem zMj:zj8 (zei t07):=znd
theorem zIt:zj8 (zei zEg):=znd
theorem zEk(V:zb3 G)(h00:0<J.nf/\J.F 0=.alive)(h:∀J',zb J J'->R (.ret (.bool true)) J'):zzQ G 12 [] J R:=by
 refine zCT rfl ?_
 simp[zLB]
 refine zic (t:=t7) (by decide) ?_
 simp
 refine zeU V h00 ok7 (by rw[zfx];decide) (λe q=>by rw[zBU]at q;cases q) λm hm mv J1 hv1 A1=>?_
 rw[zBU]at hm
 cases hm
 have h01:0<J1.nf/\J1.F 0=.alive:=⟨by have:=A1.nf;omega,(A1.fam 0 h00.1).trans h00.2⟩
 have hv1':=hv1
 obtain⟨fv,rfl,hof⟩:=hv1'
 have fv1:=zhA hof
 have B1:zb J1 ((J1.newO [yc9,.int .i64 0,.int .i64 0]).setO J1.no [fv,.int .i64 zaP.memory,.int .i64 zaP.main]):=(zb.refl J1).newO.setO (yah _)
 have ho1:((J1.newO [yc9,.int .i64 0,.int .i64 0]).setO J1.no [fv,.int .i64 zaP.memory,.int .i64 zaP.main]).objs J1.no=some [fv,.int .i64 zaP.memory,.int .i64 zaP.main]:=by simp
 have hl1:J1.no<((J1.newO [yc9,.int .i64 0,.int .i64 0]).setO J1.no [fv,.int .i64 zaP.memory,.int .i64 zaP.main]).no:=by simp
 simp[fv1,splice]
 generalize (J1.newO [yc9,.int .i64 0,.int .i64 0]).setO J1.no [fv,.int .i64 zaP.memory,.int .i64 zaP.main]=Z1 at *
 have A2:=A1.trans B1
 refine zic (t:=t07) (by decide) ?_
 simp
 refine zeU V ⟨by have:=B1.nf;omega,(B1.fam 0 h01.1).trans h01.2⟩ zMj (by rw[zfx];decide) (λe q J2 C2=>?_) λm hm=>by rw[zu8]at hm;cases hm
 rw[zu8]at q
 cases q
 simp[zaO,splice]
 have C3:zb J2 ((J2.newO [yc9,.int .i64 0,.int .i64 0]).setO J2.no [yc9,.int .i64 0,.int .i64 0]):=(zb.refl J2).newO.setO (yah _)
 generalize (J2.newO [yc9,.int .i64 0,.int .i64 0]).setO J2.no [yc9,.int .i64 0,.int .i64 0]=Z2 at *
 have C4:=C2.trans C3
 have B2:=B1.trans C4
 refine zic (t:=zEg) (by decide) ?_
 simp
 refine zeU V ⟨by have:=B2.nf;omega,(B2.fam 0 h01.1).trans h01.2⟩ zIt (by rw[zfx];decide) (λe q J4 C5=>?_) λm hm=>by rw[zoT]at hm;cases hm
 rw[zoT]at q
 cases q
 simp[zaO,splice]
 have C6:zb J4 ((J4.newO [yc9,.int .i64 0,.int .i64 0]).setO J4.no [yc9,.int .i64 0,.int .i64 0]):=(zb.refl J4).newO.setO (yah _)
 generalize (J4.newO [yc9,.int .i64 0,.int .i64 0]).setO J4.no [yc9,.int .i64 0,.int .i64 0]=Z4 at *
 have C7:=C4.trans (C5.trans C6)
 have B4:=B1.trans C7
 refine zgV λv5 J5 hv5 A5=>?_
 simp
 refine zkk V.pow hv5 zLj zEi (by decide) zEj (by decide) (by decide) (by rw[zIr,zfx];decide) λJ6 A6=>?_
 rw[zIr]
 simp
 refine zic (t:=t7) (by decide) ?_
 have C8:=(C7.trans A5).trans A6
 have ho6:=(C8.obj J1.no hl1).trans ho1
 simp[ho6,fv1]
 refine zgV λv8 J8 hv8 A8=>?_
 have C9:=C8.trans A8
 have ho8:=(C9.obj J1.no hl1).trans ho1
 have B8:=(A1.trans B1).trans C9
 have hme:=zsV hv1 (B1.trans C9).nf λf hf=>(B1.trans C9).fam f hf
 have hM:=Al.m_e (J:=J8) ⟨by have:=B8.nf;omega,(B8.fam 0 h00.1).trans h00.2⟩ hme
 simp[ho8,fv1]
 refine Al.eqM_calls hM hv8 (by decide) zIs λJ9 A9=>?_
 simp
 exact h _ (B8.trans A9)
end
end Go.Proofs.YtohfclafhegadaaGreatDoor


namespace Go
open Go.ChangeShapes Go.WideShapes Go.ChangeAt Go.RowKit
theorem zbC{H:Type}{enc:TypeId × Value->H}{a:Assume}{C:Checked}{os:Os}{f:FuncId}{fn:Func}{s:ChangeSpec}{conds:List PathCond}{apart fresh handsOn again:Bool}{X:World->Array Value->Prop}
  (hX:∀(w w':World) (args:Array Value),w.heap=w'.heap->X w args->X w' args)
  (own:ownKnob C.prog.godebug=none) (started:os.Started) (noInit:C.prog.inits.idxOf? f=none) (hfn:C.prog.funcs[f]?=some fn)
  (witness:∃(w:World) (tape:Tape) (i:Input),w.os=os/\(w.forCall tape i).Shaped C.prog/\i.vars=[]/\Input.okWide C.prog (w.forCall tape i) .any w.heap.size f i /\
   ((s.pre enc C.prog fn conds apart (w.forCall tape i).memory i.args/\X (w.forCall tape i).memory i.args)/\sizedMet enc C.prog fn (OpenSpec.ofChange s) apart (w.forCall tape i).memory i.args)/\a.holds C.prog (lone (Frame.enter C.prog f i.args .normal) [] (w.forCall tape i)))
  (contract:∀(W:World) (base:Nat) (args:Array Value) (ds gs:List (DataW H)) (before:List MemPlace),
   (∀(j:Nat) t v,fn.params[j]?=some t->args[j]?=some v->Value.okWide C.prog W .any base t v) ->
   DataW.Whole enc C.prog fn.params.toList s.vars apart W args.toList ds gs before->(DataW.weightsEach C.prog (fn.params.toList++s.plain.varTypes C.prog) (ds++gs)).all (·<=reachBytes)=true->W.ShapedOpen C.prog->X W args ->
   Calls C.prog f args W λe W'=>∃v,e=.returned v/\s.post enc C.prog fn apart fresh handsOn again W args v W') :
  ReturnsInHanded a C os f .any (λw args=>(s.pre enc C.prog fn conds apart w args/\X w args)/\sizedMet enc C.prog fn (OpenSpec.ofChange s) apart w args) (s.post enc C.prog fn apart fresh handsOn again):=by
 refine returnsInHanded_of_calls own started noInit witness ?_
 intro w tape i _ hsh _ hok hpre hholds
 obtain⟨_,_,_,fn',hfn',_,_,_,_,hval⟩:=hok
 have e:fn'=fn:=yaR.inj (hfn'.symm.trans hfn)
 subst e
 obtain⟨⟨⟨ds,gs,before,hw,hc⟩,hx⟩,hz⟩:=hpre
 have hw':=DataW.Whole.of_heap (w':=w.forCall tape i) (by rfl) hw
 refine(contract (w.forCall tape i) w.heap.size i.args ds gs before hval hw' (hz.weights hw) hsh (hX _ _ _ (by rfl) hx)).mono λe W' ⟨v,he,hp⟩=>?_
 subst he
 exact ChangeSpec.post_blind hp
theorem zne{H:Type}{enc:TypeId × Value->H}{P:Program}{w:World}{base:Nat}{sp:Nat->Bool}{held:Bool}{fuel:Nat}{t e:TypeId}{n:Nat}{cs:List Value}{ls:List (List UInt8)}{p:List MemPlace}
  (ht:P.underlying t=some (.array n e)) (he:P.underlying e=some .string) (hce:P.cellsOf e=1) (hct:P.cellsOf t=n)
  (h:DataW.trod enc P w base sp held fuel t cs=some (.agg (ls.map λl=>.lit (.string l)),p)):cs=ls.map λl=>Value.string ⟨l.toArray⟩:=by
 cases fuel with
 | zero=>simp[DataW.trod]at h
 | succ fuel =>
  simp only[DataW.trod,ht,hce,hct,Nat.mul_one]at h
  split at h
  .rename_i hl
   obtain⟨xs,hm,hx⟩:=ybB.1 h
   have hxs:xs.map (·.1)=ls.map λl=>(DataW.lit (.string l):DataW H):=by
    have:=congrArg Prod.fst hx
    simpa using this
   have hxl:xs.length=n:=by simpa using Lib.mapM_length hm
   have hzl:ls.length=n:=by
    have:=congrArg List.length hxs
    simp at this
    omega
   apply List.ext_getElem?
   intro i
   by_cases hi:i<n
   .obtain⟨b,hb,hf⟩:=Lib.mapM_at hm i i (by simp[hi])
    obtain⟨s,hc,rfl,_⟩:=DataW.trod_string he hf
    have h1:cs[i]?=some (.string s):=by
     have:=congrArg (·[0]?) hc
     simpa [yaH,yas]using this
    have h2:(xs.map (·.1))[i]?=some (DataW.lit (.string s.data.toList):DataW H):=by simp[hb]
    rw[hxs]at h2
    simp only[ydU,ybB,DataW.lit.injEq,Lit.string.injEq]at h2
    obtain⟨l,hl1,hl2⟩:=h2
    simp[h1,hl1,hl2]
   .rw[yb2 (by omega),yb2 (by simp;omega)]
  .cases h
end Go
namespace Go.Proofs.YtohfclafhegadaaGreatDoor
open Go Go.Abs Go.RowKit
theorem own:ownKnob yb9.godebug=none:=by kernel_rfl
abbrev zMk : List (String × DataW Unit) := [("math/bits.deBruijn32tab", Rows.laid_math_bits_deBruijn32tab), ("math/bits.deBruijn64tab", Rows.laid_math_bits_deBruijn64tab), ("internal/strconv.uint64pow10", Rows.laid_internal_strconv_uint64pow10), ("unicode/utf8.acceptRanges", Rows.laid_unicode_utf8_acceptRanges), ("strconv.ErrRange", Rows.laid_strconv_ErrRange), ("strconv.ErrSyntax", Rows.laid_strconv_ErrSyntax), ("unicode.White_Space", Rows.laid_unicode_White_Space), ("strings.asciiSpace", Rows.laid_strings_asciiSpace), ("mortise/bin.bytesOf", Rows.laid_mortise_bin_bytesOf), ("mortise/bin.plain", Rows.laid_mortise_bin_plain), ("mortise/bin.numbered", Rows.laid_mortise_bin_numbered), ("mortise/wasm.signs", Rows.laid_mortise_wasm_signs), ("unicode/utf8.first", Rows.laid_unicode_utf8_first)]
end Go.Proofs.YtohfclafhegadaaGreatDoor
namespace Go
open Go.ChangeShapes Go.WideShapes Go.ChangeAt Go.RowKit
theorem zgW{P:Program}{w:World}:∀{l:List (String × DataW Unit)} {ps:List MemPlace} {n:String} {d:DataW Unit} {k:Nat},DataW.LaidVars P w l ps->l[k]?=some (n,d)->∃g t cs fuel p,P.globalNamed n=some g/\(P.globals[g]?).map (·.type)=some t/\w.var? P n=some cs/\DataW.trod (λ_=>()) P w 0 (λ_=>true) false fuel t cs.toList=some (d,p)
 | [],ps,n,d,k,h,hk=>by simp at hk
 | (n',d')::l,ps,n,d,k,h,hk=>by
  obtain⟨g,t,cs,fuel,p,q,h1,h2,h3,h4,h5,rfl⟩:=h
  cases k with
  | zero =>
   simp only[List.getElem?_cons_zero,yaR.injEq,Prod.mk.injEq]at hk
   obtain⟨rfl,rfl⟩:=hk
   exact⟨g,t,cs,fuel,p,h1,h2,h3,h4⟩
  | succ k=>exact zgW h5 (by simpa using hk)
theorem zlO{g:List UInt8 × List UInt8->List Value}:∀(ls:List (List UInt8 × List UInt8)) (cs:List Value),cs.length=ls.length*2->(∀i (h:i<ls.length),(cs.drop (i*2)).take 2=g ls[i])->cs=(ls.map g).flatten
 | [],cs,h,_=>by simpa using h
 | l::ls,cs,h,hg=>by
  have h0:=hg 0 (by simp)
  have ih:=zlO (g:=g) ls (cs.drop 2) (by rw[ydx,h,yac];omega) λi hi=>by
   have:=hg (i+1) (Nat.succ_lt_succ hi)
   rw[List.drop_drop]
   have e:2+i*2=(i+1)*2:=by omega
   rw[e];exact this
  simp only[yaL,ydV,<-ih]
  simp at h0
  rw[<-h0,List.take_append_drop]
theorem zk9{H:Type}{enc:TypeId × Value->H}{P:Program}{w:World}{base:Nat}{sp:Nat->Bool}{held:Bool}{fuel:Nat}{t e u:TypeId}{n:Nat}{cs:List Value}{ls:List (List UInt8 × List UInt8)}{p:List MemPlace}
  (ht:P.underlying t=some (.array n e)) (he:P.underlying e=some (.array 2 u)) (hu:P.underlying u=some .string) (hcu:P.cellsOf u=1) (hce:P.cellsOf e=2) (hct:P.cellsOf t=n*2)
  (h:DataW.trod enc P w base sp held fuel t cs=some (.agg (ls.map λl=>.agg [.lit (.string l.1),.lit (.string l.2)]),p)):cs=(ls.map λl=>[Value.string ⟨l.1.toArray⟩,Value.string ⟨l.2.toArray⟩]).flatten:=by
 cases fuel with
 | zero=>simp[DataW.trod]at h
 | succ fuel =>
  simp only[DataW.trod,ht,hce,hct]at h
  split at h
  .rename_i hl
   obtain⟨xs,hm,hx⟩:=ybB.1 h
   have hxs:xs.map (·.1)=ls.map λl=>(DataW.agg [.lit (.string l.1),.lit (.string l.2)]:DataW H):=by
    have:=congrArg Prod.fst hx
    simpa using this
   have hxl:xs.length=n:=by simpa using Lib.mapM_length hm
   have hzl:ls.length=n:=by
    have:=congrArg List.length hxs
    simp at this
    omega
   refine zlO ls cs (by omega) λi hi=>?_
   have hin:i<n:=by omega
   obtain⟨b,hb,hf⟩:=Lib.mapM_at hm i i (by simp[hin])
   obtain⟨b1,b2⟩:=b
   have hbe:b1=(DataW.agg ([ls[i].1,ls[i].2].map λl=>.lit (.string l)):DataW H):=by
    have h2:(xs.map (·.1))[i]?=some b1:=by simp[hb]
    rw[hxs]at h2
    have h3:=h2
    rw[ydU,yau hi]at h3
    exact(yaR.inj h3).symm
   rw[hbe]at hf
   exact zne he hu hcu hce hf
  .cases h
theorem zAf{P:Program}{w:World}{fuel:Nat}{t:TypeId}{ms:Array (String × TypeId)}{cs:List Value}{nm:String}{d:DataW Unit}{p:List MemPlace}(ht:P.underlying t=some (.interface ms))
  (h:DataW.trod (λ_=>()) P w 0 (λ_=>true) false fuel t cs=some (.iface nm d,p)):∃u v,cs=[.iface u v]:=by
 cases fuel with
 | zero=>simp[DataW.trod]at h
 | succ fuel =>
  rw[DataW.trod_step]at h
  unfold DataW.trodStep at h
  rw[ht]at h
  split at h<;>simp_all
end Go
namespace Go.Proofs.YtohfclafhegadaaGreatDoor
open Go Go.Abs Go.RowKit Go.ChangeShapes Go.WideShapes
def zgX:List Value:=(signs.map λp=>[Value.string ⟨p.1.toArray⟩,Value.string ⟨p.2.toArray⟩]).flatten
theorem zkl{M F}{w:World}:∀(ls:List (List UInt8 × List UInt8)) (j:Nat) (h:j<((ls.map λp=>[yc8 p.1,yc8 p.2]).flatten).length),
  ∃c,((ls.map λp=>[Value.string ⟨p.1.toArray⟩,Value.string ⟨p.2.toArray⟩]).flatten)[j]?=some c/\VR M F w ((ls.map λp=>[yc8 p.1,yc8 p.2]).flatten)[j] c
 | [],j,h=>by simp at h
 | l::ls,j,h=>by
  simp only[yaL,ydV,ydc,ydo]at h ⊢
  match j with
  | 0=>exact⟨_,rfl,by simpa using VR.str (M:=M) (F:=F) (w:=w) ⟨l.1.toArray⟩⟩
  | 1=>exact⟨_,rfl,by simpa using VR.str (M:=M) (F:=F) (w:=w) ⟨l.2.toArray⟩⟩
  | j+2=>simpa using zkl ls j (by simpa using h)
def spZ:List Int:=(ya7 256).map λc=>if zge (UInt8.ofNat c)then 1 else 0
end Go.Proofs.YtohfclafhegadaaGreatDoor
namespace Go.Proofs.YtohfclafhegadaaGreatDoor
open Go Go.Abs Go.RowKit
abbrev zIu : List String := ["unicode/utf8.first"]
abbrev zMc:List Nat:=(ya7 26).filter λb=>b != 7
noncomputable def zkm(os:Os):World:=(World.doorLaid yb9 400 os).layVars yb9 (zMk.filter λx=>zIu.contains x.1)
end Go.Proofs.YtohfclafhegadaaGreatDoor
namespace Go.Proofs.YtohfclafhegadaaGreatDoor
open Go Go.Abs Go.RowKit Go.ChangeShapes Go.WideShapes
abbrev zoU : List (String × DataW Unit) := [("math/bits.deBruijn32tab", Rows.laid_math_bits_deBruijn32tab), ("math/bits.deBruijn64tab", Rows.laid_math_bits_deBruijn64tab), ("internal/strconv.uint64pow10", Rows.laid_internal_strconv_uint64pow10), ("unicode/utf8.acceptRanges", Rows.laid_unicode_utf8_acceptRanges), ("strconv.ErrRange", Rows.laid_strconv_ErrRange), ("strconv.ErrSyntax", Rows.laid_strconv_ErrSyntax), ("unicode.White_Space", Rows.laid_unicode_White_Space), ("strings.asciiSpace", Rows.laid_strings_asciiSpace), ("mortise/wasm.signs", Rows.laid_mortise_wasm_signs), ("unicode/utf8.first", Rows.laid_unicode_utf8_first)]
def GW(m:Int)(u:TypeId):Env where
 g:=λx=>match x with
  | 0=>.pv (.stat true) (.agg zgf)
  | 6=>.pv (.stat true) (.iface u .undef)
  | 10=>.pv (.stat true) (.agg zdk)
  | 11=>.pv (.stat true) (.int .i64 m)
  | _=>.undef
 has:=λ_=>False
 y:=λ_ _ _ _ _=>False
 fix:=λB=>if B=9 then some (Lib.pow10Tab.map λz=>Value.int .u64 z).toArray else none
theorem zMl(m u):zb3 (GW m u):=⟨rfl,⟨u,.undef,rfl⟩,rfl⟩
theorem zMm(m u):zh2 (GW m u):=⟨rfl,m,rfl⟩
theorem zAg(m:Int)(u:TypeId):∀k,StillI ((GW m u).g k):=by
 intro k
 match k with
 | 0 =>
  exact .pv _ _ λc hc=>by
   simp only[AV.cells,zgf,yaV]at hc
   obtain⟨x,_,rfl⟩:=hc
   exact .int _ _
 | 1=>exact .undef
 | 2=>exact .undef
 | 3=>exact .undef
 | 4=>exact .undef
 | 5=>exact .undef
 | 6 =>
  exact .pv _ _ λc hc=>by
   simp only[AV.cells,ydr]at hc
   subst hc
   exact .iface _ _ .undef
 | 7=>exact .undef
 | 8=>exact .undef
 | 9=>exact .undef
 | 10 =>
  exact .pv _ _ λc hc=>by
   simp only[AV.cells,zdk,List.mem_flatten,yaV]at hc
   obtain⟨l,⟨x,_,rfl⟩,hc⟩:=hc
   simp only[List.mem_cons,List.not_mem_nil,or_false]at hc
   rcases hc with rfl|rfl<;>exact .str _
 | 11 =>
  exact .pv _ _ λc hc=>by
   simp only[AV.cells,ydr]at hc
   subst hc
   exact .int _ _
 | n+12=>exact .undef
theorem zoV{W:World}(hs:W.ShapedOpen yb9)(hl:laidMetH yb9 zoU W):∃m u,GOk yb9 (GW m u) (Mp.all W) AS.zero.F W:=by
 have hl0:laidMet yb9 zoU W:=hl
 obtain⟨ps,hv,_⟩:=hl0
 obtain⟨g0,t0,cs0,fuel0,p0,a1,a2,a3,a4⟩:=zgW (k:=7) hv rfl
 obtain⟨g6,t6,cs6,fuel6,p6,e1,e2,e3,e4⟩:=zgW (k:=4) hv rfl
 obtain⟨g9,t9,cs9,fuel9,p9,f1,f2,f3,f4⟩:=zgW (k:=2) hv rfl
 obtain⟨g10,t10,cs10,fuel10,p10,h1,h2,h3,h4⟩:=zgW (k:=8) hv rfl
 obtain rfl : 0 = g0 := Option.some.inj ((show Tryz.prog.globalNamed "strings.asciiSpace" = some 0 by kernel_rfl).symm.trans a1)
 obtain rfl : 6 = g6 := Option.some.inj ((show Tryz.prog.globalNamed "strconv.ErrRange" = some 6 by kernel_rfl).symm.trans e1)
 obtain rfl : 9 = g9 := Option.some.inj ((show Tryz.prog.globalNamed "internal/strconv.uint64pow10" = some 9 by kernel_rfl).symm.trans f1)
 obtain rfl : 10 = g10 := Option.some.inj ((show Tryz.prog.globalNamed "mortise/wasm.signs" = some 10 by kernel_rfl).symm.trans h1)
 obtain rfl:135=t0:=yaR.inj ((show(yb9.globals[0]?).map (·.type)=some 135 by kernel_rfl).symm.trans a2)
 obtain rfl:139=t6:=yaR.inj ((show(yb9.globals[6]?).map (·.type)=some 139 by kernel_rfl).symm.trans e2)
 obtain rfl:282=t9:=yaR.inj ((show(yb9.globals[9]?).map (·.type)=some 282 by kernel_rfl).symm.trans f2)
 obtain rfl:287=t10:=yaR.inj ((show(yb9.globals[10]?).map (·.type)=some 287 by kernel_rfl).symm.trans h2)
 have k0:cs0.toList=spZ.map λz=>Value.int .u8 z:=Lib.cells_of_tab (n:=256) (e:=5) (k:=.u8) Tryz.underlying135 Tryz.underlying5 (by kernel_rfl) (by kernel_rfl) (zs:=spZ) (by have:=a4;exact this)
 obtain⟨u,ev,hc6⟩:=zAf Tryz.underlying139 e4
 have k9:cs9.toList=Lib.pow10Tab.map λz=>Value.int .u64 z:=Lib.cells_of_tab (n:=20) (e:=174) (k:=.u64) Tryz.underlying282 Tryz.underlying174 (by kernel_rfl) (by kernel_rfl) (zs:=Lib.pow10Tab) (by have:=f4;exact this)
 have k10:cs10.toList=zgX:=zk9 (n:=16) (e:=182) (u:=9) (ls:=signs) Tryz.underlying287 Tryz.underlying182 Tryz.underlying9 (by kernel_rfl) (by kernel_rfl) (by kernel_rfl) h4
 obtain⟨m,hm⟩:=Tryz.laysM143.s1_3 W hs
 have cell:∀(nm:String) (g:Nat) (cs:Array Value),yb9.globalNamed nm=some g->W.var? yb9 nm=some cs->∀j,W.cell? ⟨g,j,none⟩=cs.toList[j]?:=λnm g cs h1 h2 j=>by
  have:=World.var?_cell h1 h2 j
  rw[Array.getElem?_toList]
  simpa using this
 have v0:=cell _ 0 cs0 a1 a3
 have v6:=cell _ 6 cs6 e1 e3
 have v10:=cell _ 10 cs10 h1 h3
 rw[k0]at v0
 rw[hc6]at v6
 rw[k10]at v10
 have l11:11<W.heap.size:=World.block_lt_of_cell? W _ hm
 refine⟨m,u,⟨λx=>?_,λ_ h=>h.elim,λB c h=>?_⟩⟩
 .match x with
  | 0 =>
   have hl:zgf=spZ.map (yc6 .u8):=by simp[zgf,spZ]
   refine .pv _ _ 0 0 (λj=>(spZ.map λz=>Value.int .u8 z).getD j undef) (by simp[Mem,Mp.all];omega) (λ_ j hj=>?_) (λ_ j hj=>?_)
   .have hj':j<(spZ.map λz=>Value.int .u8 z).length:=by
     have:j<zgf.length:=hj
     rw[hl]at this
     simpa using this
    rw[Nat.zero_add,v0 j,ycZ,yau hj']
    rfl
   .have hj':j<spZ.length:=by
     have:j<zgf.length:=hj
     rw[hl]at this
     simpa using this
    have:((AV.agg zgf).cells[j]'hj)=.int .u8 spZ[j]:=by simp[AV.cells,hl]
    rw[this,ycZ,ydU,yau hj']
    exact .int ..
  | 1=>exact .undef _
  | 2=>exact .undef _
  | 3=>exact .undef _
  | 4=>exact .undef _
  | 5=>exact .undef _
  | 6 =>
   refine .pv _ _ 6 0 (λj=>.iface u ev) (by simp[Mem,Mp.all];omega) (λ_ j hj=>?_) (λ_ j hj=>?_)
   .have hj':j=0:=by simpa using hj
    subst hj'
    exact v6 0
   .have hj':j=0:=by simpa using hj
    subst hj'
    exact .iface _ _ _ (.undef _)
  | 7=>exact .undef _
  | 8=>exact .undef _
  | 9=>exact .undef _
  | 10 =>
   refine .pv _ _ 10 0 (λj=>zgX.getD j undef) (by simp[Mem,Mp.all];omega) (λ_ j hj=>?_) (λ_ j hj=>?_)
   .obtain⟨c,h1,_⟩:=zkl (M:=Mp.all W) (F:=AS.zero.F) (w:=W) signs j hj
    rw[Nat.zero_add,v10 j,ycZ]
    show zgX[j]?=_
    have h1':zgX[j]?=some c:=h1
    rw[h1'];rfl
   .obtain⟨c,h1,h2⟩:=zkl (M:=Mp.all W) (F:=AS.zero.F) (w:=W) signs j hj
    have h1':zgX[j]?=some c:=h1
    rw[ycZ,h1']
    exact h2
  | 11 =>
   refine .pv _ _ 11 0 (λj=>.int .i64 m) (by simp[Mem,Mp.all,l11]) (λ_ j hj=>?_) (λ_ j hj=>?_)
   .have hj':j=0:=by simpa using hj
    subst hj'
    exact hm
   .have hj':j=0:=by simpa using hj
    subst hj'
    exact VR.int ..
  | n+12=>exact .undef _
 .simp only[GW]at h
  split at h
  .rename_i hB
   subst hB
   cases h
   refine⟨by simp[Mp.all];omega,?_⟩
   have hq:cs9=(Lib.pow10Tab.map λz=>Value.int .u64 z).toArray:=by
    rw[<-k9]
   rw[<-hq]
   have:=f3
   simp only[World.var?,f1]at this
   rw[Option.bind_some]at this
   split at this
   .rename_i cs elem frozen hh
    cases this
    exact⟨_,_,hh⟩
   .cases this
  .cases h
theorem zsY(os:Os):laidMet yb9 zoU (zkm os) :=
 laidMet_layVars (w0:=World.doorLaid yb9 400 os) zIu zMc rfl (by kernel_rfl) (by kernel_rfl) (LaidIn.of_run zMc 8 (by kernel_rfl) (by kernel_rfl) (by kernel_rfl) (by kernel_rfl))
theorem zu9(os:Os)(args:Array Value):laidMetH yb9 zoU ((zkm os).forCall (λ_ _=>0) ⟨#[],args,[]⟩).memory :=
 show laidMet yb9 zoU _ from(zsY os).of_heap (by simp[World.memory,World.forCall,Input.heap])
structure zFH(f:F):Prop where
 params:f.params.length<=2^20
 locals:f.locals.length<=2^20
 lists:f.lists.length<=2^20
 rows:∀l∈f.lists,l.length<=2^20
 name:f.name.length<=2^20
 nums:∀l∈f.lists,∀w∈l,w.n<=2^63-1
def zJ8(f:F):Prop:=f.params.length+f.locals.length+f.lists.length+zg6 id f.lists<=3000/\zeg 24 f.name=true
structure Few(m:M):Prop where
 funcs:m.funcs.length<=40
 each:∀f∈m.funcs,zJ8 f
 good:za7 m=.ok ()
def BgO(fv:AV)(m:M)(mb:Nat)(J1:AS)(a:Nat->AV)(Z:AS):Prop:=∃(i z:Nat),i<=m.funcs.length/\z<=3000/\a 1=.ptr mb 0/\a 3=.int .i64 (z:Int)/\a 4=.int .i64 (i:Int)/\zb J1 Z/\∀j f,j<i->m.funcs[j]?=some f->zJ8 f
def BgN(mb fb:Nat)(J1:AS)(i:Nat)(f:F)(base:Nat)(a:Nat->AV)(Z:AS):Prop:=∃(k:Nat),k<=f.lists.length/\a 1=.ptr mb 0/\a 4=.int .i64 (i:Int)/\a 5=.ptr fb 0/\a 6=.int .i64 (k:Int)/\a 3=.int .i64 ((base+zg6 id (f.lists.take k):Nat):Int)/\Z=J1
section
variable {G : Env} {J : AS} {R : Out -> AS -> Prop}
theorem zva{m:M}(h1:m.funcs.length<=40)(h2:∀f∈m.funcs,zJ8 f)(h3:∀f∈m.funcs,zFH f):zsB m :=
 ⟨by omega,λf hf=>by have:=(h2 f hf).1;omega,λf hf=>by have:=(h2 f hf).1;omega,λf hf=>by have:=(h2 f hf).1;omega,λf hf=>(h3 f hf).rows,λf hf=>(h3 f hf).nums⟩
theorem zrO{J:AS}{v:AV}{l:List W}(h:Al.RepO J v l)(K:AV->Prop):zij yb9 54 v K=K (.int .i64 (l.length:Int)):=by
 rcases h with ⟨rfl,rfl⟩|⟨b,rfl,_⟩<;>simp
theorem zEl{mv:AV}{m:M}(V:zh2 G)(hG:∀k,StillI (G.g k))(hy:∀l,¬G.has l)(hm:Al.MO J mv m)(hfl:m.funcs.length<=2^20)(hf:∀f∈m.funcs,zFH f)(h:∀b J',(b=false->Few m)->zb J J'->R (.ret (.bool b)) J'):zzQ G 30 [mv] J R:=by
 refine zC0 rfl ?_
 obtain⟨fv,rfl,hfs⟩:=hm
 have f1:=hfs.one
 have A1:zb J (J.newO [fv,yc6 yam m.memory,yc6 yam m.main]):=(zb.refl J).newO
 have hf1:=hfs.keep A1
 have hm1:(J.newO [fv,yc6 yam m.memory,yc6 yam m.main]).objs J.no=some [fv,.int .i64 m.memory,.int .i64 m.main]:=by simp
 have hno1:(J.newO [fv,yc6 yam m.memory,yc6 yam m.main]).no=J.no+1:=by simp
 simp[zLG,f1]
 generalize J.newO [fv,yc6 yam m.memory,yc6 yam m.main]=J1 at *
 refine zy (BgO fv m J.no J1) (MU 4 (m.funcs.length+1)) ⟨0,0,by omega,by omega,by simp,by simp,by simp,.refl _,λj f hj=>by omega⟩ λa Z hI=>?_
 obtain⟨i,z,hi,hz,a1,a3,a4,A,hall⟩:=hI
 have hm2:=(A.obj J.no (by omega)).trans hm1
 have hft:=hf1.keep A
 have hfl2:=hft.len
 by_cases hlt:i<m.funcs.length
 .obtain⟨φ,rv,hrd,hfv,hix⟩:=hft.at hlt
  have hrd':=hrd.read
  have hmem:=yaw hlt
  have hget:m.funcs[i]?=some m.funcs[i]:=yau hlt
  obtain⟨q1,q2,q3,q4,q5,q6⟩:=hf _ hmem
  generalize m.funcs[i]=f at *
  obtain⟨pv,lv,tv,rfl,hp,hl,ht⟩:=hfv
  have p1:=hp.one
  have l1:=hl.one
  have t1:=ht.one
  have A3:zb Z ((Z.newO [yc8 [],yc9,yc9,yc6 yam 0,yc9]).setO Z.no [yc8 f.name,pv,lv,yc6 yam f.type,tv]):=((zb.refl Z).newO).setO (yah _)
  have hpl:=hp.len
  have hll:=hl.len
  have htl:=ht.len
  have w1:yb4 .i64 ((z:Int)+(f.params.length:Int))=(z:Int)+(f.params.length:Int):=by rw[wrap_i64]<;>omega
  have w2:yb4 .i64 ((z:Int)+(f.params.length:Int)+(f.locals.length:Int))=(z:Int)+(f.params.length:Int)+(f.locals.length:Int):=by rw[wrap_i64]<;>omega
  have w3:yb4 .i64 ((z:Int)+(f.params.length:Int)+(f.locals.length:Int)+(f.lists.length:Int))=(z:Int)+(f.params.length:Int)+(f.locals.length:Int)+(f.lists.length:Int):=by rw[wrap_i64]<;>omega
  have hlt':(i:Int)<(m.funcs.length:Int):=by omega
  have hmn:J.no≠Z.no:=by have:=A.no;omega
  simp[zjF,a1,a3,a4,hm2,hfl2,f1,hlt,hlt',hix,hrd',p1,l1,t1,hpl,hll,htl,w1,w2,w3,splice]
  have hf3:((Z.newO [yc8 [],yc9,yc9,yc6 yam 0,yc9]).setO Z.no [yc8 f.name,pv,lv,yc6 yam f.type,tv]).objs Z.no=some [.str f.name,pv,lv,.int .i64 f.type,tv]:=by simp
  have ht3:=ht.keep A3
  generalize (Z.newO [yc8 [],yc9,yc9,yc6 yam 0,yc9]).setO Z.no [yc8 f.name,pv,lv,yc6 yam f.type,tv]=J3 at *
  have htl3:=ht3.len
  refine zy (BgN J.no Z.no J3 i f (z+f.params.length+f.locals.length+f.lists.length)) (MU 6 (f.lists.length+1)) ⟨0,by omega,by simp[a1],by simp[a4],by simp,by simp,by simp[zg6],rfl⟩ λb ρ hJ=>?_
  obtain⟨k,hk,b1,b4,b5,b6,b3,rfl⟩:=hJ
  have hB:=zsF (ls:=f.lists.take k) (B:=2^20) λl hl=>q4 l (List.mem_of_mem_take hl)
  have hkk:(f.lists.take k).length<=2^20:=by rw[ybf];omega
  have hB2:zg6 id (f.lists.take k)<=2^20*2^20:=yai hB (yax _ hkk)
  by_cases hkl:k<f.lists.length
  .obtain⟨φ2,rv,hrd2,hrep,hix2⟩:=ht3.at hkl
   have hrd2':=hrd2.read
   have hrl:=q4 _ (yaw hkl)
   have r1:=hrep.one
   have hrlen:=zrO hrep
   have hkl':(k:Int)<(f.lists.length:Int):=by omega
   have w5:yb4 .i64 ((k:Int)+1)=((k+1:Nat):Int):=by rw[wrap_i64]<;>omega
   have w6:yb4 .i64 (((z+f.params.length+f.locals.length+f.lists.length+zg6 id (f.lists.take k):Nat):Int)+(f.lists[k].length:Int))=((z+f.params.length+f.locals.length+f.lists.length+zg6 id (f.lists.take (k+1)):Nat):Int):=by
    rw[zk4 hkl,wrap_i64]<;>omega
   generalize ((z+f.params.length+f.locals.length+f.lists.length+zg6 id (f.lists.take k):Nat):Int)=y at *
   simp[zeF,b1,b4,b5,b6,b3,hf3,htl3,hkl,hkl',hix2,hrd2',r1,hrlen,w5,w6]
   refine⟨⟨k+1,by omega,by simp[b1],by simp[b4],by simp[b5],by simp,by simp,rfl⟩,?_⟩
   simp only[MU,b6];simp;omega
  .have he:k=f.lists.length:=by omega
   subst he
   rw[yda]at b3 hB2
   have w5:yb4 .i64 ((i:Int)+1)=((i+1:Nat):Int):=by rw[wrap_i64]<;>omega
   generalize hy2:z+f.params.length+f.locals.length+f.lists.length+zg6 id f.lists=y at *
   by_cases hbig:(3000:Int)<(y:Int)
   .have hbig':3000<y:=by omega
    simp[zeF,zhj,b5,b6,b3,hf3,htl3,hbig,hbig']
    exact h true _ (by simp) (A1.trans (A.trans A3))
   .have hbig':¬3000<y:=by omega
    simp[zeF,zhj,b5,b6,b3,hf3,htl3,hbig,hbig']
    refine zH5 (by omega) ?_
    cases htg:zeg 24 f.name with
    | false =>
     simp
     exact h true _ (by simp) (A1.trans (A.trans A3))
    | true =>
     simp[zmt,b4,w5]
     refine⟨⟨i+1,y,by omega,by omega,by simp[b1],by simp[b3],by simp,A.trans A3,λj g hj hg=>?_⟩,?_⟩
     .by_cases ej:j=i
      .subst ej
       rw[hget]at hg
       cases hg
       exact⟨by omega,htg⟩
      .exact hall j g (by omega) hg
     .simp only[MU,a4];simp;omega
 .have he:i=m.funcs.length:=by omega
  subst he
  have hfew:∀f∈m.funcs,zJ8 f:=λf hf=>by
   obtain⟨j,hj,rfl⟩:=List.mem_iff_getElem.1 hf
   exact hall j _ hj (yau hj)
  by_cases hb:(40:Int)<(m.funcs.length:Int)
  .have hb':40<m.funcs.length:=by omega
   simp[zjF,zpM,a1,a4,hm2,hfl2,f1,hb,hb']
   exact h true _ (by simp) (A1.trans A)
  .have hb':¬40<m.funcs.length:=by omega
   simp[zjF,zpM,a1,a4,hm2,hfl2,f1,hb,hb']
   refine zow V hG hy (m:=m) ⟨fv,rfl,hft⟩ (zva (by omega) hfew hf) ?_
   cases hck:za7 m with
   | error e =>
    have hne:¬e=0:=λq=>by
     have:=zAd (m:=m) (by rw[hck];exact q)
     rw[hck]at this
     cases this
    simp[zpY,hne]
    exact h true _ (by simp) (A1.trans A)
   | ok u =>
    simp[zpY]
    exact h false _ (λ_=>⟨by omega,hfew,hck⟩) (A1.trans A)
def MnI(m:M)(o:Nat)(fv:AV)(J:AS)(a:Nat->AV)(Z:AS):Prop:=∃i:Nat,i<=m.funcs.length/\(∀f∈m.funcs.take i,f.lists.length<=400)/\a 1=.ptr o 0/\a 3=.int .i64 (i:Int)/\Z.objs o=some [fv,.int .i64 m.memory,.int .i64 m.main]/\Z=J
theorem zIv{m:M}{mv:AV}(hm:Al.MO J mv m)(hl:m.funcs.length<=2^40)(hn:∀f∈m.funcs,f.lists.length<2^40)(h:∀b J',(b=false->∀f∈m.funcs,f.lists.length<=400)->zb J J'->R (.ret (.bool b)) J'):zzQ G 33 [mv] J R:=by
 refine zC3 rfl ?_
 obtain⟨fv,rfl,hfv⟩:=hm
 have f1:=hfv.one
 have A1:zb J (J.newO [fv,.int .i64 m.memory,.int .i64 m.main]):=(zb.refl J).newO
 have hf1:=hfv.keep A1
 have o1:(J.newO [fv,.int .i64 m.memory,.int .i64 m.main]).objs J.no=some [fv,.int .i64 m.memory,.int .i64 m.main]:=by simp
 simp[zLJ,f1]
 generalize J.newO [fv,.int .i64 m.memory,.int .i64 m.main]=J1 at *
 have fl:=hf1.len
 refine zy (MnI m J.no fv J1) (MU 3 (m.funcs.length+1)) ⟨0,yc3 _,by simp,by simp,by simp,o1,rfl⟩ λa Z hI=>?_
 obtain⟨i,hi,hok,a1,a3,ho,rfl⟩:=hI
 by_cases hlt:i<m.funcs.length
 .obtain⟨φ,row,hr,hrow,hat⟩:=hf1.at hlt
  have hr':=hr.read
  have hlti:(i:Int)<(m.funcs.length:Int):=by omega
  have w1:yb4 .i64 ((i:Int)+1)=((i+1:Nat):Int):=by rw[wrap_i64]<;>omega
  have hmem:m.funcs[i]∈m.funcs:=yaw hlt
  have htk:m.funcs.take (i+1)=m.funcs.take i++[m.funcs[i]]:=yc5 hlt
  have hnf:=hn _ hmem
  generalize hf:m.funcs[i]=f at *
  obtain⟨pv,lv,tv,rfl,_,_,ht⟩:=hrow
  have t1:=ht.one
  have tl:=ht.len
  by_cases hb:(400:Int)<(f.lists.length:Int)
  .have hb':400<f.lists.length:=by omega
   simp[zjH,a1,a3,ho,f1,fl,hlt,hlti,hat,hr',t1,tl,hb,hb']
   exact h true _ (by simp) A1
  .have hb':¬400<f.lists.length:=by omega
   simp[zjH,a1,a3,ho,f1,fl,hlt,hlti,hat,hr',t1,tl,hb,hb',w1]
   refine⟨⟨i+1,hlt,λg hg=>?_,by simp[a1],by simp,ho,rfl⟩,?_⟩
   .rw[htk,ybh,ydr]at hg
    rcases hg with hg|rfl
    .exact hok g hg
    .omega
   .simp[MU,a3];omega
 .have e:i=m.funcs.length:=by omega
  simp[zjH,zt8,a1,a3,ho,f1,fl,e]
  exact h false _ (λ_ f hf=>hok f (by rw[e,yc7 (yah _)];exact hf)) A1
end
end Go.Proofs.YtohfclafhegadaaGreatDoor

namespace Go.Proofs.YtohfclafhegadaaGreatDoor
open Go Go.Abs
def zit(M:Mp):Mp:={ M with role:=λB=>match M.role B with
  | some (.fam _)=>some .stat
  | r=>r }
def zAh:Nat->FSt:=λ_=>.dead
def zoW(J:AS):AS:={ J with F:=zAh }
@[simp] theorem zFI(J:AS):(zoW J).objs=J.objs:=rfl
@[simp] theorem zJ9(J:AS):(zoW J).no=J.no:=rfl
theorem zvb{M:Mp}{B f:Nat}(h:M.role B=some (.fam f)):(zit M).role B=some .stat:=by simp[zit,h]
theorem zgk{M:Mp}{B:Nat}{r:Role}(h:M.role B=some r)(hr:∀f,r≠.fam f):(zit M).role B=some r:=by
 cases r with
 | fam f=>exact absurd rfl (hr f)
 | st m=>simp[zit,h]
 | obj=>simp[zit,h]
theorem znf{M:Mp}{F:Nat->FSt}{w:World}:Ext M F w (zit M) zAh w where
 io:=.refl _
 no:=yah _
 nf:=yah _
 obj _ _:=rfl
 dead _ _ _:=rfl
 spoil _ _ _:=by simp[zAh]
 size:=yah _
 shape _ _ _ _ h:=.same h rfl
 stat B m h:=⟨zgk h (λf q=>by cases q),.inl rfl⟩
 free B _ h:=⟨by simp[zit,h],rfl⟩
 famr _ _ _ _ h:=absurd rfl h
 famc _ _ _ _ _:=rfl
end Go.Proofs.YtohfclafhegadaaGreatDoor
namespace Go.Abs
open Go Go.Abs
open Go.Proofs.YtohfclafhegadaaGreatDoor
theorem Sim.kill{M:Mp}{J:AS}{w:World}(S:Sim M J w):Sim (zit M) (zoW J) w where
 no:=S.no
 nf:=S.nf
 role B r h:=by
  cases hq:M.role B with
  | none=>simp[zit,hq]at h
  | some r'=>exact S.role B r' hq
 obj o cs h:=by
  obtain⟨h1,h2,h3⟩:=S.obj o cs h
  refine⟨h1,zgk h2 (λf q=>by cases q),λj hj=>?_⟩
  obtain⟨c,a,b,d⟩:=h3 j hj
  exact⟨c,a,b,d.mono znf⟩
 inj:=S.inj
end Go.Abs
namespace Go.Proofs.YtohfclafhegadaaGreatDoor
open Go Go.Abs
end Go.Proofs.YtohfclafhegadaaGreatDoor
namespace Go.Abs
open Go Go.Abs
open Go.Proofs.YtohfclafhegadaaGreatDoor
theorem VR.kill{M:Mp}{F:Nat->FSt}{w:World}{v:AV}{c:Value}(h:VR M F w v c)(hs:Cb F v):VR (zit M) zAh w (Go.Proofs.YtohfclafhegadaaGreatDoor.clm v) c :=
 h.clmTo (λ_ m h=>zgk h (λf q=>by cases q)) (λ_ f h=>⟨false,zvb h⟩) hs
end Go.Abs
namespace Go.Proofs.YtohfclafhegadaaGreatDoor
open Go Go.Abs
theorem zIw{P:Program}{G:Env}{f:FuncId}{args:List AV}{J:AS}{R:Out->AS->Prop}
  (h:ACalls P G f args J λo J'=>R o J'\/(∃v,o=.ret v/\Cb J'.F v/\R (.ret (clm v)) (zoW J'))\/∃vs,o=.ret (.tuple vs)/\(∀v∈vs,Cb J'.F v)/\R (.ret (.tuple (vs.map clm))) (zoW J')):ACalls P G f args J R:=by
 intro M w cargs S g c
 refine(h M w cargs S g c).mono λe w' ⟨o,J',M',hR,h2,h3,h4⟩=>?_
 rcases hR with hR|⟨v,ho,hv,hR⟩|⟨vs,ho,hv,hR⟩
 .exact⟨o,J',M',hR,h2,h3,h4⟩
 .subst ho
  refine⟨_,_,zit M',hR,?_,h3.kill,h4.trans znf⟩
  cases e<;>simp only[zck]at h2 ⊢
  exact h2.kill hv
 .subst ho
  refine⟨_,_,zit M',hR,?_,h3.kill,h4.trans znf⟩
  cases e<;>simp only[zck]at h2 ⊢
  generalize hq:AV.tuple vs=t at h2
  cases h2 with
  | tuple ws A hA va =>
   cases hq
   refine .tuple _ _ (by simpa using hA) λj h h'=>?_
   rw[yak]
   exact(va j (by simpa using h) h').kill (hv _ (yaw _))
  | _=>cases hq
def zqo(M:Mp):Mp where
 role B:=match M.role B with
  | some (.st m)=>some (.st m)
  | _=>none
 obj:=M.obj
 no:=0
 nf:=1
def zkn(M M':Mp)(n:Nat):Mp:={ M with role:=λB=>match M.role B with
  | some r=>some r
  | none=>if B<n then none else match M'.role B with
   | some (.st m)=>some (.st m)
   | some (.fam _)=>some .stat
   | _=>none }
theorem zrP{M:Mp}{B m}(h:M.role B=some (.st m)):(zqo M).role B=some (.st m):=by simp[zqo,h]
theorem zlP{M:Mp}{B}(h:∀m,M.role B≠some (.st m)):(zqo M).role B=none:=by
 cases hq:M.role B with
 | none=>simp[zqo,hq]
 | some r =>
  cases r with
  | st m=>exact absurd hq (h m)
  | fam f=>simp[zqo,hq]
  | obj=>simp[zqo,hq]
theorem zeV{M M':Mp}{n B r}(h:M.role B=some r):(zkn M M' n).role B=some r:=by simp[zkn,h]
theorem zvc{M M':Mp}{n B}(h:M.role B=none)(hB:B<n):(zkn M M' n).role B=none:=by simp[zkn,h,hB]
end Go.Proofs.YtohfclafhegadaaGreatDoor
namespace Go.Abs
open Go Go.Abs
open Go.Proofs.YtohfclafhegadaaGreatDoor
theorem Sim.rid{M:Mp}{J:AS}{w:World}(S:Sim M J w):Sim (zqo M) AS.bare w where
 no:=rfl
 nf:=rfl
 role B r h:=by
  cases hq:M.role B with
  | none=>simp[zqo,hq]at h
  | some r'=>exact S.role B r' hq
 obj o cs h:=by cases h
 inj o o' h:=by cases h
end Go.Abs
namespace Go.Proofs.YtohfclafhegadaaGreatDoor
open Go Go.Abs
section
variable {M M' : Mp} {J : AS} {w w' : World} {F' : Nat -> FSt}
theorem zrQ(S:Sim M J w)(E:Ext (zqo M) AS.bare.F w M' F' w'){B:Nat}{r:Role}(h:M.role B=some r)(hr:∀m,r≠.st m):w'.heap[B]?=w.heap[B]? :=
 (E.free B (S.role B r h) (zlP λm q=>by rw[h]at q;cases q;exact hr m rfl)).2
theorem zrR(S:Sim M J w)(E:Ext (zqo M) AS.bare.F w M' F' w'):Ext M J.F w (zkn M M' w.heap.size) J.F w' where
 io:=E.io
 no:=yah _
 nf:=yah _
 obj _ _:=rfl
 dead _ _ h:=h
 spoil _ _ h:=by rw[h];simp
 size:=E.size
 shape B c e z h:=by
  obtain⟨c',z',h1,h2,h3⟩:=E.shape B c e z h
  refine⟨c',z',h1,h2,λhn=>?_⟩
  have hB:=(Array.getElem?_eq_some_iff.1 h).1
  have hq:w'.heap[B]?=w.heap[B]?:=(E.free B hB (zlP λm q=>hn m (zeV q))).2
  rw[hq,h]at h1
  cases h1
  exact λ_ _ q=>q
 stat B m h:=⟨zeV h,(E.stat B m (zrP h)).2⟩
 free B hB h:=⟨zvc h hB,(E.free B hB (zlP λm q=>by rw[h]at q;cases q)).2⟩
 famr B f _ h _:=zeV h
 famc B f _ h _:=zrQ S E h (λm q=>by cases q)
theorem zAi(S:Sim M J w)(E:Ext (zqo M) AS.bare.F w M' F' w'){J':AS}(S':Sim M' J' w'):Sim (zkn M M' w.heap.size) J w' where
 no:=S.no
 nf:=S.nf
 role B r h:=by
  cases hq:M.role B with
  | some r'=>exact yag (S.role B r' hq) E.size
  | none =>
   by_cases hB:B<w.heap.size
   .exact yag hB E.size
   .cases hq':M'.role B with
    | none=>simp[zkn,hq,hB,hq']at h
    | some r'=>exact S'.role B r' hq'
 obj o cs h:=by
  obtain⟨h1,h2,h3⟩:=S.obj o cs h
  have hq:=zrQ S E h2 (λm q=>by cases q)
  refine⟨h1,zeV h2,λj hj=>?_⟩
  obtain⟨c,a,b,d⟩:=h3 j hj
  exact⟨c,(zo hq).trans a,(zm hq).trans b,d.mono (zrR S E)⟩
 inj:=S.inj
theorem zEm(S:Sim M J w)(E:Ext (zqo M) AS.bare.F w M' F' w'){v:AV}{c:Value}(h:VR M' F' w' v c)(hs:Cb F' v):VR (zkn M M' w.heap.size) J.F w' (clm v) c:=by
 have old:∀B r,B<w.heap.size->M'.role B=some r->∃m,r=.st m/\M.role B=some (.st m):=λB r hB hr=>by
  cases hq:M.role B with
  | none =>
   have:=(E.free B hB (zlP λm q=>by rw[hq]at q;cases q)).1
   rw[hr]at this;cases this
  | some r' =>
   cases r' with
   | st m =>
    have:=(E.stat B m (zrP hq)).1
    rw[hr]at this;cases this
    exact⟨m,rfl,rfl⟩
   | fam f =>
    have:=(E.free B hB (zlP λm q=>by rw[hq]at q;cases q)).1
    rw[hr]at this;cases this
   | obj =>
    have:=(E.free B hB (zlP λm q=>by rw[hq]at q;cases q)).1
    rw[hr]at this;cases this
 have new:∀B,¬B<w.heap.size->M.role B=none:=λB hB=>by
  cases hq:M.role B with
  | none=>rfl
  | some r=>exact absurd (S.role B r hq) hB
 refine h.clmTo (λB m hm=>?_) (λB f hf=>?_) hs
 .by_cases hB:B<w.heap.size
  .obtain⟨m',e,hm'⟩:=old B _ hB hm
   cases e
   exact zeV hm'
  .simp[zkn,new B hB,hB,hm]
 .by_cases hB:B<w.heap.size
  .obtain⟨m',e,hm'⟩:=old B _ hB hf
   cases e
  .exact⟨false,by simp[zkn,new B hB,hB,hf]⟩
end
theorem zEn{P:Program}{G:Env}{M:Mp}{J:AS}{w:World}(g:GOk P G M J.F w)(hG:∀k,StillI (G.g k))(hy:∀l,¬G.has l):GOk P G (zqo M) AS.bare.F w where
 vars k:=(g.vars k).stillI (λ_ _ h=>zrP h) (hG k)
 yields l hl:=absurd hl (hy l)
 fixed B cs hB:=by
  obtain⟨h1,h2⟩:=g.fixed B cs hB
  exact⟨zrP h1,h2⟩
theorem zAj{P:Program}{G:Env}{f:FuncId}{J:AS}{R:Out->AS->Prop}{vs:List AV}{Q:List AV->Prop}(hG:∀k,StillI (G.g k))(hy:∀l,¬G.has l)(hv:∀v∈vs,∀(M:Mp) (F:Nat->FSt) (w:World) (c:Value),VR M F w v c->VR (zqo M) AS.bare.F w v c)(h:ACalls P G f vs AS.bare λo J'=>∃xs,o=.ret (.tuple xs)/\(∀v∈xs,Cb J'.F v)/\Q xs)(hR:∀xs,Q xs->R (.ret (.tuple (xs.map clm))) J):ACalls P G f vs J R:=by
 intro M w cargs S g c
 refine(h (zqo M) w cargs S.rid (zEn g hG hy) ⟨c.1,λj v hj=>?_⟩).mono λe w' ⟨o,J',M',⟨xs,ho,hx,hq⟩,h2,h3,h4⟩=>?_
 .obtain⟨c0,e0,q0⟩:=c.2 j v hj
  exact⟨c0,e0,hv v (ydb hj) _ _ _ _ q0⟩
 .subst ho
  refine⟨_,J,zkn M M' w.heap.size,hR xs hq,?_,zAi S h4 h3,zrR S h4⟩
  cases e<;>simp only[zck]at h2 ⊢
  generalize hq:AV.tuple xs=t at h2
  cases h2 with
  | tuple ws A hA va =>
   cases hq
   refine .tuple _ _ (by simpa using hA) λj h h'=>?_
   rw[yak]
   exact zEm S h4 (va j (by simpa using h) h') (hx _ (yaw _))
  | _=>cases hq
theorem zvd{P:Program}{G:Env}{f:FuncId}{J:AS}{R:Out->AS->Prop}{vs:List AV}{Q:List AV->Prop}(hG:∀k,StillI (G.g k))(hy:∀l,¬G.has l)(hv:∀v∈vs,Pln v)(h:ACalls P G f vs AS.bare λo J'=>∃xs,o=.ret (.tuple xs)/\(∀v∈xs,Cb J'.F v)/\Q xs)(hR:∀xs,Q xs->R (.ret (.tuple (xs.map clm))) J):ACalls P G f vs J R :=
 zAj hG hy (λv hm _ _ _ _ h=>h.pln (hv v hm)) h hR
theorem zAk{n:Int}(h:n<0):Lib.itoa n=45::Lib.itoa (-n):=by
 unfold Lib.itoa
 rw[if_pos h,if_neg (by omega)]
 congr 2
 omega
theorem zlQ{n:Int}(h0:0<=n)(h:n<10):Lib.itoa n=[UInt8.ofNat (48+n.toNat)]:=by
 unfold Lib.itoa
 rw[if_neg (by omega),Lib.decDigits,dif_pos (by omega)]
theorem zve{n:Int}(h:10<=n):Lib.itoa n=Lib.itoa (n/10)++Lib.itoa (n%10):=by
 rw[zlQ (n:=n%10) (by omega) (by omega)]
 unfold Lib.itoa
 rw[if_neg (by omega),if_neg (by omega),Lib.decDigits,dif_neg (by omega)]
 have e1:(n/10).toNat=n.toNat/10:=by omega
 have e2:(n%10).toNat=n.toNat%10:=by omega
 rw[e1,e2]
theorem zsZ:Lib.itoa (-(2^63))=[45,57,50,50,51,51,55,50,48,51,54,56,53,52,55,55,53,56,48,56]:=by decide +kernel
section
variable {G : Env} {J : AS} {R : Out -> AS -> Prop}
theorem zgY:∀(k:Nat) {n:Int} {J:AS} {R:Out->AS->Prop},0<=n->n<2^63->n.toNat<k->R (.ret (.str (Lib.itoa n))) J->zzQ G 83 [.int .i64 n] J R
 | 0,_,_,_,_,_,h,_=>by omega
 | k+1,n,J,R,h0,h1,hk,h=>by
  refine zue rfl ?_
  have hm:¬n=-9223372036854775808:=by omega
  have hn:¬n<0:=by omega
  by_cases h10:n<10
  .have w1:yb4 .i64 (48+n)=48+n:=by rw[wrap_i64]<;>omega
   have e:=zlQ h0 h10
   have hB:[yc6 .u8 (yb4 .u8 (48+n))]=B (Lib.itoa n):=by
    rw[e]
    have w8:yb4 .u8 (48+n)=((UInt8.ofNat (48+n.toNat)).toNat:Int):=by
     simp[yb4,yao,yap]
     omega
    rw[w8]
    rfl
   simp[zGX,hm,hn,h10,w1]
   rw[zsq hB]
   simp
   exact h
  .have e:=zve (n:=n) (by omega)
   have t1:n.tdiv 10=n/10:=Int.tdiv_eq_ediv_of_nonneg h0
   have t2:n.tmod 10=n%10:=Int.tmod_eq_emod_of_nonneg h0
   have w1:yb4 .i64 (n/10)=n/10:=by rw[wrap_i64]<;>omega
   have w2:yb4 .i64 (n%10)=n%10:=by rw[wrap_i64]<;>omega
   have i1:=Lib.itoa_length_le (n/10) (by omega) (by omega)
   have i2:=Lib.itoa_length_le (n%10) (by omega) (by omega)
   simp[zGX,hm,hn,h10,t1,w1]
   refine zgY k (by omega) (by omega) (by omega) ?_
   simp[t2,w2]
   refine zgY k (by omega) (by omega) (by omega) ?_
   simp
   rw[<-e]
   exact⟨by omega,h⟩
theorem zfy{n:Int}(h0:-(2^63)<=n)(h1:n<2^63)(h:R (.ret (.str (Lib.itoa n))) J):zzQ G 83 [.int .i64 n] J R:=by
 by_cases hn:n<0
 .refine zue rfl ?_
  by_cases hm:n=-9223372036854775808
  .have e:Lib.itoa n=[45,57,50,50,51,51,55,50,48,51,54,56,53,52,55,55,53,56,48,56]:=by rw[hm];exact zsZ
   rw[e]at h
   simp[zGX,hm]
   exact h
  .have w1:yb4 .i64 (-n)=-n:=by rw[wrap_i64]<;>omega
   have e:=zAk hn
   have i1:=Lib.itoa_length_le (-n) (by omega) (by omega)
   simp[zGX,hm,hn,w1]
   refine zgY ((-n).toNat+1) (by omega) (by omega) (by omega) ?_
   simp
   rw[<-e]
   exact⟨by omega,h⟩
 .exact zgY (n.toNat+1) (by omega) h1 (by omega) h
theorem zrS{t:Int}(h:R (.ret (.str (zr (if t=2 then 2 else 1)))) J):zzQ G 85 [.int .i64 t] J R:=by
 refine zDv rfl ?_
 by_cases h2:t=2
 .simp[h2]at h
  simp[zK5,h2]
  exact h
 .simp[h2]at h
  simp[zK5,h2]
  exact h
end
theorem zdr(c:UInt8)(n:Nat)(hn:n<256):c=UInt8.ofNat n↔(c.toNat:Int)=(n:Int):=by
 constructor
 .intro e;subst e;simp;omega
 .intro e;apply UInt8.toNat_inj.1;simp;omega
section
variable {G : Env} {J : AS} {R : Out -> AS -> Prop}
theorem zvf{c:UInt8}(h:R (.ret (.bool (zas c))) J):zzQ G 135 [.int .u8 (c.toNat:Int)] J R:=by
 refine zxn rfl ?_
 have e1:=zdr c 32 (by omega)
 have e2:=zdr c 10 (by omega)
 have e3:=zdr c 40 (by omega)
 have e4:=zdr c 41 (by omega)
 have e5:=zdr c 34 (by omega)
 have hs:zas c=(decide ((c.toNat:Int)=32)||(decide ((c.toNat:Int)=10)||(decide ((c.toNat:Int)=40)||(decide ((c.toNat:Int)=41)||decide ((c.toNat:Int)=34))))):=by
  unfold zas
  have q:∀n:UInt8,(c==n)=decide (c=n):=λn=>by by_cases h:c=n<;>simp[h]
  have f1:decide (c=32)=decide ((c.toNat:Int)=32):=decide_eq_decide.2 e1
  have f2:decide (c=10)=decide ((c.toNat:Int)=10):=decide_eq_decide.2 e2
  have f3:decide (c=40)=decide ((c.toNat:Int)=40):=decide_eq_decide.2 e3
  have f4:decide (c=41)=decide ((c.toNat:Int)=41):=decide_eq_decide.2 e4
  have f5:decide (c=34)=decide ((c.toNat:Int)=34):=decide_eq_decide.2 e5
  rw[ydm,ydm,ydm,ydm,ydm,ydn,Bool.or_false,q,q,q,q,q,f1,f2,f3,f4,f5]
 rw[hs]at h
 by_cases h1:(c.toNat:Int)=32
 .simp[h1]at h
  simp[zsr,h1]
  exact h
 .by_cases h2:(c.toNat:Int)=10
  .simp[h2]at h
   simp[zsr,h1,h2]
   exact h
  .by_cases h3:(c.toNat:Int)=40
   .simp[h3]at h
    simp[zsr,h1,h2,h3]
    exact h
   .by_cases h4:(c.toNat:Int)=41
    .simp[h4]at h
     simp[zsr,h1,h2,h3,h4]
     exact h
    .simp[h1,h2,h3,h4]at h
     simp[zsr,h1,h2,h3,h4]
     exact h
def LkA(x:Nat)(b:List UInt8)(at_:Nat)(J:AS)(a:Nat->AV)(Z:AS):Prop:=∃i:Nat,at_<=i/\i<=b.length/\(b.drop at_).dropWhile zek=(b.drop i).dropWhile zek/\(b.drop at_).all zek=(b.drop i).all zek/\a 0=.ptr x 0/\a 4=.int .i64 (i:Int)/\Z=J
def TwI(p:UInt8->Bool)(b:List UInt8)(s j:Nat):Prop:=(b.drop s).takeWhile p=(b.take j).drop s++(b.drop j).takeWhile p/\(b.drop s).dropWhile p=(b.drop j).dropWhile p
theorem TwI.start(p b s):TwI p b s s:=⟨by rw[show(b.take s).drop s=[] from ydA (by simp;omega)];rfl,rfl⟩
theorem TwI.next{p b s j}(h:TwI p b s j)(hsj:s<=j)(hj:j<b.length)(hp:p b[j]=true):TwI p b s (j+1):=by
 obtain⟨h1,h2⟩:=h
 have hd:b.drop j=b[j]::b.drop (j+1):=ydd hj
 rw[hd]at h1 h2
 rw[List.takeWhile_cons_of_pos hp]at h1
 rw[ydW hp]at h2
 refine⟨?_,h2⟩
 rw[h1,yc5 hj,ydX (by simp;omega)]
 simp
theorem TwI.stop{p b s j}(h:TwI p b s j)(hj:∀q:j<b.length,p b[j]=false):(b.drop s).takeWhile p=(b.take j).drop s/\(b.drop s).dropWhile p=b.drop j:=by
 obtain⟨h1,h2⟩:=h
 by_cases q:j<b.length
 .have hd:b.drop j=b[j]::b.drop (j+1):=ydd q
  have:=hj q
  rw[hd,List.takeWhile_cons_of_neg (by rw[this];simp),yb7]at h1
  rw[hd,ydY (by rw[this];simp),<-hd]at h2
  exact⟨h1,h2⟩
 .have hz:b.drop j=[]:=ydA (by omega)
  rw[hz]at h1 h2 ⊢
  rw[List.takeWhile_nil,yb7]at h1
  exact⟨h1,h2⟩
def LkB(p:UInt8->Bool)(x:Nat)(b:List UInt8)(i:Nat)(J:AS)(a:Nat->AV)(Z:AS):Prop:=∃j:Nat,i+1<=j/\j<=b.length/\TwI p b (i+1) j/\a 0=.ptr x 0/\a 4=.int .i64 (i:Int)/\a 5=.int .i64 (j:Int)/\Z=J
theorem zAl{x:Nat}{b:List UInt8}{i:Nat}{v e:AV}{lv:AV}(ho:J.objs x=some [.str b,v,e,lv])(hve:(v.known=true/\v.one=true/\v.cells=[v])/\(e.known=true/\e.one=true/\e.cells=[e]))(hlv:lv.known=true/\lv.one=true/\lv.cells=[lv])(hi:i<b.length)(hl:b.length<=2^14){a:Nat->AV}(a0:a 0=.ptr x 0)(a4:a 4=.int .i64 (i:Int))
  (h1:∀t at',(if b[i]=40\/b[i]=41 then some ([b[i]],b.drop (i+1))else if b[i]=34 then zc1 (b.drop (i+1))else some (b[i]::(b.drop (i+1)).takeWhile (λx=>!zas x),(b.drop (i+1)).dropWhile λx=>!zas x))=some (t,b.drop at')->i<=at'->at'<=b.length->R (.ret (.tuple [.str t,.int .i64 ((at':Nat):Int)])) J)
  (h2:b[i]=34->zc1 (b.drop (i+1))=none->R (.ret (.tuple [.str [],.int .i64 (i:Int)])) J) (hns:zek b[i]=false):avc yb9 G 150 zjJ (zcq yb9 [.tmp 2,.tmp 3] R) a J:=by
 have hlti:(i:Int)<(b.length:Int):=by omega
 have hd:b.drop i=b[i]::b.drop (i+1):=ydd hi
 have e34:=zdr b[i] 34 (by omega)
 have w1:yb4 .i64 ((i:Int)+1)=((i+1:Nat):Int):=by rw[wrap_i64]<;>omega
 have hni:¬i=b.length:=by omega
 have hnii:¬(i:Int)=(b.length:Int):=by omega
 by_cases c34:(b[i].toNat:Int)=34
 .have c34':b[i]=34:=e34.2 c34
  simp[zjJ,a0,a4,ho,hlv,hve,hi,hlti,hni,hnii,c34,w1]
  refine zy (LkB (λc=>!zrp c) x b i J) (MU 5 (b.length+1)) ⟨i+1,yah _,hi,TwI.start ..,by simp[a0],by simp[a4],by simp,rfl⟩ λa Z hI=>?_
  obtain⟨j,hj1,hj2,hT,a0,a4,a5,rfl⟩:=hI
  have w2:yb4 .i64 ((j:Int)+1)=((j+1:Nat):Int):=by rw[wrap_i64]<;>omega
  by_cases hlt:j<b.length
  .have hltj:(j:Int)<(b.length:Int):=by omega
   have hnj:¬(j:Int)=(b.length:Int):=by omega
   have e1:=zdr b[j] 34 (by omega)
   have e2:=zdr b[j] 10 (by omega)
   have hen:zrp b[j]=(decide ((b[j].toNat:Int)=34)||decide ((b[j].toNat:Int)=10)):=by
    have q:∀n:UInt8,(b[j]==n)=decide (b[j]=n):=λn=>by by_cases h:b[j]=n<;>simp[h]
    have f1:decide (b[j]=34)=decide ((b[j].toNat:Int)=34):=decide_eq_decide.2 e1
    have f2:decide (b[j]=10)=decide ((b[j].toNat:Int)=10):=decide_eq_decide.2 e2
    unfold zrp
    rw[ydm,ydm,ydn,Bool.or_false,q,q,f1,f2]
   by_cases d1:(b[j].toNat:Int)=34
   .obtain⟨t1,t2⟩:=hT.stop (λ_=>by rw[hen];simp[d1])
    have hq:zc1 (b.drop (i+1))=some (34::((b.take j).drop (i+1)++[34]),b.drop (j+1)):=by
     unfold zc1
     rw[t2,ydd hlt,t1]
     simp[e1.2 d1]
    simp[zdc,zdH,a0,a4,a5,ho,hlv,hve,hi,hlti,hlt,hltj,hnj,d1,w2]
    have:=h1 (34::((b.take j).drop (i+1)++[34])) (j+1) (by rw[if_neg (by rw[c34'];decide),if_pos c34',hq]) (by omega) hlt
    have e:(b.take (j+1)).drop i=34::((b.take j).drop (i+1)++[34]):=by
     rw[yc5 hlt,ydX (by simp;omega),ydd (by simp;omega)]
     simp[c34',e1.2 d1]
    refine⟨by omega,by omega,?_⟩
    rw[e]
    simpa using this
   .by_cases d2:(b[j].toNat:Int)=10
    .obtain⟨t1,t2⟩:=hT.stop (λ_=>by rw[hen];simp[d2])
     have hq:zc1 (b.drop (i+1))=none:=by
      unfold zc1
      rw[t2,ydd hlt]
      simp only
      rw[if_neg (λq:b[j]=34=>d1 (e1.1 q))]
     simp[zdc,zdH,a0,a4,a5,ho,hlv,hve,hi,hlti,hlt,hltj,hnj,d1,d2,w2]
     exact h2 c34' hq
    .simp[zdc,zdH,a0,a4,a5,ho,hlv,hve,hi,hlti,hlt,hltj,hnj,d1,d2,w2]
     refine⟨⟨j+1,by omega,hlt,hT.next hj1 hlt (by rw[hen];simp[d1,d2]),by simp[a0],by simp[a4],by simp,rfl⟩,?_⟩
     simp[MU,a5];omega
  .have ej:j=b.length:=by omega
   obtain⟨t1,t2⟩:=hT.stop (λq=>absurd q hlt)
   have hq:zc1 (b.drop (i+1))=none:=by
    unfold zc1
    rw[t2,ydA (by omega)]
   subst ej
   simp[zdc,zdH,a0,a4,a5,ho,hlv,hve,hi,hlti,w2]
   exact h2 c34' hq
 .have c34':¬b[i]=34:=λq=>c34 (e34.1 q)
  rw[if_neg c34']at h1
  simp[zjJ,zpP,a0,a4,ho,hlv,hve,hi,hlti,hni,hnii,c34,w1]
  refine zvf ?_
  by_cases hst:zas b[i]=true
  .have h40:b[i]=40\/b[i]=41:=by
    simp[zas,zek,c34']at hst hns
    rcases hst with q|q|q|q
    .exact absurd q hns.1
    .exact absurd q hns.2
    .exact .inl q
    .exact .inr q
   rw[if_pos h40]at h1
   simp[hst,a0,a4,ho,hlv,hve,hi,hlti,hni,hnii,c34,w1]
   have:=h1 [b[i]] (i+1) rfl (by omega) hi
   have e:(b.take (i+1)).drop i=[b[i]]:=by
    rw[yc5 hi,ydX (by simp;omega),ydA (by simp;omega)]
    rfl
   refine⟨by omega,by omega,?_⟩
   rw[e]
   simpa using this
  .have hst':zas b[i]=false:=by simpa using hst
   have h40:¬(b[i]=40\/b[i]=41):=λq=>hst (by rcases q with q|q<;>rw[q]<;>decide)
   rw[if_neg h40]at h1
   simp[hst',a0,a4,ho,hlv,hve,hi,hlti,hni,hnii,c34,w1]
   refine zy (LkB (λc=>!zas c) x b i J) (MU 5 (b.length+1)) ⟨i+1,yah _,hi,TwI.start ..,by simp[a0],by simp[a4],by simp,rfl⟩ λa Z hI=>?_
   obtain⟨j,hj1,hj2,hT,a0,a4,a5,rfl⟩:=hI
   have w2:yb4 .i64 ((j:Int)+1)=((j+1:Nat):Int):=by rw[wrap_i64]<;>omega
   have fin:(∀q:j<b.length,(!zas b[j])=false)->R (.ret (.tuple [.str ((b.take j).drop i),.int .i64 (j:Int)])) Z:=λq=>by
    obtain⟨t1,t2⟩:=hT.stop q
    have:=h1 (b[i]::(b.take j).drop (i+1)) j (by rw[t1,t2]) (by omega) hj2
    have e:(b.take j).drop i=b[i]::(b.take j).drop (i+1):=by
     rw[ydd (by simp;omega)]
     simp
    rw[e]
    exact this
   by_cases hlt:j<b.length
   .have hltj:(j:Int)<(b.length:Int):=by omega
    have hnj:¬(j:Int)=(b.length:Int):=by omega
    simp[zhl,zhm,a0,a4,a5,ho,hlv,hve,hi,hlti,hlt,hltj,hnj,w2]
    refine zvf ?_
    by_cases hs2:zas b[j]=true
    .have:=fin (λ_=>by rw[hs2];rfl)
     simp[hs2,zhm,a0,a4,a5,ho,hlv,hve,hi,hlti,hlt,hltj,hnj,w2]
     exact⟨by omega,hj2,this⟩
    .have hs3:zas b[j]=false:=by simpa using hs2
     simp[hs3,a0,a4,a5,ho,hlv,hve,hi,hlti,hlt,hltj,hnj,w2]
     refine⟨⟨j+1,by omega,hlt,hT.next hj1 hlt (by rw[hs3];rfl),by simp[a0],by simp[a4],by simp,rfl⟩,?_⟩
     simp[MU,a5];omega
   .have ej:j=b.length:=by omega
    have:=fin (λq=>absurd q hlt)
    subst ej
    simp[zhl,zhm,a0,a4,a5,ho,hlv,hve,hi,hlti,w2]
    rw[yc7 (yah _)]at this
    exact⟨by omega,this⟩
theorem zvg{x:Nat}{b:List UInt8}{at_:Nat}{e:Int}{lv:AV}(ho:J.objs x=some [.str b,.int .i64 (at_:Int),.int .i64 e,lv])(hlv:lv.known=true/\lv.one=true/\lv.cells=[lv])(hle:at_<=b.length)(hl:b.length<=2^14)
  (h1:∀t at',zcr (b.drop at_)=some (t,b.drop at')->at_<=at'->at'<=b.length->R (.ret (.tuple [.str t,.int .i64 ((at':Nat):Int)])) J) (h2:zcr (b.drop at_)=none->∀n:Nat,n<=b.length->(n<b.length↔(b.drop at_).all zek=false)->R (.ret (.tuple [.str [],.int .i64 (n:Int)])) J):zzQ G 68 [.ptr x 0] J R:=by
 refine zDi rfl ?_
 simp[zLT,ho,hlv]
 refine zy (LkA x b at_ J) (MU 4 (b.length+1)) ⟨at_,yah _,hle,rfl,rfl,by simp,by simp,rfl⟩ λa Z hI=>?_
 obtain⟨i,hi1,hi2,hdw,hall,a0,a4,rfl⟩:=hI
 by_cases hlt:i<b.length
 .have hd:b.drop i=b[i]::b.drop (i+1):=ydd hlt
  have hlti:(i:Int)<(b.length:Int):=by omega
  have e1:=zdr b[i] 32 (by omega)
  have e2:=zdr b[i] 10 (by omega)
  have hsp:zek b[i]=(decide ((b[i].toNat:Int)=32)||decide ((b[i].toNat:Int)=10)):=by
   have q:∀n:UInt8,(b[i]==n)=decide (b[i]=n):=λn=>by by_cases h:b[i]=n<;>simp[h]
   have f1:decide (b[i]=32)=decide ((b[i].toNat:Int)=32):=decide_eq_decide.2 e1
   have f2:decide (b[i]=10)=decide ((b[i].toNat:Int)=10):=decide_eq_decide.2 e2
   unfold zek
   rw[ydm,ydm,ydn,Bool.or_false,q,q,f1,f2]
  have w1:yb4 .i64 ((i:Int)+1)=((i+1:Nat):Int):=by rw[wrap_i64]<;>omega
  have nxt:zek b[i]=true->∀a':Nat->AV,a' 0=.ptr x 0->a' 4=.int .i64 ((i+1:Nat):Int)->LkA x b at_ Z a' Z/\MU 4 (b.length+1) a' Z<MU 4 (b.length+1) a Z:=by
   intro hs a' b0 b4
   refine⟨⟨i+1,by omega,hlt,?_,?_,b0,b4,rfl⟩,?_⟩
   .rw[hdw,hd,ydW hs]
   .rw[hall,hd,ycV,hs,Bool.true_and]
   .simp[MU,a4,b4];omega
  by_cases c1:(b[i].toNat:Int)=32
  .simp[zcR,a0,a4,ho,hlv,hlt,hlti,c1,w1]
   exact nxt (by rw[hsp];simp[c1]) _ (by simp[a0]) (by simp)
  .by_cases c2:(b[i].toNat:Int)=10
   .simp[zcR,a0,a4,ho,hlv,hlt,hlti,c1,c2,w1]
    exact nxt (by rw[hsp];simp[c2]) _ (by simp[a0]) (by simp)
   .have hs:zek b[i]=false:=by rw[hsp];simp[c1,c2]
    have hcut:zcr (b.drop at_)=if b[i]=40\/b[i]=41 then some ([b[i]],b.drop (i+1))else if b[i]=34 then zc1 (b.drop (i+1))else some (b[i]::(b.drop (i+1)).takeWhile (λx=>!zas x),(b.drop (i+1)).dropWhile λx=>!zas x):=by
     unfold zcr
     rw[hdw,hd,ydY (by rw[hs];simp)]
    have hali:(b.drop at_).all zek=false:=by rw[hall,hd,ycV,hs,Bool.false_and]
    simp[zcR,a0,a4,ho,hlv,hlt,hlti,c1,c2,w1]
    refine zAl ho ⟨by simp,by simp⟩ hlv hlt hl (by simp[a0]) (by simp[a4]) (λt at' q q1 q2=>h1 t at' (hcut.trans q) (by omega) q2) (λq1 q2=>h2 ?_ i hi2 ?_) hs
    .rw[hcut,if_neg (by rw[q1];decide),if_pos q1,q2]
    .rw[hali];simp[hlt]
 .have ei:i=b.length:=by omega
  subst ei
  simp[zcR,zjJ,a0,a4,ho,hlv]
  refine h2 ?_ _ (yah _) ?_
  .unfold zcr
   rw[hdw]
   simp
  .rw[hall];simp
end
def zbo(J:AS)(x f:Nat):Prop:=∃cs v,J.objs x=some cs/\cs[3]?=some v/\zcJ v=some f
structure zba(x:Nat)(J J':AS):Prop where
 no:J.no<=J'.no
 nf:J.nf<=J'.nf
 obj:∀o,o<J.no->o≠x->J'.objs o=J.objs o
 fam:∀f,f<J.nf->¬zbo J x f->J'.F f=J.F f
 use:∀f,f<J.nf->zbo J' x f->zbo J x f
theorem zba.refl(x J):zba x J J:=⟨yah _,yah _,λ_ _ _=>rfl,λ_ _ _=>rfl,λ_ _ h=>h⟩
theorem zba.trans{x J J1 J2}(h:zba x J J1)(h':zba x J1 J2):zba x J J2 where
 no:=yai h.no h'.no
 nf:=yai h.nf h'.nf
 obj o a b:=by rw[h'.obj o (yag a h.no) b,h.obj o a b]
 fam f a b:=by rw[h'.fam f (yag a h.nf) λu=>b (h.use f a u),h.fam f a b]
 use f a u:=h.use f a (h'.use f (yag a h.nf) u)
theorem zb.keepQ{x J J'}(h:zb J J')(hx:x<J.no):zba x J J' where
 no:=h.no
 nf:=h.nf
 obj o a _:=h.obj o a
 fam f a _:=h.fam f a
 use f _ u:=by unfold zbo at *;rwa [h.obj x hx]at u
structure zW(x:Nat)(J J':AS):Prop where
 no:J.no<=J'.no
 nf:J.nf<=J'.nf
 obj:∀o,o<J.no->o≠x->J'.objs o=J.objs o
 fam:∀f,f<J.nf->J'.F f=J.F f
 lst:∀cs,J.objs x=some cs->∃cs',J'.objs x=some cs'/\cs'[3]?=cs[3]?
 some:(J.objs x).isSome=true
theorem zW.refl{x J cs}(h:J.objs x=yaR cs):zW x J J:=⟨yah _,yah _,λ_ _ _=>rfl,λ_ _=>rfl,λcs h=>⟨cs,h,rfl⟩,by rw[h];rfl⟩
theorem zW.trans{x J J1 J2}(h:zW x J J1)(h':zW x J1 J2):zW x J J2 where
 no:=yai h.no h'.no
 nf:=yai h.nf h'.nf
 obj o a b:=by rw[h'.obj o (yag a h.no) b,h.obj o a b]
 fam f a:=by rw[h'.fam f (yag a h.nf),h.fam f a]
 lst cs e:=by
  obtain⟨c1,e1,e2⟩:=h.lst cs e
  obtain⟨c2,e3,e4⟩:=h'.lst c1 e1
  exact⟨c2,e3,e4.trans e2⟩
 some:=h.some
theorem zW.r{x J J'}(h:zW x J J'):zba x J J' where
 no:=h.no
 nf:=h.nf
 obj:=h.obj
 fam f a _:=h.fam f a
 use f a u:=by
  obtain⟨cs,v,h1,h2,h3⟩:=u
  obtain⟨c0,hc0⟩:=Option.isSome_iff_exists.1 h.some
  obtain⟨c1,e1,e2⟩:=h.lst c0 hc0
  rw[h1]at e1
  cases e1
  exact⟨c0,v,hc0,by rw[<-e2];exact h2,h3⟩
theorem zb.keepP{x J J' cs}(h:zb J J')(hx:x<J.no)(ho:J.objs x=yaR cs):zW x J J' where
 no:=h.no
 nf:=h.nf
 obj o a _:=h.obj o a
 fam f a:=h.fam f a
 lst cs e:=⟨cs,(h.obj x hx).trans e,rfl⟩
 some:=by rw[ho];rfl
theorem zW.set{x J cs cs'}(ho:J.objs x=yaR cs)(h:cs'[3]?=cs[3]?):zW x J (J.setO x cs') where
 no:=yah _
 nf:=yah _
 obj o _ ho:=by simp[ho]
 fam f _:=rfl
 lst c e:=⟨cs',by simp,by rw[h];rw[ho]at e;cases e;rfl⟩
 some:=by rw[ho];rfl
theorem zW.endF{x J Z}(K:zW x J Z){g:Nat}(hg:J.nf<=g):zW x J (Z.setF g .dead) where
 no:=K.no
 nf:=K.nf
 obj:=K.obj
 fam f a:=by
  have:¬f=g:=by omega
  simp[this]
  exact K.fam f a
 lst:=K.lst
 some:=K.some
theorem zW.newF{x J Z}(K:zW x J Z):zW x J Z.newF where
 no:=K.no
 nf:=ydw K.nf
 obj:=K.obj
 fam f a:=by
  have:=K.nf
  have:¬f=Z.nf:=by omega
  simp[this]
  exact K.fam f a
 lst:=K.lst
 some:=K.some
theorem zW.mrg{x J Z}(K:zW x J Z){g:Nat}(hg:J.nf<=g):zW x J (Z.mrg g λ_=>false) where
 no:=K.no
 nf:=K.nf
 obj o a b:=by simpa [AS.mrg]using K.obj o a b
 fam f a:=by
  have:¬f=g:=by omega
  simp[AS.mrg,zkJ,this]
  exact K.fam f a
 lst cs e:=by
  obtain⟨c1,e1,e2⟩:=K.lst cs e
  exact⟨c1,by simpa [AS.mrg]using e1,e2⟩
 some:=K.some
theorem ToR.keepF{base J J' v ls}(h:ToR base J v ls)(hn:J.nf<=J'.nf)(hF:∀f,f<J.nf->J'.F f=J.F f):ToR base J' v ls:=by
 rcases h with h|⟨g,tos,h1,h2,h3,h4,h5⟩
 .exact .inl h
 .exact .inr ⟨g,tos,h1,h2,by omega,(hF g h3).trans h4,h5⟩
theorem zW.other{x J Z}(K:zW x J Z){o:Nat}(ho:J.no<=o)(hne:¬x=o){cs:List AV}:zW x J (Z.setO o cs) where
 no:=K.no
 nf:=K.nf
 obj p h1 h2:=by
  have:¬p=o:=by omega
  simp[this]
  exact K.obj p h1 h2
 fam:=K.fam
 lst cs' e:=by
  obtain⟨c1,e1,e2⟩:=K.lst cs' e
  exact⟨c1,by simp[hne,e1],e2⟩
 some:=K.some
theorem zba.other{x J Z}(K:zba x J Z){o:Nat}(ho:J.no<=o)(hne:¬x=o){cs:List AV}:zba x J (Z.setO o cs) where
 no:=K.no
 nf:=K.nf
 obj p h1 h2:=by
  have:¬p=o:=by omega
  simp[this]
  exact K.obj p h1 h2
 fam:=K.fam
 use f a u:=K.use f a (by
  obtain⟨cs',v,h1,h2,h3⟩:=u
  exact⟨cs',v,by simpa [hne]using h1,h2,h3⟩)
structure Rw(base x:Nat)(b:List UInt8)(at_:Nat)(e:Int)(lv:AV)(ls:To)(J:AS):Prop where
 hx:x<J.no
 hb:0<base/\base<=J.nf
 h0:J.F 0=.alive
 le:at_<=b.length
 hl:b.length<=2^14
 tor:ToR base J lv ls
 cells:J.objs x=some [.str b,.int .i64 (at_:Int),.int .i64 e,lv]
theorem Rw.set{base x b at_ e lv ls J at' e'}(h:Rw base x b at_ e lv ls J)(ha:at'<=b.length):Rw base x b at' e' lv ls (J.setO x [.str b,.int .i64 (at':Int),.int .i64 e',lv]) :=
 ⟨h.hx,h.hb,h.h0,ha,h.hl,h.tor.keepF (yah _) λ_ _=>rfl,by simp⟩
theorem Rw.adds{base x b at_ e lv ls J J'}(h:Rw base x b at_ e lv ls J)(A:zb J J'):Rw base x b at_ e lv ls J':=by
 have hb:=h.hb
 have hn:=A.nf
 exact⟨yag h.hx A.no,⟨hb.1,by omega⟩,(A.fam 0 (by omega)).trans h.h0,h.le,h.hl,h.tor.keepF A.nf λf hf=>A.fam f hf,(A.obj x h.hx).trans h.cells⟩
theorem Rw.other{base x b at_ e lv ls J o cs}(h:Rw base x b at_ e lv ls J)(hne:¬x=o):Rw base x b at_ e lv ls (J.setO o cs) :=
 ⟨h.hx,h.hb,h.h0,h.le,h.hl,h.tor.keepF (yah _) λ_ _=>rfl,by simp[hne,h.cells]⟩
def RwS(base x:Nat)(b:List UInt8)(so:Res Ts)(J:AS):Prop:=∃(at_:Nat) (e:Int) (lv:AV) (ls:To),Rw base x b at_ e lv ls J/\match so with
 | .error e'=>e=e'/\e'≠0
 | .ok s=>e=0/\s.b=b.drop at_/\s.ls=ls
def zdZ{α:Type}(so:Res Ts)(f:Ts->Res (α × Ts))(a:α)(so':Res Ts):Prop:=so.bind f=so'.map λs=>(a,s)
def zej(so:Res Ts):Int:=match so with
 | .error e=>e
 | .ok _=>0
theorem RwS.hx{base x b so J}(h:RwS base x b so J):x<J.no:=by obtain⟨_,_,_,_,h,_⟩:=h;exact h.hx
theorem RwS.base_le{base x b so J}(h:RwS base x b so J):base<=J.nf:=by obtain⟨_,_,_,_,h,_⟩:=h;exact h.hb.2
theorem RwS.base_pos{base x b so J}(h:RwS base x b so J):0<base:=by obtain⟨_,_,_,_,h,_⟩:=h;exact h.hb.1
theorem RwS.adds{base x b so J J'}(h:RwS base x b so J)(A:zb J J'):RwS base x b so J':=by
 obtain⟨at_,e,lv,ls,h,hm⟩:=h
 exact⟨at_,e,lv,ls,h.adds A,hm⟩
theorem RwS.other{base x b so J o cs}(h:RwS base x b so J)(hne:¬x=o):RwS base x b so (J.setO o cs):=by
 obtain⟨at_,e,lv,ls,h,hm⟩:=h
 exact⟨at_,e,lv,ls,h.other hne,hm⟩
theorem RwS.opn{base x b so J}(h:RwS base x b so J):∃(at_:Nat) (lv:AV) (ls:To),J.objs x=some [.str b,.int .i64 (at_:Int),.int .i64 (zej so),lv]/\(lv.known=true/\lv.one=true/\lv.cells=[lv])/\ToR base J lv ls/\at_<=b.length/\b.length<=2^14/\(∀s,so=.ok s->s.b=b.drop at_/\s.ls=ls)/\Rw base x b at_ (zej so) lv ls J:=by
 obtain⟨at_,e,lv,ls,h,hm⟩:=h
 have he:e=zej so:=by
  cases so with
  | error e'=>exact hm.1
  | ok s=>exact hm.1
 subst he
 refine⟨at_,lv,ls,h.cells,h.tor.one,h.tor,h.le,h.hl,?_,h⟩
 rintro s rfl
 exact hm.2
theorem RwS.ne{base x b e J}(h:RwS base x b (.error e) J):e≠0:=by
 obtain⟨_,_,_,_,_,hm⟩:=h
 exact hm.2
theorem RwS.len{base x b s J}(h:RwS base x b (.ok s) J):s.b.length<=b.length/\b.length<=2^14:=by
 obtain⟨at_,e,lv,ls,h,hm⟩:=h
 rw[hm.2.1,ydx]
 exact⟨by omega,h.hl⟩
def zds(c:Int)(so:Res Ts):Res Ts:=match so with
 | .error e=>.error e
 | .ok _=>.error c
section
variable {G : Env} {J : AS} {R : Out -> AS -> Prop}
theorem zbg{base x b so}{c:Int}(hc:c≠0)(h:RwS base x b so J)(hs:∀J',RwS base x b (zds c so) J'->zW x J J'->R (.ret (.tuple [])) J'):zzQ G 73 [.ptr x 0,.int .i64 c] J R:=by
 refine zDn rfl ?_
 obtain⟨at_,e,lv,ls,h,hm⟩:=h
 have ho:=h.cells
 have l1:=h.tor.one
 cases so with
 | error e' =>
  obtain⟨rfl,hne⟩:=hm
  simp[zK1,ho,l1,hne]
  exact hs _ ⟨_,_,_,_,h,rfl,hne⟩ (.refl ho)
 | ok s =>
  obtain⟨rfl,m1,m2⟩:=hm
  simp[zK1,ho,l1,splice]
  exact hs _ ⟨_,_,_,_,h.set h.le,rfl,hc⟩ (.set ho rfl)
theorem zrT{base x b so}(h:RwS base x b so J)(hs:∀(t:List UInt8) (n:Nat),n<=b.length->(∀s,so=.ok s->(zcr s.b=some (t,b.drop n)/\t≠[])\/(t=[]/\zcr s.b=none/\(n<b.length↔s.b.all zek=false)))->R (.ret (.tuple [.str t,.int .i64 (n:Int)])) J):zzQ G 68 [.ptr x 0] J R:=by
 obtain⟨at_,lv,ls,ho,l1,ht,hle,hl,hm,_⟩:=h.opn
 refine zvg ho l1 hle hl (λt at' q q1 q2=>hs t at' q2 λs e=>.inl ?_) (λq n hn q2=>hs [] n hn λs e=>.inr ?_)
 .obtain⟨m1,_⟩:=hm s e
  rw[m1]
  exact⟨q,(zbD q).2⟩
 .obtain⟨m1,_⟩:=hm s e
  rw[m1]
  exact⟨rfl,q,q2⟩
theorem zhC{base x b so}(h:RwS base x b so J)(hs:∀(t:List UInt8) so' J',zdZ so zaj t so'->(∀e,so'=.error e->t=[])->(∀s,so'=.ok s->t≠[])->RwS base x b so' J'->zW x J J'->R (.ret (.str t)) J'):zzQ G 136 [.ptr x 0] J R:=by
 refine zxo rfl ?_
 simp[zHd]
 refine zrT h λt n hn hc=>?_
 obtain⟨at_,lv,ls,ho,l1,ht,hle,hl,hm,hw⟩:=h.opn
 cases so with
 | error e =>
  have hne:=h.ne
  simp only[zej]at ho
  by_cases h0:t=[]
  .simp[h0]
   refine zbg (by decide) h λJ' h' K=>?_
   obtain⟨at2,lv2,ls2,ho2,l2,_⟩:=h'.opn
   simp only[zds,zej]at ho2
   simp[ho2,l2,hne]
   exact hs [] (.error e) _ rfl (λ_ _=>rfl) (λs q=>by cases q) h' K
  .simp[h0,ho,l1,hne]
   exact hs [] (.error e) _ rfl (λ_ _=>rfl) (λs q=>by cases q) h (.refl ho)
 | ok s =>
  simp only[zej]at ho
  rcases hc s rfl with ⟨q1,q2⟩|⟨rfl,q1,q2⟩
  .simp[q2,ho,l1,splice]
   refine hs t (.ok { s with b:=b.drop n }) _ ?_ (λe q=>by cases q) (λ_ _=>q2) ⟨n,0,lv,ls,hw.set hn,rfl,rfl,(hm s rfl).2⟩ (.set ho rfl)
   unfold zdZ zaj
   simp only[Except.bind,Except.map]
   rw[q1]
  .simp
   refine zbg (by decide) h λJ' h' K=>?_
   obtain⟨at2,lv2,ls2,ho2,l2,_⟩:=h'.opn
   simp only[zds,zej]at ho2
   simp[ho2,l2]
   refine hs [] (.error 2) _ ?_ (λ_ _=>rfl) (λs q=>by cases q) h' K
   unfold zdZ zaj
   simp only[Except.bind,Except.map]
   rw[q1]
end
def LQ(x:Nat)(J:AS)(v:AV)(ts:List (List UInt8)):Prop:=(∃φ,v=.sl φ 1 (ts.map yc8)/\Al.Rd J φ)\/∃ob,v=.slm ob 0 1 ts.length/\ob<J.no/\ob≠x/\J.objs ob=some (ts.map yc8)
theorem Rd.keepP{x:Nat}{J J':AS}{φ:Go.Abs.Own}(h:Al.Rd J φ)(K:zW x J J'):Al.Rd J' φ:=by
 cases φ with
 | stat b=>exact trivial
 | fam f b =>
  obtain⟨h1,h2⟩:=h
  exact⟨yag h1 K.nf,(K.fam f h1).trans h2⟩
theorem LQ.keep{x J J' v ts}(h:LQ x J v ts)(K:zW x J J'):LQ x J' v ts:=by
 rcases h with ⟨φ,h,r⟩|⟨ob,h1,h2,h3,h4⟩
 .exact .inl ⟨φ,h,Rd.keepP r K⟩
 .exact .inr ⟨ob,h1,yag h2 K.no,h3,(K.obj ob h2 h3).trans h4⟩
theorem LQ.one{x J v ts}(h:LQ x J v ts):v.known=true/\v.one=true/\v.cells=[v]:=by
 rcases h with ⟨φ,rfl,_⟩|⟨ob,rfl,_⟩<;>simp
def MwI(base x:Nat)(b:List UInt8)(ts:List (List UInt8))(so0:Res Ts)(J:AS)(v:AV)(a:Nat->AV)(Z:AS):Prop:=∃(d r:List (List UInt8)) (so:Res Ts),ts=d++r/\so0.bind (zx ts)=so.bind (zx r)/\a 0=.ptr x 0/\a 1=v/\a 4=.int .i64 (d.length:Int)/\RwS base x b so Z/\zW x J Z/\LQ x Z v ts
section
variable {G : Env} {J : AS} {R : Out -> AS -> Prop}
theorem zrU{base x b so v ts}(h:RwS base x b so J)(hv:LQ x J v ts)(hl:ts.length<1000)(hne:∀t∈ts,t≠[])(hs:∀J',RwS base x b (so.bind (zx ts)) J'->zW x J J'->R (.ret (.tuple [])) J'):zzQ G 69 [.ptr x 0,v] J R:=by
 refine zDj rfl ?_
 obtain⟨at0,lv0,ls0,ho0,_⟩:=h.opn
 have v1:=hv.one
 simp[zLU,v1]
 refine zy (MwI base x b ts so J v) (MU 4 (ts.length+1)) ⟨[],ts,so,rfl,rfl,by simp,by simp,by simp,h,.refl ho0,hv⟩ λa Z hI=>?_
 obtain⟨d,r,so1,hdr,he,a0,a1,a4,hW,hK,hV⟩:=hI
 have fin:∀(t:List UInt8) (r':List (List UInt8)),r=t::r'->∀(so2:Res Ts) (Z2:AS) (a':Nat->AV),so1.bind (zx r)=so2.bind (zx r')->RwS base x b so2 Z2->zW x Z Z2->a' 0=.ptr x 0->a' 1=v->a' 4=.int .i64 ((d.length+1:Nat):Int)->MwI base x b ts so J v a' Z2/\MU 4 (ts.length+1) a' Z2<MU 4 (ts.length+1) a Z:=by
  intro t r' hr so2 Z2 a' q1 q2 q3 b0 b1 b4
  refine⟨⟨d++[t],r',so2,by rw[hdr,hr];simp,by rw[he,q1],b0,b1,by simpa using b4,q2,hK.trans q3,hV.keep q3⟩,?_⟩
  have:d.length<ts.length:=by rw[hdr,hr];simp
  simp[MU,a4,b4];omega
 cases r with
 | nil =>
  have e:ts.length=d.length:=by simp[hdr]
  have hso:so.bind (zx ts)=so1:=by rw[he];cases so1<;>rfl
  rw[hso]at hs
  rcases hV with ⟨φ,rfl,hr⟩|⟨ob,rfl,_⟩
  .simp[zjK,a0,a1,a4,e]
   exact hs _ hW hK
  .simp[zjK,a0,a1,a4,e]
   exact hs _ hW hK
 | cons t r =>
  have hlt:(d.length:Int)<(ts.length:Int):=by simp[hdr];omega
  have hltn:d.length<ts.length:=by simp[hdr]
  have hi:ts[d.length]?=some t:=by simp[hdr]
  have hti:ts[d.length]=t:=(yaq.1 hi).2
  have w1:yb4 .i64 ((d.length:Int)+1)=((d.length+1:Nat):Int):=by rw[wrap_i64]<;>omega
  have htn:t≠[]:=hne t (by rw[hdr];simp)
  have step:∀(t':List UInt8) (so2:Res Ts),zdZ so1 zaj t' so2->so1.bind (zx (t::r))=so2.bind λs=>if t'=t then zx r s else .error 2:=λt' so2 g=>by
   have:so1.bind (zx (t::r))=(so1.bind zaj).bind λp=>if p.1=t then zx r p.2 else .error 2:=by cases so1<;>rfl
   rw[this,show so1.bind zaj=_ from g]
   cases so2<;>rfl
  rcases hV with ⟨φ,rfl,hr⟩|⟨ob,rfl,g1,g2,g3⟩
  .have hr1:=hr.read
   simp[zjK,a0,a1,a4,hlt,hltn,hti,hi,hr1]
   refine zhC hW λt' so2 Z2 g e1 e2 hW2 hK2=>?_
   have hst:=step t' so2 g
   have hr2:=(Rd.keepP hr hK2).read
   by_cases ht:t'=t
   .simp[ht,a0,a1,a4,hlt,hltn,hti,hi,hr2,w1]
    refine fin t r rfl so2 Z2 _ ?_ hW2 hK2 (by simp[a0]) (by simp[a1]) (by simp)
    rw[hst];simp only[if_pos ht]
   .simp[ht,a0,a1,a4,hlt,hltn,hti,hi,hr2,w1]
    refine zbg (by decide) hW2 λZ3 hW3 hK3=>?_
    simp[a0,a1,a4,w1]
    refine fin t r rfl (zds 2 so2) Z3 _ ?_ hW3 (hK2.trans hK3) (by simp[a0]) (by simp[a1]) (by simp)
    rw[hst];simp only[if_neg ht]
    cases so2<;>rfl
  .have g4:=hK.no
   simp[zjK,a0,a1,a4,hlt,hltn,hti,hi,g3]
   refine zhC hW λt' so2 Z2 g e1 e2 hW2 hK2=>?_
   have hst:=step t' so2 g
   have g5:=(hK2.obj ob g1 g2).trans g3
   by_cases ht:t'=t
   .simp[ht,a0,a1,a4,hlt,hltn,hti,hi,g5,w1]
    refine fin t r rfl so2 Z2 _ ?_ hW2 hK2 (by simp[a0]) (by simp[a1]) (by simp)
    rw[hst];simp only[if_pos ht]
   .simp[ht,a0,a1,a4,hlt,hltn,hti,hi,g5,w1]
    refine zbg (by decide) hW2 λZ3 hW3 hK3=>?_
    simp[a0,a1,a4,w1]
    refine fin t r rfl (zds 2 so2) Z3 _ ?_ hW3 (hK2.trans hK3) (by simp[a0]) (by simp[a1]) (by simp)
    rw[hst];simp only[if_neg ht]
    cases so2<;>rfl
def NuJ(x:Nat)(t:List UInt8)(d:List UInt8)(Z0:AS)(a:Nat->AV)(Z:AS):Prop:=∃i:Nat,i<=d.length/\(d.take i).all zB=true/\a 0=.ptr x 0/\a 3=.str t/\a 4=.str d/\a 5=.int .i64 (yb4 .i64 (-(zfG 0 (d.take i):Int)))/\a 6=.int .i64 (i:Int)/\Z=Z0
theorem zAm(A c:Int):yb4 .i64 (yb4 .i64 (10*yb4 .i64 (-A))-c)=yb4 .i64 (-(A*10+c)):=by
 simp[yb4,yao,yap]
 omega
theorem zoX(A:Int):yb4 .i64 (-yb4 .i64 A)=yb4 .i64 (-A):=by
 simp[yb4,yao,yap]
 omega
theorem zvh{t:List UInt8}(h1:zaE t≠[])(h2:(zaE t).all zB=true):zh0 t=if Lib.itoa (yb4 .i64 (zef t))=t then .ok (yb4 .i64 (zef t))else .error 11:=by
 have hv:zh0 t=match Lib.atoiAll t with
   | .ok n=>if Lib.itoa n=t then .ok n else .error 11
   | _=>.error 11:=by
  unfold zh0
  rw[if_neg (by simp[h1,h2])]
  try rfl
 rw[hv,zjS h1 h2]
 by_cases o:-(2^63)<=zef t/\zef t<2^63
 .have w:yb4 .i64 (zef t)=zef t:=by rw[wrap_i64]<;>omega
  rw[if_pos o,w]
 .rw[if_neg o]
  simp only
  rw[if_neg]
  intro e
  have:=zmQ (yb4 .i64 (zef t))
  rw[e]at this
  have hw:=(zcw (zef t)).1
  omega
theorem zng{base x b so}(h:RwS base x b so J)(hs:∀(n:Int) so' J',zdZ so zR n so'->-(2^63)<=n->n<2^63->RwS base x b so' J'->zW x J J'->R (.ret (.int .i64 n)) J'):zzQ G 70 [.ptr x 0] J R:=by
 refine zDk rfl ?_
 simp[zLV]
 refine zhC h λt so1 J1 g e1 e2 h1 K1=>?_
 have hnum:so.bind zR=so1.bind λs=>(zh0 t).map λn=>(n,s):=by
  have:so.bind zR=(so.bind zaj).bind λp=>(zh0 p.1).map λn=>(n,p.2):=by cases so<;>rfl
  rw[this,show so.bind zaj=_ from g]
  cases so1<;>rfl
 obtain⟨at_,lv,ls,ho,l1,ht,hle,hl,hm,hw⟩:=h1.opn
 cases so1 with
 | error e =>
  have hne:=h1.ne
  simp only[zej]at ho
  simp[ho,l1,hne]
  exact hs 0 (.error e) _ (by unfold zdZ;rw[hnum];rfl) (by omega) (by omega) h1 K1
 | ok s =>
  have htn:=e2 s rfl
  have hbad:∀c:Int,c≠0->zh0 t=.error c->∀J',RwS base x b (.error c) J'->zW x J1 J'->R (.ret (.int .i64 0)) J':=λc hc q J' hr hk=>hs 0 (.error c) J' (by unfold zdZ;rw[hnum];simp only[Except.bind];rw[q];rfl) (by omega) (by omega) hr (K1.trans hk)
  obtain⟨c,r,rfl⟩:∃c r,t=c::r:=by
   cases t with
   | nil=>exact absurd rfl htn
   | cons c r=>exact⟨c,r,rfl⟩
  simp only[zej]at ho
  have e45:=zdr c 45 (by omega)
  have htl:(c::r).length<=2^14:=by
   cases so with
   | error e=>cases g
   | ok s0 =>
    have hlen:=h.len
    have g':zaj s0=.ok (c::r,s):=g
    unfold zaj at g'
    cases hc:zcr s0.b with
    | none=>rw[hc]at g';cases g'
    | some p =>
     obtain⟨p1,p2⟩:=p
     rw[hc]at g'
     cases g'
     have:=(zbD hc).1
     omega
  have hbl:(zaE (c::r)).length<=(c::r).length:=by
   unfold zaE
   split<;>simp
  -- the loop over digits
  have go:∀(d:List UInt8) (a:Nat->AV),d=zaE (c::r)->a 0=.ptr x 0->a 3=.str (c::r)->a 4=.str d->a 5=.int .i64 0->a 6=.int .i64 0->zju yb9 G 67 zdI (zai 0 (zan (avc yb9 G 67 zjL (zcq yb9 [.tmp 2] R)) (zcq yb9 [.tmp 2] R))) a J1:=by
   intro d a hd a0 a3 a4 a5 a6
   refine zy (NuJ x (c::r) d J1) (MU 6 (d.length+1)) ⟨0,yc3 _,by simp,a0,a3,a4,by rw[a5];rfl,a6,rfl⟩ λa Z hI=>?_
   obtain⟨i,hi,hall,a0,a3,a4,a5,a6,rfl⟩:=hI
   have hdl:d.length<=2^14:=by rw[hd];omega
   by_cases hlt:i<d.length
   .have hlti:(i:Int)<(d.length:Int):=by omega
    have w1:yb4 .i64 ((i:Int)+1)=((i+1:Nat):Int):=by rw[wrap_i64]<;>omega
    have hdig:zB d[i]=(decide (48<=d[i].toNat)&&decide (d[i].toNat<=57)):=rfl
    have hno:zB d[i]=false->zh0 (c::r)=.error 2:=λq=>by
     unfold zh0
     rw[if_pos]
     have:(zaE (c::r)).all zB=false:=by
      rw[<-hd,List.all_eq_false]
      exact⟨d[i],yaw hlt,by rw[q];simp⟩
     simp[this]
    by_cases d1:(d[i].toNat:Int)<48
    .simp[zdI,a0,a3,a4,a5,a6,hlt,hlti,d1]
     refine zbg (by decide) h1 λJ' h' K'=>?_
     simp
     refine hbad 2 (by decide) (hno ?_) J' h' K'
     rw[hdig];simp;omega
    .by_cases d2:(57:Int)<(d[i].toNat:Int)
     .simp[zdI,a0,a3,a4,a5,a6,hlt,hlti,d1,d2]
      refine zbg (by decide) h1 λJ' h' K'=>?_
      simp
      refine hbad 2 (by decide) (hno ?_) J' h' K'
      rw[hdig];simp;omega
     .have w8:yb4 .u8 ((d[i].toNat:Int)-48)=((d[i].toNat-48:Nat):Int):=by
       simp[yb4,yao,yap]
       omega
      have w9:yb4 .i64 ((d[i].toNat-48:Nat):Int)=((d[i].toNat-48:Nat):Int):=by
       have:=d[i].toNat_lt
       rw[wrap_i64]<;>omega
      have hacc:=zAm (zfG 0 (d.take i):Int) ((d[i].toNat-48:Nat):Int)
      have hdec:(zfG 0 (d.take (i+1)):Int)=(zfG 0 (d.take i):Int)*10+((d[i].toNat-48:Nat):Int):=by
       rw[yc5 hlt,zjP]
       simp[zfG]
      rw[<-hdec]at hacc
      simp[zdI,a0,a3,a4,a5,a6,hlt,hlti,d1,d2,w8,w9,hacc,w1]
      refine⟨⟨i+1,hlt,?_,by simp[a0],by simp[a3],by simp[a4],by simp,by simp,rfl⟩,?_⟩
      .rw[yc5 hlt,List.all_append,hall]
       simp[hdig];omega
      .simp[MU,a6];omega
   .have e:i=d.length:=by omega
    subst e
    rw[yc7 (yah _)]at hall a5
    by_cases hd0:d=[]
    .subst hd0
     simp[zdI,zjL,a0,a3,a4,a5,a6]
     refine zbg (by decide) h1 λJ' h' K'=>?_
     simp
     refine hbad 2 (by decide) ?_ J' h' K'
     unfold zh0
     rw[if_pos (by simp[<-hd])]
    .have hne:¬d.length=0:=λq=>hd0 (ybS.1 q)
     have hnei:¬(d.length:Int)=0:=by omega
     have hv:=zvh (t:=c::r) (by rw[<-hd];exact hd0) (by rw[<-hd];exact hall)
     have hw2:=(zcw (zef (c::r))).1
     have fin:∀J':AS,J'=Z->Lib.itoa (yb4 .i64 (zef (c::r)))=c::r->R (.ret (.int .i64 (yb4 .i64 (zef (c::r))))) J':=λJ' e q=>by
      subst e
      rw[if_pos q]at hv
      exact hs _ (.ok s) _ (by unfold zdZ;rw[hnum];simp only[Except.bind];rw[hv];rfl) hw2.1 hw2.2 h1 K1
     have fin2:¬Lib.itoa (yb4 .i64 (zef (c::r)))=c::r->zh0 (c::r)=.error 11:=λq=>by rw[hv,if_neg q]
     by_cases hsg:d.length<(c::r).length
     .have hsgi:(d.length:Int)<(r.length:Int)+1:=by simp at hsg;omega
      have hval:zef (c::r)=-(zfG 0 d:Int):=by
       have:(c::r).head?=some 45:=by
        by_cases q:(c::r).head?=some 45
        .exact q
        .rw[hd]at hsg;unfold zaE at hsg;rw[if_neg q]at hsg;omega
       unfold zef
       rw[if_pos this,<-hd]
      have e1:yb4 .i64 (-yb4 .i64 (-yb4 .i64 (-(zfG 0 d:Int))))=yb4 .i64 (zef (c::r)):=by
       rw[hval,zoX,Int.neg_neg]
       simp[yb4,yao,yap]
       omega
      simp[zdI,zjL,a0,a3,a4,a5,a6,hne,hnei,hsgi,e1]
      refine zfy hw2.1 hw2.2 ?_
      by_cases q:Lib.itoa (yb4 .i64 (zef (c::r)))=c::r
      .simp[a0,a3,a5,q,e1]
       exact fin _ rfl q
      .simp[a0,a3,a5,q,e1]
       refine zbg (by decide) h1 λJ' h' K'=>?_
       simp
       exact hbad 11 (by decide) (fin2 q) J' h' K'
     .have hsgi:¬(d.length:Int)<(r.length:Int)+1:=by simp at hsg;omega
      have hval:zef (c::r)=(zfG 0 d:Int):=by
       have:¬(c::r).head?=some 45:=λq=>by
        rw[hd]at hsg;unfold zaE at hsg;rw[if_pos q]at hsg;simp at hsg
       unfold zef
       rw[if_neg this,<-hd]
      have e1:yb4 .i64 (-yb4 .i64 (-(zfG 0 d:Int)))=yb4 .i64 (zef (c::r)):=by
       rw[hval,zoX,Int.neg_neg]
      simp[zdI,zjL,a0,a3,a4,a5,a6,hne,hnei,hsgi,e1]
      refine zfy hw2.1 hw2.2 ?_
      by_cases q:Lib.itoa (yb4 .i64 (zef (c::r)))=c::r
      .simp[a0,a3,a5,q,e1]
       exact fin _ rfl q
      .simp[a0,a3,a5,q,e1]
       refine zbg (by decide) h1 λJ' h' K'=>?_
       simp
       exact hbad 11 (by decide) (fin2 q) J' h' K'
  by_cases hc:(c.toNat:Int)=45
  .have hb:r=zaE (c::r):=by
    unfold zaE
    rw[if_pos (by simp[e45.2 hc])]
    rfl
   simp[ho,l1,hc]
   exact⟨by omega,go r _ hb (by simp) (by simp) (by simp) (by simp) (by simp)⟩
  .have hb:c::r=zaE (c::r):=by
    unfold zaE
    rw[if_neg]
    simp
    exact λq=>hc (e45.1 q)
   simp[ho,l1,hc]
   exact go (c::r) _ hb (by simp) (by simp) (by simp) (by simp) (by simp)
theorem RwS.move{base x b s J n}(h:RwS base x b (.ok s) J)(hn:n<=b.length):∃lv,(∃at_:Nat,J.objs x=some [.str b,.int .i64 (at_:Int),.int .i64 0,lv])/\RwS base x b (.ok { s with b:=b.drop n }) (J.setO x [.str b,.int .i64 (n:Int),.int .i64 0,lv])/\zW x J (J.setO x [.str b,.int .i64 (n:Int),.int .i64 0,lv]):=by
 obtain⟨at_,e,lv,ls,h,rfl,m1,m2⟩:=h
 exact⟨lv,⟨at_,h.cells⟩,⟨n,0,lv,ls,h.set hn,rfl,rfl,m2⟩,.set h.cells rfl⟩
theorem zAn{base x b so w}(h:RwS base x b so J)(hw:w≠[])(hn:(∀s,so=.ok s->zfm w s=none)->∀J',RwS base x b so J'->zW x J J'->R (.ret (.bool false)) J')(hs:∀s s',so=.ok s->zfm w s=some s'->∀J',RwS base x b (.ok s') J'->zW x J J'->R (.ret (.bool true)) J'):zzQ G 71 [.ptr x 0,.str [40],.str w] J R:=by
 refine zDl rfl ?_
 obtain⟨at_,lv,ls,ho,l1,ht,hle,hl,hm,hq⟩:=h.opn
 simp[zLW,ho,l1]
 refine zrT h λt n hn1 hc=>?_
 cases so with
 | error e =>
  have hne:=h.ne
  simp only[zej]at ho
  simp[ho,l1,hne]
  exact hn (λs q=>by cases q) _ h (.refl ho)
 | ok s =>
  simp only[zej]at ho
  obtain⟨m1,m2⟩:=hm s rfl
  by_cases h40:t=[40]
  .subst h40
   have hc1:zcr s.b=some ([40],b.drop n):=by
    rcases hc s rfl with ⟨q,_⟩|⟨q,_⟩
    .exact q
    .cases q
   obtain⟨lv2,⟨at2,ho2⟩,hR1,hK1⟩:=h.move hn1
   rw[ho]at ho2
   simp only[yaR.injEq,ydZ.injEq,yc6.injEq,true_and,and_true]at ho2
   obtain⟨_,rfl⟩:=ho2
   have hmw:zfm w s=(match zcr (b.drop n)with|none=>none|some q=>if q.1=w then some { s with b:=q.2 }else none):=by
    unfold zfm
    rw[hc1]
    rfl
   have ho1:(J.setO x [.str b,.int .i64 (n:Int),.int .i64 0,lv]).objs x=some [.str b,.int .i64 (n:Int),.int .i64 0,lv]:=by simp
   simp[ho,l1,splice]
   generalize J.setO x [.str b,.int .i64 (n:Int),.int .i64 0,lv]=J1 at *
   refine zrT hR1 λt2 n2 hn2 hc2=>?_
   have hc3:=hc2 _ rfl
   have back:RwS base x b (.ok s) (J1.setO x [.str b,.int .i64 (at_:Int),.int .i64 0,lv])/\zW x J (J1.setO x [.str b,.int .i64 (at_:Int),.int .i64 0,lv]):=by
    obtain⟨lv3,⟨at3,ho3⟩,hR3,hK3⟩:=hR1.move (n:=at_) hle
    rw[ho1]at ho3
    simp only[yaR.injEq,ydZ.injEq,yc6.injEq,true_and,and_true]at ho3
    obtain⟨_,rfl⟩:=ho3
    refine⟨?_,hK1.trans hK3⟩
    have:({ ({ s with b:=b.drop n }:Ts)with b:=b.drop at_ }:Ts)=s:=by
     cases s
     simp only at m1
     simp[m1]
    rw[<-this]
    exact hR3
   by_cases ht2:t2=w
   .have hc4:zcr (b.drop n)=some (w,b.drop n2):=by
     rcases hc3 with ⟨q,_⟩|⟨q,_⟩
     .rw[<-ht2];exact q
     .exact absurd (ht2.symm.trans q) hw
    obtain⟨lv3,⟨at3,ho3⟩,hR3,hK3⟩:=hR1.move (n:=n2) hn2
    rw[ho1]at ho3
    simp only[yaR.injEq,ydZ.injEq,yc6.injEq,true_and,and_true]at ho3
    obtain⟨_,rfl⟩:=ho3
    simp[ht2,ho1,l1,splice]
    refine hs s { s with b:=b.drop n2 } rfl ?_ _ hR3 (hK1.trans hK3)
    rw[hmw,hc4]
    simp
   .simp[ht2,ho1,l1,splice]
    refine hn (λs' e=>?_) _ back.1 back.2
    cases e
    rw[hmw]
    rcases hc3 with ⟨q,_⟩|⟨_,q,_⟩
    .simp only at q
     rw[q]
     simp[ht2]
    .simp only at q
     rw[q]
  .simp[ho,l1,h40]
   refine hn (λs' e=>?_) _ h (.refl ho)
   cases e
   unfold zfm
   rcases hc s rfl with ⟨q,_⟩|⟨_,q,_⟩
   .rw[q]
    simp only
    rw[if_neg (show ¬t=zj from h40)]
   .rw[q]
def zFJ(c:UInt8)(r:List UInt8)(i:Nat):Bool:=if i=0 then zN c&&r.all (λx=>zN x||zB x)else((c::r).drop i).all λx=>zN x||zB x
def TgQ(t:List UInt8)(c:UInt8)(r:List UInt8)(J:AS)(a:Nat->AV)(Z:AS):Prop:=∃i:Nat,i<=t.length/\zeg 24 t=zFJ c r i/\a 0=.str t/\a 3=.int .i64 (i:Int)/\Z=J
theorem zIx{t:List UInt8}(h:R (.ret (.bool (zeg 24 t))) J):zzQ G 137 [.str t] J R:=by
 refine zxq rfl ?_
 cases t with
 | nil =>
  simp[zxp]
  exact h
 | cons c r =>
  by_cases hl:24<(c::r).length
  .have hli:(24:Int)<(r.length:Int)+1:=by simp at hl;omega
   have h1:¬(r.length:Int)+1<1:=by omega
   have ht:zeg 24 (c::r)=false:=by unfold zeg;simp;intro q;simp at hl;omega
   rw[ht]at h
   simp[zxp,hli,h1]
   exact h
  .have hli:¬(24:Int)<(r.length:Int)+1:=by simp at hl;omega
   have h1:¬(r.length:Int)+1<1:=by omega
   have hle:(c::r).length<=24:=by omega
   simp[zxp,hli,h1]
   refine zy (TgQ (c::r) c r J) (MU 3 25) ⟨0,yc3 _,?_,by simp,by simp,rfl⟩ λa Z hI=>?_
   .unfold zeg zFJ
    simp[decide_eq_true hle]
    simp at hle
    intro _ _
    omega
   obtain⟨i,hi,hg,a0,a3,rfl⟩:=hI
   generalize ht:c::r=t at *
   by_cases hlt:i<t.length
   .have hlti:(i:Int)<(t.length:Int):=by omega
    have w1:yb4 .i64 ((i:Int)+1)=((i+1:Nat):Int):=by rw[wrap_i64]<;>omega
    have e95:=zdr t[i] 95 (by omega)
    have hlet:zN t[i]=((decide (97<=(t[i].toNat:Int))&&decide ((t[i].toNat:Int)<=122))||decide ((t[i].toNat:Int)=95)):=by
     have q:(t[i]==95)=decide (t[i]=95):=by by_cases h:t[i]=95<;>simp[h]
     have f1:decide (t[i]=95)=decide ((t[i].toNat:Int)=95):=decide_eq_decide.2 e95
     have f2:decide (97<=t[i].toNat)=decide (97<=(t[i].toNat:Int)):=decide_eq_decide.2 (by omega)
     have f3:decide (t[i].toNat<=122)=decide ((t[i].toNat:Int)<=122):=decide_eq_decide.2 (by omega)
     unfold zN
     rw[q,f1,f2,f3]
    have hdig:zB t[i]=(decide (48<=(t[i].toNat:Int))&&decide ((t[i].toNat:Int)<=57)):=by
     have f2:decide (48<=t[i].toNat)=decide (48<=(t[i].toNat:Int)):=decide_eq_decide.2 (by omega)
     have f3:decide (t[i].toNat<=57)=decide ((t[i].toNat:Int)<=57):=decide_eq_decide.2 (by omega)
     unfold zB
     rw[f2,f3]
    have hok:(zN t[i]||(decide (0<i)&&zB t[i]))=true->zeg 24 t=zFJ c r (i+1):=by
     intro q
     rw[hg]
     unfold zFJ
     by_cases h0:i=0
     .subst h0
      simp at q
      have:t[0]=c:=by simp[<-ht]
      rw[this]at q
      simp[q]
     .have:(c::r).drop i=t[i]::(c::r).drop (i+1):=by rw[ht];exact ydd hlt
      rw[if_neg h0,if_neg (by omega),this,ycV]
      simp[show 0<i by omega]at q
      rcases q with q|q<;>simp[q]
    have hbad:(zN t[i]||(decide (0<i)&&zB t[i]))=false->zeg 24 t=false:=by
     intro q
     rw[hg]
     unfold zFJ
     by_cases h0:i=0
     .subst h0
      simp at q
      have:t[0]=c:=by simp[<-ht]
      rw[this]at q
      simp[q]
     .have:(c::r).drop i=t[i]::(c::r).drop (i+1):=by rw[ht];exact ydd hlt
      rw[if_neg h0,this,ycV]
      simp[show 0<i by omega]at q
      simp[q]
    have go:(zN t[i]||(decide (0<i)&&zB t[i]))=true->∀a':Nat->AV,a' 0=.str t->a' 3=.int .i64 ((i+1:Nat):Int)->TgQ t c r Z a' Z/\MU 3 25 a' Z<MU 3 25 a Z:=by
     intro q a' b0 b3
     refine⟨⟨i+1,hlt,hok q,b0,b3,rfl⟩,?_⟩
     simp[MU,a3,b3];omega
    have no:(zN t[i]||(decide (0<i)&&zB t[i]))=false->R (.ret (.bool false)) Z:=λq=>by
     rw[<-hbad q];exact h
    rw[hlet,hdig]at go no
    have w0:yb4 .i64 1=1:=rfl
    by_cases c1:(97:Int)<=(t[i].toNat:Int)/\(t[i].toNat:Int)<=122
    .simp[zbV,a0,a3,hlt,hlti,c1.1,c1.2,w1]
     exact go (by simp[c1.1,c1.2]) _ (by simp[a0]) (by simp)
    .by_cases c2:(t[i].toNat:Int)=95
     .simp[zbV,a0,a3,hlt,hlti,c2,w1]
      exact go (by simp[c2]) _ (by simp[a0]) (by simp)
     .have hl0:((decide (97<=(t[i].toNat:Int))&&decide ((t[i].toNat:Int)<=122))||decide ((t[i].toNat:Int)=95))=false:=by
       simp[c2];omega
      rw[hl0]at go no
      have side:(97:Int)<=(t[i].toNat:Int)/\¬(t[i].toNat:Int)<=122\/¬(97:Int)<=(t[i].toNat:Int):=by omega
      by_cases h0:i=0
      .subst h0
       have:=no (by simp)
       rcases side with ⟨s1,s2⟩|s1
       .simp[zbV,a0,a3,hlt,hlti,c2,s1,s2,w1]
        exact this
       .simp[zbV,a0,a3,hlt,hlti,c2,s1,w1]
        exact this
      .have h0i:¬(i:Int)=0:=by omega
       have h0p:0<i:=by omega
       by_cases d1:(t[i].toNat:Int)<48
       .have:=no (by simp;omega)
        have s1:¬(97:Int)<=(t[i].toNat:Int):=by omega
        simp[zbV,a0,a3,hlt,hlti,c2,s1,h0,h0i,d1,w1]
        exact this
       .by_cases d2:(57:Int)<(t[i].toNat:Int)
        .have:=no (by simp;omega)
         rcases side with ⟨s1,s2⟩|s1
         .simp[zbV,a0,a3,hlt,hlti,c2,s1,s2,h0,h0i,d1,d2,w1]
          exact this
         .simp[zbV,a0,a3,hlt,hlti,c2,s1,h0,h0i,d1,d2,w1]
          exact this
        .have s1:¬(97:Int)<=(t[i].toNat:Int):=by omega
         simp[zbV,a0,a3,hlt,hlti,c2,s1,h0,h0i,d1,d2,w1]
         exact go (by simp;omega) _ (by simp[a0]) (by simp)
   .have e:i=t.length:=by omega
    have ht2:zeg 24 t=true:=by
     rw[hg]
     unfold zFJ
     have:¬i=0:=by rw[e,<-ht];simp
     rw[if_neg this,ht,ydA (by omega)]
     rfl
    rw[ht2]at h
    subst e
    simp[zbV,zq9,a0,a3]
    exact h
end
def zgl(J0:AS)(x sz:Nat)(Z:AS)(v:AV)(xs:List AV):Prop:=(xs=[]/\v=.nilsl)\/∃g,v=.sl (.fam g false) sz xs/\J0.nf<=g/\g<Z.nf/\Z.F g=.alive/\¬zbo Z x g
theorem zgl.one{J0 x sz Z v xs}(h:zgl J0 x sz Z v xs):v.known=true/\v.one=true/\v.cells=[v]:=by rcases h with ⟨_,rfl⟩|⟨b,rfl,_⟩<;>simp
theorem zgl.keep{J0 x sz Z Z' v xs}(h:zgl J0 x sz Z v xs)(K:zba x Z Z'):zgl J0 x sz Z' v xs:=by
 rcases h with h|⟨g,h1,h2,h3,h4,h5⟩
 .exact .inl h
 .exact .inr ⟨g,h1,h2,yag h3 K.nf,(K.fam g h3 h5).trans h4,λu=>h5 (K.use g h3 u)⟩
theorem zba.endF{x J Z}(K:zba x J Z){g:Nat}(hg:J.nf<=g):zba x J (Z.setF g .dead) where
 no:=K.no
 nf:=K.nf
 obj:=K.obj
 fam f a b:=by
  have:¬f=g:=by omega
  simp[this]
  exact K.fam f a b
 use f a u:=K.use f a u
theorem zba.newF{x J Z}(K:zba x J Z):zba x J Z.newF where
 no:=K.no
 nf:=ydw K.nf
 obj:=K.obj
 fam f a b:=by
  have:=K.nf
  have:¬f=Z.nf:=by omega
  simp[this]
  exact K.fam f a b
 use f a u:=K.use f a u
theorem RwS.lt{base x b so J}(h:RwS base x b so J){f:Nat}(u:zbo J x f):f<J.nf/\base<=f:=by
 obtain⟨cs,v,h1,h2,h3⟩:=u
 obtain⟨at_,e,lv,ls,h,hm⟩:=h
 rw[h.cells]at h1
 cases h1
 simp at h2
 subst h2
 rcases h.tor with ⟨_,rfl⟩|⟨g,tos,rfl,hg,hg2,_⟩
 .cases h3
 .simp only[zcJ,yaR.injEq]at h3
  omega
theorem RwS.newF{base x b so Z}(h:RwS base x b so Z):RwS base x b so Z.newF:=h.adds (zb.refl Z).newF
theorem RwS.endF{base x b so Z}(h:RwS base x b so Z){g:Nat}(hg:base<=g)(hu:¬zbo Z x g):RwS base x b so (Z.setF g .dead):=by
 obtain⟨at_,e,lv,ls,h,hm⟩:=h
 have ho:=h.cells
 have hb:=h.hb
 refine⟨at_,e,lv,ls,⟨h.hx,hb,?_,h.le,h.hl,?_,ho⟩,hm⟩
 .have:¬0=g:=by omega
  simp[this,h.h0]
 .rcases h.tor with h1|⟨f,tos,h1,h2,h3,h4,h5⟩
  .exact .inl h1
  .have:¬f=g:=λe=>hu ⟨_,_,ho,rfl,by rw[h1,<-e];rfl⟩
   exact .inr ⟨f,tos,h1,h2,h3,by simp[this,h4],h5⟩
theorem RwS.mrg{base x b so Z}(h:RwS base x b so Z){g:Nat}(hg:base<=g)(hu:¬zbo Z x g):RwS base x b so (Z.mrg g λ_=>false):=by
 obtain⟨at_,e,lv,ls,h,hm⟩:=h
 have ho:=h.cells
 have hb:=h.hb
 refine⟨at_,e,lv,ls,⟨h.hx,hb,?_,h.le,h.hl,?_,by simpa [AS.mrg]using ho⟩,hm⟩
 .have:¬0=g:=by omega
  simp[AS.mrg,zkJ,this,h.h0]
 .rcases h.tor with h1|⟨f,tos,h1,h2,h3,h4,h5⟩
  .exact .inl h1
  .have:¬f=g:=λe=>hu ⟨_,_,ho,rfl,by rw[h1,<-e];rfl⟩
   exact .inr ⟨f,tos,h1,h2,h3,by simp[AS.mrg,zkJ,this,h4],h5⟩
theorem zko{el:Option TypeId}{base x b so}{J0 Z:AS}{v row:AV}{xs:List AV}{bsz sz:Nat}{K:AV->AS->Prop}(hG:zgl J0 x sz Z v xs)(hR:RwS base x b so Z)(hK:zba x J0 Z)(hb:base<=J0.nf)(hrow:row.cells.length=sz)(hl:(xs.length+1)*bsz<=2^47)
  (h:∀v' Z',zgl J0 x sz Z' v' (xs++[row])->RwS base x b so Z'->zba x J0 Z'->Z'.objs=Z.objs->Z'.no=Z.no->(zW x J0 Z->zW x J0 Z')->K v' Z'):zb8 el bsz sz v [row] Z K:=by
 have hn:=hK.nf
 rcases hG with ⟨rfl,rfl⟩|⟨g,rfl,h2,h3,h4,h5⟩
 .have hnu:¬zbo Z.newF x Z.nf:=λu=>by have:=(hR.lt (f:=Z.nf) u).1;omega
  have:=h (.sl (.fam Z.nf false) sz [row]) Z.newF (.inr ⟨Z.nf,rfl,hn,by simp,by simp,hnu⟩) hR.newF hK.newF (by simp) (by simp) (λq=>q.newF)
  simp at hl
  simp
  first|exact this|exact⟨by omega,this⟩
 .have hR':=(hR.endF (by omega) h5).newF
  have hK':=(hK.endF h2).newF
  have hnu:¬zbo (Z.setF g .dead).newF x Z.nf:=λu=>by have:=(hR.lt (f:=Z.nf) u).1;omega
  have:=h (.sl (.fam Z.nf false) sz (xs++[row])) (Z.setF g .dead).newF (.inr ⟨Z.nf,rfl,hn,by simp,by simp,hnu⟩) hR' hK' (by simp) (by simp) (λq=>(q.endF h2).newF)
  simp[h4]
  exact⟨hl,this⟩
def MBw(x:Nat)(_:Nat->AV)(Z:AS):Nat:=match Z.objs x with
 | some (_::.int _ n::.int _ 0::_)=>2^14+1-n.toNat
 | _=>0
theorem zid{base x b s Z}(h:RwS base x b (.ok s) Z)(a:Nat->AV):MBw x a Z=2^14+1+s.b.length-b.length/\s.b.length<=b.length/\b.length<=2^14:=by
 obtain⟨at_,e,lv,ls,h,rfl,m1,m2⟩:=h
 have h1:=h.le
 have h2:=h.hl
 unfold MBw
 rw[h.cells]
 simp only[ybe]
 have h3:s.b.length=b.length-at_:=by rw[m1,ydx]
 omega
theorem zqp{base x b e Z}(h:RwS base x b (.error e) Z)(a:Nat->AV):MBw x a Z=0:=by
 obtain⟨at_,e',lv,ls,h,rfl,hne⟩:=h
 unfold MBw
 rw[h.cells]
 split
 .rename_i q
  simp only[yaR.injEq,ydZ.injEq,yc6.injEq,true_and]at q
  exact absurd q.2.2.1.2 hne
 .rfl
theorem zfz{so so':Res Ts}{t:List UInt8}{s s':Ts}(g:zdZ so zaj t so')(e:so=.ok s)(e':so'=.ok s'):zaj s=.ok (t,s')/\t.length+s'.b.length<=s.b.length/\t≠[]/\s'.ls=s.ls:=by
 subst e e'
 have q:zaj s=.ok (t,s'):=g
 exact⟨q,zco q⟩
def zie(s:Ts):Res (List Int × Ts):=zaH (s.b.length+1) [] s
def TqI(base x:Nat)(b:List UInt8)(so0:Res Ts)(J:AS)(a:Nat->AV)(Z:AS):Prop:=∃(k:Nat) (done:List Int) (so:Res Ts),so0.bind zie=so.bind (λs=>zaH k done s)/\(∀s,so=.ok s->s.b.length<k/\done.length+s.b.length<=2^14)/\done.length<=2^14/\a 0=.ptr x 0/\zgl J x 1 Z (a 3) (done.map (.int .i64))/\RwS base x b so Z/\zW x J Z
section
variable {G : Env} {J : AS} {R : Out -> AS -> Prop}
theorem zAo{base x b so}(h:RwS base x b so J)(hs:∀(v:AV) (l:List Int) so' J',zdZ so zie l so'->l.length<=2^14->zgl J x 1 J' v (l.map (.int .i64))->RwS base x b so' J'->zW x J J'->R (.ret v) J'):zzQ G 138 [.ptr x 0] J R:=by
 refine zxr rfl ?_
 obtain⟨at0,lv0,ls0,ho0,_,_,_,hl0,hm0,_⟩:=h.opn
 have hbl:=h.base_le
 simp[zHe]
 refine zy (TqI base x b so J) (MBw x) ⟨(match so with|.ok s=>s.b.length+1|_=>0),[],so,?_,?_,by simp,by simp,.inl ⟨rfl,by simp⟩,h,.refl ho0⟩ λa Z hI=>?_
 .cases so with
  | error e=>rfl
  | ok s=>rfl
 .rintro s rfl
  have:=h.len
  exact⟨by simp,by simp;omega⟩
 obtain⟨k,done,so1,he,hk,hdl,a0,hG,hR,hK⟩:=hI
 obtain⟨at1,lv1,ls1,ho1,l1,_,hle1,hl1,hm1,_⟩:=hR.opn
 cases so1 with
 | error e =>
  have hne:=hR.ne
  simp only[zej]at ho1
  simp[ziG,zra,a0,ho1,l1,hne]
  exact hs .nilsl [] (.error e) _ he (by simp) (.inl ⟨rfl,rfl⟩) hR hK
 | ok s =>
  obtain⟨hk1,hk2⟩:=hk s rfl
  obtain⟨k,rfl⟩:∃j,k=j+1:=⟨k-1,by omega⟩
  simp only[zej]at ho1
  have hmb:=(zid hR a).1
  have hmb2:=(zid hR a).2
  simp[ziG,a0,ho1,l1]
  refine zhC hR λt so2 Z2 g e1 e2 hR2 hK2=>?_
  have hst:so.bind zie=so2.bind λs2=>if t=zBA then zaH k (done++[1]) s2 else if t=zBB then zaH k (done++[2]) s2 else if t=zd/\done≠[]then .ok (done,s2)else .error 2:=by
   rw[he]
   simp only[Except.bind]
   rw[zaH,show zaj s=_ from g]
   cases so2<;>rfl
  have hG2:=hG.keep hK2.r
  have g2:=hG2.one
  have hK12:=hK.trans hK2
  -- a wrong word
  have wrong:∀Z3,RwS base x b (zds 2 so2) Z3->zW x Z2 Z3->(∀s2,so2=.ok s2->so.bind zie=.error 2)->∀a':Nat->AV,a' 0=.ptr x 0->a' 3=a 3->TqI base x b so J a' Z3/\MBw x a' Z3<MBw x a Z:=by
   intro Z3 hR3 hK3 hbad a' b0 b3
   have hf:∃c,zds 2 so2=.error c:=by cases so2<;>exact⟨_,rfl⟩
   obtain⟨c,hc⟩:=hf
   refine⟨⟨0,done,zds 2 so2,?_,λs q=>(by rw[hc]at q;cases q),hdl,b0,by rw[b3];exact hG2.keep hK3.r,hR3,hK12.trans hK3⟩,?_⟩
   .cases so2 with
    | error e=>rw[hst];rfl
    | ok s2=>rw[hbad s2 rfl];rfl
   .rw[hc]at hR3
    rw[zqp hR3,hmb]
    omega
  by_cases h32:t=zBA
  .have h32':t=[105,51,50]:=h32
   simp[h32',g2]
   refine zko (row:=.int .i64 1) hG2 hR2 hK12.r hbl (by simp) (by simp;omega) λv' Z' q1 q2 q3 q4 q5 q6=>?_
   obtain⟨s2,rfl⟩:∃s2,so2=.ok s2:=by
    cases so2 with
    | error e=>have:=e1 e rfl;rw[this]at h32;cases h32
    | ok s2=>exact⟨s2,rfl⟩
   obtain⟨n1,n2,n3,n4⟩:=zfz g rfl rfl
   have ht0:1<=t.length:=ybm.2 n3
   simp
   refine⟨⟨k,done++[1],.ok s2,by rw[hst];simp only[if_pos h32],λs' q=>?_,by simp;omega,by simp[a0],by simpa using q1,q2,q6 hK12⟩,?_⟩
   .cases q;exact⟨by omega,by simp;omega⟩
   .rw[(zid q2 _).1,hmb];omega
  .have h32':¬t=[105,51,50]:=h32
   by_cases h64:t=zBB
   .have h64':t=[105,54,52]:=h64
    simp[h64',g2]
    refine zko (row:=.int .i64 2) hG2 hR2 hK12.r hbl (by simp) (by simp;omega) λv' Z' q1 q2 q3 q4 q5 q6=>?_
    obtain⟨s2,rfl⟩:∃s2,so2=.ok s2:=by
     cases so2 with
     | error e=>have:=e1 e rfl;rw[this]at h64;cases h64
     | ok s2=>exact⟨s2,rfl⟩
    obtain⟨n1,n2,n3,n4⟩:=zfz g rfl rfl
    have ht0:1<=t.length:=ybm.2 n3
    simp
    refine⟨⟨k,done++[2],.ok s2,by rw[hst];simp only[if_neg h32,if_pos h64],λs' q=>?_,by simp;omega,by simp[a0],by simpa using q1,q2,q6 hK12⟩,?_⟩
    .cases q;exact⟨by omega,by simp;omega⟩
    .rw[(zid q2 _).1,hmb];omega
   .have h64':¬t=[105,54,52]:=h64
    by_cases hsh:t=zd
    .have hsh':t=[41]:=hsh
     obtain⟨s2,rfl⟩:∃s2,so2=.ok s2:=by
      cases so2 with
      | error e=>have:=e1 e rfl;rw[this]at hsh;cases hsh
      | ok s2=>exact⟨s2,rfl⟩
     by_cases hd:done=[]
     .subst hd
      have fin:∀Z3,RwS base x b (zds 2 (.ok s2)) Z3->zW x Z2 Z3->R (.ret (a 3)) Z3:=λZ3 hR3 hK3=>by
       refine hs (a 3) [] (.error 2) Z3 ?_ (by simp) (hG2.keep hK3.r) hR3 (hK12.trans hK3)
       unfold zdZ
       rw[hst]
       simp only[Except.bind,if_neg h32,if_neg h64]
       rw[if_neg (λq=>q.2 rfl)]
       rfl
      rcases hG2 with ⟨_,e2⟩|⟨g,e2,_⟩
      .rw[e2]at fin
       simp[hsh',e2,a0]
       refine zbg (c:=2) (by decide) hR2 λZ3 hR3 hK3=>?_
       simp[e2]
       exact fin Z3 hR3 hK3
      .rw[e2]at fin
       simp[hsh',e2,a0]
       refine zbg (c:=2) (by decide) hR2 λZ3 hR3 hK3=>?_
       simp[e2]
       exact fin Z3 hR3 hK3
     .have hdn:¬done.length=0:=λq=>hd (ybS.1 q)
      obtain⟨gf,hv,q1,q2,q3,q4⟩:∃gf,a 3=.sl (.fam gf false) 1 (done.map (.int .i64))/\J.nf<=gf/\gf<Z2.nf/\Z2.F gf=.alive/\¬zbo Z2 x gf:=by
       rcases hG2 with ⟨e1,_⟩|h
       .simp at e1;exact absurd e1 hd
       .exact h
      simp[hsh',hv,hd,hdn]
      refine hs _ done (.ok s2) Z2 ?_ hdl (.inr ⟨gf,rfl,q1,q2,q3,q4⟩) hR2 hK12
      unfold zdZ
      rw[hst]
      simp only[Except.bind,if_neg h32,if_neg h64]
      rw[if_pos ⟨hsh,hd⟩]
      rfl
    .have hsh':¬t=[41]:=hsh
     simp[h32',h64',hsh',a0]
     refine zbg (by decide) hR2 λZ3 hR3 hK3=>?_
     simp
     refine wrong Z3 hR3 hK3 (λs2 e=>?_) _ (by simp[a0]) (by simp)
     rw[hst,e]
     simp only[Except.bind,if_neg h32,if_neg h64]
     rw[if_neg (λq=>hsh q.1)]
theorem zqq{base x b so}(h:RwS base x b so J)(hs:∀(v:AV) (l:List Int) so' J',zdZ so zie l so'->l.length<=2^14->Al.IntsE v l->RwS base x b so' J'->zW x J J'->R (.ret v) J'):zzQ G 138 [.ptr x 0] J R:=by
 refine Al.merging (zAo h λv l so' J' hg hlen hG hR hK=>?_)
 have hnb:=h.base_pos
 have hbl:=h.base_le
 rcases hG with ⟨h1,rfl⟩|⟨g,rfl,h2,h3,h4,h5⟩
 .have hl0:l=[]:=by simpa using h1
  exact .inl (hs _ l so' J' hg hlen (.inl ⟨hl0,.inl rfl⟩) hR hK)
 .have:=hs (.sl (.fam 0 false) 1 (l.map (.int .i64))) l so' (J'.mrg g λ_=>false) hg hlen (.inr ⟨_,rfl⟩) (hR.mrg (by omega) h5) (hK.mrg (by omega))
  refine Al.MrgOr.merged g (λ_=>false) (by omega) h4 ?_
  simpa [Function.comp_def]using this
end
def SJ(va vb:AV)(p q:List Int)(J:AS)(a:Nat->AV)(Z:AS):Prop:=∃i:Nat,i<=p.length/\a 0=va/\a 1=vb/\a 5=.int .i64 (i:Int)/\Z=J/\p.take i=q.take i
theorem zla{G:Env}{J:AS}{R:Out->AS->Prop}{va vb:AV}{p q:List Int}(ha:zaq va p)(hb:zaq vb q)(hl:p.length<=2^40)(h:R (.ret (.bool (decide (p=q)))) J):zzQ G 79 [va,vb] J R:=by
 refine zud rfl ?_
 have hal:=ha.len
 have hbl:=hb.len
 by_cases he:p.length=q.length
 .have he':(p.length:Int)=(q.length:Int):=by omega
  simp[zJO,hal,hbl,he]
  refine zy (SJ va vb p q J) (MU 5 (p.length+1)) ⟨0,by omega,by simp,by simp,by simp,rfl,by simp⟩ λa Z hI=>?_
  obtain⟨i,hi,a0,a1,a5,rfl,ht⟩:=hI
  by_cases hlt:i<p.length
  .have hlq:i<q.length:=by omega
   obtain⟨b1,hx1⟩:=ha.at hlt
   obtain⟨b2,hx2⟩:=hb.at hlq
   have w5:yb4 .i64 ((i:Int)+1)=((i+1:Nat):Int):=by rw[wrap_i64]<;>omega
   by_cases hv:p[i]=q[i]
   .simp[zgb,a0,a1,a5,hal,hlt,hx1,hx2,hv,w5]
    refine⟨⟨i+1,by omega,by simp[a0],by simp[a1],by simp,rfl,?_⟩,?_⟩
    .rw[yc5 hlt,yc5 hlq,ht,hv]
    .simp only[MU,a5];simp;omega
   .have hne:p≠q:=by rintro rfl;exact hv rfl
    rw[decide_eq_false hne]at h
    simp[zgb,a0,a1,a5,hal,hlt,hx1,hx2,hv]
    exact h
  .have e:i=p.length:=by omega
   subst e
   rw[yda,yc7 (by omega)]at ht
   rw[decide_eq_true ht]at h
   simp[zgb,zpQ,a0,a1,a5,hal]
   exact h
 .have hne:p≠q:=by rintro rfl;exact he rfl
  rw[decide_eq_false hne]at h
  have he':¬(p.length:Int)=(q.length:Int):=by omega
  simp[zJO,hal,hbl,he']
  exact h
end Go.Proofs.YtohfclafhegadaaGreatDoor


namespace Go.Proofs.YtohfclafhegadaaGreatDoor
open Go Go.Abs
structure zaN where
 input:List Int
 steps:Int
 memory:List UInt8
 out:List Int
 calls:Int
structure Fr where
 fn:F
 locals:List Int
 stack:List Int
 result:Int
inductive Ev(α:Type) where
 | ok (a:α) (x:zaN) (r:Fr)
 | over (status code:Int) (x:zaN)
 | bad
def Fr.push(r:Fr)(v:Int):Fr:={ r with stack:=r.stack++[v] }
def zcp{α:Type}(r:Fr)(k:Int->Fr->Ev α):Ev α:=match r.stack.getLast? with
 | none=>.bad
 | some v=>k v { r with stack:=r.stack.dropLast }
def zgm(k:IntKind)(op:List UInt8)(a b:Int):Int × Int :=
 if b=0 then(0,1)
 else if op=[37]/\b=-1 then(0,0)
 else if op=[37]then(a.tmod b,0)
 else if b=-1/\a≠0/\k.wrap (-a)=a then(0,2)
 else(k.wrap (a.tdiv b),0)
def zwj(b:Bool):Int:=if b then 1 else 0
def zvi(k:IntKind)(op:List UInt8)(a b:Int)(width:Int):Int :=
 let n:=zb1 .u64 (· &&& ·) (yd0.wrap b) (yd0.wrap (width-1))
 if op=[43]then k.wrap (a+b)
 else if op=[45]then k.wrap (a-b)
 else if op=[42]then k.wrap (a*b)
 else if op=[38]then zb1 k (· &&& ·) a b
 else if op=[124]then zb1 k (· ||| ·) a b
 else if op=[94]then zb1 k (· ^^^ ·) a b
 else if op=[60,60]then k.wrap (a*2^(min n.toNat k.bits))
 else if op=[62,62]then a.fdiv (2^(min n.toNat k.bits))
 else if op=[61,61]then zwj (decide (a=b))
 else if op=[33,61]then zwj (!decide (a=b))
 else if op=[60]then zwj (decide (a<b))
 else if op=[60,61]then zwj (decide (a<=b))
 else if op=[62]then zwj (decide (b<a))
 else if op=[62,61]then zwj (decide (b<=a))
 else 0
def zAp(k:IntKind)(op:List UInt8)(a b:Int)(width:Int):Int × Int :=
 if op=[47]\/op=[37]then zgm k op a b else(zvi k op a b width,0)
def zFK(t:Int)(op:List UInt8)(a b:Int):Int × Int :=
 if t=1 then(yam.wrap (zAp .i32 op (yd1.wrap a) (yd1.wrap b) 32).1,(zAp .i32 op (yd1.wrap a) (yd1.wrap b) 32).2)
 else if t=2 then zAp .i64 op a b 64
 else(0,0)
def zeW:List UInt8->Int
 | []=>0
 | c::l=>(c.toNat:Int)+256*zeW l
def zEo(l:List UInt8):Int:=if zeW l<2^(8*l.length-1)then zeW l else zeW l-2^(8*l.length)
def zvj(v:Int)(i:Nat):UInt8:=UInt8.ofNat (yd2.wrap (v.fdiv (2^(8*i)))).toNat
def zkp{α:Type}(x:zaN)(at_ n:Int)(k:List UInt8->Ev α):Ev α :=
 if n<1\/8<n then .bad else if at_<0\/(x.memory.length:Int)-n<at_ then .over 2 3 x else k ((x.memory.drop at_.toNat).take n.toNat)
def zdt(mem:List UInt8)(at_:Nat)(v:Int)(n:Nat):List UInt8:=mem.take at_++(ya7 n).map (zvj v)++mem.drop (at_+n)
abbrev zgn:=zaN->Fr->Int->Int->Ev Int
def zcx(rec:zgn)(x:zaN)(g:F)(args:List Int)(r:Fr):Ev Int :=
 if 32<=x.calls then .over 2 4 x
 else match rec { x with calls:=x.calls+1 } ⟨g,args++yaj g.locals.length 0,[],0⟩ ((g.lists.length:Int)-1) 0 with
  | .bad=>.bad
  | .over s c x=>.over s c x
  | .ok o x f=>if o=-1/\g.type≠0 then zcp f λv f'=>.ok v { x with calls:=x.calls-1 } r else .ok f.result { x with calls:=x.calls-1 } r
def zav(fs:List F)(rec:zgn)(x:zaN)(r:Fr)(n:Int):Ev Unit :=
 if n=0 then match x.input with
  | []=>.ok () x (r.push 0)
  | v::l=>.ok () { x with input:=l } (r.push v)
 else if n=1 then zcp r λv r=>.ok () { x with out:=x.out++[v] } r
 else if n=2 then zcp r λv r=>.over 2 v x
 else if n<3 then .bad
 else match fs[(n-3).toNat]? with
  | none=>.bad
  | some g =>
   if r.stack.length<g.params.length then .bad
   else match zcx rec x g (r.stack.drop (r.stack.length-g.params.length)) { r with stack:=r.stack.take (r.stack.length-g.params.length) }with
    | .bad=>.bad
    | .over s c x=>.over s c x
    | .ok v x r=>.ok () x (if g.type≠0 then r.push v else r)
def zaw(fs:List F)(rec:zgn)(w:W)(x:zaN)(r:Fr):Ev Unit :=
 if w.op=1 then .ok () x (r.push w.n)
 else if w.op=2 then(if w.n<0 then .bad else match r.locals[w.n.toNat]? with
  | none=>.bad
  | some v=>.ok () x (r.push v))
 else if w.op=3 then(if w.n<0\/(r.locals.length:Int)<=w.n then .bad else zcp r λv r=>.ok () x { r with locals:=r.locals.set w.n.toNat v })
 else if w.op=4 then zcp r λb r=>zcp r λa r =>
  if(zFK w.ty (zbW signs w.name) a b).2≠0 then .over 2 (zFK w.ty (zbW signs w.name) a b).2 x else .ok () x (r.push (zFK w.ty (zbW signs w.name) a b).1)
 else if w.op=5 then zcp r λv r=>.ok () x (r.push (if v=0 then 1 else 0))
 else if w.op=6 then zcp r λv r=>.ok () x (r.push (yd1.wrap v))
 else if w.op=8 then zcp r λa r=>zkp x a w.n λl=>.ok () x (r.push (zEo l))
 else if w.op=9 then zcp r λv r=>zcp r λa r=>zkp x a w.n λl=>.ok () { x with memory:=zdt x.memory a.toNat v l.length } r
 else if w.op=10 then zav fs rec x r w.n
 else if w.op=17 then .over 2 5 x
 else if w.op=18 then zcp r λv r=>.ok () x r
 else .ok () x r
def zcX(rec:zgn)(isLoop:Bool)(at_ deep:Int):Nat->zaN->Fr->Ev Int
 | 0,_,_=>.bad
 | j+1,x,r=>match rec x r at_ deep with
  | .bad=>.bad
  | .over s c x=>.over s c x
  | .ok o x r=>if o=0/\isLoop=true then zcX rec isLoop at_ deep j x r else .ok (if 0<o then o-1 else -1) x r
def za5(rec:zgn)(k:Nat)(w:W)(deep:Int)(x:zaN)(r:Fr):Ev Int :=
 let go (at_:Int) (r:Fr):=if at_<0 then Ev.ok (-1) x r else zcX rec (decide (w.op=12)) at_ deep k x r
 if w.op=13 then zcp r λc r=>go (if c=0 then w.other else w.body) r else go w.body r
def ziu(w:W)(deep:Int)(x:zaN)(r:Fr):Ev Int :=
 let go (n:Int) (r:Fr):=if n=deep/\r.fn.type≠0 then zcp r λv r=>Ev.ok n x { r with result:=v }else .ok n x r
 if w.op=16 then go deep r
 else if w.op=15 then zcp r λc r=>if c=0 then .ok (-1) x r else go w.n r
 else go w.n r
def zcy(fs:List F)(rec:zgn)(k:Nat)(deep:Int)(w:W)(x:zaN)(r:Fr):Ev Int :=
 if w.op=11\/w.op=12\/w.op=13 then za5 rec k w (deep+1) x r
 else if w.op=14\/w.op=15\/w.op=16 then ziu w deep x r
 else match zaw fs rec w x r with
  | .bad=>.bad
  | .over s c x=>.over s c x
  | .ok _ x r=>.ok (-1) x r
def zaL(fs:List F)(rec:zgn)(k:Nat)(deep:Int)(height:Nat):List W->zaN->Fr->Ev Int
 | [],x,r=>.ok (-1) x r
 | w::ws,x,r=>if x.steps<1 then .over 3 0 x else
  match zcy fs rec k deep w { x with steps:=x.steps-1 } r with
  | .bad=>.bad
  | .over s c x=>.over s c x
  | .ok o x r=>if o=-1 then zaL fs rec k deep height ws x r else if r.stack.length<height then .bad else .ok o x { r with stack:=r.stack.take height }
def znh(fs:List F):Nat->zgn
 | 0,_,_,_,_=>.bad
 | k+1,x,r,at_,deep=>if at_<0 then .bad else match r.fn.lists[at_.toNat]? with
  | none=>.bad
  | some ws=>zaL fs (znh fs k) k deep r.stack.length ws x r
def ztr(m:M)(input:List Int)(steps:Int)(k:Nat):Option (List Int × Int × Int) :=
 if m.main<0 then none else match m.funcs[m.main.toNat]? with
 | none=>none
 | some g=>match zcx (znh m.funcs k) ⟨input,steps,yaj m.memory.toNat 0,[],0⟩ g [] ⟨g,[],[],0⟩with
  | .bad=>none
  | .over s c x=>some (x.out,s,c)
  | .ok v x _=>some (x.out,1,v)
theorem zax:∀{ts:List Int} {s s':St},zao ts s=.ok s'->s.any=false->s'.any=false/\s'.stack.length+ts.length=s.stack.length
 | [],s,s',h,ha=>by simp[zao]at h;subst h;exact⟨ha,by simp⟩
 | t::ts,s,s',h,ha=>by
  rw[zao]at h
  split at h
  .cases hd:zed s with
   | error e=>rw[hd]at h;cases h
   | ok s1 =>
    rw[hd]at h
    unfold zed at hd
    split at hd
    .rw[ha]at hd;cases hd
    .rename_i hne
     cases hd
     obtain⟨a1,a2⟩:=zax h ha
     simp only[List.length_dropLast]at a2
     exact⟨a1,by simp only[yac];omega⟩
  .cases h
theorem zvk{s s':St}(h:zed s=.ok s')(ha:s.any=false):s'.any=false/\s'.stack.length+1=s.stack.length:=by
 unfold zed at h
 split at h
 .rw[ha]at h;cases h
 .cases h;exact⟨ha,by simp;omega⟩
theorem zeX(s:St)(t:Int):(zdP s t).any=s.any/\(zdP s t).stack.length=s.stack.length+(if t=0 then 0 else 1):=by
 unfold zdP;split<;>simp
theorem zch{r:Res St}{t:Int}{s':St}(h:zho r t=.ok s'):∃s,r=.ok s/\s'=zdP s t:=by
 cases r with
 | error e=>cases h
 | ok s=>exact⟨s,rfl,by cases h;rfl⟩
theorem zc3{ty:Int}{s s':St}(h:zH ty s=.ok s')(ha:s.any=false):s'.any=false/\s'.stack.length+(if ty=0 then 0 else 1)=s.stack.length:=by
 unfold zH at h
 by_cases h0:ty=0
 .rw[if_pos h0]at h ⊢;cases h;exact⟨ha,rfl⟩
 .rw[if_neg h0]at h ⊢;have:=zax h ha;simpa using this
theorem zgo{α:Type}{r:Fr}{k:Int->Fr->Ev α}(h:0<r.stack.length):∃v st,st.length+1=r.stack.length/\zcp r k=k v { r with stack:=st }:=by
 unfold zcp
 have hne:r.stack≠[]:=ybm.1 h
 rw[yd3 hne]
 exact⟨_,_,by simp;omega,rfl⟩
structure zEp(fs:List F)(r:Fr):Prop where
 mem:r.fn∈fs
 loc:r.locals.length=(r.fn.params++r.fn.locals).length
structure Beh(d:Int)(x x':zaN):Prop where
 steps:x'.steps<=x.steps
 low:min x.steps 0<=x'.steps
 out:∃l,x'.out=x.out++l/\(l.length:Int)<=x.steps-x'.steps+d
theorem Beh.refl(x):Beh 0 x x:=⟨yd4 _,by omega,[],by simp,by simp⟩
theorem Beh.trans{d e a b c}(h:Beh d a b)(k:Beh e b c):Beh (d+e) a c:=by
 obtain⟨h1,h4,l,h2,h3⟩:=h
 obtain⟨k1,k4,m,k2,k3⟩:=k
 exact⟨by omega,by omega,l++m,by rw[k2,h2,List.append_assoc],by simp;omega⟩
theorem Beh.trans0{d a b c}(h:Beh 0 a b)(k:Beh d b c):Beh d a c:=by have:=h.trans k;simpa using this
theorem Beh.weak{d e x x'}(h:Beh d x x')(hd:d<=e):Beh e x x':=⟨h.steps,h.low,let ⟨l,a,b⟩:=h.out;⟨l,a,by omega⟩⟩
theorem Beh.step{x x':zaN}(h:Beh 1 { x with steps:=x.steps-1 } x')(hx:1<=x.steps):Beh 0 x x'/\x'.steps<x.steps:=by
 obtain⟨h1,h4,l,h2,h3⟩:=h
 simp only at h1 h2 h3 h4
 exact⟨⟨by omega,by omega,l,h2,by omega⟩,by omega⟩
def zkq(s c:Int):Prop:=s=2\/(s=3/\c=0)
def zMn(x:zaN)(r:Fr)(deep:Int):Ev Int->Prop
 | .bad=>False
 | .over s c x'=>Beh 0 x x'/\zkq s c
 | .ok o x' r'=>Beh 0 x x'/\r'.fn=r.fn/\r'.locals.length=r.locals.length/\(o=-1->r'.stack.length=r.stack.length+(if deep=0/\r.fn.type≠0 then 1 else 0)) /\
   (o≠-1->0<=o/\o<=deep/\r'.stack.length=r.stack.length/\x'.steps<x.steps/\0<x.steps)
def zqr(fs:List F)(rec:zgn)(n:Nat):Prop:=∀(x:zaN) (r:Fr) (at_ deep:Int) (K:Nat),zEp fs r->x.steps.toNat<n->0<=deep->0<=at_->at_<(r.fn.lists.length:Int) ->
 zaa fs (r.fn.params++r.fn.locals) r.fn.type r.fn.lists K at_ deep=.ok ()->zMn x r deep (rec x r at_ deep)
def zIy(d:Int)(x:zaN)(r:Fr)(h:Nat)(s':St)(deep:Int):Ev Int->Prop
 | .bad=>False
 | .over s c x'=>Beh d x x'/\zkq s c
 | .ok o x' r'=>Beh d x x'/\r'.fn=r.fn/\r'.locals.length=r.locals.length/\(o=-1->s'.any=false/\r'.stack.length=h+s'.stack.length)/\(o≠-1->0<=o/\o<=deep/\h<=r'.stack.length)
def zKa(x:zaN)(r:Fr)(h:Nat)(s':St):Ev Unit->Prop
 | .bad=>False
 | .over s c x'=>Beh 1 x x'/\zkq s c
 | .ok _ x' r'=>Beh 1 x x'/\r'.fn=r.fn/\r'.locals.length=r.locals.length/\s'.any=false/\r'.stack.length=h+s'.stack.length
theorem zlb{fs:List F}{f:F}(h:zn fs f=.ok ()):∃K,zaa fs (f.params++f.locals) f.type f.lists K ((f.lists.length:Int)-1) 0=.ok ():=by
 unfold zn at h
 split at h
 .cases h
 .split at h
  .cases h
  .exact⟨_,h⟩
section
variable {fs : List F} {rec : zgn} {n : Nat} (hv : ∀ f ∈ fs,zn fs f = .ok ())
include hv
theorem zlR(hs:zqr fs rec n){x:zaN}(hx:x.steps.toNat<n){g:F}(hg:g∈fs){args:List Int}(ha:args.length=g.params.length)(r:Fr):
  match zcx rec x g args r with
  | .bad=>False
  | .over s c x'=>Beh 0 x x'/\zkq s c
  | .ok _ x' r'=>Beh 0 x x'/\r'=r:=by
 unfold zcx
 by_cases hc:32<=x.calls
 .rw[if_pos hc];exact⟨.refl _,.inl rfl⟩
 .rw[if_neg hc]
  obtain⟨K,hK⟩:=zlb (hv g hg)
  have hl:=(zcT (zaJ (hv g hg))).1
  have:=hs { x with calls:=x.calls+1 } ⟨g,args++yaj g.locals.length 0,[],0⟩ ((g.lists.length:Int)-1) 0 K ⟨hg,by simp[ha]⟩ hx (by omega) (by omega) (by simp only;omega) hK
  revert this
  cases rec { x with calls:=x.calls+1 } ⟨g,args++yaj g.locals.length 0,[],0⟩ ((g.lists.length:Int)-1) 0 with
  | bad=>intro h;exact h
  | over s c x'=>intro h;exact⟨⟨h.1.steps,h.1.low,h.1.out⟩,h.2⟩
  | ok o x' f =>
   intro ⟨h1,h2,h3,h4,h5⟩
   simp only at h4 ⊢
   by_cases ho:o=-1/\g.type≠0
   .rw[if_pos ho]
    have:=h4 ho.1
    rw[if_pos ⟨trivial,ho.2⟩]at this
    obtain⟨v,st,_,e⟩:=zgo (r:=f) (k:=λv f'=>Ev.ok v { x' with calls:=x'.calls-1 } r) (by simp at this;omega)
    rw[e]
    exact⟨⟨h1.steps,h1.low,h1.out⟩,rfl⟩
   .rw[if_neg ho]
    exact⟨⟨h1.steps,h1.low,h1.out⟩,rfl⟩
theorem plain_sound(hs:zqr fs rec n){x:zaN}(hx:x.steps.toNat<n){r:Fr}(hr:zEp fs r){w:W}{s s':St}{h:Nat}(ha:s.any=false)(hst:r.stack.length=h+s.stack.length){deep:Int}
  (hform:zT w=true) (hrg:zU fs (r.fn.params++r.fn.locals) deep w=true) (hnum:(r.fn.params++r.fn.locals).all zac=true) (hp:zcm fs (r.fn.params++r.fn.locals) w s=.ok s') (hop:w.op<=10\/w.op=18):zKa x r h s' (zaw fs rec w x r):=by
 have b0:Beh 1 x x:=(Beh.refl x).weak (by omega)
 have nz:∀{t:Int},zac t=true->t≠0:=by
  intro t ht q;subst q;simp[zac]at ht
 have push:∀{x':zaN} {r1:Fr} {s1:St} {t v:Int},Beh 1 x x'->r1.fn=r.fn->r1.locals.length=r.locals.length->s1.any=false->r1.stack.length=h+s1.stack.length->t≠0->zKa x r h (zdP s1 t) (.ok () x' (r1.push v)):=by
  intro x' r1 s1 t v b e1 e2 a l ht
  have g:=zeX s1 t
  refine⟨b,e1,e2,g.1.trans a,?_⟩
  rw[g.2,if_neg ht]
  simp[Fr.push,l];omega
 have pop:∀{r1:Fr} {s1 s2:St} {k:Int->Fr->Ev Unit},r1.fn=r.fn->r1.locals.length=r.locals.length->r1.stack.length=h+(s1.stack.length+1)->(∀v (r2:Fr),r2.fn=r.fn->r2.locals.length=r.locals.length->r2.stack.length=h+s1.stack.length->zKa x r h s2 (k v r2))->zKa x r h s2 (zcp r1 k):=by
  intro r1 s1 s2 k e1 e2 l hk
  obtain⟨v,st,hl,e⟩:=zgo (r:=r1) (k:=k) (by omega)
  rw[e]
  exact hk v _ e1 e2 (by simp only;omega)
 unfold zcm at hp
 unfold zaw
 by_cases h1:w.op=1
 .rw[if_pos h1]at hp ⊢
  cases hp
  exact push b0 rfl rfl ha hst (nz (by simpa [zT,h1]using hform))
 rw[if_neg h1]at hp ⊢
 by_cases h2:w.op=2
 .rw[if_pos h2]at hp ⊢
  cases hp
  have hr2:0<=w.n/\w.n<(((r.fn.params++r.fn.locals).length:Nat):Int):=by simpa [zU,h1,h2]using hrg
  rw[if_neg (by omega)]
  have hlt:w.n.toNat<r.locals.length:=by rw[hr.loc];omega
  rw[yau hlt]
  refine push b0 rfl rfl ha hst (nz ?_)
  unfold zjO
  have hlt2:w.n.toNat<(r.fn.params++r.fn.locals).length:=by omega
  rw[ycZ,yau hlt2]
  exact List.all_eq_true.1 hnum _ (yaw hlt2)
 rw[if_neg h2]at hp ⊢
 by_cases h3:w.op=3
 .rw[if_pos h3]at hp ⊢
  have hr2:0<=w.n/\w.n<(((r.fn.params++r.fn.locals).length:Nat):Int):=by simpa [zU,h1,h2,h3]using hrg
  rw[if_neg (by rw[hr.loc];omega)]
  obtain⟨a1,l1⟩:=zax hp ha
  simp only[yac,ybl]at l1
  exact pop (s1:=s') rfl rfl (by omega) λv r2 e1 e2 l=>⟨b0,e1,by simpa using e2,a1,l⟩
 rw[if_neg h3]at hp ⊢
 by_cases h4:w.op=4
 .rw[if_pos h4]at hp ⊢
  obtain⟨s1,e1,rfl⟩:=zch hp
  obtain⟨a1,l1⟩:=zax e1 ha
  simp only[yac,ybl]at l1
  have hty:w.ty≠0:=nz (by
   simp[zT,h4]at hform
   exact hform.1)
  have hcmp:(if zH1 w.name=true then(1:Int)else w.ty)≠0:=by split<;>omega
  clear hp
  generalize (if zH1 w.name=true then(1:Int)else w.ty)=tt at hcmp ⊢
  refine pop (s1:=⟨0::s1.stack,false⟩) rfl rfl (by simp only[yac];omega) λb r2 e2 e3 l2=>?_
  refine pop (s1:=s1) e2 e3 (by simpa using l2) λa r3 e4 e5 l3=>?_
  split
  .exact⟨b0,.inl rfl⟩
  .exact push b0 e4 e5 a1 l3 hcmp
 rw[if_neg h4]at hp ⊢
 by_cases h5:w.op=5
 .rw[if_pos h5]at hp ⊢
  obtain⟨s1,e1,rfl⟩:=zch hp
  obtain⟨a1,l1⟩:=zax e1 ha
  simp only[yac,ybl]at l1
  exact pop (s1:=s1) rfl rfl (by omega) λv r2 e1 e2 l=>push b0 e1 e2 a1 l (by omega)
 rw[if_neg h5]at hp ⊢
 by_cases h6:w.op=6
 .rw[if_pos h6]at hp ⊢
  obtain⟨s1,e1,rfl⟩:=zch hp
  obtain⟨a1,l1⟩:=zax e1 ha
  simp only[yac,ybl]at l1
  exact pop (s1:=s1) rfl rfl (by omega) λv r2 e1 e2 l=>push b0 e1 e2 a1 l (by omega)
 rw[if_neg h6]at hp ⊢
 by_cases h7:w.op=7
 .rw[if_pos h7]at hp
  obtain⟨s1,e1,rfl⟩:=zch hp
  obtain⟨a1,l1⟩:=zax e1 ha
  simp only[yac,ybl]at l1
  rw[if_neg (by omega),if_neg (by omega),if_neg (by omega),if_neg (by omega),if_neg (by omega)]
  have g:=zeX s1 2
  exact⟨b0,rfl,rfl,g.1.trans a1,by rw[g.2,if_neg (by omega)];omega⟩
 rw[if_neg h7]at hp
 by_cases h8:w.op=8
 .rw[if_pos h8]at hp ⊢
  obtain⟨s1,e1,rfl⟩:=zch hp
  obtain⟨a1,l1⟩:=zax e1 ha
  simp only[yac,ybl]at l1
  have hty:w.ty≠0:=by
   intro q
   simp[zT,h1,h4,h5,h8,zfP,q]at hform
  have hn:¬(w.n<1\/8<w.n):=by simp[zT,h1,h4,h5,h8,zfP]at hform;omega
  refine pop (s1:=s1) rfl rfl (by omega) λa r2 e1 e2 l=>?_
  unfold zkp
  rw[if_neg hn]
  split
  .exact⟨b0,.inl rfl⟩
  .exact push b0 e1 e2 a1 l hty
 rw[if_neg h8]at hp ⊢
 by_cases h9:w.op=9
 .rw[if_pos h9]at hp ⊢
  obtain⟨a1,l1⟩:=zax hp ha
  simp only[yac,ybl]at l1
  refine pop (s1:=⟨0::s'.stack,false⟩) rfl rfl (by simp only[yac];omega) λv r2 e2 e3 l2=>?_
  have hn:¬(w.n<1\/8<w.n):=by simp[zT,h1,h4,h5,h9,zfP]at hform;omega
  refine pop (s1:=s') e2 e3 (by simpa using l2) λa r3 e4 e5 l3=>?_
  unfold zkp
  rw[if_neg hn]
  split
  .exact⟨b0,.inl rfl⟩
  .exact⟨⟨b0.steps,b0.low,b0.out⟩,e4,e5,a1,l3⟩
 rw[if_neg h9]at hp ⊢
 by_cases h10:w.op=10
 .rw[if_pos h10]at hp ⊢
  have hh:(zbz fs w.n).isSome=true:=by simpa [zU,h1,h2,h3,h10]using hrg
  unfold zav
  unfold zbz at hp hh
  by_cases n0:w.n=0
  .rw[if_pos n0]at hp ⊢
   simp only[yd5]at hp
   obtain⟨s1,e1,rfl⟩:=zch hp
   cases e1
   cases x.input with
   | nil=>exact push b0 rfl rfl ha hst (by omega)
   | cons v l=>exact push ⟨b0.steps,b0.low,b0.out⟩ rfl rfl ha hst (by omega)
  rw[if_neg n0]at hp hh ⊢
  by_cases n1:w.n=1
  .rw[if_pos n1]at hp ⊢
   simp only[yd6,yd5,ydo]at hp
   obtain⟨s1,e1,e9⟩:=zch hp
   have e9:s'=zdP s1 0:=e9
   obtain⟨a1,l1⟩:=zax e1 ha
   simp only[yac,ybl]at l1
   refine pop (s1:=s1) rfl rfl (by omega) λv r2 e1 e2 l=>?_
   have g:=zeX s1 0
   exact⟨⟨yd4 _,by simp only;omega,[v],rfl,by simp⟩,e1,e2,by rw[e9];exact g.1.trans a1,by rw[e9,g.2,if_pos rfl];omega⟩
  rw[if_neg n1]at hp hh ⊢
  by_cases n2:w.n=2
  .rw[if_pos n2]at hp ⊢
   simp only[yd6,yd5,ydo]at hp
   obtain⟨s1,e1,e9⟩:=zch hp
   obtain⟨a1,l1⟩:=zax e1 ha
   simp only[yac,ybl]at l1
   exact pop (s1:=s1) rfl rfl (by omega) λv r2 e1 e2 l=>⟨b0,.inl rfl⟩
  rw[if_neg n2]at hp hh ⊢
  by_cases n3:w.n<0
  .rw[if_pos n3]at hh;cases hh
  rw[if_neg n3]at hp hh
  rw[if_neg (by omega)]
  cases hg:fs[(w.n-3).toNat]? with
  | none=>rw[hg]at hh;cases hh
  | some g =>
   rw[hg]at hp
   simp only[Option.map_some]at hp ⊢
   obtain⟨s1,e1,rfl⟩:=zch hp
   obtain⟨a1,l1⟩:=zax e1 ha
   rw[List.length_reverse]at l1
   rw[if_neg (by omega)]
   have key:=zlR hv hs hx (ydb hg) (args:=r.stack.drop (r.stack.length-g.params.length)) (by simp;omega) { r with stack:=r.stack.take (r.stack.length-g.params.length) }
   revert key
   cases zcx rec x g (r.stack.drop (r.stack.length-g.params.length)) { r with stack:=r.stack.take (r.stack.length-g.params.length) }with
   | bad=>exact λh=>h
   | over s c x'=>exact λh=>⟨h.1.weak (by omega),h.2⟩
   | ok v x' r' =>
    intro ⟨k1,k2⟩
    subst k2
    simp only
    by_cases hz:g.type=0
    .rw[if_neg (by simpa using hz)]
     have gl:=zeX s1 g.type
     exact⟨k1.weak (by omega),rfl,rfl,gl.1.trans a1,by rw[gl.2,if_pos hz];simp;omega⟩
    .rw[if_pos hz]
     exact push (k1.weak (by omega)) rfl rfl a1 (by simp;omega) hz
 rw[if_neg h10]at hp ⊢
 have h18:w.op=18:=by
  rcases hop with q|q
  .exfalso
   simp[zT,h1,h4,h5,h8,h9]at hform
   omega
  .exact q
 rw[if_pos h18]at hp
 rw[if_neg (by omega),if_pos h18]
 obtain⟨a1,l1⟩:=zvk hp ha
 exact pop (s1:=s') rfl rfl (by omega) λv r2 e1 e2 l=>⟨b0,e1,e2,a1,l⟩
end
section
variable {fs : List F} {rec : zgn} {n : Nat}
theorem zkr(hs:zqr fs rec n){r0:Fr}{K:Nat}{at_ deep:Int}(hd:0<deep)(h0:0<=at_)(h1:at_<(r0.fn.lists.length:Int))(hl:zaa fs (r0.fn.params++r0.fn.locals) r0.fn.type r0.fn.lists K at_ deep=.ok ())(isLoop:Bool):
  ∀(j:Nat) (x:zaN) (r:Fr),zEp fs r->r.fn=r0.fn->x.steps.toNat<n->x.steps.toNat<j ->
  match zcX rec isLoop at_ deep j x r with
  | .bad=>False
  | .over s c x'=>Beh 0 x x'/\zkq s c
  | .ok o x' r'=>Beh 0 x x'/\r'.fn=r.fn/\r'.locals.length=r.locals.length/\r'.stack.length=r.stack.length/\(o=-1\/(0<=o/\o+1<=deep))
 | 0,x,r,_,_,_,hj=>by omega
 | j+1,x,r,hr,hf,hx,hj=>by
  rw[zcX]
  have key:=hs x r at_ deep K hr hx (by omega) h0 (by rw[hf];exact h1) (by rw[hf];exact hl)
  revert key
  cases rec x r at_ deep with
  | bad=>exact λh=>h
  | over s c x'=>exact λh=>h
  | ok o x' r' =>
   intro ⟨k1,k2,k3,k4,k5⟩
   simp only
   have hst:r'.stack.length=r.stack.length:=by
    by_cases ho:o=-1
    .have:=k4 ho;rw[if_neg (by omega)]at this;omega
    .exact(k5 ho).2.2.1
   by_cases hc:o=0/\isLoop=true
   .rw[if_pos hc]
    have hlt:=(k5 (by omega)).2.2.2.1
    have hpos:=(k5 (by omega)).2.2.2.2
    have hb:=k1.steps
    have key:=zkr hs hd h0 h1 hl isLoop j x' r' ⟨by rw[k2];exact hr.mem,by rw[k3,k2];exact hr.loc⟩ (k2.trans hf) (by omega) (by omega)
    revert key
    cases zcX rec isLoop at_ deep j x' r' with
    | bad=>exact λh=>h
    | over s c x2=>exact λh=>⟨k1.trans0 h.1,h.2⟩
    | ok o2 x2 r2=>exact λh=>⟨k1.trans0 h.1,h.2.1.trans k2,h.2.2.1.trans k3,h.2.2.2.1.trans hst,h.2.2.2.2⟩
   .rw[if_neg hc]
    refine⟨k1,k2,k3,hst,?_⟩
    by_cases ho:0<o
    .rw[if_pos ho]
     have:=k5 (by omega)
     exact .inr ⟨by omega,by omega⟩
    .rw[if_neg ho];exact .inl rfl
theorem zeY(hs:zqr fs rec n){k:Nat}{x:zaN}(hx:x.steps.toNat<n)(hxk:x.steps.toNat<k){r:Fr}(hr:zEp fs r){w:W}{h:Nat}{s1:St}{deep:Int}(hd:0<=deep)(ha:s1.any=false)(hst:r.stack.length=h+s1.stack.length+(if w.op=13 then 1 else 0))
  (hb:∃K,0<=w.body/\w.body<(r.fn.lists.length:Int)/\zaa fs (r.fn.params++r.fn.locals) r.fn.type r.fn.lists K w.body (deep+1)=.ok ())
  (ho:w.op=13->0<=w.other->∃K,w.other<(r.fn.lists.length:Int)/\zaa fs (r.fn.params++r.fn.locals) r.fn.type r.fn.lists K w.other (deep+1)=.ok ()) :
  zIy 0 x r h s1 deep (za5 rec k w (deep+1) x r):=by
 have go:∀(at_:Int) (r1:Fr),zEp fs r1->r1.fn=r.fn->r1.locals.length=r.locals.length->r1.stack.length=h+s1.stack.length->(0<=at_->∃K,at_<(r.fn.lists.length:Int)/\zaa fs (r.fn.params++r.fn.locals) r.fn.type r.fn.lists K at_ (deep+1)=.ok ()) ->
   zIy 0 x r h s1 deep (if at_<0 then Ev.ok (-1) x r1 else zcX rec (decide (w.op=12)) at_ (deep+1) k x r1):=by
  intro at_ r1 hr1 e1 e2 e3 hK
  by_cases h0:at_<0
  .rw[if_pos h0]
   exact⟨.refl _,e1,e2,λ_=>⟨ha,e3⟩,λq=>absurd rfl q⟩
  .rw[if_neg h0]
   obtain⟨K,q1,q2⟩:=hK (by omega)
   have key:=zkr hs (r0:=r) (by omega) (by omega) q1 q2 (decide (w.op=12)) k x r1 hr1 e1 hx hxk
   revert key
   cases zcX rec (decide (w.op=12)) at_ (deep+1) k x r1 with
   | bad=>exact λh=>h
   | over s c x2=>exact λh=>h
   | ok o x2 r2 =>
    intro ⟨k1,k2,k3,k4,k5⟩
    refine⟨k1,k2.trans e1,k3.trans e2,λ_=>⟨ha,by omega⟩,λq=>?_⟩
    rcases k5 with k5|k5
    .exact absurd k5 q
    .exact⟨k5.1,by omega,by omega⟩
 unfold za5
 simp only
 obtain⟨K,b0,b1,b2⟩:=hb
 by_cases h13:w.op=13
 .rw[if_pos h13]at hst ⊢
  obtain⟨v,st,hl,e⟩:=zgo (r:=r) (k:=λc r=>if(if c=0 then w.other else w.body)<0 then Ev.ok (-1) x r else zcX rec (decide (w.op=12)) (if c=0 then w.other else w.body) (deep+1) k x r) (by omega)
  rw[e]
  refine go _ _ ⟨hr.mem,hr.loc⟩ rfl rfl (by simp only;omega) λq=>?_
  by_cases hv0:v=0
  .rw[if_pos hv0]at q ⊢;exact ho h13 q
  .rw[if_neg hv0]at q ⊢;exact⟨K,b1,b2⟩
 .rw[if_neg h13]at hst ⊢
  exact go _ _ hr rfl rfl (by omega) λ_=>⟨K,b1,b2⟩
end
section
variable {fs : List F} {rec : zgn} {n : Nat} (hv : ∀ f ∈ fs,zn fs f = .ok ())
include hv
theorem zs0(hs:zqr fs rec n){k:Nat}{x:zaN}(hx:x.steps.toNat<n)(hxk:x.steps.toNat<k){r:Fr}(hr:zEp fs r){w:W}{h:Nat}{s s':St}{deep:Int}{K:Nat}(hd:0<=deep)(ha:s.any=false)(hst:r.stack.length=h+s.stack.length)
  (hin:∀m∈zi w,0<=m/\m<(r.fn.lists.length:Int))
  (hi:zV fs (r.fn.params++r.fn.locals) r.fn.type deep (zaa fs (r.fn.params++r.fn.locals) r.fn.type r.fn.lists K) w s=.ok s'):zIy 1 x r h s' deep (zcy fs rec k deep w x r):=by
 have hnum:(r.fn.params++r.fn.locals).all zac=true:=by
  have:=hv _ hr.mem
  unfold zn at this
  split at this
  .cases this
  .rename_i q
   simp only[Bool.and_eq_true,Bool.not_eq_false]at q
   exact q.1.1
 have b0:Beh 1 x x:=(Beh.refl x).weak (by omega)
 unfold zV at hi
 by_cases hf:zT w=false
 .rw[if_pos hf]at hi;cases hi
 rw[if_neg hf]at hi
 by_cases hg:zU fs (r.fn.params++r.fn.locals) deep w=false
 .rw[if_pos hg]at hi;cases hi
 rw[if_neg hg]at hi
 have up:∀{e:Ev Int},zIy 0 x r h s' deep e->zIy 1 x r h s' deep e:=by
  intro e he
  cases e with
  | bad=>exact he
  | over s c x'=>exact⟨he.1.weak (by omega),he.2⟩
  | ok o x' r'=>exact⟨he.1.weak (by omega),he.2⟩
 unfold zcy
 by_cases h11:w.op=11\/w.op=12
 .rw[if_pos h11]at hi
  rw[if_pos (by omega)]
  have hn:zi w=[w.body]:=by unfold zi;rw[if_pos (by omega)]
  rw[hn]at hin
  have hb:=hin w.body (by simp)
  cases hl:zaa fs (r.fn.params++r.fn.locals) r.fn.type r.fn.lists K w.body (deep+1)with
  | error e=>rw[hl]at hi;cases hi
  | ok u =>
   rw[hl]at hi
   cases hi
   exact up (zeY hs hx hxk hr hd ha (by rw[if_neg (by omega)];omega) ⟨K,hb.1,hb.2,hl⟩ (λq=>by omega))
 rw[if_neg h11]at hi
 by_cases h13:w.op=13
 .rw[if_pos h13]at hi
  rw[if_pos (by omega)]
  cases ht:zao [1] s with
  | error e=>rw[ht]at hi;cases hi
  | ok s1 =>
   rw[ht]at hi
   simp only at hi
   obtain⟨a1,l1⟩:=zax ht ha
   simp only[yac,ybl]at l1
   cases hl:zaa fs (r.fn.params++r.fn.locals) r.fn.type r.fn.lists K w.body (deep+1)with
   | error e=>rw[hl]at hi;cases hi
   | ok u =>
    rw[hl]at hi
    simp only at hi
    have hb:0<=w.body/\w.body<(r.fn.lists.length:Int):=hin w.body (by
     unfold zi
     by_cases ho:w.other<0
     .rw[if_pos (by omega)];simp
     .rw[if_neg (by omega),if_pos h13];simp)
    by_cases ho:0<=w.other
    .rw[if_pos ho]at hi
     cases hl2:zaa fs (r.fn.params++r.fn.locals) r.fn.type r.fn.lists K w.other (deep+1)with
     | error e=>rw[hl2]at hi;cases hi
     | ok u2 =>
      rw[hl2]at hi
      cases hi
      have hb2:=hin w.other (by unfold zi;rw[if_neg (by omega),if_pos h13];simp)
      exact up (zeY hs hx hxk hr hd a1 (by rw[if_pos h13];omega) ⟨K,hb.1,hb.2,hl⟩ (λ_ _=>⟨K,hb2.2,hl2⟩))
    .rw[if_neg ho]at hi
     cases hi
     exact up (zeY hs hx hxk hr hd a1 (by rw[if_pos h13];omega) ⟨K,hb.1,hb.2,hl⟩ (λ_ q=>absurd q ho))
 rw[if_neg h13]at hi
 have ret:∀{s2:St} {r1:Fr} {q:Int},zH r.fn.type s=.ok s2\/True->True:=λ_=>trivial
 by_cases h15:w.op=15
 .rw[if_pos h15]at hi
  rw[if_neg (by omega),if_pos (by omega)]
  have hrg:0<=w.n/\w.n<=deep:=by
   have q:zU fs (r.fn.params++r.fn.locals) deep w=true:=by simpa using hg
   simpa [zU,h15]using q
  cases ht:zao [1] s with
  | error e=>rw[ht]at hi;cases hi
  | ok s1 =>
   rw[ht]at hi
   simp only at hi
   obtain⟨a1,l1⟩:=zax ht ha
   simp only[yac,ybl]at l1
   unfold ziu
   simp only
   rw[if_neg (by omega),if_pos h15]
   obtain⟨v,st,hl,e⟩:=zgo (r:=r) (k:=λc r=>if c=0 then Ev.ok (-1) x r else if w.n=deep/\r.fn.type≠0 then zcp r λv r=>Ev.ok w.n x { r with result:=v }else .ok w.n x r) (by omega)
   rw[e]
   have hs':s'.any=false/\s'.stack.length=s1.stack.length/\(w.n=deep->r.fn.type≠0->0<s1.stack.length):=by
    by_cases hq:w.n=deep
    .rw[if_pos hq]at hi
     obtain⟨s2,e2,rfl⟩:=zch hi
     obtain⟨a2,l2⟩:=zc3 e2 a1
     have g:=zeX s2 r.fn.type
     refine⟨g.1.trans a2,by rw[g.2];omega,λ_ hz=>by rw[if_neg hz]at l2;omega⟩
    .rw[if_neg hq]at hi
     cases hi
     exact⟨a1,rfl,λq=>absurd q hq⟩
   by_cases hv0:v=0
   .rw[if_pos hv0]
    exact⟨b0,rfl,rfl,λ_=>⟨hs'.1,by simp only;omega⟩,λq=>absurd rfl q⟩
   .rw[if_neg hv0]
    by_cases hq:w.n=deep/\r.fn.type≠0
    .rw[if_pos hq]
     have:=hs'.2.2 hq.1 hq.2
     obtain⟨v2,st2,hl2,e2⟩:=zgo (r:={ r with stack:=st }) (k:=λv r=>Ev.ok w.n x { r with result:=v }) (by simp only;omega)
     simp only at e2 hl2
     rw[e2]
     exact⟨b0,rfl,rfl,λq=>by omega,λ_=>⟨hrg.1,hrg.2,by simp only;omega⟩⟩
    .rw[if_neg hq]
     exact⟨b0,rfl,rfl,λq=>by omega,λ_=>⟨hrg.1,hrg.2,by simp only;omega⟩⟩
 rw[if_neg h15]at hi
 by_cases h14:w.op=14
 .rw[if_pos h14]at hi
  rw[if_neg (by omega),if_pos (by omega)]
  have hrg:0<=w.n/\w.n<=deep:=by
   have q:zU fs (r.fn.params++r.fn.locals) deep w=true:=by simpa using hg
   simpa [zU,h14]using q
  unfold ziu
  simp only
  rw[if_neg (by omega),if_neg h15]
  by_cases hq:w.n=deep/\r.fn.type≠0
  .rw[if_pos hq]
   rw[if_pos hq.1]at hi
   cases ht:zH r.fn.type s with
   | error e=>rw[ht]at hi;cases hi
   | ok s2 =>
    obtain⟨a2,l2⟩:=zc3 ht ha
    rw[if_neg hq.2]at l2
    obtain⟨v2,st2,hl2,e2⟩:=zgo (r:=r) (k:=λv r=>Ev.ok w.n x { r with result:=v }) (by omega)
    rw[e2]
    exact⟨b0,rfl,rfl,λq=>by omega,λ_=>⟨hrg.1,hrg.2,by simp only;omega⟩⟩
  .rw[if_neg hq]
   exact⟨b0,rfl,rfl,λq=>by omega,λ_=>⟨hrg.1,hrg.2,by omega⟩⟩
 rw[if_neg h14]at hi
 by_cases h16:w.op=16
 .rw[if_pos h16]at hi
  rw[if_neg (by omega),if_pos (by omega)]
  unfold ziu
  simp only
  rw[if_pos h16]
  cases ht:zH r.fn.type s with
  | error e=>rw[ht]at hi;cases hi
  | ok s2 =>
   obtain⟨a2,l2⟩:=zc3 ht ha
   by_cases hq:r.fn.type≠0
   .rw[if_pos ⟨trivial,hq⟩]
    rw[if_neg hq]at l2
    obtain⟨v2,st2,hl2,e2⟩:=zgo (r:=r) (k:=λv r=>Ev.ok deep x { r with result:=v }) (by omega)
    rw[e2]
    exact⟨b0,rfl,rfl,λq=>by omega,λ_=>⟨hd,yd4 _,by simp only;omega⟩⟩
   .rw[if_neg (λq=>hq q.2)]
    exact⟨b0,rfl,rfl,λq=>by omega,λ_=>⟨hd,yd4 _,by omega⟩⟩
 rw[if_neg h16]at hi
 rw[if_neg (by omega),if_neg (by omega)]
 by_cases h17:w.op=17
 .have e:zaw fs rec w x r=.over 2 5 x:=by
   unfold zaw
   simp[h17]
  rw[e]
  exact⟨b0,.inl rfl⟩
 rw[if_neg h17]at hi
 have hf':zT w=true:=by simpa using hf
 have hop:w.op<=10\/w.op=18:=by
  by_cases q:w.op<=10
  .exact .inl q
  .right
   have:1<=w.op/\w.op<=18:=by
    unfold zT at hf'
    rw[if_neg (by omega),if_neg (by omega),if_neg (by omega)]at hf'
    simpa using hf'
   omega
 have key:=plain_sound hv hs hx hr ha hst hf' (by simpa using hg) hnum hi hop
 revert key
 cases zaw fs rec w x r with
 | bad=>exact λh=>h
 | over s c x'=>exact λh=>h
 | ok u x' r'=>exact λh=>⟨h.1,h.2.1,h.2.2.1,λ_=>⟨h.2.2.2.1,h.2.2.2.2⟩,λq=>absurd rfl q⟩
theorem zif(hs:zqr fs rec n){k:Nat}{h:Nat}{deep:Int}{K:Nat}(hd:0<=deep){f:F}:∀(ws:List W),(∀w∈ws,∀m∈zi w,0<=m/\m<(f.lists.length:Int))->∀(x:zaN) (r:Fr) (s s':St),zEp fs r->r.fn=f->x.steps.toNat<n+1->x.steps.toNat<k+1->s.any=false->r.stack.length=h+s.stack.length ->
  zP fs (f.params++f.locals) f.type deep (zaa fs (f.params++f.locals) f.type f.lists K) ws s=.ok s' ->
  match zaL fs rec k deep h ws x r with
  | .bad=>False
  | .over st c x'=>Beh 0 x x'/\zkq st c
  | .ok o x' r'=>Beh 0 x x'/\r'.fn=r.fn/\r'.locals.length=r.locals.length/\(o=-1->s'.any=false/\r'.stack.length=h+s'.stack.length)/\(o≠-1->0<=o/\o<=deep/\r'.stack.length=h/\x'.steps<x.steps/\0<x.steps)
 | [],_,x,r,s,s',hr,hf,_,_,ha,hst,hi=>by
  simp only[zP]at hi
  cases hi
  exact⟨.refl _,rfl,rfl,λ_=>⟨ha,hst⟩,λq=>absurd rfl q⟩
 | w::ws,hin,x,r,s,s',hr,hf,hx,hxk,ha,hst,hi=>by
  rw[zP]at hi
  cases he:zV fs (f.params++f.locals) f.type deep (zaa fs (f.params++f.locals) f.type f.lists K) w s with
  | error e=>rw[he]at hi;cases hi
  | ok s1 =>
   rw[he]at hi
   simp only at hi
   rw[zaL]
   by_cases hs1:x.steps<1
   .rw[if_pos hs1]
    exact⟨.refl _,.inr ⟨rfl,rfl⟩⟩
   .rw[if_neg hs1]
    subst hf
    have key:=zs0 hv hs (k:=k) (x:={ x with steps:=x.steps-1 }) (by simp only;omega) (by simp only;omega) hr hd ha hst (hin w (by simp)) he
    revert key
    cases zcy fs rec k deep w { x with steps:=x.steps-1 } r with
    | bad=>exact λh=>h
    | over st c x'=>exact λh=>⟨(h.1.step (by omega)).1,h.2⟩
    | ok o x' r' =>
     intro ⟨k1,k2,k3,k4,k5⟩
     obtain⟨b,lt⟩:=k1.step (by omega)
     simp only
     by_cases ho:o=-1
     .rw[if_pos ho]
      obtain⟨a1,l1⟩:=k4 ho
      have key:=zif hs (k:=k) (h:=h) hd (f:=r.fn) ws (λw hw=>hin w (by simp[hw])) x' r' s1 s' ⟨by rw[k2];exact hr.mem,by rw[k3,k2];exact hr.loc⟩ k2 (by omega) (by omega) a1 l1 hi
      revert key
      cases zaL fs rec k deep h ws x' r' with
      | bad=>exact λh=>h
      | over st c x2=>exact λh=>⟨b.trans0 h.1,h.2⟩
      | ok o2 x2 r2 =>
       intro ⟨j1,j2,j3,j4,j5⟩
       exact⟨b.trans0 j1,j2.trans k2,j3.trans k3,j4,λq=>by
        have:=j5 q
        have h4:=this.2.2.2.1
        exact⟨this.1,this.2.1,this.2.2.1,by omega,by omega⟩⟩
     .rw[if_neg ho]
      obtain⟨q1,q2,q3⟩:=k5 ho
      rw[if_neg (by omega)]
      exact⟨b,k2,k3,λq=>absurd q ho,λ_=>⟨q1,q2,by simp only[ybf];omega,lt,by omega⟩⟩
theorem zlS:∀k,zqr fs (znh fs k) k
 | 0=>λx r at_ deep K _ hx=>by omega
 | k+1=>by
  intro x r at_ deep K hr hx hd h0 h1 hl
  have ih:=zlS k
  rw[znh,if_neg (by omega)]
  have hlt:at_.toNat<r.fn.lists.length:=by omega
  rw[yau hlt]
  simp only
  cases K with
  | zero=>simp[zaa]at hl
  | succ K =>
   rw[zaa]at hl
   have hrow:r.fn.lists.getD at_.toNat []=r.fn.lists[at_.toNat]:=by rw[ycZ,yau hlt];rfl
   rw[hrow]at hl
   cases hi:zP fs (r.fn.params++r.fn.locals) r.fn.type deep (zaa fs (r.fn.params++r.fn.locals) r.fn.type r.fn.lists K) r.fn.lists[at_.toNat] ⟨[],false⟩with
   | error e=>rw[hi]at hl;cases hl
   | ok s' =>
    rw[hi]at hl
    simp only at hl
    have hah:=(zcT (zaJ (hv _ hr.mem))).2.1
    have key:=zif hv ih (k:=k) (h:=r.stack.length) hd (f:=r.fn) r.fn.lists[at_.toNat] (λw hw m hm=>by
     have:=hah at_.toNat _ (yau hlt) m (List.mem_flatMap.2 ⟨w,hw,hm⟩)
     omega) x r ⟨[],false⟩ s' hr rfl (by omega) (by omega) rfl (by simp) hi
    revert key
    cases zaL fs (znh fs k) k deep r.stack.length r.fn.lists[at_.toNat] x r with
    | bad=>exact λh=>h
    | over st c x'=>exact λh=>h
    | ok o x' r' =>
     intro ⟨j1,j2,j3,j4,j5⟩
     refine⟨j1,j2,j3,λho=>?_,j5⟩
     obtain⟨a1,l1⟩:=j4 ho
     rw[l1]
     unfold zH2 at hl
     by_cases hz:deep=0
     .rw[if_pos hz]at hl
      cases hq:zH r.fn.type s' with
      | error e=>rw[hq]at hl;cases hl
      | ok s2 =>
       rw[hq]at hl
       simp only at hl
       obtain⟨_,l2⟩:=zc3 hq a1
       by_cases he:s2.stack.length=0
       .by_cases ht:r.fn.type=0
        .rw[if_pos ht]at l2
         rw[if_neg (λq=>q.2 ht)];omega
        .rw[if_neg ht]at l2
         rw[if_pos ⟨hz,ht⟩];omega
       .rw[if_neg he]at hl;cases hl
     .rw[if_neg hz]at hl
      simp only at hl
      rw[if_neg (λq=>hz q.1)]
      by_cases he:s'.stack.length=0
      .omega
      .rw[if_neg he]at hl;cases hl
end
theorem zlT{m:M}(hc:za7 m=.ok ())(input:List Int)(steps:Int)(k:Nat)(hk:steps.toNat<k):∃(out:List Int) (st code:Int),ztr m input steps k=some (out,st,code)/\(st=1\/zkq st code)/\(out.length:Int)<=max steps 0:=by
 have hv:=zaZ hc
 have hm:zgL m=true:=by
  unfold za7 at hc
  split at hc
  .cases hc
  .split at hc
   .cases hc
   .split at hc
    .assumption
    .cases hc
 unfold zgL at hm
 simp only[Bool.and_eq_true,decide_eq_true_eq]at hm
 obtain⟨h0,h1⟩:=hm
 unfold ztr
 rw[if_neg (by omega)]
 cases hg:m.funcs[m.main.toNat]? with
 | none=>rw[hg]at h1;cases h1
 | some g =>
  rw[hg]at h1
  simp only[Bool.and_eq_true,decide_eq_true_eq]at h1 ⊢
  have key:=zlR hv (zlS hv k) (x:=⟨input,steps,yaj m.memory.toNat 0,[],0⟩) hk (ydb hg) (args:=[]) (by simp[h1.2]) ⟨g,[],[],0⟩
  revert key
  cases zcx (znh m.funcs k) ⟨input,steps,yaj m.memory.toNat 0,[],0⟩ g [] ⟨g,[],[],0⟩with
  | bad=>exact λh=>h.elim
  | over s c x =>
   intro ⟨⟨q1,q4,l,q2,q3⟩,ho⟩
   refine⟨_,_,_,rfl,.inr ho,?_⟩
   simp only[ydo]at q2 q1 q3 q4
   rw[q2]
   omega
  | ok v x r =>
   intro ⟨⟨q1,q4,l,q2,q3⟩,_⟩
   refine⟨_,_,_,rfl,.inl rfl,?_⟩
   simp only[ydo]at q2 q1 q3 q4
   rw[q2]
   omega
theorem zc4(f:BitVec 64->BitVec 64->BitVec 64)(a b:Int):0<=zb1 .u64 f a b:=by
 unfold zb1
 simp[yb4,yap,yao]
 omega
theorem zce{G:Env}{J:AS}{R:Out->AS->Prop}{b:Bool}(h:R (.ret (.int .i32 (zwj b))) J):zzQ G 262 [.bool b] J R:=by
 refine zyC rfl ?_
 unfold zwj at h
 cases b<;>simp[zHN,splice]at h ⊢<;>exact h
theorem zcf{G:Env}{J:AS}{R:Out->AS->Prop}{b:Bool}(h:R (.ret (.int .i64 (zwj b))) J):zzQ G 263 [.bool b] J R:=by
 refine zyD rfl ?_
 unfold zwj at h
 cases b<;>simp[zHO,splice]at h ⊢<;>exact h
theorem zfT{G:Env}{J:AS}{R:Out->AS->Prop}{op:List UInt8}{a b:Int}(h:R (.ret (.tuple [.int .i32 (zgm .i32 op a b).1,.int .i64 (zgm .i32 op a b).2])) J):zzQ G 256 [.str op,.int .i32 a,.int .i32 b] J R:=by
 refine zyy rfl ?_
 unfold zgm at h
 by_cases h0:b=0
 .simp[h0]at h;simp[zoe,splice,h0];exact h
 .by_cases h1:op=[37]
  .by_cases h2:b=-1
   .simp[h0,h1,h2]at h;simp[zoe,splice,h0,h1,h2];exact h
   .simp[h0,h1,h2]at h;simp[zoe,splice,h0,h1,h2];exact h
  .by_cases h2:b=-1
   .by_cases h3:a=0
    .simp[h0,h1,h2,h3]at h;simp[zoe,splice,h0,h1,h2,h3];exact h
    .by_cases h4:yb4 .i32 (-a)=a
     .simp[h0,h1,h2,h3,h4]at h;simp[zoe,splice,h0,h1,h2,h3,h4];exact h
     .simp[h0,h1,h2,h3,h4]at h;simp[zoe,splice,h0,h1,h2,h3,h4];exact h
   .simp[h0,h1,h2]at h;simp[zoe,splice,h0,h1,h2];exact h
theorem zfU{G:Env}{J:AS}{R:Out->AS->Prop}{op:List UInt8}{a b:Int}(h:R (.ret (.tuple [.int .i64 (zgm .i64 op a b).1,.int .i64 (zgm .i64 op a b).2])) J):zzQ G 258 [.str op,.int .i64 a,.int .i64 b] J R:=by
 refine zyA rfl ?_
 unfold zgm at h
 by_cases h0:b=0
 .simp[h0]at h;simp[zof,splice,h0];exact h
 .by_cases h1:op=[37]
  .by_cases h2:b=-1
   .simp[h0,h1,h2]at h;simp[zof,splice,h0,h1,h2];exact h
   .simp[h0,h1,h2]at h;simp[zof,splice,h0,h1,h2];exact h
  .by_cases h2:b=-1
   .by_cases h3:a=0
    .simp[h0,h1,h2,h3]at h;simp[zof,splice,h0,h1,h2,h3];exact h
    .by_cases h4:yb4 .i64 (-a)=a
     .simp[h0,h1,h2,h3,h4]at h;simp[zof,splice,h0,h1,h2,h3,h4];exact h
     .simp[h0,h1,h2,h3,h4]at h;simp[zof,splice,h0,h1,h2,h3,h4];exact h
   .simp[h0,h1,h2]at h;simp[zof,splice,h0,h1,h2];exact h
theorem zoY{G:Env}{J:AS}{R:Out->AS->Prop}{op:List UInt8}{a b:Int}(h:R (.ret (.int .i32 (zvi .i32 op a b 32))) J):zzQ G 257 [.str op,.int .i32 a,.int .i32 b,.int .i64 32] J R:=by
 refine zyz rfl ?_
 unfold zvi at h
 by_cases h1:op=[43]
 .subst h1;simp at h;simp[zfE,splice];exact h
 by_cases h2:op=[45]
 .subst h2;simp at h;simp[zfE,splice];exact h
 by_cases h3:op=[42]
 .subst h3;simp at h;simp[zfE,splice];exact h
 by_cases h4:op=[38]
 .subst h4;simp at h;simp[zfE,splice];exact h
 by_cases h5:op=[124]
 .subst h5;simp at h;simp[zfE,splice];exact h
 by_cases h6:op=[94]
 .subst h6;simp at h;simp[zfE,splice];exact h
 by_cases h7:op=[60,60]
 .subst h7;simp at h;simp[zfE,splice,show yb4 .i64 31=31 by decide];exact⟨zc4 _ _ _,h⟩
 by_cases h8:op=[62,62]
 .subst h8;simp at h;simp[zfE,splice,show yb4 .i64 31=31 by decide];exact⟨zc4 _ _ _,h⟩
 by_cases h9:op=[61,61]
 .subst h9;simp at h;simp[zfE,splice];refine zce ?_;simp;exact h
 by_cases h10:op=[33,61]
 .subst h10;simp at h;simp[zfE,splice];refine zce ?_;simp;exact h
 by_cases h11:op=[60]
 .subst h11;simp at h;simp[zfE,splice];refine zce ?_;simp;exact h
 by_cases h12:op=[60,61]
 .subst h12;simp at h;simp[zfE,splice];refine zce ?_;simp;exact h
 by_cases h13:op=[62]
 .subst h13;simp at h;simp[zfE,splice];refine zce ?_;simp;exact h
 by_cases h14:op=[62,61]
 .subst h14;simp at h;simp[zfE,splice];refine zce ?_;simp;exact h
 .simp[h1,h2,h3,h4,h5,h6,h7,h8,h9,h10,h11,h12,h13,h14]at h
  simp[zfE,splice,h1,h2,h3,h4,h5,h6,h7,h8,h9,h10,h11,h12,h13,h14]
  exact h
theorem zoZ{G:Env}{J:AS}{R:Out->AS->Prop}{op:List UInt8}{a b:Int}(h:R (.ret (.int .i64 (zvi .i64 op a b 64))) J):zzQ G 259 [.str op,.int .i64 a,.int .i64 b,.int .i64 64] J R:=by
 refine zyB rfl ?_
 unfold zvi at h
 by_cases h1:op=[43]
 .subst h1;simp at h;simp[zfF,splice];exact h
 by_cases h2:op=[45]
 .subst h2;simp at h;simp[zfF,splice];exact h
 by_cases h3:op=[42]
 .subst h3;simp at h;simp[zfF,splice];exact h
 by_cases h4:op=[38]
 .subst h4;simp at h;simp[zfF,splice];exact h
 by_cases h5:op=[124]
 .subst h5;simp at h;simp[zfF,splice];exact h
 by_cases h6:op=[94]
 .subst h6;simp at h;simp[zfF,splice];exact h
 by_cases h7:op=[60,60]
 .subst h7;simp at h;simp[zfF,splice,show yb4 .i64 63=63 by decide];exact⟨zc4 _ _ _,h⟩
 by_cases h8:op=[62,62]
 .subst h8;simp at h;simp[zfF,splice,show yb4 .i64 63=63 by decide];exact⟨zc4 _ _ _,h⟩
 by_cases h9:op=[61,61]
 .subst h9;simp at h;simp[zfF,splice];refine zcf ?_;simp;exact h
 by_cases h10:op=[33,61]
 .subst h10;simp at h;simp[zfF,splice];refine zcf ?_;simp;exact h
 by_cases h11:op=[60]
 .subst h11;simp at h;simp[zfF,splice];refine zcf ?_;simp;exact h
 by_cases h12:op=[60,61]
 .subst h12;simp at h;simp[zfF,splice];refine zcf ?_;simp;exact h
 by_cases h13:op=[62]
 .subst h13;simp at h;simp[zfF,splice];refine zcf ?_;simp;exact h
 by_cases h14:op=[62,61]
 .subst h14;simp at h;simp[zfF,splice];refine zcf ?_;simp;exact h
 .simp[h1,h2,h3,h4,h5,h6,h7,h8,h9,h10,h11,h12,h13,h14]at h
  simp[zfF,splice,h1,h2,h3,h4,h5,h6,h7,h8,h9,h10,h11,h12,h13,h14]
  exact h
theorem zqs{G:Env}{J:AS}{R:Out->AS->Prop}{op:List UInt8}{a b:Int}(h:R (.ret (.tuple [.int .i64 (yb4 .i64 (zAp .i32 op a b 32).1),.int .i64 (zAp .i32 op a b 32).2])) J):zzQ G 245 [.str op,.int .i32 a,.int .i32 b,.int .i64 32] J R:=by
 refine zyr rfl ?_
 unfold zAp at h
 by_cases h1:op=[47]
 .subst h1;simp at h
  simp[zyq,splice]
  refine zfT ?_
  simp;exact h
 by_cases h2:op=[37]
 .subst h2;simp at h
  simp[zyq,splice]
  refine zfT ?_
  simp;exact h
 .simp[h1,h2]at h
  simp[zyq,splice,h1,h2]
  refine zoY ?_
  simp;exact h
theorem zqt{G:Env}{J:AS}{R:Out->AS->Prop}{op:List UInt8}{a b:Int}(h:R (.ret (.tuple [.int .i64 (zAp .i64 op a b 64).1,.int .i64 (zAp .i64 op a b 64).2])) J):zzQ G 246 [.str op,.int .i64 a,.int .i64 b,.int .i64 64] J R:=by
 refine zyt rfl ?_
 unfold zAp at h
 by_cases h1:op=[47]
 .subst h1;simp at h
  simp[zys,splice]
  refine zfU ?_
  simp;exact h
 by_cases h2:op=[37]
 .subst h2;simp at h
  simp[zys,splice]
  refine zfU ?_
  simp;exact h
 .simp[h1,h2]at h
  simp[zys,splice,h1,h2]
  refine zoZ ?_
  simp;exact h
theorem zvl{G:Env}{J:AS}{R:Out->AS->Prop}{t:Int}{op:List UInt8}{a b:Int}(h:R (.ret (.tuple [.int .i64 (zFK t op a b).1,.int .i64 (zFK t op a b).2])) J):zzQ G 218 [.int .i64 t,.str op,.int .i64 a,.int .i64 b] J R:=by
 refine zyd rfl ?_
 unfold zFK at h
 by_cases h1:t=1
 .subst h1;simp at h
  simp[zyc,splice]
  refine zqs ?_
  simp
  exact h
 by_cases h2:t=2
 .subst h2;simp at h
  simp[zyc,splice]
  refine zqt ?_
  simp;exact h
 .simp[h1,h2]at h
  simp[zyc,splice,h1,h2]
  exact h
def zni(J:AS)(v:AV)(l:List Int):Prop:=(l=[]/\v=.nilsl)\/∃g,v=.sl (.fam g false) 1 (l.map (.int .i64))/\g<J.nf/\J.F g=.alive
def zam:AV->List Nat
 | .sl (.fam g _) _ _=>[g]
 | _=>[]
theorem zni.one{J v l}(h:zni J v l):v.known=true/\v.one=true/\v.cells=[v]:=by
 rcases h with ⟨_,rfl⟩|⟨g,rfl,_⟩<;>simp
theorem zni.len{J v l}(h:zni J v l)(K:AV->Prop):zij yb9 44 v K=K (.int .i64 (l.length:Int)):=by
 rcases h with ⟨rfl,rfl⟩|⟨g,rfl,_⟩<;>simp
theorem zni.keep{J J' v l}(h:zni J v l)(hn:J.nf<=J'.nf)(hk:∀g∈zam v,J'.F g=J.F g):zni J' v l:=by
 rcases h with h|⟨g,rfl,h1,h2⟩
 .exact .inl h
 .exact .inr ⟨g,rfl,by omega,by rw[hk g (by simp[zam])];exact h2⟩
theorem zni.lt{J v l}(h:zni J v l):∀g∈zam v,g<J.nf:=by
 rcases h with ⟨_,rfl⟩|⟨g,rfl,h1,_⟩<;>simp[zam]
 exact h1
def zEq(J:AS)(L:List Nat)(v:AV)(l:List Int):Prop:=(L=[]/\l=[]/\(v=.nilsl\/∃φ,v=.sl φ 1 []))\/∃lo,L=[lo]/\v=.slm lo 0 1 l.length/\J.objs lo=some (l.map (.int .i64))
theorem zEq.one{J L v l}(h:zEq J L v l):v.known=true/\v.one=true/\v.cells=[v]:=by
 rcases h with ⟨_,_,rfl|⟨φ,rfl⟩⟩|⟨lo,_,rfl,_⟩<;>simp
theorem zEq.keep{J J' L v l}(h:zEq J L v l)(hk:∀o∈L,J'.objs o=J.objs o):zEq J' L v l:=by
 rcases h with h|⟨lo,rfl,rfl,h⟩
 .exact .inl h
 .exact .inr ⟨lo,rfl,rfl,by rw[hk lo (by simp)];exact h⟩
structure XM(fs:List F)(mm mn:Int)(J0:AS)(xo mo:Nat)(D T:List Nat)(x:zaN)(ov:AV)(J:AS):Prop where
 no:J0.no<=J.no
 nf:J0.nf<=J.nf
 obj:∀o,o<J0.no->o≠xo->o≠mo->o∉D->J.objs o=J0.objs o
 fam:∀g,g<J0.nf->g∉T->J.F g=J0.F g
 xl:xo<J0.no
 ml:mo<J0.no
 xm:xo≠mo
 dl:∀o∈D,o<J.no/\o≠xo/\o≠mo
 mach:∃fv iv,J.objs xo=some [fv,.int .i64 mm,.int .i64 mn,iv,.int .i64 x.steps,.slm mo 0 1 x.memory.length,ov,.int .i64 x.calls]/\FsV fv fs/\zaq iv x.input
 own:zni J ov x.out
 ownT:∀g∈zam ov,g∈T\/J0.nf<=g
 mem:J.objs mo=some (x.memory.map λb=>.int .u8 b.toNat)
structure XR(J0:AS)(fo:Nat)(L T:List Nat)(r:Fr)(sv:AV)(J:AS):Prop where
 fr:∃pv lv tv cv,J.objs fo=some [.str r.fn.name,pv,lv,.int .i64 r.fn.type,tv,cv,sv,.int .i64 r.result]/\zaq pv r.fn.params/\zaq lv r.fn.locals/\zcn tv r.fn.lists/\zEq J L cv r.locals
 fl:fo∉L
 own:zni J sv r.stack
 ownT:∀g∈zam sv,g∈T\/J0.nf<=g
def XF(fs:List F)(mm mn:Int)(J0:AS)(xo mo fo:Nat)(L T:List Nat)(x:zaN)(r:Fr)(J:AS):Prop :=
 ∃ov sv,XM fs mm mn J0 xo mo (fo::L) T x ov J/\XR J0 fo L T r sv J/\∀g∈zam ov,g∉zam sv
def zks(s c:Int):AV:=.iface 111 (.agg [.int .i64 s,.int .i64 c])
section
variable {G : Env} {fs : List F} {mm mn : Int} {J0 J : AS} {xo mo fo : Nat} {L T : List Nat} {x : zaN} {r : Fr} {R : Out -> AS -> Prop}
theorem XF.setFr(h:XF fs mm mn J0 xo mo fo L T x r J){pv lv tv cv sv sv':AV}{st':List Int}{res':Int}{J1:AS}
  (ho:J.objs fo=some [.str r.fn.name,pv,lv,.int .i64 r.fn.type,tv,cv,sv,.int .i64 r.result]) (e1:J1.objs=J.objs) (e2:J1.no=J.no) (e3:J.nf<=J1.nf) (e4:∀g,g<J.nf->g∉zam sv->J1.F g=J.F g)
  (hs:zni J1 sv' st') (hsf:∀g∈zam sv',g∈zam sv\/J.nf<=g) :
  XF fs mm mn J0 xo mo fo L T x { r with stack:=st',result:=res' } (J1.setO fo [.str r.fn.name,pv,lv,.int .i64 r.fn.type,tv,cv,sv',.int .i64 res']):=by
 obtain⟨ov,sv0,hm,hr,hd⟩:=h
 obtain⟨pv0,lv0,tv0,cv0,ho0,hpv,hlv,htv,hcv⟩:=hr.fr
 rw[ho]at ho0
 simp only[yaR.injEq,ydZ.injEq]at ho0
 obtain⟨_,rfl,rfl,_,rfl,rfl,rfl,_,_⟩:=ho0
 have hfd:=hm.dl fo (by simp)
 have hltm:=hm.xl
 have hltml:=hm.ml
 have hno:=hm.no
 have hlt:=hm.own.lt
 have key:∀o,o≠fo->(J1.setO fo [.str r.fn.name,pv,lv,.int .i64 r.fn.type,tv,cv,sv',.int .i64 res']).objs o=J.objs o:=λo ho=>by simp[ho,e1]
 have hof:∀g∈zam ov,J1.F g=J.F g:=λg hg=>e4 g (hlt g hg) (hd g hg)
 refine⟨ov,sv',⟨by simp[e2];omega,yai hm.nf e3,λo h1 h2 h3 h4=>?_,λg h1 h2=>?_,hm.xl,hm.ml,hm.xm,λo h1=>?_,?_,?_,hm.ownT,?_⟩,⟨⟨pv,lv,tv,cv,by simp,hpv,hlv,htv,?_⟩,hr.fl,hs,λg hg=>?_⟩,λg hg=>?_⟩
 .rw[key o (λe=>h4 (by simp[e]))];exact hm.obj o h1 h2 h3 h4
 .have h3:g∉zam sv:=λhg=>by rcases hr.ownT g hg with h|h;exact h2 h;omega
  have:=hm.nf
  show J1.F g=J0.F g
  rw[e4 g (by omega) h3];exact hm.fam g h1 h2
 .simpa [e2]using hm.dl o h1
 .obtain⟨fv,iv,a,b,c⟩:=hm.mach
  exact⟨fv,iv,by rw[key xo (Ne.symm hfd.2.1)];exact a,b,c⟩
 .exact hm.own.keep (by simpa using e3) (by simpa using hof)
 .rw[key mo (Ne.symm hfd.2.2)];exact hm.mem
 .exact hcv.keep λo ho=>key o λe=>hr.fl (e▸ho)
 .rcases hsf g hg with h|h
  .exact hr.ownT g h
  .right;have:=hm.nf;omega
 .intro h'
  rcases hsf g h' with h|h
  .exact hd g hg h
  .have:=hlt g hg;omega
theorem zaM{v:Int}(h:XF fs mm mn J0 xo mo fo L T x r J)(hl:r.stack.length<=2^40)(hR:∀J',XF fs mm mn J0 xo mo fo L T x (r.push v) J'->R (.ret (.tuple [])) J'):zzQ G 217 [.ptr fo 0,.int .i64 v] J R:=by
 refine zyb rfl ?_
 obtain⟨ov,sv,hm,hr,hd⟩:=h
 obtain⟨pv,lv,tv,cv,ho,hpv,hlv,htv,hcv⟩:=hr.fr
 have s1:=hr.own.one
 have p1:=hpv.one
 have l1:=hlv.one
 have t1:=htv.one
 have c1:=hcv.one
 have hx:XF fs mm mn J0 xo mo fo L T x r J:=⟨ov,sv,hm,hr,hd⟩
 rcases hr.own with ⟨hs,rfl⟩|⟨g,rfl,hg1,hg2⟩
 .simp[zDK,ho,splice]
  refine hR _ (hx.setFr ho (by simp) (by simp) (by simp) (λg h1 _=>by simp;intro h;omega) ?_ ?_)
  .exact .inr ⟨J.nf,by simp[hs],by simp,by simp⟩
  .simp[zam]
 .simp[zDK,ho,splice,hg2]
  refine⟨by omega,hR _ (hx.setFr ho (by simp) (by simp) (by simp) (λk h1 h2=>?_) ?_ ?_)⟩
  .have:k≠g:=by simpa [zam]using h2
   simp[this];intro h;omega
  .exact .inr ⟨J.nf,by simp,by simp,by simp⟩
  .simp[zam]
theorem zlU{v:Int}(h:XF fs mm mn J0 xo mo fo L T x r J)(hl:r.stack.length<=2^40)(hv:r.stack.getLast?=some v)(hR:∀J',XF fs mm mn J0 xo mo fo L T x { r with stack:=r.stack.dropLast } J'->(∀o,o≠fo->J'.objs o=J.objs o)->R (.ret (.int .i64 v)) J'):zzQ G 147 [.ptr fo 0] J R:=by
 refine zxA rfl ?_
 obtain⟨ov,sv,hm,hr,hd⟩:=h
 obtain⟨pv,lv,tv,cv,ho,hpv,hlv,htv,hcv⟩:=hr.fr
 have s1:=hr.own.one
 have p1:=hpv.one
 have l1:=hlv.one
 have t1:=htv.one
 have c1:=hcv.one
 have hx:XF fs mm mn J0 xo mo fo L T x r J:=⟨ov,sv,hm,hr,hd⟩
 rcases hr.own with ⟨hs,rfl⟩|⟨g,rfl,hg1,hg2⟩
 .rw[hs]at hv;simp at hv
 .have hne:r.stack≠[]:=by rintro e;rw[e]at hv;simp at hv
  have hpos:0<r.stack.length:=ybm.2 hne
  have w1:yb4 .i64 ((r.stack.length:Int)-1)=((r.stack.length-1:Nat):Int):=by rw[wrap_i64]<;>omega
  have hix:(r.stack.map (yc6 .i64))[r.stack.length-1]?=some (.int .i64 v):=by
   rw[List.getLast?_eq_getElem?]at hv
   simp[hv]
  have e:ydB (r.stack.length-1) (r.stack.map (yc6 .i64))=r.stack.dropLast.map (yc6 .i64):=by rw[<-yd7,List.dropLast_eq_take]
  simp[zHm,ho,splice,hg2,w1,hix,e]
  exact hR _ (hx.setFr (J1:=J) ho rfl rfl (yah _) (λ_ _ _=>rfl) (.inr ⟨g,by simp,hg1,hg2⟩) (λk hk=>.inl hk)) λo h=>by simp[h]
theorem zay{v:Int}(h:XF fs mm mn J0 xo mo fo L T x r J)(hl:r.stack.length<=2^40)(hv:r.stack.getLast?=some v)(hR:∀J',XF fs mm mn J0 xo mo fo L T x { r with stack:=r.stack.dropLast } J'->R (.ret (.int .i64 v)) J'):zzQ G 147 [.ptr fo 0] J R :=
 zlU h hl hv λJ' hx _=>hR J' hx
theorem XF.setX(h:XF fs mm mn J0 xo mo fo L T x r J){fv iv ov iv' ov':AV}{inp out:List Int}{steps calls:Int}{J1:AS}
  (ho:J.objs xo=some [fv,.int .i64 mm,.int .i64 mn,iv,.int .i64 x.steps,.slm mo 0 1 x.memory.length,ov,.int .i64 x.calls]) (e1:J1.objs=J.objs) (e2:J1.no=J.no) (e3:J.nf<=J1.nf) (e4:∀g,g<J.nf->g∉zam ov->J1.F g=J.F g)
  (hi:zaq iv' inp) (hs:zni J1 ov' out) (hsf:∀g∈zam ov',g∈zam ov\/J.nf<=g) :
  XF fs mm mn J0 xo mo fo L T { x with input:=inp,out:=out,steps:=steps,calls:=calls } r (J1.setO xo [fv,.int .i64 mm,.int .i64 mn,iv',.int .i64 steps,.slm mo 0 1 x.memory.length,ov',.int .i64 calls]):=by
 obtain⟨ov0,sv,hm,hr,hd⟩:=h
 obtain⟨fv0,iv0,ho0,hfv,hiv⟩:=hm.mach
 rw[ho]at ho0
 simp only[yaR.injEq,ydZ.injEq]at ho0
 obtain⟨rfl,_,_,rfl,_,_,rfl,_⟩:=ho0
 have hfd:=hm.dl fo (by simp)
 have hltm:=hm.xl
 have hltml:=hm.ml
 have hno:=hm.no
 have hlt:=hr.own.lt
 have key:∀o,o≠xo->(J1.setO xo [fv,.int .i64 mm,.int .i64 mn,iv',.int .i64 steps,.slm mo 0 1 x.memory.length,ov',.int .i64 calls]).objs o=J.objs o:=λo ho=>by simp[ho,e1]
 have hof:∀g∈zam sv,J1.F g=J.F g:=λg hg=>e4 g (hlt g hg) (λh=>hd g h hg)
 refine⟨ov',sv,⟨by simp[e2];omega,yai hm.nf e3,λo h1 h2 h3 h4=>?_,λg h1 h2=>?_,hm.xl,hm.ml,hm.xm,λo h1=>?_,?_,hs,λg hg=>?_,?_⟩,⟨?_,hr.fl,?_,hr.ownT⟩,λg hg h'=>?_⟩
 .rw[key o h2];exact hm.obj o h1 h2 h3 h4
 .have h3:g∉zam ov:=λhg=>by rcases hm.ownT g hg with h|h;exact h2 h;omega
  have:=hm.nf
  show J1.F g=J0.F g
  rw[e4 g (by omega) h3];exact hm.fam g h1 h2
 .simpa [e2]using hm.dl o h1
 .exact⟨fv,iv',by simp,hfv,hi⟩
 .rcases hsf g hg with h|h
  .exact hm.ownT g h
  .right;have:=hm.nf;omega
 .rw[key mo (Ne.symm hm.xm)];exact hm.mem
 .obtain⟨pv,lv,tv,cv,a,b,c,d,e⟩:=hr.fr
  exact⟨pv,lv,tv,cv,by rw[key fo hfd.2.1];exact a,b,c,d,e.keep λo ho=>key o (hm.dl o (by simp[ho])).2.1⟩
 .exact hr.own.keep (by simpa using e3) (by simpa using hof)
 .rcases hsf g hg with h|h
  .exact hd g h h'
  .have:=hlt g h';omega
theorem zdu{t:Int}(h0:t=0->R (.ret (.tuple [])) J)(h1:t≠0->R (.panic (zks 2 t)) J):zzQ G 145 [.int .i64 t] J R:=by
 refine zxy rfl ?_
 by_cases h:t=0
 .simp[zDB,splice,h];exact h0 h
 .simp[zDB,splice,h];exact h1 h
theorem zs1(h:XF fs mm mn J0 xo mo fo L T x r J)(hl:x.input.length<=2^40)(hR:∀J',(match x.input with|[]=>XF fs mm mn J0 xo mo fo L T x r J'|_::l=>XF fs mm mn J0 xo mo fo L T { x with input:=l } r J')->R (.ret (.int .i64 (x.input.headD 0))) J'):zzQ G 247 [.ptr xo 0] J R:=by
 refine zyu rfl ?_
 have hx:=h
 obtain⟨ov,sv,hm,hr,hd⟩:=h
 obtain⟨fv,iv,ho,hfv,hiv⟩:=hm.mach
 have i1:=hiv.one
 have i2:=hiv.len
 have f1:=hfv.one
 have o1:=hm.own.one
 cases hin:x.input with
 | nil =>
  rw[hin]at hR i2
  simp[zDL,ho,splice,i2]
  exact hR _ hx
 | cons v l =>
  rw[hin]at hR i2 hiv
  rcases hiv with ⟨hh,_⟩|⟨b,rfl⟩
  .cases hh
  .have hne:¬((l.length:Int)+1=0):=by omega
   have ht:ydB l.length (l.map (yc6 .i64))=l.map (yc6 .i64):=yc7 (by simp)
   simp[zDL,ho,splice,hne,ht]
   exact⟨by omega,hR _ (hx.setX (J1:=J) ho rfl rfl (yah _) (λ_ _ _=>rfl) (.inr ⟨_,rfl⟩) hm.own λk hk=>.inl hk)⟩
theorem zlV{at_ n:Int}(h:XF fs mm mn J0 xo mo fo L T x r J)(hn:1<=n/\n<=8)(hml:x.memory.length<=2^40)(hR:(at_<0\/(x.memory.length:Int)-n<at_)->R (.panic (zks 2 3)) J)
  (hR':¬(at_<0\/(x.memory.length:Int)-n<at_)->R (.ret (.slm mo at_.toNat 1 n.toNat)) J):zzQ G 222 [.ptr xo 0,.int .i64 at_,.int .i64 n] J R:=by
 refine zyi rfl ?_
 obtain⟨ov,sv,hm,hr,hd⟩:=h
 obtain⟨fv,iv,ho,hfv,hiv⟩:=hm.mach
 have i1:=hiv.one
 have f1:=hfv.one
 have o1:=hm.own.one
 have w1:yb4 .i64 ((x.memory.length:Int)-n)=(x.memory.length:Int)-n:=by rw[wrap_i64]<;>omega
 by_cases h1:at_<0
 .simp[zyh,ho,splice,h1]
  refine zdu (λh=>by omega) λ_=>?_
  simp
  exact hR (.inl h1)
 .by_cases h2:(x.memory.length:Int)-n<at_
  .simp[zyh,ho,splice,h1,w1,h2]
   refine zdu (λh=>by omega) λ_=>?_
   simp
   exact hR (.inr h2)
  .have w2:yb4 .i64 (at_+n)=at_+n:=by rw[wrap_i64]<;>omega
   simp[zyh,ho,splice,h1,w1,h2,w2]
   refine⟨by omega,by omega,by omega,by omega,?_⟩
   rw[show(at_+n).toNat-at_.toNat=n.toNat by omega]
   exact hR' (by omega)
end
theorem znj:∀(l:List UInt8),0<=zeW l/\zeW l<256^l.length
 | []=>by simp[zeW]
 | c::l=>by
  obtain⟨h1,h2⟩:=znj l
  have hc:=c.toNat_lt
  simp only[zeW,yac]
  rw[Int.pow_succ]
  omega
theorem zlW:∀(l:List UInt8) (c:UInt8),zeW (l++[c])=zeW l+256^l.length*(c.toNat:Int)
 | [],c=>by simp[zeW]
 | d::l,c=>by
  simp only[ydc,zeW,zlW l c,yac]
  rw[Int.pow_succ,Int.mul_add,Int.mul_comm (256^l.length) 256,Int.mul_assoc];omega
theorem zIz{a b k:Nat}(ha:a<2^k):a ||| (b*2^k)=a+b*2^k:=by
 rw[Nat.add_comm,Nat.mul_comm,Nat.or_comm]
 exact(Nat.two_pow_add_eq_or_of_lt ha b).symm
theorem zAq{a c:Int}{k:Nat}{n:Nat}(h0:0<=a)(ha:a<2^k)(hc:0<=c)(hc2:c<256)(hk:k+8<=64):zb1 .u64 (· ||| ·) a (yd0.wrap (c*2^k))=a+2^k*c:=by
 obtain⟨a,rfl⟩:=yd8 h0
 obtain⟨c,rfl⟩:=yd8 hc
 have hp:(2:Nat)^(k+8)<=2^64:=yd9 (by omega) hk
 have ha':a<2^k:=by exact_mod_cast ha
 have hb:c*2^k<2^64:=by
  have h1:c*2^k<256*2^k:=Nat.mul_lt_mul_of_pos_right (by omega) (Nat.two_pow_pos k)
  rw[Nat.pow_add]at hp
  omega
 have hak:a<2^64:=by
  have:(2:Nat)^k<=2^64:=yd9 (by omega) (by omega)
  omega
 have hab:a+c*2^k<2^64:=by
  rw[Nat.pow_add]at hp
  have h1:c*2^k<=255*2^k:=yax _ (by omega)
  omega
 have wn:∀z:Nat,z<2^64->yd0.wrap (z:Int)=(z:Int):=λz hz=>by
  simp[yb4,yap,yao];omega
 have e1:yd0.wrap ((c:Int)*2^k)=((c*2^k:Nat):Int):=by
  rw[<-wn _ hb];congr 1
 rw[e1]
 unfold zb1
 have e2:∀z:Nat,z<2^64->(BitVec.ofInt yd0.bits (z:Int)).toNat=z:=λz hz=>by
  rw[BitVec.ofInt_natCast,BitVec.toNat_ofNat];exact Nat.mod_eq_of_lt hz
 rw[BitVec.toNat_or,e2 a hak,e2 _ hb,zIz ha',wn _ hab]
 push_cast
 rw[Int.mul_comm (2^k)]
theorem zs2{z:Int}{n:Nat}(h1:1<=n)(h8:n<=8)(h0:0<=z)(hz:z<256^n):
  (yam.wrap (yd0.wrap (z*2^(min (64-8*n) 64)))).fdiv (2^(min (64-8*n) 64))=if z<2^(8*n-1)then z else z-2^(8*n):=by
 have hn:n=1\/n=2\/n=3\/n=4\/n=5\/n=6\/n=7\/n=8:=by omega
 rw[Int.fdiv_eq_ediv_of_nonneg _ (Int.pow_nonneg (by omega))]
 rcases hn with rfl|rfl|rfl|rfl|rfl|rfl|rfl|rfl<;>simp[yb4,yap,yao]at hz ⊢<;>split<;>split<;>omega
def LDI(mo at_ n:Nat)(l:List UInt8)(J:AS)(a:Nat->AV)(Z:AS):Prop:=∃i:Nat,i<=n/\a 0=.slm mo at_ 1 n/\a 7=.slm mo at_ 1 n/\a 8=.int .i64 (n:Int)/\a 9=.int .i64 (i:Int)/\a 3=.int .u64 (zeW (l.take i))/\Z=J
theorem zs3{G:Env}{J:AS}{R:Out->AS->Prop}{mo at_ n:Nat}{mem:List UInt8}(ho:J.objs mo=some (mem.map λb=>.int .u8 b.toNat))(h1:1<=n)(h8:n<=8)(hl:at_+n<=mem.length)(hR:R (.ret (.int .i64 (zEo ((mem.drop at_).take n)))) J):
  zzQ G 221 [.slm mo at_ 1 n] J R:=by
 refine zyg rfl ?_
 generalize hle:(mem.drop at_).take n=l at *
 have hll:l.length=n:=by rw[<-hle];simp;omega
 simp[zHI]
 refine zy (LDI mo at_ n l J) (MU 9 (n+1)) ⟨0,by omega,by simp,by simp,by simp,by simp,by simp[zeW],rfl⟩ λa Z hI=>?_
 obtain⟨i,hi,a0,a7,a8,a9,a3,rfl⟩:=hI
 by_cases hlt:i<n
 .have hil:i<l.length:=by omega
  have hm:mem[at_+i]?=some l[i]:=by
   rw[<-yau hil,<-hle,yaH,yas,if_pos hlt]
  have hc:=l[i].toNat_lt
  have w1:yb4 .i64 (8*(i:Int))=8*(i:Int):=by rw[wrap_i64]<;>omega
  have w2:yb4 .i64 ((i:Int)+1)=((i+1:Nat):Int):=by rw[wrap_i64]<;>omega
  have w3:yb4 .u64 (l[i].toNat:Int)=(l[i].toNat:Int):=by simp[yb4,yap,yao];omega
  obtain⟨q1,q2⟩:=znj (l.take i)
  have hti:(l.take i).length=i:=by simp;omega
  have w4:=zAq (a:=zeW (l.take i)) (c:=(l[i].toNat:Int)) (k:=8*i) (n:=0) q1 (by rw[hti]at q2;rw[Int.pow_mul];exact q2) (by omega) (by omega) (by omega)
  have w5:zeW (l.take (i+1))=zeW (l.take i)+2^(8*i)*(l[i].toNat:Int):=by
   rw[yc5 hil,zlW,hti,Int.pow_mul];rfl
  have w6:min (8*(i:Int)).toNat yd0.bits=8*i:=by simp[yap];omega
  simp[ziQ,a0,a7,a8,a9,a3,hlt,ho,hm,w1,w2,w3,w6]
  refine⟨by omega,⟨i+1,by omega,by simp[a0],by simp[a7],by simp[a8],by simp,?_,rfl⟩,?_⟩
  .simp[w4,w5]
  .simp only[MU,a9];simp;omega
 .have e:i=n:=by omega
  subst e
  rw[yc7 (by omega)]at a3
  obtain⟨q1,q2⟩:=znj l
  have w1:yb4 .i64 (8*(i:Int))=8*(i:Int):=by rw[wrap_i64]<;>omega
  have w2:yb4 .i64 (64-8*(i:Int))=((64-8*i:Nat):Int):=by rw[wrap_i64]<;>omega
  have w3:=zs2 h1 h8 q1 (by rw[hll]at q2;exact q2)
  simp[ziQ,zrn,a0,a7,a8,a9,a3,w1,w2]
  unfold zEo at hR
  rw[hll,<-w3]at hR
  exact hR
structure OkF(f:F):Prop where
 params:f.params.length<=2^38
 locals:f.locals.length<=2^38
 lists:f.lists.length<=2^38
 rows:∀l∈f.lists,l.length<=2^38
 nums:∀l∈f.lists,∀w∈l,w.n<=2^63-1
structure Bd(N:Nat)(x:zaN)(r:Fr):Prop where
 n:N<=2^38
 stack:(r.stack.length:Int)+max x.steps 0<=N
 out:(x.out.length:Int)+max x.steps 0<=N
 fn:OkF r.fn
 calls:0<=x.calls/\x.calls<=32
 mem:x.memory.length<=2^38
 inp:x.input.length<=2^38
structure Aft(N:Nat)(x:zaN)(r:Fr)(x':zaN)(r':Fr):Prop where
 bd:Bd N x' r'
 steps:x'.steps<=x.steps
 calls:x'.calls=x.calls
 fn:r'.fn=r.fn
theorem Aft.trans{N x r x' r' x'' r''}(h:Aft N x r x' r')(k:Aft N x' r' x'' r''):Aft N x r x'' r'':=⟨k.bd,Int.le_trans k.steps h.steps,k.calls.trans h.calls,k.fn.trans h.fn⟩
def RBd(N:Nat)(D:Int)(rec:zgn):Prop:=∀x r at_ deep o x' r',Bd N x r->deep<=D->rec x r at_ deep=.ok o x' r'->Aft N x r x' r'/\o<=2^63-1
theorem zbH{α:Type}{r:Fr}{k:Int->Fr->Ev α}{e:Ev α}(h:zcp r k=e)(hb:e≠.bad):∃v,r.stack.getLast?=some v/\k v { r with stack:=r.stack.dropLast }=e:=by
 unfold zcp at h
 cases hg:r.stack.getLast? with
 | none=>rw[hg]at h;exact absurd h.symm hb
 | some v=>rw[hg]at h;exact⟨v,rfl,h⟩
structure B1(N:Nat)(x:zaN)(r:Fr):Prop where
 bd:Bd N x r
 st:(r.stack.length:Int)+max x.steps 0+1<=N
 ou:(x.out.length:Int)+max x.steps 0+1<=N
theorem Bd.one{N x r}(h:Bd N x r)(hs:1<=x.steps):B1 N { x with steps:=x.steps-1 } r:=by
 obtain⟨a,b,c,d,e,f,g⟩:=h
 exact⟨⟨a,by simp only;omega,by simp only;omega,d,e,f,g⟩,by simp only;omega,by simp only;omega⟩
theorem B1.stack{N x r}(h:B1 N x r){st:List Int}{loc:List Int}{res:Int}(hs:st.length<=r.stack.length):B1 N x { r with stack:=st,locals:=loc,result:=res }:=by
 obtain⟨⟨a,b,c,d,e,f,g⟩,k,m⟩:=h
 exact⟨⟨a,by simp only;omega,c,d,e,f,g⟩,by simp only;omega,m⟩
theorem Bd.stackLe{N x r}(h:Bd N x r){st:List Int}{loc:List Int}{res:Int}(hs:st.length<=r.stack.length):Bd N x { r with stack:=st,locals:=loc,result:=res }:=by
 obtain⟨a,b,c,d,e,f,g⟩:=h
 exact⟨a,by simp only;omega,c,d,e,f,g⟩
theorem B1.aft{N x r}(h:B1 N x r){st:List Int}{loc:List Int}{res:Int}(hs:st.length<=r.stack.length+1):Aft N x r x { r with stack:=st,locals:=loc,result:=res }:=by
 obtain⟨⟨a,b,c,d,e,f,g⟩,k,m⟩:=h
 exact⟨⟨a,by simp only;omega,c,d,e,f,g⟩,yd4 _,rfl,rfl⟩
theorem Bd.aft{N x r}(h:Bd N x r){st:List Int}{loc:List Int}{res:Int}(hs:st.length<=r.stack.length):Aft N x r x { r with stack:=st,locals:=loc,result:=res }:=by
 obtain⟨a,b,c,d,e,f,g⟩:=h
 exact⟨⟨a,by simp only;omega,c,d,e,f,g⟩,yd4 _,rfl,rfl⟩
def zts(fs:List F):Prop:=∀f∈fs,OkF f
theorem zvm{N:Nat}{D:Int}{rec:zgn}{fs:List F}(hr:RBd N D rec)(hf:zts fs)(hD:0<=D){x:zaN}{r:Fr}(hb:Bd N x r){g:F}(hg:g∈fs){args:List Int}{v:Int}{x':zaN}{r':Fr}(h:zcx rec x g args r=.ok v x' r'):
  r'=r/\Aft N x r x' r:=by
 unfold zcx at h
 split at h
 .cases h
 rename_i hc
 obtain⟨a,b,c,d,e,f,k⟩:=hb
 have hb':Bd N { x with calls:=x.calls+1 } ⟨g,args++yaj g.locals.length 0,[],0⟩:=⟨a,by simp only[ybl];omega,c,hf g hg,by simp only;omega,f,k⟩
 have fin:∀{x1:zaN} {f1:Fr},Aft N { x with calls:=x.calls+1 } ⟨g,args++yaj g.locals.length 0,[],0⟩ x1 f1->Aft N x r { x1 with calls:=x1.calls-1 } r:=λ{x1 f1} ha=>by
  obtain⟨⟨a',b',c',d',e',f',k'⟩,s1,s2,s3⟩:=ha
  simp only at s1 s2
  exact⟨⟨a,by simp only;omega,c',d,by simp only;omega,f',k'⟩,s1,by simp only;omega,rfl⟩
 split at h
 .cases h
 .cases h
 .rename_i o x1 f1 hq
  have ha:=(hr _ _ _ _ _ _ _ hb' hD hq).1
  split at h
  .obtain⟨v1,_,h⟩:=zbH h (by simp)
   cases h
   exact⟨rfl,fin ha⟩
  .cases h
   exact⟨rfl,fin ha⟩
theorem zd0{mem:List UInt8}{at_ n:Nat}{v:Int}(h:at_+n<=mem.length):(zdt mem at_ v n).length=mem.length:=by
 simp[zdt];omega
theorem zZ{l:List Int}{v:Int}(hv:l.getLast?=some v):l.dropLast.length+1=l.length:=by
 have:l≠[]:=by rintro rfl;simp at hv
 have:=ybm.2 this
 simp;omega
theorem zs4{N:Nat}{D:Int}{rec:zgn}{fs:List F}(hr:RBd N D rec)(hf:zts fs)(hD:0<=D){n:Int}{x:zaN}{r:Fr}(hb:B1 N x r){u:Unit}{x':zaN}{r':Fr}(h:zav fs rec x r n=.ok u x' r'):Aft N x r x' r':=by
 unfold zav at h
 split at h
 .split at h
  .cases h;exact hb.aft (by simp[Fr.push])
  .rename_i v l hi
   cases h
   obtain⟨a,b,c,d⟩:=hb.aft (st:=r.stack++[v]) (loc:=r.locals) (res:=r.result) (by simp)
   obtain⟨a1,a2,a3,a4,a5,a6,a7⟩:=a
   rw[hi,yac]at a7
   exact⟨⟨a1,a2,a3,a4,a5,a6,by simp only;omega⟩,b,c,d⟩
 split at h
 .obtain⟨v,hv,h⟩:=zbH h (by simp)
  have h1:=zZ hv
  cases h
  obtain⟨⟨a,b,c,d,e,f,g⟩,k,m⟩:=hb
  refine⟨⟨a,?_,?_,d,e,f,g⟩,yd4 _,rfl,rfl⟩
  .simp only;omega
  .simp only[yab,yea];omega
 split at h
 .obtain⟨v,hv,h⟩:=zbH h (by simp)
  cases h
 split at h
 .cases h
 split at h
 .cases h
 rename_i g hg
 split at h
 .cases h
 have hgm:g∈fs:=ydb hg
 split at h
 .cases h
 .cases h
 .rename_i v x1 r1 hq
  have hb2:B1 N x { r with stack:=r.stack.take (r.stack.length-g.params.length) }:=hb.stack (by simp)
  obtain⟨rfl,ha⟩:=zvm hr hf hD hb2.bd hgm hq
  cases h
  obtain⟨⟨a,b,c,d,e,f,k⟩,s1,s2,s3⟩:=ha
  have h3:=hb.st
  refine⟨⟨a,?_,c,?_,e,f,k⟩,s1,s2,?_⟩
  .split<;>simp only[Fr.push,yab,yea,ybf]at b ⊢<;>omega
  .split<;>exact d
  .split<;>rfl
set_option maxHeartbeats 2000000 in
theorem zAr{N:Nat}{D:Int}{rec:zgn}{fs:List F}(hr:RBd N D rec)(hf:zts fs)(hD:0<=D){w:W}{x:zaN}{r:Fr}(hb:B1 N x r){u:Unit}{x':zaN}{r':Fr}(h:zaw fs rec w x r=.ok u x' r'):Aft N x r x' r':=by
 unfold zaw at h
 split at h
 .cases h;exact hb.aft (by simp)
 split at h
 .split at h
  .cases h
  .split at h
   .cases h
   .cases h;exact hb.aft (by simp)
 split at h
 .split at h
  .cases h
  .obtain⟨v,hv,h⟩:=zbH h (by simp)
   cases h;exact hb.aft (by simp;omega)
 split at h
 .obtain⟨v,hv,h⟩:=zbH h (by simp)
  obtain⟨v2,hv2,h⟩:=zbH h (by simp)
  have h1:=zZ hv
  have h2:=zZ hv2
  simp only at h2
  split at h
  .cases h
  .cases h;exact hb.aft (by simp only[Fr.push,yab,yea];omega)
 split at h
 .obtain⟨v,hv,h⟩:=zbH h (by simp)
  have h1:=zZ hv
  cases h;exact hb.aft (by simp only[Fr.push,yab,yea];omega)
 split at h
 .obtain⟨v,hv,h⟩:=zbH h (by simp)
  have h1:=zZ hv
  cases h;exact hb.aft (by simp only[Fr.push,yab,yea];omega)
 split at h
 .obtain⟨v,hv,h⟩:=zbH h (by simp)
  have h1:=zZ hv
  unfold zkp at h
  split at h
  .cases h
  split at h
  .cases h
  .cases h;exact hb.aft (by simp only[Fr.push,yab,yea];omega)
 split at h
 .obtain⟨v,hv,h⟩:=zbH h (by simp)
  obtain⟨v2,hv2,h⟩:=zbH h (by simp)
  have h1:=zZ hv
  have h2:=zZ hv2
  simp only at h2
  unfold zkp at h
  split at h
  .cases h
  split at h
  .cases h
  .rename_i n1 n2
   cases h
   obtain⟨a,b,c,d⟩:=hb.aft (st:=r.stack.dropLast.dropLast) (loc:=r.locals) (res:=r.result) (by omega)
   obtain⟨a1,a2,a3,a4,a5,a6,a7⟩:=a
   refine⟨⟨a1,a2,a3,a4,a5,?_,a7⟩,b,c,d⟩
   simp only
   rw[zd0]
   .exact a6
   .simp;omega
 split at h
 .exact zs4 hr hf hD hb h
 split at h
 .cases h
 split at h
 .obtain⟨v,hv,h⟩:=zbH h (by simp)
  cases h;exact hb.aft (by simp;omega)
 .cases h;exact hb.aft (by simp)
theorem Bd.refl{N x r}(h:Bd N x r):Aft N x r x r:=⟨h,yd4 _,rfl,rfl⟩
theorem zIA{N:Nat}{w:W}(hw:w.n<=2^63-1){deep:Int}(hd:deep<=2^62){x:zaN}{r:Fr}(hb:Bd N x r){o:Int}{x':zaN}{r':Fr}(h:ziu w deep x r=.ok o x' r'):Aft N x r x' r'/\o<=2^63-1:=by
 have go:∀{n:Int} {r1:Fr},n<=2^63-1->Aft N x r x r1->(if n=deep/\r1.fn.type≠0 then zcp r1 λv r=>Ev.ok n x { r with result:=v }else .ok n x r1)=.ok o x' r'->Aft N x r x' r'/\o<=2^63-1:=λ{n r1} hn ha h=>by
  split at h
  .obtain⟨v,hv,h⟩:=zbH h (by simp)
   have:=zZ hv
   cases h
   exact⟨ha.trans (ha.bd.aft (st:=r1.stack.dropLast) (loc:=r1.locals) (res:=v) (by omega)),hn⟩
  .cases h;exact⟨ha,hn⟩
 unfold ziu at h
 dsimp only at h
 split at h
 .exact go (by omega) hb.refl h
 split at h
 .obtain⟨v,hv,h⟩:=zbH h (by simp)
  have h1:=zZ hv
  have ha:Aft N x r x { r with stack:=r.stack.dropLast }:=hb.aft (by omega)
  split at h
  .cases h;exact⟨ha,by omega⟩
  .exact go hw ha h
 .exact go hw hb.refl h
theorem zrV{N:Nat}{D:Int}{rec:zgn}(hr:RBd N D rec){isLoop:Bool}{at_ deep:Int}(hd:deep<=D):∀(j:Nat) {x:zaN} {r:Fr},Bd N x r->∀{o:Int} {x':zaN} {r':Fr},zcX rec isLoop at_ deep j x r=.ok o x' r'->Aft N x r x' r'/\o<=2^63-1
 | 0,x,r,hb,o,x',r',h=>by cases h
 | j+1,x,r,hb,o,x',r',h=>by
  rw[zcX]at h
  split at h
  .cases h
  .cases h
  .rename_i o1 x1 r1 hq
   obtain⟨ha,ho⟩:=hr _ _ _ _ _ _ _ hb hd hq
   split at h
   .obtain⟨h1,h2⟩:=zrV hr hd j ha.bd h
    exact⟨ha.trans h1,h2⟩
   .cases h
    exact⟨ha,by split<;>omega⟩
theorem zvn{N:Nat}{D:Int}{rec:zgn}(hr:RBd N D rec){k:Nat}{w:W}{deep:Int}(hd:deep<=D){x:zaN}{r:Fr}(hb:Bd N x r){o:Int}{x':zaN}{r':Fr}(h:za5 rec k w deep x r=.ok o x' r'):Aft N x r x' r'/\o<=2^63-1:=by
 have go:∀{at_:Int} {r1:Fr},Aft N x r x r1->(if at_<0 then Ev.ok (-1) x r1 else zcX rec (decide (w.op=12)) at_ deep k x r1)=.ok o x' r'->Aft N x r x' r'/\o<=2^63-1:=λ{at_ r1} ha h=>by
  split at h
  .cases h;exact⟨ha,by omega⟩
  .obtain⟨h1,h2⟩:=zrV hr hd k ha.bd h
   exact⟨ha.trans h1,h2⟩
 unfold za5 at h
 simp only at h
 split at h
 .obtain⟨v,hv,h⟩:=zbH h (by simp)
  have h1:=zZ hv
  exact go (hb.aft (by omega)) h
 .exact go hb.refl h
theorem zvo{N:Nat}{D:Int}{rec:zgn}{fs:List F}(hr:RBd N D rec)(hf:zts fs)(hD:0<=D)(hD2:D<=2^62){k:Nat}{w:W}(hw:w.n<=2^63-1){deep:Int}(hd:deep+1<=D){x:zaN}{r:Fr}(hb:B1 N x r){o:Int}{x':zaN}{r':Fr}(h:zcy fs rec k deep w x r=.ok o x' r'):
  Aft N x r x' r'/\o<=2^63-1:=by
 unfold zcy at h
 split at h
 .exact zvn hr hd hb.bd h
 split at h
 .exact zIA hw (by omega) hb.bd h
 split at h
 .cases h
 .cases h
 .rename_i u x1 r1 hq
  cases h
  exact⟨zAr hr hf hD hb hq,by omega⟩
theorem zo0{N:Nat}{D:Int}{rec:zgn}{fs:List F}(hr:RBd N D rec)(hf:zts fs)(hD:0<=D)(hD2:D<=2^62){k:Nat}{deep:Int}(hd:deep+1<=D){height:Nat}:∀(ws:List W),(∀w∈ws,w.n<=2^63-1)->∀{x:zaN} {r:Fr},Bd N x r->∀{o:Int} {x':zaN} {r':Fr},zaL fs rec k deep height ws x r=.ok o x' r' ->
  Aft N x r x' r'/\o<=2^63-1
 | [],_,x,r,hb,o,x',r',h=>by cases h;exact⟨hb.refl,by omega⟩
 | w::ws,hw,x,r,hb,o,x',r',h=>by
  rw[zaL]at h
  split at h
  .cases h
  rename_i hs
  split at h
  .cases h
  .cases h
  .rename_i o1 x1 r1 hq
   obtain⟨ha,ho⟩:=zvo hr hf hD hD2 (hw w (by simp)) hd (hb.one (by omega)) hq
   have ha':Aft N x r x1 r1:=⟨ha.bd,by have:=ha.steps;simp only at this;omega,ha.calls,ha.fn⟩
   split at h
   .obtain⟨h1,h2⟩:=zo0 hr hf hD hD2 hd ws (λw h=>hw w (by simp[h])) ha.bd h
    exact⟨ha'.trans h1,h2⟩
   .split at h
    .cases h
    .cases h
     exact⟨ha'.trans (ha.bd.aft (by rw[ybf];omega)),ho⟩
theorem zqu{N:Nat}{fs:List F}(hf:zts fs):∀(k:Nat) (D:Int),0<=D->D+k<=2^62->RBd N D (znh fs k)
 | 0,D,_,_=>λx r at_ deep o x' r' _ _ h=>by cases h
 | k+1,D,h0,h1=>λx r at_ deep o x' r' hb hd h=>by
  rw[znh]at h
  split at h
  .cases h
  split at h
  .cases h
  .rename_i ws hws
   exact zo0 (zqu hf k (D+1) (by omega) (by push_cast at h1;omega)) hf (by omega) (by push_cast at h1;omega) (by omega) ws (λw hw=>hb.fn.nums _ (ydb hws) w hw) hb h
def XO(fs:List F)(mm mn:Int)(J0:AS)(xo mo:Nat)(D T:List Nat)(x:zaN)(J:AS):Prop:=∃ov,XM fs mm mn J0 xo mo D T x ov J
section
variable {G : Env} {fs : List F} {mm mn : Int} {J0 J : AS} {xo mo fo : Nat} {L T : List Nat} {x : zaN} {r : Fr} {R : Out -> AS -> Prop}
theorem XF.adds{J':AS}(h:XF fs mm mn J0 xo mo fo L T x r J)(A:zb J J'):XF fs mm mn J0 xo mo fo L T x r J':=by
 obtain⟨ov,sv,hm,hr,hd⟩:=h
 have hno:=hm.no
 have hxl:=hm.xl
 have hml:=hm.ml
 refine⟨ov,sv,⟨yai hm.no A.no,yai hm.nf A.nf,λo h1 h2 h3 h4=>?_,λg h1 h2=>?_,hm.xl,hm.ml,hm.xm,λo h1=>?_,?_,?_,hm.ownT,?_⟩,⟨?_,hr.fl,?_,hr.ownT⟩,hd⟩
 .rw[A.obj o (by omega)];exact hm.obj o h1 h2 h3 h4
 .have:=hm.nf;rw[A.fam g (by omega)];exact hm.fam g h1 h2
 .have:=hm.dl o h1;have:=A.no;exact⟨by omega,(hm.dl o h1).2⟩
 .obtain⟨fv,iv,a,b,c⟩:=hm.mach
  exact⟨fv,iv,by rw[A.obj xo (by omega)];exact a,b,c⟩
 .exact hm.own.keep A.nf λg hg=>A.fam g (hm.own.lt g hg)
 .rw[A.obj mo (by omega)];exact hm.mem
 .obtain⟨pv,lv,tv,cv,a,b,c,d,e⟩:=hr.fr
  exact⟨pv,lv,tv,cv,by rw[A.obj fo (hm.dl fo (by simp)).1];exact a,b,c,d,e.keep λo ho=>A.obj o (hm.dl o (by simp[ho])).1⟩
 .exact hr.own.keep A.nf λg hg=>A.fam g (hr.own.lt g hg)
theorem XF.other(h:XF fs mm mn J0 xo mo fo L T x r J){o:Nat}(h1:o<J0.no)(h2:o≠xo)(h3:o≠mo)(h4:o≠fo)(h5:o∉L):J.objs o=J0.objs o:=by
 obtain⟨ov,sv,hm,_,_⟩:=h
 exact hm.obj o h1 h2 h3 (by simp[h4,h5])
theorem XF.lts(h:XF fs mm mn J0 xo mo fo L T x r J):xo<J.no/\mo<J.no/\fo<J.no/\∀o∈L,o<J.no:=by
 obtain⟨ov,sv,hm,_,_⟩:=h
 have:=hm.no;have:=hm.xl;have:=hm.ml
 exact⟨by omega,by omega,(hm.dl fo (by simp)).1,λo ho=>(hm.dl o (by simp[ho])).1⟩
theorem XF.anchor(h:XF fs mm mn J0 xo mo fo L T x r J):∃T',XF fs mm mn J xo mo fo L T' x r J/\(∀x' r' J',XF fs mm mn J xo mo fo L T' x' r' J'->XF fs mm mn J0 xo mo fo L T x' r' J') /\
  ∀x' J',XO fs mm mn J xo mo (fo::L) T' x' J'->XO fs mm mn J0 xo mo (fo::L) T x' J':=by
 have hl:=h.lts
 obtain⟨ov,sv,hm,hr,hd⟩:=h
 have tT:∀g,g∈zam ov++zam sv->g∈T\/J0.nf<=g:=λg hg=>by
  rcases ybh.1 hg with hg|hg
  .exact hm.ownT g hg
  .exact hr.ownT g hg
 have mt:∀x' ov' J',XM fs mm mn J xo mo (fo::L) (zam ov++zam sv) x' ov' J'->XM fs mm mn J0 xo mo (fo::L) T x' ov' J':=λx' ov' J' k=>by
  have h1:=hm.no;have h2:=hm.nf;have h3:=k.no;have h4:=k.nf
  refine⟨by omega,by omega,λo a b c d=>?_,λg a b=>?_,hm.xl,hm.ml,hm.xm,k.dl,k.mach,k.own,λg hg=>?_,k.mem⟩
  .rw[k.obj o (by omega) b c d];exact hm.obj o a b c d
  .rw[k.fam g (by omega) (λhg=>by rcases tT g hg with h|h;exact b h;omega)];exact hm.fam g a b
  .rcases k.ownT g hg with h|h
   .exact tT g h
   .right;omega
 refine⟨zam ov++zam sv,⟨ov,sv,⟨yah _,yah _,λ_ _ _ _ _=>rfl,λ_ _ _=>rfl,hl.1,hl.2.1,hm.xm,hm.dl,hm.mach,hm.own,λg hg=>.inl (by simp[hg]),hm.mem⟩,⟨hr.fr,hr.fl,hr.own,λg hg=>.inl (by simp[hg])⟩,hd⟩,?_,?_⟩
 .rintro x' r' J' ⟨ov',sv',km,kr,kd⟩
  refine⟨ov',sv',mt _ _ _ km,⟨kr.fr,kr.fl,kr.own,λg hg=>?_⟩,kd⟩
  rcases kr.ownT g hg with h|h
  .exact tT g h
  .right;have:=hm.nf;omega
 .rintro x' J' ⟨ov',km⟩
  exact⟨ov',mt _ _ _ km⟩
theorem XF.stop(h:XF fs mm mn J0 xo mo fo L T x r J):XO fs mm mn J0 xo mo (fo::L) T x J:=by
 obtain⟨ov,sv,hm,_,_⟩:=h;exact⟨ov,hm⟩
def zkt(G:Env)(fs:List F)(mm mn:Int)(N:Nat)(D:Int)(rec:zgn):Prop:=∀{J0 J:AS} {xo mo fo:Nat} {L T:List Nat} {x:zaN} {r:Fr} {at_ deep:Int} {R:Out->AS->Prop},
 XF fs mm mn J0 xo mo fo L T x r J->Bd N x r->0<=deep->deep<=D->rec x r at_ deep≠.bad ->
 (∀o x' r' J',rec x r at_ deep=.ok o x' r'->XF fs mm mn J0 xo mo fo L T x' r' J'->R (.ret (.int .i64 o)) J') ->
 (∀s c x' J',rec x r at_ deep=.over s c x'->XO fs mm mn J0 xo mo (fo::L) T x' J'->R (.panic (zks s c)) J') ->
 zzQ G 146 [.ptr xo 0,.ptr fo 0,.int .i64 at_,.int .i64 deep] J R
theorem XF.cells(h:XF fs mm mn J0 xo mo fo L T x r J):∃pv lv tv cv sv,J.objs fo=some [.str r.fn.name,pv,lv,.int .i64 r.fn.type,tv,cv,sv,.int .i64 r.result]/\(pv.known=true/\pv.one=true/\pv.cells=[pv])/\(lv.known=true/\lv.one=true/\lv.cells=[lv]) /\
  (tv.known=true/\tv.one=true/\tv.cells=[tv])/\(cv.known=true/\cv.one=true/\cv.cells=[cv])/\(sv.known=true/\sv.one=true/\sv.cells=[sv])/\zni J sv r.stack/\zcn tv r.fn.lists/\zEq J L cv r.locals /\
  ∀v,XF fs mm mn J0 xo mo fo L T x { r with result:=v } (J.setO fo [.str r.fn.name,pv,lv,.int .i64 r.fn.type,tv,cv,sv,.int .i64 v]):=by
 have hx:=h
 obtain⟨ov,sv,hm,hr,hd⟩:=h
 obtain⟨pv,lv,tv,cv,ho,hpv,hlv,htv,hcv⟩:=hr.fr
 exact⟨pv,lv,tv,cv,sv,ho,hpv.one,hlv.one,htv.one,hcv.one,hr.own.one,hr.own,htv,hcv,λv=>hx.setFr (J1:=J) (st':=r.stack) ho rfl rfl (yah _) (λ_ _ _=>rfl) hr.own λg hg=>.inl hg⟩
theorem zbh{l:List Int}(h:l≠[]):∃v,l.getLast?=some v:=⟨_,yd3 h⟩
set_option maxHeartbeats 1000000 in
theorem zku{N:Nat}{w:W}{deep:Int}(h:XF fs mm mn J0 xo mo fo L T x r J)(hb:Bd N x r)(hw:ziu w deep x r≠.bad)(hR:∀o x' r' J',ziu w deep x r=.ok o x' r'->XF fs mm mn J0 xo mo fo L T x' r' J'->R (.ret (.int .i64 o)) J'):
  zzQ G 182 [.ptr fo 0,w.av,.int .i64 deep] J R:=by
 refine zxV rfl ?_
 obtain⟨wop,wty,wn,wbody,wother,wname⟩:=w
 have hn:=hb.n
 have hst:r.stack.length<=2^40:=by have:=hb.stack;omega
 have hlts:=h.lts
 have h1:XF fs mm mn J0 xo mo fo L T x r (J.newO [.int .i64 wop,.int .i64 wty,.int .i64 wn,.int .i64 wbody,.int .i64 wother,.str wname]):=h.adds (zb.refl J).newO
 obtain⟨T',k1,k2,_⟩:=h1.anchor
 have hfo:fo≠J.no:=by omega
 have hbo:∀{r1:Fr} {J':AS},XF fs mm mn (J.newO [.int .i64 wop,.int .i64 wty,.int .i64 wn,.int .i64 wbody,.int .i64 wother,.str wname]) xo mo fo L T' x r1 J'->J'.objs J.no=some [.int .i64 wop,.int .i64 wty,.int .i64 wn,.int .i64 wbody,.int .i64 wother,.str wname]:=λ{r1 J'} hx=>by
  rw[hx.other (o:=J.no) (by simp) (by omega) (by omega) (by omega) (λhh=>by have:=hlts.2.2.2 _ hh;omega)];simp
 obtain⟨pv,lv,tv,cv,sv,ho,e1,e2,e3,e4,e5,_,_,_,_⟩:=h.cells
 -- the branch tO the body,that takes the result
 have last:∀{r1:Fr} {J1:AS} {n:Int},XF fs mm mn (J.newO [.int .i64 wop,.int .i64 wty,.int .i64 wn,.int .i64 wbody,.int .i64 wother,.str wname]) xo mo fo L T' x r1 J1->r1.stack.length<=2^40->zcp r1 (λv r=>Ev.ok n x { r with result:=v })≠.bad ->
   ∀{K:Out->AS->Prop},(∀v J' pv lv tv cv sv,r1.stack.getLast?=some v->J'.objs fo=some [.str r1.fn.name,pv,lv,.int .i64 r1.fn.type,tv,cv,sv,.int .i64 r1.result]->(pv.known=true/\pv.one=true/\pv.cells=[pv])->(lv.known=true/\lv.one=true/\lv.cells=[lv])->(tv.known=true/\tv.one=true/\tv.cells=[tv])->(cv.known=true/\cv.one=true/\cv.cells=[cv])->(sv.known=true/\sv.one=true/\sv.cells=[sv]) ->
    XF fs mm mn J0 xo mo fo L T x { r1 with stack:=r1.stack.dropLast,result:=v } (J'.setO fo [.str r1.fn.name,pv,lv,.int .i64 r1.fn.type,tv,cv,sv,.int .i64 v])->K (.ret (.int .i64 v)) J')->zzQ G 147 [.ptr fo 0] J1 K:=by
  intro r1 J1 n hx hl hp K hK
  have hne:r1.stack≠[]:=by rintro e;simp[zcp,e]at hp
  obtain⟨v,hv⟩:=zbh hne
  refine zay hx hl hv λJ' hx'=>?_
  obtain⟨pv,lv,tv,cv,sv,ho,e1,e2,e3,e4,e5,_,_,_,hset⟩:=hx'.cells
  exact hK v J' pv lv tv cv sv hv ho e1 e2 e3 e4 e5 (k2 _ _ _ (hset v))
 by_cases h16:wop=16
 .subst h16
  simp only[ziu,if_true]at hw hR
  by_cases ht:r.fn.type=0
  .simp[ht]at hR
   simp[zpT,W.av,W.cs,splice,hfo,ho,ht,e1,e2,e3,e4,e5]
   exact hR _ _ _ _ rfl rfl rfl h1
  .simp[ht]at hR hw
   simp[zpT,W.av,W.cs,splice,hfo,ho,ht,e1,e2,e3,e4,e5]
   refine last k1 hst hw λv J' pv lv tv cv sv hv ho e1 e2 e3 e4 e5 hx=>?_
   simp[ho,e1,e2,e3,e4,e5,splice]
   exact hR _ _ _ _ (by simp[zcp,hv]) hx
 by_cases h15:wop=15
 .subst h15
  have hne:r.stack≠[]:=by rintro e;simp[ziu,zcp,e]at hw
  obtain⟨v,hv⟩:=zbh hne
  have hd:=zZ hv
  simp[zpT,W.av,W.cs,splice,hfo,ho,e1,e2,e3,e4,e5]
  refine zay k1 hst hv λJ' hx'=>?_
  obtain⟨pv,lv,tv,cv,sv,ho',e1,e2,e3,e4,e5,_,_,_,_⟩:=hx'.cells
  have hbo':=hbo hx'
  by_cases hv0:v=0
  .simp[ziu,zcp,hv,hv0]at hR
   simp[hv0,splice]
   exact hR _ _ _ _ rfl rfl rfl (k2 _ _ _ hx')
  .by_cases hnd:wn=deep
   .by_cases ht:r.fn.type=0
    .simp[ziu,zcp,hv,hv0,hnd,ht]at hR
     simp[hv0,splice,hnd,ho',ht,e1,e2,e3,e4,e5,hbo',W.cs]
     exact hR _ _ _ _ rfl rfl rfl (k2 _ _ _ hx')
    .have hw':zcp { r with stack:=r.stack.dropLast } (λv r=>Ev.ok deep x { r with result:=v })≠.bad:=by
      intro hh;apply hw;rw[<-hh];simp only[ziu];simp[zcp,hv,hv0,hnd,ht]
     simp[hv0,splice,hnd,ho',ht,e1,e2,e3,e4,e5,hbo',W.cs]
     refine last hx' (by simp;omega) hw' λv2 J' pv lv tv cv sv hv2 ho e1 e2 e3 e4 e5 hx=>?_
     simp[ho,e1,e2,e3,e4,e5,splice]
     refine hR _ _ _ _ ?_ hx
     simp only[ziu]
     simp[zcp,hv,hv0,hnd,ht,hv2]
   .simp[ziu,zcp,hv,hv0,hnd]at hR
    simp[hv0,splice,hnd,ho',e1,e2,e3,e4,e5,hbo',W.cs]
    exact hR _ _ _ _ rfl rfl rfl (k2 _ _ _ hx')
 by_cases hnd:wn=deep
 .by_cases ht:r.fn.type=0
  .simp[ziu,h16,h15,hnd,ht]at hR
   simp[zpT,W.av,W.cs,splice,h16,h15,hnd,hfo,ho,ht,e1,e2,e3,e4,e5]
   exact hR _ _ _ _ rfl rfl rfl (by simpa [hnd]using h1)
  .simp[ziu,h16,h15,hnd,ht]at hR hw
   subst hnd
   simp[zpT,W.av,W.cs,splice,h16,h15,hfo,ho,ht,e1,e2,e3,e4,e5]
   refine last k1 hst hw λv J' pv lv tv cv sv hv ho e1 e2 e3 e4 e5 hx=>?_
   simp[ho,e1,e2,e3,e4,e5,splice]
   exact hR _ _ _ _ (by simp[zcp,hv]) hx
 .simp[ziu,h16,h15,hnd]at hR
  simp[zpT,W.av,W.cs,splice,h16,h15,hnd,hfo,ho,e1,e2,e3,e4,e5]
  exact hR _ _ _ _ rfl rfl rfl h1
end
section
variable {G : Env} {fs : List F} {mm mn : Int} {J0 J : AS} {xo mo fo : Nat} {L T : List Nat} {x : zaN} {r : Fr} {R : Out -> AS -> Prop}
theorem zgZ{N:Nat}{D:Int}{rec:zgn}(hrec:zkt G fs mm mn N D rec)(hbd:RBd N D rec){wop wty wn wbody wother at_ deep:Int}{wname:List UInt8}{bo:Nat}(h0:0<=deep)(hd:deep<=D)(hat:0<=at_)
  (hbo:∀{x1:zaN} {r1:Fr} {J':AS},XF fs mm mn J0 xo mo fo L T x1 r1 J'->J'.objs bo=some [.int .i64 wop,.int .i64 wty,.int .i64 wn,.int .i64 wbody,.int .i64 wother,.str wname]) :
  ∀(j:Nat) {x1:zaN} {r1:Fr} {Z:AS} {a:Nat->AV},XF fs mm mn J0 xo mo fo L T x1 r1 Z->Bd N x1 r1->zcX rec (decide (wop=12)) at_ deep j x1 r1≠.bad->a 0=.ptr xo 0->a 1=.ptr fo 0->a 3=.int .i64 deep->a 6=.ptr bo 0->a 9=.int .i64 at_ ->
   (∀o x' r' J',zcX rec (decide (wop=12)) at_ deep j x1 r1=.ok o x' r'->XF fs mm mn J0 xo mo fo L T x' r' J'->R (.ret (.int .i64 o)) J') ->
   (∀s c x' J',zcX rec (decide (wop=12)) at_ deep j x1 r1=.over s c x'->XO fs mm mn J0 xo mo (fo::L) T x' J'->R (.panic (zks s c)) J') ->
   zda yb9 G 41 zfh (zai 0 (zan (avc yb9 G 41 zfi (zcq yb9 [ResultVar.tmp 8] R)) (zcq yb9 [ResultVar.tmp 8] R))) j a Z
 | 0,x1,r1,Z,a,hx,hb,hw,_,_,_,_,_,_,_=>by simp[zcX]at hw
 | j+1,x1,r1,Z,a,hx,hb,hw,a0,a1,a3,a6,a9,hR,hO=>by
  have hat':¬at_<0:=by omega
  simp only[zcX]at hw hR hO
  simp[zfh,a0,a1,a3,a6,a9,hat,hat']
  refine hrec hx hb h0 hd (λe=>by rw[e]at hw;exact hw rfl) (λo x' r' J' e hx'=>?_) (λs c x' J' e ho=>?_)
  .rw[e]at hw hR hO
   obtain⟨hA,ho2⟩:=hbd _ _ _ _ _ _ _ hb hd e
   have hbo':=hbo hx'
   simp only at hw hR hO
   by_cases ho:o=0
   .by_cases h12:wop=12
    .simp only[ho,h12,decide_true,and_self,if_true]at hw hR hO
     simp[ho,h12,hbo',splice,a0,a1,a3,a6,a9]
     exact zgZ hrec hbd h0 hd hat hbo j hx' hA.bd (by simpa [h12]using hw) (by simp[a0]) (by simp[a1]) (by simp[a3]) (by simp[a6]) (by simp[a9]) (by simpa [h12]using hR) (by simpa [h12]using hO)
    .simp[ho,h12]at hR
     simp[ho,h12,hbo',zfi,a0,a1,a3,a6,a9]
     exact hR _ _ _ _ rfl rfl rfl hx'
   .by_cases hp:0<o
    .have w1:yb4 .i64 (o-1)=o-1:=by rw[wrap_i64]<;>omega
     simp[ho,hp]at hR
     simp[ho,hp,hbo',w1,splice,a0,a1,a3,a6,a9]
     exact hR _ _ _ _ rfl rfl rfl hx'
    .simp[ho,hp]at hR
     simp[ho,hp,hbo',zfi,a0,a1,a3,a6,a9]
     exact hR _ _ _ _ rfl rfl rfl hx'
  .rw[e]at hO
   simp
   exact hO _ _ _ _ rfl ho
theorem zeZ{N:Nat}{D:Int}{rec:zgn}(hrec:zkt G fs mm mn N D rec)(hbd:RBd N D rec){k:Nat}{w:W}{deep:Int}(h:XF fs mm mn J0 xo mo fo L T x r J)(hb:Bd N x r)(h0:0<=deep)(hd:deep<=D)(hw:za5 rec k w deep x r≠.bad)
  (hR:∀o x' r' J',za5 rec k w deep x r=.ok o x' r'->XF fs mm mn J0 xo mo fo L T x' r' J'->R (.ret (.int .i64 o)) J')
  (hO:∀s c x' J',za5 rec k w deep x r=.over s c x'->XO fs mm mn J0 xo mo (fo::L) T x' J'->R (.panic (zks s c)) J') :
  zzQ G 181 [.ptr xo 0,.ptr fo 0,w.av,.int .i64 deep] J R:=by
 refine zxU rfl ?_
 obtain⟨wop,wty,wn,wbody,wother,wname⟩:=w
 have hn:=hb.n
 have hst:r.stack.length<=2^40:=by have:=hb.stack;omega
 have hlts:=h.lts
 have h1:XF fs mm mn J0 xo mo fo L T x r (J.newO [.int .i64 wop,.int .i64 wty,.int .i64 wn,.int .i64 wbody,.int .i64 wother,.str wname]):=h.adds (zb.refl J).newO
 obtain⟨T',k1,k2,k3⟩:=h1.anchor
 have hbo:∀{x1:zaN} {r1:Fr} {J':AS},XF fs mm mn (J.newO [.int .i64 wop,.int .i64 wty,.int .i64 wn,.int .i64 wbody,.int .i64 wother,.str wname]) xo mo fo L T' x1 r1 J'->J'.objs J.no=some [.int .i64 wop,.int .i64 wty,.int .i64 wn,.int .i64 wbody,.int .i64 wother,.str wname]:=λ{x1 r1 J'} hx=>by
  rw[hx.other (o:=J.no) (by simp) (by omega) (by omega) (by omega) (λhh=>by have:=hlts.2.2.2 _ hh;omega)];simp
 have go:∀{at_:Int} {r1:Fr} {J1:AS} {a:Nat->AV},XF fs mm mn (J.newO [.int .i64 wop,.int .i64 wty,.int .i64 wn,.int .i64 wbody,.int .i64 wother,.str wname]) xo mo fo L T' x r1 J1->Bd N x r1->(if at_<0 then Ev.ok (-1) x r1 else zcX rec (decide (wop=12)) at_ deep k x r1)=za5 rec k ⟨wop,wty,wn,wbody,wother,wname⟩ deep x r ->
   a 0=.ptr xo 0->a 1=.ptr fo 0->a 3=.int .i64 deep->a 6=.ptr J.no 0->a 9=.int .i64 at_->zju yb9 G 41 zfh (zai 0 (zan (avc yb9 G 41 zfi (zcq yb9 [ResultVar.tmp 8] R)) (zcq yb9 [ResultVar.tmp 8] R))) a J1:=by
  intro at_ r1 J1 a hx hb1 e a0 a1 a3 a6 a9
  by_cases hat:at_<0
  .refine zbM 1 ?_
   have hat':¬0<=at_:=by omega
   rw[if_pos hat]at e
   simp[zfh,zfi,a0,a1,a3,a6,a9,hat,hat']
   exact hR _ _ _ _ e.symm (k2 _ _ _ hx)
  .rw[if_neg hat]at e
   refine zbM k ?_
   exact zgZ (R:=R) hrec hbd h0 hd (by omega) hbo k hx hb1 (by rw[e];exact hw) a0 a1 a3 a6 a9 (λo x' r' J' e2 hx'=>hR _ _ _ _ (e▸e2) (k2 _ _ _ hx')) (λs c x' J' e2 ho=>hO _ _ _ _ (e▸e2) (k3 _ _ ho))
 by_cases h13:wop=13
 .subst h13
  have hne:r.stack≠[]:=by rintro e;simp[za5,zcp,e]at hw
  obtain⟨v,hv⟩:=zbh hne
  have hdl:=zZ hv
  simp[zDG,W.av,W.cs]
  refine zay k1 hst hv λJ' hx'=>?_
  have hbo':=hbo hx'
  by_cases hv0:v=0
  .simp[hv0,hbo',splice]
   refine go (at_:=wother) hx' (hb.stackLe (by omega)) ?_ (by simp) (by simp) (by simp) (by simp) (by simp)
   simp[za5,zcp,hv,hv0]
  .simp[hv0,hbo',splice]
   refine go (at_:=wbody) hx' (hb.stackLe (by omega)) ?_ (by simp) (by simp) (by simp) (by simp) (by simp)
   simp[za5,zcp,hv,hv0]
 .simp[zDG,W.av,W.cs,h13]
  refine go (at_:=wbody) k1 hb ?_ (by simp) (by simp) (by simp) (by simp) (by simp)
  simp[za5,h13]
end
section
variable {G : Env} {fs : List F} {mm mn : Int} {J0 J : AS} {xo mo fo : Nat} {L T D : List Nat} {x : zaN} {r : Fr} {R : Out -> AS -> Prop}
def zwk(J:AS)(v:AV)(l:List Int):Prop:=(l=[]/\v=.sl (.stat true) 1 [])\/zni J v l
theorem zwk.one{J v l}(h:zwk J v l):v.known=true/\v.one=true/\v.cells=[v]:=by
 rcases h with ⟨_,rfl⟩|h
 .simp
 .exact h.one
theorem zfV{l:List Int}{sv:AV}(h:zni J sv l)(hl:l.length<=2^40)(hR:∀av J',zwk J' av l->zb J J'->(∀g∈zam av,J.nf<=g)->R (.ret av) J'):zzQ G 248 [sv] J R:=by
 refine zyw rfl ?_
 rcases h with ⟨rfl,rfl⟩|⟨g,rfl,h1,h2⟩
 .have:=hR .nilsl J (.inr (.inl ⟨rfl,rfl⟩)) (.refl _) (by simp[zam])
  simp[zyv,aeq]
  exact this
 .cases l with
  | nil =>
   have:=hR (.sl (.stat true) 1 []) J (.inl ⟨rfl,rfl⟩) (.refl _) (by simp[zam])
   simp[zyv,aeq,h2]
   exact this
  | cons n l =>
   have:=hR (.sl (.fam J.nf false) 1 ((n::l).map (.int .i64))) J.newF (.inr (.inr ⟨_,rfl,by simp,by simp⟩)) (zb.refl J).newF (by simp[zam])
   simp at hl
   simp[zyv,aeq,h2]
   exact⟨by omega,by simpa using this⟩
theorem zs5{el:Option TypeId}{av:AV}{args:List Int}{n:Nat}{K:AV->AS->Prop}(h:zwk J av args)(hl:args.length+n<=2^40)
  (hK:∀cv J',zwk J' cv (args++yaj n 0)->J'.objs=J.objs->J'.no=J.no->J.nf<=J'.nf->(∀k,k<J.nf->k∉zam av->J'.F k=J.F k)->(∀k∈zam cv,k∈zam av\/J.nf<=k)->K cv J') :
  zb8 el 8 1 av (yaj n (.int .i64 0)) J K:=by
 have hrep:∀m,(yaj m (yc6 .i64 0))=(yaj m (0:Int)).map (.int .i64):=λm=>by simp
 have fresh:∀{a:List Int},zwk J.newF (.sl (.fam J.nf false) 1 ((a++yaj n 0).map (.int .i64))) (a++yaj n 0):=λ{a}=>.inr (.inr ⟨_,rfl,by simp,by simp⟩)
 rcases h with ⟨rfl,rfl⟩|⟨rfl,rfl⟩|⟨g,rfl,h1,h2⟩
 .cases n with
  | zero=>simpa using hK (.sl (.stat true) 1 []) J (.inl ⟨rfl,rfl⟩) rfl rfl (yah _) (λ_ _ _=>rfl) (by simp[zam])
  | succ n =>
   have:=hK _ J.newF (fresh (a:=[])) (by simp) (by simp) (by simp) (λk h1 _=>by simp;intro h;omega) (by simp[zam])
   rw[ydj]
   simp at hl
   simp
   refine⟨by omega,?_⟩
   simpa [ydj]using this
 .cases n with
  | zero=>simpa using hK .nilsl J (.inr (.inl ⟨rfl,rfl⟩)) rfl rfl (yah _) (λ_ _ _=>rfl) (by simp[zam])
  | succ n =>
   have:=hK _ J.newF (fresh (a:=[])) (by simp) (by simp) (by simp) (λk h1 _=>by simp;intro h;omega) (by simp[zam])
   rw[ydj]
   simp at hl
   simp
   refine⟨by omega,?_⟩
   simpa [ydj]using this
 .have:=hK (.sl (.fam J.nf false) 1 ((args++yaj n 0).map (.int .i64))) (J.setF g .dead).newF (.inr (.inr ⟨_,rfl,by simp,by simp⟩)) (by simp) (by simp) (by simp) (λk h1 h2=>by simp[zam]at h2;simp[h2];intro h;omega) (by simp[zam])
  simp[h2]
  exact⟨by omega,by simpa using this⟩
theorem XM.adds{ov:AV}{J':AS}(hm:XM fs mm mn J0 xo mo D T x ov J)(A:zb J J'):XM fs mm mn J0 xo mo D T x ov J':=by
 have hno:=hm.no
 have hxl:=hm.xl
 have hml:=hm.ml
 refine⟨yai hm.no A.no,yai hm.nf A.nf,λo h1 h2 h3 h4=>?_,λg h1 h2=>?_,hm.xl,hm.ml,hm.xm,λo h1=>?_,?_,?_,hm.ownT,?_⟩
 .rw[A.obj o (by omega)];exact hm.obj o h1 h2 h3 h4
 .have:=hm.nf;rw[A.fam g (by omega)];exact hm.fam g h1 h2
 .have:=hm.dl o h1;have:=A.no;exact⟨by omega,(hm.dl o h1).2⟩
 .obtain⟨fv,iv,a,b,c⟩:=hm.mach
  exact⟨fv,iv,by rw[A.obj xo (by omega)];exact a,b,c⟩
 .exact hm.own.keep A.nf λg hg=>A.fam g (hm.own.lt g hg)
 .rw[A.obj mo (by omega)];exact hm.mem
theorem XM.calls{fv iv ov:AV}{c:Int}(hm:XM fs mm mn J0 xo mo D T x ov J)(ho:J.objs xo=some [fv,.int .i64 mm,.int .i64 mn,iv,.int .i64 x.steps,.slm mo 0 1 x.memory.length,ov,.int .i64 x.calls])(hf:FsV fv fs)(hi:zaq iv x.input):
  XM fs mm mn J0 xo mo D T { x with calls:=c } ov (J.setO xo [fv,.int .i64 mm,.int .i64 mn,iv,.int .i64 x.steps,.slm mo 0 1 x.memory.length,ov,.int .i64 c]):=by
 refine⟨by simpa using hm.no,hm.nf,λo h1 h2 h3 h4=>by simp[h2];exact hm.obj o h1 h2 h3 h4,hm.fam,hm.xl,hm.ml,hm.xm,λo h=>by simpa using hm.dl o h,⟨fv,iv,by simp,hf,hi⟩,hm.own.keep (by simp) (λ_ _=>rfl),hm.ownT,?_⟩
 simp[Ne.symm hm.xm];exact hm.mem
theorem XM.reanchor{ov:AV}(hm:XM fs mm mn J0 xo mo D T x ov J){D':List Nat}(hd:∀o∈D',o<J.no/\o≠xo/\o≠mo):XM fs mm mn J xo mo D' (zam ov) x ov J:=by
 have:=hm.no;have:=hm.xl;have:=hm.ml
 exact⟨yah _,yah _,λ_ _ _ _ _=>rfl,λ_ _ _=>rfl,by omega,by omega,hm.xm,hd,hm.mach,hm.own,λg hg=>.inl hg,hm.mem⟩
theorem XM.back{ov:AV}(hm:XM fs mm mn J0 xo mo D T x ov J){D':List Nat}(hd:∀o∈D',J0.no<=o){x':zaN}{J':AS}(h:XO fs mm mn J xo mo D' (zam ov) x' J'):XO fs mm mn J0 xo mo D T x' J':=by
 obtain⟨ov',k⟩:=h
 have h1:=hm.no;have h2:=hm.nf;have h3:=k.no;have h4:=k.nf
 refine⟨ov',by omega,by omega,λo a b c d=>?_,λg a b=>?_,hm.xl,hm.ml,hm.xm,λo ho=>?_,k.mach,k.own,λg hg=>?_,k.mem⟩
 .rw[k.obj o (by omega) b c (λhh=>by have:=hd o hh;omega)];exact hm.obj o a b c d
 .rw[k.fam g (by omega) (λhg=>by rcases hm.ownT g hg with h|h;exact b h;omega)];exact hm.fam g a b
 .have:=hm.dl o ho;exact⟨by omega,this.2⟩
 .rcases k.ownT g hg with h|h
  .exact hm.ownT g h
  .right;omega
theorem XM.fams{ov:AV}(hm:XM fs mm mn J0 xo mo D T x ov J){J1:AS}{av:AV}(haT:∀k∈zam av,k∈T\/J0.nf<=k)(hao:∀k∈zam av,k∉zam ov)(q1:J1.objs=J.objs)(q2:J1.no=J.no)(q3:J.nf<=J1.nf)(q4:∀k,k<J.nf->k∉zam av->J1.F k=J.F k):
  XM fs mm mn J0 xo mo D T x ov J1:=by
 have h2:=hm.nf
 refine⟨by rw[q2];exact hm.no,by omega,λo a b c d=>by rw[q1];exact hm.obj o a b c d,λg a b=>?_,hm.xl,hm.ml,hm.xm,λo ho=>by rw[q2];exact hm.dl o ho,by rw[q1];exact hm.mach,hm.own.keep q3 λg hg=>q4 g (hm.own.lt g hg) λh=>hao g h hg,hm.ownT,by rw[q1];exact hm.mem⟩
 rw[q4 g (by omega) (λh=>by rcases haT g h with h|h;exact b h;omega)];exact hm.fam g a b
theorem zo1:∀(l:List Int),zM (l.map (yc6 .i64))=l.map (yc6 .i64)
 | []=>rfl
 | a::l=>by have:=zo1 l;simp[zM,AV.cells]at this ⊢;exact this
theorem enter{ov cv pv lv tv:AV}{g:F}{locs:List Int}(hm:XM fs mm mn J0 xo mo D T x ov J)(hcv:zwk J cv locs)(hcT:∀k∈zam cv,k∈T\/J0.nf<=k)(hco:∀k∈zam cv,k∉zam ov)(hp:zaq pv g.params)(hl:zaq lv g.locals)(ht:zcn tv g.lists):
  ∃Jc L',XF fs mm mn Jc xo mo J.no L' (zam ov) x ⟨g,locs,[],0⟩ Jc/\(∀x' J',XO fs mm mn Jc xo mo (J.no::L') (zam ov) x' J'->XO fs mm mn J0 xo mo D T x' J')/\(∀o,o<J.no->Jc.objs o=J.objs o/\o<Jc.no/\o≠J.no/\o∉L') /\
   ∀{us:List AV} {K:Out->AS->Prop},zzQ G 146 us Jc K->zzQ G 146 us (J.newO [.str g.name,pv,lv,.int .i64 g.type,tv,cv,.nilsl,.int .i64 0]) K:=by
 have hno:=hm.no;have hxl:=hm.xl;have hml:=hm.ml
 have h2:XM fs mm mn J0 xo mo D T x ov (J.newO [.str g.name,pv,lv,.int .i64 g.type,tv,cv,.nilsl,.int .i64 0]):=hm.adds (zb.refl J).newO
 have empty:locs=[]->(cv=.nilsl\/∃φ,cv=.sl φ 1 [])->∃Jc L',XF fs mm mn Jc xo mo J.no L' (zam ov) x ⟨g,locs,[],0⟩ Jc/\(∀x' J',XO fs mm mn Jc xo mo (J.no::L') (zam ov) x' J'->XO fs mm mn J0 xo mo D T x' J')/\(∀o,o<J.no->Jc.objs o=J.objs o/\o<Jc.no/\o≠J.no/\o∉L') /\
   ∀{us:List AV} {K:Out->AS->Prop},zzQ G 146 us Jc K->zzQ G 146 us (J.newO [.str g.name,pv,lv,.int .i64 g.type,tv,cv,.nilsl,.int .i64 0]) K:=λh0 hc=>by
  refine⟨_,[],⟨ov,.nilsl,h2.reanchor (by simp;omega),⟨⟨pv,lv,tv,cv,by simp,hp,hl,ht,.inl ⟨rfl,h0,hc⟩⟩,by simp,.inl ⟨rfl,rfl⟩,by simp[zam]⟩,by simp[zam]⟩,λx' J' h=>h2.back (by simp;omega) h,λo ho=>⟨by simp;intro h;omega,by simp;omega,by omega,by simp⟩,λh=>h⟩
 rcases hcv with ⟨h0,rfl⟩|⟨h0,rfl⟩|⟨f,rfl,hf1,hf2⟩
 .exact empty h0 (.inr ⟨_,rfl⟩)
 .exact empty h0 (.inl rfl)
 .have hfo:f∉zam ov:=hco f (by simp[zam])
  have h3:XM fs mm mn J0 xo mo D T x ov ((J.newO [.str g.name,pv,lv,.int .i64 g.type,tv,.sl (.fam f false) 1 (locs.map (.int .i64)),.nilsl,.int .i64 0]).own f J.no [.str g.name,pv,lv,.int .i64 g.type,tv,.slm (J.no+1) 0 1 locs.length,.nilsl,.int .i64 0] (locs.map (.int .i64))):=by
   have k1:=hm.fams (J1:={ J with F:=upd J.F f .dead }) hcT hco rfl rfl (yah _) (λk _ hk=>by simp[zam]at hk;simp[upd,hk])
   refine k1.adds ⟨by simp[AS.own];omega,by simp[AS.own],λo ho=>?_,λk hk=>by simp[AS.own]⟩
   have e1:o≠J.no:=by simp at ho;omega
   have e2:o≠J.no+1:=by simp at ho;omega
   simp[AS.own,upd,e1,e2]
  refine⟨(J.newO [.str g.name,pv,lv,.int .i64 g.type,tv,.sl (.fam f false) 1 (locs.map (.int .i64)),.nilsl,.int .i64 0]).own f J.no [.str g.name,pv,lv,.int .i64 g.type,tv,.slm (J.no+1) 0 1 locs.length,.nilsl,.int .i64 0] (locs.map (.int .i64)),[J.no+1],⟨ov,.nilsl,h3.reanchor (by simp[AS.own];omega),⟨⟨pv,lv,tv,_,by simp[AS.own,upd],hp,hl,ht,.inr ⟨J.no+1,rfl,rfl,by simp[AS.own,upd]⟩⟩,by simp,.inl ⟨rfl,rfl⟩,by simp[zam]⟩,by simp[zam]⟩,λx' J' h=>h3.back (by simp;omega) h,λo ho=>⟨?_,?_,by omega,by simp;omega⟩,λ{us K} h=>?_⟩
  .have e1:o≠J.no:=by omega
   have e2:o≠J.no+1:=by omega
   simp[AS.own,upd,e1,e2]
  .simp[AS.own];omega
  .refine ACalls.own (f:=f) (fo:=J.no) (j:=5) (sz:=1) (b:=false) (xs:=locs.map (.int .i64)) (cs:=[.str g.name,pv,lv,.int .i64 g.type,tv,.sl (.fam f false) 1 (locs.map (.int .i64)),.nilsl,.int .i64 0]) (by simpa using hf2) (by simp) (by simp) ?_
   rw[zo1]
   simpa using h
theorem XF.xcells(h:XF fs mm mn J0 xo mo fo L T x r J):∃fv iv ov,J.objs xo=some [fv,.int .i64 mm,.int .i64 mn,iv,.int .i64 x.steps,.slm mo 0 1 x.memory.length,ov,.int .i64 x.calls]/\(fv.known=true/\fv.one=true/\fv.cells=[fv])/\(iv.known=true/\iv.one=true/\iv.cells=[iv])/\(ov.known=true/\ov.one=true/\ov.cells=[ov]) /\
  FsV fv fs/\zaq iv x.input/\zni J ov x.out/\xo≠fo/\∀st c,XF fs mm mn J0 xo mo fo L T { x with steps:=st,calls:=c } r (J.setO xo [fv,.int .i64 mm,.int .i64 mn,iv,.int .i64 st,.slm mo 0 1 x.memory.length,ov,.int .i64 c]):=by
 have hx:=h
 obtain⟨ov,sv,hm,hr,hd⟩:=h
 obtain⟨fv,iv,ho,hf,hi⟩:=hm.mach
 exact⟨fv,iv,ov,ho,hf.one,hi.one,hm.own.one,hf,hi,hm.own,λe=>(hm.dl fo (by simp)).2.1 e.symm,λst c=>hx.setX (J1:=J) ho rfl rfl (yah _) (λ_ _ _=>rfl) hi hm.own λk hk=>.inl hk⟩
set_option maxHeartbeats 1000000 in
theorem zlX{N:Nat}{Dp:Int}{rec:zgn}(hrec:zkt G fs mm mn N Dp rec)(hbd:RBd N Dp rec)(hD0:0<=Dp){ov fv av:AV}{g:F}{args:List Int}{v0:Fr}(hm:XM fs mm mn J0 xo mo D T x ov J)(hN:N<=2^38)(hst:max x.steps 0<=N)(hou:(x.out.length:Int)+max x.steps 0<=N)(hcl:0<=x.calls)
  (hml:x.memory.length<=2^38) (hil:x.input.length<=2^38) (hg:OkF g) (hfv:FV fv g) (hav:zwk J av args) (hal:args.length<=2^38) (haT:∀k∈zam av,k∈T\/J0.nf<=k) (hao:∀k∈zam av,k∉zam ov)
  (hw:zcx rec x g args v0≠.bad)
  (hR:∀v x' r' J',zcx rec x g args v0=.ok v x' r'->XO fs mm mn J0 xo mo D T x' J'->R (.ret (.int .i64 v)) J')
  (hO:∀s c x' J',zcx rec x g args v0=.over s c x'->XO fs mm mn J0 xo mo D T x' J'->R (.panic (zks s c)) J') :
  zzQ G 81 [.ptr xo 0,fv,av] J R:=by
 refine zDs rfl ?_
 obtain⟨pv,lv,tv,rfl,hp,hl,ht⟩:=hfv
 have p1:=hp.one
 have l1:=hl.one
 have t1:=ht.one
 have ll:=hl.len
 have tl:=ht.len
 obtain⟨mfv,miv,mo1,mo2,mo3⟩:=hm.mach
 have m1:=mo2.one
 have m2:=mo3.one
 have m3:=hm.own.one
 have hxl:=hm.xl
 have hno:=hm.no
 have hxo:xo≠J.no:=by omega
 have hxo':J.no≠xo:=by omega
 have hltn:=hm.no
 by_cases hc:32<=x.calls
 .simp[zK3,p1,l1,t1,splice,hxo,mo1,m1,m2,m3,hc]
  refine zdu (λh=>by omega) λ_=>?_
  simp
  exact hO _ _ _ _ (by simp[zcx,hc]) ⟨ov,hm.adds (zb.refl J).newO⟩
 .have w1:yb4 .i64 (x.calls+1)=x.calls+1:=by rw[wrap_i64]<;>omega
  have hgl:=hg.locals
  have hgls:=hg.lists
  simp[zK3,p1,l1,t1,splice,hxo,hxo',mo1,m1,m2,m3,hc,w1,ll]
  have S0:XM fs mm mn J0 xo mo D T { x with calls:=x.calls+1 } ov ((J.newO [yc8 g.name,pv,lv,yc6 yam g.type,tv]).setO xo [mfv,yc6 yam mm,yc6 yam mn,miv,yc6 yam x.steps,yeb mo 0 1 x.memory.length,ov,yc6 yam (x.calls+1)]) :=
   (hm.adds (zb.refl J).newO).calls (by simp[hxo,mo1]) mo2 mo3
  have S1:((J.newO [yc8 g.name,pv,lv,yc6 yam g.type,tv]).setO xo [mfv,yc6 yam mm,yc6 yam mn,miv,yc6 yam x.steps,yeb mo 0 1 x.memory.length,ov,yc6 yam (x.calls+1)]).objs J.no=some [yc8 g.name,pv,lv,yc6 yam g.type,tv]:=by simp[hxo']
  have S2:((J.newO [yc8 g.name,pv,lv,yc6 yam g.type,tv]).setO xo [mfv,yc6 yam mm,yc6 yam mn,miv,yc6 yam x.steps,yeb mo 0 1 x.memory.length,ov,yc6 yam (x.calls+1)]).no=J.no+1:=by simp
  have S3:zwk ((J.newO [yc8 g.name,pv,lv,yc6 yam g.type,tv]).setO xo [mfv,yc6 yam mm,yc6 yam mn,miv,yc6 yam x.steps,yeb mo 0 1 x.memory.length,ov,yc6 yam (x.calls+1)]) av args:=hav
  generalize (J.newO [yc8 g.name,pv,lv,yc6 yam g.type,tv]).setO xo [mfv,yc6 yam mm,yc6 yam mn,miv,yc6 yam x.steps,yeb mo 0 1 x.memory.length,ov,yc6 yam (x.calls+1)]=S at *
  refine⟨by omega,zs5 S3 (by omega) λcv J1 hcv q1 q2 q3 q4 q5=>?_⟩
  have c1:=hcv.one
  have w2:yb4 .i64 ((g.lists.length:Int)-1)=(g.lists.length:Int)-1:=by rw[wrap_i64]<;>omega
  have q6:J1.objs J.no=some [yc8 g.name,pv,lv,yc6 yam g.type,tv]:=by rw[q1];exact S1
  have q7:¬J.no=J1.no:=by omega
  simp[q6,p1,l1,t1,c1,tl,w2,q7,splice]
  have hSl:=S0.own.lt
  have hSn:=S0.nf
  obtain⟨Jc,L',hX,hXO,hbo,hac⟩:=enter (S0.fams haT hao q1 q2 q3 q4) hcv (λk hk=>by rcases q5 k hk with h|h;exact haT k h;right;omega) (λk hk h'=>by rcases q5 k hk with h|h;exact hao k h h';have:=hSl k h';omega) hp hl ht
  obtain⟨b1,b2,b3,b4⟩:=hbo J.no (by omega)
  have bdn:Bd N { x with calls:=x.calls+1 } ⟨g,args++yaj g.locals.length 0,[],0⟩:=⟨hN,by simpa using hst,hou,hg,by simp only;omega,hml,hil⟩
  simp only[zcx,if_neg hc]at hw hR hO
  refine hac (hrec hX bdn (yd4 _) hD0 (λe=>by rw[e]at hw;exact hw rfl) (λo x' r' J' e hx'=>?_) (λs c x' J' e ho=>?_))
  .rw[e]at hw hR hO
   obtain⟨hA,ho2⟩:=hbd _ _ _ _ _ _ _ bdn hD0 e
   have hcs:=hA.calls
   simp only at hw hR hO hcs
   have hbo':∀{x1:zaN} {r1:Fr} {J2:AS},XF fs mm mn Jc xo mo J1.no L' (zam ov) x1 r1 J2->J2.objs J.no=some [yc8 g.name,pv,lv,yc6 yam g.type,tv]:=λhh=>by
    rw[hh.other b2 (by omega) (by have:=hm.ml;omega) b3 b4,b1];exact q6
   have hb1:=hbo' hx'
   have w3:yb4 .i64 (x'.calls-1)=x'.calls-1:=by rw[wrap_i64]<;>omega
   by_cases hh:o=-1/\g.type≠0
   .rw[if_pos hh]at hw hR
    obtain⟨h1,h2⟩:=hh
    have hne:r'.stack≠[]:=by rintro e;simp[zcp,e]at hw
    obtain⟨v,hv⟩:=zbh hne
    have hsl:r'.stack.length<=2^40:=by have:=hA.bd.stack;omega
    simp[h1,h2,hb1,p1,l1,t1]
    refine zay hx' hsl hv λJ3 hx3=>?_
    obtain⟨fpv,flv,ftv,fcv,fsv,fo1,e1,e2,e3,e4,e5,_,_,_,hset⟩:=hx3.cells
    have hx4:=hset v
    obtain⟨gfv,giv,gov,go1,g1,g2,g3,_,_,_,gne,hset2⟩:=hx4.xcells
    have go1':J3.objs xo=some [gfv,.int .i64 mm,.int .i64 mn,giv,.int .i64 x'.steps,.slm mo 0 1 x'.memory.length,gov,.int .i64 x'.calls]:=by simpa [gne]using go1
    simp[fo1,e1,e2,e3,e4,e5,splice,go1',g1,g2,g3,gne,Ne.symm gne,w3]
    exact hR _ _ _ _ (by simp[zcp,hv];rfl) (hXO _ _ (hset2 x'.steps (x'.calls-1)).stop)
   .rw[if_neg hh]at hw hR
    obtain⟨fpv,flv,ftv,fcv,fsv,fo1,e1,e2,e3,e4,e5,_,_,_,hset⟩:=hx'.cells
    obtain⟨gfv,giv,gov,go1,g1,g2,g3,_,_,_,gne,hset2⟩:=hx'.xcells
    by_cases h1:o=-1
    .have h2:g.type=0:=by simpa [h1]using hh
     simp[h1,h2,hb1,p1,l1,t1,fo1,e1,e2,e3,e4,e5,splice,go1,g1,g2,g3,gne,Ne.symm gne,w3]
     exact hR _ _ _ _ rfl (hXO _ _ (hset2 x'.steps (x'.calls-1)).stop)
    .simp[h1,hb1,p1,l1,t1,fo1,e1,e2,e3,e4,e5,splice,go1,g1,g2,g3,gne,Ne.symm gne,w3]
     exact hR _ _ _ _ rfl (hXO _ _ (hset2 x'.steps (x'.calls-1)).stop)
  .rw[e]at hO
   simp
   exact hO _ _ _ _ rfl (hXO _ _ ho)
end
section
variable {G : Env} {fs : List F} {mm mn : Int} {J0 J : AS} {xo mo fo : Nat} {L T D : List Nat} {x : zaN} {r : Fr} {R : Out -> AS -> Prop}
theorem XF.after(h:XF fs mm mn J0 xo mo fo L T x r J){av:AV}(hav:∃Jq:AS,Jq.nf<=J.nf/\(∀g∈zam av,Jq.nf<=g)/\J0.nf<=Jq.nf/\∀sv,(∃cs,J.objs fo=some cs/\cs[6]?=some sv)->∀g∈zam sv,g<Jq.nf)(hax:∀ov,(∃cs,J.objs xo=some cs/\cs[6]?=some ov)->∀g∈zam av,g∉zam ov):
  ∃ov T2,XM fs mm mn J xo mo [] T2 x ov J/\(∀k∈zam av,k∈T2\/J.nf<=k)/\(∀k∈zam av,k∉zam ov)/\(∀x' J',XO fs mm mn J xo mo [] T2 x' J'->XF fs mm mn J0 xo mo fo L T x' r J')/\∀x' J',XO fs mm mn J xo mo [] T2 x' J'->XO fs mm mn J0 xo mo (fo::L) T x' J':=by
 have hx:=h
 obtain⟨ov,sv,hm,hr,hd⟩:=h
 obtain⟨Jq,v1,v2,v3,v4⟩:=hav
 obtain⟨pv,lv,tv,cv,ho,hpv,hlv,htv,hcv⟩:=hr.fr
 have v5:=v4 sv ⟨_,ho,rfl⟩
 obtain⟨fv,iv,hxo,hfv,hiv⟩:=hm.mach
 have v6:=hax ov ⟨_,hxo,rfl⟩
 have hno:=hm.no;have hxl:=hm.xl;have hml:=hm.ml;have hnf:=hm.nf
 have hT2:∀g∈zam ov++zam av,g∈T\/J0.nf<=g:=λg hg=>by
  rcases ybh.1 hg with h|h
  .exact hm.ownT g h
  .right;have:=v2 g h;omega
 have back:∀x' ov' J',XM fs mm mn J xo mo [] (zam ov++zam av) x' ov' J'->XM fs mm mn J0 xo mo (fo::L) T x' ov' J':=λx' ov' J' k=>by
  have h3:=k.no;have h4:=k.nf
  refine⟨by omega,by omega,λo a b c d=>?_,λg a b=>?_,hxl,hml,hm.xm,λo ho=>?_,k.mach,k.own,λg hg=>?_,k.mem⟩
  .rw[k.obj o (by omega) b c (by simp)];exact hm.obj o a b c d
  .rw[k.fam g (by omega) (λhg=>by rcases hT2 g hg with h|h;exact b h;omega)];exact hm.fam g a b
  .have:=hm.dl o ho;exact⟨by omega,this.2⟩
  .rcases k.ownT g hg with h|h
   .exact hT2 g h
   .right;omega
 have rn:=hm.reanchor (D':=[]) (by simp)
 refine⟨ov,zam ov++zam av,⟨rn.no,rn.nf,rn.obj,λg a b=>rn.fam g a (λh=>b (by simp[h])),rn.xl,rn.ml,rn.xm,rn.dl,rn.mach,rn.own,λg hg=>.inl (by simp[hg]),rn.mem⟩,λk hk=>.inl (by simp[hk]),v6,?_,λx' J' ⟨ov',k⟩=>⟨ov',back _ _ _ k⟩⟩
 rintro x' J' ⟨ov',k⟩
 have same:∀o∈fo::L,J'.objs o=J.objs o:=λo ho=>by have:=hm.dl o ho;exact k.obj o this.1 this.2.1 this.2.2 (by simp)
 have hlt:=hr.own.lt
 refine⟨ov',sv,back _ _ _ k,⟨⟨pv,lv,tv,cv,by rw[same fo (by simp)];exact ho,hpv,hlv,htv,hcv.keep λo ho=>same o (by simp[ho])⟩,hr.fl,hr.own.keep k.nf λg hg=>k.fam g (hlt g hg) (λh=>?_),hr.ownT⟩,λg hg hs=>?_⟩
 .rcases ybh.1 h with h|h
  .exact hd g h hg
  .have:=v2 g h;have:=v5 g hg;omega
 .rcases k.ownT g hg with h|h
  .rcases ybh.1 h with h|h
   .exact hd g h hs
   .have:=v2 g h;have:=v5 g hs;omega
  .have:=hlt g hs;omega
theorem znk{N:Nat}{Dp:Int}{rec:zgn}(hrec:zkt G fs mm mn N Dp rec)(hbd:RBd N Dp rec)(hD0:0<=Dp)(hfs:zts fs){n:Int}(hnn:n<=2^63-1)(h:XF fs mm mn J0 xo mo fo L T x r J)(hb:B1 N x r)(hw:zav fs rec x r n≠.bad)
  (hR:∀x' r' J',zav fs rec x r n=.ok () x' r'->XF fs mm mn J0 xo mo fo L T x' r' J'->R (.ret (.tuple [])) J')
  (hO:∀s c x' J',zav fs rec x r n=.over s c x'->XO fs mm mn J0 xo mo (fo::L) T x' J'->R (.panic (zks s c)) J') :
  zzQ G 223 [.ptr xo 0,.ptr fo 0,.int .i64 n] J R:=by
 refine zyj rfl ?_
 have hN:=hb.bd.n
 have hst:r.stack.length<=2^40:=by have:=hb.bd.stack;omega
 have hinl:x.input.length<=2^40:=by have:=hb.bd.inp;omega
 have hol:x.out.length<=2^40:=by have:=hb.ou;omega
 by_cases n0:n=0
 .subst n0
  simp only[zav,if_true]at hw hR
  simp[zst,splice]
  refine zs1 h hinl λJ' hx'=>?_
  simp
  cases hin:x.input with
  | nil =>
   rw[hin]at hx' hR
   refine zaM hx' hst λJ2 hx2=>?_
   simp
   exact hR _ _ _ rfl hx2
  | cons v l =>
   rw[hin]at hx' hR
   refine zaM hx' hst λJ2 hx2=>?_
   simp
   exact hR _ _ _ rfl hx2
 by_cases n1:n=1
 .subst n1
  have hne:r.stack≠[]:=by rintro e;simp[zav,zcp,e]at hw
  obtain⟨v,hv⟩:=zbh hne
  obtain⟨fv,iv,ov,xo1,f1,i1,o1,hfv,hiv,hov,xne,_⟩:=h.xcells
  simp[zst,splice,xo1,f1,i1,o1]
  refine zlU h hst hv λJ' hx' hob=>?_
  have xo2:=(hob xo xne).trans xo1
  simp only[zav,zcp,hv]at hR
  simp at hR
  have fin:∀{J3:AS} {ov':AV},J3.objs=J'.objs->J3.no=J'.no->J'.nf<=J3.nf->(∀g,g<J'.nf->g∉zam ov->J3.F g=J'.F g)->zni J3 ov' (x.out++[v])->(∀g∈zam ov',g∈zam ov\/J'.nf<=g) ->
    R (.ret (.tuple [])) (J3.setO xo [fv,.int .i64 mm,.int .i64 mn,iv,.int .i64 x.steps,.slm mo 0 1 x.memory.length,ov',.int .i64 x.calls]):=λa b c d e f=>hR _ _ _ rfl rfl (hx'.setX xo2 a b c d hiv e f)
  obtain⟨gfv,giv,gov,go1,_,_,_,_,_,gov1,_⟩:=hx'.xcells
  rw[xo2]at go1
  simp only[yaR.injEq,ydZ.injEq]at go1
  obtain⟨_,_,_,_,_,_,rfl,_,_⟩:=go1
  simp[xo2,f1,i1,o1]
  rcases gov1 with ⟨hs,rfl⟩|⟨g,rfl,hg1,hg2⟩
  .simp[xo2,f1,i1,splice]
   exact fin (J3:=J'.newF) (by simp) (by simp) (by simp) (λg h1 _=>by simp;intro h;omega) (.inr ⟨J'.nf,by simp[hs],by simp,by simp⟩) (by simp[zam])
  .simp[xo2,f1,i1,splice,hg2]
   exact⟨by omega,fin (J3:=(J'.setF g .dead).newF) (by simp) (by simp) (by simp) (λk h1 h2=>by simp[zam]at h2;simp[h2];intro h;omega) (.inr ⟨J'.nf,by simp,by simp,by simp⟩) (by simp[zam])⟩
 by_cases n2:n=2
 .subst n2
  have hne:r.stack≠[]:=by rintro e;simp[zav,zcp,e]at hw
  obtain⟨v,hv⟩:=zbh hne
  simp only[zav,zcp,hv]at hO
  simp at hO
  simp[zst,splice]
  refine zay h hst hv λJ' hx'=>?_
  simp[splice]
  exact hO _ _ _ _ rfl rfl rfl hx'.stop
 have n3:¬n<3:=by
  intro hh;simp[zav,n0,n1,n2,hh]at hw
 simp only[zav,n0,n1,n2,n3,if_false]at hw hR hO
 cases hgg:fs[(n-3).toNat]? with
 | none=>rw[hgg]at hw;exact absurd rfl hw
 | some g =>
 rw[hgg]at hw hR hO
 simp only at hw hR hO
 by_cases hps:r.stack.length<g.params.length
 .rw[if_pos hps]at hw;exact absurd rfl hw
 rw[if_neg hps]at hw hR hO
 obtain⟨hgi,hge⟩:=yaq.1 hgg
 have hgm:g∈fs:=ydb hgg
 have hgf:=hfs g hgm
 have hgp:=hgf.params
 obtain⟨mfv,miv,mov,xo1,f1,i1,o1,hfv,hiv,hov,xne,_⟩:=h.xcells
 obtain⟨bq,gv,hgv,hix⟩:=hfv.at hgi
 rw[hge]at hgv
 have e3:(((n-3).toNat:Nat):Int)=n-3:=by omega
 rw[e3]at hix
 have w1:yb4 .i64 (n-3)=n-3:=by rw[wrap_i64]<;>omega
 have hgv0:=hgv
 obtain⟨gp,gl,gt,rfl,hgp',hgl',hgt'⟩:=hgv0
 have p1:=hgp'.one
 have l1:=hgl'.one
 have t1:=hgt'.one
 have pl:=hgp'.len
 have hlts:=h.lts
 have A:zb J ((J.newO [.str [],.nilsl,.nilsl,.int .i64 0,.nilsl]).setO J.no [.str g.name,gp,gl,.int .i64 g.type,gt]):=(zb.refl J).newO.setO (yah _)
 have h1:=h.adds A
 have hS:((J.newO [.str [],.nilsl,.nilsl,.int .i64 0,.nilsl]).setO J.no [.str g.name,gp,gl,.int .i64 g.type,gt]).objs J.no=some [.str g.name,gp,gl,.int .i64 g.type,gt]:=by simp
 have hSn:((J.newO [.str [],.nilsl,.nilsl,.int .i64 0,.nilsl]).setO J.no [.str g.name,gp,gl,.int .i64 g.type,gt]).no=J.no+1:=by simp
 obtain⟨pv,lv,tv,cv,sv,fo1,e1,e2,e3',e4,e5,hsv,htv,hcv,_⟩:=h.cells
 have sl:=hsv.len
 have hfo:fo≠J.no:=by have:=hlts.2.2.1;omega
 have hfo':J.no≠fo:=by have:=hlts.2.2.1;omega
 have hfl:fo<J.no:=hlts.2.2.1
 have w2:yb4 .i64 ((r.stack.length:Int)-(g.params.length:Int))=((r.stack.length-g.params.length:Nat):Int):=by rw[wrap_i64]<;>omega
 have hst':=hb.bd.stack
 have hmv:=hov.lt
 -- from the clone on
 have tail:∀{sv' av:AV} {J2:AS} {K:Out->AS->Prop},zb ((J.newO [.str [],.nilsl,.nilsl,.int .i64 0,.nilsl]).setO J.no [.str g.name,gp,gl,.int .i64 g.type,gt]) J2->zwk J2 av (r.stack.drop (r.stack.length-g.params.length))->(∀k∈zam av,J.nf<=k)->zni J2 sv' (r.stack.take (r.stack.length-g.params.length)) ->
   (∀k∈zam sv',k<J.nf/\k∈zam sv) ->
   (∀v x' J',zcx rec x g (r.stack.drop (r.stack.length-g.params.length)) { r with stack:=r.stack.take (r.stack.length-g.params.length) }=.ok v x' { r with stack:=r.stack.take (r.stack.length-g.params.length) }->XF fs mm mn J0 xo mo fo L T x' { r with stack:=r.stack.take (r.stack.length-g.params.length) } J'->J'.objs J.no=some [.str g.name,gp,gl,.int .i64 g.type,gt]->x'.steps<=x.steps->K (.ret (.int .i64 v)) J') ->
   (∀s c x' J',zcx rec x g (r.stack.drop (r.stack.length-g.params.length)) { r with stack:=r.stack.take (r.stack.length-g.params.length) }=.over s c x'->XO fs mm mn J0 xo mo (fo::L) T x' J'->K (.panic (zks s c)) J') ->
   zzQ G 81 [.ptr xo 0,.agg [.str g.name,gp,gl,.int .i64 g.type,gt],av] (J2.setO fo [.str r.fn.name,pv,lv,.int .i64 r.fn.type,tv,cv,sv',.int .i64 r.result]) K:=by
  intro sv' av J2 K A2 hav hfr hsv' hsf hK hKO
  have fo2:J2.objs fo=some [.str r.fn.name,pv,lv,.int .i64 r.fn.type,tv,cv,sv,.int .i64 r.result]:=by
   rw[A2.obj fo (by simp;omega)];simp[hfo];exact fo1
  have hA2:=A2.nf
  have hA3:=A2.no
  simp at hA2 hA3
  have h3:XF fs mm mn J0 xo mo fo L T x { r with stack:=r.stack.take (r.stack.length-g.params.length) } (J2.setO fo [.str r.fn.name,pv,lv,.int .i64 r.fn.type,tv,cv,sv',.int .i64 r.result]) :=
   (h1.adds A2).setFr (J1:=J2) (res':=r.result) fo2 rfl rfl (yah _) (λ_ _ _=>rfl) hsv' λk hk=>.inl (hsf k hk).2
  have hxo3:(J2.setO fo [.str r.fn.name,pv,lv,.int .i64 r.fn.type,tv,cv,sv',.int .i64 r.result]).objs xo=some [mfv,.int .i64 mm,.int .i64 mn,miv,.int .i64 x.steps,.slm mo 0 1 x.memory.length,mov,.int .i64 x.calls]:=by
   have e:xo≠J.no:=by omega
   simp[xne];rw[A2.obj xo (by simp;omega)];simp[e];exact xo1
  obtain⟨ov,T2,k1,k2,k3,k4,k5⟩:=h3.after (av:=av) ⟨J,by simpa using hA2,hfr,by obtain⟨_,_,hm,_⟩:=h;exact hm.nf,λsv1 ⟨cs,hc1,hc2⟩=>by
   simp at hc1;subst hc1;simp at hc2;subst hc2;exact λk hk=>(hsf k hk).1⟩ (λov ⟨cs,hc1,hc2⟩ k hk hk'=>by
   rw[hxo3]at hc1;cases hc1;simp at hc2;subst hc2;have:=hmv k hk';have:=hfr k hk;omega)
  refine zlX hrec hbd hD0 (N:=N) (v0:={ r with stack:=r.stack.take (r.stack.length-g.params.length) }) k1 hN (by omega) hb.bd.out hb.bd.calls.1 hb.bd.mem hb.bd.inp hgf ⟨gp,gl,gt,rfl,hgp',hgl',hgt'⟩ ?_ (by simp;omega) k2 k3 (λe=>by rw[e]at hw;exact hw rfl) (λv x' r' J' e ho=>?_) λs c x' J' e ho=>hKO s c x' J' e (k5 _ _ ho)
  .rcases hav with h|h
   .exact .inl h
   .exact .inr (h.keep (by simp) λ_ _=>rfl)
  .have hb2:B1 N x { r with stack:=r.stack.take (r.stack.length-g.params.length) }:=hb.stack (by simp)
   obtain⟨rfl,ha⟩:=zvm hbd hfs hD0 hb2.bd hgm e
   refine hK v x' J' e (k4 _ _ ho) ?_ ha.steps
   obtain⟨ov',k⟩:=ho
   have e1:J.no≠xo:=by omega
   have e2:J.no≠mo:=by omega
   rw[k.obj J.no (by simp;omega) e1 e2 (by simp)]
   simp[hfo']
   rw[A2.obj J.no (by simp)];simp
 have hsv0:=hsv
 rcases hsv with ⟨hs,rfl⟩|⟨q,rfl,hq1,hq2⟩
 .have hs0:r.stack.length=0:=by rw[hs];rfl
  have hp0:g.params.length=0:=by omega
  have w0:yb4 .i64 0=0:=by decide
  simp[zst,splice,n0,n1,n2,xo1,f1,i1,o1,w1,hix,p1,l1,t1,hfo,hfo',fo1,e1,e2,e3',e4,pl,hs,hp0,w0]
  refine zfV (l:=[]) (.inl ⟨rfl,rfl⟩) (by simp) λav J2 hav A2 hfr=>?_
  have fo2:J2.objs fo=some [.str r.fn.name,pv,lv,.int .i64 r.fn.type,tv,cv,.nilsl,.int .i64 r.result]:=by
   rw[A2.obj fo (by simp;omega)];simp[hfo];exact fo1
  have bo2:J2.objs J.no=some [.str g.name,gp,gl,.int .i64 g.type,gt]:=by rw[A2.obj J.no (by simp)];simp
  simp[fo2,e1,e2,e3',e4,splice,w0,bo2,p1,l1,t1,hfo']
  refine tail A2 (by simpa [hs]using hav) (by simpa using hfr) (.inl ⟨by simp[hs],rfl⟩) (by simp[zam]) (λv x' J' e hx' hbx hss=>?_) (λs c x' J' e ho=>?_)
  .rw[e]at hR
   have hb2:B1 N x { r with stack:=r.stack.take (r.stack.length-g.params.length) }:=hb.stack (by simp)
   by_cases ht:g.type=0
   .simp[ht]at hR
    simp[hbx,p1,l1,t1,ht]
    exact hR _ _ _ rfl rfl hx'
   .simp[ht]at hR
    simp[hbx,p1,l1,t1,ht]
    refine zaM hx' (by simp;omega) λJ4 hx4=>?_
    simp
    exact hR _ _ _ rfl rfl hx4
  .rw[e]at hO
   simp
   exact hO _ _ _ _ rfl ho
 .have el:List.drop (r.stack.length-g.params.length) (ydB r.stack.length (r.stack.map (yc6 .i64)))=(r.stack.drop (r.stack.length-g.params.length)).map (yc6 .i64):=by rw[yc7 (by simp),List.map_drop]
  have el2:ydB (r.stack.length-g.params.length) (r.stack.map (yc6 .i64))=(r.stack.take (r.stack.length-g.params.length)).map (yc6 .i64):=by rw[yd7]
  simp[zst,splice,n0,n1,n2,xo1,f1,i1,o1,w1,hix,p1,l1,t1,hfo,hfo',fo1,e1,e2,e3',e4,pl,w2,el]
  refine zfV (l:=r.stack.drop (r.stack.length-g.params.length)) (.inr ⟨q,by simp,by simpa using hq1,by simpa using hq2⟩) (by simp;omega) λav J2 hav A2 hfr=>?_
  have fo2:J2.objs fo=some [.str r.fn.name,pv,lv,.int .i64 r.fn.type,tv,cv,.sl (.fam q false) 1 (r.stack.map (.int .i64)),.int .i64 r.result]:=by
   rw[A2.obj fo (by simp;omega)];simp[hfo];exact fo1
  have bo2:J2.objs J.no=some [.str g.name,gp,gl,.int .i64 g.type,gt]:=by rw[A2.obj J.no (by simp)];simp
  simp[fo2,e1,e2,e3',e4,splice,bo2,p1,l1,t1,hfo']
  refine tail A2 hav (by simpa using hfr) (.inr ⟨q,by rw[<-el2],by have:=A2.nf;simp at this;omega,by rw[A2.fam q (by simpa using hq1)];simpa using hq2⟩) (by simp[zam];exact hq1) (λv x' J' e hx' hbx hss=>?_) (λs c x' J' e ho=>?_)
  .rw[e]at hR
   have hb2:B1 N x { r with stack:=r.stack.take (r.stack.length-g.params.length) }:=hb.stack (by simp)
   by_cases ht:g.type=0
   .simp[ht]at hR
    simp[hbx,p1,l1,t1,ht]
    exact hR _ _ _ rfl rfl hx'
   .simp[ht]at hR
    simp[hbx,p1,l1,t1,ht]
    refine zaM hx' (by simp;omega) λJ4 hx4=>?_
    simp
    exact hR _ _ _ rfl rfl hx4
  .rw[e]at hO
   simp
   exact hO _ _ _ _ rfl ho
end
section
variable {G : Env} {fs : List F} {mm mn : Int} {J0 J : AS} {xo mo fo : Nat} {L T D : List Nat} {x : zaN} {r : Fr} {R : Out -> AS -> Prop}
theorem zkv{l:List AV}{n:Nat}{v:AV}(h:n<l.length):splice l n [v]=l.set n v:=by
 rw[List.set_eq_take_append_cons_drop,if_pos h];simp[splice]
theorem XF.setLoc{lo n:Nat}{v:Int}(h:XF fs mm mn J0 xo mo fo [lo] T x r J)(hn:n<r.locals.length):XF fs mm mn J0 xo mo fo [lo] T x { r with locals:=r.locals.set n v } (J.setO lo (splice (r.locals.map (.int .i64)) n [.int .i64 v])):=by
 obtain⟨ov,sv,hm,hr,hd⟩:=h
 obtain⟨pv,lv,tv,cv,ho,hpv,hlv,htv,hcv⟩:=hr.fr
 have hfl:fo≠lo:=by have:=hr.fl;simpa using this
 have hll:=hm.dl lo (by simp)
 have e:splice (r.locals.map (.int .i64)) n [.int .i64 v]=(r.locals.set n v).map (.int .i64):=by rw[zkv (by simpa using hn),yec]
 rw[e]
 rcases hcv with ⟨hL,_⟩|⟨lo',hL,rfl,hlo⟩
 .cases hL
 cases hL
 obtain⟨fv,iv,a,b,c⟩:=hm.mach
 refine⟨ov,sv,⟨by simpa using hm.no,hm.nf,λo h1 h2 h3 h4=>?_,hm.fam,hm.xl,hm.ml,hm.xm,λo ho=>by simpa using hm.dl o ho,⟨fv,iv,by simp[Ne.symm hll.2.1];exact a,b,c⟩,hm.own.keep (by simp) λ_ _=>rfl,hm.ownT,by simp[Ne.symm hll.2.2];exact hm.mem⟩,⟨⟨pv,lv,tv,.slm lo 0 1 (r.locals.set n v).length,by simp[hfl];exact ho,hpv,hlv,htv,.inr ⟨lo,rfl,rfl,by simp⟩⟩,hr.fl,hr.own.keep (by simp) λ_ _=>rfl,hr.ownT⟩,hd⟩
 have:o≠lo:=λe=>h4 (by simp[e])
 simp[this];exact hm.obj o h1 h2 h3 h4
theorem XF.setMem{m':List UInt8}(h:XF fs mm mn J0 xo mo fo L T x r J)(hl:m'.length=x.memory.length):XF fs mm mn J0 xo mo fo L T { x with memory:=m' } r (J.setO mo (m'.map λb=>.int .u8 b.toNat)):=by
 obtain⟨ov,sv,hm,hr,hd⟩:=h
 obtain⟨pv,lv,tv,cv,ho,hpv,hlv,htv,hcv⟩:=hr.fr
 have hf:=hm.dl fo (by simp)
 obtain⟨fv,iv,a,b,c⟩:=hm.mach
 refine⟨ov,sv,⟨by simpa using hm.no,hm.nf,λo h1 h2 h3 h4=>by simp[h3];exact hm.obj o h1 h2 h3 h4,hm.fam,hm.xl,hm.ml,hm.xm,λo ho=>by simpa using hm.dl o ho,⟨fv,iv,by simp[hm.xm,hl];exact a,b,c⟩,hm.own.keep (by simp) λ_ _=>rfl,hm.ownT,by simp⟩,⟨⟨pv,lv,tv,cv,by simp[hf.2.2];exact ho,hpv,hlv,htv,hcv.keep λo ho=>by simp[(hm.dl o (by simp[ho])).2.2]⟩,hr.fl,hr.own.keep (by simp) λ_ _=>rfl,hr.ownT⟩,hd⟩
theorem zqv(mem:List UInt8)(at_:Nat)(v:Int):zdt mem at_ v 0=mem:=by simp[zdt]
theorem zqw{mem:List UInt8}{at_ i:Nat}{v:Int}(h:at_+i<mem.length):zdt mem at_ v (i+1)=(zdt mem at_ v i).set (at_+i) (zvj v i):=by
 have hl:(mem.take at_++(ya7 i).map (zvj v)).length=at_+i:=by simp;omega
 unfold zdt
 rw[List.set_append_right _ _ (by rw[hl];omega),hl,Nat.sub_self,List.range_succ,List.map_append,ydd h]
 simp[Nat.add_assoc]
theorem zqx(v:Int)(i:Nat):((zvj v i).toNat:Int)=yd2.wrap (v.fdiv (2^(8*i))):=by
 unfold zvj
 simp only[yb4,yap,yao]
 simp
 omega
def STI(fs:List F)(mm mn:Int)(S:AS)(xo mo fo:Nat)(L T:List Nat)(x:zaN)(r:Fr)(at_ n:Nat)(v:Int)(a:Nat->AV)(Z:AS):Prop:=∃i:Nat,i<=n/\a 0=.ptr xo 0/\a 11=.int .i64 v/\a 12=.int .i64 (at_:Int)/\a 104=.int .i64 (n:Int)/\a 105=.int .i64 (i:Int)/\XF fs mm mn S xo mo fo L T { x with memory:=zdt x.memory at_ v i } r Z
theorem XF.memo(h:XF fs mm mn J0 xo mo fo L T x r J):J.objs mo=some (x.memory.map λb=>.int .u8 b.toNat):=by obtain⟨_,_,hm,_⟩:=h;exact hm.mem
set_option maxHeartbeats 2000000 in
theorem zo2(V:zh2 G){N:Nat}{Dp:Int}{rec:zgn}(hrec:zkt G fs mm mn N Dp rec)(hbd:RBd N Dp rec)(hD0:0<=Dp)(hfs:zts fs){w:W}(hnn:w.n<=2^63-1)(h:XF fs mm mn J0 xo mo fo L T x r J)(hb:B1 N x r)(hw:zaw fs rec w x r≠.bad)
  (hR:∀x' r' J',zaw fs rec w x r=.ok () x' r'->XF fs mm mn J0 xo mo fo L T x' r' J'->R (.ret (.tuple [])) J')
  (hO:∀s c x' J',zaw fs rec w x r=.over s c x'->XO fs mm mn J0 xo mo (fo::L) T x' J'->R (.panic (zks s c)) J') :
  zzQ G 183 [.ptr xo 0,.ptr fo 0,w.av] J R:=by
 refine zxW rfl ?_
 obtain⟨wop,wty,wn,wbody,wother,wname⟩:=w
 simp only at hnn
 have hN:=hb.bd.n
 have hst:r.stack.length<=2^40:=by have:=hb.bd.stack;omega
 have hlts:=h.lts
 have h1:XF fs mm mn J0 xo mo fo L T x r (J.newO [.int .i64 wop,.int .i64 wty,.int .i64 wn,.int .i64 wbody,.int .i64 wother,.str wname]):=h.adds (zb.refl J).newO
 obtain⟨T',k1,k2,k3⟩:=h1.anchor
 have hfo:fo≠J.no:=by have:=hlts.2.2.1;omega
 have hbo:∀{x1:zaN} {r1:Fr} {J':AS},XF fs mm mn (J.newO [.int .i64 wop,.int .i64 wty,.int .i64 wn,.int .i64 wbody,.int .i64 wother,.str wname]) xo mo fo L T' x1 r1 J'->J'.objs J.no=some [.int .i64 wop,.int .i64 wty,.int .i64 wn,.int .i64 wbody,.int .i64 wother,.str wname]:=λ{x1 r1 J'} hx=>by
  rw[hx.other (o:=J.no) (by simp) (by omega) (by omega) (by omega) (λhh=>by have:=hlts.2.2.2 _ hh;omega)];simp
 -- what is popped
 have popped:∀{r1:Fr} {f:Int->Fr->Ev Unit},zcp r1 f≠.bad->∃v,r1.stack.getLast?=some v/\zcp r1 f=f v { r1 with stack:=r1.stack.dropLast }:=λ{r1 f} hh=>by
  have hne:r1.stack≠[]:=by rintro e;simp[zcp,e]at hh
  obtain⟨v,hv⟩:=zbh hne
  exact⟨v,hv,by simp[zcp,hv]⟩
 by_cases o1:wop=1
 .subst o1
  simp[zaw]at hR
  simp[zhn,W.av,W.cs,splice]
  refine zaM k1 hst λJ' hx'=>?_
  simp
  exact hR _ _ _ rfl rfl (k2 _ _ _ hx')
 by_cases o2:wop=2
 .subst o2
  simp only[zaw]at hR hw
  by_cases hn0:wn<0
  .simp[hn0]at hw
  cases hloc:r.locals[wn.toNat]? with
  | none=>simp[hn0,hloc]at hw
  | some v =>
  simp[hn0,hloc]at hR
  obtain⟨hli,hle⟩:=yaq.1 hloc
  obtain⟨pv,lv,tv,cv,sv,fo1,e1,e2,e3,e4,e5,_,_,hcv,_⟩:=k1.cells
  rcases hcv with ⟨_,hl,_⟩|⟨lo,rfl,rfl,hlo⟩
  .rw[hl]at hli;simp at hli
  .have fo2:J.objs fo=some [.str r.fn.name,pv,lv,.int .i64 r.fn.type,tv,.slm lo 0 1 r.locals.length,sv,.int .i64 r.result]:=by simpa [hfo]using fo1
   have hlo0:lo<J.no:=hlts.2.2.2 lo (by simp)
   have hlo1:lo≠J.no:=by omega
   have lo2:J.objs lo=some (r.locals.map (.int .i64)):=by simpa [hlo1]using hlo
   simp[zhn,W.av,W.cs,splice,hfo,fo2,e1,e2,e3,e4,e5,hlo1,lo2,hloc]
   refine⟨by omega,by omega,zaM k1 hst λJ' hx'=>?_⟩
   simp
   exact hR _ _ _ rfl rfl (k2 _ _ _ hx')
 by_cases o3:wop=3
 .subst o3
  simp only[zaw]at hR hw
  by_cases hn0:wn<0\/(r.locals.length:Int)<=wn
  .simp[hn0]at hw
  simp[hn0]at hR hw
  obtain⟨v,hv1,e1⟩:=popped hw
  rw[e1]at hR
  obtain⟨pv,lv,tv,cv,sv,fo1,e1,e2,e3,e4,e5,_,_,hcv,_⟩:=k1.cells
  rcases hcv with ⟨_,hl,_⟩|⟨lo,rfl,rfl,hlo⟩
  .rw[hl]at hn0;simp at hn0;omega
  .have fo2:J.objs fo=some [.str r.fn.name,pv,lv,.int .i64 r.fn.type,tv,.slm lo 0 1 r.locals.length,sv,.int .i64 r.result]:=by simpa [hfo]using fo1
   simp[zhn,W.av,W.cs,splice,hfo,fo2,e1,e2,e3,e4,e5]
   refine zay k1 hst hv1 λJ1 hx1=>?_
   have hb2:=hbo hx1
   obtain⟨pv',lv',tv',cv',sv',fo1',e1',e2',e3',e4',e5',_,_,hcv',_⟩:=hx1.cells
   rcases hcv' with ⟨hL,_⟩|⟨lo',hL,rfl,hlo'⟩
   .cases hL
   .cases hL
    have hni:wn.toNat<r.locals.length:=by omega
    simp[hb2,fo1',e1',e2',e3',e4',e5',hlo']
    refine⟨by omega,by omega,by omega,hR _ _ _ rfl (k2 _ _ _ (hx1.setLoc hni))⟩
 by_cases o4:wop=4
 .subst o4
  simp only[zaw]at hR hw hO
  simp at hR hw hO
  obtain⟨b,hv1,e1⟩:=popped hw
  rw[e1]at hR hw hO
  obtain⟨a,hv2,e2⟩:=popped hw
  rw[e2]at hR hw hO
  have d1:=zZ hv1
  have d2:=zZ hv2
  simp only at hR hw hO d2
  simp[zhn,W.av,W.cs,splice]
  refine zay k1 hst hv1 λJ1 hx1=>?_
  simp
  refine zay hx1 (by simp;omega) hv2 λJ2 hx2=>?_
  have hb2:=hbo hx2
  simp[hb2]
  refine zlx V λJ3 A3=>?_
  have hx3:=hx2.adds A3
  have hb3:=hbo hx3
  simp[hb3]
  refine zvl ?_
  simp
  refine zdu (λh0=>?_) (λh0=>?_)
  .rw[if_pos h0]at hR
   simp
   refine zaM hx3 (by simp;omega) λJ4 hx4=>?_
   simp
   exact hR _ _ _ rfl (k2 _ _ _ hx4)
  .rw[if_neg h0]at hO
   simp
   exact hO _ _ _ _ rfl (k3 _ _ hx3.stop)
 by_cases o5:wop=5
 .subst o5
  simp only[zaw]at hR hw
  simp at hR hw
  obtain⟨b,hv1,e1⟩:=popped hw
  rw[e1]at hR hw
  have d1:=zZ hv1
  simp[zhn,W.av,W.cs,splice]
  refine zay k1 hst hv1 λJ1 hx1=>?_
  by_cases hb0:b=0
  .simp[hb0]at hR
   simp[hb0,splice]
   refine zaM hx1 (by simp;omega) λJ2 hx2=>?_
   simp
   exact hR _ _ _ rfl rfl (k2 _ _ _ hx2)
  .simp[hb0]at hR
   simp[hb0,splice]
   refine zaM hx1 (by simp;omega) λJ2 hx2=>?_
   simp
   exact hR _ _ _ rfl rfl (k2 _ _ _ hx2)
 by_cases o6:wop=6
 .subst o6
  simp only[zaw]at hR hw
  simp at hR hw
  obtain⟨b,hv1,e1⟩:=popped hw
  rw[e1]at hR hw
  have d1:=zZ hv1
  simp[zhn,W.av,W.cs,splice]
  refine zay k1 hst hv1 λJ1 hx1=>?_
  simp
  refine zlw ?_
  simp
  refine zaM hx1 (by simp;omega) λJ2 hx2=>?_
  simp
  refine hR _ _ _ rfl (k2 _ _ _ ?_)
  simpa [Fr.push,zyE]using hx2
 by_cases o8:wop=8
 .subst o8
  simp only[zaw]at hR hw hO
  simp at hR hw hO
  obtain⟨a,hv1,e1⟩:=popped hw
  rw[e1]at hR hw hO
  have d1:=zZ hv1
  unfold zkp at hR hw hO
  by_cases hn8:wn<1\/8<wn
  .rw[if_pos hn8]at hw;exact absurd rfl hw
  rw[if_neg hn8]at hR hw hO
  simp[zhn,W.av,W.cs,splice]
  refine zay k1 hst hv1 λJ1 hx1=>?_
  have hb2:=hbo hx1
  simp[hb2]
  have hml:=hb.bd.mem
  refine zlV hx1 (by omega) (by omega) (λhh=>?_) (λhh=>?_)
  .rw[if_pos hh]at hO
   simp
   exact hO _ _ _ _ rfl (k3 _ _ hx1.stop)
  .rw[if_neg hh]at hR
   simp
   refine zs3 hx1.memo (by omega) (by omega) (by omega) ?_
   simp
   refine zaM hx1 (by simp;omega) λJ2 hx2=>?_
   simp
   exact hR _ _ _ rfl (k2 _ _ _ hx2)
 by_cases o9:wop=9
 .subst o9
  simp only[zaw]at hR hw hO
  simp at hR hw hO
  obtain⟨v,hv1,e1⟩:=popped hw
  rw[e1]at hR hw hO
  obtain⟨a,hv2,e2⟩:=popped hw
  rw[e2]at hR hw hO
  have d1:=zZ hv1
  have d2:=zZ hv2
  simp only at d2
  unfold zkp at hR hw hO
  by_cases hn8:wn<1\/8<wn
  .rw[if_pos hn8]at hw;exact absurd rfl hw
  rw[if_neg hn8]at hR hw hO
  simp[zhn,W.av,W.cs,splice]
  refine zay k1 hst hv1 λJ1 hx1=>?_
  simp
  refine zay hx1 (by simp;omega) hv2 λJ2 hx2=>?_
  have hb2:=hbo hx2
  simp[hb2]
  have hml:=hb.bd.mem
  refine zlV hx2 (by omega) (by omega) (λhh=>?_) (λhh=>?_)
  .rw[if_pos hh]at hO
   simp
   exact hO _ _ _ _ rfl (k3 _ _ hx2.stop)
  .rw[if_neg hh]at hR
   obtain⟨n,hn⟩:=yd8 (show 0<=wn by omega)
   obtain⟨p,hp⟩:=yd8 (show 0<=a by omega)
   subst hn hp
   have hll:((x.memory.drop p).take n).length=n:=by simp;omega
   simp only[ybe]at hR
   rw[hll]at hR
   simp
   refine zy (STI fs mm mn (J.newO [.int .i64 9,.int .i64 wty,.int .i64 (n:Int),.int .i64 wbody,.int .i64 wother,.str wname]) xo mo fo L T' x { r with stack:=r.stack.dropLast.dropLast } p n v) (MU 105 (n+1)) ⟨0,by omega,by simp,by simp,by simp,by simp,by simp,by rw[zqv];exact hx2⟩ λb Z hI=>?_
   obtain⟨i,hi,b0,b11,b12,b104,b105,hx⟩:=hI
   by_cases hlt:i<n
   .have hwl:(zdt x.memory p v i).length=x.memory.length:=zd0 (by omega)
    obtain⟨gfv,giv,gov,go1,g1,g2,g3,_,_,_,gne,_⟩:=hx.xcells
    have hmm:=hx.memo
    simp only at go1 hmm
    have u1:yb4 .i64 ((p:Int)+(i:Int))=((p+i:Nat):Int):=by rw[wrap_i64]<;>omega
    have u2:yb4 .i64 (8*(i:Int))=8*(i:Int):=by rw[wrap_i64]<;>omega
    have u3:yb4 .i64 ((i:Int)+1)=((i+1:Nat):Int):=by rw[wrap_i64]<;>omega
    have u4:min (8*(i:Int)).toNat yam.bits=8*i:=by simp[yap];omega
    simp[zmK,b0,b11,b12,b104,b105,hlt,go1,g1,g2,g3,u1,u2,u3,u4,hmm,hwl]
    have hpi:((p:Int)+(i:Int)).toNat=p+i:=by omega
    have hm2:=hx.setMem (m':=zdt x.memory p v (i+1)) (by rw[zd0 (by omega)];exact hwl.symm)
    have es:splice ((zdt x.memory p v i).map λb=>yc6 .u8 b.toNat) (p+i) [.int .u8 (yd2.wrap (v.fdiv (2^(8*i))))]=(zdt x.memory p v (i+1)).map λb=>.int .u8 b.toNat:=by
     rw[zkv (by simp[hwl];omega),zqw (by omega),yec,zqx]
    refine⟨by omega,by omega,by omega,by omega,⟨i+1,by omega,by simp[b0],by simp[b11],by simp[b12],by simp[b104],by simp,?_⟩,?_⟩
    .rw[hpi,es];exact hm2
    .simp only[MU,b105];simp;omega
   .have e:i=n:=by omega
    subst e
    simp[zmK,b0,b11,b12,b104,b105]
    exact hR _ _ _ rfl (k2 _ _ _ hx)
 by_cases o10:wop=10
 .subst o10
  simp only[zaw]at hR hw hO
  simp at hR hw hO
  simp[zhn,W.av,W.cs,splice]
  refine znk hrec hbd hD0 hfs hnn k1 hb hw (λx' r' J' e hx'=>?_) (λs c x' J' e ho=>?_)
  .simp
   exact hR _ _ _ e (k2 _ _ _ hx')
  .simp
   exact hO _ _ _ _ e (k3 _ _ ho)
 by_cases o17:wop=17
 .subst o17
  simp only[zaw]at hO
  simp at hO
  simp[zhn,W.av,W.cs,splice]
  refine zdu (λh0=>by omega) (λh0=>?_)
  simp
  exact hO _ _ _ _ rfl rfl rfl h1.stop
 by_cases o18:wop=18
 .subst o18
  simp only[zaw]at hR hw
  simp at hR hw
  obtain⟨b,hv1,e1⟩:=popped hw
  rw[e1]at hR hw
  simp[zhn,W.av,W.cs,splice]
  refine zay k1 hst hv1 λJ1 hx1=>?_
  simp
  exact hR _ _ _ rfl (k2 _ _ _ hx1)
 simp[zaw,o1,o2,o3,o4,o5,o6,o8,o9,o10,o17,o18]at hR
 simp[zhn,W.av,W.cs,splice,o1,o2,o3,o4,o5,o6,o8,o9,o10,o17,o18]
 exact hR _ _ _ rfl rfl h1
end
end Go.Proofs.YtohfclafhegadaaGreatDoor
