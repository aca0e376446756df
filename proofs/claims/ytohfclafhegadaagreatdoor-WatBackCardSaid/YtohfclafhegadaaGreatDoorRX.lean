/- The row WatBack; no condition. -/
import Derived.Test.YtohfclafhegadaaGreatDoorZC
import Derived.Test.YtohfclafhegadaaGreatDoorZD
set_option linter.unusedSimpArgs false
set_option linter.unusedVariables false
set_option maxRecDepth 100000
open Go.Proofs.Tryz renaming prog->yca,checked->yd9,f9->yea,func9->yeb,params9->yec
namespace Go.Proofs.YtohfclafhegadaaGreatDoor.watBack
open Go Go.Abs Go.RowKit Go.ChangeShapes Go.WideShapes Go.ChangeAt
theorem zGm{w:World}{m:Int}{u:TypeId}(hw:GOk yca (GW m u) (Mp.all w) AS.zero.F w){v0 v1:Value}{mv iv:AV}{x:M}{input:List Int}{steps:Int}(hm:MV mv x)(hfl:x.funcs.length<=2^47)(hf:∀f∈x.funcs,zyk f)(hrg:∀f∈x.funcs,RgL f.lists)(hi:zaf iv input)(hst:-(2^63)<=steps/\steps<2^63)(h0:VR (Mp.all w) AS.zero.F w mv v0)(h1:VR (Mp.all w) AS.zero.F w iv v1):
  Calls yca 9 #[v0,v1,.int .i64 steps] w λe w'=>e=.returned (.bool true)/\Below w.heap.size w w':=by
 have key:zzQ (GW m u) 9 [mv,iv,.int .i64 steps] AS.zero λo _=>o=.ret (.bool true) :=
  ACalls.newF (zpT (zGv m u) (zGw m u) (zuX m u) (λ_ h=>h) ⟨by simp,by simp[AS.zero]⟩ hm hfl hf hrg hi hst λ_=>rfl)
 refine ACalls.law hw ⟨rfl,λj v hj=>?_⟩ key
 match j with
 | 0=>simp at hj;subst hj;exact⟨_,rfl,h0⟩
 | 1=>simp at hj;subst hj;exact⟨_,rfl,h1⟩
 | 2=>simp at hj;subst hj;exact⟨_,rfl,.int ..⟩
 | j+3=>simp at hj
theorem zDc(os:Os)(started:os.Started)(H:Type)(enc:TypeId × Value->H):
  ReturnsInHanded {} yd9 os 9 .any (λw args=>(Rows.watBackSpec.pre enc yca yea [] false w args/\laidMetH yca zmn w)/\sizedMet enc yca yea (OpenSpec.ofChange Rows.watBackSpec) false w args)
   (Rows.watBackSpec.post enc yca yea false true false false):=by
 refine za0 (C:=yd9) (X:=λw _=>laidMetH yca zmn w) (λ_ _ _ hh h=>h.of_heap hh) own started (by kernel_rfl) yeb
  (ChangeSpec.witness_shaped (enc:=enc) (C:=yd9) (os:=os) (X:=λw _=>laidMetH yca zmn w) false (ziv os) #[.agg #[.slice none 0 0,.int .i64 0,.int .i64 0],.slice none 0 0,.int .i64 0] 8 rfl (World.shaped_of_RefB (by kernel_rfl) (by kernel_rfl)) (by kernel_rfl) (by kernel_rfl) (by kernel_rfl) (zrE os _)) ?_
 intro W base args ds gs before hval0 hW hwt hsh hL
 have hval:∀(j:Nat) t v,yea.params[j]?=some t->args[j]?=some v->Value.okWide yca W .any base t v:=hval0
 have hW':=hW
 obtain⟨p,q,hA0,hV,rfl,hfz,hnd⟩:=hW
 have hA:DataW.TrodAll enc yca W 0 (λ_=>true) true yea.params.toList args.toList ds p:=hA0
 rw[yec]at hA hval
 obtain⟨v0,v1,v2,d0,d1,d2,p0,p1,p2,rfl,rfl,rfl,h0,h1,h2⟩:=trodAll_three hA
 obtain⟨rfl,rfl⟩:=trodVars_none hV
 obtain⟨n,rfl⟩:=okWide_int Tryz.underlying3 (hval 2 3 v2 rfl rfl)
 have hwt0:zjH 28 d0:=zmm hwt 0 28 d0 (by rw[yec];rfl) rfl
 have hwt1:zjH 44 d1:=zmm hwt 1 44 d1 (by rw[yec];rfl) rfl
 obtain⟨mv,m,hm,hfl,hf,hrg,hv0⟩:=zC3 (hval 0 28 v0 rfl rfl) h0 hwt0
 obtain⟨iv,input,hi,_,hv1⟩:=zrF (hval 1 44 v1 rfl rfl) h1 hwt1
 have hlt:∀x∈p0++p1++p2,x.block<W.heap.size:=λx hx=>hW'.lt x (by simpa using hx)
 have hl0:∀x∈p0,x.block<W.heap.size:=λx hx=>hlt x (by simp[hx])
 have hl1:∀x∈p1,x.block<W.heap.size:=λx hx=>hlt x (by simp[hx])
 have hl2:∀x∈p2,x.block<W.heap.size:=λx hx=>hlt x (by simp[hx])
 obtain⟨k,u,hk⟩:=zmo hsh hL
 refine(zGm hk hm hfl hf hrg hi (zuZ h2) hv0 hv1).mono λe W' ⟨he,bel⟩=>?_
 subst he
 refine⟨_,rfl,[d0,d1,d2],[],p0++p1++p2++[],[],p0++(p1++p2),[],hW',trodAll_mk1 (shut_bool Tryz.underlying4 _),trodAll_mk3 (Below.trod znF (by kernel_rfl) (of_decide_eq_true (by kernel_rfl)) h0 bel hl0) (Below.trod znF (by kernel_rfl) (of_decide_eq_true (by kernel_rfl)) h1 bel hl1) (Below.trod znF (by kernel_rfl) (of_decide_eq_true (by kernel_rfl)) h2 bel hl2),rfl,bel.frame _,λh=>by cases h⟩
set_option maxHeartbeats 4000000 in
theorem over:Rows.watBackRow.holds Tryz.pinned (OpenSpec.ofChange Rows.watBackSpec) :=
 OpenClaim.holds_of_wide 9 yea rfl rfl rfl rfl rfl rfl rfl ⟨rfl,rfl,rfl,rfl,rfl⟩ rfl rfl rfl rfl rfl (by as_aux_lemma=>kernel_rfl) yeb (by as_aux_lemma=>kernel_rfl)
  (of_decide_eq_true (by as_aux_lemma=>kernel_rfl)) (by unfold Func.isWrapper;first|(rw[if_pos (by decide +kernel)];kernel_rfl)|(rw[if_neg (by decide +kernel)];exact⟨rfl,rfl⟩))
  (λos started H enc _=>zDc os started H enc)
theorem card:Rows.WatBackCardSaid :=
 Claim7.holds_tied_plain_at .later [] _ _ _ _
  over (λ_ h=>by cases h) (by kernel_rfl) (λ_ h=>by cases h) watBack_row_tie rfl ⟨rfl,rfl⟩ (by kernel_rfl) rfl
  (λf fn hf hfn=>by
   obtain rfl : f = 9 := Option.some.inj ((show Tryz.prog.funcNamed "mortise/mortiselaw13.WatBack" = some 9 by kernel_rfl).symm.trans hf) |>.symm
   obtain rfl:fn=yea:=(Option.some.inj (yeb.symm.trans hfn)).symm
   exact⟨by kernel_rfl,λj t ht=>by
    rw[yec]at ht
    have h3:t=28\/t=44\/t=3:=by
     rcases j with _|_|_|j
     .exact .inl (by simpa using ht.symm)
     .exact .inr (.inl (by simpa using ht.symm))
     .exact .inr (.inr (by simpa using ht.symm))
     .simp at ht
    rcases h3 with rfl|rfl|rfl
    .exact(show yca.wantsStandIn 28=false by kernel_rfl)
    .exact(show yca.wantsStandIn 44=false by kernel_rfl)
    .exact(show yca.wantsStandIn 3=false by kernel_rfl)⟩)
  (by kernel_rfl)
end Go.Proofs.YtohfclafhegadaaGreatDoor.watBack
