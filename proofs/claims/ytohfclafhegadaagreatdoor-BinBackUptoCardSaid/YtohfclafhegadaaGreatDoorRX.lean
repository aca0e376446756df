/- The row BinBackUpto; no condition. -/
import Derived.Test.YtohfclafhegadaaGreatDoorZC
import Derived.Test.YtohfclafhegadaaGreatDoorZE
import Derived.Deep.DeepHandedRow
import Derived.Deep.DeepWitnessRowRef
set_option linter.unusedSimpArgs false
set_option linter.unusedVariables false
set_option maxRecDepth 100000
open Go.Proofs.Tryz renaming prog->yb9,f6->yev,checked->yew,func6->yex,params6->yey
namespace Go.Proofs.YtohfclafhegadaaGreatDoor.binBack
open Go Go.Abs Go.RowKit Go.ChangeShapes Go.WideShapes Go.ChangeAt
theorem zMt{w:World}{lp ln:List (UInt8 × W)}{m:Int}(hw:zJy lp ln m w){v0 v1:Value}{mv iv:AV}{x:M}{input:List Int}{steps:Int}(hm:MV mv x)(hfl:x.funcs.length<=2^20)(hf:∀f∈x.funcs,zJz f)(hrg:∀f∈x.funcs,RgL f.lists)(hi:zaR iv input)(hst:-(2^63)<=steps/\steps<2^63)(h0:VR (Mp.all w) AS.zero.F w mv v0)(h1:VR (Mp.all w) AS.zero.F w iv v1):
  Calls yb9 6 #[v0,v1,.int .i64 steps] w λe w'=>e=.returned (.bool true)/\Below w.heap.size w w':=by
 have fit:zKQ x:=⟨by omega,λf q=>by have:=(hf f q).params;omega,λf q=>by have:=(hf f q).locals;omega,λf q=>by have:=(hf f q).lists;omega,λf q l r=>by have:=(hf f q).rows l r;omega⟩
 have key:zzQ (GB lp ln m) 6 [mv,iv,.int .i64 steps] AS.zero λo _=>o=.ret (.bool true) :=
  zwr hw.vars rfl (zDZ lp ln m) (zy4 lp ln m) (λ_ h=>h) hm fit hrg (λf q=>(hf f q).name) hi hst λ_=>rfl
 refine ACalls.law hw.g ⟨rfl,λj v hj=>?_⟩ key
 match j with
 | 0=>simp at hj;subst hj;exact⟨_,rfl,h0⟩
 | 1=>simp at hj;subst hj;exact⟨_,rfl,h1⟩
 | 2=>simp at hj;subst hj;exact⟨_,rfl,.int ..⟩
 | j+3=>simp at hj
theorem zLf(os:Os){H:Type}(enc:TypeId × Value->H):∃places,DataW.whole enc yb9 ((ziq os).forCall (λ_ _=>0) ⟨#[],#[.agg #[.slice none 0 0,.int .i64 0,.int .i64 0],.slice none 0 0,.int .i64 0],[]⟩).memory yev.params.toList Rows.binBackSpec.vars false #[Value.agg #[.slice none 0 0,.int .i64 0,.int .i64 0],.slice none 0 0,.int .i64 0].toList 8 =
  some ([.agg [.nil,.lit (.int .i64 0),.lit (.int .i64 0)],.nil,.lit (.int .i64 0)],[],places):=⟨[],by kernel_rfl⟩
theorem zIa(os:Os)(started:os.Started)(H:Type)(enc:TypeId × Value->H)(F:Stop.Interp):
  ReturnsInHanded {} yew os 6 .any ((Rows.OpenSpec.upto Rows.binBackSpec).preRow enc yb9 yev Rows.binBackUptoRow.domain false Rows.binBackUptoRow.laid) (((Rows.OpenSpec.upto Rows.binBackSpec).at F).post enc yb9 yev false true false false):=by
 obtain⟨places,hx⟩:=zLf os enc
 refine returnsInHanded_of_row (C:=yew) (s:=Rows.OpenSpec.upto Rows.binBackSpec) own started (by kernel_rfl) yex
  (witness_row_atRef (enc:=enc) (C:=yew) false (ziq os) #[.agg #[.slice none 0 0,.int .i64 0,.int .i64 0],.slice none 0 0,.int .i64 0] rfl (by kernel_rfl) (by kernel_rfl) (by kernel_rfl)
   (OpenSpec.preRow_of_cond 8 hx (by kernel_rfl) (λk hk=>by cases hk;kernel_rfl) (by kernel_rfl) (zvN os _))) ?_
 intro W base args ds gs before hval0 hW _ hcond hwt hL hsh _
 have hval:∀(j:Nat) t v,yev.params[j]?=some t->args[j]?=some v->Value.okWide yb9 W .any base t v:=hval0
 have hW':=hW
 obtain⟨p,q,hA0,hV,rfl,hfz,hnd⟩:=hW
 have hA:DataW.TrodAll enc yb9 W 0 (λ_=>true) true yev.params.toList args.toList ds p:=hA0
 rw[yey]at hA hval
 obtain⟨v0,v1,v2,d0,d1,d2,p0,p1,p2,rfl,rfl,rfl,h0,h1,h2⟩:=trodAll_three hA
 obtain⟨rfl,rfl⟩:=trodVars_none hV
 obtain⟨n,rfl⟩:=okWide_int Tryz.underlying3 (hval 2 3 v2 rfl rfl)
 have hwt0:znJ 28 d0:=zpa hwt 0 28 d0 (by rw[yey];rfl) rfl
 have hwt1:znJ 44 d1:=zpa hwt 1 44 d1 (by rw[yey];rfl) rfl
 have hb:∀d∈[d0,d1,d2],Bk d:=λd hd=>by
  have h2:=hcond _ rfl
  simp only[Rows.uptoSmall,decide_eq_true_eq]at h2
  exact Nat.le_trans (znu (by simpa using hd)) h2
 obtain⟨mv,m,hm,hfl,hf,hrg,hv0⟩:=zLb (hval 0 28 v0 rfl rfl) h0 hwt0 (hb _ (by simp))
 obtain⟨iv,input,hi,hv1⟩:=zy5 (hval 1 44 v1 rfl rfl) h1 hwt1 (hb _ (by simp))
 have hlt:∀x∈p0++p1++p2,x.block<W.heap.size:=λx hx=>hW'.lt x (by simpa using hx)
 have hl0:∀x∈p0,x.block<W.heap.size:=λx hx=>hlt x (by simp[hx])
 have hl1:∀x∈p1,x.block<W.heap.size:=λx hx=>hlt x (by simp[hx])
 have hl2:∀x∈p2,x.block<W.heap.size:=λx hx=>hlt x (by simp[hx])
 obtain⟨lp,ln,k,hk⟩:=zpb hsh hL
 refine(zMt hk hm hfl hf hrg hi (zy6 h2) hv0 hv1).mono λe W' ⟨he,bel⟩=>?_
 subst he
 refine⟨_,rfl,[d0,d1,d2],[],p0++p1++p2++[],[],p0++(p1++p2),[],hW',trodAll_mk1 (shut_bool Tryz.underlying4 _),trodAll_mk3 (Below.trod zqS (by kernel_rfl) (of_decide_eq_true (by kernel_rfl)) h0 bel hl0) (Below.trod zqS (by kernel_rfl) (of_decide_eq_true (by kernel_rfl)) h1 bel hl1) (Below.trod zqS (by kernel_rfl) (of_decide_eq_true (by kernel_rfl)) h2 bel hl2),rfl,bel.frame _,λh=>by cases h⟩
theorem over:Rows.binBackUptoRow.holds Tryz.pinned (Rows.OpenSpec.upto Rows.binBackSpec) :=
 OpenClaim.holds_of_cond 6 yev rfl rfl rfl rfl rfl rfl rfl ⟨rfl,rfl,rfl,rfl,rfl⟩ rfl rfl rfl rfl rfl (by kernel_rfl) yex (by kernel_rfl)
  (of_decide_eq_true (by kernel_rfl)) (by unfold Func.isWrapper;first|(rw[if_pos (by decide +kernel)];kernel_rfl)|(rw[if_neg (by decide +kernel)];exact⟨rfl,rfl⟩))
  (λos started H enc _ F=>by rw[OpenClaim.pre_eq_preRow];exact zIa os started H enc F)
theorem card:Rows.BinBackUptoCardSaid :=
 Claim7.holds_tied_plain_at .later [] _ _ _ _
  over (λ_ h=>by cases h) (by kernel_rfl) (λ_ h=>by cases h) binBackUpto_row_tie rfl ⟨rfl,rfl⟩ (by kernel_rfl) rfl
  (λf fn hf hfn=>by
   obtain rfl : f = 6 := Option.some.inj ((show Tryz.prog.funcNamed "mortise/mortiselaw20.BinBack" = some 6 by kernel_rfl).symm.trans hf) |>.symm
   obtain rfl:fn=yev:=(Option.some.inj (yex.symm.trans hfn)).symm
   exact⟨by kernel_rfl,λj t ht=>by
    rw[yey]at ht
    have h3:t=28\/t=44\/t=3:=by
     rcases j with _|_|_|j
     .exact .inl (by simpa using ht.symm)
     .exact .inr (.inl (by simpa using ht.symm))
     .exact .inr (.inr (by simpa using ht.symm))
     .simp at ht
    rcases h3 with rfl|rfl|rfl
    .exact(show yb9.wantsStandIn 28=false by kernel_rfl)
    .exact(show yb9.wantsStandIn 44=false by kernel_rfl)
    .exact(show yb9.wantsStandIn 3=false by kernel_rfl)⟩)
  (by kernel_rfl)
end Go.Proofs.YtohfclafhegadaaGreatDoor.binBack
