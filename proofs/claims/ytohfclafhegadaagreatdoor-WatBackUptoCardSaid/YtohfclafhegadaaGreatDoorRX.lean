/- The row WatBackUpto; no condition. -/
import Derived.Test.YtohfclafhegadaaGreatDoorZB
import Derived.Test.YtohfclafhegadaaGreatDoorZC
import Derived.Deep.DeepHandedRow
import Derived.Deep.DeepWitnessRowRef
set_option linter.unusedSimpArgs false
set_option linter.unusedVariables false
set_option maxRecDepth 100000
open Go.Proofs.Tryz renaming prog→yb9,f9→ydx,checked→ydy,func9→ydz,params9→ydA
namespace Go.Proofs.YtohfclafhegadaaGreatDoor.watBack
open Go Go.Abs Go.RowKit Go.ChangeShapes Go.WideShapes Go.ChangeAt
theorem zKK{w:World}{m:Int}{u:TypeId}(hw:GOk yb9 (GW m u) (Mp.all w) AS.zero.F w){v0 v1:Value}{mv iv:AV}{x:M}{input:List Int}{steps:Int}(hm:MV mv x)(hfl:x.funcs.length≤2^20)(hf:∀f∈x.funcs,zyh f)(hrg:∀f∈x.funcs,RgL f.lists)(hi:zZ iv input)(hst:-(2^63)≤steps∧steps<2^63)(h0:VR (Mp.all w) AS.zero.F w mv v0)(h1:VR (Mp.all w) AS.zero.F w iv v1):
  Calls yb9 9 #[v0,v1,.int .i64 steps] w fun e w'=>e=.returned (.bool true)∧Below w.heap.size w w':=by
 have key:zzQ (GW m u) 9 [mv,iv,.int .i64 steps] AS.zero fun o _=>o=.ret (.bool true) :=
  ACalls.newF (zrU (zK4 m u) (zK5 m u) (zuT m u) (fun _ h=>h) ⟨by simp,by simp[AS.zero]⟩ hm hfl hf hrg hi hst fun _=>rfl)
 refine ACalls.law hw ⟨rfl,fun j v hj=>?_⟩ key
 match j with
 | 0=>simp at hj;subst hj;exact⟨_,rfl,h0⟩
 | 1=>simp at hj;subst hj;exact⟨_,rfl,h1⟩
 | 2=>simp at hj;subst hj;exact⟨_,rfl,.int ..⟩
 | j+3=>simp at hj
theorem zJq(os:Os){H:Type}(enc:TypeId × Value→H):∃places,DataW.whole enc yb9 ((zfz os).forCall (fun _ _=>0) ⟨#[],#[.agg #[.slice none 0 0,.int .i64 0,.int .i64 0],.slice none 0 0,.int .i64 0],[]⟩).memory ydx.params.toList Rows.watBackSpec.vars false #[Value.agg #[.slice none 0 0,.int .i64 0,.int .i64 0],.slice none 0 0,.int .i64 0].toList 8 =
  some ([.agg [.nil,.lit (.int .i64 0),.lit (.int .i64 0)],.nil,.lit (.int .i64 0)],[],places):=⟨[],by kernel_rfl⟩
theorem zE9(os:Os)(started:os.Started)(H:Type)(enc:TypeId × Value→H)(F:Stop.Interp):
  ReturnsInHanded {} ydy os 9 .any ((Rows.OpenSpec.upto Rows.watBackSpec).preRow enc yb9 ydx Rows.watBackUptoRow.domain false Rows.watBackUptoRow.laid) (((Rows.OpenSpec.upto Rows.watBackSpec).at F).post enc yb9 ydx false true false false):=by
 obtain⟨places,hx⟩:=zJq os enc
 refine returnsInHanded_of_row (C:=ydy) (s:=Rows.OpenSpec.upto Rows.watBackSpec) own started (by kernel_rfl) ydz
  (witness_row_atRef (enc:=enc) (C:=ydy) false (zfz os) #[.agg #[.slice none 0 0,.int .i64 0,.int .i64 0],.slice none 0 0,.int .i64 0] rfl (by kernel_rfl) (by kernel_rfl) (by kernel_rfl)
   (OpenSpec.preRow_of_cond 8 hx (by kernel_rfl) (fun k hk=>by cases hk;kernel_rfl) (by kernel_rfl) (zrr os _))) ?_
 intro W base args ds gs before hval0 hW _ hcond hwt hL hsh _
 have hval:∀(j:Nat) t v,ydx.params[j]?=some t→args[j]?=some v→Value.okWide yb9 W .any base t v:=hval0
 have hW':=hW
 obtain⟨p,q,hA0,hV,rfl,hfz,hnd⟩:=hW
 have hA:DataW.TrodAll enc yb9 W 0 (fun _=>true) true ydx.params.toList args.toList ds p:=hA0
 rw[ydA]at hA hval
 obtain⟨v0,v1,v2,d0,d1,d2,p0,p1,p2,rfl,rfl,rfl,h0,h1,h2⟩:=trodAll_three hA
 obtain⟨rfl,rfl⟩:=trodVars_none hV
 obtain⟨n,rfl⟩:=okWide_int Tryz.underlying3 (hval 2 3 v2 rfl rfl)
 have hwt0:zkN 28 d0:=zl6 hwt 0 28 d0 (by rw[ydA];rfl) rfl
 have hwt1:zkN 44 d1:=zl6 hwt 1 44 d1 (by rw[ydA];rfl) rfl
 have hb:∀d∈[d0,d1,d2],Bk d:=fun d hd=>by
  have h2:=hcond _ rfl
  simp only[Rows.uptoSmall,decide_eq_true_eq]at h2
  exact Nat.le_trans (zkB (by simpa using hd)) h2
 obtain⟨mv,m,hm,hfl,hf,hrg,hv0⟩:=zJn (hval 0 28 v0 rfl rfl) h0 hwt0 (hb _ (by simp))
 obtain⟨iv,input,hi,hv1⟩:=zuV (hval 1 44 v1 rfl rfl) h1 hwt1 (hb _ (by simp))
 have hlt:∀x∈p0++p1++p2,x.block<W.heap.size:=fun x hx=>hW'.lt x (by simpa using hx)
 have hl0:∀x∈p0,x.block<W.heap.size:=fun x hx=>hlt x (by simp[hx])
 have hl1:∀x∈p1,x.block<W.heap.size:=fun x hx=>hlt x (by simp[hx])
 have hl2:∀x∈p2,x.block<W.heap.size:=fun x hx=>hlt x (by simp[hx])
 obtain⟨k,u,hk⟩:=zl7 hsh hL
 refine(zKK hk hm hfl hf hrg hi (zuW h2) hv0 hv1).mono fun e W' ⟨he,bel⟩=>?_
 subst he
 refine⟨_,rfl,[d0,d1,d2],[],p0++p1++p2++[],[],p0++(p1++p2),[],hW',trodAll_mk1 (shut_bool Tryz.underlying4 _),trodAll_mk3 (Below.trod zno (by kernel_rfl) (of_decide_eq_true (by kernel_rfl)) h0 bel hl0) (Below.trod zno (by kernel_rfl) (of_decide_eq_true (by kernel_rfl)) h1 bel hl1) (Below.trod zno (by kernel_rfl) (of_decide_eq_true (by kernel_rfl)) h2 bel hl2),rfl,bel.frame _,fun h=>by cases h⟩
theorem over:Rows.watBackUptoRow.holds Tryz.pinned (Rows.OpenSpec.upto Rows.watBackSpec) :=
 OpenClaim.holds_of_cond 9 ydx rfl rfl rfl rfl rfl rfl rfl ⟨rfl,rfl,rfl,rfl,rfl⟩ rfl rfl rfl rfl rfl (by kernel_rfl) ydz (by kernel_rfl)
  (of_decide_eq_true (by kernel_rfl)) (by unfold Func.isWrapper;first|(rw[if_pos (by decide +kernel)];kernel_rfl)|(rw[if_neg (by decide +kernel)];exact⟨rfl,rfl⟩))
  (fun os started H enc _ F=>by rw[OpenClaim.pre_eq_preRow];exact zE9 os started H enc F)
theorem card:Rows.WatBackUptoCardSaid :=
 Claim7.holds_tied_plain_at .later [] _ _ _ _
  over (fun _ h=>by cases h) (by kernel_rfl) (fun _ h=>by cases h) watBackUpto_row_tie rfl ⟨rfl,rfl⟩ (by kernel_rfl) rfl
  (fun f fn hf hfn=>by
   obtain rfl : f = 9 := Option.some.inj ((show Tryz.prog.funcNamed "mortise/mortiselaw13.WatBack" = some 9 by kernel_rfl).symm.trans hf) |>.symm
   obtain rfl:fn=ydx:=(Option.some.inj (ydz.symm.trans hfn)).symm
   exact⟨by kernel_rfl,fun j t ht=>by
    rw[ydA]at ht
    have h3:t=28∨t=44∨t=3:=by
     rcases j with _|_|_|j
     ·exact .inl (by simpa using ht.symm)
     ·exact .inr (.inl (by simpa using ht.symm))
     ·exact .inr (.inr (by simpa using ht.symm))
     ·simp at ht
    rcases h3 with rfl|rfl|rfl
    ·exact(show yb9.wantsStandIn 28=false by kernel_rfl)
    ·exact(show yb9.wantsStandIn 44=false by kernel_rfl)
    ·exact(show yb9.wantsStandIn 3=false by kernel_rfl)⟩)
  (by kernel_rfl)
end Go.Proofs.YtohfclafhegadaaGreatDoor.watBack
