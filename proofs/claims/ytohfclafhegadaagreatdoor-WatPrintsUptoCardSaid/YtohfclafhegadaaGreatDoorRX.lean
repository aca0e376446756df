/- The row WatPrintsUpto; no condition. -/
import Derived.Test.YtohfclafhegadaaGreatDoorZB
import Derived.Test.YtohfclafhegadaaGreatDoorZC
import Derived.Deep.DeepHandedRow
import Derived.Deep.DeepWitnessRowRef
set_option linter.unusedSimpArgs false
set_option linter.unusedVariables false
set_option maxRecDepth 100000
open Go.Proofs.Tryz renaming prog→yb9,f7→ydf,checked→ydg,func7→ydh,params7→ydi
namespace Go.Proofs.YtohfclafhegadaaGreatDoor.watPrints
open Go Go.Abs Go.RowKit Go.ChangeShapes Go.WideShapes Go.ChangeAt
theorem zGl{w:World}{m:Int}{u:TypeId}(hw:GOk yb9 (GW m u) (Mp.all w) AS.zero.F w){v0:Value}{mv:AV}{x:M}(hm:MV mv x)(hfl:x.funcs.length≤2^20)(hf:∀f∈x.funcs,zu5 f)(hrg:∀f∈x.funcs,RgL f.lists)(h0:VR (Mp.all w) AS.zero.F w mv v0):
  Calls yb9 7 #[v0] w fun e w'=>e=.returned (.bool true)∧Below w.heap.size w w':=by
 have key:zzQ (GW m u) 7 [mv] AS.zero fun o _=>o=.ret (.bool true) :=
  ACalls.newF (zlr (zGz m u) (zGA m u) (zrR m u) (fun _ h=>h) hm hfl hf hrg fun _=>rfl)
 exact ACalls.law hw (zAZ h0) key
theorem zE3(os:Os){H:Type}(enc:TypeId × Value→H):∃places,DataW.whole enc yb9 ((zem os).forCall (fun _ _=>0) ⟨#[],#[.agg #[.slice none 0 0,.int .i64 0,.int .i64 0]],[]⟩).memory ydf.params.toList Rows.watPrintsSpec.vars false #[Value.agg #[.slice none 0 0,.int .i64 0,.int .i64 0]].toList 8 =
  some ([.agg [.nil,.lit (.int .i64 0),.lit (.int .i64 0)]],[],places):=⟨[],by kernel_rfl⟩
theorem zA9(os:Os)(started:os.Started)(H:Type)(enc:TypeId × Value→H)(F:Stop.Interp):
  ReturnsInHanded {} ydg os 7 .any ((Rows.OpenSpec.upto Rows.watPrintsSpec).preRow enc yb9 ydf Rows.watPrintsUptoRow.domain false Rows.watPrintsUptoRow.laid) (((Rows.OpenSpec.upto Rows.watPrintsSpec).at F).post enc yb9 ydf false true false false):=by
 obtain⟨places,hx⟩:=zE3 os enc
 refine returnsInHanded_of_row (C:=ydg) (s:=Rows.OpenSpec.upto Rows.watPrintsSpec) own started (by kernel_rfl) ydh
  (witness_row_atRef (enc:=enc) (C:=ydg) false (zem os) #[.agg #[.slice none 0 0,.int .i64 0,.int .i64 0]] rfl (by kernel_rfl) (by kernel_rfl) (by kernel_rfl)
   (OpenSpec.preRow_of_cond 8 hx (by kernel_rfl) (fun k hk=>by cases hk;kernel_rfl) (by kernel_rfl) (zo6 os _))) ?_
 intro W base args ds gs before hval0 hW _ hcond hwt hL hsh _
 have hval:∀(j:Nat) t v,ydf.params[j]?=some t→args[j]?=some v→Value.okWide yb9 W .any base t v:=hval0
 have hW':=hW
 obtain⟨p,q,hA0,hV,rfl,hfz,hnd⟩:=hW
 have hA:DataW.TrodAll enc yb9 W 0 (fun _=>true) true ydf.params.toList args.toList ds p:=hA0
 rw[ydi]at hA hval
 obtain⟨v0,d0,rfl,rfl,h0⟩:=trodAll_one hA
 obtain⟨rfl,rfl⟩:=trodVars_none hV
 have hwt0:zkm 28 d0:=zmp hwt 0 28 d0 (by rw[ydi];rfl) rfl
 have hb:∀d∈[d0],Bk d:=fun d hd=>by
  have h2:=hcond _ rfl
  simp only[Rows.uptoSmall,decide_eq_true_eq]at h2
  exact Nat.le_trans (ziV (by simpa using hd)) h2
 obtain⟨mv,m,hm,hfl,hf,hrg,hv0⟩:=zE1 (hval 0 28 v0 rfl rfl) h0 hwt0 (hb _ (by simp))
 have hlt:∀x∈p,x.block<W.heap.size:=fun x hx=>hW'.lt x (by simpa using hx)
 obtain⟨k,u,hk⟩:=zkg hsh hL
 refine(zGl hk hm hfl hf hrg hv0).mono fun e W' ⟨he,bel⟩=>?_
 subst he
 refine⟨_,rfl,[d0],[],p++[],[],p,[],hW',trodAll_mk1 (shut_bool Tryz.underlying4 _),trodAll_mk1 (Below.trod zu4 (by kernel_rfl) (of_decide_eq_true (by kernel_rfl)) h0 bel hlt),rfl,bel.frame _,fun h=>by cases h⟩
theorem zGm:Rows.watPrintsUptoRow.holds Tryz.pinned (Rows.OpenSpec.upto Rows.watPrintsSpec) :=
 OpenClaim.holds_of_cond 7 ydf rfl rfl rfl rfl rfl rfl rfl ⟨rfl,rfl,rfl,rfl,rfl⟩ rfl rfl rfl rfl rfl (by kernel_rfl) ydh (by kernel_rfl)
  (of_decide_eq_true (by kernel_rfl)) (by unfold Func.isWrapper;first|(rw[if_pos (by decide +kernel)];kernel_rfl)|(rw[if_neg (by decide +kernel)];exact⟨rfl,rfl⟩))
  (fun os started H enc _ F=>by rw[OpenClaim.pre_eq_preRow];exact zA9 os started H enc F)
theorem card:Rows.WatPrintsUptoCardSaid :=
 Claim7.holds_tied_plain_at .later [] _ _ _ _
  zGm (fun _ h=>by cases h) (by kernel_rfl) (fun _ h=>by cases h) watPrintsUpto_row_tie rfl ⟨rfl,rfl⟩ (by kernel_rfl) rfl
  (fun f fn hf hfn=>by
   obtain rfl : f = 7 := Option.some.inj ((show Tryz.prog.funcNamed "mortise/mortiselaw13.WatPrints" = some 7 by kernel_rfl).symm.trans hf) |>.symm
   obtain rfl:fn=ydf:=(Option.some.inj (ydh.symm.trans hfn)).symm
   exact⟨by kernel_rfl,fun j t ht=>by
    rw[ydi]at ht
    have h3:t=28:=by
     rcases j with _|j
     ·simpa using ht.symm
     ·simp at ht
    subst h3
    exact(show yb9.wantsStandIn 28=false by kernel_rfl)⟩)
  (by kernel_rfl)
end Go.Proofs.YtohfclafhegadaaGreatDoor.watPrints
