/- The row BinAgain; no condition. -/
import Derived.Test.YtohfclafhegadaaGreatDoorZD
set_option linter.unusedSimpArgs false
set_option linter.unusedVariables false
set_option maxRecDepth 100000
open Go.Proofs.Tryz renaming prog→yb9,checked→ydB,f4→ydC,func4→ydD,params4→ydE
namespace Go.Proofs.YtohfclafhegadaaGreatDoor.binAgain
open Go Go.Abs Go.RowKit Go.ChangeShapes Go.WideShapes Go.ChangeAt
def zMh(v:AV)(bs:List UInt8):Prop:=(bs=[]∧v=.nilsl)∨∃b,v=.sl (.stat b) 1 (B bs)
theorem zHw{σ:AS}{v:AV}{bs:List UInt8}(h:zMh v bs):zej σ v bs:=by
 rcases h with h|⟨b,rfl⟩
 ·exact .inl h
 ·exact .inr ⟨_,rfl,trivial⟩
theorem zN4{w:World}{lp ln:List (UInt8 × W)}{m:Int}{u:TypeId}(hw:WOk lp ln m u w){v:Value}{bv:AV}{bs:List UInt8}(hb:zMh bv bs)(hv:VR (Mp.all w) AS.zero.F w bv v):Calls yb9 4 #[v] w fun e w'=>e=.returned (.bool true)∧Below w.heap.size w w':=by
 have key:zzQ (GT lp ln m u) 4 [bv] AS.zero fun o _=>o=.ret (.bool true) :=
  ACalls.newF (zrT hw.vars hw.vars2 (zB1 lp ln m u) (zxb lp ln m u) (fun _ h=>h) ⟨by simp,by simp[AS.zero]⟩ (zHw hb) fun _=>rfl)
 exact ACalls.law hw.g (zHu hv) key
theorem zHx(os:Os)(started:os.Started)(H:Type)(enc:TypeId × Value→H):
  ReturnsInHanded {} ydB os 4 .any (fun w args=>(Rows.binAgainSpec.pre enc yb9 ydC [] false w args∧laidMetH yb9 zw8 w)∧sizedMet enc yb9 ydC (OpenSpec.ofChange Rows.binAgainSpec) false w args)
   (Rows.binAgainSpec.post enc yb9 ydC false true false false):=by
 refine zbm (C:=ydB) (X:=fun w _=>laidMetH yb9 zw8 w) (fun _ _ _ hh h=>h.of_heap hh) own started (by kernel_rfl) ydD
  (ChangeSpec.witness_shaped (enc:=enc) (C:=ydB) (os:=os) (X:=fun w _=>laidMetH yb9 zw8 w) false (zjR os) #[.slice none 0 0] 8 rfl (World.shaped_of_RefB (by kernel_rfl) (by kernel_rfl)) (by kernel_rfl) (by kernel_rfl) (by kernel_rfl) (zxc os _)) ?_
 intro W base args ds gs before hval0 hW hwt hsh hL
 have hval:∀(j:Nat) t v,ydC.params[j]?=some t→args[j]?=some v→Value.okWide yb9 W .any base t v:=hval0
 have hW':=hW
 obtain⟨p,q,hA0,hV,rfl,hfz,hnd⟩:=hW
 have hA:DataW.TrodAll enc yb9 W 0 (fun _=>true) true ydC.params.toList args.toList ds p:=hA0
 rw[ydE]at hA hval
 obtain⟨v0,d0,rfl,rfl,h0⟩:=trodAll_one hA
 obtain⟨rfl,rfl⟩:=trodVars_none hV
 have hwt0:zw5 32 d0:=zyr hwt 0 32 d0 (by rw[ydE];rfl) rfl
 obtain⟨bv,bs,hb,hv⟩:∃bv bs,zMh bv bs∧VR (Mp.all W) AS.zero.F W bv v0:=by
  obtain⟨fuel,hf⟩:=h0
  obtain⟨bv,bs,h1,h2⟩:=zuj hf hwt0
  have hok:=hval 0 32 v0 rfl rfl
  have hc1:bv.cells=[bv]:=by
   rcases h1.1 with ⟨_,rfl⟩|⟨_,rfl⟩<;>rfl
  have hv0:v0.cells.toList=[v0]:=by
   obtain⟨a,len,cap,rfl⟩:=okWide_slice Tryz.underlying32 hok
   rfl
  rw[hv0]at h2
  exact⟨bv,bs,h1.1,h2.tO hc1⟩
 have hlt:∀x∈p,x.block<W.heap.size:=fun x hx=>hW'.lt x (by simpa using hx)
 obtain⟨lp,ln,m,u,hk⟩:=zpE hsh hL
 refine(zN4 hk hb hv).mono fun e W' ⟨he,bel⟩=>?_
 subst he
 refine⟨_,rfl,[d0],[],p++[],[],p,[],hW',trodAll_mk1 (shut_bool Tryz.underlying4 _),trodAll_mk1 (Below.trod zB2 (by kernel_rfl) (of_decide_eq_true (by kernel_rfl)) h0 bel hlt),rfl,bel.frame _,fun h=>by cases h⟩
theorem zN5:Rows.binAgainRow.holds Tryz.pinned (OpenSpec.ofChange Rows.binAgainSpec) :=
 OpenClaim.holds_of_wide 4 ydC rfl rfl rfl rfl rfl rfl rfl ⟨rfl,rfl,rfl,rfl,rfl⟩ rfl rfl rfl rfl rfl (by kernel_rfl) ydD (by kernel_rfl)
  (of_decide_eq_true (by kernel_rfl)) (by unfold Func.isWrapper;first|(rw[if_pos (by decide +kernel)];kernel_rfl)|(rw[if_neg (by decide +kernel)];exact⟨rfl,rfl⟩))
  (fun os started H enc _=>zHx os started H enc)
theorem card:Rows.BinAgainCardSaid :=
 Claim7.holds_tied_plain_at .later [] [.data, .data, .data, .data, .sentinel, .sentinel, .listed, .data, .data, .mappedDeep, .mappedDeep, .data, .pinned] true (true, "3fe6757c82f83ae2052f10886500311cf9a7054ab0b935ae62bac0aa1c5cc9e2") true
  zN5 (fun _ h=>by cases h) (by kernel_rfl) (fun _ h=>by cases h) binAgain_row_tie rfl ⟨rfl,rfl⟩ (by kernel_rfl) rfl
  (fun f fn hf hfn=>by
   obtain rfl : f = 4 := Option.some.inj ((show Tryz.prog.funcNamed "mortise/mortiselaw20.BinAgain" = some 4 by kernel_rfl).symm.trans hf) |>.symm
   obtain rfl:fn=ydC:=(Option.some.inj (ydD.symm.trans hfn)).symm
   exact⟨by kernel_rfl,fun j t ht=>by
    rw[ydE]at ht
    have h3:t=32:=by
     rcases j with _|j
     ·simpa using ht.symm
     ·simp at ht
    subst h3
    exact(show yb9.wantsStandIn 32=false by kernel_rfl)⟩)
  (by kernel_rfl)
end Go.Proofs.YtohfclafhegadaaGreatDoor.binAgain
