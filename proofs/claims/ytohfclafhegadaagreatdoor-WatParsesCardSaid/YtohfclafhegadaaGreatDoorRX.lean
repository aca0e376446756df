/- The row WatParses; no condition. -/
import Derived.Test.YtohfclafhegadaaGreatDoorZB
import Derived.Test.YtohfclafhegadaaGreatDoorZC
set_option linter.unusedSimpArgs false
set_option linter.unusedVariables false
set_option maxRecDepth 100000
open Go.Proofs.Tryz renaming prog→yb5,checked→yc5,f5→yc6,func5→yc7,params5→yc8
namespace Go.Proofs.YtohfclafhegadaaGreatDoor.watParses
open Go Go.Abs Go.RowKit Go.ChangeShapes Go.WideShapes Go.ChangeAt
theorem zCE{w:World}{u:TypeId}(hw:GOk yb5 (GP u) (Mp.all w) AS.zero.F w)(s:ByteArray):Calls yb5 5 #[.string s] w fun e w'=>e=.returned (.bool true)∧Below w.heap.size w w':=by
 have key:zzQ (GP u) 5 [.str s.data.toList] AS.zero fun o _=>o=.ret (.bool true) :=
  ACalls.newF (zj8 (zCR u) (zpQ u) (fun _ h=>h) ⟨by simp,by simp[AS.zero]⟩ fun _=>rfl)
 exact ACalls.law hw (zwT (.str s)) key
theorem zw5(os:Os)(started:os.Started)(H:Type)(enc:TypeId × Value→H):
  ReturnsInHanded {} yc5 os 5 .any (fun w args=>(Rows.watParsesSpec.pre enc yb5 yc6 [] false w args∧laidMetH yb5 zi8 w)∧sizedMet enc yb5 yc6 (OpenSpec.ofChange Rows.watParsesSpec) false w args)
   (Rows.watParsesSpec.post enc yb5 yc6 false true false false):=by
 refine zas (C:=yc5) (X:=fun w _=>laidMetH yb5 zi8 w) (fun _ _ _ hh h=>h.of_heap hh) own started (by kernel_rfl) yc7
  (ChangeSpec.witness_shaped (enc:=enc) (C:=yc5) (os:=os) (X:=fun w _=>laidMetH yb5 zi8 w) false (zfU os) #[.string ⟨#[]⟩] 8 rfl (World.shaped_of_RefB (by kernel_rfl) (by kernel_rfl)) (by kernel_rfl) (by kernel_rfl) (by kernel_rfl) (znr os _)) ?_
 intro W base args ds gs before hval0 hW hwt hsh hL
 have hval:∀(j:Nat) t v,yc6.params[j]?=some t→args[j]?=some v→Value.okWide yb5 W .any base t v:=hval0
 have hW':=hW
 obtain⟨p,q,hA0,hV,rfl,hfz,hnd⟩:=hW
 have hA:DataW.TrodAll enc yb5 W 0 (fun _=>true) true yc6.params.toList args.toList ds p:=hA0
 rw[yc8]at hA hval
 obtain⟨v0,d0,rfl,rfl,h0⟩:=trodAll_one hA
 obtain⟨rfl,rfl⟩:=trodVars_none hV
 obtain⟨s,rfl⟩:=okWide_string Tryz.underlying9 (hval 0 9 v0 rfl rfl)
 have hlt:∀x∈p,x.block<W.heap.size:=fun x hx=>hW'.lt x (by simpa using hx)
 obtain⟨u,hk⟩:=zi9 hsh hL
 refine(zCE hk s).mono fun e W' ⟨he,bel⟩=>?_
 subst he
 refine⟨_,rfl,[d0],[],p++[],[],p,[],hW',trodAll_mk1 (shut_bool Tryz.underlying4 _),trodAll_mk1 (Below.trod zsV (by kernel_rfl) (of_decide_eq_true (by kernel_rfl)) h0 bel hlt),rfl,bel.frame _,fun h=>by cases h⟩
theorem zBo:Rows.watParsesRow.holds Tryz.pinned (OpenSpec.ofChange Rows.watParsesSpec) :=
 OpenClaim.holds_of_wide 5 yc6 rfl rfl rfl rfl rfl rfl rfl ⟨rfl,rfl,rfl,rfl,rfl⟩ rfl rfl rfl rfl rfl (by kernel_rfl) yc7 (by kernel_rfl)
  (of_decide_eq_true (by kernel_rfl)) (by unfold Func.isWrapper;first|(rw[if_pos (by decide +kernel)];kernel_rfl)|(rw[if_neg (by decide +kernel)];exact⟨rfl,rfl⟩))
  (fun os started H enc _=>zw5 os started H enc)
theorem card:Rows.WatParsesCardSaid :=
 Claim7.holds_tied_plain_at .later [] _ _ _ _
  zBo (fun _ h=>by cases h) (by kernel_rfl) (fun _ h=>by cases h) watParses_row_tie rfl ⟨rfl,rfl⟩ (by kernel_rfl) rfl
  (fun f fn hf hfn=>by
   obtain rfl : f = 5 := Option.some.inj ((show Tryz.prog.funcNamed "mortise/mortiselaw13.WatParses" = some 5 by kernel_rfl).symm.trans hf) |>.symm
   obtain rfl:fn=yc6:=(Option.some.inj (yc7.symm.trans hfn)).symm
   exact⟨by kernel_rfl,fun j t ht=>by
    rw[yc8]at ht
    have h3:t=9:=by
     rcases j with _|j
     ·simpa using ht.symm
     ·simp at ht
    subst h3
    exact(show yb5.wantsStandIn 9=false by kernel_rfl)⟩)
  (by kernel_rfl)
end Go.Proofs.YtohfclafhegadaaGreatDoor.watParses
