/- The row WatAgain; no condition. -/
import Derived.Test.YtohfclafhegadaaGreatDoorZB
import Derived.Test.YtohfclafhegadaaGreatDoorZC
set_option linter.unusedSimpArgs false
set_option linter.unusedVariables false
set_option maxRecDepth 100000
open Go.Proofs.Tryz renaming prog→yb9,checked→ydg,f8→ydh,func8→ydi,params8→ydj
namespace Go.Proofs.YtohfclafhegadaaGreatDoor.watAgain
open Go Go.Abs Go.RowKit Go.ChangeShapes Go.WideShapes Go.ChangeAt
theorem zEV{w:World}{m:Int}{u:TypeId}(hw:GOk yb9 (GW m u) (Mp.all w) AS.zero.F w)(s:ByteArray):Calls yb9 8 #[.string s] w fun e w'=>e=.returned (.bool true)∧Below w.heap.size w w':=by
 have key:zzQ (GW m u) 8 [.str s.data.toList] AS.zero fun o _=>o=.ret (.bool true) :=
  ACalls.newF (znn (zE8 m u) (zE9 m u) (zrL m u) (fun _ h=>h) ⟨by simp,by simp[AS.zero]⟩ fun _=>rfl)
 exact ACalls.law hw (zAf (.str s)) key
theorem zAi(os:Os)(started:os.Started)(H:Type)(enc:TypeId × Value→H):
  ReturnsInHanded {} ydg os 8 .any (fun w args=>(Rows.watAgainSpec.pre enc yb9 ydh [] false w args∧laidMetH yb9 zkk w)∧sizedMet enc yb9 ydh (OpenSpec.ofChange Rows.watAgainSpec) false w args)
   (Rows.watAgainSpec.post enc yb9 ydh false true false false):=by
 refine zau (C:=ydg) (X:=fun w _=>laidMetH yb9 zkk w) (fun _ _ _ hh h=>h.of_heap hh) own started (by kernel_rfl) ydi
  (ChangeSpec.witness_shaped (enc:=enc) (C:=ydg) (os:=os) (X:=fun w _=>laidMetH yb9 zkk w) false (zgQ os) #[.string ⟨#[]⟩] 8 rfl (World.shaped_of_RefB (by kernel_rfl) (by kernel_rfl)) (by kernel_rfl) (by kernel_rfl) (by kernel_rfl) (zpc os _)) ?_
 intro W base args ds gs before hval0 hW hwt hsh hL
 have hval:∀(j:Nat) t v,ydh.params[j]?=some t→args[j]?=some v→Value.okWide yb9 W .any base t v:=hval0
 have hW':=hW
 obtain⟨p,q,hA0,hV,rfl,hfz,hnd⟩:=hW
 have hA:DataW.TrodAll enc yb9 W 0 (fun _=>true) true ydh.params.toList args.toList ds p:=hA0
 rw[ydj]at hA hval
 obtain⟨v0,d0,rfl,rfl,h0⟩:=trodAll_one hA
 obtain⟨rfl,rfl⟩:=trodVars_none hV
 obtain⟨s,rfl⟩:=okWide_string Tryz.underlying9 (hval 0 9 v0 rfl rfl)
 have hlt:∀x∈p,x.block<W.heap.size:=fun x hx=>hW'.lt x (by simpa using hx)
 obtain⟨m,u,hk⟩:=zkl hsh hL
 refine(zEV hk s).mono fun e W' ⟨he,bel⟩=>?_
 subst he
 refine⟨_,rfl,[d0],[],p++[],[],p,[],hW',trodAll_mk1 (shut_bool Tryz.underlying4 _),trodAll_mk1 (Below.trod zuM (by kernel_rfl) (of_decide_eq_true (by kernel_rfl)) h0 bel hlt),rfl,bel.frame _,fun h=>by cases h⟩
theorem zEW:Rows.watAgainRow.holds Tryz.pinned (OpenSpec.ofChange Rows.watAgainSpec) :=
 OpenClaim.holds_of_wide 8 ydh rfl rfl rfl rfl rfl rfl rfl ⟨rfl,rfl,rfl,rfl,rfl⟩ rfl rfl rfl rfl rfl (by kernel_rfl) ydi (by kernel_rfl)
  (of_decide_eq_true (by kernel_rfl)) (by unfold Func.isWrapper;first|(rw[if_pos (by decide +kernel)];kernel_rfl)|(rw[if_neg (by decide +kernel)];exact⟨rfl,rfl⟩))
  (fun os started H enc _=>zAi os started H enc)
theorem card:Rows.WatAgainCardSaid :=
 Claim7.holds_tied_plain_at .later [] _ _ _ _
  zEW (fun _ h=>by cases h) (by kernel_rfl) (fun _ h=>by cases h) watAgain_row_tie rfl ⟨rfl,rfl⟩ (by kernel_rfl) rfl
  (fun f fn hf hfn=>by
   obtain rfl : f = 8 := Option.some.inj ((show Tryz.prog.funcNamed "mortise/mortiselaw13.WatAgain" = some 8 by kernel_rfl).symm.trans hf) |>.symm
   obtain rfl:fn=ydh:=(Option.some.inj (ydi.symm.trans hfn)).symm
   exact⟨by kernel_rfl,fun j t ht=>by
    rw[ydj]at ht
    have h3:t=9:=by
     rcases j with _|j
     ·simpa using ht.symm
     ·simp at ht
    subst h3
    exact(show yb9.wantsStandIn 9=false by kernel_rfl)⟩)
  (by kernel_rfl)
end Go.Proofs.YtohfclafhegadaaGreatDoor.watAgain
