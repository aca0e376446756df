/- The row WatKnown; no condition. -/
import Derived.Test.YtohfclafhegadaaGreatDoorZC
import Derived.Test.YtohfclafhegadaaGreatDoorZE
set_option linter.unusedSimpArgs false
set_option linter.unusedVariables false
set_option maxRecDepth 100000
open Go.Proofs.Tryz renaming prog->yb9,checked->yej,f3->yca,func3->yek,params3->yel
namespace Go.Proofs.YtohfclafhegadaaGreatDoor.watKnown
open Go Go.Abs Go.RowKit Go.ChangeShapes Go.WideShapes Go.ChangeAt
theorem zMd{w:World}{m:Int}{u:TypeId}(hw:GOk yb9 (GW m u) (Mp.all w) AS.zero.F w):Calls yb9 3 #[] w λe w'=>e=.returned (.bool true)/\Below w.heap.size w w':=by
 have key:zzQ (GW m u) 3 [] AS.zero λo _=>o=.ret (.bool true) :=
  ACalls.newF (ztl (zMl m u) (zMm m u) (zAg m u) (λ_ h=>h) λ_=>rfl)
 exact ACalls.law hw ⟨rfl,λj v hj=>by simp at hj⟩ key
theorem zIR(os:Os)(started:os.Started)(H:Type)(enc:TypeId × Value->H):
  ReturnsInHanded {} yej os 3 .any (λw args=>(Rows.watKnownSpec.pre enc yb9 yca [] false w args/\laidMetH yb9 zoU w)/\sizedMet enc yb9 yca (OpenSpec.ofChange Rows.watKnownSpec) false w args)
   (Rows.watKnownSpec.post enc yb9 yca false true false false):=by
 refine zbC (C:=yej) (X:=λw _=>laidMetH yb9 zoU w) (λ_ _ _ hh h=>h.of_heap hh) own started (by kernel_rfl) yek
  (ChangeSpec.witness_shaped (enc:=enc) (C:=yej) (os:=os) (X:=λw _=>laidMetH yb9 zoU w) false (zkm os) #[] 8 rfl (World.shaped_of_RefB (by kernel_rfl) (by kernel_rfl)) (by kernel_rfl) (by kernel_rfl) (by kernel_rfl) (zu9 os _)) ?_
 intro W base args ds gs before hval0 hW hwt hsh hL
 have hW':=hW
 obtain⟨p,q,hA0,hV,rfl,hfz,hnd⟩:=hW
 have hA:DataW.TrodAll enc yb9 W 0 (λ_=>true) true yca.params.toList args.toList ds p:=hA0
 rw[yel]at hA
 obtain⟨rfl,rfl,rfl⟩:=trodAll_none hA
 obtain⟨rfl,rfl⟩:=trodVars_none hV
 obtain⟨m,u,hk⟩:=zoV hsh hL
 refine(zMd hk).mono λe W' ⟨he,bel⟩=>?_
 subst he
 exact⟨_,rfl,_,_,_,[],_,[],hW',trodAll_mk1 (shut_bool Tryz.underlying4 _),trodAll_mk0,rfl,bel.frame _,λh=>by cases h⟩
set_option maxHeartbeats 4000000 in
theorem over:Rows.watKnownRow.holds Tryz.pinned (OpenSpec.ofChange Rows.watKnownSpec) :=
 OpenClaim.holds_of_wide 3 yca rfl rfl rfl rfl rfl rfl rfl ⟨rfl,rfl,rfl,rfl,rfl⟩ rfl rfl rfl rfl rfl (by as_aux_lemma=>kernel_rfl) yek (by as_aux_lemma=>kernel_rfl)
  (of_decide_eq_true (by as_aux_lemma=>kernel_rfl)) (by unfold Func.isWrapper;first|(rw[if_pos (by decide +kernel)];kernel_rfl)|(rw[if_neg (by decide +kernel)];exact⟨rfl,rfl⟩))
  (λos started H enc _=>zIR os started H enc)
theorem card:Rows.WatKnownCardSaid :=
 Claim7.holds_tied_plain_at .later [] _ _ _ _
  over (λ_ h=>by cases h) (by kernel_rfl) (λ_ h=>by cases h) watKnown_row_tie rfl ⟨rfl,rfl⟩ (by kernel_rfl) rfl
  (λf fn hf hfn=>by
   obtain rfl : f = 3 := Option.some.inj ((show Tryz.prog.funcNamed "mortise/mortiselaw13.WatKnown" = some 3 by kernel_rfl).symm.trans hf) |>.symm
   obtain rfl:fn=yca:=(Option.some.inj (yek.symm.trans hfn)).symm
   exact⟨by kernel_rfl,λj t ht=>by
    rw[yel]at ht
    simp at ht⟩)
  (by kernel_rfl)
end Go.Proofs.YtohfclafhegadaaGreatDoor.watKnown
