/- The row BinReads; no condition. -/
import Derived.Test.YthejpoplbllcbaaGreatDoorZD
set_option linter.unusedSimpArgs false
set_option linter.unusedVariables false
set_option linter.unusedSimpArgs false
set_option linter.unusedVariables false
namespace Go.Proofs.YthejpoplbllcbaaGreatDoor.binReads
open Go Go.Abs Go.RowKit Go.ChangeShapes Go.WideShapes Go.ChangeAt
theorem walk {w : World} {lp ln : List (UInt8 × W)} (hw : WOk lp ln w) {v : Value} {bv : AV} {bs : List UInt8} (hb : BytS bv bs) (hv : VR (Mp.all w) AS.zero.F w bv v) : Calls Tryz.prog 3 #[v] w fun e w' => e = .returned (.bool true) ∧ Below w.heap.size w w' := by
 have key : ACalls Tryz.prog (GD lp ln) 3 [bv] AS.zero fun o _=>o = .ret (.bool true) :=
  ACalls.newF (reads_calls hw.vars (gd_still lp ln) (fun _ h=>h) ⟨by simp,by simp [AS.zero]⟩ hb fun _=>rfl)
 exact ACalls.law hw.g (cells1 hv) key
set_option maxRecDepth 100000 in
theorem lifted (os : Os) (started : os.Started) (H : Type) (enc : TypeId × Value → H) :
  ReturnsInHanded {} Tryz.checked os 3 .any (fun w args=>(Rows.binReadsSpec.pre enc Tryz.prog Tryz.f3 [] false w args ∧ laidMetH Tryz.prog LAID w) ∧ sizedMet enc Tryz.prog Tryz.f3 (OpenSpec.ofChange Rows.binReadsSpec) false w args)
   (Rows.binReadsSpec.post enc Tryz.prog Tryz.f3 false true false false):=by
 refine returnsInHanded_of_change_and_shaped (C:=Tryz.checked) (X:=fun w _=>laidMetH Tryz.prog LAID w) (fun _ _ _ hh h=>h.of_heap hh) own started (by kernel_rfl) Tryz.func3
  (ChangeSpec.witness_shaped (enc:=enc) (C:=Tryz.checked) (os:=os) (X:=fun w _=>laidMetH Tryz.prog LAID w) false (laidWorld os) #[.slice none 0 0] 8 rfl (World.shaped_of_RefB (by kernel_rfl) (by kernel_rfl)) (by kernel_rfl) (by kernel_rfl) (by kernel_rfl) (laid_met os _)) ?_
 intro W base args ds gs before hval0 hW hwt hsh hL
 have hval : ∀ (j : Nat) t v,Tryz.f3.params[j]? = some t → args[j]? = some v → Value.okWide Tryz.prog W .any base t v:=hval0
 have hW':=hW
 obtain ⟨p,q,hA0,hV,rfl,hfz,hnd⟩:=hW
 have hA : DataW.TrodAll enc Tryz.prog W 0 (fun _=>true) true Tryz.f3.params.toList args.toList ds p:=hA0
 rw [Tryz.params3] at hA hval
 obtain ⟨v0,d0,rfl,rfl,h0⟩:=trodAll_one hA
 obtain ⟨rfl,rfl⟩:=trodVars_none hV
 have hwt0 : WtOk 22 d0:=wtEach hwt 0 22 d0 (by rw [Tryz.params3]; rfl) rfl
 obtain ⟨bv,bs,hb,hv⟩ : ∃ bv bs,BytS bv bs ∧ VR (Mp.all W) AS.zero.F W bv v0:=by
  obtain ⟨fuel,hf⟩:=h0
  obtain ⟨bv,bs,h1,h2⟩:=bytes_rel hf hwt0
  have hok:=hval 0 22 v0 rfl rfl
  have hc1 : bv.cells = [bv]:=by
   rcases h1.1 with ⟨_,rfl⟩ | ⟨_,rfl⟩ <;> rfl
  have hv0 : v0.cells.toList = [v0]:=by
   obtain ⟨a,len,cap,rfl⟩:=okWide_slice Tryz.underlying22 hok
   rfl
  rw [hv0] at h2
  exact ⟨bv,bs,h1.1,h2.tO hc1⟩
 have hlt : ∀ x ∈ p,x.block < W.heap.size:=fun x hx=>hW'.lt x (by simpa using hx)
 obtain ⟨lp,ln,hk⟩:=wok_of_laid hL
 refine (walk hk hb hv).mono fun e W' ⟨he,bel⟩=>?_
 subst he
 refine ⟨_,rfl,[d0],[],p ++ [],[],p,[],hW',trodAll_mk1 (shut_bool Tryz.underlying4 _),trodAll_mk1 (Below.trod laidOut (by kernel_rfl) (of_decide_eq_true (by kernel_rfl)) h0 bel hlt),rfl,bel.frame _,fun h=>by cases h⟩
set_option maxRecDepth 100000 in
theorem over : Rows.binReadsRow.holds Tryz.pinned (OpenSpec.ofChange Rows.binReadsSpec) :=
 OpenClaim.holds_of_wide 3 Tryz.f3 rfl rfl rfl rfl rfl rfl rfl ⟨rfl,rfl,rfl,rfl,rfl⟩ rfl rfl rfl rfl rfl (by kernel_rfl) Tryz.func3 (by kernel_rfl)
  (of_decide_eq_true (by kernel_rfl)) (by unfold Func.isWrapper; first | (rw [if_pos (by decide +kernel)]; kernel_rfl) | (rw [if_neg (by decide +kernel)]; exact ⟨rfl,rfl⟩))
  (fun os started H enc _=>lifted os started H enc)
theorem card : Rows.BinReadsCardSaid :=
 Claim7.holds_tied_plain_at .later [] [.listed, .data, .data, .mappedDeep, .mappedDeep] true (true, "445729ff8aa8e71605d2e105179fae2b768fba4087b05746054bcd38906fb4db") true
  over (fun _ h=>by cases h) (by kernel_rfl) (fun _ h=>by cases h) binReads_row_tie rfl ⟨rfl,rfl⟩ (by kernel_rfl) rfl
  (fun f fn hf hfn=>by
   obtain rfl : f = 3 := Option.some.inj ((show Tryz.prog.funcNamed "mortise/mortiselaw20.BinReads" = some 3 by kernel_rfl).symm.trans hf) |>.symm
   obtain rfl : fn = Tryz.f3:=(Option.some.inj (Tryz.func3.symm.trans hfn)).symm
   exact ⟨by kernel_rfl,fun j t ht=>by
    rw [Tryz.params3] at ht
    have h3 : t = 22:=by
     rcases j with _ | j
     ·simpa using ht.symm
     ·simp at ht
    subst h3
    exact (show Tryz.prog.wantsStandIn 22 = false by kernel_rfl)⟩)
  (by kernel_rfl)
end Go.Proofs.YthejpoplbllcbaaGreatDoor.binReads
