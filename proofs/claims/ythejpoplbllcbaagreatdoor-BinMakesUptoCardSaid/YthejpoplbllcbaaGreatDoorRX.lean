/- The row BinMakes; no condition. -/
import Derived.Test.YthejpoplbllcbaaGreatDoorZC
set_option linter.unusedSimpArgs false
set_option linter.unusedVariables false
set_option linter.unusedSimpArgs false
set_option linter.unusedVariables false
namespace Go.Proofs.YthejpoplbllcbaaGreatDoor.binMakes
open Go Go.Abs Go.RowKit Go.ChangeShapes Go.WideShapes Go.ChangeAt
theorem gm_still (lp ln : List (UInt8 × W)) (m : Int) : ∀ k,Still ((GM lp ln m).g k) := fun k => by
 unfold GM
 simp only
 split
 ·exact .pv _ _ fun c hc=>by
   simp only [AV.cells,signCells,List.mem_flatten,List.mem_map] at hc
   obtain ⟨l,⟨p,_,rfl⟩,hc⟩:=hc
   rcases List.mem_cons.1 hc with rfl | hc
   ·exact .str _
   ·rcases List.mem_cons.1 hc with rfl | hc
    ·exact .str _
    ·simp at hc
 ·split
  ·exact .pv _ _ fun c hc=>by
    simp only [AV.cells,List.mem_singleton] at hc
    subst hc
    exact .int _ _
  ·exact gd_still lp ln k
theorem walk {w : World} {lp ln : List (UInt8 × W)} {k : Int} (hw : WOkM lp ln k w) {v : Value} {mv : AV} {m : M} {n : Int} (hn : -(2 ^ 63) ≤ n ∧ n < 2 ^ 63) (hm : MV mv m) (hf : Fits m) (hrg : ∀ f ∈ m.funcs,RgL f.lists) (hnm : ∀ f ∈ m.funcs,f.name.length ≤ 2 ^ 20) (hv : VR (Mp.all w) AS.zero.F w mv v) :
  Calls Tryz.prog 5 #[v,.int .i64 n] w fun e w'=>e = .returned (.bool true) ∧ Below w.heap.size w w':=by
 have key : ACalls Tryz.prog (GM lp ln k) 5 [mv,.int .i64 n] AS.zero fun o _=>o = .ret (.bool true) :=
  ACalls.newF (makes_calls hw.vars (GM_vars lp ln k) (gm_still lp ln k) (fun _ h=>h) ⟨by simp,by simp [AS.zero]⟩ hn hm hf hrg hnm fun _=>rfl)
 refine ACalls.law hw.g ⟨rfl,fun j v hj=>?_⟩ key
 match j with
 | 0=>simp at hj; subst hj; exact ⟨_,rfl,hv⟩
 | 1=>simp at hj; subst hj; exact ⟨_,rfl,.int ..⟩
 | j + 2=>simp at hj
theorem int_fits {H : Type} {enc : TypeId × Value → H} {w : World} {n : Int} {d : DataW H} {p : List MemPlace} (h : DataW.Trod enc Tryz.prog w 0 (fun _ => true) true 3 (.int .i64 n) d p) : -(2 ^ 63) ≤ n ∧ n < 2 ^ 63 := by
 obtain ⟨fuel,hf⟩:=h
 obtain ⟨k,e,h1,h2⟩:=cell_of (c:=.int .i64 n) hf
 simp only [Value.int.injEq,true_and] at e
 subst e
 exact ⟨h1,h2⟩
theorem reads (os : Os) {H : Type} (enc : TypeId × Value → H) : ∃ places,DataW.whole enc Tryz.prog ((laidWorld os).forCall (fun _ _ => 0) ⟨#[],#[.agg #[.slice none 0 0,.int .i64 0,.int .i64 0],.int .i64 0],[]⟩).memory Tryz.f5.params.toList Rows.binMakesSpec.vars false #[Value.agg #[.slice none 0 0,.int .i64 0,.int .i64 0],.int .i64 0].toList 8 =
  some ([.agg [.nil,.lit (.int .i64 0),.lit (.int .i64 0)],.lit (.int .i64 0)],[],places):=⟨[],by kernel_rfl⟩
set_option maxRecDepth 100000 in
theorem lifted (os : Os) (started : os.Started) (H : Type) (enc : TypeId × Value → H) (F : Stop.Interp) :
  ReturnsInHanded {} Tryz.checked os 5 .any ((Rows.OpenSpec.upto Rows.binMakesSpec).preRow enc Tryz.prog Tryz.f5 Rows.binMakesUptoRow.domain false Rows.binMakesUptoRow.laid) (((Rows.OpenSpec.upto Rows.binMakesSpec).at F).post enc Tryz.prog Tryz.f5 false true false false):=by
 obtain ⟨places,hx⟩:=reads os enc
 refine returnsInHanded_of_row (C:=Tryz.checked) (s:=Rows.OpenSpec.upto Rows.binMakesSpec) own started (by kernel_rfl) Tryz.func5
  (witness_row_atRef (enc:=enc) (C:=Tryz.checked) false (laidWorld os) #[.agg #[.slice none 0 0,.int .i64 0,.int .i64 0],.int .i64 0] rfl (by kernel_rfl) (by kernel_rfl) (by kernel_rfl)
   (OpenSpec.preRow_of_cond 8 hx (by kernel_rfl) (fun k hk=>by cases hk; kernel_rfl) (by kernel_rfl) (laid_metM os _))) ?_
 intro W base args ds gs before hval0 hW _ hcond hwt hL hsh _
 have hval : ∀ (j : Nat) t v,Tryz.f5.params[j]? = some t → args[j]? = some v → Value.okWide Tryz.prog W .any base t v:=hval0
 have hW':=hW
 obtain ⟨p,q,hA0,hV,rfl,hfz,hnd⟩:=hW
 have hA : DataW.TrodAll enc Tryz.prog W 0 (fun _=>true) true Tryz.f5.params.toList args.toList ds p:=hA0
 rw [Tryz.params5] at hA hval
 obtain ⟨v0,v1,d0,d1,p0,p1,rfl,rfl,rfl,h0,h1⟩:=trodAll_two hA
 obtain ⟨rfl,rfl⟩:=trodVars_none hV
 obtain ⟨n,rfl⟩:=okWide_int Tryz.underlying3 (hval 1 3 v1 rfl rfl)
 have hwt0 : WtOk 27 d0:=wtEach hwt 0 27 d0 (by rw [Tryz.params5]; rfl) rfl
 have hb0 : Bk d0:=by
  have h2:=hcond _ rfl
  simp only [Rows.uptoSmall,decide_eq_true_eq] at h2
  exact Nat.le_trans (bulk_mem (by simp)) h2
 obtain ⟨mv,m,hm,hf,hrg,hnm,hv⟩:=m_arg (hval 0 27 v0 rfl rfl) h0 hwt0 hb0
 have hlt : ∀ x ∈ p0 ++ p1,x.block < W.heap.size:=fun x hx=>hW'.lt x (by simpa using hx)
 have hl0 : ∀ x ∈ p0,x.block < W.heap.size:=fun x hx=>hlt x (by simp [hx])
 have hl1 : ∀ x ∈ p1,x.block < W.heap.size:=fun x hx=>hlt x (by simp [hx])
 obtain ⟨lp,ln,k,hk⟩:=wokM_of_laid hsh hL
 refine (walk hk (int_fits h1) hm hf hrg hnm hv).mono fun e W' ⟨he,bel⟩=>?_
 subst he
 refine ⟨_,rfl,[d0,d1],[],p0 ++ p1 ++ [],[],p0 ++ p1,[],hW',trodAll_mk1 (shut_bool Tryz.underlying4 _),trodAll_mk2 (Below.trod laidOut (by kernel_rfl) (of_decide_eq_true (by kernel_rfl)) h0 bel hl0) (Below.trod laidOut (by kernel_rfl) (of_decide_eq_true (by kernel_rfl)) h1 bel hl1),rfl,bel.frame _,fun h=>by cases h⟩
set_option maxRecDepth 100000 in
theorem over : Rows.binMakesUptoRow.holds Tryz.pinned (Rows.OpenSpec.upto Rows.binMakesSpec) :=
 OpenClaim.holds_of_cond 5 Tryz.f5 rfl rfl rfl rfl rfl rfl rfl ⟨rfl,rfl,rfl,rfl,rfl⟩ rfl rfl rfl rfl rfl (by kernel_rfl) Tryz.func5 (by kernel_rfl)
  (of_decide_eq_true (by kernel_rfl)) (by unfold Func.isWrapper; first | (rw [if_pos (by decide +kernel)]; kernel_rfl) | (rw [if_neg (by decide +kernel)]; exact ⟨rfl,rfl⟩))
  (fun os started H enc _ F=>by rw [OpenClaim.pre_eq_preRow]; exact lifted os started H enc F)
theorem card : Rows.BinMakesUptoCardSaid :=
 Claim7.holds_tied_plain_at .later [] _ _ _ _
  over (fun _ h=>by cases h) (by kernel_rfl) (fun _ h=>by cases h) binMakesUpto_row_tie rfl ⟨rfl,rfl⟩ (by kernel_rfl) rfl
  (fun f fn hf hfn=>by
   obtain rfl : f = 5 := Option.some.inj ((show Tryz.prog.funcNamed "mortise/mortiselaw20.BinMakes" = some 5 by kernel_rfl).symm.trans hf) |>.symm
   obtain rfl : fn = Tryz.f5:=(Option.some.inj (Tryz.func5.symm.trans hfn)).symm
   exact ⟨by kernel_rfl,fun j t ht=>by
    rw [Tryz.params5] at ht
    have h3 : t = 27 ∨ t = 3:=by
     rcases j with _ | _ | j
     ·exact .inl (by simpa using ht.symm)
     ·exact .inr (by simpa using ht.symm)
     ·simp at ht
    rcases h3 with rfl | rfl
    ·exact (show Tryz.prog.wantsStandIn 27 = false by kernel_rfl)
    ·exact (show Tryz.prog.wantsStandIn 3 = false by kernel_rfl)⟩)
  (by kernel_rfl)
end Go.Proofs.YthejpoplbllcbaaGreatDoor.binMakes
