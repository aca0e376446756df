/- Parts of the proof of the row WatKnown: contracts of functions, each under the conditions that its theorem names. -/
import Derived.Test.YtohfclafhegadaaGreatDoorZC
import Derived.Test.YtohfclafhegadaaGreatDoorAbsB
import Derived.Test.YtohfclafhegadaaGreatDoorZA
import Derived.Test.YtohfclafhegadaaGreatDoorZB
set_option linter.unusedSimpArgs false
set_option linter.unusedVariables false
set_option maxRecDepth 100000
open List renaming map_take->yd7,getElem?_eq_some_iff->yaq,mem_of_getElem?->ydb,replicate->yaj,flatMap_cons->yaa,getD_eq_getElem?_getD->ycZ,count_append->yee,count_singleton->yef,append_assoc->ydp,length_cons->yac,mem_flatMap->ydg,getElem_of_mem->ya9,getElem?_eq_getElem->yau,all_eq_true->yaM,nil_append->ydo,mem_cons->ybC,getElem?_append_left->yat,getElem?_append_right->yaI,getElem?_cons_zero->yeg,length_append->yab,length_nil->ybl,take_succ_eq_append_getElem->yc5,prefix_append->ydv,prefix_refl->ydu,getElem?_eq_none_iff->yeh,getElem?_eq_none->yb2,mem_append->ybh,map_cons->yaL,getElem_mem->yaw,length_take->ybf,take_of_length_le->yc7,drop_eq_getElem_cons->ydd,find?_eq_none->ydO,mem_singleton->ydr,length_pos_iff->ybm,cons->ydZ,length_drop->ydx,map_nil->yds,drop_eq_nil_of_le->ydA,append_nil->yb7
open Nat renaming le_refl->yah,le_trans->yai,lt_of_lt_of_le->yag
open Option renaming some->yaR
open Int renaming toNat_of_nonneg->yed,le_refl->yd4,eq_ofNat_of_zero_le->yd8,toNat_natCast->ybe,tmod_lt_of_pos->yei
open Go.Proofs.Tryz renaming prog->yb9
open Go.IntKind renaming wrap->yb4
open Go.Abs.AV renaming int->yc6,str->yc8,nilsl->yc9
namespace Go.Proofs.YtohfclafhegadaaGreatDoor
open Go Go.Abs
section
variable {G : Env} {fs : List F} {mm mn : Int} {J0 J : AS} {xo mo fo : Nat} {L T D : List Nat} {x : zaN} {r : Fr} {R : Out -> AS -> Prop}
set_option maxHeartbeats 2000000 in
theorem zkw(V:zh2 G){N:Nat}{Dp:Int}{rec:zgn}(hrec:zkt G fs mm mn N Dp rec)(hbd:RBd N Dp rec)(hD0:0<=Dp)(hD2:Dp<=2^62)(hfs:zts fs){k:Nat}{deep:Int}(h0:0<=deep)(hd:deep+1<=Dp){height:Nat}{rv:AV}{all:List W}(hrv:zmT rv all)(hall:all.length<=2^38)(hnum:∀w∈all,w.n<=2^63-1):
  ∀(ws:List W) (pre:List W),all=pre++ws->∀{x1:zaN} {r1:Fr} {Z:AS} {a:Nat->AV},XF fs mm mn J0 xo mo fo L T x1 r1 Z->Bd N x1 r1->zaL fs rec k deep height ws x1 r1≠.bad ->
   a 0=.ptr xo 0->a 1=.ptr fo 0->a 3=.int .i64 deep->a 9=.int .i64 (height:Int)->a 25=rv->a 26=.int .i64 (all.length:Int)->a 27=.int .i64 (pre.length:Int) ->
   (∀o x' r' J',zaL fs rec k deep height ws x1 r1=.ok o x' r'->XF fs mm mn J0 xo mo fo L T x' r' J'->R (.ret (.int .i64 o)) J') ->
   (∀s c x' J',zaL fs rec k deep height ws x1 r1=.over s c x'->XO fs mm mn J0 xo mo (fo::L) T x' J'->R (.panic (zks s c)) J') ->
   zda yb9 G 82 zbm (zai 0 (zan (avc yb9 G 82 ziH (zcq yb9 [ResultVar.tmp 8] R)) (zcq yb9 [ResultVar.tmp 8] R))) (ws.length+1) a Z
 | [],pre,hall2,x1,r1,Z,a,hx,hb,hw,a0,a1,a3,a9,a25,a26,a27,hR,hO=>by
  have hl:all.length=pre.length:=by rw[hall2];simp
  simp[zbm,ziH,a0,a1,a3,a9,a25,a26,a27,hl]
  exact hR _ _ _ _ rfl hx
 | w::ws,pre,hall2,x1,r1,Z,a,hx,hb,hw,a0,a1,a3,a9,a25,a26,a27,hR,hO=>by
  obtain⟨wop,wty,wn,wbody,wother,wname⟩:=w
  have hl:pre.length<all.length:=by rw[hall2];simp
  have hget:all[pre.length]=(⟨wop,wty,wn,wbody,wother,wname⟩:W):=by simp[hall2]
  obtain⟨b,hix⟩:=hrv.at hl
  rw[hget]at hix
  have hwn:=hnum (⟨wop,wty,wn,wbody,wother,wname⟩:W) (by rw[hall2];simp)
  obtain⟨gfv,giv,gov,go1,g1,g2,g3,hgf,hgi,hgo,gne,_⟩:=hx.xcells
  have hlts:=hx.lts
  have hxo:xo≠Z.no:=by omega
  simp only[zaL]at hw hR hO
  have hxo':Z.no≠xo:=by omega
  have A:zb Z ((Z.newO [.int .i64 0,.int .i64 0,.int .i64 0,.int .i64 0,.int .i64 0,.str []]).setO Z.no [.int .i64 wop,.int .i64 wty,.int .i64 wn,.int .i64 wbody,.int .i64 wother,.str wname]):=(zb.refl Z).newO.setO (yah _)
  have wst:yb4 .i64 (x1.steps-1)=x1.steps-1\/x1.steps<1:=by
   by_cases h:x1.steps<1
   .exact .inr h
   .left;have:=hb.stack;have:=hb.n;rw[wrap_i64]<;>omega
  by_cases hs:x1.steps<1
  .simp[hs]at hO
   simp[zbm,a0,a1,a3,a9,a25,a26,a27,hl,hix,W.av,W.cs,splice,hxo,go1,g1,g2,g3,hs]
   exact hO _ _ _ _ rfl rfl rfl (hx.adds A).stop
  .have w1:yb4 .i64 (x1.steps-1)=x1.steps-1:=by rcases wst with h|h;exact h;exact absurd h hs
   rw[if_neg hs]at hw hR hO
   have hb1:=hb.one (by omega)
   have hx2:XF fs mm mn J0 xo mo fo L T { x1 with steps:=x1.steps-1 } r1 (((Z.newO [.int .i64 0,.int .i64 0,.int .i64 0,.int .i64 0,.int .i64 0,.str []]).setO Z.no [.int .i64 wop,.int .i64 wty,.int .i64 wn,.int .i64 wbody,.int .i64 wother,.str wname]).setO xo [gfv,.int .i64 mm,.int .i64 mn,giv,.int .i64 (x1.steps-1),.slm mo 0 1 x1.memory.length,gov,.int .i64 x1.calls]) :=
    (hx.adds A).setX (J1:=(Z.newO [.int .i64 0,.int .i64 0,.int .i64 0,.int .i64 0,.int .i64 0,.str []]).setO Z.no [.int .i64 wop,.int .i64 wty,.int .i64 wn,.int .i64 wbody,.int .i64 wother,.str wname]) (by simp[hxo];exact go1) rfl rfl (yah _) (λ_ _ _=>rfl) hgi (hgo.keep A.nf λg hg=>rfl) λk hk=>.inl hk
   -- behind the instruction
   have w3:yb4 .i64 ((pre.length:Int)+1)=((pre.length+1:Nat):Int):=by rw[wrap_i64]<;>omega
   have w4:yb4 .i64 (deep+1)=deep+1:=by rw[wrap_i64]<;>omega
   have fin:∀{o:Int} {x2:zaN} {r2:Fr} {J2:AS} {b:Nat->AV},zcy fs rec k deep (⟨wop,wty,wn,wbody,wother,wname⟩:W) { x1 with steps:=x1.steps-1 } r1=.ok o x2 r2->XF fs mm mn J0 xo mo fo L T x2 r2 J2->o=-1->b 0=.ptr xo 0->b 1=.ptr fo 0->b 3=.int .i64 deep->b 9=.int .i64 (height:Int)->b 25=rv->b 26=.int .i64 (all.length:Int)->b 27=.int .i64 ((pre.length+1:Nat):Int) ->
     zda yb9 G 82 zbm (zai 0 (zan (avc yb9 G 82 ziH (zcq yb9 [ResultVar.tmp 8] R)) (zcq yb9 [ResultVar.tmp 8] R))) (ws.length+1) b J2:=by
    intro o x2 r2 J2 b e hx3 ho b0 b1 b3 b9 b25 b26 b27
    rw[e]at hw hR hO
    simp only[ho,if_true]at hw hR hO
    have hbd2:=(zvo hbd hfs hD0 hD2 hwn hd hb1 e).1.bd
    exact zkw V hrec hbd hD0 hD2 hfs h0 hd hrv hall hnum ws (pre++[(⟨wop,wty,wn,wbody,wother,wname⟩:W)]) (by rw[hall2];simp) hx3 hbd2 hw b0 b1 b3 b9 b25 b26 (by rw[b27];simp) hR hO
   by_cases hA:wop=11\/wop=12\/wop=13
   .have hex:zcy fs rec k deep (⟨wop,wty,wn,wbody,wother,wname⟩:W) { x1 with steps:=x1.steps-1 } r1=za5 rec k (⟨wop,wty,wn,wbody,wother,wname⟩:W) (deep+1) { x1 with steps:=x1.steps-1 } r1:=by unfold zcy;rw[if_pos hA]
    have hne:za5 rec k (⟨wop,wty,wn,wbody,wother,wname⟩:W) (deep+1) { x1 with steps:=x1.steps-1 } r1≠.bad:=λe=>by rw[hex,e]at hw;exact hw rfl
    rcases hA with hop|hop|hop
    .subst hop
     simp[zbm,a0,a1,a3,a9,a25,a26,a27,hl,hix,W.av,W.cs,splice,hxo,hxo',go1,g1,g2,g3,hs,w1,w4]
     refine zeZ (w:=⟨11,wty,wn,wbody,wother,wname⟩) hrec hbd hx2 hb1.bd (by omega) hd hne (λo x2 r2 J2 e hx3=>?_) (λs c x2 J2 e ho=>?_)
     .by_cases ho:o=-1
      .simp[-zt,ho,a0,a1,a3,a9,a25,a26,a27,w3]
       refine fin (hex.trans e) hx3 ho ?_ ?_ ?_ ?_ ?_ ?_ ?_<;>simp[a0,a1,a3,a9,a25,a26]
      .rw[hex,e]at hw hR
       simp only[if_neg ho]at hw hR
       by_cases hh:r2.stack.length<height
       .rw[if_pos hh]at hw;exact absurd rfl hw
       rw[if_neg hh]at hR
       obtain⟨pv,lv,tv,cv,sv,fo1,e1,e2,e3,e4,e5,hsv,_,_,_⟩:=hx3.cells
       rcases hsv with ⟨hs0,rfl⟩|⟨q,rfl,q1,q2⟩
       .have hh0:height=0:=by rw[hs0]at hh;simp at hh;exact hh
        subst hh0
        simp[-zt,ho,a0,a1,a3,a9,a25,a26,a27,fo1,e1,e2,e3,e4,splice]
        exact hR _ _ _ _ rfl (hx3.setFr (J1:=J2) (st':=r2.stack.take 0) (res':=r2.result) fo1 rfl rfl (yah _) (λ_ _ _=>rfl) (.inl ⟨by simp,rfl⟩) λk hk=>.inl hk)
       .simp[-zt,ho,a0,a1,a3,a9,a25,a26,a27,fo1,e1,e2,e3,e4,splice]
        refine⟨by omega,hR _ _ _ _ rfl (hx3.setFr (J1:=J2) (st':=r2.stack.take height) (res':=r2.result) fo1 rfl rfl (yah _) (λ_ _ _=>rfl) (.inr ⟨q,by rw[yd7],q1,q2⟩) λk hk=>.inl hk)⟩
     .rw[hex,e]at hO
      simp
      exact hO _ _ _ _ rfl ho
    .subst hop
     simp[zbm,a0,a1,a3,a9,a25,a26,a27,hl,hix,W.av,W.cs,splice,hxo,hxo',go1,g1,g2,g3,hs,w1,w4]
     refine zeZ (w:=⟨12,wty,wn,wbody,wother,wname⟩) hrec hbd hx2 hb1.bd (by omega) hd hne (λo x2 r2 J2 e hx3=>?_) (λs c x2 J2 e ho=>?_)
     .by_cases ho:o=-1
      .simp[-zt,ho,a0,a1,a3,a9,a25,a26,a27,w3]
       refine fin (hex.trans e) hx3 ho ?_ ?_ ?_ ?_ ?_ ?_ ?_<;>simp[a0,a1,a3,a9,a25,a26]
      .rw[hex,e]at hw hR
       simp only[if_neg ho]at hw hR
       by_cases hh:r2.stack.length<height
       .rw[if_pos hh]at hw;exact absurd rfl hw
       rw[if_neg hh]at hR
       obtain⟨pv,lv,tv,cv,sv,fo1,e1,e2,e3,e4,e5,hsv,_,_,_⟩:=hx3.cells
       rcases hsv with ⟨hs0,rfl⟩|⟨q,rfl,q1,q2⟩
       .have hh0:height=0:=by rw[hs0]at hh;simp at hh;exact hh
        subst hh0
        simp[-zt,ho,a0,a1,a3,a9,a25,a26,a27,fo1,e1,e2,e3,e4,splice]
        exact hR _ _ _ _ rfl (hx3.setFr (J1:=J2) (st':=r2.stack.take 0) (res':=r2.result) fo1 rfl rfl (yah _) (λ_ _ _=>rfl) (.inl ⟨by simp,rfl⟩) λk hk=>.inl hk)
       .simp[-zt,ho,a0,a1,a3,a9,a25,a26,a27,fo1,e1,e2,e3,e4,splice]
        refine⟨by omega,hR _ _ _ _ rfl (hx3.setFr (J1:=J2) (st':=r2.stack.take height) (res':=r2.result) fo1 rfl rfl (yah _) (λ_ _ _=>rfl) (.inr ⟨q,by rw[yd7],q1,q2⟩) λk hk=>.inl hk)⟩
     .rw[hex,e]at hO
      simp
      exact hO _ _ _ _ rfl ho
    .subst hop
     simp[zbm,a0,a1,a3,a9,a25,a26,a27,hl,hix,W.av,W.cs,splice,hxo,hxo',go1,g1,g2,g3,hs,w1,w4]
     refine zeZ (w:=⟨13,wty,wn,wbody,wother,wname⟩) hrec hbd hx2 hb1.bd (by omega) hd hne (λo x2 r2 J2 e hx3=>?_) (λs c x2 J2 e ho=>?_)
     .by_cases ho:o=-1
      .simp[-zt,ho,a0,a1,a3,a9,a25,a26,a27,w3]
       refine fin (hex.trans e) hx3 ho ?_ ?_ ?_ ?_ ?_ ?_ ?_<;>simp[a0,a1,a3,a9,a25,a26]
      .rw[hex,e]at hw hR
       simp only[if_neg ho]at hw hR
       by_cases hh:r2.stack.length<height
       .rw[if_pos hh]at hw;exact absurd rfl hw
       rw[if_neg hh]at hR
       obtain⟨pv,lv,tv,cv,sv,fo1,e1,e2,e3,e4,e5,hsv,_,_,_⟩:=hx3.cells
       rcases hsv with ⟨hs0,rfl⟩|⟨q,rfl,q1,q2⟩
       .have hh0:height=0:=by rw[hs0]at hh;simp at hh;exact hh
        subst hh0
        simp[-zt,ho,a0,a1,a3,a9,a25,a26,a27,fo1,e1,e2,e3,e4,splice]
        exact hR _ _ _ _ rfl (hx3.setFr (J1:=J2) (st':=r2.stack.take 0) (res':=r2.result) fo1 rfl rfl (yah _) (λ_ _ _=>rfl) (.inl ⟨by simp,rfl⟩) λk hk=>.inl hk)
       .simp[-zt,ho,a0,a1,a3,a9,a25,a26,a27,fo1,e1,e2,e3,e4,splice]
        refine⟨by omega,hR _ _ _ _ rfl (hx3.setFr (J1:=J2) (st':=r2.stack.take height) (res':=r2.result) fo1 rfl rfl (yah _) (λ_ _ _=>rfl) (.inr ⟨q,by rw[yd7],q1,q2⟩) λk hk=>.inl hk)⟩
     .rw[hex,e]at hO
      simp
      exact hO _ _ _ _ rfl ho
   .by_cases hB:wop=14\/wop=15\/wop=16
    .have hex:zcy fs rec k deep (⟨wop,wty,wn,wbody,wother,wname⟩:W) { x1 with steps:=x1.steps-1 } r1=ziu (⟨wop,wty,wn,wbody,wother,wname⟩:W) deep { x1 with steps:=x1.steps-1 } r1:=by unfold zcy;rw[if_neg hA,if_pos hB]
     have hne:ziu (⟨wop,wty,wn,wbody,wother,wname⟩:W) deep { x1 with steps:=x1.steps-1 } r1≠.bad:=λe=>by rw[hex,e]at hw;exact hw rfl
     rcases hB with hop|hop|hop
     .subst hop
      simp[zbm,a0,a1,a3,a9,a25,a26,a27,hl,hix,W.av,W.cs,splice,hxo,hxo',go1,g1,g2,g3,hs,w1,w4]
      refine zku (w:=⟨14,wty,wn,wbody,wother,wname⟩) hx2 hb1.bd hne (λo x2 r2 J2 e hx3=>?_)
      by_cases ho:o=-1
      .simp[-zt,ho,a0,a1,a3,a9,a25,a26,a27,w3]
       refine fin (hex.trans e) hx3 ho ?_ ?_ ?_ ?_ ?_ ?_ ?_<;>simp[a0,a1,a3,a9,a25,a26]
      .rw[hex,e]at hw hR
       simp only[if_neg ho]at hw hR
       by_cases hh:r2.stack.length<height
       .rw[if_pos hh]at hw;exact absurd rfl hw
       rw[if_neg hh]at hR
       obtain⟨pv,lv,tv,cv,sv,fo1,e1,e2,e3,e4,e5,hsv,_,_,_⟩:=hx3.cells
       rcases hsv with ⟨hs0,rfl⟩|⟨q,rfl,q1,q2⟩
       .have hh0:height=0:=by rw[hs0]at hh;simp at hh;exact hh
        subst hh0
        simp[-zt,ho,a0,a1,a3,a9,a25,a26,a27,fo1,e1,e2,e3,e4,splice]
        exact hR _ _ _ _ rfl (hx3.setFr (J1:=J2) (st':=r2.stack.take 0) (res':=r2.result) fo1 rfl rfl (yah _) (λ_ _ _=>rfl) (.inl ⟨by simp,rfl⟩) λk hk=>.inl hk)
       .simp[-zt,ho,a0,a1,a3,a9,a25,a26,a27,fo1,e1,e2,e3,e4,splice]
        refine⟨by omega,hR _ _ _ _ rfl (hx3.setFr (J1:=J2) (st':=r2.stack.take height) (res':=r2.result) fo1 rfl rfl (yah _) (λ_ _ _=>rfl) (.inr ⟨q,by rw[yd7],q1,q2⟩) λk hk=>.inl hk)⟩
     .subst hop
      simp[zbm,a0,a1,a3,a9,a25,a26,a27,hl,hix,W.av,W.cs,splice,hxo,hxo',go1,g1,g2,g3,hs,w1,w4]
      refine zku (w:=⟨15,wty,wn,wbody,wother,wname⟩) hx2 hb1.bd hne (λo x2 r2 J2 e hx3=>?_)
      by_cases ho:o=-1
      .simp[-zt,ho,a0,a1,a3,a9,a25,a26,a27,w3]
       refine fin (hex.trans e) hx3 ho ?_ ?_ ?_ ?_ ?_ ?_ ?_<;>simp[a0,a1,a3,a9,a25,a26]
      .rw[hex,e]at hw hR
       simp only[if_neg ho]at hw hR
       by_cases hh:r2.stack.length<height
       .rw[if_pos hh]at hw;exact absurd rfl hw
       rw[if_neg hh]at hR
       obtain⟨pv,lv,tv,cv,sv,fo1,e1,e2,e3,e4,e5,hsv,_,_,_⟩:=hx3.cells
       rcases hsv with ⟨hs0,rfl⟩|⟨q,rfl,q1,q2⟩
       .have hh0:height=0:=by rw[hs0]at hh;simp at hh;exact hh
        subst hh0
        simp[-zt,ho,a0,a1,a3,a9,a25,a26,a27,fo1,e1,e2,e3,e4,splice]
        exact hR _ _ _ _ rfl (hx3.setFr (J1:=J2) (st':=r2.stack.take 0) (res':=r2.result) fo1 rfl rfl (yah _) (λ_ _ _=>rfl) (.inl ⟨by simp,rfl⟩) λk hk=>.inl hk)
       .simp[-zt,ho,a0,a1,a3,a9,a25,a26,a27,fo1,e1,e2,e3,e4,splice]
        refine⟨by omega,hR _ _ _ _ rfl (hx3.setFr (J1:=J2) (st':=r2.stack.take height) (res':=r2.result) fo1 rfl rfl (yah _) (λ_ _ _=>rfl) (.inr ⟨q,by rw[yd7],q1,q2⟩) λk hk=>.inl hk)⟩
     .subst hop
      simp[zbm,a0,a1,a3,a9,a25,a26,a27,hl,hix,W.av,W.cs,splice,hxo,hxo',go1,g1,g2,g3,hs,w1,w4]
      refine zku (w:=⟨16,wty,wn,wbody,wother,wname⟩) hx2 hb1.bd hne (λo x2 r2 J2 e hx3=>?_)
      by_cases ho:o=-1
      .simp[-zt,ho,a0,a1,a3,a9,a25,a26,a27,w3]
       refine fin (hex.trans e) hx3 ho ?_ ?_ ?_ ?_ ?_ ?_ ?_<;>simp[a0,a1,a3,a9,a25,a26]
      .rw[hex,e]at hw hR
       simp only[if_neg ho]at hw hR
       by_cases hh:r2.stack.length<height
       .rw[if_pos hh]at hw;exact absurd rfl hw
       rw[if_neg hh]at hR
       obtain⟨pv,lv,tv,cv,sv,fo1,e1,e2,e3,e4,e5,hsv,_,_,_⟩:=hx3.cells
       rcases hsv with ⟨hs0,rfl⟩|⟨q,rfl,q1,q2⟩
       .have hh0:height=0:=by rw[hs0]at hh;simp at hh;exact hh
        subst hh0
        simp[-zt,ho,a0,a1,a3,a9,a25,a26,a27,fo1,e1,e2,e3,e4,splice]
        exact hR _ _ _ _ rfl (hx3.setFr (J1:=J2) (st':=r2.stack.take 0) (res':=r2.result) fo1 rfl rfl (yah _) (λ_ _ _=>rfl) (.inl ⟨by simp,rfl⟩) λk hk=>.inl hk)
       .simp[-zt,ho,a0,a1,a3,a9,a25,a26,a27,fo1,e1,e2,e3,e4,splice]
        refine⟨by omega,hR _ _ _ _ rfl (hx3.setFr (J1:=J2) (st':=r2.stack.take height) (res':=r2.result) fo1 rfl rfl (yah _) (λ_ _ _=>rfl) (.inr ⟨q,by rw[yd7],q1,q2⟩) λk hk=>.inl hk)⟩
    .have n1:wop≠11/\wop≠12/\wop≠13:=by simpa using hA
     have n2:wop≠14/\wop≠15/\wop≠16:=by simpa using hB
     have hne:zaw fs rec (⟨wop,wty,wn,wbody,wother,wname⟩:W) { x1 with steps:=x1.steps-1 } r1≠.bad:=λe=>by
      unfold zcy at hw;rw[if_neg hA,if_neg hB,e]at hw;exact hw rfl
     simp[zbm,a0,a1,a3,a9,a25,a26,a27,hl,hix,W.av,W.cs,splice,hxo,hxo',go1,g1,g2,g3,hs,w1,w4,n1,n2]
     refine zo2 (w:=⟨wop,wty,wn,wbody,wother,wname⟩) V hrec hbd hD0 hfs hwn hx2 hb1 hne (λx2 r2 J2 e hx3=>?_) (λs c x2 J2 e ho=>?_)
     .simp[-zt,a0,a1,a3,a9,a25,a26,a27,w3]
      refine fin (o:=-1) (by unfold zcy;rw[if_neg hA,if_neg hB,e]) hx3 rfl ?_ ?_ ?_ ?_ ?_ ?_ ?_<;>simp[a0,a1,a3,a9,a25,a26]
     .have e2:zcy fs rec k deep (⟨wop,wty,wn,wbody,wother,wname⟩:W) { x1 with steps:=x1.steps-1 } r1=.over s c x2:=by unfold zcy;rw[if_neg hA,if_neg hB,e]
      rw[e2]at hO
      simp
      exact hO _ _ _ _ rfl ho
end
theorem zrW{G:Env}(V:zh2 G){fs:List F}(hfs:zts fs){mm mn:Int}{N:Nat}:∀(k:Nat) (D:Int),0<=D->D+k<=2^62->zkt G fs mm mn N D (znh fs k)
 | 0,D,_,_=>by
  intro h hb h0 hd hw
  exact absurd rfl hw
 | k+1,D,hD,hDk=>by
  rename_i J0 J xo mo fo L T x r at_ deep R
  intro h hb h0 hd hw hR hO
  refine zxz rfl ?_
  simp only[znh]at hw hR hO
  by_cases ha:at_<0
  .rw[if_pos ha]at hw;exact absurd rfl hw
  rw[if_neg ha]at hw hR hO
  cases hws:r.fn.lists[at_.toNat]? with
  | none=>rw[hws]at hw;exact absurd rfl hw
  | some ws =>
  rw[hws]at hw hR hO
  simp only at hw hR hO
  obtain⟨hi,hie⟩:=yaq.1 hws
  obtain⟨pv,lv,tv,cv,sv,fo1,e1,e2,e3,e4,e5,hsv,htv,_,_⟩:=h.cells
  obtain⟨b,rv,hrv,hix⟩:=htv.at hi
  rw[hie]at hrv
  have ea:((at_.toNat:Nat):Int)=at_:=by omega
  rw[ea]at hix
  have sl:=hsv.len
  have rl:=hrv.len
  have r1:=hrv.one
  have hmem:=ydb hws
  simp[zHl,fo1,e1,e2,e3,e4,e5,sl,hix,rl,r1]
  refine zbM (ws.length+1) ?_
  refine zkw V (zrW V hfs k (D+1) (by omega) (by push_cast at hDk;omega)) (zqu hfs k (D+1) (by omega) (by push_cast at hDk;omega)) (by omega) (by push_cast at hDk;omega) hfs h0 (by omega) hrv (hb.fn.rows _ hmem) (hb.fn.nums _ hmem) ws [] rfl h hb hw ?_ ?_ ?_ ?_ ?_ ?_ ?_ hR hO<;>simp
end Go.Proofs.YtohfclafhegadaaGreatDoor

namespace Go.Proofs.YtohfclafhegadaaGreatDoor
open Go Go.Abs
theorem ze0{m:M}(h:za7 m=.ok ()):0<=m.memory/\m.memory<=4096:=by
 unfold za7 at h
 split at h
 .cases h
 .rename_i q
  simpa using q
theorem zlY{m:M}(h:za7 m=.ok ()):0<=m.main/\∃g,m.funcs[m.main.toNat]?=some g/\g.type=1/\g.params.length=0:=by
 have hm:zgL m=true:=by
  unfold za7 at h
  split at h
  .cases h
  .split at h
   .cases h
   .split at h
    .assumption
    .cases h
 unfold zgL at hm
 simp only[Bool.and_eq_true,decide_eq_true_eq]at hm
 obtain⟨h0,h1⟩:=hm
 refine⟨h0,?_⟩
 cases hg:m.funcs[m.main.toNat]? with
 | none=>rw[hg]at h1;cases h1
 | some g =>
  rw[hg]at h1
  simp only[Bool.and_eq_true,decide_eq_true_eq]at h1
  exact⟨g,rfl,h1.1,h1.2⟩
theorem zrX(n:Nat)(k:IntKind)(v:Int):zM (yaj n (yc6 k v))=yaj n (yc6 k v):=by
 induction n with
 | zero=>rfl
 | succ n ih=>simp only[List.replicate_succ,zM,yaa]at ih ⊢;rw[ih];rfl
theorem zqy{G:Env}{n:Int}(h0:0<=n)(h1:n<=4096){J:AS}{K:AV->AS->Prop}:zpx yb9 32 (.int .i64 n) (.int .i64 n) J K=K (.slm J.no 0 1 n.toNat) (J.newO (yaj n.toNat (.int .u8 0))):=by
 refine propext ⟨λh=>?_,λh=>?_⟩
 .obtain⟨sz,bs,z,e1,e2,e3,e4,e5,_,_,_,_,h⟩:=h
  rw[zBy]at e1
  rw[zBz]at e3
  cases e1;cases e3
  rw[zrX]at h
  exact h
 .refine⟨1,1,_,zBy,zHQ,zBz,rfl,rfl,rfl,h0,by omega,by omega,?_⟩
  rw[zrX]
  exact h
set_option maxHeartbeats 1000000 in
theorem zo3{G:Env}(V:zh2 G){m:M}{mv iv:AV}{input:List Int}{steps:Int}{J:AS}{R:Out->AS->Prop}(hm:MV mv m)(hc:za7 m=.ok ())(hfs:zts m.funcs)(hi:zaq iv input)(hil:input.length<=2^38)(hs:steps<=2^38)
  (hR:∀ov out st code J',ztr m input steps (steps.toNat+1)=some (out,st,code)->zaq ov out->zb J J'->R (.ret (.agg [ov,.int .i64 st,.int .i64 code])) J'):zzQ G 28 [mv,iv,.int .i64 steps] J R:=by
 refine zfn ?_
 refine zjx (px:=zBx) (px2:=zt7) (pz:=zpL) (k:=80) (py:=zq4) (n:=32) (nk:=18) (t:=17) (d0:=4) (d1:=2) (res:=[.cell 6 48]) zt5 Tryz.func28 rfl rfl rfl rfl (by kernel_rfl) (by kernel_rfl) (by kernel_rfl) (by simp) rfl rfl rfl rfl rfl rfl (by decide) Tryz.func80 rfl (by kernel_rfl) rfl rfl rfl rfl rfl rfl rfl rfl rfl (by kernel_rfl) (by decide) (by decide) (by decide) ?_
 obtain⟨fsv,rfl,hfsv⟩:=hm
 have f1:=hfsv.one
 have i1:=hi.one
 obtain⟨m0,m1⟩:=ze0 hc
 obtain⟨mn0,g,hg,hgt,hgp⟩:=zlY hc
 obtain⟨out,st,code,he,_,hout⟩:=zlT hc input steps (steps.toNat+1) (by omega)
 have hgm:m.funcs[m.main.toNat]?=some g:=hg
 have hlt:m.main.toNat<m.funcs.length:=(yaq.1 hg).1
 obtain⟨bb,gv,hgv,hix⟩:=hfsv.at hlt
 have hge:m.funcs[m.main.toNat]=g:=(yaq.1 hg).2
 rw[hge]at hgv
 rw[yed mn0]at hix
 obtain⟨gpv,glv,gtv,rfl,hgpv,hglv,hgtv⟩:=hgv
 have g1:=hgpv.one
 have g2:=hglv.one
 have g3:=hgtv.one
 have hgv:FV (.agg [.str g.name,gpv,glv,.int .i64 g.type,gtv]) g:=⟨gpv,glv,gtv,rfl,hgpv,hglv,hgtv⟩
 have hgo:OkF g:=hfs g (ydb hg)
 have hcallw:zcx (znh m.funcs (steps.toNat+1)) ⟨input,steps,yaj m.memory.toNat 0,[],0⟩ g [] ⟨g,[],[],0⟩≠.bad:=by
  intro e
  unfold ztr at he
  rw[if_neg (by omega),hg]at he
  simp only at he
  rw[e]at he
  cases he
 have hov:∀s c x',zcx (znh m.funcs (steps.toNat+1)) ⟨input,steps,yaj m.memory.toNat 0,[],0⟩ g [] ⟨g,[],[],0⟩=.over s c x'->ztr m input steps (steps.toNat+1)=some (x'.out,s,c):=λs c x' e=>by
  unfold ztr
  rw[if_neg (by omega),hg]
  simp only
  rw[e]
 have hok:∀v x' r',zcx (znh m.funcs (steps.toNat+1)) ⟨input,steps,yaj m.memory.toNat 0,[],0⟩ g [] ⟨g,[],[],0⟩=.ok v x' r'->ztr m input steps (steps.toNat+1)=some (x'.out,1,v):=λv x' r' e=>by
  unfold ztr
  rw[if_neg (by omega),hg]
  simp only
  rw[e]
 have fin:∀(Z J':AS) (xo mo ro:Nat) (x':zaN) (ov:AV) (s c:Int),zb J Z->J.no<=xo->J.no<=mo->J.no<=ro->XM m.funcs m.memory m.main Z xo mo [] [] x' ov J'->ztr m input steps (steps.toNat+1)=some (x'.out,s,c)->zsw R (.ret (.agg [ov,.int .i64 s,.int .i64 c])) (J'.setO ro [ov,.int .i64 s,.int .i64 c]):=by
  intro Z J' xo mo ro x' ov s c A hx hmo hr hm e
  have A2:zb J (J'.setO ro [ov,.int .i64 s,.int .i64 c]):=by
   have h1:=hm.no;have h2:=hm.nf;have h3:=A.no;have h4:=A.nf
   refine⟨by simp;omega,by simp;omega,λo ho=>?_,λf hf=>?_⟩
   .have:o≠ro:=by omega
    simp[this]
    rw[hm.obj o (by omega) (by omega) (by omega) (by simp)];exact A.obj o ho
   .simp
    rw[hm.fam f (by omega) (by simp)];exact A.fam f hf
  rcases hm.own with ⟨h1,rfl⟩|⟨q,rfl,h1,h2⟩
  .exact .inl (hR _ _ _ _ _ e (.inl ⟨h1,rfl⟩) A2)
  .have hq:Z.nf<=q:=by
    rcases hm.ownT q (by simp[zam])with h|h
    .simp at h
    .exact h
   refine .inr ⟨_,q,λ_=>false,rfl,by simpa using h2,?_⟩
   have hI:zaq (.sl (.stat false) 1 (x'.out.map (.int .i64))) x'.out:=.inr ⟨_,rfl⟩
   have:=hR _ _ _ _ ((J'.setO ro [.sl (.fam q false) 1 (x'.out.map (.int .i64)),.int .i64 s,.int .i64 c]).frz q λ_=>false) e hI (A2.frz (by have:=A.nf;omega) λ_ _=>rfl)
   simpa [Function.comp_def]using this
 have key:∀(a:Nat->AV) (Z:AS) (caps:List AV) (xo mo vo po ro:Nat),caps=[.ptr vo 0,.ptr ro 0]->a 3=.ptr po 0->a 6=.ptr ro 0->a 7=.ptr vo 0->Z.objs po=some [fsv,.int .i64 m.memory,.int .i64 m.main]->Z.objs ro=some [.nilsl,.int .i64 0,.int .i64 0]->Z.objs vo=some [.ptr xo 0] ->
   Z.objs xo=some [fsv,.int .i64 m.memory,.int .i64 m.main,iv,.int .i64 steps,.slm mo 0 1 m.memory.toNat,.nilsl,.int .i64 0]->Z.objs mo=some (yaj m.memory.toNat (.int .u8 0))->zb J Z->(po<Z.no/\ro<Z.no/\vo<Z.no/\xo<Z.no/\mo<Z.no)->(J.no<=xo/\J.no<=mo/\J.no<=ro) ->
   (xo≠mo/\vo≠xo/\vo≠mo/\ro≠xo/\ro≠mo/\ro≠vo)->avc yb9 G 32 zpL (aq (za2 yb9 G 18 zq4 4 2 caps [.cell 6 48] (zsw R))) a Z:=by
  intro a Z caps xo mo vo po ro hcaps a3 a6 a7 op orr ov ox om A lts ges nes
  obtain⟨l1,l2,l3,l4,l5⟩:=lts
  obtain⟨q1,q2,q3⟩:=ges
  obtain⟨n1,n2,n3,n4,n5,n6⟩:=nes
  subst hcaps
  have hM:XM m.funcs m.memory m.main Z xo mo [] [] ⟨input,steps,yaj m.memory.toNat 0,[],0⟩ .nilsl Z :=
   ⟨yah _,yah _,λ_ _ _ _ _=>rfl,λ_ _ _=>rfl,l4,l5,n1,by simp,⟨fsv,iv,by simpa using ox,hfsv,hi⟩,.inl ⟨rfl,rfl⟩,by simp[zam],by simpa using om⟩
  simp[zpL,a3,a7,op,ov,f1,hix,splice,g1,g2,g3]
  refine zlX (N:=2^38) (zrW V hfs (steps.toNat+1) 0 (yd4 _) (by omega)) (zqu hfs (steps.toNat+1) 0 (yd4 _) (by omega)) (yd4 _) hM (yah _) (by simp only;omega) (by simp;omega) (yd4 _) (by simp;omega) hil hgo hgv (.inr (.inl ⟨rfl,rfl⟩)) (by simp) (by simp[zam]) (by simp[zam]) hcallw (λv x' r' J' e hx=>?_) (λs c x' J' e hx=>?_)
  .obtain⟨xov,hm⟩:=hx
   have o1:=hm.own.one
   obtain⟨fv,iv',ho,_,_⟩:=hm.mach
   have hv:=(hm.obj vo l3 n2 n3 (by simp)).trans ov
   have hr:=(hm.obj ro l2 n4 n5 (by simp)).trans orr
   have hfin:=fin Z J' xo mo ro x' xov 1 v A q1 q2 q3 hm (hok _ _ _ e)
   simp[a6,a7,hv,ho,hr,o1,splice]
   simp[za2,zq4,splice,a6]
   exact hfin
  .obtain⟨xov,hm⟩:=hx
   have o1:=hm.own.one
   obtain⟨fv,iv',ho,_,_⟩:=hm.mach
   have hv:=(hm.obj vo l3 n2 n3 (by simp)).trans ov
   have hr:=(hm.obj ro l2 n4 n5 (by simp)).trans orr
   have hl:=hm.no
   have A3:zb J' ((J'.newO [.int .i64 0,.int .i64 0]).setO J'.no [.int .i64 s,.int .i64 c]):=(zb.refl J').newO.setO (yah _)
   have hfin:=fin Z _ xo mo ro x' xov s c A q1 q2 q3 (hm.adds A3) (hov _ _ _ e)
   have y1:vo≠J'.no:=by omega
   have y2:ro≠J'.no:=by omega
   have y3:xo≠J'.no:=by omega
   simp
   simp[za2,zq4,zks,splice,zd5,a6,hv,ho,hr,o1,y1,y2,y3]
   exact hfin
 simp[zBx]
 have z2:¬J.no=J.no+1+1:=by omega
 have z3:¬J.no=J.no+1+1+1:=by omega
 have z4:¬J.no=J.no+1+1+1+1:=by omega
 have z5:¬J.no+1=J.no+1+1+1:=by omega
 have z6:¬J.no+1=J.no+1+1+1+1:=by omega
 have z7:¬J.no+1+1=J.no+1+1+1+1:=by omega
 simp[zt7,f1,i1,splice,zqy (G:=G) m0 m1,z2,z3,z4]
 refine⟨key _ _ _ (J.no+1+1+1) (J.no+1+1) (J.no+1+1+1+1) J.no (J.no+1) rfl ?_ ?_ ?_ ?_ ?_ ?_ ?_ ?_ ?_ ?_ ?_ ?_,key _ _ _ (J.no+1+1+1+1) (J.no+1+1) (J.no+1+1+1) J.no (J.no+1) rfl ?_ ?_ ?_ ?_ ?_ ?_ ?_ ?_ ?_ ?_ ?_ ?_,key _ _ _ (J.no+1+1+1+1) (J.no+1+1+1) (J.no+1+1) J.no (J.no+1) rfl ?_ ?_ ?_ ?_ ?_ ?_ ?_ ?_ ?_ ?_ ?_ ?_⟩
 all_goals first|(simp;done)|(simp;omega)|(simp[z2,z3,z4,z5,z6,z7];done)|exact((zb.refl J).newO.newO.newO.newO.newO).setO (by omega)|omega
end Go.Proofs.YtohfclafhegadaaGreatDoor
namespace Go.Proofs.YtohfclafhegadaaGreatDoor.Ck
open Go Go.Abs Go.Proofs.YtohfclafhegadaaGreatDoor
def ziW(r:List W):List Int:=r.flatMap zi
def zd1(l:To):List Int:=l.flatMap ziW
def NOk(L:Nat)(named:List Bool)(P:List Int):Prop:=named.length=L/\∀i,i<L->named[i]?=some (decide (0<P.count (i:Int)))
theorem zAs{L:Nat}{named:List Bool}{P:List Int}{k:Nat}{n:Int}(h:NOk L named P)(hk:k<=L)(h0:0<=n/\n<(k:Int))(hc:P.count n=0):∃named',zee (k:Int) named n=.ok named'/\NOk L named' (P++[n]):=by
 obtain⟨i,hi⟩:=yd8 h0.1
 subst hi
 have hi:i<L:=by omega
 have hg:=h.2 i hi
 rw[hc]at hg
 have e:named.getD (Int.toNat (i:Int)) true=false:=by rw[ybe,ycZ,hg];rfl
 refine⟨named.set i true,?_,by simp[h.1],λj hj=>?_⟩
 .unfold zee
  rw[if_pos ⟨h0.1,h0.2,e⟩,ybe]
 .rw[List.getElem?_set,yee]
  by_cases hij:i=j
  .subst hij
   rw[if_pos rfl,if_pos (by rw[h.1];exact hj)]
   simp
  .rw[if_neg hij,h.2 j hj]
   have:List.count (j:Int) [(i:Int)]=0:=by
    rw[yef]
    have:¬((i:Int)==(j:Int))=true:=by simp;omega
    simp[this]
   rw[this,Nat.add_zero]
theorem zo4{L k:Nat}(hk:k<=L):∀{ns:List Int} {named:List Bool} {P:List Int},NOk L named P->(∀n∈ns,0<=n/\n<(k:Int))->(∀n:Int,(P++ns).count n<=1)->∃named',zbd (k:Int) ns named=.ok named'/\NOk L named' (P++ns)
 | [],named,P,h,_,_=>⟨named,rfl,by simpa using h⟩
 | n::ns,named,P,h,h0,hc=>by
  have h1:=hc n
  rw[yee,List.count_cons_self]at h1
  obtain⟨nm,e1,e2⟩:=zAs h hk (h0 n (by simp)) (by omega)
  obtain⟨nm2,e3,e4⟩:=zo4 hk (ns:=ns) e2 (λm hm=>h0 m (by simp[hm])) (λm=>by have:=hc m;simpa using this)
  refine⟨nm2,?_,by simpa using e4⟩
  rw[zbd,e1];exact e3
theorem zvp{L k:Nat}(hk:k<=L):∀{r:List W} {named:List Bool} {P:List Int},NOk L named P->(∀n∈ziW r,0<=n/\n<(k:Int))->(∀n:Int,(P++ziW r).count n<=1)->∃named',ziR (k:Int) r named=.ok named'/\NOk L named' (P++ziW r)
 | [],named,P,h,_,_=>⟨named,rfl,by simpa [ziW]using h⟩
 | w::r,named,P,h,h0,hc=>by
  have e:ziW (w::r)=zi w++ziW r:=by simp[ziW]
  rw[e]at h0 hc ⊢
  obtain⟨nm,e1,e2⟩:=zo4 hk h (ns:=zi w) (λn hn=>h0 n (by simp[hn])) (λn=>by
   have:=hc n
   rw[<-ydp,yee]at this
   omega)
  obtain⟨nm2,e3,e4⟩:=zvp hk (r:=r) e2 (λm hm=>h0 m (by simp[hm])) (λm=>by rw[ydp];exact hc m)
  refine⟨nm2,?_,by rw[<-ydp];exact e4⟩
  rw[ziR,e1];exact e3
theorem zrY{L:Nat}:∀{k:Nat} {ls:To} {named:List Bool} {P:List Int},k+ls.length<=L->NOk L named P->(∀i r,ls[i]?=some r->∀n∈ziW r,0<=n/\n<((k+i:Nat):Int))->(∀n:Int,(P++zd1 ls).count n<=1)->∃named',zca k ls named=.ok named'/\NOk L named' (P++zd1 ls)
 | k,[],named,P,_,h,_,_=>⟨named,rfl,by simpa [zd1]using h⟩
 | k,r::ls,named,P,hk,h,h0,hc=>by
  have e:zd1 (r::ls)=ziW r++zd1 ls:=by simp[zd1]
  rw[e]at hc ⊢
  simp only[yac]at hk
  obtain⟨nm,e1,e2⟩:=zvp (k:=k) (by omega) h (r:=r) (λn hn=>by have:=h0 0 r rfl n hn;simpa using this) (λn=>by
   have:=hc n
   rw[<-ydp,yee]at this
   omega)
  obtain⟨nm2,e3,e4⟩:=zrY (k:=k+1) (ls:=ls) (by omega) e2 (λi q hq m hm=>by have:=h0 (i+1) q (by simpa using hq) m hm;simp at this ⊢;omega) (λm=>by rw[ydp];exact hc m)
  refine⟨nm2,?_,by rw[<-ydp];exact e4⟩
  rw[zca,e1];exact e3
theorem zvq{ls:To}(h0:ls.length≠0)(hv:∀(i:Nat) r,ls[i]?=some r->∀n∈ziW r,0<=n/\n<(i:Int))(hc:∀i:Nat,i+1<ls.length->(zd1 ls).count (i:Int)=1):zcE ls=.ok ():=by
 have hall:∀n∈zd1 ls,0<=n/\n<((ls.length-1:Nat):Int):=λn hn=>by
  simp only[zd1,ydg]at hn
  obtain⟨r,hr,hn⟩:=hn
  obtain⟨i,hi,e⟩:=ya9 hr
  have:=hv i r (by rw[yau hi,e]) n hn
  omega
 have hc1:∀n:Int,(zd1 ls).count n<=1:=λn=>by
  by_cases hm:n∈zd1 ls
  .have:=hall n hm
   obtain⟨i,hi⟩:=yd8 this.1
   subst hi
   rw[hc i (by omega)]
   exact yah _
  .rw[List.count_eq_zero_of_not_mem hm];omega
 obtain⟨nm,e1,e2,e3⟩:=zrY (L:=ls.length) (k:=0) (ls:=ls) (named:=yaj ls.length false) (P:=[]) (by omega) ⟨by simp,λi hi=>by simp[hi]⟩ (λi r hr n hn=>by have:=hv i r hr n hn;simpa using this) (by simpa using hc1)
 unfold zcE
 rw[if_neg h0,e1]
 simp only
 rw[if_pos]
 rw[yaM]
 intro b hb
 obtain⟨i,hi,e⟩:=ya9 hb
 simp at hi
 have:=e3 i (by omega)
 rw[ydo,hc i (by omega)]at this
 rw[<-e,List.getElem_take]
 have h4:=yaq.1 this
 obtain⟨h5,h6⟩:=h4
 rw[h6]
 rfl
end Go.Proofs.YtohfclafhegadaaGreatDoor.Ck
namespace Go.Proofs.YtohfclafhegadaaGreatDoor
open Go Go.Abs Go.Proofs.YtohfclafhegadaaGreatDoor.Ck
theorem zs6{w:W}(h:zbv w=false):zi (za9 w)=[]:=by
 simp only[zbv,Bool.or_eq_false_iff,decide_eq_false_iff_not]at h
 unfold zi za9
 simp only
 rw[if_neg (by omega),if_neg (by omega)]
theorem zdv(w:W)(r:List W):ziW (w::r)=zi w++ziW r:=by simp[ziW]
theorem ze1(x y:To):zd1 (x++y)=zd1 x++zd1 y:=by simp[zd1]
theorem zo5(x:List W):zd1 [x]=ziW x:=by simp[zd1]
structure Inv(n0 n1:Nat)(z:To)(out:List W):Prop where
 len:n1=n0+z.length
 names:∀n∈ziW out,∃j:Nat,n=(j:Int)/\j<n1
 rows:∀i r,z[i]?=some r->∀n∈ziW r,∃j:Nat,n=(j:Int)/\j<n0+i
 once:∀n:Nat,(ziW out).count (n:Int)+(zd1 z).count (n:Int)=if n0<=n/\n<n1 then 1 else 0
theorem zqz{n0 n1 n2:Nat}{z1 z2:To}{b out:List W}(h1:Inv n0 n1 z1 b)(h2:Inv (n1+1) n2 z2 out){w:W}(hw:zi w=[(n1:Int)]):Inv n0 n2 (z1++b::z2) (w::out) where
 len:=by have:=h1.len;have:=h2.len;simp;omega
 names n hn:=by
  rw[zdv,hw]at hn
  have:=h2.len
  rcases ybC.1 hn with rfl|hn
  .exact⟨n1,rfl,by omega⟩
  .exact h2.names n hn
 rows i r hi n hn:=by
  have l1:=h1.len
  by_cases c:i<z1.length
  .rw[yat c]at hi
   exact h1.rows i r hi n hn
  .rw[yaI (by omega)]at hi
   obtain⟨k,hk⟩:∃k,i=z1.length+k:=⟨i-z1.length,by omega⟩
   subst hk
   rw[Nat.add_sub_cancel_left]at hi
   cases k with
   | zero =>
    simp only[yeg,yaR.injEq]at hi
    subst hi
    obtain⟨j,e,hj⟩:=h1.names n hn
    exact⟨j,e,by omega⟩
   | succ k =>
    simp only[List.getElem?_cons_succ]at hi
    obtain⟨j,e,hj⟩:=h2.rows k r hi n hn
    exact⟨j,e,by omega⟩
 once n:=by
  have a1:=h1.once n
  have a2:=h2.once n
  have l1:=h1.len
  have l2:=h2.len
  have e:z1++b::z2=z1++([b]++z2):=by simp
  rw[zdv,hw,e,ze1,ze1,zo5]
  simp only[yee,yef]
  have q:((n1:Int)==(n:Int))=decide (n1=n):=by
   by_cases c:n1=n
   .subst c;simp
   .have:¬(n1:Int)=(n:Int):=by omega
    rw[decide_eq_false c]
    exact beq_eq_false_iff_ne.2 this
  rw[q]
  by_cases c:n1=n
  .subst c
   rw[if_neg (by omega)]at a1
   rw[if_neg (by omega)]at a2
   have c3:n0<=n1/\n1<n2:=by omega
   rw[if_pos c3]
   simp only[decide_true,if_true]
   omega
  .rw[decide_eq_false c]
   simp only[Bool.false_eq_true,if_false]
   by_cases c1:n0<=n/\n<n1
   .rw[if_pos c1]at a1
    rw[if_neg (by omega)]at a2
    rw[if_pos (by omega)]
    omega
   .rw[if_neg c1]at a1
    by_cases c2:n1+1<=n/\n<n2
    .rw[if_pos c2]at a2
     rw[if_pos (by omega)]
     omega
    .rw[if_neg c2]at a2
     rw[if_neg (by omega)]
     omega
theorem ze2{op o:Int}{b:Nat}(h:op=11\/op=12\/op=13/\o<0):zi (zar op b o)=[(b:Int)]:=by
 unfold zi zar
 simp only
 rw[if_pos h]
theorem zIB{ls:To}{d:Nat}{ws:List W}{acc acc':To}{toks:List Tok}{out:List W}(h:Pr ls d ws acc toks out acc'):∃z,acc'=acc++z/\Inv acc.length acc'.length z out:=by
 induction h with
 | nil d acc=>exact⟨[],by simp,⟨by simp,by simp[ziW],by simp,λn=>by rw[if_neg (by omega)];simp[ziW,zd1]⟩⟩
 | @leaf d w r acc t r' acc' hn hf hr _ ih =>
  obtain⟨z,e,h⟩:=ih
  have en:ziW (za9 w::r')=ziW r':=by rw[zdv,zs6 hn,ydo]
  exact⟨z,e,⟨h.len,by rw[en];exact h.names,h.rows,λn=>by rw[en];exact h.once n⟩⟩
 | @one d w b r acc tb b' acc1 t r' acc' ho hd hb0 hb _ _ ih1 ih2 =>
  obtain⟨z1,e1,h1⟩:=ih1
  obtain⟨z2,e2,h2⟩:=ih2
  simp only[yab,yac,ybl]at h2
  refine⟨z1++b'::z2,by rw[e2,e1];simp,zqz h1 h2 (ze2 ?_)⟩
  rcases ho with h|h|h
  .exact .inl h
  .exact .inr (.inl h)
  .exact .inr (.inr ⟨h.1,by rw[if_pos h.1];omega⟩)
 | @two d w b f r acc tb b' acc1 te e' acc2 t r' acc' ho hoo hd hb0 hb hf _ _ _ ih1 ih2 ih3 =>
  obtain⟨z1,e1,h1⟩:=ih1
  obtain⟨z2,e2,h2⟩:=ih2
  obtain⟨z3,e3,h3⟩:=ih3
  simp only[yab,yac,ybl]at h2 h3
  have k2:=zqz h2 h3 (w:=zar 12 acc2.length 0) (ze2 (.inr (.inl rfl)))
  have k1:=zqz h1 k2 (w:=zar 12 acc1.length 0) (ze2 (.inr (.inl rfl)))
  have en:∀(a b:Nat),ziW (zar 12 a 0::zar 12 b 0::r')=ziW (zar 13 a b::r'):=λa b=>by
   rw[zdv,zdv,zdv]
   have q1:=ze2 (op:=12) (o:=0) (b:=a) (.inr (.inl rfl))
   have q2:=ze2 (op:=12) (o:=0) (b:=b) (.inr (.inl rfl))
   have q3:zi (zar 13 a b)=[(a:Int),(b:Int)]:=by
    unfold zi zar
    simp only
    rw[if_neg (by omega),if_pos trivial]
   rw[q1,q2,q3]
   simp
  refine⟨z1++b'::(z2++e'::z3),by rw[e3,e2,e1];simp,⟨k1.len,?_,k1.rows,λn=>?_⟩⟩
  .rw[<-en];exact k1.names
  .rw[<-en];exact k1.once n
theorem zAt{ls:To}{row:List W}{acc':To}{toks:List Tok}{out:List W}(h:Pr ls 0 row [] toks out acc'):zcE (acc'++[out])=.ok ():=by
 obtain⟨z,e,h⟩:=zIB h
 simp only[ydo]at e
 subst e
 simp only[ybl]at h
 refine zvq (by simp) (λi r hi n hn=>?_) λi hi=>?_
 .by_cases c:i<acc'.length
  .rw[yat c]at hi
   obtain⟨j,rfl,hj⟩:=h.rows i r hi n hn
   exact⟨by omega,by omega⟩
  .have hl:i=acc'.length:=by
    have:=(yaq.1 hi).1
    simp at this
    omega
   subst hl
   simp only[yaI (yah _),Nat.sub_self,yeg,yaR.injEq]at hi
   subst hi
   obtain⟨j,rfl,hj⟩:=h.names n hn
   exact⟨by omega,by omega⟩
 .simp at hi
  rw[ze1,zo5,yee]
  have:=h.once i
  rw[if_pos (by omega)]at this
  omega
theorem zs7{w:W}(h:zbv w=false):zi w=[]:=by
 simp only[zbv,Bool.or_eq_false_iff,decide_eq_false_iff_not]at h
 unfold zi
 rw[if_neg (by omega),if_neg (by omega)]
theorem zvr{w:W}(h:w.op=11\/w.op=12\/w.op=13/\w.other<0):zi w=[w.body]:=by
 unfold zi
 rw[if_pos h]
theorem zvs{w:W}(h:w.op=13)(ho:0<=w.other):zi w=[w.body,w.other]:=by
 unfold zi
 rw[if_neg (by omega),if_pos h]
def gL(ls:To)(k:Nat):Nat:=(ls.getD k []).length
theorem zAu{B:Nat}{ls:To}(ha:zol ls){d:Nat}{ws:List W}{acc acc':To}{toks:List Tok}{out:List W}(h:PrB B ls d ws acc toks out acc'):
  out.length+zeh acc'=zeh acc+ws.length+zlu (ws.flatMap zi) (zon (gL ls) ls)/\acc'.length+2*zeh acc<=acc.length+2*(out.length+zeh acc'):=by
 have tot:∀{n:Int} {b:List W},ls[n.toNat]?=some b->zon (gL ls) ls n.toNat=b.length+zlu (b.flatMap zi) (zon (gL ls) ls):=λ{n b} hb=>by
  rw[zp1 (gL ls) ha hb]
  have:gL ls n.toNat=b.length:=by unfold gL;rw[ycZ,hb];rfl
  rw[this]
 induction h with
 | nil=>simp[zlu]
 | @leaf d w r acc t r' acc' hn hf hr _ ih =>
  rw[yaa,zs7 hn,ydo]
  simp only[yac]
  omega
 | @one d w b r acc tb b' acc1 t r' acc' ho hd hb0 hb p1 p2 ih1 ih2 =>
  have e:=tot hb
  rw[yaa,zvr ho,zgd]
  rw[zcO]at ih2
  have e2:zlu [w.body] (zon (gL ls) ls)=zon (gL ls) ls w.body.toNat:=by simp[zlu]
  rw[e2,e]
  simp only[yac,yab,ybl]at *
  omega
 | @two d w b e r acc tb b' acc1 te e' acc2 t r' acc' ho hoo hd hb0 hb he p1 p2 p3 ih1 ih2 ih3 =>
  have q1:=tot hb
  have q2:=tot he
  rw[yaa,zvs ho hoo,zgd]
  rw[zcO]at ih2 ih3
  have e2:zlu [w.body,w.other] (zon (gL ls) ls)=zon (gL ls) ls w.body.toNat+zon (gL ls) ls w.other.toNat:=by simp[zlu]
  rw[e2,q1,q2]
  simp only[yac,yab,ybl]at *
  omega
theorem zrZ:∀(ls:To) (k:Nat),k<=ls.length->zbX (gL ls) k=zg6 id (ls.take k)
 | ls,0,_=>by simp[zbX,zg6]
 | ls,k+1,h=>by
  rw[zbX,zrZ ls k (by omega),yc5 (by omega),zjV]
  have:gL ls k=ls[k].length:=by unfold gL;rw[ycZ,yau (by omega)];rfl
  rw[this]
  simp[zg6]
theorem zo6{B:Nat}{fs:List F}{f:F}(h:zn fs f=.ok ()){toks:List Tok}{ls':To}(hp:zIc B f toks ls'):zeh ls'=zg6 id f.lists/\ls'.length<=1+2*zg6 id f.lists/\(spT toks).length<=64*zg6 id f.lists:=by
 obtain⟨h0,ha,ht⟩:=zcT (zaJ h)
 obtain⟨row,out,acc,h1,h2,rfl⟩:=hp
 have e:=ht (gL f.lists)
 rw[zp1 (gL f.lists) ha h1,zrZ _ _ (yah _),List.take_length]at e
 have e1:gL f.lists (f.lists.length-1)=row.length:=by unfold gL;rw[ycZ,h1];rfl
 rw[e1]at e
 obtain⟨c1,c2⟩:=zAu ha h2
 have c3:=zIp h2
 have r0:zeh []=0:=rfl
 rw[r0]at c1 c2 c3
 rw[zcO]
 simp only[yab,yac,ybl]at *
 omega
theorem zkx{B:Nat}{gs:List F}:∀(fs:List F),(∀f∈fs,zn gs f=.ok ()/\RgL f.lists/\f.lists.length<=B/\f.name.length<=24/\f.params.length+f.locals.length+zg6 id f.lists<=3000) ->
  ∃toks fs2,PrFsB B fs toks fs2/\(spT toks).length<=200000*fs.length/\∀f'∈fs2,∃f∈fs,∃t ls',zIc B f t ls'/\f'={ f with lists:=ls' }/\zeh ls'<=3000/\ls'.length<=6001
 | [],_=>⟨[],[],.nil,by simp[spT],λf hf=>by cases hf⟩
 | f::fs,h=>by
  obtain⟨h1,h2,h3,h4,h5⟩:=h f (by simp)
  obtain⟨t1,ls',p1⟩:=zyT h1 h2 h3
  obtain⟨c1,c2,c3⟩:=zo6 h1 p1
  obtain⟨t2,fs2,q1,q2,q3⟩:=zkx fs λg hg=>h g (by simp[hg])
  refine⟨zdR f t1++t2,_,.cons p1 q1,?_,λf' hf'=>?_⟩
  .have e:zdR f t1=[zj,zap,36::f.name]++(zD zaW f.params++(zgq f.type++(zD zaf f.locals++(t1++[zd])))):=rfl
   have e1:(spT [zj,zap,36::f.name]).length=9+f.name.length:=by
    have:spT [zj,zap,36::f.name]=spT [zj,zap]++spT [36::f.name]:=by rw[<-zc];rfl
    rw[this,yab]
    have a:(spT [zj,zap]).length=7:=rfl
    have b:(spT [36::f.name]).length=f.name.length+2:=by simp[spT]
    omega
   have e2:=zfv zaW f.params (by decide)
   have e3:=zfv zaf f.locals (by decide)
   have e4:(spT (zgq f.type)).length<=20:=by
    unfold zgq zr
    split
    .decide
    .split<;>decide
   have e5:(spT [zd]).length=2:=rfl
   rw[zc,yab,e,zc,zc,zc,zc,zc]
   simp only[yab,yac]at *
   omega
  .rcases ybC.1 hf' with rfl|hf'
   .exact⟨f,by simp,t1,ls',p1,rfl,by omega,by omega⟩
   .obtain⟨g,hg,r⟩:=q3 f' hf'
    exact⟨g,by simp[hg],r⟩
end Go.Proofs.YtohfclafhegadaaGreatDoor
namespace Go.Proofs.YtohfclafhegadaaGreatDoor
open Go Go.Abs Go.Proofs.YtohfclafhegadaaGreatDoor.Ck
theorem zqA{fs:List F}{ls:List Int}{ty d:Int}{lk:zmP}{w:W}(hf:zT w=true)(hn:zbv w=false)(s:St):zV fs ls ty d lk (za9 w) s=zV fs ls ty d lk w s:=by
 obtain⟨op,t,n,body,other,name⟩:=w
 simp only[zbv,Bool.or_eq_false_iff,decide_eq_false_iff_not]at hn
 unfold zT at hf
 simp only at hf
 by_cases h1:op=1\/op=5
 .rw[if_pos h1]at hf
  rcases h1 with rfl|rfl<;>simp[zV,zT,zU,zcm,za9,zah]
 .rw[if_neg h1]at hf
  by_cases h4:op=4
  .subst h4
   simp[zV,zT,zU,zcm,za9,zah]
  .rw[if_neg h4]at hf
   by_cases h8:op=8\/op=9
   .rcases h8 with rfl|rfl<;>simp[zV,zT,zU,zcm,za9,zah]
   .rw[if_neg h8]at hf
    simp only[Bool.and_eq_true,decide_eq_true_eq]at hf
    rcases(show op=2\/op=3\/op=10\/op=14\/op=15\/op=6\/op=7\/op=16\/op=17\/op=18 by omega)with rfl|rfl|rfl|rfl|rfl|rfl|rfl|rfl|rfl|rfl<;>simp[zV,zT,zU,zcm,za9,zah]
def znl(op:Int)(rb:Res Unit)(ro:Option (Res Unit))(s:St):Res St :=
 if op=13 then(match zao [1] s with
  | .error e=>.error e
  | .ok s1=>match rb with
   | .error e=>.error e
   | .ok _=>match ro with
    | none=>.ok s1
    | some (.ok _)=>.ok s1
    | some (.error e)=>.error e)
 else match rb with
  | .ok _=>.ok s
  | .error e=>.error e
theorem zky{fs:List F}{ls:List Int}{ty d:Int}{lk:zmP}{w:W}(h:w.op=11\/w.op=12\/w.op=13)(s:St):zV fs ls ty d lk w s=znl w.op (lk w.body (d+1)) (if 0<=w.other then some (lk w.other (d+1))else none) s:=by
 have hf:zT w=true:=by
  unfold zT
  rw[if_neg (by omega),if_neg (by omega),if_neg (by omega)]
  simp;omega
 have hr:zU fs ls d w=true:=by
  unfold zU
  rw[if_neg (by omega),if_neg (by omega),if_neg (by omega),if_neg (by omega)]
 unfold zV znl
 rw[if_neg (by simp[hf]),if_neg (by simp[hr])]
 by_cases h13:w.op=13
 .rw[if_neg (by omega),if_pos h13,if_pos h13]
  cases zao [1] s with
  | error e=>rfl
  | ok s1 =>
   simp only
   cases lk w.body (d+1)with
   | error e=>rfl
   | ok u =>
    simp only
    by_cases ho:0<=w.other
    .rw[if_pos ho,if_pos ho]
     cases lk w.other (d+1)<;>rfl
    .rw[if_neg ho,if_neg ho]
 .rw[if_pos (by omega),if_neg h13]
  cases lk w.body (d+1)<;>rfl
theorem zhD{fs:List F}{ls:List Int}{ty d:Int}{lk:zmP}{w:W}(h:w.op=11\/w.op=12\/w.op=13/\w.other<0)(s:St):zV fs ls ty d lk w s=znl w.op (lk w.body (d+1)) none s:=by
 rw[zky (by omega)]
 by_cases h13:w.op=13
 .rw[if_neg (by omega)]
 .unfold znl
  rw[if_neg h13,if_neg h13]
theorem zhE{fs:List F}{ls:List Int}{ty d:Int}{lk:zmP}{w:W}(h:w.op=13)(ho:0<=w.other)(s:St):zV fs ls ty d lk w s=znl 13 (lk w.body (d+1)) (some (lk w.other (d+1))) s:=by
 rw[zky (by omega),if_pos ho,h]
theorem zfA{op:Int}{rb:Res Unit}{ro:Option (Res Unit)}{s s':St}(h:znl op rb ro s=.ok s'):rb=.ok ():=by
 unfold znl at h
 cases rb with
 | ok u=>rfl
 | error e =>
  split at h
  .split at h<;>cases h
  .cases h
theorem zkz{rb r:Res Unit}{s s':St}(h:znl 13 rb (some r) s=.ok s'):r=.ok ():=by
 unfold znl at h
 rw[if_pos rfl]at h
 cases r with
 | ok u=>rfl
 | error e =>
  split at h
  .cases h
  .split at h<;>cases h
theorem zc5{fs:List F}{ls:List Int}{ty d:Int}{lk:zmP}{w:W}{ws:List W}{s s':St}:zP fs ls ty d lk (w::ws) s=.ok s'↔∃s1,zV fs ls ty d lk w s=.ok s1/\zP fs ls ty d lk ws s1=.ok s':=by
 rw[zP]
 cases zV fs ls ty d lk w s with
 | error e=>exact⟨λh=>(by cases h),λ⟨_,h,_⟩=>(by cases h)⟩
 | ok s1=>exact⟨λh=>⟨s1,rfl,h⟩,λ⟨s2,h1,h2⟩=>(by cases h1;exact h2)⟩
theorem ziX{fs:List F}{ls:List Int}{ty:Int}{lists:To}{k:Nat}{a d:Int}:zaa fs ls ty lists (k+1) a d=.ok ()↔∃s,zP fs ls ty d (zaa fs ls ty lists k) (lists.getD a.toNat []) ⟨[],false⟩=.ok s/\zH2 ty d s=.ok ():=by
 rw[zaa]
 cases zP fs ls ty d (zaa fs ls ty lists k) (lists.getD a.toNat []) ⟨[],false⟩with
 | error e=>exact⟨λh=>(by cases h),λ⟨_,h,_⟩=>(by cases h)⟩
 | ok s1=>exact⟨λh=>⟨s1,rfl,h⟩,λ⟨s2,h1,h2⟩=>(by cases h1;exact h2)⟩
theorem zkA{ls:To}{i:Nat}{b:List W}(h:ls[i]?=some b):ls.getD i []=b:=by rw[ycZ,h];rfl
theorem zEr{fs:List F}{locs:List Int}{ty:Int}{ls fin:To}{d:Nat}{ws:List W}{acc acc':To}{toks:List Tok}{out:List W}(h:Pr ls d ws acc toks out acc'):acc'<+:fin->∀(k:Nat) (deep:Int) (s s':St),zP fs locs ty deep (zaa fs locs ty ls k) ws s=.ok s'->zP fs locs ty deep (zaa fs locs ty fin k) out s=.ok s':=by
 have key:∀{b b':List W} {acc1:To} {k:Nat} {deep:Int} {n:Int},ls[n.toNat]?=some b->acc1++[b']<+:fin->(∀(k:Nat) (deep:Int) (s s':St),zP fs locs ty deep (zaa fs locs ty ls k) b s=.ok s'->zP fs locs ty deep (zaa fs locs ty fin k) b' s=.ok s')->zaa fs locs ty ls k n deep=.ok ()->zaa fs locs ty fin k (acc1.length:Int) deep=.ok ():=by
  intro b b' acc1 k deep n hb hp ih hl
  cases k with
  | zero=>simp[zaa]at hl
  | succ k =>
   rw[ziX]at hl ⊢
   obtain⟨s,h1,h2⟩:=hl
   rw[zkA hb]at h1
   rw[ybe,zkA (zaz hp)]
   exact⟨s,ih k deep _ _ h1,h2⟩
 induction h with
 | nil=>intro _ k deep s s' h;exact h
 | leaf hn hf hr _ ih =>
  intro hp k deep s s' h
  rw[zc5]at h ⊢
  obtain⟨s1,h1,h2⟩:=h
  refine⟨s1,?_,ih hp k deep s1 s' h2⟩
  rw[zqA hf hn]
  unfold zV at h1 ⊢
  simp only[zbv,Bool.or_eq_false_iff,decide_eq_false_iff_not]at hn
  have n1:¬(_=_\/_=_):=not_or.2 ⟨hn.1.1,hn.1.2⟩
  rw[if_neg n1,if_neg hn.2]at h1 ⊢
  exact h1
 | @one d w b r acc tb b' acc1 t r' acc' ho hd hb0 hb p1 p2 ih1 ih2 =>
  intro hp k deep s s' h
  rw[zc5]at h ⊢
  obtain⟨s1,h1,h2⟩:=h
  refine⟨s1,?_,ih2 hp k deep s1 s' h2⟩
  rw[zhD ho]at h1
  have hv:(zar w.op acc1.length (if w.op=13 then -1 else 0)).op=11\/(zar w.op acc1.length (if w.op=13 then -1 else 0)).op=12\/(zar w.op acc1.length (if w.op=13 then -1 else 0)).op=13/\(zar w.op acc1.length (if w.op=13 then -1 else 0)).other<0:=by
   simp only[zar]
   rcases ho with e|e|e
   .exact .inl e
   .exact .inr (.inl e)
   .exact .inr (.inr ⟨e.1,by rw[if_pos e.1];omega⟩)
  rw[zhD hv]
  have q:=zfA h1
  have hp1:acc1++[b']<+:fin:=(zbf p2).trans hp
  have q2:=key hb hp1 (ih1 ((ydv _ _).trans hp1)) q
  simp only[zar]
  rw[q2]
  rw[q]at h1
  exact h1
 | @two d w b f r acc tb b' acc1 te e' acc2 t r' acc' ho hoo hd hb0 hb hf p1 p2 p3 ih1 ih2 ih3 =>
  intro hp k deep s s' h
  rw[zc5]at h ⊢
  obtain⟨s1,h1,h2⟩:=h
  refine⟨s1,?_,ih3 hp k deep s1 s' h2⟩
  rw[zhE ho hoo]at h1
  rw[zhE (w:=zar 13 acc1.length acc2.length) rfl (by simp only[zar];omega)]
  have q:=zfA h1
  have r1:=zkz h1
  have hp2:acc2++[e']<+:fin:=(zbf p3).trans hp
  have hp1:acc1++[b']<+:fin:=(zbf p2).trans ((ydv _ _).trans hp2)
  have q2:=key hb hp1 (ih1 ((ydv _ _).trans hp1)) q
  have q3:=key hf hp2 (ih2 ((ydv _ _).trans hp2)) r1
  simp only[zar]
  rw[q2,q3]
  rw[q,r1]at h1
  exact h1
end Go.Proofs.YtohfclafhegadaaGreatDoor
namespace Go.Proofs.YtohfclafhegadaaGreatDoor
open Go Go.Abs Go.Proofs.YtohfclafhegadaaGreatDoor.Ck
theorem zqB{fs:List F}{ls:List Int}{ty d:Int}{lk lk':zmP}{w:W}{s s':St}(hl:∀m∈zi w,lk m (d+1)=.ok ()->lk' m (d+1)=.ok ())(h:zV fs ls ty d lk w s=.ok s'):zV fs ls ty d lk' w s=.ok s':=by
 by_cases h2:w.op=13/\0<=w.other
 .have e:zi w=[w.body,w.other]:=by unfold zi;rw[if_neg (by omega),if_pos h2.1]
  rw[e]at hl
  rw[zhE h2.1 h2.2]at h ⊢
  have q:=zfA h
  have r:=zkz h
  rw[hl _ (by simp) q,hl _ (by simp) r]
  rw[q,r]at h
  exact h
 .by_cases h1:w.op=11\/w.op=12\/w.op=13/\w.other<0
  .have e:zi w=[w.body]:=by unfold zi;rw[if_pos h1]
   rw[e]at hl
   rw[zhD h1]at h ⊢
   have q:=zfA h
   rw[hl _ (by simp) q]
   rw[q]at h
   exact h
  .unfold zV at h ⊢
   rw[if_neg (show ¬(w.op=11\/w.op=12)by omega),if_neg (show ¬w.op=13 by omega)]at h ⊢
   exact h
theorem zig{fs:List F}{ls:List Int}{ty d:Int}{lk lk':zmP}:∀(ws:List W) (s s':St),(∀w∈ws,∀m∈zi w,lk m (d+1)=.ok ()->lk' m (d+1)=.ok ())->zP fs ls ty d lk ws s=.ok s'->zP fs ls ty d lk' ws s=.ok s'
 | [],s,s',_,h=>h
 | w::ws,s,s',hl,h=>by
  rw[zc5]at h ⊢
  obtain⟨s1,h1,h2⟩:=h
  exact⟨s1,zqB (hl w (by simp)) h1,zig ws s1 s' (λw hw=>hl w (by simp[hw])) h2⟩
theorem zlZ{fs:List F}{ls:List Int}{ty:Int}{lists:To}(ha:zol lists):∀(K2 K:Nat) (a d:Int),0<=a->a.toNat<K2->zaa fs ls ty lists K a d=.ok ()->zaa fs ls ty lists K2 a d=.ok ()
 | 0,_,a,d,_,h,_=>by omega
 | K2+1,0,a,d,_,_,h=>by simp[zaa]at h
 | K2+1,K+1,a,d,h0,h1,h=>by
  rw[ziX]at h ⊢
  obtain⟨s,h2,h3⟩:=h
  refine⟨s,zig _ _ _ (λw hw m hm hk=>?_) h2,h3⟩
  cases hr:lists[a.toNat]? with
  | none=>rw[ycZ,hr]at hw;simp at hw
  | some row =>
   rw[zkA hr]at hw
   have hq:=ha a.toNat row hr m (ydg.2 ⟨w,hw,hm⟩)
   exact zlZ ha K2 K m (d+1) hq.1 (by omega) hk
theorem zqC{fs fs':List F}(h:zbz fs'=zbz fs){ls:List Int}{ty d:Int}{lk:zmP}(w:W)(s:St):zV fs' ls ty d lk w s=zV fs ls ty d lk w s:=by
 have e1:zU fs' ls d w=zU fs ls d w:=by unfold zU;rw[h]
 have e2:zcm fs' ls w s=zcm fs ls w s:=by unfold zcm;rw[h]
 unfold zV
 rw[e1,e2]
theorem zih{fs fs':List F}(h:zbz fs'=zbz fs){ls:List Int}{ty d:Int}{lk:zmP}:∀(ws:List W) (s:St),zP fs' ls ty d lk ws s=zP fs ls ty d lk ws s
 | [],s=>rfl
 | w::ws,s=>by
  rw[zP,zP,zqC h]
  cases zV fs ls ty d lk w s with
  | error e=>rfl
  | ok s1=>exact zih h ws s1
theorem zl0{fs fs':List F}(h:zbz fs'=zbz fs){ls:List Int}{ty:Int}{lists:To}:∀(k:Nat),zaa fs' ls ty lists k=zaa fs ls ty lists k
 | 0=>rfl
 | k+1=>by
  funext a d
  rw[zaa,zaa,zl0 h k,zih h]
theorem zlc{fs fs':List F}(h:zbz fs'=zbz fs)(f:F):zn fs' f=zn fs f:=by
 unfold zn
 rw[zl0 h]
theorem zo7{fs:List F}{f:F}(h:zn fs f=.ok ()){toks:List Tok}{ls':To}(hp:PrF f toks ls'):zn fs { f with lists:=ls' }=.ok ():=by
 obtain⟨row,out,acc,h1,h2,rfl⟩:=hp
 have hl:=zaJ h
 have hl':=zAt h2
 obtain⟨_,ha',_⟩:=zcT hl'
 unfold zn at h ⊢
 split at h
 .cases h
 rename_i hb
 rw[if_neg hb]
 rw[hl]at h
 simp only at h ⊢
 rw[hl']
 simp only
 obtain⟨k,hk⟩:∃k,f.lists.length=k+1:=⟨f.lists.length-1,by have:=(yaq.1 h1).1;omega⟩
 have e:((f.lists.length:Int)-1).toNat=f.lists.length-1:=by omega
 rw[hk]at h
 rw[ziX]at h
 obtain⟨s,g1,g2⟩:=h
 rw[<-hk,e,zkA h1]at g1
 have g3:=zEr (fin:=acc++[out]) h2 (ydv _ _) k 0 _ _ g1
 have e2:(((acc++[out]).length:Int)-1)=(acc.length:Int):=by simp
 have g4:zaa fs (f.params++f.locals) f.type (acc++[out]) (k+1) (((acc++[out]).length:Int)-1) 0=.ok ():=by
  rw[ziX]
  refine⟨s,?_,g2⟩
  rw[e2,ybe,zkA (zaz (ydu _))]
  exact g3
 exact zlZ ha' _ _ _ _ (by rw[e2];omega) (by rw[e2];simp) g4
theorem ze3{fs:List F}:∀{r:List F},(∀f∈r,zn fs f=.ok ())->zY fs r=.ok ()
 | [],_=>rfl
 | f::r,h=>by
  rw[zY,h f (by simp)]
  exact ze3 λg hg=>h g (by simp[hg])
theorem znm{fs fs':List F}{toks:List Tok}(h:zpk fs toks fs'):fs'.length=fs.length/\∀(i:Nat) (f':F),fs'[i]?=some f'->∃f t ls',fs[i]?=some f/\PrF f t ls'/\f'={ f with lists:=ls' }:=by
 induction h with
 | nil=>exact⟨rfl,λi f' h=>by simp at h⟩
 | cons p _ ih =>
  refine⟨by simp[ih.1],λi f' h=>?_⟩
  cases i with
  | zero =>
   simp only[yeg,yaR.injEq]at h
   exact⟨_,_,_,rfl,p,h.symm⟩
  | succ i=>simpa using ih.2 i f' (by simpa using h)
theorem zvt{fs fs':List F}{toks:List Tok}(h:zpk fs toks fs'):zbz fs'=zbz fs:=by
 obtain⟨h1,h2⟩:=znm h
 have key:∀i:Nat,(fs'[i]?).map (λf=>(f.params,f.type))=(fs[i]?).map λf=>(f.params,f.type):=λi=>by
  cases hi:fs'[i]? with
  | none =>
   rw[yeh]at hi
   rw[yb2 (by omega)]
  | some f' =>
   obtain⟨f,t,ls',q1,q2,rfl⟩:=h2 i f' hi
   rw[q1];rfl
 funext n
 unfold zbz
 simp only[key]
theorem zvu{m:M}(h:za7 m=.ok ()){toks:List Tok}{fs':List F}(hp:zpk m.funcs toks fs'):za7 ⟨fs',m.memory,m.main⟩=.ok ():=by
 have hv:=zaZ h
 obtain⟨h1,h2⟩:=znm hp
 have hh:=zvt hp
 have hall:zY fs' fs'=.ok ():=ze3 λf' hf'=>by
  obtain⟨i,hi,e⟩:=ya9 hf'
  obtain⟨f,t,ls',q1,q2,q3⟩:=h2 i f' (by rw[yau hi,e])
  subst q3
  rw[zlc hh]
  exact zo7 (hv f (ydb q1)) q2
 have hm:zgL ⟨fs',m.memory,m.main⟩=zgL m:=by
  unfold zgL
  simp only
  cases hi:fs'[m.main.toNat]? with
  | none =>
   rw[yeh]at hi
   rw[yb2 (by omega)]
  | some f' =>
   obtain⟨f,t,ls',q1,q2,rfl⟩:=h2 _ f' hi
   rw[q1]
 unfold za7 at h ⊢
 split at h
 .cases h
 rename_i hb
 rw[if_neg hb]
 simp only
 rw[hall]
 simp only
 rw[hm]
 split at h
 .cases h
 .exact h
inductive EvR{α:Type}(f f':F):Ev α->Ev α->Prop
 | ok (a x r):r.fn=f->EvR f f' (.ok a x r) (.ok a x { r with fn:=f' })
 | over (s c x):EvR f f' (.over s c x) (.over s c x)
 | bad:EvR f f' .bad .bad
def Im(f f':F):Prop:=∃t ls',PrF f t ls'/\f'={ f with lists:=ls' }
def Lk(f f':F)(a a':Int):Prop:=∃d b acc toks b' acc1,0<=a/\f.lists[a.toNat]?=some b/\Pr f.lists d b acc toks b' acc1/\a'=acc1.length/\acc1++[b']<+:f'.lists
def zfW(rec rec':zgn):Prop:=∀(f f':F),Im f f'->∀(x:zaN) (r:Fr) (a a' deep:Int),r.fn=f->Lk f f' a a'->EvR f f' (rec x r a deep) (rec' x { r with fn:=f' } a' deep)
theorem Im.root{f f':F}(h:Im f f'):Lk f f' ((f.lists.length:Int)-1) ((f'.lists.length:Int)-1):=by
 obtain⟨t,ls',⟨row,out,acc,h1,h2,rfl⟩,rfl⟩:=h
 have hl:=(yaq.1 h1).1
 exact⟨0,row,[],t,out,acc,by omega,by rw[show((f.lists.length:Int)-1).toNat=f.lists.length-1 by omega];exact h1,h2,by simp,ydu _⟩
theorem Im.same{f f':F}(h:Im f f'):f'.type=f.type/\f'.locals=f.locals/\f'.params=f.params:=by
 obtain⟨_,_,_,rfl⟩:=h
 exact⟨rfl,rfl,rfl⟩
theorem zaV{α:Type}{R:Ev α->Ev α->Prop}(hb:R .bad .bad){g g':F}{r:Fr}(hr:r.fn=g){k k':Int->Fr->Ev α}(h:∀v r,r.fn=g->R (k v r) (k' v { r with fn:=g' })):R (zcp r k) (zcp { r with fn:=g' } k'):=by
 unfold zcp
 simp only
 cases r.stack.getLast? with
 | none=>exact hb
 | some v=>exact h v { r with stack:=r.stack.dropLast } hr
theorem zo8{α:Type}{f f':F}{x:zaN}{a n:Int}{k k':List UInt8->Ev α}(h:∀l,EvR f f' (k l) (k' l)):EvR f f' (zkp x a n k) (zkp x a n k'):=by
 unfold zkp
 split
 .exact .bad
 .split
  .exact .over ..
  .exact h _
theorem zo9{rec rec':zgn}(hs:zfW rec rec'){g g' f f':F}(hg:Im g g'){r:Fr}(hr:r.fn=f)(x:zaN)(args:List Int):EvR f f' (zcx rec x g args r) (zcx rec' x g' args { r with fn:=f' }):=by
 obtain⟨e1,e2,e3⟩:=hg.same
 unfold zcx
 rw[e1,e2]
 split
 .exact .over ..
 .have h:=hs g g' hg { x with calls:=x.calls+1 } ⟨g,args++yaj g.locals.length 0,[],0⟩ _ _ 0 rfl hg.root
  revert h
  generalize rec { x with calls:=x.calls+1 } ⟨g,args++yaj g.locals.length 0,[],0⟩ ((g.lists.length:Int)-1) 0=u
  generalize rec' { x with calls:=x.calls+1 } ⟨g',args++yaj g.locals.length 0,[],0⟩ ((g'.lists.length:Int)-1) 0=u'
  intro h
  cases h with
  | bad=>exact .bad
  | over s c x=>exact .over ..
  | ok o x1 r1 h1 =>
   simp only
   split
   .exact zaV .bad h1 λv r2 _=>.ok _ _ _ hr
   .exact .ok _ _ _ hr
section
variable {fs fs' : List F} {rec rec' : zgn} {f f' : F}
def Ims(fs fs':List F):Prop:=fs'.length=fs.length/\∀(i:Nat) (g:F),fs[i]?=some g->∃g',fs'[i]?=some g'/\Im g g'
theorem zqD(hs:zfW rec rec')(hf:Ims fs fs'){r:Fr}(hr:r.fn=f)(x:zaN)(n:Int):EvR f f' (zav fs rec x r n) (zav fs' rec' x { r with fn:=f' } n):=by
 unfold zav
 split
 .cases x.input with
  | nil=>exact .ok () x (r.push 0) hr
  | cons v l=>exact .ok () _ (r.push v) hr
 .split
  .exact zaV .bad hr λv r2 h2=>.ok _ _ _ h2
  .split
   .exact zaV .bad hr λv r2 h2=>.over ..
   .split
    .exact .bad
    .cases hg:fs[(n-3).toNat]? with
     | none =>
      rw[yeh]at hg
      rw[yb2 (by rw[hf.1];exact hg)]
      exact .bad
     | some g =>
      obtain⟨g',hg',im⟩:=hf.2 _ g hg
      rw[hg']
      obtain⟨e1,e2,e3⟩:=im.same
      simp only
      rw[e1,e3]
      split
      .exact .bad
      .have h:=zo9 (f:=f) (f':=f') hs im (r:={ r with stack:=r.stack.take (r.stack.length-g.params.length) }) hr x (r.stack.drop (r.stack.length-g.params.length))
       revert h
       generalize zcx rec x g (r.stack.drop (r.stack.length-g.params.length)) { r with stack:=r.stack.take (r.stack.length-g.params.length) }=u
       generalize hu':zcx rec' x g' (r.stack.drop (r.stack.length-g.params.length)) { { r with stack:=r.stack.take (r.stack.length-g.params.length) }with fn:=f' }=u'
       intro h
       cases h with
       | bad=>exact .bad
       | over s c x=>exact .over ..
       | ok v x1 r1 h1 =>
        simp only
        split
        .exact .ok _ _ (r1.push v) h1
        .exact .ok _ _ r1 h1
theorem zvv(hs:zfW rec rec')(hf:Ims fs fs'){r:Fr}(hr:r.fn=f)(x:zaN){w:W}(hw:zT w=true)(hn:zbv w=false):EvR f f' (zaw fs rec w x r) (zaw fs' rec' (za9 w) x { r with fn:=f' }):=by
 obtain⟨op,t,n,body,other,name⟩:=w
 simp only[zbv,Bool.or_eq_false_iff,decide_eq_false_iff_not]at hn
 have hop:1<=op/\op<=18:=by
  unfold zT at hw
  simp only at hw
  split at hw
  .omega
  .split at hw
   .omega
   .split at hw
    .omega
    .simpa using hw
 rcases(show op=1\/op=2\/op=3\/op=4\/op=5\/op=6\/op=7\/op=8\/op=9\/op=10\/op=14\/op=15\/op=16\/op=17\/op=18 by omega)with rfl|rfl|rfl|rfl|rfl|rfl|rfl|rfl|rfl|rfl|rfl|rfl|rfl|rfl|rfl<;>simp[zaw,za9,zah]
 .exact .ok _ _ (r.push n) hr
 .split
  .exact .bad
  .cases r.locals[n.toNat]? with
   | none=>exact .bad
   | some v=>exact .ok _ _ (r.push v) hr
 .split
  .exact .bad
  .exact zaV .bad hr λv r2 h2=>.ok _ _ { r2 with locals:=r2.locals.set n.toNat v } h2
 .refine zaV .bad hr λb r2 h2=>zaV .bad h2 λa r3 h3=>?_
  split
  .exact .ok _ _ (r3.push _) h3
  .exact .over ..
 .exact zaV .bad hr λv r2 h2=>.ok _ _ (r2.push _) h2
 .exact zaV .bad hr λv r2 h2=>.ok _ _ (r2.push _) h2
 .exact .ok _ _ r hr
 .exact zaV .bad hr λa r2 h2=>zo8 λl=>.ok _ _ (r2.push _) h2
 .exact zaV .bad hr λv r2 h2=>zaV .bad h2 λa r3 h3=>zo8 λl=>.ok _ _ r3 h3
 .exact zqD hs hf hr x n
 .exact .ok _ _ r hr
 .exact .ok _ _ r hr
 .exact .ok _ _ r hr
 .exact .over ..
 .exact zaV .bad hr λv r2 h2=>.ok _ _ r2 h2
theorem zEs(im:Im f f'){r:Fr}(hr:r.fn=f)(x:zaN)(deep:Int){w:W}(hop:w.op=14\/w.op=15\/w.op=16):EvR f f' (ziu w deep x r) (ziu (za9 w) deep x { r with fn:=f' }):=by
 obtain⟨e1,_,_⟩:=im.same
 have go:∀(n:Int) (r:Fr),r.fn=f->EvR f f' (if n=deep/\r.fn.type≠0 then zcp r λv r=>Ev.ok n x { r with result:=v }else .ok n x r) (if n=deep/\f'.type≠0 then zcp { r with fn:=f' } λv r=>Ev.ok n x { r with result:=v }else .ok n x { r with fn:=f' }):=λn r hr=>by
  rw[e1,hr]
  split
  .exact zaV .bad hr λv r2 h2=>.ok _ _ { r2 with result:=v } h2
  .exact .ok _ _ r hr
 obtain⟨op,t,n,body,other,name⟩:=w
 simp only at hop
 rcases hop with rfl|rfl|rfl
 .have:=go n r hr
  simpa [ziu,za9,zah]using this
 .have:=zaV (R:=EvR f f') .bad hr (k:=λc r=>if c=0 then Ev.ok (-1) x r else(if n=deep/\r.fn.type≠0 then zcp r λv r=>Ev.ok n x { r with result:=v }else .ok n x r))
   (k':=λc r=>if c=0 then Ev.ok (-1) x r else(if n=deep/\r.fn.type≠0 then zcp r λv r=>Ev.ok n x { r with result:=v }else .ok n x r)) λc r2 h2=>by
    simp only
    split
    .exact .ok _ _ r2 h2
    .exact go n r2 h2
  simpa [ziu,za9,zah]using this
 .have:=go deep r hr
  simpa [ziu,za9,zah]using this
theorem zr0(hs:zfW rec rec')(im:Im f f'){a a':Int}(hl:Lk f f' a a')(b:Bool)(deep:Int):∀(j:Nat) (x:zaN) (r:Fr),r.fn=f->EvR f f' (zcX rec b a deep j x r) (zcX rec' b a' deep j x { r with fn:=f' })
 | 0,x,r,hr=>.bad
 | j+1,x,r,hr=>by
  rw[zcX,zcX]
  have h:=hs f f' im x r a a' deep hr hl
  revert h
  generalize rec x r a deep=u
  generalize rec' x { r with fn:=f' } a' deep=u'
  intro h
  cases h with
  | bad=>exact .bad
  | over s c x=>exact .over ..
  | ok o x1 r1 h1 =>
   simp only
   split
   .exact zr0 hs im hl b deep j x1 r1 h1
   .exact .ok _ _ r1 h1
end
section
variable {fs fs' : List F} {rec rec' : zgn} {f f' : F}
theorem zvw(hs:zfW rec rec')(im:Im f f'){a a':Int}(h:(a<0/\a'<0)\/Lk f f' a a')(b:Bool)(deep:Int)(k:Nat)(x:zaN){r:Fr}(hr:r.fn=f):
  EvR f f' (if a<0 then Ev.ok (-1) x r else zcX rec b a deep k x r) (if a'<0 then Ev.ok (-1) x { r with fn:=f' }else zcX rec' b a' deep k x { r with fn:=f' }):=by
 rcases h with ⟨h1,h2⟩|h
 .rw[if_pos h1,if_pos h2]
  exact .ok _ _ r hr
 .have h1:¬a<0:=by obtain⟨_,_,_,_,_,_,h1,_⟩:=h;omega
  have h2:¬a'<0:=by obtain⟨_,_,_,_,_,_,_,_,_,h2,_⟩:=h;omega
  rw[if_neg h1,if_neg h2]
  exact zr0 hs im h b deep k x r hr
theorem zs8(hs:zfW rec rec')(im:Im f f'){w w':W}(ho:w'.op=w.op)(hb:Lk f f' w.body w'.body)(hoth:w.op=13->(w.other<0/\w'.other<0)\/Lk f f' w.other w'.other)(k:Nat)(deep:Int)(x:zaN){r:Fr}(hr:r.fn=f):
  EvR f f' (za5 rec k w deep x r) (za5 rec' k w' deep x { r with fn:=f' }):=by
 unfold za5
 simp only[ho]
 by_cases h13:w.op=13
 .rw[if_pos h13,if_pos h13]
  refine zaV (R:=EvR f f') .bad hr λc r2 h2=>?_
  by_cases hc:c=0
  .simp only[hc,if_true]
   exact zvw hs im (hoth h13) _ deep k x h2
  .simp only[hc,if_false]
   exact zvw hs im (.inr hb) _ deep k x h2
 .rw[if_neg h13,if_neg h13]
  exact zvw hs im (.inr hb) _ deep k x hr
theorem zvx(hs:zfW rec rec')(hf:Ims fs fs')(im:Im f f'){w:W}(hw:zT w=true)(hn:zbv w=false)(k:Nat)(deep:Int)(x:zaN){r:Fr}(hr:r.fn=f):EvR f f' (zcy fs rec k deep w x r) (zcy fs' rec' k deep (za9 w) x { r with fn:=f' }):=by
 have hn':=hn
 simp only[zbv,Bool.or_eq_false_iff,decide_eq_false_iff_not]at hn'
 have e:(za9 w).op=w.op:=rfl
 unfold zcy
 rw[e,if_neg (show ¬(w.op=11\/w.op=12\/w.op=13)by omega),if_neg (show ¬(w.op=11\/w.op=12\/w.op=13)by omega)]
 by_cases ho:w.op=14\/w.op=15\/w.op=16
 .rw[if_pos ho,if_pos ho]
  exact zEs im hr x deep ho
 .rw[if_neg ho,if_neg ho]
  have h:=zvv (f:=f) (f':=f') hs hf hr x hw hn
  revert h
  generalize zaw fs rec w x r=u
  generalize zaw fs' rec' (za9 w) x { r with fn:=f' }=u'
  intro h
  cases h with
  | bad=>exact .bad
  | over s c x=>exact .over ..
  | ok v x1 r1 h1=>exact .ok _ _ r1 h1
theorem zpa(hs:zfW rec rec')(im:Im f f'){w w':W}(hw:w.op=11\/w.op=12\/w.op=13)(ho:w'.op=w.op)(hb:Lk f f' w.body w'.body)(hoth:w.op=13->(w.other<0/\w'.other<0)\/Lk f f' w.other w'.other)(k:Nat)(deep:Int)(x:zaN){r:Fr}(hr:r.fn=f):
  EvR f f' (zcy fs rec k deep w x r) (zcy fs' rec' k deep w' x { r with fn:=f' }):=by
 unfold zcy
 rw[ho,if_pos hw,if_pos hw]
 exact zs8 hs im ho hb hoth k _ x hr
theorem znn{w w':W}{ws out:List W}{k:Nat}{deep:Int}{height:Nat}(hw:∀(x:zaN) (r:Fr),r.fn=f->EvR f f' (zcy fs rec k deep w x r) (zcy fs' rec' k deep w' x { r with fn:=f' }))
  (ih:∀(x:zaN) (r:Fr),r.fn=f->EvR f f' (zaL fs rec k deep height ws x r) (zaL fs' rec' k deep height out x { r with fn:=f' })) (x:zaN) {r:Fr} (hr:r.fn=f) :
  EvR f f' (zaL fs rec k deep height (w::ws) x r) (zaL fs' rec' k deep height (w'::out) x { r with fn:=f' }):=by
 rw[zaL,zaL]
 by_cases hx:x.steps<1
 .rw[if_pos hx,if_pos hx]
  exact .over ..
 .rw[if_neg hx,if_neg hx]
  have h:=hw { x with steps:=x.steps-1 } r hr
  revert h
  generalize zcy fs rec k deep w { x with steps:=x.steps-1 } r=u
  generalize zcy fs' rec' k deep w' { x with steps:=x.steps-1 } { r with fn:=f' }=u'
  intro h
  cases h with
  | bad=>exact .bad
  | over s c x=>exact .over ..
  | ok o x1 r1 h1 =>
   simp only
   split
   .exact ih x1 r1 h1
   .split
    .exact .bad
    .exact .ok _ _ { r1 with stack:=r1.stack.take height } h1
theorem zs9(hs:zfW rec rec')(hf:Ims fs fs')(im:Im f f'){d:Nat}{ws:List W}{acc acc':To}{toks:List Tok}{out:List W}(h:Pr f.lists d ws acc toks out acc'):acc'<+:f'.lists->∀(k:Nat) (deep:Int) (height:Nat) (x:zaN) (r:Fr),r.fn=f ->
  EvR f f' (zaL fs rec k deep height ws x r) (zaL fs' rec' k deep height out x { r with fn:=f' }):=by
 generalize hls:f.lists=ls at h
 induction h with
 | nil=>intro _ k deep height x r hr;exact .ok _ _ r hr
 | leaf hn hw hrg _ ih =>
  intro hp k deep height x r hr
  exact znn (λx r hr=>zvx hs hf im hw hn k deep x hr) (λx r hr=>ih hp k deep height x r hr) x hr
 | @one d w b r0 acc tb b' acc1 t r' acc' ho hd hb0 hb p1 p2 ih1 ih2 =>
  intro hp k deep height x r hr
  have hp1:acc1++[b']<+:f'.lists:=(zbf p2).trans hp
  have hlk:Lk f f' w.body (acc1.length:Int):=⟨d+1,b,acc,tb,b',acc1,hb0,by rw[hls];exact hb,by rw[hls];exact p1,rfl,hp1⟩
  have hop:w.op=11\/w.op=12\/w.op=13:=by omega
  refine znn (λx r hr=>zpa (w':=zar w.op acc1.length (if w.op=13 then -1 else 0)) hs im hop rfl (by simpa [zar]using hlk) (λh13=>?_) k deep x hr) (λx r hr=>ih2 hp k deep height x r hr) x hr
  rcases ho with e|e|e
  .omega
  .omega
  .exact .inl ⟨e.2,by simp[zar,e.1]⟩
 | @two d w b e0 r0 acc tb b' acc1 te e' acc2 t r' acc' ho hoo hd hb0 hb hf0 p1 p2 p3 ih1 ih2 ih3 =>
  intro hp k deep height x r hr
  have hp2:acc2++[e']<+:f'.lists:=(zbf p3).trans hp
  have hp1:acc1++[b']<+:f'.lists:=(zbf p2).trans ((ydv _ _).trans hp2)
  have hlk:Lk f f' w.body (acc1.length:Int):=⟨d+1,b,acc,tb,b',acc1,hb0,by rw[hls];exact hb,by rw[hls];exact p1,rfl,hp1⟩
  have hlk2:Lk f f' w.other (acc2.length:Int):=⟨d+1,e0,_,te,e',acc2,hoo,by rw[hls];exact hf0,by rw[hls];exact p2,rfl,hp2⟩
  exact znn (λx r hr=>zpa hs im (.inr (.inr ho)) (by simp[zar,ho]) (by simpa [zar]using hlk) (λ_=>.inr (by simpa [zar]using hlk2)) k deep x hr) (λx r hr=>ih3 hp k deep height x r hr) x hr
end
theorem zr1{fs fs':List F}(hf:Ims fs fs'):∀k,zfW (znh fs k) (znh fs' k)
 | 0=>λ_ _ _ _ _ _ _ _ _ _=>.bad
 | k+1=>λf f' im x r a a' deep hr hl=>by
  obtain⟨d,b,acc,toks,b',acc1,h0,h1,h2,rfl,h3⟩:=hl
  rw[znh,znh,if_neg (by omega),if_neg (by omega),hr,h1,ybe,zaz h3]
  simp only
  exact zs9 (zr1 hf k) hf im h2 ((ydv _ _).trans h3) k deep r.stack.length x r hr
theorem zAv{fs fs':List F}{toks:List Tok}(h:zpk fs toks fs'):Ims fs fs':=by
 obtain⟨h1,h2⟩:=znm h
 refine⟨h1,λi g hg=>?_⟩
 have hi:=(yaq.1 hg).1
 have h3:fs'[i]?=some (fs'[i]'(by omega)):=yau _
 obtain⟨f,t,ls',q1,q2,q3⟩:=h2 i _ h3
 obtain rfl:=yaR.inj (hg.symm.trans q1)
 exact⟨_,h3,t,ls',q2,q3⟩
theorem zEt{m:M}{toks:List Tok}{fs':List F}(h:zpk m.funcs toks fs')(input:List Int)(steps:Int)(k:Nat):ztr ⟨fs',m.memory,m.main⟩ input steps k=ztr m input steps k:=by
 have hf:=zAv h
 unfold ztr
 simp only
 by_cases hm:m.main<0
 .rw[if_pos hm,if_pos hm]
 .rw[if_neg hm,if_neg hm]
  cases hg:m.funcs[m.main.toNat]? with
  | none =>
   rw[yeh]at hg
   rw[yb2 (by rw[hf.1];exact hg)]
  | some g =>
   obtain⟨g',hg',im⟩:=hf.2 _ g hg
   rw[hg']
   simp only
   have q:=zo9 (f:=g) (f':=g') (zr1 hf k) im (r:=⟨g,[],[],0⟩) rfl ⟨input,steps,yaj m.memory.toNat 0,[],0⟩ []
   revert q
   generalize zcx (znh m.funcs k) ⟨input,steps,yaj m.memory.toNat 0,[],0⟩ g [] ⟨g,[],[],0⟩=u
   generalize hu:zcx (znh fs' k) ⟨input,steps,yaj m.memory.toNat 0,[],0⟩ g' [] ⟨g',[],[],0⟩=u'
   intro q
   cases q with
   | bad=>rfl
   | over s c x=>rfl
   | ok v x r _=>rfl
end Go.Proofs.YtohfclafhegadaaGreatDoor




namespace Go.Proofs.YtohfclafhegadaaGreatDoor
open Go Go.Abs
theorem zvy{w:W}(hf:zT w=true)(hn:zbv w=false):zT (za9 w)=true/\zcd (za9 w)=zcd w/\za9 (za9 w)=za9 w:=by
 obtain⟨op,ty,n,body,other,name⟩:=w
 simp only[zbv,Bool.or_eq_false_iff,decide_eq_false_iff_not]at hn
 by_cases h1:op=1\/op=5
 .rcases h1 with rfl|rfl<;>simpa [zT,zcd,zp,za9,zah]using hf
 .by_cases h4:op=4
  .subst h4
   simpa [zT,zcd,zp,za9,zah]using hf
  .by_cases h8:op=8\/op=9
   .rcases h8 with rfl|rfl<;>simpa [zT,zcd,zp,za9,zah]using hf
   .have hf':=hf
    unfold zT at hf'
    simp only at hf'
    rw[if_neg h1,if_neg h4,if_neg h8]at hf'
    simp only[Bool.and_eq_true,decide_eq_true_eq]at hf'
    rcases(show op=2\/op=3\/op=10\/op=14\/op=15\/op=6\/op=7\/op=16\/op=17\/op=18 by omega)with rfl|rfl|rfl|rfl|rfl|rfl|rfl|rfl|rfl|rfl<;>simp[zT,zcd,zp,za9,zah]
theorem zvz{w:W}(h:RgW w):RgW (za9 w):=by
 have h1:=h.1
 have h2:=h.2
 unfold RgW za9
 simp only
 split
 .exact h
 .omega
theorem zEu{ls fin:To}{d:Nat}{ws:List W}{acc acc':To}{toks:List Tok}{out:List W}(h:Pr ls d ws acc toks out acc'):acc'<+:fin->Pr fin d out acc toks out acc':=by
 induction h with
 | nil d acc=>intro _;exact .nil d acc
 | leaf hn hf hr _ ih =>
  intro hp
  obtain⟨e1,e2,e3⟩:=zvy hf hn
  have q:=PrB.leaf (w:=za9 _) hn e1 (zvz hr) (ih hp)
  rw[e2,e3]at q
  exact q
 | @one d w b r acc tb b' acc1 t r' acc' ho hd hb0 hb p1 p2 ih1 ih2 =>
  intro hp
  have hp1:acc1++[b']<+:fin:=(zbf p2).trans hp
  have hv:(zar w.op acc1.length (if w.op=13 then -1 else 0)).op=11\/(zar w.op acc1.length (if w.op=13 then -1 else 0)).op=12\/(zar w.op acc1.length (if w.op=13 then -1 else 0)).op=13/\(zar w.op acc1.length (if w.op=13 then -1 else 0)).other<0:=by
   simp only[zar]
   rcases ho with e|e|e
   .exact .inl e
   .exact .inr (.inl e)
   .exact .inr (.inr ⟨e.1,by rw[if_pos e.1];omega⟩)
  exact PrB.one (w:=zar w.op acc1.length (if w.op=13 then -1 else 0)) hv hd (by simp[zar]) (by simpa [zar]using zaz hp1) (ih1 ((ydv _ _).trans hp1)) (ih2 hp)
 | @two d w b f r acc tb b' acc1 te e' acc2 t r' acc' ho hoo hd hb0 hb hf p1 p2 p3 ih1 ih2 ih3 =>
  intro hp
  have hp2:acc2++[e']<+:fin:=(zbf p3).trans hp
  have hp1:acc1++[b']<+:fin:=(zbf p2).trans ((ydv _ _).trans hp2)
  exact PrB.two (w:=zar 13 acc1.length acc2.length) rfl (by simp[zar]) hd (by simp[zar]) (by simpa [zar]using zaz hp1) (by simpa [zar]using zaz hp2) (ih1 ((ydv _ _).trans hp1)) (ih2 ((ydv _ _).trans hp2)) (ih3 hp)
theorem zAw{f:F}{toks:List Tok}{ls':To}(h:PrF f toks ls'):PrF { f with lists:=ls' } toks ls':=by
 obtain⟨row,out,acc,h1,h2,rfl⟩:=h
 exact⟨out,out,acc,by simp,zEu h2 (ydv _ _),rfl⟩
theorem zvA{fs fs':List F}{toks:List Tok}(h:zpk fs toks fs'):zpk fs' toks fs':=by
 induction h with
 | nil=>exact .nil
 | cons p _ ih=>exact .cons (zAw p) ih
theorem zIC{gs:List F}{f:F}(h:zn gs f=.ok ())(ht:zeg 24 f.name=true):Pf 24 f:=by
 unfold zn at h
 split at h
 .cases h
 rename_i hb
 simp only[Bool.not_eq_false,Bool.and_eq_true,List.all_append,decide_eq_true_eq]at hb
 obtain⟨⟨⟨h1,h2⟩,h3⟩,h4⟩:=hb
 have key:∀l:List Int,l.all zac=true->∀t∈l,t=1\/t=2:=λl hl x hx=>by
  have:=yaM.1 hl x hx
  simpa only[zac,Bool.or_eq_true,decide_eq_true_eq]using this
 exact⟨ht,key _ h1,key _ h2,by omega⟩
theorem zno{t:List UInt8}(h:zeg 24 t=true):t.length<=24:=by
 rw[zum]at h
 simp only[Bool.and_eq_true,decide_eq_true_eq]at h
 exact h.1.2
theorem znp(m:M)(toks:List Tok)(h1:-(2^63)<=m.memory)(h2:m.memory<2^63):(zgg (zbZ m toks)).length<=(spT toks).length+400:=by
 have hw:=(zcw (m.main+3)).1
 have i1:=Lib.itoa_length_le m.memory (by omega) (by omega)
 have i2:=Lib.itoa_length_le (yb4 .i64 (m.main+3)) (by omega) (by omega)
 have hh:za3.length=185:=by rfl
 have e1:(spT [Lib.itoa m.memory,zd,zd]).length=(Lib.itoa m.memory).length+5:=by simp[spT,zd]
 have e2:(spT [zj,zbe,zeK,zj,zap,Lib.itoa (yb4 .i64 (m.main+3)),zd,zd,zd]).length<=(Lib.itoa (yb4 .i64 (m.main+3))).length+60:=by
  simp[spT,zd,zj,zbe,zeK,zap]
 rw[zhB]
 simp only[yab,yac,ybl]
 omega
theorem zvB(op b o:Int):RgW { op:=op,ty:=0,n:=0,body:=b,other:=o,name:=[] }:=⟨by simp,by simp⟩
theorem zkB{acc:To}{b:List W}(h1:∀l∈acc,∀w∈l,RgW w)(h2:∀w∈b,RgW w):∀l∈acc++[b],∀w∈l,RgW w:=λl hl=>by
 rcases ybh.1 hl with hl|hl
 .exact h1 l hl
 .simp at hl;subst hl;exact h2
theorem zqE{w:W}{l:List W}(h1:RgW w)(h2:∀w∈l,RgW w):∀v∈w::l,RgW v:=λv hv=>by
 rcases ybC.1 hv with rfl|hv
 .exact h1
 .exact h2 v hv
theorem zID{ls:To}{d:Nat}{ws:List W}{acc acc':To}{toks:List Tok}{out:List W}(h:Pr ls d ws acc toks out acc'):(∀l∈acc,∀w∈l,RgW w)->(∀w∈out,RgW w)/\∀l∈acc',∀w∈l,RgW w:=by
 induction h with
 | nil=>exact λh=>⟨by simp,h⟩
 | leaf hn hf hr _ ih =>
  intro h
  obtain⟨a,b⟩:=ih h
  exact⟨zqE (zvz hr) a,b⟩
 | one _ _ _ _ _ _ ih1 ih2 =>
  intro h
  obtain⟨a1,b1⟩:=ih1 h
  obtain⟨a2,b2⟩:=ih2 (zkB b1 a1)
  exact⟨zqE (zvB ..) a2,b2⟩
 | two _ _ _ _ _ _ _ _ _ ih1 ih2 ih3 =>
  intro h
  obtain⟨a1,b1⟩:=ih1 h
  obtain⟨a2,b2⟩:=ih2 (zkB b1 a1)
  obtain⟨a3,b3⟩:=ih3 (zkB b2 a2)
  exact⟨zqE (zvB ..) a3,b3⟩
theorem zkC{l:List W}:∀{ls:To},l∈ls->l.length<=zeh ls
 | x::ls,h=>by
  simp only[zeh,yaL,List.sum_cons]
  rcases ybC.1 h with rfl|h
  .omega
  .have:=zkC h
   simp only[zeh]at this
   omega
structure zvC(f:F):Prop where
 params:f.params.length<=3000
 locals:f.locals.length<=3000
 lists:f.lists.length<=6001
 rows:∀l∈f.lists,l.length<=3000
 rg:∀l∈f.lists,∀w∈l,RgW w
 pf:Pf 24 f
theorem zvD{m:M}(hF:Few m)(hrg:∀f∈m.funcs,RgL f.lists)(h4:∀f∈m.funcs,f.lists.length<=400):∃toks fs2,zpk m.funcs toks fs2/\(spT toks).length<=8000000/\(∀f∈m.funcs,zvC f)/\fs2.length<=40/\∀f∈fs2,zvC f:=by
 have hfn:=zaZ hF.good
 have key:∀f∈m.funcs,zvC f:=λf hf=>by
  obtain⟨e1,e2⟩:=hF.each f hf
  have h400:=h4 f hf
  exact⟨by omega,by omega,by omega,λl hl=>by have:=zyR hl;omega,hrg f hf,zIC (hfn f hf) e2⟩
 obtain⟨toks,fs2,h1,h2,h3⟩:=zkx (gs:=m.funcs) m.funcs λf hf=>⟨hfn f hf,hrg f hf,h4 f hf,zno (hF.each f hf).2,by have:=(hF.each f hf).1;omega⟩
 have hl:=(znm h1).1
 have h40:=hF.funcs
 refine⟨toks,fs2,h1,by omega,key,by omega,λf' hf'=>?_⟩
 obtain⟨f,hf,t,ls',p,rfl,r1,r2⟩:=h3 f' hf'
 have k:=key f hf
 obtain⟨row,out,acc,q1,q2,rfl⟩:=p
 obtain⟨g1,g2⟩:=zID q2 (λl hl=>by cases hl)
 exact⟨k.params,k.locals,r2,λl hl=>yai (zkC hl) r1,zkB g2 g1,⟨k.pf.name,k.pf.params,k.pf.locals,k.pf.type⟩⟩
theorem zvE{fs:List F}(h:∀f∈fs,zvC f):zts fs:=λf hf=>by
 obtain⟨h1,h2,h3,h4,h5,_⟩:=h f hf
 exact⟨by omega,by omega,by omega,λl hl=>by have:=h4 l hl;omega,λl hl w hw=>by have:=(h5 l hl w hw).2;omega⟩
theorem zta{m:M}(hl:m.funcs.length<=40)(h:∀f∈m.funcs,zvC f):zsB m :=
 ⟨by omega,λf hf=>by have:=(h f hf).params;omega,λf hf=>by have:=(h f hf).locals;omega,λf hf=>by have:=(h f hf).lists;omega,λf hf l hl=>by have:=(h f hf).rows l hl;omega,λf hf l hl w hw=>by have:=((h f hf).rg l hl w hw).2;omega⟩
section
variable {G : Env} {J : AS} {R : Out -> AS -> Prop}
theorem zIE{n k:Int}(hn:-(2^63)<=n/\n<2^63)(hk:1<=k/\k<=2^40)(h:∀r,0<=r->r<k->R (.ret (.int .i64 r)) J):zzQ G 26 [.int .i64 n,.int .i64 k] J R:=by
 refine zCY rfl ?_
 have h1:¬k<1:=by omega
 have h0:¬k=0:=by omega
 have t1:=yei n (show 0<k by omega)
 have t2:-k<n.tmod k:=by
  have:=yei (-n) (show 0<k by omega)
  rw[Int.neg_tmod]at this
  omega
 have w1:yb4 .i64 (n.tmod k)=n.tmod k:=by rw[wrap_i64]<;>omega
 by_cases hneg:n.tmod k<0
 .have w2:yb4 .i64 (n.tmod k+k)=n.tmod k+k:=by rw[wrap_i64]<;>omega
  simp[zKV,h1,h0,w1,hneg,w2]
  exact h _ (by omega) (by omega)
 .simp[zKV,h1,h0,w1,hneg]
  exact h _ (by omega) (by omega)
theorem zvF{va vb:AV}{p:List Int}{s c:Int}(ha:zaq va p)(hb:zaq vb p)(hl:p.length<=2^40)(h:∀J',zb J J'->R (.ret (.bool true)) J'):
  zzQ G 27 [.agg [va,.int .i64 s,.int .i64 c],.agg [vb,.int .i64 s,.int .i64 c]] J R:=by
 refine zCZ rfl ?_
 have a1:=ha.one
 have b1:=hb.one
 have A:zb J ((J.newO [va,.int .i64 s,.int .i64 c]).newO [vb,.int .i64 s,.int .i64 c]):=(zb.refl J).newO.newO
 have k:=h _ A
 simp[zLF,a1,b1]
 refine zla ha hb hl ?_
 simp
 exact k
end
def zel(p:List UInt8 × W):AV:=.agg (.str p.1::p.2.cs)
section
variable {G : Env} {J : AS} {R : Out -> AS -> Prop}
theorem zBV(h:R (.ret (.sl (.stat true) 7 (zaA.map zel))) J):zzQ G 186 [] J R:=by
 refine zxZ rfl ?_
 simp[zHB,splice]
 exact h
def zEv(J0 Z:AS)(v:AV)(l:List (List UInt8 × W)):Prop:=v=.sl (.stat true) 7 (l.map zel)\/∃g,v=.sl (.fam g false) 7 (l.map zel)/\J0.nf<=g/\g<Z.nf/\Z.F g=.alive
def ztb(t:Int):List (List UInt8 × W):=if t=1 then zhq else if t=2 then zhq++zcG 1 else zaG
def RoI(J:AS)(a:Nat->AV)(Z:AS):Prop:=∃t:Int,1<=t/\t<=3/\a 3=.int .i64 t/\a 2=.sl (.stat true) 1 (zaY.map yc8)/\zEv J Z (a 1) (ztb t)/\zb J Z
def RiI(J:AS)(t:Int)(a:Nat->AV)(Z:AS):Prop:=∃i:Nat,i<=16/\a 4=.int .i64 (i:Int)/\a 3=.int .i64 t/\a 2=.sl (.stat true) 1 (zaY.map yc8)/\zEv J Z (a 1) (ztb t++(zcG t).take i)/\zb J Z
theorem zvG{J0 Z:AS}{v:AV}{l:List (List UInt8 × W)}{p:List UInt8 × W}{el:Option TypeId}{sz:Nat}{K:AV->AS->Prop}(hv:zEv J0 Z v l)(A:zb J0 Z)(hl:(l.length+1)*sz<=2^47)(h:∀v' Z',zEv J0 Z' v' (l++[p])->zb J0 Z'->K v' Z'):zb8 el sz 7 v [zel p] Z K:=by
 have hn:=A.nf
 rcases hv with rfl|⟨g,rfl,g1,g2,g3⟩
 .have:=h (.sl (.fam Z.nf false) 7 ((l++[p]).map zel)) Z.newF (.inr ⟨_,rfl,by omega,by simp,by simp⟩) A.newF
  simp at this
  simp
  refine⟨by omega,?_⟩
  first|exact this|exact⟨by omega,this⟩
 .have hgg:¬g=Z.nf:=by omega
  have:=h (.sl (.fam Z.nf false) 7 ((l++[p]).map zel)) (Z.setF g .dead).newF (.inr ⟨_,rfl,by simpa using (by omega:J0.nf<=Z.nf),by simp,by simp⟩) ⟨A.no,by simp;omega,A.obj,λf hf=>by
   have e1:¬f=Z.nf:=by omega
   have e2:¬f=g:=by omega
   simp[e1,e2]
   exact A.fam f hf⟩
  simp at this
  simp[g3]
  first|exact this|exact⟨by omega,this⟩
theorem zBW:zaG.length=45:=by decide
theorem zvH(t:Int):(zcG t).length=17:=by simp[zcG,zaY]
theorem zAx{t:Int}{i:Nat}(h:i<zaY.length)(h':i<(zcG t).length):(zcG t)[i]=(zr t++46::zaY[i],{ op:=4,ty:=t,n:=0,body:=0,other:=0,name:=zaY[i] }):=by
 have e:(zcG t)[i]?=some (zr t++46::zaY[i],{ op:=4,ty:=t,n:=0,body:=0,other:=0,name:=zaY[i] }):=by
  unfold zcG
  rw[yat (by simpa using h),List.getElem?_map,yau h]
  rfl
 rw[yau h']at e
 exact yaR.inj e
theorem zAy:∀s∈zaY,s.length<=5:=by decide
theorem zg0(t:Int):(zr t).length=3:=by unfold zr;split<;>rfl
theorem zBX(h:∀v J',zEv J J' v zaG->zb J J'->R (.ret v) J'):zzQ G 187 [] J R:=by
 refine zx0 rfl ?_
 simp[zHC,splice]
 refine zy (RoI J) (MU 3 4) ⟨1,by omega,by omega,by simp,by simp;rfl,.inl (by simp;rfl),.refl _⟩ λa Z hI=>?_
 obtain⟨t,t1,t3,a3,a2,hv,hA⟩:=hI
 have v1:(a 1).known=true/\(a 1).one=true/\(a 1).cells=[a 1]:=by
  rcases hv with e|⟨g,e,_⟩<;>rw[e]<;>simp
 by_cases h3:t<=2
 .have w1:yb4 .i64 (t+1)=t+1:=by rw[wrap_i64]<;>omega
  have hty:zr (if t=2 then 2 else 1)=zr t:=by
   have:t=1\/t=2:=by omega
   rcases this with rfl|rfl<;>rfl
  have hdl:(ztb t).length<=45:=by
   have:t=1\/t=2:=by omega
   rcases this with rfl|rfl<;>decide
  have tl:=zg0 t
  simp[ziN,a3,h3]
  refine zy (RiI J t) (MU 4 17) ⟨0,by omega,by simp,by simp[a3],by simp[a2],by simpa using hv,hA⟩ λb ρ hJ=>?_
  obtain⟨i,hi,b4,b3,b2,hv2,hB⟩:=hJ
  have v2:(b 1).known=true/\(b 1).one=true/\(b 1).cells=[b 1]:=by
   rcases hv2 with e|⟨g,e,_⟩<;>rw[e]<;>simp
  have sl:zaY.length=16:=by decide
  by_cases hlt:i<16
  .have hlt':(i:Int)<16:=by omega
   have wi:yb4 .i64 ((i:Int)+1)=((i+1:Nat):Int):=by rw[wrap_i64]<;>omega
   have hat:=zAx (t:=t) (i:=i) (by omega) (by rw[zvH];omega)
   have hsg:=zAy zaY[i] (yaw (by omega))
   simp[zdN,b4,b3,b2,sl,hlt,hlt',splice]
   refine zrS ?_
   rw[hty]
   simp[splice,v2]
   refine⟨by omega,by omega,zvG (p:=(zr t++46::zaY[i],{ op:=4,ty:=t,n:=0,body:=0,other:=0,name:=zaY[i] })) hv2 hB (by simp only[yab,ybf];omega) λv' Z' hv' A'=>?_⟩
   simp[b4,b3,b2,wi]
   refine⟨⟨i+1,hlt,by simp,by simp[b3],by simp[b2],?_,A'⟩,?_⟩
   .rw[yc5 (by rw[zvH];omega),hat,<-ydp]
    exact hv'
   .simp[MU,b4];omega
  .have e:i=16:=by omega
   subst e
   simp[zdN,zgI,b4,b3,b2,sl]
   refine zrS ?_
   rw[hty]
   have heq:(zcG t).take 16++[(zr t++[46,101,113,122],{ op:=5,ty:=t,n:=0,body:=0,other:=0,name:=[] })]=zcG t:=by
    unfold zcG
    rw[List.take_append_of_le_length (by simp[sl]),yc7 (by simp[sl])]
   simp[splice,v2,b3]
   refine⟨by omega,zvG (p:=(zr t++[46,101,113,122],{ op:=5,ty:=t,n:=0,body:=0,other:=0,name:=[] })) hv2 hB (by simp only[yab,ybf];omega) λv' Z' hv' A'=>?_⟩
   simp[ziM,b4,b3,b2,w1]
   refine⟨⟨t+1,by omega,by omega,by simp,by simp[b2],?_,A'⟩,?_⟩
   .have hd:ztb t++(zcG t).take 16++[(zr t++[46,101,113,122],{ op:=5,ty:=t,n:=0,body:=0,other:=0,name:=[] })]=ztb (t+1):=by
     rw[ydp,heq]
     have:t=1\/t=2:=by omega
     rcases this with rfl|rfl
     .rfl
     .simp[ztb,zaG]
    rw[<-hd]
    simpa using hv'
   .simp[MU,a3];omega
 .have e:t=3:=by omega
  subst e
  simp[ziN,zrh,a3]
  exact h _ _ hv hA
end
def znw(w x:W):Bool:=decide (x.op=w.op)&&(decide (w.op≠1)||decide (x.ty=w.ty))
def ziv(w x:W):Bool:=decide (x.op=w.op)&&((!(w.op==4||w.op==5||w.op==8||w.op==9)||decide (x.ty=w.ty))&&((decide (w.op≠4)||decide (x.name=w.name))&&(!(w.op==8||w.op==9)||decide (x.n=w.n))))
def znx(w:W):Option (List UInt8):=(zaA.find? λp=>znw w p.2).map (·.1)
def zvI(w:W):Option (List UInt8):=(zaG.find? λp=>ziv w p.2).map (·.1)
theorem zvJ{w w0:W}(h:w.op=w0.op)(h1:w.op=1->w.ty=w0.ty):znx w=znx w0:=by
 have:(λp:List UInt8 × W=>znw w p.2)=λp=>znw w0 p.2:=by
  funext p
  unfold znw
  by_cases e:w.op=1
  .rw[h1 e,h]
  .rw[h]
   have e':w0.op≠1:=by rw[<-h];exact e
   simp[e']
 unfold znx
 rw[this]
theorem zEw{w w0:W}(h:w.op=w0.op)(h1:w.op=4\/w.op=5\/w.op=8\/w.op=9->w.ty=w0.ty)(h2:w.op=4->w.name=w0.name)(h3:w.op=8\/w.op=9->w.n=w0.n):zvI w=zvI w0:=by
 have:(λp:List UInt8 × W=>ziv w p.2)=λp=>ziv w0 p.2:=by
  funext p
  unfold ziv
  have a:(!(w.op==4||w.op==5||w.op==8||w.op==9)||decide (p.2.ty=w.ty))=(!(w0.op==4||w0.op==5||w0.op==8||w0.op==9)||decide (p.2.ty=w0.ty)):=by
   by_cases e:w.op=4\/w.op=5\/w.op=8\/w.op=9
   .rw[h1 e,h]
   .have e':¬(w0.op=4\/w0.op=5\/w0.op=8\/w0.op=9):=by rw[<-h];exact e
    simp only[not_or]at e e'
    have q:∀x:Int,¬x=4/\¬x=5/\¬x=8/\¬x=9->(x==4||x==5||x==8||x==9)=false:=λx hx=>by
     simp only[Bool.or_eq_false_iff,beq_eq_false_iff_ne,ne_eq]
     exact⟨⟨⟨hx.1,hx.2.1⟩,hx.2.2.1⟩,hx.2.2.2⟩
    rw[q _ e,q _ e']
    rfl
  have b:(decide (w.op≠4)||decide (p.2.name=w.name))=(decide (w0.op≠4)||decide (p.2.name=w0.name)):=by
   by_cases e:w.op=4
   .rw[h2 e,h]
   .have e':w0.op≠4:=by rw[<-h];exact e
    simp[e,e']
  have c:(!(w.op==8||w.op==9)||decide (p.2.n=w.n))=(!(w0.op==8||w0.op==9)||decide (p.2.n=w0.n)):=by
   by_cases e:w.op=8\/w.op=9
   .rw[h3 e,h]
   .have e':¬(w0.op=8\/w0.op=9):=by rw[<-h];exact e
    simp only[not_or]at e e'
    have q:∀x:Int,¬x=8/\¬x=9->(x==8||x==9)=false:=λx hx=>by
     simp only[Bool.or_eq_false_iff,beq_eq_false_iff_ne,ne_eq]
     exact hx
    rw[q _ e,q _ e']
    rfl
  rw[a,b,c,h]
 unfold zvI
 rw[this]
theorem zvK:∀s∈zaY,∀t∈[(1:Int),2],zvI ⟨4,t,0,0,0,s⟩=some (zr t++46::s)/\znx ⟨4,t,0,0,0,s⟩=none:=by decide
theorem zvL:signs.map (·.1)=zaY:=by decide
theorem zvM{w:W}(h:zT w=true)(ho:w.op=8\/w.op=9):(w.ty=1/\w.n=1)\/(w.ty=1/\w.n=4)\/(w.ty=2/\w.n=8):=by
 unfold zT at h
 rw[if_neg (by omega),if_neg (by omega),if_pos ho]at h
 simp only[zfP,Bool.or_eq_true,Bool.and_eq_true,decide_eq_true_eq]at h
 omega
theorem zAz{w:W}(hf:zT w=true)(hn:zbv w=false):(zah w=true/\znx w=some (zp w))\/(zah w=false/\znx w=none/\zvI w=some (zp w)):=by
 obtain⟨f1,f2,f3,f4,f5⟩:=znc hf
 have hn':w.op≠11/\w.op≠12/\w.op≠13:=by simpa [zbv,and_assoc]using hn
 have hc:w.op=1\/w.op=2\/w.op=3\/w.op=4\/w.op=5\/w.op=6\/w.op=7\/w.op=8\/w.op=9\/w.op=10\/w.op=14\/w.op=15\/w.op=16\/w.op=17\/w.op=18:=by omega
 have N:∀w0:W,w.op=w0.op->(w.op=1->w.ty=w0.ty)->zah w0=true->znx w0=some (zp w0)->zp w=zp w0->(zah w=true/\znx w=some (zp w))\/(zah w=false/\znx w=none/\zvI w=some (zp w)):=λw0 a b c d e=>.inl ⟨by unfold zah at *;rw[a];exact c,by rw[zvJ a b,d,e]⟩
 have Q:∀w0:W,w.op=w0.op->w.op≠1->(w.op=4\/w.op=5\/w.op=8\/w.op=9->w.ty=w0.ty)->(w.op=4->w.name=w0.name)->(w.op=8\/w.op=9->w.n=w0.n)->zah w0=false->znx w0=none->zvI w0=some (zp w0)->zp w=zp w0->(zah w=true/\znx w=some (zp w))\/(zah w=false/\znx w=none/\zvI w=some (zp w)):=λw0 a a1 b b1 b2 c d d1 e=>.inr ⟨by unfold zah at *;rw[a];exact c,by rw[zvJ a λq=>absurd q a1,d],by rw[zEw a b b1 b2,d1,e]⟩
 rcases hc with e|e|e|e|e|e|e|e|e|e|e|e|e|e|e
 .rcases f3 (by omega)with t|t
  .exact N ⟨1,1,0,0,0,[]⟩ e (λ_=>t) (by decide) (by decide) (by simp[zp,e,t])
  .exact N ⟨1,2,0,0,0,[]⟩ e (λ_=>t) (by decide) (by decide) (by simp[zp,e,t])
 .exact N ⟨2,0,0,0,0,[]⟩ e (by omega) (by decide) (by decide) (by simp[zp,e])
 .exact N ⟨3,0,0,0,0,[]⟩ e (by omega) (by decide) (by decide) (by simp[zp,e])
 .have ht:=f3 (by omega)
  have hs:w.name∈zaY:=by rw[<-zvL];exact zfp (f5 e)
  obtain⟨z1,z2⟩:=zvK w.name hs w.ty (by simpa using ht)
  exact Q ⟨4,w.ty,0,0,0,w.name⟩ e (by omega) (λ_=>rfl) (λ_=>rfl) (by omega) (by simp[zah]) z2 (by rw[z1];simp[zp]) (by simp[zp,e])
 .rcases f3 (by omega)with t|t
  .exact Q ⟨5,1,0,0,0,[]⟩ e (by omega) (λ_=>t) (by omega) (by omega) (by decide) (by decide) (by decide) (by simp[zp,e,t])
  .exact Q ⟨5,2,0,0,0,[]⟩ e (by omega) (λ_=>t) (by omega) (by omega) (by decide) (by decide) (by decide) (by simp[zp,e,t])
 .exact Q ⟨6,0,0,0,0,[]⟩ e (by omega) (by omega) (by omega) (by omega) (by decide) (by decide) (by decide) (by simp[zp,e])
 .exact Q ⟨7,0,0,0,0,[]⟩ e (by omega) (by omega) (by omega) (by omega) (by decide) (by decide) (by decide) (by simp[zp,e])
 .have hb:(w.ty=1/\w.n=1)\/(w.ty=1/\w.n=4)\/(w.ty=2/\w.n=8):=zvM hf (by omega)
  rcases hb with ⟨a,b⟩|⟨a,b⟩|⟨a,b⟩
  .exact Q ⟨8,1,1,0,0,[]⟩ e (by omega) (λ_=>a) (by omega) (λ_=>b) (by decide) (by decide) (by decide) (by simp[zp,e,a,b])
  .exact Q ⟨8,1,4,0,0,[]⟩ e (by omega) (λ_=>a) (by omega) (λ_=>b) (by decide) (by decide) (by decide) (by simp[zp,e,a,b])
  .exact Q ⟨8,2,8,0,0,[]⟩ e (by omega) (λ_=>a) (by omega) (λ_=>b) (by decide) (by decide) (by decide) (by simp[zp,e,a,b])
 .have hb:(w.ty=1/\w.n=1)\/(w.ty=1/\w.n=4)\/(w.ty=2/\w.n=8):=zvM hf (by omega)
  rcases hb with ⟨a,b⟩|⟨a,b⟩|⟨a,b⟩
  .exact Q ⟨9,1,1,0,0,[]⟩ e (by omega) (λ_=>a) (by omega) (λ_=>b) (by decide) (by decide) (by decide) (by simp[zp,e,a,b])
  .exact Q ⟨9,1,4,0,0,[]⟩ e (by omega) (λ_=>a) (by omega) (λ_=>b) (by decide) (by decide) (by decide) (by simp[zp,e,a,b])
  .exact Q ⟨9,2,8,0,0,[]⟩ e (by omega) (λ_=>a) (by omega) (λ_=>b) (by decide) (by decide) (by decide) (by simp[zp,e,a,b])
 .exact N ⟨10,0,0,0,0,[]⟩ e (by omega) (by decide) (by decide) (by simp[zp,e])
 .exact N ⟨14,0,0,0,0,[]⟩ e (by omega) (by decide) (by decide) (by simp[zp,e])
 .exact N ⟨15,0,0,0,0,[]⟩ e (by omega) (by decide) (by decide) (by simp[zp,e])
 .exact Q ⟨16,0,0,0,0,[]⟩ e (by omega) (by omega) (by omega) (by omega) (by decide) (by decide) (by decide) (by simp[zp,e])
 .exact Q ⟨17,0,0,0,0,[]⟩ e (by omega) (by omega) (by omega) (by omega) (by decide) (by decide) (by decide) (by simp[zp,e])
 .exact Q ⟨18,0,0,0,0,[]⟩ e (by omega) (by omega) (by omega) (by omega) (by decide) (by decide) (by decide) (by simp[zp,e])
def zhF(w:W):List UInt8:=match znx w with
 | some t=>32::(t++32::Lib.itoa w.n)
 | none=>match zvI w with
  | some t=>32::t
  | none=>[]
theorem ziY{α:Type}{p:α->Bool}{l:List α}{i:Nat}(hi:i<l.length)(hb:∀x∈l.take i,p x=false)(h:p l[i]=true):l.find? p=some l[i]:=by
 have e:l=l.take i++l[i]::l.drop (i+1):=by rw[<-ydd hi,List.take_append_drop]
 have hn:(l.take i).find? p=none:=by
  rw[ydO]
  intro x hx
  simp[hb x hx]
 have:=congrArg (List.find? p) e
 rw[List.find?_append,hn,List.find?_cons,h]at this
 simpa using this
theorem ziZ{α:Type}{p:α->Bool}{l:List α}(hb:∀x∈l,p x=false):l.find? p=none:=by
 rw[ydO]
 intro x hx
 simp[hb x hx]
theorem zi0{α:Type}{p:α->Bool}{l:List α}{i:Nat}(hi:i<l.length)(hb:∀x∈l.take i,p x=false)(h:p l[i]=false):∀x∈l.take (i+1),p x=false:=λx hx=>by
 rw[yc5 hi,ybh,ydr]at hx
 rcases hx with hx|rfl
 .exact hb x hx
 .exact h
theorem zBY:zaA.length=7:=by decide
theorem zIF:∀p∈zaA,p.1.length<=20:=by decide
theorem zIG:∀p∈zaG,p.1.length<=20:=by decide
theorem znq{φ:Abs.Own}{l:List (List UInt8 × W)}{i:Nat}(hi:i<l.length)(K:AV->Prop):zA yb9 215 (.sl φ 7 (l.map zel)) (.int .i64 (i:Int)) K=K (.pv φ (zel l[i])):=by
 have hlt:(i:Int)<(l.length:Int):=by omega
 simp[hi,hlt]
theorem zEv.rd{J Z:AS}{v:AV}{l:List (List UInt8 × W)}(h:zEv J Z v l):∃φ,v=.sl φ 7 (l.map zel)/\Al.Rd Z φ:=by
 rcases h with h|⟨g,h,_,h2,h3⟩
 .exact⟨_,h,trivial⟩
 .exact⟨_,h,h2,h3⟩
section
variable {G : Env} {J : AS} {R : Out -> AS -> Prop}
def PrI(w:W)(J:AS)(v:AV)(a:Nat->AV)(Z:AS):Prop:=∃i:Nat,i<=45/\(∀p∈zaG.take i,ziv w p.2=false)/\a 1=.ptr J.no 0/\a 3=v/\a 5=.int .i64 (i:Int)/\Z.objs J.no=some w.cs/\zb J Z/\J.no<Z.no/\∃φ,v=.sl φ 7 (zaG.map zel)/\Al.Rd Z φ
theorem zIH{w:W}{v:AV}(hnone:znx w=none)(h:∀J',zb J J'->R (.ret (.str (zhF w))) J'){a:Nat->AV}{Z:AS}(hI:PrI w J v a Z):
  avc yb9 G 133 zak (zan (λa' J'=>PrI w J v a' J'/\MU 5 46 a' J'<MU 5 46 a Z) (zai 2 (zan (avc yb9 G 133 ziI (zcq yb9 [.tmp 2] R)) (zcq yb9 [.tmp 2] R)))) a Z:=by
 obtain⟨i,hi,hno,a1,a3,a5,ho,hA,hlo,φ,rfl,hrd⟩:=hI
 have hrd':=hrd.read
 have ho':=ho
 simp only[W.cs]at ho'
 have nl:=zBW
 by_cases hlt:i<45
 .have hlt':(i:Int)<45:=by omega
  have hin:i<zaG.length:=by omega
  have w1:yb4 .i64 ((i:Int)+1)=((i+1:Nat):Int):=by rw[wrap_i64]<;>omega
  have hat:=znq (φ:=φ) hin
  have hsl:=zIG _ (yaw hin)
  have hno1:ziv w zaG[i].2=false->∀p∈zaG.take (i+1),ziv w p.2=false:=λq=>zi0 (p:=λp=>ziv w p.2) hin hno q
  have hyes:ziv w zaG[i].2=true->zhF w=32::zaG[i].1:=λq=>by
   unfold zhF zvI
   rw[hnone,ziY (p:=λp=>ziv w p.2) hin hno q]
   rfl
  generalize zaG[i]=p at *
  obtain⟨t,x⟩:=p
  have A3:zb Z ((Z.newO zbn.cs).setO Z.no x.cs):=(zb.refl Z).newO.setO (yah _)
  have hon:¬J.no=Z.no:=by omega
  have miss:ziv w x=false->∀(a':Nat->AV) (Z':AS),zb Z Z'->a' 1=.ptr J.no 0->a' 3=.sl φ 7 (zaG.map zel)->a' 5=.int .i64 ((i+1:Nat):Int)->PrI w J (.sl φ 7 (zaG.map zel)) a' Z'/\MU 5 46 a' Z'<MU 5 46 a Z:=λq a' Z' A q1 q3 q5 =>
   ⟨⟨i+1,hlt,hno1 q,q1,q3,q5,(A.obj _ hlo).trans ho,hA.trans A,yag hlo A.no,φ,rfl,hrd.keep A⟩,by simp[MU,q5,a5];omega⟩
  have hits:ziv w x=true->∀Z',zb Z Z'->1+t.length<4611686018427387904/\R (.ret (.str (32::t))) Z':=λq Z' A=>by
   have hh:=h _ (hA.trans A)
   rw[hyes q]at hh
   exact⟨by simp only at hsl;omega,hh⟩
  by_cases e1:x.op=w.op
  .by_cases e4:w.op=4
   .by_cases e2:x.ty=w.ty
    .by_cases e3:x.name=w.name
     .have hq:=hits (by simp[ziv,e1,e2,e3,e4])
      simp[zak,a1,a3,a5,nl,hlt,hlt',hat,hrd',zel,W.cs,splice,ho',hon,w1,e1,e2,e3,e4]
      exact hq _ ((zb.refl Z).newO.setO (yah _))
     .have hq:=miss (by simp[ziv,e1,e2,e3,e4])
      simp[zak,a1,a3,a5,nl,hlt,hlt',hat,hrd',zel,W.cs,splice,ho',hon,w1,e1,e2,e3,e4]
      exact hq _ _ ((zb.refl Z).newO.setO (yah _)) (by simp[a1]) (by simp[a3]) (by simp)
    .have hq:=miss (by simp[ziv,e1,e2,e4])
     simp[zak,a1,a3,a5,nl,hlt,hlt',hat,hrd',zel,W.cs,splice,ho',hon,w1,e1,e2,e4]
     exact hq _ _ ((zb.refl Z).newO.setO (yah _)) (by simp[a1]) (by simp[a3]) (by simp)
   .by_cases e5:w.op=5
    .by_cases e2:x.ty=w.ty
     .have hq:=hits (by simp[ziv,e1,e2,e5])
      simp[zak,a1,a3,a5,nl,hlt,hlt',hat,hrd',zel,W.cs,splice,ho',hon,w1,e1,e2,e5]
      exact hq _ ((zb.refl Z).newO.setO (yah _))
     .have hq:=miss (by simp[ziv,e1,e2,e5])
      simp[zak,a1,a3,a5,nl,hlt,hlt',hat,hrd',zel,W.cs,splice,ho',hon,w1,e1,e2,e5]
      exact hq _ _ ((zb.refl Z).newO.setO (yah _)) (by simp[a1]) (by simp[a3]) (by simp)
    .by_cases e8:w.op=8
     .by_cases e2:x.ty=w.ty
      .by_cases e3:x.n=w.n
       .have hq:=hits (by simp[ziv,e1,e2,e3,e8])
        simp[zak,a1,a3,a5,nl,hlt,hlt',hat,hrd',zel,W.cs,splice,ho',hon,w1,e1,e2,e3,e8]
        exact hq _ ((zb.refl Z).newO.setO (yah _))
       .have hq:=miss (by simp[ziv,e1,e2,e3,e8])
        simp[zak,a1,a3,a5,nl,hlt,hlt',hat,hrd',zel,W.cs,splice,ho',hon,w1,e1,e2,e3,e8]
        exact hq _ _ ((zb.refl Z).newO.setO (yah _)) (by simp[a1]) (by simp[a3]) (by simp)
      .have hq:=miss (by simp[ziv,e1,e2,e8])
       simp[zak,a1,a3,a5,nl,hlt,hlt',hat,hrd',zel,W.cs,splice,ho',hon,w1,e1,e2,e8]
       exact hq _ _ ((zb.refl Z).newO.setO (yah _)) (by simp[a1]) (by simp[a3]) (by simp)
     .by_cases e9:w.op=9
      .by_cases e2:x.ty=w.ty
       .by_cases e3:x.n=w.n
        .have hq:=hits (by simp[ziv,e1,e2,e3,e9])
         simp[zak,a1,a3,a5,nl,hlt,hlt',hat,hrd',zel,W.cs,splice,ho',hon,w1,e1,e2,e3,e9]
         exact hq _ ((zb.refl Z).newO.setO (yah _))
        .have hq:=miss (by simp[ziv,e1,e2,e3,e9])
         simp[zak,a1,a3,a5,nl,hlt,hlt',hat,hrd',zel,W.cs,splice,ho',hon,w1,e1,e2,e3,e9]
         exact hq _ _ ((zb.refl Z).newO.setO (yah _)) (by simp[a1]) (by simp[a3]) (by simp)
       .have hq:=miss (by simp[ziv,e1,e2,e9])
        simp[zak,a1,a3,a5,nl,hlt,hlt',hat,hrd',zel,W.cs,splice,ho',hon,w1,e1,e2,e9]
        exact hq _ _ ((zb.refl Z).newO.setO (yah _)) (by simp[a1]) (by simp[a3]) (by simp)
      .have hq:=hits (by simp[ziv,e1,e4,e5,e8,e9])
       simp[zak,a1,a3,a5,nl,hlt,hlt',hat,hrd',zel,W.cs,splice,ho',hon,w1,e1,e4,e5,e8,e9]
       exact hq _ ((zb.refl Z).newO.setO (yah _))
  .have hq:=miss (by simp[ziv,e1])
   simp[zak,a1,a3,a5,nl,hlt,hlt',hat,hrd',zel,W.cs,splice,ho',hon,w1,e1]
   exact hq _ _ ((zb.refl Z).newO.setO (yah _)) (by simp[a1]) (by simp[a3]) (by simp)
 .have e:i=45:=by omega
  subst e
  rw[yc7 (by omega)]at hno
  have hsay:zhF w=[]:=by
   unfold zhF zvI
   rw[hnone,ziZ hno]
   rfl
  have hh:=h _ hA
  rw[hsay]at hh
  simp[zak,ziI,a1,a3,a5,nl]
  exact hh
def PnI(w:W)(J:AS)(a:Nat->AV)(Z:AS):Prop:=∃i:Nat,i<=7/\(∀p∈zaA.take i,znw w p.2=false)/\a 1=.ptr J.no 0/\a 3=.sl (.stat true) 7 (zaA.map zel)/\a 4=.int .i64 (i:Int)/\Z.objs J.no=some w.cs/\zb J Z/\J.no<Z.no
theorem zAA{w:W}(hr:RgW w)(h:∀J',zb J J'->R (.ret (.str (zhF w))) J'):zzQ G 149 [w.av] J R:=by
 refine zxC rfl ?_
 have A1:zb J (J.newO w.cs):=(zb.refl J).newO
 have o1:(J.newO w.cs).objs J.no=some w.cs:=by simp
 simp[zHo,W.av]
 refine zBV ?_
 simp
 refine zy (PnI w J) (MU 4 8) ⟨0,by omega,by simp,by simp,by simp,by simp,by simp,A1,by simp⟩ λa Z hI=>?_
 obtain⟨i,hi,hno,a1,a3,a4,ho,hA,hlo⟩:=hI
 have ho':=ho
 simp only[W.cs]at ho'
 have nl:=zBY
 by_cases hlt:i<7
 .have hlt':(i:Int)<7:=by omega
  have hin:i<zaA.length:=by omega
  have w1:yb4 .i64 ((i:Int)+1)=((i+1:Nat):Int):=by rw[wrap_i64]<;>omega
  have hat:=znq (φ:=.stat true) hin
  have hsl:=zIF _ (yaw hin)
  have hno1:znw w zaA[i].2=false->∀p∈zaA.take (i+1),znw w p.2=false:=λq=>zi0 (p:=λp=>znw w p.2) hin hno q
  have hyes:znw w zaA[i].2=true->znx w=some zaA[i].1:=λq=>by
   unfold znx
   rw[ziY (p:=λp=>znw w p.2) hin hno q]
   rfl
  generalize zaA[i]=p at *
  obtain⟨t,x⟩:=p
  by_cases e1:x.op=w.op
  .by_cases e2:w.op=1
   .by_cases e3:x.ty=w.ty
    .simp[zcI,a1,a3,a4,nl,hlt,hlt',hat,zel,W.cs,ho',w1,e1,e2,e3]
     have hq:znw w x=true:=by simp[znw,e1,e2,e3]
     have hsay:zhF w=32::(t++32::Lib.itoa w.n):=by unfold zhF;rw[hyes hq]
     have il:=Lib.itoa_length_le w.n (by have:=hr.1;omega) (by have:=hr.2;omega)
     simp only at hsl
     refine⟨by omega,by omega,zfy hr.1 hr.2 ?_⟩
     have hh:=h _ hA
     rw[hsay]at hh
     simp
     exact⟨by omega,hh⟩
    .simp[zcI,a1,a3,a4,nl,hlt,hlt',hat,zel,W.cs,ho',w1,e1,e2,e3]
     have hq:znw w x=false:=by simp[znw,e1,e2,e3]
     refine⟨⟨i+1,hlt,hno1 hq,by simp[a1],by simp[a3],by simp,ho,hA,hlo⟩,?_⟩
     simp[MU,a4];omega
   .simp[zcI,a1,a3,a4,nl,hlt,hlt',hat,zel,W.cs,ho',w1,e1,e2]
    have hq:znw w x=true:=by simp[znw,e1,e2]
    have hsay:zhF w=32::(t++32::Lib.itoa w.n):=by unfold zhF;rw[hyes hq]
    have il:=Lib.itoa_length_le w.n (by have:=hr.1;omega) (by have:=hr.2;omega)
    simp only at hsl
    refine⟨by omega,by omega,zfy hr.1 hr.2 ?_⟩
    have hh:=h _ hA
    rw[hsay]at hh
    simp
    exact⟨by omega,hh⟩
  .simp[zcI,a1,a3,a4,nl,hlt,hlt',hat,zel,W.cs,ho',w1,e1]
   have hq:znw w x=false:=by simp[znw,e1]
   refine⟨⟨i+1,hlt,hno1 hq,by simp[a1],by simp[a3],by simp,ho,hA,hlo⟩,?_⟩
   simp[MU,a4];omega
 .have e:i=7:=by omega
  subst e
  rw[yc7 (by omega)]at hno
  have hnone:znx w=none:=by
   unfold znx
   rw[ziZ hno]
   rfl
  simp[zcI,zrb,a1,a3,a4,nl]
  refine zBX λv J2 hv A2=>?_
  have ho2:=(A2.obj _ hlo).trans ho
  have hA2:=hA.trans A2
  have hl2:J.no<J2.no:=by have:=A2.no;omega
  simp
  refine zy (PrI w J v) (MU 5 46) ⟨0,by omega,by simp,by simp[a1],by simp,by simp,ho2,hA2,hl2,hv.rd⟩ λb ρ hJ=>?_
  exact zIH hnone h hJ
end
theorem zvN:∀p∈zaG,zK zaA p.1=none:=by decide
theorem zqF{p:List UInt8 × W}(hp:p∈zaG)(h:zK zaG p.1=some p.2)(s:Ts):zbA p.1 s=.ok (p.2,s):=by
 unfold zbA
 rw[zvN p hp]
 simp only
 rw[h]
def SqI(x:Nat)(t:List UInt8)(J J1:AS)(v:AV)(a:Nat->AV)(Z:AS):Prop:=∃i:Nat,i<=45/\(∀p∈zaG.take i,(p.1==t)=false)/\a 0=.ptr x 0/\a 1=.str t/\a 4=.ptr J.no 0/\a 6=v/\a 7=.int .i64 (i:Int)/\Z=J1
def SqN(x:Nat)(t:List UInt8)(J J1:AS)(a:Nat->AV)(Z:AS):Prop:=∃i:Nat,i<=7/\(∀p∈zaA.take i,(p.1==t)=false)/\a 0=.ptr x 0/\a 1=.str t/\a 4=.ptr J.no 0/\a 6=.sl (.stat true) 7 (zaA.map zel)/\a 8=.int .i64 (i:Int)/\Z=J1
section
variable {G : Env} {J : AS} {R : Out -> AS -> Prop}
theorem zAB{base x b so t}(h:RwS base x b so J)(hs:∀(w:W) (ok:Bool) so' J',(ok=true->zdZ so (zbA t) w so')->(ok=false->so'=so/\∀s,zbA t s=.error 2)->RwS base x b so' J'->zW x J J'->R (.ret (.tuple [w.av,.bool ok])) J'):zzQ G 179 [.ptr x 0,.str t] J R:=by
 refine zxS rfl ?_
 have hx:=h.hx
 obtain⟨at0,lv0,ls0,ho0,_⟩:=h.opn
 simp[zHx]
 refine zBX λv J1 hv A1=>?_
 obtain⟨φ,rfl,hrd⟩:=hv.rd
 have A0:zb J J1:=(zb.refl J).newO.trans A1
 have hR1:=h.adds A0
 have hK1:=A0.keepP hx ho0
 obtain⟨atq,lvq,lsq,hoq,_⟩:=hR1.opn
 have hn1:J.no<J1.no:=by have:=A1.no;simp at this;omega
 have hz1:J1.objs J.no=some zbn.cs:=by
  have:=A1.obj J.no (by simp)
  rw[this]
  simp[zbn,W.cs]
 simp only[zbn,W.cs]at hz1
 have hxo:¬x=J.no:=by omega
 have nl:=zBW
 have nn:=zBY
 simp
 refine zy (SqI x t J J1 (.sl φ 7 (zaG.map zel))) (MU 7 46) ⟨0,by omega,by simp,by simp,by simp,by simp,by simp,by simp,rfl⟩ λa Z hI=>?_
 obtain⟨i,hi,hno,a0,a1,a4,a6,a7,rfl⟩:=hI
 have hrd':=hrd.read
 by_cases hlt:i<45
 .have hlt':(i:Int)<45:=by omega
  have hin:i<zaG.length:=by omega
  have w1:yb4 .i64 ((i:Int)+1)=((i+1:Nat):Int):=by rw[wrap_i64]<;>omega
  have hat:=znq (φ:=φ) hin
  have hmem:=yaw hin
  have hno1:(zaG[i].1==t)=false->∀p∈zaG.take (i+1),(p.1==t)=false:=λq=>zi0 (p:=λp=>p.1==t) hin hno q
  have hyes:(zaG[i].1==t)=true->zK zaG t=some zaG[i].2:=λq=>by
   unfold zK
   rw[ziY (p:=λp=>p.1==t) hin hno q]
   rfl
  generalize zaG[i]=p at *
  obtain⟨u,w⟩:=p
  by_cases e:u=t
  .subst e
   have hl:=λs=>zqF hmem (hyes (by simp)) s
   simp[zdM,a0,a1,a4,a6,a7,nl,hlt,hlt',hat,hrd',zel,W.cs,splice,hz1]
   have:=hs w true so (Z.setO J.no [.int .i64 w.op,.int .i64 w.ty,.int .i64 w.n,.int .i64 w.body,.int .i64 w.other,.str w.name]) (λ_=>by
    unfold zdZ
    cases so with
    | error e=>rfl
    | ok s=>exact hl s) (λq=>by cases q) (hR1.other hxo) (hK1.other (yah _) hxo)
   simpa [W.av,W.cs]using this
  .have e':¬t=u:=λq=>e q.symm
   simp[zdM,a0,a1,a4,a6,a7,nl,hlt,hlt',hat,hrd',zel,W.cs,splice,hz1,e,e',w1]
   refine⟨⟨i+1,hlt,hno1 (by simp[e]),by simp[a0],by simp[a1],by simp[a4],by simp[a6],by simp,rfl⟩,?_⟩
   simp[MU,a7];omega
 .have ei:i=45:=by omega
  subst ei
  have hrows:zK zaG t=none:=by
   unfold zK
   rw[ziZ (p:=λp=>p.1==t) (λp hp=>hno p (by rw[yc7 (by omega)];exact hp))]
   rfl
  simp[zdM,ziK,zmJ,a0,a1,a4,a6,a7,nl]
  refine zBV ?_
  simp
  refine zy (SqN x t J Z) (MU 8 8) ⟨0,by omega,by simp,by simp[a0],by simp[a1],by simp[a4],by simp,by simp,rfl⟩ λa' Z' hJ=>?_
  obtain⟨i,hi,hno2,a0,a1,a4,a6,a8,rfl⟩:=hJ
  by_cases hlt:i<7
  .have hlt':(i:Int)<7:=by omega
   have hin:i<zaA.length:=by omega
   have w1:yb4 .i64 ((i:Int)+1)=((i+1:Nat):Int):=by rw[wrap_i64]<;>omega
   have hat:=znq (φ:=.stat true) hin
   have hno1:(zaA[i].1==t)=false->∀p∈zaA.take (i+1),(p.1==t)=false:=λq=>zi0 (p:=λp=>p.1==t) hin hno2 q
   have hyes:(zaA[i].1==t)=true->zK zaA t=some zaA[i].2:=λq=>by
    unfold zK
    rw[ziY (p:=λp=>p.1==t) hin hno2 q]
    rfl
   generalize zaA[i]=p at *
   obtain⟨u,w⟩:=p
   by_cases e:u=t
   .subst e
    have hl:∀s,zbA u s=(zR s).map λp=>({ w with n:=p.1 },p.2):=λs=>by
     unfold zbA
     rw[hyes (by simp)]
    simp[zfg,a0,a1,a4,a6,a8,nn,hlt,hlt',hat,zel,W.cs,splice,hz1]
    have A2:zb Z' ((Z'.newO [yc6 .i64 0,.int .i64 0,.int .i64 0,.int .i64 0,.int .i64 0,.str []]).setO Z'.no [.int .i64 w.op,.int .i64 w.ty,.int .i64 w.n,.int .i64 w.body,.int .i64 w.other,.str w.name]):=(zb.refl Z').newO.setO (yah _)
    have z2:((Z'.newO [yc6 .i64 0,.int .i64 0,.int .i64 0,.int .i64 0,.int .i64 0,.str []]).setO Z'.no [.int .i64 w.op,.int .i64 w.ty,.int .i64 w.n,.int .i64 w.body,.int .i64 w.other,.str w.name]).objs Z'.no=some [.int .i64 w.op,.int .i64 w.ty,.int .i64 w.n,.int .i64 w.body,.int .i64 w.other,.str w.name]:=by simp
    have z3:=(A2.obj J.no hn1).trans hz1
    have n2:Z'.no<((Z'.newO [yc6 .i64 0,.int .i64 0,.int .i64 0,.int .i64 0,.int .i64 0,.str []]).setO Z'.no [.int .i64 w.op,.int .i64 w.ty,.int .i64 w.n,.int .i64 w.body,.int .i64 w.other,.str w.name]).no:=by simp
    have hR2:=hR1.adds A2
    have hK2:=hK1.trans (A2.keepP hR1.hx hoq)
    generalize (Z'.newO [yc6 .i64 0,.int .i64 0,.int .i64 0,.int .i64 0,.int .i64 0,.str []]).setO Z'.no [.int .i64 w.op,.int .i64 w.ty,.int .i64 w.n,.int .i64 w.body,.int .i64 w.other,.str w.name]=Z2 at *
    have hxo2:¬x=Z'.no:=by have:=hR1.hx;omega
    refine zng hR2 λn so' J' g _ _ hR3 hK3=>?_
    have z4:=(hK3.obj Z'.no n2 (λq=>hxo2 q.symm)).trans z2
    have z5:=(hK3.obj J.no (by omega) (λq=>hxo q.symm)).trans z3
    have hne:¬J.no=Z'.no:=by omega
    simp[a0,a1,a4,splice,z4,z5,hne]
    have:=hs { w with n:=n } true so' ((J'.setO Z'.no [.int .i64 w.op,.int .i64 w.ty,.int .i64 n,.int .i64 w.body,.int .i64 w.other,.str w.name]).setO J.no [.int .i64 w.op,.int .i64 w.ty,.int .i64 n,.int .i64 w.body,.int .i64 w.other,.str w.name]) (λ_=>by
     unfold zdZ at g ⊢
     have:so.bind (zbA u)=(so.bind zR).map λp=>({ w with n:=p.1 },p.2):=by
      cases so with
      | error e=>rfl
      | ok s=>exact hl s
     rw[this,g]
     cases so'<;>rfl) (λq=>by cases q) ((hR3.other hxo2).other hxo) (((hK2.trans hK3).other (by omega) hxo2).other (yah _) hxo)
    simpa [W.av,W.cs]using this
   .have e':¬t=u:=λq=>e q.symm
    simp[zfg,a0,a1,a4,a6,a8,nn,hlt,hlt',hat,zel,W.cs,splice,hz1,e,e',w1]
    refine⟨⟨i+1,hlt,hno1 (by simp[e]),by simp[a0],by simp[a1],by simp[a4],by simp[a6],by simp,rfl⟩,?_⟩
    simp[MU,a8];omega
  .have ei:i=7:=by omega
   subst ei
   have hnumb:zK zaA t=none:=by
    unfold zK
    rw[ziZ (p:=λp=>p.1==t) (λp hp=>hno2 p (by rw[yc7 (by omega)];exact hp))]
    rfl
   have hl:∀s,zbA t s=.error 2:=λs=>by
    unfold zbA
    rw[hnumb]
    simp only
    rw[hrows]
   simp[zfg,ziK,zmJ,a0,a1,a4,a6,a8,nn,splice,hz1]
   have:=hs zbn false so (Z'.setO J.no [yc6 .i64 0,.int .i64 0,.int .i64 0,.int .i64 0,.int .i64 0,.str []]) (λq=>by cases q) (λ_=>⟨rfl,hl⟩) (hR1.other hxo) (hK1.other (yah _) hxo)
   simpa [W.av,W.cs,zbn]using this
end
def zd7:PC->PC
 | .seq a _=>a
 | p=>p
def zbI:PC->PC
 | .seq _ b=>b
 | p=>p
def zII:PC:=zbI (zbI zkW)
theorem zAC:zkW=.seq (zd7 zkW) (.seq (zd7 (zbI zkW)) zII):=rfl
abbrev zQ:List AV:=[.int .i64 0,.int .i64 0,.int .i64 0,.int .i64 0,.int .i64 0,.str []]
abbrev nW(op n e:Int):W:={ op:=op,ty:=0,n:=0,body:=n,other:=e,name:=[] }
abbrev nWs(op n e:Int):List AV:=[.int .i64 op,.int .i64 0,.int .i64 0,.int .i64 n,.int .i64 e,.str []]
def ztc(G:Env)(base x:Nat)(b:List UInt8)(k:Nat):Prop:=∀(J:AS) (R:Out->AS->Prop) (d:Nat) (o:Bool) (so:Res Ts),d<=401->(401<=d->∃e,so=.error e)->RwS base x b so J->(∀s,so=.ok s->s.b.length<k/\s.ls.length+s.b.length<=2^15) ->
 (∀(n:Int) (t:List UInt8) so' J',so.bind (λs=>zw k d o [] s)=so'.map (λs'=>((n,t),s'))->-(2^63)<=n->n<2^63->RwS base x b so' J'->zba x J J'->R (.ret (.tuple [.int .i64 n,.str t])) J')->zzQ G 139 [.ptr x 0,.int .i64 (d:Int),.bool o] J R
section
variable {G : Env} {J : AS} {R : Out -> AS -> Prop}
theorem zkD{rec:zDN}{op:Int}{d:Nat}(hd:d<=400)(s:Ts):zad rec op d s=(rec d (decide (op=13)) s).bind λp =>
  if op=13 then(if p.1.2=zaX then(rec d false p.2).map λq=>(nW 13 p.1.1 q.1.1,q.2)else .ok (nW 13 p.1.1 (-1),p.2))
  else .ok (nW op p.1.1 0,p.2):=by unfold zad;rw[if_neg (by omega)]
theorem zr2{base x b so1 t}{k d o:Nat}{J1:AS}{a:Nat->AV}(h1:RwS base x b so1 J1)(K1:zba x J J1)(a0:a 0=.ptr x 0)(a1:a 1=.str t)(a2:a 2=.int .i64 (d:Int))(a6:a 6=.ptr o 0)(ho6:J1.objs o=some zQ)(ho:J.no<=o)(ho1:o<J1.no)(hox:¬x=o)(ht:zag t≠0)(hd4:d<=401)(h401:401<=d->∃e,so1=.error e)
  (hb:∀s,so1=.ok s->s.b.length<k/\s.ls.length+s.b.length<=2^15) (IH:ztc G base x b k) (hs:∀w so' J',zdZ so1 (zad (λd o s=>zw k d o [] s) (zag t) d) w so'->RwS base x b so' J'->zba x J J'->R (.ret w.av) J'):avc yb9 G 45 zII (zcq yb9 [.cell 6 53] R) a J1:=by
 have hx1:=h1.hx
 have hxo:¬x=J1.no:=by omega
 have hne:¬o=J1.no:=by omega
 have A2:∀cs,zb J1 ((J1.newO zQ).setO J1.no cs):=λcs=>(zb.refl J1).newO.setO (yah _)
 obtain⟨at0,lv0,ls0,hoq,_⟩:=h1.opn
 have hnest:∀w so',(d<=400->∀s,so1=.ok s->zad (λd o s=>zw k d o [] s) (zag t) d s=so'.map λs=>(w,s))->(∀e,so1=.error e->so'=.error e)->zdZ so1 (zad (λd o s=>zw k d o [] s) (zag t) d) w so':=λw so' q1 q2=>by
  unfold zdZ
  cases so1 with
  | error e=>rw[q2 e rfl];rfl
  | ok s=>exact q1 (by
    by_cases q:d<=400
    .exact q
    .obtain⟨e,he⟩:=h401 (by omega);cases he) s rfl
 have e1:t=zcF\/t=zfH\/t=tIf:=by
  unfold zag at ht
  by_cases q:t=zcF
  .exact .inl q
  .by_cases q2:t=zfH
   .exact .inr (.inl q2)
   .by_cases q3:t=tIf
    .exact .inr (.inr q3)
    .rw[if_neg q,if_neg q2,if_neg q3]at ht;exact absurd rfl ht
 -- blocks and loops
 have one:∀(op:Int) (J2:AS),op=zag t->op≠13->zb J1 J2->∀n t' so' J',so1.bind (λs=>zw k d false [] s)=so'.map (λs'=>((n,t'),s'))->RwS base x b so' J'->zba x J2 J'->∀c1 c2,R (.ret (nW op n 0).av) ((J'.setO J1.no c1).setO o c2):=λop J2 q1 q2 A n t' so' J' g hR hK c1 c2=>by
  refine hs (nW op n 0) so' _ (hnest _ _ (λhd s e=>?_) λe he=>?_) ((hR.other hxo).other hox) ((((K1.trans (A.keepQ hx1)).trans hK).other (by have:=K1.no;omega) hxo).other ho hox)
  .rw[zkD hd,<-q1]
   subst e
   simp only[if_neg q2,decide_eq_false q2]
   have g':zw k d false [] s=so'.map λs'=>((n,t'),s'):=g
   rw[g']
   cases so'<;>rfl
  .subst he
   cases so' with
   | error e'=>cases g;rfl
   | ok s=>cases g
 rcases e1 with e|e|e
 .subst e
  simp[zII,zbI,zkW,zcF,a0,a1,a2,a6,splice]
  have A:=A2 (nWs 11 0 0)
  have z2:((J1.newO zQ).setO J1.no (nWs 11 0 0)).objs J1.no=some (nWs 11 0 0):=by simp
  have n2:J1.no<((J1.newO zQ).setO J1.no (nWs 11 0 0)).no:=by simp
  have k6:=(A.obj o ho1).trans ho6
  have hR2:=h1.adds A
  refine IH ((J1.newO zQ).setO J1.no (nWs 11 0 0)) _ d false so1 hd4 h401 hR2 hb λn t' so' J' g _ _ hR hK=>?_
  have z3:=(hK.obj J1.no n2 (λq=>hxo q.symm)).trans z2
  have z6:=(hK.obj o (by omega) (λq=>hox q.symm)).trans k6
  simp[zcF,a0,a1,a2,a6,z3,z6,splice,hne]
  exact one 11 _ (by decide) (by decide) A n t' so' J' g hR hK _ _
 .subst e
  simp[zII,zbI,zkW,zfH,a0,a1,a2,a6,splice]
  have A:zb J1 (((J1.newO zQ).setO J1.no (nWs 11 0 0)).setO J1.no (nWs 12 0 0)):=(A2 (nWs 11 0 0)).setO (yah _)
  have z2:(((J1.newO zQ).setO J1.no (nWs 11 0 0)).setO J1.no (nWs 12 0 0)).objs J1.no=some (nWs 12 0 0):=by simp
  have n2:J1.no<(((J1.newO zQ).setO J1.no (nWs 11 0 0)).setO J1.no (nWs 12 0 0)).no:=by simp
  have k6:=(A.obj o ho1).trans ho6
  have hR2:=h1.adds A
  refine IH (((J1.newO zQ).setO J1.no (nWs 11 0 0)).setO J1.no (nWs 12 0 0)) _ d false so1 hd4 h401 hR2 hb λn t' so' J' g _ _ hR hK=>?_
  have z3:=(hK.obj J1.no n2 (λq=>hxo q.symm)).trans z2
  have z6:=(hK.obj o (by omega) (λq=>hox q.symm)).trans k6
  simp[zfH,a0,a1,a2,a6,z3,z6,splice,hne]
  exact one 12 _ (by decide) (by decide) A n t' so' J' g hR hK _ _
 .subst e
  simp[zII,zbI,zkW,tIf,a0,a1,a2,a6,splice]
  have A:=A2 (nWs 11 0 0)
  have z2:((J1.newO zQ).setO J1.no (nWs 11 0 0)).objs J1.no=some (nWs 11 0 0):=by simp
  have n2:J1.no<((J1.newO zQ).setO J1.no (nWs 11 0 0)).no:=by simp
  have k6:=(A.obj o ho1).trans ho6
  have hR2:=h1.adds A
  have K2:=K1.trans (A.keepQ hx1)
  have hno1:=K1.no
  refine IH ((J1.newO zQ).setO J1.no (nWs 11 0 0)) _ d true so1 hd4 h401 hR2 hb λn t' so' J' g _ _ hR hK=>?_
  have z3:=(hK.obj J1.no n2 (λq=>hxo q.symm)).trans z2
  have z6:=(hK.obj o (by omega) (λq=>hox q.symm)).trans k6
  have hnoK:=hK.no
  have K3:=K2.trans hK
  by_cases hel:t'=zaX
  .have hel':t'=[101,108,115,101]:=hel
   simp[tIf,a0,a1,a2,a6,z3,z6,splice,hne,hel']
   have z4:(((J'.setO J1.no (nWs 11 n 0)).setO J1.no (nWs 13 n 0)).setO J1.no (nWs 13 n (-1))).objs J1.no=some (nWs 13 n (-1)):=by simp
   have z7:(((J'.setO J1.no (nWs 11 n 0)).setO J1.no (nWs 13 n 0)).setO J1.no (nWs 13 n (-1))).objs o=some zQ:=by simp[hne,z6]
   have hR4:RwS base x b so' (((J'.setO J1.no (nWs 11 n 0)).setO J1.no (nWs 13 n 0)).setO J1.no (nWs 13 n (-1))):=((hR.other hxo).other hxo).other hxo
   have K4:zba x J (((J'.setO J1.no (nWs 11 n 0)).setO J1.no (nWs 13 n 0)).setO J1.no (nWs 13 n (-1))):=((K3.other hno1 hxo).other hno1 hxo).other hno1 hxo
   have n4:(((J'.setO J1.no (nWs 11 n 0)).setO J1.no (nWs 13 n 0)).setO J1.no (nWs 13 n (-1))).no=J'.no:=by simp
   refine IH (((J'.setO J1.no (nWs 11 n 0)).setO J1.no (nWs 13 n 0)).setO J1.no (nWs 13 n (-1))) _ d false so' hd4 (λq=>?_) hR4 (λs' e'=>?_) λn3 t3 so3 J3 g3 _ _ hR5 hK5=>?_
   .obtain⟨e,he⟩:=h401 q
    subst he
    cases so' with
    | error e'=>exact⟨_,rfl⟩
    | ok s=>cases g
   .subst e'
    cases so1 with
    | error e=>cases g
    | ok s =>
     obtain⟨b1,b2⟩:=hb s rfl
     have g':zw k d true [] s=.ok ((n,t'),s'):=g
     have hle:=zdX _ _ _ _ _ _ _ g'
     have l1:=hle.1
     have l2:=hle.2
     exact⟨by omega,by omega⟩
   .have z8:=(hK5.obj J1.no (by omega) (λq=>hxo q.symm)).trans z4
    have z9:=(hK5.obj o (by omega) (λq=>hox q.symm)).trans z7
    simp[tIf,a0,a1,a2,a6,z8,z9,splice,hne]
    refine hs (nW 13 n n3) so3 _ (hnest _ _ (λhd s e=>?_) λe he=>?_) ((hR5.other hxo).other hox) (((K4.trans hK5).other hno1 hxo).other ho hox)
    .rw[zkD hd,show zag tIf=13 from rfl]
     subst e
     simp only[if_true,decide_true]
     have g':zw k d true [] s=so'.map λs'=>((n,t'),s'):=g
     rw[g']
     cases so' with
     | error e =>
      cases so3 with
      | error e'=>cases g3;rfl
      | ok s3=>cases g3
     | ok s2 =>
      have g3':zw k d false [] s2=so3.map λs'=>((n3,t3),s'):=g3
      simp only[Except.map,Except.bind,if_pos hel]
      rw[g3']
      cases so3<;>rfl
    .subst he
     cases so' with
     | error e' =>
      cases g
      cases so3 with
      | error e''=>cases g3;rfl
      | ok s3=>cases g3
     | ok s=>cases g
  .have hel':¬t'=[101,108,115,101]:=hel
   simp[tIf,a0,a1,a2,a6,z3,z6,splice,hne,hel']
   refine hs (nW 13 n (-1)) so' _ (hnest _ _ (λhd s e=>?_) λe he=>?_) ((((hR.other hxo).other hxo).other hxo).other hox) ((((K3.other hno1 hxo).other hno1 hxo).other hno1 hxo).other ho hox)
   .rw[zkD hd,show zag tIf=13 from rfl]
    subst e
    simp only[if_true,decide_true]
    have g':zw k d true [] s=so'.map λs'=>((n,t'),s'):=g
    rw[g']
    cases so' with
    | error e=>rfl
    | ok s2 =>
     simp only[Except.map,Except.bind]
     rw[if_neg hel]
   .subst he
    cases so' with
    | error e'=>cases g;rfl
    | ok s=>cases g
theorem znr{base x b so t}{k d:Nat}(h:RwS base x b so J)(ht:zag t≠0)(hd4:d<=401)(hb:∀s,so=.ok s->s.b.length<k/\s.ls.length+s.b.length<=2^15)(IH:ztc G base x b k)
  (hs:∀w so' J',zdZ so (zad (λd o s=>zw k d o [] s) (zag t) d) w so'->RwS base x b so' J'->zba x J J'->R (.ret w.av) J'):zzQ G 178 [.ptr x 0,.str t,.int .i64 (d:Int)] J R:=by
 refine zxR rfl ?_
 have hx:=h.hx
 obtain⟨at0,lv0,ls0,hoq,_⟩:=h.opn
 have A:zb J (J.newO zQ):=(zb.refl J).newO
 have hR1:=h.adds A
 have hK1:=A.keepP hx hoq
 have z1:(J.newO zQ).objs J.no=some zQ:=by simp
 have n1:J.no<(J.newO zQ).no:=by simp
 have hxo:¬x=J.no:=by omega
 rw[zAC]
 by_cases h4:400<d
 .have h4':(400:Int)<(d:Int):=by omega
  simp[zd7,zbI,zkW,h4']
  refine zbg (c:=3) (by decide) hR1 λJ2 hR2 hK2=>?_
  have z2:=(hK2.obj J.no n1 (λq=>hxo q.symm)).trans z1
  have n2:=hK2.no
  simp
  refine zr2 (o:=J.no) hR2 (hK1.trans hK2).r (by simp) (by simp) (by simp) (by simp) z2 (yah _) (yag n1 n2) hxo ht hd4 (λ_=>?_) (λs q=>?_) IH λw so' J' g hR hK=>hs w so' J' ?_ hR hK
  .cases so<;>exact⟨_,rfl⟩
  .cases so<;>cases q
  .unfold zdZ at g ⊢
   cases so with
   | error e=>exact g
   | ok s =>
    simp only[zds,Except.bind]at g ⊢
    rw[<-g]
    unfold zad
    rw[if_pos h4]
 .have h4':¬(400:Int)<(d:Int):=by omega
  simp[zd7,zbI,zkW,h4']
  exact zr2 (o:=J.no) hR1 hK1.r (by simp) (by simp) (by simp) (by simp) z1 (yah _) n1 hxo ht hd4 (λq=>by omega) hb IH hs
end
def zld:PC->PC
 | .block _ p=>p
 | p=>p
def ztd:PC:=zbI (zbI (zld (zbI zG)))
def zBZ:PC:=zbI ztd
def zKb:PC:=zbI zBZ
theorem zEx:ztd=.seq (zd7 ztd) zBZ:=rfl
theorem zEy:zBZ=.seq (zd7 zBZ) zKb:=rfl
def ClQ(base x:Nat)(b:List UInt8)(J:AS)(l:List W)(d:Nat)(o:Bool)(so:Res Ts)(f:Ts->Res (W × Ts))(Q:AQ):Prop:=∀(w:W) (so2:Res Ts) (a':Nat->AV) (Z':AS),zdZ so f w so2->a' 0=.ptr x 0->a' 1=.int .i64 (d:Int)->a' 2=.bool o->zgl J x 6 Z' (a' 8) (l.map W.av++[w.av])->RwS base x b so2 Z'->zba x J Z'->Q .normal a' Z'/\Q (.exit 1) a' Z'
section
variable {G : Env} {J : AS} {R : Out -> AS -> Prop}
theorem zIJ{base x b so so1 f w}{l:List W}{d:Nat}{o:Bool}{Q:AQ}{a:Nat->AV}{J1:AS}{ok:Bool}{ob:Nat}(a0:a 0=.ptr x 0)(a1:a 1=.int .i64 (d:Int))(a2:a 2=.bool o)(a10:a 10=.ptr ob 0)(a11:a 11=.bool ok)(hob:J1.objs ob=some w.cs)(hol:ob<J1.no)(hox:¬x=ob)(hR:RwS base x b so1 J1)(hG:zgl J x 6 J1 (a 8) (l.map W.av))(hK:zba x J J1)(hσ:base<=J.nf)(hl:l.length<=2^15)
  (h1:ok=true->zdZ so f w so1) (h2:ok=false->zdZ so f w (zds 2 so1)) (hc:ClQ base x b J l d o so f Q):avc yb9 G 89 zKb Q a J1:=by
 have hob':=hob
 simp only[W.cs]at hob'
 cases ok with
 | true =>
  have g1:=hG.one
  simp[zKb,zBZ,ztd,zbI,zld,zG,a0,a1,a2,a10,a11,hob',g1]
  refine zko (row:=w.av) hG hR hK hσ (by simp[W.av,W.cs]) (by simp;omega) λv' Z' e1 e2 e3 _ _ _=>?_
  simp
  exact(hc w so1 _ Z' (h1 rfl) (by simp[a0]) (by simp[a1]) (by simp[a2]) (by simpa using e1) e2 e3).1
 | false =>
  simp[zKb,zBZ,ztd,zbI,zld,zG,a0,a1,a2,a10,a11,hob']
  refine zbg (c:=2) (by decide) hR λJ2 hR2 hK2=>?_
  have hG2:=hG.keep hK2.r
  have g2:=hG2.one
  have hob2:=(hK2.obj ob hol (λq=>hox q.symm)).trans hob'
  simp[a0,a1,a2,a10,a11,hob2,g2]
  refine zko (row:=w.av) hG2 hR2 (hK.trans hK2.r) hσ (by simp[W.av,W.cs]) (by simp;omega) λv' Z' e1 e2 e3 _ _ _=>?_
  simp
  exact(hc w (zds 2 so1) _ Z' (h2 rfl) (by simp[a0]) (by simp[a1]) (by simp[a2]) (by simpa using e1) e2 e3).1
theorem zvO{base x b so t}{l:List W}{d:Nat}{o:Bool}{Q:AQ}{a:Nat->AV}{J1:AS}(a0:a 0=.ptr x 0)(a1:a 1=.int .i64 (d:Int))(a2:a 2=.bool o)(a9:a 9=.str t)(hR:RwS base x b so J1)(hG:zgl J x 6 J1 (a 8) (l.map W.av))(hK:zba x J J1)(hσ:base<=J.nf)(hl:l.length<=2^15)
  (hc:ClQ base x b J l d o so (zbA t) Q):avc yb9 G 89 zBZ Q a J1:=by
 rw[zEy]
 simp[zd7,zBZ,ztd,zbI,zld,zG,a0,a1,a2,a9]
 refine zAB hR λw ok so2 J2 h1 h2 hR2 hK2=>?_
 have g2:=(hG.keep hK2.r).one
 have hx2:=hR2.hx
 obtain⟨at2,lv2,ls2,ho2,_⟩:=hR2.opn
 have hxo:¬x=J2.no:=by omega
 have A:zb J2 ((J2.newO zQ).setO J2.no w.cs):=(zb.refl J2).newO.setO (yah _)
 have z2:((J2.newO zQ).setO J2.no w.cs).objs J2.no=some w.cs:=by simp
 have n2:J2.no<((J2.newO zQ).setO J2.no w.cs).no:=by simp
 simp[W.av,W.cs,a0,a1,a2,splice]
 refine zIJ (f:=zbA t) (so:=so) (ok:=ok) (w:=w) (ob:=J2.no) (l:=l) (d:=d) (o:=o) (by simp[a0]) (by simp[a1]) (by simp[a2]) (by simp) (by simp) z2 n2 hxo (hR2.adds A) (by simpa [W.cs]using (hG.keep hK2.r).keep (A.keepQ hx2)) ((hK.trans hK2.r).trans (A.keepQ hx2)) hσ hl h1 (λq=>?_) hc
 obtain⟨rfl,h3⟩:=h2 q
 unfold zdZ
 cases so2 with
 | error e=>rfl
 | ok s =>
  show zbA t s=_
  rw[h3 s]
  rfl
theorem zIK{base x b so t}{l:List W}{d k:Nat}{o:Bool}{Q:AQ}{a:Nat->AV}{J1:AS}(a0:a 0=.ptr x 0)(a1:a 1=.int .i64 (d:Int))(a2:a 2=.bool o)(a9:a 9=.str t)(hd:d<=400)(hb:∀s,so=.ok s->s.b.length<k/\s.ls.length+s.b.length<=2^15)(IH:ztc G base x b k)(hR:RwS base x b so J1)(hG:zgl J x 6 J1 (a 8) (l.map W.av))(hK:zba x J J1)(hσ:base<=J.nf)(hl:l.length<=2^15)
  (hc:ClQ base x b J l d o so (zaI (λd o s=>zw k d o [] s) t d) Q):avc yb9 G 89 ztd Q a J1:=by
 have wd:yb4 .i64 ((d:Int)+1)=((d+1:Nat):Int):=by rw[wrap_i64]<;>omega
 have g1:=hG.one
 rw[zEx]
 by_cases ht:zag t=0
 .have hf:zaI (λd o s=>zw k d o [] s) t d=zbA t:=by funext s;unfold zaI;rw[if_pos ht]
  rw[hf]at hc
  have n1:¬t=[98,108,111,99,107]:=λq=>by subst q;revert ht;decide
  have n2:¬t=[108,111,111,112]:=λq=>by subst q;revert ht;decide
  have n3:¬t=[105,102]:=λq=>by subst q;revert ht;decide
  simp[zd7,ztd,zbI,zld,zG,a0,a1,a2,a9,n1,n2,n3]
  exact zvO (by simp[a0]) (by simp[a1]) (by simp[a2]) (by simp[a9]) hR (by simpa using hG) hK hσ hl hc
 .have hf:zaI (λd o s=>zw k d o [] s) t d=zad (λd o s=>zw k d o [] s) (zag t) (d+1):=by funext s;unfold zaI;rw[if_neg ht]
  rw[hf]at hc
  have e1:t=zcF\/t=zfH\/t=tIf:=by
   unfold zag at ht
   by_cases q:t=zcF
   .exact .inl q
   .by_cases q2:t=zfH
    .exact .inr (.inl q2)
    .by_cases q3:t=tIf
     .exact .inr (.inr q3)
     .rw[if_neg q,if_neg q2,if_neg q3]at ht;exact absurd rfl ht
  rcases e1 with e|e|e
  .subst e
   simp[zd7,ztd,zbI,zld,zG,a0,a1,a2,a9,zcF,wd,g1]
   refine znr (t:=zcF) (d:=d+1) (k:=k) hR (by decide) (by omega) hb IH λw so' J' q1 q2 q3=>?_
   have hG2:=hG.keep q3
   have g2:=hG2.one
   simp[W.av,W.cs,a0,a1,a2,g2]
   refine zko (row:=w.av) hG2 q2 (hK.trans q3) hσ (by simp[W.av,W.cs]) (by simp;omega) λv' Z' e1 e2 e3 _ _ _=>?_
   simp
   exact(hc w so' _ Z' q1 (by simp[a0]) (by simp[a1]) (by simp[a2]) (by simpa using e1) e2 e3).2
  .subst e
   simp[zd7,ztd,zbI,zld,zG,a0,a1,a2,a9,zfH,wd,g1]
   refine znr (t:=zfH) (d:=d+1) (k:=k) hR (by decide) (by omega) hb IH λw so' J' q1 q2 q3=>?_
   have hG2:=hG.keep q3
   have g2:=hG2.one
   simp[W.av,W.cs,a0,a1,a2,g2]
   refine zko (row:=w.av) hG2 q2 (hK.trans q3) hσ (by simp[W.av,W.cs]) (by simp;omega) λv' Z' e1 e2 e3 _ _ _=>?_
   simp
   exact(hc w so' _ Z' q1 (by simp[a0]) (by simp[a1]) (by simp[a2]) (by simpa using e1) e2 e3).2
  .subst e
   simp[zd7,ztd,zbI,zld,zG,a0,a1,a2,a9,tIf,wd,g1]
   refine znr (t:=tIf) (d:=d+1) (k:=k) hR (by decide) (by omega) hb IH λw so' J' q1 q2 q3=>?_
   have hG2:=hG.keep q3
   have g2:=hG2.one
   simp[W.av,W.cs,a0,a1,a2,g2]
   refine zko (row:=w.av) hG2 q2 (hK.trans q3) hσ (by simp[W.av,W.cs]) (by simp;omega) λv' Z' e1 e2 e3 _ _ _=>?_
   simp
   exact(hc w so' _ Z' q1 (by simp[a0]) (by simp[a1]) (by simp[a2]) (by simpa using e1) e2 e3).2
theorem RwS.push{base x b s Z g tos lv lv0 l at_}(h0:RwS base x b (.ok s) Z)(h:Rw base x b at_ 0 lv0 s.ls Z)(hsb:s.b=b.drop at_)(ht:All2 Al.RepE tos s.ls)(hG:zgl J x 6 Z lv (l.map W.av))(hσ:base<=J.nf){Z':AS}(e1:Z'.objs=upd Z.objs x (some [.str b,.int .i64 (at_:Int),.int .i64 0,.sl (.fam Z.nf false) 1 (tos++[lv])]))(e2:Z'.no=Z.no)(e3:Z'.nf=Z.nf+1)(e4:Z'.F Z.nf=.alive)
  (e5:∀f,f<Z.nf->¬zbo Z x f->Z'.F f=Z.F f) (K:zba x J Z) (hg:∀f,zbo Z x f->f=g) {v:AV} (hmv:∀f,Go.Abs.mrg f v=v) (hR:∀J',RwS base x b (.ok { s with ls:=s.ls++[l] }) J'->zba x J J'->R (.ret v) J'):Al.MrgOr R (.ret v) Z':=by
 have hb:=h.hb
 have hn:=K.nf
 have base0:∀J':AS,J'.no=Z.no->J'.nf=Z.nf+1->(∀o,o≠x->J'.objs o=Z.objs o)->(∃tos',J'.objs x=some [.str b,.int .i64 (at_:Int),.int .i64 0,.sl (.fam Z.nf false) 1 tos']/\All2 Al.RepE tos' (s.ls++[l]))->J'.F Z.nf=.alive ->
   (∀f,f<Z.nf->¬zbo Z x f->f<J.nf\/f<base->J'.F f=Z.F f)->R (.ret v) J':=by
  intro J' a1 a2 a3 ⟨tos',a4,a6⟩ a7 a8
  have nb:∀f,f<base->¬zbo Z x f:=λf hf u=>by have:=(h0.lt u).2;omega
  refine hR J' ⟨at_,0,_,_,⟨by rw[a1];exact h.hx,⟨hb.1,by omega⟩,?_,h.le,h.hl,.inr ⟨Z.nf,tos',rfl,hb.2,by omega,a7,a6⟩,a4⟩,rfl,hsb,rfl⟩ ⟨by rw[a1];exact K.no,by omega,λo h1 h2=>(a3 o h2).trans (K.obj o h1 h2),λf h1 h2=>?_,λf h1 h2=>?_⟩
  .rw[a8 0 (by omega) (nb 0 hb.1) (.inr hb.1)];exact h.h0
  .have hu:¬zbo Z x f:=λu=>h2 (K.use f h1 u)
   rw[a8 f (by omega) hu (.inl h1)]
   exact K.fam f h1 h2
  .obtain⟨cs,v,q1,q2,q3⟩:=h2
   rw[a4]at q1
   cases q1
   simp at q2
   subst q2
   simp[zcJ]at q3
   omega
 rcases hG with ⟨h1,rfl⟩|⟨f,rfl,h2,h3,h4,h5⟩
 .have hl:l=[]:=by simpa using h1
  subst hl
  exact .inl (base0 Z' e2 e3 (λo ho=>by rw[e1];simp[ho]) ⟨tos++[.nilsl],by rw[e1];simp,ht.append (.cons (.inl ⟨rfl,rfl⟩) .nil)⟩ e4 (λf q1 q2 _=>e5 f q1 q2))
 .refine Al.MrgOr.merged f (λo=>o==x) (by omega) (by rw[e5 f h3 h5];exact h4) ?_
  rw[hmv]
  refine base0 _ e2 e3 (λo ho=>by simp[AS.mrg,e1,ho]) ⟨tos++[.sl (.fam 0 false) 6 (l.map W.av)],?_,ht.append (.cons (.inr ⟨_,rfl⟩) .nil)⟩ ?_ (λf' q1 q2 q3=>?_)
  .have:¬Z.nf=f:=by omega
   simp[AS.mrg,e1,Al.mrg_rows ht,this,Function.comp_def,Al.mrg_W]
  .have:¬Z.nf=f:=by omega
   simp[AS.mrg,zkJ,this,e4]
  .have:¬f'=f:=by omega
   simp only[AS.mrg,zkJ,zeD,this,if_false]
   exact e5 f' q1 q2
def zhG(so:Res Ts):Nat:=match so with|.error _=>0|.ok s=>s.b.length+1
def LsD(base x:Nat)(b:List UInt8)(d k0:Nat)(o:Bool)(so0:Res Ts)(J:AS)(a:Nat->AV)(Z:AS):Prop:=∃(k:Nat) (l:List W) (so:Res Ts),so0.bind (λs=>zw k0 d o [] s)=so.bind (λs=>zw k d o l s)/\k<=k0/\(∀s,so=.ok s->s.b.length<k/\s.ls.length+s.b.length<=2^15)/\l.length+zhG so<=2^15/\a 0=.ptr x 0/\a 1=.int .i64 (d:Int)/\a 2=.bool o/\zgl J x 6 Z (a 8) (l.map W.av)/\RwS base x b so Z/\zba x J Z/\(401<=d->∃e,so=.error e)
def zte:PC:=zbI (zld (zbI zG))
theorem zvP:zte=.seq (zd7 zte) ztd:=rfl
theorem zpb:zG=.seq (zd7 zG) (.block 1 (.seq (zd7 (zld (zbI zG))) zte)):=rfl
theorem ztf{d:Nat}{o:Bool}{t:List UInt8}(h:zcS d o t=false):(t=zbE/\d=0)\/(¬t=zbE/\t=zd/\d≠0)\/(¬t=zbE/\¬t=zd/\t=zaX/\o=false)\/(¬t=zbE/\¬t=zd/\¬t=zaX):=by
 unfold zcS at h
 simp only[Bool.or_eq_false_iff,Bool.and_eq_false_iff,decide_eq_false_iff_not]at h
 obtain⟨h1,h2,h3⟩:=h
 by_cases q1:t=zbE
 .exact .inl ⟨q1,by rcases h1 with h|h<;>first|exact absurd q1 h|omega⟩
 .by_cases q2:t=zd
  .exact .inr (.inl ⟨q1,q2,by rcases h2 with h|h<;>first|exact absurd q2 h|exact h⟩)
  .by_cases q3:t=zaX
   .exact .inr (.inr (.inl ⟨q1,q2,q3,by rcases h3 with h|h<;>first|exact absurd q3 h|exact h⟩))
   .exact .inr (.inr (.inr ⟨q1,q2,q3⟩))
theorem ztg{base x b so0}{k0 d:Nat}{o:Bool}(hd:d<=401)(hσ:base<=J.nf)(IH:∀j,j<k0->ztc G base x b j)
  (hs:∀(n:Int) (t:List UInt8) so' J',so0.bind (λs=>zw k0 d o [] s)=so'.map (λs'=>((n,t),s'))->-(2^63)<=n->n<2^63->RwS base x b so' J'->zba x J J'->R (.ret (.tuple [.int .i64 n,.str t])) J')
  {a:Nat->AV} {Z:AS} (hI:LsD base x b d k0 o so0 J a Z):avc yb9 G 89 zG (zan (λa' J'=>LsD base x b d k0 o so0 J a' J'/\MBw x a' J'<MBw x a Z) (zai 0 (zan (avc yb9 G 89 zmH (zcq yb9 [.tmp 6,.tmp 7] (Al.MrgOr R))) (zcq yb9 [.tmp 6,.tmp 7] (Al.MrgOr R))))) a Z:=by
 obtain⟨k,l,so,he,hk,hsb,hlb,a0,a1,a2,hG,hR,hK,h401⟩:=hI
 obtain⟨atx,lvx,lsx,ho,lo,_⟩:=hR.opn
 cases so with
 | error e =>
  have hne:=hR.ne
  simp only[zej]at ho
  simp[zG,a0,ho,lo,hne,zmH]
  exact .inl (hs 0 [] (.error e) _ (by rw[he];rfl) (by decide) (by decide) hR hK)
 | ok s =>
  simp only[zej]at ho
  have hd4:d<=400:=by
   by_cases q:401<=d
   .obtain⟨e,h⟩:=h401 q;cases h
   .omega
  obtain⟨hsk,hsl⟩:=hsb s rfl
  obtain⟨k,rfl⟩:∃j,k=j+1:=⟨k-1,by omega⟩
  obtain⟨m0,m1,m2⟩:=zid hR a
  rw[zpb]
  simp[zd7,zG,zld,zbI,a0,ho,lo]
  refine zhC hR λt so1 J1 g e1 e2 hR1 hK1=>?_
  have he1:so0.bind (λs=>zw k0 d o [] s)=so1.bind λs1=>if zcS d o t=true then .ok (((s1.ls.length:Int),t),{ s1 with ls:=s1.ls++[l] })else(zaI (λd o s=>zw k d o [] s) t d s1).bind λq=>zw k d o (l++[q.1]) q.2:=by
   rw[he]
   simp only[Except.bind]
   rw[zw,show zaj s=_ from g]
   cases so1<;>rfl
  have hKK:=hK.trans hK1.r
  have hG1:=hG.keep hK1.r
  have g1:=hG1.one
  by_cases hc:zcS d o t=true
  .obtain⟨s1,rfl⟩:∃s1,so1=.ok s1:=by
    cases so1 with
    | error e =>
     have:=e1 e rfl
     subst this
     revert hc
     unfold zcS
     simp[zbE,zd,zaX]
    | ok s1=>exact⟨s1,rfl⟩
   have he2:so0.bind (λs=>zw k0 d o [] s)=.ok (((s1.ls.length:Int),t),{ s1 with ls:=s1.ls++[l] }):=by rw[he1];simp only[Except.bind,if_pos hc]
   obtain⟨_,q1,q2,q3⟩:=zfz g rfl rfl
   have ht1:1<=t.length:=ybm.2 q2
   obtain⟨at1,lv1,ls1,ho1,l1,hto1,hle1,hl1,hm1,hq⟩:=hR1.opn
   obtain⟨m3,m4⟩:=hm1 s1 rfl
   subst m4
   simp only[zej]at ho1 hq
   have hlen:s1.ls.length<=2^15:=by rw[q3];omega
   have wl:yb4 .i64 (s1.ls.length:Int)=(s1.ls.length:Int):=by rw[wrap_i64]<;>omega
   have fin:∀Z':AS,∀tos g,All2 Al.RepE tos s1.ls->(∀f,zbo J1 x f->f=g)->Z'.objs=upd J1.objs x (some [.str b,.int .i64 (at1:Int),.int .i64 0,.sl (.fam J1.nf false) 1 (tos++[a 8])])->Z'.no=J1.no->Z'.nf=J1.nf+1->Z'.F J1.nf=.alive->(∀f,f<J1.nf->¬zbo J1 x f->Z'.F f=J1.F f) ->
     Al.MrgOr R (.ret (.tuple [.int .i64 (s1.ls.length:Int),.str t])) Z':=λZ' tos g t1 t2 t3 t4 t5 t6 t7 =>
    RwS.push hR1 hq m3 t1 hG1 hσ t3 t4 t5 t6 t7 hKK t2 (by intro f;simp) λJ' r1 r2=>hs _ t _ J' (by rw[he2];rfl) (by omega) (by omega) r1 r2
   have hcc:(t=[101,110,100]/\(0:Int)<(d:Int)/\0<d)\/(t=[41]/\d=0)\/(t=[101,108,115,101]/\o=true):=by
    unfold zcS at hc
    simp only[Bool.or_eq_true,Bool.and_eq_true,decide_eq_true_eq]at hc
    rcases hc with ⟨h,h'⟩|⟨h,h'⟩|⟨h,h'⟩
    .exact .inl ⟨h,by omega,h'⟩
    .exact .inr (.inl ⟨h,h'⟩)
    .exact .inr (.inr ⟨h,h'⟩)
   rw[zvP]
   rcases hto1 with ⟨hl0,rfl⟩|⟨gf,tos,rfl,t1,t2,t3,t4⟩
   .have key:=fin ((J1.newF).setO x [.str b,.int .i64 (at1:Int),.int .i64 0,.sl (.fam J1.nf false) 1 ([]++[a 8])]) [] 0 (by rw[hl0];exact .nil) (λf ⟨cs,v,u1,u2,u3⟩=>by rw[ho1]at u1;cases u1;simp at u2;subst u2;cases u3) (by simp) (by simp) (by simp) (by simp) (λf h1 h2=>by
     have:¬f=J1.nf:=by omega
     simp[this])
    rw[hl0]at key
    have wz:yb4 .i64 0=0:=rfl
    rcases hcc with ⟨h1,h2,h3⟩|⟨h1,h2⟩|⟨h1,h2⟩
    .subst h1
     simp[zd7,zte,zG,zld,zbI,a0,a1,a2,ho1,g1,splice,h2,h3,wz]
     simpa using key
    .subst h1 h2
     simp[zd7,zte,zG,zld,zbI,a0,a1,a2,ho1,g1,splice,wz]
     simpa using key
    .subst h1 h2
     simp[zd7,zte,zG,zld,zbI,a0,a1,a2,ho1,g1,splice,wz]
     simpa using key
   .have tl:=t4.length
    have key:=fin (((J1.setF gf .dead).newF).setO x [.str b,.int .i64 (at1:Int),.int .i64 0,.sl (.fam J1.nf false) 1 (tos++[a 8])]) tos gf t4 (λf ⟨cs,v,u1,u2,u3⟩=>by rw[ho1]at u1;cases u1;simp at u2;subst u2;simpa [zcJ]using u3.symm) (by simp) (by simp) (by simp) (by simp) (λf h1 h2=>by
     have:¬f=J1.nf:=by omega
     have:¬f=gf:=λe=>h2 ⟨_,_,ho1,rfl,by rw[e];rfl⟩
     simp[*])
    rcases hcc with ⟨h1,h2,h3⟩|⟨h1,h2⟩|⟨h1,h2⟩
    .subst h1
     simp[zd7,zte,zG,zld,zbI,a0,a1,a2,ho1,g1,splice,h2,h3,t3,tl,wl]
     refine⟨by omega,?_⟩
     simpa using key
    .subst h1 h2
     simp[zd7,zte,zG,zld,zbI,a0,a1,a2,ho1,g1,splice,t3,tl,wl]
     refine⟨by omega,?_⟩
     simpa using key
    .subst h1 h2
     simp[zd7,zte,zG,zld,zbI,a0,a1,a2,ho1,g1,splice,t3,tl,wl]
     refine⟨by omega,?_⟩
     simpa using key
  .have hcf:zcS d o t=false:=by simpa using hc
   simp only[if_neg hc]at he1
   have hb1:∀s1,so1=.ok s1->s1.b.length<k/\s1.ls.length+s1.b.length<=2^15/\s1.b.length+1<=s.b.length:=λs1 q=>by
    obtain⟨_,q1,q2,q3⟩:=zfz g rfl q
    have:1<=t.length:=ybm.2 q2
    rw[q3]
    exact⟨by omega,by omega,by omega⟩
   have hlb1:l.length+1+zhG so1<=2^15:=by
    have:zhG so1+1<=zhG (.ok s):=by
     cases so1 with
     | error e=>simp[zhG]
     | ok s1=>have:=(hb1 s1 rfl).2.2;simp[zhG];omega
    omega
   have close:∀(Q:AQ),(∀a' Z',LsD base x b d k0 o so0 J a' Z'->MBw x a' Z'<MBw x a Z->Q .normal a' Z'/\Q (.exit 1) a' Z')->ClQ base x b J l d o so1 (zaI (λd o s=>zw k d o [] s) t d) Q:=λQ hQ w so2 a' Z' h1 b0 b1 b2 h2 h3 h4=>by
    have hin:∀s2,so2=.ok s2->∃s1,so1=.ok s1/\s2.ls.length+s2.b.length<=s1.ls.length+s1.b.length/\s2.b.length<=s1.b.length:=λs2 e=>by
     subst e
     cases so1 with
     | error e=>cases h1
     | ok s1 =>
      have hx:=zkd (λd o s r s' q=>zdX k d o [] s r s' q) (show zaI (λd o s=>zw k d o [] s) t d s1=.ok (w,s2) from h1)
      exact⟨s1,rfl,hx.2,hx.1⟩
    have hleft:zhG so2<=zhG so1:=by
     cases so2 with
     | error e=>simp[zhG]
     | ok s2 =>
      obtain⟨s1,rfl,y1,y2⟩:=hin s2 rfl
      simp only[zhG]
      omega
    refine hQ a' Z' ⟨k,l++[w],so2,?_,by omega,λs2 e=>?_,by simp;omega,b0,b1,b2,by simpa using h2,h3,h4,λq=>by omega⟩ ?_
    .rw[he1]
     have:(so1.bind λs1=>(zaI (λd o s=>zw k d o [] s) t d s1).bind λq=>zw k d o (l++[q.1]) q.2)=(so1.bind (zaI (λd o s=>zw k d o [] s) t d)).bind λq=>zw k d o (l++[q.1]) q.2:=by cases so1<;>rfl
     rw[this,h1]
     cases so2<;>rfl
    .obtain⟨s1,rfl,y1,y2⟩:=hin s2 e
     obtain⟨y3,y4,y5⟩:=hb1 s1 rfl
     exact⟨by omega,by omega⟩
    .cases so2 with
     | error e =>
      rw[zqp h3,m0]
      omega
     | ok s2 =>
      obtain⟨s1,rfl,y1,y2⟩:=hin s2 rfl
      obtain⟨y3,y4,y5⟩:=hb1 s1 rfl
      obtain⟨n0,n1,n2⟩:=zid h3 a'
      rw[n0,m0]
      omega
   rw[zvP]
   have fin:∀(Q:AQ) (a':Nat->AV),(∀a' Z',LsD base x b d k0 o so0 J a' Z'->MBw x a' Z'<MBw x a Z->Q .normal a' Z'/\Q (.exit 1) a' Z')->a' 0=.ptr x 0->a' 1=.int .i64 (d:Int)->a' 2=.bool o->a' 8=a 8->a' 9=.str t->avc yb9 G 89 ztd Q a' J1:=λQ a' hQ b0 b1 b2 b8 b9 =>
    zIK b0 b1 b2 b9 hd4 (λs1 q=>⟨(hb1 s1 q).1,(hb1 s1 q).2.1⟩) (IH k (by omega)) hR1 (by rw[b8];exact hG1) hKK hσ (by omega) (close Q hQ)
   rcases ztf hcf with ⟨q1,q2⟩|⟨n1,q2,q3⟩|⟨n1,n2,q3,q4⟩|⟨n1,n2,n3⟩
   .subst q1 q2
    simp[zd7,zte,zG,zld,zbI,a0,a1,a2,zbE]
    refine fin _ _ (λa' Z' h1 h2=>⟨⟨h1,h2⟩,?_⟩) (by simp[a0]) (by simp[a1]) (by simp[a2]) (by simp) (by simp[zbE])
    simp[zai,zan]
    exact⟨h1,h2⟩
   .subst q2
    have q3':¬(d:Int)=0:=by omega
    simp[zd7,zte,zG,zld,zbI,a0,a1,a2,zd,q3,q3']
    refine fin _ _ (λa' Z' h1 h2=>⟨⟨h1,h2⟩,?_⟩) (by simp[a0]) (by simp[a1]) (by simp[a2]) (by simp) (by simp[zd])
    simp[zai,zan]
    exact⟨h1,h2⟩
   .subst q3 q4
    simp[zd7,zte,zG,zld,zbI,a0,a1,a2,zaX]
    refine fin _ _ (λa' Z' h1 h2=>⟨⟨h1,h2⟩,?_⟩) (by simp[a0]) (by simp[a1]) (by simp[a2]) (by simp) (by simp[zaX])
    simp[zai,zan]
    exact⟨h1,h2⟩
   .have n1':¬t=[101,110,100]:=n1
    have n2':¬t=[41]:=n2
    have n3':¬t=[101,108,115,101]:=n3
    simp[zd7,zte,zG,zld,zbI,a0,a1,a2,n1',n2',n3']
    refine fin _ _ (λa' Z' h1 h2=>⟨⟨h1,h2⟩,?_⟩) (by simp[a0]) (by simp[a1]) (by simp[a2]) (by simp) (by simp)
    simp[zai,zan]
    exact⟨h1,h2⟩
theorem zr3{G:Env}{base x b}:∀k j:Nat,j<=k->ztc G base x b j
 | k,j,hj=>by
  have IH:∀i,i<j->ztc G base x b i:=λi hi=>zr3 (k-1) i (by omega)
  intro J R d o so hd h401 h hb hs
  refine Al.merging (zxs rfl ?_)
  have hl:zhG so<=2^15:=by
   cases so with
   | error e=>simp[zhG]
   | ok s=>have:=h.len;simp[zhG];omega
  simp[zHf]
  refine zy (LsD base x b d j o so J) (MBw x) ⟨j,[],so,rfl,yah _,hb,by simpa using hl,by simp,by simp,by simp,.inl ⟨rfl,by simp⟩,h,.refl ..,h401⟩ λa Z hI=>?_
  exact ztg hd h.base_le IH hs hI
termination_by k j=>j
end
structure zcY(x:Nat)(J J':AS):Prop where
 no:J.no<=J'.no
 nf:J.nf<=J'.nf
 obj:∀o,o<J.no->o≠x->J'.objs o=J.objs o
 fam:∀f,f<J.nf->J'.F f=J.F f
theorem zcY.trans{x J J1 J2}(h:zcY x J J1)(h':zcY x J1 J2):zcY x J J2 where
 no:=yai h.no h'.no
 nf:=yai h.nf h'.nf
 obj o a b:=by rw[h'.obj o (yag a h.no) b,h.obj o a b]
 fam f a:=by rw[h'.fam f (yag a h.nf),h.fam f a]
theorem zW.c{x J J'}(h:zW x J J'):zcY x J J':=⟨h.no,h.nf,h.obj,h.fam⟩
theorem zba.c{x J J'}(h:zba x J J')(hu:∀f,¬zbo J x f):zcY x J J':=⟨h.no,h.nf,h.obj,λf a=>h.fam f a (hu f)⟩
theorem zcY.setO{x J Z o cs}(h:zcY x J Z)(ho:o=x\/J.no<=o):zcY x J (Z.setO o cs) where
 no:=h.no
 nf:=h.nf
 obj p a b:=by
  have:¬p=o:=by rcases ho with h|h<;>omega
  simp[this]
  exact h.obj p a b
 fam:=h.fam
theorem Rd.keepC{x:Nat}{J J':AS}{φ:Go.Abs.Own}(h:Al.Rd J φ)(K:zcY x J J'):Al.Rd J' φ:=by
 cases φ with
 | stat b=>exact trivial
 | fam f b =>
  obtain⟨h1,h2⟩:=h
  exact⟨yag h1 K.nf,(K.fam f h1).trans h2⟩
theorem IntsO.keepC{x:Nat}{J J':AS}{v l}(h:Al.IntsO J v l)(K:zcY x J J'):Al.IntsO J' v l:=by
 rcases h with h|⟨φ,h1,h2⟩
 .exact .inl h
 .exact .inr ⟨φ,h1,Rd.keepC h2 K⟩
theorem RepO.keepC{x:Nat}{J J':AS}{v l}(h:Al.RepO J v l)(K:zcY x J J'):Al.RepO J' v l:=by
 rcases h with h|⟨φ,h1,h2⟩
 .exact .inl h
 .exact .inr ⟨φ,h1,Rd.keepC h2 K⟩
theorem LstO.keepC{x:Nat}{J J':AS}{v l}(h:Al.LstO J v l)(K:zcY x J J'):Al.LstO J' v l:=by
 rcases h with h|⟨φ,rows,h1,h2,h3⟩
 .exact .inl h
 .exact .inr ⟨φ,rows,h1,Rd.keepC h2 K,Al.all2_mono h3 λ_ _ q=>RepO.keepC q K⟩
theorem FVO.keepC{x:Nat}{J J':AS}{v f}(h:Al.FVO J v f)(K:zcY x J J'):Al.FVO J' v f:=by
 obtain⟨pv,lv,tv,e,h1,h2,h3⟩:=h
 exact⟨pv,lv,tv,e,IntsO.keepC h1 K,IntsO.keepC h2 K,LstO.keepC h3 K⟩
theorem zEz{base J v ls}(h:ToR base J v ls)(h0:0<J.nf/\J.F 0=.alive):Al.LstO J v ls:=by
 rcases h with h|⟨g,tos,h1,h2,h3,h4,h5⟩
 .exact .inl h
 .exact .inr ⟨_,tos,h1,⟨h3,h4⟩,Al.all2_mono h5 λ_ _ q=>Al.rep_e h0 q⟩
theorem zAD{v:AV}{l l':List W}(h:Al.RepE v l)(h':Al.RepE v l'):l=l':=by
 have inj:∀{a b:List W},a.map W.av=b.map W.av->a=b:=λ{a}=>by
  induction a with
  | nil=>intro b e;cases b<;>simp at e;rfl
  | cons x a ih =>
   intro b e
   cases b with
   | nil=>simp at e
   | cons y b =>
    simp only[yaL,ydZ.injEq]at e
    obtain⟨e1,e2⟩:=e
    have:x=y:=by
     obtain⟨a1,a2,a3,a4,a5,a6⟩:=x
     obtain⟨b1,b2,b3,b4,b5,b6⟩:=y
     simp[W.av,W.cs]at e1
     simp[e1]
    rw[this,ih e2]
 rcases h with ⟨rfl,rfl⟩|⟨b,rfl⟩
 .rcases h' with ⟨rfl,_⟩|⟨b',e⟩
  .rfl
  .cases e
 .rcases h' with ⟨_,e⟩|⟨b',e⟩
  .cases e
  .simp only[AV.sl.injEq,true_and]at e
   exact inj e.2
theorem zAE{tos:List AV}{ls ls':To}(h:All2 Al.RepE tos ls)(h':All2 Al.RepE tos ls'):ls=ls':=by
 induction h generalizing ls' with
 | nil=>cases h';rfl
 | cons a _ ih =>
  cases h' with
  | cons a' b'=>rw[zAD a a',ih b']
theorem zEA{base base' J J' v ls ls'}(h:ToR base J v ls)(h':ToR base' J' v ls'):ls=ls':=by
 rcases h with ⟨rfl,rfl⟩|⟨g,tos,rfl,_,_,_,h5⟩
 .rcases h' with ⟨rfl,_⟩|⟨g',tos',e,_⟩
  .rfl
  .cases e
 .rcases h' with ⟨_,e⟩|⟨g',tos',e,_,_,_,h5'⟩
  .cases e
  .simp only[AV.sl.injEq,true_and]at e
   obtain⟨_,rfl⟩:=e
   exact zAE h5 h5'
theorem RwS.zero{base x b so J}(h:RwS base x b so J):0<J.nf/\J.F 0=.alive:=by
 obtain⟨_,_,_,_,h,_⟩:=h
 exact⟨by have:=h.hb;omega,h.h0⟩
def zB0(so:Res Ts):Res Ts:=so.map λs=>{ s with ls:=[] }
theorem RwS.clear{base x b so J}(h:RwS base x b so J):∃(at_:Nat) (lv:AV),J.objs x=some [.str b,.int .i64 (at_:Int),.int .i64 (zej so),lv]/\(lv.known=true/\lv.one=true/\lv.cells=[lv]) /\
  RwS base x b (zB0 so) (J.setO x [.str b,.int .i64 (at_:Int),.int .i64 (zej so),.nilsl])/\(∀f,¬zbo (J.setO x [.str b,.int .i64 (at_:Int),.int .i64 (zej so),.nilsl]) x f):=by
 obtain⟨at_,e,lv,ls,h,hm⟩:=h
 have he:e=zej so:=by
  cases so with
  | error e'=>exact hm.1
  | ok s=>exact hm.1
 subst he
 refine⟨at_,lv,h.cells,h.tor.one,⟨at_,zej so,.nilsl,[],⟨h.hx,h.hb,h.h0,h.le,h.hl,.inl ⟨rfl,rfl⟩,by simp⟩,?_⟩,λf u=>?_⟩
 .cases so with
  | error e'=>exact hm
  | ok s=>exact⟨rfl,hm.2.1,rfl⟩
 .obtain⟨cs,v,h1,h2,h3⟩:=u
  simp at h1
  subst h1
  simp at h2
  subst h2
  cases h3
def zAF:PC:=zbI (zbI (zbI (zbI (zbI (zbI zq3)))))
def zB1:PC:=zbI zAF
def zB2:PC:=zbI zB1
def zLk:PC:=zbI zB2
abbrev zF:List AV:=[.str [],.nilsl,.nilsl,.int .i64 0,.nilsl]
structure FnD(base x:Nat)(b:List UInt8)(ro fo:Nat)(J0:AS)(so:Res Ts)(nm:List UInt8)(pv lv:AV)(ty:Int)(Z:AS):Prop where
 rs:RwS base x b so Z
 ks:zW x J0 Z
 fx:¬x=fo
 rx:¬x=ro
 f0:J0.no<=fo
 r0:J0.no<=ro
 lt:fo<Z.no
 lr:ro<Z.no
 ne:¬ro=fo
 ob:Z.objs fo=some [.str nm,pv,lv,.int .i64 ty,.nilsl]
 rb:Z.objs ro=some zF
def zqG(R:Out->AS->Prop)(base x:Nat)(b:List UInt8)(J0:AS)(so:Res Ts)(g:Ts->Res (F × Ts)):Prop:=∀(f:F) (v:AV) so' J',zdZ so g f so'->(∀g',base<=g'->¬zbo J' x g'->Al.FVO (J'.setF g' .dead) v f)->RwS base x b so' J'->zcY x J0 J'->(∀h,h<J0.nf->zbo J' x h->zbo J0 x h)->R (.ret v) J'
section
variable {G : Env} {R : Out -> AS -> Prop}
theorem FnD.keep{base x b ro fo J0 so so' nm pv lv ty Z Z'}(hF:FnD base x b ro fo J0 so nm pv lv ty Z)(hW:RwS base x b so' Z')(K:zW x Z Z'):FnD base x b ro fo J0 so' nm pv lv ty Z' :=
 ⟨hW,hF.ks.trans K,hF.fx,hF.rx,hF.f0,hF.r0,yag hF.lt K.no,yag hF.lr K.no,hF.ne,(K.obj fo hF.lt λq=>hF.fx q.symm).trans hF.ob,(K.obj ro hF.lr λq=>hF.rx q.symm).trans hF.rb⟩
theorem FnD.set{base x b ro fo J0 so nm pv lv ty Z nm' pv' lv' ty'}(hF:FnD base x b ro fo J0 so nm pv lv ty Z):FnD base x b ro fo J0 so nm' pv' lv' ty' (Z.setO fo [.str nm',pv',lv',.int .i64 ty',.nilsl]) :=
 ⟨hF.rs.other hF.fx,hF.ks.other hF.f0 hF.fx,hF.fx,hF.rx,hF.f0,hF.r0,hF.lt,hF.lr,hF.ne,by simp,by simp[hF.ne,hF.rb]⟩
theorem zvQ{base x b ro fo J0 so nm pv lv ty Z P L}{a:Nat->AV}(hF:FnD base x b ro fo J0 so nm pv lv ty Z)(hp:Al.IntsE pv P)(hl:Al.IntsE lv L)(a0:a 0=.ptr x 0)(a2:a 2=.ptr ro 0)(a3:a 3=.ptr fo 0)
  (hs:zqG R base x b J0 so (zoO nm P L ty)):avc yb9 G 69 zLk (zcq yb9 [.cell 2 57] R) a Z:=by
 have p1:=hp.one
 have l1:=hl.one
 obtain⟨at_,lv0,ho,lo,hR1,hu⟩:=hF.rs.clear
 have fx:=hF.fx
 have rx:=hF.rx
 have hne:=hF.ne
 have fx':¬fo=x:=λq=>fx q.symm
 have rx':¬ro=x:=λq=>rx q.symm
 have hne':¬fo=ro:=λq=>hne q.symm
 have of1:(Z.setO x [.str b,.int .i64 (at_:Int),.int .i64 (zej so),.nilsl]).objs fo=some [.str nm,pv,lv,.int .i64 ty,.nilsl]:=by simp[fx',hF.ob]
 have rf1:(Z.setO x [.str b,.int .i64 (at_:Int),.int .i64 (zej so),.nilsl]).objs ro=some zF:=by simp[rx',hF.rb]
 have K1:zcY x J0 (Z.setO x [.str b,.int .i64 (at_:Int),.int .i64 (zej so),.nilsl]):=hF.ks.c.setO (.inl rfl)
 have lt1:fo<(Z.setO x [.str b,.int .i64 (at_:Int),.int .i64 (zej so),.nilsl]).no:=hF.lt
 have lr1:ro<(Z.setO x [.str b,.int .i64 (at_:Int),.int .i64 (zej so),.nilsl]).no:=hF.lr
 simp[zLk,zB2,zB1,zAF,zbI,zq3,a0,a2,a3,ho,lo,splice]
 generalize Z.setO x [.str b,.int .i64 (at_:Int),.int .i64 (zej so),.nilsl]=Z1 at *
 obtain⟨k,hk⟩:∃k,∀s,so=.ok s->k=s.b.length+1:=by
  cases so with
  | error e=>exact⟨0,λs q=>by cases q⟩
  | ok s=>exact⟨_,λs' q=>by cases q;rfl⟩
 have hsl:∀s,so=.ok s->s.b.length<=2^14:=λs q=>by
  have h:=hF.rs
  rw[q]at h
  have:=h.len
  omega
 refine zr3 k k (yah _) Z1 _ 0 false (zB0 so) (by omega) (by omega) hR1 (λs q=>?_) λn t so' J' g _ _ hR2 hK2=>?_
 .cases so with
  | error e=>cases q
  | ok s0 =>
   have:=hsl s0 rfl
   have:=hk s0 rfl
   cases q
   simp
   omega
 .obtain⟨at2,lv2,ls2,ho2,lo2,ht2,_,_,hm2,hw2⟩:=hR2.opn
  have of2:=(hK2.obj fo lt1 fx').trans of1
  have rf2:=(hK2.obj ro lr1 rx').trans rf1
  simp[a0,a2,a3,ho2,lo2,of2,rf2,p1,l1,splice,fx,rx,hne,hne',fx',rx']
  have hz:=hR2.zero
  have KK:=(K1.trans (hK2.c hu)).setO (o:=fo) (cs:=[.str nm,pv,lv,.int .i64 ty,lv2]) (.inr hF.f0)
  refine hs ⟨nm,P,L,ty,ls2⟩ _ so' _ ?_ ?_ ((hR2.other fx).other rx) (KK.setO (.inr hF.r0)) (λh hh u=>?_)
  .unfold zdZ
   cases so with
   | error e =>
    cases so' with
    | error e'=>cases g;rfl
    | ok s'=>cases g
   | ok s =>
    have g':zw k 0 false [] { s with ls:=[] }=so'.map λs'=>((n,t),s'):=g
    show zoO nm P L ty s=_
    unfold zoO
    rw[<-hk s rfl,g']
    cases so' with
    | error e'=>rfl
    | ok s' =>
     have:=(hm2 s' rfl).2
     simp[Except.map,this]
  .intro g' hg' hu'
   have hR3:=((hR2.other fx (cs:=[.str nm,pv,lv,.int .i64 ty,lv2])).other rx (cs:=[.str nm,pv,lv,.int .i64 ty,lv2])).endF hg' hu'
   have hz3:=hR3.zero
   obtain⟨at3,lv3,ls3,ho3,lo3,ht3,_,_,hm3,hw3⟩:=hR3.opn
   simp[fx,rx,ho2]at ho3
   obtain⟨_,rfl⟩:=ho3
   have hls:ls3=ls2:=zEA ht3 ht2
   subst hls
   exact⟨pv,lv,lv2,rfl,Al.ints_e hz3 hp,Al.ints_e hz3 hl,zEz ht3 hz3⟩
  .have u2:zbo J' x h:=by
    obtain⟨cs,v,q1,q2,q3⟩:=u
    exact⟨cs,v,by simpa [fx,rx]using q1,q2,q3⟩
   exact absurd (hK2.use h (yag hh K1.nf) u2) (hu h)
end
section
variable {G : Env} {R : Out -> AS -> Prop}
theorem zpc{w:List UInt8}{so:Res Ts}(hq:∀s,so=.ok s->zfm w s=none):so.bind (zbB w)=so.map λs=>([],s):=by
 cases so with
 | error e=>rfl
 | ok s =>
  show zbB w s=_
  unfold zbB
  rw[hq s rfl]
  rfl
theorem zl1{w:List UInt8}{s s1:Ts}(hq:zfm w s=some s1):zbB w s=zie s1:=by
 unfold zbB
 rw[hq]
 rfl
theorem zfB{α β:Type}{so so1:Res Ts}{f:Ts->Res (α × Ts)}{a:α}{g:α->Ts->Res (β × Ts)}(h:zdZ so f a so1):(so.bind λs=>(f s).bind λq=>g q.1 q.2)=so1.bind (g a):=by
 have:(so.bind λs=>(f s).bind λq=>g q.1 q.2)=(so.bind f).bind λq=>g q.1 q.2:=by cases so<;>rfl
 rw[this,h]
 cases so1<;>rfl
theorem zii{base x b J0 so so1 g g1}(hs:zqG R base x b J0 so g)(h:so.bind g=so1.bind g1):zqG R base x b J0 so1 g1:=λf v so' J' q=>hs f v so' J' (by unfold zdZ at q ⊢;rw[h];exact q)
theorem zkE{base x b ro fo J0 so nm pv ty Z P}{a:Nat->AV}(hF:FnD base x b ro fo J0 so nm pv .nilsl ty Z)(hp:Al.IntsE pv P)(a0:a 0=.ptr x 0)(a2:a 2=.ptr ro 0)(a3:a 3=.ptr fo 0)
  (hs:zqG R base x b J0 so (endF nm P ty)):avc yb9 G 69 zB2 (zcq yb9 [.cell 2 57] R) a Z:=by
 have p1:=hp.one
 have eq:zB2=.seq (zd7 zB2) zLk:=rfl
 have hend:∀s,endF nm P ty s=(zbB zaf s).bind λq=>zoO nm P q.1 ty q.2:=λs=>rfl
 rw[eq]
 simp[zd7,zB2,zB1,zAF,zbI,zq3,a0]
 refine zAn (w:=zaf) hF.rs (by decide) (λq Z1 hW1 K1=>?_) (λs s1 e q Z1 hW1 K1=>?_)
 .simp
  refine zvQ (L:=[]) (hF.keep hW1 K1) hp (.inl ⟨rfl,.inl rfl⟩) (by simp[a0]) (by simp[a2]) (by simp[a3]) (zii hs ?_)
  have:=zfB (g:=λl s=>zoO nm P l ty s) (show zdZ so (zbB zaf) [] so from zpc q)
  exact this
 .subst e
  have hF1:=hF.keep hW1 K1
  simp[a0]
  refine zqq hW1 λv l so2 Z2 g _ hv hW2 K2=>?_
  have hF2:=hF1.keep hW2 K2
  have v1:=hv.one
  have ob2:=hF2.ob
  simp[a0,a2,a3,ob2,splice,v1,p1]
  refine zvQ (L:=l) hF2.set hp hv (by simp[a0]) (by simp[a2]) (by simp[a3]) (zii hs ?_)
  have:=zfB (g:=λl s=>zoO nm P l ty s) (show zdZ (.ok s) (zbB zaf) l so2 from(zl1 q).trans g)
  exact this
theorem zvR{base x b ro fo J0 so nm pv Z P}{a:Nat->AV}(hF:FnD base x b ro fo J0 so nm pv .nilsl 0 Z)(hp:Al.IntsE pv P)(a0:a 0=.ptr x 0)(a2:a 2=.ptr ro 0)(a3:a 3=.ptr fo 0)
  (hs:zqG R base x b J0 so (zoN nm P)):avc yb9 G 69 zB1 (zcq yb9 [.cell 2 57] R) a Z:=by
 have p1:=hp.one
 have eq:zB1=.seq (zd7 zB1) zB2:=rfl
 have hres:∀s,zoN nm P s=(zjT s).bind λr=>endF nm P r.1 r.2:=λs=>rfl
 rw[eq]
 simp[zd7,zB1,zAF,zbI,zq3,a0]
 refine zAn (w:=zcv) hF.rs (by decide) (λq Z1 hW1 K1=>?_) (λs s1 e q Z1 hW1 K1=>?_)
 .simp
  refine zkE (hF.keep hW1 K1) hp (by simp[a0]) (by simp[a2]) (by simp[a3]) (zii hs ?_)
  have hn:zdZ so zjT 0 so:=by
   unfold zdZ
   cases so with
   | error e=>rfl
   | ok s =>
    show zjT s=_
    unfold zjT
    rw[q s rfl]
    rfl
  exact zfB (g:=λr s=>endF nm P r s) hn
 .subst e
  have hF1:=hF.keep hW1 K1
  have hrw:zjT s=(zie s1).bind λr=>if r.1.length=1 then .ok (r.1.headD 0,r.2)else .error 2:=by
   unfold zjT
   rw[q]
   rfl
  simp[a0]
  refine zqq hW1 λv l so2 Z2 g _ hv hW2 K2=>?_
  have hF2:=hF1.keep hW2 K2
  have v1:=hv.one
  have ob2:=hF2.ob
  have g':zie s1=so2.map λs=>(l,s):=g
  have hz:=hW2.zero
  by_cases h1:l.length=1
  .obtain⟨n,rfl⟩:=List.length_eq_one_iff.1 h1
   have hv':∃b,v=.sl (.fam 0 b) 1 [.int .i64 n]:=by
    rcases hv with ⟨h,_⟩|⟨b,h⟩
    .cases h
    .exact⟨b,h⟩
   obtain⟨b',rfl⟩:=hv'
   simp[a0,a2,a3,ob2,splice,hz,p1]
   refine zkE hF2.set hp (by simp[a0]) (by simp[a2]) (by simp[a3]) (zii hs ?_)
   have hn:zdZ (.ok s) zjT n so2:=by
    show zjT s=_
    rw[hrw,g']
    cases so2<;>rfl
   exact zfB (g:=λr s=>endF nm P r s) hn
  .have bad:∀Z3,RwS base x b (zds 2 so2) Z3->zW x Z2 Z3->∀a':Nat->AV,a' 0=.ptr x 0->a' 2=.ptr ro 0->a' 3=.ptr fo 0->avc yb9 G 69 zB2 (zcq yb9 [.cell 2 57] R) a' Z3:=λZ3 hR3 K3 a' b0 b2 b3=>by
    refine zkE (hF2.keep hR3 K3) hp b0 b2 b3 (zii hs ?_)
    show zoN nm P s=_
    rw[hres,hrw,g']
    cases so2 with
    | error e=>rfl
    | ok s2 =>
     simp only[Except.map,Except.bind]
     rw[if_neg h1]
     rfl
   have h1i:¬(l.length:Int)=1:=by omega
   rcases hv with ⟨h,rfl|⟨b',rfl⟩⟩|⟨b',rfl⟩
   .simp[a0,a2,a3]
    refine zbg (c:=2) (by decide) hW2 λZ3 hR3 K3=>?_
    simp
    exact bad Z3 hR3 K3 _ (by simp[a0]) (by simp[a2]) (by simp[a3])
   .simp[a0,a2,a3]
    refine zbg (c:=2) (by decide) hW2 λZ3 hR3 K3=>?_
    simp
    exact bad Z3 hR3 K3 _ (by simp[a0]) (by simp[a2]) (by simp[a3])
   .simp[a0,a2,a3,h1,h1i]
    refine zbg (c:=2) (by decide) hW2 λZ3 hR3 K3=>?_
    simp
    exact bad Z3 hR3 K3 _ (by simp[a0]) (by simp[a2]) (by simp[a3])
theorem zEB{base x b ro fo J0 so nm Z}{a:Nat->AV}(hF:FnD base x b ro fo J0 so nm .nilsl .nilsl 0 Z)(a0:a 0=.ptr x 0)(a2:a 2=.ptr ro 0)(a3:a 3=.ptr fo 0)
  (hs:zqG R base x b J0 so (zsT nm)):avc yb9 G 69 zAF (zcq yb9 [.cell 2 57] R) a Z:=by
 have eq:zAF=.seq (zd7 zAF) zB1:=rfl
 rw[eq]
 simp[zd7,zAF,zbI,zq3,a0]
 refine zAn (w:=zaW) hF.rs (by decide) (λq Z1 hW1 K1=>?_) (λs s1 e q Z1 hW1 K1=>?_)
 .simp
  refine zvR (P:=[]) (hF.keep hW1 K1) (.inl ⟨rfl,.inl rfl⟩) (by simp[a0]) (by simp[a2]) (by simp[a3]) (zii hs ?_)
  exact zfB (g:=λl s=>zoN nm l s) (show zdZ so (zbB zaW) [] so from zpc q)
 .subst e
  have hF1:=hF.keep hW1 K1
  simp[a0]
  refine zqq hW1 λv l so2 Z2 g _ hv hW2 K2=>?_
  have hF2:=hF1.keep hW2 K2
  have v1:=hv.one
  have ob2:=hF2.ob
  simp[a0,a2,a3,ob2,splice,v1]
  refine zvR (P:=l) hF2.set hv (by simp[a0]) (by simp[a2]) (by simp[a3]) (zii hs ?_)
  exact zfB (g:=λl s=>zoN nm l s) (show zdZ (.ok s) (zbB zaW) l so2 from(zl1 q).trans g)
theorem zqH{base x b so J}(h:RwS base x b so J)(hs:zqG R base x b J so (zL 24)):zzQ G 72 [.ptr x 0] J R:=by
 refine zDm rfl ?_
 have hx:=h.hx
 obtain⟨at0,lv0,ls0,ho0,_⟩:=h.opn
 have eq:zq3=.seq (zd7 zq3) (.seq (zd7 (zbI zq3)) (.seq (zd7 (zbI (zbI zq3))) (.seq (zd7 (zbI (zbI (zbI zq3)))) (.seq (zd7 (zbI (zbI (zbI (zbI zq3))))) (.seq (zd7 (zbI (zbI (zbI (zbI (zbI zq3)))))) zAF))))):=rfl
 rw[eq]
 have A:zb J ((J.newO zF).newO zF):=(zb.refl J).newO.newO
 have hR1:=h.adds A
 have K1:=A.keepP hx ho0
 have e1:((J.newO zF).newO zF).objs J.no=some zF:=by simp
 have e2:((J.newO zF).newO zF).objs (J.no+1)=some zF:=by simp
 have n1:((J.newO zF).newO zF).no=J.no+2:=by simp
 simp[zd7,zbI,zq3]
 generalize (J.newO zF).newO zF=J1 at *
 refine zhC hR1 λt so1 J2 g q1 q2 hR2 K2=>?_
 have K12:=K1.trans K2
 have f2:=(K2.obj J.no (by omega) (by omega)).trans e1
 have r2:=(K2.obj (J.no+1) (by omega) (by omega)).trans e2
 have n2:=K2.no
 obtain⟨at1,lv1,ls1,ho1,lo1,_⟩:=hR2.opn
 have hfn:so.bind (zL 24)=so1.bind λs=>if t.head?=some 36/\zeg 24 t.tail=true then zsT t.tail s else .error 2:=by
  have:so.bind (zL 24)=(so.bind zaj).bind λp=>if p.1.head?=some 36/\zeg 24 p.1.tail=true then zsT p.1.tail p.2 else .error 2:=by cases so<;>rfl
  rw[this,show so.bind zaj=_ from g]
  cases so1<;>rfl
 have hne1:¬J.no=J.no+1:=by omega
 -- nothing is read
 have none:∀e Z,so.bind (zL 24)=.error e->RwS base x b (.error e) Z->zW x J2 Z->R (.ret (.agg zF)) (Z.setO J.no zF):=λe Z q hR K=>by
  refine hs ⟨[],[],[],0,[]⟩ (.agg zF) (.error e) _ (by unfold zdZ;rw[q];rfl) (λ_ _ _=>⟨_,_,_,rfl,.inl ⟨rfl,rfl⟩,.inl ⟨rfl,rfl⟩,.inl ⟨rfl,rfl⟩⟩) (hR.other (by omega)) ((K12.trans K).c.setO (.inr (yah _))) (λh hh u=>(K12.trans K).r.use h hh (by
   obtain⟨cs,v,u1,u2,u3⟩:=u
   exact⟨cs,v,by simpa [show ¬x=J.no by omega]using u1,u2,u3⟩))
 cases so1 with
 | error e =>
  have hne:=hR2.ne
  simp only[zej]at ho1
  simp[ho1,lo1,hne,f2,r2,splice]
  exact none e J2 (by rw[hfn];rfl) hR2 (.refl ho1)
 | ok s =>
  simp only[zej]at ho1
  have ht:=q2 s rfl
  obtain⟨c,r,rfl⟩:∃c r,t=c::r:=by
   cases t with
   | nil=>exact absurd rfl ht
   | cons c r=>exact⟨c,r,rfl⟩
  have e36:=zdr c 36 (by omega)
  have hfn2:so.bind (zL 24)=if c=36/\zeg 24 r=true then zsT r s else .error 2:=by
   rw[hfn]
   simp only[Except.bind,List.head?_cons,List.tail_cons,yaR.injEq]
  have wrong:(¬(c=36/\zeg 24 r=true))->∀Z,RwS base x b (zds 2 (.ok s)) Z->zW x J2 Z->R (.ret (.agg zF)) (Z.setO J.no zF):=λq Z hR K=>none 2 Z (by rw[hfn2,if_neg q]) hR K
  by_cases hc:(c.toNat:Int)=36
  .simp[ho1,lo1,hc]
   refine⟨by omega,zIx ?_⟩
   by_cases htg:zeg 24 r=true
   .have hF:FnD base x b J.no (J.no+1) J (.ok s) [] .nilsl .nilsl 0 J2:=⟨hR2,K12,by omega,by omega,by omega,yah _,by omega,by omega,hne1,r2,f2⟩
    simp[htg,ho1,lo1,r2,splice]
    refine⟨by omega,zEB (hF.set (nm':=r)) (by simp) (by simp) (by simp) (zii hs ?_)⟩
    rw[hfn2,if_pos ⟨e36.2 hc,htg⟩]
    rfl
   .have htg':zeg 24 r=false:=by simpa using htg
    simp[htg']
    refine zbg (c:=2) (by decide) hR2 λJ3 hR3 K3=>?_
    obtain⟨at3,lv3,ls3,ho3,lo3,_⟩:=hR3.opn
    simp only[zds,zej]at ho3
    have f3:=(K3.obj J.no (by omega) (by omega)).trans f2
    have r3:=(K3.obj (J.no+1) (by omega) (by omega)).trans r2
    simp[ho3,lo3,f3,r3,splice]
    exact wrong (λq=>htg q.2) J3 hR3 K3
  .simp[ho1,lo1,hc]
   refine zbg (c:=2) (by decide) hR2 λJ3 hR3 K3=>?_
   obtain⟨at3,lv3,ls3,ho3,lo3,_⟩:=hR3.opn
   simp only[zds,zej]at ho3
   have f3:=(K3.obj J.no (by omega) (by omega)).trans f2
   have r3:=(K3.obj (J.no+1) (by omega) (by omega)).trans r2
   simp[ho3,lo3,f3,r3,splice]
   exact wrong (λq=>hc (e36.1 q.1)) J3 hR3 K3
end
def zpd:List UInt8:=za3++[32]
def zg1:List Nat:=[0,1,8,10,17,23,28,30,35,37,44,48,50,52,54,56,63,69,75,77,82,84,90,94,96,98,100,102,109,115,122,124,129,131,137,141,143,145,147,149,156,158,160,162,169,173,175,185]
theorem zpe:∀i:Fin 47,zcr (zpd.drop (zg1.getD i 0))=some (zaF.getD i [],zpd.drop (zg1.getD (i+1) 0))/\zg1.getD (i+1) 0<=185:=by decide +kernel
theorem zvS:zcr (zpd.drop (zg1.getD 47 0))=none:=by decide +kernel
theorem zdw:zpd.length=186:=by rfl
theorem zkF:zaF.length=47:=by rfl
theorem zAG:∀t∈zaF,t≠[]:=by decide
def LwG(J Z:AS)(v:AV)(l:List (List UInt8)):Prop:=(l=[]/\v=.nilsl)\/∃g,v=.sl (.fam g false) 1 (l.map yc8)/\J.nf<=g/\g<Z.nf/\Z.F g=.alive
theorem LwG.one{J Z v l}(h:LwG J Z v l):v.known=true/\v.one=true/\v.cells=[v]:=by rcases h with ⟨_,rfl⟩|⟨b,rfl,_⟩<;>simp
theorem zAH{J Z:AS}{v:AV}{l:List (List UInt8)}{t:List UInt8}{el:Option TypeId}{sz:Nat}{K:AV->AS->Prop}(hv:LwG J Z v l)(A:zb J Z)(hl:(l.length+1)*sz<=2^47)(h:∀v' Z',LwG J Z' v' (l++[t])->zb J Z'->Z'.objs=Z.objs->Z'.no=Z.no->K v' Z'):zb8 el sz 1 v [.str t] Z K:=by
 have hn:=A.nf
 rcases hv with ⟨rfl,rfl⟩|⟨g,rfl,g1,g2,g3⟩
 .have:=h (.sl (.fam Z.nf false) 1 [.str t]) Z.newF (.inr ⟨_,rfl,hn,by simp,by simp⟩) A.newF (by simp) (by simp)
  simp at hl
  simp
  first|exact this|exact⟨by omega,this⟩
 .have:=h (.sl (.fam Z.nf false) 1 ((l++[t]).map yc8)) (Z.setF g .dead).newF (.inr ⟨_,rfl,by simpa using hn,by simp,by simp⟩) ⟨A.no,by simp;omega,A.obj,λf hf=>by
   have e1:¬f=Z.nf:=by omega
   have e2:¬f=g:=by omega
   simp[e1,e2]
   exact A.fam f hf⟩ (by simp) (by simp)
  simp at this
  simp[g3]
  first|exact this|exact⟨by omega,this⟩
def HeI(J:AS)(b:List UInt8)(a:Nat->AV)(Z:AS):Prop:=∃i:Nat,i<=47/\a 0=.str b/\a 2=.ptr J.no 0/\a 4=.ptr (J.no+1) 0/\LwG J Z (a 5) (zaF.take i)/\zb J Z/\Z.objs J.no=some [.nilsl,.int .i64 0,.int .i64 0]/\Z.objs (J.no+1)=some [.str zpd,.int .i64 ((zg1.getD i 0:Nat):Int),.int .i64 0,.nilsl]/\J.no+2<=Z.no
theorem Rd.undead{Z:AS}{φ:Go.Abs.Own}{g:Nat}(h:Al.Rd (Z.setF g .dead) φ):Al.Rd Z φ:=by
 cases φ with
 | stat b=>exact trivial
 | fam f b =>
  obtain⟨h1,h2⟩:=h
  refine⟨h1,?_⟩
  by_cases e:f=g
  .subst e;simp at h2
  .simpa [e]using h2
theorem FVO.undead{Z:AS}{v f g}(h:Al.FVO (Z.setF g .dead) v f):Al.FVO Z v f:=by
 obtain⟨pv,lv,tv,e,h1,h2,h3⟩:=h
 refine⟨pv,lv,tv,e,?_,?_,?_⟩
 .rcases h1 with h|⟨φ,q1,q2⟩
  .exact .inl h
  .exact .inr ⟨φ,q1,Rd.undead q2⟩
 .rcases h2 with h|⟨φ,q1,q2⟩
  .exact .inl h
  .exact .inr ⟨φ,q1,Rd.undead q2⟩
 .rcases h3 with h|⟨φ,rows,q1,q2,q3⟩
  .exact .inl h
  .refine .inr ⟨φ,rows,q1,Rd.undead q2,Al.all2_mono q3 λ_ _ q=>?_⟩
   rcases q with h|⟨φ,q1,q2⟩
   .exact .inl h
   .exact .inr ⟨φ,q1,Rd.undead q2⟩
def zth(base x:Nat)(Z:AS)(v:AV)(l:List F):Prop:=(l=[]/\v=.nilsl)\/∃g rows,v=.sl (.fam g false) 5 rows/\base<=g/\g<Z.nf/\Z.F g=.alive/\¬zbo Z x g/\All2 (Al.FVO (Z.setF g .dead)) rows l
theorem zth.one{base x Z v l}(h:zth base x Z v l):v.known=true/\v.one=true/\v.cells=[v]:=by rcases h with ⟨_,rfl⟩|⟨_,_,rfl,_⟩<;>simp
theorem zth.fs{base x Z v l}(h:zth base x Z v l):Al.FsO Z v l:=by
 rcases h with h|⟨g,rows,h1,h2,h3,h4,h5,h6⟩
 .exact .inl h
 .exact .inr ⟨_,rows,h1,⟨h3,h4⟩,Al.all2_mono h6 λ_ _ q=>FVO.undead q⟩
theorem zti{x:Nat}{Z Z':AS}(K:zcY x Z Z')(g:Nat):zcY x (Z.setF g .dead) (Z'.setF g .dead) where
 no:=K.no
 nf:=K.nf
 obj:=K.obj
 fam f hf:=by
  by_cases e:f=g
  .simp[e]
  .simp[e]
   exact K.fam f hf
theorem zth.keep{base x Z Z' v l}(h:zth base x Z v l)(K:zcY x Z Z')(hu:∀f,f<Z.nf->zbo Z' x f->zbo Z x f):zth base x Z' v l:=by
 rcases h with h|⟨g,rows,h1,h2,h3,h4,h5,h6⟩
 .exact .inl h
 .exact .inr ⟨g,rows,h1,h2,yag h3 K.nf,(K.fam g h3).trans h4,λu=>h5 (hu g h3 u),Al.all2_mono h6 λ_ _ q=>FVO.keepC q (zti K g)⟩
theorem zvT{J:AS}{v:AV}{f:F}(h:Al.FVO J v f):v.cells.length=5/\(∀c∈v.cells,c.one=true):=by
 obtain⟨pv,lv,tv,rfl,h1,h2,h3⟩:=h
 have a:=h1.one
 have b:=h2.one
 have c:=h3.one
 refine⟨by simp,?_⟩
 simp[a,b,c]
theorem zvU{el:Option TypeId}{bsz base x:Nat}{b:List UInt8}{so:Res Ts}{J Z:AS}{v row:AV}{l:List F}{f:F}{K:AV->AS->Prop}(h:zth base x Z v l)(hR:RwS base x b so Z)(hrow:∀g',base<=g'->¬zbo Z x g'->Al.FVO (Z.setF g' .dead) row f)(A:zb J Z)(hb:J.nf<=base)(hl:(l.length+1)*bsz<=2^47)
  (hK:∀v' Z',zth base x Z' v' (l++[f])->RwS base x b so Z'->Z'.objs=Z.objs->Z'.no=Z.no->zb J Z'->K v' Z'):zb8 el bsz 5 v [row] Z K:=by
 have hbl:=hR.base_le
 have hnu:¬zbo Z x Z.nf:=λu=>by have:=(hR.lt u).1;omega
 have hc:=(zvT (hrow Z.nf hbl hnu)).1
 have An:=A.nf
 rcases h with ⟨rfl,rfl⟩|⟨g,rows,rfl,h1,h2,h3,h4,h5⟩
 .have hnu2:¬zbo Z.newF x Z.nf:=λu=>hnu u
  have:=hK (.sl (.fam Z.nf false) 5 [row]) Z.newF (.inr ⟨Z.nf,[row],rfl,hbl,by simp,by simp,hnu2,.cons (FVO.keepC (x:=x) (hrow Z.nf hbl hnu) ⟨yah _,by simp,λ_ _ _=>rfl,λf' hf'=>by
   have:¬f'=Z.nf:=by simp at hf';omega
   simp[this]⟩) .nil⟩) hR.newF (by simp) (by simp) A.newF
  simp at hl
  simp
  first|exact this|exact⟨by omega,this⟩
 .have hR':=(hR.endF h1 h4).newF
  have hnu2:¬zbo (Z.setF g .dead).newF x Z.nf:=λu=>hnu u
  have hlen:rows.length=l.length:=h5.length
  have KD:zcY x (Z.setF g .dead) (((Z.setF g .dead).newF).setF Z.nf .dead):=⟨yah _,by simp,λ_ _ _=>rfl,λf' hf'=>by
   have:¬f'=Z.nf:=by simp at hf';omega
   simp[this]⟩
  have:=hK (.sl (.fam Z.nf false) 5 (rows++[row])) (Z.setF g .dead).newF (.inr ⟨Z.nf,rows++[row],rfl,hbl,by simp,by simp,hnu2,(Al.all2_mono h5 λ_ _ q=>FVO.keepC q KD).append (.cons (FVO.keepC (hrow g h1 h4) KD) .nil)⟩) hR' (by simp) (by simp) ⟨A.no,by simp;omega,A.obj,λf' hf'=>by
   have e1:¬f'=Z.nf:=by omega
   have e2:¬f'=g:=by omega
   simp[e1,e2]
   exact A.fam f' hf'⟩
  simp[h3]
  exact⟨by rw[hlen];exact hl,this⟩
structure PsD(J:AS)(base x:Nat)(b:List UInt8)(so:Res Ts)(fv:AV)(l:List F)(mem mn:Int)(Z:AS):Prop where
 rs:RwS base x b so Z
 ad:zb J Z
 x0:J.no+2<=x
 b0:J.nf<=base
 ml:x+1<Z.no
 mo:Z.objs (x+1)=some [fv,.int .i64 mem,.int .i64 mn]
 ro:Z.objs J.no=some [.nilsl,.int .i64 0,.int .i64 0]
 fs:zth base x Z fv l
theorem zcY.adds0{x:Nat}{J Z Z':AS}(K:zcY x Z Z')(A:zb J Z)(hx:J.no<=x):zb J Z':=⟨yai A.no K.no,yai A.nf K.nf,λo ho=>by
 have:=A.no
 rw[K.obj o (by omega) (by omega),A.obj o ho],λf hf=>by
 have:=A.nf
 rw[K.fam f (by omega),A.fam f hf]⟩
theorem PsD.keep{J base x b so so' fv l mem mn Z Z'}(h:PsD J base x b so fv l mem mn Z)(hW:RwS base x b so' Z')(K:zcY x Z Z')(hu:∀f,f<Z.nf->zbo Z' x f->zbo Z x f):PsD J base x b so' fv l mem mn Z':=by
 have x0:=h.x0
 have ml:=h.ml
 have An:=h.ad.no
 exact⟨hW,K.adds0 h.ad (by omega),h.x0,h.b0,yag ml K.no,(K.obj _ ml (by omega)).trans h.mo,(K.obj _ (by omega) (by omega)).trans h.ro,h.fs.keep K hu⟩
theorem PsD.keepP{J base x b so so' fv l mem mn Z Z'}(h:PsD J base x b so fv l mem mn Z)(hW:RwS base x b so' Z')(K:zW x Z Z'):PsD J base x b so' fv l mem mn Z':=h.keep hW K.c λf hf u=>K.r.use f hf u
theorem zth.setO{base x Z v l o cs}(h:zth base x Z v l)(hx:¬x=o):zth base x (Z.setO o cs) v l:=by
 rcases h with h|⟨g,rows,h1,h2,h3,h4,h5,h6⟩
 .exact .inl h
 .refine .inr ⟨g,rows,h1,h2,h3,h4,λ⟨cs',v',q1,q2,q3⟩=>h5 ⟨cs',v',by simpa [hx]using q1,q2,q3⟩,Al.all2_mono h6 λ_ _ q=>FVO.keepC (x:=o) q ⟨yah _,yah _,λp _ hp=>by simp[hp],λ_ _=>rfl⟩⟩
theorem PsD.setM{J base x b so fv l mem mn mem' mn' Z}(h:PsD J base x b so fv l mem mn Z):PsD J base x b so fv l mem' mn' (Z.setO (x+1) [fv,.int .i64 mem',.int .i64 mn']):=by
 have x0:=h.x0
 exact⟨h.rs.other (by omega),h.ad.setO (by omega),h.x0,h.b0,h.ml,by simp,by simp[show ¬J.no=x+1 by omega,h.ro],h.fs.setO (by omega)⟩
theorem zEC{s t r:List UInt8}(h:zcr s=some (t,r)):s.all zek=false:=by
 cases q:s.all zek with
 | false=>rfl
 | true =>
  have:s.dropWhile zek=[]:=by
   rw[zdn]
   exact q
  unfold zcr at h
  rw[this]at h
  cases h
section
variable {G : Env} {J : AS} {R : Out -> AS -> Prop}
theorem zqI{so:Res Ts}{ts:List (List UInt8)}{α:Type}{g:Ts->Res α}:(so.bind λs=>(zx ts s).bind g)=(so.bind (zx ts)).bind g:=by cases so<;>rfl
theorem zIL{base x b so fv l mem Z}{a:Nat->AV}(h:PsD J base x b so fv l mem 0 Z)(a0:a 0=.str b)(a2:a 2=.ptr J.no 0)(a4:a 4=.ptr x 0)(a8:a 8=.ptr (x+1) 0)
  (hn:∀e,so.bind (zm9 l mem)=.error e->∀J',zb J J'->R (.ret (.tuple [zaO,.int .i64 e])) J')
  (hs:∀m s',so.bind (zm9 l mem)=.ok (m,s')->∀mv J',Al.MO J' mv m->zb J J'->R (.ret (.tuple [mv,.int .i64 0])) J'):avc yb9 G 85 zjC (zcq yb9 [.cell 2 28,.tmp 3] R) a Z:=by
 simp[zjC,a4]
 refine zrU (ts:=[zj,zbe,zeK,zj,zap]) h.rs (.inl ⟨.stat true,rfl,trivial⟩) (by decide) (by decide) λZ1 hR1 K1=>?_
 have h1:=h.keepP hR1 K1
 simp[a4]
 refine zng hR1 λn so2 Z2 g2 _ _ hR2 K2=>?_
 have h2:=h1.keepP hR2 K2
 have mo2:=h2.mo
 have f1:=h2.fs.one
 simp[a4,a8,mo2,f1,splice]
 have h3:=h2.setM (mem':=mem) (mn':=yb4 .i64 (n-3))
 generalize Z2.setO (x+1) [fv,.int .i64 mem,.int .i64 (yb4 .i64 (n-3))]=Z3 at *
 refine zrU (ts:=[zd,zd,zd]) h3.rs (.inl ⟨.stat true,rfl,trivial⟩) (by decide) (by decide) λZ4 hR4 K4=>?_
 have h4:=h3.keepP hR4 K4
 have hmod:so.bind (zm9 l mem)=(so2.bind (zx [zd,zd,zd])).bind λs=>if s.b.all zek=true then .ok (({ funcs:=l,memory:=mem,main:=yb4 .i64 (n-3) }:M),s)else .error 2:=by
  have e1:so.bind (zm9 l mem)=(so.bind (zx [zj,zbe,zeK,zj,zap])).bind λs=>(zR s).bind λmn=>(zx [zd,zd,zd] mn.2).bind λs=>if s.b.all zek=true then .ok (({ funcs:=l,memory:=mem,main:=yb4 .i64 (mn.1-3) }:M),s)else .error 2:=by
   rw[<-zqI]
   rfl
  rw[e1]
  generalize so.bind (zx [zj,zbe,zeK,zj,zap])=so1 at *
  unfold zdZ at g2
  cases so1 with
  | error e =>
   cases so2 with
   | error e'=>cases g2;rfl
   | ok s=>cases g2
  | ok s1 =>
   have g2':zR s1=so2.map λs=>(n,s):=g2
   simp only[Except.bind]
   rw[g2']
   cases so2<;>rfl
 generalize so2.bind (zx [zd,zd,zd])=so3 at *
 simp[a4]
 refine zrT hR4 λt n' hn' hc=>?_
 obtain⟨at4,lv4,ls4,ho4,l4,_⟩:=hR4.opn
 have mo4:=h4.mo
 have ro4:=h4.ro
 have hx4:=hR4.hx
 have x0:=h4.x0
 have hxs:¬x=J.no:=by omega
 have hxs1:¬x+1=J.no:=by omega
 -- something was wrong
 have bad:∀e Z',so.bind (zm9 l mem)=.error e->zW x Z4 Z'->R (.ret (.tuple [zaO,.int .i64 e])) (Z'.setO J.no [.nilsl,.int .i64 0,.int .i64 0]):=λe Z' q K=>hn e q _ ((K.c.adds0 h4.ad (by omega)).setO (yah _))
 cases so3 with
 | error e =>
  have hne:=hR4.ne
  simp only[zej]at ho4
  by_cases ht:t=[]
  .by_cases hlt:n'<b.length
   .have hlti:(n':Int)<(b.length:Int):=by omega
    simp[a0,a2,a4,a8,ht,hlt,hlti]
    refine zbg (c:=2) (by decide) hR4 λZ5 hR5 K5=>?_
    obtain⟨at5,lv5,ls5,ho5,l5,_⟩:=hR5.opn
    simp only[zds,zej]at ho5
    have ro5:=(K5.obj J.no (by omega) (by omega)).trans ro4
    simp[a0,a2,a4,a8,ho5,l5,hne,ro5,splice,hxs,hxs1]
    exact bad e Z5 (by rw[hmod];rfl) K5
   .have hlti:¬(n':Int)<(b.length:Int):=by omega
    simp[a0,a2,a4,a8,ht,hlt,hlti,ho4,l4,hne,ro4,splice,hxs,hxs1]
    exact bad e Z4 (by rw[hmod];rfl) (.refl ho4)
  .simp[a0,a2,a4,a8,ht]
   refine zbg (c:=2) (by decide) hR4 λZ5 hR5 K5=>?_
   obtain⟨at5,lv5,ls5,ho5,l5,_⟩:=hR5.opn
   simp only[zds,zej]at ho5
   have ro5:=(K5.obj J.no (by omega) (by omega)).trans ro4
   simp[a0,a2,a4,a8,ho5,l5,hne,ro5,splice,hxs,hxs1]
   exact bad e Z5 (by rw[hmod];rfl) K5
 | ok s =>
  simp only[zej]at ho4
  replace hmod:so.bind (zm9 l mem)=if s.b.all zek=true then .ok (({ funcs:=l,memory:=mem,main:=yb4 .i64 (n-3) }:M),s)else .error 2:=hmod
  rcases hc s rfl with ⟨q1,q2⟩|⟨rfl,q1,q2⟩
  .have hno:=zEC q1
   rw[hno]at hmod
   simp[a0,a2,a4,a8,q2]
   refine zbg (c:=2) (by decide) hR4 λZ5 hR5 K5=>?_
   obtain⟨at5,lv5,ls5,ho5,l5,_⟩:=hR5.opn
   simp only[zds,zej]at ho5
   have ro5:=(K5.obj J.no (by omega) (by omega)).trans ro4
   simp[a0,a2,a4,a8,ho5,l5,ro5,splice,hxs,hxs1]
   exact bad 2 Z5 (by rw[hmod];rfl) K5
  .by_cases hlt:n'<b.length
   .have hlti:(n':Int)<(b.length:Int):=by omega
    have hno:=q2.1 hlt
    rw[hno]at hmod
    simp[a0,a2,a4,a8,hlt,hlti]
    refine zbg (c:=2) (by decide) hR4 λZ5 hR5 K5=>?_
    obtain⟨at5,lv5,ls5,ho5,l5,_⟩:=hR5.opn
    simp only[zds,zej]at ho5
    have ro5:=(K5.obj J.no (by omega) (by omega)).trans ro4
    simp[a0,a2,a4,a8,ho5,l5,ro5,splice,hxs,hxs1]
    exact bad 2 Z5 (by rw[hmod];rfl) K5
   .have hlti:¬(n':Int)<(b.length:Int):=by omega
    have hyes:s.b.all zek=true:=by
     cases q:s.b.all zek with
     | true=>rfl
     | false=>exact absurd (q2.2 q) hlt
    rw[hyes]at hmod
    have f4:=h4.fs.one
    simp[a0,a2,a4,a8,hlt,hlti,ho4,l4,mo4,ro4,f4,splice,hxs,hxs1]
    refine hs _ s (by rw[hmod];rfl) _ _ ⟨fv,rfl,?_⟩ (h4.ad.setO (yah _))
    exact(h4.fs.setO (by omega)).fs
end
def zd8(mem:Int)(k:Nat)(l:List F)(s:Ts):Res (M × Ts):=(zC 24 k l s).bind λfs=>zm9 fs.1 mem fs.2
def PlD(J:AS)(base x:Nat)(b:List UInt8)(mem:Int)(so0:Res Ts)(a:Nat->AV)(Z:AS):Prop:=∃(k:Nat) (l:List F) (so:Res Ts) (fv:AV),(so0.bind λs=>zd8 mem (s.b.length+1) [] s)=so.bind (zd8 mem k l)/\(∀s,so=.ok s->s.b.length<k/\l.length+s.b.length<=2^14)/\l.length<=2^14/\PsD J base x b so fv l mem 0 Z/\a 0=.str b/\a 2=.ptr J.no 0/\a 4=.ptr x 0/\a 8=.ptr (x+1) 0
section
variable {G : Env} {J : AS} {R : Out -> AS -> Prop}
theorem zqJ{base x b so0 mem}(hn:∀e,(so0.bind λs=>zd8 mem (s.b.length+1) [] s)=.error e->∀J',zb J J'->R (.ret (.tuple [zaO,.int .i64 e])) J')
  (hs:∀m s',(so0.bind λs=>zd8 mem (s.b.length+1) [] s)=.ok (m,s')->∀mv J',Al.MO J' mv m->zb J J'->R (.ret (.tuple [mv,.int .i64 0])) J') {a:Nat->AV} {Z:AS} (hI:PlD J base x b mem so0 a Z) :
  avc yb9 G 85 zjB (zan (λa' J'=>PlD J base x b mem so0 a' J'/\MBw x a' J'<MBw x a Z) (zai 2 (zan (avc yb9 G 85 zjC (zcq yb9 [.cell 2 28,.tmp 3] R)) (zcq yb9 [.cell 2 28,.tmp 3] R)))) a Z:=by
 obtain⟨k,l,so,fv,he,hk,hlb,hP,a0,a2,a4,a8⟩:=hI
 simp[zjB,a4]
 refine zAn (w:=zap) hP.rs (by decide) (λq Z1 hW1 K1=>?_) (λs s1 e q Z1 hW1 K1=>?_)
 .have hP1:=hP.keepP hW1 K1
  have he2:so.bind (zd8 mem k l)=so.bind (zm9 l mem):=by
   cases so with
   | error e=>rfl
   | ok s =>
    obtain⟨k1,k2⟩:=hk s rfl
    obtain⟨k,rfl⟩:∃j,k=j+1:=⟨k-1,by omega⟩
    show zd8 mem (k+1) l s=zm9 l mem s
    unfold zd8
    rw[zC,q s rfl]
    rfl
  rw[he,he2]at hn hs
  simp
  exact zIL hP1 (by simp[a0]) (by simp[a2]) (by simp[a4]) (by simp[a8]) hn hs
 .subst e
  obtain⟨k1,k2⟩:=hk s rfl
  obtain⟨k,rfl⟩:∃j,k=j+1:=⟨k-1,by omega⟩
  have hP1:=hP.keepP hW1 K1
  have hlt:=zqk q
  have hmb:=(zid hP.rs a)
  have he3:(so0.bind λs=>zd8 mem (s.b.length+1) [] s)=(zL 24 s1).bind λp=>zd8 mem k (l++[p.1]) p.2:=by
   rw[he]
   show zd8 mem (k+1) l s=_
   unfold zd8
   rw[zC,q]
   simp only
   cases zL 24 s1<;>rfl
  have mo1:=hP1.mo
  have f1:=hP1.fs.one
  simp[a4,a8,mo1,f1]
  refine zqH hW1 λf v so2 Z2 g hrow hR2 K2 hu2=>?_
  have hP2:=hP1.keep hR2 K2 hu2
  have mo2:=hP2.mo
  have hbl:=hR2.base_le
  have hnu:¬zbo Z2 x Z2.nf:=λu=>by have:=(hR2.lt u).1;omega
  have hv:=hrow Z2.nf hbl hnu
  obtain⟨pv,lv,tv,rfl,i1,i2,i3⟩:=hv
  have p1:=i1.one
  have l1:=i2.one
  have t1:=i3.one
  have g':zL 24 s1=so2.map λs=>(f,s):=g
  simp[mo2,f1,p1,l1,t1,a8]
  refine zvU hP2.fs hR2 hrow hP2.ad hP2.b0 (by omega) λv' Z' O' hR' e1 e2 A'=>?_
  have g1:=O'.one
  have x0:=hP.x0
  have ml2:=hP2.ml
  have mo3:Z'.objs (x+1)=some [fv,.int .i64 mem,.int .i64 0]:=by rw[e1];exact mo2
  have hP3:PsD J base x b so2 v' (l++[f]) mem 0 (Z'.setO (x+1) [v',.int .i64 mem,.int .i64 0]):=⟨hR'.other (by omega),A'.setO (by omega),x0,hP2.b0,by simp[e2];omega,by simp,by simp[show ¬J.no=x+1 by omega,e1,hP2.ro],O'.setO (by omega)⟩
  simp[mo3,splice,g1,a8]
  have hsz:∀s2,so2=.ok s2->s2.b.length<=s1.b.length:=λs2 e=>by
   subst e
   exact(zeT g').2
  refine⟨⟨k,l++[f],so2,v',?_,λs2 e=>?_,by simp;omega,hP3,by simp[a0],by simp[a2],by simp[a4],by simp[a8]⟩,?_⟩
  .rw[he3,g']
   cases so2<;>rfl
  .have:=hsz s2 e
   exact⟨by omega,by simp;omega⟩
  .cases so2 with
   | error e=>rw[zqp hP3.rs,hmb.1];omega
   | ok s2 =>
    have:=hsz s2 rfl
    rw[(zid hP3.rs _).1,hmb.1]
    omega
theorem zAI(h00:0<J.nf/\J.F 0=.alive){b:List UInt8}(hl:b.length<=2^14)
  (hn:∀e,za8 24 b=.error e->∀J',zb J J'->R (.ret (.tuple [zaO,.int .i64 e])) J')
  (hs:∀m,za8 24 b=.ok m->∀mv J',Al.MO J' mv m->zb J J'->R (.ret (.tuple [mv,.int .i64 0])) J'):zzQ G 21 [.str b] J R:=by
 refine zCV rfl ?_
 have hpe:za8 24 b=(zcb 24 ⟨b,[]⟩).map (·.1):=rfl
 have hn':∀e,zcb 24 ⟨b,[]⟩=.error e->∀J',zb J J'->R (.ret (.tuple [zaO,.int .i64 e])) J':=λe q=>hn e (by rw[hpe,q];rfl)
 have hs':∀m s',zcb 24 ⟨b,[]⟩=.ok (m,s')->∀mv J',Al.MO J' mv m->zb J J'->R (.ret (.tuple [mv,.int .i64 0])) J':=λm s' q=>hs m (by rw[hpe,q];rfl)
 clear hn hs hpe
 simp[zLD,splice]
 refine zy (HeI J b) (MBw (J.no+1)) ⟨0,by omega,by simp,by simp,by simp,.inl ⟨rfl,by simp⟩,(zb.refl J).newO.newO,by simp,?_,by simp⟩ λa Z hI=>?_
 .simp[zpd,za3,zg1]
 obtain⟨i,hi,a0,a2,a4,hG,A,ro,ho,hno⟩:=hI
 have g1:=hG.one
 by_cases hlt:i<47
 .obtain⟨hst,hp⟩:=zpe ⟨i,hlt⟩
  simp only at hst hp
  have hpi:zg1.getD i 0<=185:=by
   cases i with
   | zero=>decide
   | succ i=>exact(zpe ⟨i,by omega⟩).2
  simp[zhi,a4]
  refine zvg ho (by simp) (by rw[zdw];omega) (by rw[zdw];omega) (λt at' q q1 q2=>?_) (λq=>by rw[hst]at q;cases q)
  rw[hst]at q
  simp only[yaR.injEq,Prod.mk.injEq]at q
  obtain⟨rfl,q3⟩:=q
  have q4:at'=zg1.getD (i+1) 0:=by
   have:=congrArg List.length q3
   rw[ydx,ydx]at this
   rw[zdw]at this q2
   omega
  subst q4
  have hne:zaF.getD i []≠[]:=(zbD hst).2
  have htk:zaF.take (i+1)=zaF.take i++[zaF.getD i []]:=by
   rw[yc5 (by rw[zkF];exact hlt)]
   congr 2
   simp[ycZ,yau (show i<zaF.length by rw[zkF];exact hlt)]
  generalize zaF.getD i []=t at *
  generalize hP:zg1.getD (i+1) 0=P at *
  simp[hne,ho,splice,a4,g1]
  refine zAH (J:=J) (t:=t) (l:=zaF.take i) hG (A.setO (by omega)) (by simp;omega) λv' Z' hG' A' e1 e2=>?_
  have hn0:¬J.no=J.no+1:=by omega
  have ho':Z'.objs (J.no+1)=some [.str zpd,.int .i64 ((P:Nat):Int),.int .i64 0,.nilsl]:=by rw[e1];simp[zpd,za3]
  simp
  refine⟨⟨i+1,hlt,by simp[a0],by simp[a2],by simp[a4],by rw[htk];simpa using hG',A',by rw[e1];simp[hn0,ro],by rw[hP];exact ho',by rw[e2];simpa using hno⟩,?_⟩
  simp only[MBw,ho,ho']
  simp only[ybe]
  have c1:=zbD hst
  have c2:=ybm.2 c1.2
  have c3:=c1.1
  rw[ydx,ydx,zdw]at c3
  omega
 .have ei:i=47:=by omega
  subst ei
  simp[zhi,a4]
  refine zvg ho (by simp) (by rw[zdw];decide) (by rw[zdw];omega) (λt at' q q1 q2=>by rw[zvS]at q;cases q) (λq n hn1 hn2=>?_)
  have htk:zaF.take 47=zaF:=yc7 (by rw[zkF];omega)
  rw[htk]at hG
  obtain⟨g,hv,gg1,gg2,gg3⟩:∃g,a 5=.sl (.fam g false) 1 (zaF.map yc8)/\J.nf<=g/\g<Z.nf/\Z.F g=.alive:=by
   rcases hG with ⟨h,_⟩|h
   .cases h
   .exact h
  have An:=A.no
  have Af:=A.nf
  have hz:0<Z.nf/\Z.F 0=.alive:=⟨by omega,(A.fam 0 h00.1).trans h00.2⟩
  have hno':¬Z.no+1=Z.no:=by omega
  have hP0:PsD J Z.nf Z.no b (.ok ⟨b,[]⟩) .nilsl [] 0 0 ((Z.newO [.str b,.int .i64 0,.int .i64 0,.nilsl]).newO [.nilsl,.int .i64 0,.int .i64 0]) :=
   ⟨⟨0,0,.nilsl,[],⟨by simp;omega,⟨hz.1,by simp⟩,by simpa using hz.2,by omega,hl,.inl ⟨rfl,rfl⟩,by simp⟩,rfl,rfl,rfl⟩,A.newO.newO,by omega,Af,by simp,by simp,by simp[show ¬J.no=Z.no+1 by omega,show ¬J.no=Z.no by omega,ro],.inl ⟨rfl,rfl⟩⟩
  have hLQ:LQ Z.no ((Z.newO [.str b,.int .i64 0,.int .i64 0,.nilsl]).newO [.nilsl,.int .i64 0,.int .i64 0]) (.sl (.fam g false) 1 (zaF.map yc8)) zaF:=.inl ⟨_,rfl,by simpa using gg2,by simpa using gg3⟩
  simp[zt6,a0,a2,hv,splice]
  generalize (Z.newO [.str b,.int .i64 0,.int .i64 0,.nilsl]).newO [.nilsl,.int .i64 0,.int .i64 0]=Z1 at *
  generalize Z.nf=base at *
  generalize Z.no=x at *
  refine zrU (ts:=zaF) hP0.rs hLQ (by decide) zAG λZ2 hR2 K2=>?_
  have hP2:=hP0.keepP hR2 K2
  simp
  refine zng hR2 λmem so3 Z3 g3 _ _ hR3 K3=>?_
  have hP3:=hP2.keepP hR3 K3
  have mo3:=hP3.mo
  simp[mo3,splice]
  have hP4:=hP3.setM (mem':=mem) (mn':=0)
  generalize Z3.setO (x+1) [.nilsl,.int .i64 mem,.int .i64 0]=Z4 at *
  refine zrU (ts:=[zd,zd]) hP4.rs (.inl ⟨.stat true,rfl,trivial⟩) (by decide) (by decide) λZ5 hR5 K5=>?_
  have hP5:=hP4.keepP hR5 K5
  have hmod:zcb 24 ⟨b,[]⟩=(so3.bind (zx [zd,zd])).bind λs=>zd8 mem (s.b.length+1) [] s:=by
   rw[zhz]
   unfold zdZ at g3
   change (zx zaF ⟨b,[]⟩).bind zR=_ at g3
   cases hw:zx zaF ⟨b,[]⟩with
   | error e =>
    rw[hw]at g3
    cases so3 with
    | error e'=>cases g3;rfl
    | ok s=>cases g3
   | ok s1 =>
    rw[hw]at g3
    have g3':zR s1=so3.map λs=>(mem,s):=g3
    simp only[Except.bind]
    rw[g3']
    cases so3<;>rfl
  rw[hmod]at hs'
  simp only[hmod]at hn'
  have hlen5:∀s,so3.bind (zx [zd,zd])=.ok s->s.b.length<=2^14:=λs e=>by
   rw[e]at hR5
   have:=hR5.len
   omega
  generalize so3.bind (zx [zd,zd])=so5 at *
  simp
  refine zy (PlD J base x b mem so5) (MBw x) ⟨(match so5 with|.ok s=>s.b.length+1|.error _=>0),[],so5,.nilsl,?_,λs e=>?_,by simp,hP5,by simp[a0],by simp[a2],by simp,by simp⟩ λa Z hI=>zqJ hn' hs' hI
  .cases so5<;>rfl
  .subst e
   have:=hlen5 s rfl
   exact⟨by simp,by simp;omega⟩
end
def msT(s:Ts):Nat:=zeh s.ls+s.ls.length+s.b.length
theorem zr4{s s':Ts}{t:List UInt8}(h:zaj s=.ok (t,s')):msT s'+1<=msT s:=by
 obtain⟨h1,h2,h3⟩:=zco h
 have:=ybm.2 h2
 unfold msT
 rw[h3]
 omega
theorem zAJ{t:List UInt8}{s s':Ts}{w:W}(h:zbA t s=.ok (w,s')):msT s'<=msT s:=by
 unfold zbA at h
 split at h
 .obtain⟨p,h1,h2⟩:=map_some h
  cases h2
  unfold zR at h1
  obtain⟨q,h3,h4⟩:=bind_some h1
  obtain⟨n,_,h5⟩:=map_some h4
  cases h5
  exact Nat.le_of_succ_le (zr4 h3)
 .split at h
  .cases h;exact yah _
  .cases h
theorem zvV{rec:zDN}(hr:∀d o s r s',rec d o s=.ok (r,s')->msT s'<=msT s){t:List UInt8}{d:Nat}{s s':Ts}{w:W}(h:zaI rec t d s=.ok (w,s')):msT s'<=msT s:=by
 unfold zaI at h
 split at h
 .exact zAJ h
 .unfold zad at h
  split at h
  .cases h
  .obtain⟨p,h1,h2⟩:=bind_some h
   have l1:=hr _ _ _ _ _ h1
   split at h2
   .split at h2
    .obtain⟨q,h3,h4⟩:=map_some h2
     cases h4
     exact yai (hr _ _ _ _ _ h3) l1
    .cases h2;exact l1
   .cases h2;exact l1
theorem zns:∀(k d:Nat) (o:Bool) (l:List W) (s:Ts) (r:Int × List UInt8) (s':Ts),zw k d o l s=.ok (r,s')->msT s'<=msT s+l.length
 | 0,_,_,_,_,_,_,h=>by cases h
 | k+1,d,o,l,s,r,s',h=>by
  rw[zw]at h
  obtain⟨p,h1,h2⟩:=bind_some h
  have q:=zr4 h1
  split at h2
  .cases h2
   unfold msT at *
   rw[zcO]
   simp only[yab,yac,ybl]
   omega
  .obtain⟨q2,h3,h4⟩:=bind_some h2
   have a:=zvV (λd o s r s' q=>by simpa using zns k d o [] s r s' q) h3
   have b:=zns k d o _ _ _ _ h4
   simp only[yab,yac,ybl]at b
   omega
theorem zkG:∀(k:Nat) (l:List Int) (s:Ts) (r:List Int) (s':Ts),zaH k l s=.ok (r,s')->r.length+s'.b.length<=l.length+s.b.length
 | 0,_,_,_,_,h=>by cases h
 | k+1,l,s,r,s',h=>by
  rw[zaH]at h
  obtain⟨p,h1,h2⟩:=bind_some h
  obtain⟨q1,q2,_⟩:=zco h1
  have:=ybm.2 q2
  split at h2
  .have:=zkG k _ _ _ _ h2
   simp only[yab,yac,ybl]at this
   omega
  .split at h2
   .have:=zkG k _ _ _ _ h2
    simp only[yab,yac,ybl]at this
    omega
   .split at h2
    .cases h2;omega
    .cases h2
theorem zr5{w:List UInt8}{s s':Ts}{l:List Int}(h:zbB w s=.ok (l,s')):l.length+s'.b.length<=s.b.length:=by
 unfold zbB at h
 split at h
 .rename_i s1 e
  have:=zkG _ _ _ _ _ h
  have:=zna e
  simp only[ybl]at *
  omega
 .cases h;simp
structure zAK(n:Nat)(f:F):Prop where
 params:f.params.length<=n
 locals:f.locals.length<=n
 lists:f.lists.length<=n
 rows:∀l∈f.lists,l.length<=n
theorem zpf{mx:Nat}{s s':Ts}{f:F}(h:zL mx s=.ok (f,s')):zAK s.b.length f:=by
 unfold zL at h
 obtain⟨⟨t,s1⟩,h0,h⟩:=bind_some h
 have l0:=(zdW h0).1
 simp only at h l0
 split at h
 .obtain⟨⟨ps,s2⟩,h2,h⟩:=bind_some h
  obtain⟨⟨ty,s3⟩,h3,h⟩:=bind_some h
  obtain⟨⟨ls,s4⟩,h4,h⟩:=bind_some h
  obtain⟨⟨⟨n,e⟩,s5⟩,h5,h⟩:=map_some h
  simp only[Prod.mk.injEq]at h
  obtain⟨rfl,rfl⟩:=h
  have a2:=zr5 h2
  have a3:=zuQ h3
  have a4:=zr5 h4
  have a5:=zns _ _ _ _ _ _ _ h5
  simp only[msT,zeh,yds,List.sum_nil,ybl]at a2 a3 a4 a5
  exact⟨by simp only;omega,by simp only;omega,by simp only;omega,λl hl=>by
   have:=zkC hl
   simp only[zeh]at this
   omega⟩
 .cases h
theorem zg2{mx:Nat}{N:Nat}:∀(k:Nat) (acc:List F) (s:Ts) (fs:List F) (s':Ts),zC mx k acc s=.ok (fs,s')->s.b.length<=N->(∀f∈acc,zAK N f)->fs.length+s'.b.length<=acc.length+s.b.length/\∀f∈fs,zAK N f
 | 0,acc,s,fs,s',h,_,_=>by cases h
 | k+1,acc,s,fs,s',h,hN,hacc=>by
  rw[zC]at h
  split at h
  .cases h
   exact⟨yah _,hacc⟩
  .rename_i s1 e
   have l1:=zna e
   have l2:s1.b.length+1<=s.b.length:=zqk e
   obtain⟨⟨f,s2⟩,h1,h2⟩:=bind_some h
   have q:=zpf h1
   have q2:=(zeT h1).2
   obtain⟨r1,r2⟩:=zg2 (N:=N) k _ _ fs s' h2 (by simp only at *;omega) λg hg=>by
    rcases ybh.1 hg with hg|hg
    .exact hacc g hg
    .simp at hg;subst hg
     obtain⟨a,b,c,d⟩:=q
     exact⟨by omega,by omega,by omega,λl hl=>by have:=d l hl;omega⟩
   simp only[yab,yac,ybl]at r1 q2 ⊢
   exact⟨by omega,r2⟩
theorem zkH:∀(ts:List (List UInt8)) {s s':Ts},zx ts s=.ok s'->s'.b.length<=s.b.length
 | [],s,s',h=>by cases h;exact yah _
 | t::ts,s,s',h=>by
  rw[zx]at h
  obtain⟨p,h1,h2⟩:=bind_some h
  split at h2
  .exact yai (zkH ts h2) (zdW h1).1
  .cases h2
theorem zpg{mx:Nat}{b:List UInt8}{m:M}(h:za8 mx b=.ok m):m.funcs.length<=b.length/\∀f∈m.funcs,zAK b.length f:=by
 unfold za8 at h
 obtain⟨⟨m',s0⟩,h0,e0⟩:=map_some h
 simp only at e0
 subst e0
 unfold zcb at h0
 obtain⟨s1,g1,h⟩:=bind_some h0
 obtain⟨⟨mem,s2⟩,g2,h⟩:=bind_some h
 obtain⟨s3,g3,h⟩:=bind_some h
 obtain⟨⟨fs,s4⟩,hf,h⟩:=bind_some h
 obtain⟨s5,_,h⟩:=bind_some h
 obtain⟨⟨mn,s6⟩,hn,h⟩:=bind_some h
 obtain⟨s7,_,h⟩:=bind_some h
 have w1:=zkH _ g1
 have w3:=zkH _ g3
 have w2:s2.b.length<=s1.b.length:=by
  unfold zR at g2
  obtain⟨q,h3,h4⟩:=bind_some g2
  obtain⟨n,_,h5⟩:=map_some h4
  cases h5
  exact(zdW h3).1
 split at h
 .cases h
  simp only at w1 w2 w3
  obtain⟨r1,r2⟩:=zg2 (N:=b.length) _ _ _ _ _ hf (by omega) (λf hf=>by cases hf)
  simp only[ybl]at r1
  exact⟨by simp only;omega,r2⟩
 .cases h
theorem zIM{f:F}{toks:List Tok}(h:PrF f toks f.lists):RgL f.lists:=by
 obtain⟨row,out,acc,h1,h2,h3⟩:=h
 obtain⟨g1,g2⟩:=zID h2 (λl hl=>by cases hl)
 intro l hl
 rw[h3]at hl
 exact zkB g2 g1 l hl
theorem zvW{fs fs2:List F}{toks:List Tok}(h:zpk fs toks fs2)(he:fs2=fs):∀f∈fs,∃t,PrF f t f.lists:=by
 induction h with
 | nil=>intro f hf;cases hf
 | @cons f fs t ls' ts fs' p _ ih =>
  simp only[ydZ.injEq]at he
  intro g hg
  rcases ybC.1 hg with rfl|hg
  .have e:ls'=g.lists:=congrArg F.lists he.1
   rw[e]at p
   exact⟨t,p⟩
  .exact ih he.2 g hg
theorem zAL{gs:List F}{fs fs2:List F}{toks:List Tok}(h:zpk fs toks fs2):(∀f∈fs,zn gs f=.ok ()/\f.name.length<=24/\f.params.length+f.locals.length+zg6 id f.lists<=3000)->(spT toks).length<=200000*fs.length:=by
 induction h with
 | nil=>intro _;simp[spT]
 | @cons f fs t1 ls' ts fs' p _ ih =>
  intro hh
  obtain⟨h1,h4,h5⟩:=hh f (by simp)
  have ih:=ih λg hg=>hh g (by simp[hg])
  obtain⟨c1,c2,c3⟩:=zo6 h1 p
  have e:zdR f t1=[zj,zap,36::f.name]++(zD zaW f.params++(zgq f.type++(zD zaf f.locals++(t1++[zd])))):=rfl
  have e1:(spT [zj,zap,36::f.name]).length=9+f.name.length:=by
   have:spT [zj,zap,36::f.name]=spT [zj,zap]++spT [36::f.name]:=by rw[<-zc];rfl
   rw[this,yab]
   have a:(spT [zj,zap]).length=7:=rfl
   have b:(spT [36::f.name]).length=f.name.length+2:=by simp[spT]
   omega
  have e2:=zfv zaW f.params (by decide)
  have e3:=zfv zaf f.locals (by decide)
  have e4:(spT (zgq f.type)).length<=20:=by
   unfold zgq zr
   split
   .decide
   .split<;>decide
  have e5:(spT [zd]).length=2:=rfl
  rw[zc,yab,e,zc,zc,zc,zc,zc]
  simp only[yab,yac]at *
  omega
section
variable {G : Env} {J : AS} {R : Out -> AS -> Prop}
theorem zc6(V:zb3 G)(hG:∀k,StillI (G.g k))(hy:∀l,¬G.has l)(h:R (.ret (.bool true)) J):zzQ G 12 [] J R :=
 zhu (vs:=[]) (Q:=λx=>x=.bool true) hG hy (λv hv=>by cases hv) (zEk V ⟨by decide,rfl⟩ λ_ _=>⟨_,rfl,.bool _,rfl⟩) λx hx=>by rw[hx];exact h
theorem zIN:∀{iv:AV} {input:List Int},zaq iv input->∀K:AV->Prop,zij yb9 44 iv K=K (.int .i64 (input.length:Int)):=λh=>zaq.len h
theorem zvX(VT:zb3 G)(VC:zh2 G)(hG:∀k,StillI (G.g k))(hy:∀l,¬G.has l)(h00:0<J.nf/\J.F 0=.alive){mv iv:AV}{m:M}{input:List Int}{steps:Int}(hm:MV mv m)(hfl:m.funcs.length<=2^20)(hf:∀f∈m.funcs,zFH f)(hrg:∀f∈m.funcs,RgL f.lists)(hi:zaq iv input)(hst:-(2^63)<=steps/\steps<2^63)(h:∀J',R (.ret (.bool true)) J'):zzQ G 9 [mv,iv,.int .i64 steps] J R:=by
 refine zGW rfl ?_
 have hm0:=hm
 obtain⟨fv,rfl,hfs⟩:=hm
 have f1:=hfs.one
 have il:=zIN hi
 have i1:=hi.one
 have A1:zb J (J.newO [fv,.int .i64 m.memory,.int .i64 m.main]):=(zb.refl J).newO
 have o1:(J.newO [fv,.int .i64 m.memory,.int .i64 m.main]).objs J.no=some [fv,.int .i64 m.memory,.int .i64 m.main]:=by simp
 have hl1:J.no<(J.newO [fv,.int .i64 m.memory,.int .i64 m.main]).no:=by simp
 have h01:0<(J.newO [fv,.int .i64 m.memory,.int .i64 m.main]).nf/\(J.newO [fv,.int .i64 m.memory,.int .i64 m.main]).F 0=.alive:=⟨by have:=A1.nf;omega,(A1.fam 0 h00.1).trans h00.2⟩
 simp[pc9,f1]
 generalize J.newO [fv,.int .i64 m.memory,.int .i64 m.main]=J1 at *
 refine zEl VC hG hy (Al.m_o hm0) hfl hf λb J2 hb A2=>?_
 have ho2:=(A2.obj J.no hl1).trans o1
 cases b with
 | true =>
  simp[ho2,f1]
  refine zc6 VT hG hy ?_
  simp
  exact h _
 | false =>
  have hF:=hb rfl
  by_cases hin:(100:Int)<(input.length:Int)
  .have hin':100<input.length:=by omega
   simp[ho2,f1,il,hin,hin']
   refine zc6 VT hG hy ?_
   simp
   exact h _
  .have hin':¬100<input.length:=by omega
   simp[ho2,f1,il,hin,hin']
   refine zIv (Al.m_o hm0) (by omega) (λf q=>by have:=(hf f q).lists;omega) λb2 J3 hb2 A3=>?_
   have A13:=A2.trans A3
   have ho3:=(A13.obj J.no hl1).trans o1
   cases b2 with
   | true =>
    simp[ho3,f1]
    refine zc6 VT hG hy ?_
    simp
    exact h _
   | false =>
    obtain⟨toks,fs2,w1,w2,w3,w4,w5⟩:=zvD hF hrg (hb2 rfl)
    have hmem:=ze0 hF.good
    obtain⟨mn0,g0,hg0,_,_⟩:=zlY hF.good
    have hmn1:m.main.toNat<m.funcs.length:=(yaq.1 hg0).1
    have h40:=hF.funcs
    have htl:=znp m toks (by omega) (by omega)
    have hpf:∀f∈m.funcs,Pf 24 f:=λf q=>(w3 f q).pf
    have hsz:∀f∈m.funcs,f.lists.length<=2^40/\∀ws∈f.lists,ws.length<=2^40:=λf q=>⟨by have:=(w3 f q).lists;omega,λws hw=>by have:=(w3 f q).rows ws hw;omega⟩
    have hback:=zh4 w1 hpf ⟨by omega,by omega⟩ ⟨by omega,by omega⟩
    simp[ho3,f1]
    refine zkk VT.pow (Al.m_o hm0) w1 hpf (by decide) hsz (by omega) ⟨by omega,by omega⟩ (by omega) λJ4 A4=>?_
    have A14:=A13.trans A4
    have ho4:=(A14.obj J.no hl1).trans o1
    have hl4:J.no<J4.no:=by have:=A14.no;omega
    have h04:0<J4.nf/\J4.F 0=.alive:=⟨by have:=A14.nf;omega,(A14.fam 0 h01.1).trans h01.2⟩
    simp
    refine zIw (zeU VT h04 (zEe m toks) (by omega) (λe q=>by rw[hback]at q;cases q) λn hn nv J5 hnv A5=>?_)
    rw[hback]at hn
    obtain rfl:n=⟨fs2,m.memory,m.main⟩:=by cases hn;rfl
    have h05:0<J5.nf/\J5.F 0=.alive:=⟨by have:=A5.nf;omega,(A5.fam 0 h04.1).trans h04.2⟩
    obtain⟨hcb,hmv⟩:=zly (Al.m_e h05 hnv)
    refine .inr (.inr ⟨[nv,.int .i64 0],rfl,λv hv=>?_,?_⟩)
    .simp at hv
     rcases hv with rfl|rfl
     .exact hcb
     .exact .int _ _
    .have ho5:(zoW J5).objs J.no=some [fv,.int .i64 m.memory,.int .i64 m.main]:=by simpa using (A5.obj J.no hl4).trans ho4
     have hl5:J.no<(zoW J5).no:=by have:=A5.no;simp;omega
     simp only[yaL,yds,zht]
     generalize clm nv=pv at hmv ⊢
     generalize zoW J5=J6 at *
     have hpv:=hmv
     obtain⟨gv,rfl,hgs⟩:=hmv
     have g1:=hgs.one
     simp[g1,splice]
     have B6:zb J6 ((J6.newO [yc9,.int .i64 0,.int .i64 0]).setO J6.no [gv,.int .i64 m.memory,.int .i64 m.main]):=(zb.refl J6).newO.setO (yah _)
     have hp7:((J6.newO [yc9,.int .i64 0,.int .i64 0]).setO J6.no [gv,.int .i64 m.memory,.int .i64 m.main]).objs J6.no=some [gv,.int .i64 m.memory,.int .i64 m.main]:=by simp
     have ho7:=(B6.obj J.no hl5).trans ho5
     have hn7:J6.no<((J6.newO [yc9,.int .i64 0,.int .i64 0]).setO J6.no [gv,.int .i64 m.memory,.int .i64 m.main]).no:=by simp
     have hl7:J.no<((J6.newO [yc9,.int .i64 0,.int .i64 0]).setO J6.no [gv,.int .i64 m.memory,.int .i64 m.main]).no:=by simp;omega
     have hne:¬J.no=J6.no:=by omega
     generalize (J6.newO [yc9,.int .i64 0,.int .i64 0]).setO J6.no [gv,.int .i64 m.memory,.int .i64 m.main]=J7 at *
     refine zIE (k:=2000) hst ⟨by decide,by decide⟩ λr hr0 hr1=>?_
     have hpf2:∀f∈fs2,Pf 24 f:=λf q=>(w5 f q).pf
     have hsz2:∀f∈fs2,f.lists.length<=2^40/\∀ws∈f.lists,ws.length<=2^40:=λf q=>⟨by have:=(w5 f q).lists;omega,λws hw=>by have:=(w5 f q).rows ws hw;omega⟩
     have htx:zgg (zbZ ⟨fs2,m.memory,m.main⟩ toks)=zgg (zbZ m toks):=by rw[zhB,zhB]
     have hck2:za7 ⟨fs2,m.memory,m.main⟩=.ok ():=zvu hF.good w1
     simp[hp7,g1]
     refine zkk VT.pow (Al.m_o hpv) (zvA w1) hpf2 (by decide) hsz2 (by simp only;omega) ⟨by simp only;omega,by simp only;omega⟩ (by rw[htx];omega) λJ8 A8=>?_
     rw[htx]
     have hp8:=(A8.obj _ hn7).trans hp7
     have ho8:=(A8.obj _ hl7).trans ho7
     simp[hp8,g1]
     refine zow VC hG hy (m:=⟨fs2,m.memory,m.main⟩) (Al.m_o hpv) (zta (by simp only;omega) w5) ?_
     rw[hck2]
     simp[zpY,hp8,ho8,g1,f1]
     refine zo3 (steps:=r) VC hpv hck2 (zvE w5) hi (by omega) (by omega) λov out st code J9 he ho A9=>?_
     rw[zEt w1]at he
     have A79:=A8.trans A9
     have ho9:=(A79.obj _ hl7).trans ho7
     have ov1:=ho.one
     simp[ho9,f1]
     refine zo3 (steps:=r) VC hm0 hF.good (zvE w3) hi (by omega) (by omega) λov2 out2 st2 code2 J10 he2 ho2 A10=>?_
     rw[he]at he2
     cases he2
     have ov2':=ho2.one
     obtain⟨_,_,_,q1,_,q2⟩:=zlT hF.good input r (r.toNat+1) (by omega)
     rw[he]at q1
     cases q1
     simp
     refine zvF ho ho2 (by omega) λJ11 A11=>?_
     simp
     refine zc6 VT hG hy ?_
     simp
     exact h _
end
theorem zph:0<AS.bare.nf/\AS.bare.F 0=.alive:=⟨by decide,rfl⟩
section
variable {G : Env} {J : AS} {R : Out -> AS -> Prop}
def zIO(b:List UInt8)(xs:List AV):Prop:=(∃e,za8 24 b=.error e/\xs=[zaO,.int .i64 e])\/∃m mv,za8 24 b=.ok m/\xs=[mv,.int .i64 0]/\MV (clm mv) m
theorem zvY{F:Nat->FSt}:Cb F zaO:=.agg _ λc hc=>by
 simp at hc
 rcases hc with rfl|rfl
 .exact .nilsl
 .exact .int _ _
theorem zr6:clm zaO=zaO:=by simp[zaO]
theorem zvZ(VT:zb3 G)(hG:∀k,StillI (G.g k))(hy:∀l,¬G.has l){b:List UInt8}(hl:b.length<=2^14)
  (hn:∀e,za8 24 b=.error e->R (.ret (.tuple [zaO,.int .i64 e])) J) (hs:∀m mv,za8 24 b=.ok m->MV mv m->R (.ret (.tuple [mv,.int .i64 0])) J):zzQ G 19 [.str b] J R:=by
 refine zvd (Q:=zIO b) hG hy (λv hv=>by simp at hv;subst hv;exact .str b) (zeU VT zph trivial (by omega) (λe he J1 A1=>?_) (λm hm mv J1 hmv A1=>?_)) λxs hq=>?_
 .exact⟨_,rfl,λv hv=>by simp at hv;rcases hv with rfl|rfl;exact zvY;exact .int _ _,.inl ⟨e,he,rfl⟩⟩
 .have h01:0<J1.nf/\J1.F 0=.alive:=⟨by have:=A1.nf;have:=zph.1;omega,(A1.fam 0 zph.1).trans zph.2⟩
  obtain⟨hcb,hmv2⟩:=zly (Al.m_e h01 hmv)
  exact⟨_,rfl,λv hv=>by simp at hv;rcases hv with rfl|rfl;exact hcb;exact .int _ _,.inr ⟨m,mv,hm,rfl,hmv2⟩⟩
 .rcases hq with ⟨e,he,rfl⟩|⟨m,mv,hm,rfl,hmv⟩
  .simp only[yaL,yds,zr6,zht]
   exact hn e he
  .simp only[yaL,yds,zht]
   exact hs m _ hm hmv
theorem zv0(hG:∀k,StillI (G.g k))(hy:∀l,¬G.has l){b:List UInt8}(hl:b.length<=2^14)
  (hn:∀e,za8 24 b=.error e->R (.ret (.tuple [zaO,.int .i64 e])) J) (hs:∀m mv,za8 24 b=.ok m->MV mv m->R (.ret (.tuple [mv,.int .i64 0])) J):zzQ G 21 [.str b] J R:=by
 refine zvd (Q:=zIO b) hG hy (λv hv=>by simp at hv;subst hv;exact .str b) (zAI zph hl (λe he J1 A1=>?_) (λm hm mv J1 hmv A1=>?_)) λxs hq=>?_
 .exact⟨_,rfl,λv hv=>by simp at hv;rcases hv with rfl|rfl;exact zvY;exact .int _ _,.inl ⟨e,he,rfl⟩⟩
 .obtain⟨hcb,hmv2⟩:=zly hmv
  exact⟨_,rfl,λv hv=>by simp at hv;rcases hv with rfl|rfl;exact hcb;exact .int _ _,.inr ⟨m,mv,hm,rfl,hmv2⟩⟩
 .rcases hq with ⟨e,he,rfl⟩|⟨m,mv,hm,rfl,hmv⟩
  .simp only[yaL,yds,zr6,zht]
   exact hn e he
  .simp only[yaL,yds,zht]
   exact hs m _ hm hmv
theorem zqK(VT:zb3 G)(hG:∀k,StillI (G.g k))(hy:∀l,¬G.has l)(h00:0<J.nf/\J.F 0=.alive){s:List UInt8}(h:∀J',R (.ret (.bool true)) J'):zzQ G 5 [.str s] J R:=by
 refine zGT rfl ?_
 by_cases hbig:16384<s.length
 .have hbi:(16384:Int)<(s.length:Int):=by omega
  simp[pc5,hbig,hbi]
  refine zc6 VT hG hy ?_
  simp
  exact h _
 .have hbi:¬(16384:Int)<(s.length:Int):=by omega
  have hsl:s.length<=2^14:=by omega
  simp[pc5,hbig,hbi]
  refine zeU VT h00 trivial (by omega) (λe he J1 A1=>?_) (λm hmo mv J1 hmv A1=>?_)
  .have h01:0<J1.nf/\J1.F 0=.alive:=⟨by have:=A1.nf;omega,(A1.fam 0 h00.1).trans h00.2⟩
   have zME:∀Z,Al.ME Z J.nf zaO ⟨[],0,0⟩:=λZ=>⟨.nilsl,rfl,.inl ⟨rfl,rfl⟩⟩
   have zMO:∀Z,Al.MO Z zaO ⟨[],0,0⟩:=λZ=>⟨.nilsl,rfl,.inl ⟨rfl,rfl⟩⟩
   simp[zaO,splice]
   refine zvZ VT hG hy hsl (λe2 he2=>?_) (λm2 mv2 hm2=>by rw[he]at hm2;cases hm2)
   rw[he]at he2;cases he2
   simp[zaO,splice]
   refine zv0 hG hy hsl (λe3 he3=>?_) (λm3 mv3 hm3=>by rw[he]at hm3;cases hm3)
   rw[he]at he3;cases he3
   simp[zaO,splice]
   have hfl:(⟨[],0,0⟩:M).funcs.length<=2^40:=by simp
   have hsz:∀f∈(⟨[],0,0⟩:M).funcs,Al.SzE f:=by simp
   have hm2:MV (.agg [.nilsl,.int .i64 0,.int .i64 0]) ⟨[],0,0⟩:=⟨.nilsl,rfl,.inl ⟨rfl,rfl⟩⟩
   have hm3:=hm2
   have n01:¬J1.no=J1.no+1:=by omega
   have n02:¬J1.no=J1.no+1+1:=by omega
   have n12:¬J1.no+1=J1.no+1+1:=by omega
   have A3:zb J1 ((((((J1.newO [yc9,.int .i64 0,.int .i64 0]).setO J1.no [.nilsl,.int .i64 0,.int .i64 0]).newO [yc9,.int .i64 0,.int .i64 0]).setO (J1.no+1) [.nilsl,.int .i64 0,.int .i64 0]).newO [yc9,.int .i64 0,.int .i64 0]).setO (J1.no+1+1) [.nilsl,.int .i64 0,.int .i64 0]):=((((((zb.refl J1).newO.setO (yah _)).newO).setO (by omega)).newO).setO (by omega))
   have o1:((((((J1.newO [yc9,.int .i64 0,.int .i64 0]).setO J1.no [.nilsl,.int .i64 0,.int .i64 0]).newO [yc9,.int .i64 0,.int .i64 0]).setO (J1.no+1) [.nilsl,.int .i64 0,.int .i64 0]).newO [yc9,.int .i64 0,.int .i64 0]).setO (J1.no+1+1) [.nilsl,.int .i64 0,.int .i64 0]).objs J1.no=some [.nilsl,.int .i64 0,.int .i64 0]:=by simp[n01,n02]
   have o2:((((((J1.newO [yc9,.int .i64 0,.int .i64 0]).setO J1.no [.nilsl,.int .i64 0,.int .i64 0]).newO [yc9,.int .i64 0,.int .i64 0]).setO (J1.no+1) [.nilsl,.int .i64 0,.int .i64 0]).newO [yc9,.int .i64 0,.int .i64 0]).setO (J1.no+1+1) [.nilsl,.int .i64 0,.int .i64 0]).objs (J1.no+1)=some [.nilsl,.int .i64 0,.int .i64 0]:=by simp[n12]
   have o3:((((((J1.newO [yc9,.int .i64 0,.int .i64 0]).setO J1.no [.nilsl,.int .i64 0,.int .i64 0]).newO [yc9,.int .i64 0,.int .i64 0]).setO (J1.no+1) [.nilsl,.int .i64 0,.int .i64 0]).newO [yc9,.int .i64 0,.int .i64 0]).setO (J1.no+1+1) [.nilsl,.int .i64 0,.int .i64 0]).objs (J1.no+1+1)=some [.nilsl,.int .i64 0,.int .i64 0]:=by simp
   have nZ:((((((J1.newO [yc9,.int .i64 0,.int .i64 0]).setO J1.no [.nilsl,.int .i64 0,.int .i64 0]).newO [yc9,.int .i64 0,.int .i64 0]).setO (J1.no+1) [.nilsl,.int .i64 0,.int .i64 0]).newO [yc9,.int .i64 0,.int .i64 0]).setO (J1.no+1+1) [.nilsl,.int .i64 0,.int .i64 0]).no=J1.no+3:=by simp
   generalize ((((((J1.newO [yc9,.int .i64 0,.int .i64 0]).setO J1.no [.nilsl,.int .i64 0,.int .i64 0]).newO [yc9,.int .i64 0,.int .i64 0]).setO (J1.no+1) [.nilsl,.int .i64 0,.int .i64 0]).newO [yc9,.int .i64 0,.int .i64 0]).setO (J1.no+1+1) [.nilsl,.int .i64 0,.int .i64 0])=Z at *
   have h0Z:0<Z.nf/\Z.F 0=.alive:=⟨by have:=A3.nf;omega,(A3.fam 0 h01.1).trans h01.2⟩
   have hME:Al.ME Z J.nf (.agg [.nilsl,.int .i64 0,.int .i64 0]) ⟨[],0,0⟩:=zME Z
   have hMO1:Al.MO Z (.agg [.nilsl,.int .i64 0,.int .i64 0]) ⟨[],0,0⟩:=Al.m_e h0Z hME
   refine Al.eqM_calls hMO1 (Al.m_o hm3) hfl hsz λZ2 A2=>?_
   have p1:=(A2.obj J1.no (by omega)).trans o1
   have p2:=(A2.obj (J1.no+1) (by omega)).trans o2
   have p3:=(A2.obj (J1.no+1+1) (by omega)).trans o3
   have hME2:=zsV hME A2.nf λf hf=>A2.fam f hf
   have h02:0<Z2.nf/\Z2.F 0≠.dead:=⟨by have:=A2.nf;omega,by rw[A2.fam 0 h0Z.1,h0Z.2];simp⟩
   have n2:=A2.no
   simp[p1,p2,p3]
   refine Al.spoilM_calls hME2 h00.1 (by simp) (λf hf=>(hsz f hf).params) (λf hf=>(hsz f hf).locals) (λf hf=>(hsz f hf).lists) (λf hf r hr=>by have:=(hsz f hf).rows r hr;omega) h02 λZ3 S3=>?_
   have r2:=(S3.obj (J1.no+1) (by omega)).trans p2
   have r3:=(S3.obj (J1.no+1+1) (by omega)).trans p3
   simp[r2,r3]
   refine Al.eqM_calls (Al.m_o hm2) (Al.m_o hm3) hfl hsz λZ4 A4=>?_
   simp
   refine zc6 VT hG hy ?_
   simp
   exact h _
  .have h01:0<J1.nf/\J1.F 0=.alive:=⟨by have:=A1.nf;omega,(A1.fam 0 h00.1).trans h00.2⟩
   have hmv':=hmv
   obtain⟨fv,rfl,hof⟩:=hmv'
   have fv1:=zhA hof
   obtain⟨toks,t1,hpf,hmem,hmain⟩:=zoE hmo
   obtain⟨n1,n2⟩:=zpg hmo
   have hfl:m.funcs.length<=2^30:=by omega
   have hsz:∀f∈m.funcs,Al.SzE f:=λf hf=>by
    obtain⟨a,b,c,d⟩:=n2 f hf
    exact⟨by omega,by omega,by omega,λr hr=>by have:=d r hr;omega⟩
   simp[fv1,splice]
   refine zvZ VT hG hy hsl (λe2 he2=>by rw[hmo]at he2;cases he2) (λm2 mv2 hmo2 hm2=>?_)
   rw[hmo]at hmo2;cases hmo2
   have hm2':=hm2
   obtain⟨gv,rfl,hgs⟩:=hm2'
   have gv1:=hgs.one
   simp[gv1,splice]
   refine zv0 hG hy hsl (λe3 he3=>by rw[hmo]at he3;cases he3) (λm3 mv3 hmo3 hm3=>?_)
   rw[hmo]at hmo3;cases hmo3
   have hm3':=hm3
   obtain⟨kv,rfl,hks⟩:=hm3'
   have kv1:=hks.one
   simp[fv1,gv1,kv1,splice,show ¬J1.no=J1.no+1+1 by omega,show ¬J1.no=J1.no+1 by omega]
   have n01:¬J1.no=J1.no+1:=by omega
   have n02:¬J1.no=J1.no+1+1:=by omega
   have n12:¬J1.no+1=J1.no+1+1:=by omega
   have A3:zb J1 ((((((J1.newO [yc9,.int .i64 0,.int .i64 0]).setO J1.no [fv,.int .i64 m.memory,.int .i64 m.main]).newO [yc9,.int .i64 0,.int .i64 0]).setO (J1.no+1) [gv,.int .i64 m.memory,.int .i64 m.main]).newO [yc9,.int .i64 0,.int .i64 0]).setO (J1.no+1+1) [kv,.int .i64 m.memory,.int .i64 m.main]):=((((((zb.refl J1).newO.setO (yah _)).newO).setO (by omega)).newO).setO (by omega))
   have o1:((((((J1.newO [yc9,.int .i64 0,.int .i64 0]).setO J1.no [fv,.int .i64 m.memory,.int .i64 m.main]).newO [yc9,.int .i64 0,.int .i64 0]).setO (J1.no+1) [gv,.int .i64 m.memory,.int .i64 m.main]).newO [yc9,.int .i64 0,.int .i64 0]).setO (J1.no+1+1) [kv,.int .i64 m.memory,.int .i64 m.main]).objs J1.no=some [fv,.int .i64 m.memory,.int .i64 m.main]:=by simp[n01,n02]
   have o2:((((((J1.newO [yc9,.int .i64 0,.int .i64 0]).setO J1.no [fv,.int .i64 m.memory,.int .i64 m.main]).newO [yc9,.int .i64 0,.int .i64 0]).setO (J1.no+1) [gv,.int .i64 m.memory,.int .i64 m.main]).newO [yc9,.int .i64 0,.int .i64 0]).setO (J1.no+1+1) [kv,.int .i64 m.memory,.int .i64 m.main]).objs (J1.no+1)=some [gv,.int .i64 m.memory,.int .i64 m.main]:=by simp[n12]
   have o3:((((((J1.newO [yc9,.int .i64 0,.int .i64 0]).setO J1.no [fv,.int .i64 m.memory,.int .i64 m.main]).newO [yc9,.int .i64 0,.int .i64 0]).setO (J1.no+1) [gv,.int .i64 m.memory,.int .i64 m.main]).newO [yc9,.int .i64 0,.int .i64 0]).setO (J1.no+1+1) [kv,.int .i64 m.memory,.int .i64 m.main]).objs (J1.no+1+1)=some [kv,.int .i64 m.memory,.int .i64 m.main]:=by simp
   have nZ:((((((J1.newO [yc9,.int .i64 0,.int .i64 0]).setO J1.no [fv,.int .i64 m.memory,.int .i64 m.main]).newO [yc9,.int .i64 0,.int .i64 0]).setO (J1.no+1) [gv,.int .i64 m.memory,.int .i64 m.main]).newO [yc9,.int .i64 0,.int .i64 0]).setO (J1.no+1+1) [kv,.int .i64 m.memory,.int .i64 m.main]).no=J1.no+3:=by simp
   generalize ((((((J1.newO [yc9,.int .i64 0,.int .i64 0]).setO J1.no [fv,.int .i64 m.memory,.int .i64 m.main]).newO [yc9,.int .i64 0,.int .i64 0]).setO (J1.no+1) [gv,.int .i64 m.memory,.int .i64 m.main]).newO [yc9,.int .i64 0,.int .i64 0]).setO (J1.no+1+1) [kv,.int .i64 m.memory,.int .i64 m.main])=Z at *
   have h0Z:0<Z.nf/\Z.F 0=.alive:=⟨by have:=A3.nf;omega,(A3.fam 0 h01.1).trans h01.2⟩
   have hME:Al.ME Z J.nf (.agg [fv,.int .i64 m.memory,.int .i64 m.main]) m:=zsV hmv A3.nf λf hf=>A3.fam f hf
   have hMO1:Al.MO Z (.agg [fv,.int .i64 m.memory,.int .i64 m.main]) m:=Al.m_e h0Z hME
   refine Al.eqM_calls hMO1 (Al.m_o hm3) (by omega) hsz λZ2 A2=>?_
   have p1:=(A2.obj J1.no (by omega)).trans o1
   have p2:=(A2.obj (J1.no+1) (by omega)).trans o2
   have p3:=(A2.obj (J1.no+1+1) (by omega)).trans o3
   have hME2:=zsV hME A2.nf λf hf=>A2.fam f hf
   have h02:0<Z2.nf/\Z2.F 0≠.dead:=⟨by have:=A2.nf;omega,by rw[A2.fam 0 h0Z.1,h0Z.2];simp⟩
   have n2:=A2.no
   simp[p1,p2,p3,fv1,gv1,kv1]
   refine Al.spoilM_calls hME2 h00.1 (by omega) (λf hf=>(hsz f hf).params) (λf hf=>(hsz f hf).locals) (λf hf=>(hsz f hf).lists) (λf hf r hr=>by have:=(hsz f hf).rows r hr;omega) h02 λZ3 S3=>?_
   have r2:=(S3.obj (J1.no+1) (by omega)).trans p2
   have r3:=(S3.obj (J1.no+1+1) (by omega)).trans p3
   simp[r2,r3,fv1,gv1,kv1]
   refine Al.eqM_calls (Al.m_o hm2) (Al.m_o hm3) (by omega) hsz λZ4 A4=>?_
   simp
   refine zc6 VT hG hy ?_
   simp
   exact h _
end
theorem zv1{w:W}(hf:zT w=true)(hn:zbv w=false):zhF w=spT (zcd w):=by
 rcases zAz hf hn with ⟨a,b⟩|⟨a,b,c⟩
 .unfold zhF zcd
  rw[b,a]
  simp[spT]
 .unfold zhF zcd
  rw[b,c,a]
  simp[spT]
section
variable {G : Env} {J : AS} {R : Out -> AS -> Prop}
def TdI(kw:List UInt8)(v:AV)(l:List Int)(J:AS)(a:Nat->AV)(Z:AS):Prop:=∃i:Nat,i<=l.length/\a 1=v/\a 5=.str (spT [zj,kw]++spT ((l.take i).map zr))/\a 6=.int .i64 (i:Int)/\Z=J
theorem zr7(l:List Int):(spT (l.map zr)).length=4*l.length:=by
 induction l with
 | nil=>rfl
 | cons t l ih =>
  have:=zg0 t
  simp only[yaL,spT,yaa,yab,yac]at *
  omega
theorem znt{kw:List UInt8}{v:AV}{l:List Int}(hv:Al.IntsO J v l)(hk:kw.length<=10)(hl:l.length<=2^40)(ht:∀t∈l,t=1\/t=2)(h:R (.ret (.str (spT (zD kw l)))) J):zzQ G 84 [.str kw,v] J R:=by
 refine zDu rfl ?_
 have vl:=hv.len
 by_cases h0:l=[]
 .subst h0
  simp[zD,spT]at h
  simp[zK4,vl]
  exact h
 .have hne:¬l.length=0:=λq=>h0 (List.length_eq_zero_iff.1 q)
  have hnei:¬(l.length:Int)=0:=by omega
  have hsp:spT (zD kw l)=spT [zj,kw]++spT (l.map zr)++[32,41]:=by
   unfold zD
   rw[if_neg h0]
   have:zj::kw::(l.map zr++[zd])=[zj,kw]++(l.map zr++[zd]):=rfl
   rw[this,zc,zc,ydp]
   rfl
  rw[hsp]at h
  simp[zK4,vl,h0,hne,hnei]
  refine⟨by omega,zy (TdI kw v l J) (MU 6 (l.length+1)) ⟨0,by omega,by simp,by simp[spT,zj],by simp,rfl⟩ λa Z hI=>?_⟩
  obtain⟨i,hi,a1,a5,a6,rfl⟩:=hI
  by_cases hlt:i<l.length
  .obtain⟨φ,hr,hat⟩:=hv.at hlt
   have hr':=hr.read
   have hlti:(i:Int)<(l.length:Int):=by omega
   have w1:yb4 .i64 ((i:Int)+1)=((i+1:Nat):Int):=by rw[wrap_i64]<;>omega
   have htt:zr (if l[i]=2 then 2 else 1)=zr l[i]:=by
    rcases ht _ (yaw hlt)with e|e<;>rw[e]<;>rfl
   have hsl:=zr7 (l.take i)
   have hs2:(spT [zj,kw]).length<=20:=by simp[spT,zj];omega
   have tl:=zg0 l[i]
   rw[ybf]at hsl
   have hnx:spT ((l.take (i+1)).map zr)=spT ((l.take i).map zr)++32::zr l[i]:=by
    rw[yc5 hlt,List.map_append,zc]
    simp[spT]
   generalize hX:spT [zj,kw]++spT ((l.take i).map zr)=X at a5
   have hXl:X.length<=20+4*i:=by rw[<-hX,yab];omega
   simp[zmC,a1,a5,a6,vl,hlt,hlti,hat,hr']
   refine⟨by omega,zrS ?_⟩
   rw[htt]
   simp[a1,a6,w1]
   refine⟨by omega,⟨i+1,hlt,by simp[a1],?_,by simp,rfl⟩,?_⟩
   .rw[hnx,<-ydp,hX]
    simp
   .simp[MU,a6];omega
  .have e:i=l.length:=by omega
   subst e
   have hsl:=zr7 l
   have hs2:(spT [zj,kw]).length<=20:=by simp[spT,zj];omega
   rw[yc7 (yah _)]at a5
   generalize hX:spT [zj,kw]++spT (l.map zr)=X at a5 h
   have hXl:X.length<=20+4*l.length:=by rw[<-hX,yab];omega
   simp[zmC,zuf,a1,a5,a6,vl]
   exact⟨by omega,h⟩
def zKc(B:Nat)(G:Env)(J0:AS)(ls:To)(d:Nat):Prop:=∀(J:AS) (R:Out->AS->Prop) (fv:AV) (f:F) (i:Int) (ws:List W) (toks:List Tok) (acc:To) (out:List W) (acc':To),f.lists=ls->Al.FVO J0 fv f->zb J0 J->0<=i->ls[i.toNat]?=some ws->PrB B ls d ws acc toks out acc'->(spT toks).length<2^44 ->
 (∀J',zb J J'->R (.ret (.str (spT toks))) J')->zzQ G 86 [fv,.int .i64 i] J R
def LdI(B:Nat)(ls:To)(d:Nat)(fc:List AV)(i:Int)(ws:List W)(toks:List Tok)(acc':To)(J:AS)(a:Nat->AV)(Z:AS):Prop:=∃(j:Nat) (t1 t2:List Tok) (acc1:To) (out1:List W),j<=ws.length/\toks=t1++t2/\PrB B ls d (ws.drop j) acc1 t2 out1 acc' /\
 a 1=.int .i64 i/\a 2=.ptr J.no 0/\a 5=.str (spT t1)/\a 6=.int .i64 (j:Int)/\Z.objs J.no=some fc/\J.no<Z.no/\zb J Z
theorem ztj{B:Nat}{J0 ls d}(IH:d<B->zKc B G J0 ls (d+1)){f:F}{pv lv tv:AV}{i:Int}{ws:List W}{toks:List Tok}{acc':To}(hls:f.lists=ls)(hf:Al.FVO J0 (.agg [.str f.name,pv,lv,.int .i64 f.type,tv]) f)(h1:pv.known=true/\pv.one=true/\pv.cells=[pv])(h2:lv.known=true/\lv.one=true/\lv.cells=[lv])(h3:tv.known=true/\tv.one=true/\tv.cells=[tv])
  (hA0:zb J0 J) (hi0:0<=i) (hws:ls[i.toNat]?=some ws) (hwl:ws.length<=2^40) (hl:(spT toks).length<2^44) (hR:∀J',zb J J'->R (.ret (.str (spT toks))) J') {a:Nat->AV} {Z:AS} (hI:LdI B ls d [.str f.name,pv,lv,.int .i64 f.type,tv] i ws toks acc' J a Z) :
  avc yb9 G 74 zdJ (zan (λa' J'=>LdI B ls d [.str f.name,pv,lv,.int .i64 f.type,tv] i ws toks acc' J a' J'/\MU 6 (ws.length+1) a' J'<MU 6 (ws.length+1) a Z) (zai 0 (zan (avc yb9 G 74 zpS (zcq yb9 [.tmp 4] R)) (zcq yb9 [.tmp 4] R)))) a Z:=by
 obtain⟨j,t1,t2,acc1,out1,hj,ht,hpr,a1,a2,a5,a6,ho,hon,hA⟩:=hI
 have hft:=hf.keep (hA0.trans hA)
 obtain⟨_,_,_,q,i1,i2,i3⟩:=hft
 simp only[AV.agg.injEq,ydZ.injEq,and_true,true_and]at q
 obtain⟨rfl,rfl,rfl⟩:=q
 obtain⟨hlt0,hget⟩:=yaq.1 hws
 rw[<-hls]at hlt0
 obtain⟨φ,rv,hr,hrv,hat⟩:=i3.at hlt0
 subst hls
 rw[hget]at hrv
 rw[yed hi0]at hat
 have hrd:=hr.read
 have v1:=hrv.one
 have vl:=zrO hrv
 have hlt1:(spT toks).length=(spT t1).length+(spT t2).length:=by rw[ht,zc,yab]
 by_cases hlt:j<ws.length
 .have hdrop:ws.drop j=ws[j]::ws.drop (j+1):=ydd hlt
  obtain⟨φ2,hr2,hat2⟩:=RepO.at hrv hlt
  have hrd2:=hr2.read
  have hlti:(j:Int)<(ws.length:Int):=by omega
  have w1:yb4 .i64 ((j:Int)+1)=((j+1:Nat):Int):=by rw[wrap_i64]<;>omega
  rw[hdrop]at hpr
  generalize hw:ws[j]=w at *
  have A1:zb Z ((Z.newO zbn.cs).setO Z.no w.cs):=(zb.refl Z).newO.setO (yah _)
  have o1:((Z.newO zbn.cs).setO Z.no w.cs).objs Z.no=some w.cs:=by simp
  have ho1:=(A1.obj _ hon).trans ho
  have n1:((Z.newO zbn.cs).setO Z.no w.cs).no=Z.no+1:=by simp
  have hne:¬J.no=Z.no:=by omega
  simp only[W.cs,zbn]at A1 o1 ho1 n1
  have fin:∀(a':Nat->AV) (Z':AS) (t2a t2b:List Tok) (acc2 out2),t2=t2a++t2b->PrB B f.lists d (ws.drop (j+1)) acc2 t2b out2 acc'->zb Z Z'->a' 1=.int .i64 i->a' 2=.ptr J.no 0->a' 5=.str (spT t1++spT t2a)->a' 6=.int .i64 ((j+1:Nat):Int) ->
    LdI B f.lists d [.str f.name,pv,lv,.int .i64 f.type,tv] i ws toks acc' J a' Z'/\MU 6 (ws.length+1) a' Z'<MU 6 (ws.length+1) a Z:=by
   intro a' Z' t2a t2b acc2 out2 q1 q2 q3 q4 q5 q6 q7
   refine⟨⟨j+1,t1++t2a,t2b,acc2,out2,hlt,by rw[ht,q1,ydp],q2,q4,q5,by rw[zc];exact q6,q7,(q3.obj _ hon).trans ho,yag hon q3.no,hA.trans q3⟩,?_⟩
   simp[MU,a6,q7];omega
  have hB0:=hA0.trans hA
  cases hpr with
  | @leaf _ _ _ _ t r' _ hn hform hrg hpr' =>
   have hn':¬w.op=11/\¬w.op=12/\¬w.op=13:=by simpa [zbv,and_assoc]using hn
   have hsp:(spT (zcd w++t)).length=(spT (zcd w)).length+(spT t).length:=by rw[zc,yab]
   simp[zdJ,a1,a2,a5,a6,ho,h3,hat,hrd,v1,vl,hlt,hlti,hat2,hrd2,W.av,W.cs,splice,hne,hn']
   generalize (Z.newO [yc6 .i64 0,yc6 .i64 0,yc6 .i64 0,yc6 .i64 0,yc6 .i64 0,yc8 []]).setO Z.no [yc6 .i64 w.op,yc6 .i64 w.ty,yc6 .i64 w.n,yc6 .i64 w.body,yc6 .i64 w.other,yc8 w.name]=Z1 at *
   refine zAA hrg λZ2 A2=>?_
   rw[zv1 hform hn]
   simp[a1,a2,a6,w1]
   refine⟨by omega,fin _ _ (zcd w) t acc1 r' rfl hpr' (A1.trans A2) (by simp[a1]) (by simp[a2]) (by simp) (by simp)⟩
  | @one _ _ b _ _ tb b' acc2 t r' _ hop hd hb0 hbs hpb hpr' =>
   have hnest:w.op=11\/w.op=12\/w.op=13:=by omega
   have hol:(zaT w.op).length<=5:=by unfold zaT;split<;>(try split)<;>decide
   have hsp:(spT (zaT w.op::(tb++zbE::t))).length=(zaT w.op).length+1+((spT tb).length+(4+(spT t).length)):=by
    have e1:zaT w.op::(tb++zbE::t)=[zaT w.op]++(tb++([zbE]++t)):=rfl
    rw[e1,zc,zc,zc]
    simp only[yab,zS]
    rfl
   rcases hnest with e|e|e
   .obtain⟨op,ty,n,body,other,name⟩:=w
    dsimp only at *
    subst e
    simp[zdJ,a1,a2,a5,a6,ho,h1,h2,h3,hat,hrd,v1,vl,hlt,hlti,hat2,hrd2,W.av,W.cs,splice,hne]
    generalize (Z.newO [yc6 .i64 0,yc6 .i64 0,yc6 .i64 0,yc6 .i64 0,yc6 .i64 0,yc8 []]).setO Z.no [yc6 .i64 11,yc6 .i64 ty,yc6 .i64 n,yc6 .i64 body,yc6 .i64 other,yc8 name]=Z1 at *
    refine⟨by omega,IH hd _ _ _ f body b tb _ _ _ rfl hf (hB0.trans A1) hb0 hbs hpb (by omega) λZ2 A2=>?_⟩
    have q2:=(A2.obj Z.no (by omega)).trans o1
    simp[a1,a2,a6,w1,q2]
    refine⟨by omega,by omega,fin _ _ ([zcF]++tb++[zbE]) t (acc2++[b']) r' (by simp[zaT]) hpr' (A1.trans A2) (by simp[a1]) (by simp[a2]) ?_ (by simp)⟩
    simp[spT,zcF,zbE]
   .obtain⟨op,ty,n,body,other,name⟩:=w
    dsimp only at *
    subst e
    simp[zdJ,a1,a2,a5,a6,ho,h1,h2,h3,hat,hrd,v1,vl,hlt,hlti,hat2,hrd2,W.av,W.cs,splice,hne]
    generalize (Z.newO [yc6 .i64 0,yc6 .i64 0,yc6 .i64 0,yc6 .i64 0,yc6 .i64 0,yc8 []]).setO Z.no [yc6 .i64 12,yc6 .i64 ty,yc6 .i64 n,yc6 .i64 body,yc6 .i64 other,yc8 name]=Z1 at *
    refine⟨by omega,IH hd _ _ _ f body b tb _ _ _ rfl hf (hB0.trans A1) hb0 hbs hpb (by omega) λZ2 A2=>?_⟩
    have q2:=(A2.obj Z.no (by omega)).trans o1
    simp[a1,a2,a6,w1,q2]
    refine⟨by omega,by omega,fin _ _ ([zfH]++tb++[zbE]) t (acc2++[b']) r' (by simp[zaT]) hpr' (A1.trans A2) (by simp[a1]) (by simp[a2]) ?_ (by simp)⟩
    simp[spT,zfH,zbE]
   .obtain⟨op,ty,n,body,other,name⟩:=w
    dsimp only at *
    subst e
    have hno:¬0<=other:=by omega
    simp[zdJ,a1,a2,a5,a6,ho,h1,h2,h3,hat,hrd,v1,vl,hlt,hlti,hat2,hrd2,W.av,W.cs,splice,hne]
    generalize (Z.newO [yc6 .i64 0,yc6 .i64 0,yc6 .i64 0,yc6 .i64 0,yc6 .i64 0,yc8 []]).setO Z.no [yc6 .i64 13,yc6 .i64 ty,yc6 .i64 n,yc6 .i64 body,yc6 .i64 other,yc8 name]=Z1 at *
    refine⟨by omega,IH hd _ _ _ f body b tb _ _ _ rfl hf (hB0.trans A1) hb0 hbs hpb (by omega) λZ2 A2=>?_⟩
    have q2:=(A2.obj Z.no (by omega)).trans o1
    simp[a1,a2,a6,w1,q2,hno]
    refine⟨by omega,by omega,fin _ _ ([tIf]++tb++[zbE]) t (acc2++[b']) r' (by simp[zaT]) hpr' (A1.trans A2) (by simp[a1]) (by simp[a2]) ?_ (by simp)⟩
    simp[spT,tIf,zbE]
  | @two _ _ b e _ _ tb b' acc2 te e' acc3 t r' _ hop hot hd hb0 hbs hes hpb hpe hpr' =>
   have hsp:(spT (tIf::(tb++zaX::(te++zbE::t)))).length=3+((spT tb).length+(5+((spT te).length+(4+(spT t).length)))):=by
    have e1:tIf::(tb++zaX::(te++zbE::t))=[tIf]++(tb++([zaX]++(te++([zbE]++t)))):=rfl
    rw[e1,zc,zc,zc,zc,zc]
    simp only[yab,zS]
    rfl
   obtain⟨op,ty,n,body,other,name⟩:=w
   dsimp only at *
   subst hop
   simp[zdJ,a1,a2,a5,a6,ho,h1,h2,h3,hat,hrd,v1,vl,hlt,hlti,hat2,hrd2,W.av,W.cs,splice,hne]
   generalize (Z.newO [yc6 .i64 0,yc6 .i64 0,yc6 .i64 0,yc6 .i64 0,yc6 .i64 0,yc8 []]).setO Z.no [yc6 .i64 13,yc6 .i64 ty,yc6 .i64 n,yc6 .i64 body,yc6 .i64 other,yc8 name]=Z1 at *
   refine⟨by omega,IH hd _ _ _ f body b tb _ _ _ rfl hf (hB0.trans A1) hb0 hbs hpb (by omega) λZ2 A2=>?_⟩
   have n2:=A2.no
   have q2:=(A2.obj Z.no (by omega)).trans o1
   have r2:=(A2.obj J.no (by omega)).trans ho1
   simp[a1,a2,a6,w1,q2,r2,hot,h1,h2,h3]
   refine⟨by omega,by omega,IH hd _ _ _ f other e te _ _ _ rfl hf ((hB0.trans A1).trans A2) hot hes hpe (by omega) λZ3 A3=>?_⟩
   simp[a1,a2,a6,w1]
   refine⟨by omega,by omega,fin _ _ ([tIf]++tb++[zaX]++te++[zbE]) t (acc3++[e']) r' (by simp) hpr' ((A1.trans A2).trans A3) (by simp[a1]) (by simp[a2]) ?_ (by simp)⟩
   simp[spT,tIf,zaX,zbE]
 .have e:j=ws.length:=by omega
  rw[ydA (by omega)]at hpr
  cases hpr
  rw[yb7]at ht
  subst ht
  simp[zdJ,zpS,a1,a2,a5,a6,ho,h3,hat,hrd,v1,vl,e]
  exact hR _ hA
theorem zpi{B:Nat}{J0 ls d}(hsz:∀ws∈ls,ws.length<=2^40)(IH:d<B->zKc B G J0 ls (d+1)):zKc B G J0 ls d:=by
 intro J R fv f i ws toks acc out acc' hls hf hA hi hws hpr hl hR
 have hf0:=hf
 obtain⟨pv,lv,tv,rfl,i1,i2,i3⟩:=hf
 have h1:=i1.one
 have h2:=i2.one
 have h3:=i3.one
 have hwl:=hsz ws (ydb hws)
 refine zDw rfl ?_
 simp[zL2,h1,h2,h3]
 have A:zb J (J.newO [.str f.name,pv,lv,.int .i64 f.type,tv]):=(zb.refl J).newO
 refine zy (LdI B ls d [.str f.name,pv,lv,.int .i64 f.type,tv] i ws toks acc' J) (MU 6 (ws.length+1)) ⟨0,[],toks,acc,out,Nat.zero_le _,rfl,by simpa using hpr,by simp,by simp,by simp[spT],by simp,by simp,by simp,A⟩ λa Z hI=>?_
 exact ztj IH hls hf0 h1 h2 h3 hA hi hws hwl hl hR hI
theorem znu{B:Nat}{J0 ls}(hsz:∀ws∈ls,ws.length<=2^40):∀k d:Nat,B<=d+k->zKc B G J0 ls d
 | 0,d,hd=>zpi hsz (λh=>by omega)
 | k+1,d,hd=>zpi hsz (λ_=>znu hsz k (d+1) (by omega))
def FdI(B:Nat)(fv:AV)(m:M)(toks:List Tok)(X0:List UInt8)(J:AS)(a:Nat->AV)(Z:AS):Prop:=∃(j:Nat) (t1 t2:List Tok) (fs2:List F),j<=m.funcs.length/\toks=t1++t2/\PrFsB B (m.funcs.drop j) t2 fs2/\a 1=.ptr J.no 0/\a 3=.str (X0++spT t1)/\a 4=.int .i64 (j:Int) /\
 Z.objs J.no=some [fv,.int .i64 m.memory,.int .i64 m.main]/\J.no<Z.no/\zb J Z
theorem zqL{B:Nat}{fv}{m:M}{toks:List Tok}{X0:List UInt8}{mx:Nat}(hfv:Al.FsO J fv m.funcs)(hf:∀f∈m.funcs,Pf mx f)(hsz:∀f∈m.funcs,f.params.length<=2^40/\f.locals.length<=2^40/\f.lists.length<=2^40/\∀ws∈f.lists,ws.length<=2^40)(hfl:m.funcs.length<=2^40)(hl:(X0++spT toks).length<2^43)
  (fin:∀(a:Nat->AV) (Z:AS),a 1=.ptr J.no 0->a 3=.str (X0++spT toks)->Z.objs J.no=some [fv,.int .i64 m.memory,.int .i64 m.main]->zb J Z->avc yb9 G 63 zmu (zcq yb9 [.tmp 2] R) a Z) {a:Nat->AV} {Z:AS} (hI:FdI B fv m toks X0 J a Z) :
  avc yb9 G 63 zjG (zan (λa' J'=>FdI B fv m toks X0 J a' J'/\MU 4 (m.funcs.length+1) a' J'<MU 4 (m.funcs.length+1) a Z) (zai 0 (zan (avc yb9 G 63 zmu (zcq yb9 [.tmp 2] R)) (zcq yb9 [.tmp 2] R)))) a Z:=by
 obtain⟨j,t1,t2,fs2,hj,ht,hpr,a1,a3,a4,ho,hon,hA⟩:=hI
 have f1:=hfv.one
 have hft:=hfv.keep hA
 have fl:=hft.len
 have hlt1:(X0++spT toks).length=X0.length+(spT t1).length+(spT t2).length:=by rw[ht,zc];simp only[yab];omega
 by_cases hlt:j<m.funcs.length
 .have hdrop:m.funcs.drop j=m.funcs[j]::m.funcs.drop (j+1):=ydd hlt
  have hmem:m.funcs[j]∈m.funcs:=yaw hlt
  obtain⟨φ,row,hr,hrow,hat⟩:=hft.at hlt
  have hr':=hr.read
  have hlti:(j:Int)<(m.funcs.length:Int):=by omega
  have w1:yb4 .i64 ((j:Int)+1)=((j+1:Nat):Int):=by rw[wrap_i64]<;>omega
  rw[hdrop]at hpr
  generalize hw:m.funcs[j]=f at *
  have hpf:=hf f hmem
  obtain⟨s1,s2,s3,s4⟩:=hsz f hmem
  have hrow0:=hrow
  obtain⟨pv,lv,tv,rfl,i1,i2,i3⟩:=hrow
  have p1:=i1.one
  have l1:=i2.one
  have v1:=i3.one
  have i3len:=i3.len
  have A1:zb Z ((Z.newO [.str [],.nilsl,.nilsl,.int .i64 0,.nilsl]).setO Z.no [.str f.name,pv,lv,.int .i64 f.type,tv]):=(zb.refl Z).newO.setO (yah _)
  have q1:((Z.newO [.str [],.nilsl,.nilsl,.int .i64 0,.nilsl]).setO Z.no [.str f.name,pv,lv,.int .i64 f.type,tv]).objs Z.no=some [.str f.name,pv,lv,.int .i64 f.type,tv]:=by simp
  have i1k:=i1.keep A1
  have i2k:=i2.keep A1
  have i3k:=i3.keep A1
  generalize hX:X0++spT t1=X at *
  have hXl:X.length=X0.length+(spT t1).length:=by rw[<-hX,yab]
  cases hpr with
  | @cons _ _ tf ls' ts fs' hpF hprs =>
  obtain⟨rw0,out,acc,h1,h2,_⟩:=hpF
  have hl1:f.lists.length-1<f.lists.length:=(yaq.1 h1).1
  have wl:yb4 .i64 ((f.lists.length:Int)-1)=((f.lists.length-1:Nat):Int):=by rw[wrap_i64]<;>omega
  have hl0:(0:Int)<=((f.lists.length-1:Nat):Int):=by omega
  have hln:((f.lists.length-1:Nat):Int).toNat=f.lists.length-1:=by omega
  have hft1:spT (zdR f tf)=spT [zj,zap,36::f.name]++spT (zD zaW f.params)++spT (zgq f.type)++spT (zD zaf f.locals)++spT tf++spT [zd]:=by
   have:zdR f tf=[zj,zap,36::f.name]++zD zaW f.params++zgq f.type++zD zaf f.locals++tf++[zd]:=by simp[zdR]
   rw[this,zc,zc,zc,zc,zc]
  have hl2:(spT (zdR f tf++ts)).length=(spT [zj,zap,36::f.name]).length+(spT (zD zaW f.params)).length+(spT (zgq f.type)).length+(spT (zD zaf f.locals)).length+(spT tf).length+(spT [zd]).length+(spT ts).length:=by
   rw[zc,hft1]
   simp only[yab]
  have e3:(spT [zj,zap,36::f.name]).length=9+f.name.length:=by simp[spT,zj,zap];omega
  have e4:(spT [zd]).length=2:=rfl
  simp[zjG,a1,a3,a4,ho,f1,fl,hlt,hlti,hat,hr',p1,l1,v1,splice]
  refine⟨by omega,by omega,?_⟩
  generalize (Z.newO [.str [],.nilsl,.nilsl,.int .i64 0,.nilsl]).setO Z.no [.str f.name,pv,lv,.int .i64 f.type,tv]=Z1 at *
  refine znt (kw:=zaW) i1k (by decide) s1 hpf.params ?_
  simp[q1,p1,a1,a3]
  have fin2:∀(Z2:AS) (a':Nat->AV),zb Z1 Z2->a' 1=.ptr J.no 0->a' 3=.str (X++spT (zdR f tf))->a' 4=.int .i64 ((j+1:Nat):Int) ->
    FdI B fv m toks X0 J a' Z2/\MU 4 (m.funcs.length+1) a' Z2<MU 4 (m.funcs.length+1) a Z:=by
   intro Z2 a' A2 q1 q2 q3
   have A3:=A1.trans A2
   refine⟨⟨j+1,t1++zdR f tf,ts,fs',hlt,by rw[ht,ydp],hprs,q1,by rw[q2,zc,<-ydp,hX],q3,(A3.obj _ hon).trans ho,yag hon A3.no,hA.trans A3⟩,?_⟩
   simp[MU,a4,q3];omega
  have A0:=hA.trans A1
  have e5:spT [zj,zap,36::f.name]=[32,40,32,102,117,110,99,32,36]++f.name:=by simp[spT,zj,zap]
  by_cases hty:f.type=0
  .have hrz:zgq f.type=[]:=by unfold zgq;rw[if_pos hty]
   have hty':(f.type=0)=True:=eq_true hty
   simp[q1,p1,l1,v1,a1,a3,hty',i3len,wl]
   refine⟨by omega,?_⟩
   refine znt (kw:=zaf) i2k (by decide) s2 hpf.locals ?_
   simp[q1,p1,l1,v1,a1,a3,i3len,wl,i3k.len]
   refine⟨by omega,?_⟩
   refine znu (B:=B) s4 B 0 (by omega) _ _ _ f _ rw0 tf [] out acc rfl hrow0 A1 hl0 (by rw[hln];exact h1) h2 (by omega) λZ2 A2=>?_
   simp[a1,a3,a4,w1]
   refine⟨by omega,by omega,fin2 _ _ A2 (by simp[a1]) ?_ (by simp)⟩
   rw[hft1,e5,hrz]
   simp[spT,zd]
  .have hrz:zgq f.type=[zj,zcv,zr f.type,zd]:=by unfold zgq;rw[if_neg hty]
   have hrl:(spT (zgq f.type)).length=15:=by
    have:=zg0 f.type
    rw[hrz]
    simp[spT,zj,zcv,zd]
    omega
   have hty':(f.type=0)=False:=eq_false hty
   have htt:zr (if f.type=2 then 2 else 1)=zr f.type:=by
    have:=hpf.type
    have e:f.type=1\/f.type=2:=by omega
    rcases e with e|e<;>rw[e]<;>rfl
   have tl:=zg0 f.type
   simp[q1,p1,l1,v1,a1,a3,hty',i3len,wl]
   refine⟨by omega,by omega,?_⟩
   refine zrS ?_
   rw[htt]
   simp[q1,p1,l1,v1,a1,a3,i3len,wl]
   refine⟨by omega,by omega,?_⟩
   refine znt (kw:=zaf) i2k (by decide) s2 hpf.locals ?_
   simp[q1,p1,l1,v1,a1,a3,i3len,wl,i3k.len]
   refine⟨by omega,?_⟩
   refine znu (B:=B) s4 B 0 (by omega) _ _ _ f _ rw0 tf [] out acc rfl hrow0 A1 hl0 (by rw[hln];exact h1) h2 (by omega) λZ2 A2=>?_
   simp[a1,a3,a4,w1]
   refine⟨by omega,by omega,fin2 _ _ A2 (by simp[a1]) ?_ (by simp)⟩
   rw[hft1,e5,hrz]
   simp[spT,zd,zj,zcv]
 .have e:j=m.funcs.length:=by omega
  rw[ydA (by omega)]at hpr
  cases hpr
  rw[yb7]at ht
  subst ht
  simp[zjG,a1,a3,a4,ho,f1,fl,e]
  exact fin _ _ (by simp[a1]) (by simp[a3]) ho hA
theorem zAM{B:Nat}{m:M}{mv:AV}{toks:List Tok}{fs2:List F}{mx:Nat}(hm:Al.MO J mv m)(hpr:PrFsB B m.funcs toks fs2)(hf:∀f∈m.funcs,Pf mx f)(hsz:∀f∈m.funcs,f.params.length<=2^40/\f.locals.length<=2^40/\f.lists.length<=2^40/\∀ws∈f.lists,ws.length<=2^40)(hfl:m.funcs.length<=2^40)
  (hmem:-(2^63)<=m.memory/\m.memory<2^63) (hl:(zgg (zbZ m toks)).length<2^43) (h:∀J',zb J J'->R (.ret (.str (zgg (zbZ m toks)))) J'):zzQ G 32 [mv] J R:=by
 refine zC2 rfl ?_
 obtain⟨fv,rfl,hfv⟩:=hm
 have f1:=hfv.one
 have fl:=hfv.len
 rw[zhB]at hl h
 have hh:za3.length=185:=by rfl
 have i1:=Lib.itoa_length_le m.memory hmem.1 (by omega)
 have i2:=Lib.itoa_length_le (yb4 .i64 (m.main+3)) (zcw _).1.1 (by have:=(zcw (m.main+3)).1.2;omega)
 have e3:(spT [zj,zbe,zeK,zj,zap]).length=23:=by rfl
 have e1:spT [Lib.itoa m.memory,zd,zd]=32::(Lib.itoa m.memory++[32,41,32,41]):=by simp[spT,zd]
 have e2:spT [zj,zbe,zeK,zj,zap,Lib.itoa (yb4 .i64 (m.main+3)),zd,zd,zd]=spT [zj,zbe,zeK,zj,zap]++32::(Lib.itoa (yb4 .i64 (m.main+3))++[32,41,32,41,32,41]):=by simp[spT,zd]
 rw[e1,e2]at hl h
 simp only[yab,yac,ybl]at hl
 simp[zLI,f1]
 have A1:zb J (J.newO [fv,.int .i64 m.memory,.int .i64 m.main]):=(zb.refl J).newO
 refine zfy hmem.1 hmem.2 ?_
 simp
 refine⟨by omega,by omega,?_⟩
 refine zy (FdI B fv m toks (za3++32::(Lib.itoa m.memory++[32,41,32,41])) J) (MU 4 (m.funcs.length+1)) ⟨0,[],toks,fs2,Nat.zero_le _,rfl,by simpa using hpr,by simp,?_,by simp,by simp,by simp,A1⟩ λa Z hI=>?_
 .simp[spT,za3]
 refine zqL hfv hf hsz hfl ?_ (λa Z a1 a3 ho hA=>?_) hI
 .simp only[yab,yac,ybl]
  omega
 simp[zmu,a1,a3,ho,f1]
 refine⟨by omega,?_⟩
 refine zfy (zcw _).1.1 (zcw _).1.2 ?_
 simp
 refine⟨?_,?_,?_⟩
 .omega
 .omega
 .have:=h _ hA
  have e4:spT [zj,zbe,zeK,zj,zap]=[32,40,32,101,120,112,111,114,116,32,34,109,97,105,110,34,32,40,32,102,117,110,99]:=by decide
  rw[e4]at this
  simpa [ydp]using this
theorem zqM(VT:zb3 G)(VC:zh2 G)(hG:∀k,StillI (G.g k))(hy:∀l,¬G.has l){mv:AV}{m:M}(hm:MV mv m)(hfl:m.funcs.length<=2^20)(hf:∀f∈m.funcs,zFH f)(hrg:∀f∈m.funcs,RgL f.lists)(h:∀J',R (.ret (.bool true)) J'):zzQ G 7 [mv] J R:=by
 refine zGU rfl ?_
 have hm0:=hm
 obtain⟨fv,rfl,hfs⟩:=hm
 have f1:=hfs.one
 have A1:zb J (J.newO [fv,.int .i64 m.memory,.int .i64 m.main]):=(zb.refl J).newO
 have o1:(J.newO [fv,.int .i64 m.memory,.int .i64 m.main]).objs J.no=some [fv,.int .i64 m.memory,.int .i64 m.main]:=by simp
 have hl1:J.no<(J.newO [fv,.int .i64 m.memory,.int .i64 m.main]).no:=by simp
 simp[pc7,f1]
 generalize J.newO [fv,.int .i64 m.memory,.int .i64 m.main]=J1 at *
 refine zEl VC hG hy (Al.m_o hm0) hfl hf λb J2 hb A2=>?_
 have ho2:=(A2.obj J.no hl1).trans o1
 cases b with
 | true =>
  simp[ho2,f1]
  refine zc6 VT hG hy ?_
  simp
  exact h _
 | false =>
  have hF:=hb rfl
  have hfn:=zaZ hF.good
  obtain⟨toks,fs2,w1,w2,_⟩:=zkx (B:=3001) (gs:=m.funcs) m.funcs λf q=>⟨hfn f q,hrg f q,by have:=(hF.each f q).1;omega,zno (hF.each f q).2,by have:=(hF.each f q).1;omega⟩
  have hmem:=ze0 hF.good
  have h40:=hF.funcs
  have htl:=znp m toks (by omega) (by omega)
  have hpf:∀f∈m.funcs,Pf 24 f:=λf q=>zIC (hfn f q) (hF.each f q).2
  have hsz:∀f∈m.funcs,f.lists.length<=2^40/\∀ws∈f.lists,ws.length<=2^40:=λf q=>⟨by have:=(hf f q).lists;omega,λws hw=>by have:=(hf f q).rows ws hw;omega⟩
  have hsz2:∀f∈m.funcs,f.params.length<=2^40/\f.locals.length<=2^40/\f.lists.length<=2^40/\∀ws∈f.lists,ws.length<=2^40:=λf q=>⟨by have:=(hf f q).params;omega,by have:=(hf f q).locals;omega,hsz f q⟩
  simp[ho2,f1]
  refine zp3 hm0 (by omega) (λf q=>(hsz2 f q).1) (λf q=>(hsz2 f q).2.1) (λf q=>(hsz2 f q).2.2.1) (λf q=>(hsz2 f q).2.2.2) λmv3 J3 hm3 A3=>?_
  have ho3:=(A3.obj J.no (by have:=A2.no;omega)).trans ho2
  have hl3:J.no<J3.no:=by have:=A2.no;have:=A3.no;omega
  have hm4:=hm3
  obtain⟨gv,rfl,hgs⟩:=hm3
  have g1:=hgs.one
  have B3:zb J3 ((J3.newO [yc9,.int .i64 0,.int .i64 0]).setO J3.no [gv,.int .i64 m.memory,.int .i64 m.main]):=(zb.refl J3).newO.setO (yah _)
  have hp3:((J3.newO [yc9,.int .i64 0,.int .i64 0]).setO J3.no [gv,.int .i64 m.memory,.int .i64 m.main]).objs J3.no=some [gv,.int .i64 m.memory,.int .i64 m.main]:=by simp
  have hq3:=(B3.obj J.no hl3).trans ho3
  have hn3:J3.no<((J3.newO [yc9,.int .i64 0,.int .i64 0]).setO J3.no [gv,.int .i64 m.memory,.int .i64 m.main]).no:=by simp
  have hne:¬J.no=J3.no:=by omega
  simp[ho3,f1,g1,splice,hne]
  generalize (J3.newO [yc9,.int .i64 0,.int .i64 0]).setO J3.no [gv,.int .i64 m.memory,.int .i64 m.main]=J4 at *
  refine zkk VT.pow (Al.m_o hm4) w1 hpf (by decide) hsz (by omega) ⟨by omega,by omega⟩ (by omega) λJ5 A5=>?_
  have ho5:=(A5.obj J.no (by omega)).trans hq3
  have hp5:=(A5.obj J3.no hn3).trans hp3
  simp[ho5,hp5,f1,g1]
  refine zAM (Al.m_o hm0) w1 hpf hsz2 (by omega) ⟨by omega,by omega⟩ (by omega) λJ6 A6=>?_
  have n5:=A5.no
  have ho6:=(A6.obj J.no (by omega)).trans ho5
  have hp6:=(A6.obj J3.no (by omega)).trans hp5
  simp[ho6,hp6,f1,g1]
  refine Al.eqM_calls (Al.m_o hm4) (Al.m_o hm0) (by omega) (λf q=>?_) λJ7 A7=>?_
  .have:=hf f q
   exact⟨by have:=this.params;omega,by have:=this.locals;omega,by have:=this.lists;omega,λr hr=>by have:=this.rows r hr;omega⟩
  .simp
   refine zc6 VT hG hy ?_
   simp
   exact h _
end
theorem NZ.bind{α β:Type}{r:Res α}{f:α->Res β}(hr:NZ r)(hf:∀x,NZ (f x)):NZ (r.bind f):=λe h=>by
 cases r with
 | error k=>cases h;exact hr _ rfl
 | ok x=>exact hf x e h
theorem NZ.map{α β:Type}{r:Res α}(f:α->β)(hr:NZ r):NZ (r.map f):=λe h=>by
 cases r with
 | error k=>cases h;exact hr _ rfl
 | ok x=>cases h
theorem NZ.ite{α:Type}{c:Prop}[Decidable c]{x y:Res α}(hx:NZ x)(hy:NZ y):NZ (if c then x else y):=by
 split
 .exact hx
 .exact hy
theorem zg3(s:Ts):NZ (zaj s):=by
 unfold zaj
 split
 .exact .err (by decide)
 .exact .ok _
theorem ze4:∀(ts:List (List UInt8)) (s:Ts),NZ (zx ts s)
 | [],s=>.ok _
 | t::ts,s=>by
  rw[zx]
  exact(zg3 s).bind λp=>.ite (ze4 ts _) (.err (by decide))
theorem zED(t:List UInt8):NZ (zh0 t):=by
 unfold zh0
 split
 .exact .err (by decide)
 .split
  .exact .ite (.ok _) (.err (by decide))
  .exact .err (by decide)
theorem zhH(s:Ts):NZ (zR s):=(zg3 s).bind λp=>.map _ (zED _)
theorem zg4:∀(k:Nat) (l:List Int) (s:Ts),NZ (zaH k l s)
 | 0,_,_=>.err (by decide)
 | k+1,l,s=>by
  rw[zaH]
  exact(zg3 s).bind λp=>.ite (zg4 k _ _) (.ite (zg4 k _ _) (.ite (.ok _) (.err (by decide))))
theorem zv2{rec:zDN}(hr:∀d o s,NZ (rec d o s))(t:List UInt8)(d:Nat)(s:Ts):NZ (zaI rec t d s):=by
 unfold zaI
 refine .ite ?_ ?_
 .unfold zbA
  split
  .exact .map _ (zhH s)
  .split
   .exact .ok _
   .exact .err (by decide)
 .unfold zad
  exact .ite (.err (by decide)) ((hr _ _ _).bind λp=>.ite (.ite (.map _ (hr _ _ _)) (.ok _)) (.ok _))
theorem znv:∀(k d:Nat) (o:Bool) (l:List W) (s:Ts),NZ (zw k d o l s)
 | 0,_,_,_,_=>.err (by decide)
 | k+1,d,o,l,s=>by
  rw[zw]
  exact(zg3 s).bind λp=>.ite (.ok _) ((zv2 (λd o s=>znv k d o [] s) _ _ _).bind λq=>znv k d o _ _)
theorem zr8(w:List UInt8)(s:Ts):NZ (zbB w s):=by
 unfold zbB
 split
 .exact zg4 _ _ _
 .exact .ok _
theorem zEE(s:Ts):NZ (zjT s):=by
 unfold zjT
 split
 .exact(zg4 _ _ _).bind λr=>.ite (.ok _) (.err (by decide))
 .exact .ok _
theorem zpj(mx:Nat)(s:Ts):NZ (zL mx s):=by
 unfold zL
 exact(zg3 s).bind λp=>.ite ((zr8 _ _).bind λq=>(zEE _).bind λr=>(zr8 _ _).bind λu=>.map _ (znv _ _ _ _ _)) (.err (by decide))
theorem zg5(mx:Nat):∀(k:Nat) (l:List F) (s:Ts),NZ (zC mx k l s)
 | 0,_,_=>.err (by decide)
 | k+1,l,s=>by
  rw[zC]
  split
  .exact .ok _
  .exact(zpj mx _).bind λp=>zg5 mx k _ _
theorem zv3{mx:Nat}{b:List UInt8}{e:Int}(h:za8 mx b=.error e):e≠0:=by
 have:NZ (za8 mx b):=by
  unfold za8 zcb
  exact .map _ ((ze4 _ _).bind λs=>(zhH _).bind λmem=>(ze4 _ _).bind λs=>(zg5 mx _ _ _).bind λfs=>(ze4 _ _).bind λs=>(zhH _).bind λmn=>(ze4 _ _).bind λs=>.ite (.ok _) (.err (by decide)))
 exact this e h
section
variable {G : Env} {J : AS} {R : Out -> AS -> Prop}
theorem ztk(VT:zb3 G)(VC:zh2 G)(hG:∀k,StillI (G.g k))(hy:∀l,¬G.has l)(h00:0<J.nf/\J.F 0=.alive){s:List UInt8}(h:∀J',R (.ret (.bool true)) J'):zzQ G 8 [.str s] J R:=by
 refine zGV rfl ?_
 by_cases hbig:16384<s.length
 .have hbi:(16384:Int)<(s.length:Int):=by omega
  simp[pc8,hbig,hbi]
  refine zc6 VT hG hy ?_
  simp
  exact h _
 .have hbi:¬(16384:Int)<(s.length:Int):=by omega
  simp[pc8,hbig,hbi]
  refine zeU VT h00 trivial (by omega) (λe he J1 A1=>?_) (λm hmo mv J1 hmv A1=>?_)
  .have hne:¬e=0:=λq=>zv3 he q
   simp[zaO,splice,hne]
   refine zc6 VT hG hy ?_
   simp
   exact h _
  .have hmv':=hmv
   obtain⟨fv,rfl,hof⟩:=hmv'
   have fv1:=zhA hof
   have h01:0<J1.nf/\J1.F 0=.alive:=⟨by have:=A1.nf;omega,(A1.fam 0 h00.1).trans h00.2⟩
   have B1:zb J1 ((J1.newO [yc9,.int .i64 0,.int .i64 0]).setO J1.no [fv,.int .i64 m.memory,.int .i64 m.main]):=(zb.refl J1).newO.setO (yah _)
   have ho1:((J1.newO [yc9,.int .i64 0,.int .i64 0]).setO J1.no [fv,.int .i64 m.memory,.int .i64 m.main]).objs J1.no=some [fv,.int .i64 m.memory,.int .i64 m.main]:=by simp
   have hl1:J1.no<((J1.newO [yc9,.int .i64 0,.int .i64 0]).setO J1.no [fv,.int .i64 m.memory,.int .i64 m.main]).no:=by simp
   have hMO1:=Al.MO.keep (Al.m_e (J:=J1) h01 (zsV hmv (yah _) λ_ _=>rfl)) B1
   simp[fv1,splice]
   generalize (J1.newO [yc9,.int .i64 0,.int .i64 0]).setO J1.no [fv,.int .i64 m.memory,.int .i64 m.main]=Z1 at *
   obtain⟨toks,t1,hpf,hmem,hmain⟩:=zoE hmo
   obtain⟨n1,n2⟩:=zpg hmo
   have heach:=zvW t1 rfl
   have hmid:∀f∈m.funcs,zFH f:=λf hf=>by
    obtain⟨a,b,c,d⟩:=n2 f hf
    obtain⟨t,ht⟩:=heach f hf
    have hrg:=zIM ht
    exact⟨by omega,by omega,by omega,λl hl=>by have:=d l hl;omega,by have:=zno (hpf f hf).name;omega,λl hl w hw=>by have:=(hrg l hl w hw).2;omega⟩
   simp[ho1,fv1]
   refine zEl VC hG hy hMO1 (by omega) hmid λb J2 hb A2=>?_
   have ho2:=(A2.obj J1.no hl1).trans ho1
   cases b with
   | true =>
    simp
    refine zc6 VT hG hy ?_
    simp
    exact h _
   | false =>
    have hF:=hb rfl
    have hfn:=zaZ hF.good
    have h40:=hF.funcs
    have hlen:=zAL (gs:=m.funcs) t1 λf hf=>⟨hfn f hf,zno (hpf f hf).name,by have:=(hF.each f hf).1;omega⟩
    have htl:=znp m toks hmem.1 hmem.2
    have hsz:∀f∈m.funcs,f.lists.length<=2^40/\∀ws∈f.lists,ws.length<=2^40:=λf q=>⟨by have:=(hmid f q).lists;omega,λws hw=>by have:=(hmid f q).rows ws hw;omega⟩
    have hback:=zh4 t1 hpf hmem hmain
    have hMO2:=Al.MO.keep hMO1 A2
    have hl2:J1.no<J2.no:=by have:=A2.no;omega
    have C2:=(A1.trans B1).trans A2
    have h02:0<J2.nf/\J2.F 0=.alive:=⟨by have:=C2.nf;omega,(C2.fam 0 h00.1).trans h00.2⟩
    simp[ho2,fv1]
    refine zkk VT.pow hMO2 t1 hpf (by decide) hsz (by omega) hmem (by omega) λJ3 A3=>?_
    have h03:0<J3.nf/\J3.F 0=.alive:=⟨by have:=A3.nf;omega,(A3.fam 0 h02.1).trans h02.2⟩
    have ho3:=(A3.obj J1.no hl2).trans ho2
    have hl3:J1.no<J3.no:=by have:=A3.no;omega
    have hMO3:=Al.MO.keep hMO2 A3
    simp
    refine zeU VT h03 trivial (by omega) (λe q=>by rw[hback]at q;cases q) λn hn nv J4 hnv A4=>?_
    rw[hback]at hn
    have hnm:n=m:=by cases hn;rfl
    subst hnm
    have hnv':=hnv
    obtain⟨gv,rfl,hog⟩:=hnv'
    have gv1:=zhA hog
    have h04:0<J4.nf/\J4.F 0=.alive:=⟨by have:=A4.nf;omega,(A4.fam 0 h03.1).trans h03.2⟩
    have B4:zb J4 ((J4.newO [yc9,.int .i64 0,.int .i64 0]).setO J4.no [gv,.int .i64 n.memory,.int .i64 n.main]):=(zb.refl J4).newO.setO (yah _)
    have hp4:((J4.newO [yc9,.int .i64 0,.int .i64 0]).setO J4.no [gv,.int .i64 n.memory,.int .i64 n.main]).objs J4.no=some [gv,.int .i64 n.memory,.int .i64 n.main]:=by simp
    have ho4:=((A4.trans B4).obj J1.no hl3).trans ho3
    have hMOn:=Al.MO.keep (Al.m_e (J:=J4) h04 (zsV hnv (yah _) λ_ _=>rfl)) B4
    have hMO4:=Al.MO.keep hMO3 (A4.trans B4)
    have hne:¬J1.no=J4.no:=by have:=A4.no;omega
    have ho4':=(A4.obj J1.no hl3).trans ho3
    simp[gv1,fv1,splice,hne,ho4']
    generalize (J4.newO [yc9,.int .i64 0,.int .i64 0]).setO J4.no [gv,.int .i64 n.memory,.int .i64 n.main]=Z4 at *
    refine Al.eqM_calls hMOn hMO4 (by omega) (λf hf=>?_) λJ5 A5=>?_
    .have:=hmid f hf
     exact⟨by have:=this.params;omega,by have:=this.locals;omega,by have:=this.lists;omega,λr hr=>by have:=this.rows r hr;omega⟩
    .simp
     refine zc6 VT hG hy ?_
     simp
     exact h _
theorem zkI(VT:zb3 G)(hG:∀k,StillI (G.g k))(hy:∀l,¬G.has l){s:List UInt8}(h:R (.ret (.bool true)) J):zzQ G 5 [.str s] J R :=
 zhu (vs:=[.str s]) (Q:=λx=>x=.bool true) hG hy (λv hv=>by simp at hv;subst hv;exact .str s) (by
  rw[show [yc8 s].map clm=[.str s]by simp]
  exact zqK VT hG hy zph λ_=>⟨_,rfl,.bool _,rfl⟩) λx hx=>by rw[hx];exact h
theorem zB3(VT:zb3 G)(VC:zh2 G)(hG:∀k,StillI (G.g k))(hy:∀l,¬G.has l){s:List UInt8}(h:R (.ret (.bool true)) J):zzQ G 8 [.str s] J R :=
 zhu (vs:=[.str s]) (Q:=λx=>x=.bool true) hG hy (λv hv=>by simp at hv;subst hv;exact .str s) (by
  rw[show [yc8 s].map clm=[.str s]by simp]
  exact ztk VT VC hG hy zph λ_=>⟨_,rfl,.bool _,rfl⟩) λx hx=>by rw[hx];exact h
theorem zr9:∀f∈zaP.funcs,zFH f:=λf hf=>by
 simp only[zaP,ydr]at hf
 subst hf
 exact⟨by decide,by decide,by decide,by decide,by decide,by decide⟩
theorem zv4:∀f∈zaP.funcs,RgL f.lists:=λf hf=>by
 simp only[zaP,ydr]at hf
 subst hf
 intro l hl w hw
 simp[zoQ]at hl
 subst hl
 simp at hw
 subst hw
 exact⟨by decide,by decide⟩
theorem zIP(VT:zb3 G)(VC:zh2 G)(hG:∀k,StillI (G.g k))(hy:∀l,¬G.has l){v:AV}(hv:Al.MO J v zaP)(h:R (.ret (.bool true)) J):zzQ G 7 [v] J R:=by
 obtain⟨hcb,hmv⟩:=zly hv
 refine zhu (vs:=[v]) (Q:=λx=>x=.bool true) hG hy (λu hu=>by simp at hu;subst hu;exact hcb) ?_ λx hx=>by rw[hx];exact h
 rw[show [v].map clm=[clm v] from rfl]
 exact zqM VT VC hG hy hmv (by decide) zr9 zv4 λ_=>⟨_,rfl,.bool _,rfl⟩
theorem zIQ(VT:zb3 G)(VC:zh2 G)(hG:∀k,StillI (G.g k))(hy:∀l,¬G.has l){v:AV}(hv:Al.MO J v zaP)(h:R (.ret (.bool true)) J):zzQ G 9 [v,.nilsl,.int .i64 5] J R:=by
 obtain⟨hcb,hmv⟩:=zly hv
 refine zhu (vs:=[v,.nilsl,.int .i64 5]) (Q:=λx=>x=.bool true) hG hy (λu hu=>by simp at hu;rcases hu with rfl|rfl|rfl;exact hcb;exact .nilsl;exact .int _ _) ?_ λx hx=>by rw[hx];exact h
 rw[show [v,yc9,.int .i64 5].map clm=[clm v,.nilsl,.int .i64 5]by simp]
 exact zvX (iv:=.nilsl) (input:=[]) (steps:=5) VT VC hG hy zph hmv (by decide) zr9 zv4 (.inl ⟨rfl,rfl⟩) (by decide) λ_=>⟨_,rfl,.bool _,rfl⟩
end
end Go.Proofs.YtohfclafhegadaaGreatDoor
