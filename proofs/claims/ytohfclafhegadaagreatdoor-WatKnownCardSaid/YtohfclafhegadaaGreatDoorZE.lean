/- Parts of the proof of the row WatKnown: contracts of functions, each under the conditions that its theorem names. -/
import Derived.Test.YtohfclafhegadaaGreatDoorZD
set_option linter.unusedSimpArgs false
set_option linter.unusedVariables false
set_option maxRecDepth 100000
open Go.Proofs.Tryz renaming prog->yb9
open Go.IntKind renaming wrap->yb4
namespace Go.Proofs.YtohfclafhegadaaGreatDoor
open Go Go.Abs
def zl2:List (List UInt8):=[[],[105,51,50,46,99,111,110,115,116,32,55],[105,51,50,46,99,111,110,115,116,32,45,48],[105,51,50,46,99,111,110,115,116,32,45],[105,54,52,46,99,111,110,115,116,32,45,57,50,50,51,51,55,50,48,51,54,56,53,52,55,55,53,56,48,56],[105,54,52,46,99,111,110,115,116,32,57,50,50,51,51,55,50,48,51,54,56,53,52,55,55,53,56,48,56],[105,54,52,46,99,111,110,115,116,32,57,50,50,51,51,55,50,48,51,54,56,53,52,55,55,53,56,48,55],[105,51,50,46,99,111,110,115,116,32,49,32,50],[98,108,111,99,107,32,101,110,100],[108,111,111,112,32,98,114,32,48,32,101,110,100,32,105,51,50,46,99,111,110,115,116,32,48],[105,102,32,101,110,100],[105,51,50,46,99,111,110,115,116,32,49,32,105,102,32,101,108,115,101,32,101,110,100],[105,51,50,46,99,111,110,115,116,32,49,32,105,102,32,114,101,116,117,114,110,32,101,108,115,101,32,100,114,111,112,32,101,110,100],[101,108,115,101],[101,110,100],[105,102,32,101,108,115,101,32,101,108,115,101,32,101,110,100],[98,108,111,99,107,32,101,108,115,101,32,101,110,100],[108,111,99,97,108,46,103,101,116,32,48],[108,111,99,97,108,46,103,101,116],[99,97,108,108,32,51,32,99,97,108,108,32,48,32,99,97,108,108,32,49,32,105,51,50,46,99,111,110,115,116,32,49,32,99,97,108,108,32,50],[105,51,50,46,97,100,100,32,105,54,52,46,97,100,100,32,105,51,50,46,101,113,122,32,105,54,52,46,101,113,122,32,105,51,50,46,119,114,97,112,95,105,54,52,32,105,54,52,46,101,120,116,101,110,100,95,105,51,50,95,115,32,105,51,50,46,108,111,97,100,56,95,115,32,105,51,50,46,108,111,97,100,32,105,54,52,46,108,111,97,100,32,105,51,50,46,115,116,111,114,101,56,32,105,51,50,46,115,116,111,114,101,32,105,54,52,46,115,116,111,114,101,32,105,54,52,46,108,111,97,100,56,95,115],[105,54,52,46,103,101,95,115,32,105,51,50,46,115,104,114,95,115,32,105,51,50,46,114,101,109,95,115,32,100,114,111,112,32,117,110,114,101,97,99,104,97,98,108,101],[98,108,111,99,107,32,108,111,111,112,32,105,102,32,98,108,111,99,107,32,101,110,100,32,101,108,115,101,32,108,111,111,112,32,101,110,100,32,101,110,100,32,98,114,95,105,102,32,49,32,101,110,100,32,101,110,100],[34,97,34],[34,97],[36,102],[40,32,41]]
theorem zv5:zl2.length=27:=by decide
theorem zqN:∀w∈zl2,w.length<=300:=by decide
def KnI(J:AS)(v:AV)(a:Nat->AV)(Z:AS):Prop:=∃i:Nat,i<=27/\a 1=v/\a 2=.int .i64 (i:Int)/\Z=J
def KoI(J:AS)(a:Nat->AV)(Z:AS):Prop:=∃n:Nat,398<=n/\n<=404/\a 4=.int .i64 (n:Int)/\Z=J
def KrI(J:AS)(n:Nat)(a:Nat->AV)(Z:AS):Prop:=∃(j:Nat) (s t:List UInt8),j<=n/\a 4=.int .i64 (n:Int)/\a 5=.str s/\a 6=.str t/\a 7=.int .i64 (j:Int)/\s.length=6*j/\t.length=4*j/\Z=J
def KtI(J:AS)(s:List UInt8)(a:Nat->AV)(Z:AS):Prop:=∃j:Nat,j<=264/\a 8=.str s/\a 9=.int .i64 (j:Int)/\Z=J
section
variable {G : Env} {J : AS} {R : Out -> AS -> Prop}
theorem zv6(VT:zb3 G)(VC:zh2 G)(hG:∀k,StillI (G.g k))(hy:∀l,¬G.has l)(h:∀J',R (.ret (.bool true)) J'){a:Nat->AV}(a4:a 4=.int .i64 398):zju yb9 G 125 zhY (zai 2 (zan (avc yb9 G 125 zq1 (zcq yb9 [.tmp 0] R)) (zcq yb9 [.tmp 0] R))) a J:=by
 refine zy (KoI J) (MU 4 405) ⟨398,by omega,by omega,a4,rfl⟩ λa Z hI=>?_
 obtain⟨n,hn1,hn2,a4,rfl⟩:=hI
 by_cases hlt:n<404
 .have hlti:(n:Int)<404:=by omega
  have w1:yb4 .i64 ((n:Int)+1)=((n+1:Nat):Int):=by rw[wrap_i64]<;>omega
  simp[zhY,a4,hlt,hlti]
  refine zy (KrI Z n) (MU 7 405) ⟨0,[],[],Nat.zero_le _,by simp[a4],by simp,by simp,by simp,rfl,rfl,rfl⟩ λb ρ hJ=>?_
  obtain⟨j,s,t,hj,b4,b5,b6,b7,hs,ht,rfl⟩:=hJ
  by_cases hjl:j<n
  .have hjli:(j:Int)<(n:Int):=by omega
   have w2:yb4 .i64 ((j:Int)+1)=((j+1:Nat):Int):=by rw[wrap_i64]<;>omega
   simp[zfO,b4,b5,b6,b7,hjl,hjli,w2]
   refine⟨by omega,by omega,⟨j+1,_,_,hjl,by simp[b4],by simp;rfl,by simp;rfl,by simp,by simp;omega,by simp;omega,rfl⟩,?_⟩
   simp[MU,b7];omega
  .have hjli:¬(j:Int)<(n:Int):=by omega
   simp[zfO,zhX,b4,b5,b6,b7,hjl,hjli]
   have hsl:(s++(t++[105,51,50,46,99,111,110,115,116,32,49])).length<2^40:=by simp only[List.length_append,List.length_cons,List.length_nil];omega
   refine⟨by omega,by omega,zic hsl ?_⟩
   simp
   refine zkI VT hG hy ?_
   simp[b4,b5,b6]
   refine⟨by omega,by omega,zic hsl ?_⟩
   simp
   refine zB3 VT VC hG hy ?_
   simp[zjz,b4,w1]
   refine⟨⟨n+1,by omega,by omega,by simp,rfl⟩,?_⟩
   simp[MU,a4];omega
 .have e:n=404:=by omega
  subst e
  simp[zhY,zq1,a4]
  refine zic (t:=t7) (by decide) ?_
  have hbl:(zei t7).length=263:=by rw[zfx];rfl
  generalize zei t7=B7 at *
  simp
  refine zy (KtI Z B7) (MU 9 265) ⟨0,by omega,by simp,by simp,rfl⟩ λb ρ hJ=>?_
  obtain⟨j,hj,b8,b9,rfl⟩:=hJ
  by_cases hjl:j<=263
  .have hjli:(j:Int)<=263:=by omega
   have w2:yb4 .i64 ((j:Int)+1)=((j+1:Nat):Int):=by rw[wrap_i64]<;>omega
   simp[zlt,b8,b9,hbl,hjl,hjli,w2]
   refine zkI VT hG hy ?_
   simp[b8,b9,hbl,hjl,hjli]
   refine⟨by omega,by omega,zkI VT hG hy ?_⟩
   simp[b8,b9,hbl,hjl,hjli]
   refine⟨by omega,by omega,zkI VT hG hy ?_⟩
   simp[b8,b9,hbl,hjl,hjli,w2]
   refine⟨⟨j+1,by omega,by simp[b8],by simp,rfl⟩,?_⟩
   simp[MU,b9];omega
  .have hjli:¬(j:Int)<=263:=by omega
   simp[zlt,zq0,b8,b9,hbl,hjl,hjli]
   refine zgV λv J2 hv A2=>?_
   simp
   refine zIP VT VC hG hy hv ?_
   simp
   refine zgV λu J3 hu A3=>?_
   simp
   refine zIQ VT VC hG hy hu ?_
   simp
   refine zc6 VT hG hy ?_
   simp
   exact h _
theorem ztl(VT:zb3 G)(VC:zh2 G)(hG:∀k,StillI (G.g k))(hy:∀l,¬G.has l)(h:∀J',R (.ret (.bool true)) J'):zzQ G 3 [] J R:=by
 refine zGS rfl ?_
 simp[pc3]
 refine zy (KnI J (.sl (.stat true) 1 (zl2.map AV.str))) (MU 2 28) ⟨0,by omega,by simp;rfl,by simp,rfl⟩ λa Z hI=>?_
 obtain⟨i,hi,a1,a2,rfl⟩:=hI
 have kl:=zv5
 by_cases hlt:i<27
 .have hlti:(i:Int)<27:=by omega
  have hin:i<zl2.length:=by omega
  have hw:=zqN _ (List.getElem_mem hin)
  have w1:yb4 .i64 ((i:Int)+1)=((i+1:Nat):Int):=by rw[wrap_i64]<;>omega
  generalize hwe:zl2[i]=w at *
  have hb:=zfx w
  have w2:yb4 .i64 (((zei w).length:Int)-1)=(((zei w).length-1:Nat):Int):=by rw[wrap_i64]<;>omega
  have w3:yb4 .i64 ((((zei w).length-1:Nat):Int)-(i:Int))=(((zei w).length-1-i:Nat):Int):=by rw[wrap_i64]<;>omega
  have hgi:zl2[i]?=some w:=by rw[List.getElem?_eq_getElem hin,hwe]
  simp[zeE,a1,a2,kl,hlt,hlti,hgi,hwe]
  refine zic (by omega) ?_
  simp[a1,a2]
  refine zkI VT hG hy ?_
  simp[a1,a2]
  refine zB3 VT VC hG hy ?_
  simp[a1,a2,w2,w3]
  refine⟨by omega,zkI VT hG hy ?_⟩
  simp[a1,a2,kl,hlt,hlti,hgi,hwe,w2,w3]
  refine⟨by omega,zkI VT hG hy ?_⟩
  simp[a1,a2,kl,hlt,hlti,hgi,hwe,w1,w2,w3]
  refine⟨⟨i+1,hlt,by simp[a1],by simp,rfl⟩,?_⟩
  simp[MU,a2];omega
 .have e:i=27:=by omega
  subst e
  simp[zeE,zBt,a1,a2,kl]
  exact zv6 VT VC hG hy h (by simp)
end
end Go.Proofs.YtohfclafhegadaaGreatDoor
