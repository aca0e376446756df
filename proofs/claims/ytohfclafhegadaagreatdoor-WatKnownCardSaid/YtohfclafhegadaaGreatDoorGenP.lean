/- The planned texts of the functions, and facts on the program's types; written by a program; no condition. -/
import Derived.Test.YtohfclafhegadaaGreatDoorChecked
import Derived.Test.YtohfclafhegadaaGreatDoorAbsB
import Derived.KernelRfl
set_option maxRecDepth 100000
set_option maxHeartbeats 4000000
open Go.Proofs.Tryz renaming prog->yb9,f3->yca,f18->ycb,f19->ycc,f20->ycd,f21->yce,f23->ycf,f30->ycg,f32->ych,f33->yci,f51->ycj,f57->yck,f65->ycl,f68->ycm,f70->ycn,f74->yco,f79->ycp,f82->ycq,f84->ycr,f86->ycs,f105->yct,f108->ycu,f109->ycv,f119->ycw,f122->ycx,f123->ycy,f124->ycz,f137->ycA,f138->ycB,f139->ycC,f146->ycD,f149->ycE,f154->ycF,f157->ycG,f168->ycH,f179->ycI,f180->ycJ,f181->ycK,f184->ycL,f185->ycM,f187->ycN,f190->ycO,f193->ycP,f208->ycQ,f216->ycR,f219->ycS,f221->ycT,f224->ycU
namespace Go.Proofs.YtohfclafhegadaaGreatDoor
open Go Go.Abs
namespace Zz
abbrev Q(q:PC):={ p:PC//p=q }
def t(x:Nat):Operand:=.tmp x
def i(k:Int):Operand:=.const (.int .i64 k)
def S(l:List PO)(r:PC):PC:=.seq (.ops l) r
def C(x:Nat)(a b:PC):PC:=.cond (.tmp x) a b
def m(d x:Nat):PO:=⟨some d, .move (.tmp x), none, []⟩
def l(d t x:Nat):PO:=⟨some d, .load t (.tmp x), none, []⟩
def f(d t x i:Nat):PO:=⟨some d, .fieldAddr t (.tmp x) i, none, []⟩
def n(d x:Nat):PO:=⟨some d, .nilCheck (.tmp x), none, []⟩
def a(d x:Nat):PO:=⟨some d, .assign (.tmp x), none, []⟩
def A(d:Nat)(v:Operand):PO:=⟨some d, .assign v, none, []⟩
def x(d t x y:Nat):PO:=⟨some d, .indexAddr t (.tmp x) (.tmp y), none, []⟩
def b(d:Nat)(o:BinOp)(t:Nat)(x y:Operand)(u:Nat):PO:=⟨some d, .binOp o t x y u, none, []⟩
def c(d f:Nat)(xs:Array Operand)(ts:Array TypeId):PO:=⟨some d, .call ⟨.value (.func f), xs, ts⟩, none, []⟩
def L(d x t:Nat):PO:=⟨some d, .call ⟨.builtin .len, #[(.tmp x)], #[t]⟩, none, []⟩
def d(n:Nat)(o:Op):PO:=⟨some n, o, none, []⟩
def s(t x y:Nat):PO:=⟨none, .store t (.tmp x) (.tmp y), none, []⟩
def e(o:Op):PO:=⟨none, o, none, []⟩
def w(n:Nat)(o:Op)(g:Nat)(v:Bool):PO:=⟨some n, o, some (g, v), []⟩
abbrev H(n k f:Nat)(p:PC)(l:List ResultVar):Prop:=∀{G:Env} {args:List AV} {J:AS} {R:Out->AS->Prop}, args.length=k->avc yb9 G n p (zcq yb9 l R) (zb5 args) J->ACalls yb9 G f args J R
end Zz
open Zz
abbrev zzQ:=@ACalls yb9
variable {G : Env} {args : List AV} {J : AS} {R : Out -> AS -> Prop}
namespace Zz
/-- a thing, reckoned -/
abbrev Qc{α:Type}(q:α):={ p:α//p=q }
def zFz:PC->Bool
  | .loop _=>true|.seq x y=>zFz x||zFz y|.cond _ x y=>zFz x||zFz y|.block _ c=>zFz c|_=>false
def isR:PC->Bool
  | .ret=>true|_=>false
/-- loops' bodies, and what stands behind loops, cut out -/
def zCQ:PC->List PC->PC × List PC
  | .seq x y, d=>match zCQ x d with
    | (a, d)=>match zCQ y d with
      | (b, d)=>if zFz x&&!isR y then(.seq a (.exit (9000+d.length)), d++[b])else(.seq a b, d)
  | .cond c x y, d=>match zCQ x d with
    | (a, d)=>match zCQ y d with
      | (b, d)=>(.cond c a b, d)
  | .block i c, d=>match zCQ c d with
    | (a, d)=>(.block i a, d)
  | .loop c, d=>match zCQ c d with
    | (b, d)=>(.loop (.exit (9000+d.length)), d++[b])
  | p, d=>(p, d)
def zpJ(h:List PC):PC->PC
  | .seq x y=>.seq (zpJ h x) (zpJ h y)
  | .cond c x y=>.cond c (zpJ h x) (zpJ h y)
  | .block i c=>.block i (zpJ h c)
  | .loop c=>.loop (zpJ h c)
  | .exit i=>if i<9000 then .exit i else h.getD (i-9000) .skip
  | p=>p
def zt4(ops:Array Oper):List Oper->List PO
  | []=>[]
  | o::r=>match zbS ops o with
    | some g=>⟨o.dst, o.op, g, []⟩::zt4 ops r
    | none=>zt4 ops r
/-- a text's zc9, unchecked -/
def zob(n:Nat):Code->PC
  | .region _ ops draw=>if draw then(let A:=zB8 ops
    .ops ((zbk ops A [] (ztJ ops A)).getD []))else .ops (zt4 ops ops.toList)
  | .seq x y=>.seq (zob n x) (zob n y)
  | .cond c x y=>.cond c (zob n x) (zob n y)
  | .block id c=>.block id (zob n c)
  | .loop c=>.loop (zob n c)
  | .exit id=>.exit id
  | .ret=>.ret
  | _=>.skip
def K1(p:PC)(k:Nat)(h:List PC):PC:=match zCQ p []with
  | (a, d)=>zpJ h ((d++[a]).getD k .skip)
/-- a part of a text -/
def atC:List Nat->Code->Code
  | 0::r, .seq x _=>atC r x
  | 1::r, .seq _ y=>atC r y
  | 2::r, .block _ (.rangeFunc _ _ a _)=>atC r a
  | 3::r, .block _ (.rangeFunc _ _ _ b)=>atC r b
  | _, c=>c
/-- the k-th piece of a function's text; of a part of it -/
def K(f:Func)(k:Nat)(h:List PC):PC:=K1 (zob f.ntmps (f.body.getD .skip)) k h
def Kp(f:Func)(l:List Nat)(k:Nat)(h:List PC):PC:=K1 (zob f.ntmps (atC l (f.body.getD .skip))) k h
end Zz
open Zz
theorem zt5:yb9.follows .mixedOrders=true:=by kernel_rfl
theorem Zz.hc{n k f:Nat}{g:Func}{p:PC}{l:List ResultVar}(hf:yb9.funcs[f]?=some g)(hn:g.ntmps=n:=by kernel_rfl)(hl:g.results.toList=l:=by kernel_rfl)(hp:g.body.bind (zc9 g.ntmps)=some p:=by kernel_rfl)(ha:k<=n:=by omega):Zz.H n k f p l:=λe h=>zB9 zt5 hf hn hl hp (by omega) h
def zeE:PC:=(⟨_, by conv=>rhs;cbv⟩:Qc (K yca 0 [])).1
def zfO:PC:=(⟨_, by conv=>rhs;ext a;cbv⟩:Qc λa=>K yca 1 [a]).1 zeE
def zhX:PC:=(⟨_, by conv=>rhs;ext a b;cbv⟩:Qc λa b=>K yca 2 [a, b]).1 zeE zfO
def zjz:PC:=(⟨_, by conv=>rhs;ext a b c;cbv⟩:Qc λa b c=>K yca 3 [a, b, c]).1 zeE zfO zhX
def zhY:PC:=(⟨_, by conv=>rhs;ext a b c d;cbv⟩:Qc λa b c d=>K yca 4 [a, b, c, d]).1 zeE zfO zhX zjz
def zlt:PC:=(⟨_, by conv=>rhs;ext a b c d e;cbv⟩:Qc λa b c d e=>K yca 5 [a, b, c, d, e]).1 zeE zfO zhX zjz zhY
def zq0:PC:=(⟨_, by conv=>rhs;ext a b c d e f;cbv⟩:Qc λa b c d e f=>K yca 6 [a, b, c, d, e, f]).1 zeE zfO zhX zjz zhY zlt
def zq1:PC:=(⟨_, by conv=>rhs;ext a b c d e f g;cbv⟩:Qc λa b c d e f g=>K yca 7 [a, b, c, d, e, f, g]).1 zeE zfO zhX zjz zhY zlt zq0
def zBt:PC:=(⟨_, by conv=>rhs;ext a b c d e f g h;cbv⟩:Qc λa b c d e f g h=>K yca 8 [a, b, c, d, e, f, g, h]).1 zeE zfO zhX zjz zhY zlt zq0 zq1
def pc3:PC:=(⟨_, by conv=>rhs;ext a b c d e f g h i;cbv⟩:Qc λa b c d e f g h i=>K yca 9 [a, b, c, d, e, f, g, h, i]).1 zeE zfO zhX zjz zhY zlt zq0 zq1 zBt
theorem zGS:Zz.H 125 0 3 pc3 [.tmp 0]:=Zz.hc Tryz.func3
def pc5:PC:=(⟨_, by conv=>rhs;cbv⟩:Qc (K Tryz.f5 0 [])).1
theorem zGT:Zz.H 50 1 5 pc5 [.tmp 2]:=Zz.hc Tryz.func5
def pc7:PC:=(⟨_, by conv=>rhs;cbv⟩:Qc (K Tryz.f7 0 [])).1
theorem zGU:Zz.H 22 1 7 pc7 [.tmp 2]:=Zz.hc Tryz.func7
def pc8:PC:=(⟨_, by conv=>rhs;cbv⟩:Qc (K Tryz.f8 0 [])).1
theorem zGV:Zz.H 54 1 8 pc8 [.tmp 2]:=Zz.hc Tryz.func8
def pc9:PC:=(⟨_, by conv=>rhs;cbv⟩:Qc (K Tryz.f9 0 [])).1
theorem zGW:Zz.H 58 3 9 pc9 [.tmp 6]:=Zz.hc Tryz.func9
def zLz:PC:=(⟨_, by conv=>rhs;cbv⟩:Qc (K Tryz.f10 0 [])).1
theorem zCR:Zz.H 6 1 10 zLz [.tmp 2]:=Zz.hc Tryz.func10
def zLA:PC:=(⟨_, by conv=>rhs;cbv⟩:Qc (K Tryz.f11 0 [])).1
theorem zCS:Zz.H 7 0 11 zLA [.cell 0 28]:=Zz.hc Tryz.func11
def zLB:PC:=(⟨_, by conv=>rhs;cbv⟩:Qc (K Tryz.f12 0 [])).1
theorem zCT:Zz.H 43 0 12 zLB [.tmp 0]:=Zz.hc Tryz.func12
def zBu:PC:=(⟨_, by conv=>rhs;cbv⟩:Qc (Kp ycb [0] 0 [])).1
def zcl:PC:=(⟨_, by conv=>rhs;cbv⟩:Qc (Kp ycb [1, 1] 0 [])).1
def zdj:PC:=(⟨_, by conv=>rhs;ext a;cbv⟩:Qc λa=>Kp ycb [1, 1] 1 [a]).1 zcl
def zq2:PC:=(⟨_, by conv=>rhs;ext a b;cbv⟩:Qc λa b=>Kp ycb [1, 1] 2 [a, b]).1 zcl zdj
def zBv:PC:=(⟨_, by conv=>rhs;cbv⟩:Qc (Kp ycc [0] 0 [])).1
def zgA:PC:=(⟨_, by conv=>rhs;cbv⟩:Qc (Kp ycc [1, 1] 0 [])).1
def zgB:PC:=(⟨_, by conv=>rhs;ext a;cbv⟩:Qc λa=>Kp ycc [1, 1] 1 [a]).1 zgA
def zBw:PC:=(⟨_, by conv=>rhs;ext a b;cbv⟩:Qc λa b=>Kp ycc [1, 1] 2 [a, b]).1 zgA zgB
def zjA:PC:=(⟨_, by conv=>rhs;cbv⟩:Qc (K ycd 0 [])).1
def zmr:PC:=(⟨_, by conv=>rhs;ext a;cbv⟩:Qc λa=>K ycd 1 [a]).1 zjA
def zLC:PC:=(⟨_, by conv=>rhs;ext a b;cbv⟩:Qc λa b=>K ycd 2 [a, b]).1 zjA zmr
theorem zCU:Zz.H 66 1 20 zLC [.tmp 2]:=Zz.hc Tryz.func20
def zhi:PC:=(⟨_, by conv=>rhs;cbv⟩:Qc (K yce 0 [])).1
def zjB:PC:=(⟨_, by conv=>rhs;ext a;cbv⟩:Qc λa=>K yce 1 [a]).1 zhi
def zjC:PC:=(⟨_, by conv=>rhs;ext a b;cbv⟩:Qc λa b=>K yce 2 [a, b]).1 zhi zjB
def zt6:PC:=(⟨_, by conv=>rhs;ext a b c;cbv⟩:Qc λa b c=>K yce 3 [a, b, c]).1 zhi zjB zjC
def zLD:PC:=(⟨_, by conv=>rhs;ext a b c d;cbv⟩:Qc λa b c d=>K yce 4 [a, b, c, d]).1 zhi zjB zjC zt6
theorem zCV:Zz.H 85 1 21 zLD [.cell 2 28, .tmp 3]:=Zz.hc Tryz.func21
def zLE:PC:=(⟨_, by conv=>rhs;cbv⟩:Qc (K Tryz.f22 0 [])).1
theorem zCW:Zz.H 24 2 22 zLE [.tmp 4]:=Zz.hc Tryz.func22
def zf8:PC:=(⟨_, by conv=>rhs;cbv⟩:Qc (K ycf 0 [])).1
def zjD:PC:=(⟨_, by conv=>rhs;ext a;cbv⟩:Qc λa=>K ycf 1 [a]).1 zf8
def zms:PC:=(⟨_, by conv=>rhs;ext a b;cbv⟩:Qc λa b=>K ycf 2 [a, b]).1 zf8 zjD
def zjE:PC:=(⟨_, by conv=>rhs;ext a b c;cbv⟩:Qc λa b c=>K ycf 3 [a, b, c]).1 zf8 zjD zms
def zpK:PC:=(⟨_, by conv=>rhs;ext a b c d;cbv⟩:Qc λa b c d=>K ycf 4 [a, b, c, d]).1 zf8 zjD zms zjE
def zKU:PC:=(⟨_, by conv=>rhs;ext a b c d e;cbv⟩:Qc λa b c d e=>K ycf 5 [a, b, c, d, e]).1 zf8 zjD zms zjE zpK
theorem zCX:Zz.H 56 1 23 zKU []:=Zz.hc Tryz.func23
def zKV:PC:=(⟨_, by conv=>rhs;cbv⟩:Qc (K Tryz.f26 0 [])).1
theorem zCY:Zz.H 16 2 26 zKV [.tmp 4]:=Zz.hc Tryz.func26
def zLF:PC:=(⟨_, by conv=>rhs;cbv⟩:Qc (K Tryz.f27 0 [])).1
theorem zCZ:Zz.H 24 2 27 zLF [.tmp 4]:=Zz.hc Tryz.func27
def zBx:PC:=(⟨_, by conv=>rhs;cbv⟩:Qc (Kp Tryz.f28 [0] 0 [])).1
def zt7:PC:=(⟨_,by delta d f l m s t;exact rfl⟩:Zz.Q (.both [[l 9 28 3,m 10 1,m 11 2,f 12 28 3 1,l 13 3 12,⟨some 14,.makeSlice 32 (t 13)
 (t 13),none,[⟨none,28,t 3,9⟩]⟩,d 15 (.build 109 #[(0,t 9),(1,t 10),(2,t 11),(3,t 14)]),d 16 (.box 109 (t 15)),d 7 (.alloc 107),s 107 7 16],[l 9 28 3,m 10 1,m
 11 2,f 12 28 3 1,l 13 3 12,⟨some 14,.makeSlice 32 (t 13) (t 13),none,[⟨none,28,t 3,9⟩]⟩,d 15 (.build 109 #[(0,t 9),(1,t 10),(2,t 11),(3,t 14)]),⟨some 7,.alloc
 107,none,[⟨none,28,t 3,9⟩]⟩,d 16 (.box 109 (t 15)),s 107 7 16],[l 9 28 3,m 10 1,m 11 2,f 12 28 3 1,l 13 3 12,⟨some 7,.alloc 107,none,[⟨none,28,t 3,9⟩,⟨none,3,t
 12,13⟩]⟩,⟨some 14,.makeSlice 32 (t 13) (t 13),none,[⟨none,28,t 3,9⟩]⟩,d 15 (.build 109 #[(0,t 9),(1,t 10),(2,t 11),(3,t 14)]),d 16 (.box 109 (t 15)),s 107 7
 16]])).1
def zpL:PC:=(⟨_, by conv=>rhs;cbv⟩:Qc (Kp Tryz.f28 [1, 1, 1] 0 [])).1
def zeF:PC:=(⟨_, by conv=>rhs;cbv⟩:Qc (K ycg 0 [])).1
def zhj:PC:=(⟨_, by conv=>rhs;ext a;cbv⟩:Qc λa=>K ycg 1 [a]).1 zeF
def zmt:PC:=(⟨_, by conv=>rhs;ext a b;cbv⟩:Qc λa b=>K ycg 2 [a, b]).1 zeF zhj
def zjF:PC:=(⟨_, by conv=>rhs;ext a b c;cbv⟩:Qc λa b c=>K ycg 3 [a, b, c]).1 zeF zhj zmt
def zpM:PC:=(⟨_, by conv=>rhs;ext a b c d;cbv⟩:Qc λa b c d=>K ycg 4 [a, b, c, d]).1 zeF zhj zmt zjF
def zLG:PC:=(⟨_, by conv=>rhs;ext a b c d e;cbv⟩:Qc λa b c d e=>K ycg 5 [a, b, c, d, e]).1 zeF zhj zmt zjF zpM
theorem zC0:Zz.H 64 1 30 zLG [.tmp 2]:=Zz.hc Tryz.func30
def zLH:PC:=(⟨_, by conv=>rhs;cbv⟩:Qc (K Tryz.f31 0 [])).1
theorem zC1:Zz.H 8 1 31 zLH [.cell 2 28]:=Zz.hc Tryz.func31
def zjG:PC:=(⟨_, by conv=>rhs;cbv⟩:Qc (K ych 0 [])).1
def zmu:PC:=(⟨_, by conv=>rhs;ext a;cbv⟩:Qc λa=>K ych 1 [a]).1 zjG
def zLI:PC:=(⟨_, by conv=>rhs;ext a b;cbv⟩:Qc λa b=>K ych 2 [a, b]).1 zjG zmu
theorem zC2:Zz.H 63 1 32 zLI [.tmp 2]:=Zz.hc Tryz.func32
def zjH:PC:=(⟨_, by conv=>rhs;cbv⟩:Qc (K yci 0 [])).1
def zt8:PC:=(⟨_, by conv=>rhs;ext a;cbv⟩:Qc λa=>K yci 1 [a]).1 zjH
def zLJ:PC:=(⟨_, by conv=>rhs;ext a b;cbv⟩:Qc λa b=>K yci 2 [a, b]).1 zjH zt8
theorem zC3:Zz.H 19 1 33 zLJ [.tmp 2]:=Zz.hc Tryz.func33
def zb9:PC:=(⟨_, by conv=>rhs;cbv⟩:Qc (K ycj 0 [])).1
def zmv:PC:=(⟨_, by conv=>rhs;ext a;cbv⟩:Qc λa=>K ycj 1 [a]).1 zb9
def zLK:PC:=(⟨_, by conv=>rhs;ext a b;cbv⟩:Qc λa b=>K ycj 2 [a, b]).1 zb9 zmv
theorem zC4:Zz.H 53 1 51 zLK [.tmp 2]:=Zz.hc Tryz.func51
def zoc:PC:=(⟨_, by conv=>rhs;cbv⟩:Qc (Kp Tryz.f52 [1] 0 [])).1
def zKW:PC:=(⟨_, by conv=>rhs;cbv⟩:Qc (K Tryz.f53 0 [])).1
theorem zC5:Zz.H 9 2 53 zKW []:=Zz.hc Tryz.func53
def zLL:PC:=(⟨_, by conv=>rhs;cbv⟩:Qc (K Tryz.f54 0 [])).1
theorem zC6:Zz.H 51 1 54 zLL []:=Zz.hc Tryz.func54
def zhZ:PC:=(⟨_, by conv=>rhs;cbv⟩:Qc (Kp Tryz.f55 [1] 0 [])).1
def zjI:PC:=(⟨_, by conv=>rhs;cbv⟩:Qc (K Tryz.f56 0 [])).1
def zKX:PC:=(⟨_, by conv=>rhs;ext a;cbv⟩:Qc λa=>K Tryz.f56 1 [a]).1 zjI
theorem zC7:Zz.H 18 2 56 zKX []:=Zz.hc Tryz.func56
def zdb:PC:=(⟨_, by conv=>rhs;cbv⟩:Qc (K yck 0 [])).1
def zeG:PC:=(⟨_, by conv=>rhs;ext a;cbv⟩:Qc λa=>K yck 1 [a]).1 zdb
def zf9:PC:=(⟨_, by conv=>rhs;ext a b;cbv⟩:Qc λa b=>K yck 2 [a, b]).1 zdb zeG
def zhk:PC:=(⟨_, by conv=>rhs;ext a b c;cbv⟩:Qc λa b c=>K yck 3 [a, b, c]).1 zdb zeG zf9
def zga:PC:=(⟨_, by conv=>rhs;ext a b c d;cbv⟩:Qc λa b c d=>K yck 4 [a, b, c, d]).1 zdb zeG zf9 zhk
def zmw:PC:=(⟨_, by conv=>rhs;ext a b c d e;cbv⟩:Qc λa b c d e=>K yck 5 [a, b, c, d, e]).1 zdb zeG zf9 zhk zga
def zpN:PC:=(⟨_, by conv=>rhs;ext a b c d e f;cbv⟩:Qc λa b c d e f=>K yck 6 [a, b, c, d, e, f]).1 zdb zeG zf9 zhk zga zmw
def zt9:PC:=(⟨_, by conv=>rhs;ext a b c d e f g;cbv⟩:Qc λa b c d e f g=>K yck 7 [a, b, c, d, e, f, g]).1 zdb zeG zf9 zhk zga zmw zpN
def zLM:PC:=(⟨_, by conv=>rhs;ext a b c d e f g h;cbv⟩:Qc λa b c d e f g h=>K yck 8 [a, b, c, d, e, f, g, h]).1 zdb zeG zf9 zhk zga zmw zpN zt9
theorem zC8:Zz.H 106 1 57 zLM [.tmp 2]:=Zz.hc Tryz.func57
def zLN:PC:=(⟨_, by conv=>rhs;cbv⟩:Qc (K Tryz.f58 0 [])).1
theorem zC9:Zz.H 34 1 58 zLN [.tmp 2]:=Zz.hc Tryz.func58
def zLO:PC:=(⟨_, by conv=>rhs;cbv⟩:Qc (K Tryz.f59 0 [])).1
theorem zDa:Zz.H 32 2 59 zLO [.tmp 4]:=Zz.hc Tryz.func59
def zLP:PC:=(⟨_, by conv=>rhs;cbv⟩:Qc (K Tryz.f60 0 [])).1
theorem zDb:Zz.H 54 1 60 zLP [.cell 2 57]:=Zz.hc Tryz.func60
def zKY:PC:=(⟨_, by conv=>rhs;cbv⟩:Qc (K Tryz.f61 0 [])).1
theorem zDc:Zz.H 8 2 61 zKY []:=Zz.hc Tryz.func61
def zKZ:PC:=(⟨_, by conv=>rhs;cbv⟩:Qc (K Tryz.f62 0 [])).1
theorem zDd:Zz.H 43 2 62 zKZ [.tmp 4]:=Zz.hc Tryz.func62
def zpO:PC:=(⟨_, by conv=>rhs;cbv⟩:Qc (K Tryz.f63 0 [])).1
def zLQ:PC:=(⟨_, by conv=>rhs;ext a;cbv⟩:Qc λa=>K Tryz.f63 1 [a]).1 zpO
theorem zDe:Zz.H 27 2 63 zLQ []:=Zz.hc Tryz.func63
def zmx:PC:=(⟨_, by conv=>rhs;cbv⟩:Qc (K ycl 0 [])).1
def zua:PC:=(⟨_, by conv=>rhs;ext a;cbv⟩:Qc λa=>K ycl 1 [a]).1 zmx
def zK0:PC:=(⟨_, by conv=>rhs;ext a b;cbv⟩:Qc λa b=>K ycl 2 [a, b]).1 zmx zua
theorem zDf:Zz.H 30 3 65 zK0 []:=Zz.hc Tryz.func65
def zeH:PC:=(⟨_, by conv=>rhs;cbv⟩:Qc (K Tryz.f66 0 [])).1
def zLR:PC:=(⟨_, by conv=>rhs;ext a;cbv⟩:Qc λa=>K Tryz.f66 1 [a]).1 zeH
theorem zDg:Zz.H 75 3 66 zLR []:=Zz.hc Tryz.func66
def zLS:PC:=(⟨_, by conv=>rhs;cbv⟩:Qc (K Tryz.f67 0 [])).1
theorem zDh:Zz.H 14 1 67 zLS [.tmp 2]:=Zz.hc Tryz.func67
def zcR:PC:=(⟨_, by conv=>rhs;cbv⟩:Qc (K ycm 0 [])).1
def zdc:PC:=(⟨_, by conv=>rhs;ext a;cbv⟩:Qc λa=>K ycm 1 [a]).1 zcR
def zdH:PC:=(⟨_, by conv=>rhs;ext a b;cbv⟩:Qc λa b=>K ycm 2 [a, b]).1 zcR zdc
def zhl:PC:=(⟨_, by conv=>rhs;ext a b c;cbv⟩:Qc λa b c=>K ycm 3 [a, b, c]).1 zcR zdc zdH
def zhm:PC:=(⟨_, by conv=>rhs;ext a b c d;cbv⟩:Qc λa b c d=>K ycm 4 [a, b, c, d]).1 zcR zdc zdH zhl
def zpP:PC:=(⟨_, by conv=>rhs;ext a b c d e;cbv⟩:Qc λa b c d e=>K ycm 5 [a, b, c, d, e]).1 zcR zdc zdH zhl zhm
def zjJ:PC:=(⟨_, by conv=>rhs;ext a b c d e f;cbv⟩:Qc λa b c d e f=>K ycm 6 [a, b, c, d, e, f]).1 zcR zdc zdH zhl zhm zpP
def zLT:PC:=(⟨_, by conv=>rhs;ext a b c d e f g;cbv⟩:Qc λa b c d e f g=>K ycm 7 [a, b, c, d, e, f, g]).1 zcR zdc zdH zhl zhm zpP zjJ
theorem zDi:Zz.H 150 1 68 zLT [.tmp 2, .tmp 3]:=Zz.hc Tryz.func68
def zjK:PC:=(⟨_, by conv=>rhs;cbv⟩:Qc (K Tryz.f69 0 [])).1
def zLU:PC:=(⟨_, by conv=>rhs;ext a;cbv⟩:Qc λa=>K Tryz.f69 1 [a]).1 zjK
theorem zDj:Zz.H 20 2 69 zLU []:=Zz.hc Tryz.func69
def zdI:PC:=(⟨_, by conv=>rhs;cbv⟩:Qc (K ycn 0 [])).1
def zjL:PC:=(⟨_, by conv=>rhs;ext a;cbv⟩:Qc λa=>K ycn 1 [a]).1 zdI
def zLV:PC:=(⟨_, by conv=>rhs;ext a b;cbv⟩:Qc λa b=>K ycn 2 [a, b]).1 zdI zjL
theorem zDk:Zz.H 67 1 70 zLV [.tmp 2]:=Zz.hc Tryz.func70
def zLW:PC:=(⟨_, by conv=>rhs;cbv⟩:Qc (K Tryz.f71 0 [])).1
theorem zDl:Zz.H 49 3 71 zLW [.tmp 6]:=Zz.hc Tryz.func71
def zq3:PC:=(⟨_, by conv=>rhs;cbv⟩:Qc (K Tryz.f72 0 [])).1
theorem zDm:Zz.H 69 1 72 zq3 [.cell 2 57]:=Zz.hc Tryz.func72
def zK1:PC:=(⟨_, by conv=>rhs;cbv⟩:Qc (K Tryz.f73 0 [])).1
theorem zDn:Zz.H 13 2 73 zK1 []:=Zz.hc Tryz.func73
def zmy:PC:=(⟨_, by conv=>rhs;cbv⟩:Qc (K yco 0 [])).1
def zub:PC:=(⟨_, by conv=>rhs;ext a;cbv⟩:Qc λa=>K yco 1 [a]).1 zmy
def zLX:PC:=(⟨_, by conv=>rhs;ext a b;cbv⟩:Qc λa b=>K yco 2 [a, b]).1 zmy zub
theorem zDo:Zz.H 27 2 74 zLX [.tmp 4]:=Zz.hc Tryz.func74
def zjM:PC:=(⟨_, by conv=>rhs;cbv⟩:Qc (K Tryz.f75 0 [])).1
def zLY:PC:=(⟨_, by conv=>rhs;ext a;cbv⟩:Qc λa=>K Tryz.f75 1 [a]).1 zjM
theorem zDp:Zz.H 15 1 75 zLY []:=Zz.hc Tryz.func75
def zmz:PC:=(⟨_, by conv=>rhs;cbv⟩:Qc (K Tryz.f76 0 [])).1
def zLZ:PC:=(⟨_, by conv=>rhs;ext a;cbv⟩:Qc λa=>K Tryz.f76 1 [a]).1 zmz
theorem zDq:Zz.H 15 1 76 zLZ []:=Zz.hc Tryz.func76
def zmA:PC:=(⟨_, by conv=>rhs;cbv⟩:Qc (K Tryz.f77 0 [])).1
def zL0:PC:=(⟨_, by conv=>rhs;ext a;cbv⟩:Qc λa=>K Tryz.f77 1 [a]).1 zmA
theorem zDr:Zz.H 15 1 77 zL0 []:=Zz.hc Tryz.func77
def zmB:PC:=(⟨_, by conv=>rhs;cbv⟩:Qc (K Tryz.f78 0 [])).1
def zK2:PC:=(⟨_, by conv=>rhs;ext a;cbv⟩:Qc λa=>K Tryz.f78 1 [a]).1 zmB
theorem zuc:Zz.H 15 1 78 zK2 []:=Zz.hc Tryz.func78
def zgb:PC:=(⟨_, by conv=>rhs;cbv⟩:Qc (K ycp 0 [])).1
def zpQ:PC:=(⟨_, by conv=>rhs;ext a;cbv⟩:Qc λa=>K ycp 1 [a]).1 zgb
def zJO:PC:=(⟨_, by conv=>rhs;ext a b;cbv⟩:Qc λa b=>K ycp 2 [a, b]).1 zgb zpQ
theorem zud:Zz.H 27 2 79 zJO [.tmp 4]:=Zz.hc Tryz.func79
def zq4:PC:=(⟨_, by conv=>rhs;cbv⟩:Qc (Kp Tryz.f80 [1] 0 [])).1
def zK3:PC:=(⟨_, by conv=>rhs;cbv⟩:Qc (K Tryz.f81 0 [])).1
theorem zDs:Zz.H 58 3 81 zK3 [.tmp 6]:=Zz.hc Tryz.func81
def zjN:PC:=(⟨_, by conv=>rhs;cbv⟩:Qc (K ycq 0 [])).1
def zpR:PC:=(⟨_, by conv=>rhs;ext a;cbv⟩:Qc λa=>K ycq 1 [a]).1 zjN
def zL1:PC:=(⟨_, by conv=>rhs;ext a b;cbv⟩:Qc λa b=>K ycq 2 [a, b]).1 zjN zpR
theorem zDt:Zz.H 20 1 82 zL1 [.tmp 2]:=Zz.hc Tryz.func82
def zGX:PC:=(⟨_, by conv=>rhs;cbv⟩:Qc (K Tryz.f83 0 [])).1
theorem zue:Zz.H 25 1 83 zGX [.tmp 2]:=Zz.hc Tryz.func83
def zmC:PC:=(⟨_, by conv=>rhs;cbv⟩:Qc (K ycr 0 [])).1
def zuf:PC:=(⟨_, by conv=>rhs;ext a;cbv⟩:Qc λa=>K ycr 1 [a]).1 zmC
def zK4:PC:=(⟨_, by conv=>rhs;ext a b;cbv⟩:Qc λa b=>K ycr 2 [a, b]).1 zmC zuf
theorem zDu:Zz.H 28 2 84 zK4 [.tmp 4]:=Zz.hc Tryz.func84
def zK5:PC:=(⟨_, by conv=>rhs;cbv⟩:Qc (K Tryz.f85 0 [])).1
theorem zDv:Zz.H 5 1 85 zK5 [.tmp 2]:=Zz.hc Tryz.func85
def zdJ:PC:=(⟨_, by conv=>rhs;cbv⟩:Qc (K ycs 0 [])).1
def zpS:PC:=(⟨_, by conv=>rhs;ext a;cbv⟩:Qc λa=>K ycs 1 [a]).1 zdJ
def zL2:PC:=(⟨_, by conv=>rhs;ext a b;cbv⟩:Qc λa b=>K ycs 2 [a, b]).1 zdJ zpS
theorem zDw:Zz.H 74 2 86 zL2 [.tmp 4]:=Zz.hc Tryz.func86
def zL3:PC:=(⟨_, by conv=>rhs;cbv⟩:Qc (K Tryz.f95 0 [])).1
theorem zDx:Zz.H 9 2 95 zL3 [.tmp 4]:=Zz.hc Tryz.func95
def zgC:PC:=(⟨_, by conv=>rhs;cbv⟩:Qc (K yct 0 [])).1
def zgD:PC:=(⟨_, by conv=>rhs;ext a;cbv⟩:Qc λa=>K yct 1 [a]).1 zgC
def zgE:PC:=(⟨_, by conv=>rhs;ext a b;cbv⟩:Qc λa b=>K yct 2 [a, b]).1 zgC zgD
def zq5:PC:=(⟨_, by conv=>rhs;ext a b c;cbv⟩:Qc λa b c=>K yct 3 [a, b, c]).1 zgC zgD zgE
def zGY:PC:=(⟨_, by conv=>rhs;ext a b c d;cbv⟩:Qc λa b c d=>K yct 4 [a, b, c, d]).1 zgC zgD zgE zq5
theorem zwY:Zz.H 36 1 105 zGY [.tmp 2]:=Zz.hc Tryz.func105
def zGZ:PC:=(⟨_, by conv=>rhs;cbv⟩:Qc (K Tryz.f106 0 [])).1
theorem zwZ:Zz.H 6 1 106 zGZ [.tmp 2]:=Zz.hc Tryz.func106
def zw0:PC:=(⟨_, by conv=>rhs;cbv⟩:Qc (K Tryz.f107 0 [])).1
theorem zw1:Zz.H 9 1 107 zw0 [.tmp 2]:=Zz.hc Tryz.func107
def zbU:PC:=(⟨_, by conv=>rhs;cbv⟩:Qc (K ycu 0 [])).1
def zfc:PC:=(⟨_, by conv=>rhs;ext a;cbv⟩:Qc λa=>K ycu 1 [a]).1 zbU
def zfd:PC:=(⟨_, by conv=>rhs;ext a b;cbv⟩:Qc λa b=>K ycu 2 [a, b]).1 zbU zfc
def ziA:PC:=(⟨_, by conv=>rhs;ext a b c;cbv⟩:Qc λa b c=>K ycu 3 [a, b, c]).1 zbU zfc zfd
def ziB:PC:=(⟨_, by conv=>rhs;ext a b c d;cbv⟩:Qc λa b c d=>K ycu 4 [a, b, c, d]).1 zbU zfc zfd ziA
def zq6:PC:=(⟨_, by conv=>rhs;ext a b c d e;cbv⟩:Qc λa b c d e=>K ycu 5 [a, b, c, d, e]).1 zbU zfc zfd ziA ziB
def zDy:PC:=(⟨_, by conv=>rhs;ext a b c d e f;cbv⟩:Qc λa b c d e f=>K ycu 6 [a, b, c, d, e, f]).1 zbU zfc zfd ziA ziB zq6
theorem zw2:Zz.H 77 1 108 zDy []:=Zz.hc Tryz.func108
def zfe:PC:=(⟨_, by conv=>rhs;cbv⟩:Qc (K ycv 0 [])).1
def ziC:PC:=(⟨_, by conv=>rhs;ext a;cbv⟩:Qc λa=>K ycv 1 [a]).1 zfe
def zG0:PC:=(⟨_, by conv=>rhs;ext a b;cbv⟩:Qc λa b=>K ycv 2 [a, b]).1 zfe ziC
theorem zw3:Zz.H 41 3 109 zG0 []:=Zz.hc Tryz.func109
def zG1:PC:=(⟨_, by conv=>rhs;cbv⟩:Qc (K Tryz.f110 0 [])).1
theorem zw4:Zz.H 21 1 110 zG1 [.tmp 2]:=Zz.hc Tryz.func110
def zG2:PC:=(⟨_, by conv=>rhs;cbv⟩:Qc (K Tryz.f113 0 [])).1
theorem zw5:Zz.H 8 2 113 zG2 [.tmp 4]:=Zz.hc Tryz.func113
def zG3:PC:=(⟨_, by conv=>rhs;cbv⟩:Qc (K Tryz.f115 0 [])).1
theorem zw6:Zz.H 42 1 115 zG3 [.tmp 2, .tmp 3]:=Zz.hc Tryz.func115
def zG4:PC:=(⟨_, by conv=>rhs;cbv⟩:Qc (K Tryz.f116 0 [])).1
theorem zw7:Zz.H 11 2 116 zG4 [.tmp 4, .tmp 5]:=Zz.hc Tryz.func116
def zw8:PC:=(⟨_, by conv=>rhs;cbv⟩:Qc (K Tryz.f117 0 [])).1
theorem zw9:Zz.H 22 1 117 zw8 [.tmp 2]:=Zz.hc Tryz.func117
def zq7:PC:=(⟨_, by conv=>rhs;cbv⟩:Qc (K Tryz.f118 0 [])).1
def zG5:PC:=(⟨_, by conv=>rhs;ext a;cbv⟩:Qc λa=>K Tryz.f118 1 [a]).1 zq7
theorem zxa:Zz.H 26 1 118 zG5 [.tmp 2]:=Zz.hc Tryz.func118
def zdK:PC:=(⟨_, by conv=>rhs;cbv⟩:Qc (K ycw 0 [])).1
def zmD:PC:=(⟨_, by conv=>rhs;ext a;cbv⟩:Qc λa=>K ycw 1 [a]).1 zdK
def zmE:PC:=(⟨_, by conv=>rhs;ext a b;cbv⟩:Qc λa b=>K ycw 2 [a, b]).1 zdK zmD
def zG6:PC:=(⟨_, by conv=>rhs;ext a b c;cbv⟩:Qc λa b c=>K ycw 3 [a, b, c]).1 zdK zmD zmE
theorem zxb:Zz.H 48 3 119 zG6 [.tmp 6, .tmp 7]:=Zz.hc Tryz.func119
def ziD:PC:=(⟨_, by conv=>rhs;cbv⟩:Qc (K ycx 0 [])).1
def zq8:PC:=(⟨_, by conv=>rhs;ext a;cbv⟩:Qc λa=>K ycx 1 [a]).1 ziD
def zG7:PC:=(⟨_, by conv=>rhs;ext a b;cbv⟩:Qc λa b=>K ycx 2 [a, b]).1 ziD zq8
theorem zxc:Zz.H 21 1 122 zG7 [.cell 2 151, .tmp 3]:=Zz.hc Tryz.func122
def ziE:PC:=(⟨_, by conv=>rhs;cbv⟩:Qc (K ycy 0 [])).1
def zmF:PC:=(⟨_, by conv=>rhs;ext a;cbv⟩:Qc λa=>K ycy 1 [a]).1 ziE
def zG8:PC:=(⟨_, by conv=>rhs;ext a b;cbv⟩:Qc λa b=>K ycy 2 [a, b]).1 ziE zmF
theorem zxd:Zz.H 16 2 123 zG8 [.tmp 4]:=Zz.hc Tryz.func123
def ziF:PC:=(⟨_, by conv=>rhs;cbv⟩:Qc (K ycz 0 [])).1
def zmG:PC:=(⟨_, by conv=>rhs;ext a;cbv⟩:Qc λa=>K ycz 1 [a]).1 ziF
def zG9:PC:=(⟨_, by conv=>rhs;ext a b;cbv⟩:Qc λa b=>K ycz 2 [a, b]).1 ziF zmG
theorem zxe:Zz.H 22 2 124 zG9 [.tmp 4]:=Zz.hc Tryz.func124
def zDz:PC:=(⟨_, by conv=>rhs;cbv⟩:Qc (K Tryz.f127 0 [])).1
theorem zxf:Zz.H 8 1 127 zDz [.tmp 2]:=Zz.hc Tryz.func127
def zHa:PC:=(⟨_, by conv=>rhs;cbv⟩:Qc (K Tryz.f128 0 [])).1
theorem zxg:Zz.H 17 2 128 zHa [.tmp 4]:=Zz.hc Tryz.func128
def zHb:PC:=(⟨_, by conv=>rhs;cbv⟩:Qc (K Tryz.f129 0 [])).1
theorem zxh:Zz.H 19 2 129 zHb [.tmp 4, .tmp 5]:=Zz.hc Tryz.func129
def zDA:PC:=(⟨_, by conv=>rhs;cbv⟩:Qc (K Tryz.f131 0 [])).1
theorem zxi:Zz.H 8 1 131 zDA [.tmp 2]:=Zz.hc Tryz.func131
def zxj:PC:=(⟨_, by conv=>rhs;cbv⟩:Qc (K Tryz.f132 0 [])).1
theorem zxk:Zz.H 8 1 132 zxj [.tmp 2]:=Zz.hc Tryz.func132
def zfD:PC:=(⟨_, by conv=>rhs;cbv⟩:Qc (K Tryz.f133 0 [])).1
theorem zxl:Zz.H 62 1 133 zfD [.tmp 2]:=Zz.hc Tryz.func133
def zHc:PC:=(⟨_, by conv=>rhs;cbv⟩:Qc (K Tryz.f134 0 [])).1
theorem zxm:Zz.H 22 1 134 zHc [.cell 2 53, .tmp 3]:=Zz.hc Tryz.func134
def zsr:PC:=(⟨_, by conv=>rhs;cbv⟩:Qc (K Tryz.f135 0 [])).1
theorem zxn:Zz.H 21 1 135 zsr [.tmp 2]:=Zz.hc Tryz.func135
def zHd:PC:=(⟨_, by conv=>rhs;cbv⟩:Qc (K Tryz.f136 0 [])).1
theorem zxo:Zz.H 24 1 136 zHd [.tmp 2]:=Zz.hc Tryz.func136
def zbV:PC:=(⟨_, by conv=>rhs;cbv⟩:Qc (K ycA 0 [])).1
def zq9:PC:=(⟨_, by conv=>rhs;ext a;cbv⟩:Qc λa=>K ycA 1 [a]).1 zbV
def zxp:PC:=(⟨_, by conv=>rhs;ext a b;cbv⟩:Qc λa b=>K ycA 2 [a, b]).1 zbV zq9
theorem zxq:Zz.H 53 1 137 zxp [.tmp 2]:=Zz.hc Tryz.func137
def ziG:PC:=(⟨_, by conv=>rhs;cbv⟩:Qc (K ycB 0 [])).1
def zra:PC:=(⟨_, by conv=>rhs;ext a;cbv⟩:Qc λa=>K ycB 1 [a]).1 ziG
def zHe:PC:=(⟨_, by conv=>rhs;ext a b;cbv⟩:Qc λa b=>K ycB 2 [a, b]).1 ziG zra
theorem zxr:Zz.H 33 1 138 zHe [.tmp 2]:=Zz.hc Tryz.func138
def zG:PC:=(⟨_, by conv=>rhs;cbv⟩:Qc (K ycC 0 [])).1
def zmH:PC:=(⟨_, by conv=>rhs;ext a;cbv⟩:Qc λa=>K ycC 1 [a]).1 zG
def zHf:PC:=(⟨_, by conv=>rhs;ext a b;cbv⟩:Qc λa b=>K ycC 2 [a, b]).1 zG zmH
theorem zxs:Zz.H 89 3 139 zHf [.tmp 6, .tmp 7]:=Zz.hc Tryz.func139
def zHg:PC:=(⟨_, by conv=>rhs;cbv⟩:Qc (K Tryz.f140 0 [])).1
theorem zxt:Zz.H 38 2 140 zHg [.tmp 4]:=Zz.hc Tryz.func140
def zHh:PC:=(⟨_, by conv=>rhs;cbv⟩:Qc (K Tryz.f141 0 [])).1
theorem zxu:Zz.H 6 1 141 zHh [.tmp 2]:=Zz.hc Tryz.func141
def zHi:PC:=(⟨_, by conv=>rhs;cbv⟩:Qc (K Tryz.f142 0 [])).1
theorem zxv:Zz.H 6 1 142 zHi [.cell 2 53]:=Zz.hc Tryz.func142
def zHj:PC:=(⟨_, by conv=>rhs;cbv⟩:Qc (K Tryz.f143 0 [])).1
theorem zxw:Zz.H 7 1 143 zHj [.tmp 2]:=Zz.hc Tryz.func143
def zHk:PC:=(⟨_, by conv=>rhs;cbv⟩:Qc (K Tryz.f144 0 [])).1
theorem zxx:Zz.H 6 1 144 zHk [.cell 2 57]:=Zz.hc Tryz.func144
def zDB:PC:=(⟨_, by conv=>rhs;cbv⟩:Qc (K Tryz.f145 0 [])).1
theorem zxy:Zz.H 7 1 145 zDB []:=Zz.hc Tryz.func145
def zbm:PC:=(⟨_, by conv=>rhs;cbv⟩:Qc (K ycD 0 [])).1
def ziH:PC:=(⟨_, by conv=>rhs;ext a;cbv⟩:Qc λa=>K ycD 1 [a]).1 zbm
def zHl:PC:=(⟨_, by conv=>rhs;ext a b;cbv⟩:Qc λa b=>K ycD 2 [a, b]).1 zbm ziH
theorem zxz:Zz.H 82 4 146 zHl [.tmp 8]:=Zz.hc Tryz.func146
def zHm:PC:=(⟨_, by conv=>rhs;cbv⟩:Qc (K Tryz.f147 0 [])).1
theorem zxA:Zz.H 31 1 147 zHm [.tmp 2]:=Zz.hc Tryz.func147
def zHn:PC:=(⟨_, by conv=>rhs;cbv⟩:Qc (K Tryz.f148 0 [])).1
theorem zxB:Zz.H 16 1 148 zHn [.cell 2 57]:=Zz.hc Tryz.func148
def zcI:PC:=(⟨_, by conv=>rhs;cbv⟩:Qc (K ycE 0 [])).1
def zak:PC:=(⟨_, by conv=>rhs;ext a;cbv⟩:Qc λa=>K ycE 1 [a]).1 zcI
def ziI:PC:=(⟨_, by conv=>rhs;ext a b;cbv⟩:Qc λa b=>K ycE 2 [a, b]).1 zcI zak
def zrb:PC:=(⟨_, by conv=>rhs;ext a b c;cbv⟩:Qc λa b c=>K ycE 3 [a, b, c]).1 zcI zak ziI
def zHo:PC:=(⟨_, by conv=>rhs;ext a b c d;cbv⟩:Qc λa b c d=>K ycE 4 [a, b, c, d]).1 zcI zak ziI zrb
theorem zxC:Zz.H 133 1 149 zHo [.tmp 2]:=Zz.hc Tryz.func149
def ziJ:PC:=(⟨_, by conv=>rhs;cbv⟩:Qc (K ycF 0 [])).1
def zrc:PC:=(⟨_, by conv=>rhs;ext a;cbv⟩:Qc λa=>K ycF 1 [a]).1 ziJ
def zHp:PC:=(⟨_, by conv=>rhs;ext a b;cbv⟩:Qc λa b=>K ycF 2 [a, b]).1 ziJ zrc
theorem zxD:Zz.H 19 2 154 zHp [.tmp 4]:=Zz.hc Tryz.func154
def zgF:PC:=(⟨_, by conv=>rhs;cbv⟩:Qc (K ycG 0 [])).1
def zrd:PC:=(⟨_, by conv=>rhs;ext a;cbv⟩:Qc λa=>K ycG 1 [a]).1 zgF
def zHq:PC:=(⟨_, by conv=>rhs;ext a b;cbv⟩:Qc λa b=>K ycG 2 [a, b]).1 zgF zrd
theorem zxE:Zz.H 19 2 157 zHq [.tmp 4]:=Zz.hc Tryz.func157
def zDC:PC:=(⟨_, by conv=>rhs;cbv⟩:Qc (K Tryz.f158 0 [])).1
theorem zxF:Zz.H 27 2 158 zDC [.tmp 4]:=Zz.hc Tryz.func158
def zss:PC:=(⟨_, by conv=>rhs;cbv⟩:Qc (K Tryz.f159 0 [])).1
theorem zxG:Zz.H 30 1 159 zss [.tmp 2]:=Zz.hc Tryz.func159
def zHr:PC:=(⟨_, by conv=>rhs;cbv⟩:Qc (K Tryz.f160 0 [])).1
theorem zxH:Zz.H 9 2 160 zHr [.tmp 4]:=Zz.hc Tryz.func160
def zHs:PC:=(⟨_, by conv=>rhs;cbv⟩:Qc (K Tryz.f161 0 [])).1
theorem zxI:Zz.H 110 2 161 zHs []:=Zz.hc Tryz.func161
def zDD:PC:=(⟨_, by conv=>rhs;cbv⟩:Qc (K Tryz.f162 0 [])).1
theorem zxJ:Zz.H 22 1 162 zDD []:=Zz.hc Tryz.func162
def zHt:PC:=(⟨_, by conv=>rhs;cbv⟩:Qc (K Tryz.f164 0 [])).1
theorem zxK:Zz.H 13 2 164 zHt [.tmp 4]:=Zz.hc Tryz.func164
def zDE:PC:=(⟨_, by conv=>rhs;cbv⟩:Qc (K Tryz.f167 0 [])).1
theorem zxL:Zz.H 37 2 167 zDE [.tmp 4]:=Zz.hc Tryz.func167
def zdL:PC:=(⟨_, by conv=>rhs;cbv⟩:Qc (K ycH 0 [])).1
def zgG:PC:=(⟨_, by conv=>rhs;ext a;cbv⟩:Qc λa=>K ycH 1 [a]).1 zdL
def zff:PC:=(⟨_, by conv=>rhs;ext a b;cbv⟩:Qc λa b=>K ycH 2 [a, b]).1 zdL zgG
def zmI:PC:=(⟨_, by conv=>rhs;ext a b c;cbv⟩:Qc λa b c=>K ycH 3 [a, b, c]).1 zdL zgG zff
def zre:PC:=(⟨_, by conv=>rhs;ext a b c d;cbv⟩:Qc λa b c d=>K ycH 4 [a, b, c, d]).1 zdL zgG zff zmI
def zDF:PC:=(⟨_, by conv=>rhs;ext a b c d e;cbv⟩:Qc λa b c d e=>K ycH 5 [a, b, c, d, e]).1 zdL zgG zff zmI zre
theorem zrf:Zz.H 55 2 168 zDF [.tmp 4]:=Zz.hc Tryz.func168
def zHu:PC:=(⟨_, by conv=>rhs;cbv⟩:Qc (K Tryz.f169 0 [])).1
theorem zxM:Zz.H 15 2 169 zHu [.tmp 4, .tmp 5]:=Zz.hc Tryz.func169
def zHv:PC:=(⟨_, by conv=>rhs;cbv⟩:Qc (K Tryz.f171 0 [])).1
theorem zxN:Zz.H 41 3 171 zHv [.cell 6 53]:=Zz.hc Tryz.func171
def zHw:PC:=(⟨_, by conv=>rhs;cbv⟩:Qc (K Tryz.f172 0 [])).1
theorem zxO:Zz.H 10 2 172 zHw [.tmp 4]:=Zz.hc Tryz.func172
def zxP:PC:=(⟨_, by conv=>rhs;cbv⟩:Qc (K Tryz.f177 0 [])).1
theorem zxQ:Zz.H 15 3 177 zxP [.tmp 6]:=Zz.hc Tryz.func177
def zkW:PC:=(⟨_, by conv=>rhs;cbv⟩:Qc (K Tryz.f178 0 [])).1
theorem zxR:Zz.H 45 3 178 zkW [.cell 6 53]:=Zz.hc Tryz.func178
def zdM:PC:=(⟨_, by conv=>rhs;cbv⟩:Qc (K ycI 0 [])).1
def zfg:PC:=(⟨_, by conv=>rhs;ext a;cbv⟩:Qc λa=>K ycI 1 [a]).1 zdM
def ziK:PC:=(⟨_, by conv=>rhs;ext a b;cbv⟩:Qc λa b=>K ycI 2 [a, b]).1 zdM zfg
def zmJ:PC:=(⟨_, by conv=>rhs;ext a b c;cbv⟩:Qc λa b c=>K ycI 3 [a, b, c]).1 zdM zfg ziK
def zHx:PC:=(⟨_, by conv=>rhs;ext a b c d;cbv⟩:Qc λa b c d=>K ycI 4 [a, b, c, d]).1 zdM zfg ziK zmJ
theorem zxS:Zz.H 53 2 179 zHx [.cell 4 53, .tmp 5]:=Zz.hc Tryz.func179
def ziL:PC:=(⟨_, by conv=>rhs;cbv⟩:Qc (K ycJ 0 [])).1
def zrg:PC:=(⟨_, by conv=>rhs;ext a;cbv⟩:Qc λa=>K ycJ 1 [a]).1 ziL
def zHy:PC:=(⟨_, by conv=>rhs;ext a b;cbv⟩:Qc λa b=>K ycJ 2 [a, b]).1 ziL zrg
theorem zxT:Zz.H 27 2 180 zHy [.tmp 4]:=Zz.hc Tryz.func180
def zfh:PC:=(⟨_, by conv=>rhs;cbv⟩:Qc (K ycK 0 [])).1
def zfi:PC:=(⟨_, by conv=>rhs;ext a;cbv⟩:Qc λa=>K ycK 1 [a]).1 zfh
def zDG:PC:=(⟨_, by conv=>rhs;ext a b;cbv⟩:Qc λa b=>K ycK 2 [a, b]).1 zfh zfi
theorem zxU:Zz.H 41 4 181 zDG [.tmp 8]:=Zz.hc Tryz.func181
def zpT:PC:=(⟨_, by conv=>rhs;cbv⟩:Qc (K Tryz.f182 0 [])).1
theorem zxV:Zz.H 37 3 182 zpT [.tmp 6]:=Zz.hc Tryz.func182
def zmK:PC:=(⟨_, by conv=>rhs;cbv⟩:Qc (K Tryz.f183 0 [])).1
def zhn:PC:=(⟨_, by conv=>rhs;ext a;cbv⟩:Qc λa=>K Tryz.f183 1 [a]).1 zmK
theorem zxW:Zz.H 136 3 183 zhn []:=Zz.hc Tryz.func183
def zfj:PC:=(⟨_, by conv=>rhs;cbv⟩:Qc (K ycL 0 [])).1
def zmL:PC:=(⟨_, by conv=>rhs;ext a;cbv⟩:Qc λa=>K ycL 1 [a]).1 zfj
def zHz:PC:=(⟨_, by conv=>rhs;ext a b;cbv⟩:Qc λa b=>K ycL 2 [a, b]).1 zfj zmL
theorem zxX:Zz.H 19 1 184 zHz [.tmp 2]:=Zz.hc Tryz.func184
def zgH:PC:=(⟨_, by conv=>rhs;cbv⟩:Qc (K ycM 0 [])).1
def zmM:PC:=(⟨_, by conv=>rhs;ext a;cbv⟩:Qc λa=>K ycM 1 [a]).1 zgH
def zHA:PC:=(⟨_, by conv=>rhs;ext a b;cbv⟩:Qc λa b=>K ycM 2 [a, b]).1 zgH zmM
theorem zxY:Zz.H 20 1 185 zHA [.tmp 2]:=Zz.hc Tryz.func185
def zHB:PC:=(⟨_, by conv=>rhs;cbv⟩:Qc (K Tryz.f186 0 [])).1
theorem zxZ:Zz.H 16 0 186 zHB [.tmp 0]:=Zz.hc Tryz.func186
def zdN:PC:=(⟨_, by conv=>rhs;cbv⟩:Qc (K ycN 0 [])).1
def zgI:PC:=(⟨_, by conv=>rhs;ext a;cbv⟩:Qc λa=>K ycN 1 [a]).1 zdN
def ziM:PC:=(⟨_, by conv=>rhs;ext a b;cbv⟩:Qc λa b=>K ycN 2 [a, b]).1 zdN zgI
def ziN:PC:=(⟨_, by conv=>rhs;ext a b c;cbv⟩:Qc λa b c=>K ycN 3 [a, b, c]).1 zdN zgI ziM
def zrh:PC:=(⟨_, by conv=>rhs;ext a b c d;cbv⟩:Qc λa b c d=>K ycN 4 [a, b, c, d]).1 zdN zgI ziM ziN
def zHC:PC:=(⟨_, by conv=>rhs;ext a b c d e;cbv⟩:Qc λa b c d e=>K ycN 5 [a, b, c, d, e]).1 zdN zgI ziM ziN zrh
theorem zx0:Zz.H 67 0 187 zHC [.tmp 0]:=Zz.hc Tryz.func187
def zgJ:PC:=(⟨_, by conv=>rhs;cbv⟩:Qc (K ycO 0 [])).1
def zri:PC:=(⟨_, by conv=>rhs;ext a;cbv⟩:Qc λa=>K ycO 1 [a]).1 zgJ
def zHD:PC:=(⟨_, by conv=>rhs;ext a b;cbv⟩:Qc λa b=>K ycO 2 [a, b]).1 zgJ zri
theorem zx1:Zz.H 19 2 190 zHD [.tmp 4]:=Zz.hc Tryz.func190
def zmN:PC:=(⟨_, by conv=>rhs;cbv⟩:Qc (K Tryz.f191 0 [])).1
theorem zx2:Zz.H 38 1 191 zmN [.tmp 2]:=Zz.hc Tryz.func191
def zkX:PC:=(⟨_,by delta A C S a b c d f i l m n s t w;exact rfl⟩:Zz.Q (S [d 3 (.box 53 (t 1)),A 4 (.const (.bool false))] (.seq (S [f 7 53
 3 0,l 8 3 7] (.block 0 (S [b 10 .eql 3 (t 8) (i 1) 3,a 9 10] (C 9 (S [f 11 53 3 1,l 12 3 11,f 13 53 3 2,l 14 3 13,f 16 53 3 2,l 17 3 16,⟨some 15,.call ⟨.value
 (.func 220),#[t 12,t 14],#[3,3]⟩,none,[⟨none,3,t 16,17⟩]⟩,b 18 .eql 3 (t 15) (t 17) 3,a 4 18] .ret) (.seq (S [b 20 .eql 3 (t 8) (i 2) 3,a 19 20] (C 19 .skip
 (.ops [b 21 .eql 3 (t 8) (i 3) 3,a 19 21]))) (C 19 (S [f 22 53 3 2,l 23 3 22,b 24 .geq 3 (t 23) (i 0) 3,m 25 24,w 26 (.fieldAddr 53 (t 3) 2) 25 true,w 27
 (.load 3 (t 26)) 25 true,w 28 (.move (t 0)) 25 true,w 29 (.nilCheck (t 28)) 25 true,w 30 (.fieldAddr 192 (t 29) 0) 25 true,w 31 (.load 72 (t 30)) 25 true,w 32
 (.nilCheck (t 31)) 25 true,w 33 (.fieldAddr 74 (t 32) 2) 25 true,w 34 (.load 44 (t 33)) 25 true,w 35 (.call ⟨.builtin .len,#[t 34],#[44]⟩) 25 true,w 36 (.binOp
 .lss 3 (t 27) (t 35) 3) 25 true,d 37 (.pick (t 25) (t 36) (.const (.bool false))),a 4 37] .ret) (S [b 39 .eql 3 (t 8) (i 10) 3,a 38 39] (C 38 (.seq (.both [[m
 41 0,n 42 41,f 43 192 42 0,l 44 72 43,n 45 44,f 46 74 45 0,l 47 28 46,f 48 53 3 2,l 49 3 48,c 50 229 #[t 47,t 49] #[28,3],m 40 50,d 51 (.extract (t 40) 0),d 52
 (.extract (t 40) 1),d 5 (.alloc 265),s 265 5 51,a 6 52],[m 41 0,n 42 41,f 43 192 42 0,l 44 72 43,n 45 44,f 46 74 45 0,l 47 28 46,f 48 53 3 2,l 49 3 48,⟨some
 5,.alloc 265,none,[⟨none,72,t 43,44⟩,⟨none,28,t 46,47⟩,⟨none,3,t 48,49⟩]⟩,c 50 229 #[t 47,t 49] #[28,3],m 40 50,d 51 (.extract (t 40) 0),d 52 (.extract (t 40)
 1),s 265 5 51,a 6 52]]) (S [m 53 6,a 4 53] .ret)) (.seq (S [b 55 .eql 3 (t 8) (i 14) 3,a 54 55] (C 54 .skip (.ops [b 56 .eql 3 (t 8) (i 15) 3,a 54 56]))) (C 54
 (S [f 57 53 3 2,l 58 3 57,b 59 .geq 3 (t 58) (i 0) 3,m 60 59,w 61 (.fieldAddr 53 (t 3) 2) 60 true,w 62 (.load 3 (t 61)) 60 true,w 63 (.move (t 0)) 60 true,w 64
 (.nilCheck (t 63)) 60 true,w 65 (.fieldAddr 192 (t 64) 3) 60 true,w 66 (.load 3 (t 65)) 60 true,w 67 (.binOp .leq 3 (t 62) (t 66) 3) 60 true,d 68 (.pick (t 60)
 (t 67) (.const (.bool false))),a 4 68] .ret) .skip)))))))))) (S [A 4 (.const (.bool true))] .ret)))).1
theorem zx3:Zz.H 69 2 192 zkX [.tmp 4]:=Zz.hc Tryz.func192
def zug:PC:=(⟨_, by conv=>rhs;cbv⟩:Qc (Kp ycP [0] 0 [])).1
def zrj:PC:=(⟨_, by conv=>rhs;cbv⟩:Qc (Kp ycP [1, 0] 0 [])).1
def zeI:PC:=(⟨_, by conv=>rhs;cbv⟩:Qc (Kp ycP [1, 1, 2] 0 [])).1
def zeJ:PC:=(⟨_, by conv=>rhs;cbv⟩:Qc (Kp ycP [1, 1, 3] 0 [])).1
def zuh:PC:=(⟨_, by conv=>rhs;cbv⟩:Qc (K Tryz.f194 0 [])).1
theorem zx4:Zz.H 16 2 194 zuh []:=Zz.hc Tryz.func194
def zHE:PC:=(⟨_, by conv=>rhs;cbv⟩:Qc (K Tryz.f195 0 [])).1
theorem zx5:Zz.H 8 1 195 zHE []:=Zz.hc Tryz.func195
def zHF:PC:=(⟨_,by delta C S a b c d f i l m n s t x;exact rfl⟩:Zz.Q (S [d 3 (.box 53 (t 1))] (S [f 6 53 3 0,l 7 3 6] (.block 0 (S [b 9 .eql
 3 (t 7) (i 1) 3,a 8 9] (C 8 (.ops [m 10 0,f 11 53 3 1,l 12 3 11,c 13 194 #[t 10,t 12] #[190,3]]) (S [b 15 .eql 3 (t 7) (i 2) 3,a 14 15] (C 14 (.ops [m 16 0,m
 17 0,n 18 17,f 19 192 18 0,l 20 72 19,n 21 20,f 22 74 21 2,l 23 44 22,f 24 53 3 2,l 25 3 24,x 26 44 23 25,l 27 3 26,c 28 194 #[t 16,t 27] #[190,3]]) (S [b 30
 .eql 3 (t 7) (i 3) 3,a 29 30] (C 29 (.ops [m 31 0,m 32 0,n 33 32,f 34 192 33 0,l 35 72 34,n 36 35,f 37 74 36 2,l 38 44 37,f 39 53 3 2,l 40 3 39,x 41 44 38 40,l
 42 3 41,d 43 (.buildSlice 44 1 #[(0,t 42)]),c 44 193 #[t 31,t 43] #[190,44]]) (S [b 46 .eql 3 (t 7) (i 4) 3,a 45 46] (C 45 (S [m 47 0,f 48 53 3 1,l 49 3 48,f
 50 53 3 1,l 51 3 50,d 52 (.buildSlice 44 2 #[(0,t 49),(1,t 51)]),c 53 193 #[t 47,t 52] #[190,44]] (S [f 54 53 3 5,l 55 9 54,b 56 .add 9 (.const (.string
 ⟨#[32]⟩)) (t 55) 9,b 57 .add 9 (t 56) (.const (.string ⟨#[32]⟩)) 9,c 58 232 #[.const (.string
 ⟨#[32,101,113,32,110,101,32,108,116,95,115,32,108,101,95,115,32,103,116,95,115,32,103,101,95,115,32]⟩),t 57] #[9,9]] (C 58 (.ops [m 59 0,c 60 194 #[t 59,i 1]
 #[190,3]]) (.ops [m 61 0,f 62 53 3 1,l 63 3 62,c 64 194 #[t 61,t 63] #[190,3]])))) (S [b 66 .eql 3 (t 7) (i 5) 3,a 65 66] (C 65 (S [m 67 0,f 68 53 3 1,l 69 3
 68,d 70 (.buildSlice 44 1 #[(0,t 69)]),c 71 193 #[t 67,t 70] #[190,44]] (.ops [m 72 0,c 73 194 #[t 72,i 1] #[190,3]])) (S [b 75 .eql 3 (t 7) (i 6) 3,a 74 75]
 (C 74 (S [m 76 0,d 77 (.buildSlice 44 1 #[(0,i 2)]),c 78 193 #[t 76,t 77] #[190,44]] (.ops [m 79 0,c 80 194 #[t 79,i 1] #[190,3]])) (S [b 82 .eql 3 (t 7) (i 7)
 3,a 81 82] (C 81 (S [m 83 0,d 84 (.buildSlice 44 1 #[(0,i 1)]),c 85 193 #[t 83,t 84] #[190,44]] (.ops [m 86 0,c 87 194 #[t 86,i 2] #[190,3]])) (S [b 89 .eql 3
 (t 7) (i 8) 3,a 88 89] (C 88 (S [m 90 0,d 91 (.buildSlice 44 1 #[(0,i 1)]),c 92 193 #[t 90,t 91] #[190,44]] (.ops [m 93 0,f 94 53 3 1,l 95 3 94,c 96 194 #[t
 93,t 95] #[190,3]])) (S [b 98 .eql 3 (t 7) (i 9) 3,a 97 98] (C 97 (.ops [m 99 0,f 100 53 3 1,l 101 3 100,d 102 (.buildSlice 44 2 #[(0,i 1),(1,t 101)]),c 103
 193 #[t 99,t 102] #[190,44]]) (S [b 105 .eql 3 (t 7) (i 10) 3,a 104 105] (C 104 (.seq (.both [[m 107 0,n 108 107,f 109 192 108 0,l 110 72 109,n 111 110,f 112
 74 111 0,l 113 28 112,f 114 53 3 2,l 115 3 114,c 116 229 #[t 113,t 115] #[28,3],m 106 116,d 117 (.extract (t 106) 0),d 118 (.extract (t 106) 1),d 4 (.alloc
 265),s 265 4 117,a 5 118],[m 107 0,n 108 107,f 109 192 108 0,l 110 72 109,n 111 110,f 112 74 111 0,l 113 28 112,f 114 53 3 2,l 115 3 114,⟨some 4,.alloc
 265,none,[⟨none,72,t 109,110⟩,⟨none,28,t 112,113⟩,⟨none,3,t 114,115⟩]⟩,c 116 229 #[t 113,t 115] #[28,3],m 106 116,d 117 (.extract (t 106) 0),d 118 (.extract (t
 106) 1),s 265 4 117,a 5 118]]) (S [m 119 0,f 120 265 4 0,l 121 44 120,c 122 193 #[t 119,t 121] #[190,44]] (.ops [m 123 0,f 124 265 4 1,l 125 3 124,c 126 194
 #[t 123,t 125] #[190,3]]))) (S [b 128 .eql 3 (t 7) (i 18) 3,a 127 128] (C 127 (.ops [m 129 0,c 130 231 #[t 129] #[190]]) .skip)))))))))))))))))))))))))).1
theorem zx6:Zz.H 131 2 196 zHF []:=Zz.hc Tryz.func196
def zDH:PC:=(⟨_, by conv=>rhs;cbv⟩:Qc (K Tryz.f199 0 [])).1
theorem zx7:Zz.H 18 2 199 zDH [.tmp 4]:=Zz.hc Tryz.func199
def zDI:PC:=(⟨_, by conv=>rhs;cbv⟩:Qc (K Tryz.f206 0 [])).1
theorem zrk:Zz.H 5 1 206 zDI [.tmp 2]:=Zz.hc Tryz.func206
def zDJ:PC:=(⟨_, by conv=>rhs;cbv⟩:Qc (K Tryz.f207 0 [])).1
theorem zx8:Zz.H 45 3 207 zDJ [.cell 6 53]:=Zz.hc Tryz.func207
def ziO:PC:=(⟨_, by conv=>rhs;cbv⟩:Qc (K ycQ 0 [])).1
def zrl:PC:=(⟨_, by conv=>rhs;ext a;cbv⟩:Qc λa=>K ycQ 1 [a]).1 ziO
def zHG:PC:=(⟨_, by conv=>rhs;ext a b;cbv⟩:Qc λa b=>K ycQ 2 [a, b]).1 ziO zrl
theorem zx9:Zz.H 61 1 208 zHG [.cell 2 53, .tmp 3]:=Zz.hc Tryz.func208
def zdO:PC:=(⟨_, by conv=>rhs;cbv⟩:Qc (K ycR 0 [])).1
def ziP:PC:=(⟨_, by conv=>rhs;ext a;cbv⟩:Qc λa=>K ycR 1 [a]).1 zdO
def zod:PC:=(⟨_, by conv=>rhs;ext a b;cbv⟩:Qc λa b=>K ycR 2 [a, b]).1 zdO ziP
theorem zya:Zz.H 27 2 216 zod [.tmp 4]:=Zz.hc Tryz.func216
def zDK:PC:=(⟨_, by conv=>rhs;cbv⟩:Qc (K Tryz.f217 0 [])).1
theorem zyb:Zz.H 14 2 217 zDK []:=Zz.hc Tryz.func217
def zyc:PC:=(⟨_, by conv=>rhs;cbv⟩:Qc (K Tryz.f218 0 [])).1
theorem zyd:Zz.H 29 4 218 zyc [.tmp 8, .tmp 9]:=Zz.hc Tryz.func218
def zgK:PC:=(⟨_, by conv=>rhs;cbv⟩:Qc (K ycS 0 [])).1
def zrm:PC:=(⟨_, by conv=>rhs;ext a;cbv⟩:Qc λa=>K ycS 1 [a]).1 zgK
def zHH:PC:=(⟨_, by conv=>rhs;ext a b;cbv⟩:Qc λa b=>K ycS 2 [a, b]).1 zgK zrm
theorem zye:Zz.H 16 1 219 zHH [.tmp 2]:=Zz.hc Tryz.func219
def zui:PC:=(⟨_, by conv=>rhs;cbv⟩:Qc (K Tryz.f220 0 [])).1
theorem zyf:Zz.H 19 2 220 zui [.tmp 4]:=Zz.hc Tryz.func220
def ziQ:PC:=(⟨_, by conv=>rhs;cbv⟩:Qc (K ycT 0 [])).1
def zrn:PC:=(⟨_, by conv=>rhs;ext a;cbv⟩:Qc λa=>K ycT 1 [a]).1 ziQ
def zHI:PC:=(⟨_, by conv=>rhs;ext a b;cbv⟩:Qc λa b=>K ycT 2 [a, b]).1 ziQ zrn
theorem zyg:Zz.H 32 1 221 zHI [.tmp 2]:=Zz.hc Tryz.func221
def zyh:PC:=(⟨_, by conv=>rhs;cbv⟩:Qc (K Tryz.f222 0 [])).1
theorem zyi:Zz.H 30 3 222 zyh [.tmp 6]:=Zz.hc Tryz.func222
def zst:PC:=(⟨_, by conv=>rhs;cbv⟩:Qc (K Tryz.f223 0 [])).1
theorem zyj:Zz.H 80 3 223 zst []:=Zz.hc Tryz.func223
def zfk:PC:=(⟨_, by conv=>rhs;cbv⟩:Qc (K ycU 0 [])).1
def zmO:PC:=(⟨_, by conv=>rhs;ext a;cbv⟩:Qc λa=>K ycU 1 [a]).1 zfk
def zHJ:PC:=(⟨_, by conv=>rhs;ext a b;cbv⟩:Qc λa b=>K ycU 2 [a, b]).1 zfk zmO
theorem zyk:Zz.H 19 1 224 zHJ [.tmp 2]:=Zz.hc Tryz.func224
def zpU:PC:=(⟨_, by conv=>rhs;cbv⟩:Qc (K Tryz.f228 0 [])).1
theorem zyl:Zz.H 23 2 228 zpU [.tmp 4]:=Zz.hc Tryz.func228
def zpV:PC:=(⟨_, by conv=>rhs;cbv⟩:Qc (K Tryz.f229 0 [])).1
theorem zym:Zz.H 44 2 229 zpV [.cell 4 265, .tmp 5]:=Zz.hc Tryz.func229
def zHK:PC:=(⟨_, by conv=>rhs;cbv⟩:Qc (K Tryz.f230 0 [])).1
theorem zyn:Zz.H 4 1 230 zHK [.tmp 2]:=Zz.hc Tryz.func230
def zpW:PC:=(⟨_, by conv=>rhs;cbv⟩:Qc (K Tryz.f231 0 [])).1
theorem zyo:Zz.H 31 1 231 zpW []:=Zz.hc Tryz.func231
def zHL:PC:=(⟨_, by conv=>rhs;cbv⟩:Qc (K Tryz.f239 0 [])).1
theorem zyp:Zz.H 9 2 239 zHL [.tmp 4]:=Zz.hc Tryz.func239
def zyq:PC:=(⟨_, by conv=>rhs;cbv⟩:Qc (K Tryz.f245 0 [])).1
theorem zyr:Zz.H 34 4 245 zyq [.tmp 8, .tmp 9]:=Zz.hc Tryz.func245
def zys:PC:=(⟨_, by conv=>rhs;cbv⟩:Qc (K Tryz.f246 0 [])).1
theorem zyt:Zz.H 32 4 246 zys [.tmp 8, .tmp 9]:=Zz.hc Tryz.func246
def zDL:PC:=(⟨_, by conv=>rhs;cbv⟩:Qc (K Tryz.f247 0 [])).1
theorem zyu:Zz.H 25 1 247 zDL [.tmp 2]:=Zz.hc Tryz.func247
def zyv:PC:=(⟨_, by conv=>rhs;cbv⟩:Qc (K Tryz.f248 0 [])).1
theorem zyw:Zz.H 8 1 248 zyv [.tmp 2]:=Zz.hc Tryz.func248
def zfl:PC:=(⟨_, by conv=>rhs;cbv⟩:Qc (K Tryz.f250 0 [])).1
def zHM:PC:=(⟨_, by conv=>rhs;ext a;cbv⟩:Qc λa=>K Tryz.f250 1 [a]).1 zfl
theorem zyx:Zz.H 19 2 250 zHM []:=Zz.hc Tryz.func250
def zoe:PC:=(⟨_, by conv=>rhs;cbv⟩:Qc (K Tryz.f256 0 [])).1
theorem zyy:Zz.H 40 3 256 zoe [.tmp 6, .tmp 7]:=Zz.hc Tryz.func256
def zfE:PC:=(⟨_, by conv=>rhs;cbv⟩:Qc (K Tryz.f257 0 [])).1
theorem zyz:Zz.H 93 4 257 zfE [.tmp 8]:=Zz.hc Tryz.func257
def zof:PC:=(⟨_, by conv=>rhs;cbv⟩:Qc (K Tryz.f258 0 [])).1
theorem zyA:Zz.H 40 3 258 zof [.tmp 6, .tmp 7]:=Zz.hc Tryz.func258
def zfF:PC:=(⟨_, by conv=>rhs;cbv⟩:Qc (K Tryz.f259 0 [])).1
theorem zyB:Zz.H 93 4 259 zfF [.tmp 8]:=Zz.hc Tryz.func259
def zHN:PC:=(⟨_, by conv=>rhs;cbv⟩:Qc (K Tryz.f262 0 [])).1
theorem zyC:Zz.H 4 1 262 zHN [.tmp 2]:=Zz.hc Tryz.func262
def zHO:PC:=(⟨_, by conv=>rhs;cbv⟩:Qc (K Tryz.f263 0 [])).1
theorem zyD:Zz.H 4 1 263 zHO [.tmp 2]:=Zz.hc Tryz.func263
@[simp] theorem zL4:zcP yb9 22=some 1/\zbx yb9 22=some (.str [])/\zbO yb9 9=some 1/\zbr yb9 9=false/\za yb9 10/\za yb9 5/\za yb9 8/\zcs yb9 9/\za yb9 11/\za yb9 7/\za yb9 9/\za yb9 12/\za yb9 19/\zO yb9 28=some (.agg [.nilsl, (.int .i64 0), (.int .i64 0)]):=by and_intros<;>kernel_rfl
@[simp] theorem zL5:zbO yb9 28=some 3/\zbr yb9 28/\za yb9 21/\za yb9 22/\za yb9 23/\za yb9 30/\za yb9 31/\za yb9 20/\za yb9 32/\zbw yb9 28 0=some ⟨0, 1, false⟩/\zbO yb9 26=some 1/\zbr yb9 26=false/\zcP yb9 26=some 5/\zbw yb9 28 1=some ⟨1, 1, false⟩:=by and_intros<;>kernel_rfl
@[simp] theorem zMe:zbO yb9 3=some 1/\zbr yb9 3=false/\zbw yb9 28 2=some ⟨2, 1, false⟩/\zcP yb9 44=some 1/\za yb9 33/\za yb9 26/\za yb9 18/\za yb9 28/\za yb9 27/\zab yb9 53/\zea yb9 53/\zO yb9 53=some (.agg [(.int .i64 0), (.int .i64 0), (.int .i64 0), (.int .i64 0), (.int .i64 0), (.str [])])/\zbw yb9 53 0=some ⟨0, 1, false⟩/\zbw yb9 53 1=some ⟨1, 1, false⟩:=by and_intros<;>kernel_rfl
@[simp] theorem zJP:zbw yb9 53 2=some ⟨2, 1, false⟩/\zcP yb9 54=some 6/\zbx yb9 54=some (.agg [(.int .i64 0), (.int .i64 0), (.int .i64 0), (.int .i64 0), (.int .i64 0), (.str [])])/\zcP yb9 55=some 1/\zbx yb9 55=some .nilsl/\zab yb9 57/\zea yb9 57/\zO yb9 57=some (.agg [(.str []), .nilsl, .nilsl, (.int .i64 0), .nilsl])/\zbw yb9 57 0=some ⟨0, 1, false⟩/\zbw yb9 57 3=some ⟨3, 1, false⟩/\zbw yb9 57 4=some ⟨4, 1, false⟩/\zbx yb9 26=some (.agg [(.str []), .nilsl, .nilsl, (.int .i64 0), .nilsl])/\zab yb9 28/\zea yb9 28:=by and_intros<;>kernel_rfl
@[simp] theorem zJQ:zO yb9 33=some (.int .i64 0)/\zbO yb9 33=some 1/\zbr yb9 33=false/\za yb9 53/\zbO yb9 57=some 5/\zbr yb9 57/\zab yb9 74/\zea yb9 74/\zO yb9 74=some (.agg [.nilsl, (.int .i64 0), (.int .i64 0), (.str []), .nilsl, .nilsl, (.int .i64 0), .nilsl, .nilsl])/\zbw yb9 74 0=some ⟨0, 3, true⟩/\zbw yb9 74 1=some ⟨3, 5, true⟩/\za yb9 54/\zbw yb9 57 1=some ⟨1, 1, false⟩/\zbO yb9 44=some 1:=by and_intros<;>kernel_rfl
@[simp] theorem zK6:zbr yb9 44=false/\zab yb9 77/\zea yb9 77/\zO yb9 77=some (.agg [(.str []), .nilsl])/\zbw yb9 77 0=some ⟨0, 1, false⟩/\za yb9 57/\za yb9 56/\za yb9 58/\za yb9 59/\za yb9 60/\zbR yb9 26=some 96/\za yb9 62/\za yb9 61/\zab yb9 88:=by and_intros<;>kernel_rfl
@[simp] theorem zHP:zea yb9 88/\zO yb9 88=some (.agg [.nilp, .nilsl])/\za yb9 64/\za yb9 63/\za yb9 65/\zbx yb9 44=some (.int .i64 0)/\zbw yb9 57 2=some ⟨2, 1, false⟩/\zbO yb9 55=some 1/\zbr yb9 55=false/\za yb9 66/\zbw yb9 88 0=some ⟨0, 2, true⟩/\za yb9 67/\zab yb9 95/\zea yb9 95:=by and_intros<;>kernel_rfl
@[simp] theorem zJR:zO yb9 95=some (.agg [(.str []), (.int .i64 0), (.int .i64 0), .nilsl])/\zbw yb9 95 0=some ⟨0, 1, false⟩/\za yb9 68/\zbw yb9 95 1=some ⟨1, 1, false⟩/\zbR yb9 22=some 16/\za yb9 69/\za yb9 70/\za yb9 71/\za yb9 72/\za yb9 73/\zbw yb9 95 2=some ⟨2, 1, false⟩/\za yb9 74/\za yb9 75/\zbO yb9 54=some 1:=by and_intros<;>kernel_rfl
@[simp] theorem zBy:zcP yb9 32=some 1:=by kernel_rfl
@[simp] theorem zBz:zbx yb9 32=some (.int .u8 0):=by kernel_rfl
@[simp] theorem zHQ:zbR yb9 32=some 1:=by kernel_rfl
@[simp] theorem zK7:zbr yb9 54=false/\za yb9 76/\za yb9 77/\za yb9 78/\zbw yb9 48 1=some ⟨1, 1, false⟩/\zbw yb9 48 2=some ⟨2, 1, false⟩/\zbw yb9 48 0=some ⟨0, 1, false⟩/\za yb9 79/\zO yb9 48=some (.agg [.nilsl, (.int .i64 0), (.int .i64 0)])/\zbO yb9 48=some 3/\zbr yb9 48/\zab yb9 109/\zea yb9 109/\zO yb9 109=some (.agg [.nilsl, (.int .i64 0), (.int .i64 0), .nilsl, (.int .i64 0), .nilsl, .nilsl, (.int .i64 0)]):=by and_intros<;>kernel_rfl
@[simp] theorem zHR:zbw yb9 109 0=some ⟨0, 3, true⟩/\zbw yb9 109 1=some ⟨3, 1, false⟩/\zbw yb9 109 2=some ⟨4, 1, false⟩/\zbw yb9 109 3=some ⟨5, 1, false⟩/\zO yb9 107=some .nilp/\zbO yb9 107=some 1/\zbr yb9 107=false/\za yb9 81/\zbw yb9 109 4=some ⟨6, 1, false⟩/\zab yb9 48/\zea yb9 48/\za yb9 51/\za yb9 82/\za yb9 83:=by and_intros<;>kernel_rfl
@[simp] theorem zJS:za yb9 84/\za yb9 85/\za yb9 86/\zbw yb9 71 0=some ⟨0, 1, false⟩/\zab yb9 71/\zea yb9 71/\zO yb9 71=some (.agg [(.int .i64 0)])/\zaQ yb9 71=some false/\zcP yb9 186=some 1/\zbx yb9 186=some .nilsl/\za yb9 105/\zbw yb9 74 2=some ⟨8, 1, false⟩/\za yb9 95/\za yb9 108:=by and_intros<;>kernel_rfl
@[simp] theorem zHS:za yb9 109/\za yb9 110/\ztm yb9 135=some (256, 1, false)/\zbO yb9 5=some 1/\zbr yb9 5=false/\zd2 yb9 3=some .i64/\za yb9 113/\za yb9 114/\za yb9 115/\za yb9 116/\za yb9 117/\za yb9 118/\zbw yb9 77 1=some ⟨1, 1, false⟩/\za yb9 119:=by and_intros<;>kernel_rfl
theorem zuj:zO yb9 151=some (.agg [(.bool false), (.bool false), (.bool false), (.bool false), (.bool false), (.bool false), (.bool false), (.bool false), (.bool false), (.bool false), (.bool false), (.bool false), (.bool false), (.bool false), (.bool false), (.bool false), (.bool false), (.bool false), (.bool false), (.bool false), (.bool false), (.bool false), (.bool false), (.bool false), (.bool false), (.bool false), (.bool false), (.bool false), (.bool false), (.bool false), (.bool false), (.bool false), (.bool false), (.bool false), (.bool false), (.bool false), (.bool false), (.bool false), (.bool false), (.bool false), (.bool false), (.bool false), (.bool false), (.bool false), (.bool false), (.bool false), (.bool false), (.bool false), (.bool false), (.bool false), (.bool false), (.bool false), (.bool false), (.bool false), (.bool false), (.bool false), (.bool false), (.bool false), (.bool false), (.bool false), (.bool false), (.bool false), (.bool false), (.bool false), (.bool false), (.bool false), (.bool false), (.bool false), (.bool false), (.bool false), (.bool false), (.bool false), (.bool false), (.bool false), (.bool false), (.bool false), (.bool false), (.bool false), (.bool false), (.bool false), (.bool false), (.bool false), (.bool false), (.bool false), (.bool false), (.bool false), (.bool false), (.bool false), (.bool false), (.bool false), (.bool false), (.bool false), (.bool false), (.bool false), (.bool false), (.bool false), (.bool false), (.bool false), (.bool false), (.bool false), (.bool false), (.bool false), (.bool false), (.bool false), (.bool false), (.bool false), (.bool false), (.bool false), (.bool false), (.bool false), (.bool false), (.bool false), (.bool false), (.bool false), (.bool false), (.bool false), (.bool false), (.bool false), (.bool false), (.bool false), (.bool false), (.bool false), (.bool false), (.bool false), (.bool false), (.bool false), (.bool false), (.bool false), (.bool false), (.bool false), (.bool false), (.bool false), (.bool false), (.bool false), (.bool false), (.bool false), (.bool false), (.bool false), (.bool false), (.bool false), (.bool false), (.bool false), (.bool false), (.bool false), (.bool false), (.bool false), (.bool false), (.bool false), (.bool false), (.bool false), (.bool false), (.bool false), (.bool false), (.bool false), (.bool false), (.bool false), (.bool false), (.bool false), (.bool false), (.bool false), (.bool false), (.bool false), (.bool false), (.bool false), (.bool false), (.bool false), (.bool false), (.bool false), (.bool false), (.bool false), (.bool false), (.bool false), (.bool false), (.bool false), (.bool false), (.bool false), (.bool false), (.bool false), (.bool false), (.bool false), (.bool false), (.bool false), (.bool false), (.bool false), (.bool false), (.bool false), (.bool false), (.bool false), (.bool false), (.bool false), (.bool false), (.bool false), (.bool false), (.bool false), (.bool false), (.bool false), (.bool false), (.bool false), (.bool false), (.bool false), (.bool false), (.bool false), (.bool false), (.bool false), (.bool false), (.bool false), (.bool false), (.bool false), (.bool false), (.bool false), (.bool false), (.bool false), (.bool false), (.bool false), (.bool false), (.bool false), (.bool false), (.bool false), (.bool false), (.bool false), (.bool false), (.bool false), (.bool false), (.bool false), (.bool false), (.bool false), (.bool false), (.bool false), (.bool false), (.bool false), (.bool false), (.bool false), (.bool false), (.bool false), (.bool false), (.bool false), (.bool false), (.bool false), (.bool false), (.bool false), (.bool false), (.bool false), (.bool false), (.bool false), (.bool false), (.bool false), (.bool false), (.bool false), (.bool false), (.bool false), (.bool false), (.bool false), (.bool false), (.bool false), (.bool false), (.bool false)]):=by kernel_rfl
@[simp] theorem zL6:zaQ yb9 33=some false/\za yb9 122/\zbO yb9 151=some 256/\zbr yb9 151/\za yb9 124/\za yb9 123/\za yb9 127/\za yb9 128/\za yb9 129/\za yb9 131/\zbO yb9 53=some 6/\zbr yb9 53/\za yb9 132/\zbw yb9 53 3=some ⟨3, 1, false⟩:=by and_intros<;>kernel_rfl
@[simp] theorem zJT:zbw yb9 53 4=some ⟨4, 1, false⟩/\za yb9 133/\za yb9 134/\zbw yb9 86 1=some ⟨1, 1, false⟩/\zbO yb9 32=some 1/\zbr yb9 32=false/\za yb9 135/\za yb9 136/\za yb9 137/\za yb9 138/\zbw yb9 95 3=some ⟨3, 1, false⟩/\za yb9 139/\za yb9 140/\za yb9 141:=by and_intros<;>kernel_rfl
@[simp] theorem zHT:za yb9 142/\za yb9 143/\za yb9 144/\zO yb9 111=some (.agg [(.int .i64 0), (.int .i64 0)])/\zbO yb9 111=some 2/\zbw yb9 111 0=some ⟨0, 1, false⟩/\zbw yb9 111 1=some ⟨1, 1, false⟩/\zbw yb9 109 5=some ⟨7, 1, false⟩/\za yb9 145/\zbR yb9 44=some 8/\zab yb9 171/\zea yb9 171/\zO yb9 171=some (.agg [(.str []), .nilsl, .nilsl, (.int .i64 0), .nilsl, .nilsl, .nilsl, (.int .i64 0)])/\zbw yb9 171 0=some ⟨0, 5, true⟩:=by and_intros<;>kernel_rfl
@[simp] theorem zHU:zbw yb9 171 1=some ⟨5, 1, false⟩/\za yb9 146/\za yb9 147/\zbw yb9 171 3=some ⟨7, 1, false⟩/\za yb9 148/\zd2 yb9 5=some .u8/\ztn yb9 32/\za yb9 149/\za yb9 154/\za yb9 158/\za yb9 107/\zcP yb9 187=some 1/\zbx yb9 187=some (.bool false)/\zbR yb9 187=some 1:=by and_intros<;>kernel_rfl
@[simp] theorem zHV:za yb9 159/\zbO yb9 4=some 1/\zbr yb9 4=false/\za yb9 160/\zab yb9 192/\zea yb9 192/\zO yb9 192=some (.agg [.nilp, .nilsl, (.bool false), (.int .i64 0)])/\zbw yb9 192 0=some ⟨0, 1, false⟩/\zbw yb9 192 3=some ⟨3, 1, false⟩/\za yb9 161/\za yb9 162/\zbw yb9 192 1=some ⟨1, 1, false⟩/\za yb9 164/\za yb9 167:=by and_intros<;>kernel_rfl
@[simp] theorem zHW:za yb9 168/\za yb9 169/\zd2 yb9 21=some .i32/\za yb9 170/\zbR yb9 55=some 24/\za yb9 171/\zbR yb9 54=some 56/\ztm yb9 151=some (256, 1, false)/\za yb9 172/\za yb9 175/\zbw yb9 53 5=some ⟨5, 1, false⟩/\za yb9 177/\za yb9 178/\za yb9 179:=by and_intros<;>kernel_rfl
@[simp] theorem zHX:za yb9 180/\zab yb9 111/\zea yb9 111/\zaQ yb9 111=some false/\zbw yb9 171 2=some ⟨6, 1, false⟩/\za yb9 181/\za yb9 182/\za yb9 183/\za yb9 184/\za yb9 185/\za yb9 186/\zcP yb9 215=some 7/\zbw yb9 218 1=some ⟨1, 6, true⟩/\zbw yb9 218 0=some ⟨0, 1, false⟩:=by and_intros<;>kernel_rfl
@[simp] theorem zHY:za yb9 187/\za yb9 190/\za yb9 191/\za yb9 192/\zbO yb9 72=some 1/\zbr yb9 72=false/\za yb9 193/\za yb9 194/\za yb9 195/\za yb9 196/\za yb9 199/\za yb9 205/\za yb9 206/\za yb9 207:=by and_intros<;>kernel_rfl
@[simp] theorem zHZ:za yb9 208/\za yb9 216/\za yb9 217/\za yb9 219/\za yb9 218/\za yb9 220/\za yb9 222/\za yb9 221/\za yb9 223/\za yb9 224/\zab yb9 218/\zea yb9 218/\zO yb9 218=some (.agg [(.str []), (.int .i64 0), (.int .i64 0), (.int .i64 0), (.int .i64 0), (.int .i64 0), (.str [])])/\zbx yb9 215=some (.agg [(.str []), (.int .i64 0), (.int .i64 0), (.int .i64 0), (.int .i64 0), (.int .i64 0), (.str [])]):=by and_intros<;>kernel_rfl
@[simp] theorem zK8:zbR yb9 215=some 72/\za yb9 228/\za yb9 229/\zO yb9 265=some (.agg [.nilsl, (.int .i64 0)])/\zbO yb9 265=some 2/\zbr yb9 265/\za yb9 230/\zbO yb9 190=some 1/\zbr yb9 190=false/\za yb9 231/\zbw yb9 192 2=some ⟨2, 1, false⟩/\za yb9 232/\zbw yb9 265 0=some ⟨0, 1, false⟩/\zbw yb9 265 1=some ⟨1, 1, false⟩:=by and_intros<;>kernel_rfl
@[simp] theorem zH0:za yb9 239/\za yb9 245/\za yb9 246/\zbO yb9 287=some 32/\zbr yb9 287/\ztm yb9 287=some (16, 2, true)/\zO yb9 182=some (.agg [(.str []), (.str [])])/\zbO yb9 182=some 2/\ztm yb9 182=some (2, 1, false)/\zd2 yb9 288=some .i8/\zd2 yb9 174=some .u64/\za yb9 247/\za yb9 248/\zab yb9 265:=by and_intros<;>kernel_rfl
@[simp] theorem zFA:zea yb9 265/\za yb9 250/\za yb9 157/\za yb9 256/\za yb9 257/\za yb9 258/\za yb9 259/\zd2 yb9 116=some .u64/\za yb9 262/\za yb9 263:=by and_intros<;>kernel_rfl
end Go.Proofs.YtohfclafhegadaaGreatDoor
