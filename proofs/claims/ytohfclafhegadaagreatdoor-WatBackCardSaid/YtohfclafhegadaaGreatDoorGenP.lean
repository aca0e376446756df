/- The planned texts of the functions, and facts on the program's types; written by a program; no condition. -/
import Derived.Test.YtohfclafhegadaaGreatDoorChecked
import Derived.Test.YtohfclafhegadaaGreatDoorAbsB
import Derived.KernelRfl
set_option maxRecDepth 100000
set_option maxHeartbeats 4000000
open Go.Proofs.Tryz renaming prog->yca,f18->ycb,f19->ycc,f20->ycd,f30->yce,f33->ycf,f51->ycg,f57->ych,f65->yci,f74->ycj,f79->yck,f105->ycl,f108->ycm,f109->ycn,f119->yco,f122->ycp,f123->ycq,f124->ycr,f146->ycs,f154->yct,f157->ycu,f168->ycv,f180->ycw,f181->ycx,f190->ycy,f193->ycz,f208->ycA,f216->ycB,f219->ycC,f221->ycD
namespace Go.Proofs.YtohfclafhegadaaGreatDoor
open Go Go.Abs
namespace Zz
abbrev Q(q:PC):={ p:PC//p=q }
def t(x:Nat):Operand:=.tmp x
def i(k:Int):Operand:=.const (.int .i64 k)
def S(l:List PO)(r:PC):PC:=.seq (.ops l) r
def C(x:Nat)(a b:PC):PC:=.cond (.tmp x) a b
def m(d x:Nat):PO:=⟨some d, .move (.tmp x), none, []⟩
def l(d t x:Nat):PO:=⟨some d, .load t (.tmp x), none, []⟩
def f(d t x i:Nat):PO:=⟨some d, .fieldAddr t (.tmp x) i, none, []⟩
def n(d x:Nat):PO:=⟨some d, .nilCheck (.tmp x), none, []⟩
def a(d x:Nat):PO:=⟨some d, .assign (.tmp x), none, []⟩
def A(d:Nat)(v:Operand):PO:=⟨some d, .assign v, none, []⟩
def x(d t x y:Nat):PO:=⟨some d, .indexAddr t (.tmp x) (.tmp y), none, []⟩
def b(d:Nat)(o:BinOp)(t:Nat)(x y:Operand)(u:Nat):PO:=⟨some d, .binOp o t x y u, none, []⟩
def c(d f:Nat)(xs:Array Operand)(ts:Array TypeId):PO:=⟨some d, .call ⟨.value (.func f), xs, ts⟩, none, []⟩
def L(d x t:Nat):PO:=⟨some d, .call ⟨.builtin .len, #[(.tmp x)], #[t]⟩, none, []⟩
def d(n:Nat)(o:Op):PO:=⟨some n, o, none, []⟩
def s(t x y:Nat):PO:=⟨none, .store t (.tmp x) (.tmp y), none, []⟩
def e(o:Op):PO:=⟨none, o, none, []⟩
def w(n:Nat)(o:Op)(g:Nat)(v:Bool):PO:=⟨some n, o, some (g, v), []⟩
abbrev H(n k f:Nat)(p:PC)(l:List ResultVar):Prop:=∀{G:Env} {args:List AV} {J:AS} {R:Out->AS->Prop}, args.length=k->avc yca G n p (zfn yca l R) (zbz args) J->ACalls yca G f args J R
end Zz
open Zz
abbrev zzQ:=@ACalls yca
variable {G : Env} {args : List AV} {J : AS} {R : Out -> AS -> Prop}
namespace Zz
/-- a thing, reckoned -/
abbrev Qc{α:Type}(q:α):={ p:α//p=q }
def zAo:PC->Bool
  | .loop _=>true|.seq x y=>zAo x||zAo y|.cond _ x y=>zAo x||zAo y|.block _ c=>zAo c|_=>false
def isR:PC->Bool
  | .ret=>true|_=>false
/-- loops' bodies, and what stands behind loops, cut out -/
def zw6:PC->List PC->PC × List PC
  | .seq x y, d=>match zw6 x d with
    | (a, d)=>match zw6 y d with
      | (b, d)=>if zAo x&&!isR y then(.seq a (.exit (9000+d.length)), d++[b])else(.seq a b, d)
  | .cond c x y, d=>match zw6 x d with
    | (a, d)=>match zw6 y d with
      | (b, d)=>(.cond c a b, d)
  | .block i c, d=>match zw6 c d with
    | (a, d)=>(.block i a, d)
  | .loop c, d=>match zw6 c d with
    | (b, d)=>(.loop (.exit (9000+d.length)), d++[b])
  | p, d=>(p, d)
def zm0(h:List PC):PC->PC
  | .seq x y=>.seq (zm0 h x) (zm0 h y)
  | .cond c x y=>.cond c (zm0 h x) (zm0 h y)
  | .block i c=>.block i (zm0 h c)
  | .loop c=>.loop (zm0 h c)
  | .exit i=>if i<9000 then .exit i else h.getD (i-9000) .skip
  | p=>p
def zqD(ops:Array Oper):List Oper->List PO
  | []=>[]
  | o::r=>match zbj ops o with
    | some g=>⟨o.dst, o.op, g, []⟩::zqD ops r
    | none=>zqD ops r
/-- a text's zcB, unchecked -/
def zlH(n:Nat):Code->PC
  | .region _ ops draw=>if draw then(let A:=zwo ops
    .ops ((zaO ops A [] (zqi ops A)).getD []))else .ops (zqD ops ops.toList)
  | .seq x y=>.seq (zlH n x) (zlH n y)
  | .cond c x y=>.cond c (zlH n x) (zlH n y)
  | .block id c=>.block id (zlH n c)
  | .loop c=>.loop (zlH n c)
  | .exit id=>.exit id
  | .ret=>.ret
  | _=>.skip
def K1(p:PC)(k:Nat)(h:List PC):PC:=match zw6 p []with
  | (a, d)=>zm0 h ((d++[a]).getD k .skip)
/-- a part of a text -/
def atC:List Nat->Code->Code
  | 0::r, .seq x _=>atC r x
  | 1::r, .seq _ y=>atC r y
  | 2::r, .block _ (.rangeFunc _ _ a _)=>atC r a
  | 3::r, .block _ (.rangeFunc _ _ _ b)=>atC r b
  | _, c=>c
/-- the k-th piece of a function's text; of a part of it -/
def K(f:Func)(k:Nat)(h:List PC):PC:=K1 (zlH f.ntmps (f.body.getD .skip)) k h
def Kp(f:Func)(l:List Nat)(k:Nat)(h:List PC):PC:=K1 (zlH f.ntmps (atC l (f.body.getD .skip))) k h
end Zz
open Zz
theorem zqE:yca.follows .mixedOrders=true:=by kernel_rfl
theorem Zz.hc{n k f:Nat}{g:Func}{p:PC}{l:List ResultVar}(hf:yca.funcs[f]?=some g)(hn:g.ntmps=n:=by kernel_rfl)(hl:g.results.toList=l:=by kernel_rfl)(hp:g.body.bind (zcB g.ntmps)=some p:=by kernel_rfl)(ha:k<=n:=by omega):Zz.H n k f p l:=λe h=>zwp zqE hf hn hl hp (by omega) h
def pc9:PC:=(⟨_, by conv=>rhs;cbv⟩:Qc (K Tryz.f9 0 [])).1
theorem zBC:Zz.H 58 3 9 pc9 [.tmp 6]:=Zz.hc Tryz.func9
def zFT:PC:=(⟨_, by conv=>rhs;cbv⟩:Qc (K Tryz.f10 0 [])).1
theorem zw7:Zz.H 6 1 10 zFT [.tmp 2]:=Zz.hc Tryz.func10
def zFU:PC:=(⟨_, by conv=>rhs;cbv⟩:Qc (K Tryz.f11 0 [])).1
theorem zw8:Zz.H 7 0 11 zFU [.cell 0 28]:=Zz.hc Tryz.func11
def zFV:PC:=(⟨_, by conv=>rhs;cbv⟩:Qc (K Tryz.f12 0 [])).1
theorem zw9:Zz.H 43 0 12 zFV [.tmp 0]:=Zz.hc Tryz.func12
def zvS:PC:=(⟨_, by conv=>rhs;cbv⟩:Qc (Kp ycb [0] 0 [])).1
def zbN:PC:=(⟨_, by conv=>rhs;cbv⟩:Qc (Kp ycb [1, 1] 0 [])).1
def zcK:PC:=(⟨_, by conv=>rhs;ext a;cbv⟩:Qc λa=>Kp ycb [1, 1] 1 [a]).1 zbN
def zn5:PC:=(⟨_, by conv=>rhs;ext a b;cbv⟩:Qc λa b=>Kp ycb [1, 1] 2 [a, b]).1 zbN zcK
def zvT:PC:=(⟨_, by conv=>rhs;cbv⟩:Qc (Kp ycc [0] 0 [])).1
def zfo:PC:=(⟨_, by conv=>rhs;cbv⟩:Qc (Kp ycc [1, 1] 0 [])).1
def zfp:PC:=(⟨_, by conv=>rhs;ext a;cbv⟩:Qc λa=>Kp ycc [1, 1] 1 [a]).1 zfo
def zvU:PC:=(⟨_, by conv=>rhs;ext a b;cbv⟩:Qc λa b=>Kp ycc [1, 1] 2 [a, b]).1 zfo zfp
def zhT:PC:=(⟨_, by conv=>rhs;cbv⟩:Qc (K ycd 0 [])).1
def zkk:PC:=(⟨_, by conv=>rhs;ext a;cbv⟩:Qc λa=>K ycd 1 [a]).1 zhT
def zFW:PC:=(⟨_, by conv=>rhs;ext a b;cbv⟩:Qc λa b=>K ycd 2 [a, b]).1 zhT zkk
theorem zxa:Zz.H 66 1 20 zFW [.tmp 2]:=Zz.hc Tryz.func20
def zFX:PC:=(⟨_, by conv=>rhs;cbv⟩:Qc (K Tryz.f22 0 [])).1
theorem zxb:Zz.H 24 2 22 zFX [.tmp 4]:=Zz.hc Tryz.func22
def zFd:PC:=(⟨_, by conv=>rhs;cbv⟩:Qc (K Tryz.f26 0 [])).1
theorem zxc:Zz.H 16 2 26 zFd [.tmp 4]:=Zz.hc Tryz.func26
def zFY:PC:=(⟨_, by conv=>rhs;cbv⟩:Qc (K Tryz.f27 0 [])).1
theorem zxd:Zz.H 24 2 27 zFY [.tmp 4]:=Zz.hc Tryz.func27
def zvV:PC:=(⟨_, by conv=>rhs;cbv⟩:Qc (Kp Tryz.f28 [0] 0 [])).1
def zqF:PC:=(⟨_,by delta d f l m s t;exact rfl⟩:Zz.Q (.both [[l 9 28 3,m 10 1,m 11 2,f 12 28 3 1,l 13 3 12,⟨some 14,.makeSlice 32 (t 13)
 (t 13),none,[⟨none,28,t 3,9⟩]⟩,d 15 (.build 109 #[(0,t 9),(1,t 10),(2,t 11),(3,t 14)]),d 16 (.box 109 (t 15)),d 7 (.alloc 107),s 107 7 16],[l 9 28 3,m 10 1,m
 11 2,f 12 28 3 1,l 13 3 12,⟨some 14,.makeSlice 32 (t 13) (t 13),none,[⟨none,28,t 3,9⟩]⟩,d 15 (.build 109 #[(0,t 9),(1,t 10),(2,t 11),(3,t 14)]),⟨some 7,.alloc
 107,none,[⟨none,28,t 3,9⟩]⟩,d 16 (.box 109 (t 15)),s 107 7 16],[l 9 28 3,m 10 1,m 11 2,f 12 28 3 1,l 13 3 12,⟨some 7,.alloc 107,none,[⟨none,28,t 3,9⟩,⟨none,3,t
 12,13⟩]⟩,⟨some 14,.makeSlice 32 (t 13) (t 13),none,[⟨none,28,t 3,9⟩]⟩,d 15 (.build 109 #[(0,t 9),(1,t 10),(2,t 11),(3,t 14)]),d 16 (.box 109 (t 15)),s 107 7
 16]])).1
def zm1:PC:=(⟨_, by conv=>rhs;cbv⟩:Qc (Kp Tryz.f28 [1, 1, 1] 0 [])).1
def zdN:PC:=(⟨_, by conv=>rhs;cbv⟩:Qc (K yce 0 [])).1
def zfZ:PC:=(⟨_, by conv=>rhs;ext a;cbv⟩:Qc λa=>K yce 1 [a]).1 zdN
def zkl:PC:=(⟨_, by conv=>rhs;ext a b;cbv⟩:Qc λa b=>K yce 2 [a, b]).1 zdN zfZ
def zhU:PC:=(⟨_, by conv=>rhs;ext a b c;cbv⟩:Qc λa b c=>K yce 3 [a, b, c]).1 zdN zfZ zkl
def zm2:PC:=(⟨_, by conv=>rhs;ext a b c d;cbv⟩:Qc λa b c d=>K yce 4 [a, b, c, d]).1 zdN zfZ zkl zhU
def zFZ:PC:=(⟨_, by conv=>rhs;ext a b c d e;cbv⟩:Qc λa b c d e=>K yce 5 [a, b, c, d, e]).1 zdN zfZ zkl zhU zm2
theorem zxe:Zz.H 64 1 30 zFZ [.tmp 2]:=Zz.hc Tryz.func30
def zhV:PC:=(⟨_, by conv=>rhs;cbv⟩:Qc (K ycf 0 [])).1
def zqG:PC:=(⟨_, by conv=>rhs;ext a;cbv⟩:Qc λa=>K ycf 1 [a]).1 zhV
def zF0:PC:=(⟨_, by conv=>rhs;ext a b;cbv⟩:Qc λa b=>K ycf 2 [a, b]).1 zhV zqG
theorem zxf:Zz.H 19 1 33 zF0 [.tmp 2]:=Zz.hc Tryz.func33
def zbB:PC:=(⟨_, by conv=>rhs;cbv⟩:Qc (K ycg 0 [])).1
def zkm:PC:=(⟨_, by conv=>rhs;ext a;cbv⟩:Qc λa=>K ycg 1 [a]).1 zbB
def zF1:PC:=(⟨_, by conv=>rhs;ext a b;cbv⟩:Qc λa b=>K ycg 2 [a, b]).1 zbB zkm
theorem zxg:Zz.H 53 1 51 zF1 [.tmp 2]:=Zz.hc Tryz.func51
def zlI:PC:=(⟨_, by conv=>rhs;cbv⟩:Qc (Kp Tryz.f52 [1] 0 [])).1
def zFe:PC:=(⟨_, by conv=>rhs;cbv⟩:Qc (K Tryz.f53 0 [])).1
theorem zxh:Zz.H 9 2 53 zFe []:=Zz.hc Tryz.func53
def zF2:PC:=(⟨_, by conv=>rhs;cbv⟩:Qc (K Tryz.f54 0 [])).1
theorem zxi:Zz.H 51 1 54 zF2 []:=Zz.hc Tryz.func54
def zgt:PC:=(⟨_, by conv=>rhs;cbv⟩:Qc (Kp Tryz.f55 [1] 0 [])).1
def zhW:PC:=(⟨_, by conv=>rhs;cbv⟩:Qc (K Tryz.f56 0 [])).1
def zFf:PC:=(⟨_, by conv=>rhs;ext a;cbv⟩:Qc λa=>K Tryz.f56 1 [a]).1 zhW
theorem zxj:Zz.H 18 2 56 zFf []:=Zz.hc Tryz.func56
def zbl:PC:=(⟨_, by conv=>rhs;cbv⟩:Qc (K ych 0 [])).1
def zcD:PC:=(⟨_, by conv=>rhs;ext a;cbv⟩:Qc λa=>K ych 1 [a]).1 zbl
def zc5:PC:=(⟨_, by conv=>rhs;ext a b;cbv⟩:Qc λa b=>K ych 2 [a, b]).1 zbl zcD
def zdO:PC:=(⟨_, by conv=>rhs;ext a b c;cbv⟩:Qc λa b c=>K ych 3 [a, b, c]).1 zbl zcD zc5
def zbC:PC:=(⟨_, by conv=>rhs;ext a b c d;cbv⟩:Qc λa b c d=>K ych 4 [a, b, c, d]).1 zbl zcD zc5 zdO
def zf0:PC:=(⟨_, by conv=>rhs;ext a b c d e;cbv⟩:Qc λa b c d e=>K ych 5 [a, b, c, d, e]).1 zbl zcD zc5 zdO zbC
def zhX:PC:=(⟨_, by conv=>rhs;ext a b c d e f;cbv⟩:Qc λa b c d e f=>K ych 6 [a, b, c, d, e, f]).1 zbl zcD zc5 zdO zbC zf0
def zkn:PC:=(⟨_, by conv=>rhs;ext a b c d e f g;cbv⟩:Qc λa b c d e f g=>K ych 7 [a, b, c, d, e, f, g]).1 zbl zcD zc5 zdO zbC zf0 zhX
def zEa:PC:=(⟨_, by conv=>rhs;ext a b c d e f g h;cbv⟩:Qc λa b c d e f g h=>K ych 8 [a, b, c, d, e, f, g, h]).1 zbl zcD zc5 zdO zbC zf0 zhX zkn
theorem zm3:Zz.H 106 1 57 zEa [.tmp 2]:=Zz.hc Tryz.func57
def zF3:PC:=(⟨_, by conv=>rhs;cbv⟩:Qc (K Tryz.f58 0 [])).1
theorem zxk:Zz.H 34 1 58 zF3 [.tmp 2]:=Zz.hc Tryz.func58
def zF4:PC:=(⟨_, by conv=>rhs;cbv⟩:Qc (K Tryz.f59 0 [])).1
theorem zxl:Zz.H 32 2 59 zF4 [.tmp 4]:=Zz.hc Tryz.func59
def zF5:PC:=(⟨_, by conv=>rhs;cbv⟩:Qc (K Tryz.f60 0 [])).1
theorem zxm:Zz.H 54 1 60 zF5 [.cell 2 57]:=Zz.hc Tryz.func60
def zFg:PC:=(⟨_, by conv=>rhs;cbv⟩:Qc (K Tryz.f61 0 [])).1
theorem zxn:Zz.H 8 2 61 zFg []:=Zz.hc Tryz.func61
def zFh:PC:=(⟨_, by conv=>rhs;cbv⟩:Qc (K Tryz.f62 0 [])).1
theorem zxo:Zz.H 43 2 62 zFh [.tmp 4]:=Zz.hc Tryz.func62
def zm4:PC:=(⟨_, by conv=>rhs;cbv⟩:Qc (K Tryz.f63 0 [])).1
def zF6:PC:=(⟨_, by conv=>rhs;ext a;cbv⟩:Qc λa=>K Tryz.f63 1 [a]).1 zm4
theorem zxp:Zz.H 27 2 63 zF6 []:=Zz.hc Tryz.func63
def zko:PC:=(⟨_, by conv=>rhs;cbv⟩:Qc (K yci 0 [])).1
def zqH:PC:=(⟨_, by conv=>rhs;ext a;cbv⟩:Qc λa=>K yci 1 [a]).1 zko
def zFi:PC:=(⟨_, by conv=>rhs;ext a b;cbv⟩:Qc λa b=>K yci 2 [a, b]).1 zko zqH
theorem zxq:Zz.H 30 3 65 zFi []:=Zz.hc Tryz.func65
def zdP:PC:=(⟨_, by conv=>rhs;cbv⟩:Qc (K Tryz.f66 0 [])).1
def zF7:PC:=(⟨_, by conv=>rhs;ext a;cbv⟩:Qc λa=>K Tryz.f66 1 [a]).1 zdP
theorem zxr:Zz.H 75 3 66 zF7 []:=Zz.hc Tryz.func66
def zF8:PC:=(⟨_, by conv=>rhs;cbv⟩:Qc (K Tryz.f67 0 [])).1
theorem zxs:Zz.H 14 1 67 zF8 [.tmp 2]:=Zz.hc Tryz.func67
def zkp:PC:=(⟨_, by conv=>rhs;cbv⟩:Qc (K ycj 0 [])).1
def zqI:PC:=(⟨_, by conv=>rhs;ext a;cbv⟩:Qc λa=>K ycj 1 [a]).1 zkp
def zF9:PC:=(⟨_, by conv=>rhs;ext a b;cbv⟩:Qc λa b=>K ycj 2 [a, b]).1 zkp zqI
theorem zxt:Zz.H 27 2 74 zF9 [.tmp 4]:=Zz.hc Tryz.func74
def ze1:PC:=(⟨_, by conv=>rhs;cbv⟩:Qc (K yck 0 [])).1
def zm5:PC:=(⟨_, by conv=>rhs;ext a;cbv⟩:Qc λa=>K yck 1 [a]).1 ze1
def zEb:PC:=(⟨_, by conv=>rhs;ext a b;cbv⟩:Qc λa b=>K yck 2 [a, b]).1 ze1 zm5
theorem zqJ:Zz.H 27 2 79 zEb [.tmp 4]:=Zz.hc Tryz.func79
def zn6:PC:=(⟨_, by conv=>rhs;cbv⟩:Qc (Kp Tryz.f80 [1] 0 [])).1
def zFj:PC:=(⟨_, by conv=>rhs;cbv⟩:Qc (K Tryz.f81 0 [])).1
theorem zxu:Zz.H 58 3 81 zFj [.tmp 6]:=Zz.hc Tryz.func81
def zGa:PC:=(⟨_, by conv=>rhs;cbv⟩:Qc (K Tryz.f95 0 [])).1
theorem zxv:Zz.H 9 2 95 zGa [.tmp 4]:=Zz.hc Tryz.func95
def zfq:PC:=(⟨_, by conv=>rhs;cbv⟩:Qc (K ycl 0 [])).1
def zfr:PC:=(⟨_, by conv=>rhs;ext a;cbv⟩:Qc λa=>K ycl 1 [a]).1 zfq
def zfs:PC:=(⟨_, by conv=>rhs;ext a b;cbv⟩:Qc λa b=>K ycl 2 [a, b]).1 zfq zfr
def zn7:PC:=(⟨_, by conv=>rhs;ext a b c;cbv⟩:Qc λa b c=>K ycl 3 [a, b, c]).1 zfq zfr zfs
def zBD:PC:=(⟨_, by conv=>rhs;ext a b c d;cbv⟩:Qc λa b c d=>K ycl 4 [a, b, c, d]).1 zfq zfr zfs zn7
theorem zsZ:Zz.H 36 1 105 zBD [.tmp 2]:=Zz.hc Tryz.func105
def zBE:PC:=(⟨_, by conv=>rhs;cbv⟩:Qc (K Tryz.f106 0 [])).1
theorem zs0:Zz.H 6 1 106 zBE [.tmp 2]:=Zz.hc Tryz.func106
def zs1:PC:=(⟨_, by conv=>rhs;cbv⟩:Qc (K Tryz.f107 0 [])).1
theorem zs2:Zz.H 9 1 107 zs1 [.tmp 2]:=Zz.hc Tryz.func107
def zbm:PC:=(⟨_, by conv=>rhs;cbv⟩:Qc (K ycm 0 [])).1
def zeh:PC:=(⟨_, by conv=>rhs;ext a;cbv⟩:Qc λa=>K ycm 1 [a]).1 zbm
def zei:PC:=(⟨_, by conv=>rhs;ext a b;cbv⟩:Qc λa b=>K ycm 2 [a, b]).1 zbm zeh
def zgY:PC:=(⟨_, by conv=>rhs;ext a b c;cbv⟩:Qc λa b c=>K ycm 3 [a, b, c]).1 zbm zeh zei
def zgZ:PC:=(⟨_, by conv=>rhs;ext a b c d;cbv⟩:Qc λa b c d=>K ycm 4 [a, b, c, d]).1 zbm zeh zei zgY
def zn8:PC:=(⟨_, by conv=>rhs;ext a b c d e;cbv⟩:Qc λa b c d e=>K ycm 5 [a, b, c, d, e]).1 zbm zeh zei zgY zgZ
def zxw:PC:=(⟨_, by conv=>rhs;ext a b c d e f;cbv⟩:Qc λa b c d e f=>K ycm 6 [a, b, c, d, e, f]).1 zbm zeh zei zgY zgZ zn8
theorem zs3:Zz.H 77 1 108 zxw []:=Zz.hc Tryz.func108
def zej:PC:=(⟨_, by conv=>rhs;cbv⟩:Qc (K ycn 0 [])).1
def zg0:PC:=(⟨_, by conv=>rhs;ext a;cbv⟩:Qc λa=>K ycn 1 [a]).1 zej
def zBF:PC:=(⟨_, by conv=>rhs;ext a b;cbv⟩:Qc λa b=>K ycn 2 [a, b]).1 zej zg0
theorem zs4:Zz.H 41 3 109 zBF []:=Zz.hc Tryz.func109
def zBG:PC:=(⟨_, by conv=>rhs;cbv⟩:Qc (K Tryz.f110 0 [])).1
theorem zs5:Zz.H 21 1 110 zBG [.tmp 2]:=Zz.hc Tryz.func110
def zBH:PC:=(⟨_, by conv=>rhs;cbv⟩:Qc (K Tryz.f113 0 [])).1
theorem zs6:Zz.H 8 2 113 zBH [.tmp 4]:=Zz.hc Tryz.func113
def zBI:PC:=(⟨_, by conv=>rhs;cbv⟩:Qc (K Tryz.f115 0 [])).1
theorem zs7:Zz.H 42 1 115 zBI [.tmp 2, .tmp 3]:=Zz.hc Tryz.func115
def zBJ:PC:=(⟨_, by conv=>rhs;cbv⟩:Qc (K Tryz.f116 0 [])).1
theorem zs8:Zz.H 11 2 116 zBJ [.tmp 4, .tmp 5]:=Zz.hc Tryz.func116
def zs9:PC:=(⟨_, by conv=>rhs;cbv⟩:Qc (K Tryz.f117 0 [])).1
theorem zta:Zz.H 22 1 117 zs9 [.tmp 2]:=Zz.hc Tryz.func117
def zn9:PC:=(⟨_, by conv=>rhs;cbv⟩:Qc (K Tryz.f118 0 [])).1
def zBK:PC:=(⟨_, by conv=>rhs;ext a;cbv⟩:Qc λa=>K Tryz.f118 1 [a]).1 zn9
theorem ztb:Zz.H 26 1 118 zBK [.tmp 2]:=Zz.hc Tryz.func118
def zc6:PC:=(⟨_, by conv=>rhs;cbv⟩:Qc (K yco 0 [])).1
def zkq:PC:=(⟨_, by conv=>rhs;ext a;cbv⟩:Qc λa=>K yco 1 [a]).1 zc6
def zkr:PC:=(⟨_, by conv=>rhs;ext a b;cbv⟩:Qc λa b=>K yco 2 [a, b]).1 zc6 zkq
def zBL:PC:=(⟨_, by conv=>rhs;ext a b c;cbv⟩:Qc λa b c=>K yco 3 [a, b, c]).1 zc6 zkq zkr
theorem ztc:Zz.H 48 3 119 zBL [.tmp 6, .tmp 7]:=Zz.hc Tryz.func119
def zg1:PC:=(⟨_, by conv=>rhs;cbv⟩:Qc (K ycp 0 [])).1
def zoa:PC:=(⟨_, by conv=>rhs;ext a;cbv⟩:Qc λa=>K ycp 1 [a]).1 zg1
def zBM:PC:=(⟨_, by conv=>rhs;ext a b;cbv⟩:Qc λa b=>K ycp 2 [a, b]).1 zg1 zoa
theorem ztd:Zz.H 21 1 122 zBM [.cell 2 151, .tmp 3]:=Zz.hc Tryz.func122
def zg2:PC:=(⟨_, by conv=>rhs;cbv⟩:Qc (K ycq 0 [])).1
def zks:PC:=(⟨_, by conv=>rhs;ext a;cbv⟩:Qc λa=>K ycq 1 [a]).1 zg2
def zBN:PC:=(⟨_, by conv=>rhs;ext a b;cbv⟩:Qc λa b=>K ycq 2 [a, b]).1 zg2 zks
theorem zte:Zz.H 16 2 123 zBN [.tmp 4]:=Zz.hc Tryz.func123
def zg3:PC:=(⟨_, by conv=>rhs;cbv⟩:Qc (K ycr 0 [])).1
def zkt:PC:=(⟨_, by conv=>rhs;ext a;cbv⟩:Qc λa=>K ycr 1 [a]).1 zg3
def zBO:PC:=(⟨_, by conv=>rhs;ext a b;cbv⟩:Qc λa b=>K ycr 2 [a, b]).1 zg3 zkt
theorem ztf:Zz.H 22 2 124 zBO [.tmp 4]:=Zz.hc Tryz.func124
def zxx:PC:=(⟨_, by conv=>rhs;cbv⟩:Qc (K Tryz.f127 0 [])).1
theorem ztg:Zz.H 8 1 127 zxx [.tmp 2]:=Zz.hc Tryz.func127
def zBP:PC:=(⟨_, by conv=>rhs;cbv⟩:Qc (K Tryz.f128 0 [])).1
theorem zth:Zz.H 17 2 128 zBP [.tmp 4]:=Zz.hc Tryz.func128
def zBQ:PC:=(⟨_, by conv=>rhs;cbv⟩:Qc (K Tryz.f129 0 [])).1
theorem zti:Zz.H 19 2 129 zBQ [.tmp 4, .tmp 5]:=Zz.hc Tryz.func129
def zxy:PC:=(⟨_, by conv=>rhs;cbv⟩:Qc (K Tryz.f131 0 [])).1
theorem ztj:Zz.H 8 1 131 zxy [.tmp 2]:=Zz.hc Tryz.func131
def ztk:PC:=(⟨_, by conv=>rhs;cbv⟩:Qc (K Tryz.f132 0 [])).1
theorem ztl:Zz.H 8 1 132 ztk [.tmp 2]:=Zz.hc Tryz.func132
def zey:PC:=(⟨_, by conv=>rhs;cbv⟩:Qc (K Tryz.f133 0 [])).1
theorem ztm:Zz.H 62 1 133 zey [.tmp 2]:=Zz.hc Tryz.func133
def zBR:PC:=(⟨_, by conv=>rhs;cbv⟩:Qc (K Tryz.f134 0 [])).1
theorem ztn:Zz.H 22 1 134 zBR [.cell 2 53, .tmp 3]:=Zz.hc Tryz.func134
def zBS:PC:=(⟨_, by conv=>rhs;cbv⟩:Qc (K Tryz.f140 0 [])).1
theorem zto:Zz.H 38 2 140 zBS [.tmp 4]:=Zz.hc Tryz.func140
def zxz:PC:=(⟨_, by conv=>rhs;cbv⟩:Qc (K Tryz.f145 0 [])).1
theorem ztp:Zz.H 7 1 145 zxz []:=Zz.hc Tryz.func145
def zaQ:PC:=(⟨_, by conv=>rhs;cbv⟩:Qc (K ycs 0 [])).1
def zg4:PC:=(⟨_, by conv=>rhs;ext a;cbv⟩:Qc λa=>K ycs 1 [a]).1 zaQ
def zBT:PC:=(⟨_, by conv=>rhs;ext a b;cbv⟩:Qc λa b=>K ycs 2 [a, b]).1 zaQ zg4
theorem ztq:Zz.H 82 4 146 zBT [.tmp 8]:=Zz.hc Tryz.func146
def zBU:PC:=(⟨_, by conv=>rhs;cbv⟩:Qc (K Tryz.f147 0 [])).1
theorem ztr:Zz.H 31 1 147 zBU [.tmp 2]:=Zz.hc Tryz.func147
def zg5:PC:=(⟨_, by conv=>rhs;cbv⟩:Qc (K yct 0 [])).1
def zob:PC:=(⟨_, by conv=>rhs;ext a;cbv⟩:Qc λa=>K yct 1 [a]).1 zg5
def zBV:PC:=(⟨_, by conv=>rhs;ext a b;cbv⟩:Qc λa b=>K yct 2 [a, b]).1 zg5 zob
theorem zts:Zz.H 19 2 154 zBV [.tmp 4]:=Zz.hc Tryz.func154
def zft:PC:=(⟨_, by conv=>rhs;cbv⟩:Qc (K ycu 0 [])).1
def zoc:PC:=(⟨_, by conv=>rhs;ext a;cbv⟩:Qc λa=>K ycu 1 [a]).1 zft
def zBW:PC:=(⟨_, by conv=>rhs;ext a b;cbv⟩:Qc λa b=>K ycu 2 [a, b]).1 zft zoc
theorem ztt:Zz.H 19 2 157 zBW [.tmp 4]:=Zz.hc Tryz.func157
def zBX:PC:=(⟨_, by conv=>rhs;cbv⟩:Qc (K Tryz.f158 0 [])).1
theorem ztu:Zz.H 27 2 158 zBX [.tmp 4]:=Zz.hc Tryz.func158
def zpc:PC:=(⟨_, by conv=>rhs;cbv⟩:Qc (K Tryz.f159 0 [])).1
theorem ztv:Zz.H 30 1 159 zpc [.tmp 2]:=Zz.hc Tryz.func159
def zBY:PC:=(⟨_, by conv=>rhs;cbv⟩:Qc (K Tryz.f160 0 [])).1
theorem ztw:Zz.H 9 2 160 zBY [.tmp 4]:=Zz.hc Tryz.func160
def zBZ:PC:=(⟨_, by conv=>rhs;cbv⟩:Qc (K Tryz.f161 0 [])).1
theorem ztx:Zz.H 110 2 161 zBZ []:=Zz.hc Tryz.func161
def zxA:PC:=(⟨_, by conv=>rhs;cbv⟩:Qc (K Tryz.f162 0 [])).1
theorem zty:Zz.H 22 1 162 zxA []:=Zz.hc Tryz.func162
def zB0:PC:=(⟨_, by conv=>rhs;cbv⟩:Qc (K Tryz.f164 0 [])).1
theorem ztz:Zz.H 13 2 164 zB0 [.tmp 4]:=Zz.hc Tryz.func164
def zxB:PC:=(⟨_, by conv=>rhs;cbv⟩:Qc (K Tryz.f167 0 [])).1
theorem ztA:Zz.H 37 2 167 zxB [.tmp 4]:=Zz.hc Tryz.func167
def zc7:PC:=(⟨_, by conv=>rhs;cbv⟩:Qc (K ycv 0 [])).1
def zfu:PC:=(⟨_, by conv=>rhs;ext a;cbv⟩:Qc λa=>K ycv 1 [a]).1 zc7
def zek:PC:=(⟨_, by conv=>rhs;ext a b;cbv⟩:Qc λa b=>K ycv 2 [a, b]).1 zc7 zfu
def zku:PC:=(⟨_, by conv=>rhs;ext a b c;cbv⟩:Qc λa b c=>K ycv 3 [a, b, c]).1 zc7 zfu zek
def zod:PC:=(⟨_, by conv=>rhs;ext a b c d;cbv⟩:Qc λa b c d=>K ycv 4 [a, b, c, d]).1 zc7 zfu zek zku
def zxC:PC:=(⟨_, by conv=>rhs;ext a b c d e;cbv⟩:Qc λa b c d e=>K ycv 5 [a, b, c, d, e]).1 zc7 zfu zek zku zod
theorem zoe:Zz.H 55 2 168 zxC [.tmp 4]:=Zz.hc Tryz.func168
def zB1:PC:=(⟨_, by conv=>rhs;cbv⟩:Qc (K Tryz.f169 0 [])).1
theorem ztB:Zz.H 15 2 169 zB1 [.tmp 4, .tmp 5]:=Zz.hc Tryz.func169
def zB2:PC:=(⟨_, by conv=>rhs;cbv⟩:Qc (K Tryz.f171 0 [])).1
theorem ztC:Zz.H 41 3 171 zB2 [.cell 6 53]:=Zz.hc Tryz.func171
def zB3:PC:=(⟨_, by conv=>rhs;cbv⟩:Qc (K Tryz.f172 0 [])).1
theorem ztD:Zz.H 10 2 172 zB3 [.tmp 4]:=Zz.hc Tryz.func172
def ztE:PC:=(⟨_, by conv=>rhs;cbv⟩:Qc (K Tryz.f177 0 [])).1
theorem ztF:Zz.H 15 3 177 ztE [.tmp 6]:=Zz.hc Tryz.func177
def zg6:PC:=(⟨_, by conv=>rhs;cbv⟩:Qc (K ycw 0 [])).1
def zof:PC:=(⟨_, by conv=>rhs;ext a;cbv⟩:Qc λa=>K ycw 1 [a]).1 zg6
def zB4:PC:=(⟨_, by conv=>rhs;ext a b;cbv⟩:Qc λa b=>K ycw 2 [a, b]).1 zg6 zof
theorem ztG:Zz.H 27 2 180 zB4 [.tmp 4]:=Zz.hc Tryz.func180
def zel:PC:=(⟨_, by conv=>rhs;cbv⟩:Qc (K ycx 0 [])).1
def zem:PC:=(⟨_, by conv=>rhs;ext a;cbv⟩:Qc λa=>K ycx 1 [a]).1 zel
def zxD:PC:=(⟨_, by conv=>rhs;ext a b;cbv⟩:Qc λa b=>K ycx 2 [a, b]).1 zel zem
theorem ztH:Zz.H 41 4 181 zxD [.tmp 8]:=Zz.hc Tryz.func181
def zm6:PC:=(⟨_, by conv=>rhs;cbv⟩:Qc (K Tryz.f182 0 [])).1
theorem ztI:Zz.H 37 3 182 zm6 [.tmp 6]:=Zz.hc Tryz.func182
def zkv:PC:=(⟨_, by conv=>rhs;cbv⟩:Qc (K Tryz.f183 0 [])).1
def zf1:PC:=(⟨_, by conv=>rhs;ext a;cbv⟩:Qc λa=>K Tryz.f183 1 [a]).1 zkv
theorem ztJ:Zz.H 136 3 183 zf1 []:=Zz.hc Tryz.func183
def zfv:PC:=(⟨_, by conv=>rhs;cbv⟩:Qc (K ycy 0 [])).1
def zog:PC:=(⟨_, by conv=>rhs;ext a;cbv⟩:Qc λa=>K ycy 1 [a]).1 zfv
def zB5:PC:=(⟨_, by conv=>rhs;ext a b;cbv⟩:Qc λa b=>K ycy 2 [a, b]).1 zfv zog
theorem ztK:Zz.H 19 2 190 zB5 [.tmp 4]:=Zz.hc Tryz.func190
def zkw:PC:=(⟨_, by conv=>rhs;cbv⟩:Qc (K Tryz.f191 0 [])).1
theorem ztL:Zz.H 38 1 191 zkw [.tmp 2]:=Zz.hc Tryz.func191
def ziT:PC:=(⟨_,by delta A C S a b c d f i l m n s t w;exact rfl⟩:Zz.Q (S [d 3 (.box 53 (t 1)),A 4 (.const (.bool false))] (.seq (S [f 7 53
 3 0,l 8 3 7] (.block 0 (S [b 10 .eql 3 (t 8) (i 1) 3,a 9 10] (C 9 (S [f 11 53 3 1,l 12 3 11,f 13 53 3 2,l 14 3 13,f 16 53 3 2,l 17 3 16,⟨some 15,.call ⟨.value
 (.func 220),#[t 12,t 14],#[3,3]⟩,none,[⟨none,3,t 16,17⟩]⟩,b 18 .eql 3 (t 15) (t 17) 3,a 4 18] .ret) (.seq (S [b 20 .eql 3 (t 8) (i 2) 3,a 19 20] (C 19 .skip
 (.ops [b 21 .eql 3 (t 8) (i 3) 3,a 19 21]))) (C 19 (S [f 22 53 3 2,l 23 3 22,b 24 .geq 3 (t 23) (i 0) 3,m 25 24,w 26 (.fieldAddr 53 (t 3) 2) 25 true,w 27
 (.load 3 (t 26)) 25 true,w 28 (.move (t 0)) 25 true,w 29 (.nilCheck (t 28)) 25 true,w 30 (.fieldAddr 192 (t 29) 0) 25 true,w 31 (.load 72 (t 30)) 25 true,w 32
 (.nilCheck (t 31)) 25 true,w 33 (.fieldAddr 74 (t 32) 2) 25 true,w 34 (.load 44 (t 33)) 25 true,w 35 (.call ⟨.builtin .len,#[t 34],#[44]⟩) 25 true,w 36 (.binOp
 .lss 3 (t 27) (t 35) 3) 25 true,d 37 (.pick (t 25) (t 36) (.const (.bool false))),a 4 37] .ret) (S [b 39 .eql 3 (t 8) (i 10) 3,a 38 39] (C 38 (.seq (.both [[m
 41 0,n 42 41,f 43 192 42 0,l 44 72 43,n 45 44,f 46 74 45 0,l 47 28 46,f 48 53 3 2,l 49 3 48,c 50 229 #[t 47,t 49] #[28,3],m 40 50,d 51 (.extract (t 40) 0),d 52
 (.extract (t 40) 1),d 5 (.alloc 265),s 265 5 51,a 6 52],[m 41 0,n 42 41,f 43 192 42 0,l 44 72 43,n 45 44,f 46 74 45 0,l 47 28 46,f 48 53 3 2,l 49 3 48,⟨some
 5,.alloc 265,none,[⟨none,72,t 43,44⟩,⟨none,28,t 46,47⟩,⟨none,3,t 48,49⟩]⟩,c 50 229 #[t 47,t 49] #[28,3],m 40 50,d 51 (.extract (t 40) 0),d 52 (.extract (t 40)
 1),s 265 5 51,a 6 52]]) (S [m 53 6,a 4 53] .ret)) (.seq (S [b 55 .eql 3 (t 8) (i 14) 3,a 54 55] (C 54 .skip (.ops [b 56 .eql 3 (t 8) (i 15) 3,a 54 56]))) (C 54
 (S [f 57 53 3 2,l 58 3 57,b 59 .geq 3 (t 58) (i 0) 3,m 60 59,w 61 (.fieldAddr 53 (t 3) 2) 60 true,w 62 (.load 3 (t 61)) 60 true,w 63 (.move (t 0)) 60 true,w 64
 (.nilCheck (t 63)) 60 true,w 65 (.fieldAddr 192 (t 64) 3) 60 true,w 66 (.load 3 (t 65)) 60 true,w 67 (.binOp .leq 3 (t 62) (t 66) 3) 60 true,d 68 (.pick (t 60)
 (t 67) (.const (.bool false))),a 4 68] .ret) .skip)))))))))) (S [A 4 (.const (.bool true))] .ret)))).1
theorem ztM:Zz.H 69 2 192 ziT [.tmp 4]:=Zz.hc Tryz.func192
def zqK:PC:=(⟨_, by conv=>rhs;cbv⟩:Qc (Kp ycz [0] 0 [])).1
def zoh:PC:=(⟨_, by conv=>rhs;cbv⟩:Qc (Kp ycz [1, 0] 0 [])).1
def zdQ:PC:=(⟨_, by conv=>rhs;cbv⟩:Qc (Kp ycz [1, 1, 2] 0 [])).1
def zdR:PC:=(⟨_, by conv=>rhs;cbv⟩:Qc (Kp ycz [1, 1, 3] 0 [])).1
def zqL:PC:=(⟨_, by conv=>rhs;cbv⟩:Qc (K Tryz.f194 0 [])).1
theorem ztN:Zz.H 16 2 194 zqL []:=Zz.hc Tryz.func194
def zB6:PC:=(⟨_, by conv=>rhs;cbv⟩:Qc (K Tryz.f195 0 [])).1
theorem ztO:Zz.H 8 1 195 zB6 []:=Zz.hc Tryz.func195
def zB7:PC:=(⟨_,by delta C S a b c d f i l m n s t x;exact rfl⟩:Zz.Q (S [d 3 (.box 53 (t 1))] (S [f 6 53 3 0,l 7 3 6] (.block 0 (S [b 9 .eql
 3 (t 7) (i 1) 3,a 8 9] (C 8 (.ops [m 10 0,f 11 53 3 1,l 12 3 11,c 13 194 #[t 10,t 12] #[190,3]]) (S [b 15 .eql 3 (t 7) (i 2) 3,a 14 15] (C 14 (.ops [m 16 0,m
 17 0,n 18 17,f 19 192 18 0,l 20 72 19,n 21 20,f 22 74 21 2,l 23 44 22,f 24 53 3 2,l 25 3 24,x 26 44 23 25,l 27 3 26,c 28 194 #[t 16,t 27] #[190,3]]) (S [b 30
 .eql 3 (t 7) (i 3) 3,a 29 30] (C 29 (.ops [m 31 0,m 32 0,n 33 32,f 34 192 33 0,l 35 72 34,n 36 35,f 37 74 36 2,l 38 44 37,f 39 53 3 2,l 40 3 39,x 41 44 38 40,l
 42 3 41,d 43 (.buildSlice 44 1 #[(0,t 42)]),c 44 193 #[t 31,t 43] #[190,44]]) (S [b 46 .eql 3 (t 7) (i 4) 3,a 45 46] (C 45 (S [m 47 0,f 48 53 3 1,l 49 3 48,f
 50 53 3 1,l 51 3 50,d 52 (.buildSlice 44 2 #[(0,t 49),(1,t 51)]),c 53 193 #[t 47,t 52] #[190,44]] (S [f 54 53 3 5,l 55 9 54,b 56 .add 9 (.const (.string
 ⟨#[32]⟩)) (t 55) 9,b 57 .add 9 (t 56) (.const (.string ⟨#[32]⟩)) 9,c 58 232 #[.const (.string
 ⟨#[32,101,113,32,110,101,32,108,116,95,115,32,108,101,95,115,32,103,116,95,115,32,103,101,95,115,32]⟩),t 57] #[9,9]] (C 58 (.ops [m 59 0,c 60 194 #[t 59,i 1]
 #[190,3]]) (.ops [m 61 0,f 62 53 3 1,l 63 3 62,c 64 194 #[t 61,t 63] #[190,3]])))) (S [b 66 .eql 3 (t 7) (i 5) 3,a 65 66] (C 65 (S [m 67 0,f 68 53 3 1,l 69 3
 68,d 70 (.buildSlice 44 1 #[(0,t 69)]),c 71 193 #[t 67,t 70] #[190,44]] (.ops [m 72 0,c 73 194 #[t 72,i 1] #[190,3]])) (S [b 75 .eql 3 (t 7) (i 6) 3,a 74 75]
 (C 74 (S [m 76 0,d 77 (.buildSlice 44 1 #[(0,i 2)]),c 78 193 #[t 76,t 77] #[190,44]] (.ops [m 79 0,c 80 194 #[t 79,i 1] #[190,3]])) (S [b 82 .eql 3 (t 7) (i 7)
 3,a 81 82] (C 81 (S [m 83 0,d 84 (.buildSlice 44 1 #[(0,i 1)]),c 85 193 #[t 83,t 84] #[190,44]] (.ops [m 86 0,c 87 194 #[t 86,i 2] #[190,3]])) (S [b 89 .eql 3
 (t 7) (i 8) 3,a 88 89] (C 88 (S [m 90 0,d 91 (.buildSlice 44 1 #[(0,i 1)]),c 92 193 #[t 90,t 91] #[190,44]] (.ops [m 93 0,f 94 53 3 1,l 95 3 94,c 96 194 #[t
 93,t 95] #[190,3]])) (S [b 98 .eql 3 (t 7) (i 9) 3,a 97 98] (C 97 (.ops [m 99 0,f 100 53 3 1,l 101 3 100,d 102 (.buildSlice 44 2 #[(0,i 1),(1,t 101)]),c 103
 193 #[t 99,t 102] #[190,44]]) (S [b 105 .eql 3 (t 7) (i 10) 3,a 104 105] (C 104 (.seq (.both [[m 107 0,n 108 107,f 109 192 108 0,l 110 72 109,n 111 110,f 112
 74 111 0,l 113 28 112,f 114 53 3 2,l 115 3 114,c 116 229 #[t 113,t 115] #[28,3],m 106 116,d 117 (.extract (t 106) 0),d 118 (.extract (t 106) 1),d 4 (.alloc
 265),s 265 4 117,a 5 118],[m 107 0,n 108 107,f 109 192 108 0,l 110 72 109,n 111 110,f 112 74 111 0,l 113 28 112,f 114 53 3 2,l 115 3 114,⟨some 4,.alloc
 265,none,[⟨none,72,t 109,110⟩,⟨none,28,t 112,113⟩,⟨none,3,t 114,115⟩]⟩,c 116 229 #[t 113,t 115] #[28,3],m 106 116,d 117 (.extract (t 106) 0),d 118 (.extract (t
 106) 1),s 265 4 117,a 5 118]]) (S [m 119 0,f 120 265 4 0,l 121 44 120,c 122 193 #[t 119,t 121] #[190,44]] (.ops [m 123 0,f 124 265 4 1,l 125 3 124,c 126 194
 #[t 123,t 125] #[190,3]]))) (S [b 128 .eql 3 (t 7) (i 18) 3,a 127 128] (C 127 (.ops [m 129 0,c 130 231 #[t 129] #[190]]) .skip)))))))))))))))))))))))))).1
theorem ztP:Zz.H 131 2 196 zB7 []:=Zz.hc Tryz.func196
def zxE:PC:=(⟨_, by conv=>rhs;cbv⟩:Qc (K Tryz.f199 0 [])).1
theorem ztQ:Zz.H 18 2 199 zxE [.tmp 4]:=Zz.hc Tryz.func199
def zxF:PC:=(⟨_, by conv=>rhs;cbv⟩:Qc (K Tryz.f206 0 [])).1
theorem zoi:Zz.H 5 1 206 zxF [.tmp 2]:=Zz.hc Tryz.func206
def zxG:PC:=(⟨_, by conv=>rhs;cbv⟩:Qc (K Tryz.f207 0 [])).1
theorem ztR:Zz.H 45 3 207 zxG [.cell 6 53]:=Zz.hc Tryz.func207
def zg7:PC:=(⟨_, by conv=>rhs;cbv⟩:Qc (K ycA 0 [])).1
def zoj:PC:=(⟨_, by conv=>rhs;ext a;cbv⟩:Qc λa=>K ycA 1 [a]).1 zg7
def zB8:PC:=(⟨_, by conv=>rhs;ext a b;cbv⟩:Qc λa b=>K ycA 2 [a, b]).1 zg7 zoj
theorem ztS:Zz.H 61 1 208 zB8 [.cell 2 53, .tmp 3]:=Zz.hc Tryz.func208
def zc8:PC:=(⟨_, by conv=>rhs;cbv⟩:Qc (K ycB 0 [])).1
def zg8:PC:=(⟨_, by conv=>rhs;ext a;cbv⟩:Qc λa=>K ycB 1 [a]).1 zc8
def zlJ:PC:=(⟨_, by conv=>rhs;ext a b;cbv⟩:Qc λa b=>K ycB 2 [a, b]).1 zc8 zg8
theorem ztT:Zz.H 27 2 216 zlJ [.tmp 4]:=Zz.hc Tryz.func216
def zxH:PC:=(⟨_, by conv=>rhs;cbv⟩:Qc (K Tryz.f217 0 [])).1
theorem ztU:Zz.H 14 2 217 zxH []:=Zz.hc Tryz.func217
def ztV:PC:=(⟨_, by conv=>rhs;cbv⟩:Qc (K Tryz.f218 0 [])).1
theorem ztW:Zz.H 29 4 218 ztV [.tmp 8, .tmp 9]:=Zz.hc Tryz.func218
def zfw:PC:=(⟨_, by conv=>rhs;cbv⟩:Qc (K ycC 0 [])).1
def zok:PC:=(⟨_, by conv=>rhs;ext a;cbv⟩:Qc λa=>K ycC 1 [a]).1 zfw
def zB9:PC:=(⟨_, by conv=>rhs;ext a b;cbv⟩:Qc λa b=>K ycC 2 [a, b]).1 zfw zok
theorem ztX:Zz.H 16 1 219 zB9 [.tmp 2]:=Zz.hc Tryz.func219
def zqM:PC:=(⟨_, by conv=>rhs;cbv⟩:Qc (K Tryz.f220 0 [])).1
theorem ztY:Zz.H 19 2 220 zqM [.tmp 4]:=Zz.hc Tryz.func220
def zg9:PC:=(⟨_, by conv=>rhs;cbv⟩:Qc (K ycD 0 [])).1
def zol:PC:=(⟨_, by conv=>rhs;ext a;cbv⟩:Qc λa=>K ycD 1 [a]).1 zg9
def zCa:PC:=(⟨_, by conv=>rhs;ext a b;cbv⟩:Qc λa b=>K ycD 2 [a, b]).1 zg9 zol
theorem ztZ:Zz.H 32 1 221 zCa [.tmp 2]:=Zz.hc Tryz.func221
def zt0:PC:=(⟨_, by conv=>rhs;cbv⟩:Qc (K Tryz.f222 0 [])).1
theorem zt1:Zz.H 30 3 222 zt0 [.tmp 6]:=Zz.hc Tryz.func222
def zpd:PC:=(⟨_, by conv=>rhs;cbv⟩:Qc (K Tryz.f223 0 [])).1
theorem zt2:Zz.H 80 3 223 zpd []:=Zz.hc Tryz.func223
def zm7:PC:=(⟨_, by conv=>rhs;cbv⟩:Qc (K Tryz.f228 0 [])).1
theorem zt3:Zz.H 23 2 228 zm7 [.tmp 4]:=Zz.hc Tryz.func228
def zm8:PC:=(⟨_, by conv=>rhs;cbv⟩:Qc (K Tryz.f229 0 [])).1
theorem zt4:Zz.H 44 2 229 zm8 [.cell 4 265, .tmp 5]:=Zz.hc Tryz.func229
def zCb:PC:=(⟨_, by conv=>rhs;cbv⟩:Qc (K Tryz.f230 0 [])).1
theorem zt5:Zz.H 4 1 230 zCb [.tmp 2]:=Zz.hc Tryz.func230
def zm9:PC:=(⟨_, by conv=>rhs;cbv⟩:Qc (K Tryz.f231 0 [])).1
theorem zt6:Zz.H 31 1 231 zm9 []:=Zz.hc Tryz.func231
def zCc:PC:=(⟨_, by conv=>rhs;cbv⟩:Qc (K Tryz.f239 0 [])).1
theorem zt7:Zz.H 9 2 239 zCc [.tmp 4]:=Zz.hc Tryz.func239
def zt8:PC:=(⟨_, by conv=>rhs;cbv⟩:Qc (K Tryz.f245 0 [])).1
theorem zt9:Zz.H 34 4 245 zt8 [.tmp 8, .tmp 9]:=Zz.hc Tryz.func245
def zua:PC:=(⟨_, by conv=>rhs;cbv⟩:Qc (K Tryz.f246 0 [])).1
theorem zub:Zz.H 32 4 246 zua [.tmp 8, .tmp 9]:=Zz.hc Tryz.func246
def zxI:PC:=(⟨_, by conv=>rhs;cbv⟩:Qc (K Tryz.f247 0 [])).1
theorem zuc:Zz.H 25 1 247 zxI [.tmp 2]:=Zz.hc Tryz.func247
def zud:PC:=(⟨_, by conv=>rhs;cbv⟩:Qc (K Tryz.f248 0 [])).1
theorem zue:Zz.H 8 1 248 zud [.tmp 2]:=Zz.hc Tryz.func248
def zen:PC:=(⟨_, by conv=>rhs;cbv⟩:Qc (K Tryz.f250 0 [])).1
def zCd:PC:=(⟨_, by conv=>rhs;ext a;cbv⟩:Qc λa=>K Tryz.f250 1 [a]).1 zen
theorem zuf:Zz.H 19 2 250 zCd []:=Zz.hc Tryz.func250
def zlK:PC:=(⟨_, by conv=>rhs;cbv⟩:Qc (K Tryz.f256 0 [])).1
theorem zug:Zz.H 40 3 256 zlK [.tmp 6, .tmp 7]:=Zz.hc Tryz.func256
def zez:PC:=(⟨_, by conv=>rhs;cbv⟩:Qc (K Tryz.f257 0 [])).1
theorem zuh:Zz.H 93 4 257 zez [.tmp 8]:=Zz.hc Tryz.func257
def zlL:PC:=(⟨_, by conv=>rhs;cbv⟩:Qc (K Tryz.f258 0 [])).1
theorem zui:Zz.H 40 3 258 zlL [.tmp 6, .tmp 7]:=Zz.hc Tryz.func258
def zeA:PC:=(⟨_, by conv=>rhs;cbv⟩:Qc (K Tryz.f259 0 [])).1
theorem zuj:Zz.H 93 4 259 zeA [.tmp 8]:=Zz.hc Tryz.func259
def zCe:PC:=(⟨_, by conv=>rhs;cbv⟩:Qc (K Tryz.f262 0 [])).1
theorem zuk:Zz.H 4 1 262 zCe [.tmp 2]:=Zz.hc Tryz.func262
def zCf:PC:=(⟨_, by conv=>rhs;cbv⟩:Qc (K Tryz.f263 0 [])).1
theorem zul:Zz.H 4 1 263 zCf [.tmp 2]:=Zz.hc Tryz.func263
@[simp] theorem zGb:zbd yca 28=some 3/\zaT yca 28/\za yca 30/\zcd yca 44=some 1/\za yca 33/\za yca 12/\za yca 20/\za yca 19/\zG yca 28=some (.agg [.nilsl, (.int .i64 0), (.int .i64 0)])/\za yca 26/\za yca 18/\za yca 28/\za yca 27/\zY yca 53:=by and_intros<;>kernel_rfl
@[simp] theorem zCg:zew yca 53/\zG yca 53=some (.agg [(.int .i64 0), (.int .i64 0), (.int .i64 0), (.int .i64 0), (.int .i64 0), (.str [])])/\zbe yca 53 0=some ⟨0, 1, false⟩/\zbe yca 53 1=some ⟨1, 1, false⟩/\zbe yca 53 2=some ⟨2, 1, false⟩/\zcd yca 54=some 6/\zaR yca 54=some (.agg [(.int .i64 0), (.int .i64 0), (.int .i64 0), (.int .i64 0), (.int .i64 0), (.str [])])/\zcd yca 55=some 1/\zaR yca 55=some .nilsl/\zY yca 57/\zew yca 57/\zG yca 57=some (.agg [(.str []), .nilsl, .nilsl, (.int .i64 0), .nilsl])/\zbe yca 57 0=some ⟨0, 1, false⟩/\zbe yca 57 3=some ⟨3, 1, false⟩:=by and_intros<;>kernel_rfl
@[simp] theorem zEc:zbe yca 57 4=some ⟨4, 1, false⟩/\zcd yca 26=some 5/\zaR yca 26=some (.agg [(.str []), .nilsl, .nilsl, (.int .i64 0), .nilsl])/\zY yca 28/\zew yca 28/\zbe yca 28 1=some ⟨1, 1, false⟩/\zbe yca 28 0=some ⟨0, 1, false⟩/\za yca 10/\za yca 11/\za yca 22/\zG yca 33=some (.int .i64 0)/\zbd yca 33=some 1/\zaT yca 33=false/\zbd yca 3=some 1:=by and_intros<;>kernel_rfl
@[simp] theorem zGc:zaT yca 3=false/\za yca 53/\zbd yca 26=some 1/\zaT yca 26=false/\zbd yca 57=some 5/\zaT yca 57/\zY yca 74/\zew yca 74/\zG yca 74=some (.agg [.nilsl, (.int .i64 0), (.int .i64 0), (.str []), .nilsl, .nilsl, (.int .i64 0), .nilsl, .nilsl])/\zbe yca 74 0=some ⟨0, 3, true⟩/\zbe yca 74 1=some ⟨3, 5, true⟩/\za yca 54/\zbe yca 28 2=some ⟨2, 1, false⟩/\zbe yca 57 1=some ⟨1, 1, false⟩:=by and_intros<;>kernel_rfl
@[simp] theorem zGd:zbd yca 44=some 1/\zaT yca 44=false/\zY yca 77/\zew yca 77/\zG yca 77=some (.agg [(.str []), .nilsl])/\zbe yca 77 0=some ⟨0, 1, false⟩/\za yca 57/\za yca 56/\za yca 58/\zcd yca 22=some 1/\zaR yca 22=some (.str [])/\za yca 59/\za yca 60/\zbh yca 26=some 96:=by and_intros<;>kernel_rfl
@[simp] theorem zGn:zbd yca 9=some 1/\zaT yca 9=false/\za yca 62/\za yca 61/\zY yca 88/\zew yca 88/\zG yca 88=some (.agg [.nilp, .nilsl])/\za yca 64/\za yca 63/\za yca 65/\zaR yca 44=some (.int .i64 0)/\zbe yca 57 2=some ⟨2, 1, false⟩/\zbd yca 55=some 1/\zaT yca 55=false:=by and_intros<;>kernel_rfl
@[simp] theorem zvW:zcd yca 32=some 1:=by kernel_rfl
@[simp] theorem zvX:zaR yca 32=some (.int .u8 0):=by kernel_rfl
@[simp] theorem zCh:zbh yca 32=some 1:=by kernel_rfl
@[simp] theorem zEd:za yca 66/\zbe yca 88 0=some ⟨0, 2, true⟩/\za yca 67/\za yca 74/\zbe yca 48 1=some ⟨1, 1, false⟩/\zbe yca 48 2=some ⟨2, 1, false⟩/\zbe yca 48 0=some ⟨0, 1, false⟩/\za yca 79/\zG yca 48=some (.agg [.nilsl, (.int .i64 0), (.int .i64 0)])/\zbd yca 48=some 3/\zaT yca 48/\zY yca 109/\zew yca 109/\zG yca 109=some (.agg [.nilsl, (.int .i64 0), (.int .i64 0), .nilsl, (.int .i64 0), .nilsl, .nilsl, (.int .i64 0)]):=by and_intros<;>kernel_rfl
@[simp] theorem zCi:zbe yca 109 0=some ⟨0, 3, true⟩/\zbe yca 109 1=some ⟨3, 1, false⟩/\zbe yca 109 2=some ⟨4, 1, false⟩/\zbe yca 109 3=some ⟨5, 1, false⟩/\zG yca 107=some .nilp/\zbd yca 107=some 1/\zaT yca 107=false/\za yca 81/\zbe yca 109 4=some ⟨6, 1, false⟩/\zY yca 48/\zew yca 48/\zbd yca 54=some 1/\zaT yca 54=false/\za yca 51:=by and_intros<;>kernel_rfl
@[simp] theorem zGe:zcf yca 9/\zbe yca 71 0=some ⟨0, 1, false⟩/\zY yca 71/\zew yca 71/\zG yca 71=some (.agg [(.int .i64 0)])/\zaq yca 71=some false/\zcd yca 186=some 1/\zaR yca 186=some .nilsl/\za yca 105/\zbe yca 74 2=some ⟨8, 1, false⟩/\za yca 95/\za yca 108/\za yca 109/\za yca 110:=by and_intros<;>kernel_rfl
@[simp] theorem zFk:zpU yca 135=some (256, 1, false)/\zbd yca 5=some 1/\zaT yca 5=false/\zdj yca 3=some .i64/\za yca 113/\za yca 114/\za yca 115/\za yca 116/\za yca 117/\za yca 118/\zbe yca 77 1=some ⟨1, 1, false⟩/\za yca 119/\zaq yca 33=some false/\za yca 122:=by and_intros<;>kernel_rfl
theorem zqN:zG yca 151=some (.agg [(.bool false), (.bool false), (.bool false), (.bool false), (.bool false), (.bool false), (.bool false), (.bool false), (.bool false), (.bool false), (.bool false), (.bool false), (.bool false), (.bool false), (.bool false), (.bool false), (.bool false), (.bool false), (.bool false), (.bool false), (.bool false), (.bool false), (.bool false), (.bool false), (.bool false), (.bool false), (.bool false), (.bool false), (.bool false), (.bool false), (.bool false), (.bool false), (.bool false), (.bool false), (.bool false), (.bool false), (.bool false), (.bool false), (.bool false), (.bool false), (.bool false), (.bool false), (.bool false), (.bool false), (.bool false), (.bool false), (.bool false), (.bool false), (.bool false), (.bool false), (.bool false), (.bool false), (.bool false), (.bool false), (.bool false), (.bool false), (.bool false), (.bool false), (.bool false), (.bool false), (.bool false), (.bool false), (.bool false), (.bool false), (.bool false), (.bool false), (.bool false), (.bool false), (.bool false), (.bool false), (.bool false), (.bool false), (.bool false), (.bool false), (.bool false), (.bool false), (.bool false), (.bool false), (.bool false), (.bool false), (.bool false), (.bool false), (.bool false), (.bool false), (.bool false), (.bool false), (.bool false), (.bool false), (.bool false), (.bool false), (.bool false), (.bool false), (.bool false), (.bool false), (.bool false), (.bool false), (.bool false), (.bool false), (.bool false), (.bool false), (.bool false), (.bool false), (.bool false), (.bool false), (.bool false), (.bool false), (.bool false), (.bool false), (.bool false), (.bool false), (.bool false), (.bool false), (.bool false), (.bool false), (.bool false), (.bool false), (.bool false), (.bool false), (.bool false), (.bool false), (.bool false), (.bool false), (.bool false), (.bool false), (.bool false), (.bool false), (.bool false), (.bool false), (.bool false), (.bool false), (.bool false), (.bool false), (.bool false), (.bool false), (.bool false), (.bool false), (.bool false), (.bool false), (.bool false), (.bool false), (.bool false), (.bool false), (.bool false), (.bool false), (.bool false), (.bool false), (.bool false), (.bool false), (.bool false), (.bool false), (.bool false), (.bool false), (.bool false), (.bool false), (.bool false), (.bool false), (.bool false), (.bool false), (.bool false), (.bool false), (.bool false), (.bool false), (.bool false), (.bool false), (.bool false), (.bool false), (.bool false), (.bool false), (.bool false), (.bool false), (.bool false), (.bool false), (.bool false), (.bool false), (.bool false), (.bool false), (.bool false), (.bool false), (.bool false), (.bool false), (.bool false), (.bool false), (.bool false), (.bool false), (.bool false), (.bool false), (.bool false), (.bool false), (.bool false), (.bool false), (.bool false), (.bool false), (.bool false), (.bool false), (.bool false), (.bool false), (.bool false), (.bool false), (.bool false), (.bool false), (.bool false), (.bool false), (.bool false), (.bool false), (.bool false), (.bool false), (.bool false), (.bool false), (.bool false), (.bool false), (.bool false), (.bool false), (.bool false), (.bool false), (.bool false), (.bool false), (.bool false), (.bool false), (.bool false), (.bool false), (.bool false), (.bool false), (.bool false), (.bool false), (.bool false), (.bool false), (.bool false), (.bool false), (.bool false), (.bool false), (.bool false), (.bool false), (.bool false), (.bool false), (.bool false), (.bool false), (.bool false), (.bool false), (.bool false), (.bool false), (.bool false), (.bool false), (.bool false), (.bool false), (.bool false), (.bool false), (.bool false), (.bool false), (.bool false), (.bool false), (.bool false), (.bool false), (.bool false), (.bool false), (.bool false), (.bool false)]):=by kernel_rfl
@[simp] theorem zFl:zbd yca 151=some 256/\zaT yca 151/\za yca 124/\za yca 123/\za yca 127/\za yca 128/\za yca 129/\za yca 131/\zbd yca 53=some 6/\zaT yca 53/\za yca 132/\zbe yca 53 3=some ⟨3, 1, false⟩/\zbe yca 53 4=some ⟨4, 1, false⟩/\za yca 133:=by and_intros<;>kernel_rfl
@[simp] theorem zCj:za yca 134/\zbe yca 86 1=some ⟨1, 1, false⟩/\zbd yca 32=some 1/\zaT yca 32=false/\za yca 140/\zG yca 111=some (.agg [(.int .i64 0), (.int .i64 0)])/\zbd yca 111=some 2/\zbe yca 111 0=some ⟨0, 1, false⟩/\zbe yca 111 1=some ⟨1, 1, false⟩/\zbe yca 109 5=some ⟨7, 1, false⟩/\za yca 145/\zbh yca 44=some 8/\zY yca 171/\zew yca 171:=by and_intros<;>kernel_rfl
@[simp] theorem zCk:zG yca 171=some (.agg [(.str []), .nilsl, .nilsl, (.int .i64 0), .nilsl, .nilsl, .nilsl, (.int .i64 0)])/\zbe yca 171 0=some ⟨0, 5, true⟩/\zbe yca 171 1=some ⟨5, 1, false⟩/\za yca 146/\za yca 147/\zbe yca 171 3=some ⟨7, 1, false⟩/\za yca 154/\za yca 158/\za yca 107/\zcd yca 187=some 1/\zaR yca 187=some (.bool false)/\zbh yca 187=some 1/\za yca 159/\zbd yca 4=some 1:=by and_intros<;>kernel_rfl
@[simp] theorem zGf:zaT yca 4=false/\za yca 160/\zY yca 192/\zew yca 192/\zG yca 192=some (.agg [.nilp, .nilsl, (.bool false), (.int .i64 0)])/\zbe yca 192 0=some ⟨0, 1, false⟩/\zbe yca 192 3=some ⟨3, 1, false⟩/\za yca 161/\za yca 162/\zbe yca 192 1=some ⟨1, 1, false⟩/\za yca 164/\za yca 167/\za yca 168/\za yca 169:=by and_intros<;>kernel_rfl
@[simp] theorem zFm:zdj yca 21=some .i32/\za yca 170/\zbh yca 55=some 24/\za yca 171/\zbh yca 54=some 56/\zpU yca 151=some (256, 1, false)/\za yca 172/\za yca 175/\zbe yca 53 5=some ⟨5, 1, false⟩/\za yca 177/\za yca 180/\zY yca 111/\zew yca 111/\zaq yca 111=some false:=by and_intros<;>kernel_rfl
@[simp] theorem zCl:zbe yca 171 2=some ⟨6, 1, false⟩/\za yca 181/\za yca 182/\za yca 183/\za yca 190/\za yca 191/\za yca 192/\zbd yca 72=some 1/\zaT yca 72=false/\za yca 193/\za yca 194/\za yca 195/\za yca 196/\za yca 199:=by and_intros<;>kernel_rfl
@[simp] theorem zCm:za yca 205/\za yca 206/\za yca 207/\za yca 208/\za yca 216/\za yca 217/\za yca 219/\za yca 218/\za yca 220/\za yca 222/\za yca 221/\zdj yca 5=some .u8/\za yca 223/\za yca 228:=by and_intros<;>kernel_rfl
@[simp] theorem zCn:za yca 229/\zG yca 265=some (.agg [.nilsl, (.int .i64 0)])/\zbd yca 265=some 2/\zaT yca 265/\za yca 230/\zbd yca 190=some 1/\zaT yca 190=false/\za yca 231/\zbe yca 192 2=some ⟨2, 1, false⟩/\za yca 232/\zbe yca 265 0=some ⟨0, 1, false⟩/\zbe yca 265 1=some ⟨1, 1, false⟩/\za yca 239/\za yca 245:=by and_intros<;>kernel_rfl
@[simp] theorem zCo:za yca 246/\zbd yca 287=some 32/\zaT yca 287/\zpU yca 287=some (16, 2, true)/\zG yca 182=some (.agg [(.str []), (.str [])])/\zbd yca 182=some 2/\zpU yca 182=some (2, 1, false)/\zdj yca 288=some .i8/\zdj yca 174=some .u64/\za yca 247/\za yca 248/\zY yca 265/\zew yca 265/\za yca 250:=by and_intros<;>kernel_rfl
@[simp] theorem zCp:za yca 157/\za yca 256/\za yca 257/\za yca 258/\za yca 259/\zdj yca 116=some .u64/\za yca 262/\za yca 263:=by and_intros<;>kernel_rfl
end Go.Proofs.YtohfclafhegadaaGreatDoor
