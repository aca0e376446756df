/- The planned texts of the functions, and facts on the program's types; written by a program; no condition. -/
import Derived.Test.YtohfclafhegadaaGreatDoorChecked
import Derived.Test.YtohfclafhegadaaGreatDoorAbsB
import Derived.KernelRfl
set_option maxRecDepth 100000
set_option maxHeartbeats 4000000
open Go.Proofs.Tryz renaming prog->yb9,f15->yca,f16->ycb,f17->ycc,f18->ycd,f20->yce,f24->ycf,f25->ycg,f29->ych,f35->yci,f36->ycj,f39->yck,f45->ycl,f47->ycm,f48->ycn,f51->yco,f57->ycp,f65->ycq,f74->ycr,f79->ycs,f88->yct,f91->ycu,f101->ycv,f104->ycw,f105->ycx,f108->ycy,f109->ycz,f146->ycA,f150->ycB,f151->ycC,f153->ycD,f154->ycE,f155->ycF,f156->ycG,f157->ycH,f180->ycI,f181->ycJ,f189->ycK,f190->ycL,f193->ycM,f216->ycN,f219->ycO,f221->ycP
namespace Go.Proofs.YtohfclafhegadaaGreatDoor
open Go Go.Abs
namespace Zz
abbrev Q(q:PC):={ p:PC//p=q }
def t(x:Nat):Operand:=.tmp x
def i(k:Int):Operand:=.const (.int .i64 k)
def S(l:List PO)(r:PC):PC:=.seq (.ops l) r
def C(x:Nat)(a b:PC):PC:=.cond (.tmp x) a b
def m(d x:Nat):PO:=⟨some d, .move (.tmp x), none, []⟩
def l(d t x:Nat):PO:=⟨some d, .load t (.tmp x), none, []⟩
def f(d t x i:Nat):PO:=⟨some d, .fieldAddr t (.tmp x) i, none, []⟩
def n(d x:Nat):PO:=⟨some d, .nilCheck (.tmp x), none, []⟩
def a(d x:Nat):PO:=⟨some d, .assign (.tmp x), none, []⟩
def A(d:Nat)(v:Operand):PO:=⟨some d, .assign v, none, []⟩
def x(d t x y:Nat):PO:=⟨some d, .indexAddr t (.tmp x) (.tmp y), none, []⟩
def b(d:Nat)(o:BinOp)(t:Nat)(x y:Operand)(u:Nat):PO:=⟨some d, .binOp o t x y u, none, []⟩
def c(d f:Nat)(xs:Array Operand)(ts:Array TypeId):PO:=⟨some d, .call ⟨.value (.func f), xs, ts⟩, none, []⟩
def L(d x t:Nat):PO:=⟨some d, .call ⟨.builtin .len, #[(.tmp x)], #[t]⟩, none, []⟩
def d(n:Nat)(o:Op):PO:=⟨some n, o, none, []⟩
def s(t x y:Nat):PO:=⟨none, .store t (.tmp x) (.tmp y), none, []⟩
def e(o:Op):PO:=⟨none, o, none, []⟩
def w(n:Nat)(o:Op)(g:Nat)(v:Bool):PO:=⟨some n, o, some (g, v), []⟩
abbrev H(n k f:Nat)(p:PC)(l:List ResultVar):Prop:=∀{G:Env} {args:List AV} {J:AS} {R:Out->AS->Prop}, args.length=k->avc yb9 G n p (zbE yb9 l R) (zc5 args) J->ACalls yb9 G f args J R
end Zz
open Zz
abbrev zzQ:=@ACalls yb9
variable {G : Env} {args : List AV} {J : AS} {R : Out -> AS -> Prop}
namespace Zz
/-- a thing, reckoned -/
abbrev Qc{α:Type}(q:α):={ p:α//p=q }
def zFb:PC->Bool
  | .loop _=>true|.seq x y=>zFb x||zFb y|.cond _ x y=>zFb x||zFb y|.block _ c=>zFb c|_=>false
def isR:PC->Bool
  | .ret=>true|_=>false
/-- loops' bodies, and what stands behind loops, cut out -/
def zCw:PC->List PC->PC × List PC
  | .seq x y, d=>match zCw x d with
    | (a, d)=>match zCw y d with
      | (b, d)=>if zFb x&&!isR y then(.seq a (.exit (9000+d.length)), d++[b])else(.seq a b, d)
  | .cond c x y, d=>match zCw x d with
    | (a, d)=>match zCw y d with
      | (b, d)=>(.cond c a b, d)
  | .block i c, d=>match zCw c d with
    | (a, d)=>(.block i a, d)
  | .loop c, d=>match zCw c d with
    | (b, d)=>(.loop (.exit (9000+d.length)), d++[b])
  | p, d=>(p, d)
def zpV(h:List PC):PC->PC
  | .seq x y=>.seq (zpV h x) (zpV h y)
  | .cond c x y=>.cond c (zpV h x) (zpV h y)
  | .block i c=>.block i (zpV h c)
  | .loop c=>.loop (zpV h c)
  | .exit i=>if i<9000 then .exit i else h.getD (i-9000) .skip
  | p=>p
def zuo(ops:Array Oper):List Oper->List PO
  | []=>[]
  | o::r=>match zcp ops o with
    | some g=>⟨o.dst, o.op, g, []⟩::zuo ops r
    | none=>zuo ops r
/-- a text's zdU, unchecked -/
def zol(n:Nat):Code->PC
  | .region _ ops draw=>if draw then(let A:=zBL ops
    .ops ((zbD ops A [] (zt2 ops A)).getD []))else .ops (zuo ops ops.toList)
  | .seq x y=>.seq (zol n x) (zol n y)
  | .cond c x y=>.cond c (zol n x) (zol n y)
  | .block id c=>.block id (zol n c)
  | .loop c=>.loop (zol n c)
  | .exit id=>.exit id
  | .ret=>.ret
  | _=>.skip
def K1(p:PC)(k:Nat)(h:List PC):PC:=match zCw p []with
  | (a, d)=>zpV h ((d++[a]).getD k .skip)
/-- a part of a text -/
def atC:List Nat->Code->Code
  | 0::r, .seq x _=>atC r x
  | 1::r, .seq _ y=>atC r y
  | 2::r, .block _ (.rangeFunc _ _ a _)=>atC r a
  | 3::r, .block _ (.rangeFunc _ _ _ b)=>atC r b
  | _, c=>c
/-- the k-th piece of a function's text; of a part of it -/
def K(f:Func)(k:Nat)(h:List PC):PC:=K1 (zol f.ntmps (f.body.getD .skip)) k h
def Kp(f:Func)(l:List Nat)(k:Nat)(h:List PC):PC:=K1 (zol f.ntmps (atC l (f.body.getD .skip))) k h
end Zz
open Zz
theorem zup:yb9.follows .mixedOrders=true:=by kernel_rfl
theorem Zz.hc{n k f:Nat}{g:Func}{p:PC}{l:List ResultVar}(hf:yb9.funcs[f]?=some g)(hn:g.ntmps=n:=by kernel_rfl)(hl:g.results.toList=l:=by kernel_rfl)(hp:g.body.bind (zdU g.ntmps)=some p:=by kernel_rfl)(ha:k<=n:=by omega):Zz.H n k f p l:=λe h=>zBM zup hf hn hl hp (by omega) h
def pc6:PC:=(⟨_, by conv=>rhs;cbv⟩:Qc (K Tryz.f6 0 [])).1
theorem zGw:Zz.H 107 3 6 pc6 [.tmp 6]:=Zz.hc Tryz.func6
def zLx:PC:=(⟨_, by conv=>rhs;cbv⟩:Qc (K Tryz.f13 0 [])).1
theorem zCx:Zz.H 39 0 13 zLx [.tmp 0]:=Zz.hc Tryz.func13
def zA9:PC:=(⟨_, by conv=>rhs;cbv⟩:Qc (Kp Tryz.f14 [0] 0 [])).1
def zBa:PC:=(⟨_, by conv=>rhs;cbv⟩:Qc (Kp Tryz.f14 [1, 1] 0 [])).1
def zkc:PC:=(⟨_, by conv=>rhs;cbv⟩:Qc (K yca 0 [])).1
def zuq:PC:=(⟨_, by conv=>rhs;ext a;cbv⟩:Qc λa=>K yca 1 [a]).1 zkc
def zKn:PC:=(⟨_, by conv=>rhs;ext a b;cbv⟩:Qc λa b=>K yca 2 [a, b]).1 zkc zuq
theorem zCy:Zz.H 27 2 15 zKn [.tmp 4]:=Zz.hc Tryz.func15
def zh2:PC:=(⟨_, by conv=>rhs;cbv⟩:Qc (K ycb 0 [])).1
def zh3:PC:=(⟨_,by delta C L S a b c d f i l m s t x;exact rfl⟩:Zz.Q (S [b 44 .lss 3 (t 43) (t 42) 3] (.seq (C 44 .skip (.exit 2)) (.seq
 (.block 3 (S [m 45 43,x 46 26 41 43,l 47 57 46,d 11 (.alloc 57),a 10 45,s 57 11 47] (S [m 48 3,f 49 57 11 1,l 50 44 49,f 51 57 11 3,l 52 3 51,c 53 44 #[t 50,t
 52] #[44,3],d 54 (.buildSlice 64 1 #[(0,t 53)]),d 55 (.call ⟨.builtin .append,#[t 48,t 54],#[64,64]⟩),a 3 55] (S [m 56 5,m 57 10,b 58 .add 3 (t 57) (i 3) 3,c
 59 35 #[t 58] #[3],d 60 (.buildSlice 64 1 #[(0,t 59)]),d 61 (.call ⟨.builtin .append,#[t 56,t 60],#[64,64]⟩),a 5 61] (S [m 62 6,f 63 57 11 2,l 64 44 63,l 66 57
 11,f 67 57 11 4,l 68 55 67,L 69 68 55,b 70 .sub 3 (t 69) (i 1) 3,d 72 (.buildSlice 32 1 #[(0,.const (.int .u8 11))]),⟨some 65,.call ⟨.value (.func 47),#[t
 64],#[44]⟩,none,[⟨none,57,t 11,66⟩,⟨none,55,t 67,68⟩]⟩,c 71 48 #[t 66,t 70] #[57,3],d 73 (.buildSlice 64 3 #[(0,t 65),(1,t 71),(2,t 72)]),c 74 45 #[t 73]
 #[64],c 75 46 #[t 74] #[32],d 76 (.buildSlice 64 1 #[(0,t 75)]),d 77 (.call ⟨.builtin .append,#[t 62,t 76],#[64,64]⟩),a 6 77] (.both [[m 78 7,m 79 10,b 80 .add
 3 (t 79) (i 3) 3,f 82 57 11 0,l 83 9 82,⟨some 81,.call ⟨.value (.func 35),#[t 80],#[3]⟩,none,[⟨none,9,t 82,83⟩]⟩,d 84 (.convert 9 32 (t 83)),c 85 46 #[t 84]
 #[32],d 86 (.call ⟨.builtin .append,#[t 81,t 85],#[32,32]⟩),d 87 (.buildSlice 64 1 #[(0,t 86)]),d 88 (.call ⟨.builtin .append,#[t 78,t 87],#[64,64]⟩),a 7
 88],[m 78 7,m 79 10,b 80 .add 3 (t 79) (i 3) 3,f 82 57 11 0,l 83 9 82,d 84 (.convert 9 32 (t 83)),c 81 35 #[t 80] #[3],c 85 46 #[t 84] #[32],d 86 (.call
 ⟨.builtin .append,#[t 81,t 85],#[32,32]⟩),d 87 (.buildSlice 64 1 #[(0,t 86)]),d 88 (.call ⟨.builtin .append,#[t 78,t 87],#[64,64]⟩),a 7 88]])))))) (.ops [b 89
 .add 3 (t 43) (i 1) 3,m 43 89]))))).1
def zh4:PC:=(⟨_, by conv=>rhs;ext a b;cbv⟩:Qc λa b=>K ycb 2 [a, b]).1 zh2 zh3
def zmS:PC:=(⟨_, by conv=>rhs;ext a b c;cbv⟩:Qc λa b c=>K ycb 3 [a, b, c]).1 zh2 zh3 zh4
def zLy:PC:=(⟨_, by conv=>rhs;ext a b c d;cbv⟩:Qc λa b c d=>K ycb 4 [a, b, c, d]).1 zh2 zh3 zh4 zmS
theorem zCz:Zz.H 140 1 16 zLy [.tmp 2]:=Zz.hc Tryz.func16
def zmT:PC:=(⟨_, by conv=>rhs;cbv⟩:Qc (K ycc 0 [])).1
def zur:PC:=(⟨_, by conv=>rhs;ext a;cbv⟩:Qc λa=>K ycc 1 [a]).1 zmT
def zLz:PC:=(⟨_, by conv=>rhs;ext a b;cbv⟩:Qc λa b=>K ycc 2 [a, b]).1 zmT zur
theorem zCA:Zz.H 19 1 17 zLz [.tmp 2]:=Zz.hc Tryz.func17
def zBb:PC:=(⟨_, by conv=>rhs;cbv⟩:Qc (Kp ycd [0] 0 [])).1
def zc6:PC:=(⟨_, by conv=>rhs;cbv⟩:Qc (Kp ycd [1, 1] 0 [])).1
def zd7:PC:=(⟨_, by conv=>rhs;ext a;cbv⟩:Qc λa=>Kp ycd [1, 1] 1 [a]).1 zc6
def zrk:PC:=(⟨_, by conv=>rhs;ext a b;cbv⟩:Qc λa b=>Kp ycd [1, 1] 2 [a, b]).1 zc6 zd7
def zkd:PC:=(⟨_, by conv=>rhs;cbv⟩:Qc (K yce 0 [])).1
def zmU:PC:=(⟨_, by conv=>rhs;ext a;cbv⟩:Qc λa=>K yce 1 [a]).1 zkd
def zLA:PC:=(⟨_, by conv=>rhs;ext a b;cbv⟩:Qc λa b=>K yce 2 [a, b]).1 zkd zmU
theorem zCB:Zz.H 66 1 20 zLA [.tmp 2]:=Zz.hc Tryz.func20
def zLB:PC:=(⟨_, by conv=>rhs;cbv⟩:Qc (K Tryz.f22 0 [])).1
theorem zCC:Zz.H 24 2 22 zLB [.tmp 4]:=Zz.hc Tryz.func22
def zez:PC:=(⟨_, by conv=>rhs;cbv⟩:Qc (K ycf 0 [])).1
def zgL:PC:=(⟨_, by conv=>rhs;ext a;cbv⟩:Qc λa=>K ycf 1 [a]).1 zez
def zmV:PC:=(⟨_, by conv=>rhs;ext a b;cbv⟩:Qc λa b=>K ycf 2 [a, b]).1 zez zgL
def zmW:PC:=(⟨_, by conv=>rhs;ext a b c;cbv⟩:Qc λa b c=>K ycf 3 [a, b, c]).1 zez zgL zmV
def zus:PC:=(⟨_, by conv=>rhs;ext a b c d;cbv⟩:Qc λa b c d=>K ycf 4 [a, b, c, d]).1 zez zgL zmV zmW
def zKo:PC:=(⟨_, by conv=>rhs;ext a b c d e;cbv⟩:Qc λa b c d e=>K ycf 5 [a, b, c, d, e]).1 zez zgL zmV zmW zus
theorem zCD:Zz.H 59 1 24 zKo [.tmp 2]:=Zz.hc Tryz.func24
def zmX:PC:=(⟨_, by conv=>rhs;cbv⟩:Qc (K ycg 0 [])).1
def zut:PC:=(⟨_, by conv=>rhs;ext a;cbv⟩:Qc λa=>K ycg 1 [a]).1 zmX
def zLC:PC:=(⟨_, by conv=>rhs;ext a b;cbv⟩:Qc λa b=>K ycg 2 [a, b]).1 zmX zut
theorem zCE:Zz.H 31 1 25 zLC [.tmp 2]:=Zz.hc Tryz.func25
def zKp:PC:=(⟨_, by conv=>rhs;cbv⟩:Qc (K Tryz.f26 0 [])).1
theorem zCF:Zz.H 16 2 26 zKp [.tmp 4]:=Zz.hc Tryz.func26
def zLD:PC:=(⟨_, by conv=>rhs;cbv⟩:Qc (K Tryz.f27 0 [])).1
theorem zCG:Zz.H 24 2 27 zLD [.tmp 4]:=Zz.hc Tryz.func27
def zBc:PC:=(⟨_, by conv=>rhs;cbv⟩:Qc (Kp Tryz.f28 [0] 0 [])).1
def zuu:PC:=(⟨_,by delta d f l m s t;exact rfl⟩:Zz.Q (.both [[l 9 28 3,m 10 1,m 11 2,f 12 28 3 1,l 13 3 12,⟨some 14,.makeSlice 32 (t 13)
 (t 13),none,[⟨none,28,t 3,9⟩]⟩,d 15 (.build 109 #[(0,t 9),(1,t 10),(2,t 11),(3,t 14)]),d 16 (.box 109 (t 15)),d 7 (.alloc 107),s 107 7 16],[l 9 28 3,m 10 1,m
 11 2,f 12 28 3 1,l 13 3 12,⟨some 14,.makeSlice 32 (t 13) (t 13),none,[⟨none,28,t 3,9⟩]⟩,d 15 (.build 109 #[(0,t 9),(1,t 10),(2,t 11),(3,t 14)]),⟨some 7,.alloc
 107,none,[⟨none,28,t 3,9⟩]⟩,d 16 (.box 109 (t 15)),s 107 7 16],[l 9 28 3,m 10 1,m 11 2,f 12 28 3 1,l 13 3 12,⟨some 7,.alloc 107,none,[⟨none,28,t 3,9⟩,⟨none,3,t
 12,13⟩]⟩,⟨some 14,.makeSlice 32 (t 13) (t 13),none,[⟨none,28,t 3,9⟩]⟩,d 15 (.build 109 #[(0,t 9),(1,t 10),(2,t 11),(3,t 14)]),d 16 (.box 109 (t 15)),s 107 7
 16]])).1
def zpW:PC:=(⟨_, by conv=>rhs;cbv⟩:Qc (Kp Tryz.f28 [1, 1, 1] 0 [])).1
def zmY:PC:=(⟨_, by conv=>rhs;cbv⟩:Qc (K ych 0 [])).1
def zuv:PC:=(⟨_, by conv=>rhs;ext a;cbv⟩:Qc λa=>K ych 1 [a]).1 zmY
def zLE:PC:=(⟨_, by conv=>rhs;ext a b;cbv⟩:Qc λa b=>K ych 2 [a, b]).1 zmY zuv
theorem zCH:Zz.H 19 1 29 zLE [.tmp 2]:=Zz.hc Tryz.func29
def zLF:PC:=(⟨_, by conv=>rhs;cbv⟩:Qc (K Tryz.f34 0 [])).1
theorem zCI:Zz.H 7 0 34 zLF [.cell 0 28]:=Zz.hc Tryz.func34
def zh5:PC:=(⟨_, by conv=>rhs;cbv⟩:Qc (K yci 0 [])).1
def zpX:PC:=(⟨_, by conv=>rhs;ext a;cbv⟩:Qc λa=>K yci 1 [a]).1 zh5
def zLG:PC:=(⟨_, by conv=>rhs;ext a b;cbv⟩:Qc λa b=>K yci 2 [a, b]).1 zh5 zpX
theorem zCJ:Zz.H 19 1 35 zLG [.tmp 2]:=Zz.hc Tryz.func35
def zfr:PC:=(⟨_, by conv=>rhs;cbv⟩:Qc (K ycj 0 [])).1
def zpY:PC:=(⟨_, by conv=>rhs;ext a;cbv⟩:Qc λa=>K ycj 1 [a]).1 zfr
def zLH:PC:=(⟨_, by conv=>rhs;ext a b;cbv⟩:Qc λa b=>K ycj 2 [a, b]).1 zfr zpY
theorem zCK:Zz.H 24 1 36 zLH [.tmp 2]:=Zz.hc Tryz.func36
def zom:PC:=(⟨_, by conv=>rhs;cbv⟩:Qc (Kp Tryz.f37 [1] 0 [])).1
def zKq:PC:=(⟨_, by conv=>rhs;cbv⟩:Qc (K Tryz.f38 0 [])).1
theorem zCL:Zz.H 8 1 38 zKq [.tmp 2]:=Zz.hc Tryz.func38
def zdB:PC:=(⟨_, by conv=>rhs;cbv⟩:Qc (K yck 0 [])).1
def zdW:PC:=(⟨_, by conv=>rhs;ext a;cbv⟩:Qc λa=>K yck 1 [a]).1 zdB
def zeA:PC:=(⟨_, by conv=>rhs;ext a b;cbv⟩:Qc λa b=>K yck 2 [a, b]).1 zdB zdW
def zfs:PC:=(⟨_, by conv=>rhs;ext a b c;cbv⟩:Qc λa b c=>K yck 3 [a, b, c]).1 zdB zdW zeA
def zft:PC:=(⟨_, by conv=>rhs;ext a b c d;cbv⟩:Qc λa b c d=>K yck 4 [a, b, c, d]).1 zdB zdW zeA zfs
def zgM:PC:=(⟨_, by conv=>rhs;ext a b c d e;cbv⟩:Qc λa b c d e=>K yck 5 [a, b, c, d, e]).1 zdB zdW zeA zfs zft
def zh6:PC:=(⟨_, by conv=>rhs;ext a b c d e f;cbv⟩:Qc λa b c d e f=>K yck 6 [a, b, c, d, e, f]).1 zdB zdW zeA zfs zft zgM
def zke:PC:=(⟨_, by conv=>rhs;ext a b c d e f g;cbv⟩:Qc λa b c d e f g=>K yck 7 [a, b, c, d, e, f, g]).1 zdB zdW zeA zfs zft zgM zh6
def zKr:PC:=(⟨_, by conv=>rhs;ext a b c d e f g h;cbv⟩:Qc λa b c d e f g h=>K yck 8 [a, b, c, d, e, f, g, h]).1 zdB zdW zeA zfs zft zgM zh6 zke
theorem zCM:Zz.H 114 1 39 zKr [.cell 2 28]:=Zz.hc Tryz.func39
def zKs:PC:=(⟨_, by conv=>rhs;cbv⟩:Qc (K Tryz.f40 0 [])).1
theorem zCN:Zz.H 8 2 40 zKs []:=Zz.hc Tryz.func40
def zLI:PC:=(⟨_, by conv=>rhs;cbv⟩:Qc (K Tryz.f41 0 [])).1
theorem zCO:Zz.H 9 1 41 zLI [.tmp 2]:=Zz.hc Tryz.func41
def zKt:PC:=(⟨_, by conv=>rhs;cbv⟩:Qc (K Tryz.f42 0 [])).1
theorem zCP:Zz.H 14 1 42 zKt [.tmp 2]:=Zz.hc Tryz.func42
def zGx:PC:=(⟨_, by conv=>rhs;cbv⟩:Qc (K Tryz.f43 0 [])).1
theorem zCQ:Zz.H 10 2 43 zGx [.tmp 4]:=Zz.hc Tryz.func43
def zLJ:PC:=(⟨_, by conv=>rhs;cbv⟩:Qc (K Tryz.f44 0 [])).1
theorem zCR:Zz.H 12 2 44 zLJ [.tmp 4]:=Zz.hc Tryz.func44
def zh7:PC:=(⟨_, by conv=>rhs;cbv⟩:Qc (K ycl 0 [])).1
def zb3:PC:=(⟨_, by conv=>rhs;ext a;cbv⟩:Qc λa=>K ycl 1 [a]).1 zh7
def zgN:PC:=(⟨_, by conv=>rhs;ext a b;cbv⟩:Qc λa b=>K ycl 2 [a, b]).1 zh7 zb3
def zuw:PC:=(⟨_, by conv=>rhs;ext a b c;cbv⟩:Qc λa b c=>K ycl 3 [a, b, c]).1 zh7 zb3 zgN
def zLK:PC:=(⟨_, by conv=>rhs;ext a b c d;cbv⟩:Qc λa b c d=>K ycl 4 [a, b, c, d]).1 zh7 zb3 zgN zuw
theorem zCS:Zz.H 36 1 45 zLK [.tmp 2]:=Zz.hc Tryz.func45
def zLL:PC:=(⟨_, by conv=>rhs;cbv⟩:Qc (K Tryz.f46 0 [])).1
theorem zCT:Zz.H 8 1 46 zLL [.tmp 2]:=Zz.hc Tryz.func46
def zh8:PC:=(⟨_, by conv=>rhs;cbv⟩:Qc (K ycm 0 [])).1
def zkf:PC:=(⟨_,by delta a b c d i l m t;exact rfl⟩:Zz.Q (.seq (.both [[m 24 3,m 25 4,m 27 0,d 28 (.indexAddr 44 (t 27) (i 0)),l 29 3 28,b
 30 .sub 3 (i 128) (t 29) 3,⟨some 26,.call ⟨.value (.func 35),#[t 25],#[3]⟩,none,[⟨none,3,t 28,29⟩]⟩,d 31 (.convert 3 5 (t 30)),d 32 (.buildSlice 32 1 #[(0,t
 31)]),d 33 (.call ⟨.builtin .append,#[t 26,t 32],#[32,32]⟩),d 34 (.buildSlice 64 1 #[(0,t 33)]),d 35 (.call ⟨.builtin .append,#[t 24,t 34],#[64,64]⟩),a 3
 35],[m 24 3,m 25 4,m 27 0,d 28 (.indexAddr 44 (t 27) (i 0)),l 29 3 28,b 30 .sub 3 (i 128) (t 29) 3,d 31 (.convert 3 5 (t 30)),d 32 (.buildSlice 32 1 #[(0,t
 31)]),c 26 35 #[t 25] #[3],d 33 (.call ⟨.builtin .append,#[t 26,t 32],#[32,32]⟩),d 34 (.buildSlice 64 1 #[(0,t 33)]),d 35 (.call ⟨.builtin .append,#[t 24,t
 34],#[64,64]⟩),a 3 35]]) (.ops [m 36 0,m 37 4,d 38 (.slice 44 (t 36) (some (t 37)) none none),a 0 38]))).1
def zmZ:PC:=(⟨_, by conv=>rhs;ext a b;cbv⟩:Qc λa b=>K ycm 2 [a, b]).1 zh8 zkf
def zpZ:PC:=(⟨_, by conv=>rhs;ext a b c;cbv⟩:Qc λa b c=>K ycm 3 [a, b, c]).1 zh8 zkf zmZ
def zLM:PC:=(⟨_, by conv=>rhs;ext a b c d;cbv⟩:Qc λa b c d=>K ycm 4 [a, b, c, d]).1 zh8 zkf zmZ zpZ
theorem zCU:Zz.H 41 1 47 zLM [.tmp 2]:=Zz.hc Tryz.func47
def zeB:PC:=(⟨_, by conv=>rhs;cbv⟩:Qc (K ycn 0 [])).1
def zp0:PC:=(⟨_, by conv=>rhs;ext a;cbv⟩:Qc λa=>K ycn 1 [a]).1 zeB
def zLN:PC:=(⟨_, by conv=>rhs;ext a b;cbv⟩:Qc λa b=>K ycn 2 [a, b]).1 zeB zp0
theorem zCV:Zz.H 89 2 48 zLN [.tmp 4]:=Zz.hc Tryz.func48
def zLO:PC:=(⟨_, by conv=>rhs;cbv⟩:Qc (K Tryz.f49 0 [])).1
theorem zCW:Zz.H 11 2 49 zLO [.tmp 4]:=Zz.hc Tryz.func49
def zLP:PC:=(⟨_, by conv=>rhs;cbv⟩:Qc (K Tryz.f50 0 [])).1
theorem zCX:Zz.H 9 1 50 zLP [.tmp 2]:=Zz.hc Tryz.func50
def zcI:PC:=(⟨_, by conv=>rhs;cbv⟩:Qc (K yco 0 [])).1
def zm0:PC:=(⟨_, by conv=>rhs;ext a;cbv⟩:Qc λa=>K yco 1 [a]).1 zcI
def zLQ:PC:=(⟨_, by conv=>rhs;ext a b;cbv⟩:Qc λa b=>K yco 2 [a, b]).1 zcI zm0
theorem zCY:Zz.H 53 1 51 zLQ [.tmp 2]:=Zz.hc Tryz.func51
def zon:PC:=(⟨_, by conv=>rhs;cbv⟩:Qc (Kp Tryz.f52 [1] 0 [])).1
def zKu:PC:=(⟨_, by conv=>rhs;cbv⟩:Qc (K Tryz.f53 0 [])).1
theorem zCZ:Zz.H 9 2 53 zKu []:=Zz.hc Tryz.func53
def zLR:PC:=(⟨_, by conv=>rhs;cbv⟩:Qc (K Tryz.f54 0 [])).1
theorem zC0:Zz.H 51 1 54 zLR []:=Zz.hc Tryz.func54
def zdX:PC:=(⟨_, by conv=>rhs;cbv⟩:Qc (K ycp 0 [])).1
def zfu:PC:=(⟨_, by conv=>rhs;ext a;cbv⟩:Qc λa=>K ycp 1 [a]).1 zdX
def zgO:PC:=(⟨_, by conv=>rhs;ext a b;cbv⟩:Qc λa b=>K ycp 2 [a, b]).1 zdX zfu
def zh9:PC:=(⟨_, by conv=>rhs;ext a b c;cbv⟩:Qc λa b c=>K ycp 3 [a, b, c]).1 zdX zfu zgO
def zgP:PC:=(⟨_, by conv=>rhs;ext a b c d;cbv⟩:Qc λa b c d=>K ycp 4 [a, b, c, d]).1 zdX zfu zgO zh9
def zm1:PC:=(⟨_, by conv=>rhs;ext a b c d e;cbv⟩:Qc λa b c d e=>K ycp 5 [a, b, c, d, e]).1 zdX zfu zgO zh9 zgP
def zp1:PC:=(⟨_, by conv=>rhs;ext a b c d e f;cbv⟩:Qc λa b c d e f=>K ycp 6 [a, b, c, d, e, f]).1 zdX zfu zgO zh9 zgP zm1
def zux:PC:=(⟨_, by conv=>rhs;ext a b c d e f g;cbv⟩:Qc λa b c d e f g=>K ycp 7 [a, b, c, d, e, f, g]).1 zdX zfu zgO zh9 zgP zm1 zp1
def zLS:PC:=(⟨_, by conv=>rhs;ext a b c d e f g h;cbv⟩:Qc λa b c d e f g h=>K ycp 8 [a, b, c, d, e, f, g, h]).1 zdX zfu zgO zh9 zgP zm1 zp1 zux
theorem zC1:Zz.H 106 1 57 zLS [.tmp 2]:=Zz.hc Tryz.func57
def zp2:PC:=(⟨_, by conv=>rhs;cbv⟩:Qc (K Tryz.f63 0 [])).1
def zLT:PC:=(⟨_, by conv=>rhs;ext a;cbv⟩:Qc λa=>K Tryz.f63 1 [a]).1 zp2
theorem zC2:Zz.H 27 2 63 zLT []:=Zz.hc Tryz.func63
def zm2:PC:=(⟨_, by conv=>rhs;cbv⟩:Qc (K ycq 0 [])).1
def zuy:PC:=(⟨_, by conv=>rhs;ext a;cbv⟩:Qc λa=>K ycq 1 [a]).1 zm2
def zKv:PC:=(⟨_, by conv=>rhs;ext a b;cbv⟩:Qc λa b=>K ycq 2 [a, b]).1 zm2 zuy
theorem zC3:Zz.H 30 3 65 zKv []:=Zz.hc Tryz.func65
def zfv:PC:=(⟨_, by conv=>rhs;cbv⟩:Qc (K Tryz.f66 0 [])).1
def zLU:PC:=(⟨_, by conv=>rhs;ext a;cbv⟩:Qc λa=>K Tryz.f66 1 [a]).1 zfv
theorem zC4:Zz.H 75 3 66 zLU []:=Zz.hc Tryz.func66
def zLV:PC:=(⟨_, by conv=>rhs;cbv⟩:Qc (K Tryz.f67 0 [])).1
theorem zC5:Zz.H 14 1 67 zLV [.tmp 2]:=Zz.hc Tryz.func67
def zm3:PC:=(⟨_, by conv=>rhs;cbv⟩:Qc (K ycr 0 [])).1
def zuz:PC:=(⟨_, by conv=>rhs;ext a;cbv⟩:Qc λa=>K ycr 1 [a]).1 zm3
def zLW:PC:=(⟨_, by conv=>rhs;ext a b;cbv⟩:Qc λa b=>K ycr 2 [a, b]).1 zm3 zuz
theorem zC6:Zz.H 27 2 74 zLW [.tmp 4]:=Zz.hc Tryz.func74
def zgQ:PC:=(⟨_, by conv=>rhs;cbv⟩:Qc (K ycs 0 [])).1
def zp3:PC:=(⟨_, by conv=>rhs;ext a;cbv⟩:Qc λa=>K ycs 1 [a]).1 zgQ
def zJa:PC:=(⟨_, by conv=>rhs;ext a b;cbv⟩:Qc λa b=>K ycs 2 [a, b]).1 zgQ zp3
theorem zuA:Zz.H 27 2 79 zJa [.tmp 4]:=Zz.hc Tryz.func79
def zrl:PC:=(⟨_, by conv=>rhs;cbv⟩:Qc (Kp Tryz.f80 [1] 0 [])).1
def zKw:PC:=(⟨_, by conv=>rhs;cbv⟩:Qc (K Tryz.f81 0 [])).1
theorem zC7:Zz.H 58 3 81 zKw [.tmp 6]:=Zz.hc Tryz.func81
def zJb:PC:=(⟨_, by conv=>rhs;cbv⟩:Qc (K Tryz.f87 0 [])).1
theorem zC8:Zz.H 34 2 87 zJb [.tmp 4]:=Zz.hc Tryz.func87
def zkg:PC:=(⟨_, by conv=>rhs;cbv⟩:Qc (K yct 0 [])).1
def zkh:PC:=(⟨_, by conv=>rhs;ext a;cbv⟩:Qc λa=>K yct 1 [a]).1 zkg
def zLX:PC:=(⟨_, by conv=>rhs;ext a b;cbv⟩:Qc λa b=>K yct 2 [a, b]).1 zkg zkh
theorem zC9:Zz.H 36 1 88 zLX [.tmp 2]:=Zz.hc Tryz.func88
def zLY:PC:=(⟨_, by conv=>rhs;cbv⟩:Qc (K Tryz.f89 0 [])).1
theorem zDa:Zz.H 13 2 89 zLY []:=Zz.hc Tryz.func89
def zp4:PC:=(⟨_, by conv=>rhs;cbv⟩:Qc (K Tryz.f90 0 [])).1
def zLZ:PC:=(⟨_, by conv=>rhs;ext a;cbv⟩:Qc λa=>K Tryz.f90 1 [a]).1 zp4
theorem zDb:Zz.H 42 2 90 zLZ [.tmp 4]:=Zz.hc Tryz.func90
def zki:PC:=(⟨_, by conv=>rhs;cbv⟩:Qc (K ycu 0 [])).1
def zm4:PC:=(⟨_, by conv=>rhs;ext a;cbv⟩:Qc λa=>K ycu 1 [a]).1 zki
def zL0:PC:=(⟨_, by conv=>rhs;ext a b;cbv⟩:Qc λa b=>K ycu 2 [a, b]).1 zki zm4
theorem zDc:Zz.H 63 2 91 zL0 []:=Zz.hc Tryz.func91
def zJc:PC:=(⟨_, by conv=>rhs;cbv⟩:Qc (K Tryz.f92 0 [])).1
theorem zDd:Zz.H 9 1 92 zJc [.tmp 2]:=Zz.hc Tryz.func92
def zL1:PC:=(⟨_, by conv=>rhs;cbv⟩:Qc (K Tryz.f93 0 [])).1
theorem zDe:Zz.H 9 2 93 zL1 [.tmp 4]:=Zz.hc Tryz.func93
def zL2:PC:=(⟨_, by conv=>rhs;cbv⟩:Qc (K Tryz.f94 0 [])).1
theorem zDf:Zz.H 25 2 94 zL2 [.tmp 3]:=Zz.hc Tryz.func94
def zKx:PC:=(⟨_, by conv=>rhs;cbv⟩:Qc (K Tryz.f95 0 [])).1
theorem zuB:Zz.H 9 2 95 zKx [.tmp 4]:=Zz.hc Tryz.func95
def zKy:PC:=(⟨_, by conv=>rhs;cbv⟩:Qc (K Tryz.f96 0 [])).1
theorem zDg:Zz.H 11 1 96 zKy [.tmp 2]:=Zz.hc Tryz.func96
def zL3:PC:=(⟨_, by conv=>rhs;cbv⟩:Qc (K Tryz.f97 0 [])).1
theorem zDh:Zz.H 8 2 97 zL3 [.tmp 3]:=Zz.hc Tryz.func97
def zL4:PC:=(⟨_, by conv=>rhs;cbv⟩:Qc (K Tryz.f98 0 [])).1
theorem zDi:Zz.H 9 2 98 zL4 [.tmp 4]:=Zz.hc Tryz.func98
def zL5:PC:=(⟨_, by conv=>rhs;cbv⟩:Qc (K Tryz.f99 0 [])).1
theorem zDj:Zz.H 7 2 99 zL5 [.tmp 3]:=Zz.hc Tryz.func99
def zGy:PC:=(⟨_, by conv=>rhs;cbv⟩:Qc (K Tryz.f100 0 [])).1
theorem zxg:Zz.H 9 2 100 zGy [.tmp 4]:=Zz.hc Tryz.func100
def zje:PC:=(⟨_, by conv=>rhs;cbv⟩:Qc (K ycv 0 [])).1
def zrm:PC:=(⟨_, by conv=>rhs;ext a;cbv⟩:Qc λa=>K ycv 1 [a]).1 zje
def zGz:PC:=(⟨_, by conv=>rhs;ext a b;cbv⟩:Qc λa b=>K ycv 2 [a, b]).1 zje zrm
theorem zxh:Zz.H 23 1 101 zGz [.tmp 2]:=Zz.hc Tryz.func101
def zDk:PC:=(⟨_, by conv=>rhs;cbv⟩:Qc (K Tryz.f102 0 [])).1
theorem zxi:Zz.H 9 1 102 zDk [.tmp 2]:=Zz.hc Tryz.func102
def zDl:PC:=(⟨_, by conv=>rhs;cbv⟩:Qc (K Tryz.f103 0 [])).1
theorem zxj:Zz.H 27 2 103 zDl [.tmp 4]:=Zz.hc Tryz.func103
def zhg:PC:=(⟨_, by conv=>rhs;cbv⟩:Qc (K ycw 0 [])).1
def zjf:PC:=(⟨_, by conv=>rhs;ext a;cbv⟩:Qc λa=>K ycw 1 [a]).1 zhg
def zf1:PC:=(⟨_, by conv=>rhs;ext a b;cbv⟩:Qc λa b=>K ycw 2 [a, b]).1 zhg zjf
def zjg:PC:=(⟨_, by conv=>rhs;ext a b c;cbv⟩:Qc λa b c=>K ycw 3 [a, b, c]).1 zhg zjf zf1
def zuC:PC:=(⟨_, by conv=>rhs;ext a b c d;cbv⟩:Qc λa b c d=>K ycw 4 [a, b, c, d]).1 zhg zjf zf1 zjg
theorem zrn:Zz.H 71 1 104 zuC [.tmp 2]:=Zz.hc Tryz.func104
def zhh:PC:=(⟨_, by conv=>rhs;cbv⟩:Qc (K ycx 0 [])).1
def zhi:PC:=(⟨_, by conv=>rhs;ext a;cbv⟩:Qc λa=>K ycx 1 [a]).1 zhh
def zhj:PC:=(⟨_, by conv=>rhs;ext a b;cbv⟩:Qc λa b=>K ycx 2 [a, b]).1 zhh zhi
def zro:PC:=(⟨_, by conv=>rhs;ext a b c;cbv⟩:Qc λa b c=>K ycx 3 [a, b, c]).1 zhh zhi zhj
def zGA:PC:=(⟨_, by conv=>rhs;ext a b c d;cbv⟩:Qc λa b c d=>K ycx 4 [a, b, c, d]).1 zhh zhi zhj zro
theorem zxk:Zz.H 36 1 105 zGA [.tmp 2]:=Zz.hc Tryz.func105
def zGB:PC:=(⟨_, by conv=>rhs;cbv⟩:Qc (K Tryz.f106 0 [])).1
theorem zxl:Zz.H 6 1 106 zGB [.tmp 2]:=Zz.hc Tryz.func106
def zxm:PC:=(⟨_, by conv=>rhs;cbv⟩:Qc (K Tryz.f107 0 [])).1
theorem zxn:Zz.H 9 1 107 zxm [.tmp 2]:=Zz.hc Tryz.func107
def zcr:PC:=(⟨_, by conv=>rhs;cbv⟩:Qc (K ycy 0 [])).1
def zf2:PC:=(⟨_, by conv=>rhs;ext a;cbv⟩:Qc λa=>K ycy 1 [a]).1 zcr
def zf3:PC:=(⟨_, by conv=>rhs;ext a b;cbv⟩:Qc λa b=>K ycy 2 [a, b]).1 zcr zf2
def zjh:PC:=(⟨_, by conv=>rhs;ext a b c;cbv⟩:Qc λa b c=>K ycy 3 [a, b, c]).1 zcr zf2 zf3
def zji:PC:=(⟨_, by conv=>rhs;ext a b c d;cbv⟩:Qc λa b c d=>K ycy 4 [a, b, c, d]).1 zcr zf2 zf3 zjh
def zrp:PC:=(⟨_, by conv=>rhs;ext a b c d e;cbv⟩:Qc λa b c d e=>K ycy 5 [a, b, c, d, e]).1 zcr zf2 zf3 zjh zji
def zDm:PC:=(⟨_, by conv=>rhs;ext a b c d e f;cbv⟩:Qc λa b c d e f=>K ycy 6 [a, b, c, d, e, f]).1 zcr zf2 zf3 zjh zji zrp
theorem zxo:Zz.H 77 1 108 zDm []:=Zz.hc Tryz.func108
def zf4:PC:=(⟨_, by conv=>rhs;cbv⟩:Qc (K ycz 0 [])).1
def zjj:PC:=(⟨_, by conv=>rhs;ext a;cbv⟩:Qc λa=>K ycz 1 [a]).1 zf4
def zGC:PC:=(⟨_, by conv=>rhs;ext a b;cbv⟩:Qc λa b=>K ycz 2 [a, b]).1 zf4 zjj
theorem zxp:Zz.H 41 3 109 zGC []:=Zz.hc Tryz.func109
def zDn:PC:=(⟨_, by conv=>rhs;cbv⟩:Qc (K Tryz.f127 0 [])).1
theorem zxq:Zz.H 8 1 127 zDn [.tmp 2]:=Zz.hc Tryz.func127
def zGD:PC:=(⟨_, by conv=>rhs;cbv⟩:Qc (K Tryz.f128 0 [])).1
theorem zxr:Zz.H 17 2 128 zGD [.tmp 4]:=Zz.hc Tryz.func128
def zGE:PC:=(⟨_, by conv=>rhs;cbv⟩:Qc (K Tryz.f129 0 [])).1
theorem zxs:Zz.H 19 2 129 zGE [.tmp 4, .tmp 5]:=Zz.hc Tryz.func129
def zDo:PC:=(⟨_, by conv=>rhs;cbv⟩:Qc (K Tryz.f131 0 [])).1
theorem zxt:Zz.H 8 1 131 zDo [.tmp 2]:=Zz.hc Tryz.func131
def zxu:PC:=(⟨_, by conv=>rhs;cbv⟩:Qc (K Tryz.f132 0 [])).1
theorem zxv:Zz.H 8 1 132 zxu [.tmp 2]:=Zz.hc Tryz.func132
def zgl:PC:=(⟨_, by conv=>rhs;cbv⟩:Qc (K Tryz.f133 0 [])).1
theorem zxw:Zz.H 62 1 133 zgl [.tmp 2]:=Zz.hc Tryz.func133
def zGF:PC:=(⟨_, by conv=>rhs;cbv⟩:Qc (K Tryz.f134 0 [])).1
theorem zxx:Zz.H 22 1 134 zGF [.cell 2 53, .tmp 3]:=Zz.hc Tryz.func134
def zGG:PC:=(⟨_, by conv=>rhs;cbv⟩:Qc (K Tryz.f140 0 [])).1
theorem zxy:Zz.H 38 2 140 zGG [.tmp 4]:=Zz.hc Tryz.func140
def zDp:PC:=(⟨_, by conv=>rhs;cbv⟩:Qc (K Tryz.f145 0 [])).1
theorem zxz:Zz.H 7 1 145 zDp []:=Zz.hc Tryz.func145
def zbG:PC:=(⟨_, by conv=>rhs;cbv⟩:Qc (K ycA 0 [])).1
def zjk:PC:=(⟨_, by conv=>rhs;ext a;cbv⟩:Qc λa=>K ycA 1 [a]).1 zbG
def zGH:PC:=(⟨_, by conv=>rhs;ext a b;cbv⟩:Qc λa b=>K ycA 2 [a, b]).1 zbG zjk
theorem zxA:Zz.H 82 4 146 zGH [.tmp 8]:=Zz.hc Tryz.func146
def zGI:PC:=(⟨_, by conv=>rhs;cbv⟩:Qc (K Tryz.f147 0 [])).1
theorem zxB:Zz.H 31 1 147 zGI [.tmp 2]:=Zz.hc Tryz.func147
def zhk:PC:=(⟨_, by conv=>rhs;cbv⟩:Qc (K ycB 0 [])).1
def zhl:PC:=(⟨_, by conv=>rhs;ext a;cbv⟩:Qc λa=>K ycB 1 [a]).1 zhk
def zGJ:PC:=(⟨_, by conv=>rhs;ext a b;cbv⟩:Qc λa b=>K ycB 2 [a, b]).1 zhk zhl
theorem zxC:Zz.H 18 1 150 zGJ [.tmp 2]:=Zz.hc Tryz.func150
def zjl:PC:=(⟨_, by conv=>rhs;cbv⟩:Qc (K ycC 0 [])).1
def zrq:PC:=(⟨_, by conv=>rhs;ext a;cbv⟩:Qc λa=>K ycC 1 [a]).1 zjl
def zGK:PC:=(⟨_, by conv=>rhs;ext a b;cbv⟩:Qc λa b=>K ycC 2 [a, b]).1 zjl zrq
theorem zxD:Zz.H 48 2 151 zGK [.tmp 4]:=Zz.hc Tryz.func151
def zm5:PC:=(⟨_, by conv=>rhs;cbv⟩:Qc (K Tryz.f152 0 [])).1
def zGL:PC:=(⟨_, by conv=>rhs;ext a;cbv⟩:Qc λa=>K Tryz.f152 1 [a]).1 zm5
theorem zxE:Zz.H 42 2 152 zGL [.tmp 4, .tmp 5]:=Zz.hc Tryz.func152
def zjm:PC:=(⟨_, by conv=>rhs;cbv⟩:Qc (K ycD 0 [])).1
def zrr:PC:=(⟨_, by conv=>rhs;ext a;cbv⟩:Qc λa=>K ycD 1 [a]).1 zjm
def zGM:PC:=(⟨_, by conv=>rhs;ext a b;cbv⟩:Qc λa b=>K ycD 2 [a, b]).1 zjm zrr
theorem zxF:Zz.H 19 2 153 zGM [.tmp 4]:=Zz.hc Tryz.func153
def zf5:PC:=(⟨_, by conv=>rhs;cbv⟩:Qc (K ycE 0 [])).1
def zm6:PC:=(⟨_, by conv=>rhs;ext a;cbv⟩:Qc λa=>K ycE 1 [a]).1 zf5
def zDq:PC:=(⟨_, by conv=>rhs;ext a b;cbv⟩:Qc λa b=>K ycE 2 [a, b]).1 zf5 zm6
theorem zrs:Zz.H 19 2 154 zDq [.tmp 4]:=Zz.hc Tryz.func154
def zjn:PC:=(⟨_, by conv=>rhs;cbv⟩:Qc (K ycF 0 [])).1
def zrt:PC:=(⟨_, by conv=>rhs;ext a;cbv⟩:Qc λa=>K ycF 1 [a]).1 zjn
def zGN:PC:=(⟨_, by conv=>rhs;ext a b;cbv⟩:Qc λa b=>K ycF 2 [a, b]).1 zjn zrt
theorem zxG:Zz.H 19 2 155 zGN [.tmp 4]:=Zz.hc Tryz.func155
def zjo:PC:=(⟨_, by conv=>rhs;cbv⟩:Qc (K ycG 0 [])).1
def zru:PC:=(⟨_, by conv=>rhs;ext a;cbv⟩:Qc λa=>K ycG 1 [a]).1 zjo
def zGO:PC:=(⟨_, by conv=>rhs;ext a b;cbv⟩:Qc λa b=>K ycG 2 [a, b]).1 zjo zru
theorem zxH:Zz.H 19 2 156 zGO [.tmp 4]:=Zz.hc Tryz.func156
def zhm:PC:=(⟨_, by conv=>rhs;cbv⟩:Qc (K ycH 0 [])).1
def zrv:PC:=(⟨_, by conv=>rhs;ext a;cbv⟩:Qc λa=>K ycH 1 [a]).1 zhm
def zGP:PC:=(⟨_, by conv=>rhs;ext a b;cbv⟩:Qc λa b=>K ycH 2 [a, b]).1 zhm zrv
theorem zxI:Zz.H 19 2 157 zGP [.tmp 4]:=Zz.hc Tryz.func157
def zDr:PC:=(⟨_, by conv=>rhs;cbv⟩:Qc (K Tryz.f158 0 [])).1
theorem zxJ:Zz.H 27 2 158 zDr [.tmp 4]:=Zz.hc Tryz.func158
def zsG:PC:=(⟨_, by conv=>rhs;cbv⟩:Qc (K Tryz.f159 0 [])).1
theorem zxK:Zz.H 30 1 159 zsG [.tmp 2]:=Zz.hc Tryz.func159
def zGQ:PC:=(⟨_, by conv=>rhs;cbv⟩:Qc (K Tryz.f160 0 [])).1
theorem zxL:Zz.H 9 2 160 zGQ [.tmp 4]:=Zz.hc Tryz.func160
def zGR:PC:=(⟨_, by conv=>rhs;cbv⟩:Qc (K Tryz.f161 0 [])).1
theorem zxM:Zz.H 110 2 161 zGR []:=Zz.hc Tryz.func161
def zDs:PC:=(⟨_, by conv=>rhs;cbv⟩:Qc (K Tryz.f162 0 [])).1
theorem zxN:Zz.H 22 1 162 zDs []:=Zz.hc Tryz.func162
def zxO:PC:=(⟨_, by conv=>rhs;cbv⟩:Qc (K Tryz.f177 0 [])).1
theorem zxP:Zz.H 15 3 177 zxO [.tmp 6]:=Zz.hc Tryz.func177
def zjp:PC:=(⟨_, by conv=>rhs;cbv⟩:Qc (K ycI 0 [])).1
def zrw:PC:=(⟨_, by conv=>rhs;ext a;cbv⟩:Qc λa=>K ycI 1 [a]).1 zjp
def zGS:PC:=(⟨_, by conv=>rhs;ext a b;cbv⟩:Qc λa b=>K ycI 2 [a, b]).1 zjp zrw
theorem zxQ:Zz.H 27 2 180 zGS [.tmp 4]:=Zz.hc Tryz.func180
def zf6:PC:=(⟨_, by conv=>rhs;cbv⟩:Qc (K ycJ 0 [])).1
def zf7:PC:=(⟨_, by conv=>rhs;ext a;cbv⟩:Qc λa=>K ycJ 1 [a]).1 zf6
def zDt:PC:=(⟨_, by conv=>rhs;ext a b;cbv⟩:Qc λa b=>K ycJ 2 [a, b]).1 zf6 zf7
theorem zxR:Zz.H 41 4 181 zDt [.tmp 8]:=Zz.hc Tryz.func181
def zp5:PC:=(⟨_, by conv=>rhs;cbv⟩:Qc (K Tryz.f182 0 [])).1
theorem zxS:Zz.H 37 3 182 zp5 [.tmp 6]:=Zz.hc Tryz.func182
def zm7:PC:=(⟨_, by conv=>rhs;cbv⟩:Qc (K Tryz.f183 0 [])).1
def zia:PC:=(⟨_, by conv=>rhs;ext a;cbv⟩:Qc λa=>K Tryz.f183 1 [a]).1 zm7
theorem zxT:Zz.H 136 3 183 zia []:=Zz.hc Tryz.func183
def zeC:PC:=(⟨_, by conv=>rhs;cbv⟩:Qc (K ycK 0 [])).1
def zjq:PC:=(⟨_, by conv=>rhs;ext a;cbv⟩:Qc λa=>K ycK 1 [a]).1 zeC
def zib:PC:=(⟨_, by conv=>rhs;ext a b;cbv⟩:Qc λa b=>K ycK 2 [a, b]).1 zeC zjq
theorem zxU:Zz.H 105 3 189 zib [.cell 6 53]:=Zz.hc Tryz.func189
def zhn:PC:=(⟨_, by conv=>rhs;cbv⟩:Qc (K ycL 0 [])).1
def zrx:PC:=(⟨_, by conv=>rhs;ext a;cbv⟩:Qc λa=>K ycL 1 [a]).1 zhn
def zGT:PC:=(⟨_, by conv=>rhs;ext a b;cbv⟩:Qc λa b=>K ycL 2 [a, b]).1 zhn zrx
theorem zxV:Zz.H 19 2 190 zGT [.tmp 4]:=Zz.hc Tryz.func190
def zm8:PC:=(⟨_, by conv=>rhs;cbv⟩:Qc (K Tryz.f191 0 [])).1
theorem zxW:Zz.H 38 1 191 zm8 [.tmp 2]:=Zz.hc Tryz.func191
def zll:PC:=(⟨_,by delta A C S a b c d f i l m n s t w;exact rfl⟩:Zz.Q (S [d 3 (.box 53 (t 1)),A 4 (.const (.bool false))] (.seq (S [f 7 53
 3 0,l 8 3 7] (.block 0 (S [b 10 .eql 3 (t 8) (i 1) 3,a 9 10] (C 9 (S [f 11 53 3 1,l 12 3 11,f 13 53 3 2,l 14 3 13,f 16 53 3 2,l 17 3 16,⟨some 15,.call ⟨.value
 (.func 220),#[t 12,t 14],#[3,3]⟩,none,[⟨none,3,t 16,17⟩]⟩,b 18 .eql 3 (t 15) (t 17) 3,a 4 18] .ret) (.seq (S [b 20 .eql 3 (t 8) (i 2) 3,a 19 20] (C 19 .skip
 (.ops [b 21 .eql 3 (t 8) (i 3) 3,a 19 21]))) (C 19 (S [f 22 53 3 2,l 23 3 22,b 24 .geq 3 (t 23) (i 0) 3,m 25 24,w 26 (.fieldAddr 53 (t 3) 2) 25 true,w 27
 (.load 3 (t 26)) 25 true,w 28 (.move (t 0)) 25 true,w 29 (.nilCheck (t 28)) 25 true,w 30 (.fieldAddr 192 (t 29) 0) 25 true,w 31 (.load 72 (t 30)) 25 true,w 32
 (.nilCheck (t 31)) 25 true,w 33 (.fieldAddr 74 (t 32) 2) 25 true,w 34 (.load 44 (t 33)) 25 true,w 35 (.call ⟨.builtin .len,#[t 34],#[44]⟩) 25 true,w 36 (.binOp
 .lss 3 (t 27) (t 35) 3) 25 true,d 37 (.pick (t 25) (t 36) (.const (.bool false))),a 4 37] .ret) (S [b 39 .eql 3 (t 8) (i 10) 3,a 38 39] (C 38 (.seq (.both [[m
 41 0,n 42 41,f 43 192 42 0,l 44 72 43,n 45 44,f 46 74 45 0,l 47 28 46,f 48 53 3 2,l 49 3 48,c 50 229 #[t 47,t 49] #[28,3],m 40 50,d 51 (.extract (t 40) 0),d 52
 (.extract (t 40) 1),d 5 (.alloc 265),s 265 5 51,a 6 52],[m 41 0,n 42 41,f 43 192 42 0,l 44 72 43,n 45 44,f 46 74 45 0,l 47 28 46,f 48 53 3 2,l 49 3 48,⟨some
 5,.alloc 265,none,[⟨none,72,t 43,44⟩,⟨none,28,t 46,47⟩,⟨none,3,t 48,49⟩]⟩,c 50 229 #[t 47,t 49] #[28,3],m 40 50,d 51 (.extract (t 40) 0),d 52 (.extract (t 40)
 1),s 265 5 51,a 6 52]]) (S [m 53 6,a 4 53] .ret)) (.seq (S [b 55 .eql 3 (t 8) (i 14) 3,a 54 55] (C 54 .skip (.ops [b 56 .eql 3 (t 8) (i 15) 3,a 54 56]))) (C 54
 (S [f 57 53 3 2,l 58 3 57,b 59 .geq 3 (t 58) (i 0) 3,m 60 59,w 61 (.fieldAddr 53 (t 3) 2) 60 true,w 62 (.load 3 (t 61)) 60 true,w 63 (.move (t 0)) 60 true,w 64
 (.nilCheck (t 63)) 60 true,w 65 (.fieldAddr 192 (t 64) 3) 60 true,w 66 (.load 3 (t 65)) 60 true,w 67 (.binOp .leq 3 (t 62) (t 66) 3) 60 true,d 68 (.pick (t 60)
 (t 67) (.const (.bool false))),a 4 68] .ret) .skip)))))))))) (S [A 4 (.const (.bool true))] .ret)))).1
theorem zxX:Zz.H 69 2 192 zll [.tmp 4]:=Zz.hc Tryz.func192
def zuD:PC:=(⟨_, by conv=>rhs;cbv⟩:Qc (Kp ycM [0] 0 [])).1
def zry:PC:=(⟨_, by conv=>rhs;cbv⟩:Qc (Kp ycM [1, 0] 0 [])).1
def zfw:PC:=(⟨_, by conv=>rhs;cbv⟩:Qc (Kp ycM [1, 1, 2] 0 [])).1
def zfx:PC:=(⟨_, by conv=>rhs;cbv⟩:Qc (Kp ycM [1, 1, 3] 0 [])).1
def zuE:PC:=(⟨_, by conv=>rhs;cbv⟩:Qc (K Tryz.f194 0 [])).1
theorem zxY:Zz.H 16 2 194 zuE []:=Zz.hc Tryz.func194
def zGU:PC:=(⟨_, by conv=>rhs;cbv⟩:Qc (K Tryz.f195 0 [])).1
theorem zxZ:Zz.H 8 1 195 zGU []:=Zz.hc Tryz.func195
def zGV:PC:=(⟨_,by delta C S a b c d f i l m n s t x;exact rfl⟩:Zz.Q (S [d 3 (.box 53 (t 1))] (S [f 6 53 3 0,l 7 3 6] (.block 0 (S [b 9 .eql
 3 (t 7) (i 1) 3,a 8 9] (C 8 (.ops [m 10 0,f 11 53 3 1,l 12 3 11,c 13 194 #[t 10,t 12] #[190,3]]) (S [b 15 .eql 3 (t 7) (i 2) 3,a 14 15] (C 14 (.ops [m 16 0,m
 17 0,n 18 17,f 19 192 18 0,l 20 72 19,n 21 20,f 22 74 21 2,l 23 44 22,f 24 53 3 2,l 25 3 24,x 26 44 23 25,l 27 3 26,c 28 194 #[t 16,t 27] #[190,3]]) (S [b 30
 .eql 3 (t 7) (i 3) 3,a 29 30] (C 29 (.ops [m 31 0,m 32 0,n 33 32,f 34 192 33 0,l 35 72 34,n 36 35,f 37 74 36 2,l 38 44 37,f 39 53 3 2,l 40 3 39,x 41 44 38 40,l
 42 3 41,d 43 (.buildSlice 44 1 #[(0,t 42)]),c 44 193 #[t 31,t 43] #[190,44]]) (S [b 46 .eql 3 (t 7) (i 4) 3,a 45 46] (C 45 (S [m 47 0,f 48 53 3 1,l 49 3 48,f
 50 53 3 1,l 51 3 50,d 52 (.buildSlice 44 2 #[(0,t 49),(1,t 51)]),c 53 193 #[t 47,t 52] #[190,44]] (S [f 54 53 3 5,l 55 9 54,b 56 .add 9 (.const (.string
 ⟨#[32]⟩)) (t 55) 9,b 57 .add 9 (t 56) (.const (.string ⟨#[32]⟩)) 9,c 58 232 #[.const (.string
 ⟨#[32,101,113,32,110,101,32,108,116,95,115,32,108,101,95,115,32,103,116,95,115,32,103,101,95,115,32]⟩),t 57] #[9,9]] (C 58 (.ops [m 59 0,c 60 194 #[t 59,i 1]
 #[190,3]]) (.ops [m 61 0,f 62 53 3 1,l 63 3 62,c 64 194 #[t 61,t 63] #[190,3]])))) (S [b 66 .eql 3 (t 7) (i 5) 3,a 65 66] (C 65 (S [m 67 0,f 68 53 3 1,l 69 3
 68,d 70 (.buildSlice 44 1 #[(0,t 69)]),c 71 193 #[t 67,t 70] #[190,44]] (.ops [m 72 0,c 73 194 #[t 72,i 1] #[190,3]])) (S [b 75 .eql 3 (t 7) (i 6) 3,a 74 75]
 (C 74 (S [m 76 0,d 77 (.buildSlice 44 1 #[(0,i 2)]),c 78 193 #[t 76,t 77] #[190,44]] (.ops [m 79 0,c 80 194 #[t 79,i 1] #[190,3]])) (S [b 82 .eql 3 (t 7) (i 7)
 3,a 81 82] (C 81 (S [m 83 0,d 84 (.buildSlice 44 1 #[(0,i 1)]),c 85 193 #[t 83,t 84] #[190,44]] (.ops [m 86 0,c 87 194 #[t 86,i 2] #[190,3]])) (S [b 89 .eql 3
 (t 7) (i 8) 3,a 88 89] (C 88 (S [m 90 0,d 91 (.buildSlice 44 1 #[(0,i 1)]),c 92 193 #[t 90,t 91] #[190,44]] (.ops [m 93 0,f 94 53 3 1,l 95 3 94,c 96 194 #[t
 93,t 95] #[190,3]])) (S [b 98 .eql 3 (t 7) (i 9) 3,a 97 98] (C 97 (.ops [m 99 0,f 100 53 3 1,l 101 3 100,d 102 (.buildSlice 44 2 #[(0,i 1),(1,t 101)]),c 103
 193 #[t 99,t 102] #[190,44]]) (S [b 105 .eql 3 (t 7) (i 10) 3,a 104 105] (C 104 (.seq (.both [[m 107 0,n 108 107,f 109 192 108 0,l 110 72 109,n 111 110,f 112
 74 111 0,l 113 28 112,f 114 53 3 2,l 115 3 114,c 116 229 #[t 113,t 115] #[28,3],m 106 116,d 117 (.extract (t 106) 0),d 118 (.extract (t 106) 1),d 4 (.alloc
 265),s 265 4 117,a 5 118],[m 107 0,n 108 107,f 109 192 108 0,l 110 72 109,n 111 110,f 112 74 111 0,l 113 28 112,f 114 53 3 2,l 115 3 114,⟨some 4,.alloc
 265,none,[⟨none,72,t 109,110⟩,⟨none,28,t 112,113⟩,⟨none,3,t 114,115⟩]⟩,c 116 229 #[t 113,t 115] #[28,3],m 106 116,d 117 (.extract (t 106) 0),d 118 (.extract (t
 106) 1),s 265 4 117,a 5 118]]) (S [m 119 0,f 120 265 4 0,l 121 44 120,c 122 193 #[t 119,t 121] #[190,44]] (.ops [m 123 0,f 124 265 4 1,l 125 3 124,c 126 194
 #[t 123,t 125] #[190,3]]))) (S [b 128 .eql 3 (t 7) (i 18) 3,a 127 128] (C 127 (.ops [m 129 0,c 130 231 #[t 129] #[190]]) .skip)))))))))))))))))))))))))).1
theorem zx0:Zz.H 131 2 196 zGV []:=Zz.hc Tryz.func196
def zeD:PC:=(⟨_, by conv=>rhs;cbv⟩:Qc (K ycN 0 [])).1
def zjr:PC:=(⟨_, by conv=>rhs;ext a;cbv⟩:Qc λa=>K ycN 1 [a]).1 zeD
def zoo:PC:=(⟨_, by conv=>rhs;ext a b;cbv⟩:Qc λa b=>K ycN 2 [a, b]).1 zeD zjr
theorem zx1:Zz.H 27 2 216 zoo [.tmp 4]:=Zz.hc Tryz.func216
def zDu:PC:=(⟨_, by conv=>rhs;cbv⟩:Qc (K Tryz.f217 0 [])).1
theorem zx2:Zz.H 14 2 217 zDu []:=Zz.hc Tryz.func217
def zx3:PC:=(⟨_, by conv=>rhs;cbv⟩:Qc (K Tryz.f218 0 [])).1
theorem zx4:Zz.H 29 4 218 zx3 [.tmp 8, .tmp 9]:=Zz.hc Tryz.func218
def zho:PC:=(⟨_, by conv=>rhs;cbv⟩:Qc (K ycO 0 [])).1
def zrz:PC:=(⟨_, by conv=>rhs;ext a;cbv⟩:Qc λa=>K ycO 1 [a]).1 zho
def zGW:PC:=(⟨_, by conv=>rhs;ext a b;cbv⟩:Qc λa b=>K ycO 2 [a, b]).1 zho zrz
theorem zx5:Zz.H 16 1 219 zGW [.tmp 2]:=Zz.hc Tryz.func219
def zuF:PC:=(⟨_, by conv=>rhs;cbv⟩:Qc (K Tryz.f220 0 [])).1
theorem zx6:Zz.H 19 2 220 zuF [.tmp 4]:=Zz.hc Tryz.func220
def zjs:PC:=(⟨_, by conv=>rhs;cbv⟩:Qc (K ycP 0 [])).1
def zrA:PC:=(⟨_, by conv=>rhs;ext a;cbv⟩:Qc λa=>K ycP 1 [a]).1 zjs
def zGX:PC:=(⟨_, by conv=>rhs;ext a b;cbv⟩:Qc λa b=>K ycP 2 [a, b]).1 zjs zrA
theorem zx7:Zz.H 32 1 221 zGX [.tmp 2]:=Zz.hc Tryz.func221
def zx8:PC:=(⟨_, by conv=>rhs;cbv⟩:Qc (K Tryz.f222 0 [])).1
theorem zx9:Zz.H 30 3 222 zx8 [.tmp 6]:=Zz.hc Tryz.func222
def zsH:PC:=(⟨_, by conv=>rhs;cbv⟩:Qc (K Tryz.f223 0 [])).1
theorem zya:Zz.H 80 3 223 zsH []:=Zz.hc Tryz.func223
def zp6:PC:=(⟨_, by conv=>rhs;cbv⟩:Qc (K Tryz.f228 0 [])).1
theorem zyb:Zz.H 23 2 228 zp6 [.tmp 4]:=Zz.hc Tryz.func228
def zp7:PC:=(⟨_, by conv=>rhs;cbv⟩:Qc (K Tryz.f229 0 [])).1
theorem zyc:Zz.H 44 2 229 zp7 [.cell 4 265, .tmp 5]:=Zz.hc Tryz.func229
def zGY:PC:=(⟨_, by conv=>rhs;cbv⟩:Qc (K Tryz.f230 0 [])).1
theorem zyd:Zz.H 4 1 230 zGY [.tmp 2]:=Zz.hc Tryz.func230
def zp8:PC:=(⟨_, by conv=>rhs;cbv⟩:Qc (K Tryz.f231 0 [])).1
theorem zye:Zz.H 31 1 231 zp8 []:=Zz.hc Tryz.func231
def zyf:PC:=(⟨_, by conv=>rhs;cbv⟩:Qc (K Tryz.f245 0 [])).1
theorem zyg:Zz.H 34 4 245 zyf [.tmp 8, .tmp 9]:=Zz.hc Tryz.func245
def zyh:PC:=(⟨_, by conv=>rhs;cbv⟩:Qc (K Tryz.f246 0 [])).1
theorem zyi:Zz.H 32 4 246 zyh [.tmp 8, .tmp 9]:=Zz.hc Tryz.func246
def zDv:PC:=(⟨_, by conv=>rhs;cbv⟩:Qc (K Tryz.f247 0 [])).1
theorem zyj:Zz.H 25 1 247 zDv [.tmp 2]:=Zz.hc Tryz.func247
def zyk:PC:=(⟨_, by conv=>rhs;cbv⟩:Qc (K Tryz.f248 0 [])).1
theorem zyl:Zz.H 8 1 248 zyk [.tmp 2]:=Zz.hc Tryz.func248
def zf8:PC:=(⟨_, by conv=>rhs;cbv⟩:Qc (K Tryz.f250 0 [])).1
def zGZ:PC:=(⟨_, by conv=>rhs;ext a;cbv⟩:Qc λa=>K Tryz.f250 1 [a]).1 zf8
theorem zym:Zz.H 19 2 250 zGZ []:=Zz.hc Tryz.func250
def zop:PC:=(⟨_, by conv=>rhs;cbv⟩:Qc (K Tryz.f256 0 [])).1
theorem zyn:Zz.H 40 3 256 zop [.tmp 6, .tmp 7]:=Zz.hc Tryz.func256
def zgm:PC:=(⟨_, by conv=>rhs;cbv⟩:Qc (K Tryz.f257 0 [])).1
theorem zyo:Zz.H 93 4 257 zgm [.tmp 8]:=Zz.hc Tryz.func257
def zoq:PC:=(⟨_, by conv=>rhs;cbv⟩:Qc (K Tryz.f258 0 [])).1
theorem zyp:Zz.H 40 3 258 zoq [.tmp 6, .tmp 7]:=Zz.hc Tryz.func258
def zgn:PC:=(⟨_, by conv=>rhs;cbv⟩:Qc (K Tryz.f259 0 [])).1
theorem zyq:Zz.H 93 4 259 zgn [.tmp 8]:=Zz.hc Tryz.func259
def zG0:PC:=(⟨_, by conv=>rhs;cbv⟩:Qc (K Tryz.f262 0 [])).1
theorem zyr:Zz.H 4 1 262 zG0 [.tmp 2]:=Zz.hc Tryz.func262
def zG1:PC:=(⟨_, by conv=>rhs;cbv⟩:Qc (K Tryz.f263 0 [])).1
theorem zys:Zz.H 4 1 263 zG1 [.tmp 2]:=Zz.hc Tryz.func263
@[simp] theorem zBd:zdf yb9 32=some 1:=by kernel_rfl
@[simp] theorem zL6:zcg yb9 28=some 3/\zbl yb9 28/\za yb9 24/\za yb9 18/\za yb9 25/\zdf yb9 44=some 1/\za yb9 13/\za yb9 16/\zck yb9 32=false/\za yb9 14/\z9 yb9 28=some (.agg [.nilsl, (.int .i64 0), (.int .i64 0)])/\za yb9 26/\za yb9 15/\za yb9 17:=by and_intros<;>kernel_rfl
@[simp] theorem zBe:zbn yb9 32=some (.int .u8 0):=by kernel_rfl
@[simp] theorem zG2:zcn yb9 32=some 1:=by kernel_rfl
@[simp] theorem zJd:za yb9 20/\za yb9 28/\za yb9 27/\za yb9 29/\za yb9 34/\za yb9 35/\za yb9 36/\za yb9 22/\zcg yb9 5=some 1/\zbl yb9 5=false/\z9 yb9 33=some (.int .i64 0)/\zcg yb9 33=some 1/\zbl yb9 33=false/\za yb9 38:=by and_intros<;>kernel_rfl
@[simp] theorem zFc:zaE yb9 61/\zgj yb9 61/\z9 yb9 61=some (.agg [.nilsl, .nilsl, (.int .i64 0)])/\zcj yb9 61 0=some ⟨0, 1, false⟩/\za yb9 39/\zcg yb9 32=some 1/\zbl yb9 32=false/\za yb9 41/\za yb9 42/\za yb9 43/\za yb9 40/\za yb9 44/\zbn yb9 44=some (.int .i64 0)/\zdf yb9 64=some 1:=by and_intros<;>kernel_rfl
@[simp] theorem zL7:zbn yb9 64=some .nilsl/\zdf yb9 22=some 1/\zbn yb9 22=some (.str [])/\zcg yb9 9=some 1/\zbl yb9 9=false/\zq9 yb9 32/\za yb9 46/\zck yb9 9/\zeT yb9 5=some .u8/\za yb9 45/\zcn yb9 64=some 24/\zcj yb9 28 0=some ⟨0, 1, false⟩/\zcg yb9 26=some 1/\zbl yb9 26=false:=by and_intros<;>kernel_rfl
@[simp] theorem zL8:zdf yb9 26=some 5/\zcg yb9 57=some 5/\zbl yb9 57/\z9 yb9 57=some (.agg [(.str []), .nilsl, .nilsl, (.int .i64 0), .nilsl])/\zcj yb9 57 1=some ⟨1, 1, false⟩/\zcg yb9 44=some 1/\zbl yb9 44=false/\zcj yb9 57 3=some ⟨3, 1, false⟩/\zcg yb9 3=some 1/\zbl yb9 3=false/\zcj yb9 57 2=some ⟨2, 1, false⟩/\zcj yb9 57 4=some ⟨4, 1, false⟩/\zcg yb9 55=some 1/\zbl yb9 55=false:=by and_intros<;>kernel_rfl
@[simp] theorem zL9:zdf yb9 55=some 1/\za yb9 47/\za yb9 48/\zcj yb9 57 0=some ⟨0, 1, false⟩/\zcj yb9 28 1=some ⟨1, 1, false⟩/\zcj yb9 28 2=some ⟨2, 1, false⟩/\za yb9 50/\za yb9 49/\za yb9 51/\za yb9 53/\zaE yb9 74/\zgj yb9 74/\z9 yb9 74=some (.agg [.nilsl, (.int .i64 0), (.int .i64 0), (.str []), .nilsl, .nilsl, (.int .i64 0), .nilsl, .nilsl])/\zcj yb9 74 0=some ⟨0, 3, true⟩:=by and_intros<;>kernel_rfl
@[simp] theorem zJe:zcj yb9 74 1=some ⟨3, 5, true⟩/\za yb9 54/\zaE yb9 88/\zgj yb9 88/\z9 yb9 88=some (.agg [.nilp, .nilsl])/\za yb9 64/\za yb9 63/\za yb9 65/\za yb9 66/\zcj yb9 88 0=some ⟨0, 2, true⟩/\za yb9 67/\za yb9 74/\zcg yb9 54=some 1/\zbl yb9 54=false:=by and_intros<;>kernel_rfl
@[simp] theorem zMa:zdf yb9 54=some 6/\zcj yb9 48 1=some ⟨1, 1, false⟩/\zcj yb9 48 2=some ⟨2, 1, false⟩/\zcj yb9 48 0=some ⟨0, 1, false⟩/\za yb9 79/\z9 yb9 48=some (.agg [.nilsl, (.int .i64 0), (.int .i64 0)])/\zcg yb9 48=some 3/\zbl yb9 48/\zaE yb9 109/\zgj yb9 109/\z9 yb9 109=some (.agg [.nilsl, (.int .i64 0), (.int .i64 0), .nilsl, (.int .i64 0), .nilsl, .nilsl, (.int .i64 0)])/\zcj yb9 109 0=some ⟨0, 3, true⟩/\zcj yb9 109 1=some ⟨3, 1, false⟩/\zcj yb9 109 2=some ⟨4, 1, false⟩:=by and_intros<;>kernel_rfl
@[simp] theorem zG3:zcj yb9 109 3=some ⟨5, 1, false⟩/\z9 yb9 107=some .nilp/\zcg yb9 107=some 1/\zbl yb9 107=false/\za yb9 81/\zcj yb9 109 4=some ⟨6, 1, false⟩/\zaE yb9 48/\zgj yb9 48/\zaE yb9 53/\zgj yb9 53/\z9 yb9 53=some (.agg [(.int .i64 0), (.int .i64 0), (.int .i64 0), (.int .i64 0), (.int .i64 0), (.str [])])/\zcj yb9 53 0=some ⟨0, 1, false⟩/\zcj yb9 53 1=some ⟨1, 1, false⟩/\zcj yb9 53 2=some ⟨2, 1, false⟩:=by and_intros<;>kernel_rfl
@[simp] theorem zMb:zbn yb9 54=some (.agg [(.int .i64 0), (.int .i64 0), (.int .i64 0), (.int .i64 0), (.int .i64 0), (.str [])])/\zbn yb9 55=some .nilsl/\zaE yb9 57/\zgj yb9 57/\zbn yb9 26=some (.agg [(.str []), .nilsl, .nilsl, (.int .i64 0), .nilsl])/\zaE yb9 28/\zgj yb9 28/\za yb9 87/\za yb9 88/\za yb9 89/\za yb9 90/\za yb9 91/\zbr yb9 33=some false/\z9 yb9 122=some .nilfn:=by and_intros<;>kernel_rfl
@[simp] theorem zKz:zcg yb9 122=some 1/\zbl yb9 122=false/\za yb9 93/\z9 yb9 126=some .nilfn/\zcg yb9 126=some 1/\zbl yb9 126=false/\za yb9 101/\za yb9 102/\za yb9 103/\zcg yb9 53=some 6/\zbl yb9 53/\zcj yb9 53 3=some ⟨3, 1, false⟩/\zcj yb9 53 4=some ⟨4, 1, false⟩/\za yb9 104:=by and_intros<;>kernel_rfl
@[simp] theorem zJf:zcj yb9 71 0=some ⟨0, 1, false⟩/\zaE yb9 71/\zgj yb9 71/\z9 yb9 71=some (.agg [(.int .i64 0)])/\zbr yb9 71=some false/\zdf yb9 186=some 1/\zbn yb9 186=some .nilsl/\za yb9 105/\zcj yb9 74 2=some ⟨8, 1, false⟩/\za yb9 95/\za yb9 108/\za yb9 109/\ztM yb9 135=some (256, 1, false)/\zeT yb9 3=some .i64:=by and_intros<;>kernel_rfl
@[simp] theorem zG4:za yb9 127/\za yb9 128/\za yb9 129/\za yb9 131/\za yb9 132/\za yb9 133/\za yb9 134/\zcj yb9 86 1=some ⟨1, 1, false⟩/\za yb9 140/\z9 yb9 111=some (.agg [(.int .i64 0), (.int .i64 0)])/\zcg yb9 111=some 2/\zcj yb9 111 0=some ⟨0, 1, false⟩/\zcj yb9 111 1=some ⟨1, 1, false⟩/\zcj yb9 109 5=some ⟨7, 1, false⟩:=by and_intros<;>kernel_rfl
@[simp] theorem zG5:za yb9 145/\zcn yb9 44=some 8/\zaE yb9 171/\zgj yb9 171/\z9 yb9 171=some (.agg [(.str []), .nilsl, .nilsl, (.int .i64 0), .nilsl, .nilsl, .nilsl, (.int .i64 0)])/\zcj yb9 171 0=some ⟨0, 5, true⟩/\zcj yb9 171 1=some ⟨5, 1, false⟩/\za yb9 146/\za yb9 147/\zcj yb9 171 3=some ⟨7, 1, false⟩/\za yb9 150/\zcn yb9 26=some 96/\zeT yb9 174=some .u64/\zcj yb9 61 2=some ⟨2, 1, false⟩:=by and_intros<;>kernel_rfl
@[simp] theorem zG6:za yb9 151/\zcj yb9 61 1=some ⟨1, 1, false⟩/\za yb9 152/\za yb9 153/\za yb9 154/\za yb9 98/\za yb9 155/\za yb9 100/\za yb9 156/\ztM yb9 182=some (2, 1, false)/\zcj yb9 53 5=some ⟨5, 1, false⟩/\za yb9 57/\za yb9 157/\zcg yb9 184=some 1:=by and_intros<;>kernel_rfl
@[simp] theorem zJg:zbl yb9 184=false/\zdf yb9 185=some 1/\zbn yb9 185=some .undef/\za yb9 158/\za yb9 107/\zdf yb9 187=some 1/\zbn yb9 187=some (.bool false)/\zcn yb9 187=some 1/\za yb9 159/\zcg yb9 4=some 1/\zbl yb9 4=false/\za yb9 160/\zaE yb9 192/\zgj yb9 192:=by and_intros<;>kernel_rfl
@[simp] theorem zG7:z9 yb9 192=some (.agg [.nilp, .nilsl, (.bool false), (.int .i64 0)])/\zcj yb9 192 0=some ⟨0, 1, false⟩/\zcj yb9 192 3=some ⟨3, 1, false⟩/\za yb9 161/\za yb9 162/\zcj yb9 192 1=some ⟨1, 1, false⟩/\za yb9 175/\za yb9 177/\za yb9 180/\zaE yb9 111/\zgj yb9 111/\zbr yb9 111=some false/\zcj yb9 171 2=some ⟨6, 1, false⟩/\za yb9 181:=by and_intros<;>kernel_rfl
@[simp] theorem zG8:za yb9 182/\za yb9 183/\zeT yb9 116=some .u64/\za yb9 188/\zcn yb9 55=some 24/\za yb9 189/\zcn yb9 54=some 56/\za yb9 190/\za yb9 191/\za yb9 192/\zcg yb9 72=some 1/\zbl yb9 72=false/\za yb9 193/\za yb9 194:=by and_intros<;>kernel_rfl
@[simp] theorem zG9:za yb9 195/\za yb9 196/\za yb9 216/\za yb9 217/\za yb9 219/\za yb9 218/\za yb9 220/\za yb9 222/\za yb9 221/\za yb9 223/\zcg yb9 182=some 2/\zbl yb9 182/\za yb9 227/\za yb9 228:=by and_intros<;>kernel_rfl
@[simp] theorem zHa:za yb9 229/\z9 yb9 265=some (.agg [.nilsl, (.int .i64 0)])/\zcg yb9 265=some 2/\zbl yb9 265/\za yb9 230/\zcg yb9 190=some 1/\zbl yb9 190=false/\za yb9 231/\zcj yb9 192 2=some ⟨2, 1, false⟩/\za yb9 232/\zcj yb9 265 0=some ⟨0, 1, false⟩/\zcj yb9 265 1=some ⟨1, 1, false⟩/\zeT yb9 21=some .i32/\za yb9 245:=by and_intros<;>kernel_rfl
@[simp] theorem zHb:za yb9 246/\zcg yb9 287=some 32/\zbl yb9 287/\ztM yb9 287=some (16, 2, true)/\z9 yb9 182=some (.agg [(.str []), (.str [])])/\zeT yb9 288=some .i8/\za yb9 247/\za yb9 248/\zaE yb9 265/\zgj yb9 265/\za yb9 250/\za yb9 256/\za yb9 257/\za yb9 258:=by and_intros<;>kernel_rfl
@[simp] theorem zHc:za yb9 259/\za yb9 262/\za yb9 263:=by and_intros<;>kernel_rfl
end Go.Proofs.YtohfclafhegadaaGreatDoor
