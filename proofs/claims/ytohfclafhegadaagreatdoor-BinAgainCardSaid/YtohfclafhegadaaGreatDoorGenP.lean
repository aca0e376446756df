/- The planned texts of the functions, and facts on the program's types; written by a program; no condition. -/
import Derived.Test.YtohfclafhegadaaGreatDoorChecked
import Derived.Test.YtohfclafhegadaaGreatDoorAbsB
import Derived.KernelRfl
set_option maxRecDepth 100000
open Go.Proofs.Tryz renaming prog→yb9
namespace Go.Proofs.YtohfclafhegadaaGreatDoor
open Go Go.Abs
namespace Zz
abbrev Q(q:PC):={ p:PC//p=q }
def t(x:Nat):Operand:=.tmp x
def i(k:Int):Operand:=.const (.int .i64 k)
def S(l:List PO)(r:PC):PC:=.seq (.ops l) r
def C(x:Nat)(a b:PC):PC:=.cond (.tmp x) a b
def m(d x:Nat):PO:=⟨some d, .move (.tmp x), none, []⟩
def l(d t x:Nat):PO:=⟨some d, .load t (.tmp x), none, []⟩
def f(d t x i:Nat):PO:=⟨some d, .fieldAddr t (.tmp x) i, none, []⟩
def n(d x:Nat):PO:=⟨some d, .nilCheck (.tmp x), none, []⟩
def a(d x:Nat):PO:=⟨some d, .assign (.tmp x), none, []⟩
def A(d:Nat)(v:Operand):PO:=⟨some d, .assign v, none, []⟩
def x(d t x y:Nat):PO:=⟨some d, .indexAddr t (.tmp x) (.tmp y), none, []⟩
def b(d:Nat)(o:BinOp)(t:Nat)(x y:Operand)(u:Nat):PO:=⟨some d, .binOp o t x y u, none, []⟩
def c(d f:Nat)(xs:Array Operand)(ts:Array TypeId):PO:=⟨some d, .call ⟨.value (.func f), xs, ts⟩, none, []⟩
def L(d x t:Nat):PO:=⟨some d, .call ⟨.builtin .len, #[(.tmp x)], #[t]⟩, none, []⟩
def d(n:Nat)(o:Op):PO:=⟨some n, o, none, []⟩
def s(t x y:Nat):PO:=⟨none, .store t (.tmp x) (.tmp y), none, []⟩
def e(o:Op):PO:=⟨none, o, none, []⟩
def w(n:Nat)(o:Op)(g:Nat)(v:Bool):PO:=⟨some n, o, some (g, v), []⟩
abbrev H(n k f:Nat)(p:PC)(l:List ResultVar):Prop:=∀{G:Env} {args:List AV} {σ:AS} {R:Out→AS→Prop}, args.length=k→avc yb9 G n p (zba yb9 l R) (zbG args) σ→ACalls yb9 G f args σ R
end Zz
open Zz
abbrev zzQ:=@ACalls yb9
variable {G : Env} {args : List AV} {σ : AS} {R : Out → AS → Prop}
theorem zi:yb9.follows .mixedOrders=true:=by kernel_rfl
def pc4:PC:=(⟨_,by delta A C L S a b c d f i l m s t w;exact rfl⟩:Zz.Q (S [A 2 (.const (.bool false))] (.seq (S [m 7 0,L 8 7 32,b 9 .gtr 3 (t
 8) (i 16384) 3] (C 9 (S [c 10 13 #[] #[],a 2 10] .ret) .skip)) (S [m 12 0,c 13 14 #[t 12] #[32],m 11 13,d 14 (.extract (t 11) 0),d 15 (.extract (t 11) 1),d 3
 (.alloc 28),s 28 3 14,a 4 15] (.seq (S [m 16 4,b 17 .neq 33 (t 16) (i 0) 33] (C 17 (S [f 18 28 3 0,l 19 26 18,L 20 19 26,b 21 .eql 3 (t 20) (i 0) 3,m 22 21,w
 23 (.fieldAddr 28 (t 3) 2) 22 true,w 24 (.load 3 (t 23)) 22 true,w 25 (.binOp .eql 3 (t 24) (i 0) 3) 22 true,d 26 (.pick (t 22) (t 25) (.const (.bool
 false))),m 27 26,w 28 (.fieldAddr 28 (t 3) 1) 27 true,w 29 (.load 3 (t 28)) 27 true,w 30 (.binOp .eql 3 (t 29) (i 0) 3) 27 true,d 31 (.pick (t 27) (t 30)
 (.const (.bool false))),m 32 31,w 33 (.call ⟨.value (.func 13),#[],#[]⟩) 32 true,d 34 (.pick (t 32) (t 33) (.const (.bool false))),a 2 34] .ret) .skip)) (.seq
 (S [l 35 28 3,c 36 16 #[t 35] #[28],m 37 0,c 38 15 #[t 36,t 37] #[32,32],d 39 (.unOp .not 4 (t 38))] (C 39 (S [A 2 (.const (.bool false))] .ret) .skip)) (.seq
 (S [l 40 28 3,c 41 17 #[t 40] #[28],d 42 (.unOp .not 4 (t 41)),m 43 42,w 44 (.load 28 (t 3)) 43 false,w 45 (.call ⟨.value (.func 18),#[t 44],#[28]⟩) 43 false,w
 46 (.binOp .neq 33 (t 45) (i 0) 33) 43 false,d 47 (.pick (t 43) (.const (.bool true)) (t 46))] (C 47 (S [c 48 13 #[] #[],a 2 48] .ret) .skip)) (S [l 50 28 3,c
 51 20 #[t 50] #[28],c 52 19 #[t 51] #[9],m 49 52,d 53 (.extract (t 49) 0),d 54 (.extract (t 49) 1),d 5 (.alloc 28),s 28 5 53,a 6 54] (S [m 55 6,b 56 .eql 33 (t
 55) (i 0) 33,m 57 56,w 58 (.load 28 (t 5)) 57 true,w 59 (.call ⟨.value (.func 16),#[t 58],#[28]⟩) 57 true,w 60 (.move (t 0)) 57 true,w 61 (.call ⟨.value (.func
 15),#[t 59,t 60],#[32,32]⟩) 57 true,d 62 (.pick (t 57) (t 61) (.const (.bool false))),m 63 62,w 64 (.call ⟨.value (.func 13),#[],#[]⟩) 63 true,d 65 (.pick (t
 63) (t 64) (.const (.bool false))),a 2 65] .ret))))))))).1
theorem zEn:Zz.H 66 1 4 pc4 [.tmp 2]:=fun hn h =>
 zb zi Tryz.func4 (by kernel_rfl) (by kernel_rfl) (by kernel_rfl) (by omega) h
def zMy:PC:=(⟨_,by delta A S a c d i m s t w;exact rfl⟩:Zz.Q (S [A 0 (.const (.bool false))] (S [c 4 34 #[] #[],c 5 16 #[t 4] #[28],a 1 5] (S
 [m 7 1,c 8 14 #[t 7] #[32],m 6 8,d 9 (.extract (t 6) 0),d 10 (.extract (t 6) 1),d 2 (.alloc 28),s 28 2 9,a 3 10] (S [d 12 (.buildSlice 32 3 #[(0,.const (.int
 .u8 229)),(1,.const (.int .u8 142)),(2,.const (.int .u8 38))]),c 11 35 #[i 624485] #[3],c 13 15 #[t 11,t 12] #[32,32],m 14 13,w 16 (.buildSlice 32 3
 #[(0,.const (.int .u8 192)),(1,.const (.int .u8 187)),(2,.const (.int .u8 120))]) 14 true,w 15 (.call ⟨.value (.func 36),#[i (-123456)],#[3]⟩) 14 true,w 17
 (.call ⟨.value (.func 15),#[t 15,t 16],#[32,32]⟩) 14 true,d 18 (.pick (t 14) (t 17) (.const (.bool false))),m 19 18,w 20 (.move (t 3)) 19 true,w 21 (.binOp
 .eql 33 (t 20) (i 0) 33) 19 true,d 22 (.pick (t 19) (t 21) (.const (.bool false))),m 23 22,w 24 (.load 28 (t 2)) 23 true,⟨some 25,.call ⟨.value (.func
 34),#[],#[]⟩,some (23,true),[⟨some (23,true),28,t 2,24⟩]⟩,w 26 (.call ⟨.value (.func 22),#[t 24,t 25],#[28,28]⟩) 23 true,d 27 (.pick (t 23) (t 26) (.const
 (.bool false))),m 28 27,w 29 (.move (t 1)) 28 true,w 30 (.call ⟨.builtin .len,#[t 29],#[32]⟩) 28 true,w 31 (.binOp .gtr 3 (t 30) (i 8) 3) 28 true,d 32 (.pick
 (t 28) (t 31) (.const (.bool false))),m 33 32,w 34 (.move (t 1)) 33 true,w 35 (.indexAddr 32 (t 34) (i 1)) 33 true,w 36 (.load 5 (t 35)) 33 true,w 37 (.binOp
 .eql 5 (t 36) (.const (.int .u8 97)) 5) 33 true,d 38 (.pick (t 33) (t 37) (.const (.bool false))),a 0 38] .ret))))).1
theorem zAj:Zz.H 39 0 13 zMy [.tmp 0]:=fun hn h =>
 zb zi Tryz.func13 (by kernel_rfl) (by kernel_rfl) (by kernel_rfl) (by omega) h
def zxW:PC:=(⟨_,by delta d;exact rfl⟩:Zz.Q (.ops [d 2 (.alloc 28),d 3 (.alloc 33)])).1
def zxX:PC:=(⟨_,by delta L S a b c d e f i l m n s t w;exact rfl⟩:Zz.Q (S [m 6 0,c 7 38 #[t 6] #[32],d 8 (.build 61 #[(0,t 7)]),d 9 (.box
 61 (t 8)),a 4 9] (S [m 10 4,c 11 39 #[t 10] #[59],s 28 2 11] (S [m 12 4,n 13 12,f 14 61 13 0,l 15 32 14,L 16 15 32,b 17 .eql 3 (t 16) (i 0) 3,m 18 17,w 19
 (.load 28 (t 2)) 18 true,w 20 (.call ⟨.value (.func 41),#[t 19],#[28]⟩) 18 true,d 21 (.pick (t 18) (t 20) (.const (.bool false))),m 22 21,w 23 (.load 28 (t 2))
 22 true,w 24 (.call ⟨.value (.func 42),#[t 23],#[28]⟩) 22 true,d 25 (.pick (t 22) (t 24) (.const (.bool false))),m 26 25,w 27 (.load 28 (t 2)) 26 true,w 28
 (.call ⟨.value (.func 16),#[t 27],#[28]⟩) 26 true,w 29 (.move (t 0)) 26 true,w 30 (.call ⟨.value (.func 43),#[t 28,t 29],#[32,32]⟩) 26 true,d 31 (.pick (t 26)
 (t 30) (.const (.bool false))),c 32 40 #[t 31,i 2] #[4,33]] (S [l 33 28 2,s 28 2 33,e (.store 33 (t 3) (i 0))] .ret))))).1
def zlv:PC:=(⟨_,by delta A C L S a b d i l m t x;exact rfl⟩:Zz.Q (.seq (S [m 11 5,m 12 0,L 13 12 32,b 14 .lss 3 (t 11) (t 13) 3] (C 14
 .skip (.exit 0))) (.seq (.block 1 (S [m 17 0,m 18 5,x 19 32 17 18,l 20 5 19,m 21 1,m 22 5,x 23 32 21 22,l 24 5 23,b 25 .eql 5 (t 20) (t 24) 5,d 26 (.unOp .not
 4 (t 25))] (C 26 (S [A 4 (.const (.bool false))] .ret) .skip))) (.ops [m 15 5,b 16 .add 3 (t 15) (i 1) 3,a 5 16])))).1
def zsE:PC:=(⟨_,by delta A S;exact rfl⟩:Zz.Q (S [A 4 (.const (.bool true))] .ret)).1
def zK4:PC:=(⟨_,by delta A C L S b i m t;exact rfl⟩:Zz.Q (S [A 4 (.const (.bool false))] (.seq (S [m 6 0,L 7 6 32,m 8 1,L 9 8 32,b 10 .neq 3
 (t 7) (t 9) 3] (C 10 (S [A 4 (.const (.bool false))] .ret) .skip)) (.seq (S [A 5 (i 0)] (.block 0 (.loop zlv))) zsE)))).1
theorem zAk:Zz.H 27 2 15 zK4 [.tmp 4]:=fun hn h =>
 zb zi Tryz.func15 (by kernel_rfl) (by kernel_rfl) (by kernel_rfl) (by omega) h
def zlw:PC:=(⟨_,by delta C S a b c d i l m t x;exact rfl⟩:Zz.Q (S [b 21 .lss 3 (t 20) (t 19) 3] (.seq (C 21 .skip (.exit 0)) (.seq (.block
 1 (S [m 22 20,x 23 22 18 20,l 24 9 23,a 8 22,a 9 24] (.ops [m 25 4,d 26 (.buildSlice 32 3 #[(0,.const (.int .u8 101)),(1,.const (.int .u8 110)),(2,.const (.int
 .u8 118))]),d 27 (.convert 32 32 (t 26)),c 28 46 #[t 27] #[32],m 29 9,d 30 (.convert 9 32 (t 29)),c 31 46 #[t 30] #[32],m 32 8,d 33 (.convert 3 5 (t 32)),d 34
 (.buildSlice 32 2 #[(0,.const (.int .u8 0)),(1,t 33)]),d 35 (.buildSlice 64 3 #[(0,t 28),(1,t 31),(2,t 34)]),c 36 45 #[t 35] #[64],d 37 (.buildSlice 64 1
 #[(0,t 36)]),d 38 (.call ⟨.builtin .append,#[t 25,t 37],#[64,64]⟩),a 4 38]))) (.ops [b 39 .add 3 (t 20) (i 1) 3,m 20 39]))))).1
def zlx:PC:=(⟨_,by delta C L S a b c d f i l m s t x;exact rfl⟩:Zz.Q (S [b 44 .lss 3 (t 43) (t 42) 3] (.seq (C 44 .skip (.exit 2)) (.seq
 (.block 3 (S [m 45 43,x 46 26 41 43,l 47 57 46,d 11 (.alloc 57),a 10 45,s 57 11 47] (S [m 48 3,f 49 57 11 1,l 50 44 49,f 51 57 11 3,l 52 3 51,c 53 44 #[t 50,t
 52] #[44,3],d 54 (.buildSlice 64 1 #[(0,t 53)]),d 55 (.call ⟨.builtin .append,#[t 48,t 54],#[64,64]⟩),a 3 55] (S [m 56 5,m 57 10,b 58 .add 3 (t 57) (i 3) 3,c
 59 35 #[t 58] #[3],d 60 (.buildSlice 64 1 #[(0,t 59)]),d 61 (.call ⟨.builtin .append,#[t 56,t 60],#[64,64]⟩),a 5 61] (S [m 62 6,f 63 57 11 2,l 64 44 63,l 66 57
 11,f 67 57 11 4,l 68 55 67,L 69 68 55,b 70 .sub 3 (t 69) (i 1) 3,d 72 (.buildSlice 32 1 #[(0,.const (.int .u8 11))]),⟨some 65,.call ⟨.value (.func 47),#[t
 64],#[44]⟩,none,[⟨none,57,t 11,66⟩,⟨none,55,t 67,68⟩]⟩,c 71 48 #[t 66,t 70] #[57,3],d 73 (.buildSlice 64 3 #[(0,t 65),(1,t 71),(2,t 72)]),c 74 45 #[t 73]
 #[64],c 75 46 #[t 74] #[32],d 76 (.buildSlice 64 1 #[(0,t 75)]),d 77 (.call ⟨.builtin .append,#[t 62,t 76],#[64,64]⟩),a 6 77] (.both [[m 78 7,m 79 10,b 80 .add
 3 (t 79) (i 3) 3,f 82 57 11 0,l 83 9 82,⟨some 81,.call ⟨.value (.func 35),#[t 80],#[3]⟩,none,[⟨none,9,t 82,83⟩]⟩,d 84 (.convert 9 32 (t 83)),c 85 46 #[t 84]
 #[32],d 86 (.call ⟨.builtin .append,#[t 81,t 85],#[32,32]⟩),d 87 (.buildSlice 64 1 #[(0,t 86)]),d 88 (.call ⟨.builtin .append,#[t 78,t 87],#[64,64]⟩),a 7
 88],[m 78 7,m 79 10,b 80 .add 3 (t 79) (i 3) 3,f 82 57 11 0,l 83 9 82,d 84 (.convert 9 32 (t 83)),c 81 35 #[t 80] #[3],c 85 46 #[t 84] #[32],d 86 (.call
 ⟨.builtin .append,#[t 81,t 85],#[32,32]⟩),d 87 (.buildSlice 64 1 #[(0,t 86)]),d 88 (.call ⟨.builtin .append,#[t 78,t 87],#[64,64]⟩),a 7 88]])))))) (.ops [b 89
 .add 3 (t 43) (i 1) 3,m 43 89]))))).1
def ziU:PC:=(⟨_,by delta S a b c d f i l m t;exact rfl⟩:Zz.Q (S [d 90 (.buildSlice 32 8 #[(0,.const (.int .u8 0)),(1,.const (.int .u8
 97)),(2,.const (.int .u8 115)),(3,.const (.int .u8 109)),(4,.const (.int .u8 1)),(5,.const (.int .u8 0)),(6,.const (.int .u8 0)),(7,.const (.int .u8 0))]),d 91
 (.convert 32 32 (t 90)),m 92 3,m 96 4,m 100 5,d 104 (.buildSlice 32 3 #[(0,.const (.int .u8 1)),(1,.const (.int .u8 0)),(2,.const (.int .u8 1))]),d 105
 (.buildSlice 64 1 #[(0,t 104)]),d 107 (.buildSlice 32 4 #[(0,.const (.int .u8 1)),(1,.const (.int .u8 127)),(2,.const (.int .u8 0)),(3,.const (.int .u8
 65))]),f 108 28 1 1,l 109 3 108,d 111 (.buildSlice 32 1 #[(0,.const (.int .u8 11))]),d 114 (.buildSlice 32 1 #[(0,.const (.int .u8 1))]),d 115 (.buildSlice 32
 4 #[(0,.const (.int .u8 109)),(1,.const (.int .u8 97)),(2,.const (.int .u8 105)),(3,.const (.int .u8 110))]),d 116 (.convert 32 32 (t 115)),d 118 (.buildSlice
 32 1 #[(0,.const (.int .u8 0))]),f 119 28 1 2,l 120 3 119,b 121 .add 3 (t 120) (i 3) 3,m 125 6,d 129 (.buildSlice 32 4 #[(0,.const (.int .u8 110)),(1,.const
 (.int .u8 97)),(2,.const (.int .u8 109)),(3,.const (.int .u8 101))]),d 130 (.convert 32 32 (t 129)),d 132 (.buildSlice 32 1 #[(0,.const (.int .u8 1))]),m 133
 7,⟨some 93,.call ⟨.value (.func 50),#[t 92],#[64]⟩,none,[⟨none,3,t 108,109⟩,⟨none,3,t 119,120⟩]⟩,d 94 (.buildSlice 64 1 #[(0,t 93)]),⟨some 95,.call ⟨.value
 (.func 49),#[.const (.int .u8 1),t 94],#[5,64]⟩,none,[⟨none,3,t 108,109⟩,⟨none,3,t 119,120⟩]⟩,⟨some 97,.call ⟨.value (.func 50),#[t 96],#[64]⟩,none,[⟨none,3,t
 108,109⟩,⟨none,3,t 119,120⟩]⟩,d 98 (.buildSlice 64 1 #[(0,t 97)]),⟨some 99,.call ⟨.value (.func 49),#[.const (.int .u8 2),t 98],#[5,64]⟩,none,[⟨none,3,t
 108,109⟩,⟨none,3,t 119,120⟩]⟩,⟨some 101,.call ⟨.value (.func 50),#[t 100],#[64]⟩,none,[⟨none,3,t 108,109⟩,⟨none,3,t 119,120⟩]⟩,d 102 (.buildSlice 64 1 #[(0,t
 101)]),⟨some 103,.call ⟨.value (.func 49),#[.const (.int .u8 3),t 102],#[5,64]⟩,none,[⟨none,3,t 108,109⟩,⟨none,3,t 119,120⟩]⟩,⟨some 106,.call ⟨.value (.func
 49),#[.const (.int .u8 5),t 105],#[5,64]⟩,none,[⟨none,3,t 108,109⟩,⟨none,3,t 119,120⟩]⟩,⟨some 110,.call ⟨.value (.func 36),#[t 109],#[3]⟩,none,[⟨none,3,t
 119,120⟩]⟩,d 112 (.buildSlice 64 3 #[(0,t 107),(1,t 110),(2,t 111)]),⟨some 113,.call ⟨.value (.func 49),#[.const (.int .u8 6),t 112],#[5,64]⟩,none,[⟨none,3,t
 119,120⟩]⟩,⟨some 117,.call ⟨.value (.func 46),#[t 116],#[32]⟩,none,[⟨none,3,t 119,120⟩]⟩,c 122 35 #[t 121] #[3],d 123 (.buildSlice 64 4 #[(0,t 114),(1,t
 117),(2,t 118),(3,t 122)]),c 124 49 #[.const (.int .u8 7),t 123] #[5,64],c 126 50 #[t 125] #[64],d 127 (.buildSlice 64 1 #[(0,t 126)]),c 128 49 #[.const (.int
 .u8 10),t 127] #[5,64],c 131 46 #[t 130] #[32],c 134 50 #[t 133] #[64],c 135 46 #[t 134] #[32],d 136 (.buildSlice 64 3 #[(0,t 131),(1,t 132),(2,t 135)]),c 137
 49 #[.const (.int .u8 0),t 136] #[5,64],d 138 (.buildSlice 64 9 #[(0,t 91),(1,t 95),(2,t 99),(3,t 103),(4,t 106),(5,t 113),(6,t 124),(7,t 128),(8,t 137)]),c
 139 45 #[t 138] #[64],a 2 139] .ret)).1
def zly:PC:=(⟨_,by delta L S d f i l;exact rfl⟩:Zz.Q (.seq (S [f 40 28 1 0,l 41 26 40,L 42 41 26,d 43 (.move (i 0))] (.block 2 (.loop
 zlx))) ziU)).1
def zMz:PC:=(⟨_,by delta A L S a c d i t;exact rfl⟩:Zz.Q (S [d 1 (.box 28 (t 0)),A 2 (.const (.slice none 0 0))] (S [c 12 44 #[.const (.slice
 none 0 0),i 2] #[44,3],d 13 (.buildSlice 44 1 #[(0,i 2)]),c 14 44 #[t 13,i 0] #[44,3],d 15 (.buildSlice 44 1 #[(0,i 1)]),c 16 44 #[t 15,i 0] #[44,3],d 17
 (.buildSlice 64 3 #[(0,t 12),(1,t 14),(2,t 16)]),a 3 17] (S [A 4 (.const (.slice none 0 0)),A 5 (.const (.slice none 0 0)),A 6 (.const (.slice none 0 0)),A 7
 (.const (.slice none 0 0))] (.seq (S [d 18 (.buildSlice 22 3 #[(0,.const (.string ⟨#[105,110]⟩)),(1,.const (.string ⟨#[111,117,116]⟩)),(2,.const (.string
 ⟨#[116,114,97,112]⟩))]),L 19 18 22,d 20 (.move (i 0))] (.block 0 (.loop zlw))) zly))))).1
theorem zAl:Zz.H 140 1 16 zMz [.tmp 2]:=fun hn h =>
 zb zi Tryz.func16 (by kernel_rfl) (by kernel_rfl) (by kernel_rfl) (by omega) h
def zoA:PC:=(⟨_,by delta A C L S a b c d f i l m t x;exact rfl⟩:Zz.Q (.seq (S [m 4 3,f 5 28 1 0,l 6 26 5,L 7 6 26,b 8 .lss 3 (t 4) (t 7)
 3] (C 8 .skip (.exit 0))) (.seq (.block 1 (S [f 11 28 1 0,l 12 26 11,m 13 3,x 14 26 12 13,f 15 57 14 0,l 16 9 15,c 17 51 #[t 16] #[9],d 18 (.unOp .not 4 (t
 17))] (C 18 (S [A 2 (.const (.bool false))] .ret) .skip))) (.ops [m 9 3,b 10 .add 3 (t 9) (i 1) 3,a 3 10])))).1
def zsF:PC:=(⟨_,by delta A S;exact rfl⟩:Zz.Q (S [A 2 (.const (.bool true))] .ret)).1
def zMA:PC:=(⟨_,by delta A S d i t;exact rfl⟩:Zz.Q (S [d 1 (.box 28 (t 0)),A 2 (.const (.bool false))] (.seq (S [A 3 (i 0)] (.block 0 (.loop
 zoA))) zsF))).1
theorem zAm:Zz.H 19 1 17 zMA [.tmp 2]:=fun hn h =>
 zb zi Tryz.func17 (by kernel_rfl) (by kernel_rfl) (by kernel_rfl) (by omega) h
def zxY:PC:=(⟨_,by delta d t;exact rfl⟩:Zz.Q (.ops [d 1 (.box 28 (t 0)),d 2 (.alloc 33)])).1
def zcN:PC:=(⟨_,by delta C S b c d i l m s t x;exact rfl⟩:Zz.Q (S [b 19 .lss 3 (t 18) (t 17) 3] (.seq (C 19 .skip (.exit 0)) (.seq
 (.block 1 (S [x 20 26 16 18,l 21 57 20,d 4 (.alloc 57),s 57 4 21] (.ops [l 22 28 1,l 23 57 4,d 24 (.build 74 #[(0,t 22),(1,t 23)]),d 25 (.box 74 (t 24)),c 26
 54 #[t 25] #[72]]))) (.ops [b 27 .add 3 (t 18) (i 1) 3,m 18 27]))))).1
def zdx:PC:=(⟨_,by delta S b c d e f i l m t w;exact rfl⟩:Zz.Q (S [f 28 28 1 2,l 29 3 28,b 30 .geq 3 (t 29) (i 0) 3,m 31 30,w 32
 (.fieldAddr 28 (t 1) 2) 31 true,w 33 (.load 3 (t 32)) 31 true,w 34 (.fieldAddr 28 (t 1) 0) 31 true,w 35 (.load 26 (t 34)) 31 true,w 36 (.call ⟨.builtin
 .len,#[t 35],#[26]⟩) 31 true,w 37 (.binOp .lss 3 (t 33) (t 36) 3) 31 true,d 38 (.pick (t 31) (t 37) (.const (.bool false))),m 39 38,w 40 (.fieldAddr 28 (t 1)
 0) 39 true,w 41 (.load 26 (t 40)) 39 true,w 42 (.fieldAddr 28 (t 1) 2) 39 true,w 43 (.load 3 (t 42)) 39 true,w 44 (.indexAddr 26 (t 41) (t 43)) 39 true,w 45
 (.fieldAddr 57 (t 44) 3) 39 true,w 46 (.load 3 (t 45)) 39 true,w 47 (.binOp .eql 3 (t 46) (i 1) 3) 39 true,d 48 (.pick (t 39) (t 47) (.const (.bool false))),m
 49 48,w 50 (.fieldAddr 28 (t 1) 0) 49 true,w 51 (.load 26 (t 50)) 49 true,w 52 (.fieldAddr 28 (t 1) 2) 49 true,w 53 (.load 3 (t 52)) 49 true,w 54 (.indexAddr
 26 (t 51) (t 53)) 49 true,w 55 (.fieldAddr 57 (t 54) 1) 49 true,w 56 (.load 44 (t 55)) 49 true,w 57 (.call ⟨.builtin .len,#[t 56],#[44]⟩) 49 true,w 58 (.binOp
 .eql 3 (t 57) (i 0) 3) 49 true,d 59 (.pick (t 49) (t 58) (.const (.bool false))),c 60 53 #[t 59,i 12] #[4,33]] (S [e (.store 33 (t 2) (i 0))] .ret))).1
def zpR:PC:=(⟨_,by delta L S b c d f i l m t w;exact rfl⟩:Zz.Q (S [f 6 28 1 1,l 7 3 6,b 8 .geq 3 (t 7) (i 0) 3,m 9 8,w 10 (.fieldAddr 28 (t
 1) 1) 9 true,w 11 (.load 3 (t 10)) 9 true,w 12 (.binOp .leq 3 (t 11) (i 4096) 3) 9 true,d 13 (.pick (t 9) (t 12) (.const (.bool false))),c 14 53 #[t 13,i 11]
 #[4,33]] (.seq (S [f 15 28 1 0,l 16 26 15,L 17 16 26,d 18 (.move (i 0))] (.block 0 (.loop zcN))) zdx))).1
def zxZ:PC:=(⟨_,by delta d;exact rfl⟩:Zz.Q (.ops [d 2 (.alloc 28),d 3 (.alloc 33)])).1
def ziV:PC:=(⟨_,by delta C S c d f l m s t;exact rfl⟩:Zz.Q (.seq (S [m 18 4,c 19 59 #[t 18,.const (.string ⟨#[102,117,110,99]⟩)]
 #[75,9]] (C 19 .skip (.exit 0))) (.block 1 (.ops [f 20 28 2 0,l 21 26 20,m 22 4,⟨some 23,.call ⟨.value (.func 60),#[t 22],#[75]⟩,none,[⟨none,26,t 20,21⟩]⟩,d 24
 (.buildSlice 26 1 #[(0,t 23)]),d 25 (.call ⟨.builtin .append,#[t 21,t 24],#[26,26]⟩),f 26 28 2 0,s 26 26 25])))).1
def zgk:PC:=(⟨_,by delta S b c d e f i l m n s t;exact rfl⟩:Zz.Q (S [m 27 4,d 28 (.buildSlice 22 5 #[(0,.const (.string
 ⟨#[40]⟩)),(1,.const (.string ⟨#[101,120,112,111,114,116]⟩)),(2,.const (.string ⟨#[34,109,97,105,110,34]⟩)),(3,.const (.string ⟨#[40]⟩)),(4,.const (.string
 ⟨#[102,117,110,99]⟩))]),c 29 56 #[t 27,t 28] #[75,22]] (S [m 30 4,c 31 58 #[t 30] #[75],b 32 .sub 3 (t 31) (i 3) 3,f 33 28 2 2,s 3 33 32] (S [m 34 4,d 35
 (.buildSlice 22 3 #[(0,.const (.string ⟨#[41]⟩)),(1,.const (.string ⟨#[41]⟩)),(2,.const (.string ⟨#[41]⟩))]),c 36 56 #[t 34,t 35] #[75,22]] (S [m 37 4,n 38
 37,f 39 77 38 0,l 40 9 39,c 41 62 #[t 40,.const (.string ⟨#[32,10]⟩)] #[9,9],b 42 .eql 9 (t 41) (.const (.string ⟨#[]⟩)) 9,c 43 61 #[t 42,i 2] #[4,33]] (S [l
 44 28 2,s 28 2 44,e (.store 33 (t 3) (i 0))] .ret)))))).1
def zx0:PC:=(⟨_,by delta S a c d f m s t;exact rfl⟩:Zz.Q (S [m 6 0,d 7 (.build 77 #[(0,t 6)]),d 8 (.box 77 (t 7)),a 4 8] (S [m 9 4,c 10 57
 #[.const (.string
 ⟨#[40,32,109,111,100,117,108,101,32,40,32,105,109,112,111,114,116,32,34,101,110,118,34,32,34,105,110,34,32,40,32,102,117,110,99,32,40,32,114,101,115,117,108,116,32,105,54,52,32,41,32,41,32,41,32,40,32,105,109,112,111,114,116,32,34,101,110,118,34,32,34,111,117,116,34,32,40,32,102,117,110,99,32,40,32,112,97,114,97,109,32,105,54,52,32,41,32,41,32,41,32,40,32,105,109,112,111,114,116,32,34,101,110,118,34,32,34,116,114,97,112,34,32,40,32,102,117,110,99,32,40,32,112,97,114,97,109,32,105,51,50,32,41,32,41,32,41,32,40,32,109,101,109,111,114,121,32,49,32,41,32,40,32,103,108,111,98,97,108,32,105,51,50,32,40,32,105,51,50,46,99,111,110,115,116]⟩)]
 #[9],c 11 56 #[t 9,t 10] #[75,22]] (S [m 12 4,c 13 58 #[t 12] #[75],f 14 28 2 1,s 3 14 13] (S [m 15 4,d 16 (.buildSlice 22 2 #[(0,.const (.string
 ⟨#[41]⟩)),(1,.const (.string ⟨#[41]⟩))]),c 17 56 #[t 15,t 16] #[75,22]] (.seq (.block 0 (.loop ziV)) zgk)))))).1
def zlz:PC:=(⟨_,by delta C L S b c d f i l m s t x;exact rfl⟩:Zz.Q (S [b 18 .lss 3 (t 17) (t 16) 3] (.seq (C 18 .skip (.exit 0)) (.seq
 (.block 1 (S [x 19 26 15 17,l 20 57 19,d 5 (.alloc 57),s 57 5 20] (S [m 21 3,f 22 57 5 0,l 23 9 22,b 24 .add 9 (.const (.string ⟨#[36]⟩)) (t 23) 9,d 25
 (.buildSlice 22 3 #[(0,.const (.string ⟨#[40]⟩)),(1,.const (.string ⟨#[102,117,110,99]⟩)),(2,t 24)]),c 26 63 #[t 21,t 25] #[83,22]] (S [m 27 3,f 28 57 5 1,l 29
 44 28,c 30 65 #[t 27,.const (.string ⟨#[112,97,114,97,109]⟩),t 29] #[83,9,44]] (.seq (S [f 31 57 5 3,l 32 3 31,b 33 .neq 3 (t 32) (i 0) 3] (C 33 (.ops [m 34
 3,f 35 57 5 3,l 36 3 35,d 37 (.buildSlice 44 1 #[(0,t 36)]),c 38 65 #[t 34,.const (.string ⟨#[114,101,115,117,108,116]⟩),t 37] #[83,9,44]]) .skip)) (S [m 39
 3,f 40 57 5 2,l 41 44 40,c 42 65 #[t 39,.const (.string ⟨#[108,111,99,97,108]⟩),t 41] #[83,9,44]] (S [m 43 3,l 44 57 5,f 45 57 5 4,l 46 55 45,L 47 46 55,b 48
 .sub 3 (t 47) (i 1) 3,c 49 66 #[t 43,t 44,t 48] #[83,57,3]] (.ops [m 50 3,d 51 (.buildSlice 22 1 #[(0,.const (.string ⟨#[41]⟩))]),c 52 63 #[t 50,t 51]
 #[83,22]])))))))) (.ops [b 53 .add 3 (t 17) (i 1) 3,m 17 53]))))).1
def zlA:PC:=(⟨_,by delta S a b c d f i l m n t;exact rfl⟩:Zz.Q (S [m 54 3,f 55 28 1 2,l 56 3 55,b 57 .add 3 (t 56) (i 3) 3,c 58 64 #[t 57]
 #[3],d 59 (.buildSlice 22 9 #[(0,.const (.string ⟨#[40]⟩)),(1,.const (.string ⟨#[101,120,112,111,114,116]⟩)),(2,.const (.string
 ⟨#[34,109,97,105,110,34]⟩)),(3,.const (.string ⟨#[40]⟩)),(4,.const (.string ⟨#[102,117,110,99]⟩)),(5,t 58),(6,.const (.string ⟨#[41]⟩)),(7,.const (.string
 ⟨#[41]⟩)),(8,.const (.string ⟨#[41]⟩))]),c 60 63 #[t 54,t 59] #[83,22]] (S [m 61 3,n 62 61,f 63 88 62 0,c 64 67 #[t 63] #[86],b 65 .add 9 (t 64) (.const
 (.string ⟨#[10]⟩)) 9,a 2 65] .ret))).1
def zMB:PC:=(⟨_,by delta A L S a c d f i l m t;exact rfl⟩:Zz.Q (S [d 1 (.box 28 (t 0)),A 2 (.const (.string ⟨#[]⟩))] (S [d 6 (.build 88
 #[]),d 7 (.box 88 (t 6)),a 3 7] (S [m 8 3,f 9 28 1 1,l 10 3 9,c 11 64 #[t 10] #[3],d 12 (.buildSlice 22 4 #[(0,.const (.string
 ⟨#[40,32,109,111,100,117,108,101,32,40,32,105,109,112,111,114,116,32,34,101,110,118,34,32,34,105,110,34,32,40,32,102,117,110,99,32,40,32,114,101,115,117,108,116,32,105,54,52,32,41,32,41,32,41,32,40,32,105,109,112,111,114,116,32,34,101,110,118,34,32,34,111,117,116,34,32,40,32,102,117,110,99,32,40,32,112,97,114,97,109,32,105,54,52,32,41,32,41,32,41,32,40,32,105,109,112,111,114,116,32,34,101,110,118,34,32,34,116,114,97,112,34,32,40,32,102,117,110,99,32,40,32,112,97,114,97,109,32,105,51,50,32,41,32,41,32,41,32,40,32,109,101,109,111,114,121,32,49,32,41,32,40,32,103,108,111,98,97,108,32,105,51,50,32,40,32,105,51,50,46,99,111,110,115,116]⟩)),(1,t
 11),(2,.const (.string ⟨#[41]⟩)),(3,.const (.string ⟨#[41]⟩))]),c 13 63 #[t 8,t 12] #[83,22]] (.seq (S [f 14 28 1 0,l 15 26 14,L 16 15 26,d 17 (.move (i 0))]
 (.block 0 (.loop zlz))) zlA))))).1
theorem zAn:Zz.H 66 1 20 zMB [.tmp 2]:=fun hn h =>
 zb zi Tryz.func20 (by kernel_rfl) (by kernel_rfl) (by kernel_rfl) (by omega) h
def zMC:PC:=(⟨_,by delta A S a b d f l m t w;exact rfl⟩:Zz.Q (S [d 2 (.box 28 (t 0)),d 3 (.box 28 (t 1)),A 4 (.const (.bool false))] (S [f 5
 28 2 1,l 6 3 5,f 7 28 3 1,l 8 3 7,b 9 .eql 3 (t 6) (t 8) 3,m 10 9,w 11 (.fieldAddr 28 (t 2) 2) 10 true,w 12 (.load 3 (t 11)) 10 true,w 13 (.fieldAddr 28 (t 3)
 2) 10 true,w 14 (.load 3 (t 13)) 10 true,w 15 (.binOp .eql 3 (t 12) (t 14) 3) 10 true,d 16 (.pick (t 10) (t 15) (.const (.bool false))),m 17 16,w 18
 (.fieldAddr 28 (t 2) 0) 17 true,w 19 (.load 26 (t 18)) 17 true,w 20 (.fieldAddr 28 (t 3) 0) 17 true,w 21 (.load 26 (t 20)) 17 true,w 22 (.call ⟨.value (.func
 74),#[t 19,t 21],#[26,26]⟩) 17 true,d 23 (.pick (t 17) (t 22) (.const (.bool false))),a 4 23] .ret))).1
theorem zAo:Zz.H 24 2 22 zMC [.tmp 4]:=fun hn h =>
 zb zi Tryz.func22 (by kernel_rfl) (by kernel_rfl) (by kernel_rfl) (by omega) h
def zMD:PC:=(⟨_,by delta S d i s t;exact rfl⟩:Zz.Q (S [d 0 (.alloc 28)] (S [d 1 (.build 53 #[(0,i 1),(1,i 1),(2,i 7)]),d 2 (.buildSlice 54 1
 #[(0,t 1)]),d 3 (.buildSlice 55 1 #[(0,t 2)]),d 4 (.build 57 #[(0,.const (.string ⟨#[102]⟩)),(3,i 1),(4,t 3)]),d 5 (.buildSlice 26 1 #[(0,t 4)]),d 6 (.build 28
 #[(1,i 16),(0,t 5)]),s 28 0 6] .ret))).1
theorem zAp:Zz.H 7 0 34 zMD [.cell 0 28]:=fun hn h =>
 zb zi Tryz.func34 (by kernel_rfl) (by kernel_rfl) (by kernel_rfl) (by omega) h
def ziW:PC:=(⟨_,by delta C S a b d i m t;exact rfl⟩:Zz.Q (.seq (S [m 4 0,b 5 .gtr 3 (t 4) (i 127) 3] (C 5 .skip (.exit 0))) (.seq (.block
 1 (.ops [m 8 3,m 9 0,d 10 (.convert 3 5 (t 9)),b 11 .or 5 (t 10) (.const (.int .u8 128)) 5,d 12 (.buildSlice 32 1 #[(0,t 11)]),d 13 (.call ⟨.builtin
 .append,#[t 8,t 12],#[32,32]⟩),a 3 13])) (.ops [m 6 0,b 7 .shr 3 (t 6) (.const (.int .u64 7)) 116,a 0 7])))).1
def zoB:PC:=(⟨_,by delta S a d m t;exact rfl⟩:Zz.Q (S [m 14 3,m 15 0,d 16 (.convert 3 5 (t 15)),d 17 (.buildSlice 32 1 #[(0,t 16)]),d 18
 (.call ⟨.builtin .append,#[t 14,t 17],#[32,32]⟩),a 2 18] .ret)).1
def zME:PC:=(⟨_,by delta A S;exact rfl⟩:Zz.Q (S [A 2 (.const (.slice none 0 0))] (S [A 3 (.const (.slice none 0 0))] (.seq (.block 0 (.loop
 ziW)) zoB)))).1
theorem zAq:Zz.H 19 1 35 zME [.tmp 2]:=fun hn h =>
 zb zi Tryz.func35 (by kernel_rfl) (by kernel_rfl) (by kernel_rfl) (by omega) h
def zfW:PC:=(⟨_,by delta C S a b d i m t w;exact rfl⟩:Zz.Q (.seq (S [m 4 0,b 5 .lss 3 (t 4) (i (-64)) 3,m 6 5,w 7 (.move (t 0)) 6 false,w
 8 (.binOp .gtr 3 (t 7) (i 63) 3) 6 false,d 9 (.pick (t 6) (.const (.bool true)) (t 8))] (C 9 .skip (.exit 0))) (.seq (.block 1 (.ops [m 12 3,m 13 0,d 14
 (.convert 3 5 (t 13)),b 15 .or 5 (t 14) (.const (.int .u8 128)) 5,d 16 (.buildSlice 32 1 #[(0,t 15)]),d 17 (.call ⟨.builtin .append,#[t 12,t 16],#[32,32]⟩),a 3
 17])) (.ops [m 10 0,b 11 .shr 3 (t 10) (.const (.int .u64 7)) 116,a 0 11])))).1
def zoC:PC:=(⟨_,by delta S a b d m t;exact rfl⟩:Zz.Q (S [m 18 3,m 19 0,d 20 (.convert 3 5 (t 19)),b 21 .and 5 (t 20) (.const (.int .u8
 127)) 5,d 22 (.buildSlice 32 1 #[(0,t 21)]),d 23 (.call ⟨.builtin .append,#[t 18,t 22],#[32,32]⟩),a 2 23] .ret)).1
def zMF:PC:=(⟨_,by delta A S;exact rfl⟩:Zz.Q (S [A 2 (.const (.slice none 0 0))] (S [A 3 (.const (.slice none 0 0))] (.seq (.block 0 (.loop
 zfW)) zoC)))).1
theorem zAr:Zz.H 24 1 36 zMF [.tmp 2]:=fun hn h =>
 zb zi Tryz.func36 (by kernel_rfl) (by kernel_rfl) (by kernel_rfl) (by omega) h
def znd:PC:=(⟨_,by delta C S b d m s t;exact rfl⟩:Zz.Q (S [m 4 2,b 5 .neq 20 (t 4) (.const .nilIface) 20] (C 5 (.ops [d 6 (.build 28 #[]),m
 7 2,d 8 (.typeAssert (t 7) 20 33 false),s 28 0 6,s 33 1 8]) .skip))).1
def zK5:PC:=(⟨_,by delta A C S a b d m t;exact rfl⟩:Zz.Q (S [A 2 (.const (.slice none 0 0))] (.seq (S [m 3 0,b 4 .eql 32 (t 3) (.const
 (.slice none 0 0)) 32] (C 4 (S [A 2 (.const (.slice none 0 0))] .ret) .skip)) (S [d 5 (.buildSlice 32 0 #[]),m 6 0,d 7 (.call ⟨.builtin .append,#[t 5,t
 6],#[32,32]⟩),a 2 7] .ret)))).1
theorem zAs:Zz.H 8 1 38 zK5 [.tmp 2]:=fun hn h =>
 zb zi Tryz.func38 (by kernel_rfl) (by kernel_rfl) (by kernel_rfl) (by omega) h
def zlB:PC:=(⟨_,by delta C L S a b c i l m t x;exact rfl⟩:Zz.Q (S [b 19 .lss 3 (t 18) (t 17) 3] (.seq (C 19 .skip (.exit 0)) (.seq (.block
 1 (S [x 20 22 16 18,l 21 9 20,a 4 21] (.ops [m 22 0,m 23 4,L 24 23 9,b 25 .add 3 (i 5) (t 24) 3,b 26 .add 3 (t 25) (i 2) 3,c 27 87 #[t 22,t 26] #[59,3]])))
 (.ops [b 28 .add 3 (t 18) (i 1) 3,m 18 28]))))).1
def zlC:PC:=(⟨_,by delta C S b c i m t;exact rfl⟩:Zz.Q (S [b 34 .lss 3 (t 33) (t 32) 3] (.seq (C 34 .skip (.exit 2)) (.seq (.block 3 (.ops
 [m 35 0,c 36 90 #[t 35,.const (.bool false)] #[59,4]])) (.ops [b 37 .add 3 (t 33) (i 1) 3,m 33 37]))))).1
def zlD:PC:=(⟨_,by delta C S a b c f i l m t x;exact rfl⟩:Zz.Q (S [b 72 .lss 3 (t 71) (t 70) 3] (.seq (C 72 .skip (.exit 4)) (.seq (.block
 5 (S [m 73 71,a 5 73] (.ops [m 74 0,f 75 28 2 0,l 76 26 75,m 77 5,x 78 26 76 77,c 79 91 #[t 74,t 78] #[59,121]]))) (.ops [b 80 .add 3 (t 71) (i 1) 3,m 71
 80]))))).1
def zlE:PC:=(⟨_,by delta C S a b c f i l m s t x;exact rfl⟩:Zz.Q (S [b 98 .lss 3 (t 97) (t 96) 3] (.seq (C 98 .skip (.exit 6)) (.seq
 (.block 7 (S [m 99 97,a 6 99] (S [m 100 0,c 101 90 #[t 100,.const (.bool false)] #[59,4]] (.ops [f 102 28 2 0,l 103 26 102,m 104 6,m 105 0,m 106 0,⟨some
 107,.call ⟨.value (.func 90),#[t 106,.const (.bool false)],#[59,4]⟩,none,[⟨none,26,t 102,103⟩]⟩,⟨some 108,.call ⟨.value (.func 87),#[t 105,t
 107],#[59,3]⟩,none,[⟨none,26,t 102,103⟩]⟩,⟨some 109,.convert 32 9 (t 108),none,[⟨none,26,t 102,103⟩]⟩,x 110 26 103 104,f 111 57 110 0,s 9 111 109])))) (.ops [b
 112 .add 3 (t 97) (i 1) 3,m 97 112]))))).1
def ziX:PC:=(⟨_,by delta S l s;exact rfl⟩:Zz.Q (S [l 113 28 2,s 28 2 113] .ret)).1
def ziY:PC:=(⟨_,by delta L S b c d f i l m t;exact rfl⟩:Zz.Q (S [m 81 0,c 82 89 #[t 81,.const (.int .u8 0)] #[59,5]] (S [m 83 0,c 84 87
 #[t 83,i 6] #[59,3]] (S [m 85 0,c 86 90 #[t 85,.const (.bool false)] #[59,4]] (S [m 87 0,f 89 28 2 0,l 90 26 89,L 91 90 26,⟨some 88,.call ⟨.value (.func
 90),#[t 87,.const (.bool false)],#[59,4]⟩,none,[⟨none,26,t 89,90⟩]⟩,b 92 .eql 3 (t 88) (t 91) 3,c 93 40 #[t 92,i 2] #[4,33]] (.seq (S [f 94 28 2 0,l 95 26 94,L
 96 95 26,d 97 (.move (i 0))] (.block 6 (.loop zlE))) ziX)))))).1
def ziZ:PC:=(⟨_,by delta L S b c d f i l m s t;exact rfl⟩:Zz.Q (S [m 38 0,c 39 89 #[t 38,.const (.int .u8 5)] #[59,5]] (S [m 40 0,c 41 87
 #[t 40,i 3] #[59,3]] (S [m 42 0,c 43 89 #[t 42,.const (.int .u8 6)] #[59,5]] (S [m 44 0,c 45 87 #[t 44,i 4] #[59,3]] (S [m 46 0,c 47 90 #[t 46,.const (.bool
 true)] #[59,4],f 48 28 2 1,s 3 48 47] (S [m 49 0,c 50 87 #[t 49,i 1] #[59,3]] (S [m 51 0,c 52 89 #[t 51,.const (.int .u8 7)] #[59,5]] (S [m 53 0,c 54 87 #[t
 53,i 7] #[59,3]] (S [m 55 0,c 56 90 #[t 55,.const (.bool false)] #[59,4],b 57 .sub 3 (t 56) (i 3) 3,f 58 28 2 2,s 3 58 57] (S [m 59 0,c 60 89 #[t 59,.const
 (.int .u8 10)] #[59,5]] (S [m 61 0,f 63 28 2 0,l 64 26 63,L 65 64 26,⟨some 62,.call ⟨.value (.func 90),#[t 61,.const (.bool false)],#[59,4]⟩,none,[⟨none,26,t
 63,64⟩]⟩,b 66 .eql 3 (t 62) (t 65) 3,c 67 40 #[t 66,i 2] #[4,33]] (.seq (S [f 68 28 2 0,l 69 26 68,L 70 69 26,d 71 (.move (i 0))] (.block 4 (.loop zlD)))
 ziY))))))))))))).1
def zi0:PC:=(⟨_,by delta S c d i m t;exact rfl⟩:Zz.Q (S [m 29 0,c 30 89 #[t 29,.const (.int .u8 3)] #[59,5]] (.seq (S [m 31 0,c 32 90 #[t
 31,.const (.bool false)] #[59,4],d 33 (.move (i 0))] (.block 2 (.loop zlC))) ziZ))).1
def zK6:PC:=(⟨_,by delta L S c d f i m s t;exact rfl⟩:Zz.Q (S [d 2 (.alloc 28)] (S [m 7 0,c 8 87 #[t 7,i 8] #[59,3]] (S [m 9 0,c 10 88 #[t 9]
 #[59],f 11 28 2 0,s 26 11 10] (S [m 12 0,c 13 89 #[t 12,.const (.int .u8 2)] #[59,5]] (S [m 14 0,c 15 87 #[t 14,i 1] #[59,3]] (.seq (S [d 16 (.buildSlice 22 3
 #[(0,.const (.string ⟨#[105,110]⟩)),(1,.const (.string ⟨#[111,117,116]⟩)),(2,.const (.string ⟨#[116,114,97,112]⟩))]),L 17 16 22,d 18 (.move (i 0))] (.block 0
 (.loop zlB))) zi0))))))).1
theorem zAt:Zz.H 114 1 39 zK6 [.cell 2 28]:=fun hn h =>
 zb zi Tryz.func39 (by kernel_rfl) (by kernel_rfl) (by kernel_rfl) (by omega) h
def zK7:PC:=(⟨_,by delta C S d e m t;exact rfl⟩:Zz.Q (S [m 4 0,d 5 (.unOp .not 4 (t 4))] (C 5 (.ops [m 6 1,d 7 (.makeInterface 33 (t 6)),e
 (.panic (t 7))]) .skip))).1
theorem zAu:Zz.H 8 2 40 zK7 []:=fun hn h =>
 zb zi Tryz.func40 (by kernel_rfl) (by kernel_rfl) (by kernel_rfl) (by omega) h
def zMG:PC:=(⟨_,by delta A S a c d e f l t;exact rfl⟩:Zz.Q (S [d 1 (.box 28 (t 0)),A 2 (.const (.bool false))] (S [d 3 (.alloc 122),e (.store
 122 (t 3) (.func 92))] (S [f 4 28 1 0,l 5 26 4,d 6 (.makeFunc (.func 94) #[] #[t 3]),c 7 93 #[t 5,t 6] #[26,125],d 8 (.unOp .not 4 (t 7)),a 2 8] .ret)))).1
theorem zAv:Zz.H 9 1 41 zMG [.tmp 2]:=fun hn h =>
 zb zi Tryz.func41 (by kernel_rfl) (by kernel_rfl) (by kernel_rfl) (by omega) h
def zK8:PC:=(⟨_,by delta A S a b d e f i l m t w;exact rfl⟩:Zz.Q (S [d 1 (.box 28 (t 0)),A 2 (.const (.bool false))] (S [d 3 (.alloc 126),e
 (.store 126 (t 3) (.func 96))] (S [f 4 28 1 2,l 5 3 4,b 6 .geq 3 (t 5) (i (-3)) 3,m 7 6,w 8 (.fieldAddr 28 (t 1) 0) 7 true,w 9 (.load 26 (t 8)) 7 true,w 10
 (.makeFunc (.func 97) #[] #[t 3]) 7 true,w 11 (.call ⟨.value (.func 93),#[t 9,t 10],#[26,125]⟩) 7 true,w 12 (.unOp .not 4 (t 11)) 7 true,d 13 (.pick (t 7) (t
 12) (.const (.bool false))),a 2 13] .ret)))).1
theorem zAw:Zz.H 14 1 42 zK8 [.tmp 2]:=fun hn h =>
 zb zi Tryz.func42 (by kernel_rfl) (by kernel_rfl) (by kernel_rfl) (by omega) h
def zEo:PC:=(⟨_,by delta A S a b d m t;exact rfl⟩:Zz.Q (S [A 4 (.const (.bool false))] (S [m 5 0,d 6 (.convert 32 9 (t 5)),m 7 1,d 8
 (.convert 32 9 (t 7)),b 9 .eql 9 (t 6) (t 8) 9,a 4 9] .ret))).1
theorem zAx:Zz.H 10 2 43 zEo [.tmp 4]:=fun hn h =>
 zb zi Tryz.func43 (by kernel_rfl) (by kernel_rfl) (by kernel_rfl) (by omega) h
def zMH:PC:=(⟨_,by delta A S a c d m t;exact rfl⟩:Zz.Q (S [A 4 (.const (.slice none 0 0))] (S [d 5 (.buildSlice 32 1 #[(0,.const (.int .u8
 96))]),m 6 0,c 7 101 #[t 6] #[44],m 8 1,c 9 102 #[t 8] #[3],d 10 (.buildSlice 64 3 #[(0,t 5),(1,t 7),(2,t 9)]),c 11 45 #[t 10] #[64],a 4 11] .ret))).1
theorem zAy:Zz.H 12 2 44 zMH [.tmp 4]:=fun hn h =>
 zb zi Tryz.func44 (by kernel_rfl) (by kernel_rfl) (by kernel_rfl) (by omega) h
def zoD:PC:=(⟨_,by delta C L S a b d e i l m t x;exact rfl⟩:Zz.Q (S [b 12 .lss 3 (t 11) (t 10) 3] (.seq (C 12 .skip (.exit 0)) (.seq
 (.block 1 (S [x 13 64 9 11,l 14 32 13,a 5 14] (S [m 15 3,m 16 5,L 17 16 32,b 18 .add 3 (t 15) (t 17) 3,a 3 18] (S [m 19 3,b 20 .lss 3 (t 19) (i 0) 3] (C 20
 (.ops [d 21 (.makeInterface 9 (.const (.string ⟨#[108,101,110,32,111,117,116,32,111,102,32,114,97,110,103,101]⟩))),e (.panic (t 21))]) .skip))))) (.ops [b 22
 .add 3 (t 11) (i 1) 3,m 11 22]))))).1
def zbX:PC:=(⟨_,by delta C S a b d i l m t x;exact rfl⟩:Zz.Q (S [b 28 .lss 3 (t 27) (t 26) 3] (.seq (C 28 .skip (.exit 2)) (.seq (.block 3
 (S [x 29 64 25 27,l 30 32 29,a 8 30] (.ops [m 31 6,m 32 8,d 33 (.call ⟨.builtin .append,#[t 31,t 32],#[32,32]⟩),a 6 33]))) (.ops [b 34 .add 3 (t 27) (i 1) 3,m
 27 34]))))).1
def zg9:PC:=(⟨_,by delta S a m;exact rfl⟩:Zz.Q (S [m 35 6,a 2 35] .ret)).1
def zsG:PC:=(⟨_,by delta L S a c d i m t;exact rfl⟩:Zz.Q (S [m 23 3,c 24 103 #[.const (.slice none 0 0),t 23] #[32,3],a 6 24] (.seq (S [m
 25 0,L 26 25 64,d 27 (.move (i 0))] (.block 2 (.loop zbX))) zg9))).1
def zMI:PC:=(⟨_,by delta A L S d i m;exact rfl⟩:Zz.Q (S [A 2 (.const (.slice none 0 0))] (S [A 3 (i 0)] (.seq (S [m 9 0,L 10 9 64,d 11 (.move
 (i 0))] (.block 0 (.loop zoD))) zsG)))).1
theorem zAz:Zz.H 36 1 45 zMI [.tmp 2]:=fun hn h =>
 zb zi Tryz.func45 (by kernel_rfl) (by kernel_rfl) (by kernel_rfl) (by omega) h
def zMJ:PC:=(⟨_,by delta A L S a c d m t;exact rfl⟩:Zz.Q (S [A 2 (.const (.slice none 0 0))] (S [m 3 0,L 4 3 32,c 5 35 #[t 4] #[3],m 6 0,d 7
 (.call ⟨.builtin .append,#[t 5,t 6],#[32,32]⟩),a 2 7] .ret))).1
theorem zAA:Zz.H 8 1 46 zMJ [.tmp 2]:=fun hn h =>
 zb zi Tryz.func46 (by kernel_rfl) (by kernel_rfl) (by kernel_rfl) (by omega) h
def zlF:PC:=(⟨_,by delta C L S a b d i m t w;exact rfl⟩:Zz.Q (.seq (S [m 8 4,m 9 0,L 10 9 44,b 11 .lss 3 (t 8) (t 10) 3,m 12 11,w 13
 (.move (t 0)) 12 true,w 14 (.move (t 4)) 12 true,w 15 (.indexAddr 44 (t 13) (t 14)) 12 true,w 16 (.load 3 (t 15)) 12 true,w 17 (.move (t 0)) 12 true,w 18
 (.indexAddr 44 (t 17) (i 0)) 12 true,w 19 (.load 3 (t 18)) 12 true,w 20 (.binOp .eql 3 (t 16) (t 19) 3) 12 true,d 21 (.pick (t 12) (t 20) (.const (.bool
 false)))] (C 21 .skip (.exit 2))) (.block 3 (.ops [m 22 4,b 23 .add 3 (t 22) (i 1) 3,a 4 23])))).1
def zoE:PC:=(⟨_,by delta a b c d i l m t;exact rfl⟩:Zz.Q (.seq (.both [[m 24 3,m 25 4,m 27 0,d 28 (.indexAddr 44 (t 27) (i 0)),l 29 3 28,b
 30 .sub 3 (i 128) (t 29) 3,⟨some 26,.call ⟨.value (.func 35),#[t 25],#[3]⟩,none,[⟨none,3,t 28,29⟩]⟩,d 31 (.convert 3 5 (t 30)),d 32 (.buildSlice 32 1 #[(0,t
 31)]),d 33 (.call ⟨.builtin .append,#[t 26,t 32],#[32,32]⟩),d 34 (.buildSlice 64 1 #[(0,t 33)]),d 35 (.call ⟨.builtin .append,#[t 24,t 34],#[64,64]⟩),a 3
 35],[m 24 3,m 25 4,m 27 0,d 28 (.indexAddr 44 (t 27) (i 0)),l 29 3 28,b 30 .sub 3 (i 128) (t 29) 3,d 31 (.convert 3 5 (t 30)),d 32 (.buildSlice 32 1 #[(0,t
 31)]),c 26 35 #[t 25] #[3],d 33 (.call ⟨.builtin .append,#[t 26,t 32],#[32,32]⟩),d 34 (.buildSlice 64 1 #[(0,t 33)]),d 35 (.call ⟨.builtin .append,#[t 24,t
 34],#[64,64]⟩),a 3 35]]) (.ops [m 36 0,m 37 4,d 38 (.slice 44 (t 36) (some (t 37)) none none),a 0 38]))).1
def zoF:PC:=(⟨_,by delta A C L S b i m t;exact rfl⟩:Zz.Q (.seq (S [m 5 0,L 6 5 44,b 7 .gtr 3 (t 6) (i 0) 3] (C 7 .skip (.exit 0))) (.block
 1 (S [A 4 (i 1)] (.seq (.block 2 (.loop zlF)) zoE))))).1
def zoG:PC:=(⟨_,by delta S a c m t;exact rfl⟩:Zz.Q (S [m 39 3,c 40 50 #[t 39] #[64],a 2 40] .ret)).1
def zMK:PC:=(⟨_,by delta A S;exact rfl⟩:Zz.Q (S [A 2 (.const (.slice none 0 0))] (S [A 3 (.const (.slice none 0 0))] (.seq (.block 0 (.loop
 zoF)) zoG)))).1
theorem zAB:Zz.H 41 1 47 zMK [.tmp 2]:=fun hn h =>
 zb zi Tryz.func47 (by kernel_rfl) (by kernel_rfl) (by kernel_rfl) (by omega) h
def zeN:PC:=(⟨_,by delta C S a b c d f i l m s t w x;exact rfl⟩:Zz.Q (S [b 14 .lss 3 (t 13) (t 12) 3] (.seq (C 14 .skip (.exit 0)) (.seq
 (.block 1 (S [x 15 54 11 13,l 16 53 15,d 6 (.alloc 53),s 53 6 16] (.seq (S [f 17 53 6 0,l 18 3 17] (.block 2 (.seq (S [b 20 .eql 3 (t 18) (i 11) 3,a 19 20] (C
 19 .skip (S [b 21 .eql 3 (t 18) (i 12) 3,a 19 21] (C 19 .skip (.ops [b 22 .eql 3 (t 18) (i 13) 3,a 19 22]))))) (C 19 (S [m 23 4,f 24 53 6 0,l 25 3 24,b 26 .add
 3 (i 2) (t 25) 3,b 27 .sub 3 (t 26) (i 11) 3,d 28 (.convert 3 5 (t 27)),d 29 (.buildSlice 32 2 #[(0,t 28),(1,.const (.int .u8 64))]),d 30 (.call ⟨.builtin
 .append,#[t 23,t 29],#[32,32]⟩),a 4 30] (S [m 31 4,l 32 57 2,f 33 53 6 3,l 34 3 33,c 35 48 #[t 32,t 34] #[57,3],d 36 (.call ⟨.builtin .append,#[t 31,t
 35],#[32,32]⟩),a 4 36] (.seq (S [f 37 53 6 0,l 38 3 37,b 39 .eql 3 (t 38) (i 13) 3,m 40 39,w 41 (.fieldAddr 53 (t 6) 4) 40 true,w 42 (.load 3 (t 41)) 40 true,w
 43 (.binOp .geq 3 (t 42) (i 0) 3) 40 true,d 44 (.pick (t 40) (t 43) (.const (.bool false)))] (C 44 (.ops [m 45 4,d 46 (.buildSlice 32 1 #[(0,.const (.int .u8
 5))]),l 48 57 2,f 49 53 6 4,l 50 3 49,⟨some 47,.call ⟨.builtin .append,#[t 45,t 46],#[32,32]⟩,none,[⟨none,57,t 2,48⟩,⟨none,3,t 49,50⟩]⟩,c 51 48 #[t 48,t 50]
 #[57,3],d 52 (.call ⟨.builtin .append,#[t 47,t 51],#[32,32]⟩),a 4 52]) .skip)) (S [m 53 4,d 54 (.buildSlice 32 1 #[(0,.const (.int .u8 11))]),d 55 (.call
 ⟨.builtin .append,#[t 53,t 54],#[32,32]⟩),a 4 55] (.exit 1))))) .skip)))) (S [m 56 4,l 57 53 6,c 58 104 #[t 57] #[53],d 59 (.buildSlice 32 1 #[(0,t 58)]),d 60
 (.call ⟨.builtin .append,#[t 56,t 59],#[32,32]⟩),a 4 60] (S [f 61 53 6 0,l 62 3 61] (.block 3 (S [b 64 .eql 3 (t 62) (i 1) 3,a 63 64] (C 63 (.ops [m 65 4,f 66
 53 6 2,l 67 3 66,c 68 36 #[t 67] #[3],d 69 (.call ⟨.builtin .append,#[t 65,t 68],#[32,32]⟩),a 4 69]) (.seq (S [b 71 .eql 3 (t 62) (i 2) 3,a 70 71] (C 70 .skip
 (S [b 72 .eql 3 (t 62) (i 3) 3,a 70 72] (C 70 .skip (S [b 73 .eql 3 (t 62) (i 10) 3,a 70 73] (C 70 .skip (S [b 74 .eql 3 (t 62) (i 14) 3,a 70 74] (C 70 .skip
 (.ops [b 75 .eql 3 (t 62) (i 15) 3,a 70 75]))))))))) (C 70 (.ops [m 76 4,f 77 53 6 2,l 78 3 77,c 79 35 #[t 78] #[3],d 80 (.call ⟨.builtin .append,#[t 76,t
 79],#[32,32]⟩),a 4 80]) (.seq (S [b 82 .eql 3 (t 62) (i 8) 3,a 81 82] (C 81 .skip (.ops [b 83 .eql 3 (t 62) (i 9) 3,a 81 83]))) (C 81 (.ops [m 84 4,d 85
 (.buildSlice 32 2 #[(0,.const (.int .u8 0)),(1,.const (.int .u8 0))]),d 86 (.call ⟨.builtin .append,#[t 84,t 85],#[32,32]⟩),a 4 86]) .skip)))))))))))) (.ops [b
 87 .add 3 (t 13) (i 1) 3,m 13 87]))))).1
def zoH:PC:=(⟨_,by delta S a m;exact rfl⟩:Zz.Q (S [m 88 4,a 4 88] .ret)).1
def zML:PC:=(⟨_,by delta A L S d f i l m t x;exact rfl⟩:Zz.Q (S [d 2 (.box 57 (t 0)),A 4 (.const (.slice none 0 0))] (.seq (S [f 7 57 2 4,l 8
 55 7,m 9 1,x 10 55 8 9,l 11 54 10,L 12 11 54,d 13 (.move (i 0))] (.block 0 (.loop zeN))) zoH))).1
theorem zAC:Zz.H 89 2 48 zML [.tmp 4]:=fun hn h =>
 zb zi Tryz.func48 (by kernel_rfl) (by kernel_rfl) (by kernel_rfl) (by omega) h
def zMM:PC:=(⟨_,by delta A S a c d m t;exact rfl⟩:Zz.Q (S [A 4 (.const (.slice none 0 0))] (S [m 5 0,d 6 (.buildSlice 32 1 #[(0,t 5)]),m 7
 1,c 8 45 #[t 7] #[64],c 9 46 #[t 8] #[32],d 10 (.call ⟨.builtin .append,#[t 6,t 9],#[32,32]⟩),a 4 10] .ret))).1
theorem zAD:Zz.H 11 2 49 zMM [.tmp 4]:=fun hn h =>
 zb zi Tryz.func49 (by kernel_rfl) (by kernel_rfl) (by kernel_rfl) (by omega) h
def zMN:PC:=(⟨_,by delta A L S a c d m t;exact rfl⟩:Zz.Q (S [A 2 (.const (.slice none 0 0))] (S [m 3 0,L 4 3 64,c 5 35 #[t 4] #[3],m 6 0,c 7
 45 #[t 6] #[64],d 8 (.call ⟨.builtin .append,#[t 5,t 7],#[32,32]⟩),a 2 8] .ret))).1
theorem zAE:Zz.H 9 1 50 zMN [.tmp 2]:=fun hn h =>
 zb zi Tryz.func50 (by kernel_rfl) (by kernel_rfl) (by kernel_rfl) (by omega) h
def zco:PC:=(⟨_,by delta A C L S a b d i m t w;exact rfl⟩:Zz.Q (.seq (S [m 5 3,m 6 0,L 7 6 9,b 8 .lss 3 (t 5) (t 7) 3] (C 8 .skip (.exit
 0))) (.seq (.block 1 (S [m 11 0,m 12 3,d 13 (.index 9 (t 11) (t 12)),b 14 .geq 5 (t 13) (.const (.int .u8 97)) 5,m 15 14,w 16 (.move (t 0)) 15 true,w 17 (.move
 (t 3)) 15 true,w 18 (.index 9 (t 16) (t 17)) 15 true,w 19 (.binOp .leq 5 (t 18) (.const (.int .u8 122)) 5) 15 true,d 20 (.pick (t 15) (t 19) (.const (.bool
 false))),m 21 20,w 22 (.move (t 0)) 21 false,w 23 (.move (t 3)) 21 false,w 24 (.index 9 (t 22) (t 23)) 21 false,w 25 (.binOp .eql 5 (t 24) (.const (.int .u8
 95)) 5) 21 false,d 26 (.pick (t 21) (.const (.bool true)) (t 25)),a 4 26] (S [m 27 4,d 28 (.unOp .not 4 (t 27)),m 29 28,w 30 (.move (t 3)) 29 true,w 31 (.binOp
 .eql 3 (t 30) (i 0) 3) 29 true,w 32 (.move (t 31)) 29 true,w 33 (.move (t 0)) 32 false,w 34 (.move (t 3)) 32 false,w 35 (.index 9 (t 33) (t 34)) 32 false,w 36
 (.binOp .lss 5 (t 35) (.const (.int .u8 48)) 5) 32 false,w 37 (.pick (t 32) (.const (.bool true)) (t 36)) 29 true,w 38 (.move (t 37)) 29 true,w 39 (.move (t
 0)) 38 false,w 40 (.move (t 3)) 38 false,w 41 (.index 9 (t 39) (t 40)) 38 false,w 42 (.binOp .gtr 5 (t 41) (.const (.int .u8 57)) 5) 38 false,w 43 (.pick (t
 38) (.const (.bool true)) (t 42)) 29 true,d 44 (.pick (t 29) (t 43) (.const (.bool false)))] (C 44 (S [A 2 (.const (.bool false))] .ret) .skip)))) (.ops [m 9
 3,b 10 .add 3 (t 9) (i 1) 3,a 3 10])))).1
def zlG:PC:=(⟨_,by delta L S a b d i m t w;exact rfl⟩:Zz.Q (S [m 45 0,L 46 45 9,b 47 .geq 3 (t 46) (i 1) 3,m 48 47,w 49 (.move (t 0)) 48
 true,w 50 (.call ⟨.builtin .len,#[t 49],#[9]⟩) 48 true,w 51 (.binOp .leq 3 (t 50) (i 24) 3) 48 true,d 52 (.pick (t 48) (t 51) (.const (.bool false))),a 2 52]
 .ret)).1
def zMO:PC:=(⟨_,by delta A S i;exact rfl⟩:Zz.Q (S [A 2 (.const (.bool false))] (.seq (S [A 3 (i 0)] (.block 0 (.loop zco))) zlG))).1
theorem zAF:Zz.H 53 1 51 zMO [.tmp 2]:=fun hn h =>
 zb zi Tryz.func51 (by kernel_rfl) (by kernel_rfl) (by kernel_rfl) (by omega) h
def zne:PC:=(⟨_,by delta C S b d m s t;exact rfl⟩:Zz.Q (S [m 3 1,b 4 .neq 20 (t 3) (.const .nilIface) 20] (C 4 (.ops [m 5 1,d 6
 (.typeAssert (t 5) 20 71 false),d 7 (.field 71 (t 6) 0),s 33 0 7]) .skip))).1
def zK9:PC:=(⟨_,by delta C S d e m t;exact rfl⟩:Zz.Q (S [m 4 0,d 5 (.unOp .not 4 (t 4))] (C 5 (.ops [m 6 1,d 7 (.build 71 #[(0,t 6)]),d 8
 (.makeInterface 71 (t 7)),e (.panic (t 8))]) .skip))).1
theorem zAG:Zz.H 9 2 53 zK9 []:=fun hn h =>
 zb zi Tryz.func53 (by kernel_rfl) (by kernel_rfl) (by kernel_rfl) (by omega) h
def zMP:PC:=(⟨_,by delta L S b c d f i l m n s t w;exact rfl⟩:Zz.Q (S [m 2 0,m 3 0,n 4 3,f 5 74 4 1,f 6 57 5 1,l 7 44 6,m 8 0,n 9 8,f 10 74 9
 1,f 11 57 10 2,l 12 44 11,d 13 (.buildSlice 186 2 #[(0,t 7),(1,t 12)]),c 14 105 #[t 13] #[186],n 15 2,f 16 74 15 2,s 44 16 14] (S [m 17 0,n 18 17,f 19 74 18
 2,l 20 44 19,c 21 95 #[t 20,.func 106] #[44,122],d 22 (.unOp .not 4 (t 21)),m 23 22,w 24 (.move (t 0)) 23 true,w 25 (.nilCheck (t 24)) 23 true,w 26 (.fieldAddr
 74 (t 25) 1) 23 true,w 27 (.fieldAddr 57 (t 26) 3) 23 true,w 28 (.load 3 (t 27)) 23 true,w 29 (.binOp .geq 3 (t 28) (i 0) 3) 23 true,d 30 (.pick (t 23) (t 29)
 (.const (.bool false))),m 31 30,w 32 (.move (t 0)) 31 true,w 33 (.nilCheck (t 32)) 31 true,w 34 (.fieldAddr 74 (t 33) 1) 31 true,w 35 (.fieldAddr 57 (t 34) 3)
 31 true,w 36 (.load 3 (t 35)) 31 true,w 37 (.binOp .leq 3 (t 36) (i 2) 3) 31 true,d 38 (.pick (t 31) (t 37) (.const (.bool false))),c 39 53 #[t 38,i 6]
 #[4,33]] (S [m 40 0,c 41 108 #[t 40] #[72]] (.ops [m 42 0,m 43 0,n 44 43,f 45 74 44 1,f 46 57 45 4,l 47 55 46,L 48 47 55,b 49 .sub 3 (t 48) (i 1) 3,c 50 109
 #[t 42,t 49,i 0] #[72,3,3]]))))).1
theorem zAH:Zz.H 51 1 54 zMP []:=fun hn h =>
 zb zi Tryz.func54 (by kernel_rfl) (by kernel_rfl) (by kernel_rfl) (by omega) h
def zhF:PC:=(⟨_,by delta C S b d m s t;exact rfl⟩:Zz.Q (S [m 4 2,b 5 .neq 20 (t 4) (.const .nilIface) 20] (C 5 (.ops [d 6 (.build 28 #[]),m
 7 2,d 8 (.typeAssert (t 7) 20 33 false),s 28 0 6,s 33 1 8]) .skip))).1
def zi1:PC:=(⟨_,by delta C S a b c i l m t x;exact rfl⟩:Zz.Q (S [b 9 .lss 3 (t 8) (t 7) 3] (.seq (C 9 .skip (.exit 0)) (.seq (.block 1 (S
 [x 10 22 6 8,l 11 9 10,a 5 11] (.ops [m 12 0,c 13 110 #[t 12] #[75],m 14 5,b 15 .eql 9 (t 13) (t 14) 9,c 16 61 #[t 15,i 2] #[4,33]]))) (.ops [b 17 .add 3 (t 8)
 (i 1) 3,m 8 17]))))).1
def zLa:PC:=(⟨_,by delta L S d i m;exact rfl⟩:Zz.Q (S [m 6 1,L 7 6 22,d 8 (.move (i 0))] (.block 0 (.loop zi1)))).1
theorem zAI:Zz.H 18 2 56 zLa []:=fun hn h =>
 zb zi Tryz.func56 (by kernel_rfl) (by kernel_rfl) (by kernel_rfl) (by omega) h
def zoI:PC:=(⟨_,by delta C L S a b d i l m t;exact rfl⟩:Zz.Q (.seq (S [m 13 6,m 14 0,L 15 14 9,b 16 .lss 3 (t 13) (t 15) 3] (C 16 .skip
 (.exit 0))) (.seq (.block 1 (S [m 19 0,m 20 6,d 21 (.index 9 (t 19) (t 20)),a 7 21] (S [m 22 5,m 23 7,b 24 .or 5 (t 22) (t 23) 5,a 5 24] (S [m 25 7,d 26
 (.indexAddr 135 (.global 0) (t 25)),l 27 5 26,d 28 (.convert 5 3 (t 27)),a 8 28] (S [m 29 3,m 30 4,m 31 8,d 32 (.unOp .xor 3 (t 31)),b 33 .and 3 (t 30) (t 32)
 3,b 34 .add 3 (t 29) (t 33) 3,a 3 34] (.ops [m 35 8,a 4 35])))))) (.ops [m 17 6,b 18 .add 3 (t 17) (i 1) 3,a 6 18])))).1
def zsH:PC:=(⟨_,by delta C L S a b d i m t w;exact rfl⟩:Zz.Q (.seq (S [m 42 12,m 43 0,L 44 43 9,b 45 .lss 3 (t 42) (t 44) 3,m 46 45,w 47
 (.move (t 0)) 46 true,w 48 (.move (t 12)) 46 true,w 49 (.index 9 (t 47) (t 48)) 46 true,w 50 (.indexAddr 135 (.global 0) (t 49)) 46 true,w 51 (.load 5 (t 50))
 46 true,w 52 (.binOp .neq 5 (t 51) (.const (.int .u8 0)) 5) 46 true,d 53 (.pick (t 46) (t 52) (.const (.bool false)))] (C 53 .skip (.exit 2))) (.block 3 (.ops
 [m 54 12,b 55 .add 3 (t 54) (i 1) 3,a 12 55])))).1
def zsI:PC:=(⟨_,by delta C L S a b d i m t w;exact rfl⟩:Zz.Q (.seq (S [m 80 12,m 81 0,L 82 81 9,b 83 .lss 3 (t 80) (t 82) 3,m 84 83,w 85
 (.move (t 0)) 84 true,w 86 (.move (t 12)) 84 true,w 87 (.index 9 (t 85) (t 86)) 84 true,w 88 (.indexAddr 135 (.global 0) (t 87)) 84 true,w 89 (.load 5 (t 88))
 84 true,w 90 (.binOp .neq 5 (t 89) (.const (.int .u8 0)) 5) 84 true,d 91 (.pick (t 84) (t 90) (.const (.bool false)))] (C 91 .skip (.exit 6))) (.block 7 (.ops
 [m 92 12,b 93 .add 3 (t 92) (i 1) 3,a 12 93])))).1
def zsJ:PC:=(⟨_,by delta a m;exact rfl⟩:Zz.Q (.ops [m 94 12,a 11 94])).1
def zlH:PC:=(⟨_,by delta C L S a b d i l m s t x;exact rfl⟩:Zz.Q (.seq (S [m 57 12,m 58 0,L 59 58 9,b 60 .lss 3 (t 57) (t 59) 3] (C 60
 .skip (.exit 4))) (.block 5 (.seq (S [m 61 0,m 62 12,d 63 (.index 9 (t 61) (t 62)),d 64 (.indexAddr 135 (.global 0) (t 63)),l 65 5 64,b 66 .eql 5 (t 65)
 (.const (.int .u8 0)) 5] (C 66 (S [m 67 12,b 68 .add 3 (t 67) (i 1) 3,a 12 68] (.exit 5)) .skip)) (S [m 69 9,m 70 10,m 71 0,m 72 11,m 73 12,d 74 (.slice 9 (t
 71) (some (t 72)) (some (t 73)) none),x 75 22 69 70,s 9 75 74] (S [m 76 10,b 77 .add 3 (t 76) (i 1) 3,a 10 77] (S [m 78 12,b 79 .add 3 (t 78) (i 1) 3,a 12 79]
 (.seq (.block 6 (.loop zsI)) zsJ)))))))).1
def zsK:PC:=(⟨_,by delta C L S a b d m s t x;exact rfl⟩:Zz.Q (.seq (S [m 95 11,m 96 0,L 97 96 9,b 98 .lss 3 (t 95) (t 97) 3] (C 98 (.ops
 [m 99 9,m 100 10,m 101 0,m 102 11,d 103 (.slice 9 (t 101) (some (t 102)) none none),x 104 22 99 100,s 9 104 103]) .skip)) (S [m 105 9,a 2 105] .ret))).1
def zsL:PC:=(⟨_,by delta S a m;exact rfl⟩:Zz.Q (S [m 56 12,a 11 56] (.seq (.block 4 (.loop zlH)) zsK))).1
def zsM:PC:=(⟨_,by delta A C S a b c d i m t;exact rfl⟩:Zz.Q (.seq (S [m 36 5,b 37 .geq 5 (t 36) (.const (.int .u8 128)) 5] (C 37 (S [m 38
 0,c 39 111 #[t 38,.func 112] #[9,137],a 2 39] .ret) .skip)) (S [m 40 3,d 41 (.makeSlice 22 (t 40) (t 40)),a 9 41] (S [A 10 (i 0)] (S [A 11 (i 0)] (S [A 12 (i
 0)] (.seq (.block 2 (.loop zsH)) zsL))))))).1
def zMQ:PC:=(⟨_,by delta A S i;exact rfl⟩:Zz.Q (S [A 2 (.const (.slice none 0 0))] (S [A 3 (i 0)] (S [A 4 (i 1)] (S [A 5 (.const (.int .u8
 0))] (.seq (S [A 6 (i 0)] (.block 0 (.loop zoI))) zsM)))))).1
theorem zAJ:Zz.H 106 1 57 zMQ [.tmp 2]:=fun hn h =>
 zb zi Tryz.func57 (by kernel_rfl) (by kernel_rfl) (by kernel_rfl) (by omega) h
def zMR:PC:=(⟨_,by delta A S a b c d i m t w;exact rfl⟩:Zz.Q (S [A 2 (i 0)] (S [m 7 0,c 8 110 #[t 7] #[75],a 3 8] (S [m 9 3,c 10 113 #[t
 9,.const (.string ⟨#[45]⟩)] #[9,9],a 4 10] (S [m 11 4,b 12 .neq 9 (t 11) (.const (.string ⟨#[]⟩)) 9,m 13 12,w 14 (.move (t 4)) 13 true,w 15 (.call ⟨.value
 (.func 62),#[t 14,.const (.string ⟨#[48,49,50,51,52,53,54,55,56,57]⟩)],#[9,9]⟩) 13 true,w 16 (.binOp .eql 9 (t 15) (.const (.string ⟨#[]⟩)) 9) 13 true,d 17
 (.pick (t 13) (t 16) (.const (.bool false))),c 18 61 #[t 17,i 2] #[4,33]] (S [m 20 3,c 21 114 #[t 20] #[9],m 19 21,d 22 (.extract (t 19) 0),d 23 (.extract (t
 19) 1),a 5 22,a 6 23] (S [m 24 6,b 25 .eql 139 (t 24) (.const .nilIface) 139,m 26 25,w 27 (.move (t 5)) 26 true,w 28 (.call ⟨.value (.func 64),#[t 27],#[3]⟩)
 26 true,w 29 (.move (t 3)) 26 true,w 30 (.binOp .eql 9 (t 28) (t 29) 9) 26 true,d 31 (.pick (t 26) (t 30) (.const (.bool false))),c 32 61 #[t 31,i 11] #[4,33]]
 (S [m 33 5,a 2 33] .ret)))))))).1
theorem zAK:Zz.H 34 1 58 zMR [.tmp 2]:=fun hn h =>
 zb zi Tryz.func58 (by kernel_rfl) (by kernel_rfl) (by kernel_rfl) (by omega) h
def zMS:PC:=(⟨_,by delta A C S a b c d f l m n s t w;exact rfl⟩:Zz.Q (S [A 4 (.const (.bool false))] (S [m 9 0,n 10 9,f 11 77 10 0,l 12 9
 11,c 13 115 #[t 12] #[9],m 8 13,d 14 (.extract (t 8) 0),d 15 (.extract (t 8) 1),a 5 14,a 6 15] (S [m 17 6,c 18 115 #[t 17] #[9],m 16 18,d 19 (.extract (t 16)
 0),d 20 (.extract (t 16) 1),a 7 19,a 6 20] (.seq (S [m 21 5,b 22 .neq 9 (t 21) (.const (.string ⟨#[40]⟩)) 9,m 23 22,w 24 (.move (t 7)) 23 false,w 25 (.move (t
 1)) 23 false,w 26 (.binOp .neq 9 (t 24) (t 25) 9) 23 false,d 27 (.pick (t 23) (.const (.bool true)) (t 26))] (C 27 (S [A 4 (.const (.bool false))] .ret)
 .skip)) (S [m 28 0,m 29 6,n 30 28,f 31 77 30 0,s 9 31 29] (S [A 4 (.const (.bool true))] .ret))))))).1
theorem zAL:Zz.H 32 2 59 zMS [.tmp 4]:=fun hn h =>
 zb zi Tryz.func59 (by kernel_rfl) (by kernel_rfl) (by kernel_rfl) (by omega) h
def zMT:PC:=(⟨_,by delta C L S a b c d e f i l m n s t w;exact rfl⟩:Zz.Q (S [d 2 (.alloc 57)] (S [m 7 0,c 8 110 #[t 7] #[75],c 9 116 #[t
 8,.const (.string ⟨#[36]⟩)] #[9,9],m 6 9,d 10 (.extract (t 6) 0),d 11 (.extract (t 6) 1),a 3 10,a 4 11] (S [m 12 4,m 13 12,w 14 (.move (t 3)) 13 true,w 15
 (.call ⟨.value (.func 117),#[t 14],#[9]⟩) 13 true,d 16 (.pick (t 13) (t 15) (.const (.bool false))),c 17 61 #[t 16,i 2] #[4,33]] (S [m 18 3,f 19 57 2 0,s 9 19
 18] (.seq (S [m 20 0,c 21 59 #[t 20,.const (.string ⟨#[112,97,114,97,109]⟩)] #[75,9]] (C 21 (.ops [m 22 0,c 23 118 #[t 22] #[75],f 24 57 2 1,s 44 24 23])
 .skip)) (.seq (S [m 25 0,c 26 59 #[t 25,.const (.string ⟨#[114,101,115,117,108,116]⟩)] #[75,9]] (C 26 (S [m 27 0,c 28 118 #[t 27] #[75],a 5 28] (S [m 29 5,L 30
 29 44,b 31 .eql 3 (t 30) (i 1) 3,c 32 61 #[t 31,i 2] #[4,33]] (.ops [m 33 5,d 34 (.indexAddr 44 (t 33) (i 0)),l 35 3 34,f 36 57 2 3,s 3 36 35]))) .skip)) (.seq
 (S [m 37 0,c 38 59 #[t 37,.const (.string ⟨#[108,111,99,97,108]⟩)] #[75,9]] (C 38 (.ops [m 39 0,c 40 118 #[t 39] #[75],f 41 57 2 2,s 44 41 40]) .skip)) (S [m
 42 0,n 43 42,f 44 77 43 1,e (.store 55 (t 44) (.const (.slice none 0 0)))] (S [m 45 0,d 46 (.buildSlice 22 1 #[(0,.const (.string ⟨#[41]⟩))]),c 47 119 #[t 45,i
 0,t 46] #[75,3,22]] (S [m 48 0,n 49 48,f 50 77 49 1,l 51 55 50,f 52 57 2 4,s 55 52 51] (S [l 53 57 2,s 57 2 53] .ret)))))))))))).1
theorem zAM:Zz.H 54 1 60 zMT [.cell 2 57]:=fun hn h =>
 zb zi Tryz.func60 (by kernel_rfl) (by kernel_rfl) (by kernel_rfl) (by omega) h
def zLb:PC:=(⟨_,by delta C S d e m t;exact rfl⟩:Zz.Q (S [m 4 0,d 5 (.unOp .not 4 (t 4))] (C 5 (.ops [m 6 1,d 7 (.makeInterface 33 (t 6)),e
 (.panic (t 7))]) .skip))).1
theorem zAN:Zz.H 8 2 61 zLb []:=fun hn h =>
 zb zi Tryz.func61 (by kernel_rfl) (by kernel_rfl) (by kernel_rfl) (by omega) h
def zLc:PC:=(⟨_,by delta A C L S a b c d i m s t w;exact rfl⟩:Zz.Q (S [A 4 (.const (.string ⟨#[]⟩))] (.seq (S [m 7 0,b 8 .eql 9 (t 7) (.const
 (.string ⟨#[]⟩)) 9,m 9 8,w 10 (.move (t 1)) 9 false,w 11 (.binOp .eql 9 (t 10) (.const (.string ⟨#[]⟩)) 9) 9 false,d 12 (.pick (t 9) (.const (.bool true)) (t
 11))] (C 12 (S [m 13 0,a 4 13] .ret) .skip)) (.seq (S [m 14 1,L 15 14 9,b 16 .eql 3 (t 15) (i 1) 3,m 17 16,w 18 (.move (t 1)) 17 true,w 19 (.index 9 (t 18) (i
 0)) 17 true,w 20 (.binOp .lss 5 (t 19) (.const (.int .u8 128)) 5) 17 true,d 21 (.pick (t 17) (t 20) (.const (.bool false)))] (C 21 (S [m 22 0,m 23 1,d 24
 (.index 9 (t 23) (i 0)),m 26 1,d 27 (.index 9 (t 26) (i 0)),c 25 121 #[t 22,t 24] #[9,5],c 28 120 #[t 25,t 27] #[9,5],a 4 28] .ret) .skip)) (.seq (S [m 30 1,c
 31 122 #[t 30] #[9],m 29 31,d 32 (.extract (t 29) 0),d 33 (.extract (t 29) 1),d 5 (.alloc 151),s 151 5 32,a 6 33] (S [m 34 6] (C 34 (S [m 35 0,c 36 124 #[t
 35,t 5] #[9,155],c 37 123 #[t 36,t 5] #[9,155],a 4 37] .ret) .skip))) (S [m 38 0,m 39 1,c 40 126 #[t 38,t 39] #[9,9],m 41 1,c 42 125 #[t 40,t 41] #[9,9],a 4
 42] .ret)))))).1
theorem zAO:Zz.H 43 2 62 zLc [.tmp 4]:=fun hn h =>
 zb zi Tryz.func62 (by kernel_rfl) (by kernel_rfl) (by kernel_rfl) (by omega) h
def zoJ:PC:=(⟨_,by delta C S a b c f i l m n t x;exact rfl⟩:Zz.Q (S [b 9 .lss 3 (t 8) (t 7) 3] (.seq (C 9 .skip (.exit 0)) (.seq (.block 1
 (S [x 10 22 6 8,l 11 9 10,a 5 11] (.seq (S [m 12 0,n 13 12,f 14 88 13 0,c 15 127 #[t 14] #[86],b 16 .gtr 3 (t 15) (i 0) 3] (C 16 (.ops [m 17 0,n 18 17,f 19 88
 18 0,c 20 128 #[t 19,.const (.int .u8 32)] #[86,5]]) .skip)) (.ops [m 21 0,n 22 21,f 23 88 22 0,m 24 5,c 25 129 #[t 23,t 24] #[86,9]])))) (.ops [b 26 .add 3 (t
 8) (i 1) 3,m 8 26]))))).1
def zMU:PC:=(⟨_,by delta L S d i m;exact rfl⟩:Zz.Q (S [m 6 1,L 7 6 22,d 8 (.move (i 0))] (.block 0 (.loop zoJ)))).1
theorem zAP:Zz.H 27 2 63 zMU []:=fun hn h =>
 zb zi Tryz.func63 (by kernel_rfl) (by kernel_rfl) (by kernel_rfl) (by omega) h
def zoK:PC:=(⟨_,by delta C S a b c d i l m t x;exact rfl⟩:Zz.Q (S [b 18 .lss 3 (t 17) (t 16) 3] (.seq (C 18 .skip (.exit 0)) (.seq (.block
 1 (S [x 19 44 15 17,l 20 3 19,a 7 20] (.ops [m 21 0,m 22 7,c 23 131 #[t 22] #[3],d 24 (.buildSlice 22 1 #[(0,t 23)]),c 25 63 #[t 21,t 24] #[83,22]]))) (.ops [b
 26 .add 3 (t 17) (i 1) 3,m 17 26]))))).1
def zsN:PC:=(⟨_,by delta c d m t;exact rfl⟩:Zz.Q (.ops [m 27 0,d 28 (.buildSlice 22 1 #[(0,.const (.string ⟨#[41]⟩))]),c 29 63 #[t 27,t
 28] #[83,22]])).1
def zLd:PC:=(⟨_,by delta C L S b c d i m t;exact rfl⟩:Zz.Q (.seq (S [m 8 2,L 9 8 44,b 10 .eql 3 (t 9) (i 0) 3] (C 10 .ret .skip)) (S [m 11
 0,m 12 1,d 13 (.buildSlice 22 2 #[(0,.const (.string ⟨#[40]⟩)),(1,t 12)]),c 14 63 #[t 11,t 13] #[83,22]] (.seq (S [m 15 2,L 16 15 44,d 17 (.move (i 0))]
 (.block 0 (.loop zoK))) zsN)))).1
theorem zAQ:Zz.H 30 3 65 zLd []:=fun hn h =>
 zb zi Tryz.func65 (by kernel_rfl) (by kernel_rfl) (by kernel_rfl) (by omega) h
def zeO:PC:=(⟨_,by delta C S a b c d f i l m s t w x;exact rfl⟩:Zz.Q (S [b 17 .lss 3 (t 16) (t 15) 3] (.seq (C 17 .skip (.exit 0)) (.seq
 (.block 1 (S [x 18 54 14 16,l 19 53 18,d 7 (.alloc 53),s 53 7 19] (.seq (S [f 20 53 7 0,l 21 3 20] (.block 2 (.seq (S [b 23 .eql 3 (t 21) (i 11) 3,a 22 23] (C
 22 .skip (S [b 24 .eql 3 (t 21) (i 12) 3,a 22 24] (C 22 .skip (.ops [b 25 .eql 3 (t 21) (i 13) 3,a 22 25]))))) (C 22 (S [m 26 0,f 27 53 7 0,l 28 3 27,c 29 132
 #[t 28] #[3],d 30 (.buildSlice 22 1 #[(0,t 29)]),c 31 63 #[t 26,t 30] #[83,22]] (S [m 32 0,l 33 57 4,f 34 53 7 3,l 35 3 34,c 36 66 #[t 32,t 33,t 35]
 #[83,57,3]] (.seq (S [f 37 53 7 0,l 38 3 37,b 39 .eql 3 (t 38) (i 13) 3,m 40 39,w 41 (.fieldAddr 53 (t 7) 4) 40 true,w 42 (.load 3 (t 41)) 40 true,w 43 (.binOp
 .geq 3 (t 42) (i 0) 3) 40 true,d 44 (.pick (t 40) (t 43) (.const (.bool false)))] (C 44 (S [m 45 0,d 46 (.buildSlice 22 1 #[(0,.const (.string
 ⟨#[101,108,115,101]⟩))]),c 47 63 #[t 45,t 46] #[83,22]] (.ops [m 48 0,l 49 57 4,f 50 53 7 4,l 51 3 50,c 52 66 #[t 48,t 49,t 51] #[83,57,3]])) .skip)) (S [m 53
 0,d 54 (.buildSlice 22 1 #[(0,.const (.string ⟨#[101,110,100]⟩))]),c 55 63 #[t 53,t 54] #[83,22]] (.exit 1))))) .skip)))) (S [m 56 0,l 57 53 7,c 58 133 #[t 57]
 #[53],d 59 (.buildSlice 22 1 #[(0,t 58)]),c 60 63 #[t 56,t 59] #[83,22]] (S [l 62 53 7,c 63 133 #[t 62] #[53],c 64 134 #[t 63] #[9],m 61 64,d 65 (.extract (t
 61) 0),d 66 (.extract (t 61) 1),d 8 (.alloc 53),s 53 8 65,a 9 66] (S [m 67 9] (C 67 (.ops [m 68 0,f 69 53 7 2,l 70 3 69,c 71 64 #[t 70] #[3],d 72 (.buildSlice
 22 1 #[(0,t 71)]),c 73 63 #[t 68,t 72] #[83,22]]) .skip))))))) (.ops [b 74 .add 3 (t 16) (i 1) 3,m 16 74]))))).1
def zMV:PC:=(⟨_,by delta L S d f i l m t x;exact rfl⟩:Zz.Q (S [d 4 (.box 57 (t 1))] (S [f 10 57 4 4,l 11 55 10,m 12 2,x 13 55 11 12,l 14 54
 13,L 15 14 54,d 16 (.move (i 0))] (.block 0 (.loop zeO))))).1
theorem zAR:Zz.H 75 3 66 zMV []:=fun hn h =>
 zb zi Tryz.func66 (by kernel_rfl) (by kernel_rfl) (by kernel_rfl) (by omega) h
def zMW:PC:=(⟨_,by delta A L S a d f l m n t;exact rfl⟩:Zz.Q (S [A 2 (.const (.string ⟨#[]⟩))] (S [m 3 0,n 4 3,f 5 86 4 1,l 6 32 5,d 7 (.call
 ⟨.builtin .unsafeSliceData,#[t 6],#[32]⟩),m 8 0,n 9 8,f 10 86 9 1,l 11 32 10,L 12 11 32,d 13 (.call ⟨.builtin .unsafeString,#[t 7,t 12],#[160,3]⟩),a 2 13]
 .ret))).1
theorem zAS:Zz.H 14 1 67 zMW [.tmp 2]:=fun hn h =>
 zb zi Tryz.func67 (by kernel_rfl) (by kernel_rfl) (by kernel_rfl) (by omega) h
def zoL:PC:=(⟨_,by delta A C L S a b c d i l m t x;exact rfl⟩:Zz.Q (.seq (S [m 11 5,m 12 0,L 13 12 26,b 14 .lss 3 (t 11) (t 13) 3] (C 14
 .skip (.exit 0))) (.seq (.block 1 (S [m 17 0,m 18 5,x 19 26 17 18,l 20 57 19,m 21 1,m 22 5,x 23 26 21 22,l 24 57 23,c 25 140 #[t 20,t 24] #[57,57],d 26 (.unOp
 .not 4 (t 25))] (C 26 (S [A 4 (.const (.bool false))] .ret) .skip))) (.ops [m 15 5,b 16 .add 3 (t 15) (i 1) 3,a 5 16])))).1
def zsO:PC:=(⟨_,by delta A S;exact rfl⟩:Zz.Q (S [A 4 (.const (.bool true))] .ret)).1
def zMX:PC:=(⟨_,by delta A C L S b i m t;exact rfl⟩:Zz.Q (S [A 4 (.const (.bool false))] (.seq (S [m 6 0,L 7 6 26,m 8 1,L 9 8 26,b 10 .neq 3
 (t 7) (t 9) 3] (C 10 (S [A 4 (.const (.bool false))] .ret) .skip)) (.seq (S [A 5 (i 0)] (.block 0 (.loop zoL))) zsO)))).1
theorem zAT:Zz.H 27 2 74 zMX [.tmp 4]:=fun hn h =>
 zb zi Tryz.func74 (by kernel_rfl) (by kernel_rfl) (by kernel_rfl) (by omega) h
def zoM:PC:=(⟨_,by delta A C L S a b d i l m t x;exact rfl⟩:Zz.Q (.seq (S [m 11 5,m 12 0,L 13 12 44,b 14 .lss 3 (t 11) (t 13) 3] (C 14
 .skip (.exit 0))) (.seq (.block 1 (S [m 17 0,m 18 5,x 19 44 17 18,l 20 3 19,m 21 1,m 22 5,x 23 44 21 22,l 24 3 23,b 25 .eql 3 (t 20) (t 24) 3,d 26 (.unOp .not
 4 (t 25))] (C 26 (S [A 4 (.const (.bool false))] .ret) .skip))) (.ops [m 15 5,b 16 .add 3 (t 15) (i 1) 3,a 5 16])))).1
def zsP:PC:=(⟨_,by delta A S;exact rfl⟩:Zz.Q (S [A 4 (.const (.bool true))] .ret)).1
def zMY:PC:=(⟨_,by delta A C L S b i m t;exact rfl⟩:Zz.Q (S [A 4 (.const (.bool false))] (.seq (S [m 6 0,L 7 6 44,m 8 1,L 9 8 44,b 10 .neq 3
 (t 7) (t 9) 3] (C 10 (S [A 4 (.const (.bool false))] .ret) .skip)) (.seq (S [A 5 (i 0)] (.block 0 (.loop zoM))) zsP)))).1
theorem zAU:Zz.H 27 2 79 zMY [.tmp 4]:=fun hn h =>
 zb zi Tryz.func79 (by kernel_rfl) (by kernel_rfl) (by kernel_rfl) (by omega) h
def zIt:PC:=(⟨_,by delta A S a b c d f i l m n s t w;exact rfl⟩:Zz.Q (S [A 4 (.const (.slice none 0 0))] (S [m 6 1,b 7 .geq 3 (t 6) (i 0) 3,m
 8 7,w 9 (.move (t 1)) 8 true,w 10 (.move (t 0)) 8 true,w 11 (.nilCheck (t 10)) 8 true,w 12 (.fieldAddr 61 (t 11) 0) 8 true,w 13 (.load 32 (t 12)) 8 true,w 14
 (.call ⟨.builtin .len,#[t 13],#[32]⟩) 8 true,w 15 (.binOp .leq 3 (t 9) (t 14) 3) 8 true,d 16 (.pick (t 8) (t 15) (.const (.bool false))),c 17 40 #[t 16,i 2]
 #[4,33]] (S [m 18 0,n 19 18,f 20 61 19 0,l 21 32 20,m 22 1,d 23 (.slice 32 (t 21) none (some (t 22)) none),a 5 23] (S [m 24 0,m 25 0,n 26 25,f 27 61 26 0,l 28
 32 27,m 29 1,d 30 (.slice 32 (t 28) (some (t 29)) none none),n 31 24,f 32 61 31 0,s 32 32 30] (S [m 33 5,a 4 33] .ret)))))).1
theorem zAV:Zz.H 34 2 87 zIt [.tmp 4]:=fun hn h =>
 zb zi Tryz.func87 (by kernel_rfl) (by kernel_rfl) (by kernel_rfl) (by omega) h
def zlI:PC:=(⟨_,by delta C L S a b c d f i l m s t;exact rfl⟩:Zz.Q (S [b 10 .lss 3 (t 9) (t 8) 3] (.seq (C 10 .skip (.exit 0)) (.seq
 (.block 1 (S [m 11 0,c 12 87 #[t 11,i 1] #[59,3]] (S [m 13 0,c 14 150 #[t 13] #[59],d 15 (.build 57 #[(1,t 14)]),d 3 (.alloc 57),s 57 3 15] (.seq (S [m 16 0,c
 17 150 #[t 16] #[59],a 4 17] (S [m 18 4,L 19 18 44,b 20 .gtr 3 (t 19) (i 0) 3] (C 20 (.ops [m 21 4,d 22 (.indexAddr 44 (t 21) (i 0)),l 23 3 22,f 24 57 3 3,s 3
 24 23]) .skip))) (.ops [m 25 2,l 26 57 3,d 27 (.buildSlice 26 1 #[(0,t 26)]),d 28 (.call ⟨.builtin .append,#[t 25,t 27],#[26,26]⟩),a 2 28]))))) (.ops [b 29
 .add 3 (t 9) (i 1) 3,m 9 29]))))).1
def zi2:PC:=(⟨_,by delta L S a b c d i m t;exact rfl⟩:Zz.Q (S [m 30 2,L 31 30 26,b 32 .geq 3 (t 31) (i 3) 3,c 33 40 #[t 32,i 2] #[4,33]]
 (S [m 34 2,d 35 (.slice 26 (t 34) (some (i 3)) none none),a 2 35] .ret))).1
def zMZ:PC:=(⟨_,by delta A S c d i m t;exact rfl⟩:Zz.Q (S [A 2 (.const (.slice none 0 0))] (S [m 5 0,c 6 89 #[t 5,.const (.int .u8 1)]
 #[59,5]] (.seq (S [m 7 0,c 8 90 #[t 7,.const (.bool false)] #[59,4],d 9 (.move (i 0))] (.block 0 (.loop zlI))) zi2)))).1
theorem zAW:Zz.H 36 1 88 zMZ [.tmp 2]:=fun hn h =>
 zb zi Tryz.func88 (by kernel_rfl) (by kernel_rfl) (by kernel_rfl) (by omega) h
def zM0:PC:=(⟨_,by delta S b c d i l m t;exact rfl⟩:Zz.Q (S [m 4 0,c 5 87 #[t 4,i 1] #[59,3],d 6 (.indexAddr 32 (t 5) (i 0)),l 7 5 6,m 8 1,b
 9 .eql 5 (t 7) (t 8) 5,c 10 40 #[t 9,i 2] #[4,33]] (.ops [m 11 0,c 12 90 #[t 11,.const (.bool false)] #[59,4]]))).1
theorem zAX:Zz.H 13 2 89 zM0 []:=fun hn h =>
 zb zi Tryz.func89 (by kernel_rfl) (by kernel_rfl) (by kernel_rfl) (by omega) h
def zoN:PC:=(⟨_,by delta C S a b c d i l m t w;exact rfl⟩:Zz.Q (.seq (.block 1 (S [m 10 6,b 11 .lss 3 (t 10) (i 70) 3,c 12 40 #[t 11,i 2]
 #[4,33]] (S [m 13 0,c 14 87 #[t 13,i 1] #[59,3],d 15 (.indexAddr 32 (t 14) (i 0)),l 16 5 15,a 7 16] (S [m 17 5,m 18 7,b 19 .and 5 (t 18) (.const (.int .u8
 127)) 5,d 20 (.convert 5 174 (t 19)),m 21 6,b 22 .shl 174 (t 20) (t 21) 3,b 23 .or 174 (t 17) (t 22) 174,a 5 23] (S [m 24 7,b 25 .lss 5 (t 24) (.const (.int
 .u8 128)) 5] (C 25 (.seq (S [m 26 1,m 27 26,w 28 (.move (t 7)) 27 true,w 29 (.binOp .geq 5 (t 28) (.const (.int .u8 64)) 5) 27 true,d 30 (.pick (t 27) (t 29)
 (.const (.bool false))),m 31 30,w 32 (.move (t 6)) 31 true,w 33 (.binOp .lss 3 (t 32) (i 57) 3) 31 true,d 34 (.pick (t 31) (t 33) (.const (.bool false)))] (C
 34 (.ops [m 35 5,m 36 6,b 37 .add 3 (t 36) (i 7) 3,b 38 .shl 174 (.const (.int .u64 18446744073709551615)) (t 37) 3,b 39 .or 174 (t 35) (t 38) 174,a 5 39])
 .skip)) (S [m 40 5,d 41 (.convert 174 3 (t 40)),a 4 41] .ret)) .skip)))))) (.ops [m 8 6,b 9 .add 3 (t 8) (i 7) 3,a 6 9]))).1
def zM1:PC:=(⟨_,by delta A S i;exact rfl⟩:Zz.Q (S [A 4 (i 0)] (S [A 5 (.const (.int .u64 0))] (S [A 6 (i 0)] (.block 0 (.loop zoN))))
 )).1
theorem zAY:Zz.H 42 2 90 zM1 [.tmp 4]:=fun hn h =>
 zb zi Tryz.func90 (by kernel_rfl) (by kernel_rfl) (by kernel_rfl) (by omega) h
def zlJ:PC:=(⟨_,by delta C S a b c d f i l m n s t w;exact rfl⟩:Zz.Q (S [b 10 .lss 3 (t 9) (t 8) 3] (.seq (C 10 .skip (.exit 0)) (.seq
 (.block 1 (S [m 11 0,c 12 90 #[t 11,.const (.bool false)] #[59,4],a 4 12] (S [m 13 4,b 14 .geq 3 (t 13) (i 0) 3,m 15 14,w 16 (.move (t 4)) 15 true,w 17 (.move
 (t 0)) 15 true,w 18 (.nilCheck (t 17)) 15 true,w 19 (.fieldAddr 61 (t 18) 2) 15 true,w 20 (.load 3 (t 19)) 15 true,w 21 (.binOp .sub 3 (i 65536) (t 20) 3) 15
 true,w 22 (.binOp .leq 3 (t 16) (t 21) 3) 15 true,d 23 (.pick (t 15) (t 22) (.const (.bool false))),c 24 40 #[t 23,i 9] #[4,33]] (S [m 25 0,n 26 25,f 27 61 26
 2,l 28 3 27,m 29 4,b 30 .add 3 (t 28) (t 29) 3,n 31 25,f 32 61 31 2,s 3 32 30] (.ops [m 33 1,m 34 1,n 35 34,f 36 57 35 2,l 37 44 36,m 38 0,m 45 4,⟨some
 39,.call ⟨.value (.func 87),#[t 38,i 1],#[59,3]⟩,none,[⟨none,44,t 36,37⟩]⟩,d 40 (.indexAddr 32 (t 39) (i 0)),l 41 5 40,⟨some 42,.convert 5 3 (t
 41),none,[⟨none,44,t 36,37⟩]⟩,b 43 .sub 3 (i 128) (t 42) 3,d 44 (.buildSlice 44 1 #[(0,t 43)]),⟨some 46,.call ⟨.value (.func 151),#[t 44,t
 45],#[44,3]⟩,none,[⟨none,44,t 36,37⟩]⟩,d 47 (.call ⟨.builtin .append,#[t 37,t 46],#[44,44]⟩),n 48 33,f 49 57 48 2,s 44 49 47]))))) (.ops [b 50 .add 3 (t 9) (i
 1) 3,m 9 50]))))).1
def zlK:PC:=(⟨_,by delta S c e f i l m n s t;exact rfl⟩:Zz.Q (S [m 51 0,n 52 51,f 53 61 52 1,e (.store 55 (t 53) (.const (.slice none 0
 0)))] (S [m 54 0,c 55 152 #[t 54,i 0] #[59,3]] (.ops [m 56 1,m 57 0,n 58 57,f 59 61 58 1,l 60 55 59,n 61 56,f 62 57 61 4,s 55 62 60])))).1
def zM2:PC:=(⟨_,by delta S c d i m t;exact rfl⟩:Zz.Q (S [m 5 0,c 6 90 #[t 5,.const (.bool false)] #[59,4]] (.seq (S [m 7 0,c 8 90 #[t
 7,.const (.bool false)] #[59,4],d 9 (.move (i 0))] (.block 0 (.loop zlJ))) zlK))).1
theorem zAZ:Zz.H 63 2 91 zM2 []:=fun hn h =>
 zb zi Tryz.func91 (by kernel_rfl) (by kernel_rfl) (by kernel_rfl) (by omega) h
def zIu:PC:=(⟨_,by delta A S a b d i m t w;exact rfl⟩:Zz.Q (S [A 2 (.const (.bool false))] (S [m 3 0,b 4 .neq 3 (t 3) (i 1) 3,m 5 4,w 6
 (.move (t 0)) 5 true,w 7 (.binOp .neq 3 (t 6) (i 2) 3) 5 true,d 8 (.pick (t 5) (t 7) (.const (.bool false))),a 2 8] .ret))).1
theorem zA0:Zz.H 9 1 92 zIu [.tmp 2]:=fun hn h =>
 zb zi Tryz.func92 (by kernel_rfl) (by kernel_rfl) (by kernel_rfl) (by omega) h
def zM3:PC:=(⟨_,by delta A S a b c i m t;exact rfl⟩:Zz.Q (S [A 4 (.const (.bool false))] (S [m 5 0,m 6 1,c 7 153 #[t 5,t 6] #[26,125],b 8
 .geq 3 (t 7) (i 0) 3,a 4 8] .ret))).1
theorem zA1:Zz.H 9 2 93 zM3 [.tmp 4]:=fun hn h =>
 zb zi Tryz.func93 (by kernel_rfl) (by kernel_rfl) (by kernel_rfl) (by omega) h
def zM4:PC:=(⟨_,by delta A S a c d f i l m t w;exact rfl⟩:Zz.Q (S [d 2 (.box 57 (t 0)),A 3 (.const (.bool false))] (S [f 4 57 2 1,l 5 44 4,l
 6 122 1,c 7 95 #[t 5,t 6] #[44,122],m 8 7,w 9 (.fieldAddr 57 (t 2) 2) 8 false,w 10 (.load 44 (t 9)) 8 false,w 11 (.load 122 (t 1)) 8 false,w 12 (.call ⟨.value
 (.func 95),#[t 10,t 11],#[44,122]⟩) 8 false,d 13 (.pick (t 8) (.const (.bool true)) (t 12)),m 14 13,w 15 (.fieldAddr 57 (t 2) 3) 14 false,w 16 (.load 3 (t 15))
 14 false,w 17 (.binOp .neq 3 (t 16) (i 0) 3) 14 false,w 18 (.move (t 17)) 14 false,w 19 (.load 122 (t 1)) 18 true,w 20 (.fieldAddr 57 (t 2) 3) 18 true,w 21
 (.load 3 (t 20)) 18 true,w 22 (.call ⟨.value (t 19),#[t 21],#[3]⟩) 18 true,w 23 (.pick (t 18) (t 22) (.const (.bool false))) 14 false,d 24 (.pick (t 14)
 (.const (.bool true)) (t 23)),a 3 24] .ret))).1
theorem zA2:Zz.H 25 2 94 zM4 [.tmp 3]:=fun hn h =>
 zb zi Tryz.func94 (by kernel_rfl) (by kernel_rfl) (by kernel_rfl) (by omega) h
def zLe:PC:=(⟨_,by delta A S a b c i m t;exact rfl⟩:Zz.Q (S [A 4 (.const (.bool false))] (S [m 5 0,m 6 1,c 7 154 #[t 5,t 6] #[44,122],b 8
 .geq 3 (t 7) (i 0) 3,a 4 8] .ret))).1
theorem zsQ:Zz.H 9 2 95 zLe [.tmp 4]:=fun hn h =>
 zb zi Tryz.func95 (by kernel_rfl) (by kernel_rfl) (by kernel_rfl) (by omega) h
def zLf:PC:=(⟨_,by delta A S a b d f i l m t w;exact rfl⟩:Zz.Q (S [d 1 (.box 53 (t 0)),A 2 (.const (.bool false))] (S [f 3 53 1 2,l 4 3 3,b 5
 .lss 3 (t 4) (i 0) 3,m 6 5,w 7 (.fieldAddr 53 (t 1) 0) 6 true,w 8 (.load 3 (t 7)) 6 true,w 9 (.binOp .neq 3 (t 8) (i 1) 3) 6 true,d 10 (.pick (t 6) (t 9)
 (.const (.bool false))),a 2 10] .ret))).1
theorem zA3:Zz.H 11 1 96 zLf [.tmp 2]:=fun hn h =>
 zb zi Tryz.func96 (by kernel_rfl) (by kernel_rfl) (by kernel_rfl) (by omega) h
def zM5:PC:=(⟨_,by delta A S a c d f l t;exact rfl⟩:Zz.Q (S [d 2 (.box 57 (t 0)),A 3 (.const (.bool false))] (S [f 4 57 2 4,l 5 55 4,d 6
 (.makeFunc (.func 99) #[] #[t 1]),c 7 98 #[t 5,t 6] #[55,129],a 3 7] .ret))).1
theorem zA4:Zz.H 8 2 97 zM5 [.tmp 3]:=fun hn h =>
 zb zi Tryz.func97 (by kernel_rfl) (by kernel_rfl) (by kernel_rfl) (by omega) h
def zM6:PC:=(⟨_,by delta A S a b c i m t;exact rfl⟩:Zz.Q (S [A 4 (.const (.bool false))] (S [m 5 0,m 6 1,c 7 155 #[t 5,t 6] #[55,129],b 8
 .geq 3 (t 7) (i 0) 3,a 4 8] .ret))).1
theorem zA5:Zz.H 9 2 98 zM6 [.tmp 4]:=fun hn h =>
 zb zi Tryz.func98 (by kernel_rfl) (by kernel_rfl) (by kernel_rfl) (by omega) h
def zM7:PC:=(⟨_,by delta A S a c l m t;exact rfl⟩:Zz.Q (S [A 3 (.const (.bool false))] (S [m 4 0,l 5 126 1,c 6 100 #[t 4,t 5] #[54,126],a 3
 6] .ret))).1
theorem zA6:Zz.H 7 2 99 zM7 [.tmp 3]:=fun hn h =>
 zb zi Tryz.func99 (by kernel_rfl) (by kernel_rfl) (by kernel_rfl) (by omega) h
def zEp:PC:=(⟨_,by delta A S a b c i m t;exact rfl⟩:Zz.Q (S [A 4 (.const (.bool false))] (S [m 5 0,m 6 1,c 7 156 #[t 5,t 6] #[54,126],b 8
 .geq 3 (t 7) (i 0) 3,a 4 8] .ret))).1
theorem zu9:Zz.H 9 2 100 zEp [.tmp 4]:=fun hn h =>
 zb zi Tryz.func100 (by kernel_rfl) (by kernel_rfl) (by kernel_rfl) (by omega) h
def zlL:PC:=(⟨_,by delta C S a b d i l m t x;exact rfl⟩:Zz.Q (S [b 12 .lss 3 (t 11) (t 10) 3] (.seq (C 12 .skip (.exit 0)) (.seq (.block
 1 (S [x 13 44 9 11,l 14 3 13,a 5 14] (.ops [m 15 3,m 16 5,b 17 .sub 3 (i 128) (t 16) 3,d 18 (.convert 3 5 (t 17)),d 19 (.buildSlice 32 1 #[(0,t 18)]),d 20
 (.call ⟨.builtin .append,#[t 15,t 19],#[32,32]⟩),a 3 20]))) (.ops [b 21 .add 3 (t 11) (i 1) 3,m 11 21]))))).1
def zpS:PC:=(⟨_,by delta S a m;exact rfl⟩:Zz.Q (S [m 22 3,a 2 22] .ret)).1
def zEq:PC:=(⟨_,by delta A L S a c d i m t;exact rfl⟩:Zz.Q (S [A 2 (.const (.slice none 0 0))] (S [m 6 0,L 7 6 44,c 8 35 #[t 7] #[3],a 3 8]
 (.seq (S [m 9 0,L 10 9 44,d 11 (.move (i 0))] (.block 0 (.loop zlL))) zpS)))).1
theorem zva:Zz.H 23 1 101 zEq [.tmp 2]:=fun hn h =>
 zb zi Tryz.func101 (by kernel_rfl) (by kernel_rfl) (by kernel_rfl) (by omega) h
def zA7:PC:=(⟨_,by delta A C S a b c d i m t;exact rfl⟩:Zz.Q (S [A 2 (.const (.slice none 0 0))] (.seq (S [m 3 0,b 4 .eql 3 (t 3) (i 0) 3]
 (C 4 (S [c 5 101 #[.const (.slice none 0 0)] #[44],a 2 5] .ret) .skip)) (S [m 6 0,d 7 (.buildSlice 44 1 #[(0,t 6)]),c 8 101 #[t 7] #[44],a 2 8] .ret)))).1
theorem zvb:Zz.H 9 1 102 zA7 [.tmp 2]:=fun hn h =>
 zb zi Tryz.func102 (by kernel_rfl) (by kernel_rfl) (by kernel_rfl) (by omega) h
def zA8:PC:=(⟨_,by delta A C L S a b d e i m t;exact rfl⟩:Zz.Q (S [A 4 (.const (.slice none 0 0))] (.seq (S [m 5 1,b 6 .lss 3 (t 5) (i 0) 3]
 (C 6 (.ops [d 7 (.makeInterface 9 (.const (.string ⟨#[99,97,110,110,111,116,32,98,101,32,110,101,103,97,116,105,118,101]⟩))),e (.panic (t 7))]) .skip)) (.seq
 (S [m 8 1,m 9 0,d 10 (.call ⟨.builtin .cap,#[t 9],#[32]⟩),m 11 0,L 12 11 32,b 13 .sub 3 (t 10) (t 12) 3,b 14 .sub 3 (t 8) (t 13) 3,a 1 14] (S [m 15 1,b 16 .gtr
 3 (t 15) (i 0) 3] (C 16 (.ops [m 17 0,m 18 0,d 19 (.call ⟨.builtin .cap,#[t 18],#[32]⟩),d 20 (.slice 32 (t 17) none (some (t 19)) none),m 21 1,d 22 (.call
 ⟨.builtin .append,#[t 20,t 21],#[32,3]⟩),m 23 0,L 24 23 32,d 25 (.slice 32 (t 22) none (some (t 24)) none),a 0 25]) .skip))) (S [m 26 0,a 4 26] .ret))))).1
theorem zvc:Zz.H 27 2 103 zA8 [.tmp 4]:=fun hn h =>
 zb zi Tryz.func103 (by kernel_rfl) (by kernel_rfl) (by kernel_rfl) (by omega) h
def zpT:PC:=(⟨_,by delta C S a b d f i l m s t w;exact rfl⟩:Zz.Q (S [d 41 (.next (t 40) false),d 42 (.extract (t 41) 0)] (.seq (C 42
 .skip (.exit 2)) (.block 3 (S [d 43 (.entry (t 40)),d 44 (.extract (t 43) 0),d 45 (.extract (t 43) 1),d 7 (.alloc 53),a 6 44,s 53 7 45] (S [f 46 53 7 0,l 47 3
 46,f 48 53 1 0,l 49 3 48,b 50 .eql 3 (t 47) (t 49) 3,m 51 50,w 52 (.fieldAddr 53 (t 7) 2) 51 true,w 53 (.load 3 (t 52)) 51 true,w 54 (.move (t 3)) 51 true,w 55
 (.binOp .eql 3 (t 53) (t 54) 3) 51 true,d 56 (.pick (t 51) (t 55) (.const (.bool false))),m 57 56,w 58 (.fieldAddr 53 (t 7) 1) 57 true,w 59 (.load 3 (t 58)) 57
 true,w 60 (.binOp .eql 3 (t 59) (i 0) 3) 57 true,w 61 (.move (t 60)) 57 true,w 62 (.fieldAddr 53 (t 7) 1) 61 false,w 63 (.load 3 (t 62)) 61 false,w 64
 (.fieldAddr 53 (t 1) 1) 61 false,w 65 (.load 3 (t 64)) 61 false,w 66 (.binOp .eql 3 (t 63) (t 65) 3) 61 false,w 67 (.pick (t 61) (.const (.bool true)) (t 66))
 57 true,d 68 (.pick (t 57) (t 67) (.const (.bool false)))] (C 68 (S [m 69 6,a 2 69] .ret) .skip))))))).1
def zpU:PC:=(⟨_,by delta b i m t;exact rfl⟩:Zz.Q (.ops [b 70 .add 3 (t 35) (i 1) 3,m 35 70])).1
def zgl:PC:=(⟨_,by delta C S a b d l m t x;exact rfl⟩:Zz.Q (S [b 36 .lss 3 (t 35) (t 34) 3] (.seq (C 36 .skip (.exit 0)) (.seq (.block 1
 (S [x 37 185 33 35,l 38 184 37,a 5 38] (S [m 39 5,d 40 (.range 184 (t 39))] (.block 2 (.loop zpT))))) zpU)))).1
def zh9:PC:=(⟨_,by delta A S;exact rfl⟩:Zz.Q (S [A 2 (.const (.int .u8 0))] .ret)).1
def zsR:PC:=(⟨_,by delta A C L S a b d f i l m t w;exact rfl⟩:Zz.Q (S [d 1 (.box 53 (t 0)),A 2 (.const (.int .u8 0))] (.seq (S [f 8 53 1 0,l
 9 3 8,b 10 .eql 3 (t 9) (i 4) 3] (C 10 (S [f 11 53 1 1,l 12 3 11,b 13 .sub 3 (t 12) (i 1) 3,d 14 (.indexAddr 182 (.global 1) (t 13)),l 15 9 14,f 17 53 1 5,l 18
 9 17,⟨some 16,.call ⟨.value (.func 57),#[.const (.string
 ⟨#[97,100,100,32,115,117,98,32,109,117,108,32,100,105,118,95,115,32,114,101,109,95,115,32,97,110,100,32,111,114,32,120,111,114,32,115,104,108,32,115,104,114,95,115,32,101,113,32,110,101,32,108,116,95,115,32,103,116,95,115,32,108,101,95,115,32,103,101,95,115]⟩)],#[9]⟩,none,[⟨none,3,t
 11,12⟩,⟨none,9,t 14,15⟩,⟨none,9,t 17,18⟩]⟩,⟨some 19,.call ⟨.value (.func 157),#[t 16,t 18],#[22,9]⟩,none,[⟨none,3,t 11,12⟩,⟨none,9,t 14,15⟩]⟩,d 20 (.index 9 (t
 15) (t 19)),a 2 20] .ret) .skip)) (S [f 21 53 1 2,l 22 3 21,a 3 22] (.seq (S [f 23 53 1 0,l 24 3 23,b 25 .neq 3 (t 24) (i 8) 3,m 26 25,w 27 (.fieldAddr 53 (t
 1) 0) 26 true,w 28 (.load 3 (t 27)) 26 true,w 29 (.binOp .neq 3 (t 28) (i 9) 3) 26 true,d 30 (.pick (t 26) (t 29) (.const (.bool false)))] (C 30 (.ops [A 3 (i
 0)]) .skip)) (.seq (S [d 31 (.load 184 (.global 2)),d 32 (.load 184 (.global 3)),d 33 (.buildSlice 185 2 #[(0,t 31),(1,t 32)]),L 34 33 185,d 35 (.move (i 0))]
 (.block 0 (.loop zgl))) zh9)))))).1
theorem zpV:Zz.H 71 1 104 zsR [.tmp 2]:=fun hn h =>
 zb zi Tryz.func104 (by kernel_rfl) (by kernel_rfl) (by kernel_rfl) (by omega) h
def zpW:PC:=(⟨_,by delta C L S a b d e i l m t x;exact rfl⟩:Zz.Q (S [b 12 .lss 3 (t 11) (t 10) 3] (.seq (C 12 .skip (.exit 0)) (.seq
 (.block 1 (S [x 13 186 9 11,l 14 44 13,a 5 14] (S [m 15 3,m 16 5,L 17 16 44,b 18 .add 3 (t 15) (t 17) 3,a 3 18] (S [m 19 3,b 20 .lss 3 (t 19) (i 0) 3] (C 20
 (.ops [d 21 (.makeInterface 9 (.const (.string ⟨#[108,101,110,32,111,117,116,32,111,102,32,114,97,110,103,101]⟩))),e (.panic (t 21))]) .skip))))) (.ops [b 22
 .add 3 (t 11) (i 1) 3,m 11 22]))))).1
def zlM:PC:=(⟨_,by delta C S a b d i l m t x;exact rfl⟩:Zz.Q (S [b 28 .lss 3 (t 27) (t 26) 3] (.seq (C 28 .skip (.exit 2)) (.seq (.block
 3 (S [x 29 186 25 27,l 30 44 29,a 8 30] (.ops [m 31 6,m 32 8,d 33 (.call ⟨.builtin .append,#[t 31,t 32],#[44,44]⟩),a 6 33]))) (.ops [b 34 .add 3 (t 27) (i 1)
 3,m 27 34]))))).1
def zia:PC:=(⟨_,by delta S a m;exact rfl⟩:Zz.Q (S [m 35 6,a 2 35] .ret)).1
def zpX:PC:=(⟨_,by delta L S a c d i m t;exact rfl⟩:Zz.Q (S [m 23 3,c 24 158 #[.const (.slice none 0 0),t 23] #[44,3],a 6 24] (.seq (S [m
 25 0,L 26 25 186,d 27 (.move (i 0))] (.block 2 (.loop zlM))) zia))).1
def zEr:PC:=(⟨_,by delta A L S d i m;exact rfl⟩:Zz.Q (S [A 2 (.const (.slice none 0 0))] (S [A 3 (i 0)] (.seq (S [m 9 0,L 10 9 186,d 11
 (.move (i 0))] (.block 0 (.loop zpW))) zpX)))).1
theorem zvd:Zz.H 36 1 105 zEr [.tmp 2]:=fun hn h =>
 zb zi Tryz.func105 (by kernel_rfl) (by kernel_rfl) (by kernel_rfl) (by omega) h
def zEs:PC:=(⟨_,by delta A S a c d m t;exact rfl⟩:Zz.Q (S [A 2 (.const (.bool false))] (S [m 3 0,c 4 107 #[t 3] #[3],d 5 (.unOp .not 4 (t
 4)),a 2 5] .ret))).1
theorem zve:Zz.H 6 1 106 zEs [.tmp 2]:=fun hn h =>
 zb zi Tryz.func106 (by kernel_rfl) (by kernel_rfl) (by kernel_rfl) (by omega) h
def zvf:PC:=(⟨_,by delta A S a b d i m t w;exact rfl⟩:Zz.Q (S [A 2 (.const (.bool false))] (S [m 3 0,b 4 .eql 3 (t 3) (i 1) 3,m 5 4,w 6
 (.move (t 0)) 5 false,w 7 (.binOp .eql 3 (t 6) (i 2) 3) 5 false,d 8 (.pick (t 5) (.const (.bool true)) (t 7)),a 2 8] .ret))).1
theorem zvg:Zz.H 9 1 107 zvf [.tmp 2]:=fun hn h =>
 zb zi Tryz.func107 (by kernel_rfl) (by kernel_rfl) (by kernel_rfl) (by omega) h
def zfa:PC:=(⟨_,by delta C S a b c d e i l m t w x;exact rfl⟩:Zz.Q (S [b 45 .lss 3 (t 44) (t 43) 3] (.seq (C 45 .skip (.exit 4)) (.seq
 (.block 5 (S [x 46 44 42 44,l 47 3 46,a 8 47] (S [m 48 8,b 49 .geq 3 (t 48) (i 0) 3,m 50 49,w 51 (.move (t 8)) 50 true,w 52 (.move (t 3)) 50 true,w 53 (.binOp
 .lss 3 (t 51) (t 52) 3) 50 true,d 54 (.pick (t 50) (t 53) (.const (.bool false))),m 55 54,w 56 (.move (t 2)) 55 true,w 57 (.move (t 8)) 55 true,w 58
 (.indexAddr 187 (t 56) (t 57)) 55 true,w 59 (.load 4 (t 58)) 55 true,w 60 (.unOp .not 4 (t 59)) 55 true,d 61 (.pick (t 55) (t 60) (.const (.bool false))),c 62
 53 #[t 61,i 11] #[4,33]] (.ops [m 63 2,m 64 8,x 65 187 63 64,e (.store 4 (t 65) (.const (.bool true)))])))) (.ops [b 66 .add 3 (t 44) (i 1) 3,m 44 66]))))).1
def zpY:PC:=(⟨_,by delta b i m t;exact rfl⟩:Zz.Q (.ops [b 67 .add 3 (t 37) (i 1) 3,m 37 67])).1
def zlN:PC:=(⟨_,by delta C L S b c d i l s t x;exact rfl⟩:Zz.Q (S [b 38 .lss 3 (t 37) (t 36) 3] (.seq (C 38 .skip (.exit 2)) (.seq
 (.block 3 (S [x 39 54 35 37,l 40 53 39,d 6 (.alloc 53),s 53 6 40] (S [l 41 53 6,c 42 159 #[t 41] #[53],L 43 42 44,d 44 (.move (i 0))] (.block 4 (.loop
 zfa))))) zpY)))).1
def zpZ:PC:=(⟨_,by delta b i m t;exact rfl⟩:Zz.Q (.ops [b 68 .add 3 (t 30) (i 1) 3,m 30 68])).1
def zlO:PC:=(⟨_,by delta C L S a b d i l m t x;exact rfl⟩:Zz.Q (S [b 31 .lss 3 (t 30) (t 29) 3] (.seq (C 31 .skip (.exit 0)) (.seq
 (.block 1 (S [m 32 30,x 33 55 28 30,l 34 54 33,a 3 32,a 4 34] (S [m 35 4,L 36 35 54,d 37 (.move (i 0))] (.block 2 (.loop zlN))))) zpZ)))).1
def zp0:PC:=(⟨_,by delta L b c d i m t;exact rfl⟩:Zz.Q (.ops [m 69 2,m 70 2,L 71 70 187,b 72 .sub 3 (t 71) (i 1) 3,d 73 (.slice 187 (t
 69) none (some (t 72)) none),c 74 160 #[t 73,.const (.bool false)] #[187,4],d 75 (.unOp .not 4 (t 74)),c 76 53 #[t 75,i 11] #[4,33]])).1
def zA9:PC:=(⟨_,by delta L S a b c d f i l m n t;exact rfl⟩:Zz.Q (S [m 9 0,n 10 9,f 11 74 10 1,f 12 57 11 4,l 13 55 12,L 14 13 55,b 15 .gtr
 3 (t 14) (i 0) 3,c 16 53 #[t 15,i 11] #[4,33]] (S [m 17 0,n 18 17,f 19 74 18 1,f 20 57 19 4,l 21 55 20,L 22 21 55,d 23 (.makeSlice 187 (t 22) (t 22)),a 2 23]
 (.seq (S [m 24 0,n 25 24,f 26 74 25 1,f 27 57 26 4,l 28 55 27,L 29 28 55,d 30 (.move (i 0))] (.block 0 (.loop zlO))) zp0)))).1
theorem zvh:Zz.H 77 1 108 zA9 []:=fun hn h =>
 zb zi Tryz.func108 (by kernel_rfl) (by kernel_rfl) (by kernel_rfl) (by omega) h
def zgm:PC:=(⟨_,by delta C S b c d i l m s t x;exact rfl⟩:Zz.Q (S [b 23 .lss 3 (t 22) (t 21) 3] (.seq (C 23 .skip (.exit 0)) (.seq
 (.block 1 (S [x 24 54 20 22,l 25 53 24,d 8 (.alloc 53),s 53 8 25] (.ops [m 26 6,l 27 53 8,c 28 161 #[t 26,t 27] #[190,53]]))) (.ops [b 29 .add 3 (t 22) (i 1)
 3,m 22 29]))))).1
def zib:PC:=(⟨_,by delta C L S b c f i l m n t;exact rfl⟩:Zz.Q (.seq (S [m 30 2,b 31 .eql 3 (t 30) (i 0) 3] (C 31 (.ops [m 32 6,c 33 162
 #[t 32] #[190]]) .skip)) (.ops [m 34 6,n 35 34,f 36 192 35 1,l 37 44 36,L 38 37 44,b 39 .eql 3 (t 38) (i 0) 3,c 40 53 #[t 39,i 14] #[4,33]]))).1
def zEt:PC:=(⟨_,by delta L S a d f i l m n t x;exact rfl⟩:Zz.Q (S [m 9 0,m 10 2,d 11 (.build 192 #[(0,t 9),(3,t 10)]),d 12 (.box 192 (t
 11)),a 6 12] (.seq (S [m 13 0,n 14 13,f 15 74 14 1,f 16 57 15 4,l 17 55 16,m 18 1,x 19 55 17 18,l 20 54 19,L 21 20 54,d 22 (.move (i 0))] (.block 0 (.loop
 zgm))) zib))).1
theorem zvi:Zz.H 41 3 109 zEt []:=fun hn h =>
 zb zi Tryz.func109 (by kernel_rfl) (by kernel_rfl) (by kernel_rfl) (by omega) h
def zEu:PC:=(⟨_,by delta A S a b c d f i l m n s t;exact rfl⟩:Zz.Q (S [A 2 (.const (.string ⟨#[]⟩))] (S [m 6 0,n 7 6,f 8 77 7 0,l 9 9 8,c 10
 115 #[t 9] #[9],m 5 10,d 11 (.extract (t 5) 0),d 12 (.extract (t 5) 1),a 3 11,a 4 12] (S [m 13 3,b 14 .neq 9 (t 13) (.const (.string ⟨#[]⟩)) 9,c 15 61 #[t 14,i
 2] #[4,33]] (S [m 16 0,m 17 4,n 18 16,f 19 77 18 0,s 9 19 17] (S [m 20 3,a 2 20] .ret)))))).1
theorem zvj:Zz.H 21 1 110 zEu [.tmp 2]:=fun hn h =>
 zb zi Tryz.func110 (by kernel_rfl) (by kernel_rfl) (by kernel_rfl) (by omega) h
def zEv:PC:=(⟨_,by delta A S a c m t;exact rfl⟩:Zz.Q (S [A 4 (.const (.string ⟨#[]⟩))] (S [m 5 0,m 6 1,c 7 164 #[t 5,t 6] #[9,9],a 4 7]
 .ret))).1
theorem zvk:Zz.H 8 2 113 zEv [.tmp 4]:=fun hn h =>
 zb zi Tryz.func113 (by kernel_rfl) (by kernel_rfl) (by kernel_rfl) (by omega) h
def zEw:PC:=(⟨_,by delta A C L S a b c d i m t w;exact rfl⟩:Zz.Q (S [A 2 (.const (.string ⟨#[]⟩)),A 3 (.const (.string ⟨#[]⟩))] (S [m 5 0,c
 6 167 #[t 5,.const (.string ⟨#[32,10]⟩)] #[9,9],a 0 6] (.seq (S [m 7 0,b 8 .eql 9 (t 7) (.const (.string ⟨#[]⟩)) 9] (C 8 (S [A 2 (.const (.string ⟨#[]⟩)),A 3
 (.const (.string ⟨#[]⟩))] .ret) .skip)) (S [A 4 (i 1)] (.seq (S [m 9 0,d 10 (.index 9 (t 9) (i 0))] (.block 0 (.seq (S [b 18 .eql 5 (t 10) (.const (.int .u8
 40)) 5,a 17 18] (C 17 .skip (.ops [b 19 .eql 5 (t 10) (.const (.int .u8 41)) 5,a 17 19]))) (C 17 .skip (S [b 21 .eql 5 (t 10) (.const (.int .u8 34)) 5,a 20 21]
 (C 20 (S [m 22 0,d 23 (.slice 9 (t 22) (some (i 1)) none none),c 24 168 #[t 23,.const (.string ⟨#[34,10]⟩)] #[9,9],b 25 .add 3 (t 24) (i 2) 3,a 4 25] (S [m 26
 4,b 27 .lss 3 (t 26) (i 2) 3,m 28 27,w 29 (.move (t 0)) 28 false,w 30 (.move (t 4)) 28 false,w 31 (.binOp .sub 3 (t 30) (i 1) 3) 28 false,w 32 (.index 9 (t 29)
 (t 31)) 28 false,w 33 (.binOp .neq 5 (t 32) (.const (.int .u8 34)) 5) 28 false,d 34 (.pick (t 28) (.const (.bool true)) (t 33))] (C 34 (S [m 35 0,A 2 (.const
 (.string ⟨#[]⟩)),a 3 35] .ret) .skip))) (S [m 11 0,c 12 168 #[t 11,.const (.string ⟨#[32,10,40,41,34]⟩)] #[9,9],a 4 12] (S [m 13 4,b 14 .lss 3 (t 13) (i 0) 3]
 (C 14 (.ops [m 15 0,L 16 15 9,a 4 16]) .skip))))))))) (S [m 36 0,m 37 4,d 38 (.slice 9 (t 36) none (some (t 37)) none),m 39 0,m 40 4,d 41 (.slice 9 (t 39)
 (some (t 40)) none none),a 2 38,a 3 41] .ret))))))).1
theorem zvl:Zz.H 42 1 115 zEw [.tmp 2, .tmp 3]:=fun hn h =>
 zb zi Tryz.func115 (by kernel_rfl) (by kernel_rfl) (by kernel_rfl) (by omega) h
def zEx:PC:=(⟨_,by delta A S a c d m t;exact rfl⟩:Zz.Q (S [A 4 (.const (.string ⟨#[]⟩)),A 5 (.const (.bool false))] (S [m 6 0,m 7 1,c 8 169
 #[t 6,t 7] #[9,9],d 9 (.extract (t 8) 0),d 10 (.extract (t 8) 1),a 4 9,a 5 10] .ret))).1
theorem zvm:Zz.H 11 2 116 zEx [.tmp 4, .tmp 5]:=fun hn h =>
 zb zi Tryz.func116 (by kernel_rfl) (by kernel_rfl) (by kernel_rfl) (by omega) h
def zvn:PC:=(⟨_,by delta A L S a b d i m t w;exact rfl⟩:Zz.Q (S [A 2 (.const (.bool false))] (S [m 3 0,L 4 3 9,b 5 .geq 3 (t 4) (i 1) 3,m 6
 5,w 7 (.move (t 0)) 6 true,w 8 (.call ⟨.builtin .len,#[t 7],#[9]⟩) 6 true,w 9 (.binOp .leq 3 (t 8) (i 24) 3) 6 true,d 10 (.pick (t 6) (t 9) (.const (.bool
 false))),m 11 10,w 12 (.move (t 0)) 11 true,w 13 (.call ⟨.value (.func 62),#[t 12,.const (.string
 ⟨#[97,98,99,100,101,102,103,104,105,106,107,108,109,110,111,112,113,114,115,116,117,118,119,120,121,122,95,48,49,50,51,52,53,54,55,56,57]⟩)],#[9,9]⟩) 11 true,w
 14 (.binOp .eql 9 (t 13) (.const (.string ⟨#[]⟩)) 9) 11 true,d 15 (.pick (t 11) (t 14) (.const (.bool false))),m 16 15,w 17 (.move (t 0)) 16 true,w 18 (.index
 9 (t 17) (i 0)) 16 true,w 19 (.convert 5 21 (t 18)) 16 true,w 20 (.call ⟨.value (.func 170),#[.const (.string
 ⟨#[97,98,99,100,101,102,103,104,105,106,107,108,109,110,111,112,113,114,115,116,117,118,119,120,121,122,95]⟩),t 19],#[9,21]⟩) 16 true,d 21 (.pick (t 16) (t 20)
 (.const (.bool false))),a 2 21] .ret))).1
theorem zvo:Zz.H 22 1 117 zvn [.tmp 2]:=fun hn h =>
 zb zi Tryz.func117 (by kernel_rfl) (by kernel_rfl) (by kernel_rfl) (by omega) h
def zp1:PC:=(⟨_,by delta C S a b c d i m t w;exact rfl⟩:Zz.Q (.block 1 (S [m 4 0,c 5 110 #[t 4] #[75],a 3 5] (S [m 6 3] (.block 2 (S [b
 17 .eql 9 (t 6) (.const (.string ⟨#[105,51,50]⟩)) 9,a 16 17] (C 16 (.ops [m 18 2,d 19 (.buildSlice 44 1 #[(0,i 1)]),d 20 (.call ⟨.builtin .append,#[t 18,t
 19],#[44,44]⟩),a 2 20]) (S [b 22 .eql 9 (t 6) (.const (.string ⟨#[105,54,52]⟩)) 9,a 21 22] (C 21 (.ops [m 23 2,d 24 (.buildSlice 44 1 #[(0,i 2)]),d 25 (.call
 ⟨.builtin .append,#[t 23,t 24],#[44,44]⟩),a 2 25]) (S [m 7 3,b 8 .eql 9 (t 7) (.const (.string ⟨#[41]⟩)) 9,m 9 8,w 10 (.move (t 2)) 9 true,w 11 (.call
 ⟨.builtin .len,#[t 10],#[44]⟩) 9 true,w 12 (.binOp .gtr 3 (t 11) (i 0) 3) 9 true,d 13 (.pick (t 9) (t 12) (.const (.bool false))),c 14 61 #[t 13,i 2] #[4,33]]
 (S [m 15 2,a 2 15] .ret))))))))))).1
def zEy:PC:=(⟨_,by delta A S;exact rfl⟩:Zz.Q (S [A 2 (.const (.slice none 0 0))] (.block 0 (.loop zp1)))).1
theorem zvp:Zz.H 26 1 118 zEy [.tmp 2]:=fun hn h =>
 zb zi Tryz.func118 (by kernel_rfl) (by kernel_rfl) (by kernel_rfl) (by omega) h
def zgn:PC:=(⟨_,by delta C L S a b d f i l m n s t x;exact rfl⟩:Zz.Q (S [b 17 .lss 3 (t 16) (t 15) 3] (.seq (C 17 .skip (.exit 2)) (.seq
 (.block 3 (S [x 18 22 14 16,l 19 9 18,a 11 19] (S [m 20 9,m 21 11,b 22 .eql 9 (t 20) (t 21) 9] (C 22 (S [m 23 0,m 24 0,n 25 24,f 26 77 25 1,l 27 55 26,m 28 8,d
 29 (.buildSlice 55 1 #[(0,t 28)]),d 30 (.call ⟨.builtin .append,#[t 27,t 29],#[55,55]⟩),n 31 23,f 32 77 31 1,s 55 32 30] (S [m 33 0,n 34 33,f 35 77 34 1,l 36
 55 35,L 37 36 55,b 38 .sub 3 (t 37) (i 1) 3,m 39 9,a 6 38,a 7 39] .ret)) .skip)))) (.ops [b 40 .add 3 (t 16) (i 1) 3,m 16 40]))))).1
def zp2:PC:=(⟨_,by delta a c d m t;exact rfl⟩:Zz.Q (.ops [m 41 8,m 42 0,m 43 9,m 44 1,c 45 171 #[t 42,t 43,t 44] #[75,9,3],d 46
 (.buildSlice 54 1 #[(0,t 45)]),d 47 (.call ⟨.builtin .append,#[t 41,t 46],#[54,54]⟩),a 8 47])).1
def zlP:PC:=(⟨_,by delta L S a c d i m t;exact rfl⟩:Zz.Q (.block 1 (S [m 12 0,c 13 110 #[t 12] #[75],a 9 13] (.seq (S [m 14 2,L 15 14
 22,d 16 (.move (i 0))] (.block 2 (.loop zgn))) zp2)))).1
def zEz:PC:=(⟨_,by delta A S i;exact rfl⟩:Zz.Q (S [A 6 (i 0),A 7 (.const (.string ⟨#[]⟩))] (S [A 8 (.const (.slice none 0 0))] (.block 0
 (.loop zlP))))).1
theorem zvq:Zz.H 48 3 119 zEz [.tmp 6, .tmp 7]:=fun hn h =>
 zb zi Tryz.func119 (by kernel_rfl) (by kernel_rfl) (by kernel_rfl) (by omega) h
def zlQ:PC:=(⟨_,by delta A C L S a b d e i l m s t x;exact rfl⟩:Zz.Q (.seq (S [m 6 4,m 7 0,L 8 7 9,b 9 .lss 3 (t 6) (t 8) 3] (C 9 .skip
 (.exit 0))) (.seq (.block 1 (S [m 12 0,m 13 4,d 14 (.index 9 (t 12) (t 13)),a 5 14] (.seq (S [m 15 5,b 16 .geq 5 (t 15) (.const (.int .u8 128)) 5] (C 16 (S [l
 17 151 2,s 151 2 17,A 3 (.const (.bool false))] .ret) .skip)) (.ops [m 18 5,x 19 151 2 18,e (.store 4 (t 19) (.const (.bool true)))])))) (.ops [m 10 4,b 11
 .add 3 (t 10) (i 1) 3,a 4 11])))).1
def zp3:PC:=(⟨_,by delta A S l s;exact rfl⟩:Zz.Q (S [l 20 151 2,s 151 2 20,A 3 (.const (.bool true))] .ret)).1
def zEA:PC:=(⟨_,by delta A S d i;exact rfl⟩:Zz.Q (S [d 2 (.alloc 151),A 3 (.const (.bool false))] (.seq (S [A 4 (i 0)] (.block 0 (.loop
 zlQ))) zp3))).1
theorem zvr:Zz.H 21 1 122 zEA [.cell 2 151, .tmp 3]:=fun hn h =>
 zb zi Tryz.func122 (by kernel_rfl) (by kernel_rfl) (by kernel_rfl) (by omega) h
def zlR:PC:=(⟨_,by delta C L S a b c d i m t;exact rfl⟩:Zz.Q (.seq (S [m 5 0,L 6 5 9,b 7 .gtr 3 (t 6) (i 0) 3] (C 7 .skip (.exit 0)))
 (.block 1 (.seq (S [m 8 1,m 9 0,d 10 (.index 9 (t 9) (i 0)),c 11 172 #[t 8,t 10] #[155,5],d 12 (.unOp .not 4 (t 11))] (C 12 (.exit 0) .skip)) (.ops [m 13 0,d
 14 (.slice 9 (t 13) (some (i 1)) none none),a 0 14]))))).1
def zlS:PC:=(⟨_,by delta S a m;exact rfl⟩:Zz.Q (S [m 15 0,a 4 15] .ret)).1
def zEB:PC:=(⟨_,by delta A S;exact rfl⟩:Zz.Q (S [A 4 (.const (.string ⟨#[]⟩))] (.seq (.block 0 (.loop zlR)) zlS))).1
theorem zvs:Zz.H 16 2 123 zEB [.tmp 4]:=fun hn h =>
 zb zi Tryz.func123 (by kernel_rfl) (by kernel_rfl) (by kernel_rfl) (by omega) h
def zlT:PC:=(⟨_,by delta C L S a b c d i m t;exact rfl⟩:Zz.Q (.seq (S [m 5 0,L 6 5 9,b 7 .gtr 3 (t 6) (i 0) 3] (C 7 .skip (.exit 0)))
 (.block 1 (.seq (S [m 8 1,m 9 0,m 10 0,L 11 10 9,b 12 .sub 3 (t 11) (i 1) 3,d 13 (.index 9 (t 9) (t 12)),c 14 172 #[t 8,t 13] #[155,5],d 15 (.unOp .not 4 (t
 14))] (C 15 (.exit 0) .skip)) (.ops [m 16 0,m 17 0,L 18 17 9,b 19 .sub 3 (t 18) (i 1) 3,d 20 (.slice 9 (t 16) none (some (t 19)) none),a 0 20]))))).1
def zlU:PC:=(⟨_,by delta S a m;exact rfl⟩:Zz.Q (S [m 21 0,a 4 21] .ret)).1
def zEC:PC:=(⟨_,by delta A S;exact rfl⟩:Zz.Q (S [A 4 (.const (.string ⟨#[]⟩))] (.seq (.block 0 (.loop zlT)) zlU))).1
theorem zvt:Zz.H 22 2 124 zEC [.tmp 4]:=fun hn h =>
 zb zi Tryz.func124 (by kernel_rfl) (by kernel_rfl) (by kernel_rfl) (by omega) h
def zBa:PC:=(⟨_,by delta A L S a f i l m n;exact rfl⟩:Zz.Q (S [A 2 (i 0)] (S [m 3 0,n 4 3,f 5 86 4 1,l 6 32 5,L 7 6 32,a 2 7] .ret))).1
theorem zvu:Zz.H 8 1 127 zBa [.tmp 2]:=fun hn h =>
 zb zi Tryz.func127 (by kernel_rfl) (by kernel_rfl) (by kernel_rfl) (by omega) h
def zED:PC:=(⟨_,by delta A S c d f l m n s t;exact rfl⟩:Zz.Q (S [A 4 (.const .nilIface)] (S [m 5 0,c 6 175 #[t 5] #[84]] (S [m 7 0,m 8 0,n 9
 8,f 10 86 9 1,l 11 32 10,m 12 1,d 13 (.buildSlice 32 1 #[(0,t 12)]),d 14 (.call ⟨.builtin .append,#[t 11,t 13],#[32,32]⟩),n 15 7,f 16 86 15 1,s 32 16 14] (S [A
 4 (.const .nilIface)] .ret))))).1
theorem zvv:Zz.H 17 2 128 zED [.tmp 4]:=fun hn h =>
 zb zi Tryz.func128 (by kernel_rfl) (by kernel_rfl) (by kernel_rfl) (by omega) h
def zEE:PC:=(⟨_,by delta A L S a c d f i l m n s t;exact rfl⟩:Zz.Q (S [A 4 (i 0),A 5 (.const .nilIface)] (S [m 6 0,c 7 175 #[t 6] #[84]] (S
 [m 8 0,m 9 0,n 10 9,f 11 86 10 1,l 12 32 11,m 13 1,d 14 (.call ⟨.builtin .append,#[t 12,t 13],#[32,9]⟩),n 15 8,f 16 86 15 1,s 32 16 14] (S [m 17 1,L 18 17 9,a
 4 18,A 5 (.const .nilIface)] .ret))))).1
theorem zvw:Zz.H 19 2 129 zEE [.tmp 4, .tmp 5]:=fun hn h =>
 zb zi Tryz.func129 (by kernel_rfl) (by kernel_rfl) (by kernel_rfl) (by omega) h
def zBb:PC:=(⟨_,by delta A C S a b i m t;exact rfl⟩:Zz.Q (S [A 2 (.const (.string ⟨#[]⟩))] (.seq (S [m 3 0] (.block 0 (S [b 5 .eql 3 (t 3)
 (i 1) 3,a 4 5] (C 4 (S [A 2 (.const (.string ⟨#[105,51,50]⟩))] .ret) (S [b 7 .eql 3 (t 3) (i 2) 3,a 6 7] (C 6 (S [A 2 (.const (.string ⟨#[105,54,52]⟩))] .ret)
 .skip)))))) (S [A 2 (.const (.string ⟨#[]⟩))] .ret)))).1
theorem zvx:Zz.H 8 1 131 zBb [.tmp 2]:=fun hn h =>
 zb zi Tryz.func131 (by kernel_rfl) (by kernel_rfl) (by kernel_rfl) (by omega) h
def zvy:PC:=(⟨_,by delta A C S a b i m t;exact rfl⟩:Zz.Q (S [A 2 (.const (.string ⟨#[]⟩))] (.seq (S [m 3 0] (.block 0 (S [b 5 .eql 3 (t 3)
 (i 11) 3,a 4 5] (C 4 (S [A 2 (.const (.string ⟨#[98,108,111,99,107]⟩))] .ret) (S [b 7 .eql 3 (t 3) (i 12) 3,a 6 7] (C 6 (S [A 2 (.const (.string
 ⟨#[108,111,111,112]⟩))] .ret) .skip)))))) (S [A 2 (.const (.string ⟨#[105,102]⟩))] .ret)))).1
theorem zvz:Zz.H 8 1 132 zvy [.tmp 2]:=fun hn h =>
 zb zi Tryz.func132 (by kernel_rfl) (by kernel_rfl) (by kernel_rfl) (by omega) h
def zfw:PC:=(⟨_,by delta A C S a b c d f i l t;exact rfl⟩:Zz.Q (S [d 1 (.box 53 (t 0)),A 2 (.const (.string ⟨#[]⟩))] (.seq (S [f 3 53 1 0,l
 4 3 3] (.block 0 (S [b 6 .eql 3 (t 4) (i 1) 3,a 5 6] (C 5 (S [f 7 53 1 1,l 8 3 7,c 9 131 #[t 8] #[3],b 10 .add 9 (t 9) (.const (.string
 ⟨#[46,99,111,110,115,116]⟩)) 9,a 2 10] .ret) (S [b 12 .eql 3 (t 4) (i 2) 3,a 11 12] (C 11 (S [A 2 (.const (.string ⟨#[108,111,99,97,108,46,103,101,116]⟩))]
 .ret) (S [b 14 .eql 3 (t 4) (i 3) 3,a 13 14] (C 13 (S [A 2 (.const (.string ⟨#[108,111,99,97,108,46,115,101,116]⟩))] .ret) (S [b 16 .eql 3 (t 4) (i 10) 3,a 15
 16] (C 15 (S [A 2 (.const (.string ⟨#[99,97,108,108]⟩))] .ret) (S [b 18 .eql 3 (t 4) (i 14) 3,a 17 18] (C 17 (S [A 2 (.const (.string ⟨#[98,114]⟩))] .ret) (S
 [b 20 .eql 3 (t 4) (i 15) 3,a 19 20] (C 19 (S [A 2 (.const (.string ⟨#[98,114,95,105,102]⟩))] .ret) (S [b 22 .eql 3 (t 4) (i 4) 3,a 21 22] (C 21 (S [f 23 53 1
 1,l 24 3 23,f 27 53 1 5,l 28 9 27,⟨some 25,.call ⟨.value (.func 131),#[t 24],#[3]⟩,none,[⟨none,9,t 27,28⟩]⟩,b 26 .add 9 (t 25) (.const (.string ⟨#[46]⟩)) 9,b
 29 .add 9 (t 26) (t 28) 9,a 2 29] .ret) (S [b 31 .eql 3 (t 4) (i 5) 3,a 30 31] (C 30 (S [f 32 53 1 1,l 33 3 32,c 34 131 #[t 33] #[3],b 35 .add 9 (t 34) (.const
 (.string ⟨#[46,101,113,122]⟩)) 9,a 2 35] .ret) (S [b 37 .eql 3 (t 4) (i 6) 3,a 36 37] (C 36 (S [A 2 (.const (.string
 ⟨#[105,51,50,46,119,114,97,112,95,105,54,52]⟩))] .ret) (S [b 39 .eql 3 (t 4) (i 7) 3,a 38 39] (C 38 (S [A 2 (.const (.string
 ⟨#[105,54,52,46,101,120,116,101,110,100,95,105,51,50,95,115]⟩))] .ret) (S [b 41 .eql 3 (t 4) (i 8) 3,a 40 41] (C 40 (S [f 42 53 1 1,l 43 3 42,f 45 53 1 2,l 46
 3 45,⟨some 44,.call ⟨.value (.func 131),#[t 43],#[3]⟩,none,[⟨none,3,t 45,46⟩]⟩,c 47 177 #[t 46,.const (.string ⟨#[46,108,111,97,100,56,95,115]⟩),.const
 (.string ⟨#[46,108,111,97,100]⟩)] #[3,9,9],b 48 .add 9 (t 44) (t 47) 9,a 2 48] .ret) (S [b 50 .eql 3 (t 4) (i 9) 3,a 49 50] (C 49 (S [f 51 53 1 1,l 52 3 51,f
 54 53 1 2,l 55 3 54,⟨some 53,.call ⟨.value (.func 131),#[t 52],#[3]⟩,none,[⟨none,3,t 54,55⟩]⟩,c 56 177 #[t 55,.const (.string
 ⟨#[46,115,116,111,114,101,56]⟩),.const (.string ⟨#[46,115,116,111,114,101]⟩)] #[3,9,9],b 57 .add 9 (t 53) (t 56) 9,a 2 57] .ret) (S [b 59 .eql 3 (t 4) (i 16)
 3,a 58 59] (C 58 (S [A 2 (.const (.string ⟨#[114,101,116,117,114,110]⟩))] .ret) (S [b 61 .eql 3 (t 4) (i 17) 3,a 60 61] (C 60 (S [A 2 (.const (.string
 ⟨#[117,110,114,101,97,99,104,97,98,108,101]⟩))] .ret) .skip)))))))))))))))))))))))))))))) (S [A 2 (.const (.string ⟨#[100,114,111,112]⟩))] .ret)))).1
theorem zvA:Zz.H 62 1 133 zfw [.tmp 2]:=fun hn h =>
 zb zi Tryz.func133 (by kernel_rfl) (by kernel_rfl) (by kernel_rfl) (by omega) h
def zEF:PC:=(⟨_,by delta A S a d e i l m s t;exact rfl⟩:Zz.Q (S [d 2 (.alloc 53),A 3 (.const (.bool false))] (S [d 7 (.makeMap 208 none),d 8
 (.build 53 #[(0,i 1),(1,i 1)]),e (.insert 208 (t 7) (.const (.string ⟨#[105,51,50,46,99,111,110,115,116]⟩)) (t 8)),d 9 (.build 53 #[(0,i 1),(1,i 2)]),e
 (.insert 208 (t 7) (.const (.string ⟨#[105,54,52,46,99,111,110,115,116]⟩)) (t 9)),d 10 (.build 53 #[(0,i 2)]),e (.insert 208 (t 7) (.const (.string
 ⟨#[108,111,99,97,108,46,103,101,116]⟩)) (t 10)),d 11 (.build 53 #[(0,i 3)]),e (.insert 208 (t 7) (.const (.string ⟨#[108,111,99,97,108,46,115,101,116]⟩)) (t
 11)),d 12 (.build 53 #[(0,i 10)]),e (.insert 208 (t 7) (.const (.string ⟨#[99,97,108,108]⟩)) (t 12)),d 13 (.build 53 #[(0,i 14)]),e (.insert 208 (t 7) (.const
 (.string ⟨#[98,114]⟩)) (t 13)),d 14 (.build 53 #[(0,i 15)]),e (.insert 208 (t 7) (.const (.string ⟨#[98,114,95,105,102]⟩)) (t 14)),m 15 7,m 16 0,d 17 (.lookup
 208 (t 15) (t 16) true),m 6 17,d 18 (.extract (t 6) 0),d 19 (.extract (t 6) 1),d 4 (.alloc 53),s 53 4 18,a 5 19] (S [l 20 53 4,m 21 5,s 53 2 20,a 3 21] .ret))
 )).1
theorem zvB:Zz.H 22 1 134 zEF [.cell 2 53, .tmp 3]:=fun hn h =>
 zb zi Tryz.func134 (by kernel_rfl) (by kernel_rfl) (by kernel_rfl) (by omega) h
def zEG:PC:=(⟨_,by delta A S a b d f l m t w;exact rfl⟩:Zz.Q (S [d 2 (.box 57 (t 0)),d 3 (.box 57 (t 1)),A 4 (.const (.bool false))] (S [f 5
 57 2 0,l 6 9 5,f 7 57 3 0,l 8 9 7,b 9 .eql 9 (t 6) (t 8) 9,m 10 9,w 11 (.fieldAddr 57 (t 2) 3) 10 true,w 12 (.load 3 (t 11)) 10 true,w 13 (.fieldAddr 57 (t 3)
 3) 10 true,w 14 (.load 3 (t 13)) 10 true,w 15 (.binOp .eql 3 (t 12) (t 14) 3) 10 true,d 16 (.pick (t 10) (t 15) (.const (.bool false))),m 17 16,w 18
 (.fieldAddr 57 (t 2) 1) 17 true,w 19 (.load 44 (t 18)) 17 true,w 20 (.fieldAddr 57 (t 3) 1) 17 true,w 21 (.load 44 (t 20)) 17 true,w 22 (.call ⟨.value (.func
 79),#[t 19,t 21],#[44,44]⟩) 17 true,d 23 (.pick (t 17) (t 22) (.const (.bool false))),m 24 23,w 25 (.fieldAddr 57 (t 2) 2) 24 true,w 26 (.load 44 (t 25)) 24
 true,w 27 (.fieldAddr 57 (t 3) 2) 24 true,w 28 (.load 44 (t 27)) 24 true,w 29 (.call ⟨.value (.func 79),#[t 26,t 28],#[44,44]⟩) 24 true,d 30 (.pick (t 24) (t
 29) (.const (.bool false))),m 31 30,w 32 (.fieldAddr 57 (t 2) 4) 31 true,w 33 (.load 55 (t 32)) 31 true,w 34 (.fieldAddr 57 (t 3) 4) 31 true,w 35 (.load 55 (t
 34)) 31 true,w 36 (.call ⟨.value (.func 180),#[t 33,t 35],#[55,55]⟩) 31 true,d 37 (.pick (t 31) (t 36) (.const (.bool false))),a 4 37] .ret))).1
theorem zvC:Zz.H 38 2 140 zEG [.tmp 4]:=fun hn h =>
 zb zi Tryz.func140 (by kernel_rfl) (by kernel_rfl) (by kernel_rfl) (by omega) h
def zic:PC:=(⟨_,by delta C S a b c d i l m t;exact rfl⟩:Zz.Q (S [b 6 .lss 3 (t 5) (t 4) 3] (.seq (C 6 .skip (.exit 0)) (.seq (.block 1
 (.ops [m 7 2,m 8 0,c 9 87 #[t 8,i 1] #[59,3],d 10 (.indexAddr 32 (t 9) (i 0)),l 11 5 10,d 12 (.convert 5 3 (t 11)),b 13 .sub 3 (i 128) (t 12) 3,d 14
 (.buildSlice 44 1 #[(0,t 13)]),d 15 (.call ⟨.builtin .append,#[t 7,t 14],#[44,44]⟩),a 2 15])) (.ops [b 16 .add 3 (t 5) (i 1) 3,m 5 16]))))).1
def zgo:PC:=(⟨_,by delta S a m;exact rfl⟩:Zz.Q (S [m 17 2,a 2 17] .ret)).1
def zEH:PC:=(⟨_,by delta A S c d i m t;exact rfl⟩:Zz.Q (S [A 2 (.const (.slice none 0 0))] (.seq (S [m 3 0,c 4 90 #[t 3,.const (.bool
 false)] #[59,4],d 5 (.move (i 0))] (.block 0 (.loop zic))) zgo))).1
theorem zvD:Zz.H 18 1 150 zEH [.tmp 2]:=fun hn h =>
 zb zi Tryz.func150 (by kernel_rfl) (by kernel_rfl) (by kernel_rfl) (by omega) h
def zlV:PC:=(⟨_,by delta C L S a b d m t;exact rfl⟩:Zz.Q (.seq (S [m 34 8,m 35 7,L 36 35 44,b 37 .lss 3 (t 34) (t 36) 3] (C 37 .skip
 (.exit 0))) (.block 1 (.ops [m 38 8,m 39 7,m 40 8,d 41 (.slice 44 (t 39) (some (t 40)) none none),m 42 7,m 43 8,d 44 (.slice 44 (t 42) none (some (t 43))
 none),d 45 (.call ⟨.builtin .copy,#[t 41,t 44],#[44,44]⟩),b 46 .add 3 (t 38) (t 45) 3,a 8 46])))).1
def zp4:PC:=(⟨_,by delta S a m;exact rfl⟩:Zz.Q (S [m 47 7,a 4 47] .ret)).1
def zEI:PC:=(⟨_,by delta A C L S a b c d e i m t w;exact rfl⟩:Zz.Q (S [A 4 (.const (.slice none 0 0))] (.seq (S [m 9 1,b 10 .lss 3 (t 9) (i
 0) 3] (C 10 (.ops [d 11 (.makeInterface 9 (.const (.string ⟨#[99,97,110,110,111,116,32,98,101,32,110,101,103,97,116,105,118,101]⟩))),e (.panic (t 11))])
 .skip)) (S [m 13 0,L 14 13 44,d 15 (.convert 3 116 (t 14)),m 16 1,d 17 (.convert 3 116 (t 16)),c 18 188 #[t 15,t 17] #[116,116],m 12 18,d 19 (.extract (t 12)
 0),d 20 (.extract (t 12) 1),a 5 19,a 6 20] (.seq (S [m 21 5,b 22 .gtr 116 (t 21) (.const (.int .u64 0)) 116,m 23 22,w 24 (.move (t 6)) 23 false,w 25 (.binOp
 .gtr 116 (t 24) (.const (.int .u64 9223372036854775807)) 116) 23 false,d 26 (.pick (t 23) (.const (.bool true)) (t 25))] (C 26 (.ops [d 27 (.makeInterface 9
 (.const (.string
 ⟨#[116,104,101,32,114,101,115,117,108,116,32,111,102,32,40,108,101,110,40,120,41,32,42,32,99,111,117,110,116,41,32,111,118,101,114,102,108,111,119,115]⟩))),e
 (.panic (t 27))]) .skip)) (S [m 28 6,d 29 (.convert 116 3 (t 28)),d 30 (.makeSlice 44 (t 29) (t 29)),a 7 30] (S [m 31 7,m 32 0,d 33 (.call ⟨.builtin .copy,#[t
 31,t 32],#[44,44]⟩),a 8 33] (.seq (.block 0 (.loop zlV)) zp4)))))))).1
theorem zvE:Zz.H 48 2 151 zEI [.tmp 4]:=fun hn h =>
 zb zi Tryz.func151 (by kernel_rfl) (by kernel_rfl) (by kernel_rfl) (by omega) h
def zlW:PC:=(⟨_,by delta C L S a b c d f i l m n s t w;exact rfl⟩:Zz.Q (.block 1 (S [m 8 0,c 9 87 #[t 8,i 1] #[59,3],d 10 (.indexAddr 32
 (t 9) (i 0)),l 11 5 10,a 7 11] (.seq (S [m 12 7,b 13 .eql 5 (t 12) (.const (.int .u8 11)) 5,m 14 13,w 15 (.move (t 7)) 14 false,w 16 (.binOp .eql 5 (t 15)
 (.const (.int .u8 5)) 5) 14 false,d 17 (.pick (t 14) (.const (.bool true)) (t 16))] (C 17 (S [m 18 0,m 19 0,n 20 19,f 21 61 20 1,l 22 55 21,m 23 6,d 24
 (.buildSlice 55 1 #[(0,t 23)]),d 25 (.call ⟨.builtin .append,#[t 22,t 24],#[55,55]⟩),n 26 18,f 27 61 26 1,s 55 27 25] (S [m 28 0,n 29 28,f 30 61 29 1,l 31 55
 30,L 32 31 55,b 33 .sub 3 (t 32) (i 1) 3,m 34 7,a 4 33,a 5 34] .ret)) .skip)) (.ops [m 35 6,m 36 0,m 37 7,m 38 1,c 39 189 #[t 36,t 37,t 38] #[59,5,3],d 40
 (.buildSlice 54 1 #[(0,t 39)]),d 41 (.call ⟨.builtin .append,#[t 35,t 40],#[54,54]⟩),a 6 41]))))).1
def zEJ:PC:=(⟨_,by delta A S i;exact rfl⟩:Zz.Q (S [A 4 (i 0),A 5 (.const (.int .u8 0))] (S [A 6 (.const (.slice none 0 0))] (.block 0 (.loop
 zlW))))).1
theorem zvF:Zz.H 42 2 152 zEJ [.tmp 4, .tmp 5]:=fun hn h =>
 zb zi Tryz.func152 (by kernel_rfl) (by kernel_rfl) (by kernel_rfl) (by omega) h
def zlX:PC:=(⟨_,by delta C S a b d i l m t x;exact rfl⟩:Zz.Q (S [b 9 .lss 3 (t 8) (t 7) 3] (.seq (C 9 .skip (.exit 0)) (.seq (.block 1 (S
 [m 10 8,a 5 10] (S [m 11 1,m 12 0,m 13 5,x 14 26 12 13,l 15 57 14,d 16 (.call ⟨.value (t 11),#[t 15],#[57]⟩)] (C 16 (S [m 17 5,a 4 17] .ret) .skip)))) (.ops [b
 18 .add 3 (t 8) (i 1) 3,m 8 18]))))).1
def zp5:PC:=(⟨_,by delta A S i;exact rfl⟩:Zz.Q (S [A 4 (i (-1))] .ret)).1
def zEK:PC:=(⟨_,by delta A L S d i m;exact rfl⟩:Zz.Q (S [A 4 (i 0)] (.seq (S [m 6 0,L 7 6 26,d 8 (.move (i 0))] (.block 0 (.loop zlX)))
 zp5))).1
theorem zvG:Zz.H 19 2 153 zEK [.tmp 4]:=fun hn h =>
 zb zi Tryz.func153 (by kernel_rfl) (by kernel_rfl) (by kernel_rfl) (by omega) h
def zgp:PC:=(⟨_,by delta C S a b d i l m t x;exact rfl⟩:Zz.Q (S [b 9 .lss 3 (t 8) (t 7) 3] (.seq (C 9 .skip (.exit 0)) (.seq (.block 1 (S
 [m 10 8,a 5 10] (S [m 11 1,m 12 0,m 13 5,x 14 44 12 13,l 15 3 14,d 16 (.call ⟨.value (t 11),#[t 15],#[3]⟩)] (C 16 (S [m 17 5,a 4 17] .ret) .skip)))) (.ops [b
 18 .add 3 (t 8) (i 1) 3,m 8 18]))))).1
def zlY:PC:=(⟨_,by delta A S i;exact rfl⟩:Zz.Q (S [A 4 (i (-1))] .ret)).1
def zBc:PC:=(⟨_,by delta A L S d i m;exact rfl⟩:Zz.Q (S [A 4 (i 0)] (.seq (S [m 6 0,L 7 6 44,d 8 (.move (i 0))] (.block 0 (.loop zgp)))
 zlY))).1
theorem zp6:Zz.H 19 2 154 zBc [.tmp 4]:=fun hn h =>
 zb zi Tryz.func154 (by kernel_rfl) (by kernel_rfl) (by kernel_rfl) (by omega) h
def zlZ:PC:=(⟨_,by delta C S a b d i l m t x;exact rfl⟩:Zz.Q (S [b 9 .lss 3 (t 8) (t 7) 3] (.seq (C 9 .skip (.exit 0)) (.seq (.block 1 (S
 [m 10 8,a 5 10] (S [m 11 1,m 12 0,m 13 5,x 14 55 12 13,l 15 54 14,d 16 (.call ⟨.value (t 11),#[t 15],#[54]⟩)] (C 16 (S [m 17 5,a 4 17] .ret) .skip)))) (.ops [b
 18 .add 3 (t 8) (i 1) 3,m 8 18]))))).1
def zp7:PC:=(⟨_,by delta A S i;exact rfl⟩:Zz.Q (S [A 4 (i (-1))] .ret)).1
def zEL:PC:=(⟨_,by delta A L S d i m;exact rfl⟩:Zz.Q (S [A 4 (i 0)] (.seq (S [m 6 0,L 7 6 55,d 8 (.move (i 0))] (.block 0 (.loop zlZ)))
 zp7))).1
theorem zvH:Zz.H 19 2 155 zEL [.tmp 4]:=fun hn h =>
 zb zi Tryz.func155 (by kernel_rfl) (by kernel_rfl) (by kernel_rfl) (by omega) h
def zl0:PC:=(⟨_,by delta C S a b d i l m t x;exact rfl⟩:Zz.Q (S [b 9 .lss 3 (t 8) (t 7) 3] (.seq (C 9 .skip (.exit 0)) (.seq (.block 1 (S
 [m 10 8,a 5 10] (S [m 11 1,m 12 0,m 13 5,x 14 54 12 13,l 15 53 14,d 16 (.call ⟨.value (t 11),#[t 15],#[53]⟩)] (C 16 (S [m 17 5,a 4 17] .ret) .skip)))) (.ops [b
 18 .add 3 (t 8) (i 1) 3,m 8 18]))))).1
def zp8:PC:=(⟨_,by delta A S i;exact rfl⟩:Zz.Q (S [A 4 (i (-1))] .ret)).1
def zEM:PC:=(⟨_,by delta A L S d i m;exact rfl⟩:Zz.Q (S [A 4 (i 0)] (.seq (S [m 6 0,L 7 6 54,d 8 (.move (i 0))] (.block 0 (.loop zl0)))
 zp8))).1
theorem zvI:Zz.H 19 2 156 zEM [.tmp 4]:=fun hn h =>
 zb zi Tryz.func156 (by kernel_rfl) (by kernel_rfl) (by kernel_rfl) (by omega) h
def zdX:PC:=(⟨_,by delta C S a b i l m t x;exact rfl⟩:Zz.Q (S [b 9 .lss 3 (t 8) (t 7) 3] (.seq (C 9 .skip (.exit 0)) (.seq (.block 1 (S
 [m 10 8,a 5 10] (S [m 11 1,m 12 0,m 13 5,x 14 22 12 13,l 15 9 14,b 16 .eql 9 (t 11) (t 15) 9] (C 16 (S [m 17 5,a 4 17] .ret) .skip)))) (.ops [b 18 .add 3 (t 8)
 (i 1) 3,m 8 18]))))).1
def zl1:PC:=(⟨_,by delta A S i;exact rfl⟩:Zz.Q (S [A 4 (i (-1))] .ret)).1
def zBd:PC:=(⟨_,by delta A L S d i m;exact rfl⟩:Zz.Q (S [A 4 (i 0)] (.seq (S [m 6 0,L 7 6 22,d 8 (.move (i 0))] (.block 0 (.loop zdX)))
 zl1))).1
theorem zp9:Zz.H 19 2 157 zBd [.tmp 4]:=fun hn h =>
 zb zi Tryz.func157 (by kernel_rfl) (by kernel_rfl) (by kernel_rfl) (by omega) h
def zBe:PC:=(⟨_,by delta A C L S a b d e i m t;exact rfl⟩:Zz.Q (S [A 4 (.const (.slice none 0 0))] (.seq (S [m 5 1,b 6 .lss 3 (t 5) (i 0) 3]
 (C 6 (.ops [d 7 (.makeInterface 9 (.const (.string ⟨#[99,97,110,110,111,116,32,98,101,32,110,101,103,97,116,105,118,101]⟩))),e (.panic (t 7))]) .skip)) (.seq
 (S [m 8 1,m 9 0,d 10 (.call ⟨.builtin .cap,#[t 9],#[44]⟩),m 11 0,L 12 11 44,b 13 .sub 3 (t 10) (t 12) 3,b 14 .sub 3 (t 8) (t 13) 3,a 1 14] (S [m 15 1,b 16 .gtr
 3 (t 15) (i 0) 3] (C 16 (.ops [m 17 0,m 18 0,d 19 (.call ⟨.builtin .cap,#[t 18],#[44]⟩),d 20 (.slice 44 (t 17) none (some (t 19)) none),m 21 1,d 22 (.call
 ⟨.builtin .append,#[t 20,t 21],#[44,3]⟩),m 23 0,L 24 23 44,d 25 (.slice 44 (t 22) none (some (t 24)) none),a 0 25]) .skip))) (S [m 26 0,a 4 26] .ret))))).1
theorem zvJ:Zz.H 27 2 158 zBe [.tmp 4]:=fun hn h =>
 zb zi Tryz.func158 (by kernel_rfl) (by kernel_rfl) (by kernel_rfl) (by omega) h
def zq6:PC:=(⟨_,by delta A C S a b d f i l m t w;exact rfl⟩:Zz.Q (S [d 1 (.box 53 (t 0)),A 2 (.const (.slice none 0 0))] (.seq (.block 0
 (.seq (S [f 4 53 1 0,l 5 3 4,b 6 .eql 3 (t 5) (i 11) 3,a 3 6] (C 3 .skip (S [f 7 53 1 0,l 8 3 7,b 9 .eql 3 (t 8) (i 12) 3,a 3 9] (C 3 .skip (.ops [f 10 53 1
 0,l 11 3 10,b 12 .eql 3 (t 11) (i 13) 3,m 13 12,w 14 (.fieldAddr 53 (t 1) 4) 13 true,w 15 (.load 3 (t 14)) 13 true,w 16 (.binOp .lss 3 (t 15) (i 0) 3) 13
 true,d 17 (.pick (t 13) (t 16) (.const (.bool false))),a 3 17]))))) (C 3 (S [f 18 53 1 3,l 19 3 18,d 20 (.buildSlice 44 1 #[(0,t 19)]),a 2 20] .ret) (S [f 22
 53 1 0,l 23 3 22,b 24 .eql 3 (t 23) (i 13) 3,a 21 24] (C 21 (S [f 25 53 1 3,l 26 3 25,f 27 53 1 4,l 28 3 27,d 29 (.buildSlice 44 2 #[(0,t 26),(1,t 28)]),a 2
 29] .ret) .skip))))) (S [A 2 (.const (.slice none 0 0))] .ret)))).1
theorem zvK:Zz.H 30 1 159 zq6 [.tmp 2]:=fun hn h =>
 zb zi Tryz.func159 (by kernel_rfl) (by kernel_rfl) (by kernel_rfl) (by omega) h
def zEN:PC:=(⟨_,by delta A S a b c i m t;exact rfl⟩:Zz.Q (S [A 4 (.const (.bool false))] (S [m 5 0,m 6 1,c 7 190 #[t 5,t 6] #[187,4],b 8
 .geq 3 (t 7) (i 0) 3,a 4 8] .ret))).1
theorem zvL:Zz.H 9 2 160 zEN [.tmp 4]:=fun hn h =>
 zb zi Tryz.func160 (by kernel_rfl) (by kernel_rfl) (by kernel_rfl) (by omega) h
def zEO:PC:=(⟨_,by delta C S a b c d f i l m n t;exact rfl⟩:Zz.Q (S [d 3 (.box 53 (t 1))] (S [l 4 53 3,c 5 191 #[t 4] #[53],c 6 53 #[t 5,i
 2] #[4,33]] (S [m 7 0,l 8 53 3,c 9 192 #[t 7,t 8] #[190,53],c 10 53 #[t 9,i 11] #[4,33]] (S [f 11 53 3 0,l 12 3 11] (.block 0 (.seq (S [b 17 .eql 3 (t 12) (i
 11) 3,a 16 17] (C 16 .skip (.ops [b 18 .eql 3 (t 12) (i 12) 3,a 16 18]))) (C 16 (.ops [m 19 0,n 20 19,f 21 192 20 0,l 22 72 21,f 23 53 3 3,l 24 3 23,m 25 0,n
 26 25,f 27 192 26 3,l 28 3 27,b 29 .add 3 (t 28) (i 1) 3,c 30 109 #[t 22,t 24,t 29] #[72,3,3]]) (S [b 32 .eql 3 (t 12) (i 13) 3,a 31 32] (C 31 (S [m 33 0,d 34
 (.buildSlice 44 1 #[(0,i 1)]),c 35 193 #[t 33,t 34] #[190,44]] (S [m 36 0,n 37 36,f 38 192 37 0,l 39 72 38,f 40 53 3 3,l 41 3 40,m 42 0,n 43 42,f 44 192 43 3,l
 45 3 44,b 46 .add 3 (t 45) (i 1) 3,c 47 109 #[t 39,t 41,t 46] #[72,3,3]] (S [f 48 53 3 4,l 49 3 48,b 50 .geq 3 (t 49) (i 0) 3] (C 50 (.ops [m 51 0,n 52 51,f 53
 192 52 0,l 54 72 53,f 55 53 3 4,l 56 3 55,m 57 0,n 58 57,f 59 192 58 3,l 60 3 59,b 61 .add 3 (t 60) (i 1) 3,c 62 109 #[t 54,t 56,t 61] #[72,3,3]]) .skip)))) (S
 [b 64 .eql 3 (t 12) (i 15) 3,a 63 64] (C 63 (S [m 65 0,d 66 (.buildSlice 44 1 #[(0,i 1)]),c 67 193 #[t 65,t 66] #[190,44]] (S [f 68 53 3 2,l 69 3 68,m 70 0,n
 71 70,f 72 192 71 3,l 73 3 72,b 74 .eql 3 (t 69) (t 73) 3] (C 74 (S [m 75 0,c 76 162 #[t 75] #[190]] (.ops [m 77 0,m 78 0,n 79 78,f 80 192 79 0,l 81 72 80,n 82
 81,f 83 74 82 1,f 84 57 83 3,l 85 3 84,c 86 194 #[t 77,t 85] #[190,3]])) .skip))) (S [b 88 .eql 3 (t 12) (i 14) 3,a 87 88] (C 87 (.seq (S [f 89 53 3 2,l 90 3
 89,m 91 0,n 92 91,f 93 192 92 3,l 94 3 93,b 95 .eql 3 (t 90) (t 94) 3] (C 95 (.ops [m 96 0,c 97 162 #[t 96] #[190]]) .skip)) (.ops [m 98 0,c 99 195 #[t 98]
 #[190]])) (S [b 101 .eql 3 (t 12) (i 16) 3,a 100 101] (C 100 (S [m 102 0,c 103 162 #[t 102] #[190]] (.ops [m 104 0,c 105 195 #[t 104] #[190]])) (S [b 107 .eql
 3 (t 12) (i 17) 3,a 106 107] (C 106 (.ops [m 108 0,c 109 195 #[t 108] #[190]]) (.ops [m 13 0,l 14 53 3,c 15 196 #[t 13,t 14] #[190,53]]))))))))))))))))))).1
theorem zvM:Zz.H 110 2 161 zEO []:=fun hn h =>
 zb zi Tryz.func161 (by kernel_rfl) (by kernel_rfl) (by kernel_rfl) (by omega) h
def zBf:PC:=(⟨_,by delta C S b c d f i l m n t;exact rfl⟩:Zz.Q (S [m 2 0,n 3 2,f 4 192 3 0,l 5 72 4,n 6 5,f 7 74 6 1,f 8 57 7 3,l 9 3 8,b 10
 .neq 3 (t 9) (i 0) 3] (C 10 (.ops [m 11 0,m 12 0,n 13 12,f 14 192 13 0,l 15 72 14,n 16 15,f 17 74 16 1,f 18 57 17 3,l 19 3 18,d 20 (.buildSlice 44 1 #[(0,t
 19)]),c 21 193 #[t 11,t 20] #[190,44]]) .skip))).1
theorem zvN:Zz.H 22 1 162 zBf []:=fun hn h =>
 zb zi Tryz.func162 (by kernel_rfl) (by kernel_rfl) (by kernel_rfl) (by omega) h
def zEP:PC:=(⟨_,by delta A C L S a c d m t;exact rfl⟩:Zz.Q (S [A 4 (.const (.string ⟨#[]⟩))] (.seq (S [m 5 0,m 6 1,c 7 199 #[t 5,t 6]
 #[9,9]] (C 7 (S [m 8 0,m 9 1,L 10 9 9,d 11 (.slice 9 (t 8) (some (t 10)) none none),a 4 11] .ret) .skip)) (S [m 12 0,a 4 12] .ret)))).1
theorem zvO:Zz.H 13 2 164 zEP [.tmp 4]:=fun hn h =>
 zb zi Tryz.func164 (by kernel_rfl) (by kernel_rfl) (by kernel_rfl) (by omega) h
def zBg:PC:=(⟨_,by delta A C L S a b c d i m s t w;exact rfl⟩:Zz.Q (S [A 4 (.const (.string ⟨#[]⟩))] (.seq (S [m 7 0,b 8 .eql 9 (t 7)
 (.const (.string ⟨#[]⟩)) 9,m 9 8,w 10 (.move (t 1)) 9 false,w 11 (.binOp .eql 9 (t 10) (.const (.string ⟨#[]⟩)) 9) 9 false,d 12 (.pick (t 9) (.const (.bool
 true)) (t 11))] (C 12 (S [m 13 0,a 4 13] .ret) .skip)) (.seq (S [m 14 1,L 15 14 9,b 16 .eql 3 (t 15) (i 1) 3,m 17 16,w 18 (.move (t 1)) 17 true,w 19 (.index 9
 (t 18) (i 0)) 17 true,w 20 (.binOp .lss 5 (t 19) (.const (.int .u8 128)) 5) 17 true,d 21 (.pick (t 17) (t 20) (.const (.bool false)))] (C 21 (S [m 22 0,m 23
 1,d 24 (.index 9 (t 23) (i 0)),c 25 120 #[t 22,t 24] #[9,5],a 4 25] .ret) .skip)) (.seq (S [m 27 1,c 28 122 #[t 27] #[9],m 26 28,d 29 (.extract (t 26) 0),d 30
 (.extract (t 26) 1),d 5 (.alloc 151),s 151 5 29,a 6 30] (S [m 31 6] (C 31 (S [m 32 0,c 33 123 #[t 32,t 5] #[9,155],a 4 33] .ret) .skip))) (S [m 34 0,m 35 1,c
 36 125 #[t 34,t 35] #[9,9],a 4 36] .ret)))))).1
theorem zvP:Zz.H 37 2 167 zBg [.tmp 4]:=fun hn h =>
 zb zi Tryz.func167 (by kernel_rfl) (by kernel_rfl) (by kernel_rfl) (by omega) h
def zl2:PC:=(⟨_,by delta C L S a b c d i m t;exact rfl⟩:Zz.Q (.seq (S [m 33 8,m 34 0,L 35 34 9,b 36 .lss 3 (t 33) (t 35) 3] (C 36 .skip
 (.exit 0))) (.seq (.block 1 (S [m 39 0,m 40 8,d 41 (.index 9 (t 39) (t 40)),c 42 172 #[t 6,t 41] #[151,5]] (C 42 (S [m 43 8,a 4 43] .ret) .skip))) (.ops [m 37
 8,b 38 .add 3 (t 37) (i 1) 3,a 8 38])))).1
def zqa:PC:=(⟨_,by delta A S i;exact rfl⟩:Zz.Q (S [A 4 (i (-1))] .ret)).1
def zvQ:PC:=(⟨_,by delta C S a b c d i m t;exact rfl⟩:Zz.Q (S [d 46 (.next (t 45) true),d 47 (.extract (t 46) 0)] (.seq (C 47 .skip
 (.exit 2)) (.block 3 (S [d 48 (.extract (t 46) 1),d 49 (.extract (t 46) 2),a 9 48,a 10 49] (S [m 50 1,m 51 10,c 52 205 #[t 50,t 51] #[9,21],b 53 .geq 3 (t 52)
 (i 0) 3] (C 53 (S [m 54 9,a 4 54] .ret) .skip))))))).1
def zvR:PC:=(⟨_,by delta A S i;exact rfl⟩:Zz.Q (S [A 4 (i (-1))] .ret)).1
def zvS:PC:=(⟨_,by delta S d m t;exact rfl⟩:Zz.Q (.seq (S [m 44 0,d 45 (.range 9 (t 44))] (.block 2 (.loop zvQ))) zvR)).1
def zEQ:PC:=(⟨_,by delta A C L S a b c d i m s t;exact rfl⟩:Zz.Q (S [A 4 (i 0)] (.seq (S [m 11 1,b 12 .eql 9 (t 11) (.const (.string ⟨#[]⟩))
 9] (C 12 (S [A 4 (i (-1))] .ret) .skip)) (.seq (S [m 13 1,L 14 13 9,b 15 .eql 3 (t 14) (i 1) 3] (C 15 (S [m 16 1,d 17 (.index 9 (t 16) (i 0)),d 18 (.convert 5
 21 (t 17)),a 5 18] (.seq (S [m 19 5,b 20 .geq 21 (t 19) (.const (.int .i32 128)) 21] (C 20 (.ops [A 5 (.const (.int .i32 65533))]) .skip)) (S [m 21 0,m 22 5,c
 23 205 #[t 21,t 22] #[9,21],a 4 23] .ret))) .skip)) (.seq (S [m 24 0,L 25 24 9,c 26 206 #[t 25] #[3]] (C 26 (S [m 28 1,c 29 122 #[t 28] #[9],m 27 29,d 30
 (.extract (t 27) 0),d 31 (.extract (t 27) 1),d 6 (.alloc 151),s 151 6 30,a 7 31] (S [m 32 7] (C 32 (.seq (S [A 8 (i 0)] (.block 0 (.loop zl2))) zqa)
 .skip))) .skip)) zvS))))).1
theorem zvT:Zz.H 55 2 168 zEQ [.tmp 4]:=fun hn h =>
 zb zi Tryz.func168 (by kernel_rfl) (by kernel_rfl) (by kernel_rfl) (by omega) h
def zER:PC:=(⟨_,by delta A C L S a c d m t;exact rfl⟩:Zz.Q (S [A 4 (.const (.string ⟨#[]⟩)),A 5 (.const (.bool false))] (.seq (S [m 6 0,m 7
 1,c 8 199 #[t 6,t 7] #[9,9],d 9 (.unOp .not 4 (t 8))] (C 9 (S [m 10 0,a 4 10,A 5 (.const (.bool false))] .ret) .skip)) (S [m 11 0,m 12 1,L 13 12 9,d 14 (.slice
 9 (t 11) (some (t 13)) none none),a 4 14,A 5 (.const (.bool true))] .ret)))).1
theorem zvU:Zz.H 15 2 169 zER [.tmp 4, .tmp 5]:=fun hn h =>
 zb zi Tryz.func169 (by kernel_rfl) (by kernel_rfl) (by kernel_rfl) (by omega) h
def zES:PC:=(⟨_,by delta C S a b c d e f i l m s t;exact rfl⟩:Zz.Q (S [d 6 (.alloc 53)] (S [d 12 (.makeMap 242 none),e (.insert 242 (t 12)
 (.const (.string ⟨#[98,108,111,99,107]⟩)) (i 11)),e (.insert 242 (t 12) (.const (.string ⟨#[108,111,111,112]⟩)) (i 12)),e (.insert 242 (t 12) (.const (.string
 ⟨#[105,102]⟩)) (i 13)),m 13 12,m 14 1,d 15 (.lookup 242 (t 13) (t 14) false),a 7 15] (.seq (S [m 16 7,b 17 .neq 3 (t 16) (i 0) 3] (C 17 (S [m 18 0,m 19 7,m 20
 2,b 21 .add 3 (t 20) (i 1) 3,c 22 207 #[t 18,t 19,t 21] #[75,3,3],s 53 6 22] .ret) .skip)) (.seq (S [m 24 1,c 25 134 #[t 24] #[9],m 23 25,d 26 (.extract (t 23)
 0),d 27 (.extract (t 23) 1),d 8 (.alloc 53),s 53 8 26,a 9 27] (S [m 28 9] (C 28 (S [m 29 0,c 30 58 #[t 29] #[75],f 31 53 8 2,s 3 31 30] (S [l 32 53 8,s 53 6
 32] .ret)) .skip))) (S [m 34 1,c 35 208 #[t 34] #[9],m 33 35,d 36 (.extract (t 33) 0),d 37 (.extract (t 33) 1),d 10 (.alloc 53),s 53 10 36,a 11 37] (S [m 38
 11,c 39 61 #[t 38,i 2] #[4,33]] (S [l 40 53 10,s 53 6 40] .ret)))))))).1
theorem zvV:Zz.H 41 3 171 zES [.cell 6 53]:=fun hn h =>
 zb zi Tryz.func171 (by kernel_rfl) (by kernel_rfl) (by kernel_rfl) (by omega) h
def zET:PC:=(⟨_,by delta A S a l m n x;exact rfl⟩:Zz.Q (S [A 4 (.const (.bool false))] (S [m 5 0,m 6 1,n 7 5,x 8 151 7 6,l 9 4 8,a 4 9]
 .ret))).1
theorem zvW:Zz.H 10 2 172 zET [.tmp 4]:=fun hn h =>
 zb zi Tryz.func172 (by kernel_rfl) (by kernel_rfl) (by kernel_rfl) (by omega) h
def zvX:PC:=(⟨_,by delta A C S a b i m t;exact rfl⟩:Zz.Q (S [A 6 (.const (.string ⟨#[]⟩))] (.seq (S [m 7 0] (.block 0 (S [b 9 .eql 3 (t 7)
 (i 1) 3,a 8 9] (C 8 (S [m 10 1,a 6 10] .ret) (.seq (S [b 12 .eql 3 (t 7) (i 4) 3,a 11 12] (C 11 .skip (.ops [b 13 .eql 3 (t 7) (i 8) 3,a 11 13]))) (C 11 (S [m
 14 2,a 6 14] .ret) .skip)))))) (S [A 6 (.const (.string ⟨#[]⟩))] .ret)))).1
theorem zvY:Zz.H 15 3 177 zvX [.tmp 6]:=fun hn h =>
 zb zi Tryz.func177 (by kernel_rfl) (by kernel_rfl) (by kernel_rfl) (by omega) h
def zl3:PC:=(⟨_,by delta A C L S a b c d i l m t x;exact rfl⟩:Zz.Q (.seq (S [m 11 5,m 12 0,L 13 12 55,b 14 .lss 3 (t 11) (t 13) 3] (C 14
 .skip (.exit 0))) (.seq (.block 1 (S [m 17 0,m 18 5,x 19 55 17 18,l 20 54 19,m 21 1,m 22 5,x 23 55 21 22,l 24 54 23,c 25 216 #[t 20,t 24] #[54,54],d 26 (.unOp
 .not 4 (t 25))] (C 26 (S [A 4 (.const (.bool false))] .ret) .skip))) (.ops [m 15 5,b 16 .add 3 (t 15) (i 1) 3,a 5 16])))).1
def zqb:PC:=(⟨_,by delta A S;exact rfl⟩:Zz.Q (S [A 4 (.const (.bool true))] .ret)).1
def zEU:PC:=(⟨_,by delta A C L S b i m t;exact rfl⟩:Zz.Q (S [A 4 (.const (.bool false))] (.seq (S [m 6 0,L 7 6 55,m 8 1,L 9 8 55,b 10 .neq 3
 (t 7) (t 9) 3] (C 10 (S [A 4 (.const (.bool false))] .ret) .skip)) (.seq (S [A 5 (i 0)] (.block 0 (.loop zl3))) zqb)))).1
theorem zvZ:Zz.H 27 2 180 zEU [.tmp 4]:=fun hn h =>
 zb zi Tryz.func180 (by kernel_rfl) (by kernel_rfl) (by kernel_rfl) (by omega) h
def zfb:PC:=(⟨_,by delta C S a b c d i l m s t x;exact rfl⟩:Zz.Q (S [b 88 .lss 3 (t 87) (i 2) 3] (.seq (C 88 .skip (.exit 0)) (.seq
 (.block 1 (S [m 89 87,d 90 (.index 182 (t 86) (t 87)),a 13 89,a 14 90] (S [m 91 14,m 92 1,c 93 227 #[t 91,t 92] #[9,5],a 15 93] (S [m 94 15,b 95 .geq 3 (t 94)
 (i 0) 3] (C 95 (S [m 96 13,b 97 .add 3 (t 96) (i 1) 3,c 98 57 #[.const (.string
 ⟨#[97,100,100,32,115,117,98,32,109,117,108,32,100,105,118,95,115,32,114,101,109,95,115,32,97,110,100,32,111,114,32,120,111,114,32,115,104,108,32,115,104,114,95,115,32,101,113,32,110,101,32,108,116,95,115,32,103,116,95,115,32,108,101,95,115,32,103,101,95,115]⟩)]
 #[9],m 99 15,x 100 22 98 99,l 101 9 100,d 102 (.build 53 #[(0,i 4),(1,t 97),(5,t 101)]),s 53 6 102] .ret) .skip))))) (.ops [b 103 .add 3 (t 87) (i 1) 3,m 87
 103]))))).1
def zid:PC:=(⟨_,by delta d e i t;exact rfl⟩:Zz.Q (.ops [d 104 (.makeInterface 33 (i 2)),e (.panic (t 104))])).1
def zha:PC:=(⟨_,by delta A C S a b c d e f i l m s t w;exact rfl⟩:Zz.Q (S [d 6 (.alloc 53)] (.seq (S [m 16 1,b 17 .geq 5 (t 16) (.const
 (.int .u8 2)) 5,m 18 17,w 19 (.move (t 1)) 18 true,w 20 (.binOp .leq 5 (t 19) (.const (.int .u8 4)) 5) 18 true,d 21 (.pick (t 18) (t 20) (.const (.bool
 false)))] (C 21 (S [m 22 2,b 23 .lss 3 (t 22) (i 400) 3,c 24 40 #[t 23,i 3] #[4,33]] (S [m 25 0,c 26 87 #[t 25,i 1] #[59,3]] (S [m 27 1,d 28 (.convert 5 3 (t
 27)),b 29 .add 3 (i 11) (t 28) 3,b 30 .sub 3 (t 29) (i 2) 3,d 31 (.build 53 #[(0,t 30)]),d 7 (.alloc 53),s 53 7 31] (S [A 8 (.const (.int .u8 0))] (S [m 33 0,m
 34 2,b 35 .add 3 (t 34) (i 1) 3,c 36 152 #[t 33,t 35] #[59,3],m 32 36,d 37 (.extract (t 32) 0),d 38 (.extract (t 32) 1),f 39 53 7 3,s 3 39 37,a 8 38] (.seq (S
 [m 40 1,b 41 .eql 5 (t 40) (.const (.int .u8 4)) 5] (C 41 (S [f 42 53 7 4,e (.store 3 (t 42) (i (-1)))] (S [m 43 8,b 44 .eql 5 (t 43) (.const (.int .u8 5)) 5]
 (C 44 (.ops [m 46 0,m 47 2,b 48 .add 3 (t 47) (i 1) 3,c 49 152 #[t 46,t 48] #[59,3],m 45 49,d 50 (.extract (t 45) 0),d 51 (.extract (t 45) 1),f 52 53 7 4,s 3
 52 50]) .skip))) .skip)) (S [l 53 53 7,s 53 6 53] .ret))))))) .skip)) (.seq (S [d 55 (.load 184 (.global 3)),m 56 1,d 57 (.lookup 184 (t 55) (t 56) true),m 54
 57,d 58 (.extract (t 54) 0),d 59 (.extract (t 54) 1),d 9 (.alloc 53),s 53 9 58,a 10 59] (S [m 60 10] (C 60 (S [m 61 0,f 62 53 9 0,l 63 3 62,b 64 .eql 3 (t 63)
 (i 1) 3,c 65 90 #[t 61,t 64] #[59,4],f 66 53 9 2,s 3 66 65] (S [l 67 53 9,s 53 6 67] .ret)) .skip))) (.seq (S [d 69 (.load 184 (.global 2)),m 70 1,d 71
 (.lookup 184 (t 69) (t 70) true),m 68 71,d 72 (.extract (t 68) 0),d 73 (.extract (t 68) 1),d 11 (.alloc 53),s 53 11 72,a 12 73] (S [m 74 12] (C 74 (.seq (S [f
 75 53 11 0,l 76 3 75,b 77 .eql 3 (t 76) (i 8) 3,m 78 77,w 79 (.fieldAddr 53 (t 11) 0) 78 false,w 80 (.load 3 (t 79)) 78 false,w 81 (.binOp .eql 3 (t 80) (i 9)
 3) 78 false,d 82 (.pick (t 78) (.const (.bool true)) (t 81))] (C 82 (.ops [m 83 0,c 84 87 #[t 83,i 2] #[59,3]]) .skip)) (S [l 85 53 11,s 53 6 85] .ret))
 .skip))) (.seq (S [d 86 (.load 182 (.global 1)),d 87 (.move (i 0))] (.block 0 (.loop zfb))) zid)))))).1
theorem zv0:Zz.H 105 3 189 zha [.cell 6 53]:=fun hn h =>
 zb zi Tryz.func189 (by kernel_rfl) (by kernel_rfl) (by kernel_rfl) (by omega) h
def zie:PC:=(⟨_,by delta C S a b i l m t x;exact rfl⟩:Zz.Q (S [b 9 .lss 3 (t 8) (t 7) 3] (.seq (C 9 .skip (.exit 0)) (.seq (.block 1 (S
 [m 10 8,a 5 10] (S [m 11 1,m 12 0,m 13 5,x 14 187 12 13,l 15 4 14,b 16 .eql 4 (t 11) (t 15) 4] (C 16 (S [m 17 5,a 4 17] .ret) .skip)))) (.ops [b 18 .add 3 (t
 8) (i 1) 3,m 8 18]))))).1
def zqc:PC:=(⟨_,by delta A S i;exact rfl⟩:Zz.Q (S [A 4 (i (-1))] .ret)).1
def zEV:PC:=(⟨_,by delta A L S d i m;exact rfl⟩:Zz.Q (S [A 4 (i 0)] (.seq (S [m 6 0,L 7 6 187,d 8 (.move (i 0))] (.block 0 (.loop
 zie))) zqc))).1
theorem zv1:Zz.H 19 2 190 zEV [.tmp 4]:=fun hn h =>
 zb zi Tryz.func190 (by kernel_rfl) (by kernel_rfl) (by kernel_rfl) (by omega) h
def zl4:PC:=(⟨_,by delta A C S a b c d f i l m t w;exact rfl⟩:Zz.Q (S [d 1 (.box 53 (t 0)),A 2 (.const (.bool false))] (.seq (S [f 3 53 1
 0,l 4 3 3] (.block 0 (.seq (S [b 6 .eql 3 (t 4) (i 1) 3,a 5 6] (C 5 .skip (.ops [b 7 .eql 3 (t 4) (i 5) 3,a 5 7]))) (C 5 (S [f 8 53 1 1,l 9 3 8,c 10 107 #[t 9]
 #[3],a 2 10] .ret) (S [b 12 .eql 3 (t 4) (i 4) 3,a 11 12] (C 11 (S [f 13 53 1 1,l 14 3 13,c 15 107 #[t 14] #[3],m 16 15,w 17 (.fieldAddr 53 (t 1) 5) 16 true,w
 18 (.load 9 (t 17)) 16 true,w 19 (.call ⟨.value (.func 219),#[t 18],#[9]⟩) 16 true,w 20 (.binOp .neq 9 (t 19) (.const (.string ⟨#[]⟩)) 9) 16 true,d 21 (.pick
 (t 16) (t 20) (.const (.bool false))),a 2 21] .ret) (.seq (S [b 23 .eql 3 (t 4) (i 8) 3,a 22 23] (C 22 .skip (.ops [b 24 .eql 3 (t 4) (i 9) 3,a 22 24]))) (C 22
 (S [f 25 53 1 1,l 26 3 25,f 27 53 1 2,l 28 3 27,c 29 228 #[t 26,t 28] #[3,3],a 2 29] .ret) .skip)))))))) (S [f 30 53 1 0,l 31 3 30,b 32 .geq 3 (t 31) (i 1) 3,m
 33 32,w 34 (.fieldAddr 53 (t 1) 0) 33 true,w 35 (.load 3 (t 34)) 33 true,w 36 (.binOp .leq 3 (t 35) (i 18) 3) 33 true,d 37 (.pick (t 33) (t 36) (.const (.bool
 false))),a 2 37] .ret)))).1
theorem zv2:Zz.H 38 1 191 zl4 [.tmp 2]:=fun hn h =>
 zb zi Tryz.func191 (by kernel_rfl) (by kernel_rfl) (by kernel_rfl) (by omega) h
def zj5:PC:=(⟨_,by delta A C S a b c d f i l m n s t w;exact rfl⟩:Zz.Q (S [d 3 (.box 53 (t 1)),A 4 (.const (.bool false))] (.seq (S [f 7 53
 3 0,l 8 3 7] (.block 0 (S [b 10 .eql 3 (t 8) (i 1) 3,a 9 10] (C 9 (S [f 11 53 3 1,l 12 3 11,f 13 53 3 2,l 14 3 13,f 16 53 3 2,l 17 3 16,⟨some 15,.call ⟨.value
 (.func 220),#[t 12,t 14],#[3,3]⟩,none,[⟨none,3,t 16,17⟩]⟩,b 18 .eql 3 (t 15) (t 17) 3,a 4 18] .ret) (.seq (S [b 20 .eql 3 (t 8) (i 2) 3,a 19 20] (C 19 .skip
 (.ops [b 21 .eql 3 (t 8) (i 3) 3,a 19 21]))) (C 19 (S [f 22 53 3 2,l 23 3 22,b 24 .geq 3 (t 23) (i 0) 3,m 25 24,w 26 (.fieldAddr 53 (t 3) 2) 25 true,w 27
 (.load 3 (t 26)) 25 true,w 28 (.move (t 0)) 25 true,w 29 (.nilCheck (t 28)) 25 true,w 30 (.fieldAddr 192 (t 29) 0) 25 true,w 31 (.load 72 (t 30)) 25 true,w 32
 (.nilCheck (t 31)) 25 true,w 33 (.fieldAddr 74 (t 32) 2) 25 true,w 34 (.load 44 (t 33)) 25 true,w 35 (.call ⟨.builtin .len,#[t 34],#[44]⟩) 25 true,w 36 (.binOp
 .lss 3 (t 27) (t 35) 3) 25 true,d 37 (.pick (t 25) (t 36) (.const (.bool false))),a 4 37] .ret) (S [b 39 .eql 3 (t 8) (i 10) 3,a 38 39] (C 38 (.seq (.both [[m
 41 0,n 42 41,f 43 192 42 0,l 44 72 43,n 45 44,f 46 74 45 0,l 47 28 46,f 48 53 3 2,l 49 3 48,c 50 229 #[t 47,t 49] #[28,3],m 40 50,d 51 (.extract (t 40) 0),d 52
 (.extract (t 40) 1),d 5 (.alloc 265),s 265 5 51,a 6 52],[m 41 0,n 42 41,f 43 192 42 0,l 44 72 43,n 45 44,f 46 74 45 0,l 47 28 46,f 48 53 3 2,l 49 3 48,⟨some
 5,.alloc 265,none,[⟨none,72,t 43,44⟩,⟨none,28,t 46,47⟩,⟨none,3,t 48,49⟩]⟩,c 50 229 #[t 47,t 49] #[28,3],m 40 50,d 51 (.extract (t 40) 0),d 52 (.extract (t 40)
 1),s 265 5 51,a 6 52]]) (S [m 53 6,a 4 53] .ret)) (.seq (S [b 55 .eql 3 (t 8) (i 14) 3,a 54 55] (C 54 .skip (.ops [b 56 .eql 3 (t 8) (i 15) 3,a 54 56]))) (C 54
 (S [f 57 53 3 2,l 58 3 57,b 59 .geq 3 (t 58) (i 0) 3,m 60 59,w 61 (.fieldAddr 53 (t 3) 2) 60 true,w 62 (.load 3 (t 61)) 60 true,w 63 (.move (t 0)) 60 true,w 64
 (.nilCheck (t 63)) 60 true,w 65 (.fieldAddr 192 (t 64) 3) 60 true,w 66 (.load 3 (t 65)) 60 true,w 67 (.binOp .leq 3 (t 62) (t 66) 3) 60 true,d 68 (.pick (t 60)
 (t 67) (.const (.bool false))),a 4 68] .ret) .skip)))))))))) (S [A 4 (.const (.bool true))] .ret)))).1
theorem zv3:Zz.H 69 2 192 zj5 [.tmp 4]:=fun hn h =>
 zb zi Tryz.func192 (by kernel_rfl) (by kernel_rfl) (by kernel_rfl) (by omega) h
def zsS:PC:=(⟨_,by delta d t;exact rfl⟩:Zz.Q (.ops [d 2 (.box 190 (t 0))])).1
def zqd:PC:=(⟨_,by delta c m t;exact rfl⟩:Zz.Q (.ops [m 7 1,c 8 230 #[t 7] #[44]])).1
def zeP:PC:=(⟨_,by delta a;exact rfl⟩:Zz.Q (.ops [a 5 10])).1
def zeQ:PC:=(⟨_,by delta L S a b c d f i l m n t w;exact rfl⟩:Zz.Q (.block 1 (S [l 11 190 2,n 12 11,f 13 192 12 1,l 14 44 13,L 15 14
 44,a 6 15] (S [m 16 6,b 17 .eql 3 (t 16) (i 0) 3,m 18 17,w 19 (.load 190 (t 2)) 18 false,w 20 (.nilCheck (t 19)) 18 false,w 21 (.fieldAddr 192 (t 20) 1) 18
 false,w 22 (.load 44 (t 21)) 18 false,w 23 (.move (t 6)) 18 false,w 24 (.binOp .sub 3 (t 23) (i 1) 3) 18 false,w 25 (.indexAddr 44 (t 22) (t 24)) 18 false,w 26
 (.load 3 (t 25)) 18 false,w 27 (.move (t 5)) 18 false,w 28 (.binOp .eql 3 (t 26) (t 27) 3) 18 false,d 29 (.pick (t 18) (.const (.bool true)) (t 28)),c 30 53
 #[t 29,i 14] #[4,33]] (.ops [l 31 190 2,c 32 231 #[t 31] #[190]]))))).1
def zsT:PC:=(⟨_,by delta C S b d f i l m n s t;exact rfl⟩:Zz.Q (S [m 4 1,b 5 .neq 3 (t 4) (i 0) 3] (C 5 (.ops [m 6 0,m 7 0,n 8 7,f 9 192 8
 1,l 10 44 9,m 11 1,d 12 (.buildSlice 44 1 #[(0,t 11)]),d 13 (.call ⟨.builtin .append,#[t 10,t 12],#[44,44]⟩),n 14 6,f 15 192 14 1,s 44 15 13]) .skip))).1
theorem zv4:Zz.H 16 2 194 zsT []:=fun hn h =>
 zb zi Tryz.func194 (by kernel_rfl) (by kernel_rfl) (by kernel_rfl) (by omega) h
def zEW:PC:=(⟨_,by delta e f m n t;exact rfl⟩:Zz.Q (.ops [m 2 0,m 3 0,n 4 2,f 5 192 4 1,e (.store 44 (t 5) (.const (.slice none 0 0))),n 6
 3,f 7 192 6 2,e (.store 4 (t 7) (.const (.bool true)))])).1
theorem zv5:Zz.H 8 1 195 zEW []:=fun hn h =>
 zb zi Tryz.func195 (by kernel_rfl) (by kernel_rfl) (by kernel_rfl) (by omega) h
def zEX:PC:=(⟨_,by delta C S a b c d f i l m n s t x;exact rfl⟩:Zz.Q (S [d 3 (.box 53 (t 1))] (S [f 6 53 3 0,l 7 3 6] (.block 0 (S [b 9 .eql
 3 (t 7) (i 1) 3,a 8 9] (C 8 (.ops [m 10 0,f 11 53 3 1,l 12 3 11,c 13 194 #[t 10,t 12] #[190,3]]) (S [b 15 .eql 3 (t 7) (i 2) 3,a 14 15] (C 14 (.ops [m 16 0,m
 17 0,n 18 17,f 19 192 18 0,l 20 72 19,n 21 20,f 22 74 21 2,l 23 44 22,f 24 53 3 2,l 25 3 24,x 26 44 23 25,l 27 3 26,c 28 194 #[t 16,t 27] #[190,3]]) (S [b 30
 .eql 3 (t 7) (i 3) 3,a 29 30] (C 29 (.ops [m 31 0,m 32 0,n 33 32,f 34 192 33 0,l 35 72 34,n 36 35,f 37 74 36 2,l 38 44 37,f 39 53 3 2,l 40 3 39,x 41 44 38 40,l
 42 3 41,d 43 (.buildSlice 44 1 #[(0,t 42)]),c 44 193 #[t 31,t 43] #[190,44]]) (S [b 46 .eql 3 (t 7) (i 4) 3,a 45 46] (C 45 (S [m 47 0,f 48 53 3 1,l 49 3 48,f
 50 53 3 1,l 51 3 50,d 52 (.buildSlice 44 2 #[(0,t 49),(1,t 51)]),c 53 193 #[t 47,t 52] #[190,44]] (S [f 54 53 3 5,l 55 9 54,b 56 .add 9 (.const (.string
 ⟨#[32]⟩)) (t 55) 9,b 57 .add 9 (t 56) (.const (.string ⟨#[32]⟩)) 9,c 58 232 #[.const (.string
 ⟨#[32,101,113,32,110,101,32,108,116,95,115,32,108,101,95,115,32,103,116,95,115,32,103,101,95,115,32]⟩),t 57] #[9,9]] (C 58 (.ops [m 59 0,c 60 194 #[t 59,i 1]
 #[190,3]]) (.ops [m 61 0,f 62 53 3 1,l 63 3 62,c 64 194 #[t 61,t 63] #[190,3]])))) (S [b 66 .eql 3 (t 7) (i 5) 3,a 65 66] (C 65 (S [m 67 0,f 68 53 3 1,l 69 3
 68,d 70 (.buildSlice 44 1 #[(0,t 69)]),c 71 193 #[t 67,t 70] #[190,44]] (.ops [m 72 0,c 73 194 #[t 72,i 1] #[190,3]])) (S [b 75 .eql 3 (t 7) (i 6) 3,a 74 75]
 (C 74 (S [m 76 0,d 77 (.buildSlice 44 1 #[(0,i 2)]),c 78 193 #[t 76,t 77] #[190,44]] (.ops [m 79 0,c 80 194 #[t 79,i 1] #[190,3]])) (S [b 82 .eql 3 (t 7) (i 7)
 3,a 81 82] (C 81 (S [m 83 0,d 84 (.buildSlice 44 1 #[(0,i 1)]),c 85 193 #[t 83,t 84] #[190,44]] (.ops [m 86 0,c 87 194 #[t 86,i 2] #[190,3]])) (S [b 89 .eql 3
 (t 7) (i 8) 3,a 88 89] (C 88 (S [m 90 0,d 91 (.buildSlice 44 1 #[(0,i 1)]),c 92 193 #[t 90,t 91] #[190,44]] (.ops [m 93 0,f 94 53 3 1,l 95 3 94,c 96 194 #[t
 93,t 95] #[190,3]])) (S [b 98 .eql 3 (t 7) (i 9) 3,a 97 98] (C 97 (.ops [m 99 0,f 100 53 3 1,l 101 3 100,d 102 (.buildSlice 44 2 #[(0,i 1),(1,t 101)]),c 103
 193 #[t 99,t 102] #[190,44]]) (S [b 105 .eql 3 (t 7) (i 10) 3,a 104 105] (C 104 (.seq (.both [[m 107 0,n 108 107,f 109 192 108 0,l 110 72 109,n 111 110,f 112
 74 111 0,l 113 28 112,f 114 53 3 2,l 115 3 114,c 116 229 #[t 113,t 115] #[28,3],m 106 116,d 117 (.extract (t 106) 0),d 118 (.extract (t 106) 1),d 4 (.alloc
 265),s 265 4 117,a 5 118],[m 107 0,n 108 107,f 109 192 108 0,l 110 72 109,n 111 110,f 112 74 111 0,l 113 28 112,f 114 53 3 2,l 115 3 114,⟨some 4,.alloc
 265,none,[⟨none,72,t 109,110⟩,⟨none,28,t 112,113⟩,⟨none,3,t 114,115⟩]⟩,c 116 229 #[t 113,t 115] #[28,3],m 106 116,d 117 (.extract (t 106) 0),d 118 (.extract (t
 106) 1),s 265 4 117,a 5 118]]) (S [m 119 0,f 120 265 4 0,l 121 44 120,c 122 193 #[t 119,t 121] #[190,44]] (.ops [m 123 0,f 124 265 4 1,l 125 3 124,c 126 194
 #[t 123,t 125] #[190,3]]))) (S [b 128 .eql 3 (t 7) (i 18) 3,a 127 128] (C 127 (.ops [m 129 0,c 130 231 #[t 129] #[190]]) .skip)))))))))))))))))))))))))).1
theorem zv6:Zz.H 131 2 196 zEX []:=fun hn h =>
 zb zi Tryz.func196 (by kernel_rfl) (by kernel_rfl) (by kernel_rfl) (by omega) h
def zBh:PC:=(⟨_,by delta A L S a b d m t w;exact rfl⟩:Zz.Q (S [A 4 (.const (.bool false))] (S [m 5 0,L 6 5 9,m 7 1,L 8 7 9,b 9 .geq 3 (t 6)
 (t 8) 3,m 10 9,w 11 (.move (t 0)) 10 true,w 12 (.move (t 1)) 10 true,w 13 (.call ⟨.builtin .len,#[t 12],#[9]⟩) 10 true,w 14 (.slice 9 (t 11) none (some (t 13))
 none) 10 true,w 15 (.move (t 1)) 10 true,w 16 (.binOp .eql 9 (t 14) (t 15) 9) 10 true,d 17 (.pick (t 10) (t 16) (.const (.bool false))),a 4 17] .ret))).1
theorem zv7:Zz.H 18 2 199 zBh [.tmp 4]:=fun hn h =>
 zb zi Tryz.func199 (by kernel_rfl) (by kernel_rfl) (by kernel_rfl) (by omega) h
def zEY:PC:=(⟨_,by delta A S a b i m t;exact rfl⟩:Zz.Q (S [A 2 (.const (.bool false))] (S [m 3 0,b 4 .gtr 3 (t 3) (i 8) 3,a 2 4] .ret))).1
theorem zv8:Zz.H 5 1 206 zEY [.tmp 2]:=fun hn h =>
 zb zi Tryz.func206 (by kernel_rfl) (by kernel_rfl) (by kernel_rfl) (by omega) h
def zBi:PC:=(⟨_,by delta A C S a b c d e f i l m s t;exact rfl⟩:Zz.Q (S [d 6 (.alloc 53)] (S [m 9 2,b 10 .leq 3 (t 9) (i 400) 3,c 11 61 #[t
 10,i 3] #[4,33]] (S [m 12 1,d 13 (.build 53 #[(0,t 12)]),d 7 (.alloc 53),s 53 7 13] (.seq (S [m 14 1,b 15 .neq 3 (t 14) (i 13) 3] (C 15 (S [m 17 0,m 18 2,d 19
 (.buildSlice 22 1 #[(0,.const (.string ⟨#[101,110,100]⟩))]),c 20 119 #[t 17,t 18,t 19] #[75,3,22],m 16 20,d 21 (.extract (t 16) 0),d 22 (.extract (t 16) 1),f
 23 53 7 3,s 3 23 21] (S [l 24 53 7,s 53 6 24] .ret)) .skip)) (S [A 8 (.const (.string ⟨#[]⟩))] (S [m 26 0,m 27 2,d 28 (.buildSlice 22 2 #[(0,.const (.string
 ⟨#[101,110,100]⟩)),(1,.const (.string ⟨#[101,108,115,101]⟩))]),c 29 119 #[t 26,t 27,t 28] #[75,3,22],m 25 29,d 30 (.extract (t 25) 0),d 31 (.extract (t 25)
 1),f 32 53 7 3,s 3 32 30,a 8 31] (S [f 33 53 7 4,e (.store 3 (t 33) (i (-1)))] (.seq (S [m 34 8,b 35 .eql 9 (t 34) (.const (.string ⟨#[101,108,115,101]⟩)) 9]
 (C 35 (.ops [m 37 0,m 38 2,d 39 (.buildSlice 22 1 #[(0,.const (.string ⟨#[101,110,100]⟩))]),c 40 119 #[t 37,t 38,t 39] #[75,3,22],m 36 40,d 41 (.extract (t 36)
 0),d 42 (.extract (t 36) 1),f 43 53 7 4,s 3 43 41]) .skip)) (S [l 44 53 7,s 53 6 44] .ret)))))))))).1
theorem zv9:Zz.H 45 3 207 zBi [.cell 6 53]:=fun hn h =>
 zb zi Tryz.func207 (by kernel_rfl) (by kernel_rfl) (by kernel_rfl) (by omega) h
def zl5:PC:=(⟨_,by delta A C S a b c d i l m s t w x;exact rfl⟩:Zz.Q (S [b 13 .lss 3 (t 12) (t 11) 3] (.seq (C 13 .skip (.exit 0)) (.seq
 (.block 1 (S [x 14 44 10 12,l 15 3 14,a 5 15] (S [m 17 0,m 18 5,c 19 131 #[t 18] #[3],b 20 .add 9 (t 19) (.const (.string ⟨#[46]⟩)) 9,c 21 116 #[t 17,t 20]
 #[9,9],m 16 21,d 22 (.extract (t 16) 0),d 23 (.extract (t 16) 1),a 6 22,a 7 23] (.seq (S [m 24 7,m 25 24,w 26 (.move (t 6)) 25 true,w 27 (.binOp .eql 9 (t 26)
 (.const (.string ⟨#[101,113,122]⟩)) 9) 25 true,d 28 (.pick (t 25) (t 27) (.const (.bool false)))] (C 28 (S [m 29 5,d 30 (.build 53 #[(0,i 5),(1,t 29)]),s 53 2
 30,A 3 (.const (.bool true))] .ret) .skip)) (S [m 31 7,m 32 31,w 33 (.call ⟨.value (.func 57),#[.const (.string
 ⟨#[97,100,100,32,115,117,98,32,109,117,108,32,100,105,118,95,115,32,114,101,109,95,115,32,97,110,100,32,111,114,32,120,111,114,32,115,104,108,32,115,104,114,95,115,32,101,113,32,110,101,32,108,116,95,115,32,108,101,95,115,32,103,116,95,115,32,103,101,95,115]⟩)],#[9]⟩)
 32 true,w 34 (.move (t 6)) 32 true,w 35 (.call ⟨.value (.func 239),#[t 33,t 34],#[22,9]⟩) 32 true,d 36 (.pick (t 32) (t 35) (.const (.bool false)))] (C 36 (S
 [m 37 5,m 38 6,d 39 (.build 53 #[(0,i 4),(1,t 37),(5,t 38)]),s 53 2 39,A 3 (.const (.bool true))] .ret) .skip)))))) (.ops [b 40 .add 3 (t 12) (i 1) 3,m 12
 40]))))).1
def zqe:PC:=(⟨_,by delta S a d e i l m s t;exact rfl⟩:Zz.Q (S [d 42 (.makeMap 208 none),d 43 (.build 53 #[(0,i 6)]),e (.insert 208 (t 42)
 (.const (.string ⟨#[105,51,50,46,119,114,97,112,95,105,54,52]⟩)) (t 43)),d 44 (.build 53 #[(0,i 7)]),e (.insert 208 (t 42) (.const (.string
 ⟨#[105,54,52,46,101,120,116,101,110,100,95,105,51,50,95,115]⟩)) (t 44)),d 45 (.build 53 #[(0,i 16)]),e (.insert 208 (t 42) (.const (.string
 ⟨#[114,101,116,117,114,110]⟩)) (t 45)),d 46 (.build 53 #[(0,i 17)]),e (.insert 208 (t 42) (.const (.string ⟨#[117,110,114,101,97,99,104,97,98,108,101]⟩)) (t
 46)),d 47 (.build 53 #[(0,i 18)]),e (.insert 208 (t 42) (.const (.string ⟨#[100,114,111,112]⟩)) (t 47)),d 48 (.build 53 #[(0,i 8),(1,i 1),(2,i 1)]),e (.insert
 208 (t 42) (.const (.string ⟨#[105,51,50,46,108,111,97,100,56,95,115]⟩)) (t 48)),d 49 (.build 53 #[(0,i 8),(1,i 1),(2,i 4)]),e (.insert 208 (t 42) (.const
 (.string ⟨#[105,51,50,46,108,111,97,100]⟩)) (t 49)),d 50 (.build 53 #[(0,i 8),(1,i 2),(2,i 8)]),e (.insert 208 (t 42) (.const (.string
 ⟨#[105,54,52,46,108,111,97,100]⟩)) (t 50)),d 51 (.build 53 #[(0,i 9),(1,i 1),(2,i 1)]),e (.insert 208 (t 42) (.const (.string
 ⟨#[105,51,50,46,115,116,111,114,101,56]⟩)) (t 51)),d 52 (.build 53 #[(0,i 9),(1,i 1),(2,i 4)]),e (.insert 208 (t 42) (.const (.string
 ⟨#[105,51,50,46,115,116,111,114,101]⟩)) (t 52)),d 53 (.build 53 #[(0,i 9),(1,i 2),(2,i 8)]),e (.insert 208 (t 42) (.const (.string
 ⟨#[105,54,52,46,115,116,111,114,101]⟩)) (t 53)),m 54 42,m 55 0,d 56 (.lookup 208 (t 54) (t 55) true),m 41 56,d 57 (.extract (t 41) 0),d 58 (.extract (t 41)
 1),d 8 (.alloc 53),s 53 8 57,a 9 58] (S [l 59 53 8,m 60 9,s 53 2 59,a 3 60] .ret))).1
def zEZ:PC:=(⟨_,by delta A L S d i;exact rfl⟩:Zz.Q (S [d 2 (.alloc 53),A 3 (.const (.bool false))] (.seq (S [d 10 (.buildSlice 44 2 #[(0,i
 1),(1,i 2)]),L 11 10 44,d 12 (.move (i 0))] (.block 0 (.loop zl5))) zqe))).1
theorem zwa:Zz.H 61 1 208 zEZ [.cell 2 53, .tmp 3]:=fun hn h =>
 zb zi Tryz.func208 (by kernel_rfl) (by kernel_rfl) (by kernel_rfl) (by omega) h
def zfc:PC:=(⟨_,by delta A C L S a b d i l m t x;exact rfl⟩:Zz.Q (.seq (S [m 11 5,m 12 0,L 13 12 54,b 14 .lss 3 (t 11) (t 13) 3] (C 14
 .skip (.exit 0))) (.seq (.block 1 (S [m 17 0,m 18 5,x 19 54 17 18,l 20 53 19,m 21 1,m 22 5,x 23 54 21 22,l 24 53 23,b 25 .eql 53 (t 20) (t 24) 53,d 26 (.unOp
 .not 4 (t 25))] (C 26 (S [A 4 (.const (.bool false))] .ret) .skip))) (.ops [m 15 5,b 16 .add 3 (t 15) (i 1) 3,a 5 16])))).1
def zif:PC:=(⟨_,by delta A S;exact rfl⟩:Zz.Q (S [A 4 (.const (.bool true))] .ret)).1
def znf:PC:=(⟨_,by delta A C L S b i m t;exact rfl⟩:Zz.Q (S [A 4 (.const (.bool false))] (.seq (S [m 6 0,L 7 6 54,m 8 1,L 9 8 54,b 10 .neq 3
 (t 7) (t 9) 3] (C 10 (S [A 4 (.const (.bool false))] .ret) .skip)) (.seq (S [A 5 (i 0)] (.block 0 (.loop zfc))) zif)))).1
theorem zwb:Zz.H 27 2 216 znf [.tmp 4]:=fun hn h =>
 zb zi Tryz.func216 (by kernel_rfl) (by kernel_rfl) (by kernel_rfl) (by omega) h
def zig:PC:=(⟨_,by delta C S a b d i l m s t;exact rfl⟩:Zz.Q (S [b 7 .lss 3 (t 6) (i 16) 3] (.seq (C 7 .skip (.exit 0)) (.seq (.block 1
 (S [d 8 (.index 287 (t 5) (t 6)),d 4 (.alloc 182),s 182 4 8] (S [d 9 (.indexAddr 182 (t 4) (i 0)),l 10 9 9,m 11 0,b 12 .eql 9 (t 10) (t 11) 9] (C 12 (S [d 13
 (.indexAddr 182 (t 4) (i 1)),l 14 9 13,a 2 14] .ret) .skip)))) (.ops [b 15 .add 3 (t 6) (i 1) 3,m 6 15]))))).1
def zqf:PC:=(⟨_,by delta A S;exact rfl⟩:Zz.Q (S [A 2 (.const (.string ⟨#[]⟩))] .ret)).1
def zE0:PC:=(⟨_,by delta A S d i;exact rfl⟩:Zz.Q (S [A 2 (.const (.string ⟨#[]⟩))] (.seq (S [d 5 (.load 287 (.global 10)),d 6 (.move (i 0))]
 (.block 0 (.loop zig))) zqf))).1
theorem zwc:Zz.H 16 1 219 zE0 [.tmp 2]:=fun hn h =>
 zb zi Tryz.func219 (by kernel_rfl) (by kernel_rfl) (by kernel_rfl) (by omega) h
def zsU:PC:=(⟨_,by delta A C S a b d i m t;exact rfl⟩:Zz.Q (S [A 4 (i 0)] (.seq (S [m 5 0] (.block 0 (S [b 7 .eql 3 (t 5) (i 3) 3,a 6 7] (C
 6 (S [m 8 1,d 9 (.convert 3 288 (t 8)),d 10 (.convert 288 3 (t 9)),a 4 10] .ret) (S [b 12 .eql 3 (t 5) (i 1) 3,a 11 12] (C 11 (S [m 13 1,d 14 (.convert 3 21 (t
 13)),d 15 (.convert 21 3 (t 14)),a 4 15] .ret) (S [b 17 .eql 3 (t 5) (i 2) 3,a 16 17] (C 16 (S [m 18 1,a 4 18] .ret) .skip)))))))) (S [A 4 (i 0)] .ret)))).1
theorem zwd:Zz.H 19 2 220 zsU [.tmp 4]:=fun hn h =>
 zb zi Tryz.func220 (by kernel_rfl) (by kernel_rfl) (by kernel_rfl) (by omega) h
def zoO:PC:=(⟨_,by delta A S a b d i m t w;exact rfl⟩:Zz.Q (S [A 4 (.const (.bool false))] (S [m 5 0,b 6 .eql 3 (t 5) (i 1) 3,m 7 6,w 8
 (.move (t 1)) 7 true,w 9 (.binOp .eql 3 (t 8) (i 1) 3) 7 true,w 10 (.move (t 9)) 7 true,w 11 (.move (t 1)) 10 false,w 12 (.binOp .eql 3 (t 11) (i 4) 3) 10
 false,w 13 (.pick (t 10) (.const (.bool true)) (t 12)) 7 true,d 14 (.pick (t 7) (t 13) (.const (.bool false))),m 15 14,w 16 (.move (t 0)) 15 false,w 17 (.binOp
 .eql 3 (t 16) (i 2) 3) 15 false,w 18 (.move (t 17)) 15 false,w 19 (.move (t 1)) 18 true,w 20 (.binOp .eql 3 (t 19) (i 8) 3) 18 true,w 21 (.pick (t 18) (t 20)
 (.const (.bool false))) 15 false,d 22 (.pick (t 15) (.const (.bool true)) (t 21)),a 4 22] .ret))).1
theorem zwe:Zz.H 23 2 228 zoO [.tmp 4]:=fun hn h =>
 zb zi Tryz.func228 (by kernel_rfl) (by kernel_rfl) (by kernel_rfl) (by omega) h
def zoP:PC:=(⟨_,by delta A C S a b d f i l m s t w x;exact rfl⟩:Zz.Q (S [d 2 (.box 28 (t 0)),d 4 (.alloc 265),A 5 (.const (.bool false))]
 (.seq (.block 0 (S [m 8 1,b 9 .eql 3 (t 8) (i 0) 3,a 7 9] (C 7 (S [d 10 (.build 265 #[(0,.const (.slice none 0 0)),(1,i 2)]),s 265 4 10,A 5 (.const (.bool
 true))] .ret) (S [m 12 1,b 13 .eql 3 (t 12) (i 1) 3,a 11 13] (C 11 (S [d 14 (.buildSlice 44 1 #[(0,i 2)]),d 15 (.build 265 #[(0,t 14),(1,i 0)]),s 265 4 15,A 5
 (.const (.bool true))] .ret) (S [m 17 1,b 18 .eql 3 (t 17) (i 2) 3,a 16 18] (C 16 (S [d 19 (.buildSlice 44 1 #[(0,i 1)]),d 20 (.build 265 #[(0,t 19),(1,i
 0)]),s 265 4 20,A 5 (.const (.bool true))] .ret) (S [m 22 1,b 23 .lss 3 (t 22) (i 0) 3,m 24 23,w 25 (.move (t 1)) 24 false,w 26 (.binOp .sub 3 (t 25) (i 3) 3)
 24 false,w 27 (.fieldAddr 28 (t 2) 0) 24 false,w 28 (.load 26 (t 27)) 24 false,w 29 (.call ⟨.builtin .len,#[t 28],#[26]⟩) 24 false,w 30 (.binOp .geq 3 (t 26)
 (t 29) 3) 24 false,d 31 (.pick (t 24) (.const (.bool true)) (t 30)),a 21 31] (C 21 (S [d 32 (.build 265 #[]),s 265 4 32,A 5 (.const (.bool false))] .ret)
 .skip))))))))) (S [f 33 28 2 0,l 34 26 33,m 35 1,b 36 .sub 3 (t 35) (i 3) 3,x 37 26 34 36,l 38 57 37,d 6 (.alloc 57),s 57 6 38] (S [f 39 57 6 1,l 40 44 39,f 41
 57 6 3,l 42 3 41,d 43 (.build 265 #[(0,t 40),(1,t 42)]),s 265 4 43,A 5 (.const (.bool true))] .ret))))).1
theorem zwf:Zz.H 44 2 229 zoP [.cell 4 265, .tmp 5]:=fun hn h =>
 zb zi Tryz.func229 (by kernel_rfl) (by kernel_rfl) (by kernel_rfl) (by omega) h
def zE1:PC:=(⟨_,by delta A S a d t;exact rfl⟩:Zz.Q (S [d 1 (.box 44 (t 0)),A 2 (.const .nilFunc)] (S [d 3 (.makeFunc (.func 250) #[] #[t
 1]),a 2 3] .ret))).1
theorem zwg:Zz.H 4 1 230 zE1 [.tmp 2]:=fun hn h =>
 zb zi Tryz.func230 (by kernel_rfl) (by kernel_rfl) (by kernel_rfl) (by omega) h
def zoQ:PC:=(⟨_,by delta C L S a b c d f i l m n s t w;exact rfl⟩:Zz.Q (S [m 3 0,n 4 3,f 5 192 4 1,l 6 44 5,L 7 6 44,a 2 7] (.seq (S [m 8
 2,b 9 .eql 3 (t 8) (i 0) 3,m 10 9,w 11 (.move (t 0)) 10 true,w 12 (.nilCheck (t 11)) 10 true,w 13 (.fieldAddr 192 (t 12) 2) 10 true,w 14 (.load 4 (t 13)) 10
 true,d 15 (.pick (t 10) (t 14) (.const (.bool false)))] (C 15 .ret .skip)) (S [m 16 2,b 17 .gtr 3 (t 16) (i 0) 3,c 18 53 #[t 17,i 14] #[4,33]] (.ops [m 19 0,m
 20 0,n 21 20,f 22 192 21 1,l 23 44 22,m 24 2,b 25 .sub 3 (t 24) (i 1) 3,m 26 2,b 27 .sub 3 (t 26) (i 1) 3,d 28 (.slice 44 (t 23) none (some (t 25)) (some (t
 27))),n 29 19,f 30 192 29 1,s 44 30 28]))))).1
theorem zwh:Zz.H 31 1 231 zoQ []:=fun hn h =>
 zb zi Tryz.func231 (by kernel_rfl) (by kernel_rfl) (by kernel_rfl) (by omega) h
def zE2:PC:=(⟨_,by delta A S a b c i m t;exact rfl⟩:Zz.Q (S [A 4 (.const (.bool false))] (S [m 5 0,m 6 1,c 7 157 #[t 5,t 6] #[22,9],b 8 .geq
 3 (t 7) (i 0) 3,a 4 8] .ret))).1
theorem zwi:Zz.H 9 2 239 zE2 [.tmp 4]:=fun hn h =>
 zb zi Tryz.func239 (by kernel_rfl) (by kernel_rfl) (by kernel_rfl) (by omega) h
def zfd:PC:=(⟨_,by delta C S a b d i l m t x;exact rfl⟩:Zz.Q (.seq (S [m 7 3,b 8 .geq 3 (t 7) (i 0) 3] (C 8 .skip (.exit 0))) (.seq
 (.block 1 (S [m 11 0,m 12 3,l 13 44 1,m 14 3,x 15 44 13 14,l 16 3 15,d 17 (.call ⟨.value (t 11),#[t 12,t 16],#[3,3]⟩),d 18 (.unOp .not 4 (t 17))] (C 18 .ret
 .skip))) (.ops [m 9 3,b 10 .sub 3 (t 9) (i 1) 3,a 3 10])))).1
def zE3:PC:=(⟨_,by delta L S a b i l t;exact rfl⟩:Zz.Q (S [l 4 44 1,L 5 4 44,b 6 .sub 3 (t 5) (i 1) 3,a 3 6] (.block 0 (.loop zfd))
 )).1
theorem zwj:Zz.H 19 2 250 zE3 []:=fun hn h =>
 zb zi Tryz.func250 (by kernel_rfl) (by kernel_rfl) (by kernel_rfl) (by omega) h
@[simp] theorem zM8:zcl yb9 32=some 1:=by kernel_rfl
@[simp] theorem zLg:zbB yb9 32=false:=by kernel_rfl
@[simp] theorem zIv:za yb9 13=true:=by kernel_rfl
@[simp] theorem zIw:za yb9 14=true:=by kernel_rfl
@[simp] theorem zIx:zP yb9 28=some (.agg [.nilsl, (.int .i64 0), (.int .i64 0)]):=by kernel_rfl
@[simp] theorem zM9:zbA yb9 28=some 3:=by kernel_rfl
@[simp] theorem zLh:zaU yb9 28=true:=by kernel_rfl
@[simp] theorem zIy:zcK yb9 28 0=some ⟨0, 1, false⟩:=by kernel_rfl
@[simp] theorem zNa:zbA yb9 26=some 1:=by kernel_rfl
@[simp] theorem zLi:zaU yb9 26=false:=by kernel_rfl
@[simp] theorem zNb:zcl yb9 26=some 5:=by kernel_rfl
@[simp] theorem zIz:zcK yb9 28 2=some ⟨2, 1, false⟩:=by kernel_rfl
@[simp] theorem zN7:zbA yb9 3=some 1:=by kernel_rfl
@[simp] theorem zNc:zaU yb9 3=false:=by kernel_rfl
@[simp] theorem zIA:zcK yb9 28 1=some ⟨1, 1, false⟩:=by kernel_rfl
@[simp] theorem zIB:za yb9 16=true:=by kernel_rfl
@[simp] theorem zIC:za yb9 15=true:=by kernel_rfl
@[simp] theorem zID:za yb9 17=true:=by kernel_rfl
@[simp] theorem zIE:za yb9 18=true:=by kernel_rfl
@[simp] theorem zIF:za yb9 20=true:=by kernel_rfl
@[simp] theorem zIG:za yb9 19=true:=by kernel_rfl
@[simp] theorem zIH:za yb9 34=true:=by kernel_rfl
@[simp] theorem zNd:zaV yb9 32=some (.int .u8 0):=by kernel_rfl
@[simp] theorem zII:za yb9 35=true:=by kernel_rfl
@[simp] theorem zIJ:za yb9 36=true:=by kernel_rfl
@[simp] theorem zIK:za yb9 22=true:=by kernel_rfl
@[simp] theorem zN8:zbA yb9 5=some 1:=by kernel_rfl
@[simp] theorem zNe:zaU yb9 5=false:=by kernel_rfl
@[simp] theorem zIL:zP yb9 33=some (.int .i64 0):=by kernel_rfl
@[simp] theorem zNf:zbA yb9 33=some 1:=by kernel_rfl
@[simp] theorem zLj:zaU yb9 33=false:=by kernel_rfl
@[simp] theorem zIM:za yb9 38=true:=by kernel_rfl
@[simp] theorem zCU:zaR yb9 61=true:=by kernel_rfl
@[simp] theorem zE4:zgU yb9 61=true:=by kernel_rfl
@[simp] theorem zIN:zP yb9 61=some (.agg [.nilsl, .nilsl, (.int .i64 0)]):=by kernel_rfl
@[simp] theorem zIO:zcK yb9 61 0=some ⟨0, 1, false⟩:=by kernel_rfl
@[simp] theorem zIP:za yb9 39=true:=by kernel_rfl
@[simp] theorem zNg:zbA yb9 32=some 1:=by kernel_rfl
@[simp] theorem zLk:zaU yb9 32=false:=by kernel_rfl
@[simp] theorem zIQ:za yb9 41=true:=by kernel_rfl
@[simp] theorem zIR:za yb9 42=true:=by kernel_rfl
@[simp] theorem zIS:za yb9 43=true:=by kernel_rfl
@[simp] theorem zIT:za yb9 40=true:=by kernel_rfl
@[simp] theorem zIU:za yb9 44=true:=by kernel_rfl
@[simp] theorem zNh:zcl yb9 44=some 1:=by kernel_rfl
@[simp] theorem zNi:zaV yb9 44=some (.int .i64 0):=by kernel_rfl
@[simp] theorem zNj:zcl yb9 64=some 1:=by kernel_rfl
@[simp] theorem zNk:zaV yb9 64=some .nilsl:=by kernel_rfl
@[simp] theorem zNl:zcl yb9 22=some 1:=by kernel_rfl
@[simp] theorem zNm:zaV yb9 22=some (.str []):=by kernel_rfl
@[simp] theorem zN9:zbA yb9 9=some 1:=by kernel_rfl
@[simp] theorem zNn:zaU yb9 9=false:=by kernel_rfl
@[simp] theorem zLl:zpG yb9 32=true:=by kernel_rfl
@[simp] theorem zIV:za yb9 46=true:=by kernel_rfl
@[simp] theorem zNo:zbB yb9 9=true:=by kernel_rfl
@[simp] theorem zNp:zed yb9 5=some .u8:=by kernel_rfl
@[simp] theorem zIW:za yb9 45=true:=by kernel_rfl
@[simp] theorem zNq:zbE yb9 64=some 24:=by kernel_rfl
@[simp] theorem zNr:zbA yb9 57=some 5:=by kernel_rfl
@[simp] theorem zLm:zaU yb9 57=true:=by kernel_rfl
@[simp] theorem zIX:zP yb9 57=some (.agg [(.str []), .nilsl, .nilsl, (.int .i64 0), .nilsl]):=by kernel_rfl
@[simp] theorem zIY:zcK yb9 57 1=some ⟨1, 1, false⟩:=by kernel_rfl
@[simp] theorem zNs:zbA yb9 44=some 1:=by kernel_rfl
@[simp] theorem zLn:zaU yb9 44=false:=by kernel_rfl
@[simp] theorem zIZ:zcK yb9 57 3=some ⟨3, 1, false⟩:=by kernel_rfl
@[simp] theorem zI0:zcK yb9 57 2=some ⟨2, 1, false⟩:=by kernel_rfl
@[simp] theorem zI1:zcK yb9 57 4=some ⟨4, 1, false⟩:=by kernel_rfl
@[simp] theorem zNt:zbA yb9 55=some 1:=by kernel_rfl
@[simp] theorem zLo:zaU yb9 55=false:=by kernel_rfl
@[simp] theorem zNu:zcl yb9 55=some 1:=by kernel_rfl
@[simp] theorem zI2:za yb9 47=true:=by kernel_rfl
@[simp] theorem zI3:za yb9 48=true:=by kernel_rfl
@[simp] theorem zI4:zcK yb9 57 0=some ⟨0, 1, false⟩:=by kernel_rfl
@[simp] theorem zNv:zbE yb9 32=some 1:=by kernel_rfl
@[simp] theorem zI5:za yb9 50=true:=by kernel_rfl
@[simp] theorem zI6:za yb9 49=true:=by kernel_rfl
@[simp] theorem zI7:za yb9 51=true:=by kernel_rfl
@[simp] theorem zI8:za yb9 53=true:=by kernel_rfl
@[simp] theorem zCV:zaR yb9 74=true:=by kernel_rfl
@[simp] theorem zE5:zgU yb9 74=true:=by kernel_rfl
@[simp] theorem zI9:zP yb9 74=some (.agg [.nilsl, (.int .i64 0), (.int .i64 0), (.str []), .nilsl, .nilsl, (.int .i64 0), .nilsl, .nilsl]):=by kernel_rfl
@[simp] theorem zJa:zcK yb9 74 0=some ⟨0, 3, true⟩:=by kernel_rfl
@[simp] theorem zJb:zcK yb9 74 1=some ⟨3, 5, true⟩:=by kernel_rfl
@[simp] theorem zJc:za yb9 54=true:=by kernel_rfl
@[simp] theorem zCW:zaR yb9 77=true:=by kernel_rfl
@[simp] theorem zE6:zgU yb9 77=true:=by kernel_rfl
@[simp] theorem zJd:zP yb9 77=some (.agg [(.str []), .nilsl]):=by kernel_rfl
@[simp] theorem zJe:zcK yb9 77 0=some ⟨0, 1, false⟩:=by kernel_rfl
@[simp] theorem zJf:za yb9 57=true:=by kernel_rfl
@[simp] theorem zJg:za yb9 56=true:=by kernel_rfl
@[simp] theorem zJh:za yb9 58=true:=by kernel_rfl
@[simp] theorem zJi:za yb9 59=true:=by kernel_rfl
@[simp] theorem zJj:za yb9 60=true:=by kernel_rfl
@[simp] theorem zNw:zaV yb9 26=some (.agg [(.str []), .nilsl, .nilsl, (.int .i64 0), .nilsl]):=by kernel_rfl
@[simp] theorem zNx:zbE yb9 26=some 96:=by kernel_rfl
@[simp] theorem zJk:za yb9 62=true:=by kernel_rfl
@[simp] theorem zJl:za yb9 61=true:=by kernel_rfl
@[simp] theorem zCX:zaR yb9 88=true:=by kernel_rfl
@[simp] theorem zE7:zgU yb9 88=true:=by kernel_rfl
@[simp] theorem zJm:zP yb9 88=some (.agg [.nilp, .nilsl]):=by kernel_rfl
@[simp] theorem zJn:za yb9 64=true:=by kernel_rfl
@[simp] theorem zJo:za yb9 63=true:=by kernel_rfl
@[simp] theorem zJp:za yb9 65=true:=by kernel_rfl
@[simp] theorem zJq:za yb9 66=true:=by kernel_rfl
@[simp] theorem zJr:zcK yb9 88 0=some ⟨0, 2, true⟩:=by kernel_rfl
@[simp] theorem zJs:za yb9 67=true:=by kernel_rfl
@[simp] theorem zJt:za yb9 74=true:=by kernel_rfl
@[simp] theorem zCY:zaR yb9 53=true:=by kernel_rfl
@[simp] theorem zE8:zgU yb9 53=true:=by kernel_rfl
@[simp] theorem zJu:zP yb9 53=some (.agg [(.int .i64 0), (.int .i64 0), (.int .i64 0), (.int .i64 0), (.int .i64 0), (.str [])]):=by kernel_rfl
@[simp] theorem zJv:zcK yb9 53 0=some ⟨0, 1, false⟩:=by kernel_rfl
@[simp] theorem zJw:zcK yb9 53 1=some ⟨1, 1, false⟩:=by kernel_rfl
@[simp] theorem zJx:zcK yb9 53 2=some ⟨2, 1, false⟩:=by kernel_rfl
@[simp] theorem zNy:zcl yb9 54=some 6:=by kernel_rfl
@[simp] theorem zNz:zaV yb9 54=some (.agg [(.int .i64 0), (.int .i64 0), (.int .i64 0), (.int .i64 0), (.int .i64 0), (.str [])]):=by kernel_rfl
@[simp] theorem zNA:zaV yb9 55=some .nilsl:=by kernel_rfl
@[simp] theorem zCZ:zaR yb9 57=true:=by kernel_rfl
@[simp] theorem zE9:zgU yb9 57=true:=by kernel_rfl
@[simp] theorem zC0:zaR yb9 28=true:=by kernel_rfl
@[simp] theorem zFa:zgU yb9 28=true:=by kernel_rfl
@[simp] theorem zJy:za yb9 87=true:=by kernel_rfl
@[simp] theorem zJz:za yb9 88=true:=by kernel_rfl
@[simp] theorem zJA:za yb9 89=true:=by kernel_rfl
@[simp] theorem zJB:za yb9 90=true:=by kernel_rfl
@[simp] theorem zJC:za yb9 91=true:=by kernel_rfl
@[simp] theorem zNB:zaB yb9 33=some false:=by kernel_rfl
@[simp] theorem zFb:zP yb9 122=some .nilfn:=by kernel_rfl
@[simp] theorem zLp:zbA yb9 122=some 1:=by kernel_rfl
@[simp] theorem zJD:zaU yb9 122=false:=by kernel_rfl
@[simp] theorem zJE:za yb9 93=true:=by kernel_rfl
@[simp] theorem zFc:zP yb9 126=some .nilfn:=by kernel_rfl
@[simp] theorem zLq:zbA yb9 126=some 1:=by kernel_rfl
@[simp] theorem zJF:zaU yb9 126=false:=by kernel_rfl
@[simp] theorem zFd:za yb9 101=true:=by kernel_rfl
@[simp] theorem zFe:za yb9 102=true:=by kernel_rfl
@[simp] theorem zFf:za yb9 103=true:=by kernel_rfl
@[simp] theorem zNC:zbA yb9 54=some 1:=by kernel_rfl
@[simp] theorem zLr:zaU yb9 54=false:=by kernel_rfl
@[simp] theorem zND:zbA yb9 53=some 6:=by kernel_rfl
@[simp] theorem zLs:zaU yb9 53=true:=by kernel_rfl
@[simp] theorem zJG:zcK yb9 53 3=some ⟨3, 1, false⟩:=by kernel_rfl
@[simp] theorem zJH:zcK yb9 53 4=some ⟨4, 1, false⟩:=by kernel_rfl
@[simp] theorem zFg:za yb9 104=true:=by kernel_rfl
@[simp] theorem zJI:zcK yb9 71 0=some ⟨0, 1, false⟩:=by kernel_rfl
@[simp] theorem zC1:zaR yb9 71=true:=by kernel_rfl
@[simp] theorem zFh:zgU yb9 71=true:=by kernel_rfl
@[simp] theorem zJJ:zP yb9 71=some (.agg [(.int .i64 0)]):=by kernel_rfl
@[simp] theorem zNE:zaB yb9 71=some false:=by kernel_rfl
@[simp] theorem zLt:zcl yb9 186=some 1:=by kernel_rfl
@[simp] theorem zLu:zaV yb9 186=some .nilsl:=by kernel_rfl
@[simp] theorem zFi:za yb9 105=true:=by kernel_rfl
@[simp] theorem zJK:zcK yb9 74 2=some ⟨8, 1, false⟩:=by kernel_rfl
@[simp] theorem zJL:za yb9 95=true:=by kernel_rfl
@[simp] theorem zFj:za yb9 108=true:=by kernel_rfl
@[simp] theorem zFk:za yb9 109=true:=by kernel_rfl
@[simp] theorem zFl:za yb9 110=true:=by kernel_rfl
@[simp] theorem zLv:zrX yb9 135=some (256, 1, false):=by kernel_rfl
@[simp] theorem zNF:zed yb9 3=some .i64:=by kernel_rfl
@[simp] theorem zFm:za yb9 113=true:=by kernel_rfl
@[simp] theorem zFn:za yb9 114=true:=by kernel_rfl
@[simp] theorem zFo:za yb9 115=true:=by kernel_rfl
@[simp] theorem zFp:za yb9 116=true:=by kernel_rfl
@[simp] theorem zFq:za yb9 117=true:=by kernel_rfl
@[simp] theorem zFr:za yb9 118=true:=by kernel_rfl
@[simp] theorem zJM:zcK yb9 77 1=some ⟨1, 1, false⟩:=by kernel_rfl
@[simp] theorem zFs:za yb9 119=true:=by kernel_rfl
@[simp] theorem zFt:za yb9 122=true:=by kernel_rfl
theorem zsV:zP yb9 151=some (.agg [(.bool false), (.bool false), (.bool false), (.bool false), (.bool false), (.bool false), (.bool false), (.bool false), (.bool false), (.bool false), (.bool false), (.bool false), (.bool false), (.bool false), (.bool false), (.bool false), (.bool false), (.bool false), (.bool false), (.bool false), (.bool false), (.bool false), (.bool false), (.bool false), (.bool false), (.bool false), (.bool false), (.bool false), (.bool false), (.bool false), (.bool false), (.bool false), (.bool false), (.bool false), (.bool false), (.bool false), (.bool false), (.bool false), (.bool false), (.bool false), (.bool false), (.bool false), (.bool false), (.bool false), (.bool false), (.bool false), (.bool false), (.bool false), (.bool false), (.bool false), (.bool false), (.bool false), (.bool false), (.bool false), (.bool false), (.bool false), (.bool false), (.bool false), (.bool false), (.bool false), (.bool false), (.bool false), (.bool false), (.bool false), (.bool false), (.bool false), (.bool false), (.bool false), (.bool false), (.bool false), (.bool false), (.bool false), (.bool false), (.bool false), (.bool false), (.bool false), (.bool false), (.bool false), (.bool false), (.bool false), (.bool false), (.bool false), (.bool false), (.bool false), (.bool false), (.bool false), (.bool false), (.bool false), (.bool false), (.bool false), (.bool false), (.bool false), (.bool false), (.bool false), (.bool false), (.bool false), (.bool false), (.bool false), (.bool false), (.bool false), (.bool false), (.bool false), (.bool false), (.bool false), (.bool false), (.bool false), (.bool false), (.bool false), (.bool false), (.bool false), (.bool false), (.bool false), (.bool false), (.bool false), (.bool false), (.bool false), (.bool false), (.bool false), (.bool false), (.bool false), (.bool false), (.bool false), (.bool false), (.bool false), (.bool false), (.bool false), (.bool false), (.bool false), (.bool false), (.bool false), (.bool false), (.bool false), (.bool false), (.bool false), (.bool false), (.bool false), (.bool false), (.bool false), (.bool false), (.bool false), (.bool false), (.bool false), (.bool false), (.bool false), (.bool false), (.bool false), (.bool false), (.bool false), (.bool false), (.bool false), (.bool false), (.bool false), (.bool false), (.bool false), (.bool false), (.bool false), (.bool false), (.bool false), (.bool false), (.bool false), (.bool false), (.bool false), (.bool false), (.bool false), (.bool false), (.bool false), (.bool false), (.bool false), (.bool false), (.bool false), (.bool false), (.bool false), (.bool false), (.bool false), (.bool false), (.bool false), (.bool false), (.bool false), (.bool false), (.bool false), (.bool false), (.bool false), (.bool false), (.bool false), (.bool false), (.bool false), (.bool false), (.bool false), (.bool false), (.bool false), (.bool false), (.bool false), (.bool false), (.bool false), (.bool false), (.bool false), (.bool false), (.bool false), (.bool false), (.bool false), (.bool false), (.bool false), (.bool false), (.bool false), (.bool false), (.bool false), (.bool false), (.bool false), (.bool false), (.bool false), (.bool false), (.bool false), (.bool false), (.bool false), (.bool false), (.bool false), (.bool false), (.bool false), (.bool false), (.bool false), (.bool false), (.bool false), (.bool false), (.bool false), (.bool false), (.bool false), (.bool false), (.bool false), (.bool false), (.bool false), (.bool false), (.bool false), (.bool false), (.bool false), (.bool false), (.bool false), (.bool false), (.bool false), (.bool false), (.bool false), (.bool false), (.bool false), (.bool false), (.bool false), (.bool false), (.bool false), (.bool false), (.bool false), (.bool false), (.bool false), (.bool false), (.bool false), (.bool false), (.bool false), (.bool false), (.bool false)]):=by kernel_rfl
@[simp] theorem zLw:zbA yb9 151=some 256:=by kernel_rfl
@[simp] theorem zJN:zaU yb9 151=true:=by kernel_rfl
@[simp] theorem zFu:za yb9 124=true:=by kernel_rfl
@[simp] theorem zFv:za yb9 123=true:=by kernel_rfl
@[simp] theorem zFw:za yb9 127=true:=by kernel_rfl
@[simp] theorem zFx:za yb9 128=true:=by kernel_rfl
@[simp] theorem zFy:za yb9 129=true:=by kernel_rfl
@[simp] theorem zFz:za yb9 131=true:=by kernel_rfl
@[simp] theorem zFA:za yb9 132=true:=by kernel_rfl
@[simp] theorem zFB:za yb9 133=true:=by kernel_rfl
@[simp] theorem zFC:za yb9 134=true:=by kernel_rfl
@[simp] theorem zJO:zcK yb9 86 1=some ⟨1, 1, false⟩:=by kernel_rfl
@[simp] theorem zFD:za yb9 140=true:=by kernel_rfl
@[simp] theorem zFE:za yb9 150=true:=by kernel_rfl
@[simp] theorem zJP:zed yb9 174=some .u64:=by kernel_rfl
@[simp] theorem zJQ:zcK yb9 61 2=some ⟨2, 1, false⟩:=by kernel_rfl
@[simp] theorem zFF:za yb9 151=true:=by kernel_rfl
@[simp] theorem zNG:zbE yb9 44=some 8:=by kernel_rfl
@[simp] theorem zJR:zcK yb9 61 1=some ⟨1, 1, false⟩:=by kernel_rfl
@[simp] theorem zFG:za yb9 152=true:=by kernel_rfl
@[simp] theorem zFH:za yb9 153=true:=by kernel_rfl
@[simp] theorem zFI:za yb9 154=true:=by kernel_rfl
@[simp] theorem zJS:za yb9 98=true:=by kernel_rfl
@[simp] theorem zFJ:za yb9 155=true:=by kernel_rfl
@[simp] theorem zFK:za yb9 100=true:=by kernel_rfl
@[simp] theorem zFL:za yb9 156=true:=by kernel_rfl
@[simp] theorem zLx:zrX yb9 182=some (2, 1, false):=by kernel_rfl
@[simp] theorem zJT:zcK yb9 53 5=some ⟨5, 1, false⟩:=by kernel_rfl
@[simp] theorem zFM:za yb9 157=true:=by kernel_rfl
@[simp] theorem zLy:zbA yb9 184=some 1:=by kernel_rfl
@[simp] theorem zJU:zaU yb9 184=false:=by kernel_rfl
@[simp] theorem zLz:zcl yb9 185=some 1:=by kernel_rfl
@[simp] theorem zLA:zaV yb9 185=some .undef:=by kernel_rfl
@[simp] theorem zFN:za yb9 158=true:=by kernel_rfl
@[simp] theorem zFO:za yb9 107=true:=by kernel_rfl
@[simp] theorem zLB:zcl yb9 187=some 1:=by kernel_rfl
@[simp] theorem zLC:zaV yb9 187=some (.bool false):=by kernel_rfl
@[simp] theorem zLD:zbE yb9 187=some 1:=by kernel_rfl
@[simp] theorem zFP:za yb9 159=true:=by kernel_rfl
@[simp] theorem zOa:zbA yb9 4=some 1:=by kernel_rfl
@[simp] theorem zNH:zaU yb9 4=false:=by kernel_rfl
@[simp] theorem zFQ:za yb9 160=true:=by kernel_rfl
@[simp] theorem zBj:zaR yb9 192=true:=by kernel_rfl
@[simp] theorem zC2:zgU yb9 192=true:=by kernel_rfl
@[simp] theorem zFR:zP yb9 192=some (.agg [.nilp, .nilsl, (.bool false), (.int .i64 0)]):=by kernel_rfl
@[simp] theorem zFS:zcK yb9 192 0=some ⟨0, 1, false⟩:=by kernel_rfl
@[simp] theorem zFT:zcK yb9 192 3=some ⟨3, 1, false⟩:=by kernel_rfl
@[simp] theorem zFU:za yb9 161=true:=by kernel_rfl
@[simp] theorem zFV:za yb9 162=true:=by kernel_rfl
@[simp] theorem zFW:zcK yb9 192 1=some ⟨1, 1, false⟩:=by kernel_rfl
@[simp] theorem zFX:za yb9 164=true:=by kernel_rfl
@[simp] theorem zFY:za yb9 167=true:=by kernel_rfl
@[simp] theorem zFZ:za yb9 168=true:=by kernel_rfl
@[simp] theorem zF0:za yb9 169=true:=by kernel_rfl
@[simp] theorem zLE:zed yb9 21=some .i32:=by kernel_rfl
@[simp] theorem zF1:za yb9 170=true:=by kernel_rfl
@[simp] theorem zNI:zbE yb9 55=some 24:=by kernel_rfl
@[simp] theorem zF2:za yb9 171=true:=by kernel_rfl
@[simp] theorem zNJ:zbE yb9 54=some 56:=by kernel_rfl
@[simp] theorem zLF:zrX yb9 151=some (256, 1, false):=by kernel_rfl
@[simp] theorem zF3:za yb9 172=true:=by kernel_rfl
@[simp] theorem zF4:za yb9 175=true:=by kernel_rfl
@[simp] theorem zF5:za yb9 177=true:=by kernel_rfl
@[simp] theorem zJV:za yb9 79=true:=by kernel_rfl
@[simp] theorem zF6:za yb9 180=true:=by kernel_rfl
@[simp] theorem zJW:zed yb9 116=some .u64:=by kernel_rfl
@[simp] theorem zF7:za yb9 188=true:=by kernel_rfl
@[simp] theorem zF8:za yb9 189=true:=by kernel_rfl
@[simp] theorem zF9:za yb9 190=true:=by kernel_rfl
@[simp] theorem zGa:za yb9 191=true:=by kernel_rfl
@[simp] theorem zGb:za yb9 192=true:=by kernel_rfl
@[simp] theorem zNK:zbA yb9 72=some 1:=by kernel_rfl
@[simp] theorem zLG:zaU yb9 72=false:=by kernel_rfl
@[simp] theorem zGc:za yb9 193=true:=by kernel_rfl
@[simp] theorem zGd:za yb9 194=true:=by kernel_rfl
@[simp] theorem zGe:za yb9 195=true:=by kernel_rfl
@[simp] theorem zGf:za yb9 196=true:=by kernel_rfl
@[simp] theorem zGg:za yb9 199=true:=by kernel_rfl
@[simp] theorem zGh:za yb9 206=true:=by kernel_rfl
@[simp] theorem zGi:za yb9 207=true:=by kernel_rfl
@[simp] theorem zGj:za yb9 208=true:=by kernel_rfl
@[simp] theorem zGk:za yb9 216=true:=by kernel_rfl
@[simp] theorem zLH:zbA yb9 182=some 2:=by kernel_rfl
@[simp] theorem zJX:zaU yb9 182=true:=by kernel_rfl
@[simp] theorem zGl:za yb9 227=true:=by kernel_rfl
@[simp] theorem zGm:za yb9 219=true:=by kernel_rfl
@[simp] theorem zGn:za yb9 228=true:=by kernel_rfl
@[simp] theorem zGo:za yb9 220=true:=by kernel_rfl
@[simp] theorem zGp:za yb9 229=true:=by kernel_rfl
@[simp] theorem zGq:zP yb9 265=some (.agg [.nilsl, (.int .i64 0)]):=by kernel_rfl
@[simp] theorem zLI:zbA yb9 265=some 2:=by kernel_rfl
@[simp] theorem zJY:zaU yb9 265=true:=by kernel_rfl
@[simp] theorem zGr:za yb9 230=true:=by kernel_rfl
@[simp] theorem zLJ:zbA yb9 190=some 1:=by kernel_rfl
@[simp] theorem zJZ:zaU yb9 190=false:=by kernel_rfl
@[simp] theorem zGs:za yb9 231=true:=by kernel_rfl
@[simp] theorem zGt:zcK yb9 192 2=some ⟨2, 1, false⟩:=by kernel_rfl
@[simp] theorem zGu:za yb9 232=true:=by kernel_rfl
@[simp] theorem zGv:zcK yb9 265 0=some ⟨0, 1, false⟩:=by kernel_rfl
@[simp] theorem zGw:zcK yb9 265 1=some ⟨1, 1, false⟩:=by kernel_rfl
@[simp] theorem zGx:za yb9 239=true:=by kernel_rfl
@[simp] theorem zLK:zbA yb9 287=some 32:=by kernel_rfl
@[simp] theorem zJ0:zaU yb9 287=true:=by kernel_rfl
@[simp] theorem zLL:zrX yb9 287=some (16, 2, true):=by kernel_rfl
@[simp] theorem zGy:zP yb9 182=some (.agg [(.str []), (.str [])]):=by kernel_rfl
@[simp] theorem zJ1:zed yb9 288=some .i8:=by kernel_rfl
@[simp] theorem zBk:zaR yb9 265=true:=by kernel_rfl
@[simp] theorem zC3:zgU yb9 265=true:=by kernel_rfl
@[simp] theorem zGz:za yb9 250=true:=by kernel_rfl
end Go.Proofs.YtohfclafhegadaaGreatDoor
