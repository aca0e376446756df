/- The planned texts of the functions, and facts on the program's types; written by a program; no condition. -/
import Derived.Test.YtohfclafhegadaaGreatDoorChecked
import Derived.Test.YtohfclafhegadaaGreatDoorAbsB
import Derived.KernelRfl
set_option maxRecDepth 100000
open Go.Proofs.Tryz renaming prog→yb9
namespace Go.Proofs.YtohfclafhegadaaGreatDoor
open Go Go.Abs
namespace Zz
abbrev Q(q:PC):={ p:PC//p=q }
def t(x:Nat):Operand:=.tmp x
def i(k:Int):Operand:=.const (.int .i64 k)
def S(l:List PO)(r:PC):PC:=.seq (.ops l) r
def C(x:Nat)(a b:PC):PC:=.cond (.tmp x) a b
def m(d x:Nat):PO:=⟨some d, .move (.tmp x), none, []⟩
def l(d t x:Nat):PO:=⟨some d, .load t (.tmp x), none, []⟩
def f(d t x i:Nat):PO:=⟨some d, .fieldAddr t (.tmp x) i, none, []⟩
def n(d x:Nat):PO:=⟨some d, .nilCheck (.tmp x), none, []⟩
def a(d x:Nat):PO:=⟨some d, .assign (.tmp x), none, []⟩
def A(d:Nat)(v:Operand):PO:=⟨some d, .assign v, none, []⟩
def x(d t x y:Nat):PO:=⟨some d, .indexAddr t (.tmp x) (.tmp y), none, []⟩
def b(d:Nat)(o:BinOp)(t:Nat)(x y:Operand)(u:Nat):PO:=⟨some d, .binOp o t x y u, none, []⟩
def c(d f:Nat)(xs:Array Operand)(ts:Array TypeId):PO:=⟨some d, .call ⟨.value (.func f), xs, ts⟩, none, []⟩
def L(d x t:Nat):PO:=⟨some d, .call ⟨.builtin .len, #[(.tmp x)], #[t]⟩, none, []⟩
def d(n:Nat)(o:Op):PO:=⟨some n, o, none, []⟩
def s(t x y:Nat):PO:=⟨none, .store t (.tmp x) (.tmp y), none, []⟩
def e(o:Op):PO:=⟨none, o, none, []⟩
def w(n:Nat)(o:Op)(g:Nat)(v:Bool):PO:=⟨some n, o, some (g, v), []⟩
abbrev H(n k f:Nat)(p:PC)(l:List ResultVar):Prop:=∀{G:Env} {args:List AV} {σ:AS} {R:Out→AS→Prop}, args.length=k→avc yb9 G n p (ze9 yb9 l R) (zbq args) σ→ACalls yb9 G f args σ R
end Zz
open Zz
abbrev zzQ:=@ACalls yb9
variable {G : Env} {args : List AV} {σ : AS} {R : Out → AS → Prop}
theorem zk:yb9.follows .mixedOrders=true:=by kernel_rfl
def pc9:PC:=(⟨_,by delta A C S a b c d i l m s t w;exact rfl⟩:Zz.Q (S [d 3 (.box 28 (t 0)),A 6 (.const (.bool false))] (.seq (S [l 10 28 3,c
 11 30 #[t 10] #[28],m 12 11,w 13 (.move (t 1)) 12 false,w 14 (.call ⟨.builtin .len,#[t 13],#[44]⟩) 12 false,w 15 (.binOp .gtr 3 (t 14) (i 100) 3) 12 false,d 16
 (.pick (t 12) (.const (.bool true)) (t 15)),m 17 16,w 18 (.load 28 (t 3)) 17 false,w 19 (.call ⟨.value (.func 33),#[t 18],#[28]⟩) 17 false,d 20 (.pick (t 17)
 (.const (.bool true)) (t 19))] (C 20 (S [c 21 12 #[] #[],a 6 21] .ret) .skip)) (S [l 22 28 3,c 23 20 #[t 22] #[28],a 7 23] (S [m 25 7,c 26 19 #[t 25] #[9],m 24
 26,d 27 (.extract (t 24) 0),d 28 (.extract (t 24) 1),d 8 (.alloc 28),s 28 8 27,a 9 28] (S [m 29 2,c 30 26 #[t 29,i 2000] #[3,3],a 2 30] (S [m 31 9,b 32 .eql 33
 (t 31) (i 0) 33,m 33 32,w 34 (.load 28 (t 8)) 33 true,w 36 (.move (t 7)) 33 true,w 35 (.call ⟨.value (.func 20),#[t 34],#[28]⟩) 33 true,w 37 (.binOp .eql 9 (t
 35) (t 36) 9) 33 true,d 38 (.pick (t 33) (t 37) (.const (.bool false))),m 39 38,w 40 (.load 28 (t 8)) 39 true,w 41 (.call ⟨.value (.func 18),#[t 40],#[28]⟩) 39
 true,w 42 (.binOp .eql 33 (t 41) (i 0) 33) 39 true,d 43 (.pick (t 39) (t 42) (.const (.bool false))),m 44 43,w 45 (.load 28 (t 8)) 44 true,w 46 (.move (t 1))
 44 true,w 47 (.move (t 2)) 44 true,w 49 (.load 28 (t 3)) 44 true,w 50 (.move (t 1)) 44 true,w 51 (.move (t 2)) 44 true,⟨some 48,.call ⟨.value (.func 28),#[t
 45,t 46,t 47],#[28,44,3]⟩,some (44,true),[⟨some (44,true),28,t 3,49⟩]⟩,w 52 (.call ⟨.value (.func 28),#[t 49,t 50,t 51],#[28,44,3]⟩) 44 true,w 53 (.call
 ⟨.value (.func 27),#[t 48,t 52],#[48,48]⟩) 44 true,d 54 (.pick (t 44) (t 53) (.const (.bool false))),m 55 54,w 56 (.call ⟨.value (.func 12),#[],#[]⟩) 55 true,d
 57 (.pick (t 55) (t 56) (.const (.bool false))),a 6 57] .ret))))))).1
theorem zBK:Zz.H 58 3 9 pc9 [.tmp 6]:=fun hn h =>
 zb zk Tryz.func9 (by kernel_rfl) (by kernel_rfl) (by kernel_rfl) (by omega) h
def zJF:PC:=(⟨_,by delta A S a b m t;exact rfl⟩:Zz.Q (S [A 2 (.const (.string ⟨#[]⟩))] (S [m 3 0,b 4 .add 9 (.const (.string
 ⟨#[40,32,109,111,100,117,108,101,32,40,32,105,109,112,111,114,116,32,34,101,110,118,34,32,34,105,110,34,32,40,32,102,117,110,99,32,40,32,114,101,115,117,108,116,32,105,54,52,32,41,32,41,32,41,32,40,32,105,109,112,111,114,116,32,34,101,110,118,34,32,34,111,117,116,34,32,40,32,102,117,110,99,32,40,32,112,97,114,97,109,32,105,54,52,32,41,32,41,32,41,32,40,32,105,109,112,111,114,116,32,34,101,110,118,34,32,34,116,114,97,112,34,32,40,32,102,117,110,99,32,40,32,112,97,114,97,109,32,105,51,50,32,41,32,41,32,41,32,40,32,109,101,109,111,114,121,32,49,32,41,32,40,32,103,108,111,98,97,108,32,105,51,50,32,40,32,105,51,50,46,99,111,110,115,116,32,49,54,32,41,32,41,32,40,32,102,117,110,99,32,36,102,32,40,32,114,101,115,117,108,116,32,105,51,50,32,41,32]⟩))
 (t 3) 9,b 5 .add 9 (t 4) (.const (.string
 ⟨#[32,41,32,40,32,101,120,112,111,114,116,32,34,109,97,105,110,34,32,40,32,102,117,110,99,32,51,32,41,32,41,32,41,10]⟩)) 9,a 2 5] .ret))).1
theorem zwY:Zz.H 6 1 10 zJF [.tmp 2]:=fun hn h =>
 zb zk Tryz.func10 (by kernel_rfl) (by kernel_rfl) (by kernel_rfl) (by omega) h
def zJG:PC:=(⟨_,by delta S d i s t;exact rfl⟩:Zz.Q (S [d 0 (.alloc 28)] (S [d 1 (.build 53 #[(0,i 1),(1,i 1),(2,i 7)]),d 2 (.buildSlice 54 1
 #[(0,t 1)]),d 3 (.buildSlice 55 1 #[(0,t 2)]),d 4 (.build 57 #[(0,.const (.string ⟨#[102]⟩)),(3,i 1),(4,t 3)]),d 5 (.buildSlice 26 1 #[(0,t 4)]),d 6 (.build 28
 #[(1,i 16),(0,t 5)]),s 28 0 6] .ret))).1
theorem zwZ:Zz.H 7 0 11 zJG [.cell 0 28]:=fun hn h =>
 zb zk Tryz.func11 (by kernel_rfl) (by kernel_rfl) (by kernel_rfl) (by omega) h
def zJH:PC:=(⟨_,by delta A S a b c d i m s t w;exact rfl⟩:Zz.Q (S [A 0 (.const (.bool false))] (S [c 8 10 #[.const (.string
 ⟨#[105,51,50,46,99,111,110,115,116,32,55]⟩)] #[9],c 9 19 #[t 8] #[9],m 7 9,d 10 (.extract (t 7) 0),d 11 (.extract (t 7) 1),d 1 (.alloc 28),s 28 1 10,a 2 11] (S
 [c 13 10 #[.const (.string ⟨#[105,51,50,46,99,111,110,115,116,32,48,55]⟩)] #[9],c 14 19 #[t 13] #[9],m 12 14,d 15 (.extract (t 12) 0),d 16 (.extract (t 12)
 1),d 3 (.alloc 28),s 28 3 15,a 4 16] (S [c 18 10 #[.const (.string ⟨#[105,51,50,46,99,111,110,115,32,55]⟩)] #[9],c 19 19 #[t 18] #[9],m 17 19,d 20 (.extract (t
 17) 0),d 21 (.extract (t 17) 1),d 5 (.alloc 28),s 28 5 20,a 6 21] (S [c 22 11 #[] #[],c 23 20 #[t 22] #[28],c 24 10 #[.const (.string
 ⟨#[105,51,50,46,99,111,110,115,116,32,55]⟩)] #[9],b 25 .eql 9 (t 23) (t 24) 9,m 26 25,w 27 (.move (t 2)) 26 true,w 28 (.binOp .eql 33 (t 27) (i 0) 33) 26
 true,d 29 (.pick (t 26) (t 28) (.const (.bool false))),m 30 29,w 31 (.load 28 (t 1)) 30 true,⟨some 32,.call ⟨.value (.func 11),#[],#[]⟩,some (30,true),[⟨some
 (30,true),28,t 1,31⟩]⟩,w 33 (.call ⟨.value (.func 22),#[t 31,t 32],#[28,28]⟩) 30 true,d 34 (.pick (t 30) (t 33) (.const (.bool false))),m 35 34,w 36 (.move (t
 4)) 35 true,w 37 (.binOp .eql 33 (t 36) (i 11) 33) 35 true,d 38 (.pick (t 35) (t 37) (.const (.bool false))),m 39 38,w 40 (.move (t 6)) 39 true,w 41 (.binOp
 .eql 33 (t 40) (i 2) 33) 39 true,d 42 (.pick (t 39) (t 41) (.const (.bool false))),a 0 42] .ret)))))).1
theorem zw0:Zz.H 43 0 12 zJH [.tmp 0]:=fun hn h =>
 zb zk Tryz.func12 (by kernel_rfl) (by kernel_rfl) (by kernel_rfl) (by omega) h
def zvO:PC:=(⟨_,by delta d t;exact rfl⟩:Zz.Q (.ops [d 1 (.box 28 (t 0)),d 2 (.alloc 33)])).1
def zcd:PC:=(⟨_,by delta C S b c d i l m s t x;exact rfl⟩:Zz.Q (S [b 19 .lss 3 (t 18) (t 17) 3] (.seq (C 19 .skip (.exit 0)) (.seq
 (.block 1 (S [x 20 26 16 18,l 21 57 20,d 4 (.alloc 57),s 57 4 21] (.ops [l 22 28 1,l 23 57 4,d 24 (.build 74 #[(0,t 22),(1,t 23)]),d 25 (.box 74 (t 24)),c 26
 54 #[t 25] #[72]]))) (.ops [b 27 .add 3 (t 18) (i 1) 3,m 18 27]))))).1
def zcJ:PC:=(⟨_,by delta S b c d e f i l m t w;exact rfl⟩:Zz.Q (S [f 28 28 1 2,l 29 3 28,b 30 .geq 3 (t 29) (i 0) 3,m 31 30,w 32
 (.fieldAddr 28 (t 1) 2) 31 true,w 33 (.load 3 (t 32)) 31 true,w 34 (.fieldAddr 28 (t 1) 0) 31 true,w 35 (.load 26 (t 34)) 31 true,w 36 (.call ⟨.builtin
 .len,#[t 35],#[26]⟩) 31 true,w 37 (.binOp .lss 3 (t 33) (t 36) 3) 31 true,d 38 (.pick (t 31) (t 37) (.const (.bool false))),m 39 38,w 40 (.fieldAddr 28 (t 1)
 0) 39 true,w 41 (.load 26 (t 40)) 39 true,w 42 (.fieldAddr 28 (t 1) 2) 39 true,w 43 (.load 3 (t 42)) 39 true,w 44 (.indexAddr 26 (t 41) (t 43)) 39 true,w 45
 (.fieldAddr 57 (t 44) 3) 39 true,w 46 (.load 3 (t 45)) 39 true,w 47 (.binOp .eql 3 (t 46) (i 1) 3) 39 true,d 48 (.pick (t 39) (t 47) (.const (.bool false))),m
 49 48,w 50 (.fieldAddr 28 (t 1) 0) 49 true,w 51 (.load 26 (t 50)) 49 true,w 52 (.fieldAddr 28 (t 1) 2) 49 true,w 53 (.load 3 (t 52)) 49 true,w 54 (.indexAddr
 26 (t 51) (t 53)) 49 true,w 55 (.fieldAddr 57 (t 54) 1) 49 true,w 56 (.load 44 (t 55)) 49 true,w 57 (.call ⟨.builtin .len,#[t 56],#[44]⟩) 49 true,w 58 (.binOp
 .eql 3 (t 57) (i 0) 3) 49 true,d 59 (.pick (t 49) (t 58) (.const (.bool false))),c 60 53 #[t 59,i 12] #[4,33]] (S [e (.store 33 (t 2) (i 0))] .ret))).1
def znO:PC:=(⟨_,by delta L S b c d f i l m t w;exact rfl⟩:Zz.Q (S [f 6 28 1 1,l 7 3 6,b 8 .geq 3 (t 7) (i 0) 3,m 9 8,w 10 (.fieldAddr 28 (t
 1) 1) 9 true,w 11 (.load 3 (t 10)) 9 true,w 12 (.binOp .leq 3 (t 11) (i 4096) 3) 9 true,d 13 (.pick (t 9) (t 12) (.const (.bool false))),c 14 53 #[t 13,i 11]
 #[4,33]] (.seq (S [f 15 28 1 0,l 16 26 15,L 17 16 26,d 18 (.move (i 0))] (.block 0 (.loop zcd))) zcJ))).1
def zvP:PC:=(⟨_,by delta d;exact rfl⟩:Zz.Q (.ops [d 2 (.alloc 28),d 3 (.alloc 33)])).1
def zhy:PC:=(⟨_,by delta C S c d f l m s t;exact rfl⟩:Zz.Q (.seq (S [m 18 4,c 19 59 #[t 18,.const (.string ⟨#[102,117,110,99]⟩)]
 #[75,9]] (C 19 .skip (.exit 0))) (.block 1 (.ops [f 20 28 2 0,l 21 26 20,m 22 4,⟨some 23,.call ⟨.value (.func 60),#[t 22],#[75]⟩,none,[⟨none,26,t 20,21⟩]⟩,d 24
 (.buildSlice 26 1 #[(0,t 23)]),d 25 (.call ⟨.builtin .append,#[t 21,t 24],#[26,26]⟩),f 26 28 2 0,s 26 26 25])))).1
def zfa:PC:=(⟨_,by delta S b c d e f i l m n s t;exact rfl⟩:Zz.Q (S [m 27 4,d 28 (.buildSlice 22 5 #[(0,.const (.string
 ⟨#[40]⟩)),(1,.const (.string ⟨#[101,120,112,111,114,116]⟩)),(2,.const (.string ⟨#[34,109,97,105,110,34]⟩)),(3,.const (.string ⟨#[40]⟩)),(4,.const (.string
 ⟨#[102,117,110,99]⟩))]),c 29 56 #[t 27,t 28] #[75,22]] (S [m 30 4,c 31 58 #[t 30] #[75],b 32 .sub 3 (t 31) (i 3) 3,f 33 28 2 2,s 3 33 32] (S [m 34 4,d 35
 (.buildSlice 22 3 #[(0,.const (.string ⟨#[41]⟩)),(1,.const (.string ⟨#[41]⟩)),(2,.const (.string ⟨#[41]⟩))]),c 36 56 #[t 34,t 35] #[75,22]] (S [m 37 4,n 38
 37,f 39 77 38 0,l 40 9 39,c 41 62 #[t 40,.const (.string ⟨#[32,10]⟩)] #[9,9],b 42 .eql 9 (t 41) (.const (.string ⟨#[]⟩)) 9,c 43 61 #[t 42,i 2] #[4,33]] (S [l
 44 28 2,s 28 2 44,e (.store 33 (t 3) (i 0))] .ret)))))).1
def zvQ:PC:=(⟨_,by delta S a c d f m s t;exact rfl⟩:Zz.Q (S [m 6 0,d 7 (.build 77 #[(0,t 6)]),d 8 (.box 77 (t 7)),a 4 8] (S [m 9 4,c 10 57
 #[.const (.string
 ⟨#[40,32,109,111,100,117,108,101,32,40,32,105,109,112,111,114,116,32,34,101,110,118,34,32,34,105,110,34,32,40,32,102,117,110,99,32,40,32,114,101,115,117,108,116,32,105,54,52,32,41,32,41,32,41,32,40,32,105,109,112,111,114,116,32,34,101,110,118,34,32,34,111,117,116,34,32,40,32,102,117,110,99,32,40,32,112,97,114,97,109,32,105,54,52,32,41,32,41,32,41,32,40,32,105,109,112,111,114,116,32,34,101,110,118,34,32,34,116,114,97,112,34,32,40,32,102,117,110,99,32,40,32,112,97,114,97,109,32,105,51,50,32,41,32,41,32,41,32,40,32,109,101,109,111,114,121,32,49,32,41,32,40,32,103,108,111,98,97,108,32,105,51,50,32,40,32,105,51,50,46,99,111,110,115,116]⟩)]
 #[9],c 11 56 #[t 9,t 10] #[75,22]] (S [m 12 4,c 13 58 #[t 12] #[75],f 14 28 2 1,s 3 14 13] (S [m 15 4,d 16 (.buildSlice 22 2 #[(0,.const (.string
 ⟨#[41]⟩)),(1,.const (.string ⟨#[41]⟩))]),c 17 56 #[t 15,t 16] #[75,22]] (.seq (.block 0 (.loop zhy)) zfa)))))).1
def zjS:PC:=(⟨_,by delta C L S b c d f i l m s t x;exact rfl⟩:Zz.Q (S [b 18 .lss 3 (t 17) (t 16) 3] (.seq (C 18 .skip (.exit 0)) (.seq
 (.block 1 (S [x 19 26 15 17,l 20 57 19,d 5 (.alloc 57),s 57 5 20] (S [m 21 3,f 22 57 5 0,l 23 9 22,b 24 .add 9 (.const (.string ⟨#[36]⟩)) (t 23) 9,d 25
 (.buildSlice 22 3 #[(0,.const (.string ⟨#[40]⟩)),(1,.const (.string ⟨#[102,117,110,99]⟩)),(2,t 24)]),c 26 63 #[t 21,t 25] #[83,22]] (S [m 27 3,f 28 57 5 1,l 29
 44 28,c 30 65 #[t 27,.const (.string ⟨#[112,97,114,97,109]⟩),t 29] #[83,9,44]] (.seq (S [f 31 57 5 3,l 32 3 31,b 33 .neq 3 (t 32) (i 0) 3] (C 33 (.ops [m 34
 3,f 35 57 5 3,l 36 3 35,d 37 (.buildSlice 44 1 #[(0,t 36)]),c 38 65 #[t 34,.const (.string ⟨#[114,101,115,117,108,116]⟩),t 37] #[83,9,44]]) .skip)) (S [m 39
 3,f 40 57 5 2,l 41 44 40,c 42 65 #[t 39,.const (.string ⟨#[108,111,99,97,108]⟩),t 41] #[83,9,44]] (S [m 43 3,l 44 57 5,f 45 57 5 4,l 46 55 45,L 47 46 55,b 48
 .sub 3 (t 47) (i 1) 3,c 49 66 #[t 43,t 44,t 48] #[83,57,3]] (.ops [m 50 3,d 51 (.buildSlice 22 1 #[(0,.const (.string ⟨#[41]⟩))]),c 52 63 #[t 50,t 51]
 #[83,22]])))))))) (.ops [b 53 .add 3 (t 17) (i 1) 3,m 17 53]))))).1
def zjT:PC:=(⟨_,by delta S a b c d f i l m n t;exact rfl⟩:Zz.Q (S [m 54 3,f 55 28 1 2,l 56 3 55,b 57 .add 3 (t 56) (i 3) 3,c 58 64 #[t 57]
 #[3],d 59 (.buildSlice 22 9 #[(0,.const (.string ⟨#[40]⟩)),(1,.const (.string ⟨#[101,120,112,111,114,116]⟩)),(2,.const (.string
 ⟨#[34,109,97,105,110,34]⟩)),(3,.const (.string ⟨#[40]⟩)),(4,.const (.string ⟨#[102,117,110,99]⟩)),(5,t 58),(6,.const (.string ⟨#[41]⟩)),(7,.const (.string
 ⟨#[41]⟩)),(8,.const (.string ⟨#[41]⟩))]),c 60 63 #[t 54,t 59] #[83,22]] (S [m 61 3,n 62 61,f 63 88 62 0,c 64 67 #[t 63] #[86],b 65 .add 9 (t 64) (.const
 (.string ⟨#[10]⟩)) 9,a 2 65] .ret))).1
def zJI:PC:=(⟨_,by delta A L S a c d f i l m t;exact rfl⟩:Zz.Q (S [d 1 (.box 28 (t 0)),A 2 (.const (.string ⟨#[]⟩))] (S [d 6 (.build 88
 #[]),d 7 (.box 88 (t 6)),a 3 7] (S [m 8 3,f 9 28 1 1,l 10 3 9,c 11 64 #[t 10] #[3],d 12 (.buildSlice 22 4 #[(0,.const (.string
 ⟨#[40,32,109,111,100,117,108,101,32,40,32,105,109,112,111,114,116,32,34,101,110,118,34,32,34,105,110,34,32,40,32,102,117,110,99,32,40,32,114,101,115,117,108,116,32,105,54,52,32,41,32,41,32,41,32,40,32,105,109,112,111,114,116,32,34,101,110,118,34,32,34,111,117,116,34,32,40,32,102,117,110,99,32,40,32,112,97,114,97,109,32,105,54,52,32,41,32,41,32,41,32,40,32,105,109,112,111,114,116,32,34,101,110,118,34,32,34,116,114,97,112,34,32,40,32,102,117,110,99,32,40,32,112,97,114,97,109,32,105,51,50,32,41,32,41,32,41,32,40,32,109,101,109,111,114,121,32,49,32,41,32,40,32,103,108,111,98,97,108,32,105,51,50,32,40,32,105,51,50,46,99,111,110,115,116]⟩)),(1,t
 11),(2,.const (.string ⟨#[41]⟩)),(3,.const (.string ⟨#[41]⟩))]),c 13 63 #[t 8,t 12] #[83,22]] (.seq (S [f 14 28 1 0,l 15 26 14,L 16 15 26,d 17 (.move (i 0))]
 (.block 0 (.loop zjS))) zjT))))).1
theorem zw1:Zz.H 66 1 20 zJI [.tmp 2]:=fun hn h =>
 zb zk Tryz.func20 (by kernel_rfl) (by kernel_rfl) (by kernel_rfl) (by omega) h
def zJJ:PC:=(⟨_,by delta A S a b d f l m t w;exact rfl⟩:Zz.Q (S [d 2 (.box 28 (t 0)),d 3 (.box 28 (t 1)),A 4 (.const (.bool false))] (S [f 5
 28 2 1,l 6 3 5,f 7 28 3 1,l 8 3 7,b 9 .eql 3 (t 6) (t 8) 3,m 10 9,w 11 (.fieldAddr 28 (t 2) 2) 10 true,w 12 (.load 3 (t 11)) 10 true,w 13 (.fieldAddr 28 (t 3)
 2) 10 true,w 14 (.load 3 (t 13)) 10 true,w 15 (.binOp .eql 3 (t 12) (t 14) 3) 10 true,d 16 (.pick (t 10) (t 15) (.const (.bool false))),m 17 16,w 18
 (.fieldAddr 28 (t 2) 0) 17 true,w 19 (.load 26 (t 18)) 17 true,w 20 (.fieldAddr 28 (t 3) 0) 17 true,w 21 (.load 26 (t 20)) 17 true,w 22 (.call ⟨.value (.func
 74),#[t 19,t 21],#[26,26]⟩) 17 true,d 23 (.pick (t 17) (t 22) (.const (.bool false))),a 4 23] .ret))).1
theorem zw2:Zz.H 24 2 22 zJJ [.tmp 4]:=fun hn h =>
 zb zk Tryz.func22 (by kernel_rfl) (by kernel_rfl) (by kernel_rfl) (by omega) h
def zIi:PC:=(⟨_,by delta A C S a b i m t;exact rfl⟩:Zz.Q (S [A 4 (i 0)] (.seq (S [m 5 1,b 6 .lss 3 (t 5) (i 1) 3] (C 6 (S [A 4 (i 0)] .ret)
 .skip)) (S [m 7 0,m 8 1,b 9 .rem 3 (t 7) (t 8) 3,a 0 9] (.seq (S [m 10 0,b 11 .lss 3 (t 10) (i 0) 3] (C 11 (.ops [m 12 0,m 13 1,b 14 .add 3 (t 12) (t 13) 3,a 0
 14]) .skip)) (S [m 15 0,a 4 15] .ret)))))).1
theorem zw3:Zz.H 16 2 26 zIi [.tmp 4]:=fun hn h =>
 zb zk Tryz.func26 (by kernel_rfl) (by kernel_rfl) (by kernel_rfl) (by omega) h
def zJK:PC:=(⟨_,by delta A S a b d f l m t w;exact rfl⟩:Zz.Q (S [d 2 (.box 48 (t 0)),d 3 (.box 48 (t 1)),A 4 (.const (.bool false))] (S [f 5
 48 2 1,l 6 3 5,f 7 48 3 1,l 8 3 7,b 9 .eql 3 (t 6) (t 8) 3,m 10 9,w 11 (.fieldAddr 48 (t 2) 2) 10 true,w 12 (.load 3 (t 11)) 10 true,w 13 (.fieldAddr 48 (t 3)
 2) 10 true,w 14 (.load 3 (t 13)) 10 true,w 15 (.binOp .eql 3 (t 12) (t 14) 3) 10 true,d 16 (.pick (t 10) (t 15) (.const (.bool false))),m 17 16,w 18
 (.fieldAddr 48 (t 2) 0) 17 true,w 19 (.load 44 (t 18)) 17 true,w 20 (.fieldAddr 48 (t 3) 0) 17 true,w 21 (.load 44 (t 20)) 17 true,w 22 (.call ⟨.value (.func
 79),#[t 19,t 21],#[44,44]⟩) 17 true,d 23 (.pick (t 17) (t 22) (.const (.bool false))),a 4 23] .ret))).1
theorem zw4:Zz.H 24 2 27 zJK [.tmp 4]:=fun hn h =>
 zb zk Tryz.func27 (by kernel_rfl) (by kernel_rfl) (by kernel_rfl) (by omega) h
def zvR:PC:=(⟨_,by delta d t;exact rfl⟩:Zz.Q (.ops [d 3 (.box 28 (t 0)),d 6 (.alloc 48)])).1
def zqk:PC:=(⟨_,by delta d f l m s t;exact rfl⟩:Zz.Q (.both [[l 9 28 3,m 10 1,m 11 2,f 12 28 3 1,l 13 3 12,⟨some 14,.makeSlice 32 (t 13)
 (t 13),none,[⟨none,28,t 3,9⟩]⟩,d 15 (.build 109 #[(0,t 9),(1,t 10),(2,t 11),(3,t 14)]),d 16 (.box 109 (t 15)),d 7 (.alloc 107),s 107 7 16],[l 9 28 3,m 10 1,m
 11 2,f 12 28 3 1,l 13 3 12,⟨some 14,.makeSlice 32 (t 13) (t 13),none,[⟨none,28,t 3,9⟩]⟩,d 15 (.build 109 #[(0,t 9),(1,t 10),(2,t 11),(3,t 14)]),⟨some 7,.alloc
 107,none,[⟨none,28,t 3,9⟩]⟩,d 16 (.box 109 (t 15)),s 107 7 16],[l 9 28 3,m 10 1,m 11 2,f 12 28 3 1,l 13 3 12,⟨some 7,.alloc 107,none,[⟨none,28,t 3,9⟩,⟨none,3,t
 12,13⟩]⟩,⟨some 14,.makeSlice 32 (t 13) (t 13),none,[⟨none,28,t 3,9⟩]⟩,d 15 (.build 109 #[(0,t 9),(1,t 10),(2,t 11),(3,t 14)]),d 16 (.box 109 (t 15)),s 107 7
 16]])).1
def zmJ:PC:=(⟨_,by delta S a c d f i l m n s t x;exact rfl⟩:Zz.Q (S [l 18 107 7,f 19 28 3 0,l 20 26 19,f 21 28 3 2,l 22 3 21,x 23 26 20
 22,l 24 57 23,c 25 81 #[t 18,t 24,.const (.slice none 0 0)] #[107,57,44],a 8 25] (S [l 26 107 7,n 27 26,f 28 109 27 4,l 29 44 28,m 30 8,d 31 (.build 48 #[(0,t
 29),(1,i 1),(2,t 30)]),s 48 6 31] .ret))).1
def zjU:PC:=(⟨_,by delta C L S a b f i l m t x;exact rfl⟩:Zz.Q (.seq (S [m 32 6,f 33 57 5 4,l 34 55 33,L 35 34 55,b 36 .lss 3 (t 32) (t
 35) 3] (C 36 .skip (.exit 2))) (.seq (.block 3 (.ops [m 39 3,f 40 57 5 4,l 41 55 40,m 42 6,x 43 55 41 42,l 44 54 43,L 45 44 54,b 46 .add 3 (t 39) (t 45) 3,a 3
 46])) (.ops [m 37 6,b 38 .add 3 (t 37) (i 1) 3,a 6 38])))).1
def zmK:PC:=(⟨_,by delta A C S b d i m t w;exact rfl⟩:Zz.Q (S [m 47 3,b 48 .gtr 3 (t 47) (i 3000) 3,m 49 48,w 50 (.fieldAddr 57 (t 5) 0)
 49 false,w 51 (.load 9 (t 50)) 49 false,w 52 (.call ⟨.value (.func 51),#[t 51],#[9]⟩) 49 false,w 53 (.unOp .not 4 (t 52)) 49 false,d 54 (.pick (t 49) (.const
 (.bool true)) (t 53))] (C 54 (S [A 2 (.const (.bool true))] .ret) .skip))).1
def zql:PC:=(⟨_,by delta a b i m t;exact rfl⟩:Zz.Q (.ops [m 12 4,b 13 .add 3 (t 12) (i 1) 3,a 4 13])).1
def zjV:PC:=(⟨_,by delta A C L S a b d f i l m s t x;exact rfl⟩:Zz.Q (.seq (S [m 7 4,f 8 28 1 0,l 9 26 8,L 10 9 26,b 11 .lss 3 (t 7) (t
 10) 3] (C 11 .skip (.exit 0))) (.seq (.block 1 (S [f 14 28 1 0,l 15 26 14,m 16 4,x 17 26 15 16,l 18 57 17,d 5 (.alloc 57),s 57 5 18] (S [m 19 3,f 20 57 5 1,l
 21 44 20,L 22 21 44,b 23 .add 3 (t 19) (t 22) 3,f 24 57 5 2,l 25 44 24,L 26 25 44,b 27 .add 3 (t 23) (t 26) 3,f 28 57 5 4,l 29 55 28,L 30 29 55,b 31 .add 3 (t
 27) (t 30) 3,a 3 31] (.seq (S [A 6 (i 0)] (.block 2 (.loop zjU))) zmK)))) zql))).1
def zmL:PC:=(⟨_,by delta L S a b d f i l m t w;exact rfl⟩:Zz.Q (S [f 55 28 1 0,l 56 26 55,L 57 56 26,b 58 .gtr 3 (t 57) (i 40) 3,m 59 58,w
 60 (.load 28 (t 1)) 59 false,w 61 (.call ⟨.value (.func 18),#[t 60],#[28]⟩) 59 false,w 62 (.binOp .neq 33 (t 61) (i 0) 33) 59 false,d 63 (.pick (t 59) (.const
 (.bool true)) (t 62)),a 2 63] .ret)).1
def zJL:PC:=(⟨_,by delta A S d i t;exact rfl⟩:Zz.Q (S [d 1 (.box 28 (t 0)),A 2 (.const (.bool false))] (S [A 3 (i 0)] (.seq (S [A 4 (i 0)]
 (.block 0 (.loop zjV))) zmL)))).1
theorem zw5:Zz.H 64 1 30 zJL [.tmp 2]:=fun hn h =>
 zb zk Tryz.func30 (by kernel_rfl) (by kernel_rfl) (by kernel_rfl) (by omega) h
def zjW:PC:=(⟨_,by delta A C L S a b f i l m t x;exact rfl⟩:Zz.Q (.seq (S [m 4 3,f 5 28 1 0,l 6 26 5,L 7 6 26,b 8 .lss 3 (t 4) (t 7) 3] (C
 8 .skip (.exit 0))) (.seq (.block 1 (S [f 11 28 1 0,l 12 26 11,m 13 3,x 14 26 12 13,f 15 57 14 4,l 16 55 15,L 17 16 55,b 18 .gtr 3 (t 17) (i 400) 3] (C 18 (S
 [A 2 (.const (.bool true))] .ret) .skip))) (.ops [m 9 3,b 10 .add 3 (t 9) (i 1) 3,a 3 10])))).1
def zqm:PC:=(⟨_,by delta A S;exact rfl⟩:Zz.Q (S [A 2 (.const (.bool false))] .ret)).1
def zJM:PC:=(⟨_,by delta A S d i t;exact rfl⟩:Zz.Q (S [d 1 (.box 28 (t 0)),A 2 (.const (.bool false))] (.seq (S [A 3 (i 0)] (.block 0 (.loop
 zjW))) zqm))).1
theorem zw6:Zz.H 19 1 33 zJM [.tmp 2]:=fun hn h =>
 zb zk Tryz.func33 (by kernel_rfl) (by kernel_rfl) (by kernel_rfl) (by omega) h
def zbO:PC:=(⟨_,by delta A C L S a b d i m t w;exact rfl⟩:Zz.Q (.seq (S [m 5 3,m 6 0,L 7 6 9,b 8 .lss 3 (t 5) (t 7) 3] (C 8 .skip (.exit
 0))) (.seq (.block 1 (S [m 11 0,m 12 3,d 13 (.index 9 (t 11) (t 12)),b 14 .geq 5 (t 13) (.const (.int .u8 97)) 5,m 15 14,w 16 (.move (t 0)) 15 true,w 17 (.move
 (t 3)) 15 true,w 18 (.index 9 (t 16) (t 17)) 15 true,w 19 (.binOp .leq 5 (t 18) (.const (.int .u8 122)) 5) 15 true,d 20 (.pick (t 15) (t 19) (.const (.bool
 false))),m 21 20,w 22 (.move (t 0)) 21 false,w 23 (.move (t 3)) 21 false,w 24 (.index 9 (t 22) (t 23)) 21 false,w 25 (.binOp .eql 5 (t 24) (.const (.int .u8
 95)) 5) 21 false,d 26 (.pick (t 21) (.const (.bool true)) (t 25)),a 4 26] (S [m 27 4,d 28 (.unOp .not 4 (t 27)),m 29 28,w 30 (.move (t 3)) 29 true,w 31 (.binOp
 .eql 3 (t 30) (i 0) 3) 29 true,w 32 (.move (t 31)) 29 true,w 33 (.move (t 0)) 32 false,w 34 (.move (t 3)) 32 false,w 35 (.index 9 (t 33) (t 34)) 32 false,w 36
 (.binOp .lss 5 (t 35) (.const (.int .u8 48)) 5) 32 false,w 37 (.pick (t 32) (.const (.bool true)) (t 36)) 29 true,w 38 (.move (t 37)) 29 true,w 39 (.move (t
 0)) 38 false,w 40 (.move (t 3)) 38 false,w 41 (.index 9 (t 39) (t 40)) 38 false,w 42 (.binOp .gtr 5 (t 41) (.const (.int .u8 57)) 5) 38 false,w 43 (.pick (t
 38) (.const (.bool true)) (t 42)) 29 true,d 44 (.pick (t 29) (t 43) (.const (.bool false)))] (C 44 (S [A 2 (.const (.bool false))] .ret) .skip)))) (.ops [m 9
 3,b 10 .add 3 (t 9) (i 1) 3,a 3 10])))).1
def zjX:PC:=(⟨_,by delta L S a b d i m t w;exact rfl⟩:Zz.Q (S [m 45 0,L 46 45 9,b 47 .geq 3 (t 46) (i 1) 3,m 48 47,w 49 (.move (t 0)) 48
 true,w 50 (.call ⟨.builtin .len,#[t 49],#[9]⟩) 48 true,w 51 (.binOp .leq 3 (t 50) (i 24) 3) 48 true,d 52 (.pick (t 48) (t 51) (.const (.bool false))),a 2 52]
 .ret)).1
def zJN:PC:=(⟨_,by delta A S i;exact rfl⟩:Zz.Q (S [A 2 (.const (.bool false))] (.seq (S [A 3 (i 0)] (.block 0 (.loop zbO))) zjX))).1
theorem zw7:Zz.H 53 1 51 zJN [.tmp 2]:=fun hn h =>
 zb zk Tryz.func51 (by kernel_rfl) (by kernel_rfl) (by kernel_rfl) (by omega) h
def zlu:PC:=(⟨_,by delta C S b d m s t;exact rfl⟩:Zz.Q (S [m 3 1,b 4 .neq 20 (t 3) (.const .nilIface) 20] (C 4 (.ops [m 5 1,d 6
 (.typeAssert (t 5) 20 71 false),d 7 (.field 71 (t 6) 0),s 33 0 7]) .skip))).1
def zIj:PC:=(⟨_,by delta C S d e m t;exact rfl⟩:Zz.Q (S [m 4 0,d 5 (.unOp .not 4 (t 4))] (C 5 (.ops [m 6 1,d 7 (.build 71 #[(0,t 6)]),d 8
 (.makeInterface 71 (t 7)),e (.panic (t 8))]) .skip))).1
theorem zw8:Zz.H 9 2 53 zIj []:=fun hn h =>
 zb zk Tryz.func53 (by kernel_rfl) (by kernel_rfl) (by kernel_rfl) (by omega) h
def zJO:PC:=(⟨_,by delta L S b c d f i l m n s t w;exact rfl⟩:Zz.Q (S [m 2 0,m 3 0,n 4 3,f 5 74 4 1,f 6 57 5 1,l 7 44 6,m 8 0,n 9 8,f 10 74 9
 1,f 11 57 10 2,l 12 44 11,d 13 (.buildSlice 186 2 #[(0,t 7),(1,t 12)]),c 14 105 #[t 13] #[186],n 15 2,f 16 74 15 2,s 44 16 14] (S [m 17 0,n 18 17,f 19 74 18
 2,l 20 44 19,c 21 95 #[t 20,.func 106] #[44,122],d 22 (.unOp .not 4 (t 21)),m 23 22,w 24 (.move (t 0)) 23 true,w 25 (.nilCheck (t 24)) 23 true,w 26 (.fieldAddr
 74 (t 25) 1) 23 true,w 27 (.fieldAddr 57 (t 26) 3) 23 true,w 28 (.load 3 (t 27)) 23 true,w 29 (.binOp .geq 3 (t 28) (i 0) 3) 23 true,d 30 (.pick (t 23) (t 29)
 (.const (.bool false))),m 31 30,w 32 (.move (t 0)) 31 true,w 33 (.nilCheck (t 32)) 31 true,w 34 (.fieldAddr 74 (t 33) 1) 31 true,w 35 (.fieldAddr 57 (t 34) 3)
 31 true,w 36 (.load 3 (t 35)) 31 true,w 37 (.binOp .leq 3 (t 36) (i 2) 3) 31 true,d 38 (.pick (t 31) (t 37) (.const (.bool false))),c 39 53 #[t 38,i 6]
 #[4,33]] (S [m 40 0,c 41 108 #[t 40] #[72]] (.ops [m 42 0,m 43 0,n 44 43,f 45 74 44 1,f 46 57 45 4,l 47 55 46,L 48 47 55,b 49 .sub 3 (t 48) (i 1) 3,c 50 109
 #[t 42,t 49,i 0] #[72,3,3]]))))).1
theorem zw9:Zz.H 51 1 54 zJO []:=fun hn h =>
 zb zk Tryz.func54 (by kernel_rfl) (by kernel_rfl) (by kernel_rfl) (by omega) h
def zge:PC:=(⟨_,by delta C S b d m s t;exact rfl⟩:Zz.Q (S [m 4 2,b 5 .neq 20 (t 4) (.const .nilIface) 20] (C 5 (.ops [d 6 (.build 28 #[]),m
 7 2,d 8 (.typeAssert (t 7) 20 33 false),s 28 0 6,s 33 1 8]) .skip))).1
def zhz:PC:=(⟨_,by delta C S a b c i l m t x;exact rfl⟩:Zz.Q (S [b 9 .lss 3 (t 8) (t 7) 3] (.seq (C 9 .skip (.exit 0)) (.seq (.block 1 (S
 [x 10 22 6 8,l 11 9 10,a 5 11] (.ops [m 12 0,c 13 110 #[t 12] #[75],m 14 5,b 15 .eql 9 (t 13) (t 14) 9,c 16 61 #[t 15,i 2] #[4,33]]))) (.ops [b 17 .add 3 (t 8)
 (i 1) 3,m 8 17]))))).1
def zIk:PC:=(⟨_,by delta L S d i m;exact rfl⟩:Zz.Q (S [m 6 1,L 7 6 22,d 8 (.move (i 0))] (.block 0 (.loop zhz)))).1
theorem zxa:Zz.H 18 2 56 zIk []:=fun hn h =>
 zb zk Tryz.func56 (by kernel_rfl) (by kernel_rfl) (by kernel_rfl) (by omega) h
def zmM:PC:=(⟨_,by delta C L S a b d i l m t;exact rfl⟩:Zz.Q (.seq (S [m 13 6,m 14 0,L 15 14 9,b 16 .lss 3 (t 13) (t 15) 3] (C 16 .skip
 (.exit 0))) (.seq (.block 1 (S [m 19 0,m 20 6,d 21 (.index 9 (t 19) (t 20)),a 7 21] (S [m 22 5,m 23 7,b 24 .or 5 (t 22) (t 23) 5,a 5 24] (S [m 25 7,d 26
 (.indexAddr 135 (.global 0) (t 25)),l 27 5 26,d 28 (.convert 5 3 (t 27)),a 8 28] (S [m 29 3,m 30 4,m 31 8,d 32 (.unOp .xor 3 (t 31)),b 33 .and 3 (t 30) (t 32)
 3,b 34 .add 3 (t 29) (t 33) 3,a 3 34] (.ops [m 35 8,a 4 35])))))) (.ops [m 17 6,b 18 .add 3 (t 17) (i 1) 3,a 6 18])))).1
def zqn:PC:=(⟨_,by delta C L S a b d i m t w;exact rfl⟩:Zz.Q (.seq (S [m 42 12,m 43 0,L 44 43 9,b 45 .lss 3 (t 42) (t 44) 3,m 46 45,w 47
 (.move (t 0)) 46 true,w 48 (.move (t 12)) 46 true,w 49 (.index 9 (t 47) (t 48)) 46 true,w 50 (.indexAddr 135 (.global 0) (t 49)) 46 true,w 51 (.load 5 (t 50))
 46 true,w 52 (.binOp .neq 5 (t 51) (.const (.int .u8 0)) 5) 46 true,d 53 (.pick (t 46) (t 52) (.const (.bool false)))] (C 53 .skip (.exit 2))) (.block 3 (.ops
 [m 54 12,b 55 .add 3 (t 54) (i 1) 3,a 12 55])))).1
def zqo:PC:=(⟨_,by delta C L S a b d i m t w;exact rfl⟩:Zz.Q (.seq (S [m 80 12,m 81 0,L 82 81 9,b 83 .lss 3 (t 80) (t 82) 3,m 84 83,w 85
 (.move (t 0)) 84 true,w 86 (.move (t 12)) 84 true,w 87 (.index 9 (t 85) (t 86)) 84 true,w 88 (.indexAddr 135 (.global 0) (t 87)) 84 true,w 89 (.load 5 (t 88))
 84 true,w 90 (.binOp .neq 5 (t 89) (.const (.int .u8 0)) 5) 84 true,d 91 (.pick (t 84) (t 90) (.const (.bool false)))] (C 91 .skip (.exit 6))) (.block 7 (.ops
 [m 92 12,b 93 .add 3 (t 92) (i 1) 3,a 12 93])))).1
def zqp:PC:=(⟨_,by delta a m;exact rfl⟩:Zz.Q (.ops [m 94 12,a 11 94])).1
def zjY:PC:=(⟨_,by delta C L S a b d i l m s t x;exact rfl⟩:Zz.Q (.seq (S [m 57 12,m 58 0,L 59 58 9,b 60 .lss 3 (t 57) (t 59) 3] (C 60
 .skip (.exit 4))) (.block 5 (.seq (S [m 61 0,m 62 12,d 63 (.index 9 (t 61) (t 62)),d 64 (.indexAddr 135 (.global 0) (t 63)),l 65 5 64,b 66 .eql 5 (t 65)
 (.const (.int .u8 0)) 5] (C 66 (S [m 67 12,b 68 .add 3 (t 67) (i 1) 3,a 12 68] (.exit 5)) .skip)) (S [m 69 9,m 70 10,m 71 0,m 72 11,m 73 12,d 74 (.slice 9 (t
 71) (some (t 72)) (some (t 73)) none),x 75 22 69 70,s 9 75 74] (S [m 76 10,b 77 .add 3 (t 76) (i 1) 3,a 10 77] (S [m 78 12,b 79 .add 3 (t 78) (i 1) 3,a 12 79]
 (.seq (.block 6 (.loop zqo)) zqp)))))))).1
def zqq:PC:=(⟨_,by delta C L S a b d m s t x;exact rfl⟩:Zz.Q (.seq (S [m 95 11,m 96 0,L 97 96 9,b 98 .lss 3 (t 95) (t 97) 3] (C 98 (.ops
 [m 99 9,m 100 10,m 101 0,m 102 11,d 103 (.slice 9 (t 101) (some (t 102)) none none),x 104 22 99 100,s 9 104 103]) .skip)) (S [m 105 9,a 2 105] .ret))).1
def zqr:PC:=(⟨_,by delta S a m;exact rfl⟩:Zz.Q (S [m 56 12,a 11 56] (.seq (.block 4 (.loop zjY)) zqq))).1
def zqs:PC:=(⟨_,by delta A C S a b c d i m t;exact rfl⟩:Zz.Q (.seq (S [m 36 5,b 37 .geq 5 (t 36) (.const (.int .u8 128)) 5] (C 37 (S [m 38
 0,c 39 111 #[t 38,.func 112] #[9,137],a 2 39] .ret) .skip)) (S [m 40 3,d 41 (.makeSlice 22 (t 40) (t 40)),a 9 41] (S [A 10 (i 0)] (S [A 11 (i 0)] (S [A 12 (i
 0)] (.seq (.block 2 (.loop zqn)) zqr))))))).1
def zJP:PC:=(⟨_,by delta A S i;exact rfl⟩:Zz.Q (S [A 2 (.const (.slice none 0 0))] (S [A 3 (i 0)] (S [A 4 (i 1)] (S [A 5 (.const (.int .u8
 0))] (.seq (S [A 6 (i 0)] (.block 0 (.loop zmM))) zqs)))))).1
theorem zxb:Zz.H 106 1 57 zJP [.tmp 2]:=fun hn h =>
 zb zk Tryz.func57 (by kernel_rfl) (by kernel_rfl) (by kernel_rfl) (by omega) h
def zJQ:PC:=(⟨_,by delta A S a b c d i m t w;exact rfl⟩:Zz.Q (S [A 2 (i 0)] (S [m 7 0,c 8 110 #[t 7] #[75],a 3 8] (S [m 9 3,c 10 113 #[t
 9,.const (.string ⟨#[45]⟩)] #[9,9],a 4 10] (S [m 11 4,b 12 .neq 9 (t 11) (.const (.string ⟨#[]⟩)) 9,m 13 12,w 14 (.move (t 4)) 13 true,w 15 (.call ⟨.value
 (.func 62),#[t 14,.const (.string ⟨#[48,49,50,51,52,53,54,55,56,57]⟩)],#[9,9]⟩) 13 true,w 16 (.binOp .eql 9 (t 15) (.const (.string ⟨#[]⟩)) 9) 13 true,d 17
 (.pick (t 13) (t 16) (.const (.bool false))),c 18 61 #[t 17,i 2] #[4,33]] (S [m 20 3,c 21 114 #[t 20] #[9],m 19 21,d 22 (.extract (t 19) 0),d 23 (.extract (t
 19) 1),a 5 22,a 6 23] (S [m 24 6,b 25 .eql 139 (t 24) (.const .nilIface) 139,m 26 25,w 27 (.move (t 5)) 26 true,w 28 (.call ⟨.value (.func 64),#[t 27],#[3]⟩)
 26 true,w 29 (.move (t 3)) 26 true,w 30 (.binOp .eql 9 (t 28) (t 29) 9) 26 true,d 31 (.pick (t 26) (t 30) (.const (.bool false))),c 32 61 #[t 31,i 11] #[4,33]]
 (S [m 33 5,a 2 33] .ret)))))))).1
theorem zxc:Zz.H 34 1 58 zJQ [.tmp 2]:=fun hn h =>
 zb zk Tryz.func58 (by kernel_rfl) (by kernel_rfl) (by kernel_rfl) (by omega) h
def zJR:PC:=(⟨_,by delta A C S a b c d f l m n s t w;exact rfl⟩:Zz.Q (S [A 4 (.const (.bool false))] (S [m 9 0,n 10 9,f 11 77 10 0,l 12 9
 11,c 13 115 #[t 12] #[9],m 8 13,d 14 (.extract (t 8) 0),d 15 (.extract (t 8) 1),a 5 14,a 6 15] (S [m 17 6,c 18 115 #[t 17] #[9],m 16 18,d 19 (.extract (t 16)
 0),d 20 (.extract (t 16) 1),a 7 19,a 6 20] (.seq (S [m 21 5,b 22 .neq 9 (t 21) (.const (.string ⟨#[40]⟩)) 9,m 23 22,w 24 (.move (t 7)) 23 false,w 25 (.move (t
 1)) 23 false,w 26 (.binOp .neq 9 (t 24) (t 25) 9) 23 false,d 27 (.pick (t 23) (.const (.bool true)) (t 26))] (C 27 (S [A 4 (.const (.bool false))] .ret)
 .skip)) (S [m 28 0,m 29 6,n 30 28,f 31 77 30 0,s 9 31 29] (S [A 4 (.const (.bool true))] .ret))))))).1
theorem zxd:Zz.H 32 2 59 zJR [.tmp 4]:=fun hn h =>
 zb zk Tryz.func59 (by kernel_rfl) (by kernel_rfl) (by kernel_rfl) (by omega) h
def zJS:PC:=(⟨_,by delta C L S a b c d e f i l m n s t w;exact rfl⟩:Zz.Q (S [d 2 (.alloc 57)] (S [m 7 0,c 8 110 #[t 7] #[75],c 9 116 #[t
 8,.const (.string ⟨#[36]⟩)] #[9,9],m 6 9,d 10 (.extract (t 6) 0),d 11 (.extract (t 6) 1),a 3 10,a 4 11] (S [m 12 4,m 13 12,w 14 (.move (t 3)) 13 true,w 15
 (.call ⟨.value (.func 117),#[t 14],#[9]⟩) 13 true,d 16 (.pick (t 13) (t 15) (.const (.bool false))),c 17 61 #[t 16,i 2] #[4,33]] (S [m 18 3,f 19 57 2 0,s 9 19
 18] (.seq (S [m 20 0,c 21 59 #[t 20,.const (.string ⟨#[112,97,114,97,109]⟩)] #[75,9]] (C 21 (.ops [m 22 0,c 23 118 #[t 22] #[75],f 24 57 2 1,s 44 24 23])
 .skip)) (.seq (S [m 25 0,c 26 59 #[t 25,.const (.string ⟨#[114,101,115,117,108,116]⟩)] #[75,9]] (C 26 (S [m 27 0,c 28 118 #[t 27] #[75],a 5 28] (S [m 29 5,L 30
 29 44,b 31 .eql 3 (t 30) (i 1) 3,c 32 61 #[t 31,i 2] #[4,33]] (.ops [m 33 5,d 34 (.indexAddr 44 (t 33) (i 0)),l 35 3 34,f 36 57 2 3,s 3 36 35]))) .skip)) (.seq
 (S [m 37 0,c 38 59 #[t 37,.const (.string ⟨#[108,111,99,97,108]⟩)] #[75,9]] (C 38 (.ops [m 39 0,c 40 118 #[t 39] #[75],f 41 57 2 2,s 44 41 40]) .skip)) (S [m
 42 0,n 43 42,f 44 77 43 1,e (.store 55 (t 44) (.const (.slice none 0 0)))] (S [m 45 0,d 46 (.buildSlice 22 1 #[(0,.const (.string ⟨#[41]⟩))]),c 47 119 #[t 45,i
 0,t 46] #[75,3,22]] (S [m 48 0,n 49 48,f 50 77 49 1,l 51 55 50,f 52 57 2 4,s 55 52 51] (S [l 53 57 2,s 57 2 53] .ret)))))))))))).1
theorem zxe:Zz.H 54 1 60 zJS [.cell 2 57]:=fun hn h =>
 zb zk Tryz.func60 (by kernel_rfl) (by kernel_rfl) (by kernel_rfl) (by omega) h
def zIl:PC:=(⟨_,by delta C S d e m t;exact rfl⟩:Zz.Q (S [m 4 0,d 5 (.unOp .not 4 (t 4))] (C 5 (.ops [m 6 1,d 7 (.makeInterface 33 (t 6)),e
 (.panic (t 7))]) .skip))).1
theorem zxf:Zz.H 8 2 61 zIl []:=fun hn h =>
 zb zk Tryz.func61 (by kernel_rfl) (by kernel_rfl) (by kernel_rfl) (by omega) h
def zIm:PC:=(⟨_,by delta A C L S a b c d i m s t w;exact rfl⟩:Zz.Q (S [A 4 (.const (.string ⟨#[]⟩))] (.seq (S [m 7 0,b 8 .eql 9 (t 7) (.const
 (.string ⟨#[]⟩)) 9,m 9 8,w 10 (.move (t 1)) 9 false,w 11 (.binOp .eql 9 (t 10) (.const (.string ⟨#[]⟩)) 9) 9 false,d 12 (.pick (t 9) (.const (.bool true)) (t
 11))] (C 12 (S [m 13 0,a 4 13] .ret) .skip)) (.seq (S [m 14 1,L 15 14 9,b 16 .eql 3 (t 15) (i 1) 3,m 17 16,w 18 (.move (t 1)) 17 true,w 19 (.index 9 (t 18) (i
 0)) 17 true,w 20 (.binOp .lss 5 (t 19) (.const (.int .u8 128)) 5) 17 true,d 21 (.pick (t 17) (t 20) (.const (.bool false)))] (C 21 (S [m 22 0,m 23 1,d 24
 (.index 9 (t 23) (i 0)),m 26 1,d 27 (.index 9 (t 26) (i 0)),c 25 121 #[t 22,t 24] #[9,5],c 28 120 #[t 25,t 27] #[9,5],a 4 28] .ret) .skip)) (.seq (S [m 30 1,c
 31 122 #[t 30] #[9],m 29 31,d 32 (.extract (t 29) 0),d 33 (.extract (t 29) 1),d 5 (.alloc 151),s 151 5 32,a 6 33] (S [m 34 6] (C 34 (S [m 35 0,c 36 124 #[t
 35,t 5] #[9,155],c 37 123 #[t 36,t 5] #[9,155],a 4 37] .ret) .skip))) (S [m 38 0,m 39 1,c 40 126 #[t 38,t 39] #[9,9],m 41 1,c 42 125 #[t 40,t 41] #[9,9],a 4
 42] .ret)))))).1
theorem zxg:Zz.H 43 2 62 zIm [.tmp 4]:=fun hn h =>
 zb zk Tryz.func62 (by kernel_rfl) (by kernel_rfl) (by kernel_rfl) (by omega) h
def zmN:PC:=(⟨_,by delta C S a b c f i l m n t x;exact rfl⟩:Zz.Q (S [b 9 .lss 3 (t 8) (t 7) 3] (.seq (C 9 .skip (.exit 0)) (.seq (.block 1
 (S [x 10 22 6 8,l 11 9 10,a 5 11] (.seq (S [m 12 0,n 13 12,f 14 88 13 0,c 15 127 #[t 14] #[86],b 16 .gtr 3 (t 15) (i 0) 3] (C 16 (.ops [m 17 0,n 18 17,f 19 88
 18 0,c 20 128 #[t 19,.const (.int .u8 32)] #[86,5]]) .skip)) (.ops [m 21 0,n 22 21,f 23 88 22 0,m 24 5,c 25 129 #[t 23,t 24] #[86,9]])))) (.ops [b 26 .add 3 (t
 8) (i 1) 3,m 8 26]))))).1
def zJT:PC:=(⟨_,by delta L S d i m;exact rfl⟩:Zz.Q (S [m 6 1,L 7 6 22,d 8 (.move (i 0))] (.block 0 (.loop zmN)))).1
theorem zxh:Zz.H 27 2 63 zJT []:=fun hn h =>
 zb zk Tryz.func63 (by kernel_rfl) (by kernel_rfl) (by kernel_rfl) (by omega) h
def zmO:PC:=(⟨_,by delta C S a b c d i l m t x;exact rfl⟩:Zz.Q (S [b 18 .lss 3 (t 17) (t 16) 3] (.seq (C 18 .skip (.exit 0)) (.seq (.block
 1 (S [x 19 44 15 17,l 20 3 19,a 7 20] (.ops [m 21 0,m 22 7,c 23 131 #[t 22] #[3],d 24 (.buildSlice 22 1 #[(0,t 23)]),c 25 63 #[t 21,t 24] #[83,22]]))) (.ops [b
 26 .add 3 (t 17) (i 1) 3,m 17 26]))))).1
def zqt:PC:=(⟨_,by delta c d m t;exact rfl⟩:Zz.Q (.ops [m 27 0,d 28 (.buildSlice 22 1 #[(0,.const (.string ⟨#[41]⟩))]),c 29 63 #[t 27,t
 28] #[83,22]])).1
def zIn:PC:=(⟨_,by delta C L S b c d i m t;exact rfl⟩:Zz.Q (.seq (S [m 8 2,L 9 8 44,b 10 .eql 3 (t 9) (i 0) 3] (C 10 .ret .skip)) (S [m 11
 0,m 12 1,d 13 (.buildSlice 22 2 #[(0,.const (.string ⟨#[40]⟩)),(1,t 12)]),c 14 63 #[t 11,t 13] #[83,22]] (.seq (S [m 15 2,L 16 15 44,d 17 (.move (i 0))]
 (.block 0 (.loop zmO))) zqt)))).1
theorem zxi:Zz.H 30 3 65 zIn []:=fun hn h =>
 zb zk Tryz.func65 (by kernel_rfl) (by kernel_rfl) (by kernel_rfl) (by omega) h
def zdG:PC:=(⟨_,by delta C S a b c d f i l m s t w x;exact rfl⟩:Zz.Q (S [b 17 .lss 3 (t 16) (t 15) 3] (.seq (C 17 .skip (.exit 0)) (.seq
 (.block 1 (S [x 18 54 14 16,l 19 53 18,d 7 (.alloc 53),s 53 7 19] (.seq (S [f 20 53 7 0,l 21 3 20] (.block 2 (.seq (S [b 23 .eql 3 (t 21) (i 11) 3,a 22 23] (C
 22 .skip (S [b 24 .eql 3 (t 21) (i 12) 3,a 22 24] (C 22 .skip (.ops [b 25 .eql 3 (t 21) (i 13) 3,a 22 25]))))) (C 22 (S [m 26 0,f 27 53 7 0,l 28 3 27,c 29 132
 #[t 28] #[3],d 30 (.buildSlice 22 1 #[(0,t 29)]),c 31 63 #[t 26,t 30] #[83,22]] (S [m 32 0,l 33 57 4,f 34 53 7 3,l 35 3 34,c 36 66 #[t 32,t 33,t 35]
 #[83,57,3]] (.seq (S [f 37 53 7 0,l 38 3 37,b 39 .eql 3 (t 38) (i 13) 3,m 40 39,w 41 (.fieldAddr 53 (t 7) 4) 40 true,w 42 (.load 3 (t 41)) 40 true,w 43 (.binOp
 .geq 3 (t 42) (i 0) 3) 40 true,d 44 (.pick (t 40) (t 43) (.const (.bool false)))] (C 44 (S [m 45 0,d 46 (.buildSlice 22 1 #[(0,.const (.string
 ⟨#[101,108,115,101]⟩))]),c 47 63 #[t 45,t 46] #[83,22]] (.ops [m 48 0,l 49 57 4,f 50 53 7 4,l 51 3 50,c 52 66 #[t 48,t 49,t 51] #[83,57,3]])) .skip)) (S [m 53
 0,d 54 (.buildSlice 22 1 #[(0,.const (.string ⟨#[101,110,100]⟩))]),c 55 63 #[t 53,t 54] #[83,22]] (.exit 1))))) .skip)))) (S [m 56 0,l 57 53 7,c 58 133 #[t 57]
 #[53],d 59 (.buildSlice 22 1 #[(0,t 58)]),c 60 63 #[t 56,t 59] #[83,22]] (S [l 62 53 7,c 63 133 #[t 62] #[53],c 64 134 #[t 63] #[9],m 61 64,d 65 (.extract (t
 61) 0),d 66 (.extract (t 61) 1),d 8 (.alloc 53),s 53 8 65,a 9 66] (S [m 67 9] (C 67 (.ops [m 68 0,f 69 53 7 2,l 70 3 69,c 71 64 #[t 70] #[3],d 72 (.buildSlice
 22 1 #[(0,t 71)]),c 73 63 #[t 68,t 72] #[83,22]]) .skip))))))) (.ops [b 74 .add 3 (t 16) (i 1) 3,m 16 74]))))).1
def zJU:PC:=(⟨_,by delta L S d f i l m t x;exact rfl⟩:Zz.Q (S [d 4 (.box 57 (t 1))] (S [f 10 57 4 4,l 11 55 10,m 12 2,x 13 55 11 12,l 14 54
 13,L 15 14 54,d 16 (.move (i 0))] (.block 0 (.loop zdG))))).1
theorem zxj:Zz.H 75 3 66 zJU []:=fun hn h =>
 zb zk Tryz.func66 (by kernel_rfl) (by kernel_rfl) (by kernel_rfl) (by omega) h
def zJV:PC:=(⟨_,by delta A L S a d f l m n t;exact rfl⟩:Zz.Q (S [A 2 (.const (.string ⟨#[]⟩))] (S [m 3 0,n 4 3,f 5 86 4 1,l 6 32 5,d 7 (.call
 ⟨.builtin .unsafeSliceData,#[t 6],#[32]⟩),m 8 0,n 9 8,f 10 86 9 1,l 11 32 10,L 12 11 32,d 13 (.call ⟨.builtin .unsafeString,#[t 7,t 12],#[160,3]⟩),a 2 13]
 .ret))).1
theorem zxk:Zz.H 14 1 67 zJV [.tmp 2]:=fun hn h =>
 zb zk Tryz.func67 (by kernel_rfl) (by kernel_rfl) (by kernel_rfl) (by omega) h
def zmP:PC:=(⟨_,by delta A C L S a b c d i l m t x;exact rfl⟩:Zz.Q (.seq (S [m 11 5,m 12 0,L 13 12 26,b 14 .lss 3 (t 11) (t 13) 3] (C 14
 .skip (.exit 0))) (.seq (.block 1 (S [m 17 0,m 18 5,x 19 26 17 18,l 20 57 19,m 21 1,m 22 5,x 23 26 21 22,l 24 57 23,c 25 140 #[t 20,t 24] #[57,57],d 26 (.unOp
 .not 4 (t 25))] (C 26 (S [A 4 (.const (.bool false))] .ret) .skip))) (.ops [m 15 5,b 16 .add 3 (t 15) (i 1) 3,a 5 16])))).1
def zqu:PC:=(⟨_,by delta A S;exact rfl⟩:Zz.Q (S [A 4 (.const (.bool true))] .ret)).1
def zJW:PC:=(⟨_,by delta A C L S b i m t;exact rfl⟩:Zz.Q (S [A 4 (.const (.bool false))] (.seq (S [m 6 0,L 7 6 26,m 8 1,L 9 8 26,b 10 .neq 3
 (t 7) (t 9) 3] (C 10 (S [A 4 (.const (.bool false))] .ret) .skip)) (.seq (S [A 5 (i 0)] (.block 0 (.loop zmP))) zqu)))).1
theorem zxl:Zz.H 27 2 74 zJW [.tmp 4]:=fun hn h =>
 zb zk Tryz.func74 (by kernel_rfl) (by kernel_rfl) (by kernel_rfl) (by omega) h
def zfM:PC:=(⟨_,by delta A C L S a b d i l m t x;exact rfl⟩:Zz.Q (.seq (S [m 11 5,m 12 0,L 13 12 44,b 14 .lss 3 (t 11) (t 13) 3] (C 14
 .skip (.exit 0))) (.seq (.block 1 (S [m 17 0,m 18 5,x 19 44 17 18,l 20 3 19,m 21 1,m 22 5,x 23 44 21 22,l 24 3 23,b 25 .eql 3 (t 20) (t 24) 3,d 26 (.unOp .not
 4 (t 25))] (C 26 (S [A 4 (.const (.bool false))] .ret) .skip))) (.ops [m 15 5,b 16 .add 3 (t 15) (i 1) 3,a 5 16])))).1
def zmQ:PC:=(⟨_,by delta A S;exact rfl⟩:Zz.Q (S [A 4 (.const (.bool true))] .ret)).1
def zF6:PC:=(⟨_,by delta A C L S b i m t;exact rfl⟩:Zz.Q (S [A 4 (.const (.bool false))] (.seq (S [m 6 0,L 7 6 44,m 8 1,L 9 8 44,b 10 .neq 3
 (t 7) (t 9) 3] (C 10 (S [A 4 (.const (.bool false))] .ret) .skip)) (.seq (S [A 5 (i 0)] (.block 0 (.loop zfM))) zmQ)))).1
theorem zqv:Zz.H 27 2 79 zF6 [.tmp 4]:=fun hn h =>
 zb zk Tryz.func79 (by kernel_rfl) (by kernel_rfl) (by kernel_rfl) (by omega) h
def znP:PC:=(⟨_,by delta C S b d f l m n s t;exact rfl⟩:Zz.Q (S [m 5 2,b 6 .neq 20 (t 5) (.const .nilIface) 20] (C 6 (S [m 7 2,d 8
 (.typeAssert (t 7) 20 111 false),d 3 (.alloc 111),s 111 3 8] (.ops [l 9 107 0,n 10 9,f 11 109 10 4,l 12 44 11,f 13 111 3 0,l 14 3 13,f 15 111 3 1,l 16 3 15,d
 17 (.build 48 #[(0,t 12),(1,t 14),(2,t 16)]),s 48 1 17])) .skip))).1
def zIo:PC:=(⟨_,by delta A C L S a b c d f i l m n s t w;exact rfl⟩:Zz.Q (S [d 4 (.box 57 (t 1)),A 6 (i 0)] (.seq (S [m 8 0,n 9 8,f 10 109 9
 5,l 11 3 10,b 12 .geq 3 (t 11) (i 32) 3] (C 12 (.ops [c 13 145 #[i 4] #[3]]) .skip)) (S [m 14 0,n 15 14,f 16 109 15 5,l 17 3 16,b 18 .add 3 (t 17) (i 1) 3,n 19
 14,f 20 109 19 5,s 3 20 18] (S [l 21 57 4,m 22 2,f 23 57 4 2,l 24 44 23,L 25 24 44,⟨some 26,.call ⟨.builtin .append,#[t 22,t 25],#[44,3]⟩,none,[⟨none,57,t
 4,21⟩]⟩,d 27 (.build 171 #[(0,t 21),(1,t 26)]),d 28 (.box 171 (t 27)),a 7 28] (.seq (S [m 29 0,m 30 7,f 31 57 4 4,l 32 55 31,L 33 32 55,b 34 .sub 3 (t 33) (i
 1) 3,c 35 146 #[t 29,t 30,t 34,i 0] #[107,169,3,3],b 36 .eql 3 (t 35) (i (-1)) 3,m 37 36,w 38 (.fieldAddr 57 (t 4) 3) 37 true,w 39 (.load 3 (t 38)) 37 true,w
 40 (.binOp .neq 3 (t 39) (i 0) 3) 37 true,d 41 (.pick (t 37) (t 40) (.const (.bool false)))] (C 41 (.ops [m 42 7,m 43 7,c 44 147 #[t 43] #[169],n 45 42,f 46
 171 45 3,s 3 46 44]) .skip)) (S [m 47 0,n 48 47,f 49 109 48 5,l 50 3 49,b 51 .sub 3 (t 50) (i 1) 3,n 52 47,f 53 109 52 5,s 3 53 51] (S [m 54 7,n 55 54,f 56 171
 55 3,l 57 3 56,a 6 57] .ret)))))))).1
theorem zxm:Zz.H 58 3 81 zIo [.tmp 6]:=fun hn h =>
 zb zk Tryz.func81 (by kernel_rfl) (by kernel_rfl) (by kernel_rfl) (by omega) h
def zJX:PC:=(⟨_,by delta A S a b c i m t;exact rfl⟩:Zz.Q (S [A 4 (.const (.bool false))] (S [m 5 0,m 6 1,c 7 154 #[t 5,t 6] #[44,122],b 8
 .geq 3 (t 7) (i 0) 3,a 4 8] .ret))).1
theorem zxn:Zz.H 9 2 95 zJX [.tmp 4]:=fun hn h =>
 zb zk Tryz.func95 (by kernel_rfl) (by kernel_rfl) (by kernel_rfl) (by omega) h
def znQ:PC:=(⟨_,by delta C L S a b d e i l m t x;exact rfl⟩:Zz.Q (S [b 12 .lss 3 (t 11) (t 10) 3] (.seq (C 12 .skip (.exit 0)) (.seq
 (.block 1 (S [x 13 186 9 11,l 14 44 13,a 5 14] (S [m 15 3,m 16 5,L 17 16 44,b 18 .add 3 (t 15) (t 17) 3,a 3 18] (S [m 19 3,b 20 .lss 3 (t 19) (i 0) 3] (C 20
 (.ops [d 21 (.makeInterface 9 (.const (.string ⟨#[108,101,110,32,111,117,116,32,111,102,32,114,97,110,103,101]⟩))),e (.panic (t 21))]) .skip))))) (.ops [b 22
 .add 3 (t 11) (i 1) 3,m 11 22]))))).1
def zjZ:PC:=(⟨_,by delta C S a b d i l m t x;exact rfl⟩:Zz.Q (S [b 28 .lss 3 (t 27) (t 26) 3] (.seq (C 28 .skip (.exit 2)) (.seq (.block
 3 (S [x 29 186 25 27,l 30 44 29,a 8 30] (.ops [m 31 6,m 32 8,d 33 (.call ⟨.builtin .append,#[t 31,t 32],#[44,44]⟩),a 6 33]))) (.ops [b 34 .add 3 (t 27) (i 1)
 3,m 27 34]))))).1
def zgJ:PC:=(⟨_,by delta S a m;exact rfl⟩:Zz.Q (S [m 35 6,a 2 35] .ret)).1
def znR:PC:=(⟨_,by delta L S a c d i m t;exact rfl⟩:Zz.Q (S [m 23 3,c 24 158 #[.const (.slice none 0 0),t 23] #[44,3],a 6 24] (.seq (S [m
 25 0,L 26 25 186,d 27 (.move (i 0))] (.block 2 (.loop zjZ))) zgJ))).1
def zBL:PC:=(⟨_,by delta A L S d i m;exact rfl⟩:Zz.Q (S [A 2 (.const (.slice none 0 0))] (S [A 3 (i 0)] (.seq (S [m 9 0,L 10 9 186,d 11
 (.move (i 0))] (.block 0 (.loop znQ))) znR)))).1
theorem zsM:Zz.H 36 1 105 zBL [.tmp 2]:=fun hn h =>
 zb zk Tryz.func105 (by kernel_rfl) (by kernel_rfl) (by kernel_rfl) (by omega) h
def zBM:PC:=(⟨_,by delta A S a c d m t;exact rfl⟩:Zz.Q (S [A 2 (.const (.bool false))] (S [m 3 0,c 4 107 #[t 3] #[3],d 5 (.unOp .not 4 (t
 4)),a 2 5] .ret))).1
theorem zsN:Zz.H 6 1 106 zBM [.tmp 2]:=fun hn h =>
 zb zk Tryz.func106 (by kernel_rfl) (by kernel_rfl) (by kernel_rfl) (by omega) h
def zsO:PC:=(⟨_,by delta A S a b d i m t w;exact rfl⟩:Zz.Q (S [A 2 (.const (.bool false))] (S [m 3 0,b 4 .eql 3 (t 3) (i 1) 3,m 5 4,w 6
 (.move (t 0)) 5 false,w 7 (.binOp .eql 3 (t 6) (i 2) 3) 5 false,d 8 (.pick (t 5) (.const (.bool true)) (t 7)),a 2 8] .ret))).1
theorem zsP:Zz.H 9 1 107 zsO [.tmp 2]:=fun hn h =>
 zb zk Tryz.func107 (by kernel_rfl) (by kernel_rfl) (by kernel_rfl) (by omega) h
def zd7:PC:=(⟨_,by delta C S a b c d e i l m t w x;exact rfl⟩:Zz.Q (S [b 45 .lss 3 (t 44) (t 43) 3] (.seq (C 45 .skip (.exit 4)) (.seq
 (.block 5 (S [x 46 44 42 44,l 47 3 46,a 8 47] (S [m 48 8,b 49 .geq 3 (t 48) (i 0) 3,m 50 49,w 51 (.move (t 8)) 50 true,w 52 (.move (t 3)) 50 true,w 53 (.binOp
 .lss 3 (t 51) (t 52) 3) 50 true,d 54 (.pick (t 50) (t 53) (.const (.bool false))),m 55 54,w 56 (.move (t 2)) 55 true,w 57 (.move (t 8)) 55 true,w 58
 (.indexAddr 187 (t 56) (t 57)) 55 true,w 59 (.load 4 (t 58)) 55 true,w 60 (.unOp .not 4 (t 59)) 55 true,d 61 (.pick (t 55) (t 60) (.const (.bool false))),c 62
 53 #[t 61,i 11] #[4,33]] (.ops [m 63 2,m 64 8,x 65 187 63 64,e (.store 4 (t 65) (.const (.bool true)))])))) (.ops [b 66 .add 3 (t 44) (i 1) 3,m 44 66]))))).1
def znS:PC:=(⟨_,by delta b i m t;exact rfl⟩:Zz.Q (.ops [b 67 .add 3 (t 37) (i 1) 3,m 37 67])).1
def zj0:PC:=(⟨_,by delta C L S b c d i l s t x;exact rfl⟩:Zz.Q (S [b 38 .lss 3 (t 37) (t 36) 3] (.seq (C 38 .skip (.exit 2)) (.seq
 (.block 3 (S [x 39 54 35 37,l 40 53 39,d 6 (.alloc 53),s 53 6 40] (S [l 41 53 6,c 42 159 #[t 41] #[53],L 43 42 44,d 44 (.move (i 0))] (.block 4 (.loop
 zd7))))) znS)))).1
def znT:PC:=(⟨_,by delta b i m t;exact rfl⟩:Zz.Q (.ops [b 68 .add 3 (t 30) (i 1) 3,m 30 68])).1
def zj1:PC:=(⟨_,by delta C L S a b d i l m t x;exact rfl⟩:Zz.Q (S [b 31 .lss 3 (t 30) (t 29) 3] (.seq (C 31 .skip (.exit 0)) (.seq
 (.block 1 (S [m 32 30,x 33 55 28 30,l 34 54 33,a 3 32,a 4 34] (S [m 35 4,L 36 35 54,d 37 (.move (i 0))] (.block 2 (.loop zj0))))) znT)))).1
def znU:PC:=(⟨_,by delta L b c d i m t;exact rfl⟩:Zz.Q (.ops [m 69 2,m 70 2,L 71 70 187,b 72 .sub 3 (t 71) (i 1) 3,d 73 (.slice 187 (t
 69) none (some (t 72)) none),c 74 160 #[t 73,.const (.bool false)] #[187,4],d 75 (.unOp .not 4 (t 74)),c 76 53 #[t 75,i 11] #[4,33]])).1
def zxo:PC:=(⟨_,by delta L S a b c d f i l m n t;exact rfl⟩:Zz.Q (S [m 9 0,n 10 9,f 11 74 10 1,f 12 57 11 4,l 13 55 12,L 14 13 55,b 15 .gtr
 3 (t 14) (i 0) 3,c 16 53 #[t 15,i 11] #[4,33]] (S [m 17 0,n 18 17,f 19 74 18 1,f 20 57 19 4,l 21 55 20,L 22 21 55,d 23 (.makeSlice 187 (t 22) (t 22)),a 2 23]
 (.seq (S [m 24 0,n 25 24,f 26 74 25 1,f 27 57 26 4,l 28 55 27,L 29 28 55,d 30 (.move (i 0))] (.block 0 (.loop zj1))) znU)))).1
theorem zsQ:Zz.H 77 1 108 zxo []:=fun hn h =>
 zb zk Tryz.func108 (by kernel_rfl) (by kernel_rfl) (by kernel_rfl) (by omega) h
def zfb:PC:=(⟨_,by delta C S b c d i l m s t x;exact rfl⟩:Zz.Q (S [b 23 .lss 3 (t 22) (t 21) 3] (.seq (C 23 .skip (.exit 0)) (.seq
 (.block 1 (S [x 24 54 20 22,l 25 53 24,d 8 (.alloc 53),s 53 8 25] (.ops [m 26 6,l 27 53 8,c 28 161 #[t 26,t 27] #[190,53]]))) (.ops [b 29 .add 3 (t 22) (i 1)
 3,m 22 29]))))).1
def zgK:PC:=(⟨_,by delta C L S b c f i l m n t;exact rfl⟩:Zz.Q (.seq (S [m 30 2,b 31 .eql 3 (t 30) (i 0) 3] (C 31 (.ops [m 32 6,c 33 162
 #[t 32] #[190]]) .skip)) (.ops [m 34 6,n 35 34,f 36 192 35 1,l 37 44 36,L 38 37 44,b 39 .eql 3 (t 38) (i 0) 3,c 40 53 #[t 39,i 14] #[4,33]]))).1
def zBN:PC:=(⟨_,by delta L S a d f i l m n t x;exact rfl⟩:Zz.Q (S [m 9 0,m 10 2,d 11 (.build 192 #[(0,t 9),(3,t 10)]),d 12 (.box 192 (t
 11)),a 6 12] (.seq (S [m 13 0,n 14 13,f 15 74 14 1,f 16 57 15 4,l 17 55 16,m 18 1,x 19 55 17 18,l 20 54 19,L 21 20 54,d 22 (.move (i 0))] (.block 0 (.loop
 zfb))) zgK))).1
theorem zsR:Zz.H 41 3 109 zBN []:=fun hn h =>
 zb zk Tryz.func109 (by kernel_rfl) (by kernel_rfl) (by kernel_rfl) (by omega) h
def zBO:PC:=(⟨_,by delta A S a b c d f i l m n s t;exact rfl⟩:Zz.Q (S [A 2 (.const (.string ⟨#[]⟩))] (S [m 6 0,n 7 6,f 8 77 7 0,l 9 9 8,c 10
 115 #[t 9] #[9],m 5 10,d 11 (.extract (t 5) 0),d 12 (.extract (t 5) 1),a 3 11,a 4 12] (S [m 13 3,b 14 .neq 9 (t 13) (.const (.string ⟨#[]⟩)) 9,c 15 61 #[t 14,i
 2] #[4,33]] (S [m 16 0,m 17 4,n 18 16,f 19 77 18 0,s 9 19 17] (S [m 20 3,a 2 20] .ret)))))).1
theorem zsS:Zz.H 21 1 110 zBO [.tmp 2]:=fun hn h =>
 zb zk Tryz.func110 (by kernel_rfl) (by kernel_rfl) (by kernel_rfl) (by omega) h
def zBP:PC:=(⟨_,by delta A S a c m t;exact rfl⟩:Zz.Q (S [A 4 (.const (.string ⟨#[]⟩))] (S [m 5 0,m 6 1,c 7 164 #[t 5,t 6] #[9,9],a 4 7]
 .ret))).1
theorem zsT:Zz.H 8 2 113 zBP [.tmp 4]:=fun hn h =>
 zb zk Tryz.func113 (by kernel_rfl) (by kernel_rfl) (by kernel_rfl) (by omega) h
def zBQ:PC:=(⟨_,by delta A C L S a b c d i m t w;exact rfl⟩:Zz.Q (S [A 2 (.const (.string ⟨#[]⟩)),A 3 (.const (.string ⟨#[]⟩))] (S [m 5 0,c
 6 167 #[t 5,.const (.string ⟨#[32,10]⟩)] #[9,9],a 0 6] (.seq (S [m 7 0,b 8 .eql 9 (t 7) (.const (.string ⟨#[]⟩)) 9] (C 8 (S [A 2 (.const (.string ⟨#[]⟩)),A 3
 (.const (.string ⟨#[]⟩))] .ret) .skip)) (S [A 4 (i 1)] (.seq (S [m 9 0,d 10 (.index 9 (t 9) (i 0))] (.block 0 (.seq (S [b 18 .eql 5 (t 10) (.const (.int .u8
 40)) 5,a 17 18] (C 17 .skip (.ops [b 19 .eql 5 (t 10) (.const (.int .u8 41)) 5,a 17 19]))) (C 17 .skip (S [b 21 .eql 5 (t 10) (.const (.int .u8 34)) 5,a 20 21]
 (C 20 (S [m 22 0,d 23 (.slice 9 (t 22) (some (i 1)) none none),c 24 168 #[t 23,.const (.string ⟨#[34,10]⟩)] #[9,9],b 25 .add 3 (t 24) (i 2) 3,a 4 25] (S [m 26
 4,b 27 .lss 3 (t 26) (i 2) 3,m 28 27,w 29 (.move (t 0)) 28 false,w 30 (.move (t 4)) 28 false,w 31 (.binOp .sub 3 (t 30) (i 1) 3) 28 false,w 32 (.index 9 (t 29)
 (t 31)) 28 false,w 33 (.binOp .neq 5 (t 32) (.const (.int .u8 34)) 5) 28 false,d 34 (.pick (t 28) (.const (.bool true)) (t 33))] (C 34 (S [m 35 0,A 2 (.const
 (.string ⟨#[]⟩)),a 3 35] .ret) .skip))) (S [m 11 0,c 12 168 #[t 11,.const (.string ⟨#[32,10,40,41,34]⟩)] #[9,9],a 4 12] (S [m 13 4,b 14 .lss 3 (t 13) (i 0) 3]
 (C 14 (.ops [m 15 0,L 16 15 9,a 4 16]) .skip))))))))) (S [m 36 0,m 37 4,d 38 (.slice 9 (t 36) none (some (t 37)) none),m 39 0,m 40 4,d 41 (.slice 9 (t 39)
 (some (t 40)) none none),a 2 38,a 3 41] .ret))))))).1
theorem zsU:Zz.H 42 1 115 zBQ [.tmp 2, .tmp 3]:=fun hn h =>
 zb zk Tryz.func115 (by kernel_rfl) (by kernel_rfl) (by kernel_rfl) (by omega) h
def zBR:PC:=(⟨_,by delta A S a c d m t;exact rfl⟩:Zz.Q (S [A 4 (.const (.string ⟨#[]⟩)),A 5 (.const (.bool false))] (S [m 6 0,m 7 1,c 8 169
 #[t 6,t 7] #[9,9],d 9 (.extract (t 8) 0),d 10 (.extract (t 8) 1),a 4 9,a 5 10] .ret))).1
theorem zsV:Zz.H 11 2 116 zBR [.tmp 4, .tmp 5]:=fun hn h =>
 zb zk Tryz.func116 (by kernel_rfl) (by kernel_rfl) (by kernel_rfl) (by omega) h
def zsW:PC:=(⟨_,by delta A L S a b d i m t w;exact rfl⟩:Zz.Q (S [A 2 (.const (.bool false))] (S [m 3 0,L 4 3 9,b 5 .geq 3 (t 4) (i 1) 3,m 6
 5,w 7 (.move (t 0)) 6 true,w 8 (.call ⟨.builtin .len,#[t 7],#[9]⟩) 6 true,w 9 (.binOp .leq 3 (t 8) (i 24) 3) 6 true,d 10 (.pick (t 6) (t 9) (.const (.bool
 false))),m 11 10,w 12 (.move (t 0)) 11 true,w 13 (.call ⟨.value (.func 62),#[t 12,.const (.string
 ⟨#[97,98,99,100,101,102,103,104,105,106,107,108,109,110,111,112,113,114,115,116,117,118,119,120,121,122,95,48,49,50,51,52,53,54,55,56,57]⟩)],#[9,9]⟩) 11 true,w
 14 (.binOp .eql 9 (t 13) (.const (.string ⟨#[]⟩)) 9) 11 true,d 15 (.pick (t 11) (t 14) (.const (.bool false))),m 16 15,w 17 (.move (t 0)) 16 true,w 18 (.index
 9 (t 17) (i 0)) 16 true,w 19 (.convert 5 21 (t 18)) 16 true,w 20 (.call ⟨.value (.func 170),#[.const (.string
 ⟨#[97,98,99,100,101,102,103,104,105,106,107,108,109,110,111,112,113,114,115,116,117,118,119,120,121,122,95]⟩),t 19],#[9,21]⟩) 16 true,d 21 (.pick (t 16) (t 20)
 (.const (.bool false))),a 2 21] .ret))).1
theorem zsX:Zz.H 22 1 117 zsW [.tmp 2]:=fun hn h =>
 zb zk Tryz.func117 (by kernel_rfl) (by kernel_rfl) (by kernel_rfl) (by omega) h
def znV:PC:=(⟨_,by delta C S a b c d i m t w;exact rfl⟩:Zz.Q (.block 1 (S [m 4 0,c 5 110 #[t 4] #[75],a 3 5] (S [m 6 3] (.block 2 (S [b
 17 .eql 9 (t 6) (.const (.string ⟨#[105,51,50]⟩)) 9,a 16 17] (C 16 (.ops [m 18 2,d 19 (.buildSlice 44 1 #[(0,i 1)]),d 20 (.call ⟨.builtin .append,#[t 18,t
 19],#[44,44]⟩),a 2 20]) (S [b 22 .eql 9 (t 6) (.const (.string ⟨#[105,54,52]⟩)) 9,a 21 22] (C 21 (.ops [m 23 2,d 24 (.buildSlice 44 1 #[(0,i 2)]),d 25 (.call
 ⟨.builtin .append,#[t 23,t 24],#[44,44]⟩),a 2 25]) (S [m 7 3,b 8 .eql 9 (t 7) (.const (.string ⟨#[41]⟩)) 9,m 9 8,w 10 (.move (t 2)) 9 true,w 11 (.call
 ⟨.builtin .len,#[t 10],#[44]⟩) 9 true,w 12 (.binOp .gtr 3 (t 11) (i 0) 3) 9 true,d 13 (.pick (t 9) (t 12) (.const (.bool false))),c 14 61 #[t 13,i 2] #[4,33]]
 (S [m 15 2,a 2 15] .ret))))))))))).1
def zBS:PC:=(⟨_,by delta A S;exact rfl⟩:Zz.Q (S [A 2 (.const (.slice none 0 0))] (.block 0 (.loop znV)))).1
theorem zsY:Zz.H 26 1 118 zBS [.tmp 2]:=fun hn h =>
 zb zk Tryz.func118 (by kernel_rfl) (by kernel_rfl) (by kernel_rfl) (by omega) h
def zfc:PC:=(⟨_,by delta C L S a b d f i l m n s t x;exact rfl⟩:Zz.Q (S [b 17 .lss 3 (t 16) (t 15) 3] (.seq (C 17 .skip (.exit 2)) (.seq
 (.block 3 (S [x 18 22 14 16,l 19 9 18,a 11 19] (S [m 20 9,m 21 11,b 22 .eql 9 (t 20) (t 21) 9] (C 22 (S [m 23 0,m 24 0,n 25 24,f 26 77 25 1,l 27 55 26,m 28 8,d
 29 (.buildSlice 55 1 #[(0,t 28)]),d 30 (.call ⟨.builtin .append,#[t 27,t 29],#[55,55]⟩),n 31 23,f 32 77 31 1,s 55 32 30] (S [m 33 0,n 34 33,f 35 77 34 1,l 36
 55 35,L 37 36 55,b 38 .sub 3 (t 37) (i 1) 3,m 39 9,a 6 38,a 7 39] .ret)) .skip)))) (.ops [b 40 .add 3 (t 16) (i 1) 3,m 16 40]))))).1
def znW:PC:=(⟨_,by delta a c d m t;exact rfl⟩:Zz.Q (.ops [m 41 8,m 42 0,m 43 9,m 44 1,c 45 171 #[t 42,t 43,t 44] #[75,9,3],d 46
 (.buildSlice 54 1 #[(0,t 45)]),d 47 (.call ⟨.builtin .append,#[t 41,t 46],#[54,54]⟩),a 8 47])).1
def zj2:PC:=(⟨_,by delta L S a c d i m t;exact rfl⟩:Zz.Q (.block 1 (S [m 12 0,c 13 110 #[t 12] #[75],a 9 13] (.seq (S [m 14 2,L 15 14
 22,d 16 (.move (i 0))] (.block 2 (.loop zfc))) znW)))).1
def zBT:PC:=(⟨_,by delta A S i;exact rfl⟩:Zz.Q (S [A 6 (i 0),A 7 (.const (.string ⟨#[]⟩))] (S [A 8 (.const (.slice none 0 0))] (.block 0
 (.loop zj2))))).1
theorem zsZ:Zz.H 48 3 119 zBT [.tmp 6, .tmp 7]:=fun hn h =>
 zb zk Tryz.func119 (by kernel_rfl) (by kernel_rfl) (by kernel_rfl) (by omega) h
def zj3:PC:=(⟨_,by delta A C L S a b d e i l m s t x;exact rfl⟩:Zz.Q (.seq (S [m 6 4,m 7 0,L 8 7 9,b 9 .lss 3 (t 6) (t 8) 3] (C 9 .skip
 (.exit 0))) (.seq (.block 1 (S [m 12 0,m 13 4,d 14 (.index 9 (t 12) (t 13)),a 5 14] (.seq (S [m 15 5,b 16 .geq 5 (t 15) (.const (.int .u8 128)) 5] (C 16 (S [l
 17 151 2,s 151 2 17,A 3 (.const (.bool false))] .ret) .skip)) (.ops [m 18 5,x 19 151 2 18,e (.store 4 (t 19) (.const (.bool true)))])))) (.ops [m 10 4,b 11
 .add 3 (t 10) (i 1) 3,a 4 11])))).1
def znX:PC:=(⟨_,by delta A S l s;exact rfl⟩:Zz.Q (S [l 20 151 2,s 151 2 20,A 3 (.const (.bool true))] .ret)).1
def zBU:PC:=(⟨_,by delta A S d i;exact rfl⟩:Zz.Q (S [d 2 (.alloc 151),A 3 (.const (.bool false))] (.seq (S [A 4 (i 0)] (.block 0 (.loop
 zj3))) znX))).1
theorem zs0:Zz.H 21 1 122 zBU [.cell 2 151, .tmp 3]:=fun hn h =>
 zb zk Tryz.func122 (by kernel_rfl) (by kernel_rfl) (by kernel_rfl) (by omega) h
def zj4:PC:=(⟨_,by delta C L S a b c d i m t;exact rfl⟩:Zz.Q (.seq (S [m 5 0,L 6 5 9,b 7 .gtr 3 (t 6) (i 0) 3] (C 7 .skip (.exit 0)))
 (.block 1 (.seq (S [m 8 1,m 9 0,d 10 (.index 9 (t 9) (i 0)),c 11 172 #[t 8,t 10] #[155,5],d 12 (.unOp .not 4 (t 11))] (C 12 (.exit 0) .skip)) (.ops [m 13 0,d
 14 (.slice 9 (t 13) (some (i 1)) none none),a 0 14]))))).1
def zj5:PC:=(⟨_,by delta S a m;exact rfl⟩:Zz.Q (S [m 15 0,a 4 15] .ret)).1
def zBV:PC:=(⟨_,by delta A S;exact rfl⟩:Zz.Q (S [A 4 (.const (.string ⟨#[]⟩))] (.seq (.block 0 (.loop zj4)) zj5))).1
theorem zs1:Zz.H 16 2 123 zBV [.tmp 4]:=fun hn h =>
 zb zk Tryz.func123 (by kernel_rfl) (by kernel_rfl) (by kernel_rfl) (by omega) h
def zj6:PC:=(⟨_,by delta C L S a b c d i m t;exact rfl⟩:Zz.Q (.seq (S [m 5 0,L 6 5 9,b 7 .gtr 3 (t 6) (i 0) 3] (C 7 .skip (.exit 0)))
 (.block 1 (.seq (S [m 8 1,m 9 0,m 10 0,L 11 10 9,b 12 .sub 3 (t 11) (i 1) 3,d 13 (.index 9 (t 9) (t 12)),c 14 172 #[t 8,t 13] #[155,5],d 15 (.unOp .not 4 (t
 14))] (C 15 (.exit 0) .skip)) (.ops [m 16 0,m 17 0,L 18 17 9,b 19 .sub 3 (t 18) (i 1) 3,d 20 (.slice 9 (t 16) none (some (t 19)) none),a 0 20]))))).1
def zj7:PC:=(⟨_,by delta S a m;exact rfl⟩:Zz.Q (S [m 21 0,a 4 21] .ret)).1
def zBW:PC:=(⟨_,by delta A S;exact rfl⟩:Zz.Q (S [A 4 (.const (.string ⟨#[]⟩))] (.seq (.block 0 (.loop zj6)) zj7))).1
theorem zs2:Zz.H 22 2 124 zBW [.tmp 4]:=fun hn h =>
 zb zk Tryz.func124 (by kernel_rfl) (by kernel_rfl) (by kernel_rfl) (by omega) h
def zxp:PC:=(⟨_,by delta A L S a f i l m n;exact rfl⟩:Zz.Q (S [A 2 (i 0)] (S [m 3 0,n 4 3,f 5 86 4 1,l 6 32 5,L 7 6 32,a 2 7] .ret))).1
theorem zs3:Zz.H 8 1 127 zxp [.tmp 2]:=fun hn h =>
 zb zk Tryz.func127 (by kernel_rfl) (by kernel_rfl) (by kernel_rfl) (by omega) h
def zBX:PC:=(⟨_,by delta A S c d f l m n s t;exact rfl⟩:Zz.Q (S [A 4 (.const .nilIface)] (S [m 5 0,c 6 175 #[t 5] #[84]] (S [m 7 0,m 8 0,n 9
 8,f 10 86 9 1,l 11 32 10,m 12 1,d 13 (.buildSlice 32 1 #[(0,t 12)]),d 14 (.call ⟨.builtin .append,#[t 11,t 13],#[32,32]⟩),n 15 7,f 16 86 15 1,s 32 16 14] (S [A
 4 (.const .nilIface)] .ret))))).1
theorem zs4:Zz.H 17 2 128 zBX [.tmp 4]:=fun hn h =>
 zb zk Tryz.func128 (by kernel_rfl) (by kernel_rfl) (by kernel_rfl) (by omega) h
def zBY:PC:=(⟨_,by delta A L S a c d f i l m n s t;exact rfl⟩:Zz.Q (S [A 4 (i 0),A 5 (.const .nilIface)] (S [m 6 0,c 7 175 #[t 6] #[84]] (S
 [m 8 0,m 9 0,n 10 9,f 11 86 10 1,l 12 32 11,m 13 1,d 14 (.call ⟨.builtin .append,#[t 12,t 13],#[32,9]⟩),n 15 8,f 16 86 15 1,s 32 16 14] (S [m 17 1,L 18 17 9,a
 4 18,A 5 (.const .nilIface)] .ret))))).1
theorem zs5:Zz.H 19 2 129 zBY [.tmp 4, .tmp 5]:=fun hn h =>
 zb zk Tryz.func129 (by kernel_rfl) (by kernel_rfl) (by kernel_rfl) (by omega) h
def zxq:PC:=(⟨_,by delta A C S a b i m t;exact rfl⟩:Zz.Q (S [A 2 (.const (.string ⟨#[]⟩))] (.seq (S [m 3 0] (.block 0 (S [b 5 .eql 3 (t 3)
 (i 1) 3,a 4 5] (C 4 (S [A 2 (.const (.string ⟨#[105,51,50]⟩))] .ret) (S [b 7 .eql 3 (t 3) (i 2) 3,a 6 7] (C 6 (S [A 2 (.const (.string ⟨#[105,54,52]⟩))] .ret)
 .skip)))))) (S [A 2 (.const (.string ⟨#[]⟩))] .ret)))).1
theorem zs6:Zz.H 8 1 131 zxq [.tmp 2]:=fun hn h =>
 zb zk Tryz.func131 (by kernel_rfl) (by kernel_rfl) (by kernel_rfl) (by omega) h
def zs7:PC:=(⟨_,by delta A C S a b i m t;exact rfl⟩:Zz.Q (S [A 2 (.const (.string ⟨#[]⟩))] (.seq (S [m 3 0] (.block 0 (S [b 5 .eql 3 (t 3)
 (i 11) 3,a 4 5] (C 4 (S [A 2 (.const (.string ⟨#[98,108,111,99,107]⟩))] .ret) (S [b 7 .eql 3 (t 3) (i 12) 3,a 6 7] (C 6 (S [A 2 (.const (.string
 ⟨#[108,111,111,112]⟩))] .ret) .skip)))))) (S [A 2 (.const (.string ⟨#[105,102]⟩))] .ret)))).1
theorem zs8:Zz.H 8 1 132 zs7 [.tmp 2]:=fun hn h =>
 zb zk Tryz.func132 (by kernel_rfl) (by kernel_rfl) (by kernel_rfl) (by omega) h
def zel:PC:=(⟨_,by delta A C S a b c d f i l t;exact rfl⟩:Zz.Q (S [d 1 (.box 53 (t 0)),A 2 (.const (.string ⟨#[]⟩))] (.seq (S [f 3 53 1 0,l
 4 3 3] (.block 0 (S [b 6 .eql 3 (t 4) (i 1) 3,a 5 6] (C 5 (S [f 7 53 1 1,l 8 3 7,c 9 131 #[t 8] #[3],b 10 .add 9 (t 9) (.const (.string
 ⟨#[46,99,111,110,115,116]⟩)) 9,a 2 10] .ret) (S [b 12 .eql 3 (t 4) (i 2) 3,a 11 12] (C 11 (S [A 2 (.const (.string ⟨#[108,111,99,97,108,46,103,101,116]⟩))]
 .ret) (S [b 14 .eql 3 (t 4) (i 3) 3,a 13 14] (C 13 (S [A 2 (.const (.string ⟨#[108,111,99,97,108,46,115,101,116]⟩))] .ret) (S [b 16 .eql 3 (t 4) (i 10) 3,a 15
 16] (C 15 (S [A 2 (.const (.string ⟨#[99,97,108,108]⟩))] .ret) (S [b 18 .eql 3 (t 4) (i 14) 3,a 17 18] (C 17 (S [A 2 (.const (.string ⟨#[98,114]⟩))] .ret) (S
 [b 20 .eql 3 (t 4) (i 15) 3,a 19 20] (C 19 (S [A 2 (.const (.string ⟨#[98,114,95,105,102]⟩))] .ret) (S [b 22 .eql 3 (t 4) (i 4) 3,a 21 22] (C 21 (S [f 23 53 1
 1,l 24 3 23,f 27 53 1 5,l 28 9 27,⟨some 25,.call ⟨.value (.func 131),#[t 24],#[3]⟩,none,[⟨none,9,t 27,28⟩]⟩,b 26 .add 9 (t 25) (.const (.string ⟨#[46]⟩)) 9,b
 29 .add 9 (t 26) (t 28) 9,a 2 29] .ret) (S [b 31 .eql 3 (t 4) (i 5) 3,a 30 31] (C 30 (S [f 32 53 1 1,l 33 3 32,c 34 131 #[t 33] #[3],b 35 .add 9 (t 34) (.const
 (.string ⟨#[46,101,113,122]⟩)) 9,a 2 35] .ret) (S [b 37 .eql 3 (t 4) (i 6) 3,a 36 37] (C 36 (S [A 2 (.const (.string
 ⟨#[105,51,50,46,119,114,97,112,95,105,54,52]⟩))] .ret) (S [b 39 .eql 3 (t 4) (i 7) 3,a 38 39] (C 38 (S [A 2 (.const (.string
 ⟨#[105,54,52,46,101,120,116,101,110,100,95,105,51,50,95,115]⟩))] .ret) (S [b 41 .eql 3 (t 4) (i 8) 3,a 40 41] (C 40 (S [f 42 53 1 1,l 43 3 42,f 45 53 1 2,l 46
 3 45,⟨some 44,.call ⟨.value (.func 131),#[t 43],#[3]⟩,none,[⟨none,3,t 45,46⟩]⟩,c 47 177 #[t 46,.const (.string ⟨#[46,108,111,97,100,56,95,115]⟩),.const
 (.string ⟨#[46,108,111,97,100]⟩)] #[3,9,9],b 48 .add 9 (t 44) (t 47) 9,a 2 48] .ret) (S [b 50 .eql 3 (t 4) (i 9) 3,a 49 50] (C 49 (S [f 51 53 1 1,l 52 3 51,f
 54 53 1 2,l 55 3 54,⟨some 53,.call ⟨.value (.func 131),#[t 52],#[3]⟩,none,[⟨none,3,t 54,55⟩]⟩,c 56 177 #[t 55,.const (.string
 ⟨#[46,115,116,111,114,101,56]⟩),.const (.string ⟨#[46,115,116,111,114,101]⟩)] #[3,9,9],b 57 .add 9 (t 53) (t 56) 9,a 2 57] .ret) (S [b 59 .eql 3 (t 4) (i 16)
 3,a 58 59] (C 58 (S [A 2 (.const (.string ⟨#[114,101,116,117,114,110]⟩))] .ret) (S [b 61 .eql 3 (t 4) (i 17) 3,a 60 61] (C 60 (S [A 2 (.const (.string
 ⟨#[117,110,114,101,97,99,104,97,98,108,101]⟩))] .ret) .skip)))))))))))))))))))))))))))))) (S [A 2 (.const (.string ⟨#[100,114,111,112]⟩))] .ret)))).1
theorem zs9:Zz.H 62 1 133 zel [.tmp 2]:=fun hn h =>
 zb zk Tryz.func133 (by kernel_rfl) (by kernel_rfl) (by kernel_rfl) (by omega) h
def zBZ:PC:=(⟨_,by delta A S a d e i l m s t;exact rfl⟩:Zz.Q (S [d 2 (.alloc 53),A 3 (.const (.bool false))] (S [d 7 (.makeMap 208 none),d 8
 (.build 53 #[(0,i 1),(1,i 1)]),e (.insert 208 (t 7) (.const (.string ⟨#[105,51,50,46,99,111,110,115,116]⟩)) (t 8)),d 9 (.build 53 #[(0,i 1),(1,i 2)]),e
 (.insert 208 (t 7) (.const (.string ⟨#[105,54,52,46,99,111,110,115,116]⟩)) (t 9)),d 10 (.build 53 #[(0,i 2)]),e (.insert 208 (t 7) (.const (.string
 ⟨#[108,111,99,97,108,46,103,101,116]⟩)) (t 10)),d 11 (.build 53 #[(0,i 3)]),e (.insert 208 (t 7) (.const (.string ⟨#[108,111,99,97,108,46,115,101,116]⟩)) (t
 11)),d 12 (.build 53 #[(0,i 10)]),e (.insert 208 (t 7) (.const (.string ⟨#[99,97,108,108]⟩)) (t 12)),d 13 (.build 53 #[(0,i 14)]),e (.insert 208 (t 7) (.const
 (.string ⟨#[98,114]⟩)) (t 13)),d 14 (.build 53 #[(0,i 15)]),e (.insert 208 (t 7) (.const (.string ⟨#[98,114,95,105,102]⟩)) (t 14)),m 15 7,m 16 0,d 17 (.lookup
 208 (t 15) (t 16) true),m 6 17,d 18 (.extract (t 6) 0),d 19 (.extract (t 6) 1),d 4 (.alloc 53),s 53 4 18,a 5 19] (S [l 20 53 4,m 21 5,s 53 2 20,a 3 21] .ret))
 )).1
theorem zta:Zz.H 22 1 134 zBZ [.cell 2 53, .tmp 3]:=fun hn h =>
 zb zk Tryz.func134 (by kernel_rfl) (by kernel_rfl) (by kernel_rfl) (by omega) h
def zB0:PC:=(⟨_,by delta A S a b d f l m t w;exact rfl⟩:Zz.Q (S [d 2 (.box 57 (t 0)),d 3 (.box 57 (t 1)),A 4 (.const (.bool false))] (S [f 5
 57 2 0,l 6 9 5,f 7 57 3 0,l 8 9 7,b 9 .eql 9 (t 6) (t 8) 9,m 10 9,w 11 (.fieldAddr 57 (t 2) 3) 10 true,w 12 (.load 3 (t 11)) 10 true,w 13 (.fieldAddr 57 (t 3)
 3) 10 true,w 14 (.load 3 (t 13)) 10 true,w 15 (.binOp .eql 3 (t 12) (t 14) 3) 10 true,d 16 (.pick (t 10) (t 15) (.const (.bool false))),m 17 16,w 18
 (.fieldAddr 57 (t 2) 1) 17 true,w 19 (.load 44 (t 18)) 17 true,w 20 (.fieldAddr 57 (t 3) 1) 17 true,w 21 (.load 44 (t 20)) 17 true,w 22 (.call ⟨.value (.func
 79),#[t 19,t 21],#[44,44]⟩) 17 true,d 23 (.pick (t 17) (t 22) (.const (.bool false))),m 24 23,w 25 (.fieldAddr 57 (t 2) 2) 24 true,w 26 (.load 44 (t 25)) 24
 true,w 27 (.fieldAddr 57 (t 3) 2) 24 true,w 28 (.load 44 (t 27)) 24 true,w 29 (.call ⟨.value (.func 79),#[t 26,t 28],#[44,44]⟩) 24 true,d 30 (.pick (t 24) (t
 29) (.const (.bool false))),m 31 30,w 32 (.fieldAddr 57 (t 2) 4) 31 true,w 33 (.load 55 (t 32)) 31 true,w 34 (.fieldAddr 57 (t 3) 4) 31 true,w 35 (.load 55 (t
 34)) 31 true,w 36 (.call ⟨.value (.func 180),#[t 33,t 35],#[55,55]⟩) 31 true,d 37 (.pick (t 31) (t 36) (.const (.bool false))),a 4 37] .ret))).1
theorem ztb:Zz.H 38 2 140 zB0 [.tmp 4]:=fun hn h =>
 zb zk Tryz.func140 (by kernel_rfl) (by kernel_rfl) (by kernel_rfl) (by omega) h
def zxr:PC:=(⟨_,by delta C S b d e i m t;exact rfl⟩:Zz.Q (S [m 2 0,b 3 .neq 3 (t 2) (i 0) 3] (C 3 (.ops [m 4 0,d 5 (.build 111 #[(0,i
 2),(1,t 4)]),d 6 (.makeInterface 111 (t 5)),e (.panic (t 6))]) .skip))).1
theorem ztc:Zz.H 7 1 145 zxr []:=fun hn h =>
 zb zk Tryz.func145 (by kernel_rfl) (by kernel_rfl) (by kernel_rfl) (by omega) h
def zaW:PC:=(⟨_,by delta A C S a b c d e f i l m n s t x;exact rfl⟩:Zz.Q (S [b 28 .lss 3 (t 27) (t 26) 3] (.seq (C 28 .skip (.exit 0))
 (.seq (.block 1 (S [x 29 54 25 27,l 30 53 29,d 11 (.alloc 53),s 53 11 30] (.seq (S [m 31 0,n 32 31,f 33 109 32 2,l 34 3 33,b 35 .lss 3 (t 34) (i 1) 3] (C 35
 (.ops [d 36 (.build 111 #[(0,i 3),(1,i 0)]),d 37 (.makeInterface 111 (t 36)),e (.panic (t 37))]) .skip)) (S [m 38 0,n 39 38,f 40 109 39 2,l 41 3 40,b 42 .sub 3
 (t 41) (i 1) 3,n 43 38,f 44 109 43 2,s 3 44 42] (S [A 12 (i (-1))] (.seq (S [f 45 53 11 0,l 46 3 45] (.block 2 (.seq (S [b 52 .eql 3 (t 46) (i 11) 3,a 51 52]
 (C 51 .skip (S [b 53 .eql 3 (t 46) (i 12) 3,a 51 53] (C 51 .skip (.ops [b 54 .eql 3 (t 46) (i 13) 3,a 51 54]))))) (C 51 (.ops [m 55 0,m 56 1,l 57 53 11,m 58
 3,b 59 .add 3 (t 58) (i 1) 3,c 60 181 #[t 55,t 56,t 57,t 59] #[107,169,53,3],a 12 60]) (.seq (S [b 62 .eql 3 (t 46) (i 14) 3,a 61 62] (C 61 .skip (S [b 63 .eql
 3 (t 46) (i 15) 3,a 61 63] (C 61 .skip (.ops [b 64 .eql 3 (t 46) (i 16) 3,a 61 64]))))) (C 61 (.ops [m 65 1,l 66 53 11,m 67 3,c 68 182 #[t 65,t 66,t 67]
 #[169,53,3],a 12 68]) (.ops [m 47 0,m 48 1,l 49 53 11,c 50 183 #[t 47,t 48,t 49] #[107,169,53]]))))))) (S [m 69 12,b 70 .neq 3 (t 69) (i (-1)) 3] (C 70 (S [m
 71 1,m 72 1,n 73 72,f 74 171 73 2,l 75 44 74,m 76 9,d 77 (.slice 44 (t 75) none (some (t 76)) none),n 78 71,f 79 171 78 2,s 44 79 77] (S [m 80 12,a 8 80]
 .ret)) .skip)))))))) (.ops [b 81 .add 3 (t 27) (i 1) 3,m 27 81]))))).1
def zgL:PC:=(⟨_,by delta A S i;exact rfl⟩:Zz.Q (S [A 8 (i (-1))] .ret)).1
def zB1:PC:=(⟨_,by delta A L S a d f i l m n x;exact rfl⟩:Zz.Q (S [A 8 (i 0)] (S [m 13 1,n 14 13,f 15 171 14 2,l 16 44 15,L 17 16 44,a 9 17]
 (.seq (S [m 18 1,n 19 18,f 20 171 19 0,f 21 57 20 4,l 22 55 21,m 23 2,x 24 55 22 23,l 25 54 24,L 26 25 54,d 27 (.move (i 0))] (.block 0 (.loop zaW)))
 zgL)))).1
theorem ztd:Zz.H 82 4 146 zB1 [.tmp 8]:=fun hn h =>
 zb zk Tryz.func146 (by kernel_rfl) (by kernel_rfl) (by kernel_rfl) (by omega) h
def zB2:PC:=(⟨_,by delta A L S a b d f i l m n s t x;exact rfl⟩:Zz.Q (S [A 2 (i 0)] (S [m 4 0,n 5 4,f 6 171 5 2,l 7 44 6,m 8 0,n 9 8,f 10
 171 9 2,l 11 44 10,L 12 11 44,b 13 .sub 3 (t 12) (i 1) 3,x 14 44 7 13,l 15 3 14,a 3 15] (S [m 16 0,m 17 0,n 18 17,f 19 171 18 2,l 20 44 19,m 21 0,n 22 21,f 23
 171 22 2,l 24 44 23,L 25 24 44,b 26 .sub 3 (t 25) (i 1) 3,d 27 (.slice 44 (t 20) none (some (t 26)) none),n 28 16,f 29 171 28 2,s 44 29 27] (S [m 30 3,a 2 30]
 .ret))))).1
theorem zte:Zz.H 31 1 147 zB2 [.tmp 2]:=fun hn h =>
 zb zk Tryz.func147 (by kernel_rfl) (by kernel_rfl) (by kernel_rfl) (by omega) h
def zj8:PC:=(⟨_,by delta C S a b d i l m t x;exact rfl⟩:Zz.Q (S [b 9 .lss 3 (t 8) (t 7) 3] (.seq (C 9 .skip (.exit 0)) (.seq (.block 1 (S
 [m 10 8,a 5 10] (S [m 11 1,m 12 0,m 13 5,x 14 44 12 13,l 15 3 14,d 16 (.call ⟨.value (t 11),#[t 15],#[3]⟩)] (C 16 (S [m 17 5,a 4 17] .ret) .skip)))) (.ops [b
 18 .add 3 (t 8) (i 1) 3,m 8 18]))))).1
def znY:PC:=(⟨_,by delta A S i;exact rfl⟩:Zz.Q (S [A 4 (i (-1))] .ret)).1
def zB3:PC:=(⟨_,by delta A L S d i m;exact rfl⟩:Zz.Q (S [A 4 (i 0)] (.seq (S [m 6 0,L 7 6 44,d 8 (.move (i 0))] (.block 0 (.loop zj8)))
 znY))).1
theorem ztf:Zz.H 19 2 154 zB3 [.tmp 4]:=fun hn h =>
 zb zk Tryz.func154 (by kernel_rfl) (by kernel_rfl) (by kernel_rfl) (by omega) h
def zgM:PC:=(⟨_,by delta C S a b i l m t x;exact rfl⟩:Zz.Q (S [b 9 .lss 3 (t 8) (t 7) 3] (.seq (C 9 .skip (.exit 0)) (.seq (.block 1 (S
 [m 10 8,a 5 10] (S [m 11 1,m 12 0,m 13 5,x 14 22 12 13,l 15 9 14,b 16 .eql 9 (t 11) (t 15) 9] (C 16 (S [m 17 5,a 4 17] .ret) .skip)))) (.ops [b 18 .add 3 (t 8)
 (i 1) 3,m 8 18]))))).1
def znZ:PC:=(⟨_,by delta A S i;exact rfl⟩:Zz.Q (S [A 4 (i (-1))] .ret)).1
def zB4:PC:=(⟨_,by delta A L S d i m;exact rfl⟩:Zz.Q (S [A 4 (i 0)] (.seq (S [m 6 0,L 7 6 22,d 8 (.move (i 0))] (.block 0 (.loop zgM)))
 znZ))).1
theorem ztg:Zz.H 19 2 157 zB4 [.tmp 4]:=fun hn h =>
 zb zk Tryz.func157 (by kernel_rfl) (by kernel_rfl) (by kernel_rfl) (by omega) h
def zxs:PC:=(⟨_,by delta A C L S a b d e i m t;exact rfl⟩:Zz.Q (S [A 4 (.const (.slice none 0 0))] (.seq (S [m 5 1,b 6 .lss 3 (t 5) (i 0) 3]
 (C 6 (.ops [d 7 (.makeInterface 9 (.const (.string ⟨#[99,97,110,110,111,116,32,98,101,32,110,101,103,97,116,105,118,101]⟩))),e (.panic (t 7))]) .skip)) (.seq
 (S [m 8 1,m 9 0,d 10 (.call ⟨.builtin .cap,#[t 9],#[44]⟩),m 11 0,L 12 11 44,b 13 .sub 3 (t 10) (t 12) 3,b 14 .sub 3 (t 8) (t 13) 3,a 1 14] (S [m 15 1,b 16 .gtr
 3 (t 15) (i 0) 3] (C 16 (.ops [m 17 0,m 18 0,d 19 (.call ⟨.builtin .cap,#[t 18],#[44]⟩),d 20 (.slice 44 (t 17) none (some (t 19)) none),m 21 1,d 22 (.call
 ⟨.builtin .append,#[t 20,t 21],#[44,3]⟩),m 23 0,L 24 23 44,d 25 (.slice 44 (t 22) none (some (t 24)) none),a 0 25]) .skip))) (S [m 26 0,a 4 26] .ret))))).1
theorem zth:Zz.H 27 2 158 zxs [.tmp 4]:=fun hn h =>
 zb zk Tryz.func158 (by kernel_rfl) (by kernel_rfl) (by kernel_rfl) (by omega) h
def zoZ:PC:=(⟨_,by delta A C S a b d f i l m t w;exact rfl⟩:Zz.Q (S [d 1 (.box 53 (t 0)),A 2 (.const (.slice none 0 0))] (.seq (.block 0
 (.seq (S [f 4 53 1 0,l 5 3 4,b 6 .eql 3 (t 5) (i 11) 3,a 3 6] (C 3 .skip (S [f 7 53 1 0,l 8 3 7,b 9 .eql 3 (t 8) (i 12) 3,a 3 9] (C 3 .skip (.ops [f 10 53 1
 0,l 11 3 10,b 12 .eql 3 (t 11) (i 13) 3,m 13 12,w 14 (.fieldAddr 53 (t 1) 4) 13 true,w 15 (.load 3 (t 14)) 13 true,w 16 (.binOp .lss 3 (t 15) (i 0) 3) 13
 true,d 17 (.pick (t 13) (t 16) (.const (.bool false))),a 3 17]))))) (C 3 (S [f 18 53 1 3,l 19 3 18,d 20 (.buildSlice 44 1 #[(0,t 19)]),a 2 20] .ret) (S [f 22
 53 1 0,l 23 3 22,b 24 .eql 3 (t 23) (i 13) 3,a 21 24] (C 21 (S [f 25 53 1 3,l 26 3 25,f 27 53 1 4,l 28 3 27,d 29 (.buildSlice 44 2 #[(0,t 26),(1,t 28)]),a 2
 29] .ret) .skip))))) (S [A 2 (.const (.slice none 0 0))] .ret)))).1
theorem zti:Zz.H 30 1 159 zoZ [.tmp 2]:=fun hn h =>
 zb zk Tryz.func159 (by kernel_rfl) (by kernel_rfl) (by kernel_rfl) (by omega) h
def zB5:PC:=(⟨_,by delta A S a b c i m t;exact rfl⟩:Zz.Q (S [A 4 (.const (.bool false))] (S [m 5 0,m 6 1,c 7 190 #[t 5,t 6] #[187,4],b 8
 .geq 3 (t 7) (i 0) 3,a 4 8] .ret))).1
theorem ztj:Zz.H 9 2 160 zB5 [.tmp 4]:=fun hn h =>
 zb zk Tryz.func160 (by kernel_rfl) (by kernel_rfl) (by kernel_rfl) (by omega) h
def zB6:PC:=(⟨_,by delta C S a b c d f i l m n t;exact rfl⟩:Zz.Q (S [d 3 (.box 53 (t 1))] (S [l 4 53 3,c 5 191 #[t 4] #[53],c 6 53 #[t 5,i
 2] #[4,33]] (S [m 7 0,l 8 53 3,c 9 192 #[t 7,t 8] #[190,53],c 10 53 #[t 9,i 11] #[4,33]] (S [f 11 53 3 0,l 12 3 11] (.block 0 (.seq (S [b 17 .eql 3 (t 12) (i
 11) 3,a 16 17] (C 16 .skip (.ops [b 18 .eql 3 (t 12) (i 12) 3,a 16 18]))) (C 16 (.ops [m 19 0,n 20 19,f 21 192 20 0,l 22 72 21,f 23 53 3 3,l 24 3 23,m 25 0,n
 26 25,f 27 192 26 3,l 28 3 27,b 29 .add 3 (t 28) (i 1) 3,c 30 109 #[t 22,t 24,t 29] #[72,3,3]]) (S [b 32 .eql 3 (t 12) (i 13) 3,a 31 32] (C 31 (S [m 33 0,d 34
 (.buildSlice 44 1 #[(0,i 1)]),c 35 193 #[t 33,t 34] #[190,44]] (S [m 36 0,n 37 36,f 38 192 37 0,l 39 72 38,f 40 53 3 3,l 41 3 40,m 42 0,n 43 42,f 44 192 43 3,l
 45 3 44,b 46 .add 3 (t 45) (i 1) 3,c 47 109 #[t 39,t 41,t 46] #[72,3,3]] (S [f 48 53 3 4,l 49 3 48,b 50 .geq 3 (t 49) (i 0) 3] (C 50 (.ops [m 51 0,n 52 51,f 53
 192 52 0,l 54 72 53,f 55 53 3 4,l 56 3 55,m 57 0,n 58 57,f 59 192 58 3,l 60 3 59,b 61 .add 3 (t 60) (i 1) 3,c 62 109 #[t 54,t 56,t 61] #[72,3,3]]) .skip)))) (S
 [b 64 .eql 3 (t 12) (i 15) 3,a 63 64] (C 63 (S [m 65 0,d 66 (.buildSlice 44 1 #[(0,i 1)]),c 67 193 #[t 65,t 66] #[190,44]] (S [f 68 53 3 2,l 69 3 68,m 70 0,n
 71 70,f 72 192 71 3,l 73 3 72,b 74 .eql 3 (t 69) (t 73) 3] (C 74 (S [m 75 0,c 76 162 #[t 75] #[190]] (.ops [m 77 0,m 78 0,n 79 78,f 80 192 79 0,l 81 72 80,n 82
 81,f 83 74 82 1,f 84 57 83 3,l 85 3 84,c 86 194 #[t 77,t 85] #[190,3]])) .skip))) (S [b 88 .eql 3 (t 12) (i 14) 3,a 87 88] (C 87 (.seq (S [f 89 53 3 2,l 90 3
 89,m 91 0,n 92 91,f 93 192 92 3,l 94 3 93,b 95 .eql 3 (t 90) (t 94) 3] (C 95 (.ops [m 96 0,c 97 162 #[t 96] #[190]]) .skip)) (.ops [m 98 0,c 99 195 #[t 98]
 #[190]])) (S [b 101 .eql 3 (t 12) (i 16) 3,a 100 101] (C 100 (S [m 102 0,c 103 162 #[t 102] #[190]] (.ops [m 104 0,c 105 195 #[t 104] #[190]])) (S [b 107 .eql
 3 (t 12) (i 17) 3,a 106 107] (C 106 (.ops [m 108 0,c 109 195 #[t 108] #[190]]) (.ops [m 13 0,l 14 53 3,c 15 196 #[t 13,t 14] #[190,53]]))))))))))))))))))).1
theorem ztk:Zz.H 110 2 161 zB6 []:=fun hn h =>
 zb zk Tryz.func161 (by kernel_rfl) (by kernel_rfl) (by kernel_rfl) (by omega) h
def zxt:PC:=(⟨_,by delta C S b c d f i l m n t;exact rfl⟩:Zz.Q (S [m 2 0,n 3 2,f 4 192 3 0,l 5 72 4,n 6 5,f 7 74 6 1,f 8 57 7 3,l 9 3 8,b 10
 .neq 3 (t 9) (i 0) 3] (C 10 (.ops [m 11 0,m 12 0,n 13 12,f 14 192 13 0,l 15 72 14,n 16 15,f 17 74 16 1,f 18 57 17 3,l 19 3 18,d 20 (.buildSlice 44 1 #[(0,t
 19)]),c 21 193 #[t 11,t 20] #[190,44]]) .skip))).1
theorem ztl:Zz.H 22 1 162 zxt []:=fun hn h =>
 zb zk Tryz.func162 (by kernel_rfl) (by kernel_rfl) (by kernel_rfl) (by omega) h
def zB7:PC:=(⟨_,by delta A C L S a c d m t;exact rfl⟩:Zz.Q (S [A 4 (.const (.string ⟨#[]⟩))] (.seq (S [m 5 0,m 6 1,c 7 199 #[t 5,t 6]
 #[9,9]] (C 7 (S [m 8 0,m 9 1,L 10 9 9,d 11 (.slice 9 (t 8) (some (t 10)) none none),a 4 11] .ret) .skip)) (S [m 12 0,a 4 12] .ret)))).1
theorem ztm:Zz.H 13 2 164 zB7 [.tmp 4]:=fun hn h =>
 zb zk Tryz.func164 (by kernel_rfl) (by kernel_rfl) (by kernel_rfl) (by omega) h
def zxu:PC:=(⟨_,by delta A C L S a b c d i m s t w;exact rfl⟩:Zz.Q (S [A 4 (.const (.string ⟨#[]⟩))] (.seq (S [m 7 0,b 8 .eql 9 (t 7)
 (.const (.string ⟨#[]⟩)) 9,m 9 8,w 10 (.move (t 1)) 9 false,w 11 (.binOp .eql 9 (t 10) (.const (.string ⟨#[]⟩)) 9) 9 false,d 12 (.pick (t 9) (.const (.bool
 true)) (t 11))] (C 12 (S [m 13 0,a 4 13] .ret) .skip)) (.seq (S [m 14 1,L 15 14 9,b 16 .eql 3 (t 15) (i 1) 3,m 17 16,w 18 (.move (t 1)) 17 true,w 19 (.index 9
 (t 18) (i 0)) 17 true,w 20 (.binOp .lss 5 (t 19) (.const (.int .u8 128)) 5) 17 true,d 21 (.pick (t 17) (t 20) (.const (.bool false)))] (C 21 (S [m 22 0,m 23
 1,d 24 (.index 9 (t 23) (i 0)),c 25 120 #[t 22,t 24] #[9,5],a 4 25] .ret) .skip)) (.seq (S [m 27 1,c 28 122 #[t 27] #[9],m 26 28,d 29 (.extract (t 26) 0),d 30
 (.extract (t 26) 1),d 5 (.alloc 151),s 151 5 29,a 6 30] (S [m 31 6] (C 31 (S [m 32 0,c 33 123 #[t 32,t 5] #[9,155],a 4 33] .ret) .skip))) (S [m 34 0,m 35 1,c
 36 125 #[t 34,t 35] #[9,9],a 4 36] .ret)))))).1
theorem ztn:Zz.H 37 2 167 zxu [.tmp 4]:=fun hn h =>
 zb zk Tryz.func167 (by kernel_rfl) (by kernel_rfl) (by kernel_rfl) (by omega) h
def zj9:PC:=(⟨_,by delta C L S a b c d i m t;exact rfl⟩:Zz.Q (.seq (S [m 33 8,m 34 0,L 35 34 9,b 36 .lss 3 (t 33) (t 35) 3] (C 36 .skip
 (.exit 0))) (.seq (.block 1 (S [m 39 0,m 40 8,d 41 (.index 9 (t 39) (t 40)),c 42 172 #[t 6,t 41] #[151,5]] (C 42 (S [m 43 8,a 4 43] .ret) .skip))) (.ops [m 37
 8,b 38 .add 3 (t 37) (i 1) 3,a 8 38])))).1
def zn0:PC:=(⟨_,by delta A S i;exact rfl⟩:Zz.Q (S [A 4 (i (-1))] .ret)).1
def zto:PC:=(⟨_,by delta C S a b c d i m t;exact rfl⟩:Zz.Q (S [d 46 (.next (t 45) true),d 47 (.extract (t 46) 0)] (.seq (C 47 .skip
 (.exit 2)) (.block 3 (S [d 48 (.extract (t 46) 1),d 49 (.extract (t 46) 2),a 9 48,a 10 49] (S [m 50 1,m 51 10,c 52 205 #[t 50,t 51] #[9,21],b 53 .geq 3 (t 52)
 (i 0) 3] (C 53 (S [m 54 9,a 4 54] .ret) .skip))))))).1
def ztp:PC:=(⟨_,by delta A S i;exact rfl⟩:Zz.Q (S [A 4 (i (-1))] .ret)).1
def ztq:PC:=(⟨_,by delta S d m t;exact rfl⟩:Zz.Q (.seq (S [m 44 0,d 45 (.range 9 (t 44))] (.block 2 (.loop zto))) ztp)).1
def zB8:PC:=(⟨_,by delta A C L S a b c d i m s t;exact rfl⟩:Zz.Q (S [A 4 (i 0)] (.seq (S [m 11 1,b 12 .eql 9 (t 11) (.const (.string ⟨#[]⟩))
 9] (C 12 (S [A 4 (i (-1))] .ret) .skip)) (.seq (S [m 13 1,L 14 13 9,b 15 .eql 3 (t 14) (i 1) 3] (C 15 (S [m 16 1,d 17 (.index 9 (t 16) (i 0)),d 18 (.convert 5
 21 (t 17)),a 5 18] (.seq (S [m 19 5,b 20 .geq 21 (t 19) (.const (.int .i32 128)) 21] (C 20 (.ops [A 5 (.const (.int .i32 65533))]) .skip)) (S [m 21 0,m 22 5,c
 23 205 #[t 21,t 22] #[9,21],a 4 23] .ret))) .skip)) (.seq (S [m 24 0,L 25 24 9,c 26 206 #[t 25] #[3]] (C 26 (S [m 28 1,c 29 122 #[t 28] #[9],m 27 29,d 30
 (.extract (t 27) 0),d 31 (.extract (t 27) 1),d 6 (.alloc 151),s 151 6 30,a 7 31] (S [m 32 7] (C 32 (.seq (S [A 8 (i 0)] (.block 0 (.loop zj9))) zn0)
 .skip))) .skip)) ztq))))).1
theorem ztr:Zz.H 55 2 168 zB8 [.tmp 4]:=fun hn h =>
 zb zk Tryz.func168 (by kernel_rfl) (by kernel_rfl) (by kernel_rfl) (by omega) h
def zB9:PC:=(⟨_,by delta A C L S a c d m t;exact rfl⟩:Zz.Q (S [A 4 (.const (.string ⟨#[]⟩)),A 5 (.const (.bool false))] (.seq (S [m 6 0,m 7
 1,c 8 199 #[t 6,t 7] #[9,9],d 9 (.unOp .not 4 (t 8))] (C 9 (S [m 10 0,a 4 10,A 5 (.const (.bool false))] .ret) .skip)) (S [m 11 0,m 12 1,L 13 12 9,d 14 (.slice
 9 (t 11) (some (t 13)) none none),a 4 14,A 5 (.const (.bool true))] .ret)))).1
theorem zts:Zz.H 15 2 169 zB9 [.tmp 4, .tmp 5]:=fun hn h =>
 zb zk Tryz.func169 (by kernel_rfl) (by kernel_rfl) (by kernel_rfl) (by omega) h
def zCa:PC:=(⟨_,by delta C S a b c d e f i l m s t;exact rfl⟩:Zz.Q (S [d 6 (.alloc 53)] (S [d 12 (.makeMap 242 none),e (.insert 242 (t 12)
 (.const (.string ⟨#[98,108,111,99,107]⟩)) (i 11)),e (.insert 242 (t 12) (.const (.string ⟨#[108,111,111,112]⟩)) (i 12)),e (.insert 242 (t 12) (.const (.string
 ⟨#[105,102]⟩)) (i 13)),m 13 12,m 14 1,d 15 (.lookup 242 (t 13) (t 14) false),a 7 15] (.seq (S [m 16 7,b 17 .neq 3 (t 16) (i 0) 3] (C 17 (S [m 18 0,m 19 7,m 20
 2,b 21 .add 3 (t 20) (i 1) 3,c 22 207 #[t 18,t 19,t 21] #[75,3,3],s 53 6 22] .ret) .skip)) (.seq (S [m 24 1,c 25 134 #[t 24] #[9],m 23 25,d 26 (.extract (t 23)
 0),d 27 (.extract (t 23) 1),d 8 (.alloc 53),s 53 8 26,a 9 27] (S [m 28 9] (C 28 (S [m 29 0,c 30 58 #[t 29] #[75],f 31 53 8 2,s 3 31 30] (S [l 32 53 8,s 53 6
 32] .ret)) .skip))) (S [m 34 1,c 35 208 #[t 34] #[9],m 33 35,d 36 (.extract (t 33) 0),d 37 (.extract (t 33) 1),d 10 (.alloc 53),s 53 10 36,a 11 37] (S [m 38
 11,c 39 61 #[t 38,i 2] #[4,33]] (S [l 40 53 10,s 53 6 40] .ret)))))))).1
theorem ztt:Zz.H 41 3 171 zCa [.cell 6 53]:=fun hn h =>
 zb zk Tryz.func171 (by kernel_rfl) (by kernel_rfl) (by kernel_rfl) (by omega) h
def zCb:PC:=(⟨_,by delta A S a l m n x;exact rfl⟩:Zz.Q (S [A 4 (.const (.bool false))] (S [m 5 0,m 6 1,n 7 5,x 8 151 7 6,l 9 4 8,a 4 9]
 .ret))).1
theorem ztu:Zz.H 10 2 172 zCb [.tmp 4]:=fun hn h =>
 zb zk Tryz.func172 (by kernel_rfl) (by kernel_rfl) (by kernel_rfl) (by omega) h
def ztv:PC:=(⟨_,by delta A C S a b i m t;exact rfl⟩:Zz.Q (S [A 6 (.const (.string ⟨#[]⟩))] (.seq (S [m 7 0] (.block 0 (S [b 9 .eql 3 (t 7)
 (i 1) 3,a 8 9] (C 8 (S [m 10 1,a 6 10] .ret) (.seq (S [b 12 .eql 3 (t 7) (i 4) 3,a 11 12] (C 11 .skip (.ops [b 13 .eql 3 (t 7) (i 8) 3,a 11 13]))) (C 11 (S [m
 14 2,a 6 14] .ret) .skip)))))) (S [A 6 (.const (.string ⟨#[]⟩))] .ret)))).1
theorem ztw:Zz.H 15 3 177 ztv [.tmp 6]:=fun hn h =>
 zb zk Tryz.func177 (by kernel_rfl) (by kernel_rfl) (by kernel_rfl) (by omega) h
def zka:PC:=(⟨_,by delta A C L S a b c d i l m t x;exact rfl⟩:Zz.Q (.seq (S [m 11 5,m 12 0,L 13 12 55,b 14 .lss 3 (t 11) (t 13) 3] (C 14
 .skip (.exit 0))) (.seq (.block 1 (S [m 17 0,m 18 5,x 19 55 17 18,l 20 54 19,m 21 1,m 22 5,x 23 55 21 22,l 24 54 23,c 25 216 #[t 20,t 24] #[54,54],d 26 (.unOp
 .not 4 (t 25))] (C 26 (S [A 4 (.const (.bool false))] .ret) .skip))) (.ops [m 15 5,b 16 .add 3 (t 15) (i 1) 3,a 5 16])))).1
def zn1:PC:=(⟨_,by delta A S;exact rfl⟩:Zz.Q (S [A 4 (.const (.bool true))] .ret)).1
def zCc:PC:=(⟨_,by delta A C L S b i m t;exact rfl⟩:Zz.Q (S [A 4 (.const (.bool false))] (.seq (S [m 6 0,L 7 6 55,m 8 1,L 9 8 55,b 10 .neq 3
 (t 7) (t 9) 3] (C 10 (S [A 4 (.const (.bool false))] .ret) .skip)) (.seq (S [A 5 (i 0)] (.block 0 (.loop zka))) zn1)))).1
theorem ztx:Zz.H 27 2 180 zCc [.tmp 4]:=fun hn h =>
 zb zk Tryz.func180 (by kernel_rfl) (by kernel_rfl) (by kernel_rfl) (by omega) h
def zfd:PC:=(⟨_,by delta C S a b c d i m t w;exact rfl⟩:Zz.Q (.seq (S [m 23 9,b 24 .geq 3 (t 23) (i 0) 3] (C 24 .skip (.exit 0))) (.block
 1 (S [m 25 0,m 26 1,m 27 9,m 28 3,c 29 146 #[t 25,t 26,t 27,t 28] #[107,169,3,3],a 10 29] (.seq (S [m 30 10,b 31 .eql 3 (t 30) (i 0) 3,m 32 31,w 33 (.fieldAddr
 53 (t 6) 0) 32 true,w 34 (.load 3 (t 33)) 32 true,w 35 (.binOp .eql 3 (t 34) (i 12) 3) 32 true,d 36 (.pick (t 32) (t 35) (.const (.bool false)))] (C 36 (.exit
 1) .skip)) (.seq (S [m 37 10,b 38 .gtr 3 (t 37) (i 0) 3] (C 38 (S [m 39 10,b 40 .sub 3 (t 39) (i 1) 3,a 8 40] .ret) .skip)) (.exit 0))))))).1
def zd8:PC:=(⟨_,by delta A S i;exact rfl⟩:Zz.Q (S [A 8 (i (-1))] .ret)).1
def zxv:PC:=(⟨_,by delta A C S a b d f i l m t w;exact rfl⟩:Zz.Q (S [d 6 (.box 53 (t 2)),A 8 (i 0)] (S [f 11 53 6 3,l 12 3 11,a 9 12] (.seq
 (S [f 13 53 6 0,l 14 3 13,b 15 .eql 3 (t 14) (i 13) 3,m 16 15,w 17 (.move (t 1)) 16 true,w 18 (.call ⟨.value (.func 147),#[t 17],#[169]⟩) 16 true,w 19 (.binOp
 .eql 3 (t 18) (i 0) 3) 16 true,d 20 (.pick (t 16) (t 19) (.const (.bool false)))] (C 20 (.ops [f 21 53 6 4,l 22 3 21,a 9 22]) .skip)) (.seq (.block 0 (.loop
 zfd)) zd8))))).1
theorem zty:Zz.H 41 4 181 zxv [.tmp 8]:=fun hn h =>
 zb zk Tryz.func181 (by kernel_rfl) (by kernel_rfl) (by kernel_rfl) (by omega) h
def zmR:PC:=(⟨_,by delta A C S a b c d f i l m n s t w;exact rfl⟩:Zz.Q (S [d 4 (.box 53 (t 1)),A 6 (i 0)] (S [f 8 53 4 2,l 9 3 8,a 7 9]
 (.seq (S [f 10 53 4 0,l 11 3 10] (.block 0 (S [b 13 .eql 3 (t 11) (i 16) 3,a 12 13] (C 12 (.ops [m 14 2,a 7 14]) (S [b 16 .eql 3 (t 11) (i 15) 3,a 15 16] (C 15
 (S [m 17 0,c 18 147 #[t 17] #[169],b 19 .eql 3 (t 18) (i 0) 3] (C 19 (S [A 6 (i (-1))] .ret) .skip)) .skip)))))) (.seq (S [m 20 7,m 21 2,b 22 .eql 3 (t 20) (t
 21) 3,m 23 22,w 24 (.move (t 0)) 23 true,w 25 (.nilCheck (t 24)) 23 true,w 26 (.fieldAddr 171 (t 25) 0) 23 true,w 27 (.fieldAddr 57 (t 26) 3) 23 true,w 28
 (.load 3 (t 27)) 23 true,w 29 (.binOp .neq 3 (t 28) (i 0) 3) 23 true,d 30 (.pick (t 23) (t 29) (.const (.bool false)))] (C 30 (.ops [m 31 0,m 32 0,c 33 147 #[t
 32] #[169],n 34 31,f 35 171 34 3,s 3 35 33]) .skip)) (S [m 36 7,a 6 36] .ret)))))).1
theorem ztz:Zz.H 37 3 182 zmR [.tmp 6]:=fun hn h =>
 zb zk Tryz.func182 (by kernel_rfl) (by kernel_rfl) (by kernel_rfl) (by omega) h
def zkb:PC:=(⟨_,by delta C S a b f i l m n s t x;exact rfl⟩:Zz.Q (S [b 106 .lss 3 (t 105) (t 104) 3] (.seq (C 106 .skip (.exit 1)) (.seq
 (.block 2 (S [m 107 105,a 13 107] (.ops [m 108 0,n 109 108,f 110 109 109 3,l 111 32 110,m 112 12,m 113 13,b 114 .add 3 (t 112) (t 113) 3,m 115 11,m 116 13,b
 117 .mul 3 (i 8) (t 116) 3,b 118 .shr 3 (t 115) (t 117) 3,⟨some 119,.convert 3 5 (t 118),none,[⟨none,32,t 110,111⟩]⟩,x 120 32 111 114,s 5 120 119]))) (.ops [b
 121 .add 3 (t 105) (i 1) 3,m 105 121]))))).1
def zfN:PC:=(⟨_,by delta A C L S a b c d f i l m n s t x;exact rfl⟩:Zz.Q (S [d 5 (.box 53 (t 2))] (S [f 14 53 5 0,l 15 3 14] (.block 0 (S [b
 17 .eql 3 (t 15) (i 1) 3,a 16 17] (C 16 (.ops [m 18 1,f 19 53 5 2,l 20 3 19,c 21 217 #[t 18,t 20] #[169,3]]) (S [b 23 .eql 3 (t 15) (i 2) 3,a 22 23] (C 22
 (.ops [m 24 1,m 25 1,n 26 25,f 27 171 26 1,l 28 44 27,f 29 53 5 2,l 30 3 29,x 31 44 28 30,l 32 3 31,c 33 217 #[t 24,t 32] #[169,3]]) (S [b 35 .eql 3 (t 15) (i
 3) 3,a 34 35] (C 34 (.ops [m 36 1,n 37 36,f 38 171 37 1,l 39 44 38,f 40 53 5 2,l 41 3 40,m 42 1,⟨some 43,.call ⟨.value (.func 147),#[t
 42],#[169]⟩,none,[⟨none,44,t 38,39⟩,⟨none,3,t 40,41⟩]⟩,x 44 44 39 41,s 3 44 43]) (S [b 46 .eql 3 (t 15) (i 4) 3,a 45 46] (C 45 (S [m 47 1,c 48 147 #[t 47]
 #[169],m 49 1,c 50 147 #[t 49] #[169],a 6 48,a 7 50] (S [f 52 53 5 1,l 53 3 52,f 54 53 5 5,l 55 9 54,m 57 7,m 58 6,⟨some 56,.call ⟨.value (.func 219),#[t
 55],#[9]⟩,none,[⟨none,3,t 52,53⟩]⟩,c 59 218 #[t 53,t 56,t 57,t 58] #[3,9,3,3],m 51 59,d 60 (.extract (t 51) 0),d 61 (.extract (t 51) 1),a 8 60,a 9 61] (S [m 62
 9,c 63 145 #[t 62] #[3]] (.ops [m 64 1,m 65 8,c 66 217 #[t 64,t 65] #[169,3]])))) (S [b 68 .eql 3 (t 15) (i 5) 3,a 67 68] (C 67 (S [A 10 (i 0)] (.seq (S [m 69
 1,c 70 147 #[t 69] #[169],b 71 .eql 3 (t 70) (i 0) 3] (C 71 (.ops [A 10 (i 1)]) .skip)) (.ops [m 72 1,m 73 10,c 74 217 #[t 72,t 73] #[169,3]]))) (S [b 76 .eql
 3 (t 15) (i 6) 3,a 75 76] (C 75 (.ops [m 77 1,m 78 1,c 79 147 #[t 78] #[169],c 80 220 #[i 1,t 79] #[3,3],c 81 217 #[t 77,t 80] #[169,3]]) (S [b 83 .eql 3 (t
 15) (i 8) 3,a 82 83] (C 82 (.ops [m 84 1,m 85 0,m 86 1,f 88 53 5 2,l 89 3 88,⟨some 87,.call ⟨.value (.func 147),#[t 86],#[169]⟩,none,[⟨none,3,t 88,89⟩]⟩,c 90
 222 #[t 85,t 87,t 89] #[107,3,3],c 91 221 #[t 90] #[32],c 92 217 #[t 84,t 91] #[169,3]]) (S [b 94 .eql 3 (t 15) (i 9) 3,a 93 94] (C 93 (S [m 95 1,c 96 147 #[t
 95] #[169],m 97 1,c 98 147 #[t 97] #[169],a 11 96,a 12 98] (S [m 99 0,m 100 12,f 101 53 5 2,l 102 3 101,c 103 222 #[t 99,t 100,t 102] #[107,3,3],L 104 103 32,d
 105 (.move (i 0))] (.block 1 (.loop zkb)))) (S [b 123 .eql 3 (t 15) (i 10) 3,a 122 123] (C 122 (.ops [m 124 0,m 125 1,f 126 53 5 2,l 127 3 126,c 128 223
 #[t 124,t 125,t 127] #[107,169,3]]) (S [b 130 .eql 3 (t 15) (i 17) 3,a 129 130] (C 129 (.ops [c 131 145 #[i 5] #[3]]) (S [b 133 .eql 3 (t 15) (i 18) 3,a 132
 133] (C 132 (.ops [m 134 1,c 135 147 #[t 134] #[169]]) .skip)))))))))))))))))))))))))).1
theorem ztA:Zz.H 136 3 183 zfN []:=fun hn h =>
 zb zk Tryz.func183 (by kernel_rfl) (by kernel_rfl) (by kernel_rfl) (by omega) h
def zgN:PC:=(⟨_,by delta C S a b i l m t x;exact rfl⟩:Zz.Q (S [b 9 .lss 3 (t 8) (t 7) 3] (.seq (C 9 .skip (.exit 0)) (.seq (.block 1 (S
 [m 10 8,a 5 10] (S [m 11 1,m 12 0,m 13 5,x 14 187 12 13,l 15 4 14,b 16 .eql 4 (t 11) (t 15) 4] (C 16 (S [m 17 5,a 4 17] .ret) .skip)))) (.ops [b 18 .add 3 (t
 8) (i 1) 3,m 8 18]))))).1
def zn2:PC:=(⟨_,by delta A S i;exact rfl⟩:Zz.Q (S [A 4 (i (-1))] .ret)).1
def zCd:PC:=(⟨_,by delta A L S d i m;exact rfl⟩:Zz.Q (S [A 4 (i 0)] (.seq (S [m 6 0,L 7 6 187,d 8 (.move (i 0))] (.block 0 (.loop
 zgN))) zn2))).1
theorem ztB:Zz.H 19 2 190 zCd [.tmp 4]:=fun hn h =>
 zb zk Tryz.func190 (by kernel_rfl) (by kernel_rfl) (by kernel_rfl) (by omega) h
def zkc:PC:=(⟨_,by delta A C S a b c d f i l m t w;exact rfl⟩:Zz.Q (S [d 1 (.box 53 (t 0)),A 2 (.const (.bool false))] (.seq (S [f 3 53 1
 0,l 4 3 3] (.block 0 (.seq (S [b 6 .eql 3 (t 4) (i 1) 3,a 5 6] (C 5 .skip (.ops [b 7 .eql 3 (t 4) (i 5) 3,a 5 7]))) (C 5 (S [f 8 53 1 1,l 9 3 8,c 10 107 #[t 9]
 #[3],a 2 10] .ret) (S [b 12 .eql 3 (t 4) (i 4) 3,a 11 12] (C 11 (S [f 13 53 1 1,l 14 3 13,c 15 107 #[t 14] #[3],m 16 15,w 17 (.fieldAddr 53 (t 1) 5) 16 true,w
 18 (.load 9 (t 17)) 16 true,w 19 (.call ⟨.value (.func 219),#[t 18],#[9]⟩) 16 true,w 20 (.binOp .neq 9 (t 19) (.const (.string ⟨#[]⟩)) 9) 16 true,d 21 (.pick
 (t 16) (t 20) (.const (.bool false))),a 2 21] .ret) (.seq (S [b 23 .eql 3 (t 4) (i 8) 3,a 22 23] (C 22 .skip (.ops [b 24 .eql 3 (t 4) (i 9) 3,a 22 24]))) (C 22
 (S [f 25 53 1 1,l 26 3 25,f 27 53 1 2,l 28 3 27,c 29 228 #[t 26,t 28] #[3,3],a 2 29] .ret) .skip)))))))) (S [f 30 53 1 0,l 31 3 30,b 32 .geq 3 (t 31) (i 1) 3,m
 33 32,w 34 (.fieldAddr 53 (t 1) 0) 33 true,w 35 (.load 3 (t 34)) 33 true,w 36 (.binOp .leq 3 (t 35) (i 18) 3) 33 true,d 37 (.pick (t 33) (t 36) (.const (.bool
 false))),a 2 37] .ret)))).1
theorem ztC:Zz.H 38 1 191 zkc [.tmp 2]:=fun hn h =>
 zb zk Tryz.func191 (by kernel_rfl) (by kernel_rfl) (by kernel_rfl) (by omega) h
def zis:PC:=(⟨_,by delta A C S a b c d f i l m n s t w;exact rfl⟩:Zz.Q (S [d 3 (.box 53 (t 1)),A 4 (.const (.bool false))] (.seq (S [f 7 53
 3 0,l 8 3 7] (.block 0 (S [b 10 .eql 3 (t 8) (i 1) 3,a 9 10] (C 9 (S [f 11 53 3 1,l 12 3 11,f 13 53 3 2,l 14 3 13,f 16 53 3 2,l 17 3 16,⟨some 15,.call ⟨.value
 (.func 220),#[t 12,t 14],#[3,3]⟩,none,[⟨none,3,t 16,17⟩]⟩,b 18 .eql 3 (t 15) (t 17) 3,a 4 18] .ret) (.seq (S [b 20 .eql 3 (t 8) (i 2) 3,a 19 20] (C 19 .skip
 (.ops [b 21 .eql 3 (t 8) (i 3) 3,a 19 21]))) (C 19 (S [f 22 53 3 2,l 23 3 22,b 24 .geq 3 (t 23) (i 0) 3,m 25 24,w 26 (.fieldAddr 53 (t 3) 2) 25 true,w 27
 (.load 3 (t 26)) 25 true,w 28 (.move (t 0)) 25 true,w 29 (.nilCheck (t 28)) 25 true,w 30 (.fieldAddr 192 (t 29) 0) 25 true,w 31 (.load 72 (t 30)) 25 true,w 32
 (.nilCheck (t 31)) 25 true,w 33 (.fieldAddr 74 (t 32) 2) 25 true,w 34 (.load 44 (t 33)) 25 true,w 35 (.call ⟨.builtin .len,#[t 34],#[44]⟩) 25 true,w 36 (.binOp
 .lss 3 (t 27) (t 35) 3) 25 true,d 37 (.pick (t 25) (t 36) (.const (.bool false))),a 4 37] .ret) (S [b 39 .eql 3 (t 8) (i 10) 3,a 38 39] (C 38 (.seq (.both [[m
 41 0,n 42 41,f 43 192 42 0,l 44 72 43,n 45 44,f 46 74 45 0,l 47 28 46,f 48 53 3 2,l 49 3 48,c 50 229 #[t 47,t 49] #[28,3],m 40 50,d 51 (.extract (t 40) 0),d 52
 (.extract (t 40) 1),d 5 (.alloc 265),s 265 5 51,a 6 52],[m 41 0,n 42 41,f 43 192 42 0,l 44 72 43,n 45 44,f 46 74 45 0,l 47 28 46,f 48 53 3 2,l 49 3 48,⟨some
 5,.alloc 265,none,[⟨none,72,t 43,44⟩,⟨none,28,t 46,47⟩,⟨none,3,t 48,49⟩]⟩,c 50 229 #[t 47,t 49] #[28,3],m 40 50,d 51 (.extract (t 40) 0),d 52 (.extract (t 40)
 1),s 265 5 51,a 6 52]]) (S [m 53 6,a 4 53] .ret)) (.seq (S [b 55 .eql 3 (t 8) (i 14) 3,a 54 55] (C 54 .skip (.ops [b 56 .eql 3 (t 8) (i 15) 3,a 54 56]))) (C 54
 (S [f 57 53 3 2,l 58 3 57,b 59 .geq 3 (t 58) (i 0) 3,m 60 59,w 61 (.fieldAddr 53 (t 3) 2) 60 true,w 62 (.load 3 (t 61)) 60 true,w 63 (.move (t 0)) 60 true,w 64
 (.nilCheck (t 63)) 60 true,w 65 (.fieldAddr 192 (t 64) 3) 60 true,w 66 (.load 3 (t 65)) 60 true,w 67 (.binOp .leq 3 (t 62) (t 66) 3) 60 true,d 68 (.pick (t 60)
 (t 67) (.const (.bool false))),a 4 68] .ret) .skip)))))))))) (S [A 4 (.const (.bool true))] .ret)))).1
theorem ztD:Zz.H 69 2 192 zis [.tmp 4]:=fun hn h =>
 zb zk Tryz.func192 (by kernel_rfl) (by kernel_rfl) (by kernel_rfl) (by omega) h
def zqw:PC:=(⟨_,by delta d t;exact rfl⟩:Zz.Q (.ops [d 2 (.box 190 (t 0))])).1
def zn3:PC:=(⟨_,by delta c m t;exact rfl⟩:Zz.Q (.ops [m 7 1,c 8 230 #[t 7] #[44]])).1
def zdH:PC:=(⟨_,by delta a;exact rfl⟩:Zz.Q (.ops [a 5 10])).1
def zdI:PC:=(⟨_,by delta L S a b c d f i l m n t w;exact rfl⟩:Zz.Q (.block 1 (S [l 11 190 2,n 12 11,f 13 192 12 1,l 14 44 13,L 15 14
 44,a 6 15] (S [m 16 6,b 17 .eql 3 (t 16) (i 0) 3,m 18 17,w 19 (.load 190 (t 2)) 18 false,w 20 (.nilCheck (t 19)) 18 false,w 21 (.fieldAddr 192 (t 20) 1) 18
 false,w 22 (.load 44 (t 21)) 18 false,w 23 (.move (t 6)) 18 false,w 24 (.binOp .sub 3 (t 23) (i 1) 3) 18 false,w 25 (.indexAddr 44 (t 22) (t 24)) 18 false,w 26
 (.load 3 (t 25)) 18 false,w 27 (.move (t 5)) 18 false,w 28 (.binOp .eql 3 (t 26) (t 27) 3) 18 false,d 29 (.pick (t 18) (.const (.bool true)) (t 28)),c 30 53
 #[t 29,i 14] #[4,33]] (.ops [l 31 190 2,c 32 231 #[t 31] #[190]]))))).1
def zqx:PC:=(⟨_,by delta C S b d f i l m n s t;exact rfl⟩:Zz.Q (S [m 4 1,b 5 .neq 3 (t 4) (i 0) 3] (C 5 (.ops [m 6 0,m 7 0,n 8 7,f 9 192 8
 1,l 10 44 9,m 11 1,d 12 (.buildSlice 44 1 #[(0,t 11)]),d 13 (.call ⟨.builtin .append,#[t 10,t 12],#[44,44]⟩),n 14 6,f 15 192 14 1,s 44 15 13]) .skip))).1
theorem ztE:Zz.H 16 2 194 zqx []:=fun hn h =>
 zb zk Tryz.func194 (by kernel_rfl) (by kernel_rfl) (by kernel_rfl) (by omega) h
def zCe:PC:=(⟨_,by delta e f m n t;exact rfl⟩:Zz.Q (.ops [m 2 0,m 3 0,n 4 2,f 5 192 4 1,e (.store 44 (t 5) (.const (.slice none 0 0))),n 6
 3,f 7 192 6 2,e (.store 4 (t 7) (.const (.bool true)))])).1
theorem ztF:Zz.H 8 1 195 zCe []:=fun hn h =>
 zb zk Tryz.func195 (by kernel_rfl) (by kernel_rfl) (by kernel_rfl) (by omega) h
def zCf:PC:=(⟨_,by delta C S a b c d f i l m n s t x;exact rfl⟩:Zz.Q (S [d 3 (.box 53 (t 1))] (S [f 6 53 3 0,l 7 3 6] (.block 0 (S [b 9 .eql
 3 (t 7) (i 1) 3,a 8 9] (C 8 (.ops [m 10 0,f 11 53 3 1,l 12 3 11,c 13 194 #[t 10,t 12] #[190,3]]) (S [b 15 .eql 3 (t 7) (i 2) 3,a 14 15] (C 14 (.ops [m 16 0,m
 17 0,n 18 17,f 19 192 18 0,l 20 72 19,n 21 20,f 22 74 21 2,l 23 44 22,f 24 53 3 2,l 25 3 24,x 26 44 23 25,l 27 3 26,c 28 194 #[t 16,t 27] #[190,3]]) (S [b 30
 .eql 3 (t 7) (i 3) 3,a 29 30] (C 29 (.ops [m 31 0,m 32 0,n 33 32,f 34 192 33 0,l 35 72 34,n 36 35,f 37 74 36 2,l 38 44 37,f 39 53 3 2,l 40 3 39,x 41 44 38 40,l
 42 3 41,d 43 (.buildSlice 44 1 #[(0,t 42)]),c 44 193 #[t 31,t 43] #[190,44]]) (S [b 46 .eql 3 (t 7) (i 4) 3,a 45 46] (C 45 (S [m 47 0,f 48 53 3 1,l 49 3 48,f
 50 53 3 1,l 51 3 50,d 52 (.buildSlice 44 2 #[(0,t 49),(1,t 51)]),c 53 193 #[t 47,t 52] #[190,44]] (S [f 54 53 3 5,l 55 9 54,b 56 .add 9 (.const (.string
 ⟨#[32]⟩)) (t 55) 9,b 57 .add 9 (t 56) (.const (.string ⟨#[32]⟩)) 9,c 58 232 #[.const (.string
 ⟨#[32,101,113,32,110,101,32,108,116,95,115,32,108,101,95,115,32,103,116,95,115,32,103,101,95,115,32]⟩),t 57] #[9,9]] (C 58 (.ops [m 59 0,c 60 194 #[t 59,i 1]
 #[190,3]]) (.ops [m 61 0,f 62 53 3 1,l 63 3 62,c 64 194 #[t 61,t 63] #[190,3]])))) (S [b 66 .eql 3 (t 7) (i 5) 3,a 65 66] (C 65 (S [m 67 0,f 68 53 3 1,l 69 3
 68,d 70 (.buildSlice 44 1 #[(0,t 69)]),c 71 193 #[t 67,t 70] #[190,44]] (.ops [m 72 0,c 73 194 #[t 72,i 1] #[190,3]])) (S [b 75 .eql 3 (t 7) (i 6) 3,a 74 75]
 (C 74 (S [m 76 0,d 77 (.buildSlice 44 1 #[(0,i 2)]),c 78 193 #[t 76,t 77] #[190,44]] (.ops [m 79 0,c 80 194 #[t 79,i 1] #[190,3]])) (S [b 82 .eql 3 (t 7) (i 7)
 3,a 81 82] (C 81 (S [m 83 0,d 84 (.buildSlice 44 1 #[(0,i 1)]),c 85 193 #[t 83,t 84] #[190,44]] (.ops [m 86 0,c 87 194 #[t 86,i 2] #[190,3]])) (S [b 89 .eql 3
 (t 7) (i 8) 3,a 88 89] (C 88 (S [m 90 0,d 91 (.buildSlice 44 1 #[(0,i 1)]),c 92 193 #[t 90,t 91] #[190,44]] (.ops [m 93 0,f 94 53 3 1,l 95 3 94,c 96 194 #[t
 93,t 95] #[190,3]])) (S [b 98 .eql 3 (t 7) (i 9) 3,a 97 98] (C 97 (.ops [m 99 0,f 100 53 3 1,l 101 3 100,d 102 (.buildSlice 44 2 #[(0,i 1),(1,t 101)]),c 103
 193 #[t 99,t 102] #[190,44]]) (S [b 105 .eql 3 (t 7) (i 10) 3,a 104 105] (C 104 (.seq (.both [[m 107 0,n 108 107,f 109 192 108 0,l 110 72 109,n 111 110,f 112
 74 111 0,l 113 28 112,f 114 53 3 2,l 115 3 114,c 116 229 #[t 113,t 115] #[28,3],m 106 116,d 117 (.extract (t 106) 0),d 118 (.extract (t 106) 1),d 4 (.alloc
 265),s 265 4 117,a 5 118],[m 107 0,n 108 107,f 109 192 108 0,l 110 72 109,n 111 110,f 112 74 111 0,l 113 28 112,f 114 53 3 2,l 115 3 114,⟨some 4,.alloc
 265,none,[⟨none,72,t 109,110⟩,⟨none,28,t 112,113⟩,⟨none,3,t 114,115⟩]⟩,c 116 229 #[t 113,t 115] #[28,3],m 106 116,d 117 (.extract (t 106) 0),d 118 (.extract (t
 106) 1),s 265 4 117,a 5 118]]) (S [m 119 0,f 120 265 4 0,l 121 44 120,c 122 193 #[t 119,t 121] #[190,44]] (.ops [m 123 0,f 124 265 4 1,l 125 3 124,c 126 194
 #[t 123,t 125] #[190,3]]))) (S [b 128 .eql 3 (t 7) (i 18) 3,a 127 128] (C 127 (.ops [m 129 0,c 130 231 #[t 129] #[190]]) .skip)))))))))))))))))))))))))).1
theorem ztG:Zz.H 131 2 196 zCf []:=fun hn h =>
 zb zk Tryz.func196 (by kernel_rfl) (by kernel_rfl) (by kernel_rfl) (by omega) h
def zxw:PC:=(⟨_,by delta A L S a b d m t w;exact rfl⟩:Zz.Q (S [A 4 (.const (.bool false))] (S [m 5 0,L 6 5 9,m 7 1,L 8 7 9,b 9 .geq 3 (t 6)
 (t 8) 3,m 10 9,w 11 (.move (t 0)) 10 true,w 12 (.move (t 1)) 10 true,w 13 (.call ⟨.builtin .len,#[t 12],#[9]⟩) 10 true,w 14 (.slice 9 (t 11) none (some (t 13))
 none) 10 true,w 15 (.move (t 1)) 10 true,w 16 (.binOp .eql 9 (t 14) (t 15) 9) 10 true,d 17 (.pick (t 10) (t 16) (.const (.bool false))),a 4 17] .ret))).1
theorem ztH:Zz.H 18 2 199 zxw [.tmp 4]:=fun hn h =>
 zb zk Tryz.func199 (by kernel_rfl) (by kernel_rfl) (by kernel_rfl) (by omega) h
def zCg:PC:=(⟨_,by delta A S a b i m t;exact rfl⟩:Zz.Q (S [A 2 (.const (.bool false))] (S [m 3 0,b 4 .gtr 3 (t 3) (i 8) 3,a 2 4] .ret))).1
theorem ztI:Zz.H 5 1 206 zCg [.tmp 2]:=fun hn h =>
 zb zk Tryz.func206 (by kernel_rfl) (by kernel_rfl) (by kernel_rfl) (by omega) h
def zxx:PC:=(⟨_,by delta A C S a b c d e f i l m s t;exact rfl⟩:Zz.Q (S [d 6 (.alloc 53)] (S [m 9 2,b 10 .leq 3 (t 9) (i 400) 3,c 11 61 #[t
 10,i 3] #[4,33]] (S [m 12 1,d 13 (.build 53 #[(0,t 12)]),d 7 (.alloc 53),s 53 7 13] (.seq (S [m 14 1,b 15 .neq 3 (t 14) (i 13) 3] (C 15 (S [m 17 0,m 18 2,d 19
 (.buildSlice 22 1 #[(0,.const (.string ⟨#[101,110,100]⟩))]),c 20 119 #[t 17,t 18,t 19] #[75,3,22],m 16 20,d 21 (.extract (t 16) 0),d 22 (.extract (t 16) 1),f
 23 53 7 3,s 3 23 21] (S [l 24 53 7,s 53 6 24] .ret)) .skip)) (S [A 8 (.const (.string ⟨#[]⟩))] (S [m 26 0,m 27 2,d 28 (.buildSlice 22 2 #[(0,.const (.string
 ⟨#[101,110,100]⟩)),(1,.const (.string ⟨#[101,108,115,101]⟩))]),c 29 119 #[t 26,t 27,t 28] #[75,3,22],m 25 29,d 30 (.extract (t 25) 0),d 31 (.extract (t 25)
 1),f 32 53 7 3,s 3 32 30,a 8 31] (S [f 33 53 7 4,e (.store 3 (t 33) (i (-1)))] (.seq (S [m 34 8,b 35 .eql 9 (t 34) (.const (.string ⟨#[101,108,115,101]⟩)) 9]
 (C 35 (.ops [m 37 0,m 38 2,d 39 (.buildSlice 22 1 #[(0,.const (.string ⟨#[101,110,100]⟩))]),c 40 119 #[t 37,t 38,t 39] #[75,3,22],m 36 40,d 41 (.extract (t 36)
 0),d 42 (.extract (t 36) 1),f 43 53 7 4,s 3 43 41]) .skip)) (S [l 44 53 7,s 53 6 44] .ret)))))))))).1
theorem ztJ:Zz.H 45 3 207 zxx [.cell 6 53]:=fun hn h =>
 zb zk Tryz.func207 (by kernel_rfl) (by kernel_rfl) (by kernel_rfl) (by omega) h
def zkd:PC:=(⟨_,by delta A C S a b c d i l m s t w x;exact rfl⟩:Zz.Q (S [b 13 .lss 3 (t 12) (t 11) 3] (.seq (C 13 .skip (.exit 0)) (.seq
 (.block 1 (S [x 14 44 10 12,l 15 3 14,a 5 15] (S [m 17 0,m 18 5,c 19 131 #[t 18] #[3],b 20 .add 9 (t 19) (.const (.string ⟨#[46]⟩)) 9,c 21 116 #[t 17,t 20]
 #[9,9],m 16 21,d 22 (.extract (t 16) 0),d 23 (.extract (t 16) 1),a 6 22,a 7 23] (.seq (S [m 24 7,m 25 24,w 26 (.move (t 6)) 25 true,w 27 (.binOp .eql 9 (t 26)
 (.const (.string ⟨#[101,113,122]⟩)) 9) 25 true,d 28 (.pick (t 25) (t 27) (.const (.bool false)))] (C 28 (S [m 29 5,d 30 (.build 53 #[(0,i 5),(1,t 29)]),s 53 2
 30,A 3 (.const (.bool true))] .ret) .skip)) (S [m 31 7,m 32 31,w 33 (.call ⟨.value (.func 57),#[.const (.string
 ⟨#[97,100,100,32,115,117,98,32,109,117,108,32,100,105,118,95,115,32,114,101,109,95,115,32,97,110,100,32,111,114,32,120,111,114,32,115,104,108,32,115,104,114,95,115,32,101,113,32,110,101,32,108,116,95,115,32,108,101,95,115,32,103,116,95,115,32,103,101,95,115]⟩)],#[9]⟩)
 32 true,w 34 (.move (t 6)) 32 true,w 35 (.call ⟨.value (.func 239),#[t 33,t 34],#[22,9]⟩) 32 true,d 36 (.pick (t 32) (t 35) (.const (.bool false)))] (C 36 (S
 [m 37 5,m 38 6,d 39 (.build 53 #[(0,i 4),(1,t 37),(5,t 38)]),s 53 2 39,A 3 (.const (.bool true))] .ret) .skip)))))) (.ops [b 40 .add 3 (t 12) (i 1) 3,m 12
 40]))))).1
def zn4:PC:=(⟨_,by delta S a d e i l m s t;exact rfl⟩:Zz.Q (S [d 42 (.makeMap 208 none),d 43 (.build 53 #[(0,i 6)]),e (.insert 208 (t 42)
 (.const (.string ⟨#[105,51,50,46,119,114,97,112,95,105,54,52]⟩)) (t 43)),d 44 (.build 53 #[(0,i 7)]),e (.insert 208 (t 42) (.const (.string
 ⟨#[105,54,52,46,101,120,116,101,110,100,95,105,51,50,95,115]⟩)) (t 44)),d 45 (.build 53 #[(0,i 16)]),e (.insert 208 (t 42) (.const (.string
 ⟨#[114,101,116,117,114,110]⟩)) (t 45)),d 46 (.build 53 #[(0,i 17)]),e (.insert 208 (t 42) (.const (.string ⟨#[117,110,114,101,97,99,104,97,98,108,101]⟩)) (t
 46)),d 47 (.build 53 #[(0,i 18)]),e (.insert 208 (t 42) (.const (.string ⟨#[100,114,111,112]⟩)) (t 47)),d 48 (.build 53 #[(0,i 8),(1,i 1),(2,i 1)]),e (.insert
 208 (t 42) (.const (.string ⟨#[105,51,50,46,108,111,97,100,56,95,115]⟩)) (t 48)),d 49 (.build 53 #[(0,i 8),(1,i 1),(2,i 4)]),e (.insert 208 (t 42) (.const
 (.string ⟨#[105,51,50,46,108,111,97,100]⟩)) (t 49)),d 50 (.build 53 #[(0,i 8),(1,i 2),(2,i 8)]),e (.insert 208 (t 42) (.const (.string
 ⟨#[105,54,52,46,108,111,97,100]⟩)) (t 50)),d 51 (.build 53 #[(0,i 9),(1,i 1),(2,i 1)]),e (.insert 208 (t 42) (.const (.string
 ⟨#[105,51,50,46,115,116,111,114,101,56]⟩)) (t 51)),d 52 (.build 53 #[(0,i 9),(1,i 1),(2,i 4)]),e (.insert 208 (t 42) (.const (.string
 ⟨#[105,51,50,46,115,116,111,114,101]⟩)) (t 52)),d 53 (.build 53 #[(0,i 9),(1,i 2),(2,i 8)]),e (.insert 208 (t 42) (.const (.string
 ⟨#[105,54,52,46,115,116,111,114,101]⟩)) (t 53)),m 54 42,m 55 0,d 56 (.lookup 208 (t 54) (t 55) true),m 41 56,d 57 (.extract (t 41) 0),d 58 (.extract (t 41)
 1),d 8 (.alloc 53),s 53 8 57,a 9 58] (S [l 59 53 8,m 60 9,s 53 2 59,a 3 60] .ret))).1
def zCh:PC:=(⟨_,by delta A L S d i;exact rfl⟩:Zz.Q (S [d 2 (.alloc 53),A 3 (.const (.bool false))] (.seq (S [d 10 (.buildSlice 44 2 #[(0,i
 1),(1,i 2)]),L 11 10 44,d 12 (.move (i 0))] (.block 0 (.loop zkd))) zn4))).1
theorem ztK:Zz.H 61 1 208 zCh [.cell 2 53, .tmp 3]:=fun hn h =>
 zb zk Tryz.func208 (by kernel_rfl) (by kernel_rfl) (by kernel_rfl) (by omega) h
def zd9:PC:=(⟨_,by delta A C L S a b d i l m t x;exact rfl⟩:Zz.Q (.seq (S [m 11 5,m 12 0,L 13 12 54,b 14 .lss 3 (t 11) (t 13) 3] (C 14
 .skip (.exit 0))) (.seq (.block 1 (S [m 17 0,m 18 5,x 19 54 17 18,l 20 53 19,m 21 1,m 22 5,x 23 54 21 22,l 24 53 23,b 25 .eql 53 (t 20) (t 24) 53,d 26 (.unOp
 .not 4 (t 25))] (C 26 (S [A 4 (.const (.bool false))] .ret) .skip))) (.ops [m 15 5,b 16 .add 3 (t 15) (i 1) 3,a 5 16])))).1
def zgO:PC:=(⟨_,by delta A S;exact rfl⟩:Zz.Q (S [A 4 (.const (.bool true))] .ret)).1
def zlv:PC:=(⟨_,by delta A C L S b i m t;exact rfl⟩:Zz.Q (S [A 4 (.const (.bool false))] (.seq (S [m 6 0,L 7 6 54,m 8 1,L 9 8 54,b 10 .neq 3
 (t 7) (t 9) 3] (C 10 (S [A 4 (.const (.bool false))] .ret) .skip)) (.seq (S [A 5 (i 0)] (.block 0 (.loop zd9))) zgO)))).1
theorem ztL:Zz.H 27 2 216 zlv [.tmp 4]:=fun hn h =>
 zb zk Tryz.func216 (by kernel_rfl) (by kernel_rfl) (by kernel_rfl) (by omega) h
def zxy:PC:=(⟨_,by delta d f l m n s t;exact rfl⟩:Zz.Q (.ops [m 4 0,m 5 0,n 6 5,f 7 171 6 2,l 8 44 7,m 9 1,d 10 (.buildSlice 44 1 #[(0,t
 9)]),d 11 (.call ⟨.builtin .append,#[t 8,t 10],#[44,44]⟩),n 12 4,f 13 171 12 2,s 44 13 11])).1
theorem ztM:Zz.H 14 2 217 zxy []:=fun hn h =>
 zb zk Tryz.func217 (by kernel_rfl) (by kernel_rfl) (by kernel_rfl) (by omega) h
def ztN:PC:=(⟨_,by delta A C S a b c d i m t;exact rfl⟩:Zz.Q (S [A 8 (i 0),A 9 (i 0)] (.seq (S [m 10 0] (.block 0 (S [b 12 .eql 3 (t 10) (i
 1) 3,a 11 12] (C 11 (S [m 13 1,m 14 2,d 15 (.convert 3 21 (t 14)),m 16 3,d 17 (.convert 3 21 (t 16)),c 18 245 #[t 13,t 15,t 17,i 32] #[9,21,21,3],d 19
 (.extract (t 18) 0),d 20 (.extract (t 18) 1),a 8 19,a 9 20] .ret) (S [b 22 .eql 3 (t 10) (i 2) 3,a 21 22] (C 21 (S [m 23 1,m 24 2,m 25 3,c 26 246 #[t 23,t 24,t
 25,i 64] #[9,2,2,3],d 27 (.extract (t 26) 0),d 28 (.extract (t 26) 1),a 8 27,a 9 28] .ret) .skip)))))) (S [A 8 (i 0),A 9 (i 0)] .ret)))).1
theorem ztO:Zz.H 29 4 218 ztN [.tmp 8, .tmp 9]:=fun hn h =>
 zb zk Tryz.func218 (by kernel_rfl) (by kernel_rfl) (by kernel_rfl) (by omega) h
def zgP:PC:=(⟨_,by delta C S a b d i l m s t;exact rfl⟩:Zz.Q (S [b 7 .lss 3 (t 6) (i 16) 3] (.seq (C 7 .skip (.exit 0)) (.seq (.block 1
 (S [d 8 (.index 287 (t 5) (t 6)),d 4 (.alloc 182),s 182 4 8] (S [d 9 (.indexAddr 182 (t 4) (i 0)),l 10 9 9,m 11 0,b 12 .eql 9 (t 10) (t 11) 9] (C 12 (S [d 13
 (.indexAddr 182 (t 4) (i 1)),l 14 9 13,a 2 14] .ret) .skip)))) (.ops [b 15 .add 3 (t 6) (i 1) 3,m 6 15]))))).1
def zn5:PC:=(⟨_,by delta A S;exact rfl⟩:Zz.Q (S [A 2 (.const (.string ⟨#[]⟩))] .ret)).1
def zCi:PC:=(⟨_,by delta A S d i;exact rfl⟩:Zz.Q (S [A 2 (.const (.string ⟨#[]⟩))] (.seq (S [d 5 (.load 287 (.global 10)),d 6 (.move (i 0))]
 (.block 0 (.loop zgP))) zn5))).1
theorem ztP:Zz.H 16 1 219 zCi [.tmp 2]:=fun hn h =>
 zb zk Tryz.func219 (by kernel_rfl) (by kernel_rfl) (by kernel_rfl) (by omega) h
def zqy:PC:=(⟨_,by delta A C S a b d i m t;exact rfl⟩:Zz.Q (S [A 4 (i 0)] (.seq (S [m 5 0] (.block 0 (S [b 7 .eql 3 (t 5) (i 3) 3,a 6 7] (C
 6 (S [m 8 1,d 9 (.convert 3 288 (t 8)),d 10 (.convert 288 3 (t 9)),a 4 10] .ret) (S [b 12 .eql 3 (t 5) (i 1) 3,a 11 12] (C 11 (S [m 13 1,d 14 (.convert 3 21 (t
 13)),d 15 (.convert 21 3 (t 14)),a 4 15] .ret) (S [b 17 .eql 3 (t 5) (i 2) 3,a 16 17] (C 16 (S [m 18 1,a 4 18] .ret) .skip)))))))) (S [A 4 (i 0)] .ret)))).1
theorem ztQ:Zz.H 19 2 220 zqy [.tmp 4]:=fun hn h =>
 zb zk Tryz.func220 (by kernel_rfl) (by kernel_rfl) (by kernel_rfl) (by omega) h
def zke:PC:=(⟨_,by delta C S a b d i l m t x;exact rfl⟩:Zz.Q (S [b 10 .lss 3 (t 9) (t 8) 3] (.seq (C 10 .skip (.exit 0)) (.seq (.block 1
 (S [m 11 9,x 12 32 7 9,l 13 5 12,a 4 11,a 5 13] (.ops [m 14 3,m 15 5,d 16 (.convert 5 174 (t 15)),m 17 4,b 18 .mul 3 (i 8) (t 17) 3,b 19 .shl 174 (t 16) (t 18)
 3,b 20 .or 174 (t 14) (t 19) 174,a 3 20]))) (.ops [b 21 .add 3 (t 9) (i 1) 3,m 9 21]))))).1
def zn6:PC:=(⟨_,by delta L S a b d i m t;exact rfl⟩:Zz.Q (S [m 22 0,L 23 22 32,b 24 .mul 3 (i 8) (t 23) 3,b 25 .sub 3 (i 64) (t 24) 3,a 6
 25] (S [m 26 3,m 27 6,b 28 .shl 174 (t 26) (t 27) 3,d 29 (.convert 174 3 (t 28)),m 30 6,b 31 .shr 3 (t 29) (t 30) 3,a 2 31] .ret))).1
def zCj:PC:=(⟨_,by delta A L S d i m;exact rfl⟩:Zz.Q (S [A 2 (i 0)] (S [A 3 (.const (.int .u64 0))] (.seq (S [m 7 0,L 8 7 32,d 9 (.move (i
 0))] (.block 0 (.loop zke))) zn6)))).1
theorem ztR:Zz.H 32 1 221 zCj [.tmp 2]:=fun hn h =>
 zb zk Tryz.func221 (by kernel_rfl) (by kernel_rfl) (by kernel_rfl) (by omega) h
def ztS:PC:=(⟨_,by delta A C S a b c d f i l m n t w;exact rfl⟩:Zz.Q (S [A 6 (.const (.slice none 0 0))] (.seq (S [m 7 1,b 8 .lss 3 (t 7) (i
 0) 3,m 9 8,w 10 (.move (t 1)) 9 false,w 11 (.move (t 0)) 9 false,w 12 (.nilCheck (t 11)) 9 false,w 13 (.fieldAddr 109 (t 12) 3) 9 false,w 14 (.load 32 (t 13))
 9 false,w 15 (.call ⟨.builtin .len,#[t 14],#[32]⟩) 9 false,w 16 (.move (t 2)) 9 false,w 17 (.binOp .sub 3 (t 15) (t 16) 3) 9 false,w 18 (.binOp .gtr 3 (t 10)
 (t 17) 3) 9 false,d 19 (.pick (t 9) (.const (.bool true)) (t 18))] (C 19 (.ops [c 20 145 #[i 3] #[3]]) .skip)) (S [m 21 0,n 22 21,f 23 109 22 3,l 24 32 23,m 25
 1,m 26 1,m 27 2,b 28 .add 3 (t 26) (t 27) 3,d 29 (.slice 32 (t 24) (some (t 25)) (some (t 28)) none),a 6 29] .ret)))).1
theorem ztT:Zz.H 30 3 222 ztS [.tmp 6]:=fun hn h =>
 zb zk Tryz.func222 (by kernel_rfl) (by kernel_rfl) (by kernel_rfl) (by omega) h
def zo0:PC:=(⟨_,by delta C L S a b c d e f i l m n s t x;exact rfl⟩:Zz.Q (S [m 10 2] (.block 0 (S [b 56 .eql 3 (t 10) (i 0) 3,a 55 56] (C 55
 (.ops [m 57 1,m 58 0,c 59 247 #[t 58] #[107],c 60 217 #[t 57,t 59] #[169,3]]) (S [b 62 .eql 3 (t 10) (i 1) 3,a 61 62] (C 61 (.ops [m 63 0,m 64 0,n 65 64,f 66
 109 65 4,l 67 44 66,m 68 1,⟨some 69,.call ⟨.value (.func 147),#[t 68],#[169]⟩,none,[⟨none,44,t 66,67⟩]⟩,d 70 (.buildSlice 44 1 #[(0,t 69)]),d 71 (.call
 ⟨.builtin .append,#[t 67,t 70],#[44,44]⟩),n 72 63,f 73 109 72 4,s 44 73 71]) (S [b 75 .eql 3 (t 10) (i 2) 3,a 74 75] (C 74 (.ops [m 76 1,c 77 147 #[t 76]
 #[169],d 78 (.build 111 #[(0,i 2),(1,t 77)]),d 79 (.makeInterface 111 (t 78)),e (.panic (t 79))]) (S [m 11 0,n 12 11,f 13 109 12 0,f 14 28 13 0,l 15 26 14,m 16
 2,b 17 .sub 3 (t 16) (i 3) 3,x 18 26 15 17,l 19 57 18,d 6 (.alloc 57),s 57 6 19] (S [m 20 1,n 21 20,f 22 171 21 2,l 23 44 22,L 24 23 44,f 25 57 6 1,l 26 44
 25,L 27 26 44,b 28 .sub 3 (t 24) (t 27) 3,a 7 28] (S [m 29 1,n 30 29,f 31 171 30 2,l 32 44 31,m 33 7,d 34 (.slice 44 (t 32) (some (t 33)) none none),c 35 248
 #[t 34] #[44],a 8 35] (S [m 36 1,m 37 1,n 38 37,f 39 171 38 2,l 40 44 39,m 41 7,d 42 (.slice 44 (t 40) none (some (t 41)) none),n 43 36,f 44 171 43 2,s 44 44
 42] (S [m 45 0,l 46 57 6,m 47 8,c 48 81 #[t 45,t 46,t 47] #[107,57,44],a 9 48] (S [f 49 57 6 3,l 50 3 49,b 51 .neq 3 (t 50) (i 0) 3] (C 51 (.ops [m 52 1,m 53
 9,c 54 217 #[t 52,t 53] #[169,3]]) .skip)))))))))))))))).1
theorem ztU:Zz.H 80 3 223 zo0 []:=fun hn h =>
 zb zk Tryz.func223 (by kernel_rfl) (by kernel_rfl) (by kernel_rfl) (by omega) h
def zmS:PC:=(⟨_,by delta A S a b d i m t w;exact rfl⟩:Zz.Q (S [A 4 (.const (.bool false))] (S [m 5 0,b 6 .eql 3 (t 5) (i 1) 3,m 7 6,w 8
 (.move (t 1)) 7 true,w 9 (.binOp .eql 3 (t 8) (i 1) 3) 7 true,w 10 (.move (t 9)) 7 true,w 11 (.move (t 1)) 10 false,w 12 (.binOp .eql 3 (t 11) (i 4) 3) 10
 false,w 13 (.pick (t 10) (.const (.bool true)) (t 12)) 7 true,d 14 (.pick (t 7) (t 13) (.const (.bool false))),m 15 14,w 16 (.move (t 0)) 15 false,w 17 (.binOp
 .eql 3 (t 16) (i 2) 3) 15 false,w 18 (.move (t 17)) 15 false,w 19 (.move (t 1)) 18 true,w 20 (.binOp .eql 3 (t 19) (i 8) 3) 18 true,w 21 (.pick (t 18) (t 20)
 (.const (.bool false))) 15 false,d 22 (.pick (t 15) (.const (.bool true)) (t 21)),a 4 22] .ret))).1
theorem ztV:Zz.H 23 2 228 zmS [.tmp 4]:=fun hn h =>
 zb zk Tryz.func228 (by kernel_rfl) (by kernel_rfl) (by kernel_rfl) (by omega) h
def zmT:PC:=(⟨_,by delta A C S a b d f i l m s t w x;exact rfl⟩:Zz.Q (S [d 2 (.box 28 (t 0)),d 4 (.alloc 265),A 5 (.const (.bool false))]
 (.seq (.block 0 (S [m 8 1,b 9 .eql 3 (t 8) (i 0) 3,a 7 9] (C 7 (S [d 10 (.build 265 #[(0,.const (.slice none 0 0)),(1,i 2)]),s 265 4 10,A 5 (.const (.bool
 true))] .ret) (S [m 12 1,b 13 .eql 3 (t 12) (i 1) 3,a 11 13] (C 11 (S [d 14 (.buildSlice 44 1 #[(0,i 2)]),d 15 (.build 265 #[(0,t 14),(1,i 0)]),s 265 4 15,A 5
 (.const (.bool true))] .ret) (S [m 17 1,b 18 .eql 3 (t 17) (i 2) 3,a 16 18] (C 16 (S [d 19 (.buildSlice 44 1 #[(0,i 1)]),d 20 (.build 265 #[(0,t 19),(1,i
 0)]),s 265 4 20,A 5 (.const (.bool true))] .ret) (S [m 22 1,b 23 .lss 3 (t 22) (i 0) 3,m 24 23,w 25 (.move (t 1)) 24 false,w 26 (.binOp .sub 3 (t 25) (i 3) 3)
 24 false,w 27 (.fieldAddr 28 (t 2) 0) 24 false,w 28 (.load 26 (t 27)) 24 false,w 29 (.call ⟨.builtin .len,#[t 28],#[26]⟩) 24 false,w 30 (.binOp .geq 3 (t 26)
 (t 29) 3) 24 false,d 31 (.pick (t 24) (.const (.bool true)) (t 30)),a 21 31] (C 21 (S [d 32 (.build 265 #[]),s 265 4 32,A 5 (.const (.bool false))] .ret)
 .skip))))))))) (S [f 33 28 2 0,l 34 26 33,m 35 1,b 36 .sub 3 (t 35) (i 3) 3,x 37 26 34 36,l 38 57 37,d 6 (.alloc 57),s 57 6 38] (S [f 39 57 6 1,l 40 44 39,f 41
 57 6 3,l 42 3 41,d 43 (.build 265 #[(0,t 40),(1,t 42)]),s 265 4 43,A 5 (.const (.bool true))] .ret))))).1
theorem ztW:Zz.H 44 2 229 zmT [.cell 4 265, .tmp 5]:=fun hn h =>
 zb zk Tryz.func229 (by kernel_rfl) (by kernel_rfl) (by kernel_rfl) (by omega) h
def zCk:PC:=(⟨_,by delta A S a d t;exact rfl⟩:Zz.Q (S [d 1 (.box 44 (t 0)),A 2 (.const .nilFunc)] (S [d 3 (.makeFunc (.func 250) #[] #[t
 1]),a 2 3] .ret))).1
theorem ztX:Zz.H 4 1 230 zCk [.tmp 2]:=fun hn h =>
 zb zk Tryz.func230 (by kernel_rfl) (by kernel_rfl) (by kernel_rfl) (by omega) h
def zmU:PC:=(⟨_,by delta C L S a b c d f i l m n s t w;exact rfl⟩:Zz.Q (S [m 3 0,n 4 3,f 5 192 4 1,l 6 44 5,L 7 6 44,a 2 7] (.seq (S [m 8
 2,b 9 .eql 3 (t 8) (i 0) 3,m 10 9,w 11 (.move (t 0)) 10 true,w 12 (.nilCheck (t 11)) 10 true,w 13 (.fieldAddr 192 (t 12) 2) 10 true,w 14 (.load 4 (t 13)) 10
 true,d 15 (.pick (t 10) (t 14) (.const (.bool false)))] (C 15 .ret .skip)) (S [m 16 2,b 17 .gtr 3 (t 16) (i 0) 3,c 18 53 #[t 17,i 14] #[4,33]] (.ops [m 19 0,m
 20 0,n 21 20,f 22 192 21 1,l 23 44 22,m 24 2,b 25 .sub 3 (t 24) (i 1) 3,m 26 2,b 27 .sub 3 (t 26) (i 1) 3,d 28 (.slice 44 (t 23) none (some (t 25)) (some (t
 27))),n 29 19,f 30 192 29 1,s 44 30 28]))))).1
theorem ztY:Zz.H 31 1 231 zmU []:=fun hn h =>
 zb zk Tryz.func231 (by kernel_rfl) (by kernel_rfl) (by kernel_rfl) (by omega) h
def zCl:PC:=(⟨_,by delta A S a b c i m t;exact rfl⟩:Zz.Q (S [A 4 (.const (.bool false))] (S [m 5 0,m 6 1,c 7 157 #[t 5,t 6] #[22,9],b 8 .geq
 3 (t 7) (i 0) 3,a 4 8] .ret))).1
theorem ztZ:Zz.H 9 2 239 zCl [.tmp 4]:=fun hn h =>
 zb zk Tryz.func239 (by kernel_rfl) (by kernel_rfl) (by kernel_rfl) (by omega) h
def zt0:PC:=(⟨_,by delta A C S a b c d i m t w;exact rfl⟩:Zz.Q (S [A 8 (i 0),A 9 (i 0)] (.seq (S [m 12 0,b 13 .eql 9 (t 12) (.const (.string
 ⟨#[47]⟩)) 9,m 14 13,w 15 (.move (t 0)) 14 false,w 16 (.binOp .eql 9 (t 15) (.const (.string ⟨#[37]⟩)) 9) 14 false,d 17 (.pick (t 14) (.const (.bool true)) (t
 16))] (C 17 (S [m 19 0,m 20 1,m 21 2,c 22 256 #[t 19,t 20,t 21] #[9,21,21],m 18 22,d 23 (.extract (t 18) 0),d 24 (.extract (t 18) 1),a 10 23,a 11 24] (S [m 25
 10,d 26 (.convert 21 3 (t 25)),m 27 11,a 8 26,a 9 27] .ret)) .skip)) (S [m 28 0,m 29 1,m 30 2,m 31 3,c 32 257 #[t 28,t 29,t 30,t 31] #[9,21,21,3],d 33
 (.convert 21 3 (t 32)),a 8 33,A 9 (i 0)] .ret)))).1
theorem zt1:Zz.H 34 4 245 zt0 [.tmp 8, .tmp 9]:=fun hn h =>
 zb zk Tryz.func245 (by kernel_rfl) (by kernel_rfl) (by kernel_rfl) (by omega) h
def zt2:PC:=(⟨_,by delta A C S a b c d i m t w;exact rfl⟩:Zz.Q (S [A 8 (i 0),A 9 (i 0)] (.seq (S [m 12 0,b 13 .eql 9 (t 12) (.const (.string
 ⟨#[47]⟩)) 9,m 14 13,w 15 (.move (t 0)) 14 false,w 16 (.binOp .eql 9 (t 15) (.const (.string ⟨#[37]⟩)) 9) 14 false,d 17 (.pick (t 14) (.const (.bool true)) (t
 16))] (C 17 (S [m 19 0,m 20 1,m 21 2,c 22 258 #[t 19,t 20,t 21] #[9,2,2],m 18 22,d 23 (.extract (t 18) 0),d 24 (.extract (t 18) 1),a 10 23,a 11 24] (S [m 25
 10,m 26 11,a 8 25,a 9 26] .ret)) .skip)) (S [m 27 0,m 28 1,m 29 2,m 30 3,c 31 259 #[t 27,t 28,t 29,t 30] #[9,2,2,3],a 8 31,A 9 (i 0)] .ret)))).1
theorem zt3:Zz.H 32 4 246 zt2 [.tmp 8, .tmp 9]:=fun hn h =>
 zb zk Tryz.func246 (by kernel_rfl) (by kernel_rfl) (by kernel_rfl) (by omega) h
def zxz:PC:=(⟨_,by delta A C L S a b d f i l m n s t;exact rfl⟩:Zz.Q (S [A 2 (i 0)] (.seq (S [m 4 0,n 5 4,f 6 109 5 1,l 7 44 6,L 8 7 44,b 9
 .eql 3 (t 8) (i 0) 3] (C 9 (S [A 2 (i 0)] .ret) .skip)) (S [m 10 0,n 11 10,f 12 109 11 1,l 13 44 12,d 14 (.indexAddr 44 (t 13) (i 0)),l 15 3 14,a 3 15] (S [m
 16 0,m 17 0,n 18 17,f 19 109 18 1,l 20 44 19,d 21 (.slice 44 (t 20) (some (i 1)) none none),n 22 16,f 23 109 22 1,s 44 23 21] (S [m 24 3,a 2 24] .ret)))))).1
theorem zt4:Zz.H 25 1 247 zxz [.tmp 2]:=fun hn h =>
 zb zk Tryz.func247 (by kernel_rfl) (by kernel_rfl) (by kernel_rfl) (by omega) h
def zt5:PC:=(⟨_,by delta A C S a b d m t;exact rfl⟩:Zz.Q (S [A 2 (.const (.slice none 0 0))] (.seq (S [m 3 0,b 4 .eql 44 (t 3) (.const
 (.slice none 0 0)) 44] (C 4 (S [A 2 (.const (.slice none 0 0))] .ret) .skip)) (S [d 5 (.buildSlice 44 0 #[]),m 6 0,d 7 (.call ⟨.builtin .append,#[t 5,t
 6],#[44,44]⟩),a 2 7] .ret)))).1
theorem zt6:Zz.H 8 1 248 zt5 [.tmp 2]:=fun hn h =>
 zb zk Tryz.func248 (by kernel_rfl) (by kernel_rfl) (by kernel_rfl) (by omega) h
def zea:PC:=(⟨_,by delta C S a b d i l m t x;exact rfl⟩:Zz.Q (.seq (S [m 7 3,b 8 .geq 3 (t 7) (i 0) 3] (C 8 .skip (.exit 0))) (.seq
 (.block 1 (S [m 11 0,m 12 3,l 13 44 1,m 14 3,x 15 44 13 14,l 16 3 15,d 17 (.call ⟨.value (t 11),#[t 12,t 16],#[3,3]⟩),d 18 (.unOp .not 4 (t 17))] (C 18 .ret
 .skip))) (.ops [m 9 3,b 10 .sub 3 (t 9) (i 1) 3,a 3 10])))).1
def zCm:PC:=(⟨_,by delta L S a b i l t;exact rfl⟩:Zz.Q (S [l 4 44 1,L 5 4 44,b 6 .sub 3 (t 5) (i 1) 3,a 3 6] (.block 0 (.loop zea))
 )).1
theorem zt7:Zz.H 19 2 250 zCm []:=fun hn h =>
 zb zk Tryz.func250 (by kernel_rfl) (by kernel_rfl) (by kernel_rfl) (by omega) h
def zlw:PC:=(⟨_,by delta A C S a b d i m t w;exact rfl⟩:Zz.Q (S [A 6 (.const (.int .i32 0)),A 7 (i 0)] (.seq (.block 0 (S [m 9 2,b 10 .eql
 21 (t 9) (.const (.int .i32 0)) 21,a 8 10] (C 8 (S [A 6 (.const (.int .i32 0)),A 7 (i 1)] .ret) (S [m 12 0,b 13 .eql 9 (t 12) (.const (.string ⟨#[37]⟩)) 9,m 14
 13,w 15 (.move (t 2)) 14 true,w 16 (.binOp .eql 21 (t 15) (.const (.int .i32 (-1))) 21) 14 true,d 17 (.pick (t 14) (t 16) (.const (.bool false))),a 11 17] (C
 11 (S [A 6 (.const (.int .i32 0)),A 7 (i 0)] .ret) (S [m 19 0,b 20 .eql 9 (t 19) (.const (.string ⟨#[37]⟩)) 9,a 18 20] (C 18 (S [m 21 1,m 22 2,b 23 .rem 21 (t
 21) (t 22) 21,a 6 23,A 7 (i 0)] .ret) (S [m 25 2,b 26 .eql 21 (t 25) (.const (.int .i32 (-1))) 21,m 27 26,w 28 (.move (t 1)) 27 true,w 29 (.binOp .neq 21 (t
 28) (.const (.int .i32 0)) 21) 27 true,d 30 (.pick (t 27) (t 29) (.const (.bool false))),m 31 30,w 32 (.move (t 1)) 31 true,w 33 (.unOp .neg 21 (t 32)) 31
 true,w 34 (.move (t 1)) 31 true,w 35 (.binOp .eql 21 (t 33) (t 34) 21) 31 true,d 36 (.pick (t 31) (t 35) (.const (.bool false))),a 24 36] (C 24 (S [A 6 (.const
 (.int .i32 0)),A 7 (i 2)] .ret) .skip))))))))) (S [m 37 1,m 38 2,b 39 .quo 21 (t 37) (t 38) 21,a 6 39,A 7 (i 0)] .ret)))).1
theorem zt8:Zz.H 40 3 256 zlw [.tmp 6, .tmp 7]:=fun hn h =>
 zb zk Tryz.func256 (by kernel_rfl) (by kernel_rfl) (by kernel_rfl) (by omega) h
def zem:PC:=(⟨_,by delta A C S a b c d i m t;exact rfl⟩:Zz.Q (S [A 8 (.const (.int .i32 0))] (S [m 10 2,d 11 (.convert 21 116 (t 10)),m 12
 3,b 13 .sub 3 (t 12) (i 1) 3,d 14 (.convert 3 116 (t 13)),b 15 .and 116 (t 11) (t 14) 116,a 9 15] (.seq (S [m 16 0] (.block 0 (S [b 18 .eql 9 (t 16) (.const
 (.string ⟨#[43]⟩)) 9,a 17 18] (C 17 (S [m 19 1,m 20 2,b 21 .add 21 (t 19) (t 20) 21,a 8 21] .ret) (S [b 23 .eql 9 (t 16) (.const (.string ⟨#[45]⟩)) 9,a 22 23]
 (C 22 (S [m 24 1,m 25 2,b 26 .sub 21 (t 24) (t 25) 21,a 8 26] .ret) (S [b 28 .eql 9 (t 16) (.const (.string ⟨#[42]⟩)) 9,a 27 28] (C 27 (S [m 29 1,m 30 2,b 31
 .mul 21 (t 29) (t 30) 21,a 8 31] .ret) (S [b 33 .eql 9 (t 16) (.const (.string ⟨#[38]⟩)) 9,a 32 33] (C 32 (S [m 34 1,m 35 2,b 36 .and 21 (t 34) (t 35) 21,a 8
 36] .ret) (S [b 38 .eql 9 (t 16) (.const (.string ⟨#[124]⟩)) 9,a 37 38] (C 37 (S [m 39 1,m 40 2,b 41 .or 21 (t 39) (t 40) 21,a 8 41] .ret) (S [b 43 .eql 9 (t
 16) (.const (.string ⟨#[94]⟩)) 9,a 42 43] (C 42 (S [m 44 1,m 45 2,b 46 .xor 21 (t 44) (t 45) 21,a 8 46] .ret) (S [b 48 .eql 9 (t 16) (.const (.string
 ⟨#[60,60]⟩)) 9,a 47 48] (C 47 (S [m 49 1,m 50 9,b 51 .shl 21 (t 49) (t 50) 116,a 8 51] .ret) (S [b 53 .eql 9 (t 16) (.const (.string ⟨#[62,62]⟩)) 9,a 52 53] (C
 52 (S [m 54 1,m 55 9,b 56 .shr 21 (t 54) (t 55) 116,a 8 56] .ret) (S [b 58 .eql 9 (t 16) (.const (.string ⟨#[61,61]⟩)) 9,a 57 58] (C 57 (S [m 59 1,m 60 2,b 61
 .eql 21 (t 59) (t 60) 21,c 62 262 #[t 61] #[4],a 8 62] .ret) (S [b 64 .eql 9 (t 16) (.const (.string ⟨#[33,61]⟩)) 9,a 63 64] (C 63 (S [m 65 1,m 66 2,b 67 .neq
 21 (t 65) (t 66) 21,c 68 262 #[t 67] #[4],a 8 68] .ret) (S [b 70 .eql 9 (t 16) (.const (.string ⟨#[60]⟩)) 9,a 69 70] (C 69 (S [m 71 1,m 72 2,b 73 .lss 21 (t
 71) (t 72) 21,c 74 262 #[t 73] #[4],a 8 74] .ret) (S [b 76 .eql 9 (t 16) (.const (.string ⟨#[60,61]⟩)) 9,a 75 76] (C 75 (S [m 77 1,m 78 2,b 79 .leq 21 (t 77)
 (t 78) 21,c 80 262 #[t 79] #[4],a 8 80] .ret) (S [b 82 .eql 9 (t 16) (.const (.string ⟨#[62]⟩)) 9,a 81 82] (C 81 (S [m 83 1,m 84 2,b 85 .gtr 21 (t 83) (t 84)
 21,c 86 262 #[t 85] #[4],a 8 86] .ret) (S [b 88 .eql 9 (t 16) (.const (.string ⟨#[62,61]⟩)) 9,a 87 88] (C 87 (S [m 89 1,m 90 2,b 91 .geq 21 (t 89) (t 90) 21,c
 92 262 #[t 91] #[4],a 8 92] .ret) .skip)))))))))))))))))))))))))))))) (S [A 8 (.const (.int .i32 0))] .ret))))).1
theorem zt9:Zz.H 93 4 257 zem [.tmp 8]:=fun hn h =>
 zb zk Tryz.func257 (by kernel_rfl) (by kernel_rfl) (by kernel_rfl) (by omega) h
def zlx:PC:=(⟨_,by delta A C S a b d i m t w;exact rfl⟩:Zz.Q (S [A 6 (i 0),A 7 (i 0)] (.seq (.block 0 (S [m 9 2,b 10 .eql 2 (t 9) (i 0) 2,a
 8 10] (C 8 (S [A 6 (i 0),A 7 (i 1)] .ret) (S [m 12 0,b 13 .eql 9 (t 12) (.const (.string ⟨#[37]⟩)) 9,m 14 13,w 15 (.move (t 2)) 14 true,w 16 (.binOp .eql 2 (t
 15) (i (-1)) 2) 14 true,d 17 (.pick (t 14) (t 16) (.const (.bool false))),a 11 17] (C 11 (S [A 6 (i 0),A 7 (i 0)] .ret) (S [m 19 0,b 20 .eql 9 (t 19) (.const
 (.string ⟨#[37]⟩)) 9,a 18 20] (C 18 (S [m 21 1,m 22 2,b 23 .rem 2 (t 21) (t 22) 2,a 6 23,A 7 (i 0)] .ret) (S [m 25 2,b 26 .eql 2 (t 25) (i (-1)) 2,m 27 26,w 28
 (.move (t 1)) 27 true,w 29 (.binOp .neq 2 (t 28) (i 0) 2) 27 true,d 30 (.pick (t 27) (t 29) (.const (.bool false))),m 31 30,w 32 (.move (t 1)) 31 true,w 33
 (.unOp .neg 2 (t 32)) 31 true,w 34 (.move (t 1)) 31 true,w 35 (.binOp .eql 2 (t 33) (t 34) 2) 31 true,d 36 (.pick (t 31) (t 35) (.const (.bool false))),a 24
 36] (C 24 (S [A 6 (i 0),A 7 (i 2)] .ret) .skip))))))))) (S [m 37 1,m 38 2,b 39 .quo 2 (t 37) (t 38) 2,a 6 39,A 7 (i 0)] .ret)))).1
theorem zua:Zz.H 40 3 258 zlx [.tmp 6, .tmp 7]:=fun hn h =>
 zb zk Tryz.func258 (by kernel_rfl) (by kernel_rfl) (by kernel_rfl) (by omega) h
def zen:PC:=(⟨_,by delta A C S a b c d i m t;exact rfl⟩:Zz.Q (S [A 8 (i 0)] (S [m 10 2,d 11 (.convert 2 116 (t 10)),m 12 3,b 13 .sub 3 (t
 12) (i 1) 3,d 14 (.convert 3 116 (t 13)),b 15 .and 116 (t 11) (t 14) 116,a 9 15] (.seq (S [m 16 0] (.block 0 (S [b 18 .eql 9 (t 16) (.const (.string ⟨#[43]⟩))
 9,a 17 18] (C 17 (S [m 19 1,m 20 2,b 21 .add 2 (t 19) (t 20) 2,a 8 21] .ret) (S [b 23 .eql 9 (t 16) (.const (.string ⟨#[45]⟩)) 9,a 22 23] (C 22 (S [m 24 1,m 25
 2,b 26 .sub 2 (t 24) (t 25) 2,a 8 26] .ret) (S [b 28 .eql 9 (t 16) (.const (.string ⟨#[42]⟩)) 9,a 27 28] (C 27 (S [m 29 1,m 30 2,b 31 .mul 2 (t 29) (t 30) 2,a
 8 31] .ret) (S [b 33 .eql 9 (t 16) (.const (.string ⟨#[38]⟩)) 9,a 32 33] (C 32 (S [m 34 1,m 35 2,b 36 .and 2 (t 34) (t 35) 2,a 8 36] .ret) (S [b 38 .eql 9 (t
 16) (.const (.string ⟨#[124]⟩)) 9,a 37 38] (C 37 (S [m 39 1,m 40 2,b 41 .or 2 (t 39) (t 40) 2,a 8 41] .ret) (S [b 43 .eql 9 (t 16) (.const (.string ⟨#[94]⟩))
 9,a 42 43] (C 42 (S [m 44 1,m 45 2,b 46 .xor 2 (t 44) (t 45) 2,a 8 46] .ret) (S [b 48 .eql 9 (t 16) (.const (.string ⟨#[60,60]⟩)) 9,a 47 48] (C 47 (S [m 49 1,m
 50 9,b 51 .shl 2 (t 49) (t 50) 116,a 8 51] .ret) (S [b 53 .eql 9 (t 16) (.const (.string ⟨#[62,62]⟩)) 9,a 52 53] (C 52 (S [m 54 1,m 55 9,b 56 .shr 2 (t 54) (t
 55) 116,a 8 56] .ret) (S [b 58 .eql 9 (t 16) (.const (.string ⟨#[61,61]⟩)) 9,a 57 58] (C 57 (S [m 59 1,m 60 2,b 61 .eql 2 (t 59) (t 60) 2,c 62 263 #[t 61]
 #[4],a 8 62] .ret) (S [b 64 .eql 9 (t 16) (.const (.string ⟨#[33,61]⟩)) 9,a 63 64] (C 63 (S [m 65 1,m 66 2,b 67 .neq 2 (t 65) (t 66) 2,c 68 263 #[t 67] #[4],a
 8 68] .ret) (S [b 70 .eql 9 (t 16) (.const (.string ⟨#[60]⟩)) 9,a 69 70] (C 69 (S [m 71 1,m 72 2,b 73 .lss 2 (t 71) (t 72) 2,c 74 263 #[t 73] #[4],a 8 74]
 .ret) (S [b 76 .eql 9 (t 16) (.const (.string ⟨#[60,61]⟩)) 9,a 75 76] (C 75 (S [m 77 1,m 78 2,b 79 .leq 2 (t 77) (t 78) 2,c 80 263 #[t 79] #[4],a 8 80] .ret)
 (S [b 82 .eql 9 (t 16) (.const (.string ⟨#[62]⟩)) 9,a 81 82] (C 81 (S [m 83 1,m 84 2,b 85 .gtr 2 (t 83) (t 84) 2,c 86 263 #[t 85] #[4],a 8 86] .ret) (S [b 88
 .eql 9 (t 16) (.const (.string ⟨#[62,61]⟩)) 9,a 87 88] (C 87 (S [m 89 1,m 90 2,b 91 .geq 2 (t 89) (t 90) 2,c 92 263 #[t 91] #[4],a 8 92] .ret)
 .skip)))))))))))))))))))))))))))))) (S [A 8 (i 0)] .ret))))).1
theorem zub:Zz.H 93 4 259 zen [.tmp 8]:=fun hn h =>
 zb zk Tryz.func259 (by kernel_rfl) (by kernel_rfl) (by kernel_rfl) (by omega) h
def zCn:PC:=(⟨_,by delta A C S m;exact rfl⟩:Zz.Q (S [A 2 (.const (.int .i32 0))] (.seq (S [m 3 0] (C 3 (S [A 2 (.const (.int .i32 1))] .ret)
 .skip)) (S [A 2 (.const (.int .i32 0))] .ret)))).1
theorem zuc:Zz.H 4 1 262 zCn [.tmp 2]:=fun hn h =>
 zb zk Tryz.func262 (by kernel_rfl) (by kernel_rfl) (by kernel_rfl) (by omega) h
def zCo:PC:=(⟨_,by delta A C S i m;exact rfl⟩:Zz.Q (S [A 2 (i 0)] (.seq (S [m 3 0] (C 3 (S [A 2 (i 1)] .ret) .skip)) (S [A 2 (i 0)] .ret))
 )).1
theorem zud:Zz.H 4 1 263 zCo [.tmp 2]:=fun hn h =>
 zb zk Tryz.func263 (by kernel_rfl) (by kernel_rfl) (by kernel_rfl) (by omega) h
@[simp] theorem zJY:za9 yb9 28=some 3:=by kernel_rfl
@[simp] theorem zIp:zaO yb9 28=true:=by kernel_rfl
@[simp] theorem zF7:za yb9 30=true:=by kernel_rfl
@[simp] theorem zJZ:zcm yb9 44=some 1:=by kernel_rfl
@[simp] theorem zF8:za yb9 33=true:=by kernel_rfl
@[simp] theorem zF9:za yb9 12=true:=by kernel_rfl
@[simp] theorem zGa:za yb9 20=true:=by kernel_rfl
@[simp] theorem zGb:za yb9 19=true:=by kernel_rfl
@[simp] theorem zGc:zH yb9 28=some (.agg [.nilsl, (.int .i64 0), (.int .i64 0)]):=by kernel_rfl
@[simp] theorem zGd:za yb9 26=true:=by kernel_rfl
@[simp] theorem zGe:za yb9 18=true:=by kernel_rfl
@[simp] theorem zGf:za yb9 28=true:=by kernel_rfl
@[simp] theorem zGg:za yb9 27=true:=by kernel_rfl
@[simp] theorem zAj:zY yb9 53=true:=by kernel_rfl
@[simp] theorem zCp:zej yb9 53=true:=by kernel_rfl
@[simp] theorem zGh:zH yb9 53=some (.agg [(.int .i64 0), (.int .i64 0), (.int .i64 0), (.int .i64 0), (.int .i64 0), (.str [])]):=by kernel_rfl
@[simp] theorem zGi:zba yb9 53 0=some ⟨0, 1, false⟩:=by kernel_rfl
@[simp] theorem zGj:zba yb9 53 1=some ⟨1, 1, false⟩:=by kernel_rfl
@[simp] theorem zGk:zba yb9 53 2=some ⟨2, 1, false⟩:=by kernel_rfl
@[simp] theorem zJ0:zcm yb9 54=some 6:=by kernel_rfl
@[simp] theorem zJ1:za0 yb9 54=some (.agg [(.int .i64 0), (.int .i64 0), (.int .i64 0), (.int .i64 0), (.int .i64 0), (.str [])]):=by kernel_rfl
@[simp] theorem zJ2:zcm yb9 55=some 1:=by kernel_rfl
@[simp] theorem zJ3:za0 yb9 55=some .nilsl:=by kernel_rfl
@[simp] theorem zAk:zY yb9 57=true:=by kernel_rfl
@[simp] theorem zCq:zej yb9 57=true:=by kernel_rfl
@[simp] theorem zGl:zH yb9 57=some (.agg [(.str []), .nilsl, .nilsl, (.int .i64 0), .nilsl]):=by kernel_rfl
@[simp] theorem zGm:zba yb9 57 0=some ⟨0, 1, false⟩:=by kernel_rfl
@[simp] theorem zGn:zba yb9 57 3=some ⟨3, 1, false⟩:=by kernel_rfl
@[simp] theorem zGo:zba yb9 57 4=some ⟨4, 1, false⟩:=by kernel_rfl
@[simp] theorem zJ4:zcm yb9 26=some 5:=by kernel_rfl
@[simp] theorem zJ5:za0 yb9 26=some (.agg [(.str []), .nilsl, .nilsl, (.int .i64 0), .nilsl]):=by kernel_rfl
@[simp] theorem zAl:zY yb9 28=true:=by kernel_rfl
@[simp] theorem zCr:zej yb9 28=true:=by kernel_rfl
@[simp] theorem zGp:zba yb9 28 1=some ⟨1, 1, false⟩:=by kernel_rfl
@[simp] theorem zGq:zba yb9 28 0=some ⟨0, 1, false⟩:=by kernel_rfl
@[simp] theorem zGr:za yb9 10=true:=by kernel_rfl
@[simp] theorem zGs:za yb9 11=true:=by kernel_rfl
@[simp] theorem zGt:za yb9 22=true:=by kernel_rfl
@[simp] theorem zGu:zH yb9 33=some (.int .i64 0):=by kernel_rfl
@[simp] theorem zJ6:za9 yb9 33=some 1:=by kernel_rfl
@[simp] theorem zIq:zaO yb9 33=false:=by kernel_rfl
@[simp] theorem zKL:za9 yb9 3=some 1:=by kernel_rfl
@[simp] theorem zJ7:zaO yb9 3=false:=by kernel_rfl
@[simp] theorem zGv:za yb9 53=true:=by kernel_rfl
@[simp] theorem zJ8:za9 yb9 26=some 1:=by kernel_rfl
@[simp] theorem zIr:zaO yb9 26=false:=by kernel_rfl
@[simp] theorem zJ9:za9 yb9 57=some 5:=by kernel_rfl
@[simp] theorem zIs:zaO yb9 57=true:=by kernel_rfl
@[simp] theorem zAm:zY yb9 74=true:=by kernel_rfl
@[simp] theorem zCs:zej yb9 74=true:=by kernel_rfl
@[simp] theorem zGw:zH yb9 74=some (.agg [.nilsl, (.int .i64 0), (.int .i64 0), (.str []), .nilsl, .nilsl, (.int .i64 0), .nilsl, .nilsl]):=by kernel_rfl
@[simp] theorem zGx:zba yb9 74 0=some ⟨0, 3, true⟩:=by kernel_rfl
@[simp] theorem zGy:zba yb9 74 1=some ⟨3, 5, true⟩:=by kernel_rfl
@[simp] theorem zGz:za yb9 54=true:=by kernel_rfl
@[simp] theorem zGA:zba yb9 28 2=some ⟨2, 1, false⟩:=by kernel_rfl
@[simp] theorem zGB:zba yb9 57 1=some ⟨1, 1, false⟩:=by kernel_rfl
@[simp] theorem zKa:za9 yb9 44=some 1:=by kernel_rfl
@[simp] theorem zIt:zaO yb9 44=false:=by kernel_rfl
@[simp] theorem zAn:zY yb9 77=true:=by kernel_rfl
@[simp] theorem zCt:zej yb9 77=true:=by kernel_rfl
@[simp] theorem zGC:zH yb9 77=some (.agg [(.str []), .nilsl]):=by kernel_rfl
@[simp] theorem zGD:zba yb9 77 0=some ⟨0, 1, false⟩:=by kernel_rfl
@[simp] theorem zGE:za yb9 57=true:=by kernel_rfl
@[simp] theorem zGF:za yb9 56=true:=by kernel_rfl
@[simp] theorem zGG:za yb9 58=true:=by kernel_rfl
@[simp] theorem zKb:zcm yb9 22=some 1:=by kernel_rfl
@[simp] theorem zKc:za0 yb9 22=some (.str []):=by kernel_rfl
@[simp] theorem zGH:za yb9 59=true:=by kernel_rfl
@[simp] theorem zGI:za yb9 60=true:=by kernel_rfl
@[simp] theorem zKd:zbM yb9 26=some 96:=by kernel_rfl
@[simp] theorem zKM:za9 yb9 9=some 1:=by kernel_rfl
@[simp] theorem zKe:zaO yb9 9=false:=by kernel_rfl
@[simp] theorem zGJ:za yb9 62=true:=by kernel_rfl
@[simp] theorem zGK:za yb9 61=true:=by kernel_rfl
@[simp] theorem zAo:zY yb9 88=true:=by kernel_rfl
@[simp] theorem zCu:zej yb9 88=true:=by kernel_rfl
@[simp] theorem zGL:zH yb9 88=some (.agg [.nilp, .nilsl]):=by kernel_rfl
@[simp] theorem zGM:za yb9 64=true:=by kernel_rfl
@[simp] theorem zGN:za yb9 63=true:=by kernel_rfl
@[simp] theorem zGO:za yb9 65=true:=by kernel_rfl
@[simp] theorem zKf:za0 yb9 44=some (.int .i64 0):=by kernel_rfl
@[simp] theorem zGP:zba yb9 57 2=some ⟨2, 1, false⟩:=by kernel_rfl
@[simp] theorem zKg:za9 yb9 55=some 1:=by kernel_rfl
@[simp] theorem zIu:zaO yb9 55=false:=by kernel_rfl
@[simp] theorem zGQ:za yb9 66=true:=by kernel_rfl
@[simp] theorem zGR:zba yb9 88 0=some ⟨0, 2, true⟩:=by kernel_rfl
@[simp] theorem zGS:za yb9 67=true:=by kernel_rfl
@[simp] theorem zGT:za yb9 74=true:=by kernel_rfl
@[simp] theorem zGU:zba yb9 48 1=some ⟨1, 1, false⟩:=by kernel_rfl
@[simp] theorem zGV:zba yb9 48 2=some ⟨2, 1, false⟩:=by kernel_rfl
@[simp] theorem zGW:zba yb9 48 0=some ⟨0, 1, false⟩:=by kernel_rfl
@[simp] theorem zGX:za yb9 79=true:=by kernel_rfl
@[simp] theorem zGY:zH yb9 48=some (.agg [.nilsl, (.int .i64 0), (.int .i64 0)]):=by kernel_rfl
@[simp] theorem zKh:za9 yb9 48=some 3:=by kernel_rfl
@[simp] theorem zIv:zaO yb9 48=true:=by kernel_rfl
@[simp] theorem zvS:zcm yb9 32=some 1:=by kernel_rfl
@[simp] theorem zvT:za0 yb9 32=some (.int .u8 0):=by kernel_rfl
@[simp] theorem zCv:zbM yb9 32=some 1:=by kernel_rfl
@[simp] theorem zxA:zY yb9 109=true:=by kernel_rfl
@[simp] theorem zAp:zej yb9 109=true:=by kernel_rfl
@[simp] theorem zCw:zH yb9 109=some (.agg [.nilsl, (.int .i64 0), (.int .i64 0), .nilsl, (.int .i64 0), .nilsl, .nilsl, (.int .i64 0)]):=by kernel_rfl
@[simp] theorem zCx:zba yb9 109 0=some ⟨0, 3, true⟩:=by kernel_rfl
@[simp] theorem zCy:zba yb9 109 1=some ⟨3, 1, false⟩:=by kernel_rfl
@[simp] theorem zCz:zba yb9 109 2=some ⟨4, 1, false⟩:=by kernel_rfl
@[simp] theorem zCA:zba yb9 109 3=some ⟨5, 1, false⟩:=by kernel_rfl
@[simp] theorem zCB:zH yb9 107=some .nilp:=by kernel_rfl
@[simp] theorem zIw:za9 yb9 107=some 1:=by kernel_rfl
@[simp] theorem zGZ:zaO yb9 107=false:=by kernel_rfl
@[simp] theorem zG0:za yb9 81=true:=by kernel_rfl
@[simp] theorem zCC:zba yb9 109 4=some ⟨6, 1, false⟩:=by kernel_rfl
@[simp] theorem zAq:zY yb9 48=true:=by kernel_rfl
@[simp] theorem zCD:zej yb9 48=true:=by kernel_rfl
@[simp] theorem zKi:za9 yb9 54=some 1:=by kernel_rfl
@[simp] theorem zIx:zaO yb9 54=false:=by kernel_rfl
@[simp] theorem zG1:za yb9 51=true:=by kernel_rfl
@[simp] theorem zKj:zca yb9 9=true:=by kernel_rfl
@[simp] theorem zG2:zba yb9 71 0=some ⟨0, 1, false⟩:=by kernel_rfl
@[simp] theorem zAr:zY yb9 71=true:=by kernel_rfl
@[simp] theorem zCE:zej yb9 71=true:=by kernel_rfl
@[simp] theorem zG3:zH yb9 71=some (.agg [(.int .i64 0)]):=by kernel_rfl
@[simp] theorem zKk:zap yb9 71=some false:=by kernel_rfl
@[simp] theorem zIy:zcm yb9 186=some 1:=by kernel_rfl
@[simp] theorem zIz:za0 yb9 186=some .nilsl:=by kernel_rfl
@[simp] theorem zCF:za yb9 105=true:=by kernel_rfl
@[simp] theorem zG4:zba yb9 74 2=some ⟨8, 1, false⟩:=by kernel_rfl
@[simp] theorem zG5:za yb9 95=true:=by kernel_rfl
@[simp] theorem zCG:za yb9 108=true:=by kernel_rfl
@[simp] theorem zCH:za yb9 109=true:=by kernel_rfl
@[simp] theorem zCI:za yb9 110=true:=by kernel_rfl
@[simp] theorem zIA:zpE yb9 135=some (256, 1, false):=by kernel_rfl
@[simp] theorem zKN:za9 yb9 5=some 1:=by kernel_rfl
@[simp] theorem zKl:zaO yb9 5=false:=by kernel_rfl
@[simp] theorem zKm:zdd yb9 3=some .i64:=by kernel_rfl
@[simp] theorem zCJ:za yb9 113=true:=by kernel_rfl
@[simp] theorem zCK:za yb9 114=true:=by kernel_rfl
@[simp] theorem zCL:za yb9 115=true:=by kernel_rfl
@[simp] theorem zCM:za yb9 116=true:=by kernel_rfl
@[simp] theorem zCN:za yb9 117=true:=by kernel_rfl
@[simp] theorem zCO:za yb9 118=true:=by kernel_rfl
@[simp] theorem zG6:zba yb9 77 1=some ⟨1, 1, false⟩:=by kernel_rfl
@[simp] theorem zCP:za yb9 119=true:=by kernel_rfl
@[simp] theorem zKn:zap yb9 33=some false:=by kernel_rfl
@[simp] theorem zCQ:za yb9 122=true:=by kernel_rfl
theorem zqz:zH yb9 151=some (.agg [(.bool false), (.bool false), (.bool false), (.bool false), (.bool false), (.bool false), (.bool false), (.bool false), (.bool false), (.bool false), (.bool false), (.bool false), (.bool false), (.bool false), (.bool false), (.bool false), (.bool false), (.bool false), (.bool false), (.bool false), (.bool false), (.bool false), (.bool false), (.bool false), (.bool false), (.bool false), (.bool false), (.bool false), (.bool false), (.bool false), (.bool false), (.bool false), (.bool false), (.bool false), (.bool false), (.bool false), (.bool false), (.bool false), (.bool false), (.bool false), (.bool false), (.bool false), (.bool false), (.bool false), (.bool false), (.bool false), (.bool false), (.bool false), (.bool false), (.bool false), (.bool false), (.bool false), (.bool false), (.bool false), (.bool false), (.bool false), (.bool false), (.bool false), (.bool false), (.bool false), (.bool false), (.bool false), (.bool false), (.bool false), (.bool false), (.bool false), (.bool false), (.bool false), (.bool false), (.bool false), (.bool false), (.bool false), (.bool false), (.bool false), (.bool false), (.bool false), (.bool false), (.bool false), (.bool false), (.bool false), (.bool false), (.bool false), (.bool false), (.bool false), (.bool false), (.bool false), (.bool false), (.bool false), (.bool false), (.bool false), (.bool false), (.bool false), (.bool false), (.bool false), (.bool false), (.bool false), (.bool false), (.bool false), (.bool false), (.bool false), (.bool false), (.bool false), (.bool false), (.bool false), (.bool false), (.bool false), (.bool false), (.bool false), (.bool false), (.bool false), (.bool false), (.bool false), (.bool false), (.bool false), (.bool false), (.bool false), (.bool false), (.bool false), (.bool false), (.bool false), (.bool false), (.bool false), (.bool false), (.bool false), (.bool false), (.bool false), (.bool false), (.bool false), (.bool false), (.bool false), (.bool false), (.bool false), (.bool false), (.bool false), (.bool false), (.bool false), (.bool false), (.bool false), (.bool false), (.bool false), (.bool false), (.bool false), (.bool false), (.bool false), (.bool false), (.bool false), (.bool false), (.bool false), (.bool false), (.bool false), (.bool false), (.bool false), (.bool false), (.bool false), (.bool false), (.bool false), (.bool false), (.bool false), (.bool false), (.bool false), (.bool false), (.bool false), (.bool false), (.bool false), (.bool false), (.bool false), (.bool false), (.bool false), (.bool false), (.bool false), (.bool false), (.bool false), (.bool false), (.bool false), (.bool false), (.bool false), (.bool false), (.bool false), (.bool false), (.bool false), (.bool false), (.bool false), (.bool false), (.bool false), (.bool false), (.bool false), (.bool false), (.bool false), (.bool false), (.bool false), (.bool false), (.bool false), (.bool false), (.bool false), (.bool false), (.bool false), (.bool false), (.bool false), (.bool false), (.bool false), (.bool false), (.bool false), (.bool false), (.bool false), (.bool false), (.bool false), (.bool false), (.bool false), (.bool false), (.bool false), (.bool false), (.bool false), (.bool false), (.bool false), (.bool false), (.bool false), (.bool false), (.bool false), (.bool false), (.bool false), (.bool false), (.bool false), (.bool false), (.bool false), (.bool false), (.bool false), (.bool false), (.bool false), (.bool false), (.bool false), (.bool false), (.bool false), (.bool false), (.bool false), (.bool false), (.bool false), (.bool false), (.bool false), (.bool false), (.bool false), (.bool false), (.bool false), (.bool false), (.bool false), (.bool false), (.bool false), (.bool false), (.bool false), (.bool false), (.bool false), (.bool false), (.bool false), (.bool false), (.bool false), (.bool false), (.bool false)]):=by kernel_rfl
@[simp] theorem zIB:za9 yb9 151=some 256:=by kernel_rfl
@[simp] theorem zG7:zaO yb9 151=true:=by kernel_rfl
@[simp] theorem zCR:za yb9 124=true:=by kernel_rfl
@[simp] theorem zCS:za yb9 123=true:=by kernel_rfl
@[simp] theorem zCT:za yb9 127=true:=by kernel_rfl
@[simp] theorem zCU:za yb9 128=true:=by kernel_rfl
@[simp] theorem zCV:za yb9 129=true:=by kernel_rfl
@[simp] theorem zCW:za yb9 131=true:=by kernel_rfl
@[simp] theorem zKo:za9 yb9 53=some 6:=by kernel_rfl
@[simp] theorem zIC:zaO yb9 53=true:=by kernel_rfl
@[simp] theorem zCX:za yb9 132=true:=by kernel_rfl
@[simp] theorem zG8:zba yb9 53 3=some ⟨3, 1, false⟩:=by kernel_rfl
@[simp] theorem zG9:zba yb9 53 4=some ⟨4, 1, false⟩:=by kernel_rfl
@[simp] theorem zCY:za yb9 133=true:=by kernel_rfl
@[simp] theorem zCZ:za yb9 134=true:=by kernel_rfl
@[simp] theorem zHa:zba yb9 86 1=some ⟨1, 1, false⟩:=by kernel_rfl
@[simp] theorem zKp:za9 yb9 32=some 1:=by kernel_rfl
@[simp] theorem zID:zaO yb9 32=false:=by kernel_rfl
@[simp] theorem zC0:za yb9 140=true:=by kernel_rfl
@[simp] theorem zC1:zH yb9 111=some (.agg [(.int .i64 0), (.int .i64 0)]):=by kernel_rfl
@[simp] theorem zIE:za9 yb9 111=some 2:=by kernel_rfl
@[simp] theorem zC2:zba yb9 111 0=some ⟨0, 1, false⟩:=by kernel_rfl
@[simp] theorem zC3:zba yb9 111 1=some ⟨1, 1, false⟩:=by kernel_rfl
@[simp] theorem zC4:zba yb9 109 5=some ⟨7, 1, false⟩:=by kernel_rfl
@[simp] theorem zC5:za yb9 145=true:=by kernel_rfl
@[simp] theorem zKq:zbM yb9 44=some 8:=by kernel_rfl
@[simp] theorem zxB:zY yb9 171=true:=by kernel_rfl
@[simp] theorem zAs:zej yb9 171=true:=by kernel_rfl
@[simp] theorem zC6:zH yb9 171=some (.agg [(.str []), .nilsl, .nilsl, (.int .i64 0), .nilsl, .nilsl, .nilsl, (.int .i64 0)]):=by kernel_rfl
@[simp] theorem zC7:zba yb9 171 0=some ⟨0, 5, true⟩:=by kernel_rfl
@[simp] theorem zC8:zba yb9 171 1=some ⟨5, 1, false⟩:=by kernel_rfl
@[simp] theorem zC9:za yb9 146=true:=by kernel_rfl
@[simp] theorem zDa:za yb9 147=true:=by kernel_rfl
@[simp] theorem zDb:zba yb9 171 3=some ⟨7, 1, false⟩:=by kernel_rfl
@[simp] theorem zDc:za yb9 154=true:=by kernel_rfl
@[simp] theorem zDd:za yb9 158=true:=by kernel_rfl
@[simp] theorem zDe:za yb9 107=true:=by kernel_rfl
@[simp] theorem zIF:zcm yb9 187=some 1:=by kernel_rfl
@[simp] theorem zIG:za0 yb9 187=some (.bool false):=by kernel_rfl
@[simp] theorem zIH:zbM yb9 187=some 1:=by kernel_rfl
@[simp] theorem zDf:za yb9 159=true:=by kernel_rfl
@[simp] theorem zKO:za9 yb9 4=some 1:=by kernel_rfl
@[simp] theorem zKr:zaO yb9 4=false:=by kernel_rfl
@[simp] theorem zDg:za yb9 160=true:=by kernel_rfl
@[simp] theorem zxC:zY yb9 192=true:=by kernel_rfl
@[simp] theorem zAt:zej yb9 192=true:=by kernel_rfl
@[simp] theorem zDh:zH yb9 192=some (.agg [.nilp, .nilsl, (.bool false), (.int .i64 0)]):=by kernel_rfl
@[simp] theorem zDi:zba yb9 192 0=some ⟨0, 1, false⟩:=by kernel_rfl
@[simp] theorem zDj:zba yb9 192 3=some ⟨3, 1, false⟩:=by kernel_rfl
@[simp] theorem zDk:za yb9 161=true:=by kernel_rfl
@[simp] theorem zDl:za yb9 162=true:=by kernel_rfl
@[simp] theorem zDm:zba yb9 192 1=some ⟨1, 1, false⟩:=by kernel_rfl
@[simp] theorem zDn:za yb9 164=true:=by kernel_rfl
@[simp] theorem zDo:za yb9 167=true:=by kernel_rfl
@[simp] theorem zDp:za yb9 168=true:=by kernel_rfl
@[simp] theorem zDq:za yb9 169=true:=by kernel_rfl
@[simp] theorem zII:zdd yb9 21=some .i32:=by kernel_rfl
@[simp] theorem zDr:za yb9 170=true:=by kernel_rfl
@[simp] theorem zKs:zbM yb9 55=some 24:=by kernel_rfl
@[simp] theorem zDs:za yb9 171=true:=by kernel_rfl
@[simp] theorem zKt:zbM yb9 54=some 56:=by kernel_rfl
@[simp] theorem zIJ:zpE yb9 151=some (256, 1, false):=by kernel_rfl
@[simp] theorem zDt:za yb9 172=true:=by kernel_rfl
@[simp] theorem zDu:za yb9 175=true:=by kernel_rfl
@[simp] theorem zHb:zba yb9 53 5=some ⟨5, 1, false⟩:=by kernel_rfl
@[simp] theorem zDv:za yb9 177=true:=by kernel_rfl
@[simp] theorem zDw:za yb9 180=true:=by kernel_rfl
@[simp] theorem zxD:zY yb9 111=true:=by kernel_rfl
@[simp] theorem zAu:zej yb9 111=true:=by kernel_rfl
@[simp] theorem zIK:zap yb9 111=some false:=by kernel_rfl
@[simp] theorem zDx:zba yb9 171 2=some ⟨6, 1, false⟩:=by kernel_rfl
@[simp] theorem zDy:za yb9 181=true:=by kernel_rfl
@[simp] theorem zDz:za yb9 182=true:=by kernel_rfl
@[simp] theorem zDA:za yb9 183=true:=by kernel_rfl
@[simp] theorem zDB:za yb9 190=true:=by kernel_rfl
@[simp] theorem zDC:za yb9 191=true:=by kernel_rfl
@[simp] theorem zDD:za yb9 192=true:=by kernel_rfl
@[simp] theorem zKu:za9 yb9 72=some 1:=by kernel_rfl
@[simp] theorem zIL:zaO yb9 72=false:=by kernel_rfl
@[simp] theorem zDE:za yb9 193=true:=by kernel_rfl
@[simp] theorem zDF:za yb9 194=true:=by kernel_rfl
@[simp] theorem zDG:za yb9 195=true:=by kernel_rfl
@[simp] theorem zDH:za yb9 196=true:=by kernel_rfl
@[simp] theorem zDI:za yb9 199=true:=by kernel_rfl
@[simp] theorem zDJ:za yb9 206=true:=by kernel_rfl
@[simp] theorem zDK:za yb9 207=true:=by kernel_rfl
@[simp] theorem zDL:za yb9 208=true:=by kernel_rfl
@[simp] theorem zDM:za yb9 216=true:=by kernel_rfl
@[simp] theorem zDN:za yb9 217=true:=by kernel_rfl
@[simp] theorem zDO:za yb9 219=true:=by kernel_rfl
@[simp] theorem zDP:za yb9 218=true:=by kernel_rfl
@[simp] theorem zDQ:za yb9 220=true:=by kernel_rfl
@[simp] theorem zDR:za yb9 222=true:=by kernel_rfl
@[simp] theorem zDS:za yb9 221=true:=by kernel_rfl
@[simp] theorem zKv:zdd yb9 5=some .u8:=by kernel_rfl
@[simp] theorem zDT:za yb9 223=true:=by kernel_rfl
@[simp] theorem zDU:za yb9 228=true:=by kernel_rfl
@[simp] theorem zDV:za yb9 229=true:=by kernel_rfl
@[simp] theorem zDW:zH yb9 265=some (.agg [.nilsl, (.int .i64 0)]):=by kernel_rfl
@[simp] theorem zIM:za9 yb9 265=some 2:=by kernel_rfl
@[simp] theorem zHc:zaO yb9 265=true:=by kernel_rfl
@[simp] theorem zDX:za yb9 230=true:=by kernel_rfl
@[simp] theorem zIN:za9 yb9 190=some 1:=by kernel_rfl
@[simp] theorem zHd:zaO yb9 190=false:=by kernel_rfl
@[simp] theorem zDY:za yb9 231=true:=by kernel_rfl
@[simp] theorem zDZ:zba yb9 192 2=some ⟨2, 1, false⟩:=by kernel_rfl
@[simp] theorem zD0:za yb9 232=true:=by kernel_rfl
@[simp] theorem zD1:zba yb9 265 0=some ⟨0, 1, false⟩:=by kernel_rfl
@[simp] theorem zD2:zba yb9 265 1=some ⟨1, 1, false⟩:=by kernel_rfl
@[simp] theorem zD3:za yb9 239=true:=by kernel_rfl
@[simp] theorem zD4:za yb9 245=true:=by kernel_rfl
@[simp] theorem zD5:za yb9 246=true:=by kernel_rfl
@[simp] theorem zIO:za9 yb9 287=some 32:=by kernel_rfl
@[simp] theorem zHe:zaO yb9 287=true:=by kernel_rfl
@[simp] theorem zIP:zpE yb9 287=some (16, 2, true):=by kernel_rfl
@[simp] theorem zD6:zH yb9 182=some (.agg [(.str []), (.str [])]):=by kernel_rfl
@[simp] theorem zIQ:za9 yb9 182=some 2:=by kernel_rfl
@[simp] theorem zIR:zpE yb9 182=some (2, 1, false):=by kernel_rfl
@[simp] theorem zHf:zdd yb9 288=some .i8:=by kernel_rfl
@[simp] theorem zHg:zdd yb9 174=some .u64:=by kernel_rfl
@[simp] theorem zD7:za yb9 247=true:=by kernel_rfl
@[simp] theorem zD8:za yb9 248=true:=by kernel_rfl
@[simp] theorem zxE:zY yb9 265=true:=by kernel_rfl
@[simp] theorem zAv:zej yb9 265=true:=by kernel_rfl
@[simp] theorem zD9:za yb9 250=true:=by kernel_rfl
@[simp] theorem zEa:za yb9 157=true:=by kernel_rfl
@[simp] theorem zEb:za yb9 256=true:=by kernel_rfl
@[simp] theorem zEc:za yb9 257=true:=by kernel_rfl
@[simp] theorem zEd:za yb9 258=true:=by kernel_rfl
@[simp] theorem zEe:za yb9 259=true:=by kernel_rfl
@[simp] theorem zHh:zdd yb9 116=some .u64:=by kernel_rfl
@[simp] theorem zEf:za yb9 262=true:=by kernel_rfl
@[simp] theorem zEg:za yb9 263=true:=by kernel_rfl
end Go.Proofs.YtohfclafhegadaaGreatDoor
