/- The planned texts of the functions, and facts on the program's types; written by a program; no condition. -/
import Derived.Test.YtohfclafhegadaaGreatDoorChecked
import Derived.Test.YtohfclafhegadaaGreatDoorAbsB
import Derived.KernelRfl
set_option maxRecDepth 100000
open Go.Proofs.Tryz renaming prog→yb5
namespace Go.Proofs.YtohfclafhegadaaGreatDoor
open Go Go.Abs
namespace Zz
abbrev Q(q:PC):={ p:PC//p=q }
def t(x:Nat):Operand:=.tmp x
def i(k:Int):Operand:=.const (.int .i64 k)
def S(l:List PO)(r:PC):PC:=.seq (.ops l) r
def C(x:Nat)(a b:PC):PC:=.cond (.tmp x) a b
def m(d x:Nat):PO:=⟨some d, .move (.tmp x), none, []⟩
def l(d t x:Nat):PO:=⟨some d, .load t (.tmp x), none, []⟩
def f(d t x i:Nat):PO:=⟨some d, .fieldAddr t (.tmp x) i, none, []⟩
def n(d x:Nat):PO:=⟨some d, .nilCheck (.tmp x), none, []⟩
def a(d x:Nat):PO:=⟨some d, .assign (.tmp x), none, []⟩
def A(d:Nat)(v:Operand):PO:=⟨some d, .assign v, none, []⟩
def x(d t x y:Nat):PO:=⟨some d, .indexAddr t (.tmp x) (.tmp y), none, []⟩
def b(d:Nat)(o:BinOp)(t:Nat)(x y:Operand)(u:Nat):PO:=⟨some d, .binOp o t x y u, none, []⟩
def c(d f:Nat)(xs:Array Operand)(ts:Array TypeId):PO:=⟨some d, .call ⟨.value (.func f), xs, ts⟩, none, []⟩
def L(d x t:Nat):PO:=⟨some d, .call ⟨.builtin .len, #[(.tmp x)], #[t]⟩, none, []⟩
def d(n:Nat)(o:Op):PO:=⟨some n, o, none, []⟩
def s(t x y:Nat):PO:=⟨none, .store t (.tmp x) (.tmp y), none, []⟩
def e(o:Op):PO:=⟨none, o, none, []⟩
def w(n:Nat)(o:Op)(g:Nat)(v:Bool):PO:=⟨some n, o, some (g, v), []⟩
abbrev H(n k f:Nat)(p:PC)(l:List ResultVar):Prop:=∀{G:Env} {args:List AV} {σ:AS} {R:Out→AS→Prop}, args.length=k→avc yb5 G n p (zcJ yb5 l R) (zbC args) σ→ACalls yb5 G f args σ R
end Zz
open Zz
abbrev zzQ:=@ACalls yb5
variable {G : Env} {args : List AV} {σ : AS} {R : Out → AS → Prop}
theorem zm:yb5.follows .mixedOrders=true:=by kernel_rfl
def pc5:PC:=(⟨_,by delta A C L S a b c d i l m s t w;exact rfl⟩:Zz.Q (S [A 2 (.const (.bool false))] (.seq (S [m 9 0,L 10 9 9,b 11 .gtr 3 (t
 10) (i 16384) 3] (C 11 (S [c 12 12 #[] #[],a 2 12] .ret) .skip)) (S [m 14 0,c 15 19 #[t 14] #[9],m 13 15,d 16 (.extract (t 13) 0),d 17 (.extract (t 13) 1),d 3
 (.alloc 28),s 28 3 16,a 4 17] (S [m 19 0,c 20 19 #[t 19] #[9],m 18 20,d 21 (.extract (t 18) 0),d 22 (.extract (t 18) 1),d 5 (.alloc 28),s 28 5 21,a 6 22] (S [m
 24 0,c 25 21 #[t 24] #[9],m 23 25,d 26 (.extract (t 23) 0),d 27 (.extract (t 23) 1),d 7 (.alloc 28),s 28 7 26,a 8 27] (.seq (S [m 28 4,m 29 8,b 30 .neq 33 (t
 28) (t 29) 33,m 31 30,w 32 (.move (t 6)) 31 false,w 33 (.move (t 8)) 31 false,w 34 (.binOp .neq 33 (t 32) (t 33) 33) 31 false,d 35 (.pick (t 31) (.const (.bool
 true)) (t 34)),m 36 35,w 37 (.load 28 (t 3)) 36 false,w 38 (.load 28 (t 7)) 36 false,w 39 (.call ⟨.value (.func 22),#[t 37,t 38],#[28,28]⟩) 36 false,w 40
 (.unOp .not 4 (t 39)) 36 false,d 41 (.pick (t 36) (.const (.bool true)) (t 40))] (C 41 (S [A 2 (.const (.bool false))] .ret) .skip)) (S [l 42 28 3,c 43 23 #[t
 42] #[28]] (S [l 44 28 5,l 45 28 7,c 46 22 #[t 44,t 45] #[28,28],m 47 46,w 48 (.call ⟨.value (.func 12),#[],#[]⟩) 47 true,d 49 (.pick (t 47) (t 48) (.const
 (.bool false))),a 2 49] .ret))))))))).1
theorem zu6:Zz.H 50 1 5 pc5 [.tmp 2]:=fun hn h =>
 zb zm Tryz.func5 (by kernel_rfl) (by kernel_rfl) (by kernel_rfl) (by omega) h
def zBB:PC:=(⟨_,by delta A S a b m t;exact rfl⟩:Zz.Q (S [A 2 (.const (.string ⟨#[]⟩))] (S [m 3 0,b 4 .add 9 (.const (.string
 ⟨#[40,32,109,111,100,117,108,101,32,40,32,105,109,112,111,114,116,32,34,101,110,118,34,32,34,105,110,34,32,40,32,102,117,110,99,32,40,32,114,101,115,117,108,116,32,105,54,52,32,41,32,41,32,41,32,40,32,105,109,112,111,114,116,32,34,101,110,118,34,32,34,111,117,116,34,32,40,32,102,117,110,99,32,40,32,112,97,114,97,109,32,105,54,52,32,41,32,41,32,41,32,40,32,105,109,112,111,114,116,32,34,101,110,118,34,32,34,116,114,97,112,34,32,40,32,102,117,110,99,32,40,32,112,97,114,97,109,32,105,51,50,32,41,32,41,32,41,32,40,32,109,101,109,111,114,121,32,49,32,41,32,40,32,103,108,111,98,97,108,32,105,51,50,32,40,32,105,51,50,46,99,111,110,115,116,32,49,54,32,41,32,41,32,40,32,102,117,110,99,32,36,102,32,40,32,114,101,115,117,108,116,32,105,51,50,32,41,32]⟩))
 (t 3) 9,b 5 .add 9 (t 4) (.const (.string
 ⟨#[32,41,32,40,32,101,120,112,111,114,116,32,34,109,97,105,110,34,32,40,32,102,117,110,99,32,51,32,41,32,41,32,41,10]⟩)) 9,a 2 5] .ret))).1
theorem zrR:Zz.H 6 1 10 zBB [.tmp 2]:=fun hn h =>
 zb zm Tryz.func10 (by kernel_rfl) (by kernel_rfl) (by kernel_rfl) (by omega) h
def zBC:PC:=(⟨_,by delta S d i s t;exact rfl⟩:Zz.Q (S [d 0 (.alloc 28)] (S [d 1 (.build 53 #[(0,i 1),(1,i 1),(2,i 7)]),d 2 (.buildSlice 54 1
 #[(0,t 1)]),d 3 (.buildSlice 55 1 #[(0,t 2)]),d 4 (.build 57 #[(0,.const (.string ⟨#[102]⟩)),(3,i 1),(4,t 3)]),d 5 (.buildSlice 26 1 #[(0,t 4)]),d 6 (.build 28
 #[(1,i 16),(0,t 5)]),s 28 0 6] .ret))).1
theorem zrS:Zz.H 7 0 11 zBC [.cell 0 28]:=fun hn h =>
 zb zm Tryz.func11 (by kernel_rfl) (by kernel_rfl) (by kernel_rfl) (by omega) h
def zBD:PC:=(⟨_,by delta A S a b c d i m s t w;exact rfl⟩:Zz.Q (S [A 0 (.const (.bool false))] (S [c 8 10 #[.const (.string
 ⟨#[105,51,50,46,99,111,110,115,116,32,55]⟩)] #[9],c 9 19 #[t 8] #[9],m 7 9,d 10 (.extract (t 7) 0),d 11 (.extract (t 7) 1),d 1 (.alloc 28),s 28 1 10,a 2 11] (S
 [c 13 10 #[.const (.string ⟨#[105,51,50,46,99,111,110,115,116,32,48,55]⟩)] #[9],c 14 19 #[t 13] #[9],m 12 14,d 15 (.extract (t 12) 0),d 16 (.extract (t 12)
 1),d 3 (.alloc 28),s 28 3 15,a 4 16] (S [c 18 10 #[.const (.string ⟨#[105,51,50,46,99,111,110,115,32,55]⟩)] #[9],c 19 19 #[t 18] #[9],m 17 19,d 20 (.extract (t
 17) 0),d 21 (.extract (t 17) 1),d 5 (.alloc 28),s 28 5 20,a 6 21] (S [c 22 11 #[] #[],c 23 20 #[t 22] #[28],c 24 10 #[.const (.string
 ⟨#[105,51,50,46,99,111,110,115,116,32,55]⟩)] #[9],b 25 .eql 9 (t 23) (t 24) 9,m 26 25,w 27 (.move (t 2)) 26 true,w 28 (.binOp .eql 33 (t 27) (i 0) 33) 26
 true,d 29 (.pick (t 26) (t 28) (.const (.bool false))),m 30 29,w 31 (.load 28 (t 1)) 30 true,⟨some 32,.call ⟨.value (.func 11),#[],#[]⟩,some (30,true),[⟨some
 (30,true),28,t 1,31⟩]⟩,w 33 (.call ⟨.value (.func 22),#[t 31,t 32],#[28,28]⟩) 30 true,d 34 (.pick (t 30) (t 33) (.const (.bool false))),m 35 34,w 36 (.move (t
 4)) 35 true,w 37 (.binOp .eql 33 (t 36) (i 11) 33) 35 true,d 38 (.pick (t 35) (t 37) (.const (.bool false))),m 39 38,w 40 (.move (t 6)) 39 true,w 41 (.binOp
 .eql 33 (t 40) (i 2) 33) 39 true,d 42 (.pick (t 39) (t 41) (.const (.bool false))),a 0 42] .ret)))))).1
theorem zrT:Zz.H 43 0 12 zBD [.tmp 0]:=fun hn h =>
 zb zm Tryz.func12 (by kernel_rfl) (by kernel_rfl) (by kernel_rfl) (by omega) h
def zqN:PC:=(⟨_,by delta d;exact rfl⟩:Zz.Q (.ops [d 2 (.alloc 28),d 3 (.alloc 33)])).1
def zfr:PC:=(⟨_,by delta C S c d f l m s t;exact rfl⟩:Zz.Q (.seq (S [m 18 4,c 19 59 #[t 18,.const (.string ⟨#[102,117,110,99]⟩)]
 #[75,9]] (C 19 .skip (.exit 0))) (.block 1 (.ops [f 20 28 2 0,l 21 26 20,m 22 4,⟨some 23,.call ⟨.value (.func 60),#[t 22],#[75]⟩,none,[⟨none,26,t 20,21⟩]⟩,d 24
 (.buildSlice 26 1 #[(0,t 23)]),d 25 (.call ⟨.builtin .append,#[t 21,t 24],#[26,26]⟩),f 26 28 2 0,s 26 26 25])))).1
def zdA:PC:=(⟨_,by delta S b c d e f i l m n s t;exact rfl⟩:Zz.Q (S [m 27 4,d 28 (.buildSlice 22 5 #[(0,.const (.string
 ⟨#[40]⟩)),(1,.const (.string ⟨#[101,120,112,111,114,116]⟩)),(2,.const (.string ⟨#[34,109,97,105,110,34]⟩)),(3,.const (.string ⟨#[40]⟩)),(4,.const (.string
 ⟨#[102,117,110,99]⟩))]),c 29 56 #[t 27,t 28] #[75,22]] (S [m 30 4,c 31 58 #[t 30] #[75],b 32 .sub 3 (t 31) (i 3) 3,f 33 28 2 2,s 3 33 32] (S [m 34 4,d 35
 (.buildSlice 22 3 #[(0,.const (.string ⟨#[41]⟩)),(1,.const (.string ⟨#[41]⟩)),(2,.const (.string ⟨#[41]⟩))]),c 36 56 #[t 34,t 35] #[75,22]] (S [m 37 4,n 38
 37,f 39 77 38 0,l 40 9 39,c 41 62 #[t 40,.const (.string ⟨#[32,10]⟩)] #[9,9],b 42 .eql 9 (t 41) (.const (.string ⟨#[]⟩)) 9,c 43 61 #[t 42,i 2] #[4,33]] (S [l
 44 28 2,s 28 2 44,e (.store 33 (t 3) (i 0))] .ret)))))).1
def zqO:PC:=(⟨_,by delta S a c d f m s t;exact rfl⟩:Zz.Q (S [m 6 0,d 7 (.build 77 #[(0,t 6)]),d 8 (.box 77 (t 7)),a 4 8] (S [m 9 4,c 10 57
 #[.const (.string
 ⟨#[40,32,109,111,100,117,108,101,32,40,32,105,109,112,111,114,116,32,34,101,110,118,34,32,34,105,110,34,32,40,32,102,117,110,99,32,40,32,114,101,115,117,108,116,32,105,54,52,32,41,32,41,32,41,32,40,32,105,109,112,111,114,116,32,34,101,110,118,34,32,34,111,117,116,34,32,40,32,102,117,110,99,32,40,32,112,97,114,97,109,32,105,54,52,32,41,32,41,32,41,32,40,32,105,109,112,111,114,116,32,34,101,110,118,34,32,34,116,114,97,112,34,32,40,32,102,117,110,99,32,40,32,112,97,114,97,109,32,105,51,50,32,41,32,41,32,41,32,40,32,109,101,109,111,114,121,32,49,32,41,32,40,32,103,108,111,98,97,108,32,105,51,50,32,40,32,105,51,50,46,99,111,110,115,116]⟩)]
 #[9],c 11 56 #[t 9,t 10] #[75,22]] (S [m 12 4,c 13 58 #[t 12] #[75],f 14 28 2 1,s 3 14 13] (S [m 15 4,d 16 (.buildSlice 22 2 #[(0,.const (.string
 ⟨#[41]⟩)),(1,.const (.string ⟨#[41]⟩))]),c 17 56 #[t 15,t 16] #[75,22]] (.seq (.block 0 (.loop zfr)) zdA)))))).1
def zhj:PC:=(⟨_,by delta C L S b c d f i l m s t x;exact rfl⟩:Zz.Q (S [b 18 .lss 3 (t 17) (t 16) 3] (.seq (C 18 .skip (.exit 0)) (.seq
 (.block 1 (S [x 19 26 15 17,l 20 57 19,d 5 (.alloc 57),s 57 5 20] (S [m 21 3,f 22 57 5 0,l 23 9 22,b 24 .add 9 (.const (.string ⟨#[36]⟩)) (t 23) 9,d 25
 (.buildSlice 22 3 #[(0,.const (.string ⟨#[40]⟩)),(1,.const (.string ⟨#[102,117,110,99]⟩)),(2,t 24)]),c 26 63 #[t 21,t 25] #[83,22]] (S [m 27 3,f 28 57 5 1,l 29
 44 28,c 30 65 #[t 27,.const (.string ⟨#[112,97,114,97,109]⟩),t 29] #[83,9,44]] (.seq (S [f 31 57 5 3,l 32 3 31,b 33 .neq 3 (t 32) (i 0) 3] (C 33 (.ops [m 34
 3,f 35 57 5 3,l 36 3 35,d 37 (.buildSlice 44 1 #[(0,t 36)]),c 38 65 #[t 34,.const (.string ⟨#[114,101,115,117,108,116]⟩),t 37] #[83,9,44]]) .skip)) (S [m 39
 3,f 40 57 5 2,l 41 44 40,c 42 65 #[t 39,.const (.string ⟨#[108,111,99,97,108]⟩),t 41] #[83,9,44]] (S [m 43 3,l 44 57 5,f 45 57 5 4,l 46 55 45,L 47 46 55,b 48
 .sub 3 (t 47) (i 1) 3,c 49 66 #[t 43,t 44,t 48] #[83,57,3]] (.ops [m 50 3,d 51 (.buildSlice 22 1 #[(0,.const (.string ⟨#[41]⟩))]),c 52 63 #[t 50,t 51]
 #[83,22]])))))))) (.ops [b 53 .add 3 (t 17) (i 1) 3,m 17 53]))))).1
def zhk:PC:=(⟨_,by delta S a b c d f i l m n t;exact rfl⟩:Zz.Q (S [m 54 3,f 55 28 1 2,l 56 3 55,b 57 .add 3 (t 56) (i 3) 3,c 58 64 #[t 57]
 #[3],d 59 (.buildSlice 22 9 #[(0,.const (.string ⟨#[40]⟩)),(1,.const (.string ⟨#[101,120,112,111,114,116]⟩)),(2,.const (.string
 ⟨#[34,109,97,105,110,34]⟩)),(3,.const (.string ⟨#[40]⟩)),(4,.const (.string ⟨#[102,117,110,99]⟩)),(5,t 58),(6,.const (.string ⟨#[41]⟩)),(7,.const (.string
 ⟨#[41]⟩)),(8,.const (.string ⟨#[41]⟩))]),c 60 63 #[t 54,t 59] #[83,22]] (S [m 61 3,n 62 61,f 63 88 62 0,c 64 67 #[t 63] #[86],b 65 .add 9 (t 64) (.const
 (.string ⟨#[10]⟩)) 9,a 2 65] .ret))).1
def zBE:PC:=(⟨_,by delta A L S a c d f i l m t;exact rfl⟩:Zz.Q (S [d 1 (.box 28 (t 0)),A 2 (.const (.string ⟨#[]⟩))] (S [d 6 (.build 88
 #[]),d 7 (.box 88 (t 6)),a 3 7] (S [m 8 3,f 9 28 1 1,l 10 3 9,c 11 64 #[t 10] #[3],d 12 (.buildSlice 22 4 #[(0,.const (.string
 ⟨#[40,32,109,111,100,117,108,101,32,40,32,105,109,112,111,114,116,32,34,101,110,118,34,32,34,105,110,34,32,40,32,102,117,110,99,32,40,32,114,101,115,117,108,116,32,105,54,52,32,41,32,41,32,41,32,40,32,105,109,112,111,114,116,32,34,101,110,118,34,32,34,111,117,116,34,32,40,32,102,117,110,99,32,40,32,112,97,114,97,109,32,105,54,52,32,41,32,41,32,41,32,40,32,105,109,112,111,114,116,32,34,101,110,118,34,32,34,116,114,97,112,34,32,40,32,102,117,110,99,32,40,32,112,97,114,97,109,32,105,51,50,32,41,32,41,32,41,32,40,32,109,101,109,111,114,121,32,49,32,41,32,40,32,103,108,111,98,97,108,32,105,51,50,32,40,32,105,51,50,46,99,111,110,115,116]⟩)),(1,t
 11),(2,.const (.string ⟨#[41]⟩)),(3,.const (.string ⟨#[41]⟩))]),c 13 63 #[t 8,t 12] #[83,22]] (.seq (S [f 14 28 1 0,l 15 26 14,L 16 15 26,d 17 (.move (i 0))]
 (.block 0 (.loop zhj))) zhk))))).1
theorem zrU:Zz.H 66 1 20 zBE [.tmp 2]:=fun hn h =>
 zb zm Tryz.func20 (by kernel_rfl) (by kernel_rfl) (by kernel_rfl) (by omega) h
def zjE:PC:=(⟨_,by delta C S a b c d f m n s t;exact rfl⟩:Zz.Q (.block 1 (S [m 14 4,c 15 68 #[t 14] #[93],m 13 15,d 16 (.extract (t 13)
 0),d 17 (.extract (t 13) 1),a 6 16,a 7 17] (.seq (S [m 18 6,b 19 .eql 9 (t 18) (.const (.string ⟨#[]⟩)) 9] (C 19 (.exit 0) .skip)) (S [m 20 4,m 21 7,n 22 20,f
 23 95 22 1,s 3 23 21] (.ops [m 24 5,m 25 6,d 26 (.buildSlice 22 1 #[(0,t 25)]),d 27 (.call ⟨.builtin .append,#[t 24,t 26],#[22,22]⟩),a 5 27])))))).1
def zjF:PC:=(⟨_,by delta C S c d f l m s t;exact rfl⟩:Zz.Q (.seq (S [m 40 4,c 41 71 #[t 40,.const (.string ⟨#[40]⟩),.const (.string
 ⟨#[102,117,110,99]⟩)] #[93,9,9]] (C 41 .skip (.exit 2))) (.block 3 (.ops [f 42 28 8 0,l 43 26 42,m 44 4,⟨some 45,.call ⟨.value (.func 72),#[t
 44],#[93]⟩,none,[⟨none,26,t 42,43⟩]⟩,d 46 (.buildSlice 26 1 #[(0,t 45)]),d 47 (.call ⟨.builtin .append,#[t 43,t 46],#[26,26]⟩),f 48 28 8 0,s 26 48 47])))).1
def zhl:PC:=(⟨_,by delta A C S a b c d f i l m n s t w;exact rfl⟩:Zz.Q (S [m 49 4,d 50 (.buildSlice 22 5 #[(0,.const (.string
 ⟨#[40]⟩)),(1,.const (.string ⟨#[101,120,112,111,114,116]⟩)),(2,.const (.string ⟨#[34,109,97,105,110,34]⟩)),(3,.const (.string ⟨#[40]⟩)),(4,.const (.string
 ⟨#[102,117,110,99]⟩))]),c 51 69 #[t 49,t 50] #[93,22]] (S [m 52 4,c 53 70 #[t 52] #[93],b 54 .sub 3 (t 53) (i 3) 3,f 55 28 8 2,s 3 55 54] (S [m 56 4,d 57
 (.buildSlice 22 3 #[(0,.const (.string ⟨#[41]⟩)),(1,.const (.string ⟨#[41]⟩)),(2,.const (.string ⟨#[41]⟩))]),c 58 69 #[t 56,t 57] #[93,22]] (S [m 60 4,c 61 68
 #[t 60] #[93],m 59 61,d 62 (.extract (t 59) 0),d 63 (.extract (t 59) 1),a 9 62,a 10 63] (.seq (S [m 64 9,b 65 .neq 9 (t 64) (.const (.string ⟨#[]⟩)) 9,m 66
 65,w 67 (.move (t 10)) 66 false,w 68 (.move (t 0)) 66 false,w 69 (.call ⟨.builtin .len,#[t 68],#[9]⟩) 66 false,w 70 (.binOp .lss 3 (t 67) (t 69) 3) 66 false,d
 71 (.pick (t 66) (.const (.bool true)) (t 70))] (C 71 (.ops [m 72 4,c 73 73 #[t 72,i 2] #[93,33]]) .skip)) (.seq (S [m 74 4,n 75 74,f 76 95 75 2,l 77 33 76,b
 78 .neq 33 (t 77) (i 0) 33] (C 78 (S [d 79 (.build 28 #[]),m 80 4,n 81 80,f 82 95 81 2,l 83 33 82,⟨none,.store 28 (t 2) (t 79),none,[⟨none,33,t 82,83⟩]⟩,a 3
 83] .ret) .skip)) (S [l 84 28 8,s 28 2 84,A 3 (i 0)] .ret)))))))).1
def zmu:PC:=(⟨_,by delta S a c d f m s t;exact rfl⟩:Zz.Q (S [m 28 0,d 29 (.build 95 #[(0,t 28)]),d 30 (.box 95 (t 29)),a 4 30] (S [d 8
 (.alloc 28)] (S [m 31 4,m 32 5,c 33 69 #[t 31,t 32] #[93,22]] (S [m 34 4,c 35 70 #[t 34] #[93],f 36 28 8 1,s 3 36 35] (S [m 37 4,d 38 (.buildSlice 22 2
 #[(0,.const (.string ⟨#[41]⟩)),(1,.const (.string ⟨#[41]⟩))]),c 39 69 #[t 37,t 38] #[93,22]] (.seq (.block 2 (.loop zjF)) zhl))))))).1
def zBF:PC:=(⟨_,by delta A S a d i t;exact rfl⟩:Zz.Q (S [d 2 (.alloc 28),A 3 (i 0)] (S [d 11 (.build 95 #[(0,.const (.string
 ⟨#[40,32,109,111,100,117,108,101,32,40,32,105,109,112,111,114,116,32,34,101,110,118,34,32,34,105,110,34,32,40,32,102,117,110,99,32,40,32,114,101,115,117,108,116,32,105,54,52,32,41,32,41,32,41,32,40,32,105,109,112,111,114,116,32,34,101,110,118,34,32,34,111,117,116,34,32,40,32,102,117,110,99,32,40,32,112,97,114,97,109,32,105,54,52,32,41,32,41,32,41,32,40,32,105,109,112,111,114,116,32,34,101,110,118,34,32,34,116,114,97,112,34,32,40,32,102,117,110,99,32,40,32,112,97,114,97,109,32,105,51,50,32,41,32,41,32,41,32,40,32,109,101,109,111,114,121,32,49,32,41,32,40,32,103,108,111,98,97,108,32,105,51,50,32,40,32,105,51,50,46,99,111,110,115,116,32]⟩))]),d
 12 (.box 95 (t 11)),a 4 12] (S [A 5 (.const (.slice none 0 0))] (.seq (.block 0 (.loop zjE)) zmu))))).1
theorem zrV:Zz.H 85 1 21 zBF [.cell 2 28, .tmp 3]:=fun hn h =>
 zb zm Tryz.func21 (by kernel_rfl) (by kernel_rfl) (by kernel_rfl) (by omega) h
def zBG:PC:=(⟨_,by delta A S a b d f l m t w;exact rfl⟩:Zz.Q (S [d 2 (.box 28 (t 0)),d 3 (.box 28 (t 1)),A 4 (.const (.bool false))] (S [f 5
 28 2 1,l 6 3 5,f 7 28 3 1,l 8 3 7,b 9 .eql 3 (t 6) (t 8) 3,m 10 9,w 11 (.fieldAddr 28 (t 2) 2) 10 true,w 12 (.load 3 (t 11)) 10 true,w 13 (.fieldAddr 28 (t 3)
 2) 10 true,w 14 (.load 3 (t 13)) 10 true,w 15 (.binOp .eql 3 (t 12) (t 14) 3) 10 true,d 16 (.pick (t 10) (t 15) (.const (.bool false))),m 17 16,w 18
 (.fieldAddr 28 (t 2) 0) 17 true,w 19 (.load 26 (t 18)) 17 true,w 20 (.fieldAddr 28 (t 3) 0) 17 true,w 21 (.load 26 (t 20)) 17 true,w 22 (.call ⟨.value (.func
 74),#[t 19,t 21],#[26,26]⟩) 17 true,d 23 (.pick (t 17) (t 22) (.const (.bool false))),a 4 23] .ret))).1
theorem zrW:Zz.H 24 2 22 zBG [.tmp 4]:=fun hn h =>
 zb zm Tryz.func22 (by kernel_rfl) (by kernel_rfl) (by kernel_rfl) (by omega) h
def zjG:PC:=(⟨_,by delta C L S a b c f i l m t x;exact rfl⟩:Zz.Q (.seq (S [m 25 3,f 26 28 1 0,l 27 26 26,m 28 2,x 29 26 27 28,f 30 57 29
 4,l 31 55 30,L 32 31 55,b 33 .lss 3 (t 25) (t 32) 3] (C 33 .skip (.exit 2))) (.seq (.block 3 (.ops [f 36 28 1 0,l 37 26 36,m 38 2,x 39 26 37 38,f 40 57 39 4,l
 41 55 40,m 42 3,x 43 55 41 42,l 44 54 43,c 45 76 #[t 44] #[54]])) (.ops [m 34 3,b 35 .add 3 (t 34) (i 1) 3,a 3 35])))).1
def zmv:PC:=(⟨_,by delta c f l m t x;exact rfl⟩:Zz.Q (.ops [f 46 28 1 0,l 47 26 46,m 48 2,x 49 26 47 48,f 50 57 49 4,l 51 55 50,c 52 77
 #[t 51] #[55]])).1
def zmw:PC:=(⟨_,by delta a b i m t;exact rfl⟩:Zz.Q (.ops [m 9 2,b 10 .add 3 (t 9) (i 1) 3,a 2 10])).1
def zhm:PC:=(⟨_,by delta A C L S b c f i l m t x;exact rfl⟩:Zz.Q (.seq (S [m 4 2,f 5 28 1 0,l 6 26 5,L 7 6 26,b 8 .lss 3 (t 4) (t 7) 3] (C
 8 .skip (.exit 0))) (.seq (.block 1 (S [f 11 28 1 0,l 12 26 11,m 13 2,x 14 26 12 13,f 15 57 14 1,l 16 44 15,c 17 75 #[t 16] #[44]] (S [f 18 28 1 0,l 19 26 18,m
 20 2,x 21 26 19 20,f 22 57 21 2,l 23 44 22,c 24 75 #[t 23] #[44]] (.seq (S [A 3 (i 0)] (.block 2 (.loop zjG))) zmv)))) zmw))).1
def zjH:PC:=(⟨_,by delta c f l t;exact rfl⟩:Zz.Q (.ops [f 53 28 1 0,l 54 26 53,c 55 78 #[t 54] #[26]])).1
def zAI:PC:=(⟨_,by delta A S d i t;exact rfl⟩:Zz.Q (S [d 1 (.box 28 (t 0))] (.seq (S [A 2 (i 0)] (.block 0 (.loop zhm))) zjH))).1
theorem zrX:Zz.H 56 1 23 zAI []:=fun hn h =>
 zb zm Tryz.func23 (by kernel_rfl) (by kernel_rfl) (by kernel_rfl) (by omega) h
def zen:PC:=(⟨_,by delta C S b d m s t;exact rfl⟩:Zz.Q (S [m 4 2,b 5 .neq 20 (t 4) (.const .nilIface) 20] (C 5 (.ops [d 6 (.build 28 #[]),m
 7 2,d 8 (.typeAssert (t 7) 20 33 false),s 28 0 6,s 33 1 8]) .skip))).1
def zfs:PC:=(⟨_,by delta C S a b c i l m t x;exact rfl⟩:Zz.Q (S [b 9 .lss 3 (t 8) (t 7) 3] (.seq (C 9 .skip (.exit 0)) (.seq (.block 1 (S
 [x 10 22 6 8,l 11 9 10,a 5 11] (.ops [m 12 0,c 13 110 #[t 12] #[75],m 14 5,b 15 .eql 9 (t 13) (t 14) 9,c 16 61 #[t 15,i 2] #[4,33]]))) (.ops [b 17 .add 3 (t 8)
 (i 1) 3,m 8 17]))))).1
def zAJ:PC:=(⟨_,by delta L S d i m;exact rfl⟩:Zz.Q (S [m 6 1,L 7 6 22,d 8 (.move (i 0))] (.block 0 (.loop zfs)))).1
theorem zrY:Zz.H 18 2 56 zAJ []:=fun hn h =>
 zb zm Tryz.func56 (by kernel_rfl) (by kernel_rfl) (by kernel_rfl) (by omega) h
def zjI:PC:=(⟨_,by delta C L S a b d i l m t;exact rfl⟩:Zz.Q (.seq (S [m 13 6,m 14 0,L 15 14 9,b 16 .lss 3 (t 13) (t 15) 3] (C 16 .skip
 (.exit 0))) (.seq (.block 1 (S [m 19 0,m 20 6,d 21 (.index 9 (t 19) (t 20)),a 7 21] (S [m 22 5,m 23 7,b 24 .or 5 (t 22) (t 23) 5,a 5 24] (S [m 25 7,d 26
 (.indexAddr 135 (.global 0) (t 25)),l 27 5 26,d 28 (.convert 5 3 (t 27)),a 8 28] (S [m 29 3,m 30 4,m 31 8,d 32 (.unOp .xor 3 (t 31)),b 33 .and 3 (t 30) (t 32)
 3,b 34 .add 3 (t 29) (t 33) 3,a 3 34] (.ops [m 35 8,a 4 35])))))) (.ops [m 17 6,b 18 .add 3 (t 17) (i 1) 3,a 6 18])))).1
def zmx:PC:=(⟨_,by delta C L S a b d i m t w;exact rfl⟩:Zz.Q (.seq (S [m 42 12,m 43 0,L 44 43 9,b 45 .lss 3 (t 42) (t 44) 3,m 46 45,w 47
 (.move (t 0)) 46 true,w 48 (.move (t 12)) 46 true,w 49 (.index 9 (t 47) (t 48)) 46 true,w 50 (.indexAddr 135 (.global 0) (t 49)) 46 true,w 51 (.load 5 (t 50))
 46 true,w 52 (.binOp .neq 5 (t 51) (.const (.int .u8 0)) 5) 46 true,d 53 (.pick (t 46) (t 52) (.const (.bool false)))] (C 53 .skip (.exit 2))) (.block 3 (.ops
 [m 54 12,b 55 .add 3 (t 54) (i 1) 3,a 12 55])))).1
def zmy:PC:=(⟨_,by delta C L S a b d i m t w;exact rfl⟩:Zz.Q (.seq (S [m 80 12,m 81 0,L 82 81 9,b 83 .lss 3 (t 80) (t 82) 3,m 84 83,w 85
 (.move (t 0)) 84 true,w 86 (.move (t 12)) 84 true,w 87 (.index 9 (t 85) (t 86)) 84 true,w 88 (.indexAddr 135 (.global 0) (t 87)) 84 true,w 89 (.load 5 (t 88))
 84 true,w 90 (.binOp .neq 5 (t 89) (.const (.int .u8 0)) 5) 84 true,d 91 (.pick (t 84) (t 90) (.const (.bool false)))] (C 91 .skip (.exit 6))) (.block 7 (.ops
 [m 92 12,b 93 .add 3 (t 92) (i 1) 3,a 12 93])))).1
def zmz:PC:=(⟨_,by delta a m;exact rfl⟩:Zz.Q (.ops [m 94 12,a 11 94])).1
def zhn:PC:=(⟨_,by delta C L S a b d i l m s t x;exact rfl⟩:Zz.Q (.seq (S [m 57 12,m 58 0,L 59 58 9,b 60 .lss 3 (t 57) (t 59) 3] (C 60
 .skip (.exit 4))) (.block 5 (.seq (S [m 61 0,m 62 12,d 63 (.index 9 (t 61) (t 62)),d 64 (.indexAddr 135 (.global 0) (t 63)),l 65 5 64,b 66 .eql 5 (t 65)
 (.const (.int .u8 0)) 5] (C 66 (S [m 67 12,b 68 .add 3 (t 67) (i 1) 3,a 12 68] (.exit 5)) .skip)) (S [m 69 9,m 70 10,m 71 0,m 72 11,m 73 12,d 74 (.slice 9 (t
 71) (some (t 72)) (some (t 73)) none),x 75 22 69 70,s 9 75 74] (S [m 76 10,b 77 .add 3 (t 76) (i 1) 3,a 10 77] (S [m 78 12,b 79 .add 3 (t 78) (i 1) 3,a 12 79]
 (.seq (.block 6 (.loop zmy)) zmz)))))))).1
def zmA:PC:=(⟨_,by delta C L S a b d m s t x;exact rfl⟩:Zz.Q (.seq (S [m 95 11,m 96 0,L 97 96 9,b 98 .lss 3 (t 95) (t 97) 3] (C 98 (.ops
 [m 99 9,m 100 10,m 101 0,m 102 11,d 103 (.slice 9 (t 101) (some (t 102)) none none),x 104 22 99 100,s 9 104 103]) .skip)) (S [m 105 9,a 2 105] .ret))).1
def zmB:PC:=(⟨_,by delta S a m;exact rfl⟩:Zz.Q (S [m 56 12,a 11 56] (.seq (.block 4 (.loop zhn)) zmA))).1
def zmC:PC:=(⟨_,by delta A C S a b c d i m t;exact rfl⟩:Zz.Q (.seq (S [m 36 5,b 37 .geq 5 (t 36) (.const (.int .u8 128)) 5] (C 37 (S [m 38
 0,c 39 111 #[t 38,.func 112] #[9,137],a 2 39] .ret) .skip)) (S [m 40 3,d 41 (.makeSlice 22 (t 40) (t 40)),a 9 41] (S [A 10 (i 0)] (S [A 11 (i 0)] (S [A 12 (i
 0)] (.seq (.block 2 (.loop zmx)) zmB))))))).1
def zBH:PC:=(⟨_,by delta A S i;exact rfl⟩:Zz.Q (S [A 2 (.const (.slice none 0 0))] (S [A 3 (i 0)] (S [A 4 (i 1)] (S [A 5 (.const (.int .u8
 0))] (.seq (S [A 6 (i 0)] (.block 0 (.loop zjI))) zmC)))))).1
theorem zrZ:Zz.H 106 1 57 zBH [.tmp 2]:=fun hn h =>
 zb zm Tryz.func57 (by kernel_rfl) (by kernel_rfl) (by kernel_rfl) (by omega) h
def zBI:PC:=(⟨_,by delta A S a b c d i m t w;exact rfl⟩:Zz.Q (S [A 2 (i 0)] (S [m 7 0,c 8 110 #[t 7] #[75],a 3 8] (S [m 9 3,c 10 113 #[t
 9,.const (.string ⟨#[45]⟩)] #[9,9],a 4 10] (S [m 11 4,b 12 .neq 9 (t 11) (.const (.string ⟨#[]⟩)) 9,m 13 12,w 14 (.move (t 4)) 13 true,w 15 (.call ⟨.value
 (.func 62),#[t 14,.const (.string ⟨#[48,49,50,51,52,53,54,55,56,57]⟩)],#[9,9]⟩) 13 true,w 16 (.binOp .eql 9 (t 15) (.const (.string ⟨#[]⟩)) 9) 13 true,d 17
 (.pick (t 13) (t 16) (.const (.bool false))),c 18 61 #[t 17,i 2] #[4,33]] (S [m 20 3,c 21 114 #[t 20] #[9],m 19 21,d 22 (.extract (t 19) 0),d 23 (.extract (t
 19) 1),a 5 22,a 6 23] (S [m 24 6,b 25 .eql 139 (t 24) (.const .nilIface) 139,m 26 25,w 27 (.move (t 5)) 26 true,w 28 (.call ⟨.value (.func 64),#[t 27],#[3]⟩)
 26 true,w 29 (.move (t 3)) 26 true,w 30 (.binOp .eql 9 (t 28) (t 29) 9) 26 true,d 31 (.pick (t 26) (t 30) (.const (.bool false))),c 32 61 #[t 31,i 11] #[4,33]]
 (S [m 33 5,a 2 33] .ret)))))))).1
theorem zr0:Zz.H 34 1 58 zBI [.tmp 2]:=fun hn h =>
 zb zm Tryz.func58 (by kernel_rfl) (by kernel_rfl) (by kernel_rfl) (by omega) h
def zBJ:PC:=(⟨_,by delta A C S a b c d f l m n s t w;exact rfl⟩:Zz.Q (S [A 4 (.const (.bool false))] (S [m 9 0,n 10 9,f 11 77 10 0,l 12 9
 11,c 13 115 #[t 12] #[9],m 8 13,d 14 (.extract (t 8) 0),d 15 (.extract (t 8) 1),a 5 14,a 6 15] (S [m 17 6,c 18 115 #[t 17] #[9],m 16 18,d 19 (.extract (t 16)
 0),d 20 (.extract (t 16) 1),a 7 19,a 6 20] (.seq (S [m 21 5,b 22 .neq 9 (t 21) (.const (.string ⟨#[40]⟩)) 9,m 23 22,w 24 (.move (t 7)) 23 false,w 25 (.move (t
 1)) 23 false,w 26 (.binOp .neq 9 (t 24) (t 25) 9) 23 false,d 27 (.pick (t 23) (.const (.bool true)) (t 26))] (C 27 (S [A 4 (.const (.bool false))] .ret)
 .skip)) (S [m 28 0,m 29 6,n 30 28,f 31 77 30 0,s 9 31 29] (S [A 4 (.const (.bool true))] .ret))))))).1
theorem zr1:Zz.H 32 2 59 zBJ [.tmp 4]:=fun hn h =>
 zb zm Tryz.func59 (by kernel_rfl) (by kernel_rfl) (by kernel_rfl) (by omega) h
def zBK:PC:=(⟨_,by delta C L S a b c d e f i l m n s t w;exact rfl⟩:Zz.Q (S [d 2 (.alloc 57)] (S [m 7 0,c 8 110 #[t 7] #[75],c 9 116 #[t
 8,.const (.string ⟨#[36]⟩)] #[9,9],m 6 9,d 10 (.extract (t 6) 0),d 11 (.extract (t 6) 1),a 3 10,a 4 11] (S [m 12 4,m 13 12,w 14 (.move (t 3)) 13 true,w 15
 (.call ⟨.value (.func 117),#[t 14],#[9]⟩) 13 true,d 16 (.pick (t 13) (t 15) (.const (.bool false))),c 17 61 #[t 16,i 2] #[4,33]] (S [m 18 3,f 19 57 2 0,s 9 19
 18] (.seq (S [m 20 0,c 21 59 #[t 20,.const (.string ⟨#[112,97,114,97,109]⟩)] #[75,9]] (C 21 (.ops [m 22 0,c 23 118 #[t 22] #[75],f 24 57 2 1,s 44 24 23])
 .skip)) (.seq (S [m 25 0,c 26 59 #[t 25,.const (.string ⟨#[114,101,115,117,108,116]⟩)] #[75,9]] (C 26 (S [m 27 0,c 28 118 #[t 27] #[75],a 5 28] (S [m 29 5,L 30
 29 44,b 31 .eql 3 (t 30) (i 1) 3,c 32 61 #[t 31,i 2] #[4,33]] (.ops [m 33 5,d 34 (.indexAddr 44 (t 33) (i 0)),l 35 3 34,f 36 57 2 3,s 3 36 35]))) .skip)) (.seq
 (S [m 37 0,c 38 59 #[t 37,.const (.string ⟨#[108,111,99,97,108]⟩)] #[75,9]] (C 38 (.ops [m 39 0,c 40 118 #[t 39] #[75],f 41 57 2 2,s 44 41 40]) .skip)) (S [m
 42 0,n 43 42,f 44 77 43 1,e (.store 55 (t 44) (.const (.slice none 0 0)))] (S [m 45 0,d 46 (.buildSlice 22 1 #[(0,.const (.string ⟨#[41]⟩))]),c 47 119 #[t 45,i
 0,t 46] #[75,3,22]] (S [m 48 0,n 49 48,f 50 77 49 1,l 51 55 50,f 52 57 2 4,s 55 52 51] (S [l 53 57 2,s 57 2 53] .ret)))))))))))).1
theorem zr2:Zz.H 54 1 60 zBK [.cell 2 57]:=fun hn h =>
 zb zm Tryz.func60 (by kernel_rfl) (by kernel_rfl) (by kernel_rfl) (by omega) h
def zAK:PC:=(⟨_,by delta C S d e m t;exact rfl⟩:Zz.Q (S [m 4 0,d 5 (.unOp .not 4 (t 4))] (C 5 (.ops [m 6 1,d 7 (.makeInterface 33 (t 6)),e
 (.panic (t 7))]) .skip))).1
theorem zr3:Zz.H 8 2 61 zAK []:=fun hn h =>
 zb zm Tryz.func61 (by kernel_rfl) (by kernel_rfl) (by kernel_rfl) (by omega) h
def zAL:PC:=(⟨_,by delta A C L S a b c d i m s t w;exact rfl⟩:Zz.Q (S [A 4 (.const (.string ⟨#[]⟩))] (.seq (S [m 7 0,b 8 .eql 9 (t 7) (.const
 (.string ⟨#[]⟩)) 9,m 9 8,w 10 (.move (t 1)) 9 false,w 11 (.binOp .eql 9 (t 10) (.const (.string ⟨#[]⟩)) 9) 9 false,d 12 (.pick (t 9) (.const (.bool true)) (t
 11))] (C 12 (S [m 13 0,a 4 13] .ret) .skip)) (.seq (S [m 14 1,L 15 14 9,b 16 .eql 3 (t 15) (i 1) 3,m 17 16,w 18 (.move (t 1)) 17 true,w 19 (.index 9 (t 18) (i
 0)) 17 true,w 20 (.binOp .lss 5 (t 19) (.const (.int .u8 128)) 5) 17 true,d 21 (.pick (t 17) (t 20) (.const (.bool false)))] (C 21 (S [m 22 0,m 23 1,d 24
 (.index 9 (t 23) (i 0)),m 26 1,d 27 (.index 9 (t 26) (i 0)),c 25 121 #[t 22,t 24] #[9,5],c 28 120 #[t 25,t 27] #[9,5],a 4 28] .ret) .skip)) (.seq (S [m 30 1,c
 31 122 #[t 30] #[9],m 29 31,d 32 (.extract (t 29) 0),d 33 (.extract (t 29) 1),d 5 (.alloc 151),s 151 5 32,a 6 33] (S [m 34 6] (C 34 (S [m 35 0,c 36 124 #[t
 35,t 5] #[9,155],c 37 123 #[t 36,t 5] #[9,155],a 4 37] .ret) .skip))) (S [m 38 0,m 39 1,c 40 126 #[t 38,t 39] #[9,9],m 41 1,c 42 125 #[t 40,t 41] #[9,9],a 4
 42] .ret)))))).1
theorem zr4:Zz.H 43 2 62 zAL [.tmp 4]:=fun hn h =>
 zb zm Tryz.func62 (by kernel_rfl) (by kernel_rfl) (by kernel_rfl) (by omega) h
def zjJ:PC:=(⟨_,by delta C S a b c f i l m n t x;exact rfl⟩:Zz.Q (S [b 9 .lss 3 (t 8) (t 7) 3] (.seq (C 9 .skip (.exit 0)) (.seq (.block 1
 (S [x 10 22 6 8,l 11 9 10,a 5 11] (.seq (S [m 12 0,n 13 12,f 14 88 13 0,c 15 127 #[t 14] #[86],b 16 .gtr 3 (t 15) (i 0) 3] (C 16 (.ops [m 17 0,n 18 17,f 19 88
 18 0,c 20 128 #[t 19,.const (.int .u8 32)] #[86,5]]) .skip)) (.ops [m 21 0,n 22 21,f 23 88 22 0,m 24 5,c 25 129 #[t 23,t 24] #[86,9]])))) (.ops [b 26 .add 3 (t
 8) (i 1) 3,m 8 26]))))).1
def zBL:PC:=(⟨_,by delta L S d i m;exact rfl⟩:Zz.Q (S [m 6 1,L 7 6 22,d 8 (.move (i 0))] (.block 0 (.loop zjJ)))).1
theorem zr5:Zz.H 27 2 63 zBL []:=fun hn h =>
 zb zm Tryz.func63 (by kernel_rfl) (by kernel_rfl) (by kernel_rfl) (by omega) h
def zjK:PC:=(⟨_,by delta C S a b c d i l m t x;exact rfl⟩:Zz.Q (S [b 18 .lss 3 (t 17) (t 16) 3] (.seq (C 18 .skip (.exit 0)) (.seq (.block
 1 (S [x 19 44 15 17,l 20 3 19,a 7 20] (.ops [m 21 0,m 22 7,c 23 131 #[t 22] #[3],d 24 (.buildSlice 22 1 #[(0,t 23)]),c 25 63 #[t 21,t 24] #[83,22]]))) (.ops [b
 26 .add 3 (t 17) (i 1) 3,m 17 26]))))).1
def zmD:PC:=(⟨_,by delta c d m t;exact rfl⟩:Zz.Q (.ops [m 27 0,d 28 (.buildSlice 22 1 #[(0,.const (.string ⟨#[41]⟩))]),c 29 63 #[t 27,t
 28] #[83,22]])).1
def zAM:PC:=(⟨_,by delta C L S b c d i m t;exact rfl⟩:Zz.Q (.seq (S [m 8 2,L 9 8 44,b 10 .eql 3 (t 9) (i 0) 3] (C 10 .ret .skip)) (S [m 11
 0,m 12 1,d 13 (.buildSlice 22 2 #[(0,.const (.string ⟨#[40]⟩)),(1,t 12)]),c 14 63 #[t 11,t 13] #[83,22]] (.seq (S [m 15 2,L 16 15 44,d 17 (.move (i 0))]
 (.block 0 (.loop zjK))) zmD)))).1
theorem zr6:Zz.H 30 3 65 zAM []:=fun hn h =>
 zb zm Tryz.func65 (by kernel_rfl) (by kernel_rfl) (by kernel_rfl) (by omega) h
def zcv:PC:=(⟨_,by delta C S a b c d f i l m s t w x;exact rfl⟩:Zz.Q (S [b 17 .lss 3 (t 16) (t 15) 3] (.seq (C 17 .skip (.exit 0)) (.seq
 (.block 1 (S [x 18 54 14 16,l 19 53 18,d 7 (.alloc 53),s 53 7 19] (.seq (S [f 20 53 7 0,l 21 3 20] (.block 2 (.seq (S [b 23 .eql 3 (t 21) (i 11) 3,a 22 23] (C
 22 .skip (S [b 24 .eql 3 (t 21) (i 12) 3,a 22 24] (C 22 .skip (.ops [b 25 .eql 3 (t 21) (i 13) 3,a 22 25]))))) (C 22 (S [m 26 0,f 27 53 7 0,l 28 3 27,c 29 132
 #[t 28] #[3],d 30 (.buildSlice 22 1 #[(0,t 29)]),c 31 63 #[t 26,t 30] #[83,22]] (S [m 32 0,l 33 57 4,f 34 53 7 3,l 35 3 34,c 36 66 #[t 32,t 33,t 35]
 #[83,57,3]] (.seq (S [f 37 53 7 0,l 38 3 37,b 39 .eql 3 (t 38) (i 13) 3,m 40 39,w 41 (.fieldAddr 53 (t 7) 4) 40 true,w 42 (.load 3 (t 41)) 40 true,w 43 (.binOp
 .geq 3 (t 42) (i 0) 3) 40 true,d 44 (.pick (t 40) (t 43) (.const (.bool false)))] (C 44 (S [m 45 0,d 46 (.buildSlice 22 1 #[(0,.const (.string
 ⟨#[101,108,115,101]⟩))]),c 47 63 #[t 45,t 46] #[83,22]] (.ops [m 48 0,l 49 57 4,f 50 53 7 4,l 51 3 50,c 52 66 #[t 48,t 49,t 51] #[83,57,3]])) .skip)) (S [m 53
 0,d 54 (.buildSlice 22 1 #[(0,.const (.string ⟨#[101,110,100]⟩))]),c 55 63 #[t 53,t 54] #[83,22]] (.exit 1))))) .skip)))) (S [m 56 0,l 57 53 7,c 58 133 #[t 57]
 #[53],d 59 (.buildSlice 22 1 #[(0,t 58)]),c 60 63 #[t 56,t 59] #[83,22]] (S [l 62 53 7,c 63 133 #[t 62] #[53],c 64 134 #[t 63] #[9],m 61 64,d 65 (.extract (t
 61) 0),d 66 (.extract (t 61) 1),d 8 (.alloc 53),s 53 8 65,a 9 66] (S [m 67 9] (C 67 (.ops [m 68 0,f 69 53 7 2,l 70 3 69,c 71 64 #[t 70] #[3],d 72 (.buildSlice
 22 1 #[(0,t 71)]),c 73 63 #[t 68,t 72] #[83,22]]) .skip))))))) (.ops [b 74 .add 3 (t 16) (i 1) 3,m 16 74]))))).1
def zBM:PC:=(⟨_,by delta L S d f i l m t x;exact rfl⟩:Zz.Q (S [d 4 (.box 57 (t 1))] (S [f 10 57 4 4,l 11 55 10,m 12 2,x 13 55 11 12,l 14 54
 13,L 15 14 54,d 16 (.move (i 0))] (.block 0 (.loop zcv))))).1
theorem zr7:Zz.H 75 3 66 zBM []:=fun hn h =>
 zb zm Tryz.func66 (by kernel_rfl) (by kernel_rfl) (by kernel_rfl) (by omega) h
def zBN:PC:=(⟨_,by delta A L S a d f l m n t;exact rfl⟩:Zz.Q (S [A 2 (.const (.string ⟨#[]⟩))] (S [m 3 0,n 4 3,f 5 86 4 1,l 6 32 5,d 7 (.call
 ⟨.builtin .unsafeSliceData,#[t 6],#[32]⟩),m 8 0,n 9 8,f 10 86 9 1,l 11 32 10,L 12 11 32,d 13 (.call ⟨.builtin .unsafeString,#[t 7,t 12],#[160,3]⟩),a 2 13]
 .ret))).1
theorem zr8:Zz.H 14 1 67 zBN [.tmp 2]:=fun hn h =>
 zb zm Tryz.func67 (by kernel_rfl) (by kernel_rfl) (by kernel_rfl) (by omega) h
def zft:PC:=(⟨_,by delta C L S a b d f i l m n t w;exact rfl⟩:Zz.Q (.seq (S [m 10 4,m 11 0,n 12 11,f 13 95 12 0,l 14 9 13,L 15 14 9,b 16
 .lss 3 (t 10) (t 15) 3,m 17 16,w 18 (.move (t 0)) 17 true,w 19 (.nilCheck (t 18)) 17 true,w 20 (.fieldAddr 95 (t 19) 0) 17 true,w 21 (.load 9 (t 20)) 17 true,w
 22 (.move (t 4)) 17 true,w 23 (.index 9 (t 21) (t 22)) 17 true,w 24 (.binOp .eql 5 (t 23) (.const (.int .u8 32)) 5) 17 true,w 25 (.move (t 24)) 17 true,w 26
 (.move (t 0)) 25 false,w 27 (.nilCheck (t 26)) 25 false,w 28 (.fieldAddr 95 (t 27) 0) 25 false,w 29 (.load 9 (t 28)) 25 false,w 30 (.move (t 4)) 25 false,w 31
 (.index 9 (t 29) (t 30)) 25 false,w 32 (.binOp .eql 5 (t 31) (.const (.int .u8 10)) 5) 25 false,w 33 (.pick (t 25) (.const (.bool true)) (t 32)) 17 true,d 34
 (.pick (t 17) (t 33) (.const (.bool false)))] (C 34 .skip (.exit 0))) (.block 1 (.ops [m 35 4,b 36 .add 3 (t 35) (i 1) 3,a 4 36])))).1
def zfu:PC:=(⟨_,by delta C L S a b d f i l m n t w;exact rfl⟩:Zz.Q (.seq (S [m 54 5,m 55 0,n 56 55,f 57 95 56 0,l 58 9 57,L 59 58 9,b 60
 .lss 3 (t 54) (t 59) 3,m 61 60,w 62 (.move (t 0)) 61 true,w 63 (.nilCheck (t 62)) 61 true,w 64 (.fieldAddr 95 (t 63) 0) 61 true,w 65 (.load 9 (t 64)) 61 true,w
 66 (.move (t 5)) 61 true,w 67 (.index 9 (t 65) (t 66)) 61 true,w 68 (.binOp .neq 5 (t 67) (.const (.int .u8 34)) 5) 61 true,d 69 (.pick (t 61) (t 68) (.const
 (.bool false))),m 70 69,w 71 (.move (t 0)) 70 true,w 72 (.nilCheck (t 71)) 70 true,w 73 (.fieldAddr 95 (t 72) 0) 70 true,w 74 (.load 9 (t 73)) 70 true,w 75
 (.move (t 5)) 70 true,w 76 (.index 9 (t 74) (t 75)) 70 true,w 77 (.binOp .neq 5 (t 76) (.const (.int .u8 10)) 5) 70 true,d 78 (.pick (t 70) (t 77) (.const
 (.bool false)))] (C 78 .skip (.exit 2))) (.block 3 (.ops [m 79 5,b 80 .add 3 (t 79) (i 1) 3,a 5 80])))).1
def zfv:PC:=(⟨_,by delta A C L S a b d f i l m n t w;exact rfl⟩:Zz.Q (.seq (S [m 81 5,m 82 0,n 83 82,f 84 95 83 0,l 85 9 84,L 86 85 9,b 87
 .eql 3 (t 81) (t 86) 3,m 88 87,w 89 (.move (t 0)) 88 false,w 90 (.nilCheck (t 89)) 88 false,w 91 (.fieldAddr 95 (t 90) 0) 88 false,w 92 (.load 9 (t 91)) 88
 false,w 93 (.move (t 5)) 88 false,w 94 (.index 9 (t 92) (t 93)) 88 false,w 95 (.binOp .eql 5 (t 94) (.const (.int .u8 10)) 5) 88 false,d 96 (.pick (t 88)
 (.const (.bool true)) (t 95))] (C 96 (S [m 97 4,A 2 (.const (.string ⟨#[]⟩)),a 3 97] .ret) .skip)) (S [m 98 0,n 99 98,f 100 95 99 0,l 101 9 100,m 102 4,m 103
 5,b 104 .add 3 (t 103) (i 1) 3,d 105 (.slice 9 (t 101) (some (t 102)) (some (t 104)) none),m 106 5,b 107 .add 3 (t 106) (i 1) 3,a 2 105,a 3 107] .ret))).1
def zjL:PC:=(⟨_,by delta C L S a b d f i l m n t w;exact rfl⟩:Zz.Q (.seq (S [m 123 5,m 124 0,n 125 124,f 126 95 125 0,l 127 9 126,L 128
 127 9,b 129 .lss 3 (t 123) (t 128) 3,m 130 129,w 131 (.move (t 0)) 130 true,w 132 (.nilCheck (t 131)) 130 true,w 133 (.fieldAddr 95 (t 132) 0) 130 true,w 134
 (.load 9 (t 133)) 130 true,w 135 (.move (t 5)) 130 true,w 136 (.index 9 (t 134) (t 135)) 130 true,w 137 (.call ⟨.value (.func 135),#[t 136],#[5]⟩) 130 true,w
 138 (.unOp .not 4 (t 137)) 130 true,d 139 (.pick (t 130) (t 138) (.const (.bool false)))] (C 139 .skip (.exit 4))) (.block 5 (.ops [m 140 5,b 141 .add 3 (t
 140) (i 1) 3,a 5 141])))).1
def zho:PC:=(⟨_,by delta S a d f l m n t;exact rfl⟩:Zz.Q (S [m 142 0,n 143 142,f 144 95 143 0,l 145 9 144,m 146 4,m 147 5,d 148 (.slice 9
 (t 145) (some (t 146)) (some (t 147)) none),m 149 5,a 2 148,a 3 149] .ret)).1
def zmE:PC:=(⟨_,by delta C S a c d f l m n t;exact rfl⟩:Zz.Q (.seq (S [m 108 0,n 109 108,f 110 95 109 0,l 111 9 110,m 112 4,d 113 (.index
 9 (t 111) (t 112)),c 114 135 #[t 113] #[5]] (C 114 (S [m 115 0,n 116 115,f 117 95 116 0,l 118 9 117,m 119 4,m 120 5,d 121 (.slice 9 (t 118) (some (t 119))
 (some (t 120)) none),m 122 5,a 2 121,a 3 122] .ret) .skip)) (.seq (.block 4 (.loop zjL)) zho))).1
def zfw:PC:=(⟨_,by delta A C L S a b d f i l m n t;exact rfl⟩:Zz.Q (.seq (S [m 37 4,m 38 0,n 39 38,f 40 95 39 0,l 41 9 40,L 42 41 9,b 43
 .eql 3 (t 37) (t 42) 3] (C 43 (S [m 44 4,A 2 (.const (.string ⟨#[]⟩)),a 3 44] .ret) .skip)) (S [m 45 4,b 46 .add 3 (t 45) (i 1) 3,a 5 46] (.seq (S [m 47 0,n 48
 47,f 49 95 48 0,l 50 9 49,m 51 4,d 52 (.index 9 (t 50) (t 51)),b 53 .eql 5 (t 52) (.const (.int .u8 34)) 5] (C 53 (.seq (.block 2 (.loop zfu)) zfv)
 .skip)) zmE)))).1
def zBO:PC:=(⟨_,by delta A S a f i l m n;exact rfl⟩:Zz.Q (S [A 2 (.const (.string ⟨#[]⟩)),A 3 (i 0)] (S [m 6 0,n 7 6,f 8 95 7 1,l 9 3 8,a 4
 9] (.seq (.block 0 (.loop zft)) zfw)))).1
theorem zr9:Zz.H 150 1 68 zBO [.tmp 2, .tmp 3]:=fun hn h =>
 zb zm Tryz.func68 (by kernel_rfl) (by kernel_rfl) (by kernel_rfl) (by omega) h
def zfx:PC:=(⟨_,by delta C L S a b c i l m t x;exact rfl⟩:Zz.Q (.seq (S [m 5 4,m 6 1,L 7 6 22,b 8 .lss 3 (t 5) (t 7) 3] (C 8 .skip (.exit
 0))) (.seq (.block 1 (S [m 11 0,m 13 1,m 14 4,x 15 22 13 14,l 16 9 15,⟨some 12,.call ⟨.value (.func 136),#[t 11],#[93]⟩,none,[⟨none,9,t 15,16⟩]⟩,b 17 .neq 9 (t
 12) (t 16) 9] (C 17 (.ops [m 18 0,c 19 73 #[t 18,i 2] #[93,33]]) .skip))) (.ops [m 9 4,b 10 .add 3 (t 9) (i 1) 3,a 4 10])))).1
def zBP:PC:=(⟨_,by delta A S i;exact rfl⟩:Zz.Q (S [A 4 (i 0)] (.block 0 (.loop zfx)))).1
theorem zsa:Zz.H 20 2 69 zBP []:=fun hn h =>
 zb zm Tryz.func69 (by kernel_rfl) (by kernel_rfl) (by kernel_rfl) (by omega) h
def zcw:PC:=(⟨_,by delta A C L S a b c d i m t w;exact rfl⟩:Zz.Q (.seq (S [m 20 6,m 21 4,L 22 21 9,b 23 .lss 3 (t 20) (t 22) 3] (C 23
 .skip (.exit 0))) (.seq (.block 1 (.seq (S [m 26 4,m 27 6,d 28 (.index 9 (t 26) (t 27)),b 29 .lss 5 (t 28) (.const (.int .u8 48)) 5,m 30 29,w 31 (.move (t 4))
 30 false,w 32 (.move (t 6)) 30 false,w 33 (.index 9 (t 31) (t 32)) 30 false,w 34 (.binOp .gtr 5 (t 33) (.const (.int .u8 57)) 5) 30 false,d 35 (.pick (t 30)
 (.const (.bool true)) (t 34))] (C 35 (S [m 36 0,c 37 73 #[t 36,i 2] #[93,33]] (S [A 2 (i 0)] .ret)) .skip)) (.ops [m 38 5,b 39 .mul 3 (i 10) (t 38) 3,m 40 4,m
 41 6,d 42 (.index 9 (t 40) (t 41)),b 43 .sub 5 (t 42) (.const (.int .u8 48)) 5,d 44 (.convert 5 3 (t 43)),b 45 .sub 3 (t 39) (t 44) 3,a 5 45]))) (.ops [m 24
 6,b 25 .add 3 (t 24) (i 1) 3,a 6 25])))).1
def zfy:PC:=(⟨_,by delta A C L S a b c d i m t;exact rfl⟩:Zz.Q (.seq (S [m 46 4,L 47 46 9,b 48 .eql 3 (t 47) (i 0) 3] (C 48 (S [m 49 0,c
 50 73 #[t 49,i 2] #[93,33]] (S [A 2 (i 0)] .ret)) .skip)) (.seq (S [m 51 4,L 52 51 9,m 53 3,L 54 53 9,b 55 .lss 3 (t 52) (t 54) 3] (C 55 (.ops [m 56 5,d 57
 (.unOp .neg 3 (t 56)),a 5 57]) .skip)) (.seq (S [m 58 5,d 59 (.unOp .neg 3 (t 58)),c 60 83 #[t 59] #[3],m 61 3,b 62 .neq 9 (t 60) (t 61) 9] (C 62 (S [m 63 0,c
 64 73 #[t 63,i 11] #[93,33]] (S [A 2 (i 0)] .ret)) .skip)) (S [m 65 5,d 66 (.unOp .neg 3 (t 65)),a 2 66] .ret))))).1
def zBQ:PC:=(⟨_,by delta A C S a b c d f i l m n t;exact rfl⟩:Zz.Q (S [A 2 (i 0)] (S [m 7 0,c 8 136 #[t 7] #[93],a 3 8] (.seq (S [m 9 0,n 10
 9,f 11 95 10 2,l 12 33 11,b 13 .neq 33 (t 12) (i 0) 33] (C 13 (S [A 2 (i 0)] .ret) .skip)) (S [m 14 3,a 4 14] (.seq (S [m 15 4,d 16 (.index 9 (t 15) (i 0)),b
 17 .eql 5 (t 16) (.const (.int .u8 45)) 5] (C 17 (.ops [m 18 4,d 19 (.slice 9 (t 18) (some (i 1)) none none),a 4 19]) .skip)) (S [A 5 (i 0)] (.seq (S [A 6 (i
 0)] (.block 0 (.loop zcw))) zfy)))))))).1
theorem zsb:Zz.H 67 1 70 zBQ [.tmp 2]:=fun hn h =>
 zb zm Tryz.func70 (by kernel_rfl) (by kernel_rfl) (by kernel_rfl) (by omega) h
def zBR:PC:=(⟨_,by delta A C S a b c d f i l m n s t w;exact rfl⟩:Zz.Q (S [A 6 (.const (.bool false))] (S [m 10 0,n 11 10,f 12 95 11 1,l 13 3
 12,a 7 13] (S [m 15 0,c 16 68 #[t 15] #[93],m 14 16,d 17 (.extract (t 14) 0),d 18 (.extract (t 14) 1),a 8 17,a 9 18] (.seq (S [m 19 0,n 20 19,f 21 95 20 2,l 22
 33 21,b 23 .neq 33 (t 22) (i 0) 33,m 24 23,w 25 (.move (t 8)) 24 false,w 26 (.move (t 1)) 24 false,w 27 (.binOp .neq 9 (t 25) (t 26) 9) 24 false,d 28 (.pick (t
 24) (.const (.bool true)) (t 27))] (C 28 (S [A 6 (.const (.bool false))] .ret) .skip)) (S [m 29 0,m 30 9,n 31 29,f 32 95 31 1,s 3 32 30] (S [m 34 0,c 35 68 #[t
 34] #[93],m 33 35,d 36 (.extract (t 33) 0),d 37 (.extract (t 33) 1),a 8 36,a 9 37] (.seq (S [m 38 8,m 39 2,b 40 .neq 9 (t 38) (t 39) 9] (C 40 (S [m 41 0,m 42
 7,n 43 41,f 44 95 43 1,s 3 44 42] (S [A 6 (.const (.bool false))] .ret)) .skip)) (S [m 45 0,m 46 9,n 47 45,f 48 95 47 1,s 3 48 46] (S [A 6 (.const (.bool
 true))] .ret)))))))))).1
theorem zsc:Zz.H 49 3 71 zBR [.tmp 6]:=fun hn h =>
 zb zm Tryz.func71 (by kernel_rfl) (by kernel_rfl) (by kernel_rfl) (by omega) h
def zkm:PC:=(⟨_,by delta C L S a b c d e f i l m n s t w;exact rfl⟩:Zz.Q (S [d 2 (.alloc 57)] (S [d 3 (.alloc 57)] (S [m 6 0,c 7 136 #[t 6]
 #[93],a 4 7] (.seq (S [m 8 0,n 9 8,f 10 95 9 2,l 11 33 10,b 12 .eql 33 (t 11) (i 0) 33,m 13 12,w 14 (.move (t 4)) 13 true,w 15 (.index 9 (t 14) (i 0)) 13
 true,w 16 (.binOp .neq 5 (t 15) (.const (.int .u8 36)) 5) 13 true,w 17 (.move (t 16)) 13 true,w 18 (.move (t 4)) 17 false,w 19 (.slice 9 (t 18) (some (i 1))
 none none) 17 false,w 20 (.call ⟨.value (.func 137),#[t 19],#[9]⟩) 17 false,w 21 (.unOp .not 4 (t 20)) 17 false,w 22 (.pick (t 17) (.const (.bool true)) (t
 21)) 13 true,d 23 (.pick (t 13) (t 22) (.const (.bool false)))] (C 23 (.ops [m 24 0,c 25 73 #[t 24,i 2] #[93,33]]) .skip)) (.seq (S [m 26 0,n 27 26,f 28 95 27
 2,l 29 33 28,b 30 .neq 33 (t 29) (i 0) 33] (C 30 (S [l 31 57 3,s 57 2 31] .ret) .skip)) (S [m 32 4,d 33 (.slice 9 (t 32) (some (i 1)) none none),f 34 57 3 0,s
 9 34 33] (.seq (S [m 35 0,c 36 71 #[t 35,.const (.string ⟨#[40]⟩),.const (.string ⟨#[112,97,114,97,109]⟩)] #[93,9,9]] (C 36 (.ops [m 37 0,c 38 138 #[t 37]
 #[93],f 39 57 3 1,s 44 39 38]) .skip)) (.seq (S [m 40 0,c 41 71 #[t 40,.const (.string ⟨#[40]⟩),.const (.string ⟨#[114,101,115,117,108,116]⟩)] #[93,9,9]] (C 41
 (S [m 42 0,c 43 138 #[t 42] #[93],a 5 43] (S [m 44 5,L 45 44 44,b 46 .neq 3 (t 45) (i 1) 3] (C 46 (.ops [m 47 0,c 48 73 #[t 47,i 2] #[93,33]]) (.ops [m 49 5,d
 50 (.indexAddr 44 (t 49) (i 0)),l 51 3 50,f 52 57 3 3,s 3 52 51])))) .skip)) (.seq (S [m 53 0,c 54 71 #[t 53,.const (.string ⟨#[40]⟩),.const (.string
 ⟨#[108,111,99,97,108]⟩)] #[93,9,9]] (C 54 (.ops [m 55 0,c 56 138 #[t 55] #[93],f 57 57 3 2,s 44 57 56]) .skip)) (S [m 58 0,n 59 58,f 60 95 59 3,e (.store 55 (t
 60) (.const (.slice none 0 0)))] (S [m 61 0,c 62 139 #[t 61,i 0,.const (.bool false)] #[93,3,4]] (S [m 63 0,n 64 63,f 65 95 64 3,l 66 55 65,f 67 57 3 4,s 55 67
 66] (S [l 68 57 3,s 57 2 68] .ret)))))))))))))).1
theorem zsd:Zz.H 69 1 72 zkm [.cell 2 57]:=fun hn h =>
 zb zm Tryz.func72 (by kernel_rfl) (by kernel_rfl) (by kernel_rfl) (by omega) h
def zAN:PC:=(⟨_,by delta C S b f i l m n s t;exact rfl⟩:Zz.Q (S [m 4 0,n 5 4,f 6 95 5 2,l 7 33 6,b 8 .eql 33 (t 7) (i 0) 33] (C 8 (.ops [m 9
 0,m 10 1,n 11 9,f 12 95 11 2,s 33 12 10]) .skip))).1
theorem zse:Zz.H 13 2 73 zAN []:=fun hn h =>
 zb zm Tryz.func73 (by kernel_rfl) (by kernel_rfl) (by kernel_rfl) (by omega) h
def zjM:PC:=(⟨_,by delta A C L S a b c d i l m t x;exact rfl⟩:Zz.Q (.seq (S [m 11 5,m 12 0,L 13 12 26,b 14 .lss 3 (t 11) (t 13) 3] (C 14
 .skip (.exit 0))) (.seq (.block 1 (S [m 17 0,m 18 5,x 19 26 17 18,l 20 57 19,m 21 1,m 22 5,x 23 26 21 22,l 24 57 23,c 25 140 #[t 20,t 24] #[57,57],d 26 (.unOp
 .not 4 (t 25))] (C 26 (S [A 4 (.const (.bool false))] .ret) .skip))) (.ops [m 15 5,b 16 .add 3 (t 15) (i 1) 3,a 5 16])))).1
def zmF:PC:=(⟨_,by delta A S;exact rfl⟩:Zz.Q (S [A 4 (.const (.bool true))] .ret)).1
def zBS:PC:=(⟨_,by delta A C L S b i m t;exact rfl⟩:Zz.Q (S [A 4 (.const (.bool false))] (.seq (S [m 6 0,L 7 6 26,m 8 1,L 9 8 26,b 10 .neq 3
 (t 7) (t 9) 3] (C 10 (S [A 4 (.const (.bool false))] .ret) .skip)) (.seq (S [A 5 (i 0)] (.block 0 (.loop zjM))) zmF)))).1
theorem zsf:Zz.H 27 2 74 zBS [.tmp 4]:=fun hn h =>
 zb zm Tryz.func74 (by kernel_rfl) (by kernel_rfl) (by kernel_rfl) (by omega) h
def zfz:PC:=(⟨_,by delta C L S a b c i m s t x;exact rfl⟩:Zz.Q (.seq (S [m 3 2,m 4 0,L 5 4 44,b 6 .lss 3 (t 3) (t 5) 3] (C 6 .skip (.exit
 0))) (.seq (.block 1 (.ops [m 9 0,m 10 2,m 11 2,b 12 .add 3 (t 11) (i 7) 3,c 13 141 #[t 12] #[3],x 14 44 9 10,s 3 14 13])) (.ops [m 7 2,b 8 .add 3 (t 7) (i 1)
 3,a 2 8])))).1
def zBT:PC:=(⟨_,by delta A S i;exact rfl⟩:Zz.Q (S [A 2 (i 0)] (.block 0 (.loop zfz)))).1
theorem zsg:Zz.H 15 1 75 zBT []:=fun hn h =>
 zb zm Tryz.func75 (by kernel_rfl) (by kernel_rfl) (by kernel_rfl) (by omega) h
def zhp:PC:=(⟨_,by delta C L S a b c i m s t x;exact rfl⟩:Zz.Q (.seq (S [m 3 2,m 4 0,L 5 4 54,b 6 .lss 3 (t 3) (t 5) 3] (C 6 .skip (.exit
 0))) (.seq (.block 1 (.ops [m 9 0,m 10 2,m 11 2,b 12 .add 3 (t 11) (i 7) 3,c 13 142 #[t 12] #[3],x 14 54 9 10,s 53 14 13])) (.ops [m 7 2,b 8 .add 3 (t 7) (i 1)
 3,a 2 8])))).1
def zBU:PC:=(⟨_,by delta A S i;exact rfl⟩:Zz.Q (S [A 2 (i 0)] (.block 0 (.loop zhp)))).1
theorem zsh:Zz.H 15 1 76 zBU []:=fun hn h =>
 zb zm Tryz.func76 (by kernel_rfl) (by kernel_rfl) (by kernel_rfl) (by omega) h
def zhq:PC:=(⟨_,by delta C L S a b c i m s t x;exact rfl⟩:Zz.Q (.seq (S [m 3 2,m 4 0,L 5 4 55,b 6 .lss 3 (t 3) (t 5) 3] (C 6 .skip (.exit
 0))) (.seq (.block 1 (.ops [m 9 0,m 10 2,m 11 2,b 12 .add 3 (t 11) (i 7) 3,c 13 143 #[t 12] #[3],x 14 55 9 10,s 54 14 13])) (.ops [m 7 2,b 8 .add 3 (t 7) (i 1)
 3,a 2 8])))).1
def zBV:PC:=(⟨_,by delta A S i;exact rfl⟩:Zz.Q (S [A 2 (i 0)] (.block 0 (.loop zhq)))).1
theorem zsi:Zz.H 15 1 77 zBV []:=fun hn h =>
 zb zm Tryz.func77 (by kernel_rfl) (by kernel_rfl) (by kernel_rfl) (by omega) h
def zhr:PC:=(⟨_,by delta C L S a b c i m s t x;exact rfl⟩:Zz.Q (.seq (S [m 3 2,m 4 0,L 5 4 26,b 6 .lss 3 (t 3) (t 5) 3] (C 6 .skip (.exit
 0))) (.seq (.block 1 (.ops [m 9 0,m 10 2,m 11 2,b 12 .add 3 (t 11) (i 7) 3,c 13 144 #[t 12] #[3],x 14 26 9 10,s 57 14 13])) (.ops [m 7 2,b 8 .add 3 (t 7) (i 1)
 3,a 2 8])))).1
def zAO:PC:=(⟨_,by delta A S i;exact rfl⟩:Zz.Q (S [A 2 (i 0)] (.block 0 (.loop zhr)))).1
theorem zmG:Zz.H 15 1 78 zAO []:=fun hn h =>
 zb zm Tryz.func78 (by kernel_rfl) (by kernel_rfl) (by kernel_rfl) (by omega) h
def zjN:PC:=(⟨_,by delta A C L S a b d i l m t x;exact rfl⟩:Zz.Q (.seq (S [m 11 5,m 12 0,L 13 12 44,b 14 .lss 3 (t 11) (t 13) 3] (C 14
 .skip (.exit 0))) (.seq (.block 1 (S [m 17 0,m 18 5,x 19 44 17 18,l 20 3 19,m 21 1,m 22 5,x 23 44 21 22,l 24 3 23,b 25 .eql 3 (t 20) (t 24) 3,d 26 (.unOp .not
 4 (t 25))] (C 26 (S [A 4 (.const (.bool false))] .ret) .skip))) (.ops [m 15 5,b 16 .add 3 (t 15) (i 1) 3,a 5 16])))).1
def zmH:PC:=(⟨_,by delta A S;exact rfl⟩:Zz.Q (S [A 4 (.const (.bool true))] .ret)).1
def zBW:PC:=(⟨_,by delta A C L S b i m t;exact rfl⟩:Zz.Q (S [A 4 (.const (.bool false))] (.seq (S [m 6 0,L 7 6 44,m 8 1,L 9 8 44,b 10 .neq 3
 (t 7) (t 9) 3] (C 10 (S [A 4 (.const (.bool false))] .ret) .skip)) (.seq (S [A 5 (i 0)] (.block 0 (.loop zjN))) zmH)))).1
theorem zsj:Zz.H 27 2 79 zBW [.tmp 4]:=fun hn h =>
 zb zm Tryz.func79 (by kernel_rfl) (by kernel_rfl) (by kernel_rfl) (by omega) h
def zu7:PC:=(⟨_,by delta A C S a b c d i m t;exact rfl⟩:Zz.Q (S [A 2 (.const (.string ⟨#[]⟩))] (.seq (S [m 3 0,b 4 .eql 3 (t 3) (i
 (-9223372036854775808)) 3] (C 4 (S [A 2 (.const (.string ⟨#[45,57,50,50,51,51,55,50,48,51,54,56,53,52,55,55,53,56,48,56]⟩))] .ret) .skip)) (.seq (S [m 5 0,b 6
 .lss 3 (t 5) (i 0) 3] (C 6 (S [m 7 0,d 8 (.unOp .neg 3 (t 7)),c 9 83 #[t 8] #[3],b 10 .add 9 (.const (.string ⟨#[45]⟩)) (t 9) 9,a 2 10] .ret) .skip)) (.seq (S
 [m 11 0,b 12 .lss 3 (t 11) (i 10) 3] (C 12 (S [m 13 0,b 14 .add 3 (i 48) (t 13) 3,d 15 (.convert 3 5 (t 14)),d 16 (.buildSlice 32 1 #[(0,t 15)]),d 17 (.convert
 32 9 (t 16)),a 2 17] .ret) .skip)) (S [m 18 0,b 19 .quo 3 (t 18) (i 10) 3,c 20 83 #[t 19] #[3],m 21 0,b 22 .rem 3 (t 21) (i 10) 3,c 23 83 #[t 22] #[3],b 24
 .add 9 (t 20) (t 23) 9,a 2 24] .ret)))))).1
theorem zmI:Zz.H 25 1 83 zu7 [.tmp 2]:=fun hn h =>
 zb zm Tryz.func83 (by kernel_rfl) (by kernel_rfl) (by kernel_rfl) (by omega) h
def zAP:PC:=(⟨_,by delta A C S b i m t;exact rfl⟩:Zz.Q (S [A 2 (.const (.string ⟨#[]⟩))] (.seq (S [m 3 0,b 4 .eql 3 (t 3) (i 2) 3] (C 4 (S [A
 2 (.const (.string ⟨#[105,54,52]⟩))] .ret) .skip)) (S [A 2 (.const (.string ⟨#[105,51,50]⟩))] .ret)))).1
theorem zsk:Zz.H 5 1 85 zAP [.tmp 2]:=fun hn h =>
 zb zm Tryz.func85 (by kernel_rfl) (by kernel_rfl) (by kernel_rfl) (by omega) h
def zu8:PC:=(⟨_,by delta A S a b c d f i l m n s t;exact rfl⟩:Zz.Q (S [A 2 (.const (.string ⟨#[]⟩))] (S [m 6 0,n 7 6,f 8 77 7 0,l 9 9 8,c 10
 115 #[t 9] #[9],m 5 10,d 11 (.extract (t 5) 0),d 12 (.extract (t 5) 1),a 3 11,a 4 12] (S [m 13 3,b 14 .neq 9 (t 13) (.const (.string ⟨#[]⟩)) 9,c 15 61 #[t 14,i
 2] #[4,33]] (S [m 16 0,m 17 4,n 18 16,f 19 77 18 0,s 9 19 17] (S [m 20 3,a 2 20] .ret)))))).1
theorem zoz:Zz.H 21 1 110 zu8 [.tmp 2]:=fun hn h =>
 zb zm Tryz.func110 (by kernel_rfl) (by kernel_rfl) (by kernel_rfl) (by omega) h
def zu9:PC:=(⟨_,by delta A S a c m t;exact rfl⟩:Zz.Q (S [A 4 (.const (.string ⟨#[]⟩))] (S [m 5 0,m 6 1,c 7 164 #[t 5,t 6] #[9,9],a 4 7]
 .ret))).1
theorem zoA:Zz.H 8 2 113 zu9 [.tmp 4]:=fun hn h =>
 zb zm Tryz.func113 (by kernel_rfl) (by kernel_rfl) (by kernel_rfl) (by omega) h
def zva:PC:=(⟨_,by delta A C L S a b c d i m t w;exact rfl⟩:Zz.Q (S [A 2 (.const (.string ⟨#[]⟩)),A 3 (.const (.string ⟨#[]⟩))] (S [m 5 0,c
 6 167 #[t 5,.const (.string ⟨#[32,10]⟩)] #[9,9],a 0 6] (.seq (S [m 7 0,b 8 .eql 9 (t 7) (.const (.string ⟨#[]⟩)) 9] (C 8 (S [A 2 (.const (.string ⟨#[]⟩)),A 3
 (.const (.string ⟨#[]⟩))] .ret) .skip)) (S [A 4 (i 1)] (.seq (S [m 9 0,d 10 (.index 9 (t 9) (i 0))] (.block 0 (.seq (S [b 18 .eql 5 (t 10) (.const (.int .u8
 40)) 5,a 17 18] (C 17 .skip (.ops [b 19 .eql 5 (t 10) (.const (.int .u8 41)) 5,a 17 19]))) (C 17 .skip (S [b 21 .eql 5 (t 10) (.const (.int .u8 34)) 5,a 20 21]
 (C 20 (S [m 22 0,d 23 (.slice 9 (t 22) (some (i 1)) none none),c 24 168 #[t 23,.const (.string ⟨#[34,10]⟩)] #[9,9],b 25 .add 3 (t 24) (i 2) 3,a 4 25] (S [m 26
 4,b 27 .lss 3 (t 26) (i 2) 3,m 28 27,w 29 (.move (t 0)) 28 false,w 30 (.move (t 4)) 28 false,w 31 (.binOp .sub 3 (t 30) (i 1) 3) 28 false,w 32 (.index 9 (t 29)
 (t 31)) 28 false,w 33 (.binOp .neq 5 (t 32) (.const (.int .u8 34)) 5) 28 false,d 34 (.pick (t 28) (.const (.bool true)) (t 33))] (C 34 (S [m 35 0,A 2 (.const
 (.string ⟨#[]⟩)),a 3 35] .ret) .skip))) (S [m 11 0,c 12 168 #[t 11,.const (.string ⟨#[32,10,40,41,34]⟩)] #[9,9],a 4 12] (S [m 13 4,b 14 .lss 3 (t 13) (i 0) 3]
 (C 14 (.ops [m 15 0,L 16 15 9,a 4 16]) .skip))))))))) (S [m 36 0,m 37 4,d 38 (.slice 9 (t 36) none (some (t 37)) none),m 39 0,m 40 4,d 41 (.slice 9 (t 39)
 (some (t 40)) none none),a 2 38,a 3 41] .ret))))))).1
theorem zoB:Zz.H 42 1 115 zva [.tmp 2, .tmp 3]:=fun hn h =>
 zb zm Tryz.func115 (by kernel_rfl) (by kernel_rfl) (by kernel_rfl) (by omega) h
def zvb:PC:=(⟨_,by delta A S a c d m t;exact rfl⟩:Zz.Q (S [A 4 (.const (.string ⟨#[]⟩)),A 5 (.const (.bool false))] (S [m 6 0,m 7 1,c 8 169
 #[t 6,t 7] #[9,9],d 9 (.extract (t 8) 0),d 10 (.extract (t 8) 1),a 4 9,a 5 10] .ret))).1
theorem zoC:Zz.H 11 2 116 zvb [.tmp 4, .tmp 5]:=fun hn h =>
 zb zm Tryz.func116 (by kernel_rfl) (by kernel_rfl) (by kernel_rfl) (by omega) h
def zoD:PC:=(⟨_,by delta A L S a b d i m t w;exact rfl⟩:Zz.Q (S [A 2 (.const (.bool false))] (S [m 3 0,L 4 3 9,b 5 .geq 3 (t 4) (i 1) 3,m 6
 5,w 7 (.move (t 0)) 6 true,w 8 (.call ⟨.builtin .len,#[t 7],#[9]⟩) 6 true,w 9 (.binOp .leq 3 (t 8) (i 24) 3) 6 true,d 10 (.pick (t 6) (t 9) (.const (.bool
 false))),m 11 10,w 12 (.move (t 0)) 11 true,w 13 (.call ⟨.value (.func 62),#[t 12,.const (.string
 ⟨#[97,98,99,100,101,102,103,104,105,106,107,108,109,110,111,112,113,114,115,116,117,118,119,120,121,122,95,48,49,50,51,52,53,54,55,56,57]⟩)],#[9,9]⟩) 11 true,w
 14 (.binOp .eql 9 (t 13) (.const (.string ⟨#[]⟩)) 9) 11 true,d 15 (.pick (t 11) (t 14) (.const (.bool false))),m 16 15,w 17 (.move (t 0)) 16 true,w 18 (.index
 9 (t 17) (i 0)) 16 true,w 19 (.convert 5 21 (t 18)) 16 true,w 20 (.call ⟨.value (.func 170),#[.const (.string
 ⟨#[97,98,99,100,101,102,103,104,105,106,107,108,109,110,111,112,113,114,115,116,117,118,119,120,121,122,95]⟩),t 19],#[9,21]⟩) 16 true,d 21 (.pick (t 16) (t 20)
 (.const (.bool false))),a 2 21] .ret))).1
theorem zoE:Zz.H 22 1 117 zoD [.tmp 2]:=fun hn h =>
 zb zm Tryz.func117 (by kernel_rfl) (by kernel_rfl) (by kernel_rfl) (by omega) h
def zkn:PC:=(⟨_,by delta C S a b c d i m t w;exact rfl⟩:Zz.Q (.block 1 (S [m 4 0,c 5 110 #[t 4] #[75],a 3 5] (S [m 6 3] (.block 2 (S [b
 17 .eql 9 (t 6) (.const (.string ⟨#[105,51,50]⟩)) 9,a 16 17] (C 16 (.ops [m 18 2,d 19 (.buildSlice 44 1 #[(0,i 1)]),d 20 (.call ⟨.builtin .append,#[t 18,t
 19],#[44,44]⟩),a 2 20]) (S [b 22 .eql 9 (t 6) (.const (.string ⟨#[105,54,52]⟩)) 9,a 21 22] (C 21 (.ops [m 23 2,d 24 (.buildSlice 44 1 #[(0,i 2)]),d 25 (.call
 ⟨.builtin .append,#[t 23,t 24],#[44,44]⟩),a 2 25]) (S [m 7 3,b 8 .eql 9 (t 7) (.const (.string ⟨#[41]⟩)) 9,m 9 8,w 10 (.move (t 2)) 9 true,w 11 (.call
 ⟨.builtin .len,#[t 10],#[44]⟩) 9 true,w 12 (.binOp .gtr 3 (t 11) (i 0) 3) 9 true,d 13 (.pick (t 9) (t 12) (.const (.bool false))),c 14 61 #[t 13,i 2] #[4,33]]
 (S [m 15 2,a 2 15] .ret))))))))))).1
def zvc:PC:=(⟨_,by delta A S;exact rfl⟩:Zz.Q (S [A 2 (.const (.slice none 0 0))] (.block 0 (.loop zkn)))).1
theorem zoF:Zz.H 26 1 118 zvc [.tmp 2]:=fun hn h =>
 zb zm Tryz.func118 (by kernel_rfl) (by kernel_rfl) (by kernel_rfl) (by omega) h
def zdB:PC:=(⟨_,by delta C L S a b d f i l m n s t x;exact rfl⟩:Zz.Q (S [b 17 .lss 3 (t 16) (t 15) 3] (.seq (C 17 .skip (.exit 2)) (.seq
 (.block 3 (S [x 18 22 14 16,l 19 9 18,a 11 19] (S [m 20 9,m 21 11,b 22 .eql 9 (t 20) (t 21) 9] (C 22 (S [m 23 0,m 24 0,n 25 24,f 26 77 25 1,l 27 55 26,m 28 8,d
 29 (.buildSlice 55 1 #[(0,t 28)]),d 30 (.call ⟨.builtin .append,#[t 27,t 29],#[55,55]⟩),n 31 23,f 32 77 31 1,s 55 32 30] (S [m 33 0,n 34 33,f 35 77 34 1,l 36
 55 35,L 37 36 55,b 38 .sub 3 (t 37) (i 1) 3,m 39 9,a 6 38,a 7 39] .ret)) .skip)))) (.ops [b 40 .add 3 (t 16) (i 1) 3,m 16 40]))))).1
def zko:PC:=(⟨_,by delta a c d m t;exact rfl⟩:Zz.Q (.ops [m 41 8,m 42 0,m 43 9,m 44 1,c 45 171 #[t 42,t 43,t 44] #[75,9,3],d 46
 (.buildSlice 54 1 #[(0,t 45)]),d 47 (.call ⟨.builtin .append,#[t 41,t 46],#[54,54]⟩),a 8 47])).1
def zhs:PC:=(⟨_,by delta L S a c d i m t;exact rfl⟩:Zz.Q (.block 1 (S [m 12 0,c 13 110 #[t 12] #[75],a 9 13] (.seq (S [m 14 2,L 15 14
 22,d 16 (.move (i 0))] (.block 2 (.loop zdB))) zko)))).1
def zvd:PC:=(⟨_,by delta A S i;exact rfl⟩:Zz.Q (S [A 6 (i 0),A 7 (.const (.string ⟨#[]⟩))] (S [A 8 (.const (.slice none 0 0))] (.block 0
 (.loop zhs))))).1
theorem zoG:Zz.H 48 3 119 zvd [.tmp 6, .tmp 7]:=fun hn h =>
 zb zm Tryz.func119 (by kernel_rfl) (by kernel_rfl) (by kernel_rfl) (by omega) h
def zht:PC:=(⟨_,by delta A C L S a b d e i l m s t x;exact rfl⟩:Zz.Q (.seq (S [m 6 4,m 7 0,L 8 7 9,b 9 .lss 3 (t 6) (t 8) 3] (C 9 .skip
 (.exit 0))) (.seq (.block 1 (S [m 12 0,m 13 4,d 14 (.index 9 (t 12) (t 13)),a 5 14] (.seq (S [m 15 5,b 16 .geq 5 (t 15) (.const (.int .u8 128)) 5] (C 16 (S [l
 17 151 2,s 151 2 17,A 3 (.const (.bool false))] .ret) .skip)) (.ops [m 18 5,x 19 151 2 18,e (.store 4 (t 19) (.const (.bool true)))])))) (.ops [m 10 4,b 11
 .add 3 (t 10) (i 1) 3,a 4 11])))).1
def zkp:PC:=(⟨_,by delta A S l s;exact rfl⟩:Zz.Q (S [l 20 151 2,s 151 2 20,A 3 (.const (.bool true))] .ret)).1
def zve:PC:=(⟨_,by delta A S d i;exact rfl⟩:Zz.Q (S [d 2 (.alloc 151),A 3 (.const (.bool false))] (.seq (S [A 4 (i 0)] (.block 0 (.loop
 zht))) zkp))).1
theorem zoH:Zz.H 21 1 122 zve [.cell 2 151, .tmp 3]:=fun hn h =>
 zb zm Tryz.func122 (by kernel_rfl) (by kernel_rfl) (by kernel_rfl) (by omega) h
def zhu:PC:=(⟨_,by delta C L S a b c d i m t;exact rfl⟩:Zz.Q (.seq (S [m 5 0,L 6 5 9,b 7 .gtr 3 (t 6) (i 0) 3] (C 7 .skip (.exit 0)))
 (.block 1 (.seq (S [m 8 1,m 9 0,d 10 (.index 9 (t 9) (i 0)),c 11 172 #[t 8,t 10] #[155,5],d 12 (.unOp .not 4 (t 11))] (C 12 (.exit 0) .skip)) (.ops [m 13 0,d
 14 (.slice 9 (t 13) (some (i 1)) none none),a 0 14]))))).1
def zhv:PC:=(⟨_,by delta S a m;exact rfl⟩:Zz.Q (S [m 15 0,a 4 15] .ret)).1
def zvf:PC:=(⟨_,by delta A S;exact rfl⟩:Zz.Q (S [A 4 (.const (.string ⟨#[]⟩))] (.seq (.block 0 (.loop zhu)) zhv))).1
theorem zoI:Zz.H 16 2 123 zvf [.tmp 4]:=fun hn h =>
 zb zm Tryz.func123 (by kernel_rfl) (by kernel_rfl) (by kernel_rfl) (by omega) h
def zhw:PC:=(⟨_,by delta C L S a b c d i m t;exact rfl⟩:Zz.Q (.seq (S [m 5 0,L 6 5 9,b 7 .gtr 3 (t 6) (i 0) 3] (C 7 .skip (.exit 0)))
 (.block 1 (.seq (S [m 8 1,m 9 0,m 10 0,L 11 10 9,b 12 .sub 3 (t 11) (i 1) 3,d 13 (.index 9 (t 9) (t 12)),c 14 172 #[t 8,t 13] #[155,5],d 15 (.unOp .not 4 (t
 14))] (C 15 (.exit 0) .skip)) (.ops [m 16 0,m 17 0,L 18 17 9,b 19 .sub 3 (t 18) (i 1) 3,d 20 (.slice 9 (t 16) none (some (t 19)) none),a 0 20]))))).1
def zhx:PC:=(⟨_,by delta S a m;exact rfl⟩:Zz.Q (S [m 21 0,a 4 21] .ret)).1
def zvg:PC:=(⟨_,by delta A S;exact rfl⟩:Zz.Q (S [A 4 (.const (.string ⟨#[]⟩))] (.seq (.block 0 (.loop zhw)) zhx))).1
theorem zoJ:Zz.H 22 2 124 zvg [.tmp 4]:=fun hn h =>
 zb zm Tryz.func124 (by kernel_rfl) (by kernel_rfl) (by kernel_rfl) (by omega) h
def zsl:PC:=(⟨_,by delta A L S a f i l m n;exact rfl⟩:Zz.Q (S [A 2 (i 0)] (S [m 3 0,n 4 3,f 5 86 4 1,l 6 32 5,L 7 6 32,a 2 7] .ret))).1
theorem zoK:Zz.H 8 1 127 zsl [.tmp 2]:=fun hn h =>
 zb zm Tryz.func127 (by kernel_rfl) (by kernel_rfl) (by kernel_rfl) (by omega) h
def zvh:PC:=(⟨_,by delta A S c d f l m n s t;exact rfl⟩:Zz.Q (S [A 4 (.const .nilIface)] (S [m 5 0,c 6 175 #[t 5] #[84]] (S [m 7 0,m 8 0,n 9
 8,f 10 86 9 1,l 11 32 10,m 12 1,d 13 (.buildSlice 32 1 #[(0,t 12)]),d 14 (.call ⟨.builtin .append,#[t 11,t 13],#[32,32]⟩),n 15 7,f 16 86 15 1,s 32 16 14] (S [A
 4 (.const .nilIface)] .ret))))).1
theorem zoL:Zz.H 17 2 128 zvh [.tmp 4]:=fun hn h =>
 zb zm Tryz.func128 (by kernel_rfl) (by kernel_rfl) (by kernel_rfl) (by omega) h
def zvi:PC:=(⟨_,by delta A L S a c d f i l m n s t;exact rfl⟩:Zz.Q (S [A 4 (i 0),A 5 (.const .nilIface)] (S [m 6 0,c 7 175 #[t 6] #[84]] (S
 [m 8 0,m 9 0,n 10 9,f 11 86 10 1,l 12 32 11,m 13 1,d 14 (.call ⟨.builtin .append,#[t 12,t 13],#[32,9]⟩),n 15 8,f 16 86 15 1,s 32 16 14] (S [m 17 1,L 18 17 9,a
 4 18,A 5 (.const .nilIface)] .ret))))).1
theorem zoM:Zz.H 19 2 129 zvi [.tmp 4, .tmp 5]:=fun hn h =>
 zb zm Tryz.func129 (by kernel_rfl) (by kernel_rfl) (by kernel_rfl) (by omega) h
def zsm:PC:=(⟨_,by delta A C S a b i m t;exact rfl⟩:Zz.Q (S [A 2 (.const (.string ⟨#[]⟩))] (.seq (S [m 3 0] (.block 0 (S [b 5 .eql 3 (t 3)
 (i 1) 3,a 4 5] (C 4 (S [A 2 (.const (.string ⟨#[105,51,50]⟩))] .ret) (S [b 7 .eql 3 (t 3) (i 2) 3,a 6 7] (C 6 (S [A 2 (.const (.string ⟨#[105,54,52]⟩))] .ret)
 .skip)))))) (S [A 2 (.const (.string ⟨#[]⟩))] .ret)))).1
theorem zoN:Zz.H 8 1 131 zsm [.tmp 2]:=fun hn h =>
 zb zm Tryz.func131 (by kernel_rfl) (by kernel_rfl) (by kernel_rfl) (by omega) h
def zoO:PC:=(⟨_,by delta A C S a b i m t;exact rfl⟩:Zz.Q (S [A 2 (.const (.string ⟨#[]⟩))] (.seq (S [m 3 0] (.block 0 (S [b 5 .eql 3 (t 3)
 (i 11) 3,a 4 5] (C 4 (S [A 2 (.const (.string ⟨#[98,108,111,99,107]⟩))] .ret) (S [b 7 .eql 3 (t 3) (i 12) 3,a 6 7] (C 6 (S [A 2 (.const (.string
 ⟨#[108,111,111,112]⟩))] .ret) .skip)))))) (S [A 2 (.const (.string ⟨#[105,102]⟩))] .ret)))).1
theorem zoP:Zz.H 8 1 132 zoO [.tmp 2]:=fun hn h =>
 zb zm Tryz.func132 (by kernel_rfl) (by kernel_rfl) (by kernel_rfl) (by omega) h
def zcT:PC:=(⟨_,by delta A C S a b c d f i l t;exact rfl⟩:Zz.Q (S [d 1 (.box 53 (t 0)),A 2 (.const (.string ⟨#[]⟩))] (.seq (S [f 3 53 1 0,l
 4 3 3] (.block 0 (S [b 6 .eql 3 (t 4) (i 1) 3,a 5 6] (C 5 (S [f 7 53 1 1,l 8 3 7,c 9 131 #[t 8] #[3],b 10 .add 9 (t 9) (.const (.string
 ⟨#[46,99,111,110,115,116]⟩)) 9,a 2 10] .ret) (S [b 12 .eql 3 (t 4) (i 2) 3,a 11 12] (C 11 (S [A 2 (.const (.string ⟨#[108,111,99,97,108,46,103,101,116]⟩))]
 .ret) (S [b 14 .eql 3 (t 4) (i 3) 3,a 13 14] (C 13 (S [A 2 (.const (.string ⟨#[108,111,99,97,108,46,115,101,116]⟩))] .ret) (S [b 16 .eql 3 (t 4) (i 10) 3,a 15
 16] (C 15 (S [A 2 (.const (.string ⟨#[99,97,108,108]⟩))] .ret) (S [b 18 .eql 3 (t 4) (i 14) 3,a 17 18] (C 17 (S [A 2 (.const (.string ⟨#[98,114]⟩))] .ret) (S
 [b 20 .eql 3 (t 4) (i 15) 3,a 19 20] (C 19 (S [A 2 (.const (.string ⟨#[98,114,95,105,102]⟩))] .ret) (S [b 22 .eql 3 (t 4) (i 4) 3,a 21 22] (C 21 (S [f 23 53 1
 1,l 24 3 23,f 27 53 1 5,l 28 9 27,⟨some 25,.call ⟨.value (.func 131),#[t 24],#[3]⟩,none,[⟨none,9,t 27,28⟩]⟩,b 26 .add 9 (t 25) (.const (.string ⟨#[46]⟩)) 9,b
 29 .add 9 (t 26) (t 28) 9,a 2 29] .ret) (S [b 31 .eql 3 (t 4) (i 5) 3,a 30 31] (C 30 (S [f 32 53 1 1,l 33 3 32,c 34 131 #[t 33] #[3],b 35 .add 9 (t 34) (.const
 (.string ⟨#[46,101,113,122]⟩)) 9,a 2 35] .ret) (S [b 37 .eql 3 (t 4) (i 6) 3,a 36 37] (C 36 (S [A 2 (.const (.string
 ⟨#[105,51,50,46,119,114,97,112,95,105,54,52]⟩))] .ret) (S [b 39 .eql 3 (t 4) (i 7) 3,a 38 39] (C 38 (S [A 2 (.const (.string
 ⟨#[105,54,52,46,101,120,116,101,110,100,95,105,51,50,95,115]⟩))] .ret) (S [b 41 .eql 3 (t 4) (i 8) 3,a 40 41] (C 40 (S [f 42 53 1 1,l 43 3 42,f 45 53 1 2,l 46
 3 45,⟨some 44,.call ⟨.value (.func 131),#[t 43],#[3]⟩,none,[⟨none,3,t 45,46⟩]⟩,c 47 177 #[t 46,.const (.string ⟨#[46,108,111,97,100,56,95,115]⟩),.const
 (.string ⟨#[46,108,111,97,100]⟩)] #[3,9,9],b 48 .add 9 (t 44) (t 47) 9,a 2 48] .ret) (S [b 50 .eql 3 (t 4) (i 9) 3,a 49 50] (C 49 (S [f 51 53 1 1,l 52 3 51,f
 54 53 1 2,l 55 3 54,⟨some 53,.call ⟨.value (.func 131),#[t 52],#[3]⟩,none,[⟨none,3,t 54,55⟩]⟩,c 56 177 #[t 55,.const (.string
 ⟨#[46,115,116,111,114,101,56]⟩),.const (.string ⟨#[46,115,116,111,114,101]⟩)] #[3,9,9],b 57 .add 9 (t 53) (t 56) 9,a 2 57] .ret) (S [b 59 .eql 3 (t 4) (i 16)
 3,a 58 59] (C 58 (S [A 2 (.const (.string ⟨#[114,101,116,117,114,110]⟩))] .ret) (S [b 61 .eql 3 (t 4) (i 17) 3,a 60 61] (C 60 (S [A 2 (.const (.string
 ⟨#[117,110,114,101,97,99,104,97,98,108,101]⟩))] .ret) .skip)))))))))))))))))))))))))))))) (S [A 2 (.const (.string ⟨#[100,114,111,112]⟩))] .ret)))).1
theorem zoQ:Zz.H 62 1 133 zcT [.tmp 2]:=fun hn h =>
 zb zm Tryz.func133 (by kernel_rfl) (by kernel_rfl) (by kernel_rfl) (by omega) h
def zvj:PC:=(⟨_,by delta A S a d e i l m s t;exact rfl⟩:Zz.Q (S [d 2 (.alloc 53),A 3 (.const (.bool false))] (S [d 7 (.makeMap 208 none),d 8
 (.build 53 #[(0,i 1),(1,i 1)]),e (.insert 208 (t 7) (.const (.string ⟨#[105,51,50,46,99,111,110,115,116]⟩)) (t 8)),d 9 (.build 53 #[(0,i 1),(1,i 2)]),e
 (.insert 208 (t 7) (.const (.string ⟨#[105,54,52,46,99,111,110,115,116]⟩)) (t 9)),d 10 (.build 53 #[(0,i 2)]),e (.insert 208 (t 7) (.const (.string
 ⟨#[108,111,99,97,108,46,103,101,116]⟩)) (t 10)),d 11 (.build 53 #[(0,i 3)]),e (.insert 208 (t 7) (.const (.string ⟨#[108,111,99,97,108,46,115,101,116]⟩)) (t
 11)),d 12 (.build 53 #[(0,i 10)]),e (.insert 208 (t 7) (.const (.string ⟨#[99,97,108,108]⟩)) (t 12)),d 13 (.build 53 #[(0,i 14)]),e (.insert 208 (t 7) (.const
 (.string ⟨#[98,114]⟩)) (t 13)),d 14 (.build 53 #[(0,i 15)]),e (.insert 208 (t 7) (.const (.string ⟨#[98,114,95,105,102]⟩)) (t 14)),m 15 7,m 16 0,d 17 (.lookup
 208 (t 15) (t 16) true),m 6 17,d 18 (.extract (t 6) 0),d 19 (.extract (t 6) 1),d 4 (.alloc 53),s 53 4 18,a 5 19] (S [l 20 53 4,m 21 5,s 53 2 20,a 3 21] .ret))
 )).1
theorem zoR:Zz.H 22 1 134 zvj [.cell 2 53, .tmp 3]:=fun hn h =>
 zb zm Tryz.func134 (by kernel_rfl) (by kernel_rfl) (by kernel_rfl) (by omega) h
def zlp:PC:=(⟨_,by delta A S a b d m t w;exact rfl⟩:Zz.Q (S [A 2 (.const (.bool false))] (S [m 3 0,b 4 .eql 5 (t 3) (.const (.int .u8 32))
 5,m 5 4,w 6 (.move (t 0)) 5 false,w 7 (.binOp .eql 5 (t 6) (.const (.int .u8 10)) 5) 5 false,d 8 (.pick (t 5) (.const (.bool true)) (t 7)),m 9 8,w 10 (.move (t
 0)) 9 false,w 11 (.binOp .eql 5 (t 10) (.const (.int .u8 40)) 5) 9 false,d 12 (.pick (t 9) (.const (.bool true)) (t 11)),m 13 12,w 14 (.move (t 0)) 13 false,w
 15 (.binOp .eql 5 (t 14) (.const (.int .u8 41)) 5) 13 false,d 16 (.pick (t 13) (.const (.bool true)) (t 15)),m 17 16,w 18 (.move (t 0)) 17 false,w 19 (.binOp
 .eql 5 (t 18) (.const (.int .u8 34)) 5) 17 false,d 20 (.pick (t 17) (.const (.bool true)) (t 19)),a 2 20] .ret))).1
theorem zoS:Zz.H 21 1 135 zlp [.tmp 2]:=fun hn h =>
 zb zm Tryz.func135 (by kernel_rfl) (by kernel_rfl) (by kernel_rfl) (by omega) h
def zvk:PC:=(⟨_,by delta A C S a b c d f i l m n s t;exact rfl⟩:Zz.Q (S [A 2 (.const (.string ⟨#[]⟩))] (S [m 6 0,c 7 68 #[t 6] #[93],m 5 7,d
 8 (.extract (t 5) 0),d 9 (.extract (t 5) 1),a 3 8,a 4 9] (.seq (S [m 10 3,b 11 .eql 9 (t 10) (.const (.string ⟨#[]⟩)) 9] (C 11 (.ops [m 12 0,c 13 73 #[t 12,i
 2] #[93,33]]) .skip)) (.seq (S [m 14 0,n 15 14,f 16 95 15 2,l 17 33 16,b 18 .neq 33 (t 17) (i 0) 33] (C 18 (S [A 2 (.const (.string ⟨#[]⟩))] .ret) .skip)) (S
 [m 19 0,m 20 4,n 21 19,f 22 95 21 1,s 3 22 20] (S [m 23 3,a 2 23] .ret))))))).1
theorem zoT:Zz.H 24 1 136 zvk [.tmp 2]:=fun hn h =>
 zb zm Tryz.func136 (by kernel_rfl) (by kernel_rfl) (by kernel_rfl) (by omega) h
def zaY:PC:=(⟨_,by delta A C L S a b d i m t w;exact rfl⟩:Zz.Q (.seq (S [m 13 3,m 14 0,L 15 14 9,b 16 .lss 3 (t 13) (t 15) 3] (C 16 .skip
 (.exit 0))) (.seq (.block 1 (S [m 19 0,m 20 3,d 21 (.index 9 (t 19) (t 20)),b 22 .geq 5 (t 21) (.const (.int .u8 97)) 5,m 23 22,w 24 (.move (t 0)) 23 true,w 25
 (.move (t 3)) 23 true,w 26 (.index 9 (t 24) (t 25)) 23 true,w 27 (.binOp .leq 5 (t 26) (.const (.int .u8 122)) 5) 23 true,d 28 (.pick (t 23) (t 27) (.const
 (.bool false))),m 29 28,w 30 (.move (t 0)) 29 false,w 31 (.move (t 3)) 29 false,w 32 (.index 9 (t 30) (t 31)) 29 false,w 33 (.binOp .eql 5 (t 32) (.const (.int
 .u8 95)) 5) 29 false,d 34 (.pick (t 29) (.const (.bool true)) (t 33)),a 4 34] (S [m 35 4,d 36 (.unOp .not 4 (t 35)),m 37 36,w 38 (.move (t 3)) 37 true,w 39
 (.binOp .eql 3 (t 38) (i 0) 3) 37 true,w 40 (.move (t 39)) 37 true,w 41 (.move (t 0)) 40 false,w 42 (.move (t 3)) 40 false,w 43 (.index 9 (t 41) (t 42)) 40
 false,w 44 (.binOp .lss 5 (t 43) (.const (.int .u8 48)) 5) 40 false,w 45 (.pick (t 40) (.const (.bool true)) (t 44)) 37 true,w 46 (.move (t 45)) 37 true,w 47
 (.move (t 0)) 46 false,w 48 (.move (t 3)) 46 false,w 49 (.index 9 (t 47) (t 48)) 46 false,w 50 (.binOp .gtr 5 (t 49) (.const (.int .u8 57)) 5) 46 false,w 51
 (.pick (t 46) (.const (.bool true)) (t 50)) 37 true,d 52 (.pick (t 37) (t 51) (.const (.bool false)))] (C 52 (S [A 2 (.const (.bool false))] .ret) .skip))))
 (.ops [m 17 3,b 18 .add 3 (t 17) (i 1) 3,a 3 18])))).1
def zkq:PC:=(⟨_,by delta A S;exact rfl⟩:Zz.Q (S [A 2 (.const (.bool true))] .ret)).1
def zoU:PC:=(⟨_,by delta A C L S b d i m t w;exact rfl⟩:Zz.Q (S [A 2 (.const (.bool false))] (.seq (S [m 5 0,L 6 5 9,b 7 .lss 3 (t 6) (i 1)
 3,m 8 7,w 9 (.move (t 0)) 8 false,w 10 (.call ⟨.builtin .len,#[t 9],#[9]⟩) 8 false,w 11 (.binOp .gtr 3 (t 10) (i 24) 3) 8 false,d 12 (.pick (t 8) (.const
 (.bool true)) (t 11))] (C 12 (S [A 2 (.const (.bool false))] .ret) .skip)) (.seq (S [A 3 (i 0)] (.block 0 (.loop zaY))) zkq)))).1
theorem zoV:Zz.H 53 1 137 zoU [.tmp 2]:=fun hn h =>
 zb zm Tryz.func137 (by kernel_rfl) (by kernel_rfl) (by kernel_rfl) (by omega) h
def zhy:PC:=(⟨_,by delta C L S a b c d f i l m n t;exact rfl⟩:Zz.Q (.seq (S [m 5 0,n 6 5,f 7 95 6 2,l 8 33 7,b 9 .eql 33 (t 8) (i 0) 33]
 (C 9 .skip (.exit 0))) (.block 1 (S [m 10 0,c 11 136 #[t 10] #[93],a 4 11] (S [m 12 4] (.block 2 (S [b 16 .eql 9 (t 12) (.const (.string ⟨#[105,51,50]⟩)) 9,a
 15 16] (C 15 (.ops [m 17 3,d 18 (.buildSlice 44 1 #[(0,i 1)]),d 19 (.call ⟨.builtin .append,#[t 17,t 18],#[44,44]⟩),a 3 19]) (S [b 21 .eql 9 (t 12) (.const
 (.string ⟨#[105,54,52]⟩)) 9,a 20 21] (C 20 (.ops [m 22 3,d 23 (.buildSlice 44 1 #[(0,i 2)]),d 24 (.call ⟨.builtin .append,#[t 22,t 23],#[44,44]⟩),a 3 24]) (S
 [b 26 .eql 9 (t 12) (.const (.string ⟨#[41]⟩)) 9,a 25 26] (C 25 (.seq (S [m 27 3,L 28 27 44,b 29 .eql 3 (t 28) (i 0) 3] (C 29 (.ops [m 30 0,c 31 73 #[t 30,i 2]
 #[93,33]]) .skip)) (S [m 32 3,a 2 32] .ret)) (.ops [m 13 0,c 14 73 #[t 13,i 2] #[93,33]]))))))))))))).1
def zkr:PC:=(⟨_,by delta A S;exact rfl⟩:Zz.Q (S [A 2 (.const (.slice none 0 0))] .ret)).1
def zvl:PC:=(⟨_,by delta A S;exact rfl⟩:Zz.Q (S [A 2 (.const (.slice none 0 0))] (S [A 3 (.const (.slice none 0 0))] (.seq (.block 0 (.loop
 zhy)) zkr)))).1
theorem zoW:Zz.H 33 1 138 zvl [.tmp 2]:=fun hn h =>
 zb zm Tryz.func138 (by kernel_rfl) (by kernel_rfl) (by kernel_rfl) (by omega) h
def zq:PC:=(⟨_,by delta C L S a b c d f i l m n s t w;exact rfl⟩:Zz.Q (.seq (S [m 12 0,n 13 12,f 14 95 13 2,l 15 33 14,b 16 .eql 33 (t
 15) (i 0) 33] (C 16 .skip (.exit 0))) (.block 1 (S [m 17 0,c 18 136 #[t 17] #[93],a 9 18] (.seq (S [m 19 9,b 20 .eql 9 (t 19) (.const (.string
 ⟨#[101,110,100]⟩)) 9,m 21 20,w 22 (.move (t 1)) 21 true,w 23 (.binOp .gtr 3 (t 22) (i 0) 3) 21 true,d 24 (.pick (t 21) (t 23) (.const (.bool false))),m 25 24,w
 26 (.move (t 9)) 25 false,w 27 (.binOp .eql 9 (t 26) (.const (.string ⟨#[41]⟩)) 9) 25 false,w 28 (.move (t 27)) 25 false,w 29 (.move (t 1)) 28 true,w 30
 (.binOp .eql 3 (t 29) (i 0) 3) 28 true,w 31 (.pick (t 28) (t 30) (.const (.bool false))) 25 false,d 32 (.pick (t 25) (.const (.bool true)) (t 31)),m 33 32,w 34
 (.move (t 9)) 33 false,w 35 (.binOp .eql 9 (t 34) (.const (.string ⟨#[101,108,115,101]⟩)) 9) 33 false,w 36 (.move (t 35)) 33 false,w 37 (.move (t 2)) 36 true,w
 38 (.pick (t 36) (t 37) (.const (.bool false))) 33 false,d 39 (.pick (t 33) (.const (.bool true)) (t 38))] (C 39 (S [m 40 0,m 41 0,n 42 41,f 43 95 42 3,l 44 55
 43,m 45 8,d 46 (.buildSlice 55 1 #[(0,t 45)]),d 47 (.call ⟨.builtin .append,#[t 44,t 46],#[55,55]⟩),n 48 40,f 49 95 48 3,s 55 49 47] (S [m 50 0,n 51 50,f 52 95
 51 3,l 53 55 52,L 54 53 55,b 55 .sub 3 (t 54) (i 1) 3,m 56 9,a 6 55,a 7 56] .ret)) .skip)) (.seq (S [m 57 9,b 58 .eql 9 (t 57) (.const (.string
 ⟨#[98,108,111,99,107]⟩)) 9,m 59 58,w 60 (.move (t 9)) 59 false,w 61 (.binOp .eql 9 (t 60) (.const (.string ⟨#[108,111,111,112]⟩)) 9) 59 false,d 62 (.pick (t
 59) (.const (.bool true)) (t 61)),m 63 62,w 64 (.move (t 9)) 63 false,w 65 (.binOp .eql 9 (t 64) (.const (.string ⟨#[105,102]⟩)) 9) 63 false,d 66 (.pick (t 63)
 (.const (.bool true)) (t 65))] (C 66 (S [m 67 8,m 68 0,m 69 9,m 70 1,b 71 .add 3 (t 70) (i 1) 3,c 72 178 #[t 68,t 69,t 71] #[93,9,3],d 73 (.buildSlice 54 1
 #[(0,t 72)]),d 74 (.call ⟨.builtin .append,#[t 67,t 73],#[54,54]⟩),a 8 74] (.exit 1)) .skip)) (S [m 76 0,m 77 9,c 78 179 #[t 76,t 77] #[93,9],m 75 78,d 79
 (.extract (t 75) 0),d 80 (.extract (t 75) 1),d 10 (.alloc 53),s 53 10 79,a 11 80] (.seq (S [m 81 11,d 82 (.unOp .not 4 (t 81))] (C 82 (.ops [m 83 0,c 84 73 #[t
 83,i 2] #[93,33]]) .skip)) (.ops [m 85 8,l 86 53 10,d 87 (.buildSlice 54 1 #[(0,t 86)]),d 88 (.call ⟨.builtin .append,#[t 85,t 87],#[54,54]⟩),a 8 88])))))))
 )).1
def zhz:PC:=(⟨_,by delta A S i;exact rfl⟩:Zz.Q (S [A 6 (i 0),A 7 (.const (.string ⟨#[]⟩))] .ret)).1
def zvm:PC:=(⟨_,by delta A S i;exact rfl⟩:Zz.Q (S [A 6 (i 0),A 7 (.const (.string ⟨#[]⟩))] (S [A 8 (.const (.slice none 0 0))] (.seq (.block
 0 (.loop zq)) zhz)))).1
theorem zoX:Zz.H 89 3 139 zvm [.tmp 6, .tmp 7]:=fun hn h =>
 zb zm Tryz.func139 (by kernel_rfl) (by kernel_rfl) (by kernel_rfl) (by omega) h
def zvn:PC:=(⟨_,by delta A S a b d f l m t w;exact rfl⟩:Zz.Q (S [d 2 (.box 57 (t 0)),d 3 (.box 57 (t 1)),A 4 (.const (.bool false))] (S [f 5
 57 2 0,l 6 9 5,f 7 57 3 0,l 8 9 7,b 9 .eql 9 (t 6) (t 8) 9,m 10 9,w 11 (.fieldAddr 57 (t 2) 3) 10 true,w 12 (.load 3 (t 11)) 10 true,w 13 (.fieldAddr 57 (t 3)
 3) 10 true,w 14 (.load 3 (t 13)) 10 true,w 15 (.binOp .eql 3 (t 12) (t 14) 3) 10 true,d 16 (.pick (t 10) (t 15) (.const (.bool false))),m 17 16,w 18
 (.fieldAddr 57 (t 2) 1) 17 true,w 19 (.load 44 (t 18)) 17 true,w 20 (.fieldAddr 57 (t 3) 1) 17 true,w 21 (.load 44 (t 20)) 17 true,w 22 (.call ⟨.value (.func
 79),#[t 19,t 21],#[44,44]⟩) 17 true,d 23 (.pick (t 17) (t 22) (.const (.bool false))),m 24 23,w 25 (.fieldAddr 57 (t 2) 2) 24 true,w 26 (.load 44 (t 25)) 24
 true,w 27 (.fieldAddr 57 (t 3) 2) 24 true,w 28 (.load 44 (t 27)) 24 true,w 29 (.call ⟨.value (.func 79),#[t 26,t 28],#[44,44]⟩) 24 true,d 30 (.pick (t 24) (t
 29) (.const (.bool false))),m 31 30,w 32 (.fieldAddr 57 (t 2) 4) 31 true,w 33 (.load 55 (t 32)) 31 true,w 34 (.fieldAddr 57 (t 3) 4) 31 true,w 35 (.load 55 (t
 34)) 31 true,w 36 (.call ⟨.value (.func 180),#[t 33,t 35],#[55,55]⟩) 31 true,d 37 (.pick (t 31) (t 36) (.const (.bool false))),a 4 37] .ret))).1
theorem zoY:Zz.H 38 2 140 zvn [.tmp 4]:=fun hn h =>
 zb zm Tryz.func140 (by kernel_rfl) (by kernel_rfl) (by kernel_rfl) (by omega) h
def zvo:PC:=(⟨_,by delta A S a b i m t;exact rfl⟩:Zz.Q (S [A 2 (i 0)] (S [m 3 0,b 4 .mul 3 (i 13) (t 3) 3,b 5 .add 3 (i 7001) (t 4) 3,a 2 5]
 .ret))).1
theorem zoZ:Zz.H 6 1 141 zvo [.tmp 2]:=fun hn h =>
 zb zm Tryz.func141 (by kernel_rfl) (by kernel_rfl) (by kernel_rfl) (by omega) h
def zvp:PC:=(⟨_,by delta S b d i m s t;exact rfl⟩:Zz.Q (S [d 2 (.alloc 53)] (S [m 3 0,b 4 .sub 3 (i (-9)) (t 3) 3,d 5 (.build 53 #[(0,t
 4)]),s 53 2 5] .ret))).1
theorem zo0:Zz.H 6 1 142 zvp [.cell 2 53]:=fun hn h =>
 zb zm Tryz.func142 (by kernel_rfl) (by kernel_rfl) (by kernel_rfl) (by omega) h
def zvq:PC:=(⟨_,by delta A S a b d i m t;exact rfl⟩:Zz.Q (S [A 2 (.const (.slice none 0 0))] (S [m 3 0,b 4 .add 3 (i 99) (t 3) 3,d 5 (.build
 53 #[(0,t 4)]),d 6 (.buildSlice 54 1 #[(0,t 5)]),a 2 6] .ret))).1
theorem zo1:Zz.H 7 1 143 zvq [.tmp 2]:=fun hn h =>
 zb zm Tryz.func143 (by kernel_rfl) (by kernel_rfl) (by kernel_rfl) (by omega) h
def zvr:PC:=(⟨_,by delta S b d i m s t;exact rfl⟩:Zz.Q (S [d 2 (.alloc 57)] (S [m 3 0,b 4 .sub 3 (i (-9)) (t 3) 3,d 5 (.build 57 #[(3,t
 4)]),s 57 2 5] .ret))).1
theorem zo2:Zz.H 6 1 144 zvr [.cell 2 57]:=fun hn h =>
 zb zm Tryz.func144 (by kernel_rfl) (by kernel_rfl) (by kernel_rfl) (by omega) h
def zeL:PC:=(⟨_,by delta C S a b i l m t x;exact rfl⟩:Zz.Q (S [b 9 .lss 3 (t 8) (t 7) 3] (.seq (C 9 .skip (.exit 0)) (.seq (.block 1 (S
 [m 10 8,a 5 10] (S [m 11 1,m 12 0,m 13 5,x 14 22 12 13,l 15 9 14,b 16 .eql 9 (t 11) (t 15) 9] (C 16 (S [m 17 5,a 4 17] .ret) .skip)))) (.ops [b 18 .add 3 (t 8)
 (i 1) 3,m 8 18]))))).1
def zks:PC:=(⟨_,by delta A S i;exact rfl⟩:Zz.Q (S [A 4 (i (-1))] .ret)).1
def zvs:PC:=(⟨_,by delta A L S d i m;exact rfl⟩:Zz.Q (S [A 4 (i 0)] (.seq (S [m 6 0,L 7 6 22,d 8 (.move (i 0))] (.block 0 (.loop zeL)))
 zks))).1
theorem zo3:Zz.H 19 2 157 zvs [.tmp 4]:=fun hn h =>
 zb zm Tryz.func157 (by kernel_rfl) (by kernel_rfl) (by kernel_rfl) (by omega) h
def zvt:PC:=(⟨_,by delta A C L S a c d m t;exact rfl⟩:Zz.Q (S [A 4 (.const (.string ⟨#[]⟩))] (.seq (S [m 5 0,m 6 1,c 7 199 #[t 5,t 6]
 #[9,9]] (C 7 (S [m 8 0,m 9 1,L 10 9 9,d 11 (.slice 9 (t 8) (some (t 10)) none none),a 4 11] .ret) .skip)) (S [m 12 0,a 4 12] .ret)))).1
theorem zo4:Zz.H 13 2 164 zvt [.tmp 4]:=fun hn h =>
 zb zm Tryz.func164 (by kernel_rfl) (by kernel_rfl) (by kernel_rfl) (by omega) h
def zsn:PC:=(⟨_,by delta A C L S a b c d i m s t w;exact rfl⟩:Zz.Q (S [A 4 (.const (.string ⟨#[]⟩))] (.seq (S [m 7 0,b 8 .eql 9 (t 7)
 (.const (.string ⟨#[]⟩)) 9,m 9 8,w 10 (.move (t 1)) 9 false,w 11 (.binOp .eql 9 (t 10) (.const (.string ⟨#[]⟩)) 9) 9 false,d 12 (.pick (t 9) (.const (.bool
 true)) (t 11))] (C 12 (S [m 13 0,a 4 13] .ret) .skip)) (.seq (S [m 14 1,L 15 14 9,b 16 .eql 3 (t 15) (i 1) 3,m 17 16,w 18 (.move (t 1)) 17 true,w 19 (.index 9
 (t 18) (i 0)) 17 true,w 20 (.binOp .lss 5 (t 19) (.const (.int .u8 128)) 5) 17 true,d 21 (.pick (t 17) (t 20) (.const (.bool false)))] (C 21 (S [m 22 0,m 23
 1,d 24 (.index 9 (t 23) (i 0)),c 25 120 #[t 22,t 24] #[9,5],a 4 25] .ret) .skip)) (.seq (S [m 27 1,c 28 122 #[t 27] #[9],m 26 28,d 29 (.extract (t 26) 0),d 30
 (.extract (t 26) 1),d 5 (.alloc 151),s 151 5 29,a 6 30] (S [m 31 6] (C 31 (S [m 32 0,c 33 123 #[t 32,t 5] #[9,155],a 4 33] .ret) .skip))) (S [m 34 0,m 35 1,c
 36 125 #[t 34,t 35] #[9,9],a 4 36] .ret)))))).1
theorem zo5:Zz.H 37 2 167 zsn [.tmp 4]:=fun hn h =>
 zb zm Tryz.func167 (by kernel_rfl) (by kernel_rfl) (by kernel_rfl) (by omega) h
def zhA:PC:=(⟨_,by delta C L S a b c d i m t;exact rfl⟩:Zz.Q (.seq (S [m 33 8,m 34 0,L 35 34 9,b 36 .lss 3 (t 33) (t 35) 3] (C 36 .skip
 (.exit 0))) (.seq (.block 1 (S [m 39 0,m 40 8,d 41 (.index 9 (t 39) (t 40)),c 42 172 #[t 6,t 41] #[151,5]] (C 42 (S [m 43 8,a 4 43] .ret) .skip))) (.ops [m 37
 8,b 38 .add 3 (t 37) (i 1) 3,a 8 38])))).1
def zkt:PC:=(⟨_,by delta A S i;exact rfl⟩:Zz.Q (S [A 4 (i (-1))] .ret)).1
def zeM:PC:=(⟨_,by delta C S a b c d i m t;exact rfl⟩:Zz.Q (S [d 46 (.next (t 45) true),d 47 (.extract (t 46) 0)] (.seq (C 47 .skip
 (.exit 2)) (.block 3 (S [d 48 (.extract (t 46) 1),d 49 (.extract (t 46) 2),a 9 48,a 10 49] (S [m 50 1,m 51 10,c 52 205 #[t 50,t 51] #[9,21],b 53 .geq 3 (t 52)
 (i 0) 3] (C 53 (S [m 54 9,a 4 54] .ret) .skip))))))).1
def zku:PC:=(⟨_,by delta A S i;exact rfl⟩:Zz.Q (S [A 4 (i (-1))] .ret)).1
def zkv:PC:=(⟨_,by delta S d m t;exact rfl⟩:Zz.Q (.seq (S [m 44 0,d 45 (.range 9 (t 44))] (.block 2 (.loop zeM))) zku)).1
def zso:PC:=(⟨_,by delta A C L S a b c d i m s t;exact rfl⟩:Zz.Q (S [A 4 (i 0)] (.seq (S [m 11 1,b 12 .eql 9 (t 11) (.const (.string ⟨#[]⟩))
 9] (C 12 (S [A 4 (i (-1))] .ret) .skip)) (.seq (S [m 13 1,L 14 13 9,b 15 .eql 3 (t 14) (i 1) 3] (C 15 (S [m 16 1,d 17 (.index 9 (t 16) (i 0)),d 18 (.convert 5
 21 (t 17)),a 5 18] (.seq (S [m 19 5,b 20 .geq 21 (t 19) (.const (.int .i32 128)) 21] (C 20 (.ops [A 5 (.const (.int .i32 65533))]) .skip)) (S [m 21 0,m 22 5,c
 23 205 #[t 21,t 22] #[9,21],a 4 23] .ret))) .skip)) (.seq (S [m 24 0,L 25 24 9,c 26 206 #[t 25] #[3]] (C 26 (S [m 28 1,c 29 122 #[t 28] #[9],m 27 29,d 30
 (.extract (t 27) 0),d 31 (.extract (t 27) 1),d 6 (.alloc 151),s 151 6 30,a 7 31] (S [m 32 7] (C 32 (.seq (S [A 8 (i 0)] (.block 0 (.loop zhA))) zkt)
 .skip))) .skip)) zkv))))).1
theorem zkw:Zz.H 55 2 168 zso [.tmp 4]:=fun hn h =>
 zb zm Tryz.func168 (by kernel_rfl) (by kernel_rfl) (by kernel_rfl) (by omega) h
def zvu:PC:=(⟨_,by delta A C L S a c d m t;exact rfl⟩:Zz.Q (S [A 4 (.const (.string ⟨#[]⟩)),A 5 (.const (.bool false))] (.seq (S [m 6 0,m 7
 1,c 8 199 #[t 6,t 7] #[9,9],d 9 (.unOp .not 4 (t 8))] (C 9 (S [m 10 0,a 4 10,A 5 (.const (.bool false))] .ret) .skip)) (S [m 11 0,m 12 1,L 13 12 9,d 14 (.slice
 9 (t 11) (some (t 13)) none none),a 4 14,A 5 (.const (.bool true))] .ret)))).1
theorem zo6:Zz.H 15 2 169 zvu [.tmp 4, .tmp 5]:=fun hn h =>
 zb zm Tryz.func169 (by kernel_rfl) (by kernel_rfl) (by kernel_rfl) (by omega) h
def zvv:PC:=(⟨_,by delta C S a b c d e f i l m s t;exact rfl⟩:Zz.Q (S [d 6 (.alloc 53)] (S [d 12 (.makeMap 242 none),e (.insert 242 (t 12)
 (.const (.string ⟨#[98,108,111,99,107]⟩)) (i 11)),e (.insert 242 (t 12) (.const (.string ⟨#[108,111,111,112]⟩)) (i 12)),e (.insert 242 (t 12) (.const (.string
 ⟨#[105,102]⟩)) (i 13)),m 13 12,m 14 1,d 15 (.lookup 242 (t 13) (t 14) false),a 7 15] (.seq (S [m 16 7,b 17 .neq 3 (t 16) (i 0) 3] (C 17 (S [m 18 0,m 19 7,m 20
 2,b 21 .add 3 (t 20) (i 1) 3,c 22 207 #[t 18,t 19,t 21] #[75,3,3],s 53 6 22] .ret) .skip)) (.seq (S [m 24 1,c 25 134 #[t 24] #[9],m 23 25,d 26 (.extract (t 23)
 0),d 27 (.extract (t 23) 1),d 8 (.alloc 53),s 53 8 26,a 9 27] (S [m 28 9] (C 28 (S [m 29 0,c 30 58 #[t 29] #[75],f 31 53 8 2,s 3 31 30] (S [l 32 53 8,s 53 6
 32] .ret)) .skip))) (S [m 34 1,c 35 208 #[t 34] #[9],m 33 35,d 36 (.extract (t 33) 0),d 37 (.extract (t 33) 1),d 10 (.alloc 53),s 53 10 36,a 11 37] (S [m 38
 11,c 39 61 #[t 38,i 2] #[4,33]] (S [l 40 53 10,s 53 6 40] .ret)))))))).1
theorem zo7:Zz.H 41 3 171 zvv [.cell 6 53]:=fun hn h =>
 zb zm Tryz.func171 (by kernel_rfl) (by kernel_rfl) (by kernel_rfl) (by omega) h
def zvw:PC:=(⟨_,by delta A S a l m n x;exact rfl⟩:Zz.Q (S [A 4 (.const (.bool false))] (S [m 5 0,m 6 1,n 7 5,x 8 151 7 6,l 9 4 8,a 4 9]
 .ret))).1
theorem zo8:Zz.H 10 2 172 zvw [.tmp 4]:=fun hn h =>
 zb zm Tryz.func172 (by kernel_rfl) (by kernel_rfl) (by kernel_rfl) (by omega) h
def zo9:PC:=(⟨_,by delta A C S a b i m t;exact rfl⟩:Zz.Q (S [A 6 (.const (.string ⟨#[]⟩))] (.seq (S [m 7 0] (.block 0 (S [b 9 .eql 3 (t 7)
 (i 1) 3,a 8 9] (C 8 (S [m 10 1,a 6 10] .ret) (.seq (S [b 12 .eql 3 (t 7) (i 4) 3,a 11 12] (C 11 .skip (.ops [b 13 .eql 3 (t 7) (i 8) 3,a 11 13]))) (C 11 (S [m
 14 2,a 6 14] .ret) .skip)))))) (S [A 6 (.const (.string ⟨#[]⟩))] .ret)))).1
theorem zpa:Zz.H 15 3 177 zo9 [.tmp 6]:=fun hn h =>
 zb zm Tryz.func177 (by kernel_rfl) (by kernel_rfl) (by kernel_rfl) (by omega) h
def zgg:PC:=(⟨_,by delta C S a b c d e f i l m s t;exact rfl⟩:Zz.Q (S [d 6 (.alloc 53)] (.seq (S [m 12 2,b 13 .gtr 3 (t 12) (i 400) 3] (C 13
 (.ops [m 14 0,c 15 73 #[t 14,i 3] #[93,33]]) .skip)) (S [d 16 (.build 53 #[(0,i 11)]),d 7 (.alloc 53),s 53 7 16] (.seq (S [m 17 1,b 18 .eql 9 (t 17) (.const
 (.string ⟨#[108,111,111,112]⟩)) 9] (C 18 (.ops [f 19 53 7 0,e (.store 3 (t 19) (i 12))]) .skip)) (S [m 21 0,m 22 2,m 23 1,b 24 .eql 9 (t 23) (.const (.string
 ⟨#[105,102]⟩)) 9,c 25 139 #[t 21,t 22,t 24] #[93,3,4],m 20 25,d 26 (.extract (t 20) 0),d 27 (.extract (t 20) 1),a 8 26,a 9 27] (S [m 28 8,f 29 53 7 3,s 3 29
 28] (.seq (S [m 30 1,b 31 .eql 9 (t 30) (.const (.string ⟨#[105,102]⟩)) 9] (C 31 (S [f 32 53 7 0,e (.store 3 (t 32) (i 13))] (S [f 33 53 7 4,e (.store 3 (t 33)
 (i (-1)))] (S [m 34 9,b 35 .eql 9 (t 34) (.const (.string ⟨#[101,108,115,101]⟩)) 9] (C 35 (S [m 37 0,m 38 2,c 39 139 #[t 37,t 38,.const (.bool false)]
 #[93,3,4],m 36 39,d 40 (.extract (t 36) 0),d 41 (.extract (t 36) 1),a 10 40,a 11 41] (.ops [m 42 10,f 43 53 7 4,s 3 43 42])) .skip)))) .skip)) (S [l 44 53 7,s
 53 6 44] .ret))))))))).1
theorem zpb:Zz.H 45 3 178 zgg [.cell 6 53]:=fun hn h =>
 zb zm Tryz.func178 (by kernel_rfl) (by kernel_rfl) (by kernel_rfl) (by omega) h
def zeN:PC:=(⟨_,by delta A C L S a b f i l m s t x;exact rfl⟩:Zz.Q (.seq (S [m 11 7,m 12 6,L 13 12 215,b 14 .lss 3 (t 11) (t 13) 3] (C 14
 .skip (.exit 0))) (.seq (.block 1 (S [m 17 6,m 18 7,x 19 215 17 18,f 20 218 19 0,l 21 9 20,m 22 1,b 23 .eql 9 (t 21) (t 22) 9] (C 23 (S [m 24 6,m 25 7,x 26 215
 24 25,f 27 218 26 1,l 28 53 27,s 53 4 28,A 5 (.const (.bool true))] .ret) .skip))) (.ops [m 15 7,b 16 .add 3 (t 15) (i 1) 3,a 7 16])))).1
def zeO:PC:=(⟨_,by delta A C L S a b c d f i l m s t x;exact rfl⟩:Zz.Q (.seq (S [m 30 8,m 31 6,L 32 31 215,b 33 .lss 3 (t 30) (t 32) 3]
 (C 33 .skip (.exit 2))) (.seq (.block 3 (S [m 36 6,m 37 8,x 38 215 36 37,f 39 218 38 0,l 40 9 39,m 41 1,b 42 .eql 9 (t 40) (t 41) 9] (C 42 (S [m 43 6,m 44 8,x
 45 215 43 44,f 46 218 45 1,l 47 53 46,d 9 (.alloc 53),s 53 9 47] (S [m 48 0,c 49 70 #[t 48] #[93],f 50 53 9 2,s 3 50 49] (S [l 51 53 9,s 53 4 51,A 5 (.const
 (.bool true))] .ret))) .skip))) (.ops [m 34 8,b 35 .add 3 (t 34) (i 1) 3,a 8 35])))).1
def zhB:PC:=(⟨_,by delta A S d s;exact rfl⟩:Zz.Q (S [d 52 (.build 53 #[]),s 53 4 52,A 5 (.const (.bool false))] .ret)).1
def zhC:PC:=(⟨_,by delta A S a c i;exact rfl⟩:Zz.Q (S [c 29 186 #[] #[],a 6 29] (.seq (S [A 8 (i 0)] (.block 2 (.loop zeO)))
 zhB))).1
def zvx:PC:=(⟨_,by delta A S a c d i;exact rfl⟩:Zz.Q (S [d 4 (.alloc 53),A 5 (.const (.bool false))] (S [c 10 187 #[] #[],a 6 10] (.seq (S
 [A 7 (i 0)] (.block 0 (.loop zeN))) zhC)))).1
theorem zpc:Zz.H 53 2 179 zvx [.cell 4 53, .tmp 5]:=fun hn h =>
 zb zm Tryz.func179 (by kernel_rfl) (by kernel_rfl) (by kernel_rfl) (by omega) h
def zhD:PC:=(⟨_,by delta A C L S a b c d i l m t x;exact rfl⟩:Zz.Q (.seq (S [m 11 5,m 12 0,L 13 12 55,b 14 .lss 3 (t 11) (t 13) 3] (C 14
 .skip (.exit 0))) (.seq (.block 1 (S [m 17 0,m 18 5,x 19 55 17 18,l 20 54 19,m 21 1,m 22 5,x 23 55 21 22,l 24 54 23,c 25 216 #[t 20,t 24] #[54,54],d 26 (.unOp
 .not 4 (t 25))] (C 26 (S [A 4 (.const (.bool false))] .ret) .skip))) (.ops [m 15 5,b 16 .add 3 (t 15) (i 1) 3,a 5 16])))).1
def zkx:PC:=(⟨_,by delta A S;exact rfl⟩:Zz.Q (S [A 4 (.const (.bool true))] .ret)).1
def zvy:PC:=(⟨_,by delta A C L S b i m t;exact rfl⟩:Zz.Q (S [A 4 (.const (.bool false))] (.seq (S [m 6 0,L 7 6 55,m 8 1,L 9 8 55,b 10 .neq 3
 (t 7) (t 9) 3] (C 10 (S [A 4 (.const (.bool false))] .ret) .skip)) (.seq (S [A 5 (i 0)] (.block 0 (.loop zhD))) zkx)))).1
theorem zpd:Zz.H 27 2 180 zvy [.tmp 4]:=fun hn h =>
 zb zm Tryz.func180 (by kernel_rfl) (by kernel_rfl) (by kernel_rfl) (by omega) h
def zvz:PC:=(⟨_,by delta A S a d i t;exact rfl⟩:Zz.Q (S [A 0 (.const (.slice none 0 0))] (S [d 1 (.build 53 #[(0,i 1),(1,i 1)]),d 2 (.build
 218 #[(0,.const (.string ⟨#[105,51,50,46,99,111,110,115,116]⟩)),(1,t 1)]),d 3 (.build 53 #[(0,i 1),(1,i 2)]),d 4 (.build 218 #[(0,.const (.string
 ⟨#[105,54,52,46,99,111,110,115,116]⟩)),(1,t 3)]),d 5 (.build 53 #[(0,i 2)]),d 6 (.build 218 #[(0,.const (.string ⟨#[108,111,99,97,108,46,103,101,116]⟩)),(1,t
 5)]),d 7 (.build 53 #[(0,i 3)]),d 8 (.build 218 #[(0,.const (.string ⟨#[108,111,99,97,108,46,115,101,116]⟩)),(1,t 7)]),d 9 (.build 53 #[(0,i 10)]),d 10 (.build
 218 #[(0,.const (.string ⟨#[99,97,108,108]⟩)),(1,t 9)]),d 11 (.build 53 #[(0,i 14)]),d 12 (.build 218 #[(0,.const (.string ⟨#[98,114]⟩)),(1,t 11)]),d 13
 (.build 53 #[(0,i 15)]),d 14 (.build 218 #[(0,.const (.string ⟨#[98,114,95,105,102]⟩)),(1,t 13)]),d 15 (.buildSlice 215 7 #[(0,t 2),(1,t 4),(2,t 6),(3,t
 8),(4,t 10),(5,t 12),(6,t 14)]),a 0 15] .ret))).1
theorem zpe:Zz.H 16 0 186 zvz [.tmp 0]:=fun hn h =>
 zb zm Tryz.func186 (by kernel_rfl) (by kernel_rfl) (by kernel_rfl) (by omega) h
def zhE:PC:=(⟨_,by delta C L S a b d i l m t x;exact rfl⟩:Zz.Q (.seq (S [m 33 4,m 34 2,L 35 34 22,b 36 .lss 3 (t 33) (t 35) 3] (C 36
 .skip (.exit 2))) (.seq (.block 3 (.ops [m 39 1,m 40 3,m 43 2,m 44 4,x 45 22 43 44,l 46 9 45,m 48 3,m 49 2,m 50 4,x 51 22 49 50,l 52 9 51,d 53 (.build 53
 #[(0,i 4),(1,t 48),(5,t 52)]),⟨some 41,.call ⟨.value (.func 85),#[t 40],#[3]⟩,none,[⟨none,9,t 45,46⟩,⟨none,9,t 51,52⟩]⟩,b 42 .add 9 (t 41) (.const (.string
 ⟨#[46]⟩)) 9,b 47 .add 9 (t 42) (t 46) 9,d 54 (.build 218 #[(0,t 47),(1,t 53)]),d 55 (.buildSlice 215 1 #[(0,t 54)]),d 56 (.call ⟨.builtin .append,#[t 39,t
 55],#[215,215]⟩),a 1 56])) (.ops [m 37 4,b 38 .add 3 (t 37) (i 1) 3,a 4 38])))).1
def zky:PC:=(⟨_,by delta a b c d i m t;exact rfl⟩:Zz.Q (.ops [m 57 1,m 58 3,c 59 85 #[t 58] #[3],b 60 .add 9 (t 59) (.const (.string
 ⟨#[46,101,113,122]⟩)) 9,m 61 3,d 62 (.build 53 #[(0,i 5),(1,t 61)]),d 63 (.build 218 #[(0,t 60),(1,t 62)]),d 64 (.buildSlice 215 1 #[(0,t 63)]),d 65 (.call
 ⟨.builtin .append,#[t 57,t 64],#[215,215]⟩),a 1 65])).1
def zkz:PC:=(⟨_,by delta a b i m t;exact rfl⟩:Zz.Q (.ops [m 31 3,b 32 .add 3 (t 31) (i 1) 3,a 3 32])).1
def zhF:PC:=(⟨_,by delta A C S b i m t;exact rfl⟩:Zz.Q (.seq (S [m 29 3,b 30 .leq 3 (t 29) (i 2) 3] (C 30 .skip (.exit 0))) (.seq (.block
 1 (.seq (S [A 4 (i 0)] (.block 2 (.loop zhE))) zky)) zkz))).1
def zkA:PC:=(⟨_,by delta S a m;exact rfl⟩:Zz.Q (S [m 66 1,a 0 66] .ret)).1
def zvA:PC:=(⟨_,by delta A S a d i t;exact rfl⟩:Zz.Q (S [A 0 (.const (.slice none 0 0))] (S [d 5 (.build 53 #[(0,i 6)]),d 6 (.build 218
 #[(0,.const (.string ⟨#[105,51,50,46,119,114,97,112,95,105,54,52]⟩)),(1,t 5)]),d 7 (.build 53 #[(0,i 7)]),d 8 (.build 218 #[(0,.const (.string
 ⟨#[105,54,52,46,101,120,116,101,110,100,95,105,51,50,95,115]⟩)),(1,t 7)]),d 9 (.build 53 #[(0,i 8),(1,i 1),(2,i 1)]),d 10 (.build 218 #[(0,.const (.string
 ⟨#[105,51,50,46,108,111,97,100,56,95,115]⟩)),(1,t 9)]),d 11 (.build 53 #[(0,i 8),(1,i 1),(2,i 4)]),d 12 (.build 218 #[(0,.const (.string
 ⟨#[105,51,50,46,108,111,97,100]⟩)),(1,t 11)]),d 13 (.build 53 #[(0,i 8),(1,i 2),(2,i 8)]),d 14 (.build 218 #[(0,.const (.string
 ⟨#[105,54,52,46,108,111,97,100]⟩)),(1,t 13)]),d 15 (.build 53 #[(0,i 9),(1,i 1),(2,i 1)]),d 16 (.build 218 #[(0,.const (.string
 ⟨#[105,51,50,46,115,116,111,114,101,56]⟩)),(1,t 15)]),d 17 (.build 53 #[(0,i 9),(1,i 1),(2,i 4)]),d 18 (.build 218 #[(0,.const (.string
 ⟨#[105,51,50,46,115,116,111,114,101]⟩)),(1,t 17)]),d 19 (.build 53 #[(0,i 9),(1,i 2),(2,i 8)]),d 20 (.build 218 #[(0,.const (.string
 ⟨#[105,54,52,46,115,116,111,114,101]⟩)),(1,t 19)]),d 21 (.build 53 #[(0,i 16)]),d 22 (.build 218 #[(0,.const (.string ⟨#[114,101,116,117,114,110]⟩)),(1,t
 21)]),d 23 (.build 53 #[(0,i 17)]),d 24 (.build 218 #[(0,.const (.string ⟨#[117,110,114,101,97,99,104,97,98,108,101]⟩)),(1,t 23)]),d 25 (.build 53 #[(0,i
 18)]),d 26 (.build 218 #[(0,.const (.string ⟨#[100,114,111,112]⟩)),(1,t 25)]),d 27 (.buildSlice 215 11 #[(0,t 6),(1,t 8),(2,t 10),(3,t 12),(4,t 14),(5,t
 16),(6,t 18),(7,t 20),(8,t 22),(9,t 24),(10,t 26)]),a 1 27] (S [d 28 (.buildSlice 22 16 #[(0,.const (.string ⟨#[97,100,100]⟩)),(1,.const (.string
 ⟨#[115,117,98]⟩)),(2,.const (.string ⟨#[109,117,108]⟩)),(3,.const (.string ⟨#[100,105,118,95,115]⟩)),(4,.const (.string ⟨#[114,101,109,95,115]⟩)),(5,.const
 (.string ⟨#[97,110,100]⟩)),(6,.const (.string ⟨#[111,114]⟩)),(7,.const (.string ⟨#[120,111,114]⟩)),(8,.const (.string ⟨#[115,104,108]⟩)),(9,.const (.string
 ⟨#[115,104,114,95,115]⟩)),(10,.const (.string ⟨#[101,113]⟩)),(11,.const (.string ⟨#[110,101]⟩)),(12,.const (.string ⟨#[108,116,95,115]⟩)),(13,.const (.string
 ⟨#[108,101,95,115]⟩)),(14,.const (.string ⟨#[103,116,95,115]⟩)),(15,.const (.string ⟨#[103,101,95,115]⟩))]),a 2 28] (.seq (S [A 3 (i 1)] (.block 0 (.loop
 zhF))) zkA))))).1
theorem zpf:Zz.H 67 0 187 zvA [.tmp 0]:=fun hn h =>
 zb zm Tryz.func187 (by kernel_rfl) (by kernel_rfl) (by kernel_rfl) (by omega) h
def zsp:PC:=(⟨_,by delta A L S a b d m t w;exact rfl⟩:Zz.Q (S [A 4 (.const (.bool false))] (S [m 5 0,L 6 5 9,m 7 1,L 8 7 9,b 9 .geq 3 (t 6)
 (t 8) 3,m 10 9,w 11 (.move (t 0)) 10 true,w 12 (.move (t 1)) 10 true,w 13 (.call ⟨.builtin .len,#[t 12],#[9]⟩) 10 true,w 14 (.slice 9 (t 11) none (some (t 13))
 none) 10 true,w 15 (.move (t 1)) 10 true,w 16 (.binOp .eql 9 (t 14) (t 15) 9) 10 true,d 17 (.pick (t 10) (t 16) (.const (.bool false))),a 4 17] .ret))).1
theorem zpg:Zz.H 18 2 199 zsp [.tmp 4]:=fun hn h =>
 zb zm Tryz.func199 (by kernel_rfl) (by kernel_rfl) (by kernel_rfl) (by omega) h
def zsq:PC:=(⟨_,by delta A S a b i m t;exact rfl⟩:Zz.Q (S [A 2 (.const (.bool false))] (S [m 3 0,b 4 .gtr 3 (t 3) (i 8) 3,a 2 4] .ret))).1
theorem zkB:Zz.H 5 1 206 zsq [.tmp 2]:=fun hn h =>
 zb zm Tryz.func206 (by kernel_rfl) (by kernel_rfl) (by kernel_rfl) (by omega) h
def zsr:PC:=(⟨_,by delta A C S a b c d e f i l m s t;exact rfl⟩:Zz.Q (S [d 6 (.alloc 53)] (S [m 9 2,b 10 .leq 3 (t 9) (i 400) 3,c 11 61 #[t
 10,i 3] #[4,33]] (S [m 12 1,d 13 (.build 53 #[(0,t 12)]),d 7 (.alloc 53),s 53 7 13] (.seq (S [m 14 1,b 15 .neq 3 (t 14) (i 13) 3] (C 15 (S [m 17 0,m 18 2,d 19
 (.buildSlice 22 1 #[(0,.const (.string ⟨#[101,110,100]⟩))]),c 20 119 #[t 17,t 18,t 19] #[75,3,22],m 16 20,d 21 (.extract (t 16) 0),d 22 (.extract (t 16) 1),f
 23 53 7 3,s 3 23 21] (S [l 24 53 7,s 53 6 24] .ret)) .skip)) (S [A 8 (.const (.string ⟨#[]⟩))] (S [m 26 0,m 27 2,d 28 (.buildSlice 22 2 #[(0,.const (.string
 ⟨#[101,110,100]⟩)),(1,.const (.string ⟨#[101,108,115,101]⟩))]),c 29 119 #[t 26,t 27,t 28] #[75,3,22],m 25 29,d 30 (.extract (t 25) 0),d 31 (.extract (t 25)
 1),f 32 53 7 3,s 3 32 30,a 8 31] (S [f 33 53 7 4,e (.store 3 (t 33) (i (-1)))] (.seq (S [m 34 8,b 35 .eql 9 (t 34) (.const (.string ⟨#[101,108,115,101]⟩)) 9]
 (C 35 (.ops [m 37 0,m 38 2,d 39 (.buildSlice 22 1 #[(0,.const (.string ⟨#[101,110,100]⟩))]),c 40 119 #[t 37,t 38,t 39] #[75,3,22],m 36 40,d 41 (.extract (t 36)
 0),d 42 (.extract (t 36) 1),f 43 53 7 4,s 3 43 41]) .skip)) (S [l 44 53 7,s 53 6 44] .ret)))))))))).1
theorem zph:Zz.H 45 3 207 zsr [.cell 6 53]:=fun hn h =>
 zb zm Tryz.func207 (by kernel_rfl) (by kernel_rfl) (by kernel_rfl) (by omega) h
def zhG:PC:=(⟨_,by delta A C S a b c d i l m s t w x;exact rfl⟩:Zz.Q (S [b 13 .lss 3 (t 12) (t 11) 3] (.seq (C 13 .skip (.exit 0)) (.seq
 (.block 1 (S [x 14 44 10 12,l 15 3 14,a 5 15] (S [m 17 0,m 18 5,c 19 131 #[t 18] #[3],b 20 .add 9 (t 19) (.const (.string ⟨#[46]⟩)) 9,c 21 116 #[t 17,t 20]
 #[9,9],m 16 21,d 22 (.extract (t 16) 0),d 23 (.extract (t 16) 1),a 6 22,a 7 23] (.seq (S [m 24 7,m 25 24,w 26 (.move (t 6)) 25 true,w 27 (.binOp .eql 9 (t 26)
 (.const (.string ⟨#[101,113,122]⟩)) 9) 25 true,d 28 (.pick (t 25) (t 27) (.const (.bool false)))] (C 28 (S [m 29 5,d 30 (.build 53 #[(0,i 5),(1,t 29)]),s 53 2
 30,A 3 (.const (.bool true))] .ret) .skip)) (S [m 31 7,m 32 31,w 33 (.call ⟨.value (.func 57),#[.const (.string
 ⟨#[97,100,100,32,115,117,98,32,109,117,108,32,100,105,118,95,115,32,114,101,109,95,115,32,97,110,100,32,111,114,32,120,111,114,32,115,104,108,32,115,104,114,95,115,32,101,113,32,110,101,32,108,116,95,115,32,108,101,95,115,32,103,116,95,115,32,103,101,95,115]⟩)],#[9]⟩)
 32 true,w 34 (.move (t 6)) 32 true,w 35 (.call ⟨.value (.func 239),#[t 33,t 34],#[22,9]⟩) 32 true,d 36 (.pick (t 32) (t 35) (.const (.bool false)))] (C 36 (S
 [m 37 5,m 38 6,d 39 (.build 53 #[(0,i 4),(1,t 37),(5,t 38)]),s 53 2 39,A 3 (.const (.bool true))] .ret) .skip)))))) (.ops [b 40 .add 3 (t 12) (i 1) 3,m 12
 40]))))).1
def zkC:PC:=(⟨_,by delta S a d e i l m s t;exact rfl⟩:Zz.Q (S [d 42 (.makeMap 208 none),d 43 (.build 53 #[(0,i 6)]),e (.insert 208 (t 42)
 (.const (.string ⟨#[105,51,50,46,119,114,97,112,95,105,54,52]⟩)) (t 43)),d 44 (.build 53 #[(0,i 7)]),e (.insert 208 (t 42) (.const (.string
 ⟨#[105,54,52,46,101,120,116,101,110,100,95,105,51,50,95,115]⟩)) (t 44)),d 45 (.build 53 #[(0,i 16)]),e (.insert 208 (t 42) (.const (.string
 ⟨#[114,101,116,117,114,110]⟩)) (t 45)),d 46 (.build 53 #[(0,i 17)]),e (.insert 208 (t 42) (.const (.string ⟨#[117,110,114,101,97,99,104,97,98,108,101]⟩)) (t
 46)),d 47 (.build 53 #[(0,i 18)]),e (.insert 208 (t 42) (.const (.string ⟨#[100,114,111,112]⟩)) (t 47)),d 48 (.build 53 #[(0,i 8),(1,i 1),(2,i 1)]),e (.insert
 208 (t 42) (.const (.string ⟨#[105,51,50,46,108,111,97,100,56,95,115]⟩)) (t 48)),d 49 (.build 53 #[(0,i 8),(1,i 1),(2,i 4)]),e (.insert 208 (t 42) (.const
 (.string ⟨#[105,51,50,46,108,111,97,100]⟩)) (t 49)),d 50 (.build 53 #[(0,i 8),(1,i 2),(2,i 8)]),e (.insert 208 (t 42) (.const (.string
 ⟨#[105,54,52,46,108,111,97,100]⟩)) (t 50)),d 51 (.build 53 #[(0,i 9),(1,i 1),(2,i 1)]),e (.insert 208 (t 42) (.const (.string
 ⟨#[105,51,50,46,115,116,111,114,101,56]⟩)) (t 51)),d 52 (.build 53 #[(0,i 9),(1,i 1),(2,i 4)]),e (.insert 208 (t 42) (.const (.string
 ⟨#[105,51,50,46,115,116,111,114,101]⟩)) (t 52)),d 53 (.build 53 #[(0,i 9),(1,i 2),(2,i 8)]),e (.insert 208 (t 42) (.const (.string
 ⟨#[105,54,52,46,115,116,111,114,101]⟩)) (t 53)),m 54 42,m 55 0,d 56 (.lookup 208 (t 54) (t 55) true),m 41 56,d 57 (.extract (t 41) 0),d 58 (.extract (t 41)
 1),d 8 (.alloc 53),s 53 8 57,a 9 58] (S [l 59 53 8,m 60 9,s 53 2 59,a 3 60] .ret))).1
def zvB:PC:=(⟨_,by delta A L S d i;exact rfl⟩:Zz.Q (S [d 2 (.alloc 53),A 3 (.const (.bool false))] (.seq (S [d 10 (.buildSlice 44 2 #[(0,i
 1),(1,i 2)]),L 11 10 44,d 12 (.move (i 0))] (.block 0 (.loop zhG))) zkC))).1
theorem zpi:Zz.H 61 1 208 zvB [.cell 2 53, .tmp 3]:=fun hn h =>
 zb zm Tryz.func208 (by kernel_rfl) (by kernel_rfl) (by kernel_rfl) (by omega) h
def zcL:PC:=(⟨_,by delta A C L S a b d i l m t x;exact rfl⟩:Zz.Q (.seq (S [m 11 5,m 12 0,L 13 12 54,b 14 .lss 3 (t 11) (t 13) 3] (C 14
 .skip (.exit 0))) (.seq (.block 1 (S [m 17 0,m 18 5,x 19 54 17 18,l 20 53 19,m 21 1,m 22 5,x 23 54 21 22,l 24 53 23,b 25 .eql 53 (t 20) (t 24) 53,d 26 (.unOp
 .not 4 (t 25))] (C 26 (S [A 4 (.const (.bool false))] .ret) .skip))) (.ops [m 15 5,b 16 .add 3 (t 15) (i 1) 3,a 5 16])))).1
def zeP:PC:=(⟨_,by delta A S;exact rfl⟩:Zz.Q (S [A 4 (.const (.bool true))] .ret)).1
def ziJ:PC:=(⟨_,by delta A C L S b i m t;exact rfl⟩:Zz.Q (S [A 4 (.const (.bool false))] (.seq (S [m 6 0,L 7 6 54,m 8 1,L 9 8 54,b 10 .neq 3
 (t 7) (t 9) 3] (C 10 (S [A 4 (.const (.bool false))] .ret) .skip)) (.seq (S [A 5 (i 0)] (.block 0 (.loop zcL))) zeP)))).1
theorem zpj:Zz.H 27 2 216 ziJ [.tmp 4]:=fun hn h =>
 zb zm Tryz.func216 (by kernel_rfl) (by kernel_rfl) (by kernel_rfl) (by omega) h
def zvC:PC:=(⟨_,by delta A S a b c i m t;exact rfl⟩:Zz.Q (S [A 4 (.const (.bool false))] (S [m 5 0,m 6 1,c 7 157 #[t 5,t 6] #[22,9],b 8 .geq
 3 (t 7) (i 0) 3,a 4 8] .ret))).1
theorem zpk:Zz.H 9 2 239 zvC [.tmp 4]:=fun hn h =>
 zb zm Tryz.func239 (by kernel_rfl) (by kernel_rfl) (by kernel_rfl) (by omega) h
@[simp] theorem zBX:za5 yb5 9=true:=by kernel_rfl
@[simp] theorem zxS:za yb5 12=true:=by kernel_rfl
@[simp] theorem zxT:za yb5 19=true:=by kernel_rfl
@[simp] theorem zxU:zN yb5 28=some (.agg [.nilsl, (.int .i64 0), (.int .i64 0)]):=by kernel_rfl
@[simp] theorem zBY:za4 yb5 28=some 3:=by kernel_rfl
@[simp] theorem zAQ:zaR yb5 28=true:=by kernel_rfl
@[simp] theorem zxV:za yb5 21=true:=by kernel_rfl
@[simp] theorem zxW:za yb5 22=true:=by kernel_rfl
@[simp] theorem zxX:za yb5 23=true:=by kernel_rfl
@[simp] theorem ztQ:zaE yb5 53=true:=by kernel_rfl
@[simp] theorem zvD:zf5 yb5 53=true:=by kernel_rfl
@[simp] theorem zxY:zN yb5 53=some (.agg [(.int .i64 0), (.int .i64 0), (.int .i64 0), (.int .i64 0), (.int .i64 0), (.str [])]):=by kernel_rfl
@[simp] theorem zxZ:zbO yb5 53 0=some ⟨0, 1, false⟩:=by kernel_rfl
@[simp] theorem zx0:zbO yb5 53 1=some ⟨1, 1, false⟩:=by kernel_rfl
@[simp] theorem zx1:zbO yb5 53 2=some ⟨2, 1, false⟩:=by kernel_rfl
@[simp] theorem zBZ:zbM yb5 54=some 6:=by kernel_rfl
@[simp] theorem zB0:zaD yb5 54=some (.agg [(.int .i64 0), (.int .i64 0), (.int .i64 0), (.int .i64 0), (.int .i64 0), (.str [])]):=by kernel_rfl
@[simp] theorem zB1:zbM yb5 55=some 1:=by kernel_rfl
@[simp] theorem zB2:zaD yb5 55=some .nilsl:=by kernel_rfl
@[simp] theorem ztR:zaE yb5 57=true:=by kernel_rfl
@[simp] theorem zvE:zf5 yb5 57=true:=by kernel_rfl
@[simp] theorem zx2:zN yb5 57=some (.agg [(.str []), .nilsl, .nilsl, (.int .i64 0), .nilsl]):=by kernel_rfl
@[simp] theorem zx3:zbO yb5 57 0=some ⟨0, 1, false⟩:=by kernel_rfl
@[simp] theorem zx4:zbO yb5 57 3=some ⟨3, 1, false⟩:=by kernel_rfl
@[simp] theorem zx5:zbO yb5 57 4=some ⟨4, 1, false⟩:=by kernel_rfl
@[simp] theorem zB3:zbM yb5 26=some 5:=by kernel_rfl
@[simp] theorem zB4:zaD yb5 26=some (.agg [(.str []), .nilsl, .nilsl, (.int .i64 0), .nilsl]):=by kernel_rfl
@[simp] theorem ztS:zaE yb5 28=true:=by kernel_rfl
@[simp] theorem zvF:zf5 yb5 28=true:=by kernel_rfl
@[simp] theorem zx6:zbO yb5 28 1=some ⟨1, 1, false⟩:=by kernel_rfl
@[simp] theorem zx7:zbO yb5 28 0=some ⟨0, 1, false⟩:=by kernel_rfl
@[simp] theorem zx8:za yb5 10=true:=by kernel_rfl
@[simp] theorem zx9:za yb5 11=true:=by kernel_rfl
@[simp] theorem zya:za yb5 20=true:=by kernel_rfl
@[simp] theorem zyb:zN yb5 33=some (.int .i64 0):=by kernel_rfl
@[simp] theorem zB5:za4 yb5 33=some 1:=by kernel_rfl
@[simp] theorem zAR:zaR yb5 33=false:=by kernel_rfl
@[simp] theorem ztT:zaE yb5 77=true:=by kernel_rfl
@[simp] theorem zvG:zf5 yb5 77=true:=by kernel_rfl
@[simp] theorem zyc:zN yb5 77=some (.agg [(.str []), .nilsl]):=by kernel_rfl
@[simp] theorem zyd:zbO yb5 77 0=some ⟨0, 1, false⟩:=by kernel_rfl
@[simp] theorem zye:za yb5 57=true:=by kernel_rfl
@[simp] theorem zyf:za yb5 56=true:=by kernel_rfl
@[simp] theorem zyg:za yb5 58=true:=by kernel_rfl
@[simp] theorem zCG:za4 yb5 3=some 1:=by kernel_rfl
@[simp] theorem zB6:zaR yb5 3=false:=by kernel_rfl
@[simp] theorem zB7:zbM yb5 22=some 1:=by kernel_rfl
@[simp] theorem zB8:zaD yb5 22=some (.str []):=by kernel_rfl
@[simp] theorem zyh:za yb5 59=true:=by kernel_rfl
@[simp] theorem zB9:za4 yb5 26=some 1:=by kernel_rfl
@[simp] theorem zAS:zaR yb5 26=false:=by kernel_rfl
@[simp] theorem zyi:za yb5 60=true:=by kernel_rfl
@[simp] theorem zCa:zaS yb5 26=some 96:=by kernel_rfl
@[simp] theorem zyj:zbO yb5 28 2=some ⟨2, 1, false⟩:=by kernel_rfl
@[simp] theorem zCH:za4 yb5 9=some 1:=by kernel_rfl
@[simp] theorem zCb:zaR yb5 9=false:=by kernel_rfl
@[simp] theorem zyk:za yb5 62=true:=by kernel_rfl
@[simp] theorem zyl:za yb5 61=true:=by kernel_rfl
@[simp] theorem ztU:zaE yb5 88=true:=by kernel_rfl
@[simp] theorem zvH:zf5 yb5 88=true:=by kernel_rfl
@[simp] theorem zym:zN yb5 88=some (.agg [.nilp, .nilsl]):=by kernel_rfl
@[simp] theorem zyn:za yb5 64=true:=by kernel_rfl
@[simp] theorem zyo:za yb5 63=true:=by kernel_rfl
@[simp] theorem zCc:za4 yb5 57=some 5:=by kernel_rfl
@[simp] theorem zAT:zaR yb5 57=true:=by kernel_rfl
@[simp] theorem zyp:zbO yb5 57 1=some ⟨1, 1, false⟩:=by kernel_rfl
@[simp] theorem zCd:za4 yb5 44=some 1:=by kernel_rfl
@[simp] theorem zAU:zaR yb5 44=false:=by kernel_rfl
@[simp] theorem zyq:za yb5 65=true:=by kernel_rfl
@[simp] theorem zCe:zbM yb5 44=some 1:=by kernel_rfl
@[simp] theorem zCf:zaD yb5 44=some (.int .i64 0):=by kernel_rfl
@[simp] theorem zyr:zbO yb5 57 2=some ⟨2, 1, false⟩:=by kernel_rfl
@[simp] theorem zCg:za4 yb5 55=some 1:=by kernel_rfl
@[simp] theorem zAV:zaR yb5 55=false:=by kernel_rfl
@[simp] theorem zys:za yb5 66=true:=by kernel_rfl
@[simp] theorem zyt:zbO yb5 88 0=some ⟨0, 2, true⟩:=by kernel_rfl
@[simp] theorem zyu:za yb5 67=true:=by kernel_rfl
@[simp] theorem ztV:zaE yb5 95=true:=by kernel_rfl
@[simp] theorem zvI:zf5 yb5 95=true:=by kernel_rfl
@[simp] theorem zyv:zN yb5 95=some (.agg [(.str []), (.int .i64 0), (.int .i64 0), .nilsl]):=by kernel_rfl
@[simp] theorem zyw:zbO yb5 95 0=some ⟨0, 1, false⟩:=by kernel_rfl
@[simp] theorem zyx:za yb5 68=true:=by kernel_rfl
@[simp] theorem zyy:zbO yb5 95 1=some ⟨1, 1, false⟩:=by kernel_rfl
@[simp] theorem zCh:zaS yb5 22=some 16:=by kernel_rfl
@[simp] theorem zyz:za yb5 69=true:=by kernel_rfl
@[simp] theorem zyA:za yb5 70=true:=by kernel_rfl
@[simp] theorem zyB:za yb5 71=true:=by kernel_rfl
@[simp] theorem zyC:za yb5 72=true:=by kernel_rfl
@[simp] theorem zyD:za yb5 73=true:=by kernel_rfl
@[simp] theorem zyE:zbO yb5 95 2=some ⟨2, 1, false⟩:=by kernel_rfl
@[simp] theorem zyF:za yb5 74=true:=by kernel_rfl
@[simp] theorem zyG:za yb5 75=true:=by kernel_rfl
@[simp] theorem zCi:za4 yb5 54=some 1:=by kernel_rfl
@[simp] theorem zAW:zaR yb5 54=false:=by kernel_rfl
@[simp] theorem zyH:za yb5 76=true:=by kernel_rfl
@[simp] theorem zyI:za yb5 77=true:=by kernel_rfl
@[simp] theorem zyJ:za yb5 78=true:=by kernel_rfl
@[simp] theorem zvJ:za yb5 110=true:=by kernel_rfl
@[simp] theorem zAX:zn0 yb5 135=some (256, 1, false):=by kernel_rfl
@[simp] theorem zCI:za4 yb5 5=some 1:=by kernel_rfl
@[simp] theorem zCj:zaR yb5 5=false:=by kernel_rfl
@[simp] theorem zCk:zd8 yb5 3=some .i64:=by kernel_rfl
@[simp] theorem zvK:za yb5 113=true:=by kernel_rfl
@[simp] theorem zvL:za yb5 114=true:=by kernel_rfl
@[simp] theorem zvM:za yb5 115=true:=by kernel_rfl
@[simp] theorem zvN:za yb5 116=true:=by kernel_rfl
@[simp] theorem zvO:za yb5 117=true:=by kernel_rfl
@[simp] theorem zvP:za yb5 118=true:=by kernel_rfl
@[simp] theorem zyK:zbO yb5 77 1=some ⟨1, 1, false⟩:=by kernel_rfl
@[simp] theorem zvQ:za yb5 119=true:=by kernel_rfl
@[simp] theorem zCl:zag yb5 33=some false:=by kernel_rfl
@[simp] theorem zvR:za yb5 122=true:=by kernel_rfl
theorem zmJ:zN yb5 151=some (.agg [(.bool false), (.bool false), (.bool false), (.bool false), (.bool false), (.bool false), (.bool false), (.bool false), (.bool false), (.bool false), (.bool false), (.bool false), (.bool false), (.bool false), (.bool false), (.bool false), (.bool false), (.bool false), (.bool false), (.bool false), (.bool false), (.bool false), (.bool false), (.bool false), (.bool false), (.bool false), (.bool false), (.bool false), (.bool false), (.bool false), (.bool false), (.bool false), (.bool false), (.bool false), (.bool false), (.bool false), (.bool false), (.bool false), (.bool false), (.bool false), (.bool false), (.bool false), (.bool false), (.bool false), (.bool false), (.bool false), (.bool false), (.bool false), (.bool false), (.bool false), (.bool false), (.bool false), (.bool false), (.bool false), (.bool false), (.bool false), (.bool false), (.bool false), (.bool false), (.bool false), (.bool false), (.bool false), (.bool false), (.bool false), (.bool false), (.bool false), (.bool false), (.bool false), (.bool false), (.bool false), (.bool false), (.bool false), (.bool false), (.bool false), (.bool false), (.bool false), (.bool false), (.bool false), (.bool false), (.bool false), (.bool false), (.bool false), (.bool false), (.bool false), (.bool false), (.bool false), (.bool false), (.bool false), (.bool false), (.bool false), (.bool false), (.bool false), (.bool false), (.bool false), (.bool false), (.bool false), (.bool false), (.bool false), (.bool false), (.bool false), (.bool false), (.bool false), (.bool false), (.bool false), (.bool false), (.bool false), (.bool false), (.bool false), (.bool false), (.bool false), (.bool false), (.bool false), (.bool false), (.bool false), (.bool false), (.bool false), (.bool false), (.bool false), (.bool false), (.bool false), (.bool false), (.bool false), (.bool false), (.bool false), (.bool false), (.bool false), (.bool false), (.bool false), (.bool false), (.bool false), (.bool false), (.bool false), (.bool false), (.bool false), (.bool false), (.bool false), (.bool false), (.bool false), (.bool false), (.bool false), (.bool false), (.bool false), (.bool false), (.bool false), (.bool false), (.bool false), (.bool false), (.bool false), (.bool false), (.bool false), (.bool false), (.bool false), (.bool false), (.bool false), (.bool false), (.bool false), (.bool false), (.bool false), (.bool false), (.bool false), (.bool false), (.bool false), (.bool false), (.bool false), (.bool false), (.bool false), (.bool false), (.bool false), (.bool false), (.bool false), (.bool false), (.bool false), (.bool false), (.bool false), (.bool false), (.bool false), (.bool false), (.bool false), (.bool false), (.bool false), (.bool false), (.bool false), (.bool false), (.bool false), (.bool false), (.bool false), (.bool false), (.bool false), (.bool false), (.bool false), (.bool false), (.bool false), (.bool false), (.bool false), (.bool false), (.bool false), (.bool false), (.bool false), (.bool false), (.bool false), (.bool false), (.bool false), (.bool false), (.bool false), (.bool false), (.bool false), (.bool false), (.bool false), (.bool false), (.bool false), (.bool false), (.bool false), (.bool false), (.bool false), (.bool false), (.bool false), (.bool false), (.bool false), (.bool false), (.bool false), (.bool false), (.bool false), (.bool false), (.bool false), (.bool false), (.bool false), (.bool false), (.bool false), (.bool false), (.bool false), (.bool false), (.bool false), (.bool false), (.bool false), (.bool false), (.bool false), (.bool false), (.bool false), (.bool false), (.bool false), (.bool false), (.bool false), (.bool false), (.bool false), (.bool false), (.bool false), (.bool false), (.bool false), (.bool false), (.bool false), (.bool false), (.bool false), (.bool false), (.bool false), (.bool false), (.bool false)]):=by kernel_rfl
@[simp] theorem zAY:za4 yb5 151=some 256:=by kernel_rfl
@[simp] theorem zyL:zaR yb5 151=true:=by kernel_rfl
@[simp] theorem zvS:za yb5 124=true:=by kernel_rfl
@[simp] theorem zvT:za yb5 123=true:=by kernel_rfl
@[simp] theorem zvU:za yb5 127=true:=by kernel_rfl
@[simp] theorem zvV:za yb5 128=true:=by kernel_rfl
@[simp] theorem zvW:za yb5 129=true:=by kernel_rfl
@[simp] theorem zvX:za yb5 131=true:=by kernel_rfl
@[simp] theorem zCm:za4 yb5 53=some 6:=by kernel_rfl
@[simp] theorem zAZ:zaR yb5 53=true:=by kernel_rfl
@[simp] theorem zvY:za yb5 132=true:=by kernel_rfl
@[simp] theorem zyM:zbO yb5 53 3=some ⟨3, 1, false⟩:=by kernel_rfl
@[simp] theorem zyN:zbO yb5 53 4=some ⟨4, 1, false⟩:=by kernel_rfl
@[simp] theorem zvZ:za yb5 133=true:=by kernel_rfl
@[simp] theorem zv0:za yb5 134=true:=by kernel_rfl
@[simp] theorem zyO:zbO yb5 86 1=some ⟨1, 1, false⟩:=by kernel_rfl
@[simp] theorem zCn:za4 yb5 32=some 1:=by kernel_rfl
@[simp] theorem zA0:zaR yb5 32=false:=by kernel_rfl
@[simp] theorem zCo:zbM yb5 32=some 1:=by kernel_rfl
@[simp] theorem zv1:za yb5 135=true:=by kernel_rfl
@[simp] theorem zv2:za yb5 136=true:=by kernel_rfl
@[simp] theorem zyP:za yb5 83=true:=by kernel_rfl
@[simp] theorem zv3:za yb5 137=true:=by kernel_rfl
@[simp] theorem zv4:za yb5 138=true:=by kernel_rfl
@[simp] theorem zyQ:zbO yb5 95 3=some ⟨3, 1, false⟩:=by kernel_rfl
@[simp] theorem zv5:za yb5 139=true:=by kernel_rfl
@[simp] theorem zv6:za yb5 140=true:=by kernel_rfl
@[simp] theorem zv7:za yb5 141=true:=by kernel_rfl
@[simp] theorem zv8:za yb5 142=true:=by kernel_rfl
@[simp] theorem zv9:za yb5 143=true:=by kernel_rfl
@[simp] theorem zwa:za yb5 144=true:=by kernel_rfl
@[simp] theorem zCp:zd8 yb5 5=some .u8:=by kernel_rfl
@[simp] theorem zCq:zaD yb5 32=some (.int .u8 0):=by kernel_rfl
@[simp] theorem zA1:zlT yb5 32=true:=by kernel_rfl
@[simp] theorem zwb:za yb5 164=true:=by kernel_rfl
@[simp] theorem zwc:za yb5 167=true:=by kernel_rfl
@[simp] theorem zwd:za yb5 168=true:=by kernel_rfl
@[simp] theorem zwe:za yb5 169=true:=by kernel_rfl
@[simp] theorem zA2:zd8 yb5 21=some .i32:=by kernel_rfl
@[simp] theorem zwf:za yb5 170=true:=by kernel_rfl
@[simp] theorem zCr:zaS yb5 44=some 8:=by kernel_rfl
@[simp] theorem zCs:zaS yb5 55=some 24:=by kernel_rfl
@[simp] theorem zwg:za yb5 171=true:=by kernel_rfl
@[simp] theorem zCt:zaS yb5 54=some 56:=by kernel_rfl
@[simp] theorem zA3:zn0 yb5 151=some (256, 1, false):=by kernel_rfl
@[simp] theorem zCJ:za4 yb5 4=some 1:=by kernel_rfl
@[simp] theorem zCu:zaR yb5 4=false:=by kernel_rfl
@[simp] theorem zwh:za yb5 172=true:=by kernel_rfl
@[simp] theorem zwi:za yb5 175=true:=by kernel_rfl
@[simp] theorem zCv:zaS yb5 32=some 1:=by kernel_rfl
@[simp] theorem zyR:zbO yb5 53 5=some ⟨5, 1, false⟩:=by kernel_rfl
@[simp] theorem zwj:za yb5 177=true:=by kernel_rfl
@[simp] theorem zwk:za yb5 178=true:=by kernel_rfl
@[simp] theorem zwl:za yb5 179=true:=by kernel_rfl
@[simp] theorem zyS:za yb5 79=true:=by kernel_rfl
@[simp] theorem zwm:za yb5 180=true:=by kernel_rfl
@[simp] theorem zwn:za yb5 199=true:=by kernel_rfl
@[simp] theorem zwo:za yb5 205=true:=by kernel_rfl
@[simp] theorem zwp:za yb5 206=true:=by kernel_rfl
@[simp] theorem zwq:za yb5 207=true:=by kernel_rfl
@[simp] theorem zwr:za yb5 208=true:=by kernel_rfl
@[simp] theorem zws:za yb5 187=true:=by kernel_rfl
@[simp] theorem zA4:zbM yb5 215=some 7:=by kernel_rfl
@[simp] theorem zwt:zbO yb5 218 0=some ⟨0, 1, false⟩:=by kernel_rfl
@[simp] theorem zwu:zbO yb5 218 1=some ⟨1, 6, true⟩:=by kernel_rfl
@[simp] theorem zwv:za yb5 186=true:=by kernel_rfl
@[simp] theorem zww:za yb5 216=true:=by kernel_rfl
@[simp] theorem zss:zaE yb5 218=true:=by kernel_rfl
@[simp] theorem ztW:zf5 yb5 218=true:=by kernel_rfl
@[simp] theorem zwx:zN yb5 218=some (.agg [(.str []), (.int .i64 0), (.int .i64 0), (.int .i64 0), (.int .i64 0), (.int .i64 0), (.str [])]):=by kernel_rfl
@[simp] theorem zA5:zaD yb5 215=some (.agg [(.str []), (.int .i64 0), (.int .i64 0), (.int .i64 0), (.int .i64 0), (.int .i64 0), (.str [])]):=by kernel_rfl
@[simp] theorem zyT:za yb5 85=true:=by kernel_rfl
@[simp] theorem zA6:zaS yb5 215=some 72:=by kernel_rfl
@[simp] theorem zwy:za yb5 239=true:=by kernel_rfl
@[simp] theorem zwz:za yb5 157=true:=by kernel_rfl
end Go.Proofs.YtohfclafhegadaaGreatDoor
