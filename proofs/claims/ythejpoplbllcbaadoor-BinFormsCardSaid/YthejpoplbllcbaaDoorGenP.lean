/- The planned texts of the functions, and facts on the program's types; written by a program; no condition. -/
import Derived.Test.YthejpoplbllcbaaDoorChecked
import Derived.Test.YthejpoplbllcbaaDoorAbsB
import Derived.KernelRfl
set_option maxRecDepth 100000
namespace Go.Proofs.YthejpoplbllcbaaDoor
open Go Go.Abs
namespace Zz
def t (x : Nat) : Operand := .tmp x
def i (k : Int) : Operand := .const (.int .i64 k)
def S (l : List PO) (r : PC) : PC := .seq (.ops l) r
def C (x : Nat) (a b : PC) : PC := .cond (.tmp x) a b
def m (d x : Nat) : PO := ⟨some d, .move (.tmp x), none, []⟩
def l (d t x : Nat) : PO := ⟨some d, .load t (.tmp x), none, []⟩
def f (d t x i : Nat) : PO := ⟨some d, .fieldAddr t (.tmp x) i, none, []⟩
def n (d x : Nat) : PO := ⟨some d, .nilCheck (.tmp x), none, []⟩
def a (d x : Nat) : PO := ⟨some d, .assign (.tmp x), none, []⟩
def A (d : Nat) (v : Operand) : PO := ⟨some d, .assign v, none, []⟩
def x (d t x y : Nat) : PO := ⟨some d, .indexAddr t (.tmp x) (.tmp y), none, []⟩
def b (d : Nat) (o : BinOp) (t : Nat) (x y : Operand) (u : Nat) : PO := ⟨some d, .binOp o t x y u, none, []⟩
def c (d f : Nat) (xs : Array Operand) (ts : Array TypeId) : PO := ⟨some d, .call ⟨.value (.func f), xs, ts⟩, none, []⟩
def L (d x t : Nat) : PO := ⟨some d, .call ⟨.builtin .len, #[(.tmp x)], #[t]⟩, none, []⟩
def d (n : Nat) (o : Op) : PO := ⟨some n, o, none, []⟩
def s (t x y : Nat) : PO := ⟨none, .store t (.tmp x) (.tmp y), none, []⟩
def e (o : Op) : PO := ⟨none, o, none, []⟩
def w (n : Nat) (o : Op) (g : Nat) (v : Bool) : PO := ⟨some n, o, some (g, v), []⟩
end Zz
open Zz
variable {G : Env} {args : List AV} {σ : AS} {R : Out → AS → Prop}
theorem mixed : Tryd.prog.follows .mixedOrders = true := by kernel_rfl
def pc3_l1 : PC := (⟨_, by delta A C S a b d i l m t w x; exact rfl⟩ : { p : PC // p = .seq (S [m 16 6,b 17 .geq 3 (t 16) (i 0) 3] (C 17 .skip (.exit 0))) (.seq
 (.block 1 (S [m 20 5,b 21 .shl 3 (t 20) (.const (.int .u64 7)) 24,m 22 3,m 23 6,x 24 22 22 23,l 25 5 24,b 26 .and 5 (t 25) (.const (.int .u8 127)) 5,d 27
 (.convert 5 3 (t 26)),b 28 .or 3 (t 21) (t 27) 3,a 5 28] (.seq (S [m 29 3,m 30 6,x 31 22 29 30,l 32 5 31,b 33 .geq 5 (t 32) (.const (.int .u8 128)) 5,m 34 6,m
 35 4,b 36 .sub 3 (t 35) (i 1) 3,b 37 .lss 3 (t 34) (t 36) 3,b 38 .neq 4 (t 33) (t 37) 4] (C 38 (S [A 2 (.const (.bool false))] .ret) .skip)) (S [m 39 6,m 40
 4,b 41 .sub 3 (t 40) (i 1) 3,b 42 .eql 3 (t 39) (t 41) 3,m 43 42,w 44 (.move (t 3)) 43 true,w 45 (.move (t 6)) 43 true,w 46 (.indexAddr 22 (t 44) (t 45)) 43
 true,w 47 (.load 5 (t 46)) 43 true,w 48 (.binOp .geq 5 (t 47) (.const (.int .u8 64)) 5) 43 true,d 49 (.pick (t 43) (t 48) (.const (.bool false)))] (C 49 (.ops
 [m 50 5,b 51 .sub 3 (t 50) (i 128) 3,a 5 51]) .skip))))) (.ops [m 18 6,b 19 .sub 3 (t 18) (i 1) 3,a 6 19])) }).1
def pc3_l2 : PC := (⟨_, by delta A C L S a b d i l m t x; exact rfl⟩ : { p : PC // p = .seq (S [m 105 9,b 106 .geq 3 (t 105) (i 0) 3] (C 106 .skip (.exit 2)))
 (.seq (.block 3 (S [m 109 8,b 110 .shl 3 (t 109) (.const (.int .u64 7)) 24,m 111 7,m 112 9,x 113 22 111 112,l 114 5 113,b 115 .and 5 (t 114) (.const (.int .u8
 127)) 5,d 116 (.convert 5 3 (t 115)),b 117 .or 3 (t 110) (t 116) 3,a 8 117] (S [m 118 7,m 119 9,x 120 22 118 119,l 121 5 120,b 122 .geq 5 (t 121) (.const (.int
 .u8 128)) 5,m 123 9,m 124 7,L 125 124 22,b 126 .sub 3 (t 125) (i 1) 3,b 127 .lss 3 (t 123) (t 126) 3,b 128 .neq 4 (t 122) (t 127) 4] (C 128 (S [A 2 (.const
 (.bool false))] .ret) .skip)))) (.ops [m 107 9,b 108 .sub 3 (t 107) (i 1) 3,a 9 108])) }).1
def pc3_r1 : PC := (⟨_, by delta S a b d i m t w; exact rfl⟩ : { p : PC // p = S [m 129 8,m 130 0,b 131 .eql 3 (t 129) (t 130) 3,m 132 131,w 133 (.move (t 7))
 132 true,w 134 (.call ⟨.builtin .len,#[t 133],#[22]⟩) 132 true,w 135 (.binOp .gtr 3 (t 134) (i 0) 3) 132 true,d 136 (.pick (t 132) (t 135) (.const (.bool
 false))),m 137 136,w 138 (.move (t 7)) 137 true,w 139 (.call ⟨.builtin .len,#[t 138],#[22]⟩) 137 true,w 140 (.binOp .eql 3 (t 139) (i 1) 3) 137 true,w 141
 (.move (t 140)) 137 true,w 142 (.move (t 7)) 141 false,w 143 (.move (t 7)) 141 false,w 144 (.call ⟨.builtin .len,#[t 143],#[22]⟩) 141 false,w 145 (.binOp .sub
 3 (t 144) (i 1) 3) 141 false,w 146 (.indexAddr 22 (t 142) (t 145)) 141 false,w 147 (.load 5 (t 146)) 141 false,w 148 (.binOp .neq 5 (t 147) (.const (.int .u8
 0)) 5) 141 false,w 149 (.pick (t 141) (.const (.bool true)) (t 148)) 137 true,d 150 (.pick (t 137) (t 149) (.const (.bool false))),m 151 150,w 152 (.call
 ⟨.value (.func 5),#[],#[]⟩) 151 true,d 153 (.pick (t 151) (t 152) (.const (.bool false))),a 2 153] .ret }).1
def pc3_r2 : PC := (⟨_, by delta A C L S a b c d i m t w; exact rfl⟩ : { p : PC // p = .seq (S [m 52 5,m 53 0,b 54 .neq 3 (t 52) (t 53) 3,m 55 54,w 56 (.move (t
 4)) 55 false,w 57 (.binOp .gtr 3 (t 56) (i 10) 3) 55 false,d 58 (.pick (t 55) (.const (.bool true)) (t 57)),m 59 58,w 60 (.move (t 4)) 59 false,w 61 (.binOp
 .gtr 3 (t 60) (i 1) 3) 59 false,w 62 (.move (t 61)) 59 false,w 63 (.move (t 3)) 62 true,w 64 (.move (t 4)) 62 true,w 65 (.binOp .sub 3 (t 64) (i 1) 3) 62
 true,w 66 (.indexAddr 22 (t 63) (t 65)) 62 true,w 67 (.load 5 (t 66)) 62 true,w 68 (.binOp .eql 5 (t 67) (.const (.int .u8 0)) 5) 62 true,w 69 (.move (t 68))
 62 true,w 70 (.move (t 3)) 69 true,w 71 (.move (t 4)) 69 true,w 72 (.binOp .sub 3 (t 71) (i 2) 3) 69 true,w 73 (.indexAddr 22 (t 70) (t 72)) 69 true,w 74
 (.load 5 (t 73)) 69 true,w 75 (.binOp .and 5 (t 74) (.const (.int .u8 64)) 5) 69 true,w 76 (.binOp .eql 5 (t 75) (.const (.int .u8 0)) 5) 69 true,w 77 (.pick
 (t 69) (t 76) (.const (.bool false))) 62 true,w 78 (.move (t 77)) 62 true,w 79 (.move (t 3)) 78 false,w 80 (.move (t 4)) 78 false,w 81 (.binOp .sub 3 (t 80) (i
 1) 3) 78 false,w 82 (.indexAddr 22 (t 79) (t 81)) 78 false,w 83 (.load 5 (t 82)) 78 false,w 84 (.binOp .eql 5 (t 83) (.const (.int .u8 127)) 5) 78 false,w 85
 (.move (t 84)) 78 false,w 86 (.move (t 3)) 85 true,w 87 (.move (t 4)) 85 true,w 88 (.binOp .sub 3 (t 87) (i 2) 3) 85 true,w 89 (.indexAddr 22 (t 86) (t 88)) 85
 true,w 90 (.load 5 (t 89)) 85 true,w 91 (.binOp .and 5 (t 90) (.const (.int .u8 64)) 5) 85 true,w 92 (.binOp .neq 5 (t 91) (.const (.int .u8 0)) 5) 85 true,w
 93 (.pick (t 85) (t 92) (.const (.bool false))) 78 false,w 94 (.pick (t 78) (.const (.bool true)) (t 93)) 62 true,w 95 (.pick (t 62) (t 94) (.const (.bool
 false))) 59 false,d 96 (.pick (t 59) (.const (.bool true)) (t 95))] (C 96 (S [A 2 (.const (.bool false))] .ret) .skip)) (.seq (S [m 97 0,b 98 .lss 3 (t 97) (i
 0) 3] (C 98 (S [c 99 5 #[] #[],a 2 99] .ret) .skip)) (S [m 100 0,c 101 6 #[t 100] #[3],a 7 101] (S [A 8 (i 0)] (.seq (S [m 102 7,L 103 102 22,b 104 .sub 3 (t
 103) (i 1) 3,a 9 104] (.block 2 (.loop pc3_l2))) pc3_r1)))) }).1
def pc3 : PC := (⟨_, by delta A L S a b c i m t; exact rfl⟩ : { p : PC // p = S [A 2 (.const (.bool false))] (S [m 10 0,c 11 4 #[t 10] #[3],a 3 11] (S [m 12 3,L
 13 12 22,a 4 13] (S [A 5 (i 0)] (.seq (S [m 14 4,b 15 .sub 3 (t 14) (i 1) 3,a 6 15] (.block 0 (.loop pc3_l1))) pc3_r2)))) }).1
theorem calls3 (hn : args.length = 1) (h : avc Tryd.prog G 154 pc3 (afin Tryd.prog [.tmp 2] R) (frame0 args) σ) : ACalls Tryd.prog G 3 args σ R :=
  acalls' (n := 154) (l := [.tmp 2]) mixed Tryd.func3 (by kernel_rfl) (by kernel_rfl) (by kernel_rfl) (by omega) h
def pc4_l1 : PC := (⟨_, by delta C S a b d i m t w; exact rfl⟩ : { p : PC // p = .seq (S [m 4 0,b 5 .lss 3 (t 4) (i (-64)) 3,m 6 5,w 7 (.move (t 0)) 6 false,w 8
 (.binOp .gtr 3 (t 7) (i 63) 3) 6 false,d 9 (.pick (t 6) (.const (.bool true)) (t 8))] (C 9 .skip (.exit 0))) (.seq (.block 1 (.ops [m 12 3,m 13 0,d 14
 (.convert 3 5 (t 13)),b 15 .or 5 (t 14) (.const (.int .u8 128)) 5,d 16 (.buildSlice 22 1 #[(0,t 15)]),d 17 (.call ⟨.builtin .append,#[t 12,t 16],#[22,22]⟩),a 3
 17])) (.ops [m 10 0,b 11 .shr 3 (t 10) (.const (.int .u64 7)) 24,a 0 11])) }).1
def pc4_r1 : PC := (⟨_, by delta S a b d m t; exact rfl⟩ : { p : PC // p = S [m 18 3,m 19 0,d 20 (.convert 3 5 (t 19)),b 21 .and 5 (t 20) (.const (.int .u8
 127)) 5,d 22 (.buildSlice 22 1 #[(0,t 21)]),d 23 (.call ⟨.builtin .append,#[t 18,t 22],#[22,22]⟩),a 2 23] .ret }).1
def pc4 : PC := (⟨_, by delta A S; exact rfl⟩ : { p : PC // p = S [A 2 (.const (.slice none 0 0))] (S [A 3 (.const (.slice none 0 0))] (.seq (.block 0 (.loop
 pc4_l1)) pc4_r1)) }).1
theorem calls4 (hn : args.length = 1) (h : avc Tryd.prog G 24 pc4 (afin Tryd.prog [.tmp 2] R) (frame0 args) σ) : ACalls Tryd.prog G 4 args σ R :=
  acalls' (n := 24) (l := [.tmp 2]) mixed Tryd.func4 (by kernel_rfl) (by kernel_rfl) (by kernel_rfl) (by omega) h
def pc5 : PC := (⟨_, by delta A S a c d i m s t w; exact rfl⟩ : { p : PC // p = S [A 0 (.const (.bool false))] (S [c 4 8 #[] #[],c 5 7 #[t 4] #[30],a 1 5] (S [m
 7 1,c 8 9 #[t 7] #[22],m 6 8,d 9 (.extract (t 6) 0),d 10 (.extract (t 6) 1),d 2 (.alloc 30),s 30 2 9,a 3 10] (S [d 12 (.buildSlice 22 3 #[(0,.const (.int .u8
 229)),(1,.const (.int .u8 142)),(2,.const (.int .u8 38))]),c 11 6 #[i 624485] #[3],c 13 10 #[t 11,t 12] #[22,22],m 14 13,w 16 (.buildSlice 22 3 #[(0,.const
 (.int .u8 192)),(1,.const (.int .u8 187)),(2,.const (.int .u8 120))]) 14 true,w 15 (.call ⟨.value (.func 4),#[i (-123456)],#[3]⟩) 14 true,w 17 (.call ⟨.value
 (.func 10),#[t 15,t 16],#[22,22]⟩) 14 true,d 18 (.pick (t 14) (t 17) (.const (.bool false))),m 19 18,w 20 (.move (t 3)) 19 true,w 21 (.binOp .eql 32 (t 20) (i
 0) 32) 19 true,d 22 (.pick (t 19) (t 21) (.const (.bool false))),m 23 22,w 24 (.load 30 (t 2)) 23 true,⟨some 25,.call ⟨.value (.func 8),#[],#[]⟩,some
 (23,true),[⟨some (23,true),30,t 2,24⟩]⟩,w 26 (.call ⟨.value (.func 11),#[t 24,t 25],#[30,30]⟩) 23 true,d 27 (.pick (t 23) (t 26) (.const (.bool false))),m 28
 27,w 29 (.move (t 1)) 28 true,w 30 (.call ⟨.builtin .len,#[t 29],#[22]⟩) 28 true,w 31 (.binOp .gtr 3 (t 30) (i 8) 3) 28 true,d 32 (.pick (t 28) (t 31) (.const
 (.bool false))),m 33 32,w 34 (.move (t 1)) 33 true,w 35 (.indexAddr 22 (t 34) (i 1)) 33 true,w 36 (.load 5 (t 35)) 33 true,w 37 (.binOp .eql 5 (t 36) (.const
 (.int .u8 97)) 5) 33 true,d 38 (.pick (t 33) (t 37) (.const (.bool false))),a 0 38] .ret))) }).1
theorem calls5 (hn : args.length = 0) (h : avc Tryd.prog G 39 pc5 (afin Tryd.prog [.tmp 0] R) (frame0 args) σ) : ACalls Tryd.prog G 5 args σ R :=
  acalls' (n := 39) (l := [.tmp 0]) mixed Tryd.func5 (by kernel_rfl) (by kernel_rfl) (by kernel_rfl) (by omega) h
def pc6_l1 : PC := (⟨_, by delta C S a b d i m t; exact rfl⟩ : { p : PC // p = .seq (S [m 4 0,b 5 .gtr 3 (t 4) (i 127) 3] (C 5 .skip (.exit 0))) (.seq (.block 1
 (.ops [m 8 3,m 9 0,d 10 (.convert 3 5 (t 9)),b 11 .or 5 (t 10) (.const (.int .u8 128)) 5,d 12 (.buildSlice 22 1 #[(0,t 11)]),d 13 (.call ⟨.builtin .append,#[t
 8,t 12],#[22,22]⟩),a 3 13])) (.ops [m 6 0,b 7 .shr 3 (t 6) (.const (.int .u64 7)) 24,a 0 7])) }).1
def pc6_r1 : PC := (⟨_, by delta S a d m t; exact rfl⟩ : { p : PC // p = S [m 14 3,m 15 0,d 16 (.convert 3 5 (t 15)),d 17 (.buildSlice 22 1 #[(0,t 16)]),d 18
 (.call ⟨.builtin .append,#[t 14,t 17],#[22,22]⟩),a 2 18] .ret }).1
def pc6 : PC := (⟨_, by delta A S; exact rfl⟩ : { p : PC // p = S [A 2 (.const (.slice none 0 0))] (S [A 3 (.const (.slice none 0 0))] (.seq (.block 0 (.loop
 pc6_l1)) pc6_r1)) }).1
theorem calls6 (hn : args.length = 1) (h : avc Tryd.prog G 19 pc6 (afin Tryd.prog [.tmp 2] R) (frame0 args) σ) : ACalls Tryd.prog G 6 args σ R :=
  acalls' (n := 19) (l := [.tmp 2]) mixed Tryd.func6 (by kernel_rfl) (by kernel_rfl) (by kernel_rfl) (by omega) h
def pc7_l1 : PC := (⟨_, by delta C S a b c d i l m t x; exact rfl⟩ : { p : PC // p = S [b 21 .lss 3 (t 20) (t 19) 3] (.seq (C 21 .skip (.exit 0)) (.seq (.block
 1 (S [m 22 20,x 23 40 18 20,l 24 9 23,a 8 22,a 9 24] (.ops [m 25 4,d 26 (.buildSlice 22 3 #[(0,.const (.int .u8 101)),(1,.const (.int .u8 110)),(2,.const (.int
 .u8 118))]),d 27 (.convert 22 22 (t 26)),c 28 14 #[t 27] #[22],m 29 9,d 30 (.convert 9 22 (t 29)),c 31 14 #[t 30] #[22],m 32 8,d 33 (.convert 3 5 (t 32)),d 34
 (.buildSlice 22 2 #[(0,.const (.int .u8 0)),(1,t 33)]),d 35 (.buildSlice 39 3 #[(0,t 28),(1,t 31),(2,t 34)]),c 36 13 #[t 35] #[39],d 37 (.buildSlice 39 1
 #[(0,t 36)]),d 38 (.call ⟨.builtin .append,#[t 25,t 37],#[39,39]⟩),a 4 38]))) (.ops [b 39 .add 3 (t 20) (i 1) 3,m 20 39]))) }).1
def pc7_l2 : PC := (⟨_, by delta C L S a b c d f i l m s t x; exact rfl⟩ : { p : PC // p = S [b 44 .lss 3 (t 43) (t 42) 3] (.seq (C 44 .skip (.exit 2)) (.seq
 (.block 3 (S [m 45 43,x 46 28 41 43,l 47 45 46,d 11 (.alloc 45),a 10 45,s 45 11 47] (S [m 48 3,f 49 45 11 1,l 50 38 49,f 51 45 11 3,l 52 3 51,c 53 12 #[t 50,t
 52] #[38,3],d 54 (.buildSlice 39 1 #[(0,t 53)]),d 55 (.call ⟨.builtin .append,#[t 48,t 54],#[39,39]⟩),a 3 55] (S [m 56 5,m 57 10,b 58 .add 3 (t 57) (i 3) 3,c
 59 6 #[t 58] #[3],d 60 (.buildSlice 39 1 #[(0,t 59)]),d 61 (.call ⟨.builtin .append,#[t 56,t 60],#[39,39]⟩),a 5 61] (S [m 62 6,f 63 45 11 2,l 64 38 63,l 66 45
 11,f 67 45 11 4,l 68 43 67,L 69 68 43,b 70 .sub 3 (t 69) (i 1) 3,d 72 (.buildSlice 22 1 #[(0,.const (.int .u8 11))]),⟨some 65,.call ⟨.value (.func 15),#[t
 64],#[38]⟩,none,[⟨none,45,t 11,66⟩,⟨none,43,t 67,68⟩]⟩,c 71 16 #[t 66,t 70] #[45,3],d 73 (.buildSlice 39 3 #[(0,t 65),(1,t 71),(2,t 72)]),c 74 13 #[t 73]
 #[39],c 75 14 #[t 74] #[22],d 76 (.buildSlice 39 1 #[(0,t 75)]),d 77 (.call ⟨.builtin .append,#[t 62,t 76],#[39,39]⟩),a 6 77] (.both [[m 78 7,m 79 10,b 80 .add
 3 (t 79) (i 3) 3,f 82 45 11 0,l 83 9 82,⟨some 81,.call ⟨.value (.func 6),#[t 80],#[3]⟩,none,[⟨none,9,t 82,83⟩]⟩,d 84 (.convert 9 22 (t 83)),c 85 14 #[t 84]
 #[22],d 86 (.call ⟨.builtin .append,#[t 81,t 85],#[22,22]⟩),d 87 (.buildSlice 39 1 #[(0,t 86)]),d 88 (.call ⟨.builtin .append,#[t 78,t 87],#[39,39]⟩),a 7
 88],[m 78 7,m 79 10,b 80 .add 3 (t 79) (i 3) 3,f 82 45 11 0,l 83 9 82,d 84 (.convert 9 22 (t 83)),c 81 6 #[t 80] #[3],c 85 14 #[t 84] #[22],d 86 (.call
 ⟨.builtin .append,#[t 81,t 85],#[22,22]⟩),d 87 (.buildSlice 39 1 #[(0,t 86)]),d 88 (.call ⟨.builtin .append,#[t 78,t 87],#[39,39]⟩),a 7 88]])))))) (.ops [b 89
 .add 3 (t 43) (i 1) 3,m 43 89]))) }).1
def pc7_r1 : PC := (⟨_, by delta S a b c d f i l m t; exact rfl⟩ : { p : PC // p = S [d 90 (.buildSlice 22 8 #[(0,.const (.int .u8 0)),(1,.const (.int .u8
 97)),(2,.const (.int .u8 115)),(3,.const (.int .u8 109)),(4,.const (.int .u8 1)),(5,.const (.int .u8 0)),(6,.const (.int .u8 0)),(7,.const (.int .u8 0))]),d 91
 (.convert 22 22 (t 90)),m 92 3,m 96 4,m 100 5,d 104 (.buildSlice 22 3 #[(0,.const (.int .u8 1)),(1,.const (.int .u8 0)),(2,.const (.int .u8 1))]),d 105
 (.buildSlice 39 1 #[(0,t 104)]),d 107 (.buildSlice 22 4 #[(0,.const (.int .u8 1)),(1,.const (.int .u8 127)),(2,.const (.int .u8 0)),(3,.const (.int .u8
 65))]),f 108 30 1 1,l 109 3 108,d 111 (.buildSlice 22 1 #[(0,.const (.int .u8 11))]),d 114 (.buildSlice 22 1 #[(0,.const (.int .u8 1))]),d 115 (.buildSlice 22
 4 #[(0,.const (.int .u8 109)),(1,.const (.int .u8 97)),(2,.const (.int .u8 105)),(3,.const (.int .u8 110))]),d 116 (.convert 22 22 (t 115)),d 118 (.buildSlice
 22 1 #[(0,.const (.int .u8 0))]),f 119 30 1 2,l 120 3 119,b 121 .add 3 (t 120) (i 3) 3,m 125 6,d 129 (.buildSlice 22 4 #[(0,.const (.int .u8 110)),(1,.const
 (.int .u8 97)),(2,.const (.int .u8 109)),(3,.const (.int .u8 101))]),d 130 (.convert 22 22 (t 129)),d 132 (.buildSlice 22 1 #[(0,.const (.int .u8 1))]),m 133
 7,⟨some 93,.call ⟨.value (.func 18),#[t 92],#[39]⟩,none,[⟨none,3,t 108,109⟩,⟨none,3,t 119,120⟩]⟩,d 94 (.buildSlice 39 1 #[(0,t 93)]),⟨some 95,.call ⟨.value
 (.func 17),#[.const (.int .u8 1),t 94],#[5,39]⟩,none,[⟨none,3,t 108,109⟩,⟨none,3,t 119,120⟩]⟩,⟨some 97,.call ⟨.value (.func 18),#[t 96],#[39]⟩,none,[⟨none,3,t
 108,109⟩,⟨none,3,t 119,120⟩]⟩,d 98 (.buildSlice 39 1 #[(0,t 97)]),⟨some 99,.call ⟨.value (.func 17),#[.const (.int .u8 2),t 98],#[5,39]⟩,none,[⟨none,3,t
 108,109⟩,⟨none,3,t 119,120⟩]⟩,⟨some 101,.call ⟨.value (.func 18),#[t 100],#[39]⟩,none,[⟨none,3,t 108,109⟩,⟨none,3,t 119,120⟩]⟩,d 102 (.buildSlice 39 1 #[(0,t
 101)]),⟨some 103,.call ⟨.value (.func 17),#[.const (.int .u8 3),t 102],#[5,39]⟩,none,[⟨none,3,t 108,109⟩,⟨none,3,t 119,120⟩]⟩,⟨some 106,.call ⟨.value (.func
 17),#[.const (.int .u8 5),t 105],#[5,39]⟩,none,[⟨none,3,t 108,109⟩,⟨none,3,t 119,120⟩]⟩,⟨some 110,.call ⟨.value (.func 4),#[t 109],#[3]⟩,none,[⟨none,3,t
 119,120⟩]⟩,d 112 (.buildSlice 39 3 #[(0,t 107),(1,t 110),(2,t 111)]),⟨some 113,.call ⟨.value (.func 17),#[.const (.int .u8 6),t 112],#[5,39]⟩,none,[⟨none,3,t
 119,120⟩]⟩,⟨some 117,.call ⟨.value (.func 14),#[t 116],#[22]⟩,none,[⟨none,3,t 119,120⟩]⟩,c 122 6 #[t 121] #[3],d 123 (.buildSlice 39 4 #[(0,t 114),(1,t
 117),(2,t 118),(3,t 122)]),c 124 17 #[.const (.int .u8 7),t 123] #[5,39],c 126 18 #[t 125] #[39],d 127 (.buildSlice 39 1 #[(0,t 126)]),c 128 17 #[.const (.int
 .u8 10),t 127] #[5,39],c 131 14 #[t 130] #[22],c 134 18 #[t 133] #[39],c 135 14 #[t 134] #[22],d 136 (.buildSlice 39 3 #[(0,t 131),(1,t 132),(2,t 135)]),c 137
 17 #[.const (.int .u8 0),t 136] #[5,39],d 138 (.buildSlice 39 9 #[(0,t 91),(1,t 95),(2,t 99),(3,t 103),(4,t 106),(5,t 113),(6,t 124),(7,t 128),(8,t 137)]),c
 139 13 #[t 138] #[39],a 2 139] .ret }).1
def pc7_r2 : PC := (⟨_, by delta L S d f i l; exact rfl⟩ : { p : PC // p = .seq (S [f 40 30 1 0,l 41 28 40,L 42 41 28,d 43 (.move (i 0))] (.block 2 (.loop
 pc7_l2))) pc7_r1 }).1
def pc7 : PC := (⟨_, by delta A L S a c d i t; exact rfl⟩ : { p : PC // p = S [d 1 (.box 30 (t 0)),A 2 (.const (.slice none 0 0))] (S [c 12 12 #[.const (.slice
 none 0 0),i 2] #[38,3],d 13 (.buildSlice 38 1 #[(0,i 2)]),c 14 12 #[t 13,i 0] #[38,3],d 15 (.buildSlice 38 1 #[(0,i 1)]),c 16 12 #[t 15,i 0] #[38,3],d 17
 (.buildSlice 39 3 #[(0,t 12),(1,t 14),(2,t 16)]),a 3 17] (S [A 4 (.const (.slice none 0 0)),A 5 (.const (.slice none 0 0)),A 6 (.const (.slice none 0 0)),A 7
 (.const (.slice none 0 0))] (.seq (S [d 18 (.buildSlice 40 3 #[(0,.const (.string ⟨#[105,110]⟩)),(1,.const (.string ⟨#[111,117,116]⟩)),(2,.const (.string
 ⟨#[116,114,97,112]⟩))]),L 19 18 40,d 20 (.move (i 0))] (.block 0 (.loop pc7_l1))) pc7_r2))) }).1
theorem calls7 (hn : args.length = 1) (h : avc Tryd.prog G 140 pc7 (afin Tryd.prog [.tmp 2] R) (frame0 args) σ) : ACalls Tryd.prog G 7 args σ R :=
  acalls' (n := 140) (l := [.tmp 2]) mixed Tryd.func7 (by kernel_rfl) (by kernel_rfl) (by kernel_rfl) (by omega) h
def pc8 : PC := (⟨_, by delta S d i s t; exact rfl⟩ : { p : PC // p = S [d 0 (.alloc 30)] (S [d 1 (.build 51 #[(0,i 1),(1,i 1),(2,i 7)]),d 2 (.buildSlice 52 1
 #[(0,t 1)]),d 3 (.buildSlice 43 1 #[(0,t 2)]),d 4 (.build 45 #[(0,.const (.string ⟨#[102]⟩)),(3,i 1),(4,t 3)]),d 5 (.buildSlice 28 1 #[(0,t 4)]),d 6 (.build 30
 #[(1,i 16),(0,t 5)]),s 30 0 6] .ret) }).1
theorem calls8 (hn : args.length = 0) (h : avc Tryd.prog G 7 pc8 (afin Tryd.prog [.cell 0 30] R) (frame0 args) σ) : ACalls Tryd.prog G 8 args σ R :=
  acalls' (n := 7) (l := [.cell 0 30]) mixed Tryd.func8 (by kernel_rfl) (by kernel_rfl) (by kernel_rfl) (by omega) h
def pc9_x : PC := (⟨_, by delta d; exact rfl⟩ : { p : PC // p = .ops [d 2 (.alloc 30),d 3 (.alloc 32)] }).1
def pc9_z : PC := (⟨_, by delta L S a b c d e f i l m n s t w; exact rfl⟩ : { p : PC // p = S [m 6 0,c 7 20 #[t 6] #[22],d 8 (.build 55 #[(0,t 7)]),d 9 (.box 55
 (t 8)),a 4 9] (S [m 10 4,c 11 21 #[t 10] #[53],s 30 2 11] (S [m 12 4,n 13 12,f 14 55 13 0,l 15 22 14,L 16 15 22,b 17 .eql 3 (t 16) (i 0) 3,m 18 17,w 19 (.load
 30 (t 2)) 18 true,w 20 (.call ⟨.value (.func 23),#[t 19],#[30]⟩) 18 true,d 21 (.pick (t 18) (t 20) (.const (.bool false))),m 22 21,w 23 (.load 30 (t 2)) 22
 true,w 24 (.call ⟨.value (.func 24),#[t 23],#[30]⟩) 22 true,d 25 (.pick (t 22) (t 24) (.const (.bool false))),m 26 25,w 27 (.load 30 (t 2)) 26 true,w 28 (.call
 ⟨.value (.func 7),#[t 27],#[30]⟩) 26 true,w 29 (.move (t 0)) 26 true,w 30 (.call ⟨.value (.func 25),#[t 28,t 29],#[22,22]⟩) 26 true,d 31 (.pick (t 26) (t 30)
 (.const (.bool false))),c 32 22 #[t 31,i 2] #[4,32]] (S [l 33 30 2,s 30 2 33,e (.store 32 (t 3) (i 0))] .ret))) }).1
def pc10_l1 : PC := (⟨_, by delta A C L S a b d i l m t x; exact rfl⟩ : { p : PC // p = .seq (S [m 11 5,m 12 0,L 13 12 22,b 14 .lss 3 (t 11) (t 13) 3] (C 14
 .skip (.exit 0))) (.seq (.block 1 (S [m 17 0,m 18 5,x 19 22 17 18,l 20 5 19,m 21 1,m 22 5,x 23 22 21 22,l 24 5 23,b 25 .eql 5 (t 20) (t 24) 5,d 26 (.unOp .not
 4 (t 25))] (C 26 (S [A 4 (.const (.bool false))] .ret) .skip))) (.ops [m 15 5,b 16 .add 3 (t 15) (i 1) 3,a 5 16])) }).1
def pc10_r1 : PC := (⟨_, by delta A S; exact rfl⟩ : { p : PC // p = S [A 4 (.const (.bool true))] .ret }).1
def pc10 : PC := (⟨_, by delta A C L S b i m t; exact rfl⟩ : { p : PC // p = S [A 4 (.const (.bool false))] (.seq (S [m 6 0,L 7 6 22,m 8 1,L 9 8 22,b 10 .neq 3
 (t 7) (t 9) 3] (C 10 (S [A 4 (.const (.bool false))] .ret) .skip)) (.seq (S [A 5 (i 0)] (.block 0 (.loop pc10_l1))) pc10_r1)) }).1
theorem calls10 (hn : args.length = 2) (h : avc Tryd.prog G 27 pc10 (afin Tryd.prog [.tmp 4] R) (frame0 args) σ) : ACalls Tryd.prog G 10 args σ R :=
  acalls' (n := 27) (l := [.tmp 4]) mixed Tryd.func10 (by kernel_rfl) (by kernel_rfl) (by kernel_rfl) (by omega) h
def pc11 : PC := (⟨_, by delta A S a b d f l m t w; exact rfl⟩ : { p : PC // p = S [d 2 (.box 30 (t 0)),d 3 (.box 30 (t 1)),A 4 (.const (.bool false))] (S [f 5
 30 2 1,l 6 3 5,f 7 30 3 1,l 8 3 7,b 9 .eql 3 (t 6) (t 8) 3,m 10 9,w 11 (.fieldAddr 30 (t 2) 2) 10 true,w 12 (.load 3 (t 11)) 10 true,w 13 (.fieldAddr 30 (t 3)
 2) 10 true,w 14 (.load 3 (t 13)) 10 true,w 15 (.binOp .eql 3 (t 12) (t 14) 3) 10 true,d 16 (.pick (t 10) (t 15) (.const (.bool false))),m 17 16,w 18
 (.fieldAddr 30 (t 2) 0) 17 true,w 19 (.load 28 (t 18)) 17 true,w 20 (.fieldAddr 30 (t 3) 0) 17 true,w 21 (.load 28 (t 20)) 17 true,w 22 (.call ⟨.value (.func
 26),#[t 19,t 21],#[28,28]⟩) 17 true,d 23 (.pick (t 17) (t 22) (.const (.bool false))),a 4 23] .ret) }).1
theorem calls11 (hn : args.length = 2) (h : avc Tryd.prog G 24 pc11 (afin Tryd.prog [.tmp 4] R) (frame0 args) σ) : ACalls Tryd.prog G 11 args σ R :=
  acalls' (n := 24) (l := [.tmp 4]) mixed Tryd.func11 (by kernel_rfl) (by kernel_rfl) (by kernel_rfl) (by omega) h
def pc12 : PC := (⟨_, by delta A S a c d m t; exact rfl⟩ : { p : PC // p = S [A 4 (.const (.slice none 0 0))] (S [d 5 (.buildSlice 22 1 #[(0,.const (.int .u8
 96))]),m 6 0,c 7 27 #[t 6] #[38],m 8 1,c 9 28 #[t 8] #[3],d 10 (.buildSlice 39 3 #[(0,t 5),(1,t 7),(2,t 9)]),c 11 13 #[t 10] #[39],a 4 11] .ret) }).1
theorem calls12 (hn : args.length = 2) (h : avc Tryd.prog G 12 pc12 (afin Tryd.prog [.tmp 4] R) (frame0 args) σ) : ACalls Tryd.prog G 12 args σ R :=
  acalls' (n := 12) (l := [.tmp 4]) mixed Tryd.func12 (by kernel_rfl) (by kernel_rfl) (by kernel_rfl) (by omega) h
def pc13_l1 : PC := (⟨_, by delta C L S a b d e i l m t x; exact rfl⟩ : { p : PC // p = S [b 12 .lss 3 (t 11) (t 10) 3] (.seq (C 12 .skip (.exit 0)) (.seq
 (.block 1 (S [x 13 39 9 11,l 14 22 13,a 5 14] (S [m 15 3,m 16 5,L 17 16 22,b 18 .add 3 (t 15) (t 17) 3,a 3 18] (S [m 19 3,b 20 .lss 3 (t 19) (i 0) 3] (C 20
 (.ops [d 21 (.makeInterface 9 (.const (.string ⟨#[108,101,110,32,111,117,116,32,111,102,32,114,97,110,103,101]⟩))),e (.panic (t 21))]) .skip))))) (.ops [b 22
 .add 3 (t 11) (i 1) 3,m 11 22]))) }).1
def pc13_l2 : PC := (⟨_, by delta C S a b d i l m t x; exact rfl⟩ : { p : PC // p = S [b 28 .lss 3 (t 27) (t 26) 3] (.seq (C 28 .skip (.exit 2)) (.seq (.block 3
 (S [x 29 39 25 27,l 30 22 29,a 8 30] (.ops [m 31 6,m 32 8,d 33 (.call ⟨.builtin .append,#[t 31,t 32],#[22,22]⟩),a 6 33]))) (.ops [b 34 .add 3 (t 27) (i 1) 3,m
 27 34]))) }).1
def pc13_r1 : PC := (⟨_, by delta S a m; exact rfl⟩ : { p : PC // p = S [m 35 6,a 2 35] .ret }).1
def pc13_r2 : PC := (⟨_, by delta L S a c d i m t; exact rfl⟩ : { p : PC // p = S [m 23 3,c 24 29 #[.const (.slice none 0 0),t 23] #[22,3],a 6 24] (.seq (S [m
 25 0,L 26 25 39,d 27 (.move (i 0))] (.block 2 (.loop pc13_l2))) pc13_r1) }).1
def pc13 : PC := (⟨_, by delta A L S d i m; exact rfl⟩ : { p : PC // p = S [A 2 (.const (.slice none 0 0))] (S [A 3 (i 0)] (.seq (S [m 9 0,L 10 9 39,d 11 (.move
 (i 0))] (.block 0 (.loop pc13_l1))) pc13_r2)) }).1
theorem calls13 (hn : args.length = 1) (h : avc Tryd.prog G 36 pc13 (afin Tryd.prog [.tmp 2] R) (frame0 args) σ) : ACalls Tryd.prog G 13 args σ R :=
  acalls' (n := 36) (l := [.tmp 2]) mixed Tryd.func13 (by kernel_rfl) (by kernel_rfl) (by kernel_rfl) (by omega) h
def pc14 : PC := (⟨_, by delta A L S a c d m t; exact rfl⟩ : { p : PC // p = S [A 2 (.const (.slice none 0 0))] (S [m 3 0,L 4 3 22,c 5 6 #[t 4] #[3],m 6 0,d 7
 (.call ⟨.builtin .append,#[t 5,t 6],#[22,22]⟩),a 2 7] .ret) }).1
theorem calls14 (hn : args.length = 1) (h : avc Tryd.prog G 8 pc14 (afin Tryd.prog [.tmp 2] R) (frame0 args) σ) : ACalls Tryd.prog G 14 args σ R :=
  acalls' (n := 8) (l := [.tmp 2]) mixed Tryd.func14 (by kernel_rfl) (by kernel_rfl) (by kernel_rfl) (by omega) h
def pc15_l1 : PC := (⟨_, by delta C L S a b d i m t w; exact rfl⟩ : { p : PC // p = .seq (S [m 8 4,m 9 0,L 10 9 38,b 11 .lss 3 (t 8) (t 10) 3,m 12 11,w 13
 (.move (t 0)) 12 true,w 14 (.move (t 4)) 12 true,w 15 (.indexAddr 38 (t 13) (t 14)) 12 true,w 16 (.load 3 (t 15)) 12 true,w 17 (.move (t 0)) 12 true,w 18
 (.indexAddr 38 (t 17) (i 0)) 12 true,w 19 (.load 3 (t 18)) 12 true,w 20 (.binOp .eql 3 (t 16) (t 19) 3) 12 true,d 21 (.pick (t 12) (t 20) (.const (.bool
 false)))] (C 21 .skip (.exit 2))) (.block 3 (.ops [m 22 4,b 23 .add 3 (t 22) (i 1) 3,a 4 23])) }).1
def pc15_r1 : PC := (⟨_, by delta a b c d i l m t; exact rfl⟩ : { p : PC // p = .seq (.both [[m 24 3,m 25 4,m 27 0,d 28 (.indexAddr 38 (t 27) (i 0)),l 29 3 28,b
 30 .sub 3 (i 128) (t 29) 3,⟨some 26,.call ⟨.value (.func 6),#[t 25],#[3]⟩,none,[⟨none,3,t 28,29⟩]⟩,d 31 (.convert 3 5 (t 30)),d 32 (.buildSlice 22 1 #[(0,t
 31)]),d 33 (.call ⟨.builtin .append,#[t 26,t 32],#[22,22]⟩),d 34 (.buildSlice 39 1 #[(0,t 33)]),d 35 (.call ⟨.builtin .append,#[t 24,t 34],#[39,39]⟩),a 3
 35],[m 24 3,m 25 4,m 27 0,d 28 (.indexAddr 38 (t 27) (i 0)),l 29 3 28,b 30 .sub 3 (i 128) (t 29) 3,d 31 (.convert 3 5 (t 30)),d 32 (.buildSlice 22 1 #[(0,t
 31)]),c 26 6 #[t 25] #[3],d 33 (.call ⟨.builtin .append,#[t 26,t 32],#[22,22]⟩),d 34 (.buildSlice 39 1 #[(0,t 33)]),d 35 (.call ⟨.builtin .append,#[t 24,t
 34],#[39,39]⟩),a 3 35]]) (.ops [m 36 0,m 37 4,d 38 (.slice 38 (t 36) (some (t 37)) none none),a 0 38]) }).1
def pc15_l2 : PC := (⟨_, by delta A C L S b i m t; exact rfl⟩ : { p : PC // p = .seq (S [m 5 0,L 6 5 38,b 7 .gtr 3 (t 6) (i 0) 3] (C 7 .skip (.exit 0))) (.block
 1 (S [A 4 (i 1)] (.seq (.block 2 (.loop pc15_l1)) pc15_r1))) }).1
def pc15_r2 : PC := (⟨_, by delta S a c m t; exact rfl⟩ : { p : PC // p = S [m 39 3,c 40 18 #[t 39] #[39],a 2 40] .ret }).1
def pc15 : PC := (⟨_, by delta A S; exact rfl⟩ : { p : PC // p = S [A 2 (.const (.slice none 0 0))] (S [A 3 (.const (.slice none 0 0))] (.seq (.block 0 (.loop
 pc15_l2)) pc15_r2)) }).1
theorem calls15 (hn : args.length = 1) (h : avc Tryd.prog G 41 pc15 (afin Tryd.prog [.tmp 2] R) (frame0 args) σ) : ACalls Tryd.prog G 15 args σ R :=
  acalls' (n := 41) (l := [.tmp 2]) mixed Tryd.func15 (by kernel_rfl) (by kernel_rfl) (by kernel_rfl) (by omega) h
def pc16_l1 : PC := (⟨_, by delta C S a b c d f i l m s t w x; exact rfl⟩ : { p : PC // p = S [b 14 .lss 3 (t 13) (t 12) 3] (.seq (C 14 .skip (.exit 0)) (.seq
 (.block 1 (S [x 15 52 11 13,l 16 51 15,d 6 (.alloc 51),s 51 6 16] (.seq (S [f 17 51 6 0,l 18 3 17] (.block 2 (.seq (S [b 20 .eql 3 (t 18) (i 11) 3,a 19 20] (C
 19 .skip (S [b 21 .eql 3 (t 18) (i 12) 3,a 19 21] (C 19 .skip (.ops [b 22 .eql 3 (t 18) (i 13) 3,a 19 22]))))) (C 19 (S [m 23 4,f 24 51 6 0,l 25 3 24,b 26 .add
 3 (i 2) (t 25) 3,b 27 .sub 3 (t 26) (i 11) 3,d 28 (.convert 3 5 (t 27)),d 29 (.buildSlice 22 2 #[(0,t 28),(1,.const (.int .u8 64))]),d 30 (.call ⟨.builtin
 .append,#[t 23,t 29],#[22,22]⟩),a 4 30] (S [m 31 4,l 32 45 2,f 33 51 6 3,l 34 3 33,c 35 16 #[t 32,t 34] #[45,3],d 36 (.call ⟨.builtin .append,#[t 31,t
 35],#[22,22]⟩),a 4 36] (.seq (S [f 37 51 6 0,l 38 3 37,b 39 .eql 3 (t 38) (i 13) 3,m 40 39,w 41 (.fieldAddr 51 (t 6) 4) 40 true,w 42 (.load 3 (t 41)) 40 true,w
 43 (.binOp .geq 3 (t 42) (i 0) 3) 40 true,d 44 (.pick (t 40) (t 43) (.const (.bool false)))] (C 44 (.ops [m 45 4,d 46 (.buildSlice 22 1 #[(0,.const (.int .u8
 5))]),l 48 45 2,f 49 51 6 4,l 50 3 49,⟨some 47,.call ⟨.builtin .append,#[t 45,t 46],#[22,22]⟩,none,[⟨none,45,t 2,48⟩,⟨none,3,t 49,50⟩]⟩,c 51 16 #[t 48,t 50]
 #[45,3],d 52 (.call ⟨.builtin .append,#[t 47,t 51],#[22,22]⟩),a 4 52]) .skip)) (S [m 53 4,d 54 (.buildSlice 22 1 #[(0,.const (.int .u8 11))]),d 55 (.call
 ⟨.builtin .append,#[t 53,t 54],#[22,22]⟩),a 4 55] (.exit 1))))) .skip)))) (S [m 56 4,l 57 51 6,c 58 30 #[t 57] #[51],d 59 (.buildSlice 22 1 #[(0,t 58)]),d 60
 (.call ⟨.builtin .append,#[t 56,t 59],#[22,22]⟩),a 4 60] (S [f 61 51 6 0,l 62 3 61] (.block 3 (S [b 64 .eql 3 (t 62) (i 1) 3,a 63 64] (C 63 (.ops [m 65 4,f 66
 51 6 2,l 67 3 66,c 68 4 #[t 67] #[3],d 69 (.call ⟨.builtin .append,#[t 65,t 68],#[22,22]⟩),a 4 69]) (.seq (S [b 71 .eql 3 (t 62) (i 2) 3,a 70 71] (C 70 .skip
 (S [b 72 .eql 3 (t 62) (i 3) 3,a 70 72] (C 70 .skip (S [b 73 .eql 3 (t 62) (i 10) 3,a 70 73] (C 70 .skip (S [b 74 .eql 3 (t 62) (i 14) 3,a 70 74] (C 70 .skip
 (.ops [b 75 .eql 3 (t 62) (i 15) 3,a 70 75]))))))))) (C 70 (.ops [m 76 4,f 77 51 6 2,l 78 3 77,c 79 6 #[t 78] #[3],d 80 (.call ⟨.builtin .append,#[t 76,t
 79],#[22,22]⟩),a 4 80]) (.seq (S [b 82 .eql 3 (t 62) (i 8) 3,a 81 82] (C 81 .skip (.ops [b 83 .eql 3 (t 62) (i 9) 3,a 81 83]))) (C 81 (.ops [m 84 4,d 85
 (.buildSlice 22 2 #[(0,.const (.int .u8 0)),(1,.const (.int .u8 0))]),d 86 (.call ⟨.builtin .append,#[t 84,t 85],#[22,22]⟩),a 4 86]) .skip)))))))))))) (.ops [b
 87 .add 3 (t 13) (i 1) 3,m 13 87]))) }).1
def pc16_r1 : PC := (⟨_, by delta S a m; exact rfl⟩ : { p : PC // p = S [m 88 4,a 4 88] .ret }).1
def pc16 : PC := (⟨_, by delta A L S d f i l m t x; exact rfl⟩ : { p : PC // p = S [d 2 (.box 45 (t 0)),A 4 (.const (.slice none 0 0))] (.seq (S [f 7 45 2 4,l 8
 43 7,m 9 1,x 10 43 8 9,l 11 52 10,L 12 11 52,d 13 (.move (i 0))] (.block 0 (.loop pc16_l1))) pc16_r1) }).1
theorem calls16 (hn : args.length = 2) (h : avc Tryd.prog G 89 pc16 (afin Tryd.prog [.tmp 4] R) (frame0 args) σ) : ACalls Tryd.prog G 16 args σ R :=
  acalls' (n := 89) (l := [.tmp 4]) mixed Tryd.func16 (by kernel_rfl) (by kernel_rfl) (by kernel_rfl) (by omega) h
def pc17 : PC := (⟨_, by delta A S a c d m t; exact rfl⟩ : { p : PC // p = S [A 4 (.const (.slice none 0 0))] (S [m 5 0,d 6 (.buildSlice 22 1 #[(0,t 5)]),m 7
 1,c 8 13 #[t 7] #[39],c 9 14 #[t 8] #[22],d 10 (.call ⟨.builtin .append,#[t 6,t 9],#[22,22]⟩),a 4 10] .ret) }).1
theorem calls17 (hn : args.length = 2) (h : avc Tryd.prog G 11 pc17 (afin Tryd.prog [.tmp 4] R) (frame0 args) σ) : ACalls Tryd.prog G 17 args σ R :=
  acalls' (n := 11) (l := [.tmp 4]) mixed Tryd.func17 (by kernel_rfl) (by kernel_rfl) (by kernel_rfl) (by omega) h
def pc18 : PC := (⟨_, by delta A L S a c d m t; exact rfl⟩ : { p : PC // p = S [A 2 (.const (.slice none 0 0))] (S [m 3 0,L 4 3 39,c 5 6 #[t 4] #[3],m 6 0,c 7
 13 #[t 6] #[39],d 8 (.call ⟨.builtin .append,#[t 5,t 7],#[22,22]⟩),a 2 8] .ret) }).1
theorem calls18 (hn : args.length = 1) (h : avc Tryd.prog G 9 pc18 (afin Tryd.prog [.tmp 2] R) (frame0 args) σ) : ACalls Tryd.prog G 18 args σ R :=
  acalls' (n := 9) (l := [.tmp 2]) mixed Tryd.func18 (by kernel_rfl) (by kernel_rfl) (by kernel_rfl) (by omega) h
def pc19_h : PC := (⟨_, by delta C S b d m s t; exact rfl⟩ : { p : PC // p = S [m 4 2,b 5 .neq 20 (t 4) (.const .nilIface) 20] (C 5 (.ops [d 6 (.build 30 #[]),m
 7 2,d 8 (.typeAssert (t 7) 20 32 false),s 30 0 6,s 32 1 8]) .skip) }).1
def pc20 : PC := (⟨_, by delta A C S a b d m t; exact rfl⟩ : { p : PC // p = S [A 2 (.const (.slice none 0 0))] (.seq (S [m 3 0,b 4 .eql 22 (t 3) (.const
 (.slice none 0 0)) 22] (C 4 (S [A 2 (.const (.slice none 0 0))] .ret) .skip)) (S [d 5 (.buildSlice 22 0 #[]),m 6 0,d 7 (.call ⟨.builtin .append,#[t 5,t
 6],#[22,22]⟩),a 2 7] .ret)) }).1
theorem calls20 (hn : args.length = 1) (h : avc Tryd.prog G 8 pc20 (afin Tryd.prog [.tmp 2] R) (frame0 args) σ) : ACalls Tryd.prog G 20 args σ R :=
  acalls' (n := 8) (l := [.tmp 2]) mixed Tryd.func20 (by kernel_rfl) (by kernel_rfl) (by kernel_rfl) (by omega) h
def pc21_l1 : PC := (⟨_, by delta C L S a b c i l m t x; exact rfl⟩ : { p : PC // p = S [b 19 .lss 3 (t 18) (t 17) 3] (.seq (C 19 .skip (.exit 0)) (.seq (.block
 1 (S [x 20 40 16 18,l 21 9 20,a 4 21] (.ops [m 22 0,m 23 4,L 24 23 9,b 25 .add 3 (i 5) (t 24) 3,b 26 .add 3 (t 25) (i 2) 3,c 27 31 #[t 22,t 26] #[53,3]])))
 (.ops [b 28 .add 3 (t 18) (i 1) 3,m 18 28]))) }).1
def pc21_l2 : PC := (⟨_, by delta C S b c i m t; exact rfl⟩ : { p : PC // p = S [b 34 .lss 3 (t 33) (t 32) 3] (.seq (C 34 .skip (.exit 2)) (.seq (.block 3 (.ops
 [m 35 0,c 36 34 #[t 35,.const (.bool false)] #[53,4]])) (.ops [b 37 .add 3 (t 33) (i 1) 3,m 33 37]))) }).1
def pc21_l3 : PC := (⟨_, by delta C S a b c f i l m t x; exact rfl⟩ : { p : PC // p = S [b 72 .lss 3 (t 71) (t 70) 3] (.seq (C 72 .skip (.exit 4)) (.seq (.block
 5 (S [m 73 71,a 5 73] (.ops [m 74 0,f 75 30 2 0,l 76 28 75,m 77 5,x 78 28 76 77,c 79 35 #[t 74,t 78] #[53,66]]))) (.ops [b 80 .add 3 (t 71) (i 1) 3,m 71 80])))
 }).1
def pc21_l4 : PC := (⟨_, by delta C S a b c f i l m s t x; exact rfl⟩ : { p : PC // p = S [b 98 .lss 3 (t 97) (t 96) 3] (.seq (C 98 .skip (.exit 6)) (.seq
 (.block 7 (S [m 99 97,a 6 99] (S [m 100 0,c 101 34 #[t 100,.const (.bool false)] #[53,4]] (.ops [f 102 30 2 0,l 103 28 102,m 104 6,m 105 0,m 106 0,⟨some
 107,.call ⟨.value (.func 34),#[t 106,.const (.bool false)],#[53,4]⟩,none,[⟨none,28,t 102,103⟩]⟩,⟨some 108,.call ⟨.value (.func 31),#[t 105,t
 107],#[53,3]⟩,none,[⟨none,28,t 102,103⟩]⟩,⟨some 109,.convert 22 9 (t 108),none,[⟨none,28,t 102,103⟩]⟩,x 110 28 103 104,f 111 45 110 0,s 9 111 109])))) (.ops [b
 112 .add 3 (t 97) (i 1) 3,m 97 112]))) }).1
def pc21_r1 : PC := (⟨_, by delta S l s; exact rfl⟩ : { p : PC // p = S [l 113 30 2,s 30 2 113] .ret }).1
def pc21_r2 : PC := (⟨_, by delta L S b c d f i l m t; exact rfl⟩ : { p : PC // p = S [m 81 0,c 82 33 #[t 81,.const (.int .u8 0)] #[53,5]] (S [m 83 0,c 84 31
 #[t 83,i 6] #[53,3]] (S [m 85 0,c 86 34 #[t 85,.const (.bool false)] #[53,4]] (S [m 87 0,f 89 30 2 0,l 90 28 89,L 91 90 28,⟨some 88,.call ⟨.value (.func
 34),#[t 87,.const (.bool false)],#[53,4]⟩,none,[⟨none,28,t 89,90⟩]⟩,b 92 .eql 3 (t 88) (t 91) 3,c 93 22 #[t 92,i 2] #[4,32]] (.seq (S [f 94 30 2 0,l 95 28 94,L
 96 95 28,d 97 (.move (i 0))] (.block 6 (.loop pc21_l4))) pc21_r1)))) }).1
def pc21_r3 : PC := (⟨_, by delta L S b c d f i l m s t; exact rfl⟩ : { p : PC // p = S [m 38 0,c 39 33 #[t 38,.const (.int .u8 5)] #[53,5]] (S [m 40 0,c 41 31
 #[t 40,i 3] #[53,3]] (S [m 42 0,c 43 33 #[t 42,.const (.int .u8 6)] #[53,5]] (S [m 44 0,c 45 31 #[t 44,i 4] #[53,3]] (S [m 46 0,c 47 34 #[t 46,.const (.bool
 true)] #[53,4],f 48 30 2 1,s 3 48 47] (S [m 49 0,c 50 31 #[t 49,i 1] #[53,3]] (S [m 51 0,c 52 33 #[t 51,.const (.int .u8 7)] #[53,5]] (S [m 53 0,c 54 31 #[t
 53,i 7] #[53,3]] (S [m 55 0,c 56 34 #[t 55,.const (.bool false)] #[53,4],b 57 .sub 3 (t 56) (i 3) 3,f 58 30 2 2,s 3 58 57] (S [m 59 0,c 60 33 #[t 59,.const
 (.int .u8 10)] #[53,5]] (S [m 61 0,f 63 30 2 0,l 64 28 63,L 65 64 28,⟨some 62,.call ⟨.value (.func 34),#[t 61,.const (.bool false)],#[53,4]⟩,none,[⟨none,28,t
 63,64⟩]⟩,b 66 .eql 3 (t 62) (t 65) 3,c 67 22 #[t 66,i 2] #[4,32]] (.seq (S [f 68 30 2 0,l 69 28 68,L 70 69 28,d 71 (.move (i 0))] (.block 4 (.loop pc21_l3)))
 pc21_r2))))))))))) }).1
def pc21_r4 : PC := (⟨_, by delta S c d i m t; exact rfl⟩ : { p : PC // p = S [m 29 0,c 30 33 #[t 29,.const (.int .u8 3)] #[53,5]] (.seq (S [m 31 0,c 32 34 #[t
 31,.const (.bool false)] #[53,4],d 33 (.move (i 0))] (.block 2 (.loop pc21_l2))) pc21_r3) }).1
def pc21 : PC := (⟨_, by delta L S c d f i m s t; exact rfl⟩ : { p : PC // p = S [d 2 (.alloc 30)] (S [m 7 0,c 8 31 #[t 7,i 8] #[53,3]] (S [m 9 0,c 10 32 #[t 9]
 #[53],f 11 30 2 0,s 28 11 10] (S [m 12 0,c 13 33 #[t 12,.const (.int .u8 2)] #[53,5]] (S [m 14 0,c 15 31 #[t 14,i 1] #[53,3]] (.seq (S [d 16 (.buildSlice 40 3
 #[(0,.const (.string ⟨#[105,110]⟩)),(1,.const (.string ⟨#[111,117,116]⟩)),(2,.const (.string ⟨#[116,114,97,112]⟩))]),L 17 16 40,d 18 (.move (i 0))] (.block 0
 (.loop pc21_l1))) pc21_r4))))) }).1
theorem calls21 (hn : args.length = 1) (h : avc Tryd.prog G 114 pc21 (afin Tryd.prog [.cell 2 30] R) (frame0 args) σ) : ACalls Tryd.prog G 21 args σ R :=
  acalls' (n := 114) (l := [.cell 2 30]) mixed Tryd.func21 (by kernel_rfl) (by kernel_rfl) (by kernel_rfl) (by omega) h
def pc22 : PC := (⟨_, by delta C S d e m t; exact rfl⟩ : { p : PC // p = S [m 4 0,d 5 (.unOp .not 4 (t 4))] (C 5 (.ops [m 6 1,d 7 (.makeInterface 32 (t 6)),e
 (.panic (t 7))]) .skip) }).1
theorem calls22 (hn : args.length = 2) (h : avc Tryd.prog G 8 pc22 (afin Tryd.prog [] R) (frame0 args) σ) : ACalls Tryd.prog G 22 args σ R :=
  acalls' (n := 8) (l := []) mixed Tryd.func22 (by kernel_rfl) (by kernel_rfl) (by kernel_rfl) (by omega) h
def pc23 : PC := (⟨_, by delta A S a c d e f l t; exact rfl⟩ : { p : PC // p = S [d 1 (.box 30 (t 0)),A 2 (.const (.bool false))] (S [d 3 (.alloc 26),e (.store
 26 (t 3) (.func 36))] (S [f 4 30 1 0,l 5 28 4,d 6 (.makeFunc (.func 38) #[] #[t 3]),c 7 37 #[t 5,t 6] #[28,69],d 8 (.unOp .not 4 (t 7)),a 2 8] .ret)) }).1
theorem calls23 (hn : args.length = 1) (h : avc Tryd.prog G 9 pc23 (afin Tryd.prog [.tmp 2] R) (frame0 args) σ) : ACalls Tryd.prog G 23 args σ R :=
  acalls' (n := 9) (l := [.tmp 2]) mixed Tryd.func23 (by kernel_rfl) (by kernel_rfl) (by kernel_rfl) (by omega) h
def pc24 : PC := (⟨_, by delta A S a b d e f i l m t w; exact rfl⟩ : { p : PC // p = S [d 1 (.box 30 (t 0)),A 2 (.const (.bool false))] (S [d 3 (.alloc 70),e
 (.store 70 (t 3) (.func 40))] (S [f 4 30 1 2,l 5 3 4,b 6 .geq 3 (t 5) (i (-3)) 3,m 7 6,w 8 (.fieldAddr 30 (t 1) 0) 7 true,w 9 (.load 28 (t 8)) 7 true,w 10
 (.makeFunc (.func 41) #[] #[t 3]) 7 true,w 11 (.call ⟨.value (.func 37),#[t 9,t 10],#[28,69]⟩) 7 true,w 12 (.unOp .not 4 (t 11)) 7 true,d 13 (.pick (t 7) (t
 12) (.const (.bool false))),a 2 13] .ret)) }).1
theorem calls24 (hn : args.length = 1) (h : avc Tryd.prog G 14 pc24 (afin Tryd.prog [.tmp 2] R) (frame0 args) σ) : ACalls Tryd.prog G 24 args σ R :=
  acalls' (n := 14) (l := [.tmp 2]) mixed Tryd.func24 (by kernel_rfl) (by kernel_rfl) (by kernel_rfl) (by omega) h
def pc25 : PC := (⟨_, by delta A S a b d m t; exact rfl⟩ : { p : PC // p = S [A 4 (.const (.bool false))] (S [m 5 0,d 6 (.convert 22 9 (t 5)),m 7 1,d 8
 (.convert 22 9 (t 7)),b 9 .eql 9 (t 6) (t 8) 9,a 4 9] .ret) }).1
theorem calls25 (hn : args.length = 2) (h : avc Tryd.prog G 10 pc25 (afin Tryd.prog [.tmp 4] R) (frame0 args) σ) : ACalls Tryd.prog G 25 args σ R :=
  acalls' (n := 10) (l := [.tmp 4]) mixed Tryd.func25 (by kernel_rfl) (by kernel_rfl) (by kernel_rfl) (by omega) h
def pc26_l1 : PC := (⟨_, by delta A C L S a b c d i l m t x; exact rfl⟩ : { p : PC // p = .seq (S [m 11 5,m 12 0,L 13 12 28,b 14 .lss 3 (t 11) (t 13) 3] (C 14
 .skip (.exit 0))) (.seq (.block 1 (S [m 17 0,m 18 5,x 19 28 17 18,l 20 45 19,m 21 1,m 22 5,x 23 28 21 22,l 24 45 23,c 25 45 #[t 20,t 24] #[45,45],d 26 (.unOp
 .not 4 (t 25))] (C 26 (S [A 4 (.const (.bool false))] .ret) .skip))) (.ops [m 15 5,b 16 .add 3 (t 15) (i 1) 3,a 5 16])) }).1
def pc26_r1 : PC := (⟨_, by delta A S; exact rfl⟩ : { p : PC // p = S [A 4 (.const (.bool true))] .ret }).1
def pc26 : PC := (⟨_, by delta A C L S b i m t; exact rfl⟩ : { p : PC // p = S [A 4 (.const (.bool false))] (.seq (S [m 6 0,L 7 6 28,m 8 1,L 9 8 28,b 10 .neq 3
 (t 7) (t 9) 3] (C 10 (S [A 4 (.const (.bool false))] .ret) .skip)) (.seq (S [A 5 (i 0)] (.block 0 (.loop pc26_l1))) pc26_r1)) }).1
theorem calls26 (hn : args.length = 2) (h : avc Tryd.prog G 27 pc26 (afin Tryd.prog [.tmp 4] R) (frame0 args) σ) : ACalls Tryd.prog G 26 args σ R :=
  acalls' (n := 27) (l := [.tmp 4]) mixed Tryd.func26 (by kernel_rfl) (by kernel_rfl) (by kernel_rfl) (by omega) h
def pc27_l1 : PC := (⟨_, by delta C S a b d i l m t x; exact rfl⟩ : { p : PC // p = S [b 12 .lss 3 (t 11) (t 10) 3] (.seq (C 12 .skip (.exit 0)) (.seq (.block 1
 (S [x 13 38 9 11,l 14 3 13,a 5 14] (.ops [m 15 3,m 16 5,b 17 .sub 3 (i 128) (t 16) 3,d 18 (.convert 3 5 (t 17)),d 19 (.buildSlice 22 1 #[(0,t 18)]),d 20 (.call
 ⟨.builtin .append,#[t 15,t 19],#[22,22]⟩),a 3 20]))) (.ops [b 21 .add 3 (t 11) (i 1) 3,m 11 21]))) }).1
def pc27_r1 : PC := (⟨_, by delta S a m; exact rfl⟩ : { p : PC // p = S [m 22 3,a 2 22] .ret }).1
def pc27 : PC := (⟨_, by delta A L S a c d i m t; exact rfl⟩ : { p : PC // p = S [A 2 (.const (.slice none 0 0))] (S [m 6 0,L 7 6 38,c 8 6 #[t 7] #[3],a 3 8]
 (.seq (S [m 9 0,L 10 9 38,d 11 (.move (i 0))] (.block 0 (.loop pc27_l1))) pc27_r1)) }).1
theorem calls27 (hn : args.length = 1) (h : avc Tryd.prog G 23 pc27 (afin Tryd.prog [.tmp 2] R) (frame0 args) σ) : ACalls Tryd.prog G 27 args σ R :=
  acalls' (n := 23) (l := [.tmp 2]) mixed Tryd.func27 (by kernel_rfl) (by kernel_rfl) (by kernel_rfl) (by omega) h
def pc28 : PC := (⟨_, by delta A C S a b c d i m t; exact rfl⟩ : { p : PC // p = S [A 2 (.const (.slice none 0 0))] (.seq (S [m 3 0,b 4 .eql 3 (t 3) (i 0) 3] (C
 4 (S [c 5 27 #[.const (.slice none 0 0)] #[38],a 2 5] .ret) .skip)) (S [m 6 0,d 7 (.buildSlice 38 1 #[(0,t 6)]),c 8 27 #[t 7] #[38],a 2 8] .ret)) }).1
theorem calls28 (hn : args.length = 1) (h : avc Tryd.prog G 9 pc28 (afin Tryd.prog [.tmp 2] R) (frame0 args) σ) : ACalls Tryd.prog G 28 args σ R :=
  acalls' (n := 9) (l := [.tmp 2]) mixed Tryd.func28 (by kernel_rfl) (by kernel_rfl) (by kernel_rfl) (by omega) h
def pc29 : PC := (⟨_, by delta A C L S a b d e i m t; exact rfl⟩ : { p : PC // p = S [A 4 (.const (.slice none 0 0))] (.seq (S [m 5 1,b 6 .lss 3 (t 5) (i 0) 3]
 (C 6 (.ops [d 7 (.makeInterface 9 (.const (.string ⟨#[99,97,110,110,111,116,32,98,101,32,110,101,103,97,116,105,118,101]⟩))),e (.panic (t 7))]) .skip)) (.seq
 (S [m 8 1,m 9 0,d 10 (.call ⟨.builtin .cap,#[t 9],#[22]⟩),m 11 0,L 12 11 22,b 13 .sub 3 (t 10) (t 12) 3,b 14 .sub 3 (t 8) (t 13) 3,a 1 14] (S [m 15 1,b 16 .gtr
 3 (t 15) (i 0) 3] (C 16 (.ops [m 17 0,m 18 0,d 19 (.call ⟨.builtin .cap,#[t 18],#[22]⟩),d 20 (.slice 22 (t 17) none (some (t 19)) none),m 21 1,d 22 (.call
 ⟨.builtin .append,#[t 20,t 21],#[22,3]⟩),m 23 0,L 24 23 22,d 25 (.slice 22 (t 22) none (some (t 24)) none),a 0 25]) .skip))) (S [m 26 0,a 4 26] .ret))) }).1
theorem calls29 (hn : args.length = 2) (h : avc Tryd.prog G 27 pc29 (afin Tryd.prog [.tmp 4] R) (frame0 args) σ) : ACalls Tryd.prog G 29 args σ R :=
  acalls' (n := 27) (l := [.tmp 4]) mixed Tryd.func29 (by kernel_rfl) (by kernel_rfl) (by kernel_rfl) (by omega) h
def pc30_l1 : PC := (⟨_, by delta C S a b d f i l m s t w; exact rfl⟩ : { p : PC // p = S [d 41 (.next (t 40) false),d 42 (.extract (t 41) 0)] (.seq (C 42 .skip
 (.exit 2)) (.block 3 (S [d 43 (.entry (t 40)),d 44 (.extract (t 43) 0),d 45 (.extract (t 43) 1),d 7 (.alloc 51),a 6 44,s 51 7 45] (S [f 46 51 7 0,l 47 3 46,f
 48 51 1 0,l 49 3 48,b 50 .eql 3 (t 47) (t 49) 3,m 51 50,w 52 (.fieldAddr 51 (t 7) 2) 51 true,w 53 (.load 3 (t 52)) 51 true,w 54 (.move (t 3)) 51 true,w 55
 (.binOp .eql 3 (t 53) (t 54) 3) 51 true,d 56 (.pick (t 51) (t 55) (.const (.bool false))),m 57 56,w 58 (.fieldAddr 51 (t 7) 1) 57 true,w 59 (.load 3 (t 58)) 57
 true,w 60 (.binOp .eql 3 (t 59) (i 0) 3) 57 true,w 61 (.move (t 60)) 57 true,w 62 (.fieldAddr 51 (t 7) 1) 61 false,w 63 (.load 3 (t 62)) 61 false,w 64
 (.fieldAddr 51 (t 1) 1) 61 false,w 65 (.load 3 (t 64)) 61 false,w 66 (.binOp .eql 3 (t 63) (t 65) 3) 61 false,w 67 (.pick (t 61) (.const (.bool true)) (t 66))
 57 true,d 68 (.pick (t 57) (t 67) (.const (.bool false)))] (C 68 (S [m 69 6,a 2 69] .ret) .skip))))) }).1
def pc30_r1 : PC := (⟨_, by delta b i m t; exact rfl⟩ : { p : PC // p = .ops [b 70 .add 3 (t 35) (i 1) 3,m 35 70] }).1
def pc30_l2 : PC := (⟨_, by delta C S a b d l m t x; exact rfl⟩ : { p : PC // p = S [b 36 .lss 3 (t 35) (t 34) 3] (.seq (C 36 .skip (.exit 0)) (.seq (.block 1
 (S [x 37 79 33 35,l 38 78 37,a 5 38] (S [m 39 5,d 40 (.range 78 (t 39))] (.block 2 (.loop pc30_l1))))) pc30_r1)) }).1
def pc30_r2 : PC := (⟨_, by delta A S; exact rfl⟩ : { p : PC // p = S [A 2 (.const (.int .u8 0))] .ret }).1
def pc30 : PC := (⟨_, by delta A C L S a b d f i l m t w; exact rfl⟩ : { p : PC // p = S [d 1 (.box 51 (t 0)),A 2 (.const (.int .u8 0))] (.seq (S [f 8 51 1 0,l
 9 3 8,b 10 .eql 3 (t 9) (i 4) 3] (C 10 (S [f 11 51 1 1,l 12 3 11,b 13 .sub 3 (t 12) (i 1) 3,d 14 (.indexAddr 75 (.global 0) (t 13)),l 15 9 14,f 17 51 1 5,l 18
 9 17,⟨some 16,.call ⟨.value (.func 47),#[.const (.string
 ⟨#[97,100,100,32,115,117,98,32,109,117,108,32,100,105,118,95,115,32,114,101,109,95,115,32,97,110,100,32,111,114,32,120,111,114,32,115,104,108,32,115,104,114,95,115,32,101,113,32,110,101,32,108,116,95,115,32,103,116,95,115,32,108,101,95,115,32,103,101,95,115]⟩)],#[9]⟩,none,[⟨none,3,t
 11,12⟩,⟨none,9,t 14,15⟩,⟨none,9,t 17,18⟩]⟩,⟨some 19,.call ⟨.value (.func 46),#[t 16,t 18],#[40,9]⟩,none,[⟨none,3,t 11,12⟩,⟨none,9,t 14,15⟩]⟩,d 20 (.index 9 (t
 15) (t 19)),a 2 20] .ret) .skip)) (S [f 21 51 1 2,l 22 3 21,a 3 22] (.seq (S [f 23 51 1 0,l 24 3 23,b 25 .neq 3 (t 24) (i 8) 3,m 26 25,w 27 (.fieldAddr 51 (t
 1) 0) 26 true,w 28 (.load 3 (t 27)) 26 true,w 29 (.binOp .neq 3 (t 28) (i 9) 3) 26 true,d 30 (.pick (t 26) (t 29) (.const (.bool false)))] (C 30 (.ops [A 3 (i
 0)]) .skip)) (.seq (S [d 31 (.load 78 (.global 1)),d 32 (.load 78 (.global 2)),d 33 (.buildSlice 79 2 #[(0,t 31),(1,t 32)]),L 34 33 79,d 35 (.move (i 0))]
 (.block 0 (.loop pc30_l2))) pc30_r2)))) }).1
theorem calls30 (hn : args.length = 1) (h : avc Tryd.prog G 71 pc30 (afin Tryd.prog [.tmp 2] R) (frame0 args) σ) : ACalls Tryd.prog G 30 args σ R :=
  acalls' (n := 71) (l := [.tmp 2]) mixed Tryd.func30 (by kernel_rfl) (by kernel_rfl) (by kernel_rfl) (by omega) h
def pc31 : PC := (⟨_, by delta A S a b c d f i l m n s t w; exact rfl⟩ : { p : PC // p = S [A 4 (.const (.slice none 0 0))] (S [m 6 1,b 7 .geq 3 (t 6) (i 0) 3,m
 8 7,w 9 (.move (t 1)) 8 true,w 10 (.move (t 0)) 8 true,w 11 (.nilCheck (t 10)) 8 true,w 12 (.fieldAddr 55 (t 11) 0) 8 true,w 13 (.load 22 (t 12)) 8 true,w 14
 (.call ⟨.builtin .len,#[t 13],#[22]⟩) 8 true,w 15 (.binOp .leq 3 (t 9) (t 14) 3) 8 true,d 16 (.pick (t 8) (t 15) (.const (.bool false))),c 17 22 #[t 16,i 2]
 #[4,32]] (S [m 18 0,n 19 18,f 20 55 19 0,l 21 22 20,m 22 1,d 23 (.slice 22 (t 21) none (some (t 22)) none),a 5 23] (S [m 24 0,m 25 0,n 26 25,f 27 55 26 0,l 28
 22 27,m 29 1,d 30 (.slice 22 (t 28) (some (t 29)) none none),n 31 24,f 32 55 31 0,s 22 32 30] (S [m 33 5,a 4 33] .ret)))) }).1
theorem calls31 (hn : args.length = 2) (h : avc Tryd.prog G 34 pc31 (afin Tryd.prog [.tmp 4] R) (frame0 args) σ) : ACalls Tryd.prog G 31 args σ R :=
  acalls' (n := 34) (l := [.tmp 4]) mixed Tryd.func31 (by kernel_rfl) (by kernel_rfl) (by kernel_rfl) (by omega) h
def pc32_l1 : PC := (⟨_, by delta C L S a b c d f i l m s t; exact rfl⟩ : { p : PC // p = S [b 10 .lss 3 (t 9) (t 8) 3] (.seq (C 10 .skip (.exit 0)) (.seq
 (.block 1 (S [m 11 0,c 12 31 #[t 11,i 1] #[53,3]] (S [m 13 0,c 14 48 #[t 13] #[53],d 15 (.build 45 #[(1,t 14)]),d 3 (.alloc 45),s 45 3 15] (.seq (S [m 16 0,c
 17 48 #[t 16] #[53],a 4 17] (S [m 18 4,L 19 18 38,b 20 .gtr 3 (t 19) (i 0) 3] (C 20 (.ops [m 21 4,d 22 (.indexAddr 38 (t 21) (i 0)),l 23 3 22,f 24 45 3 3,s 3
 24 23]) .skip))) (.ops [m 25 2,l 26 45 3,d 27 (.buildSlice 28 1 #[(0,t 26)]),d 28 (.call ⟨.builtin .append,#[t 25,t 27],#[28,28]⟩),a 2 28]))))) (.ops [b 29
 .add 3 (t 9) (i 1) 3,m 9 29]))) }).1
def pc32_r1 : PC := (⟨_, by delta L S a b c d i m t; exact rfl⟩ : { p : PC // p = S [m 30 2,L 31 30 28,b 32 .geq 3 (t 31) (i 3) 3,c 33 22 #[t 32,i 2] #[4,32]]
 (S [m 34 2,d 35 (.slice 28 (t 34) (some (i 3)) none none),a 2 35] .ret) }).1
def pc32 : PC := (⟨_, by delta A S c d i m t; exact rfl⟩ : { p : PC // p = S [A 2 (.const (.slice none 0 0))] (S [m 5 0,c 6 33 #[t 5,.const (.int .u8 1)]
 #[53,5]] (.seq (S [m 7 0,c 8 34 #[t 7,.const (.bool false)] #[53,4],d 9 (.move (i 0))] (.block 0 (.loop pc32_l1))) pc32_r1)) }).1
theorem calls32 (hn : args.length = 1) (h : avc Tryd.prog G 36 pc32 (afin Tryd.prog [.tmp 2] R) (frame0 args) σ) : ACalls Tryd.prog G 32 args σ R :=
  acalls' (n := 36) (l := [.tmp 2]) mixed Tryd.func32 (by kernel_rfl) (by kernel_rfl) (by kernel_rfl) (by omega) h
def pc33 : PC := (⟨_, by delta S b c d i l m t; exact rfl⟩ : { p : PC // p = S [m 4 0,c 5 31 #[t 4,i 1] #[53,3],d 6 (.indexAddr 22 (t 5) (i 0)),l 7 5 6,m 8 1,b
 9 .eql 5 (t 7) (t 8) 5,c 10 22 #[t 9,i 2] #[4,32]] (.ops [m 11 0,c 12 34 #[t 11,.const (.bool false)] #[53,4]]) }).1
theorem calls33 (hn : args.length = 2) (h : avc Tryd.prog G 13 pc33 (afin Tryd.prog [] R) (frame0 args) σ) : ACalls Tryd.prog G 33 args σ R :=
  acalls' (n := 13) (l := []) mixed Tryd.func33 (by kernel_rfl) (by kernel_rfl) (by kernel_rfl) (by omega) h
def pc34_l1 : PC := (⟨_, by delta C S a b c d i l m t w; exact rfl⟩ : { p : PC // p = .seq (.block 1 (S [m 10 6,b 11 .lss 3 (t 10) (i 70) 3,c 12 22 #[t 11,i 2]
 #[4,32]] (S [m 13 0,c 14 31 #[t 13,i 1] #[53,3],d 15 (.indexAddr 22 (t 14) (i 0)),l 16 5 15,a 7 16] (S [m 17 5,m 18 7,b 19 .and 5 (t 18) (.const (.int .u8
 127)) 5,d 20 (.convert 5 81 (t 19)),m 21 6,b 22 .shl 81 (t 20) (t 21) 3,b 23 .or 81 (t 17) (t 22) 81,a 5 23] (S [m 24 7,b 25 .lss 5 (t 24) (.const (.int .u8
 128)) 5] (C 25 (.seq (S [m 26 1,m 27 26,w 28 (.move (t 7)) 27 true,w 29 (.binOp .geq 5 (t 28) (.const (.int .u8 64)) 5) 27 true,d 30 (.pick (t 27) (t 29)
 (.const (.bool false))),m 31 30,w 32 (.move (t 6)) 31 true,w 33 (.binOp .lss 3 (t 32) (i 57) 3) 31 true,d 34 (.pick (t 31) (t 33) (.const (.bool false)))] (C
 34 (.ops [m 35 5,m 36 6,b 37 .add 3 (t 36) (i 7) 3,b 38 .shl 81 (.const (.int .u64 18446744073709551615)) (t 37) 3,b 39 .or 81 (t 35) (t 38) 81,a 5 39])
 .skip)) (S [m 40 5,d 41 (.convert 81 3 (t 40)),a 4 41] .ret)) .skip)))))) (.ops [m 8 6,b 9 .add 3 (t 8) (i 7) 3,a 6 9]) }).1
def pc34 : PC := (⟨_, by delta A S i; exact rfl⟩ : { p : PC // p = S [A 4 (i 0)] (S [A 5 (.const (.int .u64 0))] (S [A 6 (i 0)] (.block 0 (.loop pc34_l1))))
 }).1
theorem calls34 (hn : args.length = 2) (h : avc Tryd.prog G 42 pc34 (afin Tryd.prog [.tmp 4] R) (frame0 args) σ) : ACalls Tryd.prog G 34 args σ R :=
  acalls' (n := 42) (l := [.tmp 4]) mixed Tryd.func34 (by kernel_rfl) (by kernel_rfl) (by kernel_rfl) (by omega) h
def pc35_l1 : PC := (⟨_, by delta C S a b c d f i l m n s t w; exact rfl⟩ : { p : PC // p = S [b 10 .lss 3 (t 9) (t 8) 3] (.seq (C 10 .skip (.exit 0)) (.seq
 (.block 1 (S [m 11 0,c 12 34 #[t 11,.const (.bool false)] #[53,4],a 4 12] (S [m 13 4,b 14 .geq 3 (t 13) (i 0) 3,m 15 14,w 16 (.move (t 4)) 15 true,w 17 (.move
 (t 0)) 15 true,w 18 (.nilCheck (t 17)) 15 true,w 19 (.fieldAddr 55 (t 18) 2) 15 true,w 20 (.load 3 (t 19)) 15 true,w 21 (.binOp .sub 3 (i 65536) (t 20) 3) 15
 true,w 22 (.binOp .leq 3 (t 16) (t 21) 3) 15 true,d 23 (.pick (t 15) (t 22) (.const (.bool false))),c 24 22 #[t 23,i 9] #[4,32]] (S [m 25 0,n 26 25,f 27 55 26
 2,l 28 3 27,m 29 4,b 30 .add 3 (t 28) (t 29) 3,n 31 25,f 32 55 31 2,s 3 32 30] (.ops [m 33 1,m 34 1,n 35 34,f 36 45 35 2,l 37 38 36,m 38 0,m 45 4,⟨some
 39,.call ⟨.value (.func 31),#[t 38,i 1],#[53,3]⟩,none,[⟨none,38,t 36,37⟩]⟩,d 40 (.indexAddr 22 (t 39) (i 0)),l 41 5 40,⟨some 42,.convert 5 3 (t
 41),none,[⟨none,38,t 36,37⟩]⟩,b 43 .sub 3 (i 128) (t 42) 3,d 44 (.buildSlice 38 1 #[(0,t 43)]),⟨some 46,.call ⟨.value (.func 49),#[t 44,t
 45],#[38,3]⟩,none,[⟨none,38,t 36,37⟩]⟩,d 47 (.call ⟨.builtin .append,#[t 37,t 46],#[38,38]⟩),n 48 33,f 49 45 48 2,s 38 49 47]))))) (.ops [b 50 .add 3 (t 9) (i
 1) 3,m 9 50]))) }).1
def pc35_r1 : PC := (⟨_, by delta S c e f i l m n s t; exact rfl⟩ : { p : PC // p = S [m 51 0,n 52 51,f 53 55 52 1,e (.store 43 (t 53) (.const (.slice none 0
 0)))] (S [m 54 0,c 55 50 #[t 54,i 0] #[53,3]] (.ops [m 56 1,m 57 0,n 58 57,f 59 55 58 1,l 60 43 59,n 61 56,f 62 45 61 4,s 43 62 60])) }).1
def pc35 : PC := (⟨_, by delta S c d i m t; exact rfl⟩ : { p : PC // p = S [m 5 0,c 6 34 #[t 5,.const (.bool false)] #[53,4]] (.seq (S [m 7 0,c 8 34 #[t
 7,.const (.bool false)] #[53,4],d 9 (.move (i 0))] (.block 0 (.loop pc35_l1))) pc35_r1) }).1
theorem calls35 (hn : args.length = 2) (h : avc Tryd.prog G 63 pc35 (afin Tryd.prog [] R) (frame0 args) σ) : ACalls Tryd.prog G 35 args σ R :=
  acalls' (n := 63) (l := []) mixed Tryd.func35 (by kernel_rfl) (by kernel_rfl) (by kernel_rfl) (by omega) h
def pc36 : PC := (⟨_, by delta A S a b d i m t w; exact rfl⟩ : { p : PC // p = S [A 2 (.const (.bool false))] (S [m 3 0,b 4 .neq 3 (t 3) (i 1) 3,m 5 4,w 6
 (.move (t 0)) 5 true,w 7 (.binOp .neq 3 (t 6) (i 2) 3) 5 true,d 8 (.pick (t 5) (t 7) (.const (.bool false))),a 2 8] .ret) }).1
theorem calls36 (hn : args.length = 1) (h : avc Tryd.prog G 9 pc36 (afin Tryd.prog [.tmp 2] R) (frame0 args) σ) : ACalls Tryd.prog G 36 args σ R :=
  acalls' (n := 9) (l := [.tmp 2]) mixed Tryd.func36 (by kernel_rfl) (by kernel_rfl) (by kernel_rfl) (by omega) h
def pc37 : PC := (⟨_, by delta A S a b c i m t; exact rfl⟩ : { p : PC // p = S [A 4 (.const (.bool false))] (S [m 5 0,m 6 1,c 7 51 #[t 5,t 6] #[28,69],b 8 .geq
 3 (t 7) (i 0) 3,a 4 8] .ret) }).1
theorem calls37 (hn : args.length = 2) (h : avc Tryd.prog G 9 pc37 (afin Tryd.prog [.tmp 4] R) (frame0 args) σ) : ACalls Tryd.prog G 37 args σ R :=
  acalls' (n := 9) (l := [.tmp 4]) mixed Tryd.func37 (by kernel_rfl) (by kernel_rfl) (by kernel_rfl) (by omega) h
def pc38 : PC := (⟨_, by delta A S a c d f i l m t w; exact rfl⟩ : { p : PC // p = S [d 2 (.box 45 (t 0)),A 3 (.const (.bool false))] (S [f 4 45 2 1,l 5 38 4,l
 6 26 1,c 7 39 #[t 5,t 6] #[38,26],m 8 7,w 9 (.fieldAddr 45 (t 2) 2) 8 false,w 10 (.load 38 (t 9)) 8 false,w 11 (.load 26 (t 1)) 8 false,w 12 (.call ⟨.value
 (.func 39),#[t 10,t 11],#[38,26]⟩) 8 false,d 13 (.pick (t 8) (.const (.bool true)) (t 12)),m 14 13,w 15 (.fieldAddr 45 (t 2) 3) 14 false,w 16 (.load 3 (t 15))
 14 false,w 17 (.binOp .neq 3 (t 16) (i 0) 3) 14 false,w 18 (.move (t 17)) 14 false,w 19 (.load 26 (t 1)) 18 true,w 20 (.fieldAddr 45 (t 2) 3) 18 true,w 21
 (.load 3 (t 20)) 18 true,w 22 (.call ⟨.value (t 19),#[t 21],#[3]⟩) 18 true,w 23 (.pick (t 18) (t 22) (.const (.bool false))) 14 false,d 24 (.pick (t 14)
 (.const (.bool true)) (t 23)),a 3 24] .ret) }).1
theorem calls38 (hn : args.length = 2) (h : avc Tryd.prog G 25 pc38 (afin Tryd.prog [.tmp 3] R) (frame0 args) σ) : ACalls Tryd.prog G 38 args σ R :=
  acalls' (n := 25) (l := [.tmp 3]) mixed Tryd.func38 (by kernel_rfl) (by kernel_rfl) (by kernel_rfl) (by omega) h
def pc39 : PC := (⟨_, by delta A S a b c i m t; exact rfl⟩ : { p : PC // p = S [A 4 (.const (.bool false))] (S [m 5 0,m 6 1,c 7 52 #[t 5,t 6] #[38,26],b 8 .geq
 3 (t 7) (i 0) 3,a 4 8] .ret) }).1
theorem calls39 (hn : args.length = 2) (h : avc Tryd.prog G 9 pc39 (afin Tryd.prog [.tmp 4] R) (frame0 args) σ) : ACalls Tryd.prog G 39 args σ R :=
  acalls' (n := 9) (l := [.tmp 4]) mixed Tryd.func39 (by kernel_rfl) (by kernel_rfl) (by kernel_rfl) (by omega) h
def pc40 : PC := (⟨_, by delta A S a b d f i l m t w; exact rfl⟩ : { p : PC // p = S [d 1 (.box 51 (t 0)),A 2 (.const (.bool false))] (S [f 3 51 1 2,l 4 3 3,b 5
 .lss 3 (t 4) (i 0) 3,m 6 5,w 7 (.fieldAddr 51 (t 1) 0) 6 true,w 8 (.load 3 (t 7)) 6 true,w 9 (.binOp .neq 3 (t 8) (i 1) 3) 6 true,d 10 (.pick (t 6) (t 9)
 (.const (.bool false))),a 2 10] .ret) }).1
theorem calls40 (hn : args.length = 1) (h : avc Tryd.prog G 11 pc40 (afin Tryd.prog [.tmp 2] R) (frame0 args) σ) : ACalls Tryd.prog G 40 args σ R :=
  acalls' (n := 11) (l := [.tmp 2]) mixed Tryd.func40 (by kernel_rfl) (by kernel_rfl) (by kernel_rfl) (by omega) h
def pc41 : PC := (⟨_, by delta A S a c d f l t; exact rfl⟩ : { p : PC // p = S [d 2 (.box 45 (t 0)),A 3 (.const (.bool false))] (S [f 4 45 2 4,l 5 43 4,d 6
 (.makeFunc (.func 43) #[] #[t 1]),c 7 42 #[t 5,t 6] #[43,73],a 3 7] .ret) }).1
theorem calls41 (hn : args.length = 2) (h : avc Tryd.prog G 8 pc41 (afin Tryd.prog [.tmp 3] R) (frame0 args) σ) : ACalls Tryd.prog G 41 args σ R :=
  acalls' (n := 8) (l := [.tmp 3]) mixed Tryd.func41 (by kernel_rfl) (by kernel_rfl) (by kernel_rfl) (by omega) h
def pc42 : PC := (⟨_, by delta A S a b c i m t; exact rfl⟩ : { p : PC // p = S [A 4 (.const (.bool false))] (S [m 5 0,m 6 1,c 7 53 #[t 5,t 6] #[43,73],b 8 .geq
 3 (t 7) (i 0) 3,a 4 8] .ret) }).1
theorem calls42 (hn : args.length = 2) (h : avc Tryd.prog G 9 pc42 (afin Tryd.prog [.tmp 4] R) (frame0 args) σ) : ACalls Tryd.prog G 42 args σ R :=
  acalls' (n := 9) (l := [.tmp 4]) mixed Tryd.func42 (by kernel_rfl) (by kernel_rfl) (by kernel_rfl) (by omega) h
def pc43 : PC := (⟨_, by delta A S a c l m t; exact rfl⟩ : { p : PC // p = S [A 3 (.const (.bool false))] (S [m 4 0,l 5 70 1,c 6 44 #[t 4,t 5] #[52,70],a 3 6]
 .ret) }).1
theorem calls43 (hn : args.length = 2) (h : avc Tryd.prog G 7 pc43 (afin Tryd.prog [.tmp 3] R) (frame0 args) σ) : ACalls Tryd.prog G 43 args σ R :=
  acalls' (n := 7) (l := [.tmp 3]) mixed Tryd.func43 (by kernel_rfl) (by kernel_rfl) (by kernel_rfl) (by omega) h
def pc44 : PC := (⟨_, by delta A S a b c i m t; exact rfl⟩ : { p : PC // p = S [A 4 (.const (.bool false))] (S [m 5 0,m 6 1,c 7 54 #[t 5,t 6] #[52,70],b 8 .geq
 3 (t 7) (i 0) 3,a 4 8] .ret) }).1
theorem calls44 (hn : args.length = 2) (h : avc Tryd.prog G 9 pc44 (afin Tryd.prog [.tmp 4] R) (frame0 args) σ) : ACalls Tryd.prog G 44 args σ R :=
  acalls' (n := 9) (l := [.tmp 4]) mixed Tryd.func44 (by kernel_rfl) (by kernel_rfl) (by kernel_rfl) (by omega) h
def pc45 : PC := (⟨_, by delta A S a b d f l m t w; exact rfl⟩ : { p : PC // p = S [d 2 (.box 45 (t 0)),d 3 (.box 45 (t 1)),A 4 (.const (.bool false))] (S [f 5
 45 2 0,l 6 9 5,f 7 45 3 0,l 8 9 7,b 9 .eql 9 (t 6) (t 8) 9,m 10 9,w 11 (.fieldAddr 45 (t 2) 3) 10 true,w 12 (.load 3 (t 11)) 10 true,w 13 (.fieldAddr 45 (t 3)
 3) 10 true,w 14 (.load 3 (t 13)) 10 true,w 15 (.binOp .eql 3 (t 12) (t 14) 3) 10 true,d 16 (.pick (t 10) (t 15) (.const (.bool false))),m 17 16,w 18
 (.fieldAddr 45 (t 2) 1) 17 true,w 19 (.load 38 (t 18)) 17 true,w 20 (.fieldAddr 45 (t 3) 1) 17 true,w 21 (.load 38 (t 20)) 17 true,w 22 (.call ⟨.value (.func
 55),#[t 19,t 21],#[38,38]⟩) 17 true,d 23 (.pick (t 17) (t 22) (.const (.bool false))),m 24 23,w 25 (.fieldAddr 45 (t 2) 2) 24 true,w 26 (.load 38 (t 25)) 24
 true,w 27 (.fieldAddr 45 (t 3) 2) 24 true,w 28 (.load 38 (t 27)) 24 true,w 29 (.call ⟨.value (.func 55),#[t 26,t 28],#[38,38]⟩) 24 true,d 30 (.pick (t 24) (t
 29) (.const (.bool false))),m 31 30,w 32 (.fieldAddr 45 (t 2) 4) 31 true,w 33 (.load 43 (t 32)) 31 true,w 34 (.fieldAddr 45 (t 3) 4) 31 true,w 35 (.load 43 (t
 34)) 31 true,w 36 (.call ⟨.value (.func 56),#[t 33,t 35],#[43,43]⟩) 31 true,d 37 (.pick (t 31) (t 36) (.const (.bool false))),a 4 37] .ret) }).1
theorem calls45 (hn : args.length = 2) (h : avc Tryd.prog G 38 pc45 (afin Tryd.prog [.tmp 4] R) (frame0 args) σ) : ACalls Tryd.prog G 45 args σ R :=
  acalls' (n := 38) (l := [.tmp 4]) mixed Tryd.func45 (by kernel_rfl) (by kernel_rfl) (by kernel_rfl) (by omega) h
def pc46_l1 : PC := (⟨_, by delta C S a b i l m t x; exact rfl⟩ : { p : PC // p = S [b 9 .lss 3 (t 8) (t 7) 3] (.seq (C 9 .skip (.exit 0)) (.seq (.block 1 (S [m
 10 8,a 5 10] (S [m 11 1,m 12 0,m 13 5,x 14 40 12 13,l 15 9 14,b 16 .eql 9 (t 11) (t 15) 9] (C 16 (S [m 17 5,a 4 17] .ret) .skip)))) (.ops [b 18 .add 3 (t 8) (i
 1) 3,m 8 18]))) }).1
def pc46_r1 : PC := (⟨_, by delta A S i; exact rfl⟩ : { p : PC // p = S [A 4 (i (-1))] .ret }).1
def pc46 : PC := (⟨_, by delta A L S d i m; exact rfl⟩ : { p : PC // p = S [A 4 (i 0)] (.seq (S [m 6 0,L 7 6 40,d 8 (.move (i 0))] (.block 0 (.loop pc46_l1)))
 pc46_r1) }).1
theorem calls46 (hn : args.length = 2) (h : avc Tryd.prog G 19 pc46 (afin Tryd.prog [.tmp 4] R) (frame0 args) σ) : ACalls Tryd.prog G 46 args σ R :=
  acalls' (n := 19) (l := [.tmp 4]) mixed Tryd.func46 (by kernel_rfl) (by kernel_rfl) (by kernel_rfl) (by omega) h
def pc47_l1 : PC := (⟨_, by delta C L S a b d i l m t; exact rfl⟩ : { p : PC // p = .seq (S [m 13 6,m 14 0,L 15 14 9,b 16 .lss 3 (t 13) (t 15) 3] (C 16 .skip
 (.exit 0))) (.seq (.block 1 (S [m 19 0,m 20 6,d 21 (.index 9 (t 19) (t 20)),a 7 21] (S [m 22 5,m 23 7,b 24 .or 5 (t 22) (t 23) 5,a 5 24] (S [m 25 7,d 26
 (.indexAddr 91 (.global 3) (t 25)),l 27 5 26,d 28 (.convert 5 3 (t 27)),a 8 28] (S [m 29 3,m 30 4,m 31 8,d 32 (.unOp .xor 3 (t 31)),b 33 .and 3 (t 30) (t 32)
 3,b 34 .add 3 (t 29) (t 33) 3,a 3 34] (.ops [m 35 8,a 4 35])))))) (.ops [m 17 6,b 18 .add 3 (t 17) (i 1) 3,a 6 18])) }).1
def pc47_l2 : PC := (⟨_, by delta C L S a b d i m t w; exact rfl⟩ : { p : PC // p = .seq (S [m 42 12,m 43 0,L 44 43 9,b 45 .lss 3 (t 42) (t 44) 3,m 46 45,w 47
 (.move (t 0)) 46 true,w 48 (.move (t 12)) 46 true,w 49 (.index 9 (t 47) (t 48)) 46 true,w 50 (.indexAddr 91 (.global 3) (t 49)) 46 true,w 51 (.load 5 (t 50))
 46 true,w 52 (.binOp .neq 5 (t 51) (.const (.int .u8 0)) 5) 46 true,d 53 (.pick (t 46) (t 52) (.const (.bool false)))] (C 53 .skip (.exit 2))) (.block 3 (.ops
 [m 54 12,b 55 .add 3 (t 54) (i 1) 3,a 12 55])) }).1
def pc47_l3 : PC := (⟨_, by delta C L S a b d i m t w; exact rfl⟩ : { p : PC // p = .seq (S [m 80 12,m 81 0,L 82 81 9,b 83 .lss 3 (t 80) (t 82) 3,m 84 83,w 85
 (.move (t 0)) 84 true,w 86 (.move (t 12)) 84 true,w 87 (.index 9 (t 85) (t 86)) 84 true,w 88 (.indexAddr 91 (.global 3) (t 87)) 84 true,w 89 (.load 5 (t 88))
 84 true,w 90 (.binOp .neq 5 (t 89) (.const (.int .u8 0)) 5) 84 true,d 91 (.pick (t 84) (t 90) (.const (.bool false)))] (C 91 .skip (.exit 6))) (.block 7 (.ops
 [m 92 12,b 93 .add 3 (t 92) (i 1) 3,a 12 93])) }).1
def pc47_r1 : PC := (⟨_, by delta a m; exact rfl⟩ : { p : PC // p = .ops [m 94 12,a 11 94] }).1
def pc47_l4 : PC := (⟨_, by delta C L S a b d i l m s t x; exact rfl⟩ : { p : PC // p = .seq (S [m 57 12,m 58 0,L 59 58 9,b 60 .lss 3 (t 57) (t 59) 3] (C 60
 .skip (.exit 4))) (.block 5 (.seq (S [m 61 0,m 62 12,d 63 (.index 9 (t 61) (t 62)),d 64 (.indexAddr 91 (.global 3) (t 63)),l 65 5 64,b 66 .eql 5 (t 65) (.const
 (.int .u8 0)) 5] (C 66 (S [m 67 12,b 68 .add 3 (t 67) (i 1) 3,a 12 68] (.exit 5)) .skip)) (S [m 69 9,m 70 10,m 71 0,m 72 11,m 73 12,d 74 (.slice 9 (t 71) (some
 (t 72)) (some (t 73)) none),x 75 40 69 70,s 9 75 74] (S [m 76 10,b 77 .add 3 (t 76) (i 1) 3,a 10 77] (S [m 78 12,b 79 .add 3 (t 78) (i 1) 3,a 12 79] (.seq
 (.block 6 (.loop pc47_l3)) pc47_r1)))))) }).1
def pc47_r2 : PC := (⟨_, by delta C L S a b d m s t x; exact rfl⟩ : { p : PC // p = .seq (S [m 95 11,m 96 0,L 97 96 9,b 98 .lss 3 (t 95) (t 97) 3] (C 98 (.ops
 [m 99 9,m 100 10,m 101 0,m 102 11,d 103 (.slice 9 (t 101) (some (t 102)) none none),x 104 40 99 100,s 9 104 103]) .skip)) (S [m 105 9,a 2 105] .ret) }).1
def pc47_r3 : PC := (⟨_, by delta S a m; exact rfl⟩ : { p : PC // p = S [m 56 12,a 11 56] (.seq (.block 4 (.loop pc47_l4)) pc47_r2) }).1
def pc47_r4 : PC := (⟨_, by delta A C S a b c d i m t; exact rfl⟩ : { p : PC // p = .seq (S [m 36 5,b 37 .geq 5 (t 36) (.const (.int .u8 128)) 5] (C 37 (S [m 38
 0,c 39 57 #[t 38,.func 58] #[9,93],a 2 39] .ret) .skip)) (S [m 40 3,d 41 (.makeSlice 40 (t 40) (t 40)),a 9 41] (S [A 10 (i 0)] (S [A 11 (i 0)] (S [A 12 (i 0)]
 (.seq (.block 2 (.loop pc47_l2)) pc47_r3))))) }).1
def pc47 : PC := (⟨_, by delta A S i; exact rfl⟩ : { p : PC // p = S [A 2 (.const (.slice none 0 0))] (S [A 3 (i 0)] (S [A 4 (i 1)] (S [A 5 (.const (.int .u8
 0))] (.seq (S [A 6 (i 0)] (.block 0 (.loop pc47_l1))) pc47_r4)))) }).1
theorem calls47 (hn : args.length = 1) (h : avc Tryd.prog G 106 pc47 (afin Tryd.prog [.tmp 2] R) (frame0 args) σ) : ACalls Tryd.prog G 47 args σ R :=
  acalls' (n := 106) (l := [.tmp 2]) mixed Tryd.func47 (by kernel_rfl) (by kernel_rfl) (by kernel_rfl) (by omega) h
def pc48_l1 : PC := (⟨_, by delta C S a b c d i l m t; exact rfl⟩ : { p : PC // p = S [b 6 .lss 3 (t 5) (t 4) 3] (.seq (C 6 .skip (.exit 0)) (.seq (.block 1
 (.ops [m 7 2,m 8 0,c 9 31 #[t 8,i 1] #[53,3],d 10 (.indexAddr 22 (t 9) (i 0)),l 11 5 10,d 12 (.convert 5 3 (t 11)),b 13 .sub 3 (i 128) (t 12) 3,d 14
 (.buildSlice 38 1 #[(0,t 13)]),d 15 (.call ⟨.builtin .append,#[t 7,t 14],#[38,38]⟩),a 2 15])) (.ops [b 16 .add 3 (t 5) (i 1) 3,m 5 16]))) }).1
def pc48_r1 : PC := (⟨_, by delta S a m; exact rfl⟩ : { p : PC // p = S [m 17 2,a 2 17] .ret }).1
def pc48 : PC := (⟨_, by delta A S c d i m t; exact rfl⟩ : { p : PC // p = S [A 2 (.const (.slice none 0 0))] (.seq (S [m 3 0,c 4 34 #[t 3,.const (.bool false)]
 #[53,4],d 5 (.move (i 0))] (.block 0 (.loop pc48_l1))) pc48_r1) }).1
theorem calls48 (hn : args.length = 1) (h : avc Tryd.prog G 18 pc48 (afin Tryd.prog [.tmp 2] R) (frame0 args) σ) : ACalls Tryd.prog G 48 args σ R :=
  acalls' (n := 18) (l := [.tmp 2]) mixed Tryd.func48 (by kernel_rfl) (by kernel_rfl) (by kernel_rfl) (by omega) h
def pc49_l1 : PC := (⟨_, by delta C L S a b d m t; exact rfl⟩ : { p : PC // p = .seq (S [m 34 8,m 35 7,L 36 35 38,b 37 .lss 3 (t 34) (t 36) 3] (C 37 .skip
 (.exit 0))) (.block 1 (.ops [m 38 8,m 39 7,m 40 8,d 41 (.slice 38 (t 39) (some (t 40)) none none),m 42 7,m 43 8,d 44 (.slice 38 (t 42) none (some (t 43))
 none),d 45 (.call ⟨.builtin .copy,#[t 41,t 44],#[38,38]⟩),b 46 .add 3 (t 38) (t 45) 3,a 8 46])) }).1
def pc49_r1 : PC := (⟨_, by delta S a m; exact rfl⟩ : { p : PC // p = S [m 47 7,a 4 47] .ret }).1
def pc49 : PC := (⟨_, by delta A C L S a b c d e i m t w; exact rfl⟩ : { p : PC // p = S [A 4 (.const (.slice none 0 0))] (.seq (S [m 9 1,b 10 .lss 3 (t 9) (i
 0) 3] (C 10 (.ops [d 11 (.makeInterface 9 (.const (.string ⟨#[99,97,110,110,111,116,32,98,101,32,110,101,103,97,116,105,118,101]⟩))),e (.panic (t 11))])
 .skip)) (S [m 13 0,L 14 13 38,d 15 (.convert 3 24 (t 14)),m 16 1,d 17 (.convert 3 24 (t 16)),c 18 59 #[t 15,t 17] #[24,24],m 12 18,d 19 (.extract (t 12) 0),d
 20 (.extract (t 12) 1),a 5 19,a 6 20] (.seq (S [m 21 5,b 22 .gtr 24 (t 21) (.const (.int .u64 0)) 24,m 23 22,w 24 (.move (t 6)) 23 false,w 25 (.binOp .gtr 24
 (t 24) (.const (.int .u64 9223372036854775807)) 24) 23 false,d 26 (.pick (t 23) (.const (.bool true)) (t 25))] (C 26 (.ops [d 27 (.makeInterface 9 (.const
 (.string
 ⟨#[116,104,101,32,114,101,115,117,108,116,32,111,102,32,40,108,101,110,40,120,41,32,42,32,99,111,117,110,116,41,32,111,118,101,114,102,108,111,119,115]⟩))),e
 (.panic (t 27))]) .skip)) (S [m 28 6,d 29 (.convert 24 3 (t 28)),d 30 (.makeSlice 38 (t 29) (t 29)),a 7 30] (S [m 31 7,m 32 0,d 33 (.call ⟨.builtin .copy,#[t
 31,t 32],#[38,38]⟩),a 8 33] (.seq (.block 0 (.loop pc49_l1)) pc49_r1)))))) }).1
theorem calls49 (hn : args.length = 2) (h : avc Tryd.prog G 48 pc49 (afin Tryd.prog [.tmp 4] R) (frame0 args) σ) : ACalls Tryd.prog G 49 args σ R :=
  acalls' (n := 48) (l := [.tmp 4]) mixed Tryd.func49 (by kernel_rfl) (by kernel_rfl) (by kernel_rfl) (by omega) h
def pc50_l1 : PC := (⟨_, by delta C L S a b c d f i l m n s t w; exact rfl⟩ : { p : PC // p = .block 1 (S [m 8 0,c 9 31 #[t 8,i 1] #[53,3],d 10 (.indexAddr 22
 (t 9) (i 0)),l 11 5 10,a 7 11] (.seq (S [m 12 7,b 13 .eql 5 (t 12) (.const (.int .u8 11)) 5,m 14 13,w 15 (.move (t 7)) 14 false,w 16 (.binOp .eql 5 (t 15)
 (.const (.int .u8 5)) 5) 14 false,d 17 (.pick (t 14) (.const (.bool true)) (t 16))] (C 17 (S [m 18 0,m 19 0,n 20 19,f 21 55 20 1,l 22 43 21,m 23 6,d 24
 (.buildSlice 43 1 #[(0,t 23)]),d 25 (.call ⟨.builtin .append,#[t 22,t 24],#[43,43]⟩),n 26 18,f 27 55 26 1,s 43 27 25] (S [m 28 0,n 29 28,f 30 55 29 1,l 31 43
 30,L 32 31 43,b 33 .sub 3 (t 32) (i 1) 3,m 34 7,a 4 33,a 5 34] .ret)) .skip)) (.ops [m 35 6,m 36 0,m 37 7,m 38 1,c 39 60 #[t 36,t 37,t 38] #[53,5,3],d 40
 (.buildSlice 52 1 #[(0,t 39)]),d 41 (.call ⟨.builtin .append,#[t 35,t 40],#[52,52]⟩),a 6 41]))) }).1
def pc50 : PC := (⟨_, by delta A S i; exact rfl⟩ : { p : PC // p = S [A 4 (i 0),A 5 (.const (.int .u8 0))] (S [A 6 (.const (.slice none 0 0))] (.block 0 (.loop
 pc50_l1))) }).1
theorem calls50 (hn : args.length = 2) (h : avc Tryd.prog G 42 pc50 (afin Tryd.prog [.tmp 4, .tmp 5] R) (frame0 args) σ) : ACalls Tryd.prog G 50 args σ R :=
  acalls' (n := 42) (l := [.tmp 4, .tmp 5]) mixed Tryd.func50 (by kernel_rfl) (by kernel_rfl) (by kernel_rfl) (by omega) h
def pc51_l1 : PC := (⟨_, by delta C S a b d i l m t x; exact rfl⟩ : { p : PC // p = S [b 9 .lss 3 (t 8) (t 7) 3] (.seq (C 9 .skip (.exit 0)) (.seq (.block 1 (S
 [m 10 8,a 5 10] (S [m 11 1,m 12 0,m 13 5,x 14 28 12 13,l 15 45 14,d 16 (.call ⟨.value (t 11),#[t 15],#[45]⟩)] (C 16 (S [m 17 5,a 4 17] .ret) .skip)))) (.ops [b
 18 .add 3 (t 8) (i 1) 3,m 8 18]))) }).1
def pc51_r1 : PC := (⟨_, by delta A S i; exact rfl⟩ : { p : PC // p = S [A 4 (i (-1))] .ret }).1
def pc51 : PC := (⟨_, by delta A L S d i m; exact rfl⟩ : { p : PC // p = S [A 4 (i 0)] (.seq (S [m 6 0,L 7 6 28,d 8 (.move (i 0))] (.block 0 (.loop pc51_l1)))
 pc51_r1) }).1
theorem calls51 (hn : args.length = 2) (h : avc Tryd.prog G 19 pc51 (afin Tryd.prog [.tmp 4] R) (frame0 args) σ) : ACalls Tryd.prog G 51 args σ R :=
  acalls' (n := 19) (l := [.tmp 4]) mixed Tryd.func51 (by kernel_rfl) (by kernel_rfl) (by kernel_rfl) (by omega) h
def pc52_l1 : PC := (⟨_, by delta C S a b d i l m t x; exact rfl⟩ : { p : PC // p = S [b 9 .lss 3 (t 8) (t 7) 3] (.seq (C 9 .skip (.exit 0)) (.seq (.block 1 (S
 [m 10 8,a 5 10] (S [m 11 1,m 12 0,m 13 5,x 14 38 12 13,l 15 3 14,d 16 (.call ⟨.value (t 11),#[t 15],#[3]⟩)] (C 16 (S [m 17 5,a 4 17] .ret) .skip)))) (.ops [b
 18 .add 3 (t 8) (i 1) 3,m 8 18]))) }).1
def pc52_r1 : PC := (⟨_, by delta A S i; exact rfl⟩ : { p : PC // p = S [A 4 (i (-1))] .ret }).1
def pc52 : PC := (⟨_, by delta A L S d i m; exact rfl⟩ : { p : PC // p = S [A 4 (i 0)] (.seq (S [m 6 0,L 7 6 38,d 8 (.move (i 0))] (.block 0 (.loop pc52_l1)))
 pc52_r1) }).1
theorem calls52 (hn : args.length = 2) (h : avc Tryd.prog G 19 pc52 (afin Tryd.prog [.tmp 4] R) (frame0 args) σ) : ACalls Tryd.prog G 52 args σ R :=
  acalls' (n := 19) (l := [.tmp 4]) mixed Tryd.func52 (by kernel_rfl) (by kernel_rfl) (by kernel_rfl) (by omega) h
def pc53_l1 : PC := (⟨_, by delta C S a b d i l m t x; exact rfl⟩ : { p : PC // p = S [b 9 .lss 3 (t 8) (t 7) 3] (.seq (C 9 .skip (.exit 0)) (.seq (.block 1 (S
 [m 10 8,a 5 10] (S [m 11 1,m 12 0,m 13 5,x 14 43 12 13,l 15 52 14,d 16 (.call ⟨.value (t 11),#[t 15],#[52]⟩)] (C 16 (S [m 17 5,a 4 17] .ret) .skip)))) (.ops [b
 18 .add 3 (t 8) (i 1) 3,m 8 18]))) }).1
def pc53_r1 : PC := (⟨_, by delta A S i; exact rfl⟩ : { p : PC // p = S [A 4 (i (-1))] .ret }).1
def pc53 : PC := (⟨_, by delta A L S d i m; exact rfl⟩ : { p : PC // p = S [A 4 (i 0)] (.seq (S [m 6 0,L 7 6 43,d 8 (.move (i 0))] (.block 0 (.loop pc53_l1)))
 pc53_r1) }).1
theorem calls53 (hn : args.length = 2) (h : avc Tryd.prog G 19 pc53 (afin Tryd.prog [.tmp 4] R) (frame0 args) σ) : ACalls Tryd.prog G 53 args σ R :=
  acalls' (n := 19) (l := [.tmp 4]) mixed Tryd.func53 (by kernel_rfl) (by kernel_rfl) (by kernel_rfl) (by omega) h
def pc54_l1 : PC := (⟨_, by delta C S a b d i l m t x; exact rfl⟩ : { p : PC // p = S [b 9 .lss 3 (t 8) (t 7) 3] (.seq (C 9 .skip (.exit 0)) (.seq (.block 1 (S
 [m 10 8,a 5 10] (S [m 11 1,m 12 0,m 13 5,x 14 52 12 13,l 15 51 14,d 16 (.call ⟨.value (t 11),#[t 15],#[51]⟩)] (C 16 (S [m 17 5,a 4 17] .ret) .skip)))) (.ops [b
 18 .add 3 (t 8) (i 1) 3,m 8 18]))) }).1
def pc54_r1 : PC := (⟨_, by delta A S i; exact rfl⟩ : { p : PC // p = S [A 4 (i (-1))] .ret }).1
def pc54 : PC := (⟨_, by delta A L S d i m; exact rfl⟩ : { p : PC // p = S [A 4 (i 0)] (.seq (S [m 6 0,L 7 6 52,d 8 (.move (i 0))] (.block 0 (.loop pc54_l1)))
 pc54_r1) }).1
theorem calls54 (hn : args.length = 2) (h : avc Tryd.prog G 19 pc54 (afin Tryd.prog [.tmp 4] R) (frame0 args) σ) : ACalls Tryd.prog G 54 args σ R :=
  acalls' (n := 19) (l := [.tmp 4]) mixed Tryd.func54 (by kernel_rfl) (by kernel_rfl) (by kernel_rfl) (by omega) h
def pc55_l1 : PC := (⟨_, by delta A C L S a b d i l m t x; exact rfl⟩ : { p : PC // p = .seq (S [m 11 5,m 12 0,L 13 12 38,b 14 .lss 3 (t 11) (t 13) 3] (C 14
 .skip (.exit 0))) (.seq (.block 1 (S [m 17 0,m 18 5,x 19 38 17 18,l 20 3 19,m 21 1,m 22 5,x 23 38 21 22,l 24 3 23,b 25 .eql 3 (t 20) (t 24) 3,d 26 (.unOp .not
 4 (t 25))] (C 26 (S [A 4 (.const (.bool false))] .ret) .skip))) (.ops [m 15 5,b 16 .add 3 (t 15) (i 1) 3,a 5 16])) }).1
def pc55_r1 : PC := (⟨_, by delta A S; exact rfl⟩ : { p : PC // p = S [A 4 (.const (.bool true))] .ret }).1
def pc55 : PC := (⟨_, by delta A C L S b i m t; exact rfl⟩ : { p : PC // p = S [A 4 (.const (.bool false))] (.seq (S [m 6 0,L 7 6 38,m 8 1,L 9 8 38,b 10 .neq 3
 (t 7) (t 9) 3] (C 10 (S [A 4 (.const (.bool false))] .ret) .skip)) (.seq (S [A 5 (i 0)] (.block 0 (.loop pc55_l1))) pc55_r1)) }).1
theorem calls55 (hn : args.length = 2) (h : avc Tryd.prog G 27 pc55 (afin Tryd.prog [.tmp 4] R) (frame0 args) σ) : ACalls Tryd.prog G 55 args σ R :=
  acalls' (n := 27) (l := [.tmp 4]) mixed Tryd.func55 (by kernel_rfl) (by kernel_rfl) (by kernel_rfl) (by omega) h
def pc56_l1 : PC := (⟨_, by delta A C L S a b c d i l m t x; exact rfl⟩ : { p : PC // p = .seq (S [m 11 5,m 12 0,L 13 12 43,b 14 .lss 3 (t 11) (t 13) 3] (C 14
 .skip (.exit 0))) (.seq (.block 1 (S [m 17 0,m 18 5,x 19 43 17 18,l 20 52 19,m 21 1,m 22 5,x 23 43 21 22,l 24 52 23,c 25 61 #[t 20,t 24] #[52,52],d 26 (.unOp
 .not 4 (t 25))] (C 26 (S [A 4 (.const (.bool false))] .ret) .skip))) (.ops [m 15 5,b 16 .add 3 (t 15) (i 1) 3,a 5 16])) }).1
def pc56_r1 : PC := (⟨_, by delta A S; exact rfl⟩ : { p : PC // p = S [A 4 (.const (.bool true))] .ret }).1
def pc56 : PC := (⟨_, by delta A C L S b i m t; exact rfl⟩ : { p : PC // p = S [A 4 (.const (.bool false))] (.seq (S [m 6 0,L 7 6 43,m 8 1,L 9 8 43,b 10 .neq 3
 (t 7) (t 9) 3] (C 10 (S [A 4 (.const (.bool false))] .ret) .skip)) (.seq (S [A 5 (i 0)] (.block 0 (.loop pc56_l1))) pc56_r1)) }).1
theorem calls56 (hn : args.length = 2) (h : avc Tryd.prog G 27 pc56 (afin Tryd.prog [.tmp 4] R) (frame0 args) σ) : ACalls Tryd.prog G 56 args σ R :=
  acalls' (n := 27) (l := [.tmp 4]) mixed Tryd.func56 (by kernel_rfl) (by kernel_rfl) (by kernel_rfl) (by omega) h
def pc60_l1 : PC := (⟨_, by delta C S a b c d i l m s t x; exact rfl⟩ : { p : PC // p = S [b 88 .lss 3 (t 87) (i 2) 3] (.seq (C 88 .skip (.exit 0)) (.seq
 (.block 1 (S [m 89 87,d 90 (.index 75 (t 86) (t 87)),a 13 89,a 14 90] (S [m 91 14,m 92 1,c 93 65 #[t 91,t 92] #[9,5],a 15 93] (S [m 94 15,b 95 .geq 3 (t 94) (i
 0) 3] (C 95 (S [m 96 13,b 97 .add 3 (t 96) (i 1) 3,c 98 47 #[.const (.string
 ⟨#[97,100,100,32,115,117,98,32,109,117,108,32,100,105,118,95,115,32,114,101,109,95,115,32,97,110,100,32,111,114,32,120,111,114,32,115,104,108,32,115,104,114,95,115,32,101,113,32,110,101,32,108,116,95,115,32,103,116,95,115,32,108,101,95,115,32,103,101,95,115]⟩)]
 #[9],m 99 15,x 100 40 98 99,l 101 9 100,d 102 (.build 51 #[(0,i 4),(1,t 97),(5,t 101)]),s 51 6 102] .ret) .skip))))) (.ops [b 103 .add 3 (t 87) (i 1) 3,m 87
 103]))) }).1
def pc60_r1 : PC := (⟨_, by delta d e i t; exact rfl⟩ : { p : PC // p = .ops [d 104 (.makeInterface 32 (i 2)),e (.panic (t 104))] }).1
def pc60 : PC := (⟨_, by delta A C S a b c d e f i l m s t w; exact rfl⟩ : { p : PC // p = S [d 6 (.alloc 51)] (.seq (S [m 16 1,b 17 .geq 5 (t 16) (.const (.int
 .u8 2)) 5,m 18 17,w 19 (.move (t 1)) 18 true,w 20 (.binOp .leq 5 (t 19) (.const (.int .u8 4)) 5) 18 true,d 21 (.pick (t 18) (t 20) (.const (.bool false)))] (C
 21 (S [m 22 2,b 23 .lss 3 (t 22) (i 400) 3,c 24 22 #[t 23,i 3] #[4,32]] (S [m 25 0,c 26 31 #[t 25,i 1] #[53,3]] (S [m 27 1,d 28 (.convert 5 3 (t 27)),b 29 .add
 3 (i 11) (t 28) 3,b 30 .sub 3 (t 29) (i 2) 3,d 31 (.build 51 #[(0,t 30)]),d 7 (.alloc 51),s 51 7 31] (S [A 8 (.const (.int .u8 0))] (S [m 33 0,m 34 2,b 35 .add
 3 (t 34) (i 1) 3,c 36 50 #[t 33,t 35] #[53,3],m 32 36,d 37 (.extract (t 32) 0),d 38 (.extract (t 32) 1),f 39 51 7 3,s 3 39 37,a 8 38] (.seq (S [m 40 1,b 41
 .eql 5 (t 40) (.const (.int .u8 4)) 5] (C 41 (S [f 42 51 7 4,e (.store 3 (t 42) (i (-1)))] (S [m 43 8,b 44 .eql 5 (t 43) (.const (.int .u8 5)) 5] (C 44 (.ops
 [m 46 0,m 47 2,b 48 .add 3 (t 47) (i 1) 3,c 49 50 #[t 46,t 48] #[53,3],m 45 49,d 50 (.extract (t 45) 0),d 51 (.extract (t 45) 1),f 52 51 7 4,s 3 52 50])
 .skip))) .skip)) (S [l 53 51 7,s 51 6 53] .ret))))))) .skip)) (.seq (S [d 55 (.load 78 (.global 2)),m 56 1,d 57 (.lookup 78 (t 55) (t 56) true),m 54 57,d 58
 (.extract (t 54) 0),d 59 (.extract (t 54) 1),d 9 (.alloc 51),s 51 9 58,a 10 59] (S [m 60 10] (C 60 (S [m 61 0,f 62 51 9 0,l 63 3 62,b 64 .eql 3 (t 63) (i 1)
 3,c 65 34 #[t 61,t 64] #[53,4],f 66 51 9 2,s 3 66 65] (S [l 67 51 9,s 51 6 67] .ret)) .skip))) (.seq (S [d 69 (.load 78 (.global 1)),m 70 1,d 71 (.lookup 78 (t
 69) (t 70) true),m 68 71,d 72 (.extract (t 68) 0),d 73 (.extract (t 68) 1),d 11 (.alloc 51),s 51 11 72,a 12 73] (S [m 74 12] (C 74 (.seq (S [f 75 51 11 0,l 76
 3 75,b 77 .eql 3 (t 76) (i 8) 3,m 78 77,w 79 (.fieldAddr 51 (t 11) 0) 78 false,w 80 (.load 3 (t 79)) 78 false,w 81 (.binOp .eql 3 (t 80) (i 9) 3) 78 false,d 82
 (.pick (t 78) (.const (.bool true)) (t 81))] (C 82 (.ops [m 83 0,c 84 31 #[t 83,i 2] #[53,3]]) .skip)) (S [l 85 51 11,s 51 6 85] .ret)) .skip))) (.seq (S [d 86
 (.load 75 (.global 0)),d 87 (.move (i 0))] (.block 0 (.loop pc60_l1))) pc60_r1)))) }).1
theorem calls60 (hn : args.length = 3) (h : avc Tryd.prog G 105 pc60 (afin Tryd.prog [.cell 6 51] R) (frame0 args) σ) : ACalls Tryd.prog G 60 args σ R :=
  acalls' (n := 105) (l := [.cell 6 51]) mixed Tryd.func60 (by kernel_rfl) (by kernel_rfl) (by kernel_rfl) (by omega) h
def pc61_l1 : PC := (⟨_, by delta A C L S a b d i l m t x; exact rfl⟩ : { p : PC // p = .seq (S [m 11 5,m 12 0,L 13 12 52,b 14 .lss 3 (t 11) (t 13) 3] (C 14
 .skip (.exit 0))) (.seq (.block 1 (S [m 17 0,m 18 5,x 19 52 17 18,l 20 51 19,m 21 1,m 22 5,x 23 52 21 22,l 24 51 23,b 25 .eql 51 (t 20) (t 24) 51,d 26 (.unOp
 .not 4 (t 25))] (C 26 (S [A 4 (.const (.bool false))] .ret) .skip))) (.ops [m 15 5,b 16 .add 3 (t 15) (i 1) 3,a 5 16])) }).1
def pc61_r1 : PC := (⟨_, by delta A S; exact rfl⟩ : { p : PC // p = S [A 4 (.const (.bool true))] .ret }).1
def pc61 : PC := (⟨_, by delta A C L S b i m t; exact rfl⟩ : { p : PC // p = S [A 4 (.const (.bool false))] (.seq (S [m 6 0,L 7 6 52,m 8 1,L 9 8 52,b 10 .neq 3
 (t 7) (t 9) 3] (C 10 (S [A 4 (.const (.bool false))] .ret) .skip)) (.seq (S [A 5 (i 0)] (.block 0 (.loop pc61_l1))) pc61_r1)) }).1
theorem calls61 (hn : args.length = 2) (h : avc Tryd.prog G 27 pc61 (afin Tryd.prog [.tmp 4] R) (frame0 args) σ) : ACalls Tryd.prog G 61 args σ R :=
  acalls' (n := 27) (l := [.tmp 4]) mixed Tryd.func61 (by kernel_rfl) (by kernel_rfl) (by kernel_rfl) (by omega) h
@[simp] theorem t_call4 : callable Tryd.prog 4 = true := by kernel_rfl
@[simp] theorem t_el22 : elOf Tryd.prog 22 = some 1 := by kernel_rfl
@[simp] theorem t_str22 : isStr Tryd.prog 22 = false := by kernel_rfl
@[simp] theorem t_und3 : Tryd.prog.underlying 3 = some (.int .i64) := by kernel_rfl
@[simp] theorem t_sz5 : szOf Tryd.prog 5 = some 1 := by kernel_rfl
@[simp] theorem t_agg5 : aggOf Tryd.prog 5 = false := by kernel_rfl
@[simp] theorem t_und5 : Tryd.prog.underlying 5 = some (.int .u8) := by kernel_rfl
@[simp] theorem t_str3 : isStr Tryd.prog 3 = false := by kernel_rfl
@[simp] theorem t_str5 : isStr Tryd.prog 5 = false := by kernel_rfl
@[simp] theorem t_u8_5 : isU8 Tryd.prog 5 = false := by kernel_rfl
@[simp] theorem t_u8_3 : isU8 Tryd.prog 3 = false := by kernel_rfl
@[simp] theorem t_int3 : intOf? Tryd.prog 3 = some .i64 := by kernel_rfl
@[simp] theorem t_some5 : (Tryd.prog.underlying 5).isSome = true := by kernel_rfl
@[simp] theorem t_und4 : Tryd.prog.underlying 4 = some .bool := by kernel_rfl
@[simp] theorem t_call5 : callable Tryd.prog 5 = true := by kernel_rfl
@[simp] theorem t_call6 : callable Tryd.prog 6 = true := by kernel_rfl
@[simp] theorem t_int5 : intOf? Tryd.prog 5 = some .u8 := by kernel_rfl
@[simp] theorem t_some3 : (Tryd.prog.underlying 3).isSome = true := by kernel_rfl
@[simp] theorem t_ez22 : elZero Tryd.prog 22 = some (.int .u8 0) := by kernel_rfl
@[simp] theorem t_eb22 : elBytes Tryd.prog 22 = some 1 := by kernel_rfl
@[simp] theorem t_call8 : callable Tryd.prog 8 = true := by kernel_rfl
@[simp] theorem t_call7 : callable Tryd.prog 7 = true := by kernel_rfl
@[simp] theorem t_call9 : callable Tryd.prog 9 = true := by kernel_rfl
@[simp] theorem t_zero30 : zeroOf Tryd.prog 30 = some (.agg [.nilsl, (.int .i64 0), (.int .i64 0)]) := by kernel_rfl
@[simp] theorem t_sz30 : szOf Tryd.prog 30 = some 3 := by kernel_rfl
@[simp] theorem t_agg30 : aggOf Tryd.prog 30 = true := by kernel_rfl
@[simp] theorem t_call10 : callable Tryd.prog 10 = true := by kernel_rfl
@[simp] theorem t_und32 : Tryd.prog.underlying 32 = some (.int .i64) := by kernel_rfl
@[simp] theorem t_call11 : callable Tryd.prog 11 = true := by kernel_rfl
@[simp] theorem t_call12 : callable Tryd.prog 12 = true := by kernel_rfl
@[simp] theorem t_el38 : elOf Tryd.prog 38 = some 1 := by kernel_rfl
@[simp] theorem t_ez38 : elZero Tryd.prog 38 = some (.int .i64 0) := by kernel_rfl
@[simp] theorem t_el39 : elOf Tryd.prog 39 = some 1 := by kernel_rfl
@[simp] theorem t_ez39 : elZero Tryd.prog 39 = some .nilsl := by kernel_rfl
@[simp] theorem t_el40 : elOf Tryd.prog 40 = some 1 := by kernel_rfl
@[simp] theorem t_ez40 : elZero Tryd.prog 40 = some (.str []) := by kernel_rfl
@[simp] theorem t_str40 : isStr Tryd.prog 40 = false := by kernel_rfl
@[simp] theorem t_sz9 : szOf Tryd.prog 9 = some 1 := by kernel_rfl
@[simp] theorem t_agg9 : aggOf Tryd.prog 9 = false := by kernel_rfl
@[simp] theorem t_u8_22 : isU8 Tryd.prog 22 = true := by kernel_rfl
@[simp] theorem t_some22 : (Tryd.prog.underlying 22).isSome = true := by kernel_rfl
@[simp] theorem t_call14 : callable Tryd.prog 14 = true := by kernel_rfl
@[simp] theorem t_str9 : isStr Tryd.prog 9 = true := by kernel_rfl
@[simp] theorem t_u8_9 : isU8 Tryd.prog 9 = false := by kernel_rfl
@[simp] theorem t_some9 : (Tryd.prog.underlying 9).isSome = true := by kernel_rfl
@[simp] theorem t_call13 : callable Tryd.prog 13 = true := by kernel_rfl
@[simp] theorem t_eb39 : elBytes Tryd.prog 39 = some 24 := by kernel_rfl
@[simp] theorem t_str39 : isStr Tryd.prog 39 = false := by kernel_rfl
@[simp] theorem t_fi30_0 : fiOf Tryd.prog 30 0 = some ⟨0, 1, false⟩ := by kernel_rfl
@[simp] theorem t_sz28 : szOf Tryd.prog 28 = some 1 := by kernel_rfl
@[simp] theorem t_agg28 : aggOf Tryd.prog 28 = false := by kernel_rfl
@[simp] theorem t_el28 : elOf Tryd.prog 28 = some 5 := by kernel_rfl
@[simp] theorem t_str28 : isStr Tryd.prog 28 = false := by kernel_rfl
@[simp] theorem t_sz45 : szOf Tryd.prog 45 = some 5 := by kernel_rfl
@[simp] theorem t_agg45 : aggOf Tryd.prog 45 = true := by kernel_rfl
@[simp] theorem t_zero45 : zeroOf Tryd.prog 45 = some (.agg [(.str []), .nilsl, .nilsl, (.int .i64 0), .nilsl]) := by kernel_rfl
@[simp] theorem t_fi45_1 : fiOf Tryd.prog 45 1 = some ⟨1, 1, false⟩ := by kernel_rfl
@[simp] theorem t_sz38 : szOf Tryd.prog 38 = some 1 := by kernel_rfl
@[simp] theorem t_agg38 : aggOf Tryd.prog 38 = false := by kernel_rfl
@[simp] theorem t_fi45_3 : fiOf Tryd.prog 45 3 = some ⟨3, 1, false⟩ := by kernel_rfl
@[simp] theorem t_sz3 : szOf Tryd.prog 3 = some 1 := by kernel_rfl
@[simp] theorem t_agg3 : aggOf Tryd.prog 3 = false := by kernel_rfl
@[simp] theorem t_fi45_2 : fiOf Tryd.prog 45 2 = some ⟨2, 1, false⟩ := by kernel_rfl
@[simp] theorem t_fi45_4 : fiOf Tryd.prog 45 4 = some ⟨4, 1, false⟩ := by kernel_rfl
@[simp] theorem t_sz43 : szOf Tryd.prog 43 = some 1 := by kernel_rfl
@[simp] theorem t_agg43 : aggOf Tryd.prog 43 = false := by kernel_rfl
@[simp] theorem t_el43 : elOf Tryd.prog 43 = some 1 := by kernel_rfl
@[simp] theorem t_str43 : isStr Tryd.prog 43 = false := by kernel_rfl
@[simp] theorem t_call15 : callable Tryd.prog 15 = true := by kernel_rfl
@[simp] theorem t_call16 : callable Tryd.prog 16 = true := by kernel_rfl
@[simp] theorem t_fi45_0 : fiOf Tryd.prog 45 0 = some ⟨0, 1, false⟩ := by kernel_rfl
@[simp] theorem t_fi30_1 : fiOf Tryd.prog 30 1 = some ⟨1, 1, false⟩ := by kernel_rfl
@[simp] theorem t_fi30_2 : fiOf Tryd.prog 30 2 = some ⟨2, 1, false⟩ := by kernel_rfl
@[simp] theorem t_call18 : callable Tryd.prog 18 = true := by kernel_rfl
@[simp] theorem t_call17 : callable Tryd.prog 17 = true := by kernel_rfl
@[simp] theorem t_struct51 : isStruct Tryd.prog 51 = true := by kernel_rfl
@[simp] theorem t_sized51 : sized Tryd.prog 51 = true := by kernel_rfl
@[simp] theorem t_zero51 : zeroOf Tryd.prog 51 = some (.agg [(.int .i64 0), (.int .i64 0), (.int .i64 0), (.int .i64 0), (.int .i64 0), (.str [])]) := by kernel_rfl
@[simp] theorem t_fi51_0 : fiOf Tryd.prog 51 0 = some ⟨0, 1, false⟩ := by kernel_rfl
@[simp] theorem t_fi51_1 : fiOf Tryd.prog 51 1 = some ⟨1, 1, false⟩ := by kernel_rfl
@[simp] theorem t_fi51_2 : fiOf Tryd.prog 51 2 = some ⟨2, 1, false⟩ := by kernel_rfl
@[simp] theorem t_el52 : elOf Tryd.prog 52 = some 6 := by kernel_rfl
@[simp] theorem t_ez52 : elZero Tryd.prog 52 = some (.agg [(.int .i64 0), (.int .i64 0), (.int .i64 0), (.int .i64 0), (.int .i64 0), (.str [])]) := by kernel_rfl
@[simp] theorem t_ez43 : elZero Tryd.prog 43 = some .nilsl := by kernel_rfl
@[simp] theorem t_struct45 : isStruct Tryd.prog 45 = true := by kernel_rfl
@[simp] theorem t_sized45 : sized Tryd.prog 45 = true := by kernel_rfl
@[simp] theorem t_ez28 : elZero Tryd.prog 28 = some (.agg [(.str []), .nilsl, .nilsl, (.int .i64 0), .nilsl]) := by kernel_rfl
@[simp] theorem t_struct30 : isStruct Tryd.prog 30 = true := by kernel_rfl
@[simp] theorem t_sized30 : sized Tryd.prog 30 = true := by kernel_rfl
@[simp] theorem t_zero32 : zeroOf Tryd.prog 32 = some (.int .i64 0) := by kernel_rfl
@[simp] theorem t_sz32 : szOf Tryd.prog 32 = some 1 := by kernel_rfl
@[simp] theorem t_agg32 : aggOf Tryd.prog 32 = false := by kernel_rfl
@[simp] theorem t_call20 : callable Tryd.prog 20 = true := by kernel_rfl
@[simp] theorem t_struct55 : isStruct Tryd.prog 55 = true := by kernel_rfl
@[simp] theorem t_sized55 : sized Tryd.prog 55 = true := by kernel_rfl
@[simp] theorem t_zero55 : zeroOf Tryd.prog 55 = some (.agg [.nilsl, .nilsl, (.int .i64 0)]) := by kernel_rfl
@[simp] theorem t_fi55_0 : fiOf Tryd.prog 55 0 = some ⟨0, 1, false⟩ := by kernel_rfl
@[simp] theorem t_call21 : callable Tryd.prog 21 = true := by kernel_rfl
@[simp] theorem t_sz22 : szOf Tryd.prog 22 = some 1 := by kernel_rfl
@[simp] theorem t_agg22 : aggOf Tryd.prog 22 = false := by kernel_rfl
@[simp] theorem t_call23 : callable Tryd.prog 23 = true := by kernel_rfl
@[simp] theorem t_call24 : callable Tryd.prog 24 = true := by kernel_rfl
@[simp] theorem t_call25 : callable Tryd.prog 25 = true := by kernel_rfl
@[simp] theorem t_call22 : callable Tryd.prog 22 = true := by kernel_rfl
@[simp] theorem t_call26 : callable Tryd.prog 26 = true := by kernel_rfl
@[simp] theorem t_call27 : callable Tryd.prog 27 = true := by kernel_rfl
@[simp] theorem t_call28 : callable Tryd.prog 28 = true := by kernel_rfl
@[simp] theorem t_if9 : isIface Tryd.prog 9 = some false := by kernel_rfl
@[simp] theorem t_call29 : callable Tryd.prog 29 = true := by kernel_rfl
@[simp] theorem t_str38 : isStr Tryd.prog 38 = false := by kernel_rfl
@[simp] theorem t_sz52 : szOf Tryd.prog 52 = some 1 := by kernel_rfl
@[simp] theorem t_agg52 : aggOf Tryd.prog 52 = false := by kernel_rfl
@[simp] theorem t_str52 : isStr Tryd.prog 52 = false := by kernel_rfl
@[simp] theorem t_sz51 : szOf Tryd.prog 51 = some 6 := by kernel_rfl
@[simp] theorem t_agg51 : aggOf Tryd.prog 51 = true := by kernel_rfl
@[simp] theorem t_fi51_3 : fiOf Tryd.prog 51 3 = some ⟨3, 1, false⟩ := by kernel_rfl
@[simp] theorem t_fi51_4 : fiOf Tryd.prog 51 4 = some ⟨4, 1, false⟩ := by kernel_rfl
@[simp] theorem t_call30 : callable Tryd.prog 30 = true := by kernel_rfl
@[simp] theorem t_und22 : Tryd.prog.underlying 22 = some (.slice 5) := by kernel_rfl
@[simp] theorem t_call31 : callable Tryd.prog 31 = true := by kernel_rfl
@[simp] theorem t_call32 : callable Tryd.prog 32 = true := by kernel_rfl
@[simp] theorem t_call33 : callable Tryd.prog 33 = true := by kernel_rfl
@[simp] theorem t_call34 : callable Tryd.prog 34 = true := by kernel_rfl
@[simp] theorem t_call35 : callable Tryd.prog 35 = true := by kernel_rfl
@[simp] theorem t_if32 : isIface Tryd.prog 32 = some false := by kernel_rfl
@[simp] theorem t_zero26 : zeroOf Tryd.prog 26 = some .nilfn := by kernel_rfl
@[simp] theorem t_sz26 : szOf Tryd.prog 26 = some 1 := by kernel_rfl
@[simp] theorem t_agg26 : aggOf Tryd.prog 26 = false := by kernel_rfl
@[simp] theorem t_call38 : callable Tryd.prog 38 = true := by kernel_rfl
@[simp] theorem t_call37 : callable Tryd.prog 37 = true := by kernel_rfl
@[simp] theorem t_zero70 : zeroOf Tryd.prog 70 = some .nilfn := by kernel_rfl
@[simp] theorem t_sz70 : szOf Tryd.prog 70 = some 1 := by kernel_rfl
@[simp] theorem t_agg70 : aggOf Tryd.prog 70 = false := by kernel_rfl
@[simp] theorem t_call41 : callable Tryd.prog 41 = true := by kernel_rfl
@[simp] theorem t_und9 : Tryd.prog.underlying 9 = some .string := by kernel_rfl
@[simp] theorem t_call45 : callable Tryd.prog 45 = true := by kernel_rfl
@[simp] theorem t_ar75 : arOf Tryd.prog 75 = some (2, 1, false) := by kernel_rfl
@[simp] theorem t_str75 : isStr Tryd.prog 75 = false := by kernel_rfl
@[simp] theorem t_fi51_5 : fiOf Tryd.prog 51 5 = some ⟨5, 1, false⟩ := by kernel_rfl
@[simp] theorem t_call47 : callable Tryd.prog 47 = true := by kernel_rfl
@[simp] theorem t_call46 : callable Tryd.prog 46 = true := by kernel_rfl
@[simp] theorem t_sz78 : szOf Tryd.prog 78 = some 1 := by kernel_rfl
@[simp] theorem t_agg78 : aggOf Tryd.prog 78 = false := by kernel_rfl
@[simp] theorem t_el79 : elOf Tryd.prog 79 = some 1 := by kernel_rfl
@[simp] theorem t_ez79 : elZero Tryd.prog 79 = some .undef := by kernel_rfl
@[simp] theorem t_str79 : isStr Tryd.prog 79 = false := by kernel_rfl
@[simp] theorem t_call48 : callable Tryd.prog 48 = true := by kernel_rfl
@[simp] theorem t_eb28 : elBytes Tryd.prog 28 = some 96 := by kernel_rfl
@[simp] theorem t_str81 : isStr Tryd.prog 81 = false := by kernel_rfl
@[simp] theorem t_u8_81 : isU8 Tryd.prog 81 = false := by kernel_rfl
@[simp] theorem t_int81 : intOf? Tryd.prog 81 = some .u64 := by kernel_rfl
@[simp] theorem t_und81 : Tryd.prog.underlying 81 = some (.int .u64) := by kernel_rfl
@[simp] theorem t_some81 : (Tryd.prog.underlying 81).isSome = true := by kernel_rfl
@[simp] theorem t_fi55_2 : fiOf Tryd.prog 55 2 = some ⟨2, 1, false⟩ := by kernel_rfl
@[simp] theorem t_call49 : callable Tryd.prog 49 = true := by kernel_rfl
@[simp] theorem t_eb38 : elBytes Tryd.prog 38 = some 8 := by kernel_rfl
@[simp] theorem t_fi55_1 : fiOf Tryd.prog 55 1 = some ⟨1, 1, false⟩ := by kernel_rfl
@[simp] theorem t_call50 : callable Tryd.prog 50 = true := by kernel_rfl
@[simp] theorem t_call51 : callable Tryd.prog 51 = true := by kernel_rfl
@[simp] theorem t_call39 : callable Tryd.prog 39 = true := by kernel_rfl
@[simp] theorem t_call52 : callable Tryd.prog 52 = true := by kernel_rfl
@[simp] theorem t_call43 : callable Tryd.prog 43 = true := by kernel_rfl
@[simp] theorem t_call42 : callable Tryd.prog 42 = true := by kernel_rfl
@[simp] theorem t_call53 : callable Tryd.prog 53 = true := by kernel_rfl
@[simp] theorem t_call44 : callable Tryd.prog 44 = true := by kernel_rfl
@[simp] theorem t_call54 : callable Tryd.prog 54 = true := by kernel_rfl
@[simp] theorem t_call55 : callable Tryd.prog 55 = true := by kernel_rfl
@[simp] theorem t_call56 : callable Tryd.prog 56 = true := by kernel_rfl
@[simp] theorem t_ar91 : arOf Tryd.prog 91 = some (256, 1, false) := by kernel_rfl
@[simp] theorem t_str91 : isStr Tryd.prog 91 = false := by kernel_rfl
@[simp] theorem t_call57 : callable Tryd.prog 57 = true := by kernel_rfl
@[simp] theorem t_eb40 : elBytes Tryd.prog 40 = some 16 := by kernel_rfl
@[simp] theorem t_str24 : isStr Tryd.prog 24 = false := by kernel_rfl
@[simp] theorem t_u8_24 : isU8 Tryd.prog 24 = false := by kernel_rfl
@[simp] theorem t_int24 : intOf? Tryd.prog 24 = some .u64 := by kernel_rfl
@[simp] theorem t_call59 : callable Tryd.prog 59 = true := by kernel_rfl
@[simp] theorem t_und24 : Tryd.prog.underlying 24 = some (.int .u64) := by kernel_rfl
@[simp] theorem t_some24 : (Tryd.prog.underlying 24).isSome = true := by kernel_rfl
@[simp] theorem t_eb43 : elBytes Tryd.prog 43 = some 24 := by kernel_rfl
@[simp] theorem t_call60 : callable Tryd.prog 60 = true := by kernel_rfl
@[simp] theorem t_eb52 : elBytes Tryd.prog 52 = some 56 := by kernel_rfl
@[simp] theorem t_call61 : callable Tryd.prog 61 = true := by kernel_rfl
@[simp] theorem t_sz75 : szOf Tryd.prog 75 = some 2 := by kernel_rfl
@[simp] theorem t_agg75 : aggOf Tryd.prog 75 = true := by kernel_rfl
@[simp] theorem t_call65 : callable Tryd.prog 65 = true := by kernel_rfl
@[simp] theorem t_und51 : Tryd.prog.underlying 51 = some (.struct #[⟨ "Op", 3, 0, false, "", "", 0⟩, ⟨ "Type", 3, 1, false, "", "", 8⟩, ⟨ "N", 3, 2, false, "", "", 16⟩, ⟨ "Body", 3, 3, false, "", "", 24⟩, ⟨ "Other", 3, 4, false, "", "", 32⟩, ⟨ "S", 9, 5, false, "", "", 40⟩]) := by kernel_rfl
@[simp] theorem t_held51 : Tryd.prog.stoodInHeld 51 = false := by kernel_rfl
@[simp] theorem t_guard51 : Tryd.prog.eqGuardType Tryd.prog.depth 51 = false := by kernel_rfl
end Go.Proofs.YthejpoplbllcbaaDoor
