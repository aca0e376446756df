/- The planned texts of the functions, and facts on the program's types; written by a program; no condition. -/
import Derived.Test.YthejpoplbllcbaaGreatDoorChecked
import Derived.Test.YthejpoplbllcbaaGreatDoorAbsB
import Derived.KernelRfl
set_option maxRecDepth 100000
namespace Go.Proofs.YthejpoplbllcbaaGreatDoor
open Go Go.Abs
namespace Zz
def t (x : Nat) : Operand := .tmp x
def i (k : Int) : Operand := .const (.int .i64 k)
def S (l : List PO) (r : PC) : PC := .seq (.ops l) r
def C (x : Nat) (a b : PC) : PC := .cond (.tmp x) a b
def m (d x : Nat) : PO := ⟨some d, .move (.tmp x), none, []⟩
def l (d t x : Nat) : PO := ⟨some d, .load t (.tmp x), none, []⟩
def f (d t x i : Nat) : PO := ⟨some d, .fieldAddr t (.tmp x) i, none, []⟩
def n (d x : Nat) : PO := ⟨some d, .nilCheck (.tmp x), none, []⟩
def a (d x : Nat) : PO := ⟨some d, .assign (.tmp x), none, []⟩
def A (d : Nat) (v : Operand) : PO := ⟨some d, .assign v, none, []⟩
def x (d t x y : Nat) : PO := ⟨some d, .indexAddr t (.tmp x) (.tmp y), none, []⟩
def b (d : Nat) (o : BinOp) (t : Nat) (x y : Operand) (u : Nat) : PO := ⟨some d, .binOp o t x y u, none, []⟩
def c (d f : Nat) (xs : Array Operand) (ts : Array TypeId) : PO := ⟨some d, .call ⟨.value (.func f), xs, ts⟩, none, []⟩
def L (d x t : Nat) : PO := ⟨some d, .call ⟨.builtin .len, #[(.tmp x)], #[t]⟩, none, []⟩
def d (n : Nat) (o : Op) : PO := ⟨some n, o, none, []⟩
def s (t x y : Nat) : PO := ⟨none, .store t (.tmp x) (.tmp y), none, []⟩
def e (o : Op) : PO := ⟨none, o, none, []⟩
def w (n : Nat) (o : Op) (g : Nat) (v : Bool) : PO := ⟨some n, o, some (g, v), []⟩
end Zz
open Zz
variable {G : Env} {args : List AV} {σ : AS} {R : Out → AS → Prop}
theorem mixed : Tryz.prog.follows .mixedOrders = true := by kernel_rfl
def pc5 : PC := (⟨_, by delta A C S a b c d i l m s t w; exact rfl⟩ : { p : PC // p = S [d 2 (.box 27 (t 0)),A 4 (.const (.bool false))] (.seq (S [l 9 27 2,c 10
 19 #[t 9] #[27],m 11 10,w 12 (.load 27 (t 2)) 11 false,w 13 (.call ⟨.value (.func 20),#[t 12],#[27]⟩) 11 false,w 14 (.binOp .neq 28 (t 13) (i 0) 28) 11 false,d
 15 (.pick (t 11) (.const (.bool true)) (t 14))] (C 15 (S [c 16 6 #[] #[],a 4 16] .ret) .skip)) (S [l 17 27 2,c 18 21 #[t 17] #[27],d 5 (.alloc 27),s 27 5 18]
 (S [l 19 27 5,c 20 16 #[t 19] #[27],a 6 20] (S [l 21 27 5,c 22 16 #[t 21] #[27],a 7 22] (S [l 23 27 2,c 24 22 #[t 23] #[27],a 8 24] (.seq (S [m 25 6,m 26 8,c
 27 14 #[t 25,t 26] #[22,22],d 28 (.unOp .not 4 (t 27)),m 29 28,w 30 (.load 27 (t 5)) 29 false,w 31 (.load 27 (t 2)) 29 false,w 32 (.call ⟨.value (.func 10),#[t
 30,t 31],#[27,27]⟩) 29 false,w 33 (.unOp .not 4 (t 32)) 29 false,d 34 (.pick (t 29) (.const (.bool true)) (t 33)),m 35 34,w 36 (.move (t 1)) 35 false,w 37
 (.call ⟨.value (.func 13),#[t 36],#[3]⟩) 35 false,w 38 (.move (t 1)) 35 false,w 39 (.call ⟨.value (.func 23),#[t 38],#[3]⟩) 35 false,w 40 (.call ⟨.value (.func
 14),#[t 37,t 39],#[22,22]⟩) 35 false,w 41 (.unOp .not 4 (t 40)) 35 false,d 42 (.pick (t 35) (.const (.bool true)) (t 41))] (C 42 (S [A 4 (.const (.bool
 false))] .ret) .skip)) (S [m 43 6,c 44 24 #[t 43] #[22]] (S [m 45 1,b 46 .lss 3 (t 45) (i 0) 3,m 47 46,w 48 (.move (t 1)) 47 false,w 49 (.call ⟨.value (.func
 15),#[t 48],#[3]⟩) 47 false,w 50 (.move (t 1)) 47 false,w 51 (.call ⟨.value (.func 25),#[t 50],#[3]⟩) 47 false,w 52 (.call ⟨.value (.func 14),#[t 49,t
 51],#[22,22]⟩) 47 false,d 53 (.pick (t 47) (.const (.bool true)) (t 52)),m 54 53,w 55 (.move (t 7)) 54 true,w 56 (.move (t 8)) 54 true,w 57 (.call ⟨.value
 (.func 14),#[t 55,t 56],#[22,22]⟩) 54 true,d 58 (.pick (t 54) (t 57) (.const (.bool false))),m 59 58,w 60 (.call ⟨.value (.func 6),#[],#[]⟩) 59 true,d 61
 (.pick (t 59) (t 60) (.const (.bool false))),a 4 61] .ret)))))))) }).1
theorem calls5 (hn : args.length = 2) (h : avc Tryz.prog G 62 pc5 (afin Tryz.prog [.tmp 4] R) (frame0 args) σ) : ACalls Tryz.prog G 5 args σ R :=
  acalls' (n := 62) (l := [.tmp 4]) mixed Tryz.func5 (by kernel_rfl) (by kernel_rfl) (by kernel_rfl) (by omega) h
def pc6 : PC := (⟨_, by delta A S a c d i m s t w; exact rfl⟩ : { p : PC // p = S [A 0 (.const (.bool false))] (S [c 4 17 #[] #[],c 5 16 #[t 4] #[27],a 1 5] (S
 [m 7 1,c 8 8 #[t 7] #[22],m 6 8,d 9 (.extract (t 6) 0),d 10 (.extract (t 6) 1),d 2 (.alloc 27),s 27 2 9,a 3 10] (S [d 12 (.buildSlice 22 3 #[(0,.const (.int
 .u8 229)),(1,.const (.int .u8 142)),(2,.const (.int .u8 38))]),c 11 15 #[i 624485] #[3],c 13 14 #[t 11,t 12] #[22,22],m 14 13,w 16 (.buildSlice 22 3
 #[(0,.const (.int .u8 192)),(1,.const (.int .u8 187)),(2,.const (.int .u8 120))]) 14 true,w 15 (.call ⟨.value (.func 13),#[i (-123456)],#[3]⟩) 14 true,w 17
 (.call ⟨.value (.func 14),#[t 15,t 16],#[22,22]⟩) 14 true,d 18 (.pick (t 14) (t 17) (.const (.bool false))),m 19 18,w 20 (.move (t 3)) 19 true,w 21 (.binOp
 .eql 28 (t 20) (i 0) 28) 19 true,d 22 (.pick (t 19) (t 21) (.const (.bool false))),m 23 22,w 24 (.load 27 (t 2)) 23 true,⟨some 25,.call ⟨.value (.func
 17),#[],#[]⟩,some (23,true),[⟨some (23,true),27,t 2,24⟩]⟩,w 26 (.call ⟨.value (.func 10),#[t 24,t 25],#[27,27]⟩) 23 true,d 27 (.pick (t 23) (t 26) (.const
 (.bool false))),m 28 27,w 29 (.move (t 1)) 28 true,w 30 (.call ⟨.builtin .len,#[t 29],#[22]⟩) 28 true,w 31 (.binOp .gtr 3 (t 30) (i 8) 3) 28 true,d 32 (.pick
 (t 28) (t 31) (.const (.bool false))),m 33 32,w 34 (.move (t 1)) 33 true,w 35 (.indexAddr 22 (t 34) (i 1)) 33 true,w 36 (.load 5 (t 35)) 33 true,w 37 (.binOp
 .eql 5 (t 36) (.const (.int .u8 97)) 5) 33 true,d 38 (.pick (t 33) (t 37) (.const (.bool false))),a 0 38] .ret))) }).1
theorem calls6 (hn : args.length = 0) (h : avc Tryz.prog G 39 pc6 (afin Tryz.prog [.tmp 0] R) (frame0 args) σ) : ACalls Tryz.prog G 6 args σ R :=
  acalls' (n := 39) (l := [.tmp 0]) mixed Tryz.func6 (by kernel_rfl) (by kernel_rfl) (by kernel_rfl) (by omega) h
def pc8_x : PC := (⟨_, by delta d; exact rfl⟩ : { p : PC // p = .ops [d 2 (.alloc 27),d 3 (.alloc 28)] }).1
def pc8_z : PC := (⟨_, by delta L S a b c d e f i l m n s t w; exact rfl⟩ : { p : PC // p = S [m 6 0,c 7 28 #[t 6] #[22],d 8 (.build 51 #[(0,t 7)]),d 9 (.box 51
 (t 8)),a 4 9] (S [m 10 4,c 11 29 #[t 10] #[48],s 27 2 11] (S [m 12 4,n 13 12,f 14 51 13 0,l 15 22 14,L 16 15 22,b 17 .eql 3 (t 16) (i 0) 3,m 18 17,w 19 (.load
 27 (t 2)) 18 true,w 20 (.call ⟨.value (.func 31),#[t 19],#[27]⟩) 18 true,d 21 (.pick (t 18) (t 20) (.const (.bool false))),m 22 21,w 23 (.load 27 (t 2)) 22
 true,w 24 (.call ⟨.value (.func 32),#[t 23],#[27]⟩) 22 true,d 25 (.pick (t 22) (t 24) (.const (.bool false))),m 26 25,w 27 (.load 27 (t 2)) 26 true,w 28 (.call
 ⟨.value (.func 16),#[t 27],#[27]⟩) 26 true,w 29 (.move (t 0)) 26 true,w 30 (.call ⟨.value (.func 33),#[t 28,t 29],#[22,22]⟩) 26 true,d 31 (.pick (t 26) (t 30)
 (.const (.bool false))),c 32 30 #[t 31,i 2] #[4,28]] (S [l 33 27 2,s 27 2 33,e (.store 28 (t 3) (i 0))] .ret))) }).1
def pc10 : PC := (⟨_, by delta A S a b d f l m t w; exact rfl⟩ : { p : PC // p = S [d 2 (.box 27 (t 0)),d 3 (.box 27 (t 1)),A 4 (.const (.bool false))] (S [f 5
 27 2 1,l 6 3 5,f 7 27 3 1,l 8 3 7,b 9 .eql 3 (t 6) (t 8) 3,m 10 9,w 11 (.fieldAddr 27 (t 2) 2) 10 true,w 12 (.load 3 (t 11)) 10 true,w 13 (.fieldAddr 27 (t 3)
 2) 10 true,w 14 (.load 3 (t 13)) 10 true,w 15 (.binOp .eql 3 (t 12) (t 14) 3) 10 true,d 16 (.pick (t 10) (t 15) (.const (.bool false))),m 17 16,w 18
 (.fieldAddr 27 (t 2) 0) 17 true,w 19 (.load 25 (t 18)) 17 true,w 20 (.fieldAddr 27 (t 3) 0) 17 true,w 21 (.load 25 (t 20)) 17 true,w 22 (.call ⟨.value (.func
 35),#[t 19,t 21],#[25,25]⟩) 17 true,d 23 (.pick (t 17) (t 22) (.const (.bool false))),a 4 23] .ret) }).1
theorem calls10 (hn : args.length = 2) (h : avc Tryz.prog G 24 pc10 (afin Tryz.prog [.tmp 4] R) (frame0 args) σ) : ACalls Tryz.prog G 10 args σ R :=
  acalls' (n := 24) (l := [.tmp 4]) mixed Tryz.func10 (by kernel_rfl) (by kernel_rfl) (by kernel_rfl) (by omega) h
def pc13_l1 : PC := (⟨_, by delta C S a b d i m t w; exact rfl⟩ : { p : PC // p = .seq (S [m 4 0,b 5 .lss 3 (t 4) (i (-64)) 3,m 6 5,w 7 (.move (t 0)) 6 false,w
 8 (.binOp .gtr 3 (t 7) (i 63) 3) 6 false,d 9 (.pick (t 6) (.const (.bool true)) (t 8))] (C 9 .skip (.exit 0))) (.seq (.block 1 (.ops [m 12 3,m 13 0,d 14
 (.convert 3 5 (t 13)),b 15 .or 5 (t 14) (.const (.int .u8 128)) 5,d 16 (.buildSlice 22 1 #[(0,t 15)]),d 17 (.call ⟨.builtin .append,#[t 12,t 16],#[22,22]⟩),a 3
 17])) (.ops [m 10 0,b 11 .shr 3 (t 10) (.const (.int .u64 7)) 41,a 0 11])) }).1
def pc13_r1 : PC := (⟨_, by delta S a b d m t; exact rfl⟩ : { p : PC // p = S [m 18 3,m 19 0,d 20 (.convert 3 5 (t 19)),b 21 .and 5 (t 20) (.const (.int .u8
 127)) 5,d 22 (.buildSlice 22 1 #[(0,t 21)]),d 23 (.call ⟨.builtin .append,#[t 18,t 22],#[22,22]⟩),a 2 23] .ret }).1
def pc13 : PC := (⟨_, by delta A S; exact rfl⟩ : { p : PC // p = S [A 2 (.const (.slice none 0 0))] (S [A 3 (.const (.slice none 0 0))] (.seq (.block 0 (.loop
 pc13_l1)) pc13_r1)) }).1
theorem calls13 (hn : args.length = 1) (h : avc Tryz.prog G 24 pc13 (afin Tryz.prog [.tmp 2] R) (frame0 args) σ) : ACalls Tryz.prog G 13 args σ R :=
  acalls' (n := 24) (l := [.tmp 2]) mixed Tryz.func13 (by kernel_rfl) (by kernel_rfl) (by kernel_rfl) (by omega) h
def pc14_l1 : PC := (⟨_, by delta A C L S a b d i l m t x; exact rfl⟩ : { p : PC // p = .seq (S [m 11 5,m 12 0,L 13 12 22,b 14 .lss 3 (t 11) (t 13) 3] (C 14
 .skip (.exit 0))) (.seq (.block 1 (S [m 17 0,m 18 5,x 19 22 17 18,l 20 5 19,m 21 1,m 22 5,x 23 22 21 22,l 24 5 23,b 25 .eql 5 (t 20) (t 24) 5,d 26 (.unOp .not
 4 (t 25))] (C 26 (S [A 4 (.const (.bool false))] .ret) .skip))) (.ops [m 15 5,b 16 .add 3 (t 15) (i 1) 3,a 5 16])) }).1
def pc14_r1 : PC := (⟨_, by delta A S; exact rfl⟩ : { p : PC // p = S [A 4 (.const (.bool true))] .ret }).1
def pc14 : PC := (⟨_, by delta A C L S b i m t; exact rfl⟩ : { p : PC // p = S [A 4 (.const (.bool false))] (.seq (S [m 6 0,L 7 6 22,m 8 1,L 9 8 22,b 10 .neq 3
 (t 7) (t 9) 3] (C 10 (S [A 4 (.const (.bool false))] .ret) .skip)) (.seq (S [A 5 (i 0)] (.block 0 (.loop pc14_l1))) pc14_r1)) }).1
theorem calls14 (hn : args.length = 2) (h : avc Tryz.prog G 27 pc14 (afin Tryz.prog [.tmp 4] R) (frame0 args) σ) : ACalls Tryz.prog G 14 args σ R :=
  acalls' (n := 27) (l := [.tmp 4]) mixed Tryz.func14 (by kernel_rfl) (by kernel_rfl) (by kernel_rfl) (by omega) h
def pc15_l1 : PC := (⟨_, by delta C S a b d i m t; exact rfl⟩ : { p : PC // p = .seq (S [m 4 0,b 5 .gtr 3 (t 4) (i 127) 3] (C 5 .skip (.exit 0))) (.seq (.block
 1 (.ops [m 8 3,m 9 0,d 10 (.convert 3 5 (t 9)),b 11 .or 5 (t 10) (.const (.int .u8 128)) 5,d 12 (.buildSlice 22 1 #[(0,t 11)]),d 13 (.call ⟨.builtin
 .append,#[t 8,t 12],#[22,22]⟩),a 3 13])) (.ops [m 6 0,b 7 .shr 3 (t 6) (.const (.int .u64 7)) 41,a 0 7])) }).1
def pc15_r1 : PC := (⟨_, by delta S a d m t; exact rfl⟩ : { p : PC // p = S [m 14 3,m 15 0,d 16 (.convert 3 5 (t 15)),d 17 (.buildSlice 22 1 #[(0,t 16)]),d 18
 (.call ⟨.builtin .append,#[t 14,t 17],#[22,22]⟩),a 2 18] .ret }).1
def pc15 : PC := (⟨_, by delta A S; exact rfl⟩ : { p : PC // p = S [A 2 (.const (.slice none 0 0))] (S [A 3 (.const (.slice none 0 0))] (.seq (.block 0 (.loop
 pc15_l1)) pc15_r1)) }).1
theorem calls15 (hn : args.length = 1) (h : avc Tryz.prog G 19 pc15 (afin Tryz.prog [.tmp 2] R) (frame0 args) σ) : ACalls Tryz.prog G 15 args σ R :=
  acalls' (n := 19) (l := [.tmp 2]) mixed Tryz.func15 (by kernel_rfl) (by kernel_rfl) (by kernel_rfl) (by omega) h
def pc16_l1 : PC := (⟨_, by delta C S a b c d i l m t x; exact rfl⟩ : { p : PC // p = S [b 21 .lss 3 (t 20) (t 19) 3] (.seq (C 21 .skip (.exit 0)) (.seq (.block
 1 (S [m 22 20,x 23 66 18 20,l 24 9 23,a 8 22,a 9 24] (.ops [m 25 4,d 26 (.buildSlice 22 3 #[(0,.const (.int .u8 101)),(1,.const (.int .u8 110)),(2,.const (.int
 .u8 118))]),d 27 (.convert 22 22 (t 26)),c 28 42 #[t 27] #[22],m 29 9,d 30 (.convert 9 22 (t 29)),c 31 42 #[t 30] #[22],m 32 8,d 33 (.convert 3 5 (t 32)),d 34
 (.buildSlice 22 2 #[(0,.const (.int .u8 0)),(1,t 33)]),d 35 (.buildSlice 65 3 #[(0,t 28),(1,t 31),(2,t 34)]),c 36 41 #[t 35] #[65],d 37 (.buildSlice 65 1
 #[(0,t 36)]),d 38 (.call ⟨.builtin .append,#[t 25,t 37],#[65,65]⟩),a 4 38]))) (.ops [b 39 .add 3 (t 20) (i 1) 3,m 20 39]))) }).1
def pc16_l2 : PC := (⟨_, by delta C L S a b c d f i l m s t x; exact rfl⟩ : { p : PC // p = S [b 44 .lss 3 (t 43) (t 42) 3] (.seq (C 44 .skip (.exit 2)) (.seq
 (.block 3 (S [m 45 43,x 46 25 41 43,l 47 59 46,d 11 (.alloc 59),a 10 45,s 59 11 47] (S [m 48 3,f 49 59 11 1,l 50 38 49,f 51 59 11 3,l 52 3 51,c 53 40 #[t 50,t
 52] #[38,3],d 54 (.buildSlice 65 1 #[(0,t 53)]),d 55 (.call ⟨.builtin .append,#[t 48,t 54],#[65,65]⟩),a 3 55] (S [m 56 5,m 57 10,b 58 .add 3 (t 57) (i 3) 3,c
 59 15 #[t 58] #[3],d 60 (.buildSlice 65 1 #[(0,t 59)]),d 61 (.call ⟨.builtin .append,#[t 56,t 60],#[65,65]⟩),a 5 61] (S [m 62 6,f 63 59 11 2,l 64 38 63,l 66 59
 11,f 67 59 11 4,l 68 49 67,L 69 68 49,b 70 .sub 3 (t 69) (i 1) 3,d 72 (.buildSlice 22 1 #[(0,.const (.int .u8 11))]),⟨some 65,.call ⟨.value (.func 43),#[t
 64],#[38]⟩,none,[⟨none,59,t 11,66⟩,⟨none,49,t 67,68⟩]⟩,c 71 44 #[t 66,t 70] #[59,3],d 73 (.buildSlice 65 3 #[(0,t 65),(1,t 71),(2,t 72)]),c 74 41 #[t 73]
 #[65],c 75 42 #[t 74] #[22],d 76 (.buildSlice 65 1 #[(0,t 75)]),d 77 (.call ⟨.builtin .append,#[t 62,t 76],#[65,65]⟩),a 6 77] (.both [[m 78 7,m 79 10,b 80 .add
 3 (t 79) (i 3) 3,f 82 59 11 0,l 83 9 82,⟨some 81,.call ⟨.value (.func 15),#[t 80],#[3]⟩,none,[⟨none,9,t 82,83⟩]⟩,d 84 (.convert 9 22 (t 83)),c 85 42 #[t 84]
 #[22],d 86 (.call ⟨.builtin .append,#[t 81,t 85],#[22,22]⟩),d 87 (.buildSlice 65 1 #[(0,t 86)]),d 88 (.call ⟨.builtin .append,#[t 78,t 87],#[65,65]⟩),a 7
 88],[m 78 7,m 79 10,b 80 .add 3 (t 79) (i 3) 3,f 82 59 11 0,l 83 9 82,d 84 (.convert 9 22 (t 83)),c 81 15 #[t 80] #[3],c 85 42 #[t 84] #[22],d 86 (.call
 ⟨.builtin .append,#[t 81,t 85],#[22,22]⟩),d 87 (.buildSlice 65 1 #[(0,t 86)]),d 88 (.call ⟨.builtin .append,#[t 78,t 87],#[65,65]⟩),a 7 88]])))))) (.ops [b 89
 .add 3 (t 43) (i 1) 3,m 43 89]))) }).1
def pc16_r1 : PC := (⟨_, by delta S a b c d f i l m t; exact rfl⟩ : { p : PC // p = S [d 90 (.buildSlice 22 8 #[(0,.const (.int .u8 0)),(1,.const (.int .u8
 97)),(2,.const (.int .u8 115)),(3,.const (.int .u8 109)),(4,.const (.int .u8 1)),(5,.const (.int .u8 0)),(6,.const (.int .u8 0)),(7,.const (.int .u8 0))]),d 91
 (.convert 22 22 (t 90)),m 92 3,m 96 4,m 100 5,d 104 (.buildSlice 22 3 #[(0,.const (.int .u8 1)),(1,.const (.int .u8 0)),(2,.const (.int .u8 1))]),d 105
 (.buildSlice 65 1 #[(0,t 104)]),d 107 (.buildSlice 22 4 #[(0,.const (.int .u8 1)),(1,.const (.int .u8 127)),(2,.const (.int .u8 0)),(3,.const (.int .u8
 65))]),f 108 27 1 1,l 109 3 108,d 111 (.buildSlice 22 1 #[(0,.const (.int .u8 11))]),d 114 (.buildSlice 22 1 #[(0,.const (.int .u8 1))]),d 115 (.buildSlice 22
 4 #[(0,.const (.int .u8 109)),(1,.const (.int .u8 97)),(2,.const (.int .u8 105)),(3,.const (.int .u8 110))]),d 116 (.convert 22 22 (t 115)),d 118 (.buildSlice
 22 1 #[(0,.const (.int .u8 0))]),f 119 27 1 2,l 120 3 119,b 121 .add 3 (t 120) (i 3) 3,m 125 6,d 129 (.buildSlice 22 4 #[(0,.const (.int .u8 110)),(1,.const
 (.int .u8 97)),(2,.const (.int .u8 109)),(3,.const (.int .u8 101))]),d 130 (.convert 22 22 (t 129)),d 132 (.buildSlice 22 1 #[(0,.const (.int .u8 1))]),m 133
 7,⟨some 93,.call ⟨.value (.func 46),#[t 92],#[65]⟩,none,[⟨none,3,t 108,109⟩,⟨none,3,t 119,120⟩]⟩,d 94 (.buildSlice 65 1 #[(0,t 93)]),⟨some 95,.call ⟨.value
 (.func 45),#[.const (.int .u8 1),t 94],#[5,65]⟩,none,[⟨none,3,t 108,109⟩,⟨none,3,t 119,120⟩]⟩,⟨some 97,.call ⟨.value (.func 46),#[t 96],#[65]⟩,none,[⟨none,3,t
 108,109⟩,⟨none,3,t 119,120⟩]⟩,d 98 (.buildSlice 65 1 #[(0,t 97)]),⟨some 99,.call ⟨.value (.func 45),#[.const (.int .u8 2),t 98],#[5,65]⟩,none,[⟨none,3,t
 108,109⟩,⟨none,3,t 119,120⟩]⟩,⟨some 101,.call ⟨.value (.func 46),#[t 100],#[65]⟩,none,[⟨none,3,t 108,109⟩,⟨none,3,t 119,120⟩]⟩,d 102 (.buildSlice 65 1 #[(0,t
 101)]),⟨some 103,.call ⟨.value (.func 45),#[.const (.int .u8 3),t 102],#[5,65]⟩,none,[⟨none,3,t 108,109⟩,⟨none,3,t 119,120⟩]⟩,⟨some 106,.call ⟨.value (.func
 45),#[.const (.int .u8 5),t 105],#[5,65]⟩,none,[⟨none,3,t 108,109⟩,⟨none,3,t 119,120⟩]⟩,⟨some 110,.call ⟨.value (.func 13),#[t 109],#[3]⟩,none,[⟨none,3,t
 119,120⟩]⟩,d 112 (.buildSlice 65 3 #[(0,t 107),(1,t 110),(2,t 111)]),⟨some 113,.call ⟨.value (.func 45),#[.const (.int .u8 6),t 112],#[5,65]⟩,none,[⟨none,3,t
 119,120⟩]⟩,⟨some 117,.call ⟨.value (.func 42),#[t 116],#[22]⟩,none,[⟨none,3,t 119,120⟩]⟩,c 122 15 #[t 121] #[3],d 123 (.buildSlice 65 4 #[(0,t 114),(1,t
 117),(2,t 118),(3,t 122)]),c 124 45 #[.const (.int .u8 7),t 123] #[5,65],c 126 46 #[t 125] #[65],d 127 (.buildSlice 65 1 #[(0,t 126)]),c 128 45 #[.const (.int
 .u8 10),t 127] #[5,65],c 131 42 #[t 130] #[22],c 134 46 #[t 133] #[65],c 135 42 #[t 134] #[22],d 136 (.buildSlice 65 3 #[(0,t 131),(1,t 132),(2,t 135)]),c 137
 45 #[.const (.int .u8 0),t 136] #[5,65],d 138 (.buildSlice 65 9 #[(0,t 91),(1,t 95),(2,t 99),(3,t 103),(4,t 106),(5,t 113),(6,t 124),(7,t 128),(8,t 137)]),c
 139 41 #[t 138] #[65],a 2 139] .ret }).1
def pc16_r2 : PC := (⟨_, by delta L S d f i l; exact rfl⟩ : { p : PC // p = .seq (S [f 40 27 1 0,l 41 25 40,L 42 41 25,d 43 (.move (i 0))] (.block 2 (.loop
 pc16_l2))) pc16_r1 }).1
def pc16 : PC := (⟨_, by delta A L S a c d i t; exact rfl⟩ : { p : PC // p = S [d 1 (.box 27 (t 0)),A 2 (.const (.slice none 0 0))] (S [c 12 40 #[.const (.slice
 none 0 0),i 2] #[38,3],d 13 (.buildSlice 38 1 #[(0,i 2)]),c 14 40 #[t 13,i 0] #[38,3],d 15 (.buildSlice 38 1 #[(0,i 1)]),c 16 40 #[t 15,i 0] #[38,3],d 17
 (.buildSlice 65 3 #[(0,t 12),(1,t 14),(2,t 16)]),a 3 17] (S [A 4 (.const (.slice none 0 0)),A 5 (.const (.slice none 0 0)),A 6 (.const (.slice none 0 0)),A 7
 (.const (.slice none 0 0))] (.seq (S [d 18 (.buildSlice 66 3 #[(0,.const (.string ⟨#[105,110]⟩)),(1,.const (.string ⟨#[111,117,116]⟩)),(2,.const (.string
 ⟨#[116,114,97,112]⟩))]),L 19 18 66,d 20 (.move (i 0))] (.block 0 (.loop pc16_l1))) pc16_r2))) }).1
theorem calls16 (hn : args.length = 1) (h : avc Tryz.prog G 140 pc16 (afin Tryz.prog [.tmp 2] R) (frame0 args) σ) : ACalls Tryz.prog G 16 args σ R :=
  acalls' (n := 140) (l := [.tmp 2]) mixed Tryz.func16 (by kernel_rfl) (by kernel_rfl) (by kernel_rfl) (by omega) h
def pc17 : PC := (⟨_, by delta S d i s t; exact rfl⟩ : { p : PC // p = S [d 0 (.alloc 27)] (S [d 1 (.build 73 #[(0,i 1),(1,i 1),(2,i 7)]),d 2 (.buildSlice 61 1
 #[(0,t 1)]),d 3 (.buildSlice 49 1 #[(0,t 2)]),d 4 (.build 59 #[(0,.const (.string ⟨#[102]⟩)),(3,i 1),(4,t 3)]),d 5 (.buildSlice 25 1 #[(0,t 4)]),d 6 (.build 27
 #[(1,i 16),(0,t 5)]),s 27 0 6] .ret) }).1
theorem calls17 (hn : args.length = 0) (h : avc Tryz.prog G 7 pc17 (afin Tryz.prog [.cell 0 27] R) (frame0 args) σ) : ACalls Tryz.prog G 17 args σ R :=
  acalls' (n := 7) (l := [.cell 0 27]) mixed Tryz.func17 (by kernel_rfl) (by kernel_rfl) (by kernel_rfl) (by omega) h
def pc19_l1 : PC := (⟨_, by delta C L S a b f i l m t x; exact rfl⟩ : { p : PC // p = .seq (S [m 36 6,f 37 59 5 4,l 38 49 37,L 39 38 49,b 40 .lss 3 (t 36) (t
 39) 3] (C 40 .skip (.exit 2))) (.seq (.block 3 (.ops [m 43 3,f 44 59 5 4,l 45 49 44,m 46 6,x 47 49 45 46,l 48 61 47,L 49 48 61,b 50 .add 3 (t 43) (t 49) 3,a 3
 50])) (.ops [m 41 6,b 42 .add 3 (t 41) (i 1) 3,a 6 42])) }).1
def pc19_r1 : PC := (⟨_, by delta A C S b d i m t w; exact rfl⟩ : { p : PC // p = S [m 51 3,b 52 .gtr 3 (t 51) (i 3000) 3,m 53 52,w 54 (.fieldAddr 59 (t 5) 4)
 53 false,w 55 (.load 49 (t 54)) 53 false,w 56 (.call ⟨.builtin .len,#[t 55],#[49]⟩) 53 false,w 57 (.binOp .gtr 3 (t 56) (i 300) 3) 53 false,d 58 (.pick (t 53)
 (.const (.bool true)) (t 57))] (C 58 (S [A 2 (.const (.bool true))] .ret) .skip) }).1
def pc19_r2 : PC := (⟨_, by delta a b i m t; exact rfl⟩ : { p : PC // p = .ops [m 16 4,b 17 .add 3 (t 16) (i 1) 3,a 4 17] }).1
def pc19_l2 : PC := (⟨_, by delta A C L S a b d f i l m s t x; exact rfl⟩ : { p : PC // p = .seq (S [m 11 4,f 12 27 1 0,l 13 25 12,L 14 13 25,b 15 .lss 3 (t 11)
 (t 14) 3] (C 15 .skip (.exit 0))) (.seq (.block 1 (S [f 18 27 1 0,l 19 25 18,m 20 4,x 21 25 19 20,l 22 59 21,d 5 (.alloc 59),s 59 5 22] (S [m 23 3,f 24 59 5
 1,l 25 38 24,L 26 25 38,b 27 .add 3 (t 23) (t 26) 3,f 28 59 5 2,l 29 38 28,L 30 29 38,b 31 .add 3 (t 27) (t 30) 3,f 32 59 5 4,l 33 49 32,L 34 33 49,b 35 .add 3
 (t 31) (t 34) 3,a 3 35] (.seq (S [A 6 (i 0)] (.block 2 (.loop pc19_l1))) pc19_r1)))) pc19_r2) }).1
def pc19_r3 : PC := (⟨_, by delta A S; exact rfl⟩ : { p : PC // p = S [A 2 (.const (.bool false))] .ret }).1
def pc19 : PC := (⟨_, by delta A C L S b d f i l t; exact rfl⟩ : { p : PC // p = S [d 1 (.box 27 (t 0)),A 2 (.const (.bool false))] (.seq (S [f 7 27 1 0,l 8 25
 7,L 9 8 25,b 10 .gtr 3 (t 9) (i 12) 3] (C 10 (S [A 2 (.const (.bool true))] .ret) .skip)) (S [A 3 (i 0)] (.seq (S [A 4 (i 0)] (.block 0 (.loop pc19_l2)))
 pc19_r3))) }).1
theorem calls19 (hn : args.length = 1) (h : avc Tryz.prog G 59 pc19 (afin Tryz.prog [.tmp 2] R) (frame0 args) σ) : ACalls Tryz.prog G 19 args σ R :=
  acalls' (n := 59) (l := [.tmp 2]) mixed Tryz.func19 (by kernel_rfl) (by kernel_rfl) (by kernel_rfl) (by omega) h
def pc20_x : PC := (⟨_, by delta d t; exact rfl⟩ : { p : PC // p = .ops [d 1 (.box 27 (t 0)),d 2 (.alloc 28)] }).1
def pc20_z_l1 : PC := (⟨_, by delta C S b c d i l m s t x; exact rfl⟩ : { p : PC // p = S [b 19 .lss 3 (t 18) (t 17) 3] (.seq (C 19 .skip (.exit 0)) (.seq
 (.block 1 (S [x 20 25 16 18,l 21 59 20,d 4 (.alloc 59),s 59 4 21] (.ops [l 22 27 1,l 23 59 4,d 24 (.build 78 #[(0,t 22),(1,t 23)]),d 25 (.box 78 (t 24)),c 26
 49 #[t 25] #[76]]))) (.ops [b 27 .add 3 (t 18) (i 1) 3,m 18 27]))) }).1
def pc20_z_r1 : PC := (⟨_, by delta S b c d e f i l m t w; exact rfl⟩ : { p : PC // p = S [f 28 27 1 2,l 29 3 28,b 30 .geq 3 (t 29) (i 0) 3,m 31 30,w 32
 (.fieldAddr 27 (t 1) 2) 31 true,w 33 (.load 3 (t 32)) 31 true,w 34 (.fieldAddr 27 (t 1) 0) 31 true,w 35 (.load 25 (t 34)) 31 true,w 36 (.call ⟨.builtin
 .len,#[t 35],#[25]⟩) 31 true,w 37 (.binOp .lss 3 (t 33) (t 36) 3) 31 true,d 38 (.pick (t 31) (t 37) (.const (.bool false))),m 39 38,w 40 (.fieldAddr 27 (t 1)
 0) 39 true,w 41 (.load 25 (t 40)) 39 true,w 42 (.fieldAddr 27 (t 1) 2) 39 true,w 43 (.load 3 (t 42)) 39 true,w 44 (.indexAddr 25 (t 41) (t 43)) 39 true,w 45
 (.fieldAddr 59 (t 44) 3) 39 true,w 46 (.load 3 (t 45)) 39 true,w 47 (.binOp .eql 3 (t 46) (i 1) 3) 39 true,d 48 (.pick (t 39) (t 47) (.const (.bool false))),m
 49 48,w 50 (.fieldAddr 27 (t 1) 0) 49 true,w 51 (.load 25 (t 50)) 49 true,w 52 (.fieldAddr 27 (t 1) 2) 49 true,w 53 (.load 3 (t 52)) 49 true,w 54 (.indexAddr
 25 (t 51) (t 53)) 49 true,w 55 (.fieldAddr 59 (t 54) 1) 49 true,w 56 (.load 38 (t 55)) 49 true,w 57 (.call ⟨.builtin .len,#[t 56],#[38]⟩) 49 true,w 58 (.binOp
 .eql 3 (t 57) (i 0) 3) 49 true,d 59 (.pick (t 49) (t 58) (.const (.bool false))),c 60 48 #[t 59,i 12] #[4,28]] (S [e (.store 28 (t 2) (i 0))] .ret) }).1
def pc20_z : PC := (⟨_, by delta L S b c d f i l m t w; exact rfl⟩ : { p : PC // p = S [f 6 27 1 1,l 7 3 6,b 8 .geq 3 (t 7) (i 0) 3,m 9 8,w 10 (.fieldAddr 27 (t
 1) 1) 9 true,w 11 (.load 3 (t 10)) 9 true,w 12 (.binOp .leq 3 (t 11) (i 4096) 3) 9 true,d 13 (.pick (t 9) (t 12) (.const (.bool false))),c 14 48 #[t 13,i 11]
 #[4,28]] (.seq (S [f 15 27 1 0,l 16 25 15,L 17 16 25,d 18 (.move (i 0))] (.block 0 (.loop pc20_z_l1))) pc20_z_r1) }).1
def pc21 : PC := (⟨_, by delta S c d f l s t; exact rfl⟩ : { p : PC // p = S [d 1 (.box 27 (t 0)),d 2 (.alloc 27)] (S [f 3 27 1 0,l 4 25 3,c 5 50 #[t 4] #[25],f
 6 27 1 0,s 25 6 5] (S [l 7 27 1,s 27 2 7] .ret)) }).1
theorem calls21 (hn : args.length = 1) (h : avc Tryz.prog G 8 pc21 (afin Tryz.prog [.cell 2 27] R) (frame0 args) σ) : ACalls Tryz.prog G 21 args σ R :=
  acalls' (n := 8) (l := [.cell 2 27]) mixed Tryz.func21 (by kernel_rfl) (by kernel_rfl) (by kernel_rfl) (by omega) h
def pc22_l1 : PC := (⟨_, by delta C L S a b c d f i l m s t x; exact rfl⟩ : { p : PC // p = .seq (S [m 36 8,m 37 3,b 38 .lss 3 (t 36) (t 37) 3] (C 38 .skip
 (.exit 0))) (.seq (.block 1 (S [f 41 27 1 0,l 42 25 41,m 43 8,x 44 25 42 43,l 45 59 44,d 9 (.alloc 59),s 59 9 45] (S [m 46 4,f 47 59 9 1,l 48 38 47,f 49 59 9
 3,l 50 3 49,c 51 51 #[t 48,t 50] #[38,3],d 52 (.call ⟨.builtin .append,#[t 46,t 51],#[22,22]⟩),a 4 52] (S [m 53 5,m 54 8,b 55 .add 3 (t 54) (i 3) 3,c 56 25 #[t
 55] #[3],d 57 (.call ⟨.builtin .append,#[t 53,t 56],#[22,22]⟩),a 5 57] (S [f 58 59 9 2,l 59 38 58,l 61 59 9,f 62 59 9 4,l 63 49 62,L 64 63 49,b 65 .sub 3 (t
 64) (i 1) 3,⟨some 60,.call ⟨.value (.func 52),#[t 59],#[38]⟩,none,[⟨none,59,t 9,61⟩,⟨none,49,t 62,63⟩]⟩,c 66 53 #[t 61,t 65] #[59,3],d 67 (.call ⟨.builtin
 .append,#[t 60,t 66],#[22,22]⟩),a 10 67] (S [m 68 6,m 69 10,d 70 (.buildSlice 22 1 #[(0,.const (.int .u8 11))]),d 71 (.call ⟨.builtin .append,#[t 69,t
 70],#[22,22]⟩),c 72 54 #[t 71] #[22],d 73 (.call ⟨.builtin .append,#[t 68,t 72],#[22,22]⟩),a 6 73] (.ops [m 74 7,m 75 8,b 76 .add 3 (t 75) (i 3) 3,f 79 59 9
 0,l 80 9 79,⟨some 77,.call ⟨.value (.func 25),#[t 76],#[3]⟩,none,[⟨none,9,t 79,80⟩]⟩,⟨some 78,.call ⟨.builtin .append,#[t 74,t 77],#[22,22]⟩,none,[⟨none,9,t
 79,80⟩]⟩,c 81 55 #[t 80] #[9],d 82 (.call ⟨.builtin .append,#[t 78,t 81],#[22,22]⟩),a 7 82]))))))) (.ops [m 39 8,b 40 .add 3 (t 39) (i 1) 3,a 8 40])) }).1
def pc22_l2 : PC := (⟨_, by delta C S a b c d i l m t x; exact rfl⟩ : { p : PC // p = .seq (S [m 87 13,b 88 .lss 3 (t 87) (i 3) 3] (C 88 .skip (.exit 2))) (.seq
 (.block 3 (S [m 91 11,m 94 12,m 95 13,x 96 66 94 95,l 97 9 96,⟨some 92,.call ⟨.value (.func 55),#[.const (.string ⟨#[101,110,118]⟩)],#[9]⟩,none,[⟨none,9,t
 96,97⟩]⟩,⟨some 93,.call ⟨.builtin .append,#[t 91,t 92],#[22,22]⟩,none,[⟨none,9,t 96,97⟩]⟩,c 98 55 #[t 97] #[9],d 99 (.call ⟨.builtin .append,#[t 93,t
 98],#[22,22]⟩),a 11 99] (.ops [m 100 11,m 101 13,d 102 (.convert 3 5 (t 101)),d 103 (.buildSlice 22 2 #[(0,.const (.int .u8 0)),(1,t 102)]),d 104 (.call
 ⟨.builtin .append,#[t 100,t 103],#[22,22]⟩),a 11 104]))) (.ops [m 89 13,b 90 .add 3 (t 89) (i 1) 3,a 13 90])) }).1
def pc22_r1 : PC := (⟨_, by delta S a b c d f i l m t; exact rfl⟩ : { p : PC // p = S [d 105 (.buildSlice 22 8 #[(0,.const (.int .u8 0)),(1,.const (.int .u8
 97)),(2,.const (.int .u8 115)),(3,.const (.int .u8 109)),(4,.const (.int .u8 1)),(5,.const (.int .u8 0)),(6,.const (.int .u8 0)),(7,.const (.int .u8 0))]),a 14
 105] (S [m 106 14,m 107 4,c 108 56 #[i 1,t 107] #[3,22],d 109 (.call ⟨.builtin .append,#[t 106,t 108],#[22,22]⟩),m 110 11,c 111 56 #[i 2,t 110] #[3,22],d 112
 (.call ⟨.builtin .append,#[t 109,t 111],#[22,22]⟩),a 14 112] (S [m 113 14,m 114 5,c 115 56 #[i 3,t 114] #[3,22],d 116 (.call ⟨.builtin .append,#[t 113,t
 115],#[22,22]⟩),d 117 (.buildSlice 22 3 #[(0,.const (.int .u8 1)),(1,.const (.int .u8 0)),(2,.const (.int .u8 1))]),c 118 56 #[i 5,t 117] #[3,22],d 119 (.call
 ⟨.builtin .append,#[t 116,t 118],#[22,22]⟩),a 14 119] (S [m 120 14,d 121 (.buildSlice 22 4 #[(0,.const (.int .u8 1)),(1,.const (.int .u8 127)),(2,.const (.int
 .u8 0)),(3,.const (.int .u8 65))]),f 122 27 1 1,l 123 3 122,c 124 23 #[t 123] #[3],d 125 (.call ⟨.builtin .append,#[t 121,t 124],#[22,22]⟩),d 126 (.buildSlice
 22 1 #[(0,.const (.int .u8 11))]),d 127 (.call ⟨.builtin .append,#[t 125,t 126],#[22,22]⟩),c 128 56 #[i 6,t 127] #[3,22],d 129 (.call ⟨.builtin .append,#[t
 120,t 128],#[22,22]⟩),a 14 129] (S [m 130 14,d 131 (.buildSlice 22 1 #[(0,.const (.int .u8 1))]),d 134 (.buildSlice 22 1 #[(0,.const (.int .u8 0))]),f 136 27 1
 2,l 137 3 136,b 138 .add 3 (t 137) (i 3) 3,⟨some 132,.call ⟨.value (.func 55),#[.const (.string ⟨#[109,97,105,110]⟩)],#[9]⟩,none,[⟨none,3,t 136,137⟩]⟩,⟨some
 133,.call ⟨.builtin .append,#[t 131,t 132],#[22,22]⟩,none,[⟨none,3,t 136,137⟩]⟩,⟨some 135,.call ⟨.builtin .append,#[t 133,t 134],#[22,22]⟩,none,[⟨none,3,t
 136,137⟩]⟩,c 139 25 #[t 138] #[3],d 140 (.call ⟨.builtin .append,#[t 135,t 139],#[22,22]⟩),c 141 56 #[i 7,t 140] #[3,22],d 142 (.call ⟨.builtin .append,#[t
 130,t 141],#[22,22]⟩),a 14 142] (S [m 143 14,m 144 6,c 145 56 #[i 10,t 144] #[3,22],d 146 (.call ⟨.builtin .append,#[t 143,t 145],#[22,22]⟩),a 14 146] (S [m
 147 14,c 148 55 #[.const (.string ⟨#[110,97,109,101]⟩)] #[9],d 149 (.buildSlice 22 1 #[(0,.const (.int .u8 1))]),d 150 (.call ⟨.builtin .append,#[t 148,t
 149],#[22,22]⟩),m 151 7,c 152 54 #[t 151] #[22],d 153 (.call ⟨.builtin .append,#[t 150,t 152],#[22,22]⟩),c 154 56 #[i 0,t 153] #[3,22],d 155 (.call ⟨.builtin
 .append,#[t 147,t 154],#[22,22]⟩),a 2 155] .ret)))))) }).1
def pc22_r2 : PC := (⟨_, by delta A S a d i m t; exact rfl⟩ : { p : PC // p = S [A 11 (.const (.slice none 0 0))] (S [m 83 11,d 84 (.buildSlice 22 1 #[(0,.const
 (.int .u8 3))]),d 85 (.call ⟨.builtin .append,#[t 83,t 84],#[22,22]⟩),a 11 85] (S [d 86 (.buildSlice 66 3 #[(0,.const (.string ⟨#[105,110]⟩)),(1,.const
 (.string ⟨#[111,117,116]⟩)),(2,.const (.string ⟨#[116,114,97,112]⟩))]),a 12 86] (.seq (S [A 13 (i 0)] (.block 2 (.loop pc22_l2))) pc22_r1))) }).1
def pc22 : PC := (⟨_, by delta A L S a b c d f i l m t; exact rfl⟩ : { p : PC // p = S [d 1 (.box 27 (t 0)),A 2 (.const (.slice none 0 0))] (S [f 15 27 1 0,l 16
 25 15,L 17 16 25,a 3 17] (S [m 18 3,b 19 .add 3 (t 18) (i 3) 3,c 20 25 #[t 19] #[3],c 21 51 #[.const (.slice none 0 0),i 2] #[38,3],d 22 (.call ⟨.builtin
 .append,#[t 20,t 21],#[22,22]⟩),a 4 22] (S [m 23 4,d 24 (.buildSlice 38 1 #[(0,i 2)]),c 25 51 #[t 24,i 0] #[38,3],d 26 (.call ⟨.builtin .append,#[t 23,t
 25],#[22,22]⟩),d 27 (.buildSlice 38 1 #[(0,i 1)]),c 28 51 #[t 27,i 0] #[38,3],d 29 (.call ⟨.builtin .append,#[t 26,t 28],#[22,22]⟩),a 4 29] (S [m 30 3,c 31 25
 #[t 30] #[3],a 5 31] (S [m 32 3,c 33 25 #[t 32] #[3],a 6 33] (S [m 34 3,c 35 25 #[t 34] #[3],a 7 35] (.seq (S [A 8 (i 0)] (.block 0 (.loop pc22_l1)))
 pc22_r2))))))) }).1
theorem calls22 (hn : args.length = 1) (h : avc Tryz.prog G 156 pc22 (afin Tryz.prog [.tmp 2] R) (frame0 args) σ) : ACalls Tryz.prog G 22 args σ R :=
  acalls' (n := 156) (l := [.tmp 2]) mixed Tryz.func22 (by kernel_rfl) (by kernel_rfl) (by kernel_rfl) (by omega) h
def pc23 : PC := (⟨_, by delta A C S a b c d i m t w; exact rfl⟩ : { p : PC // p = S [A 2 (.const (.slice none 0 0))] (S [m 4 0,b 5 .rem 3 (t 4) (i 128) 3,a 3
 5] (.seq (S [m 6 3,b 7 .lss 3 (t 6) (i 0) 3] (C 7 (.ops [m 8 3,b 9 .add 3 (t 8) (i 128) 3,a 3 9]) .skip)) (.seq (S [m 10 0,b 11 .geq 3 (t 10) (i (-64)) 3,m 12
 11,w 13 (.move (t 0)) 12 true,w 14 (.binOp .lss 3 (t 13) (i 64) 3) 12 true,d 15 (.pick (t 12) (t 14) (.const (.bool false)))] (C 15 (S [m 16 3,d 17 (.convert 3
 5 (t 16)),d 18 (.buildSlice 22 1 #[(0,t 17)]),a 2 18] .ret) .skip)) (S [m 19 3,b 20 .add 3 (i 128) (t 19) 3,d 21 (.convert 3 5 (t 20)),d 22 (.buildSlice 22 1
 #[(0,t 21)]),m 23 0,m 24 3,b 25 .sub 3 (t 23) (t 24) 3,b 26 .quo 3 (t 25) (i 128) 3,c 27 23 #[t 26] #[3],d 28 (.call ⟨.builtin .append,#[t 22,t
 27],#[22,22]⟩),a 2 28] .ret)))) }).1
theorem calls23 (hn : args.length = 1) (h : avc Tryz.prog G 29 pc23 (afin Tryz.prog [.tmp 2] R) (frame0 args) σ) : ACalls Tryz.prog G 23 args σ R :=
  acalls' (n := 29) (l := [.tmp 2]) mixed Tryz.func23 (by kernel_rfl) (by kernel_rfl) (by kernel_rfl) (by omega) h
def pc24_l1 : PC := (⟨_, by delta C L S a b c i m s t x; exact rfl⟩ : { p : PC // p = .seq (S [m 3 2,m 4 0,L 5 4 22,b 6 .lss 3 (t 3) (t 5) 3] (C 6 .skip (.exit
 0))) (.seq (.block 1 (.ops [m 9 0,m 10 2,m 11 2,b 12 .add 3 (t 11) (i 7) 3,c 13 26 #[t 12] #[3],x 14 22 9 10,s 5 14 13])) (.ops [m 7 2,b 8 .add 3 (t 7) (i 1)
 3,a 2 8])) }).1
def pc24 : PC := (⟨_, by delta A S i; exact rfl⟩ : { p : PC // p = S [A 2 (i 0)] (.block 0 (.loop pc24_l1)) }).1
theorem calls24 (hn : args.length = 1) (h : avc Tryz.prog G 15 pc24 (afin Tryz.prog [] R) (frame0 args) σ) : ACalls Tryz.prog G 24 args σ R :=
  acalls' (n := 15) (l := []) mixed Tryz.func24 (by kernel_rfl) (by kernel_rfl) (by kernel_rfl) (by omega) h
def pc25 : PC := (⟨_, by delta A C S a b c d i m t; exact rfl⟩ : { p : PC // p = S [A 2 (.const (.slice none 0 0))] (.seq (S [m 3 0,b 4 .lss 3 (t 3) (i 128) 3]
 (C 4 (S [m 5 0,d 6 (.convert 3 5 (t 5)),d 7 (.buildSlice 22 1 #[(0,t 6)]),a 2 7] .ret) .skip)) (S [m 8 0,b 9 .rem 3 (t 8) (i 128) 3,b 10 .add 3 (i 128) (t 9)
 3,d 11 (.convert 3 5 (t 10)),d 12 (.buildSlice 22 1 #[(0,t 11)]),m 13 0,b 14 .quo 3 (t 13) (i 128) 3,c 15 25 #[t 14] #[3],d 16 (.call ⟨.builtin .append,#[t
 12,t 15],#[22,22]⟩),a 2 16] .ret)) }).1
theorem calls25 (hn : args.length = 1) (h : avc Tryz.prog G 17 pc25 (afin Tryz.prog [.tmp 2] R) (frame0 args) σ) : ACalls Tryz.prog G 25 args σ R :=
  acalls' (n := 17) (l := [.tmp 2]) mixed Tryz.func25 (by kernel_rfl) (by kernel_rfl) (by kernel_rfl) (by omega) h
def pc26 : PC := (⟨_, by delta A S a b d i m t; exact rfl⟩ : { p : PC // p = S [A 2 (.const (.int .u8 0))] (S [m 3 0,b 4 .mul 3 (i 7) (t 3) 3,b 5 .add 3 (i 201)
 (t 4) 3,d 6 (.convert 3 5 (t 5)),a 2 6] .ret) }).1
theorem calls26 (hn : args.length = 1) (h : avc Tryz.prog G 7 pc26 (afin Tryz.prog [.tmp 2] R) (frame0 args) σ) : ACalls Tryz.prog G 26 args σ R :=
  acalls' (n := 7) (l := [.tmp 2]) mixed Tryz.func26 (by kernel_rfl) (by kernel_rfl) (by kernel_rfl) (by omega) h
def pc27_h : PC := (⟨_, by delta C S b d m s t; exact rfl⟩ : { p : PC // p = S [m 4 2,b 5 .neq 20 (t 4) (.const .nilIface) 20] (C 5 (.ops [d 6 (.build 27 #[]),m
 7 2,d 8 (.typeAssert (t 7) 20 28 false),s 27 0 6,s 28 1 8]) .skip) }).1
def pc28 : PC := (⟨_, by delta A C S a b d m t; exact rfl⟩ : { p : PC // p = S [A 2 (.const (.slice none 0 0))] (.seq (S [m 3 0,b 4 .eql 22 (t 3) (.const
 (.slice none 0 0)) 22] (C 4 (S [A 2 (.const (.slice none 0 0))] .ret) .skip)) (S [d 5 (.buildSlice 22 0 #[]),m 6 0,d 7 (.call ⟨.builtin .append,#[t 5,t
 6],#[22,22]⟩),a 2 7] .ret)) }).1
theorem calls28 (hn : args.length = 1) (h : avc Tryz.prog G 8 pc28 (afin Tryz.prog [.tmp 2] R) (frame0 args) σ) : ACalls Tryz.prog G 28 args σ R :=
  acalls' (n := 8) (l := [.tmp 2]) mixed Tryz.func28 (by kernel_rfl) (by kernel_rfl) (by kernel_rfl) (by omega) h
def pc29_l1 : PC := (⟨_, by delta C L S a b c i l m t x; exact rfl⟩ : { p : PC // p = S [b 19 .lss 3 (t 18) (t 17) 3] (.seq (C 19 .skip (.exit 0)) (.seq (.block
 1 (S [x 20 66 16 18,l 21 9 20,a 4 21] (.ops [m 22 0,m 23 4,L 24 23 9,b 25 .add 3 (i 5) (t 24) 3,b 26 .add 3 (t 25) (i 2) 3,c 27 57 #[t 22,t 26] #[48,3]])))
 (.ops [b 28 .add 3 (t 18) (i 1) 3,m 18 28]))) }).1
def pc29_l2 : PC := (⟨_, by delta C S b c i m t; exact rfl⟩ : { p : PC // p = S [b 34 .lss 3 (t 33) (t 32) 3] (.seq (C 34 .skip (.exit 2)) (.seq (.block 3 (.ops
 [m 35 0,c 36 60 #[t 35,.const (.bool false)] #[48,4]])) (.ops [b 37 .add 3 (t 33) (i 1) 3,m 33 37]))) }).1
def pc29_l3 : PC := (⟨_, by delta C S a b c f i l m t x; exact rfl⟩ : { p : PC // p = S [b 72 .lss 3 (t 71) (t 70) 3] (.seq (C 72 .skip (.exit 4)) (.seq (.block
 5 (S [m 73 71,a 5 73] (.ops [m 74 0,f 75 27 2 0,l 76 25 75,m 77 5,x 78 25 76 77,c 79 61 #[t 74,t 78] #[48,86]]))) (.ops [b 80 .add 3 (t 71) (i 1) 3,m 71 80])))
 }).1
def pc29_l4 : PC := (⟨_, by delta C S a b c f i l m s t x; exact rfl⟩ : { p : PC // p = S [b 98 .lss 3 (t 97) (t 96) 3] (.seq (C 98 .skip (.exit 6)) (.seq
 (.block 7 (S [m 99 97,a 6 99] (S [m 100 0,c 101 60 #[t 100,.const (.bool false)] #[48,4]] (.ops [f 102 27 2 0,l 103 25 102,m 104 6,m 105 0,m 106 0,⟨some
 107,.call ⟨.value (.func 60),#[t 106,.const (.bool false)],#[48,4]⟩,none,[⟨none,25,t 102,103⟩]⟩,⟨some 108,.call ⟨.value (.func 57),#[t 105,t
 107],#[48,3]⟩,none,[⟨none,25,t 102,103⟩]⟩,⟨some 109,.convert 22 9 (t 108),none,[⟨none,25,t 102,103⟩]⟩,x 110 25 103 104,f 111 59 110 0,s 9 111 109])))) (.ops [b
 112 .add 3 (t 97) (i 1) 3,m 97 112]))) }).1
def pc29_r1 : PC := (⟨_, by delta S l s; exact rfl⟩ : { p : PC // p = S [l 113 27 2,s 27 2 113] .ret }).1
def pc29_r2 : PC := (⟨_, by delta L S b c d f i l m t; exact rfl⟩ : { p : PC // p = S [m 81 0,c 82 59 #[t 81,.const (.int .u8 0)] #[48,5]] (S [m 83 0,c 84 57
 #[t 83,i 6] #[48,3]] (S [m 85 0,c 86 60 #[t 85,.const (.bool false)] #[48,4]] (S [m 87 0,f 89 27 2 0,l 90 25 89,L 91 90 25,⟨some 88,.call ⟨.value (.func
 60),#[t 87,.const (.bool false)],#[48,4]⟩,none,[⟨none,25,t 89,90⟩]⟩,b 92 .eql 3 (t 88) (t 91) 3,c 93 30 #[t 92,i 2] #[4,28]] (.seq (S [f 94 27 2 0,l 95 25 94,L
 96 95 25,d 97 (.move (i 0))] (.block 6 (.loop pc29_l4))) pc29_r1)))) }).1
def pc29_r3 : PC := (⟨_, by delta L S b c d f i l m s t; exact rfl⟩ : { p : PC // p = S [m 38 0,c 39 59 #[t 38,.const (.int .u8 5)] #[48,5]] (S [m 40 0,c 41 57
 #[t 40,i 3] #[48,3]] (S [m 42 0,c 43 59 #[t 42,.const (.int .u8 6)] #[48,5]] (S [m 44 0,c 45 57 #[t 44,i 4] #[48,3]] (S [m 46 0,c 47 60 #[t 46,.const (.bool
 true)] #[48,4],f 48 27 2 1,s 3 48 47] (S [m 49 0,c 50 57 #[t 49,i 1] #[48,3]] (S [m 51 0,c 52 59 #[t 51,.const (.int .u8 7)] #[48,5]] (S [m 53 0,c 54 57 #[t
 53,i 7] #[48,3]] (S [m 55 0,c 56 60 #[t 55,.const (.bool false)] #[48,4],b 57 .sub 3 (t 56) (i 3) 3,f 58 27 2 2,s 3 58 57] (S [m 59 0,c 60 59 #[t 59,.const
 (.int .u8 10)] #[48,5]] (S [m 61 0,f 63 27 2 0,l 64 25 63,L 65 64 25,⟨some 62,.call ⟨.value (.func 60),#[t 61,.const (.bool false)],#[48,4]⟩,none,[⟨none,25,t
 63,64⟩]⟩,b 66 .eql 3 (t 62) (t 65) 3,c 67 30 #[t 66,i 2] #[4,28]] (.seq (S [f 68 27 2 0,l 69 25 68,L 70 69 25,d 71 (.move (i 0))] (.block 4 (.loop pc29_l3)))
 pc29_r2))))))))))) }).1
def pc29_r4 : PC := (⟨_, by delta S c d i m t; exact rfl⟩ : { p : PC // p = S [m 29 0,c 30 59 #[t 29,.const (.int .u8 3)] #[48,5]] (.seq (S [m 31 0,c 32 60 #[t
 31,.const (.bool false)] #[48,4],d 33 (.move (i 0))] (.block 2 (.loop pc29_l2))) pc29_r3) }).1
def pc29 : PC := (⟨_, by delta L S c d f i m s t; exact rfl⟩ : { p : PC // p = S [d 2 (.alloc 27)] (S [m 7 0,c 8 57 #[t 7,i 8] #[48,3]] (S [m 9 0,c 10 58 #[t 9]
 #[48],f 11 27 2 0,s 25 11 10] (S [m 12 0,c 13 59 #[t 12,.const (.int .u8 2)] #[48,5]] (S [m 14 0,c 15 57 #[t 14,i 1] #[48,3]] (.seq (S [d 16 (.buildSlice 66 3
 #[(0,.const (.string ⟨#[105,110]⟩)),(1,.const (.string ⟨#[111,117,116]⟩)),(2,.const (.string ⟨#[116,114,97,112]⟩))]),L 17 16 66,d 18 (.move (i 0))] (.block 0
 (.loop pc29_l1))) pc29_r4))))) }).1
theorem calls29 (hn : args.length = 1) (h : avc Tryz.prog G 114 pc29 (afin Tryz.prog [.cell 2 27] R) (frame0 args) σ) : ACalls Tryz.prog G 29 args σ R :=
  acalls' (n := 114) (l := [.cell 2 27]) mixed Tryz.func29 (by kernel_rfl) (by kernel_rfl) (by kernel_rfl) (by omega) h
def pc30 : PC := (⟨_, by delta C S d e m t; exact rfl⟩ : { p : PC // p = S [m 4 0,d 5 (.unOp .not 4 (t 4))] (C 5 (.ops [m 6 1,d 7 (.makeInterface 28 (t 6)),e
 (.panic (t 7))]) .skip) }).1
theorem calls30 (hn : args.length = 2) (h : avc Tryz.prog G 8 pc30 (afin Tryz.prog [] R) (frame0 args) σ) : ACalls Tryz.prog G 30 args σ R :=
  acalls' (n := 8) (l := []) mixed Tryz.func30 (by kernel_rfl) (by kernel_rfl) (by kernel_rfl) (by omega) h
def pc31 : PC := (⟨_, by delta A S a c d e f l t; exact rfl⟩ : { p : PC // p = S [d 1 (.box 27 (t 0)),A 2 (.const (.bool false))] (S [d 3 (.alloc 87),e (.store
 87 (t 3) (.func 62))] (S [f 4 27 1 0,l 5 25 4,d 6 (.makeFunc (.func 64) #[] #[t 3]),c 7 63 #[t 5,t 6] #[25,90],d 8 (.unOp .not 4 (t 7)),a 2 8] .ret)) }).1
theorem calls31 (hn : args.length = 1) (h : avc Tryz.prog G 9 pc31 (afin Tryz.prog [.tmp 2] R) (frame0 args) σ) : ACalls Tryz.prog G 31 args σ R :=
  acalls' (n := 9) (l := [.tmp 2]) mixed Tryz.func31 (by kernel_rfl) (by kernel_rfl) (by kernel_rfl) (by omega) h
def pc32 : PC := (⟨_, by delta A S a b d e f i l m t w; exact rfl⟩ : { p : PC // p = S [d 1 (.box 27 (t 0)),A 2 (.const (.bool false))] (S [d 3 (.alloc 91),e
 (.store 91 (t 3) (.func 66))] (S [f 4 27 1 2,l 5 3 4,b 6 .geq 3 (t 5) (i (-3)) 3,m 7 6,w 8 (.fieldAddr 27 (t 1) 0) 7 true,w 9 (.load 25 (t 8)) 7 true,w 10
 (.makeFunc (.func 67) #[] #[t 3]) 7 true,w 11 (.call ⟨.value (.func 63),#[t 9,t 10],#[25,90]⟩) 7 true,w 12 (.unOp .not 4 (t 11)) 7 true,d 13 (.pick (t 7) (t
 12) (.const (.bool false))),a 2 13] .ret)) }).1
theorem calls32 (hn : args.length = 1) (h : avc Tryz.prog G 14 pc32 (afin Tryz.prog [.tmp 2] R) (frame0 args) σ) : ACalls Tryz.prog G 32 args σ R :=
  acalls' (n := 14) (l := [.tmp 2]) mixed Tryz.func32 (by kernel_rfl) (by kernel_rfl) (by kernel_rfl) (by omega) h
def pc33 : PC := (⟨_, by delta A S a b d m t; exact rfl⟩ : { p : PC // p = S [A 4 (.const (.bool false))] (S [m 5 0,d 6 (.convert 22 9 (t 5)),m 7 1,d 8
 (.convert 22 9 (t 7)),b 9 .eql 9 (t 6) (t 8) 9,a 4 9] .ret) }).1
theorem calls33 (hn : args.length = 2) (h : avc Tryz.prog G 10 pc33 (afin Tryz.prog [.tmp 4] R) (frame0 args) σ) : ACalls Tryz.prog G 33 args σ R :=
  acalls' (n := 10) (l := [.tmp 4]) mixed Tryz.func33 (by kernel_rfl) (by kernel_rfl) (by kernel_rfl) (by omega) h
def pc35_l1 : PC := (⟨_, by delta A C L S a b c d i l m t x; exact rfl⟩ : { p : PC // p = .seq (S [m 11 5,m 12 0,L 13 12 25,b 14 .lss 3 (t 11) (t 13) 3] (C 14
 .skip (.exit 0))) (.seq (.block 1 (S [m 17 0,m 18 5,x 19 25 17 18,l 20 59 19,m 21 1,m 22 5,x 23 25 21 22,l 24 59 23,c 25 76 #[t 20,t 24] #[59,59],d 26 (.unOp
 .not 4 (t 25))] (C 26 (S [A 4 (.const (.bool false))] .ret) .skip))) (.ops [m 15 5,b 16 .add 3 (t 15) (i 1) 3,a 5 16])) }).1
def pc35_r1 : PC := (⟨_, by delta A S; exact rfl⟩ : { p : PC // p = S [A 4 (.const (.bool true))] .ret }).1
def pc35 : PC := (⟨_, by delta A C L S b i m t; exact rfl⟩ : { p : PC // p = S [A 4 (.const (.bool false))] (.seq (S [m 6 0,L 7 6 25,m 8 1,L 9 8 25,b 10 .neq 3
 (t 7) (t 9) 3] (C 10 (S [A 4 (.const (.bool false))] .ret) .skip)) (.seq (S [A 5 (i 0)] (.block 0 (.loop pc35_l1))) pc35_r1)) }).1
theorem calls35 (hn : args.length = 2) (h : avc Tryz.prog G 27 pc35 (afin Tryz.prog [.tmp 4] R) (frame0 args) σ) : ACalls Tryz.prog G 35 args σ R :=
  acalls' (n := 27) (l := [.tmp 4]) mixed Tryz.func35 (by kernel_rfl) (by kernel_rfl) (by kernel_rfl) (by omega) h
def pc40 : PC := (⟨_, by delta A S a c d m t; exact rfl⟩ : { p : PC // p = S [A 4 (.const (.slice none 0 0))] (S [d 5 (.buildSlice 22 1 #[(0,.const (.int .u8
 96))]),m 6 0,c 7 81 #[t 6] #[38],m 8 1,c 9 82 #[t 8] #[3],d 10 (.buildSlice 65 3 #[(0,t 5),(1,t 7),(2,t 9)]),c 11 41 #[t 10] #[65],a 4 11] .ret) }).1
theorem calls40 (hn : args.length = 2) (h : avc Tryz.prog G 12 pc40 (afin Tryz.prog [.tmp 4] R) (frame0 args) σ) : ACalls Tryz.prog G 40 args σ R :=
  acalls' (n := 12) (l := [.tmp 4]) mixed Tryz.func40 (by kernel_rfl) (by kernel_rfl) (by kernel_rfl) (by omega) h
def pc41_l1 : PC := (⟨_, by delta C L S a b d e i l m t x; exact rfl⟩ : { p : PC // p = S [b 12 .lss 3 (t 11) (t 10) 3] (.seq (C 12 .skip (.exit 0)) (.seq
 (.block 1 (S [x 13 65 9 11,l 14 22 13,a 5 14] (S [m 15 3,m 16 5,L 17 16 22,b 18 .add 3 (t 15) (t 17) 3,a 3 18] (S [m 19 3,b 20 .lss 3 (t 19) (i 0) 3] (C 20
 (.ops [d 21 (.makeInterface 9 (.const (.string ⟨#[108,101,110,32,111,117,116,32,111,102,32,114,97,110,103,101]⟩))),e (.panic (t 21))]) .skip))))) (.ops [b 22
 .add 3 (t 11) (i 1) 3,m 11 22]))) }).1
def pc41_l2 : PC := (⟨_, by delta C S a b d i l m t x; exact rfl⟩ : { p : PC // p = S [b 28 .lss 3 (t 27) (t 26) 3] (.seq (C 28 .skip (.exit 2)) (.seq (.block 3
 (S [x 29 65 25 27,l 30 22 29,a 8 30] (.ops [m 31 6,m 32 8,d 33 (.call ⟨.builtin .append,#[t 31,t 32],#[22,22]⟩),a 6 33]))) (.ops [b 34 .add 3 (t 27) (i 1) 3,m
 27 34]))) }).1
def pc41_r1 : PC := (⟨_, by delta S a m; exact rfl⟩ : { p : PC // p = S [m 35 6,a 2 35] .ret }).1
def pc41_r2 : PC := (⟨_, by delta L S a c d i m t; exact rfl⟩ : { p : PC // p = S [m 23 3,c 24 83 #[.const (.slice none 0 0),t 23] #[22,3],a 6 24] (.seq (S [m
 25 0,L 26 25 65,d 27 (.move (i 0))] (.block 2 (.loop pc41_l2))) pc41_r1) }).1
def pc41 : PC := (⟨_, by delta A L S d i m; exact rfl⟩ : { p : PC // p = S [A 2 (.const (.slice none 0 0))] (S [A 3 (i 0)] (.seq (S [m 9 0,L 10 9 65,d 11 (.move
 (i 0))] (.block 0 (.loop pc41_l1))) pc41_r2)) }).1
theorem calls41 (hn : args.length = 1) (h : avc Tryz.prog G 36 pc41 (afin Tryz.prog [.tmp 2] R) (frame0 args) σ) : ACalls Tryz.prog G 41 args σ R :=
  acalls' (n := 36) (l := [.tmp 2]) mixed Tryz.func41 (by kernel_rfl) (by kernel_rfl) (by kernel_rfl) (by omega) h
def pc42 : PC := (⟨_, by delta A L S a c d m t; exact rfl⟩ : { p : PC // p = S [A 2 (.const (.slice none 0 0))] (S [m 3 0,L 4 3 22,c 5 15 #[t 4] #[3],m 6 0,d 7
 (.call ⟨.builtin .append,#[t 5,t 6],#[22,22]⟩),a 2 7] .ret) }).1
theorem calls42 (hn : args.length = 1) (h : avc Tryz.prog G 8 pc42 (afin Tryz.prog [.tmp 2] R) (frame0 args) σ) : ACalls Tryz.prog G 42 args σ R :=
  acalls' (n := 8) (l := [.tmp 2]) mixed Tryz.func42 (by kernel_rfl) (by kernel_rfl) (by kernel_rfl) (by omega) h
def pc43_l1 : PC := (⟨_, by delta C L S a b d i m t w; exact rfl⟩ : { p : PC // p = .seq (S [m 8 4,m 9 0,L 10 9 38,b 11 .lss 3 (t 8) (t 10) 3,m 12 11,w 13
 (.move (t 0)) 12 true,w 14 (.move (t 4)) 12 true,w 15 (.indexAddr 38 (t 13) (t 14)) 12 true,w 16 (.load 3 (t 15)) 12 true,w 17 (.move (t 0)) 12 true,w 18
 (.indexAddr 38 (t 17) (i 0)) 12 true,w 19 (.load 3 (t 18)) 12 true,w 20 (.binOp .eql 3 (t 16) (t 19) 3) 12 true,d 21 (.pick (t 12) (t 20) (.const (.bool
 false)))] (C 21 .skip (.exit 2))) (.block 3 (.ops [m 22 4,b 23 .add 3 (t 22) (i 1) 3,a 4 23])) }).1
def pc43_r1 : PC := (⟨_, by delta a b c d i l m t; exact rfl⟩ : { p : PC // p = .seq (.both [[m 24 3,m 25 4,m 27 0,d 28 (.indexAddr 38 (t 27) (i 0)),l 29 3 28,b
 30 .sub 3 (i 128) (t 29) 3,⟨some 26,.call ⟨.value (.func 15),#[t 25],#[3]⟩,none,[⟨none,3,t 28,29⟩]⟩,d 31 (.convert 3 5 (t 30)),d 32 (.buildSlice 22 1 #[(0,t
 31)]),d 33 (.call ⟨.builtin .append,#[t 26,t 32],#[22,22]⟩),d 34 (.buildSlice 65 1 #[(0,t 33)]),d 35 (.call ⟨.builtin .append,#[t 24,t 34],#[65,65]⟩),a 3
 35],[m 24 3,m 25 4,m 27 0,d 28 (.indexAddr 38 (t 27) (i 0)),l 29 3 28,b 30 .sub 3 (i 128) (t 29) 3,d 31 (.convert 3 5 (t 30)),d 32 (.buildSlice 22 1 #[(0,t
 31)]),c 26 15 #[t 25] #[3],d 33 (.call ⟨.builtin .append,#[t 26,t 32],#[22,22]⟩),d 34 (.buildSlice 65 1 #[(0,t 33)]),d 35 (.call ⟨.builtin .append,#[t 24,t
 34],#[65,65]⟩),a 3 35]]) (.ops [m 36 0,m 37 4,d 38 (.slice 38 (t 36) (some (t 37)) none none),a 0 38]) }).1
def pc43_l2 : PC := (⟨_, by delta A C L S b i m t; exact rfl⟩ : { p : PC // p = .seq (S [m 5 0,L 6 5 38,b 7 .gtr 3 (t 6) (i 0) 3] (C 7 .skip (.exit 0))) (.block
 1 (S [A 4 (i 1)] (.seq (.block 2 (.loop pc43_l1)) pc43_r1))) }).1
def pc43_r2 : PC := (⟨_, by delta S a c m t; exact rfl⟩ : { p : PC // p = S [m 39 3,c 40 46 #[t 39] #[65],a 2 40] .ret }).1
def pc43 : PC := (⟨_, by delta A S; exact rfl⟩ : { p : PC // p = S [A 2 (.const (.slice none 0 0))] (S [A 3 (.const (.slice none 0 0))] (.seq (.block 0 (.loop
 pc43_l2)) pc43_r2)) }).1
theorem calls43 (hn : args.length = 1) (h : avc Tryz.prog G 41 pc43 (afin Tryz.prog [.tmp 2] R) (frame0 args) σ) : ACalls Tryz.prog G 43 args σ R :=
  acalls' (n := 41) (l := [.tmp 2]) mixed Tryz.func43 (by kernel_rfl) (by kernel_rfl) (by kernel_rfl) (by omega) h
def pc44_l1 : PC := (⟨_, by delta C S a b c d f i l m s t w x; exact rfl⟩ : { p : PC // p = S [b 14 .lss 3 (t 13) (t 12) 3] (.seq (C 14 .skip (.exit 0)) (.seq
 (.block 1 (S [x 15 61 11 13,l 16 73 15,d 6 (.alloc 73),s 73 6 16] (.seq (S [f 17 73 6 0,l 18 3 17] (.block 2 (.seq (S [b 20 .eql 3 (t 18) (i 11) 3,a 19 20] (C
 19 .skip (S [b 21 .eql 3 (t 18) (i 12) 3,a 19 21] (C 19 .skip (.ops [b 22 .eql 3 (t 18) (i 13) 3,a 19 22]))))) (C 19 (S [m 23 4,f 24 73 6 0,l 25 3 24,b 26 .add
 3 (i 2) (t 25) 3,b 27 .sub 3 (t 26) (i 11) 3,d 28 (.convert 3 5 (t 27)),d 29 (.buildSlice 22 2 #[(0,t 28),(1,.const (.int .u8 64))]),d 30 (.call ⟨.builtin
 .append,#[t 23,t 29],#[22,22]⟩),a 4 30] (S [m 31 4,l 32 59 2,f 33 73 6 3,l 34 3 33,c 35 44 #[t 32,t 34] #[59,3],d 36 (.call ⟨.builtin .append,#[t 31,t
 35],#[22,22]⟩),a 4 36] (.seq (S [f 37 73 6 0,l 38 3 37,b 39 .eql 3 (t 38) (i 13) 3,m 40 39,w 41 (.fieldAddr 73 (t 6) 4) 40 true,w 42 (.load 3 (t 41)) 40 true,w
 43 (.binOp .geq 3 (t 42) (i 0) 3) 40 true,d 44 (.pick (t 40) (t 43) (.const (.bool false)))] (C 44 (.ops [m 45 4,d 46 (.buildSlice 22 1 #[(0,.const (.int .u8
 5))]),l 48 59 2,f 49 73 6 4,l 50 3 49,⟨some 47,.call ⟨.builtin .append,#[t 45,t 46],#[22,22]⟩,none,[⟨none,59,t 2,48⟩,⟨none,3,t 49,50⟩]⟩,c 51 44 #[t 48,t 50]
 #[59,3],d 52 (.call ⟨.builtin .append,#[t 47,t 51],#[22,22]⟩),a 4 52]) .skip)) (S [m 53 4,d 54 (.buildSlice 22 1 #[(0,.const (.int .u8 11))]),d 55 (.call
 ⟨.builtin .append,#[t 53,t 54],#[22,22]⟩),a 4 55] (.exit 1))))) .skip)))) (S [m 56 4,l 57 73 6,c 58 84 #[t 57] #[73],d 59 (.buildSlice 22 1 #[(0,t 58)]),d 60
 (.call ⟨.builtin .append,#[t 56,t 59],#[22,22]⟩),a 4 60] (S [f 61 73 6 0,l 62 3 61] (.block 3 (S [b 64 .eql 3 (t 62) (i 1) 3,a 63 64] (C 63 (.ops [m 65 4,f 66
 73 6 2,l 67 3 66,c 68 13 #[t 67] #[3],d 69 (.call ⟨.builtin .append,#[t 65,t 68],#[22,22]⟩),a 4 69]) (.seq (S [b 71 .eql 3 (t 62) (i 2) 3,a 70 71] (C 70 .skip
 (S [b 72 .eql 3 (t 62) (i 3) 3,a 70 72] (C 70 .skip (S [b 73 .eql 3 (t 62) (i 10) 3,a 70 73] (C 70 .skip (S [b 74 .eql 3 (t 62) (i 14) 3,a 70 74] (C 70 .skip
 (.ops [b 75 .eql 3 (t 62) (i 15) 3,a 70 75]))))))))) (C 70 (.ops [m 76 4,f 77 73 6 2,l 78 3 77,c 79 15 #[t 78] #[3],d 80 (.call ⟨.builtin .append,#[t 76,t
 79],#[22,22]⟩),a 4 80]) (.seq (S [b 82 .eql 3 (t 62) (i 8) 3,a 81 82] (C 81 .skip (.ops [b 83 .eql 3 (t 62) (i 9) 3,a 81 83]))) (C 81 (.ops [m 84 4,d 85
 (.buildSlice 22 2 #[(0,.const (.int .u8 0)),(1,.const (.int .u8 0))]),d 86 (.call ⟨.builtin .append,#[t 84,t 85],#[22,22]⟩),a 4 86]) .skip)))))))))))) (.ops [b
 87 .add 3 (t 13) (i 1) 3,m 13 87]))) }).1
def pc44_r1 : PC := (⟨_, by delta S a m; exact rfl⟩ : { p : PC // p = S [m 88 4,a 4 88] .ret }).1
def pc44 : PC := (⟨_, by delta A L S d f i l m t x; exact rfl⟩ : { p : PC // p = S [d 2 (.box 59 (t 0)),A 4 (.const (.slice none 0 0))] (.seq (S [f 7 59 2 4,l 8
 49 7,m 9 1,x 10 49 8 9,l 11 61 10,L 12 11 61,d 13 (.move (i 0))] (.block 0 (.loop pc44_l1))) pc44_r1) }).1
theorem calls44 (hn : args.length = 2) (h : avc Tryz.prog G 89 pc44 (afin Tryz.prog [.tmp 4] R) (frame0 args) σ) : ACalls Tryz.prog G 44 args σ R :=
  acalls' (n := 89) (l := [.tmp 4]) mixed Tryz.func44 (by kernel_rfl) (by kernel_rfl) (by kernel_rfl) (by omega) h
def pc45 : PC := (⟨_, by delta A S a c d m t; exact rfl⟩ : { p : PC // p = S [A 4 (.const (.slice none 0 0))] (S [m 5 0,d 6 (.buildSlice 22 1 #[(0,t 5)]),m 7
 1,c 8 41 #[t 7] #[65],c 9 42 #[t 8] #[22],d 10 (.call ⟨.builtin .append,#[t 6,t 9],#[22,22]⟩),a 4 10] .ret) }).1
theorem calls45 (hn : args.length = 2) (h : avc Tryz.prog G 11 pc45 (afin Tryz.prog [.tmp 4] R) (frame0 args) σ) : ACalls Tryz.prog G 45 args σ R :=
  acalls' (n := 11) (l := [.tmp 4]) mixed Tryz.func45 (by kernel_rfl) (by kernel_rfl) (by kernel_rfl) (by omega) h
def pc46 : PC := (⟨_, by delta A L S a c d m t; exact rfl⟩ : { p : PC // p = S [A 2 (.const (.slice none 0 0))] (S [m 3 0,L 4 3 65,c 5 15 #[t 4] #[3],m 6 0,c 7
 41 #[t 6] #[65],d 8 (.call ⟨.builtin .append,#[t 5,t 7],#[22,22]⟩),a 2 8] .ret) }).1
theorem calls46 (hn : args.length = 1) (h : avc Tryz.prog G 9 pc46 (afin Tryz.prog [.tmp 2] R) (frame0 args) σ) : ACalls Tryz.prog G 46 args σ R :=
  acalls' (n := 9) (l := [.tmp 2]) mixed Tryz.func46 (by kernel_rfl) (by kernel_rfl) (by kernel_rfl) (by omega) h
def pc47_h : PC := (⟨_, by delta C S b d m s t; exact rfl⟩ : { p : PC // p = S [m 3 1,b 4 .neq 20 (t 3) (.const .nilIface) 20] (C 4 (.ops [m 5 1,d 6
 (.typeAssert (t 5) 20 75 false),d 7 (.field 75 (t 6) 0),s 28 0 7]) .skip) }).1
def pc48 : PC := (⟨_, by delta C S d e m t; exact rfl⟩ : { p : PC // p = S [m 4 0,d 5 (.unOp .not 4 (t 4))] (C 5 (.ops [m 6 1,d 7 (.build 75 #[(0,t 6)]),d 8
 (.makeInterface 75 (t 7)),e (.panic (t 8))]) .skip) }).1
theorem calls48 (hn : args.length = 2) (h : avc Tryz.prog G 9 pc48 (afin Tryz.prog [] R) (frame0 args) σ) : ACalls Tryz.prog G 48 args σ R :=
  acalls' (n := 9) (l := []) mixed Tryz.func48 (by kernel_rfl) (by kernel_rfl) (by kernel_rfl) (by omega) h
def pc49 : PC := (⟨_, by delta L S b c d f i l m n s t w; exact rfl⟩ : { p : PC // p = S [m 2 0,m 3 0,n 4 3,f 5 78 4 1,f 6 59 5 1,l 7 38 6,m 8 0,n 9 8,f 10 78 9
 1,f 11 59 10 2,l 12 38 11,d 13 (.buildSlice 127 2 #[(0,t 7),(1,t 12)]),c 14 85 #[t 13] #[127],n 15 2,f 16 78 15 2,s 38 16 14] (S [m 17 0,n 18 17,f 19 78 18 2,l
 20 38 19,c 21 65 #[t 20,.func 86] #[38,87],d 22 (.unOp .not 4 (t 21)),m 23 22,w 24 (.move (t 0)) 23 true,w 25 (.nilCheck (t 24)) 23 true,w 26 (.fieldAddr 78 (t
 25) 1) 23 true,w 27 (.fieldAddr 59 (t 26) 3) 23 true,w 28 (.load 3 (t 27)) 23 true,w 29 (.binOp .geq 3 (t 28) (i 0) 3) 23 true,d 30 (.pick (t 23) (t 29)
 (.const (.bool false))),m 31 30,w 32 (.move (t 0)) 31 true,w 33 (.nilCheck (t 32)) 31 true,w 34 (.fieldAddr 78 (t 33) 1) 31 true,w 35 (.fieldAddr 59 (t 34) 3)
 31 true,w 36 (.load 3 (t 35)) 31 true,w 37 (.binOp .leq 3 (t 36) (i 2) 3) 31 true,d 38 (.pick (t 31) (t 37) (.const (.bool false))),c 39 48 #[t 38,i 6]
 #[4,28]] (S [m 40 0,c 41 88 #[t 40] #[76]] (.ops [m 42 0,m 43 0,n 44 43,f 45 78 44 1,f 46 59 45 4,l 47 49 46,L 48 47 49,b 49 .sub 3 (t 48) (i 1) 3,c 50 89 #[t
 42,t 49,i 0] #[76,3,3]]))) }).1
theorem calls49 (hn : args.length = 1) (h : avc Tryz.prog G 51 pc49 (afin Tryz.prog [] R) (frame0 args) σ) : ACalls Tryz.prog G 49 args σ R :=
  acalls' (n := 51) (l := []) mixed Tryz.func49 (by kernel_rfl) (by kernel_rfl) (by kernel_rfl) (by omega) h
def pc50_l1 : PC := (⟨_, by delta C L S a b c d i l m t x; exact rfl⟩ : { p : PC // p = .seq (S [m 5 4,m 6 0,L 7 6 25,b 8 .lss 3 (t 5) (t 7) 3] (C 8 .skip
 (.exit 0))) (.seq (.block 1 (.ops [m 11 3,m 12 0,m 13 4,x 14 25 12 13,l 15 59 14,c 16 90 #[t 15] #[59],d 17 (.buildSlice 25 1 #[(0,t 16)]),d 18 (.call
 ⟨.builtin .append,#[t 11,t 17],#[25,25]⟩),a 3 18])) (.ops [m 9 4,b 10 .add 3 (t 9) (i 1) 3,a 4 10])) }).1
def pc50_r1 : PC := (⟨_, by delta S a m; exact rfl⟩ : { p : PC // p = S [m 19 3,a 2 19] .ret }).1
def pc50 : PC := (⟨_, by delta A S i; exact rfl⟩ : { p : PC // p = S [A 2 (.const (.slice none 0 0))] (S [A 3 (.const (.slice none 0 0))] (.seq (S [A 4 (i 0)]
 (.block 0 (.loop pc50_l1))) pc50_r1)) }).1
theorem calls50 (hn : args.length = 1) (h : avc Tryz.prog G 20 pc50 (afin Tryz.prog [.tmp 2] R) (frame0 args) σ) : ACalls Tryz.prog G 50 args σ R :=
  acalls' (n := 20) (l := [.tmp 2]) mixed Tryz.func50 (by kernel_rfl) (by kernel_rfl) (by kernel_rfl) (by omega) h
def pc51 : PC := (⟨_, by delta A C S a b c d i m t; exact rfl⟩ : { p : PC // p = S [A 4 (.const (.slice none 0 0))] (S [d 6 (.buildSlice 22 1 #[(0,.const (.int
 .u8 96))]),m 7 0,c 8 91 #[t 7] #[38],d 9 (.call ⟨.builtin .append,#[t 6,t 8],#[22,22]⟩),a 5 9] (.seq (S [m 10 1,b 11 .eql 3 (t 10) (i 0) 3] (C 11 (S [m 12 5,d
 13 (.buildSlice 22 1 #[(0,.const (.int .u8 0))]),d 14 (.call ⟨.builtin .append,#[t 12,t 13],#[22,22]⟩),a 4 14] .ret) .skip)) (S [m 15 5,m 16 1,c 17 92 #[t 16]
 #[3],d 18 (.buildSlice 22 2 #[(0,.const (.int .u8 1)),(1,t 17)]),d 19 (.call ⟨.builtin .append,#[t 15,t 18],#[22,22]⟩),a 4 19] .ret))) }).1
theorem calls51 (hn : args.length = 2) (h : avc Tryz.prog G 20 pc51 (afin Tryz.prog [.tmp 4] R) (frame0 args) σ) : ACalls Tryz.prog G 51 args σ R :=
  acalls' (n := 20) (l := [.tmp 4]) mixed Tryz.func51 (by kernel_rfl) (by kernel_rfl) (by kernel_rfl) (by omega) h
def pc52_l1 : PC := (⟨_, by delta C L S a b d i m t w; exact rfl⟩ : { p : PC // p = .seq (S [m 12 6,m 13 0,L 14 13 38,b 15 .lss 3 (t 12) (t 14) 3,m 16 15,w 17
 (.move (t 0)) 16 true,w 18 (.move (t 6)) 16 true,w 19 (.indexAddr 38 (t 17) (t 18)) 16 true,w 20 (.load 3 (t 19)) 16 true,w 21 (.move (t 0)) 16 true,w 22
 (.move (t 5)) 16 true,w 23 (.indexAddr 38 (t 21) (t 22)) 16 true,w 24 (.load 3 (t 23)) 16 true,w 25 (.binOp .eql 3 (t 20) (t 24) 3) 16 true,d 26 (.pick (t 16)
 (t 25) (.const (.bool false)))] (C 26 .skip (.exit 2))) (.block 3 (.ops [m 27 6,b 28 .add 3 (t 27) (i 1) 3,a 6 28])) }).1
def pc52_r1 : PC := (⟨_, by delta S a b c d i l m t x; exact rfl⟩ : { p : PC // p = S [m 29 3,m 30 6,m 31 5,b 32 .sub 3 (t 30) (t 31) 3,m 35 0,m 36 5,x 37 38 35
 36,l 38 3 37,⟨some 33,.call ⟨.value (.func 25),#[t 32],#[3]⟩,none,[⟨none,3,t 37,38⟩]⟩,⟨some 34,.call ⟨.builtin .append,#[t 29,t 33],#[22,22]⟩,none,[⟨none,3,t
 37,38⟩]⟩,c 39 92 #[t 38] #[3],d 40 (.buildSlice 22 1 #[(0,t 39)]),d 41 (.call ⟨.builtin .append,#[t 34,t 40],#[22,22]⟩),a 3 41] (S [m 42 4,b 43 .add 3 (t 42)
 (i 1) 3,a 4 43] (.ops [m 44 6,a 5 44])) }).1
def pc52_l2 : PC := (⟨_, by delta C L S a b m t; exact rfl⟩ : { p : PC // p = .seq (S [m 7 5,m 8 0,L 9 8 38,b 10 .lss 3 (t 7) (t 9) 3] (C 10 .skip (.exit 0)))
 (.block 1 (S [m 11 5,a 6 11] (.seq (.block 2 (.loop pc52_l1)) pc52_r1))) }).1
def pc52_r2 : PC := (⟨_, by delta S a c d m t; exact rfl⟩ : { p : PC // p = S [m 45 4,c 46 25 #[t 45] #[3],m 47 3,d 48 (.call ⟨.builtin .append,#[t 46,t
 47],#[22,22]⟩),a 2 48] .ret }).1
def pc52 : PC := (⟨_, by delta A S i; exact rfl⟩ : { p : PC // p = S [A 2 (.const (.slice none 0 0))] (S [A 3 (.const (.slice none 0 0))] (S [A 4 (i 0)] (.seq
 (S [A 5 (i 0)] (.block 0 (.loop pc52_l2))) pc52_r2))) }).1
theorem calls52 (hn : args.length = 1) (h : avc Tryz.prog G 49 pc52 (afin Tryz.prog [.tmp 2] R) (frame0 args) σ) : ACalls Tryz.prog G 52 args σ R :=
  acalls' (n := 49) (l := [.tmp 2]) mixed Tryz.func52 (by kernel_rfl) (by kernel_rfl) (by kernel_rfl) (by omega) h
def pc53_l1 : PC := (⟨_, by delta C L S a b c d f i l m s t w x; exact rfl⟩ : { p : PC // p = .seq (S [m 8 6,f 9 59 2 4,l 10 49 9,m 11 1,x 12 49 10 11,l 13 61
 12,L 14 13 61,b 15 .lss 3 (t 8) (t 14) 3] (C 15 .skip (.exit 0))) (.seq (.block 1 (S [f 18 59 2 4,l 19 49 18,m 20 1,x 21 49 19 20,l 22 61 21,m 23 6,x 24 61 22
 23,l 25 73 24,d 7 (.alloc 73),s 73 7 25] (.seq (S [f 26 73 7 0,l 27 3 26,b 28 .lss 3 (t 27) (i 11) 3,m 29 28,w 30 (.fieldAddr 73 (t 7) 0) 29 false,w 31 (.load
 3 (t 30)) 29 false,w 32 (.binOp .gtr 3 (t 31) (i 13) 3) 29 false,d 33 (.pick (t 29) (.const (.bool true)) (t 32))] (C 33 (S [m 34 5,l 35 73 7,c 36 93 #[t 35]
 #[73],d 37 (.call ⟨.builtin .append,#[t 34,t 36],#[22,22]⟩),a 5 37] (.exit 1)) .skip)) (S [m 38 5,f 39 73 7 0,l 40 3 39,b 41 .sub 3 (t 40) (i 9) 3,d 42
 (.convert 3 5 (t 41)),d 43 (.buildSlice 22 2 #[(0,t 42),(1,.const (.int .u8 64))]),d 44 (.call ⟨.builtin .append,#[t 38,t 43],#[22,22]⟩),a 5 44] (S [m 45 5,l
 46 59 2,f 47 73 7 3,l 48 3 47,c 49 53 #[t 46,t 48] #[59,3],d 50 (.call ⟨.builtin .append,#[t 45,t 49],#[22,22]⟩),a 5 50] (.seq (S [f 51 73 7 0,l 52 3 51,b 53
 .eql 3 (t 52) (i 13) 3,m 54 53,w 55 (.fieldAddr 73 (t 7) 4) 54 true,w 56 (.load 3 (t 55)) 54 true,w 57 (.binOp .geq 3 (t 56) (i 0) 3) 54 true,d 58 (.pick (t
 54) (t 57) (.const (.bool false)))] (C 58 (S [m 59 5,d 60 (.buildSlice 22 1 #[(0,.const (.int .u8 5))]),d 61 (.call ⟨.builtin .append,#[t 59,t 60],#[22,22]⟩),a
 5 61] (.ops [m 62 5,l 63 59 2,f 64 73 7 4,l 65 3 64,c 66 53 #[t 63,t 65] #[59,3],d 67 (.call ⟨.builtin .append,#[t 62,t 66],#[22,22]⟩),a 5 67])) .skip)) (.ops
 [m 68 5,d 69 (.buildSlice 22 1 #[(0,.const (.int .u8 11))]),d 70 (.call ⟨.builtin .append,#[t 68,t 69],#[22,22]⟩),a 5 70]))))))) (.ops [m 16 6,b 17 .add 3 (t
 16) (i 1) 3,a 6 17])) }).1
def pc53_r1 : PC := (⟨_, by delta S a m; exact rfl⟩ : { p : PC // p = S [m 71 5,a 4 71] .ret }).1
def pc53 : PC := (⟨_, by delta A S d i t; exact rfl⟩ : { p : PC // p = S [d 2 (.box 59 (t 0)),A 4 (.const (.slice none 0 0))] (S [A 5 (.const (.slice none 0
 0))] (.seq (S [A 6 (i 0)] (.block 0 (.loop pc53_l1))) pc53_r1)) }).1
theorem calls53 (hn : args.length = 2) (h : avc Tryz.prog G 72 pc53 (afin Tryz.prog [.tmp 4] R) (frame0 args) σ) : ACalls Tryz.prog G 53 args σ R :=
  acalls' (n := 72) (l := [.tmp 4]) mixed Tryz.func53 (by kernel_rfl) (by kernel_rfl) (by kernel_rfl) (by omega) h
def pc54 : PC := (⟨_, by delta A L S a c d m t; exact rfl⟩ : { p : PC // p = S [A 2 (.const (.slice none 0 0))] (S [m 3 0,L 4 3 22,c 5 25 #[t 4] #[3],m 6 0,d 7
 (.call ⟨.builtin .append,#[t 5,t 6],#[22,22]⟩),a 2 7] .ret) }).1
theorem calls54 (hn : args.length = 1) (h : avc Tryz.prog G 8 pc54 (afin Tryz.prog [.tmp 2] R) (frame0 args) σ) : ACalls Tryz.prog G 54 args σ R :=
  acalls' (n := 8) (l := [.tmp 2]) mixed Tryz.func54 (by kernel_rfl) (by kernel_rfl) (by kernel_rfl) (by omega) h
def pc55 : PC := (⟨_, by delta A S a c d m t; exact rfl⟩ : { p : PC // p = S [A 2 (.const (.slice none 0 0))] (S [m 3 0,d 4 (.convert 9 22 (t 3)),c 5 54 #[t 4]
 #[22],a 2 5] .ret) }).1
theorem calls55 (hn : args.length = 1) (h : avc Tryz.prog G 6 pc55 (afin Tryz.prog [.tmp 2] R) (frame0 args) σ) : ACalls Tryz.prog G 55 args σ R :=
  acalls' (n := 6) (l := [.tmp 2]) mixed Tryz.func55 (by kernel_rfl) (by kernel_rfl) (by kernel_rfl) (by omega) h
def pc56 : PC := (⟨_, by delta A S a c d m t; exact rfl⟩ : { p : PC // p = S [A 4 (.const (.slice none 0 0))] (S [m 5 0,d 6 (.convert 3 5 (t 5)),d 7
 (.buildSlice 22 1 #[(0,t 6)]),m 8 1,c 9 54 #[t 8] #[22],d 10 (.call ⟨.builtin .append,#[t 7,t 9],#[22,22]⟩),a 4 10] .ret) }).1
theorem calls56 (hn : args.length = 2) (h : avc Tryz.prog G 11 pc56 (afin Tryz.prog [.tmp 4] R) (frame0 args) σ) : ACalls Tryz.prog G 56 args σ R :=
  acalls' (n := 11) (l := [.tmp 4]) mixed Tryz.func56 (by kernel_rfl) (by kernel_rfl) (by kernel_rfl) (by omega) h
def pc57 : PC := (⟨_, by delta A S a b c d f i l m n s t w; exact rfl⟩ : { p : PC // p = S [A 4 (.const (.slice none 0 0))] (S [m 6 1,b 7 .geq 3 (t 6) (i 0) 3,m
 8 7,w 9 (.move (t 1)) 8 true,w 10 (.move (t 0)) 8 true,w 11 (.nilCheck (t 10)) 8 true,w 12 (.fieldAddr 51 (t 11) 0) 8 true,w 13 (.load 22 (t 12)) 8 true,w 14
 (.call ⟨.builtin .len,#[t 13],#[22]⟩) 8 true,w 15 (.binOp .leq 3 (t 9) (t 14) 3) 8 true,d 16 (.pick (t 8) (t 15) (.const (.bool false))),c 17 30 #[t 16,i 2]
 #[4,28]] (S [m 18 0,n 19 18,f 20 51 19 0,l 21 22 20,m 22 1,d 23 (.slice 22 (t 21) none (some (t 22)) none),a 5 23] (S [m 24 0,m 25 0,n 26 25,f 27 51 26 0,l 28
 22 27,m 29 1,d 30 (.slice 22 (t 28) (some (t 29)) none none),n 31 24,f 32 51 31 0,s 22 32 30] (S [m 33 5,a 4 33] .ret)))) }).1
theorem calls57 (hn : args.length = 2) (h : avc Tryz.prog G 34 pc57 (afin Tryz.prog [.tmp 4] R) (frame0 args) σ) : ACalls Tryz.prog G 57 args σ R :=
  acalls' (n := 34) (l := [.tmp 4]) mixed Tryz.func57 (by kernel_rfl) (by kernel_rfl) (by kernel_rfl) (by omega) h
def pc58_l1 : PC := (⟨_, by delta C L S a b c d f i l m s t; exact rfl⟩ : { p : PC // p = S [b 10 .lss 3 (t 9) (t 8) 3] (.seq (C 10 .skip (.exit 0)) (.seq
 (.block 1 (S [m 11 0,c 12 57 #[t 11,i 1] #[48,3]] (S [m 13 0,c 14 94 #[t 13] #[48],d 15 (.build 59 #[(1,t 14)]),d 3 (.alloc 59),s 59 3 15] (.seq (S [m 16 0,c
 17 94 #[t 16] #[48],a 4 17] (S [m 18 4,L 19 18 38,b 20 .gtr 3 (t 19) (i 0) 3] (C 20 (.ops [m 21 4,d 22 (.indexAddr 38 (t 21) (i 0)),l 23 3 22,f 24 59 3 3,s 3
 24 23]) .skip))) (.ops [m 25 2,l 26 59 3,d 27 (.buildSlice 25 1 #[(0,t 26)]),d 28 (.call ⟨.builtin .append,#[t 25,t 27],#[25,25]⟩),a 2 28]))))) (.ops [b 29
 .add 3 (t 9) (i 1) 3,m 9 29]))) }).1
def pc58_r1 : PC := (⟨_, by delta L S a b c d i m t; exact rfl⟩ : { p : PC // p = S [m 30 2,L 31 30 25,b 32 .geq 3 (t 31) (i 3) 3,c 33 30 #[t 32,i 2] #[4,28]]
 (S [m 34 2,d 35 (.slice 25 (t 34) (some (i 3)) none none),a 2 35] .ret) }).1
def pc58 : PC := (⟨_, by delta A S c d i m t; exact rfl⟩ : { p : PC // p = S [A 2 (.const (.slice none 0 0))] (S [m 5 0,c 6 59 #[t 5,.const (.int .u8 1)]
 #[48,5]] (.seq (S [m 7 0,c 8 60 #[t 7,.const (.bool false)] #[48,4],d 9 (.move (i 0))] (.block 0 (.loop pc58_l1))) pc58_r1)) }).1
theorem calls58 (hn : args.length = 1) (h : avc Tryz.prog G 36 pc58 (afin Tryz.prog [.tmp 2] R) (frame0 args) σ) : ACalls Tryz.prog G 58 args σ R :=
  acalls' (n := 36) (l := [.tmp 2]) mixed Tryz.func58 (by kernel_rfl) (by kernel_rfl) (by kernel_rfl) (by omega) h
def pc59 : PC := (⟨_, by delta S b c d i l m t; exact rfl⟩ : { p : PC // p = S [m 4 0,c 5 57 #[t 4,i 1] #[48,3],d 6 (.indexAddr 22 (t 5) (i 0)),l 7 5 6,m 8 1,b
 9 .eql 5 (t 7) (t 8) 5,c 10 30 #[t 9,i 2] #[4,28]] (.ops [m 11 0,c 12 60 #[t 11,.const (.bool false)] #[48,4]]) }).1
theorem calls59 (hn : args.length = 2) (h : avc Tryz.prog G 13 pc59 (afin Tryz.prog [] R) (frame0 args) σ) : ACalls Tryz.prog G 59 args σ R :=
  acalls' (n := 13) (l := []) mixed Tryz.func59 (by kernel_rfl) (by kernel_rfl) (by kernel_rfl) (by omega) h
def pc60_l1 : PC := (⟨_, by delta C S a b c d i l m t w; exact rfl⟩ : { p : PC // p = .seq (.block 1 (S [m 10 6,b 11 .lss 3 (t 10) (i 70) 3,c 12 30 #[t 11,i 2]
 #[4,28]] (S [m 13 0,c 14 57 #[t 13,i 1] #[48,3],d 15 (.indexAddr 22 (t 14) (i 0)),l 16 5 15,a 7 16] (S [m 17 5,m 18 7,b 19 .and 5 (t 18) (.const (.int .u8
 127)) 5,d 20 (.convert 5 110 (t 19)),m 21 6,b 22 .shl 110 (t 20) (t 21) 3,b 23 .or 110 (t 17) (t 22) 110,a 5 23] (S [m 24 7,b 25 .lss 5 (t 24) (.const (.int
 .u8 128)) 5] (C 25 (.seq (S [m 26 1,m 27 26,w 28 (.move (t 7)) 27 true,w 29 (.binOp .geq 5 (t 28) (.const (.int .u8 64)) 5) 27 true,d 30 (.pick (t 27) (t 29)
 (.const (.bool false))),m 31 30,w 32 (.move (t 6)) 31 true,w 33 (.binOp .lss 3 (t 32) (i 57) 3) 31 true,d 34 (.pick (t 31) (t 33) (.const (.bool false)))] (C
 34 (.ops [m 35 5,m 36 6,b 37 .add 3 (t 36) (i 7) 3,b 38 .shl 110 (.const (.int .u64 18446744073709551615)) (t 37) 3,b 39 .or 110 (t 35) (t 38) 110,a 5 39])
 .skip)) (S [m 40 5,d 41 (.convert 110 3 (t 40)),a 4 41] .ret)) .skip)))))) (.ops [m 8 6,b 9 .add 3 (t 8) (i 7) 3,a 6 9]) }).1
def pc60 : PC := (⟨_, by delta A S i; exact rfl⟩ : { p : PC // p = S [A 4 (i 0)] (S [A 5 (.const (.int .u64 0))] (S [A 6 (i 0)] (.block 0 (.loop pc60_l1))))
 }).1
theorem calls60 (hn : args.length = 2) (h : avc Tryz.prog G 42 pc60 (afin Tryz.prog [.tmp 4] R) (frame0 args) σ) : ACalls Tryz.prog G 60 args σ R :=
  acalls' (n := 42) (l := [.tmp 4]) mixed Tryz.func60 (by kernel_rfl) (by kernel_rfl) (by kernel_rfl) (by omega) h
def pc61_l1 : PC := (⟨_, by delta C S a b c d f i l m n s t w; exact rfl⟩ : { p : PC // p = S [b 10 .lss 3 (t 9) (t 8) 3] (.seq (C 10 .skip (.exit 0)) (.seq
 (.block 1 (S [m 11 0,c 12 60 #[t 11,.const (.bool false)] #[48,4],a 4 12] (S [m 13 4,b 14 .geq 3 (t 13) (i 0) 3,m 15 14,w 16 (.move (t 4)) 15 true,w 17 (.move
 (t 0)) 15 true,w 18 (.nilCheck (t 17)) 15 true,w 19 (.fieldAddr 51 (t 18) 2) 15 true,w 20 (.load 3 (t 19)) 15 true,w 21 (.binOp .sub 3 (i 65536) (t 20) 3) 15
 true,w 22 (.binOp .leq 3 (t 16) (t 21) 3) 15 true,d 23 (.pick (t 15) (t 22) (.const (.bool false))),c 24 30 #[t 23,i 9] #[4,28]] (S [m 25 0,n 26 25,f 27 51 26
 2,l 28 3 27,m 29 4,b 30 .add 3 (t 28) (t 29) 3,n 31 25,f 32 51 31 2,s 3 32 30] (.ops [m 33 1,m 34 1,n 35 34,f 36 59 35 2,l 37 38 36,m 38 0,m 45 4,⟨some
 39,.call ⟨.value (.func 57),#[t 38,i 1],#[48,3]⟩,none,[⟨none,38,t 36,37⟩]⟩,d 40 (.indexAddr 22 (t 39) (i 0)),l 41 5 40,⟨some 42,.convert 5 3 (t
 41),none,[⟨none,38,t 36,37⟩]⟩,b 43 .sub 3 (i 128) (t 42) 3,d 44 (.buildSlice 38 1 #[(0,t 43)]),⟨some 46,.call ⟨.value (.func 95),#[t 44,t
 45],#[38,3]⟩,none,[⟨none,38,t 36,37⟩]⟩,d 47 (.call ⟨.builtin .append,#[t 37,t 46],#[38,38]⟩),n 48 33,f 49 59 48 2,s 38 49 47]))))) (.ops [b 50 .add 3 (t 9) (i
 1) 3,m 9 50]))) }).1
def pc61_r1 : PC := (⟨_, by delta S c e f i l m n s t; exact rfl⟩ : { p : PC // p = S [m 51 0,n 52 51,f 53 51 52 1,e (.store 49 (t 53) (.const (.slice none 0
 0)))] (S [m 54 0,c 55 96 #[t 54,i 0] #[48,3]] (.ops [m 56 1,m 57 0,n 58 57,f 59 51 58 1,l 60 49 59,n 61 56,f 62 59 61 4,s 49 62 60])) }).1
def pc61 : PC := (⟨_, by delta S c d i m t; exact rfl⟩ : { p : PC // p = S [m 5 0,c 6 60 #[t 5,.const (.bool false)] #[48,4]] (.seq (S [m 7 0,c 8 60 #[t
 7,.const (.bool false)] #[48,4],d 9 (.move (i 0))] (.block 0 (.loop pc61_l1))) pc61_r1) }).1
theorem calls61 (hn : args.length = 2) (h : avc Tryz.prog G 63 pc61 (afin Tryz.prog [] R) (frame0 args) σ) : ACalls Tryz.prog G 61 args σ R :=
  acalls' (n := 63) (l := []) mixed Tryz.func61 (by kernel_rfl) (by kernel_rfl) (by kernel_rfl) (by omega) h
def pc62 : PC := (⟨_, by delta A S a b d i m t w; exact rfl⟩ : { p : PC // p = S [A 2 (.const (.bool false))] (S [m 3 0,b 4 .neq 3 (t 3) (i 1) 3,m 5 4,w 6
 (.move (t 0)) 5 true,w 7 (.binOp .neq 3 (t 6) (i 2) 3) 5 true,d 8 (.pick (t 5) (t 7) (.const (.bool false))),a 2 8] .ret) }).1
theorem calls62 (hn : args.length = 1) (h : avc Tryz.prog G 9 pc62 (afin Tryz.prog [.tmp 2] R) (frame0 args) σ) : ACalls Tryz.prog G 62 args σ R :=
  acalls' (n := 9) (l := [.tmp 2]) mixed Tryz.func62 (by kernel_rfl) (by kernel_rfl) (by kernel_rfl) (by omega) h
def pc63 : PC := (⟨_, by delta A S a b c i m t; exact rfl⟩ : { p : PC // p = S [A 4 (.const (.bool false))] (S [m 5 0,m 6 1,c 7 97 #[t 5,t 6] #[25,90],b 8 .geq
 3 (t 7) (i 0) 3,a 4 8] .ret) }).1
theorem calls63 (hn : args.length = 2) (h : avc Tryz.prog G 9 pc63 (afin Tryz.prog [.tmp 4] R) (frame0 args) σ) : ACalls Tryz.prog G 63 args σ R :=
  acalls' (n := 9) (l := [.tmp 4]) mixed Tryz.func63 (by kernel_rfl) (by kernel_rfl) (by kernel_rfl) (by omega) h
def pc64 : PC := (⟨_, by delta A S a c d f i l m t w; exact rfl⟩ : { p : PC // p = S [d 2 (.box 59 (t 0)),A 3 (.const (.bool false))] (S [f 4 59 2 1,l 5 38 4,l
 6 87 1,c 7 65 #[t 5,t 6] #[38,87],m 8 7,w 9 (.fieldAddr 59 (t 2) 2) 8 false,w 10 (.load 38 (t 9)) 8 false,w 11 (.load 87 (t 1)) 8 false,w 12 (.call ⟨.value
 (.func 65),#[t 10,t 11],#[38,87]⟩) 8 false,d 13 (.pick (t 8) (.const (.bool true)) (t 12)),m 14 13,w 15 (.fieldAddr 59 (t 2) 3) 14 false,w 16 (.load 3 (t 15))
 14 false,w 17 (.binOp .neq 3 (t 16) (i 0) 3) 14 false,w 18 (.move (t 17)) 14 false,w 19 (.load 87 (t 1)) 18 true,w 20 (.fieldAddr 59 (t 2) 3) 18 true,w 21
 (.load 3 (t 20)) 18 true,w 22 (.call ⟨.value (t 19),#[t 21],#[3]⟩) 18 true,w 23 (.pick (t 18) (t 22) (.const (.bool false))) 14 false,d 24 (.pick (t 14)
 (.const (.bool true)) (t 23)),a 3 24] .ret) }).1
theorem calls64 (hn : args.length = 2) (h : avc Tryz.prog G 25 pc64 (afin Tryz.prog [.tmp 3] R) (frame0 args) σ) : ACalls Tryz.prog G 64 args σ R :=
  acalls' (n := 25) (l := [.tmp 3]) mixed Tryz.func64 (by kernel_rfl) (by kernel_rfl) (by kernel_rfl) (by omega) h
def pc65 : PC := (⟨_, by delta A S a b c i m t; exact rfl⟩ : { p : PC // p = S [A 4 (.const (.bool false))] (S [m 5 0,m 6 1,c 7 98 #[t 5,t 6] #[38,87],b 8 .geq
 3 (t 7) (i 0) 3,a 4 8] .ret) }).1
theorem calls65 (hn : args.length = 2) (h : avc Tryz.prog G 9 pc65 (afin Tryz.prog [.tmp 4] R) (frame0 args) σ) : ACalls Tryz.prog G 65 args σ R :=
  acalls' (n := 9) (l := [.tmp 4]) mixed Tryz.func65 (by kernel_rfl) (by kernel_rfl) (by kernel_rfl) (by omega) h
def pc66 : PC := (⟨_, by delta A S a b d f i l m t w; exact rfl⟩ : { p : PC // p = S [d 1 (.box 73 (t 0)),A 2 (.const (.bool false))] (S [f 3 73 1 2,l 4 3 3,b 5
 .lss 3 (t 4) (i 0) 3,m 6 5,w 7 (.fieldAddr 73 (t 1) 0) 6 true,w 8 (.load 3 (t 7)) 6 true,w 9 (.binOp .neq 3 (t 8) (i 1) 3) 6 true,d 10 (.pick (t 6) (t 9)
 (.const (.bool false))),a 2 10] .ret) }).1
theorem calls66 (hn : args.length = 1) (h : avc Tryz.prog G 11 pc66 (afin Tryz.prog [.tmp 2] R) (frame0 args) σ) : ACalls Tryz.prog G 66 args σ R :=
  acalls' (n := 11) (l := [.tmp 2]) mixed Tryz.func66 (by kernel_rfl) (by kernel_rfl) (by kernel_rfl) (by omega) h
def pc67 : PC := (⟨_, by delta A S a c d f l t; exact rfl⟩ : { p : PC // p = S [d 2 (.box 59 (t 0)),A 3 (.const (.bool false))] (S [f 4 59 2 4,l 5 49 4,d 6
 (.makeFunc (.func 69) #[] #[t 1]),c 7 68 #[t 5,t 6] #[49,94],a 3 7] .ret) }).1
theorem calls67 (hn : args.length = 2) (h : avc Tryz.prog G 8 pc67 (afin Tryz.prog [.tmp 3] R) (frame0 args) σ) : ACalls Tryz.prog G 67 args σ R :=
  acalls' (n := 8) (l := [.tmp 3]) mixed Tryz.func67 (by kernel_rfl) (by kernel_rfl) (by kernel_rfl) (by omega) h
def pc68 : PC := (⟨_, by delta A S a b c i m t; exact rfl⟩ : { p : PC // p = S [A 4 (.const (.bool false))] (S [m 5 0,m 6 1,c 7 99 #[t 5,t 6] #[49,94],b 8 .geq
 3 (t 7) (i 0) 3,a 4 8] .ret) }).1
theorem calls68 (hn : args.length = 2) (h : avc Tryz.prog G 9 pc68 (afin Tryz.prog [.tmp 4] R) (frame0 args) σ) : ACalls Tryz.prog G 68 args σ R :=
  acalls' (n := 9) (l := [.tmp 4]) mixed Tryz.func68 (by kernel_rfl) (by kernel_rfl) (by kernel_rfl) (by omega) h
def pc69 : PC := (⟨_, by delta A S a c l m t; exact rfl⟩ : { p : PC // p = S [A 3 (.const (.bool false))] (S [m 4 0,l 5 91 1,c 6 70 #[t 4,t 5] #[61,91],a 3 6]
 .ret) }).1
theorem calls69 (hn : args.length = 2) (h : avc Tryz.prog G 7 pc69 (afin Tryz.prog [.tmp 3] R) (frame0 args) σ) : ACalls Tryz.prog G 69 args σ R :=
  acalls' (n := 7) (l := [.tmp 3]) mixed Tryz.func69 (by kernel_rfl) (by kernel_rfl) (by kernel_rfl) (by omega) h
def pc70 : PC := (⟨_, by delta A S a b c i m t; exact rfl⟩ : { p : PC // p = S [A 4 (.const (.bool false))] (S [m 5 0,m 6 1,c 7 100 #[t 5,t 6] #[61,91],b 8 .geq
 3 (t 7) (i 0) 3,a 4 8] .ret) }).1
theorem calls70 (hn : args.length = 2) (h : avc Tryz.prog G 9 pc70 (afin Tryz.prog [.tmp 4] R) (frame0 args) σ) : ACalls Tryz.prog G 70 args σ R :=
  acalls' (n := 9) (l := [.tmp 4]) mixed Tryz.func70 (by kernel_rfl) (by kernel_rfl) (by kernel_rfl) (by omega) h
def pc76 : PC := (⟨_, by delta A S a b d f l m t w; exact rfl⟩ : { p : PC // p = S [d 2 (.box 59 (t 0)),d 3 (.box 59 (t 1)),A 4 (.const (.bool false))] (S [f 5
 59 2 0,l 6 9 5,f 7 59 3 0,l 8 9 7,b 9 .eql 9 (t 6) (t 8) 9,m 10 9,w 11 (.fieldAddr 59 (t 2) 3) 10 true,w 12 (.load 3 (t 11)) 10 true,w 13 (.fieldAddr 59 (t 3)
 3) 10 true,w 14 (.load 3 (t 13)) 10 true,w 15 (.binOp .eql 3 (t 12) (t 14) 3) 10 true,d 16 (.pick (t 10) (t 15) (.const (.bool false))),m 17 16,w 18
 (.fieldAddr 59 (t 2) 1) 17 true,w 19 (.load 38 (t 18)) 17 true,w 20 (.fieldAddr 59 (t 3) 1) 17 true,w 21 (.load 38 (t 20)) 17 true,w 22 (.call ⟨.value (.func
 104),#[t 19,t 21],#[38,38]⟩) 17 true,d 23 (.pick (t 17) (t 22) (.const (.bool false))),m 24 23,w 25 (.fieldAddr 59 (t 2) 2) 24 true,w 26 (.load 38 (t 25)) 24
 true,w 27 (.fieldAddr 59 (t 3) 2) 24 true,w 28 (.load 38 (t 27)) 24 true,w 29 (.call ⟨.value (.func 104),#[t 26,t 28],#[38,38]⟩) 24 true,d 30 (.pick (t 24) (t
 29) (.const (.bool false))),m 31 30,w 32 (.fieldAddr 59 (t 2) 4) 31 true,w 33 (.load 49 (t 32)) 31 true,w 34 (.fieldAddr 59 (t 3) 4) 31 true,w 35 (.load 49 (t
 34)) 31 true,w 36 (.call ⟨.value (.func 105),#[t 33,t 35],#[49,49]⟩) 31 true,d 37 (.pick (t 31) (t 36) (.const (.bool false))),a 4 37] .ret) }).1
theorem calls76 (hn : args.length = 2) (h : avc Tryz.prog G 38 pc76 (afin Tryz.prog [.tmp 4] R) (frame0 args) σ) : ACalls Tryz.prog G 76 args σ R :=
  acalls' (n := 38) (l := [.tmp 4]) mixed Tryz.func76 (by kernel_rfl) (by kernel_rfl) (by kernel_rfl) (by omega) h
def pc81_l1 : PC := (⟨_, by delta C S a b d i l m t x; exact rfl⟩ : { p : PC // p = S [b 12 .lss 3 (t 11) (t 10) 3] (.seq (C 12 .skip (.exit 0)) (.seq (.block 1
 (S [x 13 38 9 11,l 14 3 13,a 5 14] (.ops [m 15 3,m 16 5,b 17 .sub 3 (i 128) (t 16) 3,d 18 (.convert 3 5 (t 17)),d 19 (.buildSlice 22 1 #[(0,t 18)]),d 20 (.call
 ⟨.builtin .append,#[t 15,t 19],#[22,22]⟩),a 3 20]))) (.ops [b 21 .add 3 (t 11) (i 1) 3,m 11 21]))) }).1
def pc81_r1 : PC := (⟨_, by delta S a m; exact rfl⟩ : { p : PC // p = S [m 22 3,a 2 22] .ret }).1
def pc81 : PC := (⟨_, by delta A L S a c d i m t; exact rfl⟩ : { p : PC // p = S [A 2 (.const (.slice none 0 0))] (S [m 6 0,L 7 6 38,c 8 15 #[t 7] #[3],a 3 8]
 (.seq (S [m 9 0,L 10 9 38,d 11 (.move (i 0))] (.block 0 (.loop pc81_l1))) pc81_r1)) }).1
theorem calls81 (hn : args.length = 1) (h : avc Tryz.prog G 23 pc81 (afin Tryz.prog [.tmp 2] R) (frame0 args) σ) : ACalls Tryz.prog G 81 args σ R :=
  acalls' (n := 23) (l := [.tmp 2]) mixed Tryz.func81 (by kernel_rfl) (by kernel_rfl) (by kernel_rfl) (by omega) h
def pc82 : PC := (⟨_, by delta A C S a b c d i m t; exact rfl⟩ : { p : PC // p = S [A 2 (.const (.slice none 0 0))] (.seq (S [m 3 0,b 4 .eql 3 (t 3) (i 0) 3] (C
 4 (S [c 5 81 #[.const (.slice none 0 0)] #[38],a 2 5] .ret) .skip)) (S [m 6 0,d 7 (.buildSlice 38 1 #[(0,t 6)]),c 8 81 #[t 7] #[38],a 2 8] .ret)) }).1
theorem calls82 (hn : args.length = 1) (h : avc Tryz.prog G 9 pc82 (afin Tryz.prog [.tmp 2] R) (frame0 args) σ) : ACalls Tryz.prog G 82 args σ R :=
  acalls' (n := 9) (l := [.tmp 2]) mixed Tryz.func82 (by kernel_rfl) (by kernel_rfl) (by kernel_rfl) (by omega) h
def pc83 : PC := (⟨_, by delta A C L S a b d e i m t; exact rfl⟩ : { p : PC // p = S [A 4 (.const (.slice none 0 0))] (.seq (S [m 5 1,b 6 .lss 3 (t 5) (i 0) 3]
 (C 6 (.ops [d 7 (.makeInterface 9 (.const (.string ⟨#[99,97,110,110,111,116,32,98,101,32,110,101,103,97,116,105,118,101]⟩))),e (.panic (t 7))]) .skip)) (.seq
 (S [m 8 1,m 9 0,d 10 (.call ⟨.builtin .cap,#[t 9],#[22]⟩),m 11 0,L 12 11 22,b 13 .sub 3 (t 10) (t 12) 3,b 14 .sub 3 (t 8) (t 13) 3,a 1 14] (S [m 15 1,b 16 .gtr
 3 (t 15) (i 0) 3] (C 16 (.ops [m 17 0,m 18 0,d 19 (.call ⟨.builtin .cap,#[t 18],#[22]⟩),d 20 (.slice 22 (t 17) none (some (t 19)) none),m 21 1,d 22 (.call
 ⟨.builtin .append,#[t 20,t 21],#[22,3]⟩),m 23 0,L 24 23 22,d 25 (.slice 22 (t 22) none (some (t 24)) none),a 0 25]) .skip))) (S [m 26 0,a 4 26] .ret))) }).1
theorem calls83 (hn : args.length = 2) (h : avc Tryz.prog G 27 pc83 (afin Tryz.prog [.tmp 4] R) (frame0 args) σ) : ACalls Tryz.prog G 83 args σ R :=
  acalls' (n := 27) (l := [.tmp 4]) mixed Tryz.func83 (by kernel_rfl) (by kernel_rfl) (by kernel_rfl) (by omega) h
def pc84_l1 : PC := (⟨_, by delta C S a b d f i l m s t w; exact rfl⟩ : { p : PC // p = S [d 41 (.next (t 40) false),d 42 (.extract (t 41) 0)] (.seq (C 42 .skip
 (.exit 2)) (.block 3 (S [d 43 (.entry (t 40)),d 44 (.extract (t 43) 0),d 45 (.extract (t 43) 1),d 7 (.alloc 73),a 6 44,s 73 7 45] (S [f 46 73 7 0,l 47 3 46,f
 48 73 1 0,l 49 3 48,b 50 .eql 3 (t 47) (t 49) 3,m 51 50,w 52 (.fieldAddr 73 (t 7) 2) 51 true,w 53 (.load 3 (t 52)) 51 true,w 54 (.move (t 3)) 51 true,w 55
 (.binOp .eql 3 (t 53) (t 54) 3) 51 true,d 56 (.pick (t 51) (t 55) (.const (.bool false))),m 57 56,w 58 (.fieldAddr 73 (t 7) 1) 57 true,w 59 (.load 3 (t 58)) 57
 true,w 60 (.binOp .eql 3 (t 59) (i 0) 3) 57 true,w 61 (.move (t 60)) 57 true,w 62 (.fieldAddr 73 (t 7) 1) 61 false,w 63 (.load 3 (t 62)) 61 false,w 64
 (.fieldAddr 73 (t 1) 1) 61 false,w 65 (.load 3 (t 64)) 61 false,w 66 (.binOp .eql 3 (t 63) (t 65) 3) 61 false,w 67 (.pick (t 61) (.const (.bool true)) (t 66))
 57 true,d 68 (.pick (t 57) (t 67) (.const (.bool false)))] (C 68 (S [m 69 6,a 2 69] .ret) .skip))))) }).1
def pc84_r1 : PC := (⟨_, by delta b i m t; exact rfl⟩ : { p : PC // p = .ops [b 70 .add 3 (t 35) (i 1) 3,m 35 70] }).1
def pc84_l2 : PC := (⟨_, by delta C S a b d l m t x; exact rfl⟩ : { p : PC // p = S [b 36 .lss 3 (t 35) (t 34) 3] (.seq (C 36 .skip (.exit 0)) (.seq (.block 1
 (S [x 37 126 33 35,l 38 125 37,a 5 38] (S [m 39 5,d 40 (.range 125 (t 39))] (.block 2 (.loop pc84_l1))))) pc84_r1)) }).1
def pc84_r2 : PC := (⟨_, by delta A S; exact rfl⟩ : { p : PC // p = S [A 2 (.const (.int .u8 0))] .ret }).1
def pc84 : PC := (⟨_, by delta A C L S a b d f i l m t w; exact rfl⟩ : { p : PC // p = S [d 1 (.box 73 (t 0)),A 2 (.const (.int .u8 0))] (.seq (S [f 8 73 1 0,l
 9 3 8,b 10 .eql 3 (t 9) (i 4) 3] (C 10 (S [f 11 73 1 1,l 12 3 11,b 13 .sub 3 (t 12) (i 1) 3,d 14 (.indexAddr 122 (.global 0) (t 13)),l 15 9 14,f 17 73 1 5,l 18
 9 17,⟨some 16,.call ⟨.value (.func 107),#[.const (.string
 ⟨#[97,100,100,32,115,117,98,32,109,117,108,32,100,105,118,95,115,32,114,101,109,95,115,32,97,110,100,32,111,114,32,120,111,114,32,115,104,108,32,115,104,114,95,115,32,101,113,32,110,101,32,108,116,95,115,32,103,116,95,115,32,108,101,95,115,32,103,101,95,115]⟩)],#[9]⟩,none,[⟨none,3,t
 11,12⟩,⟨none,9,t 14,15⟩,⟨none,9,t 17,18⟩]⟩,⟨some 19,.call ⟨.value (.func 106),#[t 16,t 18],#[66,9]⟩,none,[⟨none,3,t 11,12⟩,⟨none,9,t 14,15⟩]⟩,d 20 (.index 9 (t
 15) (t 19)),a 2 20] .ret) .skip)) (S [f 21 73 1 2,l 22 3 21,a 3 22] (.seq (S [f 23 73 1 0,l 24 3 23,b 25 .neq 3 (t 24) (i 8) 3,m 26 25,w 27 (.fieldAddr 73 (t
 1) 0) 26 true,w 28 (.load 3 (t 27)) 26 true,w 29 (.binOp .neq 3 (t 28) (i 9) 3) 26 true,d 30 (.pick (t 26) (t 29) (.const (.bool false)))] (C 30 (.ops [A 3 (i
 0)]) .skip)) (.seq (S [d 31 (.load 125 (.global 1)),d 32 (.load 125 (.global 2)),d 33 (.buildSlice 126 2 #[(0,t 31),(1,t 32)]),L 34 33 126,d 35 (.move (i 0))]
 (.block 0 (.loop pc84_l2))) pc84_r2)))) }).1
theorem calls84 (hn : args.length = 1) (h : avc Tryz.prog G 71 pc84 (afin Tryz.prog [.tmp 2] R) (frame0 args) σ) : ACalls Tryz.prog G 84 args σ R :=
  acalls' (n := 71) (l := [.tmp 2]) mixed Tryz.func84 (by kernel_rfl) (by kernel_rfl) (by kernel_rfl) (by omega) h
def pc85_l1 : PC := (⟨_, by delta C L S a b d e i l m t x; exact rfl⟩ : { p : PC // p = S [b 12 .lss 3 (t 11) (t 10) 3] (.seq (C 12 .skip (.exit 0)) (.seq
 (.block 1 (S [x 13 127 9 11,l 14 38 13,a 5 14] (S [m 15 3,m 16 5,L 17 16 38,b 18 .add 3 (t 15) (t 17) 3,a 3 18] (S [m 19 3,b 20 .lss 3 (t 19) (i 0) 3] (C 20
 (.ops [d 21 (.makeInterface 9 (.const (.string ⟨#[108,101,110,32,111,117,116,32,111,102,32,114,97,110,103,101]⟩))),e (.panic (t 21))]) .skip))))) (.ops [b 22
 .add 3 (t 11) (i 1) 3,m 11 22]))) }).1
def pc85_l2 : PC := (⟨_, by delta C S a b d i l m t x; exact rfl⟩ : { p : PC // p = S [b 28 .lss 3 (t 27) (t 26) 3] (.seq (C 28 .skip (.exit 2)) (.seq (.block 3
 (S [x 29 127 25 27,l 30 38 29,a 8 30] (.ops [m 31 6,m 32 8,d 33 (.call ⟨.builtin .append,#[t 31,t 32],#[38,38]⟩),a 6 33]))) (.ops [b 34 .add 3 (t 27) (i 1) 3,m
 27 34]))) }).1
def pc85_r1 : PC := (⟨_, by delta S a m; exact rfl⟩ : { p : PC // p = S [m 35 6,a 2 35] .ret }).1
def pc85_r2 : PC := (⟨_, by delta L S a c d i m t; exact rfl⟩ : { p : PC // p = S [m 23 3,c 24 108 #[.const (.slice none 0 0),t 23] #[38,3],a 6 24] (.seq (S [m
 25 0,L 26 25 127,d 27 (.move (i 0))] (.block 2 (.loop pc85_l2))) pc85_r1) }).1
def pc85 : PC := (⟨_, by delta A L S d i m; exact rfl⟩ : { p : PC // p = S [A 2 (.const (.slice none 0 0))] (S [A 3 (i 0)] (.seq (S [m 9 0,L 10 9 127,d 11
 (.move (i 0))] (.block 0 (.loop pc85_l1))) pc85_r2)) }).1
theorem calls85 (hn : args.length = 1) (h : avc Tryz.prog G 36 pc85 (afin Tryz.prog [.tmp 2] R) (frame0 args) σ) : ACalls Tryz.prog G 85 args σ R :=
  acalls' (n := 36) (l := [.tmp 2]) mixed Tryz.func85 (by kernel_rfl) (by kernel_rfl) (by kernel_rfl) (by omega) h
def pc86 : PC := (⟨_, by delta A S a c d m t; exact rfl⟩ : { p : PC // p = S [A 2 (.const (.bool false))] (S [m 3 0,c 4 87 #[t 3] #[3],d 5 (.unOp .not 4 (t
 4)),a 2 5] .ret) }).1
theorem calls86 (hn : args.length = 1) (h : avc Tryz.prog G 6 pc86 (afin Tryz.prog [.tmp 2] R) (frame0 args) σ) : ACalls Tryz.prog G 86 args σ R :=
  acalls' (n := 6) (l := [.tmp 2]) mixed Tryz.func86 (by kernel_rfl) (by kernel_rfl) (by kernel_rfl) (by omega) h
def pc87 : PC := (⟨_, by delta A S a b d i m t w; exact rfl⟩ : { p : PC // p = S [A 2 (.const (.bool false))] (S [m 3 0,b 4 .eql 3 (t 3) (i 1) 3,m 5 4,w 6
 (.move (t 0)) 5 false,w 7 (.binOp .eql 3 (t 6) (i 2) 3) 5 false,d 8 (.pick (t 5) (.const (.bool true)) (t 7)),a 2 8] .ret) }).1
theorem calls87 (hn : args.length = 1) (h : avc Tryz.prog G 9 pc87 (afin Tryz.prog [.tmp 2] R) (frame0 args) σ) : ACalls Tryz.prog G 87 args σ R :=
  acalls' (n := 9) (l := [.tmp 2]) mixed Tryz.func87 (by kernel_rfl) (by kernel_rfl) (by kernel_rfl) (by omega) h
def pc88_l1 : PC := (⟨_, by delta C S a b c d e i l m t w x; exact rfl⟩ : { p : PC // p = S [b 45 .lss 3 (t 44) (t 43) 3] (.seq (C 45 .skip (.exit 4)) (.seq
 (.block 5 (S [x 46 38 42 44,l 47 3 46,a 8 47] (S [m 48 8,b 49 .geq 3 (t 48) (i 0) 3,m 50 49,w 51 (.move (t 8)) 50 true,w 52 (.move (t 3)) 50 true,w 53 (.binOp
 .lss 3 (t 51) (t 52) 3) 50 true,d 54 (.pick (t 50) (t 53) (.const (.bool false))),m 55 54,w 56 (.move (t 2)) 55 true,w 57 (.move (t 8)) 55 true,w 58
 (.indexAddr 128 (t 56) (t 57)) 55 true,w 59 (.load 4 (t 58)) 55 true,w 60 (.unOp .not 4 (t 59)) 55 true,d 61 (.pick (t 55) (t 60) (.const (.bool false))),c 62
 48 #[t 61,i 11] #[4,28]] (.ops [m 63 2,m 64 8,x 65 128 63 64,e (.store 4 (t 65) (.const (.bool true)))])))) (.ops [b 66 .add 3 (t 44) (i 1) 3,m 44 66]))) }).1
def pc88_r1 : PC := (⟨_, by delta b i m t; exact rfl⟩ : { p : PC // p = .ops [b 67 .add 3 (t 37) (i 1) 3,m 37 67] }).1
def pc88_l2 : PC := (⟨_, by delta C L S b c d i l s t x; exact rfl⟩ : { p : PC // p = S [b 38 .lss 3 (t 37) (t 36) 3] (.seq (C 38 .skip (.exit 2)) (.seq (.block
 3 (S [x 39 61 35 37,l 40 73 39,d 6 (.alloc 73),s 73 6 40] (S [l 41 73 6,c 42 109 #[t 41] #[73],L 43 42 38,d 44 (.move (i 0))] (.block 4 (.loop pc88_l1)))))
 pc88_r1)) }).1
def pc88_r2 : PC := (⟨_, by delta b i m t; exact rfl⟩ : { p : PC // p = .ops [b 68 .add 3 (t 30) (i 1) 3,m 30 68] }).1
def pc88_l3 : PC := (⟨_, by delta C L S a b d i l m t x; exact rfl⟩ : { p : PC // p = S [b 31 .lss 3 (t 30) (t 29) 3] (.seq (C 31 .skip (.exit 0)) (.seq (.block
 1 (S [m 32 30,x 33 49 28 30,l 34 61 33,a 3 32,a 4 34] (S [m 35 4,L 36 35 61,d 37 (.move (i 0))] (.block 2 (.loop pc88_l2))))) pc88_r2)) }).1
def pc88_r3 : PC := (⟨_, by delta L b c d i m t; exact rfl⟩ : { p : PC // p = .ops [m 69 2,m 70 2,L 71 70 128,b 72 .sub 3 (t 71) (i 1) 3,d 73 (.slice 128 (t 69)
 none (some (t 72)) none),c 74 110 #[t 73,.const (.bool false)] #[128,4],d 75 (.unOp .not 4 (t 74)),c 76 48 #[t 75,i 11] #[4,28]] }).1
def pc88 : PC := (⟨_, by delta L S a b c d f i l m n t; exact rfl⟩ : { p : PC // p = S [m 9 0,n 10 9,f 11 78 10 1,f 12 59 11 4,l 13 49 12,L 14 13 49,b 15 .gtr 3
 (t 14) (i 0) 3,c 16 48 #[t 15,i 11] #[4,28]] (S [m 17 0,n 18 17,f 19 78 18 1,f 20 59 19 4,l 21 49 20,L 22 21 49,d 23 (.makeSlice 128 (t 22) (t 22)),a 2 23]
 (.seq (S [m 24 0,n 25 24,f 26 78 25 1,f 27 59 26 4,l 28 49 27,L 29 28 49,d 30 (.move (i 0))] (.block 0 (.loop pc88_l3))) pc88_r3)) }).1
theorem calls88 (hn : args.length = 1) (h : avc Tryz.prog G 77 pc88 (afin Tryz.prog [] R) (frame0 args) σ) : ACalls Tryz.prog G 88 args σ R :=
  acalls' (n := 77) (l := []) mixed Tryz.func88 (by kernel_rfl) (by kernel_rfl) (by kernel_rfl) (by omega) h
def pc89_l1 : PC := (⟨_, by delta C S b c d i l m s t x; exact rfl⟩ : { p : PC // p = S [b 23 .lss 3 (t 22) (t 21) 3] (.seq (C 23 .skip (.exit 0)) (.seq (.block
 1 (S [x 24 61 20 22,l 25 73 24,d 8 (.alloc 73),s 73 8 25] (.ops [m 26 6,l 27 73 8,c 28 111 #[t 26,t 27] #[131,73]]))) (.ops [b 29 .add 3 (t 22) (i 1) 3,m 22
 29]))) }).1
def pc89_r1 : PC := (⟨_, by delta C L S b c f i l m n t; exact rfl⟩ : { p : PC // p = .seq (S [m 30 2,b 31 .eql 3 (t 30) (i 0) 3] (C 31 (.ops [m 32 6,c 33 112
 #[t 32] #[131]]) .skip)) (.ops [m 34 6,n 35 34,f 36 133 35 1,l 37 38 36,L 38 37 38,b 39 .eql 3 (t 38) (i 0) 3,c 40 48 #[t 39,i 14] #[4,28]]) }).1
def pc89 : PC := (⟨_, by delta L S a d f i l m n t x; exact rfl⟩ : { p : PC // p = S [m 9 0,m 10 2,d 11 (.build 133 #[(0,t 9),(3,t 10)]),d 12 (.box 133 (t
 11)),a 6 12] (.seq (S [m 13 0,n 14 13,f 15 78 14 1,f 16 59 15 4,l 17 49 16,m 18 1,x 19 49 17 18,l 20 61 19,L 21 20 61,d 22 (.move (i 0))] (.block 0 (.loop
 pc89_l1))) pc89_r1) }).1
theorem calls89 (hn : args.length = 3) (h : avc Tryz.prog G 41 pc89 (afin Tryz.prog [] R) (frame0 args) σ) : ACalls Tryz.prog G 89 args σ R :=
  acalls' (n := 41) (l := []) mixed Tryz.func89 (by kernel_rfl) (by kernel_rfl) (by kernel_rfl) (by omega) h
def pc90 : PC := (⟨_, by delta S c d f l s t; exact rfl⟩ : { p : PC // p = S [d 1 (.box 59 (t 0)),d 2 (.alloc 59)] (S [f 3 59 1 1,l 4 38 3,c 5 113 #[t 4]
 #[38],f 6 59 1 1,s 38 6 5] (S [f 7 59 1 2,l 8 38 7,c 9 113 #[t 8] #[38],f 10 59 1 2,s 38 10 9] (S [f 11 59 1 4,l 12 49 11,c 13 114 #[t 12] #[49],f 14 59 1 4,s
 49 14 13] (S [l 15 59 1,s 59 2 15] .ret)))) }).1
theorem calls90 (hn : args.length = 1) (h : avc Tryz.prog G 16 pc90 (afin Tryz.prog [.cell 2 59] R) (frame0 args) σ) : ACalls Tryz.prog G 90 args σ R :=
  acalls' (n := 16) (l := [.cell 2 59]) mixed Tryz.func90 (by kernel_rfl) (by kernel_rfl) (by kernel_rfl) (by omega) h
def pc91_l1 : PC := (⟨_, by delta C L S a b c d i l m t x; exact rfl⟩ : { p : PC // p = .seq (S [m 8 4,m 9 0,L 10 9 38,b 11 .lss 3 (t 8) (t 10) 3] (C 11 .skip
 (.exit 0))) (.seq (.block 1 (.ops [m 14 3,m 15 0,m 16 4,x 17 38 15 16,l 18 3 17,c 19 92 #[t 18] #[3],d 20 (.buildSlice 22 1 #[(0,t 19)]),d 21 (.call ⟨.builtin
 .append,#[t 14,t 20],#[22,22]⟩),a 3 21])) (.ops [m 12 4,b 13 .add 3 (t 12) (i 1) 3,a 4 13])) }).1
def pc91_r1 : PC := (⟨_, by delta S a m; exact rfl⟩ : { p : PC // p = S [m 22 3,a 2 22] .ret }).1
def pc91 : PC := (⟨_, by delta A L S a c i m t; exact rfl⟩ : { p : PC // p = S [A 2 (.const (.slice none 0 0))] (S [m 5 0,L 6 5 38,c 7 25 #[t 6] #[3],a 3 7]
 (.seq (S [A 4 (i 0)] (.block 0 (.loop pc91_l1))) pc91_r1)) }).1
theorem calls91 (hn : args.length = 1) (h : avc Tryz.prog G 23 pc91 (afin Tryz.prog [.tmp 2] R) (frame0 args) σ) : ACalls Tryz.prog G 91 args σ R :=
  acalls' (n := 23) (l := [.tmp 2]) mixed Tryz.func91 (by kernel_rfl) (by kernel_rfl) (by kernel_rfl) (by omega) h
def pc92 : PC := (⟨_, by delta A C S b i m t; exact rfl⟩ : { p : PC // p = S [A 2 (.const (.int .u8 0))] (.seq (S [m 3 0,b 4 .eql 3 (t 3) (i 2) 3] (C 4 (S [A 2
 (.const (.int .u8 126))] .ret) .skip)) (S [A 2 (.const (.int .u8 127))] .ret)) }).1
theorem calls92 (hn : args.length = 1) (h : avc Tryz.prog G 5 pc92 (afin Tryz.prog [.tmp 2] R) (frame0 args) σ) : ACalls Tryz.prog G 92 args σ R :=
  acalls' (n := 5) (l := [.tmp 2]) mixed Tryz.func92 (by kernel_rfl) (by kernel_rfl) (by kernel_rfl) (by omega) h
def pc93_l1 : PC := (⟨_, by delta C L S a b d f i l m t w x; exact rfl⟩ : { p : PC // p = .seq (S [m 19 6,m 20 3,L 21 20 66,b 22 .lss 3 (t 19) (t 21) 3] (C 22
 .skip (.exit 0))) (.seq (.block 1 (.seq (S [m 25 3,m 26 6,x 27 66 25 26,l 28 9 27,f 29 73 1 5,l 30 9 29,b 31 .eql 9 (t 28) (t 30) 9,m 32 31,w 33 (.fieldAddr 73
 (t 1) 1) 32 true,w 34 (.load 3 (t 33)) 32 true,w 35 (.binOp .eql 3 (t 34) (i 1) 3) 32 true,d 36 (.pick (t 32) (t 35) (.const (.bool false)))] (C 36 (S [m 37
 4,m 38 6,x 39 38 37 38,l 40 3 39,d 41 (.convert 3 5 (t 40)),d 42 (.buildSlice 22 1 #[(0,t 41)]),a 2 42] .ret) .skip)) (S [m 43 3,m 44 6,x 45 66 43 44,l 46 9
 45,f 47 73 1 5,l 48 9 47,b 49 .eql 9 (t 46) (t 48) 9] (C 49 (S [m 50 5,m 51 6,x 52 38 50 51,l 53 3 52,d 54 (.convert 3 5 (t 53)),d 55 (.buildSlice 22 1 #[(0,t
 54)]),a 2 55] .ret) .skip)))) (.ops [m 23 6,b 24 .add 3 (t 23) (i 1) 3,a 6 24])) }).1
def pc93_l2 : PC := (⟨_, by delta C L S a b c d f i l m s t w x; exact rfl⟩ : { p : PC // p = .seq (S [m 57 8,m 58 7,L 59 58 139,b 60 .lss 3 (t 57) (t 59) 3] (C
 60 .skip (.exit 2))) (.seq (.block 3 (S [m 63 7,m 64 8,x 65 139 63 64,f 66 142 65 1,l 67 73 66,d 9 (.alloc 73),s 73 9 67] (.seq (S [f 68 73 9 0,l 69 3 68,f 70
 73 1 0,l 71 3 70,b 72 .neq 3 (t 69) (t 71) 3,m 73 72,w 74 (.fieldAddr 73 (t 9) 1) 73 false,w 75 (.load 3 (t 74)) 73 false,w 76 (.binOp .neq 3 (t 75) (i 0) 3)
 73 false,w 77 (.move (t 76)) 73 false,w 78 (.fieldAddr 73 (t 9) 1) 77 true,w 79 (.load 3 (t 78)) 77 true,w 80 (.fieldAddr 73 (t 1) 1) 77 true,w 81 (.load 3 (t
 80)) 77 true,w 82 (.binOp .neq 3 (t 79) (t 81) 3) 77 true,w 83 (.pick (t 77) (t 82) (.const (.bool false))) 73 false,d 84 (.pick (t 73) (.const (.bool true))
 (t 83)),m 85 84,w 86 (.move (t 8)) 85 false,w 87 (.binOp .geq 3 (t 86) (i 14) 3) 85 false,w 88 (.move (t 87)) 85 false,w 89 (.fieldAddr 73 (t 9) 2) 88 true,w
 90 (.load 3 (t 89)) 88 true,w 91 (.fieldAddr 73 (t 1) 2) 88 true,w 92 (.load 3 (t 91)) 88 true,w 93 (.binOp .neq 3 (t 90) (t 92) 3) 88 true,w 94 (.pick (t 88)
 (t 93) (.const (.bool false))) 85 false,d 95 (.pick (t 85) (.const (.bool true)) (t 94))] (C 95 (.exit 3) .skip)) (S [m 96 7,m 97 8,x 98 139 96 97,f 99 142 98
 0,l 100 3 99,d 101 (.convert 3 5 (t 100)),d 102 (.buildSlice 22 1 #[(0,t 101)]),a 10 102] (.seq (S [m 103 8,b 104 .geq 3 (t 103) (i 14) 3] (C 104 (S [m 105
 10,d 106 (.buildSlice 22 2 #[(0,.const (.int .u8 0)),(1,.const (.int .u8 0))]),d 107 (.call ⟨.builtin .append,#[t 105,t 106],#[22,22]⟩),a 2 107] .ret) .skip))
 (.seq (S [f 108 73 1 0,l 109 3 108,b 110 .eql 3 (t 109) (i 1) 3] (C 110 (S [m 111 10,f 112 73 1 2,l 113 3 112,c 114 23 #[t 113] #[3],d 115 (.call ⟨.builtin
 .append,#[t 111,t 114],#[22,22]⟩),a 2 115] .ret) .skip)) (.seq (S [m 116 8,b 117 .geq 3 (t 116) (i 7) 3] (C 117 (S [m 118 10,f 119 73 1 2,l 120 3 119,c 121 25
 #[t 120] #[3],d 122 (.call ⟨.builtin .append,#[t 118,t 121],#[22,22]⟩),a 2 122] .ret) .skip)) (S [m 123 10,a 2 123] .ret)))))))) (.ops [m 61 8,b 62 .add 3 (t
 61) (i 1) 3,a 8 62])) }).1
def pc93_r1 : PC := (⟨_, by delta A S; exact rfl⟩ : { p : PC // p = S [A 2 (.const (.slice none 0 0))] .ret }).1
def pc93_r2 : PC := (⟨_, by delta A S a c i; exact rfl⟩ : { p : PC // p = S [c 56 116 #[] #[],a 7 56] (.seq (S [A 8 (i 0)] (.block 2 (.loop pc93_l2))) pc93_r1)
 }).1
def pc93 : PC := (⟨_, by delta A C S a b c d f i l m t; exact rfl⟩ : { p : PC // p = S [d 1 (.box 73 (t 0)),A 2 (.const (.slice none 0 0))] (.seq (S [f 11 73 1
 0,l 12 3 11,b 13 .eql 3 (t 12) (i 4) 3] (C 13 (S [c 15 115 #[] #[],m 14 15,d 16 (.extract (t 14) 0),d 17 (.extract (t 14) 1),d 18 (.extract (t 14) 2),a 3 16,a
 4 17,a 5 18] (S [A 6 (i 0)] (.block 0 (.loop pc93_l1)))) .skip)) pc93_r2) }).1
theorem calls93 (hn : args.length = 1) (h : avc Tryz.prog G 124 pc93 (afin Tryz.prog [.tmp 2] R) (frame0 args) σ) : ACalls Tryz.prog G 93 args σ R :=
  acalls' (n := 124) (l := [.tmp 2]) mixed Tryz.func93 (by kernel_rfl) (by kernel_rfl) (by kernel_rfl) (by omega) h
def pc94_l1 : PC := (⟨_, by delta C S a b c d i l m t; exact rfl⟩ : { p : PC // p = S [b 6 .lss 3 (t 5) (t 4) 3] (.seq (C 6 .skip (.exit 0)) (.seq (.block 1
 (.ops [m 7 2,m 8 0,c 9 57 #[t 8,i 1] #[48,3],d 10 (.indexAddr 22 (t 9) (i 0)),l 11 5 10,d 12 (.convert 5 3 (t 11)),b 13 .sub 3 (i 128) (t 12) 3,d 14
 (.buildSlice 38 1 #[(0,t 13)]),d 15 (.call ⟨.builtin .append,#[t 7,t 14],#[38,38]⟩),a 2 15])) (.ops [b 16 .add 3 (t 5) (i 1) 3,m 5 16]))) }).1
def pc94_r1 : PC := (⟨_, by delta S a m; exact rfl⟩ : { p : PC // p = S [m 17 2,a 2 17] .ret }).1
def pc94 : PC := (⟨_, by delta A S c d i m t; exact rfl⟩ : { p : PC // p = S [A 2 (.const (.slice none 0 0))] (.seq (S [m 3 0,c 4 60 #[t 3,.const (.bool false)]
 #[48,4],d 5 (.move (i 0))] (.block 0 (.loop pc94_l1))) pc94_r1) }).1
theorem calls94 (hn : args.length = 1) (h : avc Tryz.prog G 18 pc94 (afin Tryz.prog [.tmp 2] R) (frame0 args) σ) : ACalls Tryz.prog G 94 args σ R :=
  acalls' (n := 18) (l := [.tmp 2]) mixed Tryz.func94 (by kernel_rfl) (by kernel_rfl) (by kernel_rfl) (by omega) h
def pc95_l1 : PC := (⟨_, by delta C L S a b d m t; exact rfl⟩ : { p : PC // p = .seq (S [m 34 8,m 35 7,L 36 35 38,b 37 .lss 3 (t 34) (t 36) 3] (C 37 .skip
 (.exit 0))) (.block 1 (.ops [m 38 8,m 39 7,m 40 8,d 41 (.slice 38 (t 39) (some (t 40)) none none),m 42 7,m 43 8,d 44 (.slice 38 (t 42) none (some (t 43))
 none),d 45 (.call ⟨.builtin .copy,#[t 41,t 44],#[38,38]⟩),b 46 .add 3 (t 38) (t 45) 3,a 8 46])) }).1
def pc95_r1 : PC := (⟨_, by delta S a m; exact rfl⟩ : { p : PC // p = S [m 47 7,a 4 47] .ret }).1
def pc95 : PC := (⟨_, by delta A C L S a b c d e i m t w; exact rfl⟩ : { p : PC // p = S [A 4 (.const (.slice none 0 0))] (.seq (S [m 9 1,b 10 .lss 3 (t 9) (i
 0) 3] (C 10 (.ops [d 11 (.makeInterface 9 (.const (.string ⟨#[99,97,110,110,111,116,32,98,101,32,110,101,103,97,116,105,118,101]⟩))),e (.panic (t 11))])
 .skip)) (S [m 13 0,L 14 13 38,d 15 (.convert 3 41 (t 14)),m 16 1,d 17 (.convert 3 41 (t 16)),c 18 117 #[t 15,t 17] #[41,41],m 12 18,d 19 (.extract (t 12) 0),d
 20 (.extract (t 12) 1),a 5 19,a 6 20] (.seq (S [m 21 5,b 22 .gtr 41 (t 21) (.const (.int .u64 0)) 41,m 23 22,w 24 (.move (t 6)) 23 false,w 25 (.binOp .gtr 41
 (t 24) (.const (.int .u64 9223372036854775807)) 41) 23 false,d 26 (.pick (t 23) (.const (.bool true)) (t 25))] (C 26 (.ops [d 27 (.makeInterface 9 (.const
 (.string
 ⟨#[116,104,101,32,114,101,115,117,108,116,32,111,102,32,40,108,101,110,40,120,41,32,42,32,99,111,117,110,116,41,32,111,118,101,114,102,108,111,119,115]⟩))),e
 (.panic (t 27))]) .skip)) (S [m 28 6,d 29 (.convert 41 3 (t 28)),d 30 (.makeSlice 38 (t 29) (t 29)),a 7 30] (S [m 31 7,m 32 0,d 33 (.call ⟨.builtin .copy,#[t
 31,t 32],#[38,38]⟩),a 8 33] (.seq (.block 0 (.loop pc95_l1)) pc95_r1)))))) }).1
theorem calls95 (hn : args.length = 2) (h : avc Tryz.prog G 48 pc95 (afin Tryz.prog [.tmp 4] R) (frame0 args) σ) : ACalls Tryz.prog G 95 args σ R :=
  acalls' (n := 48) (l := [.tmp 4]) mixed Tryz.func95 (by kernel_rfl) (by kernel_rfl) (by kernel_rfl) (by omega) h
def pc96_l1 : PC := (⟨_, by delta C L S a b c d f i l m n s t w; exact rfl⟩ : { p : PC // p = .block 1 (S [m 8 0,c 9 57 #[t 8,i 1] #[48,3],d 10 (.indexAddr 22
 (t 9) (i 0)),l 11 5 10,a 7 11] (.seq (S [m 12 7,b 13 .eql 5 (t 12) (.const (.int .u8 11)) 5,m 14 13,w 15 (.move (t 7)) 14 false,w 16 (.binOp .eql 5 (t 15)
 (.const (.int .u8 5)) 5) 14 false,d 17 (.pick (t 14) (.const (.bool true)) (t 16))] (C 17 (S [m 18 0,m 19 0,n 20 19,f 21 51 20 1,l 22 49 21,m 23 6,d 24
 (.buildSlice 49 1 #[(0,t 23)]),d 25 (.call ⟨.builtin .append,#[t 22,t 24],#[49,49]⟩),n 26 18,f 27 51 26 1,s 49 27 25] (S [m 28 0,n 29 28,f 30 51 29 1,l 31 49
 30,L 32 31 49,b 33 .sub 3 (t 32) (i 1) 3,m 34 7,a 4 33,a 5 34] .ret)) .skip)) (.ops [m 35 6,m 36 0,m 37 7,m 38 1,c 39 118 #[t 36,t 37,t 38] #[48,5,3],d 40
 (.buildSlice 61 1 #[(0,t 39)]),d 41 (.call ⟨.builtin .append,#[t 35,t 40],#[61,61]⟩),a 6 41]))) }).1
def pc96 : PC := (⟨_, by delta A S i; exact rfl⟩ : { p : PC // p = S [A 4 (i 0),A 5 (.const (.int .u8 0))] (S [A 6 (.const (.slice none 0 0))] (.block 0 (.loop
 pc96_l1))) }).1
theorem calls96 (hn : args.length = 2) (h : avc Tryz.prog G 42 pc96 (afin Tryz.prog [.tmp 4, .tmp 5] R) (frame0 args) σ) : ACalls Tryz.prog G 96 args σ R :=
  acalls' (n := 42) (l := [.tmp 4, .tmp 5]) mixed Tryz.func96 (by kernel_rfl) (by kernel_rfl) (by kernel_rfl) (by omega) h
def pc97_l1 : PC := (⟨_, by delta C S a b d i l m t x; exact rfl⟩ : { p : PC // p = S [b 9 .lss 3 (t 8) (t 7) 3] (.seq (C 9 .skip (.exit 0)) (.seq (.block 1 (S
 [m 10 8,a 5 10] (S [m 11 1,m 12 0,m 13 5,x 14 25 12 13,l 15 59 14,d 16 (.call ⟨.value (t 11),#[t 15],#[59]⟩)] (C 16 (S [m 17 5,a 4 17] .ret) .skip)))) (.ops [b
 18 .add 3 (t 8) (i 1) 3,m 8 18]))) }).1
def pc97_r1 : PC := (⟨_, by delta A S i; exact rfl⟩ : { p : PC // p = S [A 4 (i (-1))] .ret }).1
def pc97 : PC := (⟨_, by delta A L S d i m; exact rfl⟩ : { p : PC // p = S [A 4 (i 0)] (.seq (S [m 6 0,L 7 6 25,d 8 (.move (i 0))] (.block 0 (.loop pc97_l1)))
 pc97_r1) }).1
theorem calls97 (hn : args.length = 2) (h : avc Tryz.prog G 19 pc97 (afin Tryz.prog [.tmp 4] R) (frame0 args) σ) : ACalls Tryz.prog G 97 args σ R :=
  acalls' (n := 19) (l := [.tmp 4]) mixed Tryz.func97 (by kernel_rfl) (by kernel_rfl) (by kernel_rfl) (by omega) h
def pc98_l1 : PC := (⟨_, by delta C S a b d i l m t x; exact rfl⟩ : { p : PC // p = S [b 9 .lss 3 (t 8) (t 7) 3] (.seq (C 9 .skip (.exit 0)) (.seq (.block 1 (S
 [m 10 8,a 5 10] (S [m 11 1,m 12 0,m 13 5,x 14 38 12 13,l 15 3 14,d 16 (.call ⟨.value (t 11),#[t 15],#[3]⟩)] (C 16 (S [m 17 5,a 4 17] .ret) .skip)))) (.ops [b
 18 .add 3 (t 8) (i 1) 3,m 8 18]))) }).1
def pc98_r1 : PC := (⟨_, by delta A S i; exact rfl⟩ : { p : PC // p = S [A 4 (i (-1))] .ret }).1
def pc98 : PC := (⟨_, by delta A L S d i m; exact rfl⟩ : { p : PC // p = S [A 4 (i 0)] (.seq (S [m 6 0,L 7 6 38,d 8 (.move (i 0))] (.block 0 (.loop pc98_l1)))
 pc98_r1) }).1
theorem calls98 (hn : args.length = 2) (h : avc Tryz.prog G 19 pc98 (afin Tryz.prog [.tmp 4] R) (frame0 args) σ) : ACalls Tryz.prog G 98 args σ R :=
  acalls' (n := 19) (l := [.tmp 4]) mixed Tryz.func98 (by kernel_rfl) (by kernel_rfl) (by kernel_rfl) (by omega) h
def pc99_l1 : PC := (⟨_, by delta C S a b d i l m t x; exact rfl⟩ : { p : PC // p = S [b 9 .lss 3 (t 8) (t 7) 3] (.seq (C 9 .skip (.exit 0)) (.seq (.block 1 (S
 [m 10 8,a 5 10] (S [m 11 1,m 12 0,m 13 5,x 14 49 12 13,l 15 61 14,d 16 (.call ⟨.value (t 11),#[t 15],#[61]⟩)] (C 16 (S [m 17 5,a 4 17] .ret) .skip)))) (.ops [b
 18 .add 3 (t 8) (i 1) 3,m 8 18]))) }).1
def pc99_r1 : PC := (⟨_, by delta A S i; exact rfl⟩ : { p : PC // p = S [A 4 (i (-1))] .ret }).1
def pc99 : PC := (⟨_, by delta A L S d i m; exact rfl⟩ : { p : PC // p = S [A 4 (i 0)] (.seq (S [m 6 0,L 7 6 49,d 8 (.move (i 0))] (.block 0 (.loop pc99_l1)))
 pc99_r1) }).1
theorem calls99 (hn : args.length = 2) (h : avc Tryz.prog G 19 pc99 (afin Tryz.prog [.tmp 4] R) (frame0 args) σ) : ACalls Tryz.prog G 99 args σ R :=
  acalls' (n := 19) (l := [.tmp 4]) mixed Tryz.func99 (by kernel_rfl) (by kernel_rfl) (by kernel_rfl) (by omega) h
def pc100_l1 : PC := (⟨_, by delta C S a b d i l m t x; exact rfl⟩ : { p : PC // p = S [b 9 .lss 3 (t 8) (t 7) 3] (.seq (C 9 .skip (.exit 0)) (.seq (.block 1 (S
 [m 10 8,a 5 10] (S [m 11 1,m 12 0,m 13 5,x 14 61 12 13,l 15 73 14,d 16 (.call ⟨.value (t 11),#[t 15],#[73]⟩)] (C 16 (S [m 17 5,a 4 17] .ret) .skip)))) (.ops [b
 18 .add 3 (t 8) (i 1) 3,m 8 18]))) }).1
def pc100_r1 : PC := (⟨_, by delta A S i; exact rfl⟩ : { p : PC // p = S [A 4 (i (-1))] .ret }).1
def pc100 : PC := (⟨_, by delta A L S d i m; exact rfl⟩ : { p : PC // p = S [A 4 (i 0)] (.seq (S [m 6 0,L 7 6 61,d 8 (.move (i 0))] (.block 0 (.loop pc100_l1)))
 pc100_r1) }).1
theorem calls100 (hn : args.length = 2) (h : avc Tryz.prog G 19 pc100 (afin Tryz.prog [.tmp 4] R) (frame0 args) σ) : ACalls Tryz.prog G 100 args σ R :=
  acalls' (n := 19) (l := [.tmp 4]) mixed Tryz.func100 (by kernel_rfl) (by kernel_rfl) (by kernel_rfl) (by omega) h
def pc104_l1 : PC := (⟨_, by delta A C L S a b d i l m t x; exact rfl⟩ : { p : PC // p = .seq (S [m 11 5,m 12 0,L 13 12 38,b 14 .lss 3 (t 11) (t 13) 3] (C 14
 .skip (.exit 0))) (.seq (.block 1 (S [m 17 0,m 18 5,x 19 38 17 18,l 20 3 19,m 21 1,m 22 5,x 23 38 21 22,l 24 3 23,b 25 .eql 3 (t 20) (t 24) 3,d 26 (.unOp .not
 4 (t 25))] (C 26 (S [A 4 (.const (.bool false))] .ret) .skip))) (.ops [m 15 5,b 16 .add 3 (t 15) (i 1) 3,a 5 16])) }).1
def pc104_r1 : PC := (⟨_, by delta A S; exact rfl⟩ : { p : PC // p = S [A 4 (.const (.bool true))] .ret }).1
def pc104 : PC := (⟨_, by delta A C L S b i m t; exact rfl⟩ : { p : PC // p = S [A 4 (.const (.bool false))] (.seq (S [m 6 0,L 7 6 38,m 8 1,L 9 8 38,b 10 .neq 3
 (t 7) (t 9) 3] (C 10 (S [A 4 (.const (.bool false))] .ret) .skip)) (.seq (S [A 5 (i 0)] (.block 0 (.loop pc104_l1))) pc104_r1)) }).1
theorem calls104 (hn : args.length = 2) (h : avc Tryz.prog G 27 pc104 (afin Tryz.prog [.tmp 4] R) (frame0 args) σ) : ACalls Tryz.prog G 104 args σ R :=
  acalls' (n := 27) (l := [.tmp 4]) mixed Tryz.func104 (by kernel_rfl) (by kernel_rfl) (by kernel_rfl) (by omega) h
def pc105_l1 : PC := (⟨_, by delta A C L S a b c d i l m t x; exact rfl⟩ : { p : PC // p = .seq (S [m 11 5,m 12 0,L 13 12 49,b 14 .lss 3 (t 11) (t 13) 3] (C 14
 .skip (.exit 0))) (.seq (.block 1 (S [m 17 0,m 18 5,x 19 49 17 18,l 20 61 19,m 21 1,m 22 5,x 23 49 21 22,l 24 61 23,c 25 120 #[t 20,t 24] #[61,61],d 26 (.unOp
 .not 4 (t 25))] (C 26 (S [A 4 (.const (.bool false))] .ret) .skip))) (.ops [m 15 5,b 16 .add 3 (t 15) (i 1) 3,a 5 16])) }).1
def pc105_r1 : PC := (⟨_, by delta A S; exact rfl⟩ : { p : PC // p = S [A 4 (.const (.bool true))] .ret }).1
def pc105 : PC := (⟨_, by delta A C L S b i m t; exact rfl⟩ : { p : PC // p = S [A 4 (.const (.bool false))] (.seq (S [m 6 0,L 7 6 49,m 8 1,L 9 8 49,b 10 .neq 3
 (t 7) (t 9) 3] (C 10 (S [A 4 (.const (.bool false))] .ret) .skip)) (.seq (S [A 5 (i 0)] (.block 0 (.loop pc105_l1))) pc105_r1)) }).1
theorem calls105 (hn : args.length = 2) (h : avc Tryz.prog G 27 pc105 (afin Tryz.prog [.tmp 4] R) (frame0 args) σ) : ACalls Tryz.prog G 105 args σ R :=
  acalls' (n := 27) (l := [.tmp 4]) mixed Tryz.func105 (by kernel_rfl) (by kernel_rfl) (by kernel_rfl) (by omega) h
def pc106_l1 : PC := (⟨_, by delta C S a b i l m t x; exact rfl⟩ : { p : PC // p = S [b 9 .lss 3 (t 8) (t 7) 3] (.seq (C 9 .skip (.exit 0)) (.seq (.block 1 (S
 [m 10 8,a 5 10] (S [m 11 1,m 12 0,m 13 5,x 14 66 12 13,l 15 9 14,b 16 .eql 9 (t 11) (t 15) 9] (C 16 (S [m 17 5,a 4 17] .ret) .skip)))) (.ops [b 18 .add 3 (t 8)
 (i 1) 3,m 8 18]))) }).1
def pc106_r1 : PC := (⟨_, by delta A S i; exact rfl⟩ : { p : PC // p = S [A 4 (i (-1))] .ret }).1
def pc106 : PC := (⟨_, by delta A L S d i m; exact rfl⟩ : { p : PC // p = S [A 4 (i 0)] (.seq (S [m 6 0,L 7 6 66,d 8 (.move (i 0))] (.block 0 (.loop pc106_l1)))
 pc106_r1) }).1
theorem calls106 (hn : args.length = 2) (h : avc Tryz.prog G 19 pc106 (afin Tryz.prog [.tmp 4] R) (frame0 args) σ) : ACalls Tryz.prog G 106 args σ R :=
  acalls' (n := 19) (l := [.tmp 4]) mixed Tryz.func106 (by kernel_rfl) (by kernel_rfl) (by kernel_rfl) (by omega) h
def pc107_l1 : PC := (⟨_, by delta C L S a b d i l m t; exact rfl⟩ : { p : PC // p = .seq (S [m 13 6,m 14 0,L 15 14 9,b 16 .lss 3 (t 13) (t 15) 3] (C 16 .skip
 (.exit 0))) (.seq (.block 1 (S [m 19 0,m 20 6,d 21 (.index 9 (t 19) (t 20)),a 7 21] (S [m 22 5,m 23 7,b 24 .or 5 (t 22) (t 23) 5,a 5 24] (S [m 25 7,d 26
 (.indexAddr 147 (.global 3) (t 25)),l 27 5 26,d 28 (.convert 5 3 (t 27)),a 8 28] (S [m 29 3,m 30 4,m 31 8,d 32 (.unOp .xor 3 (t 31)),b 33 .and 3 (t 30) (t 32)
 3,b 34 .add 3 (t 29) (t 33) 3,a 3 34] (.ops [m 35 8,a 4 35])))))) (.ops [m 17 6,b 18 .add 3 (t 17) (i 1) 3,a 6 18])) }).1
def pc107_l2 : PC := (⟨_, by delta C L S a b d i m t w; exact rfl⟩ : { p : PC // p = .seq (S [m 42 12,m 43 0,L 44 43 9,b 45 .lss 3 (t 42) (t 44) 3,m 46 45,w 47
 (.move (t 0)) 46 true,w 48 (.move (t 12)) 46 true,w 49 (.index 9 (t 47) (t 48)) 46 true,w 50 (.indexAddr 147 (.global 3) (t 49)) 46 true,w 51 (.load 5 (t 50))
 46 true,w 52 (.binOp .neq 5 (t 51) (.const (.int .u8 0)) 5) 46 true,d 53 (.pick (t 46) (t 52) (.const (.bool false)))] (C 53 .skip (.exit 2))) (.block 3 (.ops
 [m 54 12,b 55 .add 3 (t 54) (i 1) 3,a 12 55])) }).1
def pc107_l3 : PC := (⟨_, by delta C L S a b d i m t w; exact rfl⟩ : { p : PC // p = .seq (S [m 80 12,m 81 0,L 82 81 9,b 83 .lss 3 (t 80) (t 82) 3,m 84 83,w 85
 (.move (t 0)) 84 true,w 86 (.move (t 12)) 84 true,w 87 (.index 9 (t 85) (t 86)) 84 true,w 88 (.indexAddr 147 (.global 3) (t 87)) 84 true,w 89 (.load 5 (t 88))
 84 true,w 90 (.binOp .neq 5 (t 89) (.const (.int .u8 0)) 5) 84 true,d 91 (.pick (t 84) (t 90) (.const (.bool false)))] (C 91 .skip (.exit 6))) (.block 7 (.ops
 [m 92 12,b 93 .add 3 (t 92) (i 1) 3,a 12 93])) }).1
def pc107_r1 : PC := (⟨_, by delta a m; exact rfl⟩ : { p : PC // p = .ops [m 94 12,a 11 94] }).1
def pc107_l4 : PC := (⟨_, by delta C L S a b d i l m s t x; exact rfl⟩ : { p : PC // p = .seq (S [m 57 12,m 58 0,L 59 58 9,b 60 .lss 3 (t 57) (t 59) 3] (C 60
 .skip (.exit 4))) (.block 5 (.seq (S [m 61 0,m 62 12,d 63 (.index 9 (t 61) (t 62)),d 64 (.indexAddr 147 (.global 3) (t 63)),l 65 5 64,b 66 .eql 5 (t 65)
 (.const (.int .u8 0)) 5] (C 66 (S [m 67 12,b 68 .add 3 (t 67) (i 1) 3,a 12 68] (.exit 5)) .skip)) (S [m 69 9,m 70 10,m 71 0,m 72 11,m 73 12,d 74 (.slice 9 (t
 71) (some (t 72)) (some (t 73)) none),x 75 66 69 70,s 9 75 74] (S [m 76 10,b 77 .add 3 (t 76) (i 1) 3,a 10 77] (S [m 78 12,b 79 .add 3 (t 78) (i 1) 3,a 12 79]
 (.seq (.block 6 (.loop pc107_l3)) pc107_r1)))))) }).1
def pc107_r2 : PC := (⟨_, by delta C L S a b d m s t x; exact rfl⟩ : { p : PC // p = .seq (S [m 95 11,m 96 0,L 97 96 9,b 98 .lss 3 (t 95) (t 97) 3] (C 98 (.ops
 [m 99 9,m 100 10,m 101 0,m 102 11,d 103 (.slice 9 (t 101) (some (t 102)) none none),x 104 66 99 100,s 9 104 103]) .skip)) (S [m 105 9,a 2 105] .ret) }).1
def pc107_r3 : PC := (⟨_, by delta S a m; exact rfl⟩ : { p : PC // p = S [m 56 12,a 11 56] (.seq (.block 4 (.loop pc107_l4)) pc107_r2) }).1
def pc107_r4 : PC := (⟨_, by delta A C S a b c d i m t; exact rfl⟩ : { p : PC // p = .seq (S [m 36 5,b 37 .geq 5 (t 36) (.const (.int .u8 128)) 5] (C 37 (S [m
 38 0,c 39 121 #[t 38,.func 122] #[9,149],a 2 39] .ret) .skip)) (S [m 40 3,d 41 (.makeSlice 66 (t 40) (t 40)),a 9 41] (S [A 10 (i 0)] (S [A 11 (i 0)] (S [A 12
 (i 0)] (.seq (.block 2 (.loop pc107_l2)) pc107_r3))))) }).1
def pc107 : PC := (⟨_, by delta A S i; exact rfl⟩ : { p : PC // p = S [A 2 (.const (.slice none 0 0))] (S [A 3 (i 0)] (S [A 4 (i 1)] (S [A 5 (.const (.int .u8
 0))] (.seq (S [A 6 (i 0)] (.block 0 (.loop pc107_l1))) pc107_r4)))) }).1
theorem calls107 (hn : args.length = 1) (h : avc Tryz.prog G 106 pc107 (afin Tryz.prog [.tmp 2] R) (frame0 args) σ) : ACalls Tryz.prog G 107 args σ R :=
  acalls' (n := 106) (l := [.tmp 2]) mixed Tryz.func107 (by kernel_rfl) (by kernel_rfl) (by kernel_rfl) (by omega) h
def pc108 : PC := (⟨_, by delta A C L S a b d e i m t; exact rfl⟩ : { p : PC // p = S [A 4 (.const (.slice none 0 0))] (.seq (S [m 5 1,b 6 .lss 3 (t 5) (i 0) 3]
 (C 6 (.ops [d 7 (.makeInterface 9 (.const (.string ⟨#[99,97,110,110,111,116,32,98,101,32,110,101,103,97,116,105,118,101]⟩))),e (.panic (t 7))]) .skip)) (.seq
 (S [m 8 1,m 9 0,d 10 (.call ⟨.builtin .cap,#[t 9],#[38]⟩),m 11 0,L 12 11 38,b 13 .sub 3 (t 10) (t 12) 3,b 14 .sub 3 (t 8) (t 13) 3,a 1 14] (S [m 15 1,b 16 .gtr
 3 (t 15) (i 0) 3] (C 16 (.ops [m 17 0,m 18 0,d 19 (.call ⟨.builtin .cap,#[t 18],#[38]⟩),d 20 (.slice 38 (t 17) none (some (t 19)) none),m 21 1,d 22 (.call
 ⟨.builtin .append,#[t 20,t 21],#[38,3]⟩),m 23 0,L 24 23 38,d 25 (.slice 38 (t 22) none (some (t 24)) none),a 0 25]) .skip))) (S [m 26 0,a 4 26] .ret))) }).1
theorem calls108 (hn : args.length = 2) (h : avc Tryz.prog G 27 pc108 (afin Tryz.prog [.tmp 4] R) (frame0 args) σ) : ACalls Tryz.prog G 108 args σ R :=
  acalls' (n := 27) (l := [.tmp 4]) mixed Tryz.func108 (by kernel_rfl) (by kernel_rfl) (by kernel_rfl) (by omega) h
def pc109 : PC := (⟨_, by delta A C S a b d f i l m t w; exact rfl⟩ : { p : PC // p = S [d 1 (.box 73 (t 0)),A 2 (.const (.slice none 0 0))] (.seq (.block 0
 (.seq (S [f 4 73 1 0,l 5 3 4,b 6 .eql 3 (t 5) (i 11) 3,a 3 6] (C 3 .skip (S [f 7 73 1 0,l 8 3 7,b 9 .eql 3 (t 8) (i 12) 3,a 3 9] (C 3 .skip (.ops [f 10 73 1
 0,l 11 3 10,b 12 .eql 3 (t 11) (i 13) 3,m 13 12,w 14 (.fieldAddr 73 (t 1) 4) 13 true,w 15 (.load 3 (t 14)) 13 true,w 16 (.binOp .lss 3 (t 15) (i 0) 3) 13
 true,d 17 (.pick (t 13) (t 16) (.const (.bool false))),a 3 17]))))) (C 3 (S [f 18 73 1 3,l 19 3 18,d 20 (.buildSlice 38 1 #[(0,t 19)]),a 2 20] .ret) (S [f 22
 73 1 0,l 23 3 22,b 24 .eql 3 (t 23) (i 13) 3,a 21 24] (C 21 (S [f 25 73 1 3,l 26 3 25,f 27 73 1 4,l 28 3 27,d 29 (.buildSlice 38 2 #[(0,t 26),(1,t 28)]),a 2
 29] .ret) .skip))))) (S [A 2 (.const (.slice none 0 0))] .ret)) }).1
theorem calls109 (hn : args.length = 1) (h : avc Tryz.prog G 30 pc109 (afin Tryz.prog [.tmp 2] R) (frame0 args) σ) : ACalls Tryz.prog G 109 args σ R :=
  acalls' (n := 30) (l := [.tmp 2]) mixed Tryz.func109 (by kernel_rfl) (by kernel_rfl) (by kernel_rfl) (by omega) h
def pc110 : PC := (⟨_, by delta A S a b c i m t; exact rfl⟩ : { p : PC // p = S [A 4 (.const (.bool false))] (S [m 5 0,m 6 1,c 7 123 #[t 5,t 6] #[128,4],b 8
 .geq 3 (t 7) (i 0) 3,a 4 8] .ret) }).1
theorem calls110 (hn : args.length = 2) (h : avc Tryz.prog G 9 pc110 (afin Tryz.prog [.tmp 4] R) (frame0 args) σ) : ACalls Tryz.prog G 110 args σ R :=
  acalls' (n := 9) (l := [.tmp 4]) mixed Tryz.func110 (by kernel_rfl) (by kernel_rfl) (by kernel_rfl) (by omega) h
def pc111 : PC := (⟨_, by delta C S a b c d f i l m n t; exact rfl⟩ : { p : PC // p = S [d 3 (.box 73 (t 1))] (S [l 4 73 3,c 5 124 #[t 4] #[73],c 6 48 #[t 5,i
 2] #[4,28]] (S [m 7 0,l 8 73 3,c 9 125 #[t 7,t 8] #[131,73],c 10 48 #[t 9,i 11] #[4,28]] (S [f 11 73 3 0,l 12 3 11] (.block 0 (.seq (S [b 17 .eql 3 (t 12) (i
 11) 3,a 16 17] (C 16 .skip (.ops [b 18 .eql 3 (t 12) (i 12) 3,a 16 18]))) (C 16 (.ops [m 19 0,n 20 19,f 21 133 20 0,l 22 76 21,f 23 73 3 3,l 24 3 23,m 25 0,n
 26 25,f 27 133 26 3,l 28 3 27,b 29 .add 3 (t 28) (i 1) 3,c 30 89 #[t 22,t 24,t 29] #[76,3,3]]) (S [b 32 .eql 3 (t 12) (i 13) 3,a 31 32] (C 31 (S [m 33 0,d 34
 (.buildSlice 38 1 #[(0,i 1)]),c 35 126 #[t 33,t 34] #[131,38]] (S [m 36 0,n 37 36,f 38 133 37 0,l 39 76 38,f 40 73 3 3,l 41 3 40,m 42 0,n 43 42,f 44 133 43 3,l
 45 3 44,b 46 .add 3 (t 45) (i 1) 3,c 47 89 #[t 39,t 41,t 46] #[76,3,3]] (S [f 48 73 3 4,l 49 3 48,b 50 .geq 3 (t 49) (i 0) 3] (C 50 (.ops [m 51 0,n 52 51,f 53
 133 52 0,l 54 76 53,f 55 73 3 4,l 56 3 55,m 57 0,n 58 57,f 59 133 58 3,l 60 3 59,b 61 .add 3 (t 60) (i 1) 3,c 62 89 #[t 54,t 56,t 61] #[76,3,3]]) .skip)))) (S
 [b 64 .eql 3 (t 12) (i 15) 3,a 63 64] (C 63 (S [m 65 0,d 66 (.buildSlice 38 1 #[(0,i 1)]),c 67 126 #[t 65,t 66] #[131,38]] (S [f 68 73 3 2,l 69 3 68,m 70 0,n
 71 70,f 72 133 71 3,l 73 3 72,b 74 .eql 3 (t 69) (t 73) 3] (C 74 (S [m 75 0,c 76 112 #[t 75] #[131]] (.ops [m 77 0,m 78 0,n 79 78,f 80 133 79 0,l 81 76 80,n 82
 81,f 83 78 82 1,f 84 59 83 3,l 85 3 84,c 86 127 #[t 77,t 85] #[131,3]])) .skip))) (S [b 88 .eql 3 (t 12) (i 14) 3,a 87 88] (C 87 (.seq (S [f 89 73 3 2,l 90 3
 89,m 91 0,n 92 91,f 93 133 92 3,l 94 3 93,b 95 .eql 3 (t 90) (t 94) 3] (C 95 (.ops [m 96 0,c 97 112 #[t 96] #[131]]) .skip)) (.ops [m 98 0,c 99 128 #[t 98]
 #[131]])) (S [b 101 .eql 3 (t 12) (i 16) 3,a 100 101] (C 100 (S [m 102 0,c 103 112 #[t 102] #[131]] (.ops [m 104 0,c 105 128 #[t 104] #[131]])) (S [b 107 .eql
 3 (t 12) (i 17) 3,a 106 107] (C 106 (.ops [m 108 0,c 109 128 #[t 108] #[131]]) (.ops [m 13 0,l 14 73 3,c 15 129 #[t 13,t 14] #[131,73]]))))))))))))))))) }).1
theorem calls111 (hn : args.length = 2) (h : avc Tryz.prog G 110 pc111 (afin Tryz.prog [] R) (frame0 args) σ) : ACalls Tryz.prog G 111 args σ R :=
  acalls' (n := 110) (l := []) mixed Tryz.func111 (by kernel_rfl) (by kernel_rfl) (by kernel_rfl) (by omega) h
def pc112 : PC := (⟨_, by delta C S b c d f i l m n t; exact rfl⟩ : { p : PC // p = S [m 2 0,n 3 2,f 4 133 3 0,l 5 76 4,n 6 5,f 7 78 6 1,f 8 59 7 3,l 9 3 8,b 10
 .neq 3 (t 9) (i 0) 3] (C 10 (.ops [m 11 0,m 12 0,n 13 12,f 14 133 13 0,l 15 76 14,n 16 15,f 17 78 16 1,f 18 59 17 3,l 19 3 18,d 20 (.buildSlice 38 1 #[(0,t
 19)]),c 21 126 #[t 11,t 20] #[131,38]]) .skip) }).1
theorem calls112 (hn : args.length = 1) (h : avc Tryz.prog G 22 pc112 (afin Tryz.prog [] R) (frame0 args) σ) : ACalls Tryz.prog G 112 args σ R :=
  acalls' (n := 22) (l := []) mixed Tryz.func112 (by kernel_rfl) (by kernel_rfl) (by kernel_rfl) (by omega) h
def pc113_l1 : PC := (⟨_, by delta C L S a b d i l m t x; exact rfl⟩ : { p : PC // p = .seq (S [m 5 4,m 6 0,L 7 6 38,b 8 .lss 3 (t 5) (t 7) 3] (C 8 .skip (.exit
 0))) (.seq (.block 1 (.ops [m 11 3,m 12 0,m 13 4,x 14 38 12 13,l 15 3 14,d 16 (.buildSlice 38 1 #[(0,t 15)]),d 17 (.call ⟨.builtin .append,#[t 11,t
 16],#[38,38]⟩),a 3 17])) (.ops [m 9 4,b 10 .add 3 (t 9) (i 1) 3,a 4 10])) }).1
def pc113_r1 : PC := (⟨_, by delta S a m; exact rfl⟩ : { p : PC // p = S [m 18 3,a 2 18] .ret }).1
def pc113 : PC := (⟨_, by delta A S i; exact rfl⟩ : { p : PC // p = S [A 2 (.const (.slice none 0 0))] (S [A 3 (.const (.slice none 0 0))] (.seq (S [A 4 (i 0)]
 (.block 0 (.loop pc113_l1))) pc113_r1)) }).1
theorem calls113 (hn : args.length = 1) (h : avc Tryz.prog G 19 pc113 (afin Tryz.prog [.tmp 2] R) (frame0 args) σ) : ACalls Tryz.prog G 113 args σ R :=
  acalls' (n := 19) (l := [.tmp 2]) mixed Tryz.func113 (by kernel_rfl) (by kernel_rfl) (by kernel_rfl) (by omega) h
def pc114_l1 : PC := (⟨_, by delta C L S a b c d i l m t x; exact rfl⟩ : { p : PC // p = .seq (S [m 5 4,m 6 0,L 7 6 49,b 8 .lss 3 (t 5) (t 7) 3] (C 8 .skip
 (.exit 0))) (.seq (.block 1 (.ops [m 11 3,m 12 0,m 13 4,x 14 49 12 13,l 15 61 14,c 16 130 #[t 15] #[61],d 17 (.buildSlice 49 1 #[(0,t 16)]),d 18 (.call
 ⟨.builtin .append,#[t 11,t 17],#[49,49]⟩),a 3 18])) (.ops [m 9 4,b 10 .add 3 (t 9) (i 1) 3,a 4 10])) }).1
def pc114_r1 : PC := (⟨_, by delta S a m; exact rfl⟩ : { p : PC // p = S [m 19 3,a 2 19] .ret }).1
def pc114 : PC := (⟨_, by delta A S i; exact rfl⟩ : { p : PC // p = S [A 2 (.const (.slice none 0 0))] (S [A 3 (.const (.slice none 0 0))] (.seq (S [A 4 (i 0)]
 (.block 0 (.loop pc114_l1))) pc114_r1)) }).1
theorem calls114 (hn : args.length = 1) (h : avc Tryz.prog G 20 pc114 (afin Tryz.prog [.tmp 2] R) (frame0 args) σ) : ACalls Tryz.prog G 114 args σ R :=
  acalls' (n := 20) (l := [.tmp 2]) mixed Tryz.func114 (by kernel_rfl) (by kernel_rfl) (by kernel_rfl) (by omega) h
def pc115 : PC := (⟨_, by delta A S a d i; exact rfl⟩ : { p : PC // p = S [A 0 (.const (.slice none 0 0)),A 1 (.const (.slice none 0 0)),A 2 (.const (.slice
 none 0 0))] (S [d 3 (.buildSlice 66 16 #[(0,.const (.string ⟨#[97,100,100]⟩)),(1,.const (.string ⟨#[115,117,98]⟩)),(2,.const (.string
 ⟨#[109,117,108]⟩)),(3,.const (.string ⟨#[100,105,118,95,115]⟩)),(4,.const (.string ⟨#[114,101,109,95,115]⟩)),(5,.const (.string ⟨#[97,110,100]⟩)),(6,.const
 (.string ⟨#[111,114]⟩)),(7,.const (.string ⟨#[120,111,114]⟩)),(8,.const (.string ⟨#[115,104,108]⟩)),(9,.const (.string ⟨#[115,104,114,95,115]⟩)),(10,.const
 (.string ⟨#[101,113]⟩)),(11,.const (.string ⟨#[110,101]⟩)),(12,.const (.string ⟨#[108,116,95,115]⟩)),(13,.const (.string ⟨#[103,116,95,115]⟩)),(14,.const
 (.string ⟨#[108,101,95,115]⟩)),(15,.const (.string ⟨#[103,101,95,115]⟩))]),d 4 (.buildSlice 38 16 #[(0,i 106),(1,i 107),(2,i 108),(3,i 109),(4,i 111),(5,i
 113),(6,i 114),(7,i 115),(8,i 116),(9,i 117),(10,i 70),(11,i 71),(12,i 72),(13,i 74),(14,i 76),(15,i 78)]),d 5 (.buildSlice 38 16 #[(0,i 124),(1,i 125),(2,i
 126),(3,i 127),(4,i 129),(5,i 131),(6,i 132),(7,i 133),(8,i 134),(9,i 135),(10,i 81),(11,i 82),(12,i 83),(13,i 85),(14,i 87),(15,i 89)]),a 0 3,a 1 4,a 2 5]
 .ret) }).1
theorem calls115 (hn : args.length = 0) (h : avc Tryz.prog G 6 pc115 (afin Tryz.prog [.tmp 0, .tmp 1, .tmp 2] R) (frame0 args) σ) : ACalls Tryz.prog G 115 args σ R :=
  acalls' (n := 6) (l := [.tmp 0, .tmp 1, .tmp 2]) mixed Tryz.func115 (by kernel_rfl) (by kernel_rfl) (by kernel_rfl) (by omega) h
def pc116 : PC := (⟨_, by delta A S a d i t; exact rfl⟩ : { p : PC // p = S [A 0 (.const (.slice none 0 0))] (S [d 1 (.build 73 #[(0,i 5),(1,i 1)]),d 2 (.build
 142 #[(0,i 69),(1,t 1)]),d 3 (.build 73 #[(0,i 5),(1,i 2)]),d 4 (.build 142 #[(0,i 80),(1,t 3)]),d 5 (.build 73 #[(0,i 6)]),d 6 (.build 142 #[(0,i 167),(1,t
 5)]),d 7 (.build 73 #[(0,i 7)]),d 8 (.build 142 #[(0,i 172),(1,t 7)]),d 9 (.build 73 #[(0,i 16)]),d 10 (.build 142 #[(0,i 15),(1,t 9)]),d 11 (.build 73 #[(0,i
 17)]),d 12 (.build 142 #[(0,i 0),(1,t 11)]),d 13 (.build 73 #[(0,i 18)]),d 14 (.build 142 #[(0,i 26),(1,t 13)]),d 15 (.build 73 #[(0,i 1),(1,i 1)]),d 16
 (.build 142 #[(0,i 65),(1,t 15)]),d 17 (.build 73 #[(0,i 1),(1,i 2)]),d 18 (.build 142 #[(0,i 66),(1,t 17)]),d 19 (.build 73 #[(0,i 2)]),d 20 (.build 142
 #[(0,i 32),(1,t 19)]),d 21 (.build 73 #[(0,i 3)]),d 22 (.build 142 #[(0,i 33),(1,t 21)]),d 23 (.build 73 #[(0,i 10)]),d 24 (.build 142 #[(0,i 16),(1,t 23)]),d
 25 (.build 73 #[(0,i 14)]),d 26 (.build 142 #[(0,i 12),(1,t 25)]),d 27 (.build 73 #[(0,i 15)]),d 28 (.build 142 #[(0,i 13),(1,t 27)]),d 29 (.build 73 #[(0,i
 8),(1,i 1),(2,i 1)]),d 30 (.build 142 #[(0,i 44),(1,t 29)]),d 31 (.build 73 #[(0,i 8),(1,i 1),(2,i 4)]),d 32 (.build 142 #[(0,i 40),(1,t 31)]),d 33 (.build 73
 #[(0,i 8),(1,i 2),(2,i 8)]),d 34 (.build 142 #[(0,i 41),(1,t 33)]),d 35 (.build 73 #[(0,i 9),(1,i 1),(2,i 1)]),d 36 (.build 142 #[(0,i 58),(1,t 35)]),d 37
 (.build 73 #[(0,i 9),(1,i 1),(2,i 4)]),d 38 (.build 142 #[(0,i 54),(1,t 37)]),d 39 (.build 73 #[(0,i 9),(1,i 2),(2,i 8)]),d 40 (.build 142 #[(0,i 55),(1,t
 39)]),d 41 (.buildSlice 139 20 #[(0,t 2),(1,t 4),(2,t 6),(3,t 8),(4,t 10),(5,t 12),(6,t 14),(7,t 16),(8,t 18),(9,t 20),(10,t 22),(11,t 24),(12,t 26),(13,t
 28),(14,t 30),(15,t 32),(16,t 34),(17,t 36),(18,t 38),(19,t 40)]),a 0 41] .ret) }).1
theorem calls116 (hn : args.length = 0) (h : avc Tryz.prog G 42 pc116 (afin Tryz.prog [.tmp 0] R) (frame0 args) σ) : ACalls Tryz.prog G 116 args σ R :=
  acalls' (n := 42) (l := [.tmp 0]) mixed Tryz.func116 (by kernel_rfl) (by kernel_rfl) (by kernel_rfl) (by omega) h
def pc118_l1 : PC := (⟨_, by delta C S a b c d i l m s t x; exact rfl⟩ : { p : PC // p = S [b 88 .lss 3 (t 87) (i 2) 3] (.seq (C 88 .skip (.exit 0)) (.seq
 (.block 1 (S [m 89 87,d 90 (.index 122 (t 86) (t 87)),a 13 89,a 14 90] (S [m 91 14,m 92 1,c 93 133 #[t 91,t 92] #[9,5],a 15 93] (S [m 94 15,b 95 .geq 3 (t 94)
 (i 0) 3] (C 95 (S [m 96 13,b 97 .add 3 (t 96) (i 1) 3,c 98 107 #[.const (.string
 ⟨#[97,100,100,32,115,117,98,32,109,117,108,32,100,105,118,95,115,32,114,101,109,95,115,32,97,110,100,32,111,114,32,120,111,114,32,115,104,108,32,115,104,114,95,115,32,101,113,32,110,101,32,108,116,95,115,32,103,116,95,115,32,108,101,95,115,32,103,101,95,115]⟩)]
 #[9],m 99 15,x 100 66 98 99,l 101 9 100,d 102 (.build 73 #[(0,i 4),(1,t 97),(5,t 101)]),s 73 6 102] .ret) .skip))))) (.ops [b 103 .add 3 (t 87) (i 1) 3,m 87
 103]))) }).1
def pc118_r1 : PC := (⟨_, by delta d e i t; exact rfl⟩ : { p : PC // p = .ops [d 104 (.makeInterface 28 (i 2)),e (.panic (t 104))] }).1
def pc118 : PC := (⟨_, by delta A C S a b c d e f i l m s t w; exact rfl⟩ : { p : PC // p = S [d 6 (.alloc 73)] (.seq (S [m 16 1,b 17 .geq 5 (t 16) (.const
 (.int .u8 2)) 5,m 18 17,w 19 (.move (t 1)) 18 true,w 20 (.binOp .leq 5 (t 19) (.const (.int .u8 4)) 5) 18 true,d 21 (.pick (t 18) (t 20) (.const (.bool
 false)))] (C 21 (S [m 22 2,b 23 .lss 3 (t 22) (i 400) 3,c 24 30 #[t 23,i 3] #[4,28]] (S [m 25 0,c 26 57 #[t 25,i 1] #[48,3]] (S [m 27 1,d 28 (.convert 5 3 (t
 27)),b 29 .add 3 (i 11) (t 28) 3,b 30 .sub 3 (t 29) (i 2) 3,d 31 (.build 73 #[(0,t 30)]),d 7 (.alloc 73),s 73 7 31] (S [A 8 (.const (.int .u8 0))] (S [m 33 0,m
 34 2,b 35 .add 3 (t 34) (i 1) 3,c 36 96 #[t 33,t 35] #[48,3],m 32 36,d 37 (.extract (t 32) 0),d 38 (.extract (t 32) 1),f 39 73 7 3,s 3 39 37,a 8 38] (.seq (S
 [m 40 1,b 41 .eql 5 (t 40) (.const (.int .u8 4)) 5] (C 41 (S [f 42 73 7 4,e (.store 3 (t 42) (i (-1)))] (S [m 43 8,b 44 .eql 5 (t 43) (.const (.int .u8 5)) 5]
 (C 44 (.ops [m 46 0,m 47 2,b 48 .add 3 (t 47) (i 1) 3,c 49 96 #[t 46,t 48] #[48,3],m 45 49,d 50 (.extract (t 45) 0),d 51 (.extract (t 45) 1),f 52 73 7 4,s 3 52
 50]) .skip))) .skip)) (S [l 53 73 7,s 73 6 53] .ret))))))) .skip)) (.seq (S [d 55 (.load 125 (.global 2)),m 56 1,d 57 (.lookup 125 (t 55) (t 56) true),m 54
 57,d 58 (.extract (t 54) 0),d 59 (.extract (t 54) 1),d 9 (.alloc 73),s 73 9 58,a 10 59] (S [m 60 10] (C 60 (S [m 61 0,f 62 73 9 0,l 63 3 62,b 64 .eql 3 (t 63)
 (i 1) 3,c 65 60 #[t 61,t 64] #[48,4],f 66 73 9 2,s 3 66 65] (S [l 67 73 9,s 73 6 67] .ret)) .skip))) (.seq (S [d 69 (.load 125 (.global 1)),m 70 1,d 71
 (.lookup 125 (t 69) (t 70) true),m 68 71,d 72 (.extract (t 68) 0),d 73 (.extract (t 68) 1),d 11 (.alloc 73),s 73 11 72,a 12 73] (S [m 74 12] (C 74 (.seq (S [f
 75 73 11 0,l 76 3 75,b 77 .eql 3 (t 76) (i 8) 3,m 78 77,w 79 (.fieldAddr 73 (t 11) 0) 78 false,w 80 (.load 3 (t 79)) 78 false,w 81 (.binOp .eql 3 (t 80) (i 9)
 3) 78 false,d 82 (.pick (t 78) (.const (.bool true)) (t 81))] (C 82 (.ops [m 83 0,c 84 57 #[t 83,i 2] #[48,3]]) .skip)) (S [l 85 73 11,s 73 6 85] .ret))
 .skip))) (.seq (S [d 86 (.load 122 (.global 0)),d 87 (.move (i 0))] (.block 0 (.loop pc118_l1))) pc118_r1)))) }).1
theorem calls118 (hn : args.length = 3) (h : avc Tryz.prog G 105 pc118 (afin Tryz.prog [.cell 6 73] R) (frame0 args) σ) : ACalls Tryz.prog G 118 args σ R :=
  acalls' (n := 105) (l := [.cell 6 73]) mixed Tryz.func118 (by kernel_rfl) (by kernel_rfl) (by kernel_rfl) (by omega) h
def pc120_l1 : PC := (⟨_, by delta A C L S a b d i l m t x; exact rfl⟩ : { p : PC // p = .seq (S [m 11 5,m 12 0,L 13 12 61,b 14 .lss 3 (t 11) (t 13) 3] (C 14
 .skip (.exit 0))) (.seq (.block 1 (S [m 17 0,m 18 5,x 19 61 17 18,l 20 73 19,m 21 1,m 22 5,x 23 61 21 22,l 24 73 23,b 25 .eql 73 (t 20) (t 24) 73,d 26 (.unOp
 .not 4 (t 25))] (C 26 (S [A 4 (.const (.bool false))] .ret) .skip))) (.ops [m 15 5,b 16 .add 3 (t 15) (i 1) 3,a 5 16])) }).1
def pc120_r1 : PC := (⟨_, by delta A S; exact rfl⟩ : { p : PC // p = S [A 4 (.const (.bool true))] .ret }).1
def pc120 : PC := (⟨_, by delta A C L S b i m t; exact rfl⟩ : { p : PC // p = S [A 4 (.const (.bool false))] (.seq (S [m 6 0,L 7 6 61,m 8 1,L 9 8 61,b 10 .neq 3
 (t 7) (t 9) 3] (C 10 (S [A 4 (.const (.bool false))] .ret) .skip)) (.seq (S [A 5 (i 0)] (.block 0 (.loop pc120_l1))) pc120_r1)) }).1
theorem calls120 (hn : args.length = 2) (h : avc Tryz.prog G 27 pc120 (afin Tryz.prog [.tmp 4] R) (frame0 args) σ) : ACalls Tryz.prog G 120 args σ R :=
  acalls' (n := 27) (l := [.tmp 4]) mixed Tryz.func120 (by kernel_rfl) (by kernel_rfl) (by kernel_rfl) (by omega) h
def pc123_l1 : PC := (⟨_, by delta C S a b i l m t x; exact rfl⟩ : { p : PC // p = S [b 9 .lss 3 (t 8) (t 7) 3] (.seq (C 9 .skip (.exit 0)) (.seq (.block 1 (S
 [m 10 8,a 5 10] (S [m 11 1,m 12 0,m 13 5,x 14 128 12 13,l 15 4 14,b 16 .eql 4 (t 11) (t 15) 4] (C 16 (S [m 17 5,a 4 17] .ret) .skip)))) (.ops [b 18 .add 3 (t
 8) (i 1) 3,m 8 18]))) }).1
def pc123_r1 : PC := (⟨_, by delta A S i; exact rfl⟩ : { p : PC // p = S [A 4 (i (-1))] .ret }).1
def pc123 : PC := (⟨_, by delta A L S d i m; exact rfl⟩ : { p : PC // p = S [A 4 (i 0)] (.seq (S [m 6 0,L 7 6 128,d 8 (.move (i 0))] (.block 0 (.loop
 pc123_l1))) pc123_r1) }).1
theorem calls123 (hn : args.length = 2) (h : avc Tryz.prog G 19 pc123 (afin Tryz.prog [.tmp 4] R) (frame0 args) σ) : ACalls Tryz.prog G 123 args σ R :=
  acalls' (n := 19) (l := [.tmp 4]) mixed Tryz.func123 (by kernel_rfl) (by kernel_rfl) (by kernel_rfl) (by omega) h
def pc124 : PC := (⟨_, by delta A C S a b c d f i l m t w; exact rfl⟩ : { p : PC // p = S [d 1 (.box 73 (t 0)),A 2 (.const (.bool false))] (.seq (S [f 3 73 1
 0,l 4 3 3] (.block 0 (.seq (S [b 6 .eql 3 (t 4) (i 1) 3,a 5 6] (C 5 .skip (.ops [b 7 .eql 3 (t 4) (i 5) 3,a 5 7]))) (C 5 (S [f 8 73 1 1,l 9 3 8,c 10 87 #[t 9]
 #[3],a 2 10] .ret) (S [b 12 .eql 3 (t 4) (i 4) 3,a 11 12] (C 11 (S [f 13 73 1 1,l 14 3 13,c 15 87 #[t 14] #[3],m 16 15,w 17 (.fieldAddr 73 (t 1) 5) 16 true,w
 18 (.load 9 (t 17)) 16 true,w 19 (.call ⟨.value (.func 135),#[t 18],#[9]⟩) 16 true,w 20 (.binOp .neq 9 (t 19) (.const (.string ⟨#[]⟩)) 9) 16 true,d 21 (.pick
 (t 16) (t 20) (.const (.bool false))),a 2 21] .ret) (.seq (S [b 23 .eql 3 (t 4) (i 8) 3,a 22 23] (C 22 .skip (.ops [b 24 .eql 3 (t 4) (i 9) 3,a 22 24]))) (C 22
 (S [f 25 73 1 1,l 26 3 25,f 27 73 1 2,l 28 3 27,c 29 136 #[t 26,t 28] #[3,3],a 2 29] .ret) .skip)))))))) (S [f 30 73 1 0,l 31 3 30,b 32 .geq 3 (t 31) (i 1) 3,m
 33 32,w 34 (.fieldAddr 73 (t 1) 0) 33 true,w 35 (.load 3 (t 34)) 33 true,w 36 (.binOp .leq 3 (t 35) (i 18) 3) 33 true,d 37 (.pick (t 33) (t 36) (.const (.bool
 false))),a 2 37] .ret)) }).1
theorem calls124 (hn : args.length = 1) (h : avc Tryz.prog G 38 pc124 (afin Tryz.prog [.tmp 2] R) (frame0 args) σ) : ACalls Tryz.prog G 124 args σ R :=
  acalls' (n := 38) (l := [.tmp 2]) mixed Tryz.func124 (by kernel_rfl) (by kernel_rfl) (by kernel_rfl) (by omega) h
def pc125 : PC := (⟨_, by delta A C S a b c d f i l m n s t w; exact rfl⟩ : { p : PC // p = S [d 3 (.box 73 (t 1)),A 4 (.const (.bool false))] (.seq (S [f 7 73
 3 0,l 8 3 7] (.block 0 (S [b 10 .eql 3 (t 8) (i 1) 3,a 9 10] (C 9 (S [f 11 73 3 1,l 12 3 11,f 13 73 3 2,l 14 3 13,f 16 73 3 2,l 17 3 16,⟨some 15,.call ⟨.value
 (.func 137),#[t 12,t 14],#[3,3]⟩,none,[⟨none,3,t 16,17⟩]⟩,b 18 .eql 3 (t 15) (t 17) 3,a 4 18] .ret) (.seq (S [b 20 .eql 3 (t 8) (i 2) 3,a 19 20] (C 19 .skip
 (.ops [b 21 .eql 3 (t 8) (i 3) 3,a 19 21]))) (C 19 (S [f 22 73 3 2,l 23 3 22,b 24 .geq 3 (t 23) (i 0) 3,m 25 24,w 26 (.fieldAddr 73 (t 3) 2) 25 true,w 27
 (.load 3 (t 26)) 25 true,w 28 (.move (t 0)) 25 true,w 29 (.nilCheck (t 28)) 25 true,w 30 (.fieldAddr 133 (t 29) 0) 25 true,w 31 (.load 76 (t 30)) 25 true,w 32
 (.nilCheck (t 31)) 25 true,w 33 (.fieldAddr 78 (t 32) 2) 25 true,w 34 (.load 38 (t 33)) 25 true,w 35 (.call ⟨.builtin .len,#[t 34],#[38]⟩) 25 true,w 36 (.binOp
 .lss 3 (t 27) (t 35) 3) 25 true,d 37 (.pick (t 25) (t 36) (.const (.bool false))),a 4 37] .ret) (S [b 39 .eql 3 (t 8) (i 10) 3,a 38 39] (C 38 (.seq (.both [[m
 41 0,n 42 41,f 43 133 42 0,l 44 76 43,n 45 44,f 46 78 45 0,l 47 27 46,f 48 73 3 2,l 49 3 48,c 50 138 #[t 47,t 49] #[27,3],m 40 50,d 51 (.extract (t 40) 0),d 52
 (.extract (t 40) 1),d 5 (.alloc 169),s 169 5 51,a 6 52],[m 41 0,n 42 41,f 43 133 42 0,l 44 76 43,n 45 44,f 46 78 45 0,l 47 27 46,f 48 73 3 2,l 49 3 48,⟨some
 5,.alloc 169,none,[⟨none,76,t 43,44⟩,⟨none,27,t 46,47⟩,⟨none,3,t 48,49⟩]⟩,c 50 138 #[t 47,t 49] #[27,3],m 40 50,d 51 (.extract (t 40) 0),d 52 (.extract (t 40)
 1),s 169 5 51,a 6 52]]) (S [m 53 6,a 4 53] .ret)) (.seq (S [b 55 .eql 3 (t 8) (i 14) 3,a 54 55] (C 54 .skip (.ops [b 56 .eql 3 (t 8) (i 15) 3,a 54 56]))) (C 54
 (S [f 57 73 3 2,l 58 3 57,b 59 .geq 3 (t 58) (i 0) 3,m 60 59,w 61 (.fieldAddr 73 (t 3) 2) 60 true,w 62 (.load 3 (t 61)) 60 true,w 63 (.move (t 0)) 60 true,w 64
 (.nilCheck (t 63)) 60 true,w 65 (.fieldAddr 133 (t 64) 3) 60 true,w 66 (.load 3 (t 65)) 60 true,w 67 (.binOp .leq 3 (t 62) (t 66) 3) 60 true,d 68 (.pick (t 60)
 (t 67) (.const (.bool false))),a 4 68] .ret) .skip)))))))))) (S [A 4 (.const (.bool true))] .ret)) }).1
theorem calls125 (hn : args.length = 2) (h : avc Tryz.prog G 69 pc125 (afin Tryz.prog [.tmp 4] R) (frame0 args) σ) : ACalls Tryz.prog G 125 args σ R :=
  acalls' (n := 69) (l := [.tmp 4]) mixed Tryz.func125 (by kernel_rfl) (by kernel_rfl) (by kernel_rfl) (by omega) h
def pc126_x : PC := (⟨_, by delta d t; exact rfl⟩ : { p : PC // p = .ops [d 2 (.box 131 (t 0))] }).1
def pc126_yx : PC := (⟨_, by delta c m t; exact rfl⟩ : { p : PC // p = .ops [m 7 1,c 8 139 #[t 7] #[38]] }).1
def pc126_yya : PC := (⟨_, by delta a; exact rfl⟩ : { p : PC // p = .ops [a 5 10] }).1
def pc126_yyb : PC := (⟨_, by delta L S a b c d f i l m n t w; exact rfl⟩ : { p : PC // p = .block 1 (S [l 11 131 2,n 12 11,f 13 133 12 1,l 14 38 13,L 15 14
 38,a 6 15] (S [m 16 6,b 17 .eql 3 (t 16) (i 0) 3,m 18 17,w 19 (.load 131 (t 2)) 18 false,w 20 (.nilCheck (t 19)) 18 false,w 21 (.fieldAddr 133 (t 20) 1) 18
 false,w 22 (.load 38 (t 21)) 18 false,w 23 (.move (t 6)) 18 false,w 24 (.binOp .sub 3 (t 23) (i 1) 3) 18 false,w 25 (.indexAddr 38 (t 22) (t 24)) 18 false,w 26
 (.load 3 (t 25)) 18 false,w 27 (.move (t 5)) 18 false,w 28 (.binOp .eql 3 (t 26) (t 27) 3) 18 false,d 29 (.pick (t 18) (.const (.bool true)) (t 28)),c 30 48
 #[t 29,i 14] #[4,28]] (.ops [l 31 131 2,c 32 140 #[t 31] #[131]]))) }).1
def pc127 : PC := (⟨_, by delta C S b d f i l m n s t; exact rfl⟩ : { p : PC // p = S [m 4 1,b 5 .neq 3 (t 4) (i 0) 3] (C 5 (.ops [m 6 0,m 7 0,n 8 7,f 9 133 8
 1,l 10 38 9,m 11 1,d 12 (.buildSlice 38 1 #[(0,t 11)]),d 13 (.call ⟨.builtin .append,#[t 10,t 12],#[38,38]⟩),n 14 6,f 15 133 14 1,s 38 15 13]) .skip) }).1
theorem calls127 (hn : args.length = 2) (h : avc Tryz.prog G 16 pc127 (afin Tryz.prog [] R) (frame0 args) σ) : ACalls Tryz.prog G 127 args σ R :=
  acalls' (n := 16) (l := []) mixed Tryz.func127 (by kernel_rfl) (by kernel_rfl) (by kernel_rfl) (by omega) h
def pc128 : PC := (⟨_, by delta e f m n t; exact rfl⟩ : { p : PC // p = .ops [m 2 0,m 3 0,n 4 2,f 5 133 4 1,e (.store 38 (t 5) (.const (.slice none 0 0))),n 6
 3,f 7 133 6 2,e (.store 4 (t 7) (.const (.bool true)))] }).1
theorem calls128 (hn : args.length = 1) (h : avc Tryz.prog G 8 pc128 (afin Tryz.prog [] R) (frame0 args) σ) : ACalls Tryz.prog G 128 args σ R :=
  acalls' (n := 8) (l := []) mixed Tryz.func128 (by kernel_rfl) (by kernel_rfl) (by kernel_rfl) (by omega) h
def pc129 : PC := (⟨_, by delta C S a b c d f i l m n s t x; exact rfl⟩ : { p : PC // p = S [d 3 (.box 73 (t 1))] (S [f 6 73 3 0,l 7 3 6] (.block 0 (S [b 9 .eql
 3 (t 7) (i 1) 3,a 8 9] (C 8 (.ops [m 10 0,f 11 73 3 1,l 12 3 11,c 13 127 #[t 10,t 12] #[131,3]]) (S [b 15 .eql 3 (t 7) (i 2) 3,a 14 15] (C 14 (.ops [m 16 0,m
 17 0,n 18 17,f 19 133 18 0,l 20 76 19,n 21 20,f 22 78 21 2,l 23 38 22,f 24 73 3 2,l 25 3 24,x 26 38 23 25,l 27 3 26,c 28 127 #[t 16,t 27] #[131,3]]) (S [b 30
 .eql 3 (t 7) (i 3) 3,a 29 30] (C 29 (.ops [m 31 0,m 32 0,n 33 32,f 34 133 33 0,l 35 76 34,n 36 35,f 37 78 36 2,l 38 38 37,f 39 73 3 2,l 40 3 39,x 41 38 38 40,l
 42 3 41,d 43 (.buildSlice 38 1 #[(0,t 42)]),c 44 126 #[t 31,t 43] #[131,38]]) (S [b 46 .eql 3 (t 7) (i 4) 3,a 45 46] (C 45 (S [m 47 0,f 48 73 3 1,l 49 3 48,f
 50 73 3 1,l 51 3 50,d 52 (.buildSlice 38 2 #[(0,t 49),(1,t 51)]),c 53 126 #[t 47,t 52] #[131,38]] (S [f 54 73 3 5,l 55 9 54,b 56 .add 9 (.const (.string
 ⟨#[32]⟩)) (t 55) 9,b 57 .add 9 (t 56) (.const (.string ⟨#[32]⟩)) 9,c 58 141 #[.const (.string
 ⟨#[32,101,113,32,110,101,32,108,116,95,115,32,108,101,95,115,32,103,116,95,115,32,103,101,95,115,32]⟩),t 57] #[9,9]] (C 58 (.ops [m 59 0,c 60 127 #[t 59,i 1]
 #[131,3]]) (.ops [m 61 0,f 62 73 3 1,l 63 3 62,c 64 127 #[t 61,t 63] #[131,3]])))) (S [b 66 .eql 3 (t 7) (i 5) 3,a 65 66] (C 65 (S [m 67 0,f 68 73 3 1,l 69 3
 68,d 70 (.buildSlice 38 1 #[(0,t 69)]),c 71 126 #[t 67,t 70] #[131,38]] (.ops [m 72 0,c 73 127 #[t 72,i 1] #[131,3]])) (S [b 75 .eql 3 (t 7) (i 6) 3,a 74 75]
 (C 74 (S [m 76 0,d 77 (.buildSlice 38 1 #[(0,i 2)]),c 78 126 #[t 76,t 77] #[131,38]] (.ops [m 79 0,c 80 127 #[t 79,i 1] #[131,3]])) (S [b 82 .eql 3 (t 7) (i 7)
 3,a 81 82] (C 81 (S [m 83 0,d 84 (.buildSlice 38 1 #[(0,i 1)]),c 85 126 #[t 83,t 84] #[131,38]] (.ops [m 86 0,c 87 127 #[t 86,i 2] #[131,3]])) (S [b 89 .eql 3
 (t 7) (i 8) 3,a 88 89] (C 88 (S [m 90 0,d 91 (.buildSlice 38 1 #[(0,i 1)]),c 92 126 #[t 90,t 91] #[131,38]] (.ops [m 93 0,f 94 73 3 1,l 95 3 94,c 96 127 #[t
 93,t 95] #[131,3]])) (S [b 98 .eql 3 (t 7) (i 9) 3,a 97 98] (C 97 (.ops [m 99 0,f 100 73 3 1,l 101 3 100,d 102 (.buildSlice 38 2 #[(0,i 1),(1,t 101)]),c 103
 126 #[t 99,t 102] #[131,38]]) (S [b 105 .eql 3 (t 7) (i 10) 3,a 104 105] (C 104 (.seq (.both [[m 107 0,n 108 107,f 109 133 108 0,l 110 76 109,n 111 110,f 112
 78 111 0,l 113 27 112,f 114 73 3 2,l 115 3 114,c 116 138 #[t 113,t 115] #[27,3],m 106 116,d 117 (.extract (t 106) 0),d 118 (.extract (t 106) 1),d 4 (.alloc
 169),s 169 4 117,a 5 118],[m 107 0,n 108 107,f 109 133 108 0,l 110 76 109,n 111 110,f 112 78 111 0,l 113 27 112,f 114 73 3 2,l 115 3 114,⟨some 4,.alloc
 169,none,[⟨none,76,t 109,110⟩,⟨none,27,t 112,113⟩,⟨none,3,t 114,115⟩]⟩,c 116 138 #[t 113,t 115] #[27,3],m 106 116,d 117 (.extract (t 106) 0),d 118 (.extract (t
 106) 1),s 169 4 117,a 5 118]]) (S [m 119 0,f 120 169 4 0,l 121 38 120,c 122 126 #[t 119,t 121] #[131,38]] (.ops [m 123 0,f 124 169 4 1,l 125 3 124,c 126 127
 #[t 123,t 125] #[131,3]]))) (S [b 128 .eql 3 (t 7) (i 18) 3,a 127 128] (C 127 (.ops [m 129 0,c 130 140 #[t 129] #[131]]) .skip)))))))))))))))))))))))) }).1
theorem calls129 (hn : args.length = 2) (h : avc Tryz.prog G 131 pc129 (afin Tryz.prog [] R) (frame0 args) σ) : ACalls Tryz.prog G 129 args σ R :=
  acalls' (n := 131) (l := []) mixed Tryz.func129 (by kernel_rfl) (by kernel_rfl) (by kernel_rfl) (by omega) h
def pc130_l1 : PC := (⟨_, by delta C L S a b d i l m t x; exact rfl⟩ : { p : PC // p = .seq (S [m 5 4,m 6 0,L 7 6 61,b 8 .lss 3 (t 5) (t 7) 3] (C 8 .skip (.exit
 0))) (.seq (.block 1 (.ops [m 11 3,m 12 0,m 13 4,x 14 61 12 13,l 15 73 14,d 16 (.buildSlice 61 1 #[(0,t 15)]),d 17 (.call ⟨.builtin .append,#[t 11,t
 16],#[61,61]⟩),a 3 17])) (.ops [m 9 4,b 10 .add 3 (t 9) (i 1) 3,a 4 10])) }).1
def pc130_r1 : PC := (⟨_, by delta S a m; exact rfl⟩ : { p : PC // p = S [m 18 3,a 2 18] .ret }).1
def pc130 : PC := (⟨_, by delta A S i; exact rfl⟩ : { p : PC // p = S [A 2 (.const (.slice none 0 0))] (S [A 3 (.const (.slice none 0 0))] (.seq (S [A 4 (i 0)]
 (.block 0 (.loop pc130_l1))) pc130_r1)) }).1
theorem calls130 (hn : args.length = 1) (h : avc Tryz.prog G 19 pc130 (afin Tryz.prog [.tmp 2] R) (frame0 args) σ) : ACalls Tryz.prog G 130 args σ R :=
  acalls' (n := 19) (l := [.tmp 2]) mixed Tryz.func130 (by kernel_rfl) (by kernel_rfl) (by kernel_rfl) (by omega) h
def pc135_l1 : PC := (⟨_, by delta C S a b d i l m s t; exact rfl⟩ : { p : PC // p = S [b 7 .lss 3 (t 6) (i 16) 3] (.seq (C 7 .skip (.exit 0)) (.seq (.block 1
 (S [d 8 (.index 187 (t 5) (t 6)),d 4 (.alloc 122),s 122 4 8] (S [d 9 (.indexAddr 122 (t 4) (i 0)),l 10 9 9,m 11 0,b 12 .eql 9 (t 10) (t 11) 9] (C 12 (S [d 13
 (.indexAddr 122 (t 4) (i 1)),l 14 9 13,a 2 14] .ret) .skip)))) (.ops [b 15 .add 3 (t 6) (i 1) 3,m 6 15]))) }).1
def pc135_r1 : PC := (⟨_, by delta A S; exact rfl⟩ : { p : PC // p = S [A 2 (.const (.string ⟨#[]⟩))] .ret }).1
def pc135 : PC := (⟨_, by delta A S d i; exact rfl⟩ : { p : PC // p = S [A 2 (.const (.string ⟨#[]⟩))] (.seq (S [d 5 (.load 187 (.global 5)),d 6 (.move (i 0))]
 (.block 0 (.loop pc135_l1))) pc135_r1) }).1
theorem calls135 (hn : args.length = 1) (h : avc Tryz.prog G 16 pc135 (afin Tryz.prog [.tmp 2] R) (frame0 args) σ) : ACalls Tryz.prog G 135 args σ R :=
  acalls' (n := 16) (l := [.tmp 2]) mixed Tryz.func135 (by kernel_rfl) (by kernel_rfl) (by kernel_rfl) (by omega) h
def pc136 : PC := (⟨_, by delta A S a b d i m t w; exact rfl⟩ : { p : PC // p = S [A 4 (.const (.bool false))] (S [m 5 0,b 6 .eql 3 (t 5) (i 1) 3,m 7 6,w 8
 (.move (t 1)) 7 true,w 9 (.binOp .eql 3 (t 8) (i 1) 3) 7 true,w 10 (.move (t 9)) 7 true,w 11 (.move (t 1)) 10 false,w 12 (.binOp .eql 3 (t 11) (i 4) 3) 10
 false,w 13 (.pick (t 10) (.const (.bool true)) (t 12)) 7 true,d 14 (.pick (t 7) (t 13) (.const (.bool false))),m 15 14,w 16 (.move (t 0)) 15 false,w 17 (.binOp
 .eql 3 (t 16) (i 2) 3) 15 false,w 18 (.move (t 17)) 15 false,w 19 (.move (t 1)) 18 true,w 20 (.binOp .eql 3 (t 19) (i 8) 3) 18 true,w 21 (.pick (t 18) (t 20)
 (.const (.bool false))) 15 false,d 22 (.pick (t 15) (.const (.bool true)) (t 21)),a 4 22] .ret) }).1
theorem calls136 (hn : args.length = 2) (h : avc Tryz.prog G 23 pc136 (afin Tryz.prog [.tmp 4] R) (frame0 args) σ) : ACalls Tryz.prog G 136 args σ R :=
  acalls' (n := 23) (l := [.tmp 4]) mixed Tryz.func136 (by kernel_rfl) (by kernel_rfl) (by kernel_rfl) (by omega) h
def pc137 : PC := (⟨_, by delta A C S a b d i m t; exact rfl⟩ : { p : PC // p = S [A 4 (i 0)] (.seq (S [m 5 0] (.block 0 (S [b 7 .eql 3 (t 5) (i 3) 3,a 6 7] (C
 6 (S [m 8 1,d 9 (.convert 3 188 (t 8)),d 10 (.convert 188 3 (t 9)),a 4 10] .ret) (S [b 12 .eql 3 (t 5) (i 1) 3,a 11 12] (C 11 (S [m 13 1,d 14 (.convert 3 21 (t
 13)),d 15 (.convert 21 3 (t 14)),a 4 15] .ret) (S [b 17 .eql 3 (t 5) (i 2) 3,a 16 17] (C 16 (S [m 18 1,a 4 18] .ret) .skip)))))))) (S [A 4 (i 0)] .ret)) }).1
theorem calls137 (hn : args.length = 2) (h : avc Tryz.prog G 19 pc137 (afin Tryz.prog [.tmp 4] R) (frame0 args) σ) : ACalls Tryz.prog G 137 args σ R :=
  acalls' (n := 19) (l := [.tmp 4]) mixed Tryz.func137 (by kernel_rfl) (by kernel_rfl) (by kernel_rfl) (by omega) h
def pc138 : PC := (⟨_, by delta A C S a b d f i l m s t w x; exact rfl⟩ : { p : PC // p = S [d 2 (.box 27 (t 0)),d 4 (.alloc 169),A 5 (.const (.bool false))]
 (.seq (.block 0 (S [m 8 1,b 9 .eql 3 (t 8) (i 0) 3,a 7 9] (C 7 (S [d 10 (.build 169 #[(0,.const (.slice none 0 0)),(1,i 2)]),s 169 4 10,A 5 (.const (.bool
 true))] .ret) (S [m 12 1,b 13 .eql 3 (t 12) (i 1) 3,a 11 13] (C 11 (S [d 14 (.buildSlice 38 1 #[(0,i 2)]),d 15 (.build 169 #[(0,t 14),(1,i 0)]),s 169 4 15,A 5
 (.const (.bool true))] .ret) (S [m 17 1,b 18 .eql 3 (t 17) (i 2) 3,a 16 18] (C 16 (S [d 19 (.buildSlice 38 1 #[(0,i 1)]),d 20 (.build 169 #[(0,t 19),(1,i
 0)]),s 169 4 20,A 5 (.const (.bool true))] .ret) (S [m 22 1,b 23 .lss 3 (t 22) (i 0) 3,m 24 23,w 25 (.move (t 1)) 24 false,w 26 (.binOp .sub 3 (t 25) (i 3) 3)
 24 false,w 27 (.fieldAddr 27 (t 2) 0) 24 false,w 28 (.load 25 (t 27)) 24 false,w 29 (.call ⟨.builtin .len,#[t 28],#[25]⟩) 24 false,w 30 (.binOp .geq 3 (t 26)
 (t 29) 3) 24 false,d 31 (.pick (t 24) (.const (.bool true)) (t 30)),a 21 31] (C 21 (S [d 32 (.build 169 #[]),s 169 4 32,A 5 (.const (.bool false))] .ret)
 .skip))))))))) (S [f 33 27 2 0,l 34 25 33,m 35 1,b 36 .sub 3 (t 35) (i 3) 3,x 37 25 34 36,l 38 59 37,d 6 (.alloc 59),s 59 6 38] (S [f 39 59 6 1,l 40 38 39,f 41
 59 6 3,l 42 3 41,d 43 (.build 169 #[(0,t 40),(1,t 42)]),s 169 4 43,A 5 (.const (.bool true))] .ret))) }).1
theorem calls138 (hn : args.length = 2) (h : avc Tryz.prog G 44 pc138 (afin Tryz.prog [.cell 4 169, .tmp 5] R) (frame0 args) σ) : ACalls Tryz.prog G 138 args σ R :=
  acalls' (n := 44) (l := [.cell 4 169, .tmp 5]) mixed Tryz.func138 (by kernel_rfl) (by kernel_rfl) (by kernel_rfl) (by omega) h
def pc139 : PC := (⟨_, by delta A S a d t; exact rfl⟩ : { p : PC // p = S [d 1 (.box 38 (t 0)),A 2 (.const .nilFunc)] (S [d 3 (.makeFunc (.func 145) #[] #[t
 1]),a 2 3] .ret) }).1
theorem calls139 (hn : args.length = 1) (h : avc Tryz.prog G 4 pc139 (afin Tryz.prog [.tmp 2] R) (frame0 args) σ) : ACalls Tryz.prog G 139 args σ R :=
  acalls' (n := 4) (l := [.tmp 2]) mixed Tryz.func139 (by kernel_rfl) (by kernel_rfl) (by kernel_rfl) (by omega) h
def pc140 : PC := (⟨_, by delta C L S a b c d f i l m n s t w; exact rfl⟩ : { p : PC // p = S [m 3 0,n 4 3,f 5 133 4 1,l 6 38 5,L 7 6 38,a 2 7] (.seq (S [m 8
 2,b 9 .eql 3 (t 8) (i 0) 3,m 10 9,w 11 (.move (t 0)) 10 true,w 12 (.nilCheck (t 11)) 10 true,w 13 (.fieldAddr 133 (t 12) 2) 10 true,w 14 (.load 4 (t 13)) 10
 true,d 15 (.pick (t 10) (t 14) (.const (.bool false)))] (C 15 .ret .skip)) (S [m 16 2,b 17 .gtr 3 (t 16) (i 0) 3,c 18 48 #[t 17,i 14] #[4,28]] (.ops [m 19 0,m
 20 0,n 21 20,f 22 133 21 1,l 23 38 22,m 24 2,b 25 .sub 3 (t 24) (i 1) 3,m 26 2,b 27 .sub 3 (t 26) (i 1) 3,d 28 (.slice 38 (t 23) none (some (t 25)) (some (t
 27))),n 29 19,f 30 133 29 1,s 38 30 28]))) }).1
theorem calls140 (hn : args.length = 1) (h : avc Tryz.prog G 31 pc140 (afin Tryz.prog [] R) (frame0 args) σ) : ACalls Tryz.prog G 140 args σ R :=
  acalls' (n := 31) (l := []) mixed Tryz.func140 (by kernel_rfl) (by kernel_rfl) (by kernel_rfl) (by omega) h
def pc145_l1 : PC := (⟨_, by delta C S a b d i l m t x; exact rfl⟩ : { p : PC // p = .seq (S [m 7 3,b 8 .geq 3 (t 7) (i 0) 3] (C 8 .skip (.exit 0))) (.seq
 (.block 1 (S [m 11 0,m 12 3,l 13 38 1,m 14 3,x 15 38 13 14,l 16 3 15,d 17 (.call ⟨.value (t 11),#[t 12,t 16],#[3,3]⟩),d 18 (.unOp .not 4 (t 17))] (C 18 .ret
 .skip))) (.ops [m 9 3,b 10 .sub 3 (t 9) (i 1) 3,a 3 10])) }).1
def pc145 : PC := (⟨_, by delta L S a b i l t; exact rfl⟩ : { p : PC // p = S [l 4 38 1,L 5 4 38,b 6 .sub 3 (t 5) (i 1) 3,a 3 6] (.block 0 (.loop pc145_l1))
 }).1
theorem calls145 (hn : args.length = 2) (h : avc Tryz.prog G 19 pc145 (afin Tryz.prog [] R) (frame0 args) σ) : ACalls Tryz.prog G 145 args σ R :=
  acalls' (n := 19) (l := []) mixed Tryz.func145 (by kernel_rfl) (by kernel_rfl) (by kernel_rfl) (by omega) h
@[simp] theorem t_sz27 : szOf Tryz.prog 27 = some 3 := by kernel_rfl
@[simp] theorem t_agg27 : aggOf Tryz.prog 27 = true := by kernel_rfl
@[simp] theorem t_call19 : callable Tryz.prog 19 = true := by kernel_rfl
@[simp] theorem t_call20 : callable Tryz.prog 20 = true := by kernel_rfl
@[simp] theorem t_und28 : Tryz.prog.underlying 28 = some (.int .i64) := by kernel_rfl
@[simp] theorem t_call6 : callable Tryz.prog 6 = true := by kernel_rfl
@[simp] theorem t_call21 : callable Tryz.prog 21 = true := by kernel_rfl
@[simp] theorem t_zero27 : zeroOf Tryz.prog 27 = some (.agg [.nilsl, (.int .i64 0), (.int .i64 0)]) := by kernel_rfl
@[simp] theorem t_call16 : callable Tryz.prog 16 = true := by kernel_rfl
@[simp] theorem t_call22 : callable Tryz.prog 22 = true := by kernel_rfl
@[simp] theorem t_call14 : callable Tryz.prog 14 = true := by kernel_rfl
@[simp] theorem t_call10 : callable Tryz.prog 10 = true := by kernel_rfl
@[simp] theorem t_call13 : callable Tryz.prog 13 = true := by kernel_rfl
@[simp] theorem t_call23 : callable Tryz.prog 23 = true := by kernel_rfl
@[simp] theorem t_call24 : callable Tryz.prog 24 = true := by kernel_rfl
@[simp] theorem t_und3 : Tryz.prog.underlying 3 = some (.int .i64) := by kernel_rfl
@[simp] theorem t_call15 : callable Tryz.prog 15 = true := by kernel_rfl
@[simp] theorem t_call25 : callable Tryz.prog 25 = true := by kernel_rfl
@[simp] theorem t_call17 : callable Tryz.prog 17 = true := by kernel_rfl
@[simp] theorem t_call8 : callable Tryz.prog 8 = true := by kernel_rfl
@[simp] theorem t_el22 : elOf Tryz.prog 22 = some 1 := by kernel_rfl
@[simp] theorem t_ez22 : elZero Tryz.prog 22 = some (.int .u8 0) := by kernel_rfl
@[simp] theorem t_str22 : isStr Tryz.prog 22 = false := by kernel_rfl
@[simp] theorem t_sz5 : szOf Tryz.prog 5 = some 1 := by kernel_rfl
@[simp] theorem t_agg5 : aggOf Tryz.prog 5 = false := by kernel_rfl
@[simp] theorem t_und5 : Tryz.prog.underlying 5 = some (.int .u8) := by kernel_rfl
@[simp] theorem t_zero28 : zeroOf Tryz.prog 28 = some (.int .i64 0) := by kernel_rfl
@[simp] theorem t_sz28 : szOf Tryz.prog 28 = some 1 := by kernel_rfl
@[simp] theorem t_agg28 : aggOf Tryz.prog 28 = false := by kernel_rfl
@[simp] theorem t_call28 : callable Tryz.prog 28 = true := by kernel_rfl
@[simp] theorem t_struct51 : isStruct Tryz.prog 51 = true := by kernel_rfl
@[simp] theorem t_sized51 : sized Tryz.prog 51 = true := by kernel_rfl
@[simp] theorem t_zero51 : zeroOf Tryz.prog 51 = some (.agg [.nilsl, .nilsl, (.int .i64 0)]) := by kernel_rfl
@[simp] theorem t_fi51_0 : fiOf Tryz.prog 51 0 = some ⟨0, 1, false⟩ := by kernel_rfl
@[simp] theorem t_call29 : callable Tryz.prog 29 = true := by kernel_rfl
@[simp] theorem t_sz22 : szOf Tryz.prog 22 = some 1 := by kernel_rfl
@[simp] theorem t_agg22 : aggOf Tryz.prog 22 = false := by kernel_rfl
@[simp] theorem t_call31 : callable Tryz.prog 31 = true := by kernel_rfl
@[simp] theorem t_call32 : callable Tryz.prog 32 = true := by kernel_rfl
@[simp] theorem t_call33 : callable Tryz.prog 33 = true := by kernel_rfl
@[simp] theorem t_call30 : callable Tryz.prog 30 = true := by kernel_rfl
@[simp] theorem t_fi27_1 : fiOf Tryz.prog 27 1 = some ⟨1, 1, false⟩ := by kernel_rfl
@[simp] theorem t_sz3 : szOf Tryz.prog 3 = some 1 := by kernel_rfl
@[simp] theorem t_agg3 : aggOf Tryz.prog 3 = false := by kernel_rfl
@[simp] theorem t_fi27_2 : fiOf Tryz.prog 27 2 = some ⟨2, 1, false⟩ := by kernel_rfl
@[simp] theorem t_fi27_0 : fiOf Tryz.prog 27 0 = some ⟨0, 1, false⟩ := by kernel_rfl
@[simp] theorem t_sz25 : szOf Tryz.prog 25 = some 1 := by kernel_rfl
@[simp] theorem t_agg25 : aggOf Tryz.prog 25 = false := by kernel_rfl
@[simp] theorem t_call35 : callable Tryz.prog 35 = true := by kernel_rfl
@[simp] theorem t_str5 : isStr Tryz.prog 5 = false := by kernel_rfl
@[simp] theorem t_str3 : isStr Tryz.prog 3 = false := by kernel_rfl
@[simp] theorem t_u8_3 : isU8 Tryz.prog 3 = false := by kernel_rfl
@[simp] theorem t_u8_5 : isU8 Tryz.prog 5 = false := by kernel_rfl
@[simp] theorem t_int5 : intOf? Tryz.prog 5 = some .u8 := by kernel_rfl
@[simp] theorem t_some3 : (Tryz.prog.underlying 3).isSome = true := by kernel_rfl
@[simp] theorem t_eb22 : elBytes Tryz.prog 22 = some 1 := by kernel_rfl
@[simp] theorem t_call40 : callable Tryz.prog 40 = true := by kernel_rfl
@[simp] theorem t_el38 : elOf Tryz.prog 38 = some 1 := by kernel_rfl
@[simp] theorem t_ez38 : elZero Tryz.prog 38 = some (.int .i64 0) := by kernel_rfl
@[simp] theorem t_el65 : elOf Tryz.prog 65 = some 1 := by kernel_rfl
@[simp] theorem t_ez65 : elZero Tryz.prog 65 = some .nilsl := by kernel_rfl
@[simp] theorem t_el66 : elOf Tryz.prog 66 = some 1 := by kernel_rfl
@[simp] theorem t_ez66 : elZero Tryz.prog 66 = some (.str []) := by kernel_rfl
@[simp] theorem t_str66 : isStr Tryz.prog 66 = false := by kernel_rfl
@[simp] theorem t_sz9 : szOf Tryz.prog 9 = some 1 := by kernel_rfl
@[simp] theorem t_agg9 : aggOf Tryz.prog 9 = false := by kernel_rfl
@[simp] theorem t_u8_22 : isU8 Tryz.prog 22 = true := by kernel_rfl
@[simp] theorem t_some22 : (Tryz.prog.underlying 22).isSome = true := by kernel_rfl
@[simp] theorem t_call42 : callable Tryz.prog 42 = true := by kernel_rfl
@[simp] theorem t_str9 : isStr Tryz.prog 9 = true := by kernel_rfl
@[simp] theorem t_u8_9 : isU8 Tryz.prog 9 = false := by kernel_rfl
@[simp] theorem t_some9 : (Tryz.prog.underlying 9).isSome = true := by kernel_rfl
@[simp] theorem t_call41 : callable Tryz.prog 41 = true := by kernel_rfl
@[simp] theorem t_eb65 : elBytes Tryz.prog 65 = some 24 := by kernel_rfl
@[simp] theorem t_str65 : isStr Tryz.prog 65 = false := by kernel_rfl
@[simp] theorem t_el25 : elOf Tryz.prog 25 = some 5 := by kernel_rfl
@[simp] theorem t_str25 : isStr Tryz.prog 25 = false := by kernel_rfl
@[simp] theorem t_sz59 : szOf Tryz.prog 59 = some 5 := by kernel_rfl
@[simp] theorem t_agg59 : aggOf Tryz.prog 59 = true := by kernel_rfl
@[simp] theorem t_zero59 : zeroOf Tryz.prog 59 = some (.agg [(.str []), .nilsl, .nilsl, (.int .i64 0), .nilsl]) := by kernel_rfl
@[simp] theorem t_fi59_1 : fiOf Tryz.prog 59 1 = some ⟨1, 1, false⟩ := by kernel_rfl
@[simp] theorem t_sz38 : szOf Tryz.prog 38 = some 1 := by kernel_rfl
@[simp] theorem t_agg38 : aggOf Tryz.prog 38 = false := by kernel_rfl
@[simp] theorem t_fi59_3 : fiOf Tryz.prog 59 3 = some ⟨3, 1, false⟩ := by kernel_rfl
@[simp] theorem t_fi59_2 : fiOf Tryz.prog 59 2 = some ⟨2, 1, false⟩ := by kernel_rfl
@[simp] theorem t_fi59_4 : fiOf Tryz.prog 59 4 = some ⟨4, 1, false⟩ := by kernel_rfl
@[simp] theorem t_sz49 : szOf Tryz.prog 49 = some 1 := by kernel_rfl
@[simp] theorem t_agg49 : aggOf Tryz.prog 49 = false := by kernel_rfl
@[simp] theorem t_el49 : elOf Tryz.prog 49 = some 1 := by kernel_rfl
@[simp] theorem t_str49 : isStr Tryz.prog 49 = false := by kernel_rfl
@[simp] theorem t_call43 : callable Tryz.prog 43 = true := by kernel_rfl
@[simp] theorem t_call44 : callable Tryz.prog 44 = true := by kernel_rfl
@[simp] theorem t_fi59_0 : fiOf Tryz.prog 59 0 = some ⟨0, 1, false⟩ := by kernel_rfl
@[simp] theorem t_call46 : callable Tryz.prog 46 = true := by kernel_rfl
@[simp] theorem t_call45 : callable Tryz.prog 45 = true := by kernel_rfl
@[simp] theorem t_struct73 : isStruct Tryz.prog 73 = true := by kernel_rfl
@[simp] theorem t_sized73 : sized Tryz.prog 73 = true := by kernel_rfl
@[simp] theorem t_zero73 : zeroOf Tryz.prog 73 = some (.agg [(.int .i64 0), (.int .i64 0), (.int .i64 0), (.int .i64 0), (.int .i64 0), (.str [])]) := by kernel_rfl
@[simp] theorem t_fi73_0 : fiOf Tryz.prog 73 0 = some ⟨0, 1, false⟩ := by kernel_rfl
@[simp] theorem t_fi73_1 : fiOf Tryz.prog 73 1 = some ⟨1, 1, false⟩ := by kernel_rfl
@[simp] theorem t_fi73_2 : fiOf Tryz.prog 73 2 = some ⟨2, 1, false⟩ := by kernel_rfl
@[simp] theorem t_el61 : elOf Tryz.prog 61 = some 6 := by kernel_rfl
@[simp] theorem t_ez61 : elZero Tryz.prog 61 = some (.agg [(.int .i64 0), (.int .i64 0), (.int .i64 0), (.int .i64 0), (.int .i64 0), (.str [])]) := by kernel_rfl
@[simp] theorem t_ez49 : elZero Tryz.prog 49 = some .nilsl := by kernel_rfl
@[simp] theorem t_struct59 : isStruct Tryz.prog 59 = true := by kernel_rfl
@[simp] theorem t_sized59 : sized Tryz.prog 59 = true := by kernel_rfl
@[simp] theorem t_ez25 : elZero Tryz.prog 25 = some (.agg [(.str []), .nilsl, .nilsl, (.int .i64 0), .nilsl]) := by kernel_rfl
@[simp] theorem t_struct27 : isStruct Tryz.prog 27 = true := by kernel_rfl
@[simp] theorem t_sized27 : sized Tryz.prog 27 = true := by kernel_rfl
@[simp] theorem t_str38 : isStr Tryz.prog 38 = false := by kernel_rfl
@[simp] theorem t_sz61 : szOf Tryz.prog 61 = some 1 := by kernel_rfl
@[simp] theorem t_agg61 : aggOf Tryz.prog 61 = false := by kernel_rfl
@[simp] theorem t_str61 : isStr Tryz.prog 61 = false := by kernel_rfl
@[simp] theorem t_call48 : callable Tryz.prog 48 = true := by kernel_rfl
@[simp] theorem t_struct78 : isStruct Tryz.prog 78 = true := by kernel_rfl
@[simp] theorem t_sized78 : sized Tryz.prog 78 = true := by kernel_rfl
@[simp] theorem t_zero78 : zeroOf Tryz.prog 78 = some (.agg [.nilsl, (.int .i64 0), (.int .i64 0), (.str []), .nilsl, .nilsl, (.int .i64 0), .nilsl, .nilsl]) := by kernel_rfl
@[simp] theorem t_fi78_0 : fiOf Tryz.prog 78 0 = some ⟨0, 3, true⟩ := by kernel_rfl
@[simp] theorem t_fi78_1 : fiOf Tryz.prog 78 1 = some ⟨3, 5, true⟩ := by kernel_rfl
@[simp] theorem t_call49 : callable Tryz.prog 49 = true := by kernel_rfl
@[simp] theorem t_call50 : callable Tryz.prog 50 = true := by kernel_rfl
@[simp] theorem t_call51 : callable Tryz.prog 51 = true := by kernel_rfl
@[simp] theorem t_call52 : callable Tryz.prog 52 = true := by kernel_rfl
@[simp] theorem t_call53 : callable Tryz.prog 53 = true := by kernel_rfl
@[simp] theorem t_call54 : callable Tryz.prog 54 = true := by kernel_rfl
@[simp] theorem t_call55 : callable Tryz.prog 55 = true := by kernel_rfl
@[simp] theorem t_call56 : callable Tryz.prog 56 = true := by kernel_rfl
@[simp] theorem t_call26 : callable Tryz.prog 26 = true := by kernel_rfl
@[simp] theorem t_und22 : Tryz.prog.underlying 22 = some (.slice 5) := by kernel_rfl
@[simp] theorem t_call57 : callable Tryz.prog 57 = true := by kernel_rfl
@[simp] theorem t_call58 : callable Tryz.prog 58 = true := by kernel_rfl
@[simp] theorem t_call59 : callable Tryz.prog 59 = true := by kernel_rfl
@[simp] theorem t_call60 : callable Tryz.prog 60 = true := by kernel_rfl
@[simp] theorem t_call61 : callable Tryz.prog 61 = true := by kernel_rfl
@[simp] theorem t_if28 : isIface Tryz.prog 28 = some false := by kernel_rfl
@[simp] theorem t_zero87 : zeroOf Tryz.prog 87 = some .nilfn := by kernel_rfl
@[simp] theorem t_sz87 : szOf Tryz.prog 87 = some 1 := by kernel_rfl
@[simp] theorem t_agg87 : aggOf Tryz.prog 87 = false := by kernel_rfl
@[simp] theorem t_call64 : callable Tryz.prog 64 = true := by kernel_rfl
@[simp] theorem t_call63 : callable Tryz.prog 63 = true := by kernel_rfl
@[simp] theorem t_zero91 : zeroOf Tryz.prog 91 = some .nilfn := by kernel_rfl
@[simp] theorem t_sz91 : szOf Tryz.prog 91 = some 1 := by kernel_rfl
@[simp] theorem t_agg91 : aggOf Tryz.prog 91 = false := by kernel_rfl
@[simp] theorem t_call67 : callable Tryz.prog 67 = true := by kernel_rfl
@[simp] theorem t_und9 : Tryz.prog.underlying 9 = some .string := by kernel_rfl
@[simp] theorem t_call76 : callable Tryz.prog 76 = true := by kernel_rfl
@[simp] theorem t_call81 : callable Tryz.prog 81 = true := by kernel_rfl
@[simp] theorem t_call82 : callable Tryz.prog 82 = true := by kernel_rfl
@[simp] theorem t_if9 : isIface Tryz.prog 9 = some false := by kernel_rfl
@[simp] theorem t_call83 : callable Tryz.prog 83 = true := by kernel_rfl
@[simp] theorem t_sz73 : szOf Tryz.prog 73 = some 6 := by kernel_rfl
@[simp] theorem t_agg73 : aggOf Tryz.prog 73 = true := by kernel_rfl
@[simp] theorem t_fi73_3 : fiOf Tryz.prog 73 3 = some ⟨3, 1, false⟩ := by kernel_rfl
@[simp] theorem t_fi73_4 : fiOf Tryz.prog 73 4 = some ⟨4, 1, false⟩ := by kernel_rfl
@[simp] theorem t_call84 : callable Tryz.prog 84 = true := by kernel_rfl
@[simp] theorem t_fi75_0 : fiOf Tryz.prog 75 0 = some ⟨0, 1, false⟩ := by kernel_rfl
@[simp] theorem t_struct75 : isStruct Tryz.prog 75 = true := by kernel_rfl
@[simp] theorem t_sized75 : sized Tryz.prog 75 = true := by kernel_rfl
@[simp] theorem t_zero75 : zeroOf Tryz.prog 75 = some (.agg [(.int .i64 0)]) := by kernel_rfl
@[simp] theorem t_if75 : isIface Tryz.prog 75 = some false := by kernel_rfl
@[simp] theorem t_el127 : elOf Tryz.prog 127 = some 1 := by kernel_rfl
@[simp] theorem t_ez127 : elZero Tryz.prog 127 = some .nilsl := by kernel_rfl
@[simp] theorem t_call85 : callable Tryz.prog 85 = true := by kernel_rfl
@[simp] theorem t_fi78_2 : fiOf Tryz.prog 78 2 = some ⟨8, 1, false⟩ := by kernel_rfl
@[simp] theorem t_call65 : callable Tryz.prog 65 = true := by kernel_rfl
@[simp] theorem t_call88 : callable Tryz.prog 88 = true := by kernel_rfl
@[simp] theorem t_call89 : callable Tryz.prog 89 = true := by kernel_rfl
@[simp] theorem t_call90 : callable Tryz.prog 90 = true := by kernel_rfl
@[simp] theorem t_eb25 : elBytes Tryz.prog 25 = some 96 := by kernel_rfl
@[simp] theorem t_call91 : callable Tryz.prog 91 = true := by kernel_rfl
@[simp] theorem t_call92 : callable Tryz.prog 92 = true := by kernel_rfl
@[simp] theorem t_call93 : callable Tryz.prog 93 = true := by kernel_rfl
@[simp] theorem t_call94 : callable Tryz.prog 94 = true := by kernel_rfl
@[simp] theorem t_str110 : isStr Tryz.prog 110 = false := by kernel_rfl
@[simp] theorem t_u8_110 : isU8 Tryz.prog 110 = false := by kernel_rfl
@[simp] theorem t_int110 : intOf? Tryz.prog 110 = some .u64 := by kernel_rfl
@[simp] theorem t_some5 : (Tryz.prog.underlying 5).isSome = true := by kernel_rfl
@[simp] theorem t_und110 : Tryz.prog.underlying 110 = some (.int .u64) := by kernel_rfl
@[simp] theorem t_int3 : intOf? Tryz.prog 3 = some .i64 := by kernel_rfl
@[simp] theorem t_some110 : (Tryz.prog.underlying 110).isSome = true := by kernel_rfl
@[simp] theorem t_fi51_2 : fiOf Tryz.prog 51 2 = some ⟨2, 1, false⟩ := by kernel_rfl
@[simp] theorem t_call95 : callable Tryz.prog 95 = true := by kernel_rfl
@[simp] theorem t_eb38 : elBytes Tryz.prog 38 = some 8 := by kernel_rfl
@[simp] theorem t_fi51_1 : fiOf Tryz.prog 51 1 = some ⟨1, 1, false⟩ := by kernel_rfl
@[simp] theorem t_call96 : callable Tryz.prog 96 = true := by kernel_rfl
@[simp] theorem t_call97 : callable Tryz.prog 97 = true := by kernel_rfl
@[simp] theorem t_call98 : callable Tryz.prog 98 = true := by kernel_rfl
@[simp] theorem t_call69 : callable Tryz.prog 69 = true := by kernel_rfl
@[simp] theorem t_call68 : callable Tryz.prog 68 = true := by kernel_rfl
@[simp] theorem t_call99 : callable Tryz.prog 99 = true := by kernel_rfl
@[simp] theorem t_call70 : callable Tryz.prog 70 = true := by kernel_rfl
@[simp] theorem t_call100 : callable Tryz.prog 100 = true := by kernel_rfl
@[simp] theorem t_call104 : callable Tryz.prog 104 = true := by kernel_rfl
@[simp] theorem t_call105 : callable Tryz.prog 105 = true := by kernel_rfl
@[simp] theorem t_ar122 : arOf Tryz.prog 122 = some (2, 1, false) := by kernel_rfl
@[simp] theorem t_str122 : isStr Tryz.prog 122 = false := by kernel_rfl
@[simp] theorem t_fi73_5 : fiOf Tryz.prog 73 5 = some ⟨5, 1, false⟩ := by kernel_rfl
@[simp] theorem t_call107 : callable Tryz.prog 107 = true := by kernel_rfl
@[simp] theorem t_call106 : callable Tryz.prog 106 = true := by kernel_rfl
@[simp] theorem t_sz125 : szOf Tryz.prog 125 = some 1 := by kernel_rfl
@[simp] theorem t_agg125 : aggOf Tryz.prog 125 = false := by kernel_rfl
@[simp] theorem t_el126 : elOf Tryz.prog 126 = some 1 := by kernel_rfl
@[simp] theorem t_ez126 : elZero Tryz.prog 126 = some .undef := by kernel_rfl
@[simp] theorem t_str126 : isStr Tryz.prog 126 = false := by kernel_rfl
@[simp] theorem t_str127 : isStr Tryz.prog 127 = false := by kernel_rfl
@[simp] theorem t_call108 : callable Tryz.prog 108 = true := by kernel_rfl
@[simp] theorem t_call87 : callable Tryz.prog 87 = true := by kernel_rfl
@[simp] theorem t_el128 : elOf Tryz.prog 128 = some 1 := by kernel_rfl
@[simp] theorem t_ez128 : elZero Tryz.prog 128 = some (.bool false) := by kernel_rfl
@[simp] theorem t_eb128 : elBytes Tryz.prog 128 = some 1 := by kernel_rfl
@[simp] theorem t_call109 : callable Tryz.prog 109 = true := by kernel_rfl
@[simp] theorem t_str128 : isStr Tryz.prog 128 = false := by kernel_rfl
@[simp] theorem t_sz4 : szOf Tryz.prog 4 = some 1 := by kernel_rfl
@[simp] theorem t_agg4 : aggOf Tryz.prog 4 = false := by kernel_rfl
@[simp] theorem t_call110 : callable Tryz.prog 110 = true := by kernel_rfl
@[simp] theorem t_struct133 : isStruct Tryz.prog 133 = true := by kernel_rfl
@[simp] theorem t_sized133 : sized Tryz.prog 133 = true := by kernel_rfl
@[simp] theorem t_zero133 : zeroOf Tryz.prog 133 = some (.agg [.nilp, .nilsl, (.bool false), (.int .i64 0)]) := by kernel_rfl
@[simp] theorem t_fi133_0 : fiOf Tryz.prog 133 0 = some ⟨0, 1, false⟩ := by kernel_rfl
@[simp] theorem t_fi133_3 : fiOf Tryz.prog 133 3 = some ⟨3, 1, false⟩ := by kernel_rfl
@[simp] theorem t_call111 : callable Tryz.prog 111 = true := by kernel_rfl
@[simp] theorem t_call112 : callable Tryz.prog 112 = true := by kernel_rfl
@[simp] theorem t_fi133_1 : fiOf Tryz.prog 133 1 = some ⟨1, 1, false⟩ := by kernel_rfl
@[simp] theorem t_call113 : callable Tryz.prog 113 = true := by kernel_rfl
@[simp] theorem t_call114 : callable Tryz.prog 114 = true := by kernel_rfl
@[simp] theorem t_call115 : callable Tryz.prog 115 = true := by kernel_rfl
@[simp] theorem t_call116 : callable Tryz.prog 116 = true := by kernel_rfl
@[simp] theorem t_el139 : elOf Tryz.prog 139 = some 7 := by kernel_rfl
@[simp] theorem t_str139 : isStr Tryz.prog 139 = false := by kernel_rfl
@[simp] theorem t_fi142_1 : fiOf Tryz.prog 142 1 = some ⟨1, 6, true⟩ := by kernel_rfl
@[simp] theorem t_fi142_0 : fiOf Tryz.prog 142 0 = some ⟨0, 1, false⟩ := by kernel_rfl
@[simp] theorem t_str41 : isStr Tryz.prog 41 = false := by kernel_rfl
@[simp] theorem t_u8_41 : isU8 Tryz.prog 41 = false := by kernel_rfl
@[simp] theorem t_int41 : intOf? Tryz.prog 41 = some .u64 := by kernel_rfl
@[simp] theorem t_call117 : callable Tryz.prog 117 = true := by kernel_rfl
@[simp] theorem t_und41 : Tryz.prog.underlying 41 = some (.int .u64) := by kernel_rfl
@[simp] theorem t_some41 : (Tryz.prog.underlying 41).isSome = true := by kernel_rfl
@[simp] theorem t_eb49 : elBytes Tryz.prog 49 = some 24 := by kernel_rfl
@[simp] theorem t_call118 : callable Tryz.prog 118 = true := by kernel_rfl
@[simp] theorem t_eb61 : elBytes Tryz.prog 61 = some 56 := by kernel_rfl
@[simp] theorem t_call120 : callable Tryz.prog 120 = true := by kernel_rfl
@[simp] theorem t_ar147 : arOf Tryz.prog 147 = some (256, 1, false) := by kernel_rfl
@[simp] theorem t_str147 : isStr Tryz.prog 147 = false := by kernel_rfl
@[simp] theorem t_call121 : callable Tryz.prog 121 = true := by kernel_rfl
@[simp] theorem t_eb66 : elBytes Tryz.prog 66 = some 16 := by kernel_rfl
@[simp] theorem t_call123 : callable Tryz.prog 123 = true := by kernel_rfl
@[simp] theorem t_call124 : callable Tryz.prog 124 = true := by kernel_rfl
@[simp] theorem t_call125 : callable Tryz.prog 125 = true := by kernel_rfl
@[simp] theorem t_sz76 : szOf Tryz.prog 76 = some 1 := by kernel_rfl
@[simp] theorem t_agg76 : aggOf Tryz.prog 76 = false := by kernel_rfl
@[simp] theorem t_call126 : callable Tryz.prog 126 = true := by kernel_rfl
@[simp] theorem t_call127 : callable Tryz.prog 127 = true := by kernel_rfl
@[simp] theorem t_call128 : callable Tryz.prog 128 = true := by kernel_rfl
@[simp] theorem t_call129 : callable Tryz.prog 129 = true := by kernel_rfl
@[simp] theorem t_call130 : callable Tryz.prog 130 = true := by kernel_rfl
@[simp] theorem t_struct142 : isStruct Tryz.prog 142 = true := by kernel_rfl
@[simp] theorem t_sized142 : sized Tryz.prog 142 = true := by kernel_rfl
@[simp] theorem t_zero142 : zeroOf Tryz.prog 142 = some (.agg [(.int .i64 0), (.int .i64 0), (.int .i64 0), (.int .i64 0), (.int .i64 0), (.int .i64 0), (.str [])]) := by kernel_rfl
@[simp] theorem t_ez139 : elZero Tryz.prog 139 = some (.agg [(.int .i64 0), (.int .i64 0), (.int .i64 0), (.int .i64 0), (.int .i64 0), (.int .i64 0), (.str [])]) := by kernel_rfl
@[simp] theorem t_sz122 : szOf Tryz.prog 122 = some 2 := by kernel_rfl
@[simp] theorem t_agg122 : aggOf Tryz.prog 122 = true := by kernel_rfl
@[simp] theorem t_call133 : callable Tryz.prog 133 = true := by kernel_rfl
@[simp] theorem t_und73 : Tryz.prog.underlying 73 = some (.struct #[⟨ "Op", 3, 0, false, "", "", 0⟩, ⟨ "Type", 3, 1, false, "", "", 8⟩, ⟨ "N", 3, 2, false, "", "", 16⟩, ⟨ "Body", 3, 3, false, "", "", 24⟩, ⟨ "Other", 3, 4, false, "", "", 32⟩, ⟨ "S", 9, 5, false, "", "", 40⟩]) := by kernel_rfl
@[simp] theorem t_held73 : Tryz.prog.stoodInHeld 73 = false := by kernel_rfl
@[simp] theorem t_guard73 : Tryz.prog.eqGuardType Tryz.prog.depth 73 = false := by kernel_rfl
@[simp] theorem t_und4 : Tryz.prog.underlying 4 = some .bool := by kernel_rfl
@[simp] theorem t_call135 : callable Tryz.prog 135 = true := by kernel_rfl
@[simp] theorem t_call136 : callable Tryz.prog 136 = true := by kernel_rfl
@[simp] theorem t_call137 : callable Tryz.prog 137 = true := by kernel_rfl
@[simp] theorem t_call138 : callable Tryz.prog 138 = true := by kernel_rfl
@[simp] theorem t_zero169 : zeroOf Tryz.prog 169 = some (.agg [.nilsl, (.int .i64 0)]) := by kernel_rfl
@[simp] theorem t_sz169 : szOf Tryz.prog 169 = some 2 := by kernel_rfl
@[simp] theorem t_agg169 : aggOf Tryz.prog 169 = true := by kernel_rfl
@[simp] theorem t_call139 : callable Tryz.prog 139 = true := by kernel_rfl
@[simp] theorem t_sz131 : szOf Tryz.prog 131 = some 1 := by kernel_rfl
@[simp] theorem t_agg131 : aggOf Tryz.prog 131 = false := by kernel_rfl
@[simp] theorem t_call140 : callable Tryz.prog 140 = true := by kernel_rfl
@[simp] theorem t_fi133_2 : fiOf Tryz.prog 133 2 = some ⟨2, 1, false⟩ := by kernel_rfl
@[simp] theorem t_call141 : callable Tryz.prog 141 = true := by kernel_rfl
@[simp] theorem t_fi169_0 : fiOf Tryz.prog 169 0 = some ⟨0, 1, false⟩ := by kernel_rfl
@[simp] theorem t_fi169_1 : fiOf Tryz.prog 169 1 = some ⟨1, 1, false⟩ := by kernel_rfl
@[simp] theorem t_sz187 : szOf Tryz.prog 187 = some 32 := by kernel_rfl
@[simp] theorem t_agg187 : aggOf Tryz.prog 187 = true := by kernel_rfl
@[simp] theorem t_ar187 : arOf Tryz.prog 187 = some (16, 2, true) := by kernel_rfl
@[simp] theorem t_str187 : isStr Tryz.prog 187 = false := by kernel_rfl
@[simp] theorem t_zero122 : zeroOf Tryz.prog 122 = some (.agg [(.str []), (.str [])]) := by kernel_rfl
@[simp] theorem t_str188 : isStr Tryz.prog 188 = false := by kernel_rfl
@[simp] theorem t_u8_188 : isU8 Tryz.prog 188 = false := by kernel_rfl
@[simp] theorem t_int188 : intOf? Tryz.prog 188 = some .i8 := by kernel_rfl
@[simp] theorem t_some188 : (Tryz.prog.underlying 188).isSome = true := by kernel_rfl
@[simp] theorem t_str21 : isStr Tryz.prog 21 = false := by kernel_rfl
@[simp] theorem t_u8_21 : isU8 Tryz.prog 21 = false := by kernel_rfl
@[simp] theorem t_int21 : intOf? Tryz.prog 21 = some .i32 := by kernel_rfl
@[simp] theorem t_some21 : (Tryz.prog.underlying 21).isSome = true := by kernel_rfl
@[simp] theorem t_struct169 : isStruct Tryz.prog 169 = true := by kernel_rfl
@[simp] theorem t_sized169 : sized Tryz.prog 169 = true := by kernel_rfl
@[simp] theorem t_call145 : callable Tryz.prog 145 = true := by kernel_rfl
end Go.Proofs.YthejpoplbllcbaaGreatDoor
