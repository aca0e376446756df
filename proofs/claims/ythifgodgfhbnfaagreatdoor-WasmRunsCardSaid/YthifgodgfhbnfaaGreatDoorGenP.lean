/- The planned texts of the functions, and facts on the program's types; written by a program; no condition. -/
import Derived.Test.YthifgodgfhbnfaaGreatDoorChecked
import Derived.Test.YthifgodgfhbnfaaGreatDoorAbsB
import Derived.KernelRfl
set_option maxRecDepth 100000
namespace Go.Proofs.YthifgodgfhbnfaaGreatDoor
open Go Go.Abs
namespace Zz
def t (x : Nat) : Operand := .tmp x
def i (k : Int) : Operand := .const (.int .i64 k)
def S (l : List PO) (r : PC) : PC := .seq (.ops l) r
def C (x : Nat) (a b : PC) : PC := .cond (.tmp x) a b
def m (d x : Nat) : PO := ⟨some d, .move (.tmp x), none, []⟩
def l (d t x : Nat) : PO := ⟨some d, .load t (.tmp x), none, []⟩
def f (d t x i : Nat) : PO := ⟨some d, .fieldAddr t (.tmp x) i, none, []⟩
def n (d x : Nat) : PO := ⟨some d, .nilCheck (.tmp x), none, []⟩
def a (d x : Nat) : PO := ⟨some d, .assign (.tmp x), none, []⟩
def A (d : Nat) (v : Operand) : PO := ⟨some d, .assign v, none, []⟩
def x (d t x y : Nat) : PO := ⟨some d, .indexAddr t (.tmp x) (.tmp y), none, []⟩
def b (d : Nat) (o : BinOp) (t : Nat) (x y : Operand) (u : Nat) : PO := ⟨some d, .binOp o t x y u, none, []⟩
def c (d f : Nat) (xs : Array Operand) (ts : Array TypeId) : PO := ⟨some d, .call ⟨.value (.func f), xs, ts⟩, none, []⟩
def L (d x t : Nat) : PO := ⟨some d, .call ⟨.builtin .len, #[(.tmp x)], #[t]⟩, none, []⟩
def d (n : Nat) (o : Op) : PO := ⟨some n, o, none, []⟩
def s (t x y : Nat) : PO := ⟨none, .store t (.tmp x) (.tmp y), none, []⟩
def e (o : Op) : PO := ⟨none, o, none, []⟩
def w (n : Nat) (o : Op) (g : Nat) (v : Bool) : PO := ⟨some n, o, some (g, v), []⟩
end Zz
open Zz
variable {G : Env} {args : List AV} {σ : AS} {R : Out → AS → Prop}
theorem mixed : Tryz.prog.follows .mixedOrders = true := by kernel_rfl
def pc3 : PC := (⟨_, by delta A C L S a c d i l m s t w; exact rfl⟩ : { p : PC // p = S [d 3 (.box 24 (t 0)),A 6 (.const (.bool false))] (.seq (S [l 10 24 3,c
 11 4 #[t 10] #[24],m 12 11,w 13 (.move (t 1)) 12 false,w 14 (.call ⟨.builtin .len,#[t 13],#[25]⟩) 12 false,w 15 (.binOp .gtr 3 (t 14) (i 1000) 3) 12 false,d 16
 (.pick (t 12) (.const (.bool true)) (t 15)),m 17 16,w 18 (.load 24 (t 3)) 17 false,w 19 (.call ⟨.value (.func 5),#[t 18],#[24]⟩) 17 false,w 20 (.binOp .neq 27
 (t 19) (i 0) 27) 17 false,d 21 (.pick (t 17) (.const (.bool true)) (t 20))] (C 21 (S [c 22 6 #[] #[],a 6 22] .ret) .skip)) (S [m 23 2,d 24 (.call ⟨.builtin
 .min,#[t 23,i 20000],#[3,3]⟩),a 2 24] (S [l 25 24 3,c 26 7 #[t 25] #[24],d 7 (.alloc 24),s 24 7 26] (S [m 27 1,c 28 8 #[t 27] #[25],a 8 28] (.seq (.both [[l 29
 24 7,m 30 8,m 31 1,L 32 31 25,d 33 (.slice 25 (t 30) none (some (t 32)) none),m 34 2,c 35 9 #[t 29,t 33,t 34] #[24,25,3],d 9 (.alloc 33),s 33 9 35],[l 29 24
 7,m 30 8,m 31 1,L 32 31 25,d 33 (.slice 25 (t 30) none (some (t 32)) none),m 34 2,⟨some 9,.alloc 33,none,[⟨none,24,t 7,29⟩]⟩,c 35 9 #[t 29,t 33,t 34]
 #[24,25,3],s 33 9 35]]) (S [l 36 33 9,l 37 24 3,m 38 1,m 39 2,⟨some 40,.call ⟨.value (.func 11),#[t 37,t 38,t 39],#[24,25,3]⟩,none,[⟨none,33,t 9,36⟩]⟩,c 41 10
 #[t 36,t 40] #[33,33],m 42 41,w 43 (.load 24 (t 7)) 42 true,w 44 (.load 24 (t 3)) 42 true,w 45 (.call ⟨.value (.func 12),#[t 43,t 44],#[24,24]⟩) 42 true,d 46
 (.pick (t 42) (t 45) (.const (.bool false))),m 47 46,w 48 (.move (t 8)) 47 true,w 49 (.move (t 1)) 47 true,w 50 (.call ⟨.value (.func 13),#[t 48,t
 49],#[25,25]⟩) 47 true,d 51 (.pick (t 47) (t 50) (.const (.bool false))),m 52 51,w 53 (.call ⟨.value (.func 6),#[],#[]⟩) 52 true,d 54 (.pick (t 52) (t 53)
 (.const (.bool false))),a 6 54] .ret)))))) }).1
theorem calls3 (hn : args.length = 3) (h : avc Tryz.prog G 55 pc3 (afin Tryz.prog [.tmp 6] R) (frame0 args) σ) : ACalls Tryz.prog G 3 args σ R :=
  acalls' (n := 55) (l := [.tmp 6]) mixed Tryz.func3 (by kernel_rfl) (by kernel_rfl) (by kernel_rfl) (by omega) h
def pc4_l1 : PC := (⟨_, by delta C L S a b f i l m t x; exact rfl⟩ : { p : PC // p = .seq (S [m 36 6,f 37 41 5 4,l 38 39 37,L 39 38 39,b 40 .lss 3 (t 36) (t 39)
 3] (C 40 .skip (.exit 2))) (.seq (.block 3 (.ops [m 43 3,f 44 41 5 4,l 45 39 44,m 46 6,x 47 39 45 46,l 48 42 47,L 49 48 42,b 50 .add 3 (t 43) (t 49) 3,a 3
 50])) (.ops [m 41 6,b 42 .add 3 (t 41) (i 1) 3,a 6 42])) }).1
def pc4_r1 : PC := (⟨_, by delta A C S b d i m t w; exact rfl⟩ : { p : PC // p = S [m 51 3,b 52 .gtr 3 (t 51) (i 3000) 3,m 53 52,w 54 (.fieldAddr 41 (t 5) 4) 53
 false,w 55 (.load 39 (t 54)) 53 false,w 56 (.call ⟨.builtin .len,#[t 55],#[39]⟩) 53 false,w 57 (.binOp .gtr 3 (t 56) (i 300) 3) 53 false,d 58 (.pick (t 53)
 (.const (.bool true)) (t 57))] (C 58 (S [A 2 (.const (.bool true))] .ret) .skip) }).1
def pc4_r2 : PC := (⟨_, by delta a b i m t; exact rfl⟩ : { p : PC // p = .ops [m 16 4,b 17 .add 3 (t 16) (i 1) 3,a 4 17] }).1
def pc4_l2 : PC := (⟨_, by delta A C L S a b d f i l m s t x; exact rfl⟩ : { p : PC // p = .seq (S [m 11 4,f 12 24 1 0,l 13 22 12,L 14 13 22,b 15 .lss 3 (t 11)
 (t 14) 3] (C 15 .skip (.exit 0))) (.seq (.block 1 (S [f 18 24 1 0,l 19 22 18,m 20 4,x 21 22 19 20,l 22 41 21,d 5 (.alloc 41),s 41 5 22] (S [m 23 3,f 24 41 5
 1,l 25 25 24,L 26 25 25,b 27 .add 3 (t 23) (t 26) 3,f 28 41 5 2,l 29 25 28,L 30 29 25,b 31 .add 3 (t 27) (t 30) 3,f 32 41 5 4,l 33 39 32,L 34 33 39,b 35 .add 3
 (t 31) (t 34) 3,a 3 35] (.seq (S [A 6 (i 0)] (.block 2 (.loop pc4_l1))) pc4_r1)))) pc4_r2) }).1
def pc4_r3 : PC := (⟨_, by delta A S; exact rfl⟩ : { p : PC // p = S [A 2 (.const (.bool false))] .ret }).1
def pc4 : PC := (⟨_, by delta A C L S b d f i l t; exact rfl⟩ : { p : PC // p = S [d 1 (.box 24 (t 0)),A 2 (.const (.bool false))] (.seq (S [f 7 24 1 0,l 8 22
 7,L 9 8 22,b 10 .gtr 3 (t 9) (i 12) 3] (C 10 (S [A 2 (.const (.bool true))] .ret) .skip)) (S [A 3 (i 0)] (.seq (S [A 4 (i 0)] (.block 0 (.loop pc4_l2)))
 pc4_r3))) }).1
theorem calls4 (hn : args.length = 1) (h : avc Tryz.prog G 59 pc4 (afin Tryz.prog [.tmp 2] R) (frame0 args) σ) : ACalls Tryz.prog G 4 args σ R :=
  acalls' (n := 59) (l := [.tmp 2]) mixed Tryz.func4 (by kernel_rfl) (by kernel_rfl) (by kernel_rfl) (by omega) h
def pc5_l1 : PC := (⟨_, by delta C L S a b c f i l m t x; exact rfl⟩ : { p : PC // p = .seq (S [m 13 3,f 14 24 1 0,l 15 22 14,L 16 15 22,b 17 .lss 3 (t 13) (t
 16) 3] (C 17 .skip (.exit 0))) (.seq (.block 1 (S [l 20 24 1,f 21 24 1 0,l 22 22 21,m 23 3,x 24 22 22 23,l 25 41 24,c 26 14 #[t 20,t 25] #[24,41],a 4 26] (S [m
 27 4,b 28 .neq 27 (t 27) (i 0) 27] (C 28 (S [m 29 4,a 2 29] .ret) .skip)))) (.ops [m 18 3,b 19 .add 3 (t 18) (i 1) 3,a 3 19])) }).1
def pc5_r1 : PC := (⟨_, by delta A C S b d f i l m t w; exact rfl⟩ : { p : PC // p = .seq (S [f 30 24 1 2,l 31 3 30,b 32 .lss 3 (t 31) (i 0) 3,m 33 32,w 34
 (.fieldAddr 24 (t 1) 2) 33 false,w 35 (.load 3 (t 34)) 33 false,w 36 (.fieldAddr 24 (t 1) 0) 33 false,w 37 (.load 22 (t 36)) 33 false,w 38 (.call ⟨.builtin
 .len,#[t 37],#[22]⟩) 33 false,w 39 (.binOp .geq 3 (t 35) (t 38) 3) 33 false,d 40 (.pick (t 33) (.const (.bool true)) (t 39)),m 41 40,w 42 (.fieldAddr 24 (t 1)
 0) 41 false,w 43 (.load 22 (t 42)) 41 false,w 44 (.fieldAddr 24 (t 1) 2) 41 false,w 45 (.load 3 (t 44)) 41 false,w 46 (.indexAddr 22 (t 43) (t 45)) 41 false,w
 47 (.fieldAddr 41 (t 46) 3) 41 false,w 48 (.load 3 (t 47)) 41 false,w 49 (.binOp .neq 3 (t 48) (i 1) 3) 41 false,d 50 (.pick (t 41) (.const (.bool true)) (t
 49)),m 51 50,w 52 (.fieldAddr 24 (t 1) 0) 51 false,w 53 (.load 22 (t 52)) 51 false,w 54 (.fieldAddr 24 (t 1) 2) 51 false,w 55 (.load 3 (t 54)) 51 false,w 56
 (.indexAddr 22 (t 53) (t 55)) 51 false,w 57 (.fieldAddr 41 (t 56) 1) 51 false,w 58 (.load 25 (t 57)) 51 false,w 59 (.call ⟨.builtin .len,#[t 58],#[25]⟩) 51
 false,w 60 (.binOp .gtr 3 (t 59) (i 0) 3) 51 false,d 61 (.pick (t 51) (.const (.bool true)) (t 60))] (C 61 (S [A 2 (i 12)] .ret) .skip)) (S [A 2 (i 0)] .ret)
 }).1
def pc5 : PC := (⟨_, by delta A C S b d f i l m t w; exact rfl⟩ : { p : PC // p = S [d 1 (.box 24 (t 0)),A 2 (i 0)] (.seq (S [f 5 24 1 1,l 6 3 5,b 7 .lss 3 (t
 6) (i 0) 3,m 8 7,w 9 (.fieldAddr 24 (t 1) 1) 8 false,w 10 (.load 3 (t 9)) 8 false,w 11 (.binOp .gtr 3 (t 10) (i 4096) 3) 8 false,d 12 (.pick (t 8) (.const
 (.bool true)) (t 11))] (C 12 (S [A 2 (i 11)] .ret) .skip)) (.seq (S [A 3 (i 0)] (.block 0 (.loop pc5_l1))) pc5_r1)) }).1
theorem calls5 (hn : args.length = 1) (h : avc Tryz.prog G 62 pc5 (afin Tryz.prog [.tmp 2] R) (frame0 args) σ) : ACalls Tryz.prog G 5 args σ R :=
  acalls' (n := 62) (l := [.tmp 2]) mixed Tryz.func5 (by kernel_rfl) (by kernel_rfl) (by kernel_rfl) (by omega) h
def pc6 : PC := (⟨_, by delta A S a b c d i l m s t w; exact rfl⟩ : { p : PC // p = S [A 0 (.const (.bool false))] (S [c 4 16 #[i 1,i 7] #[3,3],d 5 (.buildSlice
 42 1 #[(0,t 4)]),c 6 15 #[t 5] #[42],d 1 (.alloc 24),s 24 1 6] (S [l 7 24 1,c 8 9 #[t 7,.const (.slice none 0 0),i 1] #[24,25,3],d 2 (.alloc 33),s 33 2 8] (S
 [l 9 24 1,c 10 9 #[t 9,.const (.slice none 0 0),i 0] #[24,25,3],d 3 (.alloc 33),s 33 3 10] (S [l 11 24 1,c 12 17 #[t 11] #[24],b 13 .eql 27 (t 12) (i 0) 27,m
 14 13,w 15 (.fieldAddr 33 (t 2) 1) 14 true,w 16 (.load 3 (t 15)) 14 true,w 17 (.binOp .eql 3 (t 16) (i 1) 3) 14 true,d 18 (.pick (t 14) (t 17) (.const (.bool
 false))),m 19 18,w 20 (.fieldAddr 33 (t 2) 2) 19 true,w 21 (.load 3 (t 20)) 19 true,w 22 (.binOp .eql 3 (t 21) (i 7) 3) 19 true,d 23 (.pick (t 19) (t 22)
 (.const (.bool false))),m 24 23,w 25 (.fieldAddr 33 (t 3) 1) 24 true,w 26 (.load 3 (t 25)) 24 true,w 27 (.binOp .eql 3 (t 26) (i 3) 3) 24 true,d 28 (.pick (t
 24) (t 27) (.const (.bool false))),m 29 28,w 30 (.call ⟨.value (.func 15),#[.const (.slice none 0 0)],#[42]⟩) 29 true,w 31 (.call ⟨.value (.func 17),#[t
 30],#[24]⟩) 29 true,w 32 (.binOp .eql 27 (t 31) (i 14) 27) 29 true,d 33 (.pick (t 29) (t 32) (.const (.bool false))),a 0 33] .ret)))) }).1
theorem calls6 (hn : args.length = 0) (h : avc Tryz.prog G 34 pc6 (afin Tryz.prog [.tmp 0] R) (frame0 args) σ) : ACalls Tryz.prog G 6 args σ R :=
  acalls' (n := 34) (l := [.tmp 0]) mixed Tryz.func6 (by kernel_rfl) (by kernel_rfl) (by kernel_rfl) (by omega) h
def pc7 : PC := (⟨_, by delta S c d f l s t; exact rfl⟩ : { p : PC // p = S [d 1 (.box 24 (t 0)),d 2 (.alloc 24)] (S [f 3 24 1 0,l 4 22 3,c 5 18 #[t 4] #[22],f
 6 24 1 0,s 22 6 5] (S [l 7 24 1,s 24 2 7] .ret)) }).1
theorem calls7 (hn : args.length = 1) (h : avc Tryz.prog G 8 pc7 (afin Tryz.prog [.cell 2 24] R) (frame0 args) σ) : ACalls Tryz.prog G 7 args σ R :=
  acalls' (n := 8) (l := [.cell 2 24]) mixed Tryz.func7 (by kernel_rfl) (by kernel_rfl) (by kernel_rfl) (by omega) h
def pc8_l1 : PC := (⟨_, by delta C S a b c d i m t; exact rfl⟩ : { p : PC // p = .seq (S [m 7 4,b 8 .lss 3 (t 7) (i 5) 3] (C 8 .skip (.exit 0))) (.seq (.block 1
 (.ops [m 11 3,m 12 4,c 13 20 #[t 12] #[3],d 14 (.buildSlice 25 1 #[(0,t 13)]),d 15 (.call ⟨.builtin .append,#[t 11,t 14],#[25,25]⟩),a 3 15])) (.ops [m 9 4,b 10
 .add 3 (t 9) (i 1) 3,a 4 10])) }).1
def pc8_r1 : PC := (⟨_, by delta S a m; exact rfl⟩ : { p : PC // p = S [m 16 3,a 2 16] .ret }).1
def pc8 : PC := (⟨_, by delta A S a c i m t; exact rfl⟩ : { p : PC // p = S [A 2 (.const (.slice none 0 0))] (S [m 5 0,c 6 19 #[t 5] #[25],a 3 6] (.seq (S [A 4
 (i 0)] (.block 0 (.loop pc8_l1))) pc8_r1)) }).1
theorem calls8 (hn : args.length = 1) (h : avc Tryz.prog G 17 pc8 (afin Tryz.prog [.tmp 2] R) (frame0 args) σ) : ACalls Tryz.prog G 8 args σ R :=
  acalls' (n := 17) (l := [.tmp 2]) mixed Tryz.func8 (by kernel_rfl) (by kernel_rfl) (by kernel_rfl) (by omega) h
def pc9_x : PC := (⟨_, by delta d t; exact rfl⟩ : { p : PC // p = .ops [d 3 (.box 24 (t 0)),d 6 (.alloc 33)] }).1
def pc9_yx : PC := (⟨_, by delta d f l m s t; exact rfl⟩ : { p : PC // p = .both [[l 9 24 3,m 10 1,m 11 2,f 12 24 3 1,l 13 3 12,⟨some 14,.makeSlice 51 (t 13) (t
 13),none,[⟨none,24,t 3,9⟩]⟩,d 15 (.build 53 #[(0,t 9),(1,t 10),(2,t 11),(3,t 14)]),d 16 (.box 53 (t 15)),d 7 (.alloc 50),s 50 7 16],[l 9 24 3,m 10 1,m 11 2,f
 12 24 3 1,l 13 3 12,⟨some 14,.makeSlice 51 (t 13) (t 13),none,[⟨none,24,t 3,9⟩]⟩,d 15 (.build 53 #[(0,t 9),(1,t 10),(2,t 11),(3,t 14)]),⟨some 7,.alloc
 50,none,[⟨none,24,t 3,9⟩]⟩,d 16 (.box 53 (t 15)),s 50 7 16],[l 9 24 3,m 10 1,m 11 2,f 12 24 3 1,l 13 3 12,⟨some 7,.alloc 50,none,[⟨none,24,t 3,9⟩,⟨none,3,t
 12,13⟩]⟩,⟨some 14,.makeSlice 51 (t 13) (t 13),none,[⟨none,24,t 3,9⟩]⟩,d 15 (.build 53 #[(0,t 9),(1,t 10),(2,t 11),(3,t 14)]),d 16 (.box 53 (t 15)),s 50 7 16]]
 }).1
def pc9_yz : PC := (⟨_, by delta S a c d f i l m n s t x; exact rfl⟩ : { p : PC // p = S [l 18 50 7,f 19 24 3 0,l 20 22 19,f 21 24 3 2,l 22 3 21,x 23 22 20 22,l
 24 41 23,c 25 22 #[t 18,t 24,.const (.slice none 0 0)] #[50,41,25],a 8 25] (S [l 26 50 7,n 27 26,f 28 53 27 4,l 29 25 28,m 30 8,d 31 (.build 33 #[(0,t 29),(1,i
 1),(2,t 30)]),s 33 6 31] .ret) }).1
def pc10 : PC := (⟨_, by delta A S a b d f l m t w; exact rfl⟩ : { p : PC // p = S [d 2 (.box 33 (t 0)),d 3 (.box 33 (t 1)),A 4 (.const (.bool false))] (S [f 5
 33 2 1,l 6 3 5,f 7 33 3 1,l 8 3 7,b 9 .eql 3 (t 6) (t 8) 3,m 10 9,w 11 (.fieldAddr 33 (t 2) 2) 10 true,w 12 (.load 3 (t 11)) 10 true,w 13 (.fieldAddr 33 (t 3)
 2) 10 true,w 14 (.load 3 (t 13)) 10 true,w 15 (.binOp .eql 3 (t 12) (t 14) 3) 10 true,d 16 (.pick (t 10) (t 15) (.const (.bool false))),m 17 16,w 18
 (.fieldAddr 33 (t 2) 0) 17 true,w 19 (.load 25 (t 18)) 17 true,w 20 (.fieldAddr 33 (t 3) 0) 17 true,w 21 (.load 25 (t 20)) 17 true,w 22 (.call ⟨.value (.func
 23),#[t 19,t 21],#[25,25]⟩) 17 true,d 23 (.pick (t 17) (t 22) (.const (.bool false))),a 4 23] .ret) }).1
theorem calls10 (hn : args.length = 2) (h : avc Tryz.prog G 24 pc10 (afin Tryz.prog [.tmp 4] R) (frame0 args) σ) : ACalls Tryz.prog G 10 args σ R :=
  acalls' (n := 24) (l := [.tmp 4]) mixed Tryz.func10 (by kernel_rfl) (by kernel_rfl) (by kernel_rfl) (by omega) h
def pc11_l1 : PC := (⟨_, by delta C L S a b c d f i l m n s t w x; exact rfl⟩ : { p : PC // p = .seq (S [m 49 8,m 50 2,b 51 .lss 3 (t 49) (t 50) 3,m 52 51,w 53
 (.move (t 7)) 52 true,w 54 (.nilCheck (t 53)) 52 true,w 55 (.fieldAddr 60 (t 54) 4) 52 true,w 56 (.fieldAddr 33 (t 55) 1) 52 true,w 57 (.load 3 (t 56)) 52
 true,w 58 (.binOp .eql 3 (t 57) (i 0) 3) 52 true,d 59 (.pick (t 52) (t 58) (.const (.bool false)))] (C 59 .skip (.exit 0))) (.seq (.block 1 (S [m 62 7,n 63
 62,f 64 60 63 3,l 65 58 64,L 66 65 58,b 67 .sub 3 (t 66) (i 1) 3,a 9 67] (S [m 68 7,n 69 68,f 70 60 69 3,l 71 58 70,m 72 9,x 73 58 71 72,f 74 63 73 3,l 75 61
 74,L 76 75 61,b 77 .sub 3 (t 76) (i 1) 3,a 10 77] (S [m 78 7,n 79 78,f 80 60 79 3,l 81 58 80,m 82 9,x 83 58 81 82,f 84 63 83 3,l 85 61 84,m 86 10,x 87 61 85
 86,l 88 66 87,d 11 (.alloc 66),s 66 11 88] (S [m 89 7,n 90 89,f 91 60 90 3,l 92 58 91,m 93 9,x 94 58 92 93,f 95 63 94 3,l 96 61 95,m 97 10,f 98 66 11 1,l 99 3
 98,b 100 .add 3 (t 99) (i 1) 3,x 101 61 96 97,f 102 66 101 1,s 3 102 100] (S [m 103 7,m 104 7,n 105 104,f 106 60 105 0,f 107 24 106 0,l 108 22 107,m 109 7,n
 110 109,f 111 60 110 3,l 112 58 111,m 113 9,x 114 58 112 113,f 115 63 114 0,l 116 3 115,x 117 22 108 116,f 118 41 117 4,l 119 39 118,f 120 66 11 0,l 121 3
 120,x 122 39 119 121,l 123 42 122,f 124 66 11 1,l 125 3 124,x 126 42 123 125,l 127 46 126,c 128 26 #[t 103,t 127] #[57,46]] (.ops [m 129 7,c 130 25 #[t 129]
 #[57]]))))))) (.ops [m 60 8,b 61 .add 3 (t 60) (i 1) 3,a 8 61])) }).1
def pc11_r1 : PC := (⟨_, by delta C S b c f i l m n s t; exact rfl⟩ : { p : PC // p = .seq (S [m 131 7,n 132 131,f 133 60 132 4,f 134 33 133 1,l 135 3 134,b 136
 .eql 3 (t 135) (i 0) 3] (C 136 (.ops [m 137 7,c 138 27 #[t 137,i 3,i 0] #[57,3,3]]) .skip)) (S [m 139 7,n 140 139,f 141 60 140 4,l 142 33 141,s 33 6 142] .ret)
 }).1
def pc11 : PC := (⟨_, by delta A L S a b c d f i l m n s t x; exact rfl⟩ : { p : PC // p = S [d 3 (.box 24 (t 0)),d 6 (.alloc 33)] (.seq (.both [[l 12 24 3,m 13
 1,f 15 24 3 1,l 16 3 15,⟨some 14,.call ⟨.value (.func 19),#[t 13],#[25]⟩,none,[⟨none,24,t 3,12⟩,⟨none,3,t 15,16⟩]⟩,⟨some 17,.makeSlice 51 (t 16) (t
 16),none,[⟨none,24,t 3,12⟩]⟩,d 18 (.build 60 #[(0,t 12),(1,t 14),(2,t 17)]),d 19 (.box 60 (t 18)),a 7 19],[l 12 24 3,m 13 1,f 15 24 3 1,l 16 3 15,⟨some
 17,.makeSlice 51 (t 16) (t 16),none,[⟨none,24,t 3,12⟩]⟩,⟨some 14,.call ⟨.value (.func 19),#[t 13],#[25]⟩,none,[⟨none,24,t 3,12⟩]⟩,d 18 (.build 60 #[(0,t
 12),(1,t 14),(2,t 17)]),d 19 (.box 60 (t 18)),a 7 19]]) (S [m 20 7,f 21 24 3 2,l 22 3 21,f 23 24 3 0,l 24 22 23,f 25 24 3 2,l 26 3 25,x 27 22 24 26,f 28 41 27
 2,l 29 25 28,L 30 29 25,⟨some 31,.makeSlice 25 (t 30) (t 30),none,[⟨none,3,t 21,22⟩]⟩,d 32 (.build 63 #[(0,t 22),(1,t 31)]),d 33 (.buildSlice 58 1 #[(0,t
 32)]),n 34 20,f 35 60 34 3,s 58 35 33] (S [m 36 7,f 37 24 3 0,l 38 22 37,f 39 24 3 2,l 40 3 39,x 41 22 38 40,f 42 41 41 4,l 43 39 42,L 44 43 39,b 45 .sub 3 (t
 44) (i 1) 3,c 46 24 #[t 36,t 45,.const (.bool false)] #[57,3,4]] (S [m 47 7,c 48 25 #[t 47] #[57]] (.seq (S [A 8 (i 0)] (.block 0 (.loop pc11_l1)))
 pc11_r1))))) }).1
theorem calls11 (hn : args.length = 3) (h : avc Tryz.prog G 143 pc11 (afin Tryz.prog [.cell 6 33] R) (frame0 args) σ) : ACalls Tryz.prog G 11 args σ R :=
  acalls' (n := 143) (l := [.cell 6 33]) mixed Tryz.func11 (by kernel_rfl) (by kernel_rfl) (by kernel_rfl) (by omega) h
def pc12 : PC := (⟨_, by delta A S a b d f l m t w; exact rfl⟩ : { p : PC // p = S [d 2 (.box 24 (t 0)),d 3 (.box 24 (t 1)),A 4 (.const (.bool false))] (S [f 5
 24 2 1,l 6 3 5,f 7 24 3 1,l 8 3 7,b 9 .eql 3 (t 6) (t 8) 3,m 10 9,w 11 (.fieldAddr 24 (t 2) 2) 10 true,w 12 (.load 3 (t 11)) 10 true,w 13 (.fieldAddr 24 (t 3)
 2) 10 true,w 14 (.load 3 (t 13)) 10 true,w 15 (.binOp .eql 3 (t 12) (t 14) 3) 10 true,d 16 (.pick (t 10) (t 15) (.const (.bool false))),m 17 16,w 18
 (.fieldAddr 24 (t 2) 0) 17 true,w 19 (.load 22 (t 18)) 17 true,w 20 (.fieldAddr 24 (t 3) 0) 17 true,w 21 (.load 22 (t 20)) 17 true,w 22 (.call ⟨.value (.func
 28),#[t 19,t 21],#[22,22]⟩) 17 true,d 23 (.pick (t 17) (t 22) (.const (.bool false))),a 4 23] .ret) }).1
theorem calls12 (hn : args.length = 2) (h : avc Tryz.prog G 24 pc12 (afin Tryz.prog [.tmp 4] R) (frame0 args) σ) : ACalls Tryz.prog G 12 args σ R :=
  acalls' (n := 24) (l := [.tmp 4]) mixed Tryz.func12 (by kernel_rfl) (by kernel_rfl) (by kernel_rfl) (by omega) h
def pc13_l1 : PC := (⟨_, by delta C S a b c d i m t; exact rfl⟩ : { p : PC // p = .seq (S [m 22 6,b 23 .lss 3 (t 22) (i 5) 3] (C 23 .skip (.exit 0))) (.seq
 (.block 1 (.ops [m 26 5,m 27 6,c 28 20 #[t 27] #[3],d 29 (.buildSlice 25 1 #[(0,t 28)]),d 30 (.call ⟨.builtin .append,#[t 26,t 29],#[25,25]⟩),a 5 30])) (.ops
 [m 24 6,b 25 .add 3 (t 24) (i 1) 3,a 6 25])) }).1
def pc13_r1 : PC := (⟨_, by delta L S a c d m t; exact rfl⟩ : { p : PC // p = S [m 31 0,m 32 1,L 33 32 25,d 34 (.slice 25 (t 31) (some (t 33)) none none),m 35
 5,c 36 23 #[t 34,t 35] #[25,25],a 4 36] .ret }).1
def pc13 : PC := (⟨_, by delta A C L S b d i m t w; exact rfl⟩ : { p : PC // p = S [A 4 (.const (.bool false))] (.seq (S [m 7 0,L 8 7 25,m 9 1,L 10 9 25,b 11
 .add 3 (t 10) (i 5) 3,b 12 .neq 3 (t 8) (t 11) 3,m 13 12,w 14 (.move (t 0)) 13 false,w 15 (.move (t 1)) 13 false,w 16 (.call ⟨.builtin .len,#[t 15],#[25]⟩) 13
 false,w 17 (.slice 25 (t 14) none (some (t 16)) none) 13 false,w 18 (.move (t 1)) 13 false,w 19 (.call ⟨.value (.func 23),#[t 17,t 18],#[25,25]⟩) 13 false,w 20
 (.unOp .not 4 (t 19)) 13 false,d 21 (.pick (t 13) (.const (.bool true)) (t 20))] (C 21 (S [A 4 (.const (.bool false))] .ret) .skip)) (S [A 5 (.const (.slice
 none 0 0))] (.seq (S [A 6 (i 0)] (.block 0 (.loop pc13_l1))) pc13_r1))) }).1
theorem calls13 (hn : args.length = 2) (h : avc Tryz.prog G 37 pc13 (afin Tryz.prog [.tmp 4] R) (frame0 args) σ) : ACalls Tryz.prog G 13 args σ R :=
  acalls' (n := 37) (l := [.tmp 4]) mixed Tryz.func13 (by kernel_rfl) (by kernel_rfl) (by kernel_rfl) (by omega) h
def pc14_l1 : PC := (⟨_, by delta C L S a b d f i l m n t w; exact rfl⟩ : { p : PC // p = .seq (S [m 26 7,m 27 5,n 28 27,f 29 72 28 2,l 30 25 29,L 31 30 25,b 32
 .lss 3 (t 26) (t 31) 3] (C 32 .skip (.exit 0))) (.seq (.block 1 (.ops [m 35 6,m 36 35,w 37 (.move (t 5)) 36 false,w 38 (.nilCheck (t 37)) 36 false,w 39
 (.fieldAddr 72 (t 38) 2) 36 false,w 40 (.load 25 (t 39)) 36 false,w 41 (.move (t 7)) 36 false,w 42 (.indexAddr 25 (t 40) (t 41)) 36 false,w 43 (.load 3 (t 42))
 36 false,w 44 (.call ⟨.value (.func 29),#[t 43],#[3]⟩) 36 false,w 45 (.unOp .not 4 (t 44)) 36 false,d 46 (.pick (t 36) (.const (.bool true)) (t 45)),a 6 46]))
 (.ops [m 33 7,b 34 .add 3 (t 33) (i 1) 3,a 7 34])) }).1
def pc14_r1 : PC := (⟨_, by delta A C L S a b c d f i l m n t; exact rfl⟩ : { p : PC // p = .seq (S [m 47 6] (C 47 (S [A 4 (i 6)] .ret) .skip)) (.seq (S [l 48
 41 3,c 49 30 #[t 48] #[41],d 50 (.unOp .not 4 (t 49))] (C 50 (S [A 4 (i 11)] .ret) .skip)) (S [m 51 5,f 52 41 3 4,l 53 39 52,L 54 53 39,b 55 .sub 3 (t 54) (i
 1) 3,c 56 31 #[t 51,t 55,i 0] #[70,3,3]] (S [m 57 5,n 58 57,f 59 72 58 3,l 60 27 59,a 4 60] .ret))) }).1
def pc14 : PC := (⟨_, by delta A S a b d f i l m t w; exact rfl⟩ : { p : PC // p = S [d 2 (.box 24 (t 0)),d 3 (.box 41 (t 1)),A 4 (i 0)] (S [l 8 24 2,l 9 41 3,f
 10 41 3 1,l 11 25 10,f 13 41 3 2,l 14 25 13,⟨some 12,.call ⟨.value (.func 19),#[t 11],#[25]⟩,none,[⟨none,24,t 2,8⟩,⟨none,41,t 3,9⟩,⟨none,25,t 13,14⟩]⟩,⟨some
 15,.call ⟨.builtin .append,#[t 12,t 14],#[25,25]⟩,none,[⟨none,24,t 2,8⟩,⟨none,41,t 3,9⟩]⟩,d 16 (.build 72 #[(0,t 8),(1,t 9),(2,t 15)]),d 17 (.box 72 (t 16)),a
 5 17] (S [f 18 41 3 3,l 19 3 18,b 20 .lss 3 (t 19) (i 0) 3,m 21 20,w 22 (.fieldAddr 41 (t 3) 3) 21 false,w 23 (.load 3 (t 22)) 21 false,w 24 (.binOp .gtr 3 (t
 23) (i 2) 3) 21 false,d 25 (.pick (t 21) (.const (.bool true)) (t 24)),a 6 25] (.seq (S [A 7 (i 0)] (.block 0 (.loop pc14_l1))) pc14_r1))) }).1
theorem calls14 (hn : args.length = 2) (h : avc Tryz.prog G 61 pc14 (afin Tryz.prog [.tmp 4] R) (frame0 args) σ) : ACalls Tryz.prog G 14 args σ R :=
  acalls' (n := 61) (l := [.tmp 4]) mixed Tryz.func14 (by kernel_rfl) (by kernel_rfl) (by kernel_rfl) (by omega) h
def pc15 : PC := (⟨_, by delta S c d m s t; exact rfl⟩ : { p : PC // p = S [d 2 (.alloc 24)] (S [m 3 0,d 4 (.buildSlice 39 1 #[(0,t 3)]),c 5 32 #[t 4] #[39],s
 24 2 5] .ret) }).1
theorem calls15 (hn : args.length = 1) (h : avc Tryz.prog G 6 pc15 (afin Tryz.prog [.cell 2 24] R) (frame0 args) σ) : ACalls Tryz.prog G 15 args σ R :=
  acalls' (n := 6) (l := [.cell 2 24]) mixed Tryz.func15 (by kernel_rfl) (by kernel_rfl) (by kernel_rfl) (by omega) h
def pc16 : PC := (⟨_, by delta S d i m s t; exact rfl⟩ : { p : PC // p = S [d 4 (.alloc 46)] (S [m 5 0,m 6 1,d 7 (.build 46 #[(0,i 1),(1,t 5),(2,t 6)]),s 46 4
 7] .ret) }).1
theorem calls16 (hn : args.length = 2) (h : avc Tryz.prog G 8 pc16 (afin Tryz.prog [.cell 4 46] R) (frame0 args) σ) : ACalls Tryz.prog G 16 args σ R :=
  acalls' (n := 8) (l := [.cell 4 46]) mixed Tryz.func16 (by kernel_rfl) (by kernel_rfl) (by kernel_rfl) (by omega) h
def pc17_x : PC := (⟨_, by delta d t; exact rfl⟩ : { p : PC // p = .ops [d 1 (.box 24 (t 0)),d 2 (.alloc 27)] }).1
def pc17_z_l1 : PC := (⟨_, by delta C S b c d i l m s t x; exact rfl⟩ : { p : PC // p = S [b 19 .lss 3 (t 18) (t 17) 3] (.seq (C 19 .skip (.exit 0)) (.seq
 (.block 1 (S [x 20 22 16 18,l 21 41 20,d 4 (.alloc 41),s 41 4 21] (.ops [l 22 24 1,l 23 41 4,d 24 (.build 81 #[(0,t 22),(1,t 23)]),d 25 (.box 81 (t 24)),c 26
 35 #[t 25] #[79]]))) (.ops [b 27 .add 3 (t 18) (i 1) 3,m 18 27]))) }).1
def pc17_z_r1 : PC := (⟨_, by delta S b c d e f i l m t w; exact rfl⟩ : { p : PC // p = S [f 28 24 1 2,l 29 3 28,b 30 .geq 3 (t 29) (i 0) 3,m 31 30,w 32
 (.fieldAddr 24 (t 1) 2) 31 true,w 33 (.load 3 (t 32)) 31 true,w 34 (.fieldAddr 24 (t 1) 0) 31 true,w 35 (.load 22 (t 34)) 31 true,w 36 (.call ⟨.builtin
 .len,#[t 35],#[22]⟩) 31 true,w 37 (.binOp .lss 3 (t 33) (t 36) 3) 31 true,d 38 (.pick (t 31) (t 37) (.const (.bool false))),m 39 38,w 40 (.fieldAddr 24 (t 1)
 0) 39 true,w 41 (.load 22 (t 40)) 39 true,w 42 (.fieldAddr 24 (t 1) 2) 39 true,w 43 (.load 3 (t 42)) 39 true,w 44 (.indexAddr 22 (t 41) (t 43)) 39 true,w 45
 (.fieldAddr 41 (t 44) 3) 39 true,w 46 (.load 3 (t 45)) 39 true,w 47 (.binOp .eql 3 (t 46) (i 1) 3) 39 true,d 48 (.pick (t 39) (t 47) (.const (.bool false))),m
 49 48,w 50 (.fieldAddr 24 (t 1) 0) 49 true,w 51 (.load 22 (t 50)) 49 true,w 52 (.fieldAddr 24 (t 1) 2) 49 true,w 53 (.load 3 (t 52)) 49 true,w 54 (.indexAddr
 22 (t 51) (t 53)) 49 true,w 55 (.fieldAddr 41 (t 54) 1) 49 true,w 56 (.load 25 (t 55)) 49 true,w 57 (.call ⟨.builtin .len,#[t 56],#[25]⟩) 49 true,w 58 (.binOp
 .eql 3 (t 57) (i 0) 3) 49 true,d 59 (.pick (t 49) (t 58) (.const (.bool false))),c 60 34 #[t 59,i 12] #[4,27]] (S [e (.store 27 (t 2) (i 0))] .ret) }).1
def pc17_z : PC := (⟨_, by delta L S b c d f i l m t w; exact rfl⟩ : { p : PC // p = S [f 6 24 1 1,l 7 3 6,b 8 .geq 3 (t 7) (i 0) 3,m 9 8,w 10 (.fieldAddr 24 (t
 1) 1) 9 true,w 11 (.load 3 (t 10)) 9 true,w 12 (.binOp .leq 3 (t 11) (i 4096) 3) 9 true,d 13 (.pick (t 9) (t 12) (.const (.bool false))),c 14 34 #[t 13,i 11]
 #[4,27]] (.seq (S [f 15 24 1 0,l 16 22 15,L 17 16 22,d 18 (.move (i 0))] (.block 0 (.loop pc17_z_l1))) pc17_z_r1) }).1
def pc18_l1 : PC := (⟨_, by delta C L S a b c d i l m t x; exact rfl⟩ : { p : PC // p = .seq (S [m 5 4,m 6 0,L 7 6 22,b 8 .lss 3 (t 5) (t 7) 3] (C 8 .skip
 (.exit 0))) (.seq (.block 1 (.ops [m 11 3,m 12 0,m 13 4,x 14 22 12 13,l 15 41 14,c 16 36 #[t 15] #[41],d 17 (.buildSlice 22 1 #[(0,t 16)]),d 18 (.call
 ⟨.builtin .append,#[t 11,t 17],#[22,22]⟩),a 3 18])) (.ops [m 9 4,b 10 .add 3 (t 9) (i 1) 3,a 4 10])) }).1
def pc18_r1 : PC := (⟨_, by delta S a m; exact rfl⟩ : { p : PC // p = S [m 19 3,a 2 19] .ret }).1
def pc18 : PC := (⟨_, by delta A S i; exact rfl⟩ : { p : PC // p = S [A 2 (.const (.slice none 0 0))] (S [A 3 (.const (.slice none 0 0))] (.seq (S [A 4 (i 0)]
 (.block 0 (.loop pc18_l1))) pc18_r1)) }).1
theorem calls18 (hn : args.length = 1) (h : avc Tryz.prog G 20 pc18 (afin Tryz.prog [.tmp 2] R) (frame0 args) σ) : ACalls Tryz.prog G 18 args σ R :=
  acalls' (n := 20) (l := [.tmp 2]) mixed Tryz.func18 (by kernel_rfl) (by kernel_rfl) (by kernel_rfl) (by omega) h
def pc19_l1 : PC := (⟨_, by delta C L S a b d i l m t x; exact rfl⟩ : { p : PC // p = .seq (S [m 5 4,m 6 0,L 7 6 25,b 8 .lss 3 (t 5) (t 7) 3] (C 8 .skip (.exit
 0))) (.seq (.block 1 (.ops [m 11 3,m 12 0,m 13 4,x 14 25 12 13,l 15 3 14,d 16 (.buildSlice 25 1 #[(0,t 15)]),d 17 (.call ⟨.builtin .append,#[t 11,t
 16],#[25,25]⟩),a 3 17])) (.ops [m 9 4,b 10 .add 3 (t 9) (i 1) 3,a 4 10])) }).1
def pc19_r1 : PC := (⟨_, by delta S a m; exact rfl⟩ : { p : PC // p = S [m 18 3,a 2 18] .ret }).1
def pc19 : PC := (⟨_, by delta A S i; exact rfl⟩ : { p : PC // p = S [A 2 (.const (.slice none 0 0))] (S [A 3 (.const (.slice none 0 0))] (.seq (S [A 4 (i 0)]
 (.block 0 (.loop pc19_l1))) pc19_r1)) }).1
theorem calls19 (hn : args.length = 1) (h : avc Tryz.prog G 19 pc19 (afin Tryz.prog [.tmp 2] R) (frame0 args) σ) : ACalls Tryz.prog G 19 args σ R :=
  acalls' (n := 19) (l := [.tmp 2]) mixed Tryz.func19 (by kernel_rfl) (by kernel_rfl) (by kernel_rfl) (by omega) h
def pc20 : PC := (⟨_, by delta A S a b i m t; exact rfl⟩ : { p : PC // p = S [A 2 (i 0)] (S [m 3 0,b 4 .mul 3 (i 13) (t 3) 3,b 5 .add 3 (i 7001) (t 4) 3,a 2 5]
 .ret) }).1
theorem calls20 (hn : args.length = 1) (h : avc Tryz.prog G 6 pc20 (afin Tryz.prog [.tmp 2] R) (frame0 args) σ) : ACalls Tryz.prog G 20 args σ R :=
  acalls' (n := 6) (l := [.tmp 2]) mixed Tryz.func20 (by kernel_rfl) (by kernel_rfl) (by kernel_rfl) (by omega) h
def pc21_h : PC := (⟨_, by delta C S b d f l m n s t; exact rfl⟩ : { p : PC // p = S [m 5 2,b 6 .neq 20 (t 5) (.const .nilIface) 20] (C 6 (S [m 7 2,d 8
 (.typeAssert (t 7) 20 55 false),d 3 (.alloc 55),s 55 3 8] (.ops [l 9 50 0,n 10 9,f 11 53 10 4,l 12 25 11,f 13 55 3 0,l 14 3 13,f 15 55 3 1,l 16 3 15,d 17
 (.build 33 #[(0,t 12),(1,t 14),(2,t 16)]),s 33 1 17])) .skip) }).1
def pc22 : PC := (⟨_, by delta A C L S a b c d f i l m n s t w; exact rfl⟩ : { p : PC // p = S [d 4 (.box 41 (t 1)),A 6 (i 0)] (.seq (S [m 8 0,n 9 8,f 10 53 9
 5,l 11 3 10,b 12 .geq 3 (t 11) (i 32) 3] (C 12 (.ops [c 13 37 #[i 4] #[3]]) .skip)) (S [m 14 0,n 15 14,f 16 53 15 5,l 17 3 16,b 18 .add 3 (t 17) (i 1) 3,n 19
 14,f 20 53 19 5,s 3 20 18] (S [l 21 41 4,m 22 2,f 23 41 4 2,l 24 25 23,L 25 24 25,⟨some 26,.call ⟨.builtin .append,#[t 22,t 25],#[25,3]⟩,none,[⟨none,41,t
 4,21⟩]⟩,d 27 (.build 86 #[(0,t 21),(1,t 26)]),d 28 (.box 86 (t 27)),a 7 28] (.seq (S [m 29 0,m 30 7,f 31 41 4 4,l 32 39 31,L 33 32 39,b 34 .sub 3 (t 33) (i 1)
 3,c 35 38 #[t 29,t 30,t 34,i 0] #[50,84,3,3],b 36 .eql 3 (t 35) (i (-1)) 3,m 37 36,w 38 (.fieldAddr 41 (t 4) 3) 37 true,w 39 (.load 3 (t 38)) 37 true,w 40
 (.binOp .neq 3 (t 39) (i 0) 3) 37 true,d 41 (.pick (t 37) (t 40) (.const (.bool false)))] (C 41 (.ops [m 42 7,m 43 7,c 44 39 #[t 43] #[84],n 45 42,f 46 86 45
 3,s 3 46 44]) .skip)) (S [m 47 0,n 48 47,f 49 53 48 5,l 50 3 49,b 51 .sub 3 (t 50) (i 1) 3,n 52 47,f 53 53 52 5,s 3 53 51] (S [m 54 7,n 55 54,f 56 86 55 3,l 57
 3 56,a 6 57] .ret)))))) }).1
theorem calls22 (hn : args.length = 3) (h : avc Tryz.prog G 58 pc22 (afin Tryz.prog [.tmp 6] R) (frame0 args) σ) : ACalls Tryz.prog G 22 args σ R :=
  acalls' (n := 58) (l := [.tmp 6]) mixed Tryz.func22 (by kernel_rfl) (by kernel_rfl) (by kernel_rfl) (by omega) h
def pc23_l1 : PC := (⟨_, by delta A C L S a b d i l m t x; exact rfl⟩ : { p : PC // p = .seq (S [m 11 5,m 12 0,L 13 12 25,b 14 .lss 3 (t 11) (t 13) 3] (C 14
 .skip (.exit 0))) (.seq (.block 1 (S [m 17 0,m 18 5,x 19 25 17 18,l 20 3 19,m 21 1,m 22 5,x 23 25 21 22,l 24 3 23,b 25 .eql 3 (t 20) (t 24) 3,d 26 (.unOp .not
 4 (t 25))] (C 26 (S [A 4 (.const (.bool false))] .ret) .skip))) (.ops [m 15 5,b 16 .add 3 (t 15) (i 1) 3,a 5 16])) }).1
def pc23_r1 : PC := (⟨_, by delta A S; exact rfl⟩ : { p : PC // p = S [A 4 (.const (.bool true))] .ret }).1
def pc23 : PC := (⟨_, by delta A C L S b i m t; exact rfl⟩ : { p : PC // p = S [A 4 (.const (.bool false))] (.seq (S [m 6 0,L 7 6 25,m 8 1,L 9 8 25,b 10 .neq 3
 (t 7) (t 9) 3] (C 10 (S [A 4 (.const (.bool false))] .ret) .skip)) (.seq (S [A 5 (i 0)] (.block 0 (.loop pc23_l1))) pc23_r1)) }).1
theorem calls23 (hn : args.length = 2) (h : avc Tryz.prog G 27 pc23 (afin Tryz.prog [.tmp 4] R) (frame0 args) σ) : ACalls Tryz.prog G 23 args σ R :=
  acalls' (n := 27) (l := [.tmp 4]) mixed Tryz.func23 (by kernel_rfl) (by kernel_rfl) (by kernel_rfl) (by omega) h
def pc24 : PC := (⟨_, by delta L S a b d f i l m n s t x; exact rfl⟩ : { p : PC // p = S [m 7 0,n 8 7,f 9 60 8 3,l 10 58 9,L 11 10 58,b 12 .sub 3 (t 11) (i 1)
 3,a 6 12] (.ops [m 13 0,n 14 13,f 15 60 14 3,l 16 58 15,m 17 6,m 18 0,n 19 18,f 20 60 19 3,l 21 58 20,m 22 6,x 23 58 21 22,f 24 63 23 3,l 25 61 24,m 26 1,m 27
 0,n 28 27,f 29 60 28 3,l 30 58 29,m 31 6,x 32 58 30 31,f 33 63 32 2,l 34 25 33,L 35 34 25,m 36 2,d 37 (.build 66 #[(0,t 26),(2,t 35),(3,t 36)]),d 38
 (.buildSlice 61 1 #[(0,t 37)]),⟨some 39,.call ⟨.builtin .append,#[t 25,t 38],#[61,61]⟩,none,[⟨none,58,t 15,16⟩]⟩,x 40 58 16 17,f 41 63 40 3,s 61 41 39]) }).1
theorem calls24 (hn : args.length = 3) (h : avc Tryz.prog G 42 pc24 (afin Tryz.prog [] R) (frame0 args) σ) : ACalls Tryz.prog G 24 args σ R :=
  acalls' (n := 42) (l := []) mixed Tryz.func24 (by kernel_rfl) (by kernel_rfl) (by kernel_rfl) (by omega) h
def pc25_l1 : PC := (⟨_, by delta C L S a b c d f i l m n s t x; exact rfl⟩ : { p : PC // p = .seq (S [m 5 0,n 6 5,f 7 60 6 4,f 8 33 7 1,l 9 3 8,b 10 .eql 3 (t
 9) (i 0) 3] (C 10 .skip (.exit 0))) (.block 1 (S [m 11 0,n 12 11,f 13 60 12 3,l 14 58 13,L 15 14 58,b 16 .sub 3 (t 15) (i 1) 3,a 2 16] (S [m 17 0,n 18 17,f 19
 60 18 3,l 20 58 19,m 21 2,x 22 58 20 21,f 23 63 22 3,l 24 61 23,L 25 24 61,b 26 .sub 3 (t 25) (i 1) 3,a 3 26] (S [m 27 0,n 28 27,f 29 60 28 3,l 30 58 29,m 31
 2,x 32 58 30 31,f 33 63 32 3,l 34 61 33,m 35 3,x 36 61 34 35,l 37 66 36,d 4 (.alloc 66),s 66 4 37] (.seq (S [f 38 66 4 1,l 39 3 38,m 40 0,n 41 40,f 42 60 41
 0,f 43 24 42 0,l 44 22 43,m 45 0,n 46 45,f 47 60 46 3,l 48 58 47,m 49 2,x 50 58 48 49,f 51 63 50 0,l 52 3 51,x 53 22 44 52,f 54 41 53 4,l 55 39 54,f 56 66 4
 0,l 57 3 56,x 58 39 55 57,l 59 42 58,L 60 59 42,b 61 .lss 3 (t 39) (t 60) 3] (C 61 .ret .skip)) (S [m 62 3,b 63 .eql 3 (t 62) (i 0) 3] (C 63 (.ops [m 64 0,c 65
 40 #[t 64] #[57]]) (.ops [m 66 0,n 67 66,f 68 60 67 3,l 69 58 68,m 70 2,m 71 0,n 72 71,f 73 60 72 3,l 74 58 73,m 75 2,x 76 58 74 75,f 77 63 76 3,l 78 61 77,m
 79 3,d 80 (.slice 61 (t 78) none (some (t 79)) none),x 81 58 69 70,f 82 63 81 3,s 61 82 80])))))))) }).1
def pc25 : PC := .block 0 (.loop pc25_l1)
theorem calls25 (hn : args.length = 1) (h : avc Tryz.prog G 83 pc25 (afin Tryz.prog [] R) (frame0 args) σ) : ACalls Tryz.prog G 25 args σ R :=
  acalls' (n := 83) (l := []) mixed Tryz.func25 (by kernel_rfl) (by kernel_rfl) (by kernel_rfl) (by omega) h
def pc26 : PC := (⟨_, by delta C S a b c d f i l m t; exact rfl⟩ : { p : PC // p = S [d 3 (.box 46 (t 1))] (S [f 4 46 3 0,l 5 3 4] (.block 0 (S [b 10 .eql 3 (t
 5) (i 11) 3,a 9 10] (C 9 (.ops [m 11 0,f 12 46 3 3,l 13 3 12,c 14 24 #[t 11,t 13,.const (.bool false)] #[57,3,4]]) (S [b 16 .eql 3 (t 5) (i 12) 3,a 15 16] (C
 15 (.ops [m 17 0,f 18 46 3 3,l 19 3 18,c 20 24 #[t 17,t 19,.const (.bool true)] #[57,3,4]]) (S [b 22 .eql 3 (t 5) (i 13) 3,a 21 22] (C 21 (S [m 23 0,c 24 41
 #[t 23] #[57],b 25 .neq 3 (t 24) (i 0) 3] (C 25 (.ops [m 26 0,f 27 46 3 3,l 28 3 27,c 29 24 #[t 26,t 28,.const (.bool false)] #[57,3,4]]) (S [f 30 46 3 4,l 31
 3 30,b 32 .geq 3 (t 31) (i 0) 3] (C 32 (.ops [m 33 0,f 34 46 3 4,l 35 3 34,c 36 24 #[t 33,t 35,.const (.bool false)] #[57,3,4]]) .skip)))) (S [b 38 .eql 3 (t
 5) (i 14) 3,a 37 38] (C 37 (.ops [m 39 0,f 40 46 3 2,l 41 3 40,c 42 42 #[t 39,t 41] #[57,3]]) (S [b 44 .eql 3 (t 5) (i 15) 3,a 43 44] (C 43 (S [m 45 0,c 46 41
 #[t 45] #[57],b 47 .neq 3 (t 46) (i 0) 3] (C 47 (.ops [m 48 0,f 49 46 3 2,l 50 3 49,c 51 42 #[t 48,t 50] #[57,3]]) .skip)) (S [b 53 .eql 3 (t 5) (i 16) 3,a 52
 53] (C 52 (.ops [m 54 0,c 55 40 #[t 54] #[57]]) (.ops [m 6 0,l 7 46 3,c 8 43 #[t 6,t 7] #[57,46]]))))))))))))))) }).1
theorem calls26 (hn : args.length = 2) (h : avc Tryz.prog G 56 pc26 (afin Tryz.prog [] R) (frame0 args) σ) : ACalls Tryz.prog G 26 args σ R :=
  acalls' (n := 56) (l := []) mixed Tryz.func26 (by kernel_rfl) (by kernel_rfl) (by kernel_rfl) (by omega) h
def pc27 : PC := (⟨_, by delta S f m n s; exact rfl⟩ : { p : PC // p = S [m 6 0,m 7 1,n 8 6,f 9 60 8 4,f 10 33 9 1,s 3 10 7] (.ops [m 11 0,m 12 2,n 13 11,f 14
 60 13 4,f 15 33 14 2,s 3 15 12]) }).1
theorem calls27 (hn : args.length = 3) (h : avc Tryz.prog G 16 pc27 (afin Tryz.prog [] R) (frame0 args) σ) : ACalls Tryz.prog G 27 args σ R :=
  acalls' (n := 16) (l := []) mixed Tryz.func27 (by kernel_rfl) (by kernel_rfl) (by kernel_rfl) (by omega) h
def pc28_l1 : PC := (⟨_, by delta A C L S a b c d i l m t x; exact rfl⟩ : { p : PC // p = .seq (S [m 11 5,m 12 0,L 13 12 22,b 14 .lss 3 (t 11) (t 13) 3] (C 14
 .skip (.exit 0))) (.seq (.block 1 (S [m 17 0,m 18 5,x 19 22 17 18,l 20 41 19,m 21 1,m 22 5,x 23 22 21 22,l 24 41 23,c 25 44 #[t 20,t 24] #[41,41],d 26 (.unOp
 .not 4 (t 25))] (C 26 (S [A 4 (.const (.bool false))] .ret) .skip))) (.ops [m 15 5,b 16 .add 3 (t 15) (i 1) 3,a 5 16])) }).1
def pc28_r1 : PC := (⟨_, by delta A S; exact rfl⟩ : { p : PC // p = S [A 4 (.const (.bool true))] .ret }).1
def pc28 : PC := (⟨_, by delta A C L S b i m t; exact rfl⟩ : { p : PC // p = S [A 4 (.const (.bool false))] (.seq (S [m 6 0,L 7 6 22,m 8 1,L 9 8 22,b 10 .neq 3
 (t 7) (t 9) 3] (C 10 (S [A 4 (.const (.bool false))] .ret) .skip)) (.seq (S [A 5 (i 0)] (.block 0 (.loop pc28_l1))) pc28_r1)) }).1
theorem calls28 (hn : args.length = 2) (h : avc Tryz.prog G 27 pc28 (afin Tryz.prog [.tmp 4] R) (frame0 args) σ) : ACalls Tryz.prog G 28 args σ R :=
  acalls' (n := 27) (l := [.tmp 4]) mixed Tryz.func28 (by kernel_rfl) (by kernel_rfl) (by kernel_rfl) (by omega) h
def pc29 : PC := (⟨_, by delta A S a b d i m t w; exact rfl⟩ : { p : PC // p = S [A 2 (.const (.bool false))] (S [m 3 0,b 4 .eql 3 (t 3) (i 1) 3,m 5 4,w 6
 (.move (t 0)) 5 false,w 7 (.binOp .eql 3 (t 6) (i 2) 3) 5 false,d 8 (.pick (t 5) (.const (.bool true)) (t 7)),a 2 8] .ret) }).1
theorem calls29 (hn : args.length = 1) (h : avc Tryz.prog G 9 pc29 (afin Tryz.prog [.tmp 2] R) (frame0 args) σ) : ACalls Tryz.prog G 29 args σ R :=
  acalls' (n := 9) (l := [.tmp 2]) mixed Tryz.func29 (by kernel_rfl) (by kernel_rfl) (by kernel_rfl) (by omega) h
def pc30_l1 : PC := (⟨_, by delta A C L S a b d i l m s t w x; exact rfl⟩ : { p : PC // p = .seq (S [m 43 7,m 44 6,L 45 44 25,b 46 .lss 3 (t 43) (t 45) 3] (C 46
 .skip (.exit 4))) (.seq (.block 5 (.seq (S [m 49 6,m 50 7,x 51 25 49 50,l 52 3 51,b 53 .lss 3 (t 52) (i 0) 3,m 54 53,w 55 (.move (t 6)) 54 false,w 56 (.move (t
 7)) 54 false,w 57 (.indexAddr 25 (t 55) (t 56)) 54 false,w 58 (.load 3 (t 57)) 54 false,w 59 (.move (t 4)) 54 false,w 60 (.binOp .geq 3 (t 58) (t 59) 3) 54
 false,d 61 (.pick (t 54) (.const (.bool true)) (t 60))] (C 61 (S [A 2 (.const (.bool false))] .ret) .skip)) (.ops [m 62 3,m 63 6,m 64 7,x 65 25 63 64,l 66 3
 65,m 67 3,m 68 6,m 69 7,x 70 25 68 69,l 71 3 70,x 72 25 67 71,l 73 3 72,b 74 .add 3 (t 73) (i 1) 3,x 75 25 62 66,s 3 75 74]))) (.ops [m 47 7,b 48 .add 3 (t 47)
 (i 1) 3,a 7 48])) }).1
def pc30_r1 : PC := (⟨_, by delta a b i m t; exact rfl⟩ : { p : PC // p = .ops [m 32 5,b 33 .add 3 (t 32) (i 1) 3,a 5 33] }).1
def pc30_l2 : PC := (⟨_, by delta A C L S a b c f i l m t x; exact rfl⟩ : { p : PC // p = .seq (S [m 24 5,f 25 41 1 4,l 26 39 25,m 27 4,x 28 39 26 27,l 29 42
 28,L 30 29 42,b 31 .lss 3 (t 24) (t 30) 3] (C 31 .skip (.exit 2))) (.seq (.block 3 (S [f 34 41 1 4,l 35 39 34,m 36 4,x 37 39 35 36,l 38 42 37,m 39 5,x 40 42 38
 39,l 41 46 40,c 42 45 #[t 41] #[46],a 6 42] (S [A 7 (i 0)] (.block 4 (.loop pc30_l1))))) pc30_r1) }).1
def pc30_r2 : PC := (⟨_, by delta a b i m t; exact rfl⟩ : { p : PC // p = .ops [m 22 4,b 23 .add 3 (t 22) (i 1) 3,a 4 23] }).1
def pc30_l3 : PC := (⟨_, by delta A C L S b f i l m t; exact rfl⟩ : { p : PC // p = .seq (S [m 17 4,f 18 41 1 4,l 19 39 18,L 20 19 39,b 21 .lss 3 (t 17) (t 20)
 3] (C 21 .skip (.exit 0))) (.seq (.block 1 (S [A 5 (i 0)] (.block 2 (.loop pc30_l2)))) pc30_r2) }).1
def pc30_l4 : PC := (⟨_, by delta A C L S a b i l m t x; exact rfl⟩ : { p : PC // p = .seq (S [m 76 8,b 77 .add 3 (t 76) (i 1) 3,m 78 3,L 79 78 25,b 80 .lss 3
 (t 77) (t 79) 3] (C 80 .skip (.exit 6))) (.seq (.block 7 (S [m 83 3,m 84 8,x 85 25 83 84,l 86 3 85,b 87 .neq 3 (t 86) (i 1) 3] (C 87 (S [A 2 (.const (.bool
 false))] .ret) .skip))) (.ops [m 81 8,b 82 .add 3 (t 81) (i 1) 3,a 8 82])) }).1
def pc30_r3 : PC := (⟨_, by delta A S; exact rfl⟩ : { p : PC // p = S [A 2 (.const (.bool true))] .ret }).1
def pc30_r4 : PC := (⟨_, by delta A S i; exact rfl⟩ : { p : PC // p = .seq (S [A 8 (i 0)] (.block 6 (.loop pc30_l4))) pc30_r3 }).1
def pc30 : PC := (⟨_, by delta A C L S a b d f i l t; exact rfl⟩ : { p : PC // p = S [d 1 (.box 41 (t 0)),A 2 (.const (.bool false))] (.seq (S [f 9 41 1 4,l 10
 39 9,L 11 10 39,b 12 .eql 3 (t 11) (i 0) 3] (C 12 (S [A 2 (.const (.bool false))] .ret) .skip)) (S [f 13 41 1 4,l 14 39 13,L 15 14 39,d 16 (.makeSlice 25 (t
 15) (t 15)),a 3 16] (.seq (S [A 4 (i 0)] (.block 0 (.loop pc30_l3))) pc30_r4))) }).1
theorem calls30 (hn : args.length = 1) (h : avc Tryz.prog G 88 pc30 (afin Tryz.prog [.tmp 2] R) (frame0 args) σ) : ACalls Tryz.prog G 30 args σ R :=
  acalls' (n := 88) (l := [.tmp 2]) mixed Tryz.func30 (by kernel_rfl) (by kernel_rfl) (by kernel_rfl) (by omega) h
def pc31_l1 : PC := (⟨_, by delta C L S a b c d i l m s t w x; exact rfl⟩ : { p : PC // p = .seq (S [m 18 8,m 19 7,L 20 19 42,b 21 .lss 3 (t 18) (t 20) 3,m 22
 21,w 23 (.move (t 0)) 22 true,w 24 (.nilCheck (t 23)) 22 true,w 25 (.fieldAddr 72 (t 24) 3) 22 true,w 26 (.load 27 (t 25)) 22 true,w 27 (.binOp .eql 27 (t 26)
 (i 0) 27) 22 true,d 28 (.pick (t 22) (t 27) (.const (.bool false)))] (C 28 .skip (.exit 0))) (.seq (.block 1 (.ops [m 31 0,l 32 92 6,m 33 7,m 34 8,x 35 42 33
 34,l 36 46 35,m 37 2,c 38 46 #[t 31,t 32,t 36,t 37] #[70,92,46,3],s 92 6 38])) (.ops [m 29 8,b 30 .add 3 (t 29) (i 1) 3,a 8 30])) }).1
def pc31_r1 : PC := (⟨_, by delta C L S b c d e f i l m n s t w; exact rfl⟩ : { p : PC // p = .seq (S [m 39 2,b 40 .eql 3 (t 39) (i 0) 3] (C 40 (.ops [m 41 0,l
 42 92 6,c 43 47 #[t 41,t 42] #[70,92],s 92 6 43]) .skip)) (S [f 44 92 6 0,l 45 25 44,L 46 45 25,b 47 .gtr 3 (t 46) (i 0) 3,m 48 47,w 49 (.move (t 0)) 48 true,w
 50 (.nilCheck (t 49)) 48 true,w 51 (.fieldAddr 72 (t 50) 3) 48 true,w 52 (.load 27 (t 51)) 48 true,w 53 (.binOp .eql 27 (t 52) (i 0) 27) 48 true,d 54 (.pick (t
 48) (t 53) (.const (.bool false)))] (C 54 (.ops [m 55 0,n 56 55,f 57 72 56 3,e (.store 27 (t 57) (i 14))]) .skip)) }).1
def pc31 : PC := (⟨_, by delta A S a d f i l m n s x; exact rfl⟩ : { p : PC // p = S [d 9 (.build 92 #[]),d 6 (.alloc 92),s 92 6 9] (S [m 10 0,n 11 10,f 12 72
 11 1,f 13 41 12 4,l 14 39 13,m 15 1,x 16 39 14 15,l 17 42 16,a 7 17] (.seq (S [A 8 (i 0)] (.block 0 (.loop pc31_l1))) pc31_r1)) }).1
theorem calls31 (hn : args.length = 3) (h : avc Tryz.prog G 58 pc31 (afin Tryz.prog [] R) (frame0 args) σ) : ACalls Tryz.prog G 31 args σ R :=
  acalls' (n := 58) (l := []) mixed Tryz.func31 (by kernel_rfl) (by kernel_rfl) (by kernel_rfl) (by omega) h
def pc32 : PC := (⟨_, by delta S d i m s t; exact rfl⟩ : { p : PC // p = S [d 2 (.alloc 24)] (S [d 3 (.buildSlice 25 4 #[(0,i 1),(1,i 1),(2,i 2),(3,i 2)]),m 4
 0,d 5 (.build 41 #[(0,.const (.string ⟨#[109,97,105,110]⟩)),(3,i 1),(2,t 3),(4,t 4)]),d 6 (.buildSlice 22 1 #[(0,t 5)]),d 7 (.build 24 #[(1,i 16),(0,t 6)]),s
 24 2 7] .ret) }).1
theorem calls32 (hn : args.length = 1) (h : avc Tryz.prog G 8 pc32 (afin Tryz.prog [.cell 2 24] R) (frame0 args) σ) : ACalls Tryz.prog G 32 args σ R :=
  acalls' (n := 8) (l := [.cell 2 24]) mixed Tryz.func32 (by kernel_rfl) (by kernel_rfl) (by kernel_rfl) (by omega) h
def pc33_h : PC := (⟨_, by delta C S b d m s t; exact rfl⟩ : { p : PC // p = S [m 3 1,b 4 .neq 20 (t 3) (.const .nilIface) 20] (C 4 (.ops [m 5 1,d 6
 (.typeAssert (t 5) 20 77 false),d 7 (.field 77 (t 6) 0),s 27 0 7]) .skip) }).1
def pc34 : PC := (⟨_, by delta C S d e m t; exact rfl⟩ : { p : PC // p = S [m 4 0,d 5 (.unOp .not 4 (t 4))] (C 5 (.ops [m 6 1,d 7 (.build 77 #[(0,t 6)]),d 8
 (.makeInterface 77 (t 7)),e (.panic (t 8))]) .skip) }).1
theorem calls34 (hn : args.length = 2) (h : avc Tryz.prog G 9 pc34 (afin Tryz.prog [] R) (frame0 args) σ) : ACalls Tryz.prog G 34 args σ R :=
  acalls' (n := 9) (l := []) mixed Tryz.func34 (by kernel_rfl) (by kernel_rfl) (by kernel_rfl) (by omega) h
def pc35 : PC := (⟨_, by delta L S b c d f i l m n s t w; exact rfl⟩ : { p : PC // p = S [m 2 0,m 3 0,n 4 3,f 5 81 4 1,f 6 41 5 1,l 7 25 6,m 8 0,n 9 8,f 10 81 9
 1,f 11 41 10 2,l 12 25 11,d 13 (.buildSlice 109 2 #[(0,t 7),(1,t 12)]),c 14 48 #[t 13] #[109],n 15 2,f 16 81 15 2,s 25 16 14] (S [m 17 0,n 18 17,f 19 81 18 2,l
 20 25 19,c 21 49 #[t 20,.func 50] #[25,73],d 22 (.unOp .not 4 (t 21)),m 23 22,w 24 (.move (t 0)) 23 true,w 25 (.nilCheck (t 24)) 23 true,w 26 (.fieldAddr 81 (t
 25) 1) 23 true,w 27 (.fieldAddr 41 (t 26) 3) 23 true,w 28 (.load 3 (t 27)) 23 true,w 29 (.binOp .geq 3 (t 28) (i 0) 3) 23 true,d 30 (.pick (t 23) (t 29)
 (.const (.bool false))),m 31 30,w 32 (.move (t 0)) 31 true,w 33 (.nilCheck (t 32)) 31 true,w 34 (.fieldAddr 81 (t 33) 1) 31 true,w 35 (.fieldAddr 41 (t 34) 3)
 31 true,w 36 (.load 3 (t 35)) 31 true,w 37 (.binOp .leq 3 (t 36) (i 2) 3) 31 true,d 38 (.pick (t 31) (t 37) (.const (.bool false))),c 39 34 #[t 38,i 6]
 #[4,27]] (S [m 40 0,c 41 52 #[t 40] #[79]] (.ops [m 42 0,m 43 0,n 44 43,f 45 81 44 1,f 46 41 45 4,l 47 39 46,L 48 47 39,b 49 .sub 3 (t 48) (i 1) 3,c 50 53 #[t
 42,t 49,i 0] #[79,3,3]]))) }).1
theorem calls35 (hn : args.length = 1) (h : avc Tryz.prog G 51 pc35 (afin Tryz.prog [] R) (frame0 args) σ) : ACalls Tryz.prog G 35 args σ R :=
  acalls' (n := 51) (l := []) mixed Tryz.func35 (by kernel_rfl) (by kernel_rfl) (by kernel_rfl) (by omega) h
def pc36 : PC := (⟨_, by delta S c d f l s t; exact rfl⟩ : { p : PC // p = S [d 1 (.box 41 (t 0)),d 2 (.alloc 41)] (S [f 3 41 1 1,l 4 25 3,c 5 19 #[t 4] #[25],f
 6 41 1 1,s 25 6 5] (S [f 7 41 1 2,l 8 25 7,c 9 19 #[t 8] #[25],f 10 41 1 2,s 25 10 9] (S [f 11 41 1 4,l 12 39 11,c 13 54 #[t 12] #[39],f 14 41 1 4,s 39 14 13]
 (S [l 15 41 1,s 41 2 15] .ret)))) }).1
theorem calls36 (hn : args.length = 1) (h : avc Tryz.prog G 16 pc36 (afin Tryz.prog [.cell 2 41] R) (frame0 args) σ) : ACalls Tryz.prog G 36 args σ R :=
  acalls' (n := 16) (l := [.cell 2 41]) mixed Tryz.func36 (by kernel_rfl) (by kernel_rfl) (by kernel_rfl) (by omega) h
def pc37 : PC := (⟨_, by delta C S b d e i m t; exact rfl⟩ : { p : PC // p = S [m 2 0,b 3 .neq 3 (t 2) (i 0) 3] (C 3 (.ops [m 4 0,d 5 (.build 55 #[(0,i 2),(1,t
 4)]),d 6 (.makeInterface 55 (t 5)),e (.panic (t 6))]) .skip) }).1
theorem calls37 (hn : args.length = 1) (h : avc Tryz.prog G 7 pc37 (afin Tryz.prog [] R) (frame0 args) σ) : ACalls Tryz.prog G 37 args σ R :=
  acalls' (n := 7) (l := []) mixed Tryz.func37 (by kernel_rfl) (by kernel_rfl) (by kernel_rfl) (by omega) h
def pc38_l1 : PC := (⟨_, by delta A C S a b c d e f i l m n s t x; exact rfl⟩ : { p : PC // p = S [b 28 .lss 3 (t 27) (t 26) 3] (.seq (C 28 .skip (.exit 0))
 (.seq (.block 1 (S [x 29 42 25 27,l 30 46 29,d 11 (.alloc 46),s 46 11 30] (.seq (S [m 31 0,n 32 31,f 33 53 32 2,l 34 3 33,b 35 .lss 3 (t 34) (i 1) 3] (C 35
 (.ops [d 36 (.build 55 #[(0,i 3),(1,i 0)]),d 37 (.makeInterface 55 (t 36)),e (.panic (t 37))]) .skip)) (S [m 38 0,n 39 38,f 40 53 39 2,l 41 3 40,b 42 .sub 3 (t
 41) (i 1) 3,n 43 38,f 44 53 43 2,s 3 44 42] (S [A 12 (i (-1))] (.seq (S [f 45 46 11 0,l 46 3 45] (.block 2 (.seq (S [b 52 .eql 3 (t 46) (i 11) 3,a 51 52] (C 51
 .skip (S [b 53 .eql 3 (t 46) (i 12) 3,a 51 53] (C 51 .skip (.ops [b 54 .eql 3 (t 46) (i 13) 3,a 51 54]))))) (C 51 (.ops [m 55 0,m 56 1,l 57 46 11,m 58 3,b 59
 .add 3 (t 58) (i 1) 3,c 60 55 #[t 55,t 56,t 57,t 59] #[50,84,46,3],a 12 60]) (.seq (S [b 62 .eql 3 (t 46) (i 14) 3,a 61 62] (C 61 .skip (S [b 63 .eql 3 (t 46)
 (i 15) 3,a 61 63] (C 61 .skip (.ops [b 64 .eql 3 (t 46) (i 16) 3,a 61 64]))))) (C 61 (.ops [m 65 1,l 66 46 11,m 67 3,c 68 56 #[t 65,t 66,t 67] #[84,46,3],a 12
 68]) (.ops [m 47 0,m 48 1,l 49 46 11,c 50 57 #[t 47,t 48,t 49] #[50,84,46]]))))))) (S [m 69 12,b 70 .neq 3 (t 69) (i (-1)) 3] (C 70 (S [m 71 1,m 72 1,n 73 72,f
 74 86 73 2,l 75 25 74,m 76 9,d 77 (.slice 25 (t 75) none (some (t 76)) none),n 78 71,f 79 86 78 2,s 25 79 77] (S [m 80 12,a 8 80] .ret)) .skip)))))))) (.ops [b
 81 .add 3 (t 27) (i 1) 3,m 27 81]))) }).1
def pc38_r1 : PC := (⟨_, by delta A S i; exact rfl⟩ : { p : PC // p = S [A 8 (i (-1))] .ret }).1
def pc38 : PC := (⟨_, by delta A L S a d f i l m n x; exact rfl⟩ : { p : PC // p = S [A 8 (i 0)] (S [m 13 1,n 14 13,f 15 86 14 2,l 16 25 15,L 17 16 25,a 9 17]
 (.seq (S [m 18 1,n 19 18,f 20 86 19 0,f 21 41 20 4,l 22 39 21,m 23 2,x 24 39 22 23,l 25 42 24,L 26 25 42,d 27 (.move (i 0))] (.block 0 (.loop pc38_l1)))
 pc38_r1)) }).1
theorem calls38 (hn : args.length = 4) (h : avc Tryz.prog G 82 pc38 (afin Tryz.prog [.tmp 8] R) (frame0 args) σ) : ACalls Tryz.prog G 38 args σ R :=
  acalls' (n := 82) (l := [.tmp 8]) mixed Tryz.func38 (by kernel_rfl) (by kernel_rfl) (by kernel_rfl) (by omega) h
def pc39 : PC := (⟨_, by delta A L S a b d f i l m n s t x; exact rfl⟩ : { p : PC // p = S [A 2 (i 0)] (S [m 4 0,n 5 4,f 6 86 5 2,l 7 25 6,m 8 0,n 9 8,f 10 86 9
 2,l 11 25 10,L 12 11 25,b 13 .sub 3 (t 12) (i 1) 3,x 14 25 7 13,l 15 3 14,a 3 15] (S [m 16 0,m 17 0,n 18 17,f 19 86 18 2,l 20 25 19,m 21 0,n 22 21,f 23 86 22
 2,l 24 25 23,L 25 24 25,b 26 .sub 3 (t 25) (i 1) 3,d 27 (.slice 25 (t 20) none (some (t 26)) none),n 28 16,f 29 86 28 2,s 25 29 27] (S [m 30 3,a 2 30] .ret)))
 }).1
theorem calls39 (hn : args.length = 1) (h : avc Tryz.prog G 31 pc39 (afin Tryz.prog [.tmp 2] R) (frame0 args) σ) : ACalls Tryz.prog G 39 args σ R :=
  acalls' (n := 31) (l := [.tmp 2]) mixed Tryz.func39 (by kernel_rfl) (by kernel_rfl) (by kernel_rfl) (by omega) h
def pc40 : PC := (⟨_, by delta A C L S a b c d f i l m n s t x; exact rfl⟩ : { p : PC // p = S [m 4 0,n 5 4,f 6 60 5 0,f 7 24 6 0,l 8 22 7,m 9 0,n 10 9,f 11 60
 10 3,l 12 58 11,m 13 0,n 14 13,f 15 60 14 3,l 16 58 15,L 17 16 58,b 18 .sub 3 (t 17) (i 1) 3,x 19 58 12 18,f 20 63 19 0,l 21 3 20,x 22 22 8 21,l 23 41 22,⟨some
 2,.alloc 41,none,[⟨none,22,t 7,8⟩,⟨none,58,t 11,12⟩,⟨none,58,t 15,16⟩,⟨none,3,t 20,21⟩,⟨none,41,t 22,23⟩]⟩,s 41 2 23] (S [A 3 (i 0)] (.seq (S [f 24 41 2 3,l 25
 3 24,b 26 .neq 3 (t 25) (i 0) 3] (C 26 (.ops [m 27 0,c 28 41 #[t 27] #[57],a 3 28]) .skip)) (S [m 29 0,m 30 0,n 31 30,f 32 60 31 3,l 33 58 32,m 34 0,n 35 34,f
 36 60 35 3,l 37 58 36,L 38 37 58,b 39 .sub 3 (t 38) (i 1) 3,d 40 (.slice 58 (t 33) none (some (t 39)) none),n 41 29,f 42 60 41 3,s 58 42 40] (.seq (S [m 43 0,n
 44 43,f 45 60 44 3,l 46 58 45,L 47 46 58,b 48 .eql 3 (t 47) (i 0) 3] (C 48 (S [m 49 0,m 50 3,c 51 27 #[t 49,i 1,t 50] #[57,3,3]] .ret) .skip)) (S [f 52 41 2
 3,l 53 3 52,b 54 .neq 3 (t 53) (i 0) 3] (C 54 (.ops [m 55 0,m 56 3,c 57 58 #[t 55,t 56] #[57,3]]) .skip)))))) }).1
theorem calls40 (hn : args.length = 1) (h : avc Tryz.prog G 58 pc40 (afin Tryz.prog [] R) (frame0 args) σ) : ACalls Tryz.prog G 40 args σ R :=
  acalls' (n := 58) (l := []) mixed Tryz.func40 (by kernel_rfl) (by kernel_rfl) (by kernel_rfl) (by omega) h
def pc41 : PC := (⟨_, by delta A L S a b d f i l m n s t x; exact rfl⟩ : { p : PC // p = S [A 2 (i 0)] (S [m 6 0,n 7 6,f 8 60 7 3,l 9 58 8,L 10 9 58,b 11 .sub 3
 (t 10) (i 1) 3,a 3 11] (S [m 12 0,n 13 12,f 14 60 13 3,l 15 58 14,m 16 3,x 17 58 15 16,f 18 63 17 2,l 19 25 18,L 20 19 25,b 21 .sub 3 (t 20) (i 1) 3,a 4 21] (S
 [m 22 0,n 23 22,f 24 60 23 3,l 25 58 24,m 26 3,x 27 58 25 26,f 28 63 27 2,l 29 25 28,m 30 4,x 31 25 29 30,l 32 3 31,a 5 32] (S [m 33 0,n 34 33,f 35 60 34 3,l
 36 58 35,m 37 3,m 38 0,n 39 38,f 40 60 39 3,l 41 58 40,m 42 3,x 43 58 41 42,f 44 63 43 2,l 45 25 44,m 46 4,d 47 (.slice 25 (t 45) none (some (t 46)) none),x 48
 58 36 37,f 49 63 48 2,s 25 49 47] (S [m 50 5,a 2 50] .ret))))) }).1
theorem calls41 (hn : args.length = 1) (h : avc Tryz.prog G 51 pc41 (afin Tryz.prog [.tmp 2] R) (frame0 args) σ) : ACalls Tryz.prog G 41 args σ R :=
  acalls' (n := 51) (l := [.tmp 2]) mixed Tryz.func41 (by kernel_rfl) (by kernel_rfl) (by kernel_rfl) (by omega) h
def pc42 : PC := (⟨_, by delta C L S a b c d f i l m n s t x; exact rfl⟩ : { p : PC // p = S [m 7 0,n 8 7,f 9 60 8 3,l 10 58 9,L 11 10 58,b 12 .sub 3 (t 11) (i
 1) 3,a 4 12] (S [m 13 0,n 14 13,f 15 60 14 3,l 16 58 15,m 17 4,x 18 58 16 17,f 19 63 18 3,l 20 61 19,L 21 20 61,b 22 .sub 3 (t 21) (i 1) 3,m 23 1,b 24 .sub 3
 (t 22) (t 23) 3,a 5 24] (.seq (S [m 25 5,b 26 .eql 3 (t 25) (i 0) 3] (C 26 (S [m 27 0,c 28 40 #[t 27] #[57]] .ret) .skip)) (S [m 29 0,n 30 29,f 31 60 30 3,l 32
 58 31,m 33 4,x 34 58 32 33,f 35 63 34 3,l 36 61 35,m 37 5,x 38 61 36 37,l 39 66 38,d 6 (.alloc 66),s 66 6 39] (S [m 40 0,n 41 40,f 42 60 41 3,l 43 58 42,m 44
 4,m 45 0,n 46 45,f 47 60 46 3,l 48 58 47,m 49 4,x 50 58 48 49,f 51 63 50 2,l 52 25 51,f 53 66 6 2,l 54 3 53,d 55 (.slice 25 (t 52) none (some (t 54)) none),x
 56 58 43 44,f 57 63 56 2,s 25 57 55] (S [m 58 0,n 59 58,f 60 60 59 3,l 61 58 60,m 62 4,m 63 0,n 64 63,f 65 60 64 3,l 66 58 65,m 67 4,x 68 58 66 67,f 69 63 68
 3,l 70 61 69,m 71 5,d 72 (.slice 61 (t 70) none (some (t 71)) none),x 73 58 61 62,f 74 63 73 3,s 61 74 72] (S [f 75 66 6 3,l 76 4 75] (C 76 (.ops [m 77 0,f 78
 66 6 0,l 79 3 78,c 80 24 #[t 77,t 79,.const (.bool true)] #[57,3,4]]) .skip))))))) }).1
theorem calls42 (hn : args.length = 2) (h : avc Tryz.prog G 81 pc42 (afin Tryz.prog [] R) (frame0 args) σ) : ACalls Tryz.prog G 42 args σ R :=
  acalls' (n := 81) (l := []) mixed Tryz.func42 (by kernel_rfl) (by kernel_rfl) (by kernel_rfl) (by omega) h
def pc43 : PC := (⟨_, by delta C L S a b c d f i l m n s t x; exact rfl⟩ : { p : PC // p = S [d 3 (.box 46 (t 1))] (S [m 6 0,n 7 6,f 8 60 7 3,l 9 58 8,L 10 9
 58,b 11 .sub 3 (t 10) (i 1) 3,a 4 11] (S [f 12 46 3 0,l 13 3 12] (.block 0 (S [b 15 .eql 3 (t 13) (i 1) 3,a 14 15] (C 14 (.ops [m 16 0,f 17 46 3 2,l 18 3 17,c
 19 58 #[t 16,t 18] #[57,3]]) (S [b 21 .eql 3 (t 13) (i 2) 3,a 20 21] (C 20 (.ops [m 22 0,m 23 0,n 24 23,f 25 60 24 3,l 26 58 25,m 27 4,x 28 58 26 27,f 29 63 28
 1,l 30 25 29,f 31 46 3 2,l 32 3 31,x 33 25 30 32,l 34 3 33,c 35 58 #[t 22,t 34] #[57,3]]) (S [b 37 .eql 3 (t 13) (i 3) 3,a 36 37] (C 36 (.ops [m 38 0,n 39 38,f
 40 60 39 3,l 41 58 40,m 42 4,x 43 58 41 42,f 44 63 43 1,l 45 25 44,f 46 46 3 2,l 47 3 46,m 48 0,⟨some 49,.call ⟨.value (.func 41),#[t
 48],#[57]⟩,none,[⟨none,58,t 40,41⟩,⟨none,25,t 44,45⟩,⟨none,3,t 46,47⟩]⟩,x 50 25 45 47,s 3 50 49]) (S [b 52 .eql 3 (t 13) (i 4) 3,a 51 52] (C 51 (.ops [m 53 0,l
 54 46 3,c 55 59 #[t 53,t 54] #[57,46]]) (S [b 57 .eql 3 (t 13) (i 5) 3,a 56 57] (C 56 (S [m 58 0,c 59 41 #[t 58] #[57],b 60 .eql 3 (t 59) (i 0) 3] (C 60 (.ops
 [m 61 0,c 62 58 #[t 61,i 1] #[57,3]]) (.ops [m 63 0,c 64 58 #[t 63,i 0] #[57,3]]))) (S [b 66 .eql 3 (t 13) (i 6) 3,a 65 66] (C 65 (.ops [m 67 0,m 68 0,c 69 41
 #[t 68] #[57],c 70 60 #[i 1,t 69] #[3,3],c 71 58 #[t 67,t 70] #[57,3]]) (S [b 73 .eql 3 (t 13) (i 8) 3,a 72 73] (C 72 (.ops [m 74 0,m 75 0,f 77 46 3 2,l 78 3
 77,⟨some 76,.call ⟨.value (.func 41),#[t 75],#[57]⟩,none,[⟨none,3,t 77,78⟩]⟩,c 79 61 #[t 74,t 76,t 78] #[57,3,3]]) (S [b 81 .eql 3 (t 13) (i 9) 3,a 80 81] (C
 80 (S [m 82 0,c 83 41 #[t 82] #[57],a 5 83] (.ops [m 84 0,m 85 0,f 87 46 3 2,l 88 3 87,m 89 5,⟨some 86,.call ⟨.value (.func 41),#[t 85],#[57]⟩,none,[⟨none,3,t
 87,88⟩]⟩,c 90 62 #[t 84,t 86,t 88,t 89] #[57,3,3,3]])) (S [b 92 .eql 3 (t 13) (i 10) 3,a 91 92] (C 91 (.ops [m 93 0,f 94 46 3 2,l 95 3 94,c 96 63 #[t 93,t 95]
 #[57,3]]) (S [b 98 .eql 3 (t 13) (i 18) 3,a 97 98] (C 97 (.ops [m 99 0,c 100 41 #[t 99] #[57]]) (S [b 102 .eql 3 (t 13) (i 17) 3,a 101 102] (C 101 (.ops [m 103
 0,c 104 27 #[t 103,i 2,i 5] #[57,3,3]]) .skip))))))))))))))))))))))))) }).1
theorem calls43 (hn : args.length = 2) (h : avc Tryz.prog G 105 pc43 (afin Tryz.prog [] R) (frame0 args) σ) : ACalls Tryz.prog G 43 args σ R :=
  acalls' (n := 105) (l := []) mixed Tryz.func43 (by kernel_rfl) (by kernel_rfl) (by kernel_rfl) (by omega) h
def pc44 : PC := (⟨_, by delta A S a b d f l m t w; exact rfl⟩ : { p : PC // p = S [d 2 (.box 41 (t 0)),d 3 (.box 41 (t 1)),A 4 (.const (.bool false))] (S [f 5
 41 2 0,l 6 9 5,f 7 41 3 0,l 8 9 7,b 9 .eql 9 (t 6) (t 8) 9,m 10 9,w 11 (.fieldAddr 41 (t 2) 3) 10 true,w 12 (.load 3 (t 11)) 10 true,w 13 (.fieldAddr 41 (t 3)
 3) 10 true,w 14 (.load 3 (t 13)) 10 true,w 15 (.binOp .eql 3 (t 12) (t 14) 3) 10 true,d 16 (.pick (t 10) (t 15) (.const (.bool false))),m 17 16,w 18
 (.fieldAddr 41 (t 2) 1) 17 true,w 19 (.load 25 (t 18)) 17 true,w 20 (.fieldAddr 41 (t 3) 1) 17 true,w 21 (.load 25 (t 20)) 17 true,w 22 (.call ⟨.value (.func
 23),#[t 19,t 21],#[25,25]⟩) 17 true,d 23 (.pick (t 17) (t 22) (.const (.bool false))),m 24 23,w 25 (.fieldAddr 41 (t 2) 2) 24 true,w 26 (.load 25 (t 25)) 24
 true,w 27 (.fieldAddr 41 (t 3) 2) 24 true,w 28 (.load 25 (t 27)) 24 true,w 29 (.call ⟨.value (.func 23),#[t 26,t 28],#[25,25]⟩) 24 true,d 30 (.pick (t 24) (t
 29) (.const (.bool false))),m 31 30,w 32 (.fieldAddr 41 (t 2) 4) 31 true,w 33 (.load 39 (t 32)) 31 true,w 34 (.fieldAddr 41 (t 3) 4) 31 true,w 35 (.load 39 (t
 34)) 31 true,w 36 (.call ⟨.value (.func 64),#[t 33,t 35],#[39,39]⟩) 31 true,d 37 (.pick (t 31) (t 36) (.const (.bool false))),a 4 37] .ret) }).1
theorem calls44 (hn : args.length = 2) (h : avc Tryz.prog G 38 pc44 (afin Tryz.prog [.tmp 4] R) (frame0 args) σ) : ACalls Tryz.prog G 44 args σ R :=
  acalls' (n := 38) (l := [.tmp 4]) mixed Tryz.func44 (by kernel_rfl) (by kernel_rfl) (by kernel_rfl) (by omega) h
def pc45 : PC := (⟨_, by delta A C S a b d f i l m t w; exact rfl⟩ : { p : PC // p = S [d 1 (.box 46 (t 0)),A 2 (.const (.slice none 0 0))] (.seq (S [f 3 46 1
 0,l 4 3 3,b 5 .lss 3 (t 4) (i 11) 3,m 6 5,w 7 (.fieldAddr 46 (t 1) 0) 6 false,w 8 (.load 3 (t 7)) 6 false,w 9 (.binOp .gtr 3 (t 8) (i 13) 3) 6 false,d 10
 (.pick (t 6) (.const (.bool true)) (t 9))] (C 10 (S [A 2 (.const (.slice none 0 0))] .ret) .skip)) (.seq (S [f 11 46 1 0,l 12 3 11,b 13 .eql 3 (t 12) (i 13)
 3,m 14 13,w 15 (.fieldAddr 46 (t 1) 4) 14 true,w 16 (.load 3 (t 15)) 14 true,w 17 (.binOp .geq 3 (t 16) (i 0) 3) 14 true,d 18 (.pick (t 14) (t 17) (.const
 (.bool false)))] (C 18 (S [f 19 46 1 3,l 20 3 19,f 21 46 1 4,l 22 3 21,d 23 (.buildSlice 25 2 #[(0,t 20),(1,t 22)]),a 2 23] .ret) .skip)) (S [f 24 46 1 3,l 25
 3 24,d 26 (.buildSlice 25 1 #[(0,t 25)]),a 2 26] .ret))) }).1
theorem calls45 (hn : args.length = 1) (h : avc Tryz.prog G 27 pc45 (afin Tryz.prog [.tmp 2] R) (frame0 args) σ) : ACalls Tryz.prog G 45 args σ R :=
  acalls' (n := 27) (l := [.tmp 2]) mixed Tryz.func45 (by kernel_rfl) (by kernel_rfl) (by kernel_rfl) (by omega) h
def pc46_l1 : PC := (⟨_, by delta C S a b c i l m s t x; exact rfl⟩ : { p : PC // p = .seq (S [m 86 11,b 87 .geq 3 (t 86) (i 0) 3] (C 87 .skip (.exit 1))) (.seq
 (.block 2 (.ops [m 90 0,l 91 92 5,m 92 9,m 93 11,x 94 25 92 93,l 95 3 94,c 96 68 #[t 90,t 91,t 95] #[70,92,3],s 92 5 96])) (.ops [m 88 11,b 89 .sub 3 (t 88) (i
 1) 3,a 11 89])) }).1
def pc46_r1 : PC := (⟨_, by delta S c l m s t; exact rfl⟩ : { p : PC // p = S [l 97 92 5,m 98 10,c 99 71 #[t 97,t 98] #[92,3],s 92 8 99] .ret }).1
def pc46 : PC := (⟨_, by delta C L S a b c d e f i l m n s t; exact rfl⟩ : { p : PC // p = S [d 5 (.box 92 (t 1)),d 6 (.box 46 (t 2)),d 8 (.alloc 92)] (.seq (S
 [l 12 46 6,c 13 65 #[t 12] #[46],d 14 (.unOp .not 4 (t 13))] (C 14 (S [m 15 0,n 16 15,f 17 72 16 3,e (.store 27 (t 17) (i 2))] (S [l 18 92 5,s 92 8 18] .ret))
 .skip)) (.seq (S [m 19 0,l 20 46 6,m 21 3,c 22 66 #[t 19,t 20,t 21] #[70,46,3],d 23 (.unOp .not 4 (t 22))] (C 23 (S [m 24 0,n 25 24,f 26 72 25 3,e (.store 27
 (t 26) (i 11))] (S [l 27 92 5,s 92 8 27] .ret)) .skip)) (.seq (S [f 28 46 6 0,l 29 3 28] (.block 0 (.seq (S [b 31 .eql 3 (t 29) (i 14) 3,a 30 31] (C 30 .skip
 (S [b 32 .eql 3 (t 29) (i 15) 3,a 30 32] (C 30 .skip (S [b 33 .eql 3 (t 29) (i 16) 3,a 30 33] (C 30 .skip (.ops [b 34 .eql 3 (t 29) (i 17) 3,a 30 34]))))))) (C
 30 (S [m 35 0,l 36 92 5,l 37 46 6,m 38 3,c 39 67 #[t 35,t 36,t 37,t 38] #[70,92,46,3],s 92 8 39] .ret) (.seq (S [b 41 .eql 3 (t 29) (i 11) 3,a 40 41] (C 40
 .skip (.ops [b 42 .eql 3 (t 29) (i 12) 3,a 40 42]))) (C 40 (S [m 43 0,f 44 46 6 3,l 45 3 44,m 46 3,b 47 .add 3 (t 46) (i 1) 3,c 48 31 #[t 43,t 45,t 47]
 #[70,3,3]] (S [l 49 92 5,s 92 8 49] .ret)) (S [b 51 .eql 3 (t 29) (i 13) 3,a 50 51] (C 50 (S [m 52 0,l 53 92 5,c 54 68 #[t 52,t 53,i 1] #[70,92,3],s 92 5 54]
 (S [m 55 0,f 56 46 6 3,l 57 3 56,m 58 3,b 59 .add 3 (t 58) (i 1) 3,c 60 31 #[t 55,t 57,t 59] #[70,3,3]] (.seq (S [f 61 46 6 4,l 62 3 61,b 63 .geq 3 (t 62) (i
 0) 3] (C 63 (.ops [m 64 0,f 65 46 6 4,l 66 3 65,m 67 3,b 68 .add 3 (t 67) (i 1) 3,c 69 31 #[t 64,t 66,t 68] #[70,3,3]]) .skip)) (S [l 70 92 5,s 92 8 70]
 .ret)))) .skip)))))))) (.seq (S [f 71 46 6 0,l 72 3 71,b 73 .eql 3 (t 72) (i 18) 3] (C 73 (S [m 74 0,l 75 92 5,c 76 69 #[t 74,t 75] #[70,92],s 92 8 76] .ret)
 .skip)) (S [m 78 0,l 79 46 6,c 80 70 #[t 78,t 79] #[70,46],m 77 80,d 81 (.extract (t 77) 0),d 82 (.extract (t 77) 1),a 9 81,a 10 82] (.seq (S [m 83 9,L 84 83
 25,b 85 .sub 3 (t 84) (i 1) 3,a 11 85] (.block 1 (.loop pc46_l1))) pc46_r1)))))) }).1
theorem calls46 (hn : args.length = 4) (h : avc Tryz.prog G 100 pc46 (afin Tryz.prog [.cell 8 92] R) (frame0 args) σ) : ACalls Tryz.prog G 46 args σ R :=
  acalls' (n := 100) (l := [.cell 8 92]) mixed Tryz.func46 (by kernel_rfl) (by kernel_rfl) (by kernel_rfl) (by omega) h
def pc47 : PC := (⟨_, by delta C S b c d f i l m n s t; exact rfl⟩ : { p : PC // p = S [d 3 (.box 92 (t 1)),d 4 (.alloc 92)] (.seq (S [m 5 0,n 6 5,f 7 72 6 1,f
 8 41 7 3,l 9 3 8,b 10 .eql 3 (t 9) (i 0) 3] (C 10 (S [l 11 92 3,s 92 4 11] .ret) .skip)) (S [m 12 0,l 13 92 3,m 14 0,n 15 14,f 16 72 15 1,f 17 41 16 3,l 18 3
 17,c 19 68 #[t 12,t 13,t 18] #[70,92,3],s 92 4 19] .ret)) }).1
theorem calls47 (hn : args.length = 2) (h : avc Tryz.prog G 20 pc47 (afin Tryz.prog [.cell 4 92] R) (frame0 args) σ) : ACalls Tryz.prog G 47 args σ R :=
  acalls' (n := 20) (l := [.cell 4 92]) mixed Tryz.func47 (by kernel_rfl) (by kernel_rfl) (by kernel_rfl) (by omega) h
def pc48_l1 : PC := (⟨_, by delta C L S a b d e i l m t x; exact rfl⟩ : { p : PC // p = S [b 12 .lss 3 (t 11) (t 10) 3] (.seq (C 12 .skip (.exit 0)) (.seq
 (.block 1 (S [x 13 109 9 11,l 14 25 13,a 5 14] (S [m 15 3,m 16 5,L 17 16 25,b 18 .add 3 (t 15) (t 17) 3,a 3 18] (S [m 19 3,b 20 .lss 3 (t 19) (i 0) 3] (C 20
 (.ops [d 21 (.makeInterface 9 (.const (.string ⟨#[108,101,110,32,111,117,116,32,111,102,32,114,97,110,103,101]⟩))),e (.panic (t 21))]) .skip))))) (.ops [b 22
 .add 3 (t 11) (i 1) 3,m 11 22]))) }).1
def pc48_l2 : PC := (⟨_, by delta C S a b d i l m t x; exact rfl⟩ : { p : PC // p = S [b 28 .lss 3 (t 27) (t 26) 3] (.seq (C 28 .skip (.exit 2)) (.seq (.block 3
 (S [x 29 109 25 27,l 30 25 29,a 8 30] (.ops [m 31 6,m 32 8,d 33 (.call ⟨.builtin .append,#[t 31,t 32],#[25,25]⟩),a 6 33]))) (.ops [b 34 .add 3 (t 27) (i 1) 3,m
 27 34]))) }).1
def pc48_r1 : PC := (⟨_, by delta S a m; exact rfl⟩ : { p : PC // p = S [m 35 6,a 2 35] .ret }).1
def pc48_r2 : PC := (⟨_, by delta L S a c d i m t; exact rfl⟩ : { p : PC // p = S [m 23 3,c 24 72 #[.const (.slice none 0 0),t 23] #[25,3],a 6 24] (.seq (S [m
 25 0,L 26 25 109,d 27 (.move (i 0))] (.block 2 (.loop pc48_l2))) pc48_r1) }).1
def pc48 : PC := (⟨_, by delta A L S d i m; exact rfl⟩ : { p : PC // p = S [A 2 (.const (.slice none 0 0))] (S [A 3 (i 0)] (.seq (S [m 9 0,L 10 9 109,d 11
 (.move (i 0))] (.block 0 (.loop pc48_l1))) pc48_r2)) }).1
theorem calls48 (hn : args.length = 1) (h : avc Tryz.prog G 36 pc48 (afin Tryz.prog [.tmp 2] R) (frame0 args) σ) : ACalls Tryz.prog G 48 args σ R :=
  acalls' (n := 36) (l := [.tmp 2]) mixed Tryz.func48 (by kernel_rfl) (by kernel_rfl) (by kernel_rfl) (by omega) h
def pc49 : PC := (⟨_, by delta A S a b c i m t; exact rfl⟩ : { p : PC // p = S [A 4 (.const (.bool false))] (S [m 5 0,m 6 1,c 7 73 #[t 5,t 6] #[25,73],b 8 .geq
 3 (t 7) (i 0) 3,a 4 8] .ret) }).1
theorem calls49 (hn : args.length = 2) (h : avc Tryz.prog G 9 pc49 (afin Tryz.prog [.tmp 4] R) (frame0 args) σ) : ACalls Tryz.prog G 49 args σ R :=
  acalls' (n := 9) (l := [.tmp 4]) mixed Tryz.func49 (by kernel_rfl) (by kernel_rfl) (by kernel_rfl) (by omega) h
def pc50 : PC := (⟨_, by delta A S a c d m t; exact rfl⟩ : { p : PC // p = S [A 2 (.const (.bool false))] (S [m 3 0,c 4 51 #[t 3] #[3],d 5 (.unOp .not 4 (t
 4)),a 2 5] .ret) }).1
theorem calls50 (hn : args.length = 1) (h : avc Tryz.prog G 6 pc50 (afin Tryz.prog [.tmp 2] R) (frame0 args) σ) : ACalls Tryz.prog G 50 args σ R :=
  acalls' (n := 6) (l := [.tmp 2]) mixed Tryz.func50 (by kernel_rfl) (by kernel_rfl) (by kernel_rfl) (by omega) h
def pc51 : PC := (⟨_, by delta A S a b d i m t w; exact rfl⟩ : { p : PC // p = S [A 2 (.const (.bool false))] (S [m 3 0,b 4 .eql 3 (t 3) (i 1) 3,m 5 4,w 6
 (.move (t 0)) 5 false,w 7 (.binOp .eql 3 (t 6) (i 2) 3) 5 false,d 8 (.pick (t 5) (.const (.bool true)) (t 7)),a 2 8] .ret) }).1
theorem calls51 (hn : args.length = 1) (h : avc Tryz.prog G 9 pc51 (afin Tryz.prog [.tmp 2] R) (frame0 args) σ) : ACalls Tryz.prog G 51 args σ R :=
  acalls' (n := 9) (l := [.tmp 2]) mixed Tryz.func51 (by kernel_rfl) (by kernel_rfl) (by kernel_rfl) (by omega) h
def pc52_l1 : PC := (⟨_, by delta C S a b c d e i l m t w x; exact rfl⟩ : { p : PC // p = S [b 45 .lss 3 (t 44) (t 43) 3] (.seq (C 45 .skip (.exit 4)) (.seq
 (.block 5 (S [x 46 25 42 44,l 47 3 46,a 8 47] (S [m 48 8,b 49 .geq 3 (t 48) (i 0) 3,m 50 49,w 51 (.move (t 8)) 50 true,w 52 (.move (t 3)) 50 true,w 53 (.binOp
 .lss 3 (t 51) (t 52) 3) 50 true,d 54 (.pick (t 50) (t 53) (.const (.bool false))),m 55 54,w 56 (.move (t 2)) 55 true,w 57 (.move (t 8)) 55 true,w 58
 (.indexAddr 112 (t 56) (t 57)) 55 true,w 59 (.load 4 (t 58)) 55 true,w 60 (.unOp .not 4 (t 59)) 55 true,d 61 (.pick (t 55) (t 60) (.const (.bool false))),c 62
 34 #[t 61,i 11] #[4,27]] (.ops [m 63 2,m 64 8,x 65 112 63 64,e (.store 4 (t 65) (.const (.bool true)))])))) (.ops [b 66 .add 3 (t 44) (i 1) 3,m 44 66]))) }).1
def pc52_r1 : PC := (⟨_, by delta b i m t; exact rfl⟩ : { p : PC // p = .ops [b 67 .add 3 (t 37) (i 1) 3,m 37 67] }).1
def pc52_l2 : PC := (⟨_, by delta C L S b c d i l s t x; exact rfl⟩ : { p : PC // p = S [b 38 .lss 3 (t 37) (t 36) 3] (.seq (C 38 .skip (.exit 2)) (.seq (.block
 3 (S [x 39 42 35 37,l 40 46 39,d 6 (.alloc 46),s 46 6 40] (S [l 41 46 6,c 42 74 #[t 41] #[46],L 43 42 25,d 44 (.move (i 0))] (.block 4 (.loop pc52_l1)))))
 pc52_r1)) }).1
def pc52_r2 : PC := (⟨_, by delta b i m t; exact rfl⟩ : { p : PC // p = .ops [b 68 .add 3 (t 30) (i 1) 3,m 30 68] }).1
def pc52_l3 : PC := (⟨_, by delta C L S a b d i l m t x; exact rfl⟩ : { p : PC // p = S [b 31 .lss 3 (t 30) (t 29) 3] (.seq (C 31 .skip (.exit 0)) (.seq (.block
 1 (S [m 32 30,x 33 39 28 30,l 34 42 33,a 3 32,a 4 34] (S [m 35 4,L 36 35 42,d 37 (.move (i 0))] (.block 2 (.loop pc52_l2))))) pc52_r2)) }).1
def pc52_r3 : PC := (⟨_, by delta L b c d i m t; exact rfl⟩ : { p : PC // p = .ops [m 69 2,m 70 2,L 71 70 112,b 72 .sub 3 (t 71) (i 1) 3,d 73 (.slice 112 (t 69)
 none (some (t 72)) none),c 74 75 #[t 73,.const (.bool false)] #[112,4],d 75 (.unOp .not 4 (t 74)),c 76 34 #[t 75,i 11] #[4,27]] }).1
def pc52 : PC := (⟨_, by delta L S a b c d f i l m n t; exact rfl⟩ : { p : PC // p = S [m 9 0,n 10 9,f 11 81 10 1,f 12 41 11 4,l 13 39 12,L 14 13 39,b 15 .gtr 3
 (t 14) (i 0) 3,c 16 34 #[t 15,i 11] #[4,27]] (S [m 17 0,n 18 17,f 19 81 18 1,f 20 41 19 4,l 21 39 20,L 22 21 39,d 23 (.makeSlice 112 (t 22) (t 22)),a 2 23]
 (.seq (S [m 24 0,n 25 24,f 26 81 25 1,f 27 41 26 4,l 28 39 27,L 29 28 39,d 30 (.move (i 0))] (.block 0 (.loop pc52_l3))) pc52_r3)) }).1
theorem calls52 (hn : args.length = 1) (h : avc Tryz.prog G 77 pc52 (afin Tryz.prog [] R) (frame0 args) σ) : ACalls Tryz.prog G 52 args σ R :=
  acalls' (n := 77) (l := []) mixed Tryz.func52 (by kernel_rfl) (by kernel_rfl) (by kernel_rfl) (by omega) h
def pc53_l1 : PC := (⟨_, by delta C S b c d i l m s t x; exact rfl⟩ : { p : PC // p = S [b 23 .lss 3 (t 22) (t 21) 3] (.seq (C 23 .skip (.exit 0)) (.seq (.block
 1 (S [x 24 42 20 22,l 25 46 24,d 8 (.alloc 46),s 46 8 25] (.ops [m 26 6,l 27 46 8,c 28 76 #[t 26,t 27] #[114,46]]))) (.ops [b 29 .add 3 (t 22) (i 1) 3,m 22
 29]))) }).1
def pc53_r1 : PC := (⟨_, by delta C L S b c f i l m n t; exact rfl⟩ : { p : PC // p = .seq (S [m 30 2,b 31 .eql 3 (t 30) (i 0) 3] (C 31 (.ops [m 32 6,c 33 77
 #[t 32] #[114]]) .skip)) (.ops [m 34 6,n 35 34,f 36 116 35 1,l 37 25 36,L 38 37 25,b 39 .eql 3 (t 38) (i 0) 3,c 40 34 #[t 39,i 14] #[4,27]]) }).1
def pc53 : PC := (⟨_, by delta L S a d f i l m n t x; exact rfl⟩ : { p : PC // p = S [m 9 0,m 10 2,d 11 (.build 116 #[(0,t 9),(3,t 10)]),d 12 (.box 116 (t
 11)),a 6 12] (.seq (S [m 13 0,n 14 13,f 15 81 14 1,f 16 41 15 4,l 17 39 16,m 18 1,x 19 39 17 18,l 20 42 19,L 21 20 42,d 22 (.move (i 0))] (.block 0 (.loop
 pc53_l1))) pc53_r1) }).1
theorem calls53 (hn : args.length = 3) (h : avc Tryz.prog G 41 pc53 (afin Tryz.prog [] R) (frame0 args) σ) : ACalls Tryz.prog G 53 args σ R :=
  acalls' (n := 41) (l := []) mixed Tryz.func53 (by kernel_rfl) (by kernel_rfl) (by kernel_rfl) (by omega) h
def pc54_l1 : PC := (⟨_, by delta C L S a b c d i l m t x; exact rfl⟩ : { p : PC // p = .seq (S [m 5 4,m 6 0,L 7 6 39,b 8 .lss 3 (t 5) (t 7) 3] (C 8 .skip
 (.exit 0))) (.seq (.block 1 (.ops [m 11 3,m 12 0,m 13 4,x 14 39 12 13,l 15 42 14,c 16 78 #[t 15] #[42],d 17 (.buildSlice 39 1 #[(0,t 16)]),d 18 (.call
 ⟨.builtin .append,#[t 11,t 17],#[39,39]⟩),a 3 18])) (.ops [m 9 4,b 10 .add 3 (t 9) (i 1) 3,a 4 10])) }).1
def pc54_r1 : PC := (⟨_, by delta S a m; exact rfl⟩ : { p : PC // p = S [m 19 3,a 2 19] .ret }).1
def pc54 : PC := (⟨_, by delta A S i; exact rfl⟩ : { p : PC // p = S [A 2 (.const (.slice none 0 0))] (S [A 3 (.const (.slice none 0 0))] (.seq (S [A 4 (i 0)]
 (.block 0 (.loop pc54_l1))) pc54_r1)) }).1
theorem calls54 (hn : args.length = 1) (h : avc Tryz.prog G 20 pc54 (afin Tryz.prog [.tmp 2] R) (frame0 args) σ) : ACalls Tryz.prog G 54 args σ R :=
  acalls' (n := 20) (l := [.tmp 2]) mixed Tryz.func54 (by kernel_rfl) (by kernel_rfl) (by kernel_rfl) (by omega) h
def pc55_l1 : PC := (⟨_, by delta C S a b c d i m t w; exact rfl⟩ : { p : PC // p = .seq (S [m 23 9,b 24 .geq 3 (t 23) (i 0) 3] (C 24 .skip (.exit 0))) (.block
 1 (S [m 25 0,m 26 1,m 27 9,m 28 3,c 29 38 #[t 25,t 26,t 27,t 28] #[50,84,3,3],a 10 29] (.seq (S [m 30 10,b 31 .eql 3 (t 30) (i 0) 3,m 32 31,w 33 (.fieldAddr 46
 (t 6) 0) 32 true,w 34 (.load 3 (t 33)) 32 true,w 35 (.binOp .eql 3 (t 34) (i 12) 3) 32 true,d 36 (.pick (t 32) (t 35) (.const (.bool false)))] (C 36 (.exit 1)
 .skip)) (.seq (S [m 37 10,b 38 .gtr 3 (t 37) (i 0) 3] (C 38 (S [m 39 10,b 40 .sub 3 (t 39) (i 1) 3,a 8 40] .ret) .skip)) (.exit 0))))) }).1
def pc55_r1 : PC := (⟨_, by delta A S i; exact rfl⟩ : { p : PC // p = S [A 8 (i (-1))] .ret }).1
def pc55 : PC := (⟨_, by delta A C S a b d f i l m t w; exact rfl⟩ : { p : PC // p = S [d 6 (.box 46 (t 2)),A 8 (i 0)] (S [f 11 46 6 3,l 12 3 11,a 9 12] (.seq
 (S [f 13 46 6 0,l 14 3 13,b 15 .eql 3 (t 14) (i 13) 3,m 16 15,w 17 (.move (t 1)) 16 true,w 18 (.call ⟨.value (.func 39),#[t 17],#[84]⟩) 16 true,w 19 (.binOp
 .eql 3 (t 18) (i 0) 3) 16 true,d 20 (.pick (t 16) (t 19) (.const (.bool false)))] (C 20 (.ops [f 21 46 6 4,l 22 3 21,a 9 22]) .skip)) (.seq (.block 0 (.loop
 pc55_l1)) pc55_r1))) }).1
theorem calls55 (hn : args.length = 4) (h : avc Tryz.prog G 41 pc55 (afin Tryz.prog [.tmp 8] R) (frame0 args) σ) : ACalls Tryz.prog G 55 args σ R :=
  acalls' (n := 41) (l := [.tmp 8]) mixed Tryz.func55 (by kernel_rfl) (by kernel_rfl) (by kernel_rfl) (by omega) h
def pc56 : PC := (⟨_, by delta A C S a b c d f i l m n s t w; exact rfl⟩ : { p : PC // p = S [d 4 (.box 46 (t 1)),A 6 (i 0)] (S [f 8 46 4 2,l 9 3 8,a 7 9] (.seq
 (S [f 10 46 4 0,l 11 3 10] (.block 0 (S [b 13 .eql 3 (t 11) (i 16) 3,a 12 13] (C 12 (.ops [m 14 2,a 7 14]) (S [b 16 .eql 3 (t 11) (i 15) 3,a 15 16] (C 15 (S [m
 17 0,c 18 39 #[t 17] #[84],b 19 .eql 3 (t 18) (i 0) 3] (C 19 (S [A 6 (i (-1))] .ret) .skip)) .skip)))))) (.seq (S [m 20 7,m 21 2,b 22 .eql 3 (t 20) (t 21) 3,m
 23 22,w 24 (.move (t 0)) 23 true,w 25 (.nilCheck (t 24)) 23 true,w 26 (.fieldAddr 86 (t 25) 0) 23 true,w 27 (.fieldAddr 41 (t 26) 3) 23 true,w 28 (.load 3 (t
 27)) 23 true,w 29 (.binOp .neq 3 (t 28) (i 0) 3) 23 true,d 30 (.pick (t 23) (t 29) (.const (.bool false)))] (C 30 (.ops [m 31 0,m 32 0,c 33 39 #[t 32] #[84],n
 34 31,f 35 86 34 3,s 3 35 33]) .skip)) (S [m 36 7,a 6 36] .ret)))) }).1
theorem calls56 (hn : args.length = 3) (h : avc Tryz.prog G 37 pc56 (afin Tryz.prog [.tmp 6] R) (frame0 args) σ) : ACalls Tryz.prog G 56 args σ R :=
  acalls' (n := 37) (l := [.tmp 6]) mixed Tryz.func56 (by kernel_rfl) (by kernel_rfl) (by kernel_rfl) (by omega) h
def pc57_l1 : PC := (⟨_, by delta C S a b f i l m n s t x; exact rfl⟩ : { p : PC // p = S [b 106 .lss 3 (t 105) (t 104) 3] (.seq (C 106 .skip (.exit 1)) (.seq
 (.block 2 (S [m 107 105,a 13 107] (.ops [m 108 0,n 109 108,f 110 53 109 3,l 111 51 110,m 112 12,m 113 13,b 114 .add 3 (t 112) (t 113) 3,m 115 11,m 116 13,b 117
 .mul 3 (i 8) (t 116) 3,b 118 .shr 3 (t 115) (t 117) 3,⟨some 119,.convert 3 5 (t 118),none,[⟨none,51,t 110,111⟩]⟩,x 120 51 111 114,s 5 120 119]))) (.ops [b 121
 .add 3 (t 105) (i 1) 3,m 105 121]))) }).1
def pc57 : PC := (⟨_, by delta A C L S a b c d f i l m n s t x; exact rfl⟩ : { p : PC // p = S [d 5 (.box 46 (t 2))] (S [f 14 46 5 0,l 15 3 14] (.block 0 (S [b
 17 .eql 3 (t 15) (i 1) 3,a 16 17] (C 16 (.ops [m 18 1,f 19 46 5 2,l 20 3 19,c 21 79 #[t 18,t 20] #[84,3]]) (S [b 23 .eql 3 (t 15) (i 2) 3,a 22 23] (C 22 (.ops
 [m 24 1,m 25 1,n 26 25,f 27 86 26 1,l 28 25 27,f 29 46 5 2,l 30 3 29,x 31 25 28 30,l 32 3 31,c 33 79 #[t 24,t 32] #[84,3]]) (S [b 35 .eql 3 (t 15) (i 3) 3,a 34
 35] (C 34 (.ops [m 36 1,n 37 36,f 38 86 37 1,l 39 25 38,f 40 46 5 2,l 41 3 40,m 42 1,⟨some 43,.call ⟨.value (.func 39),#[t 42],#[84]⟩,none,[⟨none,25,t
 38,39⟩,⟨none,3,t 40,41⟩]⟩,x 44 25 39 41,s 3 44 43]) (S [b 46 .eql 3 (t 15) (i 4) 3,a 45 46] (C 45 (S [m 47 1,c 48 39 #[t 47] #[84],m 49 1,c 50 39 #[t 49]
 #[84],a 6 48,a 7 50] (S [f 52 46 5 1,l 53 3 52,f 54 46 5 5,l 55 9 54,m 57 7,m 58 6,⟨some 56,.call ⟨.value (.func 81),#[t 55],#[9]⟩,none,[⟨none,3,t 52,53⟩]⟩,c
 59 80 #[t 53,t 56,t 57,t 58] #[3,9,3,3],m 51 59,d 60 (.extract (t 51) 0),d 61 (.extract (t 51) 1),a 8 60,a 9 61] (S [m 62 9,c 63 37 #[t 62] #[3]] (.ops [m 64
 1,m 65 8,c 66 79 #[t 64,t 65] #[84,3]])))) (S [b 68 .eql 3 (t 15) (i 5) 3,a 67 68] (C 67 (S [A 10 (i 0)] (.seq (S [m 69 1,c 70 39 #[t 69] #[84],b 71 .eql 3 (t
 70) (i 0) 3] (C 71 (.ops [A 10 (i 1)]) .skip)) (.ops [m 72 1,m 73 10,c 74 79 #[t 72,t 73] #[84,3]]))) (S [b 76 .eql 3 (t 15) (i 6) 3,a 75 76] (C 75 (.ops [m 77
 1,m 78 1,c 79 39 #[t 78] #[84],c 80 82 #[i 1,t 79] #[3,3],c 81 79 #[t 77,t 80] #[84,3]]) (S [b 83 .eql 3 (t 15) (i 8) 3,a 82 83] (C 82 (.ops [m 84 1,m 85 0,m
 86 1,f 88 46 5 2,l 89 3 88,⟨some 87,.call ⟨.value (.func 39),#[t 86],#[84]⟩,none,[⟨none,3,t 88,89⟩]⟩,c 90 84 #[t 85,t 87,t 89] #[50,3,3],c 91 83 #[t 90]
 #[51],c 92 79 #[t 84,t 91] #[84,3]]) (S [b 94 .eql 3 (t 15) (i 9) 3,a 93 94] (C 93 (S [m 95 1,c 96 39 #[t 95] #[84],m 97 1,c 98 39 #[t 97] #[84],a 11 96,a 12
 98] (S [m 99 0,m 100 12,f 101 46 5 2,l 102 3 101,c 103 84 #[t 99,t 100,t 102] #[50,3,3],L 104 103 51,d 105 (.move (i 0))] (.block 1 (.loop pc57_l1)))) (S [b
 123 .eql 3 (t 15) (i 10) 3,a 122 123] (C 122 (.ops [m 124 0,m 125 1,f 126 46 5 2,l 127 3 126,c 128 85 #[t 124,t 125,t 127] #[50,84,3]]) (S [b 130 .eql 3 (t 15)
 (i 17) 3,a 129 130] (C 129 (.ops [c 131 37 #[i 5] #[3]]) (S [b 133 .eql 3 (t 15) (i 18) 3,a 132 133] (C 132 (.ops [m 134 1,c 135 39 #[t 134] #[84]])
 .skip)))))))))))))))))))))))) }).1
theorem calls57 (hn : args.length = 3) (h : avc Tryz.prog G 136 pc57 (afin Tryz.prog [] R) (frame0 args) σ) : ACalls Tryz.prog G 57 args σ R :=
  acalls' (n := 136) (l := []) mixed Tryz.func57 (by kernel_rfl) (by kernel_rfl) (by kernel_rfl) (by omega) h
def pc58 : PC := (⟨_, by delta L S a b d f i l m n s t x; exact rfl⟩ : { p : PC // p = S [m 5 0,n 6 5,f 7 60 6 3,l 8 58 7,L 9 8 58,b 10 .sub 3 (t 9) (i 1) 3,a 4
 10] (.ops [m 11 0,n 12 11,f 13 60 12 3,l 14 58 13,m 15 4,m 16 0,n 17 16,f 18 60 17 3,l 19 58 18,m 20 4,x 21 58 19 20,f 22 63 21 2,l 23 25 22,m 25 1,d 26
 (.buildSlice 25 1 #[(0,t 25)]),⟨some 24,.call ⟨.value (.func 19),#[t 23],#[25]⟩,none,[⟨none,58,t 13,14⟩]⟩,⟨some 27,.call ⟨.builtin .append,#[t 24,t
 26],#[25,25]⟩,none,[⟨none,58,t 13,14⟩]⟩,x 28 58 14 15,f 29 63 28 2,s 25 29 27]) }).1
theorem calls58 (hn : args.length = 2) (h : avc Tryz.prog G 30 pc58 (afin Tryz.prog [] R) (frame0 args) σ) : ACalls Tryz.prog G 58 args σ R :=
  acalls' (n := 30) (l := []) mixed Tryz.func58 (by kernel_rfl) (by kernel_rfl) (by kernel_rfl) (by omega) h
def pc59 : PC := (⟨_, by delta C S a b c d f i l m t x; exact rfl⟩ : { p : PC // p = S [d 3 (.box 46 (t 1))] (S [m 10 0,c 11 41 #[t 10] #[57],a 4 11] (S [m 12
 0,c 13 41 #[t 12] #[57],a 5 13] (S [c 15 86 #[] #[],m 14 15,d 16 (.extract (t 14) 0),d 17 (.extract (t 14) 1),a 6 16,a 7 17] (S [f 19 46 3 1,l 20 3 19,m 21 7,f
 22 46 3 5,l 23 9 22,m 27 5,m 28 4,⟨some 24,.call ⟨.value (.func 88),#[t 23],#[9]⟩,none,[⟨none,3,t 19,20⟩]⟩,x 25 124 21 24,l 26 9 25,c 29 87 #[t 20,t 26,t 27,t
 28] #[3,9,3,3],m 18 29,d 30 (.extract (t 18) 0),d 31 (.extract (t 18) 1),a 8 30,a 9 31] (.seq (S [m 32 9,b 33 .neq 3 (t 32) (i 0) 3] (C 33 (S [m 34 0,m 35 9,c
 36 27 #[t 34,i 2,t 35] #[57,3,3]] .ret) .skip)) (.ops [m 37 0,m 38 8,c 39 58 #[t 37,t 38] #[57,3]])))))) }).1
theorem calls59 (hn : args.length = 2) (h : avc Tryz.prog G 40 pc59 (afin Tryz.prog [] R) (frame0 args) σ) : ACalls Tryz.prog G 59 args σ R :=
  acalls' (n := 40) (l := []) mixed Tryz.func59 (by kernel_rfl) (by kernel_rfl) (by kernel_rfl) (by omega) h
def pc60 : PC := (⟨_, by delta A C S a b c d i m t w; exact rfl⟩ : { p : PC // p = S [A 4 (i 0)] (S [m 8 0,c 9 89 #[t 8] #[3],a 5 9] (.seq (S [m 10 5,b 11 .eql
 3 (t 10) (i 0) 3,m 12 11,w 13 (.move (t 5)) 12 false,w 14 (.binOp .eql 3 (t 13) (i 64) 3) 12 false,d 15 (.pick (t 12) (.const (.bool true)) (t 14))] (C 15 (S
 [m 16 1,m 17 5,b 18 .quo 3 (t 17) (i 64) 3,b 19 .mul 3 (t 16) (t 18) 3,a 4 19] .ret) .skip)) (S [m 20 5,d 21 (.convert 3 128 (t 20)),b 22 .shl 3 (i 1) (t 21)
 128,a 6 22] (S [m 23 1,m 24 6,b 25 .rem 3 (t 23) (t 24) 3,a 7 25] (.seq (S [m 26 7,b 27 .lss 3 (t 26) (i 0) 3] (C 27 (.ops [m 28 7,m 29 6,b 30 .add 3 (t 28) (t
 29) 3,a 7 30]) .skip)) (.seq (S [m 31 7,m 32 6,b 33 .quo 3 (t 32) (i 2) 3,b 34 .geq 3 (t 31) (t 33) 3] (C 34 (.ops [m 35 7,m 36 6,b 37 .sub 3 (t 35) (t 36) 3,a
 7 37]) .skip)) (S [m 38 7,a 4 38] .ret))))))) }).1
theorem calls60 (hn : args.length = 2) (h : avc Tryz.prog G 39 pc60 (afin Tryz.prog [.tmp 4] R) (frame0 args) σ) : ACalls Tryz.prog G 60 args σ R :=
  acalls' (n := 39) (l := [.tmp 4]) mixed Tryz.func60 (by kernel_rfl) (by kernel_rfl) (by kernel_rfl) (by omega) h
def pc61_l1 : PC := (⟨_, by delta C S a b d f i l m n t x; exact rfl⟩ : { p : PC // p = .seq (S [m 16 7,b 17 .geq 3 (t 16) (i 0) 3] (C 17 .skip (.exit 0)))
 (.seq (.block 1 (.ops [m 20 6,b 21 .mul 3 (i 256) (t 20) 3,m 22 0,n 23 22,f 24 60 23 2,l 25 51 24,m 26 1,m 27 7,b 28 .add 3 (t 26) (t 27) 3,x 29 51 25 28,l 30
 5 29,d 31 (.convert 5 3 (t 30)),b 32 .add 3 (t 21) (t 31) 3,a 6 32])) (.ops [m 18 7,b 19 .sub 3 (t 18) (i 1) 3,a 7 19])) }).1
def pc61_r1 : PC := (⟨_, by delta A C S b c i m t; exact rfl⟩ : { p : PC // p = S [A 8 (i 2)] (.seq (S [m 33 2,b 34 .eql 3 (t 33) (i 1) 3] (C 34 (.ops [A 8 (i
 3)]) .skip)) (.seq (S [m 35 2,b 36 .eql 3 (t 35) (i 4) 3] (C 36 (.ops [A 8 (i 1)]) .skip)) (.ops [m 37 0,m 38 8,m 39 6,c 40 60 #[t 38,t 39] #[3,3],c 41 58 #[t
 37,t 40] #[57,3]]))) }).1
def pc61 : PC := (⟨_, by delta A C S a b c d i m t; exact rfl⟩ : { p : PC // p = .seq (S [m 9 0,m 10 1,m 11 2,c 12 90 #[t 9,t 10,t 11] #[57,3,3],d 13 (.unOp
 .not 4 (t 12))] (C 13 .ret .skip)) (S [A 6 (i 0)] (.seq (S [m 14 2,b 15 .sub 3 (t 14) (i 1) 3,a 7 15] (.block 0 (.loop pc61_l1))) pc61_r1)) }).1
theorem calls61 (hn : args.length = 3) (h : avc Tryz.prog G 42 pc61 (afin Tryz.prog [] R) (frame0 args) σ) : ACalls Tryz.prog G 61 args σ R :=
  acalls' (n := 42) (l := []) mixed Tryz.func61 (by kernel_rfl) (by kernel_rfl) (by kernel_rfl) (by omega) h
def pc62_l1 : PC := (⟨_, by delta C S a b d f i l m n s t x; exact rfl⟩ : { p : PC // p = .seq (S [m 17 9,m 18 2,b 19 .lss 3 (t 17) (t 18) 3] (C 19 .skip (.exit
 0))) (.seq (.block 1 (S [m 22 0,n 23 22,f 24 60 23 2,l 25 51 24,m 26 1,m 27 9,b 28 .add 3 (t 26) (t 27) 3,m 29 8,b 30 .rem 130 (t 29) (.const (.int .u64 256))
 130,d 31 (.convert 130 5 (t 30)),x 32 51 25 28,s 5 32 31] (.ops [m 33 8,b 34 .quo 130 (t 33) (.const (.int .u64 256)) 130,a 8 34]))) (.ops [m 20 9,b 21 .add 3
 (t 20) (i 1) 3,a 9 21])) }).1
def pc62 : PC := (⟨_, by delta A C S a c d i m t; exact rfl⟩ : { p : PC // p = .seq (S [m 10 0,m 11 1,m 12 2,c 13 90 #[t 10,t 11,t 12] #[57,3,3],d 14 (.unOp
 .not 4 (t 13))] (C 14 .ret .skip)) (S [m 15 3,d 16 (.convert 3 130 (t 15)),a 8 16] (S [A 9 (i 0)] (.block 0 (.loop pc62_l1)))) }).1
theorem calls62 (hn : args.length = 4) (h : avc Tryz.prog G 35 pc62 (afin Tryz.prog [] R) (frame0 args) σ) : ACalls Tryz.prog G 62 args σ R :=
  acalls' (n := 35) (l := []) mixed Tryz.func62 (by kernel_rfl) (by kernel_rfl) (by kernel_rfl) (by omega) h
def pc63 : PC := (⟨_, by delta A C L S a b c d f i l m n s t; exact rfl⟩ : { p : PC // p = S [m 5 1] (.block 0 (S [b 11 .eql 3 (t 5) (i 0) 3,a 10 11] (C 10 (S
 [A 4 (i 0)] (.seq (S [m 12 0,n 13 12,f 14 60 13 1,l 15 25 14,L 16 15 25,b 17 .gtr 3 (t 16) (i 0) 3] (C 17 (S [m 18 0,n 19 18,f 20 60 19 1,l 21 25 20,d 22
 (.indexAddr 25 (t 21) (i 0)),l 23 3 22,a 4 23] (.ops [m 24 0,m 25 0,n 26 25,f 27 60 26 1,l 28 25 27,d 29 (.slice 25 (t 28) (some (i 1)) none none),n 30 24,f 31
 60 30 1,s 25 31 29])) .skip)) (.ops [m 32 0,m 33 4,c 34 58 #[t 32,t 33] #[57,3]]))) (S [b 36 .eql 3 (t 5) (i 1) 3,a 35 36] (C 35 (.ops [m 37 0,m 38 0,n 39 38,f
 40 60 39 4,f 41 33 40 0,l 42 25 41,m 43 0,⟨some 44,.call ⟨.value (.func 41),#[t 43],#[57]⟩,none,[⟨none,25,t 41,42⟩]⟩,d 45 (.buildSlice 25 1 #[(0,t 44)]),d 46
 (.call ⟨.builtin .append,#[t 42,t 45],#[25,25]⟩),n 47 37,f 48 60 47 4,f 49 33 48 0,s 25 49 46]) (S [b 51 .eql 3 (t 5) (i 2) 3,a 50 51] (C 50 (.ops [m 52 0,m 53
 0,c 54 41 #[t 53] #[57],c 55 27 #[t 52,i 2,t 54] #[57,3,3]]) (.ops [m 6 0,m 7 1,b 8 .sub 3 (t 7) (i 3) 3,c 9 91 #[t 6,t 8] #[57,3]])))))))) }).1
theorem calls63 (hn : args.length = 2) (h : avc Tryz.prog G 56 pc63 (afin Tryz.prog [] R) (frame0 args) σ) : ACalls Tryz.prog G 63 args σ R :=
  acalls' (n := 56) (l := []) mixed Tryz.func63 (by kernel_rfl) (by kernel_rfl) (by kernel_rfl) (by omega) h
def pc64_l1 : PC := (⟨_, by delta A C L S a b c d i l m t x; exact rfl⟩ : { p : PC // p = .seq (S [m 11 5,m 12 0,L 13 12 39,b 14 .lss 3 (t 11) (t 13) 3] (C 14
 .skip (.exit 0))) (.seq (.block 1 (S [m 17 0,m 18 5,x 19 39 17 18,l 20 42 19,m 21 1,m 22 5,x 23 39 21 22,l 24 42 23,c 25 92 #[t 20,t 24] #[42,42],d 26 (.unOp
 .not 4 (t 25))] (C 26 (S [A 4 (.const (.bool false))] .ret) .skip))) (.ops [m 15 5,b 16 .add 3 (t 15) (i 1) 3,a 5 16])) }).1
def pc64_r1 : PC := (⟨_, by delta A S; exact rfl⟩ : { p : PC // p = S [A 4 (.const (.bool true))] .ret }).1
def pc64 : PC := (⟨_, by delta A C L S b i m t; exact rfl⟩ : { p : PC // p = S [A 4 (.const (.bool false))] (.seq (S [m 6 0,L 7 6 39,m 8 1,L 9 8 39,b 10 .neq 3
 (t 7) (t 9) 3] (C 10 (S [A 4 (.const (.bool false))] .ret) .skip)) (.seq (S [A 5 (i 0)] (.block 0 (.loop pc64_l1))) pc64_r1)) }).1
theorem calls64 (hn : args.length = 2) (h : avc Tryz.prog G 27 pc64 (afin Tryz.prog [.tmp 4] R) (frame0 args) σ) : ACalls Tryz.prog G 64 args σ R :=
  acalls' (n := 27) (l := [.tmp 4]) mixed Tryz.func64 (by kernel_rfl) (by kernel_rfl) (by kernel_rfl) (by omega) h
def pc65 : PC := (⟨_, by delta A C S a b c d f i l m t w; exact rfl⟩ : { p : PC // p = S [d 1 (.box 46 (t 0)),A 2 (.const (.bool false))] (.seq (S [f 3 46 1 0,l
 4 3 3] (.block 0 (.seq (S [b 6 .eql 3 (t 4) (i 1) 3,a 5 6] (C 5 .skip (.ops [b 7 .eql 3 (t 4) (i 5) 3,a 5 7]))) (C 5 (S [f 8 46 1 1,l 9 3 8,c 10 29 #[t 9]
 #[3],a 2 10] .ret) (S [b 12 .eql 3 (t 4) (i 4) 3,a 11 12] (C 11 (S [f 13 46 1 1,l 14 3 13,c 15 29 #[t 14] #[3],m 16 15,w 17 (.fieldAddr 46 (t 1) 5) 16 true,w
 18 (.load 9 (t 17)) 16 true,w 19 (.call ⟨.value (.func 88),#[t 18],#[9]⟩) 16 true,w 20 (.binOp .geq 3 (t 19) (i 0) 3) 16 true,d 21 (.pick (t 16) (t 20) (.const
 (.bool false))),a 2 21] .ret) (.seq (S [b 23 .eql 3 (t 4) (i 8) 3,a 22 23] (C 22 .skip (.ops [b 24 .eql 3 (t 4) (i 9) 3,a 22 24]))) (C 22 (S [f 25 46 1 1,l 26
 3 25,b 27 .eql 3 (t 26) (i 1) 3,m 28 27,w 29 (.fieldAddr 46 (t 1) 2) 28 true,w 30 (.load 3 (t 29)) 28 true,w 31 (.binOp .eql 3 (t 30) (i 1) 3) 28 true,w 32
 (.move (t 31)) 28 true,w 33 (.fieldAddr 46 (t 1) 2) 32 false,w 34 (.load 3 (t 33)) 32 false,w 35 (.binOp .eql 3 (t 34) (i 4) 3) 32 false,w 36 (.pick (t 32)
 (.const (.bool true)) (t 35)) 28 true,d 37 (.pick (t 28) (t 36) (.const (.bool false))),m 38 37,w 39 (.fieldAddr 46 (t 1) 1) 38 false,w 40 (.load 3 (t 39)) 38
 false,w 41 (.binOp .eql 3 (t 40) (i 2) 3) 38 false,w 42 (.move (t 41)) 38 false,w 43 (.fieldAddr 46 (t 1) 2) 42 true,w 44 (.load 3 (t 43)) 42 true,w 45 (.binOp
 .eql 3 (t 44) (i 8) 3) 42 true,w 46 (.pick (t 42) (t 45) (.const (.bool false))) 38 false,d 47 (.pick (t 38) (.const (.bool true)) (t 46)),a 2 47] .ret)
 .skip)))))))) (S [f 48 46 1 0,l 49 3 48,b 50 .geq 3 (t 49) (i 1) 3,m 51 50,w 52 (.fieldAddr 46 (t 1) 0) 51 true,w 53 (.load 3 (t 52)) 51 true,w 54 (.binOp .leq
 3 (t 53) (i 18) 3) 51 true,d 55 (.pick (t 51) (t 54) (.const (.bool false))),a 2 55] .ret)) }).1
theorem calls65 (hn : args.length = 1) (h : avc Tryz.prog G 56 pc65 (afin Tryz.prog [.tmp 2] R) (frame0 args) σ) : ACalls Tryz.prog G 65 args σ R :=
  acalls' (n := 56) (l := [.tmp 2]) mixed Tryz.func65 (by kernel_rfl) (by kernel_rfl) (by kernel_rfl) (by omega) h
def pc66 : PC := (⟨_, by delta A C S a b c d f i l m n t w; exact rfl⟩ : { p : PC // p = S [d 4 (.box 46 (t 1)),A 6 (.const (.bool false))] (.seq (S [f 10 46 4
 0,l 11 3 10] (.block 0 (S [b 13 .eql 3 (t 11) (i 1) 3,a 12 13] (C 12 (S [f 14 46 4 1,l 15 3 14,f 16 46 4 2,l 17 3 16,f 19 46 4 2,l 20 3 19,⟨some 18,.call
 ⟨.value (.func 60),#[t 15,t 17],#[3,3]⟩,none,[⟨none,3,t 19,20⟩]⟩,b 21 .eql 3 (t 18) (t 20) 3,a 6 21] .ret) (.seq (S [b 23 .eql 3 (t 11) (i 2) 3,a 22 23] (C 22
 .skip (.ops [b 24 .eql 3 (t 11) (i 3) 3,a 22 24]))) (C 22 (S [f 25 46 4 2,l 26 3 25,b 27 .geq 3 (t 26) (i 0) 3,m 28 27,w 29 (.fieldAddr 46 (t 4) 2) 28 true,w
 30 (.load 3 (t 29)) 28 true,w 31 (.move (t 0)) 28 true,w 32 (.nilCheck (t 31)) 28 true,w 33 (.fieldAddr 72 (t 32) 2) 28 true,w 34 (.load 25 (t 33)) 28 true,w
 35 (.call ⟨.builtin .len,#[t 34],#[25]⟩) 28 true,w 36 (.binOp .lss 3 (t 30) (t 35) 3) 28 true,d 37 (.pick (t 28) (t 36) (.const (.bool false))),a 6 37] .ret)
 (S [b 39 .eql 3 (t 11) (i 10) 3,a 38 39] (C 38 (S [m 41 0,n 42 41,f 43 72 42 0,l 44 24 43,f 45 46 4 2,l 46 3 45,c 47 93 #[t 44,t 46] #[24,3],m 40 47,d 48
 (.extract (t 40) 0),d 49 (.extract (t 40) 1),d 50 (.extract (t 40) 2),a 7 48,a 8 49,a 9 50] (S [m 51 9,a 6 51] .ret)) (.seq (S [b 53 .eql 3 (t 11) (i 14) 3,a
 52 53] (C 52 .skip (.ops [b 54 .eql 3 (t 11) (i 15) 3,a 52 54]))) (C 52 (S [f 55 46 4 2,l 56 3 55,b 57 .geq 3 (t 56) (i 0) 3,m 58 57,w 59 (.fieldAddr 46 (t 4)
 2) 58 true,w 60 (.load 3 (t 59)) 58 true,w 61 (.move (t 2)) 58 true,w 62 (.binOp .leq 3 (t 60) (t 61) 3) 58 true,d 63 (.pick (t 58) (t 62) (.const (.bool
 false))),a 6 63] .ret) .skip)))))))))) (S [A 6 (.const (.bool true))] .ret)) }).1
theorem calls66 (hn : args.length = 3) (h : avc Tryz.prog G 64 pc66 (afin Tryz.prog [.tmp 6] R) (frame0 args) σ) : ACalls Tryz.prog G 66 args σ R :=
  acalls' (n := 64) (l := [.tmp 6]) mixed Tryz.func66 (by kernel_rfl) (by kernel_rfl) (by kernel_rfl) (by omega) h
def pc67 : PC := (⟨_, by delta C S b c d f i l m n s t w; exact rfl⟩ : { p : PC // p = S [d 5 (.box 92 (t 1)),d 6 (.box 46 (t 2)),d 8 (.alloc 92)] (.seq (S [f 9
 46 6 0,l 10 3 9,b 11 .eql 3 (t 10) (i 15) 3] (C 11 (S [m 12 0,l 13 92 5,c 14 68 #[t 12,t 13,i 1] #[70,92,3],s 92 5 14] (.seq (S [f 15 46 6 2,l 16 3 15,m 17 3,b
 18 .eql 3 (t 16) (t 17) 3] (C 18 (.ops [m 19 0,l 20 92 5,m 22 0,n 23 22,f 24 72 23 1,f 25 41 24 3,l 26 3 25,⟨some 21,.call ⟨.value (.func 47),#[t 19,t
 20],#[70,92]⟩,none,[⟨none,3,t 25,26⟩]⟩,c 27 71 #[t 21,t 26] #[92,3],s 92 5 27]) .skip)) (S [l 28 92 5,s 92 8 28] .ret))) .skip)) (.seq (S [f 29 46 6 0,l 30 3
 29,b 31 .eql 3 (t 30) (i 16) 3,m 32 31,w 33 (.fieldAddr 46 (t 6) 0) 32 false,w 34 (.load 3 (t 33)) 32 false,w 35 (.binOp .eql 3 (t 34) (i 14) 3) 32 false,w 36
 (.move (t 35)) 32 false,w 37 (.fieldAddr 46 (t 6) 2) 36 true,w 38 (.load 3 (t 37)) 36 true,w 39 (.move (t 3)) 36 true,w 40 (.binOp .eql 3 (t 38) (t 39) 3) 36
 true,w 41 (.pick (t 36) (t 40) (.const (.bool false))) 32 false,d 42 (.pick (t 32) (.const (.bool true)) (t 41))] (C 42 (.ops [m 43 0,l 44 92 5,c 45 47 #[t
 43,t 44] #[70,92]]) .skip)) (S [d 46 (.build 92 #[(1,.const (.bool true))]),s 92 8 46] .ret))) }).1
theorem calls67 (hn : args.length = 4) (h : avc Tryz.prog G 47 pc67 (afin Tryz.prog [.cell 8 92] R) (frame0 args) σ) : ACalls Tryz.prog G 67 args σ R :=
  acalls' (n := 47) (l := [.cell 8 92]) mixed Tryz.func67 (by kernel_rfl) (by kernel_rfl) (by kernel_rfl) (by omega) h
def pc68 : PC := (⟨_, by delta C L S a b c d e f i l m n s t w; exact rfl⟩ : { p : PC // p = S [d 4 (.box 92 (t 1)),d 6 (.alloc 92)] (S [f 8 92 4 0,l 9 25 8,L
 10 9 25,a 7 10] (.seq (S [m 11 7,b 12 .gtr 3 (t 11) (i 0) 3,m 13 12,w 14 (.fieldAddr 92 (t 4) 0) 13 true,w 15 (.load 25 (t 14)) 13 true,w 16 (.move (t 7)) 13
 true,w 17 (.binOp .sub 3 (t 16) (i 1) 3) 13 true,w 18 (.indexAddr 25 (t 15) (t 17)) 13 true,w 19 (.load 3 (t 18)) 13 true,w 20 (.move (t 2)) 13 true,w 21
 (.binOp .neq 3 (t 19) (t 20) 3) 13 true,d 22 (.pick (t 13) (t 21) (.const (.bool false))),m 23 22,w 24 (.move (t 0)) 23 true,w 25 (.nilCheck (t 24)) 23 true,w
 26 (.fieldAddr 72 (t 25) 3) 23 true,w 27 (.load 27 (t 26)) 23 true,w 28 (.binOp .eql 27 (t 27) (i 0) 27) 23 true,d 29 (.pick (t 23) (t 28) (.const (.bool
 false)))] (C 29 (.ops [m 30 0,n 31 30,f 32 72 31 3,e (.store 27 (t 32) (i 14))]) .skip)) (S [m 33 0,l 34 92 4,c 35 69 #[t 33,t 34] #[70,92],s 92 6 35] .ret)))
 }).1
theorem calls68 (hn : args.length = 3) (h : avc Tryz.prog G 36 pc68 (afin Tryz.prog [.cell 6 92] R) (frame0 args) σ) : ACalls Tryz.prog G 68 args σ R :=
  acalls' (n := 36) (l := [.cell 6 92]) mixed Tryz.func68 (by kernel_rfl) (by kernel_rfl) (by kernel_rfl) (by omega) h
def pc69 : PC := (⟨_, by delta C L S a b d e f i l m n s t w; exact rfl⟩ : { p : PC // p = S [d 3 (.box 92 (t 1)),d 4 (.alloc 92)] (S [f 6 92 3 0,l 7 25 6,L 8 7
 25,a 5 8] (.seq (S [m 9 5,b 10 .eql 3 (t 9) (i 0) 3] (C 10 (.seq (S [f 11 92 3 1,l 12 4 11,d 13 (.unOp .not 4 (t 12)),m 14 13,w 15 (.move (t 0)) 14 true,w 16
 (.nilCheck (t 15)) 14 true,w 17 (.fieldAddr 72 (t 16) 3) 14 true,w 18 (.load 27 (t 17)) 14 true,w 19 (.binOp .eql 27 (t 18) (i 0) 27) 14 true,d 20 (.pick (t
 14) (t 19) (.const (.bool false)))] (C 20 (.ops [m 21 0,n 22 21,f 23 72 22 3,e (.store 27 (t 23) (i 14))]) .skip)) (S [l 24 92 3,s 92 4 24] .ret)) .skip)) (S
 [f 25 92 3 0,l 26 25 25,m 27 5,b 28 .sub 3 (t 27) (i 1) 3,d 29 (.slice 25 (t 26) none (some (t 28)) none),f 31 92 3 1,l 32 4 31,⟨some 30,.call ⟨.value (.func
 19),#[t 29],#[25]⟩,none,[⟨none,4,t 31,32⟩]⟩,d 33 (.build 92 #[(0,t 30),(1,t 32)]),s 92 4 33] .ret))) }).1
theorem calls69 (hn : args.length = 2) (h : avc Tryz.prog G 34 pc69 (afin Tryz.prog [.cell 4 92] R) (frame0 args) σ) : ACalls Tryz.prog G 69 args σ R :=
  acalls' (n := 34) (l := [.cell 4 92]) mixed Tryz.func69 (by kernel_rfl) (by kernel_rfl) (by kernel_rfl) (by omega) h
def pc70 : PC := (⟨_, by delta A C S a b c d f i l m n t x; exact rfl⟩ : { p : PC // p = S [d 3 (.box 46 (t 1)),A 4 (.const (.slice none 0 0)),A 5 (i 0)] (.seq
 (S [f 9 46 3 0,l 10 3 9] (.block 0 (S [b 12 .eql 3 (t 10) (i 1) 3,a 11 12] (C 11 (S [f 13 46 3 1,l 14 3 13,A 4 (.const (.slice none 0 0)),a 5 14] .ret) (S [b
 16 .eql 3 (t 10) (i 2) 3,a 15 16] (C 15 (S [m 17 0,n 18 17,f 19 72 18 2,l 20 25 19,f 21 46 3 2,l 22 3 21,x 23 25 20 22,l 24 3 23,A 4 (.const (.slice none 0
 0)),a 5 24] .ret) (S [b 26 .eql 3 (t 10) (i 3) 3,a 25 26] (C 25 (S [m 27 0,n 28 27,f 29 72 28 2,l 30 25 29,f 31 46 3 2,l 32 3 31,x 33 25 30 32,l 34 3 33,d 35
 (.buildSlice 25 1 #[(0,t 34)]),a 4 35,A 5 (i 0)] .ret) (S [b 37 .eql 3 (t 10) (i 4) 3,a 36 37] (C 36 (.seq (S [f 38 46 3 5,l 39 9 38,c 40 88 #[t 39] #[9],b 41
 .geq 3 (t 40) (i 10) 3] (C 41 (S [f 42 46 3 1,l 43 3 42,f 44 46 3 1,l 45 3 44,d 46 (.buildSlice 25 2 #[(0,t 43),(1,t 45)]),a 4 46,A 5 (i 1)] .ret) .skip)) (S
 [f 47 46 3 1,l 48 3 47,f 49 46 3 1,l 50 3 49,d 51 (.buildSlice 25 2 #[(0,t 48),(1,t 50)]),f 52 46 3 1,l 53 3 52,a 4 51,a 5 53] .ret)) (S [b 55 .eql 3 (t 10) (i
 5) 3,a 54 55] (C 54 (S [f 56 46 3 1,l 57 3 56,d 58 (.buildSlice 25 1 #[(0,t 57)]),a 4 58,A 5 (i 1)] .ret) (S [b 60 .eql 3 (t 10) (i 6) 3,a 59 60] (C 59 (S [d
 61 (.buildSlice 25 1 #[(0,i 2)]),a 4 61,A 5 (i 1)] .ret) (S [b 63 .eql 3 (t 10) (i 7) 3,a 62 63] (C 62 (S [d 64 (.buildSlice 25 1 #[(0,i 1)]),a 4 64,A 5 (i 2)]
 .ret) (S [b 66 .eql 3 (t 10) (i 8) 3,a 65 66] (C 65 (S [d 67 (.buildSlice 25 1 #[(0,i 1)]),f 68 46 3 1,l 69 3 68,a 4 67,a 5 69] .ret) (S [b 71 .eql 3 (t 10) (i
 9) 3,a 70 71] (C 70 (S [f 72 46 3 1,l 73 3 72,d 74 (.buildSlice 25 2 #[(0,i 1),(1,t 73)]),a 4 74,A 5 (i 0)] .ret) (S [b 76 .eql 3 (t 10) (i 10) 3,a 75 76] (C
 75 (S [m 78 0,n 79 78,f 80 72 79 0,l 81 24 80,f 82 46 3 2,l 83 3 82,c 84 93 #[t 81,t 83] #[24,3],m 77 84,d 85 (.extract (t 77) 0),d 86 (.extract (t 77) 1),d 87
 (.extract (t 77) 2),a 6 85,a 7 86,a 8 87] (S [m 88 6,m 89 7,a 4 88,a 5 89] .ret)) .skip)))))))))))))))))))))) (S [A 4 (.const (.slice none 0 0)),A 5 (i 0)]
 .ret)) }).1
theorem calls70 (hn : args.length = 2) (h : avc Tryz.prog G 90 pc70 (afin Tryz.prog [.tmp 4, .tmp 5] R) (frame0 args) σ) : ACalls Tryz.prog G 70 args σ R :=
  acalls' (n := 90) (l := [.tmp 4, .tmp 5]) mixed Tryz.func70 (by kernel_rfl) (by kernel_rfl) (by kernel_rfl) (by omega) h
def pc71 : PC := (⟨_, by delta C S b d f i l m s t; exact rfl⟩ : { p : PC // p = S [d 2 (.box 92 (t 0)),d 4 (.alloc 92)] (.seq (S [m 5 1,b 6 .eql 3 (t 5) (i 0)
 3] (C 6 (S [l 7 92 2,s 92 4 7] .ret) .skip)) (S [f 8 92 2 0,l 9 25 8,m 11 1,d 12 (.buildSlice 25 1 #[(0,t 11)]),f 14 92 2 1,l 15 4 14,⟨some 10,.call ⟨.value
 (.func 19),#[t 9],#[25]⟩,none,[⟨none,4,t 14,15⟩]⟩,⟨some 13,.call ⟨.builtin .append,#[t 10,t 12],#[25,25]⟩,none,[⟨none,4,t 14,15⟩]⟩,d 16 (.build 92 #[(0,t
 13),(1,t 15)]),s 92 4 16] .ret)) }).1
theorem calls71 (hn : args.length = 2) (h : avc Tryz.prog G 17 pc71 (afin Tryz.prog [.cell 4 92] R) (frame0 args) σ) : ACalls Tryz.prog G 71 args σ R :=
  acalls' (n := 17) (l := [.cell 4 92]) mixed Tryz.func71 (by kernel_rfl) (by kernel_rfl) (by kernel_rfl) (by omega) h
def pc72 : PC := (⟨_, by delta A C L S a b d e i m t; exact rfl⟩ : { p : PC // p = S [A 4 (.const (.slice none 0 0))] (.seq (S [m 5 1,b 6 .lss 3 (t 5) (i 0) 3]
 (C 6 (.ops [d 7 (.makeInterface 9 (.const (.string ⟨#[99,97,110,110,111,116,32,98,101,32,110,101,103,97,116,105,118,101]⟩))),e (.panic (t 7))]) .skip)) (.seq
 (S [m 8 1,m 9 0,d 10 (.call ⟨.builtin .cap,#[t 9],#[25]⟩),m 11 0,L 12 11 25,b 13 .sub 3 (t 10) (t 12) 3,b 14 .sub 3 (t 8) (t 13) 3,a 1 14] (S [m 15 1,b 16 .gtr
 3 (t 15) (i 0) 3] (C 16 (.ops [m 17 0,m 18 0,d 19 (.call ⟨.builtin .cap,#[t 18],#[25]⟩),d 20 (.slice 25 (t 17) none (some (t 19)) none),m 21 1,d 22 (.call
 ⟨.builtin .append,#[t 20,t 21],#[25,3]⟩),m 23 0,L 24 23 25,d 25 (.slice 25 (t 22) none (some (t 24)) none),a 0 25]) .skip))) (S [m 26 0,a 4 26] .ret))) }).1
theorem calls72 (hn : args.length = 2) (h : avc Tryz.prog G 27 pc72 (afin Tryz.prog [.tmp 4] R) (frame0 args) σ) : ACalls Tryz.prog G 72 args σ R :=
  acalls' (n := 27) (l := [.tmp 4]) mixed Tryz.func72 (by kernel_rfl) (by kernel_rfl) (by kernel_rfl) (by omega) h
def pc73_l1 : PC := (⟨_, by delta C S a b d i l m t x; exact rfl⟩ : { p : PC // p = S [b 9 .lss 3 (t 8) (t 7) 3] (.seq (C 9 .skip (.exit 0)) (.seq (.block 1 (S
 [m 10 8,a 5 10] (S [m 11 1,m 12 0,m 13 5,x 14 25 12 13,l 15 3 14,d 16 (.call ⟨.value (t 11),#[t 15],#[3]⟩)] (C 16 (S [m 17 5,a 4 17] .ret) .skip)))) (.ops [b
 18 .add 3 (t 8) (i 1) 3,m 8 18]))) }).1
def pc73_r1 : PC := (⟨_, by delta A S i; exact rfl⟩ : { p : PC // p = S [A 4 (i (-1))] .ret }).1
def pc73 : PC := (⟨_, by delta A L S d i m; exact rfl⟩ : { p : PC // p = S [A 4 (i 0)] (.seq (S [m 6 0,L 7 6 25,d 8 (.move (i 0))] (.block 0 (.loop pc73_l1)))
 pc73_r1) }).1
theorem calls73 (hn : args.length = 2) (h : avc Tryz.prog G 19 pc73 (afin Tryz.prog [.tmp 4] R) (frame0 args) σ) : ACalls Tryz.prog G 73 args σ R :=
  acalls' (n := 19) (l := [.tmp 4]) mixed Tryz.func73 (by kernel_rfl) (by kernel_rfl) (by kernel_rfl) (by omega) h
def pc74 : PC := (⟨_, by delta A C S a b d f i l m t w; exact rfl⟩ : { p : PC // p = S [d 1 (.box 46 (t 0)),A 2 (.const (.slice none 0 0))] (.seq (.block 0
 (.seq (S [f 4 46 1 0,l 5 3 4,b 6 .eql 3 (t 5) (i 11) 3,a 3 6] (C 3 .skip (S [f 7 46 1 0,l 8 3 7,b 9 .eql 3 (t 8) (i 12) 3,a 3 9] (C 3 .skip (.ops [f 10 46 1
 0,l 11 3 10,b 12 .eql 3 (t 11) (i 13) 3,m 13 12,w 14 (.fieldAddr 46 (t 1) 4) 13 true,w 15 (.load 3 (t 14)) 13 true,w 16 (.binOp .lss 3 (t 15) (i 0) 3) 13
 true,d 17 (.pick (t 13) (t 16) (.const (.bool false))),a 3 17]))))) (C 3 (S [f 18 46 1 3,l 19 3 18,d 20 (.buildSlice 25 1 #[(0,t 19)]),a 2 20] .ret) (S [f 22
 46 1 0,l 23 3 22,b 24 .eql 3 (t 23) (i 13) 3,a 21 24] (C 21 (S [f 25 46 1 3,l 26 3 25,f 27 46 1 4,l 28 3 27,d 29 (.buildSlice 25 2 #[(0,t 26),(1,t 28)]),a 2
 29] .ret) .skip))))) (S [A 2 (.const (.slice none 0 0))] .ret)) }).1
theorem calls74 (hn : args.length = 1) (h : avc Tryz.prog G 30 pc74 (afin Tryz.prog [.tmp 2] R) (frame0 args) σ) : ACalls Tryz.prog G 74 args σ R :=
  acalls' (n := 30) (l := [.tmp 2]) mixed Tryz.func74 (by kernel_rfl) (by kernel_rfl) (by kernel_rfl) (by omega) h
def pc75 : PC := (⟨_, by delta A S a b c i m t; exact rfl⟩ : { p : PC // p = S [A 4 (.const (.bool false))] (S [m 5 0,m 6 1,c 7 94 #[t 5,t 6] #[112,4],b 8 .geq
 3 (t 7) (i 0) 3,a 4 8] .ret) }).1
theorem calls75 (hn : args.length = 2) (h : avc Tryz.prog G 9 pc75 (afin Tryz.prog [.tmp 4] R) (frame0 args) σ) : ACalls Tryz.prog G 75 args σ R :=
  acalls' (n := 9) (l := [.tmp 4]) mixed Tryz.func75 (by kernel_rfl) (by kernel_rfl) (by kernel_rfl) (by omega) h
def pc76 : PC := (⟨_, by delta C S a b c d f i l m n t; exact rfl⟩ : { p : PC // p = S [d 3 (.box 46 (t 1))] (S [l 4 46 3,c 5 95 #[t 4] #[46],c 6 34 #[t 5,i 2]
 #[4,27]] (S [m 7 0,l 8 46 3,c 9 96 #[t 7,t 8] #[114,46],c 10 34 #[t 9,i 11] #[4,27]] (S [f 11 46 3 0,l 12 3 11] (.block 0 (.seq (S [b 17 .eql 3 (t 12) (i 11)
 3,a 16 17] (C 16 .skip (.ops [b 18 .eql 3 (t 12) (i 12) 3,a 16 18]))) (C 16 (.ops [m 19 0,n 20 19,f 21 116 20 0,l 22 79 21,f 23 46 3 3,l 24 3 23,m 25 0,n 26
 25,f 27 116 26 3,l 28 3 27,b 29 .add 3 (t 28) (i 1) 3,c 30 53 #[t 22,t 24,t 29] #[79,3,3]]) (S [b 32 .eql 3 (t 12) (i 13) 3,a 31 32] (C 31 (S [m 33 0,d 34
 (.buildSlice 25 1 #[(0,i 1)]),c 35 97 #[t 33,t 34] #[114,25]] (S [m 36 0,n 37 36,f 38 116 37 0,l 39 79 38,f 40 46 3 3,l 41 3 40,m 42 0,n 43 42,f 44 116 43 3,l
 45 3 44,b 46 .add 3 (t 45) (i 1) 3,c 47 53 #[t 39,t 41,t 46] #[79,3,3]] (S [f 48 46 3 4,l 49 3 48,b 50 .geq 3 (t 49) (i 0) 3] (C 50 (.ops [m 51 0,n 52 51,f 53
 116 52 0,l 54 79 53,f 55 46 3 4,l 56 3 55,m 57 0,n 58 57,f 59 116 58 3,l 60 3 59,b 61 .add 3 (t 60) (i 1) 3,c 62 53 #[t 54,t 56,t 61] #[79,3,3]]) .skip)))) (S
 [b 64 .eql 3 (t 12) (i 15) 3,a 63 64] (C 63 (S [m 65 0,d 66 (.buildSlice 25 1 #[(0,i 1)]),c 67 97 #[t 65,t 66] #[114,25]] (S [f 68 46 3 2,l 69 3 68,m 70 0,n 71
 70,f 72 116 71 3,l 73 3 72,b 74 .eql 3 (t 69) (t 73) 3] (C 74 (S [m 75 0,c 76 77 #[t 75] #[114]] (.ops [m 77 0,m 78 0,n 79 78,f 80 116 79 0,l 81 79 80,n 82
 81,f 83 81 82 1,f 84 41 83 3,l 85 3 84,c 86 98 #[t 77,t 85] #[114,3]])) .skip))) (S [b 88 .eql 3 (t 12) (i 14) 3,a 87 88] (C 87 (.seq (S [f 89 46 3 2,l 90 3
 89,m 91 0,n 92 91,f 93 116 92 3,l 94 3 93,b 95 .eql 3 (t 90) (t 94) 3] (C 95 (.ops [m 96 0,c 97 77 #[t 96] #[114]]) .skip)) (.ops [m 98 0,c 99 99 #[t 98]
 #[114]])) (S [b 101 .eql 3 (t 12) (i 16) 3,a 100 101] (C 100 (S [m 102 0,c 103 77 #[t 102] #[114]] (.ops [m 104 0,c 105 99 #[t 104] #[114]])) (S [b 107 .eql 3
 (t 12) (i 17) 3,a 106 107] (C 106 (.ops [m 108 0,c 109 99 #[t 108] #[114]]) (.ops [m 13 0,l 14 46 3,c 15 100 #[t 13,t 14] #[114,46]]))))))))))))))))) }).1
theorem calls76 (hn : args.length = 2) (h : avc Tryz.prog G 110 pc76 (afin Tryz.prog [] R) (frame0 args) σ) : ACalls Tryz.prog G 76 args σ R :=
  acalls' (n := 110) (l := []) mixed Tryz.func76 (by kernel_rfl) (by kernel_rfl) (by kernel_rfl) (by omega) h
def pc77 : PC := (⟨_, by delta C S b c d f i l m n t; exact rfl⟩ : { p : PC // p = S [m 2 0,n 3 2,f 4 116 3 0,l 5 79 4,n 6 5,f 7 81 6 1,f 8 41 7 3,l 9 3 8,b 10
 .neq 3 (t 9) (i 0) 3] (C 10 (.ops [m 11 0,m 12 0,n 13 12,f 14 116 13 0,l 15 79 14,n 16 15,f 17 81 16 1,f 18 41 17 3,l 19 3 18,d 20 (.buildSlice 25 1 #[(0,t
 19)]),c 21 97 #[t 11,t 20] #[114,25]]) .skip) }).1
theorem calls77 (hn : args.length = 1) (h : avc Tryz.prog G 22 pc77 (afin Tryz.prog [] R) (frame0 args) σ) : ACalls Tryz.prog G 77 args σ R :=
  acalls' (n := 22) (l := []) mixed Tryz.func77 (by kernel_rfl) (by kernel_rfl) (by kernel_rfl) (by omega) h
def pc78_l1 : PC := (⟨_, by delta C L S a b d i l m t x; exact rfl⟩ : { p : PC // p = .seq (S [m 5 4,m 6 0,L 7 6 42,b 8 .lss 3 (t 5) (t 7) 3] (C 8 .skip (.exit
 0))) (.seq (.block 1 (.ops [m 11 3,m 12 0,m 13 4,x 14 42 12 13,l 15 46 14,d 16 (.buildSlice 42 1 #[(0,t 15)]),d 17 (.call ⟨.builtin .append,#[t 11,t
 16],#[42,42]⟩),a 3 17])) (.ops [m 9 4,b 10 .add 3 (t 9) (i 1) 3,a 4 10])) }).1
def pc78_r1 : PC := (⟨_, by delta S a m; exact rfl⟩ : { p : PC // p = S [m 18 3,a 2 18] .ret }).1
def pc78 : PC := (⟨_, by delta A S i; exact rfl⟩ : { p : PC // p = S [A 2 (.const (.slice none 0 0))] (S [A 3 (.const (.slice none 0 0))] (.seq (S [A 4 (i 0)]
 (.block 0 (.loop pc78_l1))) pc78_r1)) }).1
theorem calls78 (hn : args.length = 1) (h : avc Tryz.prog G 19 pc78 (afin Tryz.prog [.tmp 2] R) (frame0 args) σ) : ACalls Tryz.prog G 78 args σ R :=
  acalls' (n := 19) (l := [.tmp 2]) mixed Tryz.func78 (by kernel_rfl) (by kernel_rfl) (by kernel_rfl) (by omega) h
def pc79 : PC := (⟨_, by delta d f l m n s t; exact rfl⟩ : { p : PC // p = .ops [m 4 0,m 5 0,n 6 5,f 7 86 6 2,l 8 25 7,m 9 1,d 10 (.buildSlice 25 1 #[(0,t
 9)]),d 11 (.call ⟨.builtin .append,#[t 8,t 10],#[25,25]⟩),n 12 4,f 13 86 12 2,s 25 13 11] }).1
theorem calls79 (hn : args.length = 2) (h : avc Tryz.prog G 14 pc79 (afin Tryz.prog [] R) (frame0 args) σ) : ACalls Tryz.prog G 79 args σ R :=
  acalls' (n := 14) (l := []) mixed Tryz.func79 (by kernel_rfl) (by kernel_rfl) (by kernel_rfl) (by omega) h
def pc80 : PC := (⟨_, by delta A C S a b c d i m t; exact rfl⟩ : { p : PC // p = S [A 8 (i 0),A 9 (i 0)] (.seq (S [m 10 0] (.block 0 (S [b 12 .eql 3 (t 10) (i
 1) 3,a 11 12] (C 11 (S [m 13 1,m 14 2,d 15 (.convert 3 21 (t 14)),m 16 3,d 17 (.convert 3 21 (t 16)),c 18 101 #[t 13,t 15,t 17,i 32] #[9,21,21,3],d 19
 (.extract (t 18) 0),d 20 (.extract (t 18) 1),a 8 19,a 9 20] .ret) (S [b 22 .eql 3 (t 10) (i 2) 3,a 21 22] (C 21 (S [m 23 1,m 24 2,m 25 3,c 26 102 #[t 23,t 24,t
 25,i 64] #[9,2,2,3],d 27 (.extract (t 26) 0),d 28 (.extract (t 26) 1),a 8 27,a 9 28] .ret) .skip)))))) (S [A 8 (i 0),A 9 (i 0)] .ret)) }).1
theorem calls80 (hn : args.length = 4) (h : avc Tryz.prog G 29 pc80 (afin Tryz.prog [.tmp 8, .tmp 9] R) (frame0 args) σ) : ACalls Tryz.prog G 80 args σ R :=
  acalls' (n := 29) (l := [.tmp 8, .tmp 9]) mixed Tryz.func80 (by kernel_rfl) (by kernel_rfl) (by kernel_rfl) (by omega) h
def pc81_l1 : PC := (⟨_, by delta C S a b d i l m s t; exact rfl⟩ : { p : PC // p = S [b 7 .lss 3 (t 6) (i 16) 3] (.seq (C 7 .skip (.exit 0)) (.seq (.block 1 (S
 [d 8 (.index 139 (t 5) (t 6)),d 4 (.alloc 138),s 138 4 8] (S [d 9 (.indexAddr 138 (t 4) (i 0)),l 10 9 9,m 11 0,b 12 .eql 9 (t 10) (t 11) 9] (C 12 (S [d 13
 (.indexAddr 138 (t 4) (i 1)),l 14 9 13,a 2 14] .ret) .skip)))) (.ops [b 15 .add 3 (t 6) (i 1) 3,m 6 15]))) }).1
def pc81_r1 : PC := (⟨_, by delta A S; exact rfl⟩ : { p : PC // p = S [A 2 (.const (.string ⟨#[]⟩))] .ret }).1
def pc81 : PC := (⟨_, by delta A S d i; exact rfl⟩ : { p : PC // p = S [A 2 (.const (.string ⟨#[]⟩))] (.seq (S [d 5 (.load 139 (.global 0)),d 6 (.move (i 0))]
 (.block 0 (.loop pc81_l1))) pc81_r1) }).1
theorem calls81 (hn : args.length = 1) (h : avc Tryz.prog G 16 pc81 (afin Tryz.prog [.tmp 2] R) (frame0 args) σ) : ACalls Tryz.prog G 81 args σ R :=
  acalls' (n := 16) (l := [.tmp 2]) mixed Tryz.func81 (by kernel_rfl) (by kernel_rfl) (by kernel_rfl) (by omega) h
def pc82 : PC := (⟨_, by delta A C S a b d i m t; exact rfl⟩ : { p : PC // p = S [A 4 (i 0)] (.seq (S [m 5 0] (.block 0 (S [b 7 .eql 3 (t 5) (i 3) 3,a 6 7] (C 6
 (S [m 8 1,d 9 (.convert 3 140 (t 8)),d 10 (.convert 140 3 (t 9)),a 4 10] .ret) (S [b 12 .eql 3 (t 5) (i 1) 3,a 11 12] (C 11 (S [m 13 1,d 14 (.convert 3 21 (t
 13)),d 15 (.convert 21 3 (t 14)),a 4 15] .ret) (S [b 17 .eql 3 (t 5) (i 2) 3,a 16 17] (C 16 (S [m 18 1,a 4 18] .ret) .skip)))))))) (S [A 4 (i 0)] .ret)) }).1
theorem calls82 (hn : args.length = 2) (h : avc Tryz.prog G 19 pc82 (afin Tryz.prog [.tmp 4] R) (frame0 args) σ) : ACalls Tryz.prog G 82 args σ R :=
  acalls' (n := 19) (l := [.tmp 4]) mixed Tryz.func82 (by kernel_rfl) (by kernel_rfl) (by kernel_rfl) (by omega) h
def pc83_l1 : PC := (⟨_, by delta C S a b d i l m t x; exact rfl⟩ : { p : PC // p = S [b 10 .lss 3 (t 9) (t 8) 3] (.seq (C 10 .skip (.exit 0)) (.seq (.block 1
 (S [m 11 9,x 12 51 7 9,l 13 5 12,a 4 11,a 5 13] (.ops [m 14 3,m 15 5,d 16 (.convert 5 130 (t 15)),m 17 4,b 18 .mul 3 (i 8) (t 17) 3,b 19 .shl 130 (t 16) (t 18)
 3,b 20 .or 130 (t 14) (t 19) 130,a 3 20]))) (.ops [b 21 .add 3 (t 9) (i 1) 3,m 9 21]))) }).1
def pc83_r1 : PC := (⟨_, by delta L S a b d i m t; exact rfl⟩ : { p : PC // p = S [m 22 0,L 23 22 51,b 24 .mul 3 (i 8) (t 23) 3,b 25 .sub 3 (i 64) (t 24) 3,a 6
 25] (S [m 26 3,m 27 6,b 28 .shl 130 (t 26) (t 27) 3,d 29 (.convert 130 3 (t 28)),m 30 6,b 31 .shr 3 (t 29) (t 30) 3,a 2 31] .ret) }).1
def pc83 : PC := (⟨_, by delta A L S d i m; exact rfl⟩ : { p : PC // p = S [A 2 (i 0)] (S [A 3 (.const (.int .u64 0))] (.seq (S [m 7 0,L 8 7 51,d 9 (.move (i
 0))] (.block 0 (.loop pc83_l1))) pc83_r1)) }).1
theorem calls83 (hn : args.length = 1) (h : avc Tryz.prog G 32 pc83 (afin Tryz.prog [.tmp 2] R) (frame0 args) σ) : ACalls Tryz.prog G 83 args σ R :=
  acalls' (n := 32) (l := [.tmp 2]) mixed Tryz.func83 (by kernel_rfl) (by kernel_rfl) (by kernel_rfl) (by omega) h
def pc84 : PC := (⟨_, by delta A C S a b c d f i l m n t w; exact rfl⟩ : { p : PC // p = S [A 6 (.const (.slice none 0 0))] (.seq (S [m 7 1,b 8 .lss 3 (t 7) (i
 0) 3,m 9 8,w 10 (.move (t 1)) 9 false,w 11 (.move (t 0)) 9 false,w 12 (.nilCheck (t 11)) 9 false,w 13 (.fieldAddr 53 (t 12) 3) 9 false,w 14 (.load 51 (t 13)) 9
 false,w 15 (.call ⟨.builtin .len,#[t 14],#[51]⟩) 9 false,w 16 (.move (t 2)) 9 false,w 17 (.binOp .sub 3 (t 15) (t 16) 3) 9 false,w 18 (.binOp .gtr 3 (t 10) (t
 17) 3) 9 false,d 19 (.pick (t 9) (.const (.bool true)) (t 18))] (C 19 (.ops [c 20 37 #[i 3] #[3]]) .skip)) (S [m 21 0,n 22 21,f 23 53 22 3,l 24 51 23,m 25 1,m
 26 1,m 27 2,b 28 .add 3 (t 26) (t 27) 3,d 29 (.slice 51 (t 24) (some (t 25)) (some (t 28)) none),a 6 29] .ret)) }).1
theorem calls84 (hn : args.length = 3) (h : avc Tryz.prog G 30 pc84 (afin Tryz.prog [.tmp 6] R) (frame0 args) σ) : ACalls Tryz.prog G 84 args σ R :=
  acalls' (n := 30) (l := [.tmp 6]) mixed Tryz.func84 (by kernel_rfl) (by kernel_rfl) (by kernel_rfl) (by omega) h
def pc85 : PC := (⟨_, by delta C L S a b c d e f i l m n s t x; exact rfl⟩ : { p : PC // p = S [m 10 2] (.block 0 (S [b 56 .eql 3 (t 10) (i 0) 3,a 55 56] (C 55
 (.ops [m 57 1,m 58 0,c 59 103 #[t 58] #[50],c 60 79 #[t 57,t 59] #[84,3]]) (S [b 62 .eql 3 (t 10) (i 1) 3,a 61 62] (C 61 (.ops [m 63 0,m 64 0,n 65 64,f 66 53
 65 4,l 67 25 66,m 68 1,⟨some 69,.call ⟨.value (.func 39),#[t 68],#[84]⟩,none,[⟨none,25,t 66,67⟩]⟩,d 70 (.buildSlice 25 1 #[(0,t 69)]),d 71 (.call ⟨.builtin
 .append,#[t 67,t 70],#[25,25]⟩),n 72 63,f 73 53 72 4,s 25 73 71]) (S [b 75 .eql 3 (t 10) (i 2) 3,a 74 75] (C 74 (.ops [m 76 1,c 77 39 #[t 76] #[84],d 78
 (.build 55 #[(0,i 2),(1,t 77)]),d 79 (.makeInterface 55 (t 78)),e (.panic (t 79))]) (S [m 11 0,n 12 11,f 13 53 12 0,f 14 24 13 0,l 15 22 14,m 16 2,b 17 .sub 3
 (t 16) (i 3) 3,x 18 22 15 17,l 19 41 18,d 6 (.alloc 41),s 41 6 19] (S [m 20 1,n 21 20,f 22 86 21 2,l 23 25 22,L 24 23 25,f 25 41 6 1,l 26 25 25,L 27 26 25,b 28
 .sub 3 (t 24) (t 27) 3,a 7 28] (S [m 29 1,n 30 29,f 31 86 30 2,l 32 25 31,m 33 7,d 34 (.slice 25 (t 32) (some (t 33)) none none),c 35 104 #[t 34] #[25],a 8 35]
 (S [m 36 1,m 37 1,n 38 37,f 39 86 38 2,l 40 25 39,m 41 7,d 42 (.slice 25 (t 40) none (some (t 41)) none),n 43 36,f 44 86 43 2,s 25 44 42] (S [m 45 0,l 46 41
 6,m 47 8,c 48 22 #[t 45,t 46,t 47] #[50,41,25],a 9 48] (S [f 49 41 6 3,l 50 3 49,b 51 .neq 3 (t 50) (i 0) 3] (C 51 (.ops [m 52 1,m 53 9,c 54 79 #[t 52,t 53]
 #[84,3]]) .skip)))))))))))))) }).1
theorem calls85 (hn : args.length = 3) (h : avc Tryz.prog G 80 pc85 (afin Tryz.prog [] R) (frame0 args) σ) : ACalls Tryz.prog G 85 args σ R :=
  acalls' (n := 80) (l := []) mixed Tryz.func85 (by kernel_rfl) (by kernel_rfl) (by kernel_rfl) (by omega) h
def pc86 : PC := (⟨_, by delta A S a d; exact rfl⟩ : { p : PC // p = S [A 0 (.const (.slice none 0 0)),A 1 (.const (.slice none 0 0))] (S [d 2 (.buildSlice 124
 16 #[(0,.const (.string ⟨#[97,100,100]⟩)),(1,.const (.string ⟨#[115,117,98]⟩)),(2,.const (.string ⟨#[109,117,108]⟩)),(3,.const (.string
 ⟨#[100,105,118,95,115]⟩)),(4,.const (.string ⟨#[114,101,109,95,115]⟩)),(5,.const (.string ⟨#[97,110,100]⟩)),(6,.const (.string ⟨#[111,114]⟩)),(7,.const
 (.string ⟨#[120,111,114]⟩)),(8,.const (.string ⟨#[115,104,108]⟩)),(9,.const (.string ⟨#[115,104,114,95,115]⟩)),(10,.const (.string ⟨#[101,113]⟩)),(11,.const
 (.string ⟨#[110,101]⟩)),(12,.const (.string ⟨#[108,116,95,115]⟩)),(13,.const (.string ⟨#[108,101,95,115]⟩)),(14,.const (.string
 ⟨#[103,116,95,115]⟩)),(15,.const (.string ⟨#[103,101,95,115]⟩))]),d 3 (.buildSlice 124 16 #[(0,.const (.string ⟨#[43]⟩)),(1,.const (.string ⟨#[45]⟩)),(2,.const
 (.string ⟨#[42]⟩)),(3,.const (.string ⟨#[47]⟩)),(4,.const (.string ⟨#[37]⟩)),(5,.const (.string ⟨#[38]⟩)),(6,.const (.string ⟨#[124]⟩)),(7,.const (.string
 ⟨#[94]⟩)),(8,.const (.string ⟨#[60,60]⟩)),(9,.const (.string ⟨#[62,62]⟩)),(10,.const (.string ⟨#[61,61]⟩)),(11,.const (.string ⟨#[33,61]⟩)),(12,.const (.string
 ⟨#[60]⟩)),(13,.const (.string ⟨#[60,61]⟩)),(14,.const (.string ⟨#[62]⟩)),(15,.const (.string ⟨#[62,61]⟩))]),a 0 2,a 1 3] .ret) }).1
theorem calls86 (hn : args.length = 0) (h : avc Tryz.prog G 4 pc86 (afin Tryz.prog [.tmp 0, .tmp 1] R) (frame0 args) σ) : ACalls Tryz.prog G 86 args σ R :=
  acalls' (n := 4) (l := [.tmp 0, .tmp 1]) mixed Tryz.func86 (by kernel_rfl) (by kernel_rfl) (by kernel_rfl) (by omega) h
def pc87 : PC := (⟨_, by delta A C S a b c d i m t w; exact rfl⟩ : { p : PC // p = S [A 8 (i 0),A 9 (i 0)] (.seq (S [m 10 0,b 11 .neq 3 (t 10) (i 1) 3,m 12 11,w
 13 (.move (t 0)) 12 true,w 14 (.binOp .neq 3 (t 13) (i 2) 3) 12 true,d 15 (.pick (t 12) (t 14) (.const (.bool false)))] (C 15 (S [A 8 (i 0),A 9 (i 0)] .ret)
 .skip)) (S [m 16 0,m 17 2,c 18 60 #[t 16,t 17] #[3,3],a 2 18] (S [m 19 0,m 20 3,c 21 60 #[t 19,t 20] #[3,3],a 3 21] (.seq (S [m 22 1] (.block 0 (S [b 24 .eql 9
 (t 22) (.const (.string ⟨#[43]⟩)) 9,a 23 24] (C 23 (S [m 25 0,m 26 2,m 27 3,b 28 .add 3 (t 26) (t 27) 3,c 29 60 #[t 25,t 28] #[3,3],a 8 29,A 9 (i 0)] .ret) (S
 [b 31 .eql 9 (t 22) (.const (.string ⟨#[45]⟩)) 9,a 30 31] (C 30 (S [m 32 0,m 33 2,m 34 3,b 35 .sub 3 (t 33) (t 34) 3,c 36 60 #[t 32,t 35] #[3,3],a 8 36,A 9 (i
 0)] .ret) (S [b 38 .eql 9 (t 22) (.const (.string ⟨#[42]⟩)) 9,a 37 38] (C 37 (S [m 39 0,m 40 2,m 41 3,b 42 .mul 3 (t 40) (t 41) 3,c 43 60 #[t 39,t 42] #[3,3],a
 8 43,A 9 (i 0)] .ret) (.seq (S [b 45 .eql 9 (t 22) (.const (.string ⟨#[47]⟩)) 9,a 44 45] (C 44 .skip (.ops [b 46 .eql 9 (t 22) (.const (.string ⟨#[37]⟩)) 9,a
 44 46]))) (C 44 (S [m 47 0,m 48 1,m 49 2,m 50 3,c 51 105 #[t 47,t 48,t 49,t 50] #[3,9,3,3],d 52 (.extract (t 51) 0),d 53 (.extract (t 51) 1),a 8 52,a 9 53]
 .ret) (.seq (S [b 55 .eql 9 (t 22) (.const (.string ⟨#[38]⟩)) 9,a 54 55] (C 54 .skip (S [b 56 .eql 9 (t 22) (.const (.string ⟨#[124]⟩)) 9,a 54 56] (C 54 .skip
 (.ops [b 57 .eql 9 (t 22) (.const (.string ⟨#[94]⟩)) 9,a 54 57]))))) (C 54 (S [m 58 0,m 59 1,m 60 2,m 61 3,c 62 106 #[t 58,t 59,t 60,t 61] #[3,9,3,3],a 8 62,A
 9 (i 0)] .ret) (.seq (S [b 64 .eql 9 (t 22) (.const (.string ⟨#[60,60]⟩)) 9,a 63 64] (C 63 .skip (.ops [b 65 .eql 9 (t 22) (.const (.string ⟨#[62,62]⟩)) 9,a 63
 65]))) (C 63 (S [m 66 0,m 67 1,m 68 2,m 69 3,c 70 107 #[t 66,t 67,t 68,t 69] #[3,9,3,3],a 8 70,A 9 (i 0)] .ret) (S [b 72 .eql 9 (t 22) (.const (.string
 ⟨#[61,61]⟩)) 9,a 71 72] (C 71 (S [m 73 2,m 74 3,b 75 .eql 3 (t 73) (t 74) 3,c 76 108 #[t 75] #[4],a 8 76,A 9 (i 0)] .ret) (S [b 78 .eql 9 (t 22) (.const
 (.string ⟨#[33,61]⟩)) 9,a 77 78] (C 77 (S [m 79 2,m 80 3,b 81 .neq 3 (t 79) (t 80) 3,c 82 108 #[t 81] #[4],a 8 82,A 9 (i 0)] .ret) (S [b 84 .eql 9 (t 22)
 (.const (.string ⟨#[60]⟩)) 9,a 83 84] (C 83 (S [m 85 2,m 86 3,b 87 .lss 3 (t 85) (t 86) 3,c 88 108 #[t 87] #[4],a 8 88,A 9 (i 0)] .ret) (S [b 90 .eql 9 (t 22)
 (.const (.string ⟨#[60,61]⟩)) 9,a 89 90] (C 89 (S [m 91 2,m 92 3,b 93 .leq 3 (t 91) (t 92) 3,c 94 108 #[t 93] #[4],a 8 94,A 9 (i 0)] .ret) (S [b 96 .eql 9 (t
 22) (.const (.string ⟨#[62]⟩)) 9,a 95 96] (C 95 (S [m 97 2,m 98 3,b 99 .gtr 3 (t 97) (t 98) 3,c 100 108 #[t 99] #[4],a 8 100,A 9 (i 0)] .ret) (S [b 102 .eql 9
 (t 22) (.const (.string ⟨#[62,61]⟩)) 9,a 101 102] (C 101 (S [m 103 2,m 104 3,b 105 .geq 3 (t 103) (t 104) 3,c 106 108 #[t 105] #[4],a 8 106,A 9 (i 0)] .ret)
 .skip)))))))))))))))))))))))))) (S [A 8 (i 0),A 9 (i 0)] .ret))))) }).1
theorem calls87 (hn : args.length = 4) (h : avc Tryz.prog G 107 pc87 (afin Tryz.prog [.tmp 8, .tmp 9] R) (frame0 args) σ) : ACalls Tryz.prog G 87 args σ R :=
  acalls' (n := 107) (l := [.tmp 8, .tmp 9]) mixed Tryz.func87 (by kernel_rfl) (by kernel_rfl) (by kernel_rfl) (by omega) h
def pc88_l1 : PC := (⟨_, by delta C L S a b i l m t x; exact rfl⟩ : { p : PC // p = .seq (S [m 10 5,m 11 3,L 12 11 124,b 13 .lss 3 (t 10) (t 12) 3] (C 13 .skip
 (.exit 0))) (.seq (.block 1 (S [m 16 3,m 17 5,x 18 124 16 17,l 19 9 18,m 20 0,b 21 .eql 9 (t 19) (t 20) 9] (C 21 (S [m 22 5,a 2 22] .ret) .skip))) (.ops [m 14
 5,b 15 .add 3 (t 14) (i 1) 3,a 5 15])) }).1
def pc88_r1 : PC := (⟨_, by delta A S i; exact rfl⟩ : { p : PC // p = S [A 2 (i (-1))] .ret }).1
def pc88 : PC := (⟨_, by delta A S a c d i m t; exact rfl⟩ : { p : PC // p = S [A 2 (i 0)] (S [c 7 86 #[] #[],m 6 7,d 8 (.extract (t 6) 0),d 9 (.extract (t 6)
 1),a 3 8,a 4 9] (.seq (S [A 5 (i 0)] (.block 0 (.loop pc88_l1))) pc88_r1)) }).1
theorem calls88 (hn : args.length = 1) (h : avc Tryz.prog G 23 pc88 (afin Tryz.prog [.tmp 2] R) (frame0 args) σ) : ACalls Tryz.prog G 88 args σ R :=
  acalls' (n := 23) (l := [.tmp 2]) mixed Tryz.func88 (by kernel_rfl) (by kernel_rfl) (by kernel_rfl) (by omega) h
def pc89 : PC := (⟨_, by delta A C S a b i m t; exact rfl⟩ : { p : PC // p = S [A 2 (i 0)] (.seq (S [m 3 0] (.block 0 (S [b 5 .eql 3 (t 3) (i 3) 3,a 4 5] (C 4
 (S [A 2 (i 8)] .ret) (S [b 7 .eql 3 (t 3) (i 1) 3,a 6 7] (C 6 (S [A 2 (i 32)] .ret) (S [b 9 .eql 3 (t 3) (i 2) 3,a 8 9] (C 8 (S [A 2 (i 64)] .ret)
 .skip)))))))) (S [A 2 (i 0)] .ret)) }).1
theorem calls89 (hn : args.length = 1) (h : avc Tryz.prog G 10 pc89 (afin Tryz.prog [.tmp 2] R) (frame0 args) σ) : ACalls Tryz.prog G 89 args σ R :=
  acalls' (n := 10) (l := [.tmp 2]) mixed Tryz.func89 (by kernel_rfl) (by kernel_rfl) (by kernel_rfl) (by omega) h
def pc90 : PC := (⟨_, by delta A C S b c d i m t w; exact rfl⟩ : { p : PC // p = S [A 6 (.const (.bool false))] (.seq (S [m 7 1,b 8 .lss 3 (t 7) (i 0) 3,m 9 8,w
 10 (.move (t 1)) 9 false,w 11 (.move (t 2)) 9 false,w 12 (.binOp .add 3 (t 10) (t 11) 3) 9 false,w 13 (.move (t 0)) 9 false,w 14 (.nilCheck (t 13)) 9 false,w
 15 (.fieldAddr 60 (t 14) 2) 9 false,w 16 (.load 51 (t 15)) 9 false,w 17 (.call ⟨.builtin .len,#[t 16],#[51]⟩) 9 false,w 18 (.binOp .gtr 3 (t 12) (t 17) 3) 9
 false,d 19 (.pick (t 9) (.const (.bool true)) (t 18))] (C 19 (S [m 20 0,c 21 27 #[t 20,i 2,i 3] #[57,3,3]] (S [A 6 (.const (.bool false))] .ret)) .skip)) (S [A
 6 (.const (.bool true))] .ret)) }).1
theorem calls90 (hn : args.length = 3) (h : avc Tryz.prog G 22 pc90 (afin Tryz.prog [.tmp 6] R) (frame0 args) σ) : ACalls Tryz.prog G 90 args σ R :=
  acalls' (n := 22) (l := [.tmp 6]) mixed Tryz.func90 (by kernel_rfl) (by kernel_rfl) (by kernel_rfl) (by omega) h
def pc91_l1 : PC := (⟨_, by delta C L S a b c d f i l m t; exact rfl⟩ : { p : PC // p = .seq (S [m 15 6,f 16 41 4 1,l 17 25 16,L 18 17 25,b 19 .lss 3 (t 15) (t
 18) 3] (C 19 .skip (.exit 0))) (.seq (.block 1 (.ops [m 22 0,c 23 41 #[t 22] #[57],d 24 (.buildSlice 25 1 #[(0,t 23)]),m 25 5,d 26 (.call ⟨.builtin .append,#[t
 24,t 25],#[25,25]⟩),a 5 26])) (.ops [m 20 6,b 21 .add 3 (t 20) (i 1) 3,a 6 21])) }).1
def pc91_r1 : PC := (⟨_, by delta C L S a b c d f i l m n s t; exact rfl⟩ : { p : PC // p = .seq (S [m 27 0,n 28 27,f 29 60 28 3,l 30 58 29,L 31 30 58,b 32 .geq
 3 (t 31) (i 32) 3] (C 32 (S [m 33 0,c 34 27 #[t 33,i 2,i 4] #[57,3,3]] .ret) .skip)) (S [m 35 5,f 36 41 4 2,l 37 25 36,L 38 37 25,d 39 (.call ⟨.builtin
 .append,#[t 35,t 38],#[25,3]⟩),a 5 39] (S [m 40 0,m 41 0,n 42 41,f 43 60 42 3,l 44 58 43,m 45 1,m 46 5,d 47 (.build 63 #[(0,t 45),(1,t 46)]),d 48 (.buildSlice
 58 1 #[(0,t 47)]),d 49 (.call ⟨.builtin .append,#[t 44,t 48],#[58,58]⟩),n 50 40,f 51 60 50 3,s 58 51 49] (.ops [m 52 0,f 53 41 4 4,l 54 39 53,L 55 54 39,b 56
 .sub 3 (t 55) (i 1) 3,c 57 24 #[t 52,t 56,.const (.bool false)] #[57,3,4]]))) }).1
def pc91 : PC := (⟨_, by delta A S d f i l m n s x; exact rfl⟩ : { p : PC // p = S [m 7 0,n 8 7,f 9 60 8 0,f 10 24 9 0,l 11 22 10,m 12 1,x 13 22 11 12,l 14 41
 13,d 4 (.alloc 41),s 41 4 14] (S [A 5 (.const (.slice none 0 0))] (.seq (S [A 6 (i 0)] (.block 0 (.loop pc91_l1))) pc91_r1)) }).1
theorem calls91 (hn : args.length = 2) (h : avc Tryz.prog G 58 pc91 (afin Tryz.prog [] R) (frame0 args) σ) : ACalls Tryz.prog G 91 args σ R :=
  acalls' (n := 58) (l := []) mixed Tryz.func91 (by kernel_rfl) (by kernel_rfl) (by kernel_rfl) (by omega) h
def pc92_l1 : PC := (⟨_, by delta A C L S a b d i l m t x; exact rfl⟩ : { p : PC // p = .seq (S [m 11 5,m 12 0,L 13 12 42,b 14 .lss 3 (t 11) (t 13) 3] (C 14
 .skip (.exit 0))) (.seq (.block 1 (S [m 17 0,m 18 5,x 19 42 17 18,l 20 46 19,m 21 1,m 22 5,x 23 42 21 22,l 24 46 23,b 25 .eql 46 (t 20) (t 24) 46,d 26 (.unOp
 .not 4 (t 25))] (C 26 (S [A 4 (.const (.bool false))] .ret) .skip))) (.ops [m 15 5,b 16 .add 3 (t 15) (i 1) 3,a 5 16])) }).1
def pc92_r1 : PC := (⟨_, by delta A S; exact rfl⟩ : { p : PC // p = S [A 4 (.const (.bool true))] .ret }).1
def pc92 : PC := (⟨_, by delta A C L S b i m t; exact rfl⟩ : { p : PC // p = S [A 4 (.const (.bool false))] (.seq (S [m 6 0,L 7 6 42,m 8 1,L 9 8 42,b 10 .neq 3
 (t 7) (t 9) 3] (C 10 (S [A 4 (.const (.bool false))] .ret) .skip)) (.seq (S [A 5 (i 0)] (.block 0 (.loop pc92_l1))) pc92_r1)) }).1
theorem calls92 (hn : args.length = 2) (h : avc Tryz.prog G 27 pc92 (afin Tryz.prog [.tmp 4] R) (frame0 args) σ) : ACalls Tryz.prog G 92 args σ R :=
  acalls' (n := 27) (l := [.tmp 4]) mixed Tryz.func92 (by kernel_rfl) (by kernel_rfl) (by kernel_rfl) (by omega) h
def pc93 : PC := (⟨_, by delta A C S a b d f i l m t w x; exact rfl⟩ : { p : PC // p = S [d 2 (.box 24 (t 0)),A 4 (.const (.slice none 0 0)),A 5 (i 0),A 6
 (.const (.bool false))] (.seq (S [m 7 1,b 8 .eql 3 (t 7) (i 0) 3] (C 8 (S [A 4 (.const (.slice none 0 0)),A 5 (i 2),A 6 (.const (.bool true))] .ret) .skip))
 (.seq (S [m 9 1,b 10 .eql 3 (t 9) (i 1) 3] (C 10 (S [d 11 (.buildSlice 25 1 #[(0,i 2)]),a 4 11,A 5 (i 0),A 6 (.const (.bool true))] .ret) .skip)) (.seq (S [m
 12 1,b 13 .eql 3 (t 12) (i 2) 3] (C 13 (S [d 14 (.buildSlice 25 1 #[(0,i 1)]),a 4 14,A 5 (i 0),A 6 (.const (.bool true))] .ret) .skip)) (.seq (S [m 15 1,b 16
 .lss 3 (t 15) (i 0) 3,m 17 16,w 18 (.move (t 1)) 17 false,w 19 (.fieldAddr 24 (t 2) 0) 17 false,w 20 (.load 22 (t 19)) 17 false,w 21 (.call ⟨.builtin .len,#[t
 20],#[22]⟩) 17 false,w 22 (.binOp .add 3 (t 21) (i 2) 3) 17 false,w 23 (.binOp .gtr 3 (t 18) (t 22) 3) 17 false,d 24 (.pick (t 17) (.const (.bool true)) (t
 23))] (C 24 (S [A 4 (.const (.slice none 0 0)),A 5 (i 0),A 6 (.const (.bool false))] .ret) .skip)) (S [f 25 24 2 0,l 26 22 25,m 27 1,b 28 .sub 3 (t 27) (i 3)
 3,x 29 22 26 28,f 30 41 29 1,l 31 25 30,f 32 24 2 0,l 33 22 32,m 34 1,b 35 .sub 3 (t 34) (i 3) 3,x 36 22 33 35,f 37 41 36 3,l 38 3 37,a 4 31,a 5 38,A 6 (.const
 (.bool true))] .ret))))) }).1
theorem calls93 (hn : args.length = 2) (h : avc Tryz.prog G 39 pc93 (afin Tryz.prog [.tmp 4, .tmp 5, .tmp 6] R) (frame0 args) σ) : ACalls Tryz.prog G 93 args σ R :=
  acalls' (n := 39) (l := [.tmp 4, .tmp 5, .tmp 6]) mixed Tryz.func93 (by kernel_rfl) (by kernel_rfl) (by kernel_rfl) (by omega) h
def pc94_l1 : PC := (⟨_, by delta C S a b i l m t x; exact rfl⟩ : { p : PC // p = S [b 9 .lss 3 (t 8) (t 7) 3] (.seq (C 9 .skip (.exit 0)) (.seq (.block 1 (S [m
 10 8,a 5 10] (S [m 11 1,m 12 0,m 13 5,x 14 112 12 13,l 15 4 14,b 16 .eql 4 (t 11) (t 15) 4] (C 16 (S [m 17 5,a 4 17] .ret) .skip)))) (.ops [b 18 .add 3 (t 8)
 (i 1) 3,m 8 18]))) }).1
def pc94_r1 : PC := (⟨_, by delta A S i; exact rfl⟩ : { p : PC // p = S [A 4 (i (-1))] .ret }).1
def pc94 : PC := (⟨_, by delta A L S d i m; exact rfl⟩ : { p : PC // p = S [A 4 (i 0)] (.seq (S [m 6 0,L 7 6 112,d 8 (.move (i 0))] (.block 0 (.loop pc94_l1)))
 pc94_r1) }).1
theorem calls94 (hn : args.length = 2) (h : avc Tryz.prog G 19 pc94 (afin Tryz.prog [.tmp 4] R) (frame0 args) σ) : ACalls Tryz.prog G 94 args σ R :=
  acalls' (n := 19) (l := [.tmp 4]) mixed Tryz.func94 (by kernel_rfl) (by kernel_rfl) (by kernel_rfl) (by omega) h
def pc95 : PC := (⟨_, by delta A C S a b c d f i l m t w; exact rfl⟩ : { p : PC // p = S [d 1 (.box 46 (t 0)),A 2 (.const (.bool false))] (.seq (S [f 3 46 1 0,l
 4 3 3] (.block 0 (.seq (S [b 6 .eql 3 (t 4) (i 1) 3,a 5 6] (C 5 .skip (.ops [b 7 .eql 3 (t 4) (i 5) 3,a 5 7]))) (C 5 (S [f 8 46 1 1,l 9 3 8,c 10 51 #[t 9]
 #[3],a 2 10] .ret) (S [b 12 .eql 3 (t 4) (i 4) 3,a 11 12] (C 11 (S [f 13 46 1 1,l 14 3 13,c 15 51 #[t 14] #[3],m 16 15,w 17 (.fieldAddr 46 (t 1) 5) 16 true,w
 18 (.load 9 (t 17)) 16 true,w 19 (.call ⟨.value (.func 81),#[t 18],#[9]⟩) 16 true,w 20 (.binOp .neq 9 (t 19) (.const (.string ⟨#[]⟩)) 9) 16 true,d 21 (.pick (t
 16) (t 20) (.const (.bool false))),a 2 21] .ret) (.seq (S [b 23 .eql 3 (t 4) (i 8) 3,a 22 23] (C 22 .skip (.ops [b 24 .eql 3 (t 4) (i 9) 3,a 22 24]))) (C 22 (S
 [f 25 46 1 1,l 26 3 25,f 27 46 1 2,l 28 3 27,c 29 109 #[t 26,t 28] #[3,3],a 2 29] .ret) .skip)))))))) (S [f 30 46 1 0,l 31 3 30,b 32 .geq 3 (t 31) (i 1) 3,m 33
 32,w 34 (.fieldAddr 46 (t 1) 0) 33 true,w 35 (.load 3 (t 34)) 33 true,w 36 (.binOp .leq 3 (t 35) (i 18) 3) 33 true,d 37 (.pick (t 33) (t 36) (.const (.bool
 false))),a 2 37] .ret)) }).1
theorem calls95 (hn : args.length = 1) (h : avc Tryz.prog G 38 pc95 (afin Tryz.prog [.tmp 2] R) (frame0 args) σ) : ACalls Tryz.prog G 95 args σ R :=
  acalls' (n := 38) (l := [.tmp 2]) mixed Tryz.func95 (by kernel_rfl) (by kernel_rfl) (by kernel_rfl) (by omega) h
def pc96 : PC := (⟨_, by delta A C S a b c d f i l m n s t w; exact rfl⟩ : { p : PC // p = S [d 3 (.box 46 (t 1)),A 4 (.const (.bool false))] (.seq (S [f 7 46 3
 0,l 8 3 7] (.block 0 (S [b 10 .eql 3 (t 8) (i 1) 3,a 9 10] (C 9 (S [f 11 46 3 1,l 12 3 11,f 13 46 3 2,l 14 3 13,f 16 46 3 2,l 17 3 16,⟨some 15,.call ⟨.value
 (.func 82),#[t 12,t 14],#[3,3]⟩,none,[⟨none,3,t 16,17⟩]⟩,b 18 .eql 3 (t 15) (t 17) 3,a 4 18] .ret) (.seq (S [b 20 .eql 3 (t 8) (i 2) 3,a 19 20] (C 19 .skip
 (.ops [b 21 .eql 3 (t 8) (i 3) 3,a 19 21]))) (C 19 (S [f 22 46 3 2,l 23 3 22,b 24 .geq 3 (t 23) (i 0) 3,m 25 24,w 26 (.fieldAddr 46 (t 3) 2) 25 true,w 27
 (.load 3 (t 26)) 25 true,w 28 (.move (t 0)) 25 true,w 29 (.nilCheck (t 28)) 25 true,w 30 (.fieldAddr 116 (t 29) 0) 25 true,w 31 (.load 79 (t 30)) 25 true,w 32
 (.nilCheck (t 31)) 25 true,w 33 (.fieldAddr 81 (t 32) 2) 25 true,w 34 (.load 25 (t 33)) 25 true,w 35 (.call ⟨.builtin .len,#[t 34],#[25]⟩) 25 true,w 36 (.binOp
 .lss 3 (t 27) (t 35) 3) 25 true,d 37 (.pick (t 25) (t 36) (.const (.bool false))),a 4 37] .ret) (S [b 39 .eql 3 (t 8) (i 10) 3,a 38 39] (C 38 (.seq (.both [[m
 41 0,n 42 41,f 43 116 42 0,l 44 79 43,n 45 44,f 46 81 45 0,l 47 24 46,f 48 46 3 2,l 49 3 48,c 50 110 #[t 47,t 49] #[24,3],m 40 50,d 51 (.extract (t 40) 0),d 52
 (.extract (t 40) 1),d 5 (.alloc 144),s 144 5 51,a 6 52],[m 41 0,n 42 41,f 43 116 42 0,l 44 79 43,n 45 44,f 46 81 45 0,l 47 24 46,f 48 46 3 2,l 49 3 48,⟨some
 5,.alloc 144,none,[⟨none,79,t 43,44⟩,⟨none,24,t 46,47⟩,⟨none,3,t 48,49⟩]⟩,c 50 110 #[t 47,t 49] #[24,3],m 40 50,d 51 (.extract (t 40) 0),d 52 (.extract (t 40)
 1),s 144 5 51,a 6 52]]) (S [m 53 6,a 4 53] .ret)) (.seq (S [b 55 .eql 3 (t 8) (i 14) 3,a 54 55] (C 54 .skip (.ops [b 56 .eql 3 (t 8) (i 15) 3,a 54 56]))) (C 54
 (S [f 57 46 3 2,l 58 3 57,b 59 .geq 3 (t 58) (i 0) 3,m 60 59,w 61 (.fieldAddr 46 (t 3) 2) 60 true,w 62 (.load 3 (t 61)) 60 true,w 63 (.move (t 0)) 60 true,w 64
 (.nilCheck (t 63)) 60 true,w 65 (.fieldAddr 116 (t 64) 3) 60 true,w 66 (.load 3 (t 65)) 60 true,w 67 (.binOp .leq 3 (t 62) (t 66) 3) 60 true,d 68 (.pick (t 60)
 (t 67) (.const (.bool false))),a 4 68] .ret) .skip)))))))))) (S [A 4 (.const (.bool true))] .ret)) }).1
theorem calls96 (hn : args.length = 2) (h : avc Tryz.prog G 69 pc96 (afin Tryz.prog [.tmp 4] R) (frame0 args) σ) : ACalls Tryz.prog G 96 args σ R :=
  acalls' (n := 69) (l := [.tmp 4]) mixed Tryz.func96 (by kernel_rfl) (by kernel_rfl) (by kernel_rfl) (by omega) h
def pc97_x : PC := (⟨_, by delta d t; exact rfl⟩ : { p : PC // p = .ops [d 2 (.box 114 (t 0))] }).1
def pc97_yx : PC := (⟨_, by delta c m t; exact rfl⟩ : { p : PC // p = .ops [m 7 1,c 8 111 #[t 7] #[25]] }).1
def pc97_yya : PC := (⟨_, by delta a; exact rfl⟩ : { p : PC // p = .ops [a 5 10] }).1
def pc97_yyb : PC := (⟨_, by delta L S a b c d f i l m n t w; exact rfl⟩ : { p : PC // p = .block 1 (S [l 11 114 2,n 12 11,f 13 116 12 1,l 14 25 13,L 15 14 25,a
 6 15] (S [m 16 6,b 17 .eql 3 (t 16) (i 0) 3,m 18 17,w 19 (.load 114 (t 2)) 18 false,w 20 (.nilCheck (t 19)) 18 false,w 21 (.fieldAddr 116 (t 20) 1) 18 false,w
 22 (.load 25 (t 21)) 18 false,w 23 (.move (t 6)) 18 false,w 24 (.binOp .sub 3 (t 23) (i 1) 3) 18 false,w 25 (.indexAddr 25 (t 22) (t 24)) 18 false,w 26 (.load
 3 (t 25)) 18 false,w 27 (.move (t 5)) 18 false,w 28 (.binOp .eql 3 (t 26) (t 27) 3) 18 false,d 29 (.pick (t 18) (.const (.bool true)) (t 28)),c 30 34 #[t 29,i
 14] #[4,27]] (.ops [l 31 114 2,c 32 112 #[t 31] #[114]]))) }).1
def pc98 : PC := (⟨_, by delta C S b d f i l m n s t; exact rfl⟩ : { p : PC // p = S [m 4 1,b 5 .neq 3 (t 4) (i 0) 3] (C 5 (.ops [m 6 0,m 7 0,n 8 7,f 9 116 8
 1,l 10 25 9,m 11 1,d 12 (.buildSlice 25 1 #[(0,t 11)]),d 13 (.call ⟨.builtin .append,#[t 10,t 12],#[25,25]⟩),n 14 6,f 15 116 14 1,s 25 15 13]) .skip) }).1
theorem calls98 (hn : args.length = 2) (h : avc Tryz.prog G 16 pc98 (afin Tryz.prog [] R) (frame0 args) σ) : ACalls Tryz.prog G 98 args σ R :=
  acalls' (n := 16) (l := []) mixed Tryz.func98 (by kernel_rfl) (by kernel_rfl) (by kernel_rfl) (by omega) h
def pc99 : PC := (⟨_, by delta e f m n t; exact rfl⟩ : { p : PC // p = .ops [m 2 0,m 3 0,n 4 2,f 5 116 4 1,e (.store 25 (t 5) (.const (.slice none 0 0))),n 6
 3,f 7 116 6 2,e (.store 4 (t 7) (.const (.bool true)))] }).1
theorem calls99 (hn : args.length = 1) (h : avc Tryz.prog G 8 pc99 (afin Tryz.prog [] R) (frame0 args) σ) : ACalls Tryz.prog G 99 args σ R :=
  acalls' (n := 8) (l := []) mixed Tryz.func99 (by kernel_rfl) (by kernel_rfl) (by kernel_rfl) (by omega) h
def pc100 : PC := (⟨_, by delta C S a b c d f i l m n s t x; exact rfl⟩ : { p : PC // p = S [d 3 (.box 46 (t 1))] (S [f 6 46 3 0,l 7 3 6] (.block 0 (S [b 9 .eql
 3 (t 7) (i 1) 3,a 8 9] (C 8 (.ops [m 10 0,f 11 46 3 1,l 12 3 11,c 13 98 #[t 10,t 12] #[114,3]]) (S [b 15 .eql 3 (t 7) (i 2) 3,a 14 15] (C 14 (.ops [m 16 0,m 17
 0,n 18 17,f 19 116 18 0,l 20 79 19,n 21 20,f 22 81 21 2,l 23 25 22,f 24 46 3 2,l 25 3 24,x 26 25 23 25,l 27 3 26,c 28 98 #[t 16,t 27] #[114,3]]) (S [b 30 .eql
 3 (t 7) (i 3) 3,a 29 30] (C 29 (.ops [m 31 0,m 32 0,n 33 32,f 34 116 33 0,l 35 79 34,n 36 35,f 37 81 36 2,l 38 25 37,f 39 46 3 2,l 40 3 39,x 41 25 38 40,l 42 3
 41,d 43 (.buildSlice 25 1 #[(0,t 42)]),c 44 97 #[t 31,t 43] #[114,25]]) (S [b 46 .eql 3 (t 7) (i 4) 3,a 45 46] (C 45 (S [m 47 0,f 48 46 3 1,l 49 3 48,f 50 46 3
 1,l 51 3 50,d 52 (.buildSlice 25 2 #[(0,t 49),(1,t 51)]),c 53 97 #[t 47,t 52] #[114,25]] (S [f 54 46 3 5,l 55 9 54,b 56 .add 9 (.const (.string ⟨#[32]⟩)) (t
 55) 9,b 57 .add 9 (t 56) (.const (.string ⟨#[32]⟩)) 9,c 58 113 #[.const (.string
 ⟨#[32,101,113,32,110,101,32,108,116,95,115,32,108,101,95,115,32,103,116,95,115,32,103,101,95,115,32]⟩),t 57] #[9,9]] (C 58 (.ops [m 59 0,c 60 98 #[t 59,i 1]
 #[114,3]]) (.ops [m 61 0,f 62 46 3 1,l 63 3 62,c 64 98 #[t 61,t 63] #[114,3]])))) (S [b 66 .eql 3 (t 7) (i 5) 3,a 65 66] (C 65 (S [m 67 0,f 68 46 3 1,l 69 3
 68,d 70 (.buildSlice 25 1 #[(0,t 69)]),c 71 97 #[t 67,t 70] #[114,25]] (.ops [m 72 0,c 73 98 #[t 72,i 1] #[114,3]])) (S [b 75 .eql 3 (t 7) (i 6) 3,a 74 75] (C
 74 (S [m 76 0,d 77 (.buildSlice 25 1 #[(0,i 2)]),c 78 97 #[t 76,t 77] #[114,25]] (.ops [m 79 0,c 80 98 #[t 79,i 1] #[114,3]])) (S [b 82 .eql 3 (t 7) (i 7) 3,a
 81 82] (C 81 (S [m 83 0,d 84 (.buildSlice 25 1 #[(0,i 1)]),c 85 97 #[t 83,t 84] #[114,25]] (.ops [m 86 0,c 87 98 #[t 86,i 2] #[114,3]])) (S [b 89 .eql 3 (t 7)
 (i 8) 3,a 88 89] (C 88 (S [m 90 0,d 91 (.buildSlice 25 1 #[(0,i 1)]),c 92 97 #[t 90,t 91] #[114,25]] (.ops [m 93 0,f 94 46 3 1,l 95 3 94,c 96 98 #[t 93,t 95]
 #[114,3]])) (S [b 98 .eql 3 (t 7) (i 9) 3,a 97 98] (C 97 (.ops [m 99 0,f 100 46 3 1,l 101 3 100,d 102 (.buildSlice 25 2 #[(0,i 1),(1,t 101)]),c 103 97 #[t 99,t
 102] #[114,25]]) (S [b 105 .eql 3 (t 7) (i 10) 3,a 104 105] (C 104 (.seq (.both [[m 107 0,n 108 107,f 109 116 108 0,l 110 79 109,n 111 110,f 112 81 111 0,l 113
 24 112,f 114 46 3 2,l 115 3 114,c 116 110 #[t 113,t 115] #[24,3],m 106 116,d 117 (.extract (t 106) 0),d 118 (.extract (t 106) 1),d 4 (.alloc 144),s 144 4 117,a
 5 118],[m 107 0,n 108 107,f 109 116 108 0,l 110 79 109,n 111 110,f 112 81 111 0,l 113 24 112,f 114 46 3 2,l 115 3 114,⟨some 4,.alloc 144,none,[⟨none,79,t
 109,110⟩,⟨none,24,t 112,113⟩,⟨none,3,t 114,115⟩]⟩,c 116 110 #[t 113,t 115] #[24,3],m 106 116,d 117 (.extract (t 106) 0),d 118 (.extract (t 106) 1),s 144 4
 117,a 5 118]]) (S [m 119 0,f 120 144 4 0,l 121 25 120,c 122 97 #[t 119,t 121] #[114,25]] (.ops [m 123 0,f 124 144 4 1,l 125 3 124,c 126 98 #[t 123,t 125]
 #[114,3]]))) (S [b 128 .eql 3 (t 7) (i 18) 3,a 127 128] (C 127 (.ops [m 129 0,c 130 112 #[t 129] #[114]]) .skip)))))))))))))))))))))))) }).1
theorem calls100 (hn : args.length = 2) (h : avc Tryz.prog G 131 pc100 (afin Tryz.prog [] R) (frame0 args) σ) : ACalls Tryz.prog G 100 args σ R :=
  acalls' (n := 131) (l := []) mixed Tryz.func100 (by kernel_rfl) (by kernel_rfl) (by kernel_rfl) (by omega) h
def pc101 : PC := (⟨_, by delta A C S a b c d i m t w; exact rfl⟩ : { p : PC // p = S [A 8 (i 0),A 9 (i 0)] (.seq (S [m 12 0,b 13 .eql 9 (t 12) (.const (.string
 ⟨#[47]⟩)) 9,m 14 13,w 15 (.move (t 0)) 14 false,w 16 (.binOp .eql 9 (t 15) (.const (.string ⟨#[37]⟩)) 9) 14 false,d 17 (.pick (t 14) (.const (.bool true)) (t
 16))] (C 17 (S [m 19 0,m 20 1,m 21 2,c 22 114 #[t 19,t 20,t 21] #[9,21,21],m 18 22,d 23 (.extract (t 18) 0),d 24 (.extract (t 18) 1),a 10 23,a 11 24] (S [m 25
 10,d 26 (.convert 21 3 (t 25)),m 27 11,a 8 26,a 9 27] .ret)) .skip)) (S [m 28 0,m 29 1,m 30 2,m 31 3,c 32 115 #[t 28,t 29,t 30,t 31] #[9,21,21,3],d 33
 (.convert 21 3 (t 32)),a 8 33,A 9 (i 0)] .ret)) }).1
theorem calls101 (hn : args.length = 4) (h : avc Tryz.prog G 34 pc101 (afin Tryz.prog [.tmp 8, .tmp 9] R) (frame0 args) σ) : ACalls Tryz.prog G 101 args σ R :=
  acalls' (n := 34) (l := [.tmp 8, .tmp 9]) mixed Tryz.func101 (by kernel_rfl) (by kernel_rfl) (by kernel_rfl) (by omega) h
def pc102 : PC := (⟨_, by delta A C S a b c d i m t w; exact rfl⟩ : { p : PC // p = S [A 8 (i 0),A 9 (i 0)] (.seq (S [m 12 0,b 13 .eql 9 (t 12) (.const (.string
 ⟨#[47]⟩)) 9,m 14 13,w 15 (.move (t 0)) 14 false,w 16 (.binOp .eql 9 (t 15) (.const (.string ⟨#[37]⟩)) 9) 14 false,d 17 (.pick (t 14) (.const (.bool true)) (t
 16))] (C 17 (S [m 19 0,m 20 1,m 21 2,c 22 116 #[t 19,t 20,t 21] #[9,2,2],m 18 22,d 23 (.extract (t 18) 0),d 24 (.extract (t 18) 1),a 10 23,a 11 24] (S [m 25
 10,m 26 11,a 8 25,a 9 26] .ret)) .skip)) (S [m 27 0,m 28 1,m 29 2,m 30 3,c 31 117 #[t 27,t 28,t 29,t 30] #[9,2,2,3],a 8 31,A 9 (i 0)] .ret)) }).1
theorem calls102 (hn : args.length = 4) (h : avc Tryz.prog G 32 pc102 (afin Tryz.prog [.tmp 8, .tmp 9] R) (frame0 args) σ) : ACalls Tryz.prog G 102 args σ R :=
  acalls' (n := 32) (l := [.tmp 8, .tmp 9]) mixed Tryz.func102 (by kernel_rfl) (by kernel_rfl) (by kernel_rfl) (by omega) h
def pc103 : PC := (⟨_, by delta A C L S a b d f i l m n s t; exact rfl⟩ : { p : PC // p = S [A 2 (i 0)] (.seq (S [m 4 0,n 5 4,f 6 53 5 1,l 7 25 6,L 8 7 25,b 9
 .eql 3 (t 8) (i 0) 3] (C 9 (S [A 2 (i 0)] .ret) .skip)) (S [m 10 0,n 11 10,f 12 53 11 1,l 13 25 12,d 14 (.indexAddr 25 (t 13) (i 0)),l 15 3 14,a 3 15] (S [m 16
 0,m 17 0,n 18 17,f 19 53 18 1,l 20 25 19,d 21 (.slice 25 (t 20) (some (i 1)) none none),n 22 16,f 23 53 22 1,s 25 23 21] (S [m 24 3,a 2 24] .ret)))) }).1
theorem calls103 (hn : args.length = 1) (h : avc Tryz.prog G 25 pc103 (afin Tryz.prog [.tmp 2] R) (frame0 args) σ) : ACalls Tryz.prog G 103 args σ R :=
  acalls' (n := 25) (l := [.tmp 2]) mixed Tryz.func103 (by kernel_rfl) (by kernel_rfl) (by kernel_rfl) (by omega) h
def pc104 : PC := (⟨_, by delta A C S a b d m t; exact rfl⟩ : { p : PC // p = S [A 2 (.const (.slice none 0 0))] (.seq (S [m 3 0,b 4 .eql 25 (t 3) (.const
 (.slice none 0 0)) 25] (C 4 (S [A 2 (.const (.slice none 0 0))] .ret) .skip)) (S [d 5 (.buildSlice 25 0 #[]),m 6 0,d 7 (.call ⟨.builtin .append,#[t 5,t
 6],#[25,25]⟩),a 2 7] .ret)) }).1
theorem calls104 (hn : args.length = 1) (h : avc Tryz.prog G 8 pc104 (afin Tryz.prog [.tmp 2] R) (frame0 args) σ) : ACalls Tryz.prog G 104 args σ R :=
  acalls' (n := 8) (l := [.tmp 2]) mixed Tryz.func104 (by kernel_rfl) (by kernel_rfl) (by kernel_rfl) (by omega) h
def pc105 : PC := (⟨_, by delta A C S a b c d i m t w; exact rfl⟩ : { p : PC // p = S [A 8 (i 0),A 9 (i 0)] (.seq (S [m 10 3,b 11 .eql 3 (t 10) (i 0) 3] (C 11
 (S [A 8 (i 0),A 9 (i 1)] .ret) .skip)) (.seq (S [m 12 3,b 13 .eql 3 (t 12) (i (-1)) 3] (C 13 (.seq (S [m 14 1,b 15 .eql 9 (t 14) (.const (.string ⟨#[37]⟩)) 9]
 (C 15 (S [A 8 (i 0),A 9 (i 0)] .ret) .skip)) (.seq (S [m 16 0,m 17 2,d 18 (.unOp .neg 3 (t 17)),c 19 60 #[t 16,t 18] #[3,3],m 20 2,b 21 .eql 3 (t 19) (t 20)
 3,m 22 21,w 23 (.move (t 2)) 22 true,w 24 (.binOp .neq 3 (t 23) (i 0) 3) 22 true,d 25 (.pick (t 22) (t 24) (.const (.bool false)))] (C 25 (S [A 8 (i 0),A 9 (i
 2)] .ret) .skip)) (S [m 26 2,d 27 (.unOp .neg 3 (t 26)),a 8 27,A 9 (i 0)] .ret))) .skip)) (.seq (S [m 28 1,b 29 .eql 9 (t 28) (.const (.string ⟨#[37]⟩)) 9] (C
 29 (S [m 30 2,m 31 3,b 32 .rem 3 (t 30) (t 31) 3,a 8 32,A 9 (i 0)] .ret) .skip)) (S [m 33 2,m 34 3,b 35 .quo 3 (t 33) (t 34) 3,a 8 35,A 9 (i 0)] .ret)))) }).1
theorem calls105 (hn : args.length = 4) (h : avc Tryz.prog G 36 pc105 (afin Tryz.prog [.tmp 8, .tmp 9] R) (frame0 args) σ) : ACalls Tryz.prog G 105 args σ R :=
  acalls' (n := 36) (l := [.tmp 8, .tmp 9]) mixed Tryz.func105 (by kernel_rfl) (by kernel_rfl) (by kernel_rfl) (by omega) h
def pc106_l1 : PC := (⟨_, by delta A C S a b c d i m t w; exact rfl⟩ : { p : PC // p = .seq (S [m 19 11,b 20 .geq 3 (t 19) (i 0) 3] (C 20 .skip (.exit 0)))
 (.seq (.block 1 (S [m 23 2,m 24 11,c 25 118 #[t 23,t 24] #[3,3],a 12 25] (S [m 26 3,m 27 11,c 28 118 #[t 26,t 27] #[3,3],a 13 28] (S [A 14 (.const (.bool
 false))] (.seq (S [m 29 1] (.block 2 (S [b 31 .eql 9 (t 29) (.const (.string ⟨#[38]⟩)) 9,a 30 31] (C 30 (.ops [m 32 12,m 33 32,w 34 (.move (t 13)) 33 true,d 35
 (.pick (t 33) (t 34) (.const (.bool false))),a 14 35]) (S [b 37 .eql 9 (t 29) (.const (.string ⟨#[124]⟩)) 9,a 36 37] (C 36 (.ops [m 38 12,m 39 38,w 40 (.move
 (t 13)) 39 false,d 41 (.pick (t 39) (.const (.bool true)) (t 40)),a 14 41]) (S [b 43 .eql 9 (t 29) (.const (.string ⟨#[94]⟩)) 9,a 42 43] (C 42 (.ops [m 44 12,m
 45 13,b 46 .neq 4 (t 44) (t 45) 4,a 14 46]) .skip)))))))) (S [m 47 10,b 48 .mul 130 (t 47) (.const (.int .u64 2)) 130,a 10 48] (S [m 49 14] (C 49 (.ops [m 50
 10,b 51 .add 130 (t 50) (.const (.int .u64 1)) 130,a 10 51]) .skip)))))))) (.ops [m 21 11,b 22 .sub 3 (t 21) (i 1) 3,a 11 22])) }).1
def pc106_r1 : PC := (⟨_, by delta S a c d m t; exact rfl⟩ : { p : PC // p = S [m 52 0,m 53 10,d 54 (.convert 130 3 (t 53)),c 55 60 #[t 52,t 54] #[3,3],a 8 55]
 .ret }).1
def pc106 : PC := (⟨_, by delta A S a b c i m t; exact rfl⟩ : { p : PC // p = S [A 8 (i 0)] (S [m 15 0,c 16 89 #[t 15] #[3],a 9 16] (S [A 10 (.const (.int .u64
 0))] (.seq (S [m 17 9,b 18 .sub 3 (t 17) (i 1) 3,a 11 18] (.block 0 (.loop pc106_l1))) pc106_r1))) }).1
theorem calls106 (hn : args.length = 4) (h : avc Tryz.prog G 56 pc106 (afin Tryz.prog [.tmp 8] R) (frame0 args) σ) : ACalls Tryz.prog G 106 args σ R :=
  acalls' (n := 56) (l := [.tmp 8]) mixed Tryz.func106 (by kernel_rfl) (by kernel_rfl) (by kernel_rfl) (by omega) h
def pc107_l1 : PC := (⟨_, by delta C S a b c d i m t w; exact rfl⟩ : { p : PC // p = .seq (S [m 22 11,m 23 10,b 24 .lss 3 (t 22) (t 23) 3] (C 24 .skip (.exit
 0))) (.seq (.block 1 (S [m 27 1,b 28 .eql 9 (t 27) (.const (.string ⟨#[60,60]⟩)) 9] (C 28 (.ops [m 29 0,m 30 2,m 31 2,b 32 .add 3 (t 30) (t 31) 3,c 33 60 #[t
 29,t 32] #[3,3],a 2 33]) (S [m 34 2,b 35 .lss 3 (t 34) (i 0) 3,m 36 35,w 37 (.move (t 2)) 36 true,w 38 (.binOp .rem 3 (t 37) (i 2) 3) 36 true,w 39 (.binOp .neq
 3 (t 38) (i 0) 3) 36 true,d 40 (.pick (t 36) (t 39) (.const (.bool false)))] (C 40 (.ops [m 41 2,b 42 .quo 3 (t 41) (i 2) 3,b 43 .sub 3 (t 42) (i 1) 3,a 2 43])
 (.ops [m 44 2,b 45 .quo 3 (t 44) (i 2) 3,a 2 45])))))) (.ops [m 25 11,b 26 .add 3 (t 25) (i 1) 3,a 11 26])) }).1
def pc107_r1 : PC := (⟨_, by delta S a m; exact rfl⟩ : { p : PC // p = S [m 46 2,a 8 46] .ret }).1
def pc107 : PC := (⟨_, by delta A C S a b c i m t; exact rfl⟩ : { p : PC // p = S [A 8 (i 0)] (S [m 12 0,c 13 89 #[t 12] #[3],a 9 13] (S [m 14 3,m 15 9,b 16
 .rem 3 (t 14) (t 15) 3,a 10 16] (.seq (S [m 17 10,b 18 .lss 3 (t 17) (i 0) 3] (C 18 (.ops [m 19 10,m 20 9,b 21 .add 3 (t 19) (t 20) 3,a 10 21]) .skip)) (.seq
 (S [A 11 (i 0)] (.block 0 (.loop pc107_l1))) pc107_r1)))) }).1
theorem calls107 (hn : args.length = 4) (h : avc Tryz.prog G 47 pc107 (afin Tryz.prog [.tmp 8] R) (frame0 args) σ) : ACalls Tryz.prog G 107 args σ R :=
  acalls' (n := 47) (l := [.tmp 8]) mixed Tryz.func107 (by kernel_rfl) (by kernel_rfl) (by kernel_rfl) (by omega) h
def pc108 : PC := (⟨_, by delta A C S i m; exact rfl⟩ : { p : PC // p = S [A 2 (i 0)] (.seq (S [m 3 0] (C 3 (S [A 2 (i 1)] .ret) .skip)) (S [A 2 (i 0)] .ret))
 }).1
theorem calls108 (hn : args.length = 1) (h : avc Tryz.prog G 4 pc108 (afin Tryz.prog [.tmp 2] R) (frame0 args) σ) : ACalls Tryz.prog G 108 args σ R :=
  acalls' (n := 4) (l := [.tmp 2]) mixed Tryz.func108 (by kernel_rfl) (by kernel_rfl) (by kernel_rfl) (by omega) h
def pc109 : PC := (⟨_, by delta A S a b d i m t w; exact rfl⟩ : { p : PC // p = S [A 4 (.const (.bool false))] (S [m 5 0,b 6 .eql 3 (t 5) (i 1) 3,m 7 6,w 8
 (.move (t 1)) 7 true,w 9 (.binOp .eql 3 (t 8) (i 1) 3) 7 true,w 10 (.move (t 9)) 7 true,w 11 (.move (t 1)) 10 false,w 12 (.binOp .eql 3 (t 11) (i 4) 3) 10
 false,w 13 (.pick (t 10) (.const (.bool true)) (t 12)) 7 true,d 14 (.pick (t 7) (t 13) (.const (.bool false))),m 15 14,w 16 (.move (t 0)) 15 false,w 17 (.binOp
 .eql 3 (t 16) (i 2) 3) 15 false,w 18 (.move (t 17)) 15 false,w 19 (.move (t 1)) 18 true,w 20 (.binOp .eql 3 (t 19) (i 8) 3) 18 true,w 21 (.pick (t 18) (t 20)
 (.const (.bool false))) 15 false,d 22 (.pick (t 15) (.const (.bool true)) (t 21)),a 4 22] .ret) }).1
theorem calls109 (hn : args.length = 2) (h : avc Tryz.prog G 23 pc109 (afin Tryz.prog [.tmp 4] R) (frame0 args) σ) : ACalls Tryz.prog G 109 args σ R :=
  acalls' (n := 23) (l := [.tmp 4]) mixed Tryz.func109 (by kernel_rfl) (by kernel_rfl) (by kernel_rfl) (by omega) h
def pc110 : PC := (⟨_, by delta A C S a b d f i l m s t w x; exact rfl⟩ : { p : PC // p = S [d 2 (.box 24 (t 0)),d 4 (.alloc 144),A 5 (.const (.bool false))]
 (.seq (.block 0 (S [m 8 1,b 9 .eql 3 (t 8) (i 0) 3,a 7 9] (C 7 (S [d 10 (.build 144 #[(0,.const (.slice none 0 0)),(1,i 2)]),s 144 4 10,A 5 (.const (.bool
 true))] .ret) (S [m 12 1,b 13 .eql 3 (t 12) (i 1) 3,a 11 13] (C 11 (S [d 14 (.buildSlice 25 1 #[(0,i 2)]),d 15 (.build 144 #[(0,t 14),(1,i 0)]),s 144 4 15,A 5
 (.const (.bool true))] .ret) (S [m 17 1,b 18 .eql 3 (t 17) (i 2) 3,a 16 18] (C 16 (S [d 19 (.buildSlice 25 1 #[(0,i 1)]),d 20 (.build 144 #[(0,t 19),(1,i
 0)]),s 144 4 20,A 5 (.const (.bool true))] .ret) (S [m 22 1,b 23 .lss 3 (t 22) (i 0) 3,m 24 23,w 25 (.move (t 1)) 24 false,w 26 (.binOp .sub 3 (t 25) (i 3) 3)
 24 false,w 27 (.fieldAddr 24 (t 2) 0) 24 false,w 28 (.load 22 (t 27)) 24 false,w 29 (.call ⟨.builtin .len,#[t 28],#[22]⟩) 24 false,w 30 (.binOp .geq 3 (t 26)
 (t 29) 3) 24 false,d 31 (.pick (t 24) (.const (.bool true)) (t 30)),a 21 31] (C 21 (S [d 32 (.build 144 #[]),s 144 4 32,A 5 (.const (.bool false))] .ret)
 .skip))))))))) (S [f 33 24 2 0,l 34 22 33,m 35 1,b 36 .sub 3 (t 35) (i 3) 3,x 37 22 34 36,l 38 41 37,d 6 (.alloc 41),s 41 6 38] (S [f 39 41 6 1,l 40 25 39,f 41
 41 6 3,l 42 3 41,d 43 (.build 144 #[(0,t 40),(1,t 42)]),s 144 4 43,A 5 (.const (.bool true))] .ret))) }).1
theorem calls110 (hn : args.length = 2) (h : avc Tryz.prog G 44 pc110 (afin Tryz.prog [.cell 4 144, .tmp 5] R) (frame0 args) σ) : ACalls Tryz.prog G 110 args σ R :=
  acalls' (n := 44) (l := [.cell 4 144, .tmp 5]) mixed Tryz.func110 (by kernel_rfl) (by kernel_rfl) (by kernel_rfl) (by omega) h
def pc111 : PC := (⟨_, by delta A S a d t; exact rfl⟩ : { p : PC // p = S [d 1 (.box 25 (t 0)),A 2 (.const .nilFunc)] (S [d 3 (.makeFunc (.func 119) #[] #[t
 1]),a 2 3] .ret) }).1
theorem calls111 (hn : args.length = 1) (h : avc Tryz.prog G 4 pc111 (afin Tryz.prog [.tmp 2] R) (frame0 args) σ) : ACalls Tryz.prog G 111 args σ R :=
  acalls' (n := 4) (l := [.tmp 2]) mixed Tryz.func111 (by kernel_rfl) (by kernel_rfl) (by kernel_rfl) (by omega) h
def pc112 : PC := (⟨_, by delta C L S a b c d f i l m n s t w; exact rfl⟩ : { p : PC // p = S [m 3 0,n 4 3,f 5 116 4 1,l 6 25 5,L 7 6 25,a 2 7] (.seq (S [m 8
 2,b 9 .eql 3 (t 8) (i 0) 3,m 10 9,w 11 (.move (t 0)) 10 true,w 12 (.nilCheck (t 11)) 10 true,w 13 (.fieldAddr 116 (t 12) 2) 10 true,w 14 (.load 4 (t 13)) 10
 true,d 15 (.pick (t 10) (t 14) (.const (.bool false)))] (C 15 .ret .skip)) (S [m 16 2,b 17 .gtr 3 (t 16) (i 0) 3,c 18 34 #[t 17,i 14] #[4,27]] (.ops [m 19 0,m
 20 0,n 21 20,f 22 116 21 1,l 23 25 22,m 24 2,b 25 .sub 3 (t 24) (i 1) 3,m 26 2,b 27 .sub 3 (t 26) (i 1) 3,d 28 (.slice 25 (t 23) none (some (t 25)) (some (t
 27))),n 29 19,f 30 116 29 1,s 25 30 28]))) }).1
theorem calls112 (hn : args.length = 1) (h : avc Tryz.prog G 31 pc112 (afin Tryz.prog [] R) (frame0 args) σ) : ACalls Tryz.prog G 112 args σ R :=
  acalls' (n := 31) (l := []) mixed Tryz.func112 (by kernel_rfl) (by kernel_rfl) (by kernel_rfl) (by omega) h
def pc114 : PC := (⟨_, by delta A C S a b d i m t w; exact rfl⟩ : { p : PC // p = S [A 6 (.const (.int .i32 0)),A 7 (i 0)] (.seq (.block 0 (S [m 9 2,b 10 .eql
 21 (t 9) (.const (.int .i32 0)) 21,a 8 10] (C 8 (S [A 6 (.const (.int .i32 0)),A 7 (i 1)] .ret) (S [m 12 0,b 13 .eql 9 (t 12) (.const (.string ⟨#[37]⟩)) 9,m 14
 13,w 15 (.move (t 2)) 14 true,w 16 (.binOp .eql 21 (t 15) (.const (.int .i32 (-1))) 21) 14 true,d 17 (.pick (t 14) (t 16) (.const (.bool false))),a 11 17] (C
 11 (S [A 6 (.const (.int .i32 0)),A 7 (i 0)] .ret) (S [m 19 0,b 20 .eql 9 (t 19) (.const (.string ⟨#[37]⟩)) 9,a 18 20] (C 18 (S [m 21 1,m 22 2,b 23 .rem 21 (t
 21) (t 22) 21,a 6 23,A 7 (i 0)] .ret) (S [m 25 2,b 26 .eql 21 (t 25) (.const (.int .i32 (-1))) 21,m 27 26,w 28 (.move (t 1)) 27 true,w 29 (.binOp .neq 21 (t
 28) (.const (.int .i32 0)) 21) 27 true,d 30 (.pick (t 27) (t 29) (.const (.bool false))),m 31 30,w 32 (.move (t 1)) 31 true,w 33 (.unOp .neg 21 (t 32)) 31
 true,w 34 (.move (t 1)) 31 true,w 35 (.binOp .eql 21 (t 33) (t 34) 21) 31 true,d 36 (.pick (t 31) (t 35) (.const (.bool false))),a 24 36] (C 24 (S [A 6 (.const
 (.int .i32 0)),A 7 (i 2)] .ret) .skip))))))))) (S [m 37 1,m 38 2,b 39 .quo 21 (t 37) (t 38) 21,a 6 39,A 7 (i 0)] .ret)) }).1
theorem calls114 (hn : args.length = 3) (h : avc Tryz.prog G 40 pc114 (afin Tryz.prog [.tmp 6, .tmp 7] R) (frame0 args) σ) : ACalls Tryz.prog G 114 args σ R :=
  acalls' (n := 40) (l := [.tmp 6, .tmp 7]) mixed Tryz.func114 (by kernel_rfl) (by kernel_rfl) (by kernel_rfl) (by omega) h
def pc115 : PC := (⟨_, by delta A C S a b c d i m t; exact rfl⟩ : { p : PC // p = S [A 8 (.const (.int .i32 0))] (S [m 10 2,d 11 (.convert 21 128 (t 10)),m 12
 3,b 13 .sub 3 (t 12) (i 1) 3,d 14 (.convert 3 128 (t 13)),b 15 .and 128 (t 11) (t 14) 128,a 9 15] (.seq (S [m 16 0] (.block 0 (S [b 18 .eql 9 (t 16) (.const
 (.string ⟨#[43]⟩)) 9,a 17 18] (C 17 (S [m 19 1,m 20 2,b 21 .add 21 (t 19) (t 20) 21,a 8 21] .ret) (S [b 23 .eql 9 (t 16) (.const (.string ⟨#[45]⟩)) 9,a 22 23]
 (C 22 (S [m 24 1,m 25 2,b 26 .sub 21 (t 24) (t 25) 21,a 8 26] .ret) (S [b 28 .eql 9 (t 16) (.const (.string ⟨#[42]⟩)) 9,a 27 28] (C 27 (S [m 29 1,m 30 2,b 31
 .mul 21 (t 29) (t 30) 21,a 8 31] .ret) (S [b 33 .eql 9 (t 16) (.const (.string ⟨#[38]⟩)) 9,a 32 33] (C 32 (S [m 34 1,m 35 2,b 36 .and 21 (t 34) (t 35) 21,a 8
 36] .ret) (S [b 38 .eql 9 (t 16) (.const (.string ⟨#[124]⟩)) 9,a 37 38] (C 37 (S [m 39 1,m 40 2,b 41 .or 21 (t 39) (t 40) 21,a 8 41] .ret) (S [b 43 .eql 9 (t
 16) (.const (.string ⟨#[94]⟩)) 9,a 42 43] (C 42 (S [m 44 1,m 45 2,b 46 .xor 21 (t 44) (t 45) 21,a 8 46] .ret) (S [b 48 .eql 9 (t 16) (.const (.string
 ⟨#[60,60]⟩)) 9,a 47 48] (C 47 (S [m 49 1,m 50 9,b 51 .shl 21 (t 49) (t 50) 128,a 8 51] .ret) (S [b 53 .eql 9 (t 16) (.const (.string ⟨#[62,62]⟩)) 9,a 52 53] (C
 52 (S [m 54 1,m 55 9,b 56 .shr 21 (t 54) (t 55) 128,a 8 56] .ret) (S [b 58 .eql 9 (t 16) (.const (.string ⟨#[61,61]⟩)) 9,a 57 58] (C 57 (S [m 59 1,m 60 2,b 61
 .eql 21 (t 59) (t 60) 21,c 62 121 #[t 61] #[4],a 8 62] .ret) (S [b 64 .eql 9 (t 16) (.const (.string ⟨#[33,61]⟩)) 9,a 63 64] (C 63 (S [m 65 1,m 66 2,b 67 .neq
 21 (t 65) (t 66) 21,c 68 121 #[t 67] #[4],a 8 68] .ret) (S [b 70 .eql 9 (t 16) (.const (.string ⟨#[60]⟩)) 9,a 69 70] (C 69 (S [m 71 1,m 72 2,b 73 .lss 21 (t
 71) (t 72) 21,c 74 121 #[t 73] #[4],a 8 74] .ret) (S [b 76 .eql 9 (t 16) (.const (.string ⟨#[60,61]⟩)) 9,a 75 76] (C 75 (S [m 77 1,m 78 2,b 79 .leq 21 (t 77)
 (t 78) 21,c 80 121 #[t 79] #[4],a 8 80] .ret) (S [b 82 .eql 9 (t 16) (.const (.string ⟨#[62]⟩)) 9,a 81 82] (C 81 (S [m 83 1,m 84 2,b 85 .gtr 21 (t 83) (t 84)
 21,c 86 121 #[t 85] #[4],a 8 86] .ret) (S [b 88 .eql 9 (t 16) (.const (.string ⟨#[62,61]⟩)) 9,a 87 88] (C 87 (S [m 89 1,m 90 2,b 91 .geq 21 (t 89) (t 90) 21,c
 92 121 #[t 91] #[4],a 8 92] .ret) .skip)))))))))))))))))))))))))))))) (S [A 8 (.const (.int .i32 0))] .ret))) }).1
theorem calls115 (hn : args.length = 4) (h : avc Tryz.prog G 93 pc115 (afin Tryz.prog [.tmp 8] R) (frame0 args) σ) : ACalls Tryz.prog G 115 args σ R :=
  acalls' (n := 93) (l := [.tmp 8]) mixed Tryz.func115 (by kernel_rfl) (by kernel_rfl) (by kernel_rfl) (by omega) h
def pc116 : PC := (⟨_, by delta A C S a b d i m t w; exact rfl⟩ : { p : PC // p = S [A 6 (i 0),A 7 (i 0)] (.seq (.block 0 (S [m 9 2,b 10 .eql 2 (t 9) (i 0) 2,a
 8 10] (C 8 (S [A 6 (i 0),A 7 (i 1)] .ret) (S [m 12 0,b 13 .eql 9 (t 12) (.const (.string ⟨#[37]⟩)) 9,m 14 13,w 15 (.move (t 2)) 14 true,w 16 (.binOp .eql 2 (t
 15) (i (-1)) 2) 14 true,d 17 (.pick (t 14) (t 16) (.const (.bool false))),a 11 17] (C 11 (S [A 6 (i 0),A 7 (i 0)] .ret) (S [m 19 0,b 20 .eql 9 (t 19) (.const
 (.string ⟨#[37]⟩)) 9,a 18 20] (C 18 (S [m 21 1,m 22 2,b 23 .rem 2 (t 21) (t 22) 2,a 6 23,A 7 (i 0)] .ret) (S [m 25 2,b 26 .eql 2 (t 25) (i (-1)) 2,m 27 26,w 28
 (.move (t 1)) 27 true,w 29 (.binOp .neq 2 (t 28) (i 0) 2) 27 true,d 30 (.pick (t 27) (t 29) (.const (.bool false))),m 31 30,w 32 (.move (t 1)) 31 true,w 33
 (.unOp .neg 2 (t 32)) 31 true,w 34 (.move (t 1)) 31 true,w 35 (.binOp .eql 2 (t 33) (t 34) 2) 31 true,d 36 (.pick (t 31) (t 35) (.const (.bool false))),a 24
 36] (C 24 (S [A 6 (i 0),A 7 (i 2)] .ret) .skip))))))))) (S [m 37 1,m 38 2,b 39 .quo 2 (t 37) (t 38) 2,a 6 39,A 7 (i 0)] .ret)) }).1
theorem calls116 (hn : args.length = 3) (h : avc Tryz.prog G 40 pc116 (afin Tryz.prog [.tmp 6, .tmp 7] R) (frame0 args) σ) : ACalls Tryz.prog G 116 args σ R :=
  acalls' (n := 40) (l := [.tmp 6, .tmp 7]) mixed Tryz.func116 (by kernel_rfl) (by kernel_rfl) (by kernel_rfl) (by omega) h
def pc117 : PC := (⟨_, by delta A C S a b c d i m t; exact rfl⟩ : { p : PC // p = S [A 8 (i 0)] (S [m 10 2,d 11 (.convert 2 128 (t 10)),m 12 3,b 13 .sub 3 (t
 12) (i 1) 3,d 14 (.convert 3 128 (t 13)),b 15 .and 128 (t 11) (t 14) 128,a 9 15] (.seq (S [m 16 0] (.block 0 (S [b 18 .eql 9 (t 16) (.const (.string ⟨#[43]⟩))
 9,a 17 18] (C 17 (S [m 19 1,m 20 2,b 21 .add 2 (t 19) (t 20) 2,a 8 21] .ret) (S [b 23 .eql 9 (t 16) (.const (.string ⟨#[45]⟩)) 9,a 22 23] (C 22 (S [m 24 1,m 25
 2,b 26 .sub 2 (t 24) (t 25) 2,a 8 26] .ret) (S [b 28 .eql 9 (t 16) (.const (.string ⟨#[42]⟩)) 9,a 27 28] (C 27 (S [m 29 1,m 30 2,b 31 .mul 2 (t 29) (t 30) 2,a
 8 31] .ret) (S [b 33 .eql 9 (t 16) (.const (.string ⟨#[38]⟩)) 9,a 32 33] (C 32 (S [m 34 1,m 35 2,b 36 .and 2 (t 34) (t 35) 2,a 8 36] .ret) (S [b 38 .eql 9 (t
 16) (.const (.string ⟨#[124]⟩)) 9,a 37 38] (C 37 (S [m 39 1,m 40 2,b 41 .or 2 (t 39) (t 40) 2,a 8 41] .ret) (S [b 43 .eql 9 (t 16) (.const (.string ⟨#[94]⟩))
 9,a 42 43] (C 42 (S [m 44 1,m 45 2,b 46 .xor 2 (t 44) (t 45) 2,a 8 46] .ret) (S [b 48 .eql 9 (t 16) (.const (.string ⟨#[60,60]⟩)) 9,a 47 48] (C 47 (S [m 49 1,m
 50 9,b 51 .shl 2 (t 49) (t 50) 128,a 8 51] .ret) (S [b 53 .eql 9 (t 16) (.const (.string ⟨#[62,62]⟩)) 9,a 52 53] (C 52 (S [m 54 1,m 55 9,b 56 .shr 2 (t 54) (t
 55) 128,a 8 56] .ret) (S [b 58 .eql 9 (t 16) (.const (.string ⟨#[61,61]⟩)) 9,a 57 58] (C 57 (S [m 59 1,m 60 2,b 61 .eql 2 (t 59) (t 60) 2,c 62 122 #[t 61]
 #[4],a 8 62] .ret) (S [b 64 .eql 9 (t 16) (.const (.string ⟨#[33,61]⟩)) 9,a 63 64] (C 63 (S [m 65 1,m 66 2,b 67 .neq 2 (t 65) (t 66) 2,c 68 122 #[t 67] #[4],a
 8 68] .ret) (S [b 70 .eql 9 (t 16) (.const (.string ⟨#[60]⟩)) 9,a 69 70] (C 69 (S [m 71 1,m 72 2,b 73 .lss 2 (t 71) (t 72) 2,c 74 122 #[t 73] #[4],a 8 74]
 .ret) (S [b 76 .eql 9 (t 16) (.const (.string ⟨#[60,61]⟩)) 9,a 75 76] (C 75 (S [m 77 1,m 78 2,b 79 .leq 2 (t 77) (t 78) 2,c 80 122 #[t 79] #[4],a 8 80] .ret)
 (S [b 82 .eql 9 (t 16) (.const (.string ⟨#[62]⟩)) 9,a 81 82] (C 81 (S [m 83 1,m 84 2,b 85 .gtr 2 (t 83) (t 84) 2,c 86 122 #[t 85] #[4],a 8 86] .ret) (S [b 88
 .eql 9 (t 16) (.const (.string ⟨#[62,61]⟩)) 9,a 87 88] (C 87 (S [m 89 1,m 90 2,b 91 .geq 2 (t 89) (t 90) 2,c 92 122 #[t 91] #[4],a 8 92] .ret)
 .skip)))))))))))))))))))))))))))))) (S [A 8 (i 0)] .ret))) }).1
theorem calls117 (hn : args.length = 4) (h : avc Tryz.prog G 93 pc117 (afin Tryz.prog [.tmp 8] R) (frame0 args) σ) : ACalls Tryz.prog G 117 args σ R :=
  acalls' (n := 93) (l := [.tmp 8]) mixed Tryz.func117 (by kernel_rfl) (by kernel_rfl) (by kernel_rfl) (by omega) h
def pc118_l1 : PC := (⟨_, by delta C S a b i m t; exact rfl⟩ : { p : PC // p = .seq (S [m 9 6,m 10 1,b 11 .lss 3 (t 9) (t 10) 3] (C 11 .skip (.exit 0))) (.seq
 (.block 1 (.ops [m 14 5,b 15 .quo 130 (t 14) (.const (.int .u64 2)) 130,a 5 15])) (.ops [m 12 6,b 13 .add 3 (t 12) (i 1) 3,a 6 13])) }).1
def pc118_r1 : PC := (⟨_, by delta S a b m t; exact rfl⟩ : { p : PC // p = S [m 16 5,b 17 .rem 130 (t 16) (.const (.int .u64 2)) 130,b 18 .eql 130 (t 17)
 (.const (.int .u64 1)) 130,a 4 18] .ret }).1
def pc118 : PC := (⟨_, by delta A S a d i m t; exact rfl⟩ : { p : PC // p = S [A 4 (.const (.bool false))] (S [m 7 0,d 8 (.convert 3 130 (t 7)),a 5 8] (.seq (S
 [A 6 (i 0)] (.block 0 (.loop pc118_l1))) pc118_r1)) }).1
theorem calls118 (hn : args.length = 2) (h : avc Tryz.prog G 19 pc118 (afin Tryz.prog [.tmp 4] R) (frame0 args) σ) : ACalls Tryz.prog G 118 args σ R :=
  acalls' (n := 19) (l := [.tmp 4]) mixed Tryz.func118 (by kernel_rfl) (by kernel_rfl) (by kernel_rfl) (by omega) h
def pc119_l1 : PC := (⟨_, by delta C S a b d i l m t x; exact rfl⟩ : { p : PC // p = .seq (S [m 7 3,b 8 .geq 3 (t 7) (i 0) 3] (C 8 .skip (.exit 0))) (.seq
 (.block 1 (S [m 11 0,m 12 3,l 13 25 1,m 14 3,x 15 25 13 14,l 16 3 15,d 17 (.call ⟨.value (t 11),#[t 12,t 16],#[3,3]⟩),d 18 (.unOp .not 4 (t 17))] (C 18 .ret
 .skip))) (.ops [m 9 3,b 10 .sub 3 (t 9) (i 1) 3,a 3 10])) }).1
def pc119 : PC := (⟨_, by delta L S a b i l t; exact rfl⟩ : { p : PC // p = S [l 4 25 1,L 5 4 25,b 6 .sub 3 (t 5) (i 1) 3,a 3 6] (.block 0 (.loop pc119_l1))
 }).1
theorem calls119 (hn : args.length = 2) (h : avc Tryz.prog G 19 pc119 (afin Tryz.prog [] R) (frame0 args) σ) : ACalls Tryz.prog G 119 args σ R :=
  acalls' (n := 19) (l := []) mixed Tryz.func119 (by kernel_rfl) (by kernel_rfl) (by kernel_rfl) (by omega) h
def pc121 : PC := (⟨_, by delta A C S m; exact rfl⟩ : { p : PC // p = S [A 2 (.const (.int .i32 0))] (.seq (S [m 3 0] (C 3 (S [A 2 (.const (.int .i32 1))] .ret)
 .skip)) (S [A 2 (.const (.int .i32 0))] .ret)) }).1
theorem calls121 (hn : args.length = 1) (h : avc Tryz.prog G 4 pc121 (afin Tryz.prog [.tmp 2] R) (frame0 args) σ) : ACalls Tryz.prog G 121 args σ R :=
  acalls' (n := 4) (l := [.tmp 2]) mixed Tryz.func121 (by kernel_rfl) (by kernel_rfl) (by kernel_rfl) (by omega) h
def pc122 : PC := (⟨_, by delta A C S i m; exact rfl⟩ : { p : PC // p = S [A 2 (i 0)] (.seq (S [m 3 0] (C 3 (S [A 2 (i 1)] .ret) .skip)) (S [A 2 (i 0)] .ret))
 }).1
theorem calls122 (hn : args.length = 1) (h : avc Tryz.prog G 4 pc122 (afin Tryz.prog [.tmp 2] R) (frame0 args) σ) : ACalls Tryz.prog G 122 args σ R :=
  acalls' (n := 4) (l := [.tmp 2]) mixed Tryz.func122 (by kernel_rfl) (by kernel_rfl) (by kernel_rfl) (by omega) h
@[simp] theorem t_sz24 : szOf Tryz.prog 24 = some 3 := by kernel_rfl
@[simp] theorem t_agg24 : aggOf Tryz.prog 24 = true := by kernel_rfl
@[simp] theorem t_call4 : callable Tryz.prog 4 = true := by kernel_rfl
@[simp] theorem t_el25 : elOf Tryz.prog 25 = some 1 := by kernel_rfl
@[simp] theorem t_str25 : isStr Tryz.prog 25 = false := by kernel_rfl
@[simp] theorem t_und3 : Tryz.prog.underlying 3 = some (.int .i64) := by kernel_rfl
@[simp] theorem t_call5 : callable Tryz.prog 5 = true := by kernel_rfl
@[simp] theorem t_und27 : Tryz.prog.underlying 27 = some (.int .i64) := by kernel_rfl
@[simp] theorem t_call6 : callable Tryz.prog 6 = true := by kernel_rfl
@[simp] theorem t_call7 : callable Tryz.prog 7 = true := by kernel_rfl
@[simp] theorem t_zero24 : zeroOf Tryz.prog 24 = some (.agg [.nilsl, (.int .i64 0), (.int .i64 0)]) := by kernel_rfl
@[simp] theorem t_call8 : callable Tryz.prog 8 = true := by kernel_rfl
@[simp] theorem t_call9 : callable Tryz.prog 9 = true := by kernel_rfl
@[simp] theorem t_zero33 : zeroOf Tryz.prog 33 = some (.agg [.nilsl, (.int .i64 0), (.int .i64 0)]) := by kernel_rfl
@[simp] theorem t_sz33 : szOf Tryz.prog 33 = some 3 := by kernel_rfl
@[simp] theorem t_agg33 : aggOf Tryz.prog 33 = true := by kernel_rfl
@[simp] theorem t_call11 : callable Tryz.prog 11 = true := by kernel_rfl
@[simp] theorem t_call10 : callable Tryz.prog 10 = true := by kernel_rfl
@[simp] theorem t_call12 : callable Tryz.prog 12 = true := by kernel_rfl
@[simp] theorem t_call13 : callable Tryz.prog 13 = true := by kernel_rfl
@[simp] theorem t_fi24_0 : fiOf Tryz.prog 24 0 = some ⟨0, 1, false⟩ := by kernel_rfl
@[simp] theorem t_sz22 : szOf Tryz.prog 22 = some 1 := by kernel_rfl
@[simp] theorem t_agg22 : aggOf Tryz.prog 22 = false := by kernel_rfl
@[simp] theorem t_el22 : elOf Tryz.prog 22 = some 5 := by kernel_rfl
@[simp] theorem t_str22 : isStr Tryz.prog 22 = false := by kernel_rfl
@[simp] theorem t_sz41 : szOf Tryz.prog 41 = some 5 := by kernel_rfl
@[simp] theorem t_agg41 : aggOf Tryz.prog 41 = true := by kernel_rfl
@[simp] theorem t_zero41 : zeroOf Tryz.prog 41 = some (.agg [(.str []), .nilsl, .nilsl, (.int .i64 0), .nilsl]) := by kernel_rfl
@[simp] theorem t_fi41_1 : fiOf Tryz.prog 41 1 = some ⟨1, 1, false⟩ := by kernel_rfl
@[simp] theorem t_sz25 : szOf Tryz.prog 25 = some 1 := by kernel_rfl
@[simp] theorem t_agg25 : aggOf Tryz.prog 25 = false := by kernel_rfl
@[simp] theorem t_fi41_2 : fiOf Tryz.prog 41 2 = some ⟨2, 1, false⟩ := by kernel_rfl
@[simp] theorem t_fi41_4 : fiOf Tryz.prog 41 4 = some ⟨4, 1, false⟩ := by kernel_rfl
@[simp] theorem t_sz39 : szOf Tryz.prog 39 = some 1 := by kernel_rfl
@[simp] theorem t_agg39 : aggOf Tryz.prog 39 = false := by kernel_rfl
@[simp] theorem t_el39 : elOf Tryz.prog 39 = some 1 := by kernel_rfl
@[simp] theorem t_str39 : isStr Tryz.prog 39 = false := by kernel_rfl
@[simp] theorem t_sz42 : szOf Tryz.prog 42 = some 1 := by kernel_rfl
@[simp] theorem t_agg42 : aggOf Tryz.prog 42 = false := by kernel_rfl
@[simp] theorem t_el42 : elOf Tryz.prog 42 = some 6 := by kernel_rfl
@[simp] theorem t_str42 : isStr Tryz.prog 42 = false := by kernel_rfl
@[simp] theorem t_fi24_1 : fiOf Tryz.prog 24 1 = some ⟨1, 1, false⟩ := by kernel_rfl
@[simp] theorem t_sz3 : szOf Tryz.prog 3 = some 1 := by kernel_rfl
@[simp] theorem t_agg3 : aggOf Tryz.prog 3 = false := by kernel_rfl
@[simp] theorem t_call14 : callable Tryz.prog 14 = true := by kernel_rfl
@[simp] theorem t_fi24_2 : fiOf Tryz.prog 24 2 = some ⟨2, 1, false⟩ := by kernel_rfl
@[simp] theorem t_fi41_3 : fiOf Tryz.prog 41 3 = some ⟨3, 1, false⟩ := by kernel_rfl
@[simp] theorem t_call16 : callable Tryz.prog 16 = true := by kernel_rfl
@[simp] theorem t_ez42 : elZero Tryz.prog 42 = some (.agg [(.int .i64 0), (.int .i64 0), (.int .i64 0), (.int .i64 0), (.int .i64 0), (.str [])]) := by kernel_rfl
@[simp] theorem t_call15 : callable Tryz.prog 15 = true := by kernel_rfl
@[simp] theorem t_call17 : callable Tryz.prog 17 = true := by kernel_rfl
@[simp] theorem t_fi33_1 : fiOf Tryz.prog 33 1 = some ⟨1, 1, false⟩ := by kernel_rfl
@[simp] theorem t_fi33_2 : fiOf Tryz.prog 33 2 = some ⟨2, 1, false⟩ := by kernel_rfl
@[simp] theorem t_call18 : callable Tryz.prog 18 = true := by kernel_rfl
@[simp] theorem t_call19 : callable Tryz.prog 19 = true := by kernel_rfl
@[simp] theorem t_call20 : callable Tryz.prog 20 = true := by kernel_rfl
@[simp] theorem t_ez25 : elZero Tryz.prog 25 = some (.int .i64 0) := by kernel_rfl
@[simp] theorem t_eb25 : elBytes Tryz.prog 25 = some 8 := by kernel_rfl
@[simp] theorem t_el51 : elOf Tryz.prog 51 = some 1 := by kernel_rfl
@[simp] theorem t_ez51 : elZero Tryz.prog 51 = some (.int .u8 0) := by kernel_rfl
@[simp] theorem t_eb51 : elBytes Tryz.prog 51 = some 1 := by kernel_rfl
@[simp] theorem t_struct53 : isStruct Tryz.prog 53 = true := by kernel_rfl
@[simp] theorem t_sized53 : sized Tryz.prog 53 = true := by kernel_rfl
@[simp] theorem t_zero53 : zeroOf Tryz.prog 53 = some (.agg [.nilsl, (.int .i64 0), (.int .i64 0), .nilsl, (.int .i64 0), .nilsl, .nilsl, (.int .i64 0)]) := by kernel_rfl
@[simp] theorem t_fi53_0 : fiOf Tryz.prog 53 0 = some ⟨0, 3, true⟩ := by kernel_rfl
@[simp] theorem t_fi53_1 : fiOf Tryz.prog 53 1 = some ⟨3, 1, false⟩ := by kernel_rfl
@[simp] theorem t_fi53_2 : fiOf Tryz.prog 53 2 = some ⟨4, 1, false⟩ := by kernel_rfl
@[simp] theorem t_fi53_3 : fiOf Tryz.prog 53 3 = some ⟨5, 1, false⟩ := by kernel_rfl
@[simp] theorem t_zero50 : zeroOf Tryz.prog 50 = some .nilp := by kernel_rfl
@[simp] theorem t_sz50 : szOf Tryz.prog 50 = some 1 := by kernel_rfl
@[simp] theorem t_agg50 : aggOf Tryz.prog 50 = false := by kernel_rfl
@[simp] theorem t_call22 : callable Tryz.prog 22 = true := by kernel_rfl
@[simp] theorem t_fi53_4 : fiOf Tryz.prog 53 4 = some ⟨6, 1, false⟩ := by kernel_rfl
@[simp] theorem t_struct33 : isStruct Tryz.prog 33 = true := by kernel_rfl
@[simp] theorem t_sized33 : sized Tryz.prog 33 = true := by kernel_rfl
@[simp] theorem t_fi33_0 : fiOf Tryz.prog 33 0 = some ⟨0, 1, false⟩ := by kernel_rfl
@[simp] theorem t_call23 : callable Tryz.prog 23 = true := by kernel_rfl
@[simp] theorem t_struct60 : isStruct Tryz.prog 60 = true := by kernel_rfl
@[simp] theorem t_sized60 : sized Tryz.prog 60 = true := by kernel_rfl
@[simp] theorem t_zero60 : zeroOf Tryz.prog 60 = some (.agg [.nilsl, (.int .i64 0), (.int .i64 0), .nilsl, .nilsl, .nilsl, .nilsl, (.int .i64 0), (.int .i64 0)]) := by kernel_rfl
@[simp] theorem t_fi60_0 : fiOf Tryz.prog 60 0 = some ⟨0, 3, true⟩ := by kernel_rfl
@[simp] theorem t_fi60_1 : fiOf Tryz.prog 60 1 = some ⟨3, 1, false⟩ := by kernel_rfl
@[simp] theorem t_fi60_2 : fiOf Tryz.prog 60 2 = some ⟨4, 1, false⟩ := by kernel_rfl
@[simp] theorem t_struct63 : isStruct Tryz.prog 63 = true := by kernel_rfl
@[simp] theorem t_sized63 : sized Tryz.prog 63 = true := by kernel_rfl
@[simp] theorem t_zero63 : zeroOf Tryz.prog 63 = some (.agg [(.int .i64 0), .nilsl, .nilsl, .nilsl]) := by kernel_rfl
@[simp] theorem t_fi63_0 : fiOf Tryz.prog 63 0 = some ⟨0, 1, false⟩ := by kernel_rfl
@[simp] theorem t_fi63_1 : fiOf Tryz.prog 63 1 = some ⟨1, 1, false⟩ := by kernel_rfl
@[simp] theorem t_el58 : elOf Tryz.prog 58 = some 4 := by kernel_rfl
@[simp] theorem t_ez58 : elZero Tryz.prog 58 = some (.agg [(.int .i64 0), .nilsl, .nilsl, .nilsl]) := by kernel_rfl
@[simp] theorem t_fi60_3 : fiOf Tryz.prog 60 3 = some ⟨5, 1, false⟩ := by kernel_rfl
@[simp] theorem t_sz58 : szOf Tryz.prog 58 = some 1 := by kernel_rfl
@[simp] theorem t_agg58 : aggOf Tryz.prog 58 = false := by kernel_rfl
@[simp] theorem t_call24 : callable Tryz.prog 24 = true := by kernel_rfl
@[simp] theorem t_call25 : callable Tryz.prog 25 = true := by kernel_rfl
@[simp] theorem t_fi60_4 : fiOf Tryz.prog 60 4 = some ⟨6, 3, true⟩ := by kernel_rfl
@[simp] theorem t_str58 : isStr Tryz.prog 58 = false := by kernel_rfl
@[simp] theorem t_fi63_3 : fiOf Tryz.prog 63 3 = some ⟨3, 1, false⟩ := by kernel_rfl
@[simp] theorem t_sz61 : szOf Tryz.prog 61 = some 1 := by kernel_rfl
@[simp] theorem t_agg61 : aggOf Tryz.prog 61 = false := by kernel_rfl
@[simp] theorem t_el61 : elOf Tryz.prog 61 = some 4 := by kernel_rfl
@[simp] theorem t_str61 : isStr Tryz.prog 61 = false := by kernel_rfl
@[simp] theorem t_sz66 : szOf Tryz.prog 66 = some 4 := by kernel_rfl
@[simp] theorem t_agg66 : aggOf Tryz.prog 66 = true := by kernel_rfl
@[simp] theorem t_zero66 : zeroOf Tryz.prog 66 = some (.agg [(.int .i64 0), (.int .i64 0), (.int .i64 0), (.bool false)]) := by kernel_rfl
@[simp] theorem t_fi66_1 : fiOf Tryz.prog 66 1 = some ⟨1, 1, false⟩ := by kernel_rfl
@[simp] theorem t_fi66_0 : fiOf Tryz.prog 66 0 = some ⟨0, 1, false⟩ := by kernel_rfl
@[simp] theorem t_sz46 : szOf Tryz.prog 46 = some 6 := by kernel_rfl
@[simp] theorem t_agg46 : aggOf Tryz.prog 46 = true := by kernel_rfl
@[simp] theorem t_call26 : callable Tryz.prog 26 = true := by kernel_rfl
@[simp] theorem t_call27 : callable Tryz.prog 27 = true := by kernel_rfl
@[simp] theorem t_call28 : callable Tryz.prog 28 = true := by kernel_rfl
@[simp] theorem t_struct72 : isStruct Tryz.prog 72 = true := by kernel_rfl
@[simp] theorem t_sized72 : sized Tryz.prog 72 = true := by kernel_rfl
@[simp] theorem t_zero72 : zeroOf Tryz.prog 72 = some (.agg [.nilsl, (.int .i64 0), (.int .i64 0), (.str []), .nilsl, .nilsl, (.int .i64 0), .nilsl, .nilsl, (.int .i64 0)]) := by kernel_rfl
@[simp] theorem t_fi72_0 : fiOf Tryz.prog 72 0 = some ⟨0, 3, true⟩ := by kernel_rfl
@[simp] theorem t_fi72_1 : fiOf Tryz.prog 72 1 = some ⟨3, 5, true⟩ := by kernel_rfl
@[simp] theorem t_fi72_2 : fiOf Tryz.prog 72 2 = some ⟨8, 1, false⟩ := by kernel_rfl
@[simp] theorem t_call29 : callable Tryz.prog 29 = true := by kernel_rfl
@[simp] theorem t_call30 : callable Tryz.prog 30 = true := by kernel_rfl
@[simp] theorem t_call31 : callable Tryz.prog 31 = true := by kernel_rfl
@[simp] theorem t_fi72_3 : fiOf Tryz.prog 72 3 = some ⟨9, 1, false⟩ := by kernel_rfl
@[simp] theorem t_sz27 : szOf Tryz.prog 27 = some 1 := by kernel_rfl
@[simp] theorem t_agg27 : aggOf Tryz.prog 27 = false := by kernel_rfl
@[simp] theorem t_ez39 : elZero Tryz.prog 39 = some .nilsl := by kernel_rfl
@[simp] theorem t_call32 : callable Tryz.prog 32 = true := by kernel_rfl
@[simp] theorem t_zero46 : zeroOf Tryz.prog 46 = some (.agg [(.int .i64 0), (.int .i64 0), (.int .i64 0), (.int .i64 0), (.int .i64 0), (.str [])]) := by kernel_rfl
@[simp] theorem t_struct46 : isStruct Tryz.prog 46 = true := by kernel_rfl
@[simp] theorem t_sized46 : sized Tryz.prog 46 = true := by kernel_rfl
@[simp] theorem t_fi46_0 : fiOf Tryz.prog 46 0 = some ⟨0, 1, false⟩ := by kernel_rfl
@[simp] theorem t_fi46_1 : fiOf Tryz.prog 46 1 = some ⟨1, 1, false⟩ := by kernel_rfl
@[simp] theorem t_fi46_2 : fiOf Tryz.prog 46 2 = some ⟨2, 1, false⟩ := by kernel_rfl
@[simp] theorem t_zero27 : zeroOf Tryz.prog 27 = some (.int .i64 0) := by kernel_rfl
@[simp] theorem t_call34 : callable Tryz.prog 34 = true := by kernel_rfl
@[simp] theorem t_struct81 : isStruct Tryz.prog 81 = true := by kernel_rfl
@[simp] theorem t_sized81 : sized Tryz.prog 81 = true := by kernel_rfl
@[simp] theorem t_zero81 : zeroOf Tryz.prog 81 = some (.agg [.nilsl, (.int .i64 0), (.int .i64 0), (.str []), .nilsl, .nilsl, (.int .i64 0), .nilsl, .nilsl]) := by kernel_rfl
@[simp] theorem t_fi81_0 : fiOf Tryz.prog 81 0 = some ⟨0, 3, true⟩ := by kernel_rfl
@[simp] theorem t_fi81_1 : fiOf Tryz.prog 81 1 = some ⟨3, 5, true⟩ := by kernel_rfl
@[simp] theorem t_call35 : callable Tryz.prog 35 = true := by kernel_rfl
@[simp] theorem t_call36 : callable Tryz.prog 36 = true := by kernel_rfl
@[simp] theorem t_ez22 : elZero Tryz.prog 22 = some (.agg [(.str []), .nilsl, .nilsl, (.int .i64 0), .nilsl]) := by kernel_rfl
@[simp] theorem t_eb22 : elBytes Tryz.prog 22 = some 96 := by kernel_rfl
@[simp] theorem t_zero55 : zeroOf Tryz.prog 55 = some (.agg [(.int .i64 0), (.int .i64 0)]) := by kernel_rfl
@[simp] theorem t_sz55 : szOf Tryz.prog 55 = some 2 := by kernel_rfl
@[simp] theorem t_agg55 : aggOf Tryz.prog 55 = true := by kernel_rfl
@[simp] theorem t_fi55_0 : fiOf Tryz.prog 55 0 = some ⟨0, 1, false⟩ := by kernel_rfl
@[simp] theorem t_fi55_1 : fiOf Tryz.prog 55 1 = some ⟨1, 1, false⟩ := by kernel_rfl
@[simp] theorem t_fi53_5 : fiOf Tryz.prog 53 5 = some ⟨7, 1, false⟩ := by kernel_rfl
@[simp] theorem t_call37 : callable Tryz.prog 37 = true := by kernel_rfl
@[simp] theorem t_str3 : isStr Tryz.prog 3 = false := by kernel_rfl
@[simp] theorem t_int3 : intOf? Tryz.prog 3 = some .i64 := by kernel_rfl
@[simp] theorem t_struct86 : isStruct Tryz.prog 86 = true := by kernel_rfl
@[simp] theorem t_sized86 : sized Tryz.prog 86 = true := by kernel_rfl
@[simp] theorem t_zero86 : zeroOf Tryz.prog 86 = some (.agg [(.str []), .nilsl, .nilsl, (.int .i64 0), .nilsl, .nilsl, .nilsl, (.int .i64 0)]) := by kernel_rfl
@[simp] theorem t_fi86_0 : fiOf Tryz.prog 86 0 = some ⟨0, 5, true⟩ := by kernel_rfl
@[simp] theorem t_fi86_1 : fiOf Tryz.prog 86 1 = some ⟨5, 1, false⟩ := by kernel_rfl
@[simp] theorem t_call38 : callable Tryz.prog 38 = true := by kernel_rfl
@[simp] theorem t_call39 : callable Tryz.prog 39 = true := by kernel_rfl
@[simp] theorem t_fi86_3 : fiOf Tryz.prog 86 3 = some ⟨7, 1, false⟩ := by kernel_rfl
@[simp] theorem t_fi63_2 : fiOf Tryz.prog 63 2 = some ⟨2, 1, false⟩ := by kernel_rfl
@[simp] theorem t_struct66 : isStruct Tryz.prog 66 = true := by kernel_rfl
@[simp] theorem t_sized66 : sized Tryz.prog 66 = true := by kernel_rfl
@[simp] theorem t_fi66_2 : fiOf Tryz.prog 66 2 = some ⟨2, 1, false⟩ := by kernel_rfl
@[simp] theorem t_fi66_3 : fiOf Tryz.prog 66 3 = some ⟨3, 1, false⟩ := by kernel_rfl
@[simp] theorem t_ez61 : elZero Tryz.prog 61 = some (.agg [(.int .i64 0), (.int .i64 0), (.int .i64 0), (.bool false)]) := by kernel_rfl
@[simp] theorem t_eb61 : elBytes Tryz.prog 61 = some 32 := by kernel_rfl
@[simp] theorem t_call40 : callable Tryz.prog 40 = true := by kernel_rfl
@[simp] theorem t_fi46_3 : fiOf Tryz.prog 46 3 = some ⟨3, 1, false⟩ := by kernel_rfl
@[simp] theorem t_call41 : callable Tryz.prog 41 = true := by kernel_rfl
@[simp] theorem t_fi46_4 : fiOf Tryz.prog 46 4 = some ⟨4, 1, false⟩ := by kernel_rfl
@[simp] theorem t_call42 : callable Tryz.prog 42 = true := by kernel_rfl
@[simp] theorem t_call43 : callable Tryz.prog 43 = true := by kernel_rfl
@[simp] theorem t_call44 : callable Tryz.prog 44 = true := by kernel_rfl
@[simp] theorem t_call45 : callable Tryz.prog 45 = true := by kernel_rfl
@[simp] theorem t_struct92 : isStruct Tryz.prog 92 = true := by kernel_rfl
@[simp] theorem t_sized92 : sized Tryz.prog 92 = true := by kernel_rfl
@[simp] theorem t_zero92 : zeroOf Tryz.prog 92 = some (.agg [.nilsl, (.bool false)]) := by kernel_rfl
@[simp] theorem t_sz92 : szOf Tryz.prog 92 = some 2 := by kernel_rfl
@[simp] theorem t_agg92 : aggOf Tryz.prog 92 = true := by kernel_rfl
@[simp] theorem t_call46 : callable Tryz.prog 46 = true := by kernel_rfl
@[simp] theorem t_call47 : callable Tryz.prog 47 = true := by kernel_rfl
@[simp] theorem t_fi92_0 : fiOf Tryz.prog 92 0 = some ⟨0, 1, false⟩ := by kernel_rfl
@[simp] theorem t_struct41 : isStruct Tryz.prog 41 = true := by kernel_rfl
@[simp] theorem t_sized41 : sized Tryz.prog 41 = true := by kernel_rfl
@[simp] theorem t_fi41_0 : fiOf Tryz.prog 41 0 = some ⟨0, 1, false⟩ := by kernel_rfl
@[simp] theorem t_struct24 : isStruct Tryz.prog 24 = true := by kernel_rfl
@[simp] theorem t_sized24 : sized Tryz.prog 24 = true := by kernel_rfl
@[simp] theorem t_fi77_0 : fiOf Tryz.prog 77 0 = some ⟨0, 1, false⟩ := by kernel_rfl
@[simp] theorem t_struct77 : isStruct Tryz.prog 77 = true := by kernel_rfl
@[simp] theorem t_sized77 : sized Tryz.prog 77 = true := by kernel_rfl
@[simp] theorem t_zero77 : zeroOf Tryz.prog 77 = some (.agg [(.int .i64 0)]) := by kernel_rfl
@[simp] theorem t_if77 : isIface Tryz.prog 77 = some false := by kernel_rfl
@[simp] theorem t_el109 : elOf Tryz.prog 109 = some 1 := by kernel_rfl
@[simp] theorem t_ez109 : elZero Tryz.prog 109 = some .nilsl := by kernel_rfl
@[simp] theorem t_call48 : callable Tryz.prog 48 = true := by kernel_rfl
@[simp] theorem t_fi81_2 : fiOf Tryz.prog 81 2 = some ⟨8, 1, false⟩ := by kernel_rfl
@[simp] theorem t_call49 : callable Tryz.prog 49 = true := by kernel_rfl
@[simp] theorem t_call52 : callable Tryz.prog 52 = true := by kernel_rfl
@[simp] theorem t_call53 : callable Tryz.prog 53 = true := by kernel_rfl
@[simp] theorem t_call54 : callable Tryz.prog 54 = true := by kernel_rfl
@[simp] theorem t_struct55 : isStruct Tryz.prog 55 = true := by kernel_rfl
@[simp] theorem t_sized55 : sized Tryz.prog 55 = true := by kernel_rfl
@[simp] theorem t_if55 : isIface Tryz.prog 55 = some false := by kernel_rfl
@[simp] theorem t_fi86_2 : fiOf Tryz.prog 86 2 = some ⟨6, 1, false⟩ := by kernel_rfl
@[simp] theorem t_call55 : callable Tryz.prog 55 = true := by kernel_rfl
@[simp] theorem t_call56 : callable Tryz.prog 56 = true := by kernel_rfl
@[simp] theorem t_call57 : callable Tryz.prog 57 = true := by kernel_rfl
@[simp] theorem t_call58 : callable Tryz.prog 58 = true := by kernel_rfl
@[simp] theorem t_sz4 : szOf Tryz.prog 4 = some 1 := by kernel_rfl
@[simp] theorem t_agg4 : aggOf Tryz.prog 4 = false := by kernel_rfl
@[simp] theorem t_call59 : callable Tryz.prog 59 = true := by kernel_rfl
@[simp] theorem t_call60 : callable Tryz.prog 60 = true := by kernel_rfl
@[simp] theorem t_call61 : callable Tryz.prog 61 = true := by kernel_rfl
@[simp] theorem t_call62 : callable Tryz.prog 62 = true := by kernel_rfl
@[simp] theorem t_call63 : callable Tryz.prog 63 = true := by kernel_rfl
@[simp] theorem t_sz9 : szOf Tryz.prog 9 = some 1 := by kernel_rfl
@[simp] theorem t_agg9 : aggOf Tryz.prog 9 = false := by kernel_rfl
@[simp] theorem t_und9 : Tryz.prog.underlying 9 = some .string := by kernel_rfl
@[simp] theorem t_call64 : callable Tryz.prog 64 = true := by kernel_rfl
@[simp] theorem t_call65 : callable Tryz.prog 65 = true := by kernel_rfl
@[simp] theorem t_call66 : callable Tryz.prog 66 = true := by kernel_rfl
@[simp] theorem t_call67 : callable Tryz.prog 67 = true := by kernel_rfl
@[simp] theorem t_call68 : callable Tryz.prog 68 = true := by kernel_rfl
@[simp] theorem t_call69 : callable Tryz.prog 69 = true := by kernel_rfl
@[simp] theorem t_call70 : callable Tryz.prog 70 = true := by kernel_rfl
@[simp] theorem t_call71 : callable Tryz.prog 71 = true := by kernel_rfl
@[simp] theorem t_str109 : isStr Tryz.prog 109 = false := by kernel_rfl
@[simp] theorem t_if9 : isIface Tryz.prog 9 = some false := by kernel_rfl
@[simp] theorem t_call72 : callable Tryz.prog 72 = true := by kernel_rfl
@[simp] theorem t_call73 : callable Tryz.prog 73 = true := by kernel_rfl
@[simp] theorem t_call51 : callable Tryz.prog 51 = true := by kernel_rfl
@[simp] theorem t_el112 : elOf Tryz.prog 112 = some 1 := by kernel_rfl
@[simp] theorem t_ez112 : elZero Tryz.prog 112 = some (.bool false) := by kernel_rfl
@[simp] theorem t_eb112 : elBytes Tryz.prog 112 = some 1 := by kernel_rfl
@[simp] theorem t_call74 : callable Tryz.prog 74 = true := by kernel_rfl
@[simp] theorem t_str112 : isStr Tryz.prog 112 = false := by kernel_rfl
@[simp] theorem t_call75 : callable Tryz.prog 75 = true := by kernel_rfl
@[simp] theorem t_struct116 : isStruct Tryz.prog 116 = true := by kernel_rfl
@[simp] theorem t_sized116 : sized Tryz.prog 116 = true := by kernel_rfl
@[simp] theorem t_zero116 : zeroOf Tryz.prog 116 = some (.agg [.nilp, .nilsl, (.bool false), (.int .i64 0)]) := by kernel_rfl
@[simp] theorem t_fi116_0 : fiOf Tryz.prog 116 0 = some ⟨0, 1, false⟩ := by kernel_rfl
@[simp] theorem t_fi116_3 : fiOf Tryz.prog 116 3 = some ⟨3, 1, false⟩ := by kernel_rfl
@[simp] theorem t_call76 : callable Tryz.prog 76 = true := by kernel_rfl
@[simp] theorem t_call77 : callable Tryz.prog 77 = true := by kernel_rfl
@[simp] theorem t_fi116_1 : fiOf Tryz.prog 116 1 = some ⟨1, 1, false⟩ := by kernel_rfl
@[simp] theorem t_call78 : callable Tryz.prog 78 = true := by kernel_rfl
@[simp] theorem t_eb39 : elBytes Tryz.prog 39 = some 24 := by kernel_rfl
@[simp] theorem t_call79 : callable Tryz.prog 79 = true := by kernel_rfl
@[simp] theorem t_fi46_5 : fiOf Tryz.prog 46 5 = some ⟨5, 1, false⟩ := by kernel_rfl
@[simp] theorem t_call81 : callable Tryz.prog 81 = true := by kernel_rfl
@[simp] theorem t_call80 : callable Tryz.prog 80 = true := by kernel_rfl
@[simp] theorem t_call82 : callable Tryz.prog 82 = true := by kernel_rfl
@[simp] theorem t_call84 : callable Tryz.prog 84 = true := by kernel_rfl
@[simp] theorem t_call83 : callable Tryz.prog 83 = true := by kernel_rfl
@[simp] theorem t_str51 : isStr Tryz.prog 51 = false := by kernel_rfl
@[simp] theorem t_sz51 : szOf Tryz.prog 51 = some 1 := by kernel_rfl
@[simp] theorem t_agg51 : aggOf Tryz.prog 51 = false := by kernel_rfl
@[simp] theorem t_str5 : isStr Tryz.prog 5 = false := by kernel_rfl
@[simp] theorem t_u8_3 : isU8 Tryz.prog 3 = false := by kernel_rfl
@[simp] theorem t_u8_5 : isU8 Tryz.prog 5 = false := by kernel_rfl
@[simp] theorem t_int5 : intOf? Tryz.prog 5 = some .u8 := by kernel_rfl
@[simp] theorem t_some3 : (Tryz.prog.underlying 3).isSome = true := by kernel_rfl
@[simp] theorem t_sz5 : szOf Tryz.prog 5 = some 1 := by kernel_rfl
@[simp] theorem t_agg5 : aggOf Tryz.prog 5 = false := by kernel_rfl
@[simp] theorem t_call85 : callable Tryz.prog 85 = true := by kernel_rfl
@[simp] theorem t_call86 : callable Tryz.prog 86 = true := by kernel_rfl
@[simp] theorem t_call88 : callable Tryz.prog 88 = true := by kernel_rfl
@[simp] theorem t_el124 : elOf Tryz.prog 124 = some 1 := by kernel_rfl
@[simp] theorem t_str124 : isStr Tryz.prog 124 = false := by kernel_rfl
@[simp] theorem t_call87 : callable Tryz.prog 87 = true := by kernel_rfl
@[simp] theorem t_call89 : callable Tryz.prog 89 = true := by kernel_rfl
@[simp] theorem t_str128 : isStr Tryz.prog 128 = false := by kernel_rfl
@[simp] theorem t_u8_128 : isU8 Tryz.prog 128 = false := by kernel_rfl
@[simp] theorem t_int128 : intOf? Tryz.prog 128 = some .u64 := by kernel_rfl
@[simp] theorem t_call90 : callable Tryz.prog 90 = true := by kernel_rfl
@[simp] theorem t_some5 : (Tryz.prog.underlying 5).isSome = true := by kernel_rfl
@[simp] theorem t_str130 : isStr Tryz.prog 130 = false := by kernel_rfl
@[simp] theorem t_u8_130 : isU8 Tryz.prog 130 = false := by kernel_rfl
@[simp] theorem t_int130 : intOf? Tryz.prog 130 = some .u64 := by kernel_rfl
@[simp] theorem t_und130 : Tryz.prog.underlying 130 = some (.int .u64) := by kernel_rfl
@[simp] theorem t_some130 : (Tryz.prog.underlying 130).isSome = true := by kernel_rfl
@[simp] theorem t_call91 : callable Tryz.prog 91 = true := by kernel_rfl
@[simp] theorem t_call92 : callable Tryz.prog 92 = true := by kernel_rfl
@[simp] theorem t_call93 : callable Tryz.prog 93 = true := by kernel_rfl
@[simp] theorem t_fi92_1 : fiOf Tryz.prog 92 1 = some ⟨1, 1, false⟩ := by kernel_rfl
@[simp] theorem t_call94 : callable Tryz.prog 94 = true := by kernel_rfl
@[simp] theorem t_call95 : callable Tryz.prog 95 = true := by kernel_rfl
@[simp] theorem t_call96 : callable Tryz.prog 96 = true := by kernel_rfl
@[simp] theorem t_sz79 : szOf Tryz.prog 79 = some 1 := by kernel_rfl
@[simp] theorem t_agg79 : aggOf Tryz.prog 79 = false := by kernel_rfl
@[simp] theorem t_call97 : callable Tryz.prog 97 = true := by kernel_rfl
@[simp] theorem t_call98 : callable Tryz.prog 98 = true := by kernel_rfl
@[simp] theorem t_call99 : callable Tryz.prog 99 = true := by kernel_rfl
@[simp] theorem t_call100 : callable Tryz.prog 100 = true := by kernel_rfl
@[simp] theorem t_eb42 : elBytes Tryz.prog 42 = some 56 := by kernel_rfl
@[simp] theorem t_str21 : isStr Tryz.prog 21 = false := by kernel_rfl
@[simp] theorem t_u8_21 : isU8 Tryz.prog 21 = false := by kernel_rfl
@[simp] theorem t_int21 : intOf? Tryz.prog 21 = some .i32 := by kernel_rfl
@[simp] theorem t_call101 : callable Tryz.prog 101 = true := by kernel_rfl
@[simp] theorem t_call102 : callable Tryz.prog 102 = true := by kernel_rfl
@[simp] theorem t_sz139 : szOf Tryz.prog 139 = some 32 := by kernel_rfl
@[simp] theorem t_agg139 : aggOf Tryz.prog 139 = true := by kernel_rfl
@[simp] theorem t_ar139 : arOf Tryz.prog 139 = some (16, 2, true) := by kernel_rfl
@[simp] theorem t_str139 : isStr Tryz.prog 139 = false := by kernel_rfl
@[simp] theorem t_zero138 : zeroOf Tryz.prog 138 = some (.agg [(.str []), (.str [])]) := by kernel_rfl
@[simp] theorem t_sz138 : szOf Tryz.prog 138 = some 2 := by kernel_rfl
@[simp] theorem t_agg138 : aggOf Tryz.prog 138 = true := by kernel_rfl
@[simp] theorem t_ar138 : arOf Tryz.prog 138 = some (2, 1, false) := by kernel_rfl
@[simp] theorem t_str138 : isStr Tryz.prog 138 = false := by kernel_rfl
@[simp] theorem t_str140 : isStr Tryz.prog 140 = false := by kernel_rfl
@[simp] theorem t_u8_140 : isU8 Tryz.prog 140 = false := by kernel_rfl
@[simp] theorem t_int140 : intOf? Tryz.prog 140 = some .i8 := by kernel_rfl
@[simp] theorem t_some140 : (Tryz.prog.underlying 140).isSome = true := by kernel_rfl
@[simp] theorem t_some21 : (Tryz.prog.underlying 21).isSome = true := by kernel_rfl
@[simp] theorem t_call103 : callable Tryz.prog 103 = true := by kernel_rfl
@[simp] theorem t_call104 : callable Tryz.prog 104 = true := by kernel_rfl
@[simp] theorem t_ez124 : elZero Tryz.prog 124 = some (.str []) := by kernel_rfl
@[simp] theorem t_call105 : callable Tryz.prog 105 = true := by kernel_rfl
@[simp] theorem t_call106 : callable Tryz.prog 106 = true := by kernel_rfl
@[simp] theorem t_call107 : callable Tryz.prog 107 = true := by kernel_rfl
@[simp] theorem t_call108 : callable Tryz.prog 108 = true := by kernel_rfl
@[simp] theorem t_eb58 : elBytes Tryz.prog 58 = some 80 := by kernel_rfl
@[simp] theorem t_und46 : Tryz.prog.underlying 46 = some (.struct #[⟨ "Op", 3, 0, false, "", "", 0⟩, ⟨ "Type", 3, 1, false, "", "", 8⟩, ⟨ "N", 3, 2, false, "", "", 16⟩, ⟨ "Body", 3, 3, false, "", "", 24⟩, ⟨ "Other", 3, 4, false, "", "", 32⟩, ⟨ "S", 9, 5, false, "", "", 40⟩]) := by kernel_rfl
@[simp] theorem t_held46 : Tryz.prog.stoodInHeld 46 = false := by kernel_rfl
@[simp] theorem t_guard46 : Tryz.prog.eqGuardType Tryz.prog.depth 46 = false := by kernel_rfl
@[simp] theorem t_und4 : Tryz.prog.underlying 4 = some .bool := by kernel_rfl
@[simp] theorem t_call109 : callable Tryz.prog 109 = true := by kernel_rfl
@[simp] theorem t_call110 : callable Tryz.prog 110 = true := by kernel_rfl
@[simp] theorem t_zero144 : zeroOf Tryz.prog 144 = some (.agg [.nilsl, (.int .i64 0)]) := by kernel_rfl
@[simp] theorem t_sz144 : szOf Tryz.prog 144 = some 2 := by kernel_rfl
@[simp] theorem t_agg144 : aggOf Tryz.prog 144 = true := by kernel_rfl
@[simp] theorem t_call111 : callable Tryz.prog 111 = true := by kernel_rfl
@[simp] theorem t_sz114 : szOf Tryz.prog 114 = some 1 := by kernel_rfl
@[simp] theorem t_agg114 : aggOf Tryz.prog 114 = false := by kernel_rfl
@[simp] theorem t_call112 : callable Tryz.prog 112 = true := by kernel_rfl
@[simp] theorem t_fi116_2 : fiOf Tryz.prog 116 2 = some ⟨2, 1, false⟩ := by kernel_rfl
@[simp] theorem t_call113 : callable Tryz.prog 113 = true := by kernel_rfl
@[simp] theorem t_fi144_0 : fiOf Tryz.prog 144 0 = some ⟨0, 1, false⟩ := by kernel_rfl
@[simp] theorem t_fi144_1 : fiOf Tryz.prog 144 1 = some ⟨1, 1, false⟩ := by kernel_rfl
@[simp] theorem t_call114 : callable Tryz.prog 114 = true := by kernel_rfl
@[simp] theorem t_call115 : callable Tryz.prog 115 = true := by kernel_rfl
@[simp] theorem t_call116 : callable Tryz.prog 116 = true := by kernel_rfl
@[simp] theorem t_call117 : callable Tryz.prog 117 = true := by kernel_rfl
@[simp] theorem t_und25 : Tryz.prog.underlying 25 = some (.slice 3) := by kernel_rfl
@[simp] theorem t_call118 : callable Tryz.prog 118 = true := by kernel_rfl
@[simp] theorem t_struct144 : isStruct Tryz.prog 144 = true := by kernel_rfl
@[simp] theorem t_sized144 : sized Tryz.prog 144 = true := by kernel_rfl
@[simp] theorem t_call119 : callable Tryz.prog 119 = true := by kernel_rfl
@[simp] theorem t_und21 : Tryz.prog.underlying 21 = some (.int .i32) := by kernel_rfl
@[simp] theorem t_und128 : Tryz.prog.underlying 128 = some (.int .u64) := by kernel_rfl
@[simp] theorem t_call121 : callable Tryz.prog 121 = true := by kernel_rfl
@[simp] theorem t_und2 : Tryz.prog.underlying 2 = some (.int .i64) := by kernel_rfl
@[simp] theorem t_str2 : isStr Tryz.prog 2 = false := by kernel_rfl
@[simp] theorem t_u8_2 : isU8 Tryz.prog 2 = false := by kernel_rfl
@[simp] theorem t_some2 : (Tryz.prog.underlying 2).isSome = true := by kernel_rfl
@[simp] theorem t_call122 : callable Tryz.prog 122 = true := by kernel_rfl
end Go.Proofs.YthifgodgfhbnfaaGreatDoor
