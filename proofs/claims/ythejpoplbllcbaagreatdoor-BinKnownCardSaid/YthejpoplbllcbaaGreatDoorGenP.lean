/- The planned texts of the functions, and facts on the program's types; written by a program; no condition. -/
import Derived.Test.YthejpoplbllcbaaGreatDoorChecked
import Derived.Test.YthejpoplbllcbaaGreatDoorAbsB
import Derived.KernelRfl
set_option maxRecDepth 100000
namespace Go.Proofs.YthejpoplbllcbaaGreatDoor
open Go Go.Abs
namespace Zz
def t (x : Nat) : Operand := .tmp x
def i (k : Int) : Operand := .const (.int .i64 k)
def S (l : List PO) (r : PC) : PC := .seq (.ops l) r
def C (x : Nat) (a b : PC) : PC := .cond (.tmp x) a b
def m (d x : Nat) : PO := ⟨some d, .move (.tmp x), none, []⟩
def l (d t x : Nat) : PO := ⟨some d, .load t (.tmp x), none, []⟩
def f (d t x i : Nat) : PO := ⟨some d, .fieldAddr t (.tmp x) i, none, []⟩
def n (d x : Nat) : PO := ⟨some d, .nilCheck (.tmp x), none, []⟩
def a (d x : Nat) : PO := ⟨some d, .assign (.tmp x), none, []⟩
def A (d : Nat) (v : Operand) : PO := ⟨some d, .assign v, none, []⟩
def x (d t x y : Nat) : PO := ⟨some d, .indexAddr t (.tmp x) (.tmp y), none, []⟩
def b (d : Nat) (o : BinOp) (t : Nat) (x y : Operand) (u : Nat) : PO := ⟨some d, .binOp o t x y u, none, []⟩
def c (d f : Nat) (xs : Array Operand) (ts : Array TypeId) : PO := ⟨some d, .call ⟨.value (.func f), xs, ts⟩, none, []⟩
def L (d x t : Nat) : PO := ⟨some d, .call ⟨.builtin .len, #[(.tmp x)], #[t]⟩, none, []⟩
def d (n : Nat) (o : Op) : PO := ⟨some n, o, none, []⟩
def s (t x y : Nat) : PO := ⟨none, .store t (.tmp x) (.tmp y), none, []⟩
def e (o : Op) : PO := ⟨none, o, none, []⟩
def w (n : Nat) (o : Op) (g : Nat) (v : Bool) : PO := ⟨some n, o, some (g, v), []⟩
end Zz
open Zz
variable {G : Env} {args : List AV} {σ : AS} {R : Out → AS → Prop}
theorem mixed : Tryz.prog.follows .mixedOrders = true := by kernel_rfl
def pc3 : PC := (⟨_, by delta A C L S a b c d i l m s t w; exact rfl⟩ : { p : PC // p = S [A 2 (.const (.bool false))] (.seq (S [m 8 0,L 9 8 22,b 10 .gtr 3 (t
 9) (i 16384) 3] (C 10 (S [c 11 6 #[] #[],a 2 11] .ret) .skip)) (S [m 12 0,c 13 7 #[t 12] #[22],a 3 13] (S [m 15 3,m 16 0,L 17 16 22,d 18 (.slice 22 (t 15) none
 (some (t 17)) none),c 19 8 #[t 18] #[22],m 14 19,d 20 (.extract (t 14) 0),d 21 (.extract (t 14) 1),d 4 (.alloc 27),s 27 4 20,a 5 21] (S [m 23 0,c 24 9 #[t 23]
 #[22],m 22 24,d 25 (.extract (t 22) 0),d 26 (.extract (t 22) 1),d 6 (.alloc 27),s 27 6 25,a 7 26] (.seq (S [m 27 5,b 28 .eql 28 (t 27) (i 0) 28,m 29 7,b 30
 .neq 4 (t 28) (t 29) 4,m 31 30,w 32 (.load 27 (t 4)) 31 false,w 33 (.load 27 (t 6)) 31 false,w 34 (.call ⟨.value (.func 10),#[t 32,t 33],#[27,27]⟩) 31 false,w
 35 (.unOp .not 4 (t 34)) 31 false,d 36 (.pick (t 31) (.const (.bool true)) (t 35)),m 37 36,w 38 (.move (t 5)) 37 false,w 39 (.binOp .neq 28 (t 38) (i 0) 28) 37
 false,w 40 (.move (t 39)) 37 false,w 41 (.move (t 5)) 40 true,w 42 (.binOp .neq 28 (t 41) (i 2) 28) 40 true,w 43 (.pick (t 40) (t 42) (.const (.bool false)))
 37 false,w 44 (.move (t 43)) 37 false,w 45 (.move (t 5)) 44 true,w 46 (.binOp .neq 28 (t 45) (i 9) 28) 44 true,w 47 (.pick (t 44) (t 46) (.const (.bool
 false))) 37 false,w 48 (.move (t 47)) 37 false,w 49 (.move (t 5)) 48 true,w 50 (.binOp .neq 28 (t 49) (i 3) 28) 48 true,w 51 (.pick (t 48) (t 50) (.const
 (.bool false))) 37 false,d 52 (.pick (t 37) (.const (.bool true)) (t 51))] (C 52 (S [A 2 (.const (.bool false))] .ret) .skip)) (S [l 53 27 4,c 54 11 #[t 53]
 #[27]] (S [m 55 3,m 56 0,c 57 12 #[t 55,t 56] #[22,22],m 58 57,w 59 (.call ⟨.value (.func 6),#[],#[]⟩) 58 true,d 60 (.pick (t 58) (t 59) (.const (.bool
 false))),a 2 60] .ret))))))) }).1
theorem calls3 (hn : args.length = 1) (h : avc Tryz.prog G 61 pc3 (afin Tryz.prog [.tmp 2] R) (frame0 args) σ) : ACalls Tryz.prog G 3 args σ R :=
  acalls' (n := 61) (l := [.tmp 2]) mixed Tryz.func3 (by kernel_rfl) (by kernel_rfl) (by kernel_rfl) (by omega) h
def pc4_l1 : PC := (⟨_, by delta C L S a b c d i l m t x; exact rfl⟩ : { p : PC // p = .seq (S [m 11 3,m 12 2,L 13 12 38,b 14 .lss 3 (t 11) (t 13) 3] (C 14
 .skip (.exit 0))) (.seq (.block 1 (.ops [m 17 1,m 18 2,m 19 3,x 20 38 18 19,l 21 3 20,c 22 13 #[t 21] #[3],d 23 (.call ⟨.builtin .append,#[t 17,t
 22],#[22,22]⟩),a 1 23])) (.ops [m 15 3,b 16 .add 3 (t 15) (i 1) 3,a 3 16])) }).1
def pc4_l2 : PC := (⟨_, by delta A C S a b c d i l m s t w x; exact rfl⟩ : { p : PC // p = .seq (S [m 47 7,b 48 .lss 3 (t 47) (i 8) 3] (C 48 .skip (.exit 4)))
 (.seq (.block 5 (S [m 51 5,c 52 18 #[t 51] #[22],a 8 52] (S [m 53 8,m 54 6,m 55 8,m 56 6,x 57 22 55 56,l 58 5 57,m 59 7,d 60 (.convert 3 41 (t 59)),b 61 .shl 5
 (.const (.int .u8 1)) (t 60) 41,b 62 .xor 5 (t 58) (t 61) 5,x 63 22 53 54,s 5 63 62] (S [m 64 8,c 65 3 #[t 64] #[22],d 66 (.unOp .not 4 (t 65)),m 67 66,w 68
 (.move (t 5)) 67 false,w 69 (.move (t 6)) 67 false,w 70 (.slice 22 (t 68) none (some (t 69)) none) 67 false,w 71 (.call ⟨.value (.func 3),#[t 70],#[22]⟩) 67
 false,w 72 (.unOp .not 4 (t 71)) 67 false,d 73 (.pick (t 67) (.const (.bool true)) (t 72))] (C 73 (S [A 0 (.const (.bool false))] .ret) .skip))))) (.ops [m 49
 7,b 50 .add 3 (t 49) (i 1) 3,a 7 50])) }).1
def pc4_r1 : PC := (⟨_, by delta a b i m t; exact rfl⟩ : { p : PC // p = .ops [m 45 6,b 46 .add 3 (t 45) (i 1) 3,a 6 46] }).1
def pc4_l3 : PC := (⟨_, by delta A C L S b i m t; exact rfl⟩ : { p : PC // p = .seq (S [m 41 6,m 42 5,L 43 42 22,b 44 .lss 3 (t 41) (t 43) 3] (C 44 .skip (.exit
 2))) (.seq (.block 3 (S [A 7 (i 0)] (.block 4 (.loop pc4_l2)))) pc4_r1) }).1
def pc4_r2 : PC := (⟨_, by delta L S a b d i m t w; exact rfl⟩ : { p : PC // p = S [m 74 5,L 75 74 22,m 76 4,L 77 76 22,b 78 .eql 3 (t 75) (t 77) 3,m 79 78,w 80
 (.move (t 5)) 79 true,w 81 (.slice 22 (t 80) (some (i 10)) none none) 79 true,w 82 (.move (t 4)) 79 true,w 83 (.slice 22 (t 82) (some (i 10)) none none) 79
 true,w 84 (.call ⟨.value (.func 14),#[t 81,t 83],#[22,22]⟩) 79 true,d 85 (.pick (t 79) (t 84) (.const (.bool false))),m 86 85,w 87 (.call ⟨.value (.func
 6),#[],#[]⟩) 86 true,d 88 (.pick (t 86) (t 87) (.const (.bool false))),a 0 88] .ret }).1
def pc4_r3 : PC := (⟨_, by delta A C S a c d e i m t w; exact rfl⟩ : { p : PC // p = .seq (S [m 24 1,d 25 (.buildSlice 22 8 #[(0,.const (.int .u8 0)),(1,.const
 (.int .u8 63)),(2,.const (.int .u8 192)),(3,.const (.int .u8 0)),(4,.const (.int .u8 127)),(5,.const (.int .u8 64)),(6,.const (.int .u8 191)),(7,.const (.int
 .u8 127))]),c 26 14 #[t 24,t 25] #[22,22],d 27 (.unOp .not 4 (t 26)),m 28 27,w 29 (.call ⟨.value (.func 15),#[i 127],#[3]⟩) 28 false,w 30 (.call ⟨.value (.func
 15),#[i 128],#[3]⟩) 28 false,w 31 (.call ⟨.builtin .append,#[t 29,t 30],#[22,22]⟩) 28 false,w 32 (.buildSlice 22 3 #[(0,.const (.int .u8 127)),(1,.const (.int
 .u8 128)),(2,.const (.int .u8 1))]) 28 false,w 33 (.call ⟨.value (.func 14),#[t 31,t 32],#[22,22]⟩) 28 false,w 34 (.unOp .not 4 (t 33)) 28 false,d 35 (.pick (t
 28) (.const (.bool true)) (t 34))] (C 35 (S [A 0 (.const (.bool false))] .ret) .skip)) (S [d 36 (.buildSlice 22 108 #[(0,.const (.int .u8 0)),(1,.const (.int
 .u8 97)),(2,.const (.int .u8 115)),(3,.const (.int .u8 109)),(4,.const (.int .u8 1)),(5,.const (.int .u8 0)),(6,.const (.int .u8 0)),(7,.const (.int .u8
 0)),(8,.const (.int .u8 1)),(9,.const (.int .u8 16)),(10,.const (.int .u8 4)),(11,.const (.int .u8 96)),(12,.const (.int .u8 0)),(13,.const (.int .u8
 1)),(14,.const (.int .u8 126)),(15,.const (.int .u8 96)),(16,.const (.int .u8 1)),(17,.const (.int .u8 126)),(18,.const (.int .u8 0)),(19,.const (.int .u8
 96)),(20,.const (.int .u8 1)),(21,.const (.int .u8 127)),(22,.const (.int .u8 0)),(23,.const (.int .u8 96)),(24,.const (.int .u8 0)),(25,.const (.int .u8
 1)),(26,.const (.int .u8 127)),(27,.const (.int .u8 2)),(28,.const (.int .u8 31)),(29,.const (.int .u8 3)),(30,.const (.int .u8 3)),(31,.const (.int .u8
 101)),(32,.const (.int .u8 110)),(33,.const (.int .u8 118)),(34,.const (.int .u8 2)),(35,.const (.int .u8 105)),(36,.const (.int .u8 110)),(37,.const (.int .u8
 0)),(38,.const (.int .u8 0)),(39,.const (.int .u8 3)),(40,.const (.int .u8 101)),(41,.const (.int .u8 110)),(42,.const (.int .u8 118)),(43,.const (.int .u8
 3)),(44,.const (.int .u8 111)),(45,.const (.int .u8 117)),(46,.const (.int .u8 116)),(47,.const (.int .u8 0)),(48,.const (.int .u8 1)),(49,.const (.int .u8
 3)),(50,.const (.int .u8 101)),(51,.const (.int .u8 110)),(52,.const (.int .u8 118)),(53,.const (.int .u8 4)),(54,.const (.int .u8 116)),(55,.const (.int .u8
 114)),(56,.const (.int .u8 97)),(57,.const (.int .u8 112)),(58,.const (.int .u8 0)),(59,.const (.int .u8 2)),(60,.const (.int .u8 3)),(61,.const (.int .u8
 2)),(62,.const (.int .u8 1)),(63,.const (.int .u8 3)),(64,.const (.int .u8 5)),(65,.const (.int .u8 3)),(66,.const (.int .u8 1)),(67,.const (.int .u8
 0)),(68,.const (.int .u8 1)),(69,.const (.int .u8 6)),(70,.const (.int .u8 6)),(71,.const (.int .u8 1)),(72,.const (.int .u8 127)),(73,.const (.int .u8
 0)),(74,.const (.int .u8 65)),(75,.const (.int .u8 16)),(76,.const (.int .u8 11)),(77,.const (.int .u8 7)),(78,.const (.int .u8 8)),(79,.const (.int .u8
 1)),(80,.const (.int .u8 4)),(81,.const (.int .u8 109)),(82,.const (.int .u8 97)),(83,.const (.int .u8 105)),(84,.const (.int .u8 110)),(85,.const (.int .u8
 0)),(86,.const (.int .u8 3)),(87,.const (.int .u8 10)),(88,.const (.int .u8 6)),(89,.const (.int .u8 1)),(90,.const (.int .u8 4)),(91,.const (.int .u8
 0)),(92,.const (.int .u8 65)),(93,.const (.int .u8 7)),(94,.const (.int .u8 11)),(95,.const (.int .u8 0)),(96,.const (.int .u8 11)),(97,.const (.int .u8
 4)),(98,.const (.int .u8 110)),(99,.const (.int .u8 97)),(100,.const (.int .u8 109)),(101,.const (.int .u8 101)),(102,.const (.int .u8 1)),(103,.const (.int
 .u8 4)),(104,.const (.int .u8 1)),(105,.const (.int .u8 3)),(106,.const (.int .u8 1)),(107,.const (.int .u8 102))]),a 4 36] (S [m 37 4,d 38 (.indexAddr 22 (t
 37) (i 9)),e (.store 5 (t 38) (.const (.int .u8 17)))] (S [c 39 17 #[] #[],c 40 16 #[t 39] #[27],a 5 40] (.seq (S [A 6 (i 0)] (.block 2 (.loop pc4_l3)))
 pc4_r2)))) }).1
def pc4 : PC := (⟨_, by delta A S a c d i; exact rfl⟩ : { p : PC // p = S [A 0 (.const (.bool false))] (S [c 9 13 #[i 0] #[3],a 1 9] (S [d 10 (.buildSlice 38 5
 #[(0,i 63),(1,i 64),(2,i (-1)),(3,i (-64)),(4,i (-65))]),a 2 10] (.seq (S [A 3 (i 0)] (.block 0 (.loop pc4_l1))) pc4_r3))) }).1
theorem calls4 (hn : args.length = 0) (h : avc Tryz.prog G 89 pc4 (afin Tryz.prog [.tmp 0] R) (frame0 args) σ) : ACalls Tryz.prog G 4 args σ R :=
  acalls' (n := 89) (l := [.tmp 0]) mixed Tryz.func4 (by kernel_rfl) (by kernel_rfl) (by kernel_rfl) (by omega) h
def pc6 : PC := (⟨_, by delta A S a c d i m s t w; exact rfl⟩ : { p : PC // p = S [A 0 (.const (.bool false))] (S [c 4 17 #[] #[],c 5 16 #[t 4] #[27],a 1 5] (S
 [m 7 1,c 8 8 #[t 7] #[22],m 6 8,d 9 (.extract (t 6) 0),d 10 (.extract (t 6) 1),d 2 (.alloc 27),s 27 2 9,a 3 10] (S [d 12 (.buildSlice 22 3 #[(0,.const (.int
 .u8 229)),(1,.const (.int .u8 142)),(2,.const (.int .u8 38))]),c 11 15 #[i 624485] #[3],c 13 14 #[t 11,t 12] #[22,22],m 14 13,w 16 (.buildSlice 22 3
 #[(0,.const (.int .u8 192)),(1,.const (.int .u8 187)),(2,.const (.int .u8 120))]) 14 true,w 15 (.call ⟨.value (.func 13),#[i (-123456)],#[3]⟩) 14 true,w 17
 (.call ⟨.value (.func 14),#[t 15,t 16],#[22,22]⟩) 14 true,d 18 (.pick (t 14) (t 17) (.const (.bool false))),m 19 18,w 20 (.move (t 3)) 19 true,w 21 (.binOp
 .eql 28 (t 20) (i 0) 28) 19 true,d 22 (.pick (t 19) (t 21) (.const (.bool false))),m 23 22,w 24 (.load 27 (t 2)) 23 true,⟨some 25,.call ⟨.value (.func
 17),#[],#[]⟩,some (23,true),[⟨some (23,true),27,t 2,24⟩]⟩,w 26 (.call ⟨.value (.func 10),#[t 24,t 25],#[27,27]⟩) 23 true,d 27 (.pick (t 23) (t 26) (.const
 (.bool false))),m 28 27,w 29 (.move (t 1)) 28 true,w 30 (.call ⟨.builtin .len,#[t 29],#[22]⟩) 28 true,w 31 (.binOp .gtr 3 (t 30) (i 8) 3) 28 true,d 32 (.pick
 (t 28) (t 31) (.const (.bool false))),m 33 32,w 34 (.move (t 1)) 33 true,w 35 (.indexAddr 22 (t 34) (i 1)) 33 true,w 36 (.load 5 (t 35)) 33 true,w 37 (.binOp
 .eql 5 (t 36) (.const (.int .u8 97)) 5) 33 true,d 38 (.pick (t 33) (t 37) (.const (.bool false))),a 0 38] .ret))) }).1
theorem calls6 (hn : args.length = 0) (h : avc Tryz.prog G 39 pc6 (afin Tryz.prog [.tmp 0] R) (frame0 args) σ) : ACalls Tryz.prog G 6 args σ R :=
  acalls' (n := 39) (l := [.tmp 0]) mixed Tryz.func6 (by kernel_rfl) (by kernel_rfl) (by kernel_rfl) (by omega) h
def pc7_l1 : PC := (⟨_, by delta C S a b c d i m t; exact rfl⟩ : { p : PC // p = .seq (S [m 7 4,b 8 .lss 3 (t 7) (i 5) 3] (C 8 .skip (.exit 0))) (.seq (.block 1
 (.ops [m 11 3,m 12 4,c 13 26 #[t 12] #[3],d 14 (.buildSlice 22 1 #[(0,t 13)]),d 15 (.call ⟨.builtin .append,#[t 11,t 14],#[22,22]⟩),a 3 15])) (.ops [m 9 4,b 10
 .add 3 (t 9) (i 1) 3,a 4 10])) }).1
def pc7_r1 : PC := (⟨_, by delta S a m; exact rfl⟩ : { p : PC // p = S [m 16 3,a 2 16] .ret }).1
def pc7 : PC := (⟨_, by delta A S a c i m t; exact rfl⟩ : { p : PC // p = S [A 2 (.const (.slice none 0 0))] (S [m 5 0,c 6 18 #[t 5] #[22],a 3 6] (.seq (S [A 4
 (i 0)] (.block 0 (.loop pc7_l1))) pc7_r1)) }).1
theorem calls7 (hn : args.length = 1) (h : avc Tryz.prog G 17 pc7 (afin Tryz.prog [.tmp 2] R) (frame0 args) σ) : ACalls Tryz.prog G 7 args σ R :=
  acalls' (n := 17) (l := [.tmp 2]) mixed Tryz.func7 (by kernel_rfl) (by kernel_rfl) (by kernel_rfl) (by omega) h
def pc8_x : PC := (⟨_, by delta d; exact rfl⟩ : { p : PC // p = .ops [d 2 (.alloc 27),d 3 (.alloc 28)] }).1
def pc8_z : PC := (⟨_, by delta L S a b c d e f i l m n s t w; exact rfl⟩ : { p : PC // p = S [m 6 0,c 7 28 #[t 6] #[22],d 8 (.build 51 #[(0,t 7)]),d 9 (.box 51
 (t 8)),a 4 9] (S [m 10 4,c 11 29 #[t 10] #[48],s 27 2 11] (S [m 12 4,n 13 12,f 14 51 13 0,l 15 22 14,L 16 15 22,b 17 .eql 3 (t 16) (i 0) 3,m 18 17,w 19 (.load
 27 (t 2)) 18 true,w 20 (.call ⟨.value (.func 31),#[t 19],#[27]⟩) 18 true,d 21 (.pick (t 18) (t 20) (.const (.bool false))),m 22 21,w 23 (.load 27 (t 2)) 22
 true,w 24 (.call ⟨.value (.func 32),#[t 23],#[27]⟩) 22 true,d 25 (.pick (t 22) (t 24) (.const (.bool false))),m 26 25,w 27 (.load 27 (t 2)) 26 true,w 28 (.call
 ⟨.value (.func 16),#[t 27],#[27]⟩) 26 true,w 29 (.move (t 0)) 26 true,w 30 (.call ⟨.value (.func 33),#[t 28,t 29],#[22,22]⟩) 26 true,d 31 (.pick (t 26) (t 30)
 (.const (.bool false))),c 32 30 #[t 31,i 2] #[4,28]] (S [l 33 27 2,s 27 2 33,e (.store 28 (t 3) (i 0))] .ret))) }).1
def pc9 : PC := (⟨_, by delta A C S a c d f l m n s t w; exact rfl⟩ : { p : PC // p = S [d 2 (.alloc 27),A 3 (.const (.bool false))] (S [m 6 0,d 7 (.build 55
 #[(0,t 6)]),d 8 (.box 55 (t 7)),a 4 8] (S [m 9 4,c 10 34 #[t 9] #[53],d 5 (.alloc 27),s 27 5 10] (.seq (S [m 11 4,n 12 11,f 13 55 12 2,l 14 4 13,m 15 14,w 16
 (.move (t 4)) 15 false,w 17 (.nilCheck (t 16)) 15 false,w 18 (.fieldAddr 55 (t 17) 1) 15 false,w 19 (.load 3 (t 18)) 15 false,w 20 (.move (t 0)) 15 false,w 21
 (.call ⟨.builtin .len,#[t 20],#[22]⟩) 15 false,w 22 (.binOp .lss 3 (t 19) (t 21) 3) 15 false,d 23 (.pick (t 15) (.const (.bool true)) (t 22)),m 24 23,w 25
 (.load 27 (t 5)) 24 false,w 26 (.call ⟨.value (.func 22),#[t 25],#[27]⟩) 24 false,w 27 (.move (t 0)) 24 false,w 28 (.call ⟨.value (.func 14),#[t 26,t
 27],#[22,22]⟩) 24 false,w 29 (.unOp .not 4 (t 28)) 24 false,d 30 (.pick (t 24) (.const (.bool true)) (t 29))] (C 30 (S [d 31 (.build 27 #[]),s 27 2 31,A 3
 (.const (.bool false))] .ret) .skip)) (S [l 32 27 5,s 27 2 32,A 3 (.const (.bool true))] .ret)))) }).1
theorem calls9 (hn : args.length = 1) (h : avc Tryz.prog G 33 pc9 (afin Tryz.prog [.cell 2 27, .tmp 3] R) (frame0 args) σ) : ACalls Tryz.prog G 9 args σ R :=
  acalls' (n := 33) (l := [.cell 2 27, .tmp 3]) mixed Tryz.func9 (by kernel_rfl) (by kernel_rfl) (by kernel_rfl) (by omega) h
def pc10 : PC := (⟨_, by delta A S a b d f l m t w; exact rfl⟩ : { p : PC // p = S [d 2 (.box 27 (t 0)),d 3 (.box 27 (t 1)),A 4 (.const (.bool false))] (S [f 5
 27 2 1,l 6 3 5,f 7 27 3 1,l 8 3 7,b 9 .eql 3 (t 6) (t 8) 3,m 10 9,w 11 (.fieldAddr 27 (t 2) 2) 10 true,w 12 (.load 3 (t 11)) 10 true,w 13 (.fieldAddr 27 (t 3)
 2) 10 true,w 14 (.load 3 (t 13)) 10 true,w 15 (.binOp .eql 3 (t 12) (t 14) 3) 10 true,d 16 (.pick (t 10) (t 15) (.const (.bool false))),m 17 16,w 18
 (.fieldAddr 27 (t 2) 0) 17 true,w 19 (.load 25 (t 18)) 17 true,w 20 (.fieldAddr 27 (t 3) 0) 17 true,w 21 (.load 25 (t 20)) 17 true,w 22 (.call ⟨.value (.func
 35),#[t 19,t 21],#[25,25]⟩) 17 true,d 23 (.pick (t 17) (t 22) (.const (.bool false))),a 4 23] .ret) }).1
theorem calls10 (hn : args.length = 2) (h : avc Tryz.prog G 24 pc10 (afin Tryz.prog [.tmp 4] R) (frame0 args) σ) : ACalls Tryz.prog G 10 args σ R :=
  acalls' (n := 24) (l := [.tmp 4]) mixed Tryz.func10 (by kernel_rfl) (by kernel_rfl) (by kernel_rfl) (by omega) h
def pc11_l1 : PC := (⟨_, by delta C L S a b c f i l m t x; exact rfl⟩ : { p : PC // p = .seq (S [m 25 3,f 26 27 1 0,l 27 25 26,m 28 2,x 29 25 27 28,f 30 59 29
 4,l 31 49 30,L 32 31 49,b 33 .lss 3 (t 25) (t 32) 3] (C 33 .skip (.exit 2))) (.seq (.block 3 (.ops [f 36 27 1 0,l 37 25 36,m 38 2,x 39 25 37 38,f 40 59 39 4,l
 41 49 40,m 42 3,x 43 49 41 42,l 44 61 43,c 45 37 #[t 44] #[61]])) (.ops [m 34 3,b 35 .add 3 (t 34) (i 1) 3,a 3 35])) }).1
def pc11_r1 : PC := (⟨_, by delta c f l m t x; exact rfl⟩ : { p : PC // p = .ops [f 46 27 1 0,l 47 25 46,m 48 2,x 49 25 47 48,f 50 59 49 4,l 51 49 50,c 52 38
 #[t 51] #[49]] }).1
def pc11_r2 : PC := (⟨_, by delta a b i m t; exact rfl⟩ : { p : PC // p = .ops [m 9 2,b 10 .add 3 (t 9) (i 1) 3,a 2 10] }).1
def pc11_l2 : PC := (⟨_, by delta A C L S b c f i l m t x; exact rfl⟩ : { p : PC // p = .seq (S [m 4 2,f 5 27 1 0,l 6 25 5,L 7 6 25,b 8 .lss 3 (t 4) (t 7) 3] (C
 8 .skip (.exit 0))) (.seq (.block 1 (S [f 11 27 1 0,l 12 25 11,m 13 2,x 14 25 12 13,f 15 59 14 1,l 16 38 15,c 17 36 #[t 16] #[38]] (S [f 18 27 1 0,l 19 25 18,m
 20 2,x 21 25 19 20,f 22 59 21 2,l 23 38 22,c 24 36 #[t 23] #[38]] (.seq (S [A 3 (i 0)] (.block 2 (.loop pc11_l1))) pc11_r1)))) pc11_r2) }).1
def pc11_r3 : PC := (⟨_, by delta c f l t; exact rfl⟩ : { p : PC // p = .ops [f 53 27 1 0,l 54 25 53,c 55 39 #[t 54] #[25]] }).1
def pc11 : PC := (⟨_, by delta A S d i t; exact rfl⟩ : { p : PC // p = S [d 1 (.box 27 (t 0))] (.seq (S [A 2 (i 0)] (.block 0 (.loop pc11_l2))) pc11_r3) }).1
theorem calls11 (hn : args.length = 1) (h : avc Tryz.prog G 56 pc11 (afin Tryz.prog [] R) (frame0 args) σ) : ACalls Tryz.prog G 11 args σ R :=
  acalls' (n := 56) (l := []) mixed Tryz.func11 (by kernel_rfl) (by kernel_rfl) (by kernel_rfl) (by omega) h
def pc12_l1 : PC := (⟨_, by delta C S a b c d i m t; exact rfl⟩ : { p : PC // p = .seq (S [m 22 6,b 23 .lss 3 (t 22) (i 5) 3] (C 23 .skip (.exit 0))) (.seq
 (.block 1 (.ops [m 26 5,m 27 6,c 28 26 #[t 27] #[3],d 29 (.buildSlice 22 1 #[(0,t 28)]),d 30 (.call ⟨.builtin .append,#[t 26,t 29],#[22,22]⟩),a 5 30])) (.ops
 [m 24 6,b 25 .add 3 (t 24) (i 1) 3,a 6 25])) }).1
def pc12_r1 : PC := (⟨_, by delta L S a c d m t; exact rfl⟩ : { p : PC // p = S [m 31 0,m 32 1,L 33 32 22,d 34 (.slice 22 (t 31) (some (t 33)) none none),m 35
 5,c 36 14 #[t 34,t 35] #[22,22],a 4 36] .ret }).1
def pc12 : PC := (⟨_, by delta A C L S b d i m t w; exact rfl⟩ : { p : PC // p = S [A 4 (.const (.bool false))] (.seq (S [m 7 0,L 8 7 22,m 9 1,L 10 9 22,b 11
 .add 3 (t 10) (i 5) 3,b 12 .neq 3 (t 8) (t 11) 3,m 13 12,w 14 (.move (t 0)) 13 false,w 15 (.move (t 1)) 13 false,w 16 (.call ⟨.builtin .len,#[t 15],#[22]⟩) 13
 false,w 17 (.slice 22 (t 14) none (some (t 16)) none) 13 false,w 18 (.move (t 1)) 13 false,w 19 (.call ⟨.value (.func 14),#[t 17,t 18],#[22,22]⟩) 13 false,w 20
 (.unOp .not 4 (t 19)) 13 false,d 21 (.pick (t 13) (.const (.bool true)) (t 20))] (C 21 (S [A 4 (.const (.bool false))] .ret) .skip)) (S [A 5 (.const (.slice
 none 0 0))] (.seq (S [A 6 (i 0)] (.block 0 (.loop pc12_l1))) pc12_r1))) }).1
theorem calls12 (hn : args.length = 2) (h : avc Tryz.prog G 37 pc12 (afin Tryz.prog [.tmp 4] R) (frame0 args) σ) : ACalls Tryz.prog G 12 args σ R :=
  acalls' (n := 37) (l := [.tmp 4]) mixed Tryz.func12 (by kernel_rfl) (by kernel_rfl) (by kernel_rfl) (by omega) h
def pc13_l1 : PC := (⟨_, by delta C S a b d i m t w; exact rfl⟩ : { p : PC // p = .seq (S [m 4 0,b 5 .lss 3 (t 4) (i (-64)) 3,m 6 5,w 7 (.move (t 0)) 6 false,w
 8 (.binOp .gtr 3 (t 7) (i 63) 3) 6 false,d 9 (.pick (t 6) (.const (.bool true)) (t 8))] (C 9 .skip (.exit 0))) (.seq (.block 1 (.ops [m 12 3,m 13 0,d 14
 (.convert 3 5 (t 13)),b 15 .or 5 (t 14) (.const (.int .u8 128)) 5,d 16 (.buildSlice 22 1 #[(0,t 15)]),d 17 (.call ⟨.builtin .append,#[t 12,t 16],#[22,22]⟩),a 3
 17])) (.ops [m 10 0,b 11 .shr 3 (t 10) (.const (.int .u64 7)) 41,a 0 11])) }).1
def pc13_r1 : PC := (⟨_, by delta S a b d m t; exact rfl⟩ : { p : PC // p = S [m 18 3,m 19 0,d 20 (.convert 3 5 (t 19)),b 21 .and 5 (t 20) (.const (.int .u8
 127)) 5,d 22 (.buildSlice 22 1 #[(0,t 21)]),d 23 (.call ⟨.builtin .append,#[t 18,t 22],#[22,22]⟩),a 2 23] .ret }).1
def pc13 : PC := (⟨_, by delta A S; exact rfl⟩ : { p : PC // p = S [A 2 (.const (.slice none 0 0))] (S [A 3 (.const (.slice none 0 0))] (.seq (.block 0 (.loop
 pc13_l1)) pc13_r1)) }).1
theorem calls13 (hn : args.length = 1) (h : avc Tryz.prog G 24 pc13 (afin Tryz.prog [.tmp 2] R) (frame0 args) σ) : ACalls Tryz.prog G 13 args σ R :=
  acalls' (n := 24) (l := [.tmp 2]) mixed Tryz.func13 (by kernel_rfl) (by kernel_rfl) (by kernel_rfl) (by omega) h
def pc14_l1 : PC := (⟨_, by delta A C L S a b d i l m t x; exact rfl⟩ : { p : PC // p = .seq (S [m 11 5,m 12 0,L 13 12 22,b 14 .lss 3 (t 11) (t 13) 3] (C 14
 .skip (.exit 0))) (.seq (.block 1 (S [m 17 0,m 18 5,x 19 22 17 18,l 20 5 19,m 21 1,m 22 5,x 23 22 21 22,l 24 5 23,b 25 .eql 5 (t 20) (t 24) 5,d 26 (.unOp .not
 4 (t 25))] (C 26 (S [A 4 (.const (.bool false))] .ret) .skip))) (.ops [m 15 5,b 16 .add 3 (t 15) (i 1) 3,a 5 16])) }).1
def pc14_r1 : PC := (⟨_, by delta A S; exact rfl⟩ : { p : PC // p = S [A 4 (.const (.bool true))] .ret }).1
def pc14 : PC := (⟨_, by delta A C L S b i m t; exact rfl⟩ : { p : PC // p = S [A 4 (.const (.bool false))] (.seq (S [m 6 0,L 7 6 22,m 8 1,L 9 8 22,b 10 .neq 3
 (t 7) (t 9) 3] (C 10 (S [A 4 (.const (.bool false))] .ret) .skip)) (.seq (S [A 5 (i 0)] (.block 0 (.loop pc14_l1))) pc14_r1)) }).1
theorem calls14 (hn : args.length = 2) (h : avc Tryz.prog G 27 pc14 (afin Tryz.prog [.tmp 4] R) (frame0 args) σ) : ACalls Tryz.prog G 14 args σ R :=
  acalls' (n := 27) (l := [.tmp 4]) mixed Tryz.func14 (by kernel_rfl) (by kernel_rfl) (by kernel_rfl) (by omega) h
def pc15_l1 : PC := (⟨_, by delta C S a b d i m t; exact rfl⟩ : { p : PC // p = .seq (S [m 4 0,b 5 .gtr 3 (t 4) (i 127) 3] (C 5 .skip (.exit 0))) (.seq (.block
 1 (.ops [m 8 3,m 9 0,d 10 (.convert 3 5 (t 9)),b 11 .or 5 (t 10) (.const (.int .u8 128)) 5,d 12 (.buildSlice 22 1 #[(0,t 11)]),d 13 (.call ⟨.builtin
 .append,#[t 8,t 12],#[22,22]⟩),a 3 13])) (.ops [m 6 0,b 7 .shr 3 (t 6) (.const (.int .u64 7)) 41,a 0 7])) }).1
def pc15_r1 : PC := (⟨_, by delta S a d m t; exact rfl⟩ : { p : PC // p = S [m 14 3,m 15 0,d 16 (.convert 3 5 (t 15)),d 17 (.buildSlice 22 1 #[(0,t 16)]),d 18
 (.call ⟨.builtin .append,#[t 14,t 17],#[22,22]⟩),a 2 18] .ret }).1
def pc15 : PC := (⟨_, by delta A S; exact rfl⟩ : { p : PC // p = S [A 2 (.const (.slice none 0 0))] (S [A 3 (.const (.slice none 0 0))] (.seq (.block 0 (.loop
 pc15_l1)) pc15_r1)) }).1
theorem calls15 (hn : args.length = 1) (h : avc Tryz.prog G 19 pc15 (afin Tryz.prog [.tmp 2] R) (frame0 args) σ) : ACalls Tryz.prog G 15 args σ R :=
  acalls' (n := 19) (l := [.tmp 2]) mixed Tryz.func15 (by kernel_rfl) (by kernel_rfl) (by kernel_rfl) (by omega) h
def pc16_l1 : PC := (⟨_, by delta C S a b c d i l m t x; exact rfl⟩ : { p : PC // p = S [b 21 .lss 3 (t 20) (t 19) 3] (.seq (C 21 .skip (.exit 0)) (.seq (.block
 1 (S [m 22 20,x 23 66 18 20,l 24 9 23,a 8 22,a 9 24] (.ops [m 25 4,d 26 (.buildSlice 22 3 #[(0,.const (.int .u8 101)),(1,.const (.int .u8 110)),(2,.const (.int
 .u8 118))]),d 27 (.convert 22 22 (t 26)),c 28 42 #[t 27] #[22],m 29 9,d 30 (.convert 9 22 (t 29)),c 31 42 #[t 30] #[22],m 32 8,d 33 (.convert 3 5 (t 32)),d 34
 (.buildSlice 22 2 #[(0,.const (.int .u8 0)),(1,t 33)]),d 35 (.buildSlice 65 3 #[(0,t 28),(1,t 31),(2,t 34)]),c 36 41 #[t 35] #[65],d 37 (.buildSlice 65 1
 #[(0,t 36)]),d 38 (.call ⟨.builtin .append,#[t 25,t 37],#[65,65]⟩),a 4 38]))) (.ops [b 39 .add 3 (t 20) (i 1) 3,m 20 39]))) }).1
def pc16_l2 : PC := (⟨_, by delta C L S a b c d f i l m s t x; exact rfl⟩ : { p : PC // p = S [b 44 .lss 3 (t 43) (t 42) 3] (.seq (C 44 .skip (.exit 2)) (.seq
 (.block 3 (S [m 45 43,x 46 25 41 43,l 47 59 46,d 11 (.alloc 59),a 10 45,s 59 11 47] (S [m 48 3,f 49 59 11 1,l 50 38 49,f 51 59 11 3,l 52 3 51,c 53 40 #[t 50,t
 52] #[38,3],d 54 (.buildSlice 65 1 #[(0,t 53)]),d 55 (.call ⟨.builtin .append,#[t 48,t 54],#[65,65]⟩),a 3 55] (S [m 56 5,m 57 10,b 58 .add 3 (t 57) (i 3) 3,c
 59 15 #[t 58] #[3],d 60 (.buildSlice 65 1 #[(0,t 59)]),d 61 (.call ⟨.builtin .append,#[t 56,t 60],#[65,65]⟩),a 5 61] (S [m 62 6,f 63 59 11 2,l 64 38 63,l 66 59
 11,f 67 59 11 4,l 68 49 67,L 69 68 49,b 70 .sub 3 (t 69) (i 1) 3,d 72 (.buildSlice 22 1 #[(0,.const (.int .u8 11))]),⟨some 65,.call ⟨.value (.func 43),#[t
 64],#[38]⟩,none,[⟨none,59,t 11,66⟩,⟨none,49,t 67,68⟩]⟩,c 71 44 #[t 66,t 70] #[59,3],d 73 (.buildSlice 65 3 #[(0,t 65),(1,t 71),(2,t 72)]),c 74 41 #[t 73]
 #[65],c 75 42 #[t 74] #[22],d 76 (.buildSlice 65 1 #[(0,t 75)]),d 77 (.call ⟨.builtin .append,#[t 62,t 76],#[65,65]⟩),a 6 77] (.both [[m 78 7,m 79 10,b 80 .add
 3 (t 79) (i 3) 3,f 82 59 11 0,l 83 9 82,⟨some 81,.call ⟨.value (.func 15),#[t 80],#[3]⟩,none,[⟨none,9,t 82,83⟩]⟩,d 84 (.convert 9 22 (t 83)),c 85 42 #[t 84]
 #[22],d 86 (.call ⟨.builtin .append,#[t 81,t 85],#[22,22]⟩),d 87 (.buildSlice 65 1 #[(0,t 86)]),d 88 (.call ⟨.builtin .append,#[t 78,t 87],#[65,65]⟩),a 7
 88],[m 78 7,m 79 10,b 80 .add 3 (t 79) (i 3) 3,f 82 59 11 0,l 83 9 82,d 84 (.convert 9 22 (t 83)),c 81 15 #[t 80] #[3],c 85 42 #[t 84] #[22],d 86 (.call
 ⟨.builtin .append,#[t 81,t 85],#[22,22]⟩),d 87 (.buildSlice 65 1 #[(0,t 86)]),d 88 (.call ⟨.builtin .append,#[t 78,t 87],#[65,65]⟩),a 7 88]])))))) (.ops [b 89
 .add 3 (t 43) (i 1) 3,m 43 89]))) }).1
def pc16_r1 : PC := (⟨_, by delta S a b c d f i l m t; exact rfl⟩ : { p : PC // p = S [d 90 (.buildSlice 22 8 #[(0,.const (.int .u8 0)),(1,.const (.int .u8
 97)),(2,.const (.int .u8 115)),(3,.const (.int .u8 109)),(4,.const (.int .u8 1)),(5,.const (.int .u8 0)),(6,.const (.int .u8 0)),(7,.const (.int .u8 0))]),d 91
 (.convert 22 22 (t 90)),m 92 3,m 96 4,m 100 5,d 104 (.buildSlice 22 3 #[(0,.const (.int .u8 1)),(1,.const (.int .u8 0)),(2,.const (.int .u8 1))]),d 105
 (.buildSlice 65 1 #[(0,t 104)]),d 107 (.buildSlice 22 4 #[(0,.const (.int .u8 1)),(1,.const (.int .u8 127)),(2,.const (.int .u8 0)),(3,.const (.int .u8
 65))]),f 108 27 1 1,l 109 3 108,d 111 (.buildSlice 22 1 #[(0,.const (.int .u8 11))]),d 114 (.buildSlice 22 1 #[(0,.const (.int .u8 1))]),d 115 (.buildSlice 22
 4 #[(0,.const (.int .u8 109)),(1,.const (.int .u8 97)),(2,.const (.int .u8 105)),(3,.const (.int .u8 110))]),d 116 (.convert 22 22 (t 115)),d 118 (.buildSlice
 22 1 #[(0,.const (.int .u8 0))]),f 119 27 1 2,l 120 3 119,b 121 .add 3 (t 120) (i 3) 3,m 125 6,d 129 (.buildSlice 22 4 #[(0,.const (.int .u8 110)),(1,.const
 (.int .u8 97)),(2,.const (.int .u8 109)),(3,.const (.int .u8 101))]),d 130 (.convert 22 22 (t 129)),d 132 (.buildSlice 22 1 #[(0,.const (.int .u8 1))]),m 133
 7,⟨some 93,.call ⟨.value (.func 46),#[t 92],#[65]⟩,none,[⟨none,3,t 108,109⟩,⟨none,3,t 119,120⟩]⟩,d 94 (.buildSlice 65 1 #[(0,t 93)]),⟨some 95,.call ⟨.value
 (.func 45),#[.const (.int .u8 1),t 94],#[5,65]⟩,none,[⟨none,3,t 108,109⟩,⟨none,3,t 119,120⟩]⟩,⟨some 97,.call ⟨.value (.func 46),#[t 96],#[65]⟩,none,[⟨none,3,t
 108,109⟩,⟨none,3,t 119,120⟩]⟩,d 98 (.buildSlice 65 1 #[(0,t 97)]),⟨some 99,.call ⟨.value (.func 45),#[.const (.int .u8 2),t 98],#[5,65]⟩,none,[⟨none,3,t
 108,109⟩,⟨none,3,t 119,120⟩]⟩,⟨some 101,.call ⟨.value (.func 46),#[t 100],#[65]⟩,none,[⟨none,3,t 108,109⟩,⟨none,3,t 119,120⟩]⟩,d 102 (.buildSlice 65 1 #[(0,t
 101)]),⟨some 103,.call ⟨.value (.func 45),#[.const (.int .u8 3),t 102],#[5,65]⟩,none,[⟨none,3,t 108,109⟩,⟨none,3,t 119,120⟩]⟩,⟨some 106,.call ⟨.value (.func
 45),#[.const (.int .u8 5),t 105],#[5,65]⟩,none,[⟨none,3,t 108,109⟩,⟨none,3,t 119,120⟩]⟩,⟨some 110,.call ⟨.value (.func 13),#[t 109],#[3]⟩,none,[⟨none,3,t
 119,120⟩]⟩,d 112 (.buildSlice 65 3 #[(0,t 107),(1,t 110),(2,t 111)]),⟨some 113,.call ⟨.value (.func 45),#[.const (.int .u8 6),t 112],#[5,65]⟩,none,[⟨none,3,t
 119,120⟩]⟩,⟨some 117,.call ⟨.value (.func 42),#[t 116],#[22]⟩,none,[⟨none,3,t 119,120⟩]⟩,c 122 15 #[t 121] #[3],d 123 (.buildSlice 65 4 #[(0,t 114),(1,t
 117),(2,t 118),(3,t 122)]),c 124 45 #[.const (.int .u8 7),t 123] #[5,65],c 126 46 #[t 125] #[65],d 127 (.buildSlice 65 1 #[(0,t 126)]),c 128 45 #[.const (.int
 .u8 10),t 127] #[5,65],c 131 42 #[t 130] #[22],c 134 46 #[t 133] #[65],c 135 42 #[t 134] #[22],d 136 (.buildSlice 65 3 #[(0,t 131),(1,t 132),(2,t 135)]),c 137
 45 #[.const (.int .u8 0),t 136] #[5,65],d 138 (.buildSlice 65 9 #[(0,t 91),(1,t 95),(2,t 99),(3,t 103),(4,t 106),(5,t 113),(6,t 124),(7,t 128),(8,t 137)]),c
 139 41 #[t 138] #[65],a 2 139] .ret }).1
def pc16_r2 : PC := (⟨_, by delta L S d f i l; exact rfl⟩ : { p : PC // p = .seq (S [f 40 27 1 0,l 41 25 40,L 42 41 25,d 43 (.move (i 0))] (.block 2 (.loop
 pc16_l2))) pc16_r1 }).1
def pc16 : PC := (⟨_, by delta A L S a c d i t; exact rfl⟩ : { p : PC // p = S [d 1 (.box 27 (t 0)),A 2 (.const (.slice none 0 0))] (S [c 12 40 #[.const (.slice
 none 0 0),i 2] #[38,3],d 13 (.buildSlice 38 1 #[(0,i 2)]),c 14 40 #[t 13,i 0] #[38,3],d 15 (.buildSlice 38 1 #[(0,i 1)]),c 16 40 #[t 15,i 0] #[38,3],d 17
 (.buildSlice 65 3 #[(0,t 12),(1,t 14),(2,t 16)]),a 3 17] (S [A 4 (.const (.slice none 0 0)),A 5 (.const (.slice none 0 0)),A 6 (.const (.slice none 0 0)),A 7
 (.const (.slice none 0 0))] (.seq (S [d 18 (.buildSlice 66 3 #[(0,.const (.string ⟨#[105,110]⟩)),(1,.const (.string ⟨#[111,117,116]⟩)),(2,.const (.string
 ⟨#[116,114,97,112]⟩))]),L 19 18 66,d 20 (.move (i 0))] (.block 0 (.loop pc16_l1))) pc16_r2))) }).1
theorem calls16 (hn : args.length = 1) (h : avc Tryz.prog G 140 pc16 (afin Tryz.prog [.tmp 2] R) (frame0 args) σ) : ACalls Tryz.prog G 16 args σ R :=
  acalls' (n := 140) (l := [.tmp 2]) mixed Tryz.func16 (by kernel_rfl) (by kernel_rfl) (by kernel_rfl) (by omega) h
def pc17 : PC := (⟨_, by delta S d i s t; exact rfl⟩ : { p : PC // p = S [d 0 (.alloc 27)] (S [d 1 (.build 73 #[(0,i 1),(1,i 1),(2,i 7)]),d 2 (.buildSlice 61 1
 #[(0,t 1)]),d 3 (.buildSlice 49 1 #[(0,t 2)]),d 4 (.build 59 #[(0,.const (.string ⟨#[102]⟩)),(3,i 1),(4,t 3)]),d 5 (.buildSlice 25 1 #[(0,t 4)]),d 6 (.build 27
 #[(1,i 16),(0,t 5)]),s 27 0 6] .ret) }).1
theorem calls17 (hn : args.length = 0) (h : avc Tryz.prog G 7 pc17 (afin Tryz.prog [.cell 0 27] R) (frame0 args) σ) : ACalls Tryz.prog G 17 args σ R :=
  acalls' (n := 7) (l := [.cell 0 27]) mixed Tryz.func17 (by kernel_rfl) (by kernel_rfl) (by kernel_rfl) (by omega) h
def pc18_l1 : PC := (⟨_, by delta C L S a b d i l m t x; exact rfl⟩ : { p : PC // p = .seq (S [m 5 4,m 6 0,L 7 6 22,b 8 .lss 3 (t 5) (t 7) 3] (C 8 .skip (.exit
 0))) (.seq (.block 1 (.ops [m 11 3,m 12 0,m 13 4,x 14 22 12 13,l 15 5 14,d 16 (.buildSlice 22 1 #[(0,t 15)]),d 17 (.call ⟨.builtin .append,#[t 11,t
 16],#[22,22]⟩),a 3 17])) (.ops [m 9 4,b 10 .add 3 (t 9) (i 1) 3,a 4 10])) }).1
def pc18_r1 : PC := (⟨_, by delta S a m; exact rfl⟩ : { p : PC // p = S [m 18 3,a 2 18] .ret }).1
def pc18 : PC := (⟨_, by delta A S i; exact rfl⟩ : { p : PC // p = S [A 2 (.const (.slice none 0 0))] (S [A 3 (.const (.slice none 0 0))] (.seq (S [A 4 (i 0)]
 (.block 0 (.loop pc18_l1))) pc18_r1)) }).1
theorem calls18 (hn : args.length = 1) (h : avc Tryz.prog G 19 pc18 (afin Tryz.prog [.tmp 2] R) (frame0 args) σ) : ACalls Tryz.prog G 18 args σ R :=
  acalls' (n := 19) (l := [.tmp 2]) mixed Tryz.func18 (by kernel_rfl) (by kernel_rfl) (by kernel_rfl) (by omega) h
def pc22_l1 : PC := (⟨_, by delta C L S a b c d f i l m s t x; exact rfl⟩ : { p : PC // p = .seq (S [m 36 8,m 37 3,b 38 .lss 3 (t 36) (t 37) 3] (C 38 .skip
 (.exit 0))) (.seq (.block 1 (S [f 41 27 1 0,l 42 25 41,m 43 8,x 44 25 42 43,l 45 59 44,d 9 (.alloc 59),s 59 9 45] (S [m 46 4,f 47 59 9 1,l 48 38 47,f 49 59 9
 3,l 50 3 49,c 51 51 #[t 48,t 50] #[38,3],d 52 (.call ⟨.builtin .append,#[t 46,t 51],#[22,22]⟩),a 4 52] (S [m 53 5,m 54 8,b 55 .add 3 (t 54) (i 3) 3,c 56 25 #[t
 55] #[3],d 57 (.call ⟨.builtin .append,#[t 53,t 56],#[22,22]⟩),a 5 57] (S [f 58 59 9 2,l 59 38 58,l 61 59 9,f 62 59 9 4,l 63 49 62,L 64 63 49,b 65 .sub 3 (t
 64) (i 1) 3,⟨some 60,.call ⟨.value (.func 52),#[t 59],#[38]⟩,none,[⟨none,59,t 9,61⟩,⟨none,49,t 62,63⟩]⟩,c 66 53 #[t 61,t 65] #[59,3],d 67 (.call ⟨.builtin
 .append,#[t 60,t 66],#[22,22]⟩),a 10 67] (S [m 68 6,m 69 10,d 70 (.buildSlice 22 1 #[(0,.const (.int .u8 11))]),d 71 (.call ⟨.builtin .append,#[t 69,t
 70],#[22,22]⟩),c 72 54 #[t 71] #[22],d 73 (.call ⟨.builtin .append,#[t 68,t 72],#[22,22]⟩),a 6 73] (.ops [m 74 7,m 75 8,b 76 .add 3 (t 75) (i 3) 3,f 79 59 9
 0,l 80 9 79,⟨some 77,.call ⟨.value (.func 25),#[t 76],#[3]⟩,none,[⟨none,9,t 79,80⟩]⟩,⟨some 78,.call ⟨.builtin .append,#[t 74,t 77],#[22,22]⟩,none,[⟨none,9,t
 79,80⟩]⟩,c 81 55 #[t 80] #[9],d 82 (.call ⟨.builtin .append,#[t 78,t 81],#[22,22]⟩),a 7 82]))))))) (.ops [m 39 8,b 40 .add 3 (t 39) (i 1) 3,a 8 40])) }).1
def pc22_l2 : PC := (⟨_, by delta C S a b c d i l m t x; exact rfl⟩ : { p : PC // p = .seq (S [m 87 13,b 88 .lss 3 (t 87) (i 3) 3] (C 88 .skip (.exit 2))) (.seq
 (.block 3 (S [m 91 11,m 94 12,m 95 13,x 96 66 94 95,l 97 9 96,⟨some 92,.call ⟨.value (.func 55),#[.const (.string ⟨#[101,110,118]⟩)],#[9]⟩,none,[⟨none,9,t
 96,97⟩]⟩,⟨some 93,.call ⟨.builtin .append,#[t 91,t 92],#[22,22]⟩,none,[⟨none,9,t 96,97⟩]⟩,c 98 55 #[t 97] #[9],d 99 (.call ⟨.builtin .append,#[t 93,t
 98],#[22,22]⟩),a 11 99] (.ops [m 100 11,m 101 13,d 102 (.convert 3 5 (t 101)),d 103 (.buildSlice 22 2 #[(0,.const (.int .u8 0)),(1,t 102)]),d 104 (.call
 ⟨.builtin .append,#[t 100,t 103],#[22,22]⟩),a 11 104]))) (.ops [m 89 13,b 90 .add 3 (t 89) (i 1) 3,a 13 90])) }).1
def pc22_r1 : PC := (⟨_, by delta S a b c d f i l m t; exact rfl⟩ : { p : PC // p = S [d 105 (.buildSlice 22 8 #[(0,.const (.int .u8 0)),(1,.const (.int .u8
 97)),(2,.const (.int .u8 115)),(3,.const (.int .u8 109)),(4,.const (.int .u8 1)),(5,.const (.int .u8 0)),(6,.const (.int .u8 0)),(7,.const (.int .u8 0))]),a 14
 105] (S [m 106 14,m 107 4,c 108 56 #[i 1,t 107] #[3,22],d 109 (.call ⟨.builtin .append,#[t 106,t 108],#[22,22]⟩),m 110 11,c 111 56 #[i 2,t 110] #[3,22],d 112
 (.call ⟨.builtin .append,#[t 109,t 111],#[22,22]⟩),a 14 112] (S [m 113 14,m 114 5,c 115 56 #[i 3,t 114] #[3,22],d 116 (.call ⟨.builtin .append,#[t 113,t
 115],#[22,22]⟩),d 117 (.buildSlice 22 3 #[(0,.const (.int .u8 1)),(1,.const (.int .u8 0)),(2,.const (.int .u8 1))]),c 118 56 #[i 5,t 117] #[3,22],d 119 (.call
 ⟨.builtin .append,#[t 116,t 118],#[22,22]⟩),a 14 119] (S [m 120 14,d 121 (.buildSlice 22 4 #[(0,.const (.int .u8 1)),(1,.const (.int .u8 127)),(2,.const (.int
 .u8 0)),(3,.const (.int .u8 65))]),f 122 27 1 1,l 123 3 122,c 124 23 #[t 123] #[3],d 125 (.call ⟨.builtin .append,#[t 121,t 124],#[22,22]⟩),d 126 (.buildSlice
 22 1 #[(0,.const (.int .u8 11))]),d 127 (.call ⟨.builtin .append,#[t 125,t 126],#[22,22]⟩),c 128 56 #[i 6,t 127] #[3,22],d 129 (.call ⟨.builtin .append,#[t
 120,t 128],#[22,22]⟩),a 14 129] (S [m 130 14,d 131 (.buildSlice 22 1 #[(0,.const (.int .u8 1))]),d 134 (.buildSlice 22 1 #[(0,.const (.int .u8 0))]),f 136 27 1
 2,l 137 3 136,b 138 .add 3 (t 137) (i 3) 3,⟨some 132,.call ⟨.value (.func 55),#[.const (.string ⟨#[109,97,105,110]⟩)],#[9]⟩,none,[⟨none,3,t 136,137⟩]⟩,⟨some
 133,.call ⟨.builtin .append,#[t 131,t 132],#[22,22]⟩,none,[⟨none,3,t 136,137⟩]⟩,⟨some 135,.call ⟨.builtin .append,#[t 133,t 134],#[22,22]⟩,none,[⟨none,3,t
 136,137⟩]⟩,c 139 25 #[t 138] #[3],d 140 (.call ⟨.builtin .append,#[t 135,t 139],#[22,22]⟩),c 141 56 #[i 7,t 140] #[3,22],d 142 (.call ⟨.builtin .append,#[t
 130,t 141],#[22,22]⟩),a 14 142] (S [m 143 14,m 144 6,c 145 56 #[i 10,t 144] #[3,22],d 146 (.call ⟨.builtin .append,#[t 143,t 145],#[22,22]⟩),a 14 146] (S [m
 147 14,c 148 55 #[.const (.string ⟨#[110,97,109,101]⟩)] #[9],d 149 (.buildSlice 22 1 #[(0,.const (.int .u8 1))]),d 150 (.call ⟨.builtin .append,#[t 148,t
 149],#[22,22]⟩),m 151 7,c 152 54 #[t 151] #[22],d 153 (.call ⟨.builtin .append,#[t 150,t 152],#[22,22]⟩),c 154 56 #[i 0,t 153] #[3,22],d 155 (.call ⟨.builtin
 .append,#[t 147,t 154],#[22,22]⟩),a 2 155] .ret)))))) }).1
def pc22_r2 : PC := (⟨_, by delta A S a d i m t; exact rfl⟩ : { p : PC // p = S [A 11 (.const (.slice none 0 0))] (S [m 83 11,d 84 (.buildSlice 22 1 #[(0,.const
 (.int .u8 3))]),d 85 (.call ⟨.builtin .append,#[t 83,t 84],#[22,22]⟩),a 11 85] (S [d 86 (.buildSlice 66 3 #[(0,.const (.string ⟨#[105,110]⟩)),(1,.const
 (.string ⟨#[111,117,116]⟩)),(2,.const (.string ⟨#[116,114,97,112]⟩))]),a 12 86] (.seq (S [A 13 (i 0)] (.block 2 (.loop pc22_l2))) pc22_r1))) }).1
def pc22 : PC := (⟨_, by delta A L S a b c d f i l m t; exact rfl⟩ : { p : PC // p = S [d 1 (.box 27 (t 0)),A 2 (.const (.slice none 0 0))] (S [f 15 27 1 0,l 16
 25 15,L 17 16 25,a 3 17] (S [m 18 3,b 19 .add 3 (t 18) (i 3) 3,c 20 25 #[t 19] #[3],c 21 51 #[.const (.slice none 0 0),i 2] #[38,3],d 22 (.call ⟨.builtin
 .append,#[t 20,t 21],#[22,22]⟩),a 4 22] (S [m 23 4,d 24 (.buildSlice 38 1 #[(0,i 2)]),c 25 51 #[t 24,i 0] #[38,3],d 26 (.call ⟨.builtin .append,#[t 23,t
 25],#[22,22]⟩),d 27 (.buildSlice 38 1 #[(0,i 1)]),c 28 51 #[t 27,i 0] #[38,3],d 29 (.call ⟨.builtin .append,#[t 26,t 28],#[22,22]⟩),a 4 29] (S [m 30 3,c 31 25
 #[t 30] #[3],a 5 31] (S [m 32 3,c 33 25 #[t 32] #[3],a 6 33] (S [m 34 3,c 35 25 #[t 34] #[3],a 7 35] (.seq (S [A 8 (i 0)] (.block 0 (.loop pc22_l1)))
 pc22_r2))))))) }).1
theorem calls22 (hn : args.length = 1) (h : avc Tryz.prog G 156 pc22 (afin Tryz.prog [.tmp 2] R) (frame0 args) σ) : ACalls Tryz.prog G 22 args σ R :=
  acalls' (n := 156) (l := [.tmp 2]) mixed Tryz.func22 (by kernel_rfl) (by kernel_rfl) (by kernel_rfl) (by omega) h
def pc23 : PC := (⟨_, by delta A C S a b c d i m t w; exact rfl⟩ : { p : PC // p = S [A 2 (.const (.slice none 0 0))] (S [m 4 0,b 5 .rem 3 (t 4) (i 128) 3,a 3
 5] (.seq (S [m 6 3,b 7 .lss 3 (t 6) (i 0) 3] (C 7 (.ops [m 8 3,b 9 .add 3 (t 8) (i 128) 3,a 3 9]) .skip)) (.seq (S [m 10 0,b 11 .geq 3 (t 10) (i (-64)) 3,m 12
 11,w 13 (.move (t 0)) 12 true,w 14 (.binOp .lss 3 (t 13) (i 64) 3) 12 true,d 15 (.pick (t 12) (t 14) (.const (.bool false)))] (C 15 (S [m 16 3,d 17 (.convert 3
 5 (t 16)),d 18 (.buildSlice 22 1 #[(0,t 17)]),a 2 18] .ret) .skip)) (S [m 19 3,b 20 .add 3 (i 128) (t 19) 3,d 21 (.convert 3 5 (t 20)),d 22 (.buildSlice 22 1
 #[(0,t 21)]),m 23 0,m 24 3,b 25 .sub 3 (t 23) (t 24) 3,b 26 .quo 3 (t 25) (i 128) 3,c 27 23 #[t 26] #[3],d 28 (.call ⟨.builtin .append,#[t 22,t
 27],#[22,22]⟩),a 2 28] .ret)))) }).1
theorem calls23 (hn : args.length = 1) (h : avc Tryz.prog G 29 pc23 (afin Tryz.prog [.tmp 2] R) (frame0 args) σ) : ACalls Tryz.prog G 23 args σ R :=
  acalls' (n := 29) (l := [.tmp 2]) mixed Tryz.func23 (by kernel_rfl) (by kernel_rfl) (by kernel_rfl) (by omega) h
def pc25 : PC := (⟨_, by delta A C S a b c d i m t; exact rfl⟩ : { p : PC // p = S [A 2 (.const (.slice none 0 0))] (.seq (S [m 3 0,b 4 .lss 3 (t 3) (i 128) 3]
 (C 4 (S [m 5 0,d 6 (.convert 3 5 (t 5)),d 7 (.buildSlice 22 1 #[(0,t 6)]),a 2 7] .ret) .skip)) (S [m 8 0,b 9 .rem 3 (t 8) (i 128) 3,b 10 .add 3 (i 128) (t 9)
 3,d 11 (.convert 3 5 (t 10)),d 12 (.buildSlice 22 1 #[(0,t 11)]),m 13 0,b 14 .quo 3 (t 13) (i 128) 3,c 15 25 #[t 14] #[3],d 16 (.call ⟨.builtin .append,#[t
 12,t 15],#[22,22]⟩),a 2 16] .ret)) }).1
theorem calls25 (hn : args.length = 1) (h : avc Tryz.prog G 17 pc25 (afin Tryz.prog [.tmp 2] R) (frame0 args) σ) : ACalls Tryz.prog G 25 args σ R :=
  acalls' (n := 17) (l := [.tmp 2]) mixed Tryz.func25 (by kernel_rfl) (by kernel_rfl) (by kernel_rfl) (by omega) h
def pc26 : PC := (⟨_, by delta A S a b d i m t; exact rfl⟩ : { p : PC // p = S [A 2 (.const (.int .u8 0))] (S [m 3 0,b 4 .mul 3 (i 7) (t 3) 3,b 5 .add 3 (i 201)
 (t 4) 3,d 6 (.convert 3 5 (t 5)),a 2 6] .ret) }).1
theorem calls26 (hn : args.length = 1) (h : avc Tryz.prog G 7 pc26 (afin Tryz.prog [.tmp 2] R) (frame0 args) σ) : ACalls Tryz.prog G 26 args σ R :=
  acalls' (n := 7) (l := [.tmp 2]) mixed Tryz.func26 (by kernel_rfl) (by kernel_rfl) (by kernel_rfl) (by omega) h
def pc27_h : PC := (⟨_, by delta C S b d m s t; exact rfl⟩ : { p : PC // p = S [m 4 2,b 5 .neq 20 (t 4) (.const .nilIface) 20] (C 5 (.ops [d 6 (.build 27 #[]),m
 7 2,d 8 (.typeAssert (t 7) 20 28 false),s 27 0 6,s 28 1 8]) .skip) }).1
def pc28 : PC := (⟨_, by delta A C S a b d m t; exact rfl⟩ : { p : PC // p = S [A 2 (.const (.slice none 0 0))] (.seq (S [m 3 0,b 4 .eql 22 (t 3) (.const
 (.slice none 0 0)) 22] (C 4 (S [A 2 (.const (.slice none 0 0))] .ret) .skip)) (S [d 5 (.buildSlice 22 0 #[]),m 6 0,d 7 (.call ⟨.builtin .append,#[t 5,t
 6],#[22,22]⟩),a 2 7] .ret)) }).1
theorem calls28 (hn : args.length = 1) (h : avc Tryz.prog G 8 pc28 (afin Tryz.prog [.tmp 2] R) (frame0 args) σ) : ACalls Tryz.prog G 28 args σ R :=
  acalls' (n := 8) (l := [.tmp 2]) mixed Tryz.func28 (by kernel_rfl) (by kernel_rfl) (by kernel_rfl) (by omega) h
def pc29_l1 : PC := (⟨_, by delta C L S a b c i l m t x; exact rfl⟩ : { p : PC // p = S [b 19 .lss 3 (t 18) (t 17) 3] (.seq (C 19 .skip (.exit 0)) (.seq (.block
 1 (S [x 20 66 16 18,l 21 9 20,a 4 21] (.ops [m 22 0,m 23 4,L 24 23 9,b 25 .add 3 (i 5) (t 24) 3,b 26 .add 3 (t 25) (i 2) 3,c 27 57 #[t 22,t 26] #[48,3]])))
 (.ops [b 28 .add 3 (t 18) (i 1) 3,m 18 28]))) }).1
def pc29_l2 : PC := (⟨_, by delta C S b c i m t; exact rfl⟩ : { p : PC // p = S [b 34 .lss 3 (t 33) (t 32) 3] (.seq (C 34 .skip (.exit 2)) (.seq (.block 3 (.ops
 [m 35 0,c 36 60 #[t 35,.const (.bool false)] #[48,4]])) (.ops [b 37 .add 3 (t 33) (i 1) 3,m 33 37]))) }).1
def pc29_l3 : PC := (⟨_, by delta C S a b c f i l m t x; exact rfl⟩ : { p : PC // p = S [b 72 .lss 3 (t 71) (t 70) 3] (.seq (C 72 .skip (.exit 4)) (.seq (.block
 5 (S [m 73 71,a 5 73] (.ops [m 74 0,f 75 27 2 0,l 76 25 75,m 77 5,x 78 25 76 77,c 79 61 #[t 74,t 78] #[48,86]]))) (.ops [b 80 .add 3 (t 71) (i 1) 3,m 71 80])))
 }).1
def pc29_l4 : PC := (⟨_, by delta C S a b c f i l m s t x; exact rfl⟩ : { p : PC // p = S [b 98 .lss 3 (t 97) (t 96) 3] (.seq (C 98 .skip (.exit 6)) (.seq
 (.block 7 (S [m 99 97,a 6 99] (S [m 100 0,c 101 60 #[t 100,.const (.bool false)] #[48,4]] (.ops [f 102 27 2 0,l 103 25 102,m 104 6,m 105 0,m 106 0,⟨some
 107,.call ⟨.value (.func 60),#[t 106,.const (.bool false)],#[48,4]⟩,none,[⟨none,25,t 102,103⟩]⟩,⟨some 108,.call ⟨.value (.func 57),#[t 105,t
 107],#[48,3]⟩,none,[⟨none,25,t 102,103⟩]⟩,⟨some 109,.convert 22 9 (t 108),none,[⟨none,25,t 102,103⟩]⟩,x 110 25 103 104,f 111 59 110 0,s 9 111 109])))) (.ops [b
 112 .add 3 (t 97) (i 1) 3,m 97 112]))) }).1
def pc29_r1 : PC := (⟨_, by delta S l s; exact rfl⟩ : { p : PC // p = S [l 113 27 2,s 27 2 113] .ret }).1
def pc29_r2 : PC := (⟨_, by delta L S b c d f i l m t; exact rfl⟩ : { p : PC // p = S [m 81 0,c 82 59 #[t 81,.const (.int .u8 0)] #[48,5]] (S [m 83 0,c 84 57
 #[t 83,i 6] #[48,3]] (S [m 85 0,c 86 60 #[t 85,.const (.bool false)] #[48,4]] (S [m 87 0,f 89 27 2 0,l 90 25 89,L 91 90 25,⟨some 88,.call ⟨.value (.func
 60),#[t 87,.const (.bool false)],#[48,4]⟩,none,[⟨none,25,t 89,90⟩]⟩,b 92 .eql 3 (t 88) (t 91) 3,c 93 30 #[t 92,i 2] #[4,28]] (.seq (S [f 94 27 2 0,l 95 25 94,L
 96 95 25,d 97 (.move (i 0))] (.block 6 (.loop pc29_l4))) pc29_r1)))) }).1
def pc29_r3 : PC := (⟨_, by delta L S b c d f i l m s t; exact rfl⟩ : { p : PC // p = S [m 38 0,c 39 59 #[t 38,.const (.int .u8 5)] #[48,5]] (S [m 40 0,c 41 57
 #[t 40,i 3] #[48,3]] (S [m 42 0,c 43 59 #[t 42,.const (.int .u8 6)] #[48,5]] (S [m 44 0,c 45 57 #[t 44,i 4] #[48,3]] (S [m 46 0,c 47 60 #[t 46,.const (.bool
 true)] #[48,4],f 48 27 2 1,s 3 48 47] (S [m 49 0,c 50 57 #[t 49,i 1] #[48,3]] (S [m 51 0,c 52 59 #[t 51,.const (.int .u8 7)] #[48,5]] (S [m 53 0,c 54 57 #[t
 53,i 7] #[48,3]] (S [m 55 0,c 56 60 #[t 55,.const (.bool false)] #[48,4],b 57 .sub 3 (t 56) (i 3) 3,f 58 27 2 2,s 3 58 57] (S [m 59 0,c 60 59 #[t 59,.const
 (.int .u8 10)] #[48,5]] (S [m 61 0,f 63 27 2 0,l 64 25 63,L 65 64 25,⟨some 62,.call ⟨.value (.func 60),#[t 61,.const (.bool false)],#[48,4]⟩,none,[⟨none,25,t
 63,64⟩]⟩,b 66 .eql 3 (t 62) (t 65) 3,c 67 30 #[t 66,i 2] #[4,28]] (.seq (S [f 68 27 2 0,l 69 25 68,L 70 69 25,d 71 (.move (i 0))] (.block 4 (.loop pc29_l3)))
 pc29_r2))))))))))) }).1
def pc29_r4 : PC := (⟨_, by delta S c d i m t; exact rfl⟩ : { p : PC // p = S [m 29 0,c 30 59 #[t 29,.const (.int .u8 3)] #[48,5]] (.seq (S [m 31 0,c 32 60 #[t
 31,.const (.bool false)] #[48,4],d 33 (.move (i 0))] (.block 2 (.loop pc29_l2))) pc29_r3) }).1
def pc29 : PC := (⟨_, by delta L S c d f i m s t; exact rfl⟩ : { p : PC // p = S [d 2 (.alloc 27)] (S [m 7 0,c 8 57 #[t 7,i 8] #[48,3]] (S [m 9 0,c 10 58 #[t 9]
 #[48],f 11 27 2 0,s 25 11 10] (S [m 12 0,c 13 59 #[t 12,.const (.int .u8 2)] #[48,5]] (S [m 14 0,c 15 57 #[t 14,i 1] #[48,3]] (.seq (S [d 16 (.buildSlice 66 3
 #[(0,.const (.string ⟨#[105,110]⟩)),(1,.const (.string ⟨#[111,117,116]⟩)),(2,.const (.string ⟨#[116,114,97,112]⟩))]),L 17 16 66,d 18 (.move (i 0))] (.block 0
 (.loop pc29_l1))) pc29_r4))))) }).1
theorem calls29 (hn : args.length = 1) (h : avc Tryz.prog G 114 pc29 (afin Tryz.prog [.cell 2 27] R) (frame0 args) σ) : ACalls Tryz.prog G 29 args σ R :=
  acalls' (n := 114) (l := [.cell 2 27]) mixed Tryz.func29 (by kernel_rfl) (by kernel_rfl) (by kernel_rfl) (by omega) h
def pc30 : PC := (⟨_, by delta C S d e m t; exact rfl⟩ : { p : PC // p = S [m 4 0,d 5 (.unOp .not 4 (t 4))] (C 5 (.ops [m 6 1,d 7 (.makeInterface 28 (t 6)),e
 (.panic (t 7))]) .skip) }).1
theorem calls30 (hn : args.length = 2) (h : avc Tryz.prog G 8 pc30 (afin Tryz.prog [] R) (frame0 args) σ) : ACalls Tryz.prog G 30 args σ R :=
  acalls' (n := 8) (l := []) mixed Tryz.func30 (by kernel_rfl) (by kernel_rfl) (by kernel_rfl) (by omega) h
def pc31 : PC := (⟨_, by delta A S a c d e f l t; exact rfl⟩ : { p : PC // p = S [d 1 (.box 27 (t 0)),A 2 (.const (.bool false))] (S [d 3 (.alloc 87),e (.store
 87 (t 3) (.func 62))] (S [f 4 27 1 0,l 5 25 4,d 6 (.makeFunc (.func 64) #[] #[t 3]),c 7 63 #[t 5,t 6] #[25,90],d 8 (.unOp .not 4 (t 7)),a 2 8] .ret)) }).1
theorem calls31 (hn : args.length = 1) (h : avc Tryz.prog G 9 pc31 (afin Tryz.prog [.tmp 2] R) (frame0 args) σ) : ACalls Tryz.prog G 31 args σ R :=
  acalls' (n := 9) (l := [.tmp 2]) mixed Tryz.func31 (by kernel_rfl) (by kernel_rfl) (by kernel_rfl) (by omega) h
def pc32 : PC := (⟨_, by delta A S a b d e f i l m t w; exact rfl⟩ : { p : PC // p = S [d 1 (.box 27 (t 0)),A 2 (.const (.bool false))] (S [d 3 (.alloc 91),e
 (.store 91 (t 3) (.func 66))] (S [f 4 27 1 2,l 5 3 4,b 6 .geq 3 (t 5) (i (-3)) 3,m 7 6,w 8 (.fieldAddr 27 (t 1) 0) 7 true,w 9 (.load 25 (t 8)) 7 true,w 10
 (.makeFunc (.func 67) #[] #[t 3]) 7 true,w 11 (.call ⟨.value (.func 63),#[t 9,t 10],#[25,90]⟩) 7 true,w 12 (.unOp .not 4 (t 11)) 7 true,d 13 (.pick (t 7) (t
 12) (.const (.bool false))),a 2 13] .ret)) }).1
theorem calls32 (hn : args.length = 1) (h : avc Tryz.prog G 14 pc32 (afin Tryz.prog [.tmp 2] R) (frame0 args) σ) : ACalls Tryz.prog G 32 args σ R :=
  acalls' (n := 14) (l := [.tmp 2]) mixed Tryz.func32 (by kernel_rfl) (by kernel_rfl) (by kernel_rfl) (by omega) h
def pc33 : PC := (⟨_, by delta A S a b d m t; exact rfl⟩ : { p : PC // p = S [A 4 (.const (.bool false))] (S [m 5 0,d 6 (.convert 22 9 (t 5)),m 7 1,d 8
 (.convert 22 9 (t 7)),b 9 .eql 9 (t 6) (t 8) 9,a 4 9] .ret) }).1
theorem calls33 (hn : args.length = 2) (h : avc Tryz.prog G 10 pc33 (afin Tryz.prog [.tmp 4] R) (frame0 args) σ) : ACalls Tryz.prog G 33 args σ R :=
  acalls' (n := 10) (l := [.tmp 4]) mixed Tryz.func33 (by kernel_rfl) (by kernel_rfl) (by kernel_rfl) (by omega) h
def pc34_l1 : PC := (⟨_, by delta C L S a b d f i l m s t w x; exact rfl⟩ : { p : PC // p = .seq (S [m 54 4,f 55 27 3 0,l 56 25 55,L 57 56 25,b 58 .lss 3 (t 54)
 (t 57) 3,m 59 58,w 60 (.move (t 0)) 59 true,w 61 (.nilCheck (t 60)) 59 true,w 62 (.fieldAddr 55 (t 61) 2) 59 true,w 63 (.load 4 (t 62)) 59 true,w 64 (.unOp
 .not 4 (t 63)) 59 true,d 65 (.pick (t 59) (t 64) (.const (.bool false)))] (C 65 .skip (.exit 0))) (.seq (.block 1 (.ops [f 68 27 3 0,l 69 25 68,m 70 4,m 71 0,f
 72 27 3 0,l 73 25 72,m 74 4,x 75 25 73 74,l 76 59 75,⟨some 77,.call ⟨.value (.func 75),#[t 71,t 76],#[53,59]⟩,none,[⟨none,25,t 68,69⟩]⟩,x 78 25 69 70,s 59 78
 77])) (.ops [m 66 4,b 67 .add 3 (t 66) (i 1) 3,a 4 67])) }).1
def pc34_l2 : PC := (⟨_, by delta C L S a b c d f i l m n s t w x; exact rfl⟩ : { p : PC // p = .seq (S [m 89 5,f 90 27 3 0,l 91 25 90,L 92 91 25,b 93 .lss 3 (t
 89) (t 92) 3,m 94 93,w 95 (.move (t 0)) 94 true,w 96 (.nilCheck (t 95)) 94 true,w 97 (.fieldAddr 55 (t 96) 2) 94 true,w 98 (.load 4 (t 97)) 94 true,w 99 (.unOp
 .not 4 (t 98)) 94 true,d 100 (.pick (t 94) (t 99) (.const (.bool false)))] (C 100 .skip (.exit 2))) (.seq (.block 3 (S [m 103 0,c 104 74 #[t 103,.const (.bool
 false)] #[53,4]] (S [m 105 0,c 106 74 #[t 105,.const (.bool false)] #[53,4],a 6 106] (S [m 107 0,n 108 107,f 109 55 108 1,l 110 3 109,a 7 110] (S [m 111 0,m
 112 6,c 113 71 #[t 111,t 112] #[53,3]] (.ops [f 114 27 3 0,l 115 25 114,m 116 5,m 117 0,n 118 117,f 119 55 118 0,l 120 22 119,m 121 7,m 122 0,n 123 122,f 124
 55 123 1,l 125 3 124,d 126 (.slice 22 (t 120) (some (t 121)) (some (t 125)) none),⟨some 127,.convert 22 9 (t 126),none,[⟨none,25,t 114,115⟩]⟩,x 128 25 115
 116,f 129 59 128 0,s 9 129 127])))))) (.ops [m 101 5,b 102 .add 3 (t 101) (i 1) 3,a 5 102])) }).1
def pc34_r1 : PC := (⟨_, by delta S l s; exact rfl⟩ : { p : PC // p = S [l 130 27 3,s 27 2 130] .ret }).1
def pc34_r2 : PC := (⟨_, by delta A S c i m t; exact rfl⟩ : { p : PC // p = S [m 79 0,c 80 73 #[t 79] #[53]] (S [m 81 0,c 82 74 #[t 81,.const (.bool false)]
 #[53,4]] (S [m 83 0,c 84 71 #[t 83,i 6] #[53,3]] (S [m 85 0,c 86 74 #[t 85,.const (.bool false)] #[53,4]] (S [m 87 0,c 88 74 #[t 87,.const (.bool false)]
 #[53,4]] (.seq (S [A 5 (i 0)] (.block 2 (.loop pc34_l2))) pc34_r1))))) }).1
def pc34 : PC := (⟨_, by delta A S b c d f i m s t; exact rfl⟩ : { p : PC // p = S [d 2 (.alloc 27)] (S [d 3 (.alloc 27)] (S [m 8 0,c 9 71 #[t 8,i 8] #[53,3]]
 (S [m 10 0,c 11 72 #[t 10] #[53],f 12 27 3 0,s 25 12 11] (S [m 13 0,c 14 73 #[t 13] #[53]] (S [m 15 0,m 16 0,c 17 74 #[t 16,.const (.bool false)] #[53,4],c 18
 71 #[t 15,t 17] #[53,3]] (S [m 19 0,c 20 73 #[t 19] #[53]] (S [m 21 0,m 22 0,c 23 74 #[t 22,.const (.bool false)] #[53,4],c 24 71 #[t 21,t 23] #[53,3]] (S [m
 25 0,c 26 71 #[t 25,i 5] #[53,3]] (S [m 27 0,c 28 73 #[t 27] #[53]] (S [m 29 0,c 30 74 #[t 29,.const (.bool false)] #[53,4]] (S [m 31 0,c 32 71 #[t 31,i 4]
 #[53,3]] (S [m 33 0,c 34 74 #[t 33,.const (.bool true)] #[53,4],f 35 27 3 1,s 3 35 34] (S [m 36 0,c 37 71 #[t 36,i 1] #[53,3]] (S [m 38 0,c 39 73 #[t 38]
 #[53]] (S [m 40 0,c 41 74 #[t 40,.const (.bool false)] #[53,4]] (S [m 42 0,c 43 71 #[t 42,i 7] #[53,3]] (S [m 44 0,c 45 74 #[t 44,.const (.bool false)]
 #[53,4],b 46 .sub 3 (t 45) (i 3) 3,f 47 27 3 2,s 3 47 46] (S [m 48 0,c 49 73 #[t 48] #[53]] (S [m 50 0,c 51 74 #[t 50,.const (.bool false)] #[53,4]] (S [m 52
 0,c 53 74 #[t 52,.const (.bool false)] #[53,4]] (.seq (S [A 4 (i 0)] (.block 0 (.loop pc34_l1))) pc34_r2))))))))))))))))))))) }).1
theorem calls34 (hn : args.length = 1) (h : avc Tryz.prog G 131 pc34 (afin Tryz.prog [.cell 2 27] R) (frame0 args) σ) : ACalls Tryz.prog G 34 args σ R :=
  acalls' (n := 131) (l := [.cell 2 27]) mixed Tryz.func34 (by kernel_rfl) (by kernel_rfl) (by kernel_rfl) (by omega) h
def pc35_l1 : PC := (⟨_, by delta A C L S a b c d i l m t x; exact rfl⟩ : { p : PC // p = .seq (S [m 11 5,m 12 0,L 13 12 25,b 14 .lss 3 (t 11) (t 13) 3] (C 14
 .skip (.exit 0))) (.seq (.block 1 (S [m 17 0,m 18 5,x 19 25 17 18,l 20 59 19,m 21 1,m 22 5,x 23 25 21 22,l 24 59 23,c 25 76 #[t 20,t 24] #[59,59],d 26 (.unOp
 .not 4 (t 25))] (C 26 (S [A 4 (.const (.bool false))] .ret) .skip))) (.ops [m 15 5,b 16 .add 3 (t 15) (i 1) 3,a 5 16])) }).1
def pc35_r1 : PC := (⟨_, by delta A S; exact rfl⟩ : { p : PC // p = S [A 4 (.const (.bool true))] .ret }).1
def pc35 : PC := (⟨_, by delta A C L S b i m t; exact rfl⟩ : { p : PC // p = S [A 4 (.const (.bool false))] (.seq (S [m 6 0,L 7 6 25,m 8 1,L 9 8 25,b 10 .neq 3
 (t 7) (t 9) 3] (C 10 (S [A 4 (.const (.bool false))] .ret) .skip)) (.seq (S [A 5 (i 0)] (.block 0 (.loop pc35_l1))) pc35_r1)) }).1
theorem calls35 (hn : args.length = 2) (h : avc Tryz.prog G 27 pc35 (afin Tryz.prog [.tmp 4] R) (frame0 args) σ) : ACalls Tryz.prog G 35 args σ R :=
  acalls' (n := 27) (l := [.tmp 4]) mixed Tryz.func35 (by kernel_rfl) (by kernel_rfl) (by kernel_rfl) (by omega) h
def pc36_l1 : PC := (⟨_, by delta C L S a b c i m s t x; exact rfl⟩ : { p : PC // p = .seq (S [m 3 2,m 4 0,L 5 4 38,b 6 .lss 3 (t 3) (t 5) 3] (C 6 .skip (.exit
 0))) (.seq (.block 1 (.ops [m 9 0,m 10 2,m 11 2,b 12 .add 3 (t 11) (i 7) 3,c 13 77 #[t 12] #[3],x 14 38 9 10,s 3 14 13])) (.ops [m 7 2,b 8 .add 3 (t 7) (i 1)
 3,a 2 8])) }).1
def pc36 : PC := (⟨_, by delta A S i; exact rfl⟩ : { p : PC // p = S [A 2 (i 0)] (.block 0 (.loop pc36_l1)) }).1
theorem calls36 (hn : args.length = 1) (h : avc Tryz.prog G 15 pc36 (afin Tryz.prog [] R) (frame0 args) σ) : ACalls Tryz.prog G 36 args σ R :=
  acalls' (n := 15) (l := []) mixed Tryz.func36 (by kernel_rfl) (by kernel_rfl) (by kernel_rfl) (by omega) h
def pc37_l1 : PC := (⟨_, by delta C L S a b c i m s t x; exact rfl⟩ : { p : PC // p = .seq (S [m 3 2,m 4 0,L 5 4 61,b 6 .lss 3 (t 3) (t 5) 3] (C 6 .skip (.exit
 0))) (.seq (.block 1 (.ops [m 9 0,m 10 2,m 11 2,b 12 .add 3 (t 11) (i 7) 3,c 13 78 #[t 12] #[3],x 14 61 9 10,s 73 14 13])) (.ops [m 7 2,b 8 .add 3 (t 7) (i 1)
 3,a 2 8])) }).1
def pc37 : PC := (⟨_, by delta A S i; exact rfl⟩ : { p : PC // p = S [A 2 (i 0)] (.block 0 (.loop pc37_l1)) }).1
theorem calls37 (hn : args.length = 1) (h : avc Tryz.prog G 15 pc37 (afin Tryz.prog [] R) (frame0 args) σ) : ACalls Tryz.prog G 37 args σ R :=
  acalls' (n := 15) (l := []) mixed Tryz.func37 (by kernel_rfl) (by kernel_rfl) (by kernel_rfl) (by omega) h
def pc38_l1 : PC := (⟨_, by delta C L S a b c i m s t x; exact rfl⟩ : { p : PC // p = .seq (S [m 3 2,m 4 0,L 5 4 49,b 6 .lss 3 (t 3) (t 5) 3] (C 6 .skip (.exit
 0))) (.seq (.block 1 (.ops [m 9 0,m 10 2,m 11 2,b 12 .add 3 (t 11) (i 7) 3,c 13 79 #[t 12] #[3],x 14 49 9 10,s 61 14 13])) (.ops [m 7 2,b 8 .add 3 (t 7) (i 1)
 3,a 2 8])) }).1
def pc38 : PC := (⟨_, by delta A S i; exact rfl⟩ : { p : PC // p = S [A 2 (i 0)] (.block 0 (.loop pc38_l1)) }).1
theorem calls38 (hn : args.length = 1) (h : avc Tryz.prog G 15 pc38 (afin Tryz.prog [] R) (frame0 args) σ) : ACalls Tryz.prog G 38 args σ R :=
  acalls' (n := 15) (l := []) mixed Tryz.func38 (by kernel_rfl) (by kernel_rfl) (by kernel_rfl) (by omega) h
def pc39_l1 : PC := (⟨_, by delta C L S a b c i m s t x; exact rfl⟩ : { p : PC // p = .seq (S [m 3 2,m 4 0,L 5 4 25,b 6 .lss 3 (t 3) (t 5) 3] (C 6 .skip (.exit
 0))) (.seq (.block 1 (.ops [m 9 0,m 10 2,m 11 2,b 12 .add 3 (t 11) (i 7) 3,c 13 80 #[t 12] #[3],x 14 25 9 10,s 59 14 13])) (.ops [m 7 2,b 8 .add 3 (t 7) (i 1)
 3,a 2 8])) }).1
def pc39 : PC := (⟨_, by delta A S i; exact rfl⟩ : { p : PC // p = S [A 2 (i 0)] (.block 0 (.loop pc39_l1)) }).1
theorem calls39 (hn : args.length = 1) (h : avc Tryz.prog G 15 pc39 (afin Tryz.prog [] R) (frame0 args) σ) : ACalls Tryz.prog G 39 args σ R :=
  acalls' (n := 15) (l := []) mixed Tryz.func39 (by kernel_rfl) (by kernel_rfl) (by kernel_rfl) (by omega) h
def pc40 : PC := (⟨_, by delta A S a c d m t; exact rfl⟩ : { p : PC // p = S [A 4 (.const (.slice none 0 0))] (S [d 5 (.buildSlice 22 1 #[(0,.const (.int .u8
 96))]),m 6 0,c 7 81 #[t 6] #[38],m 8 1,c 9 82 #[t 8] #[3],d 10 (.buildSlice 65 3 #[(0,t 5),(1,t 7),(2,t 9)]),c 11 41 #[t 10] #[65],a 4 11] .ret) }).1
theorem calls40 (hn : args.length = 2) (h : avc Tryz.prog G 12 pc40 (afin Tryz.prog [.tmp 4] R) (frame0 args) σ) : ACalls Tryz.prog G 40 args σ R :=
  acalls' (n := 12) (l := [.tmp 4]) mixed Tryz.func40 (by kernel_rfl) (by kernel_rfl) (by kernel_rfl) (by omega) h
def pc41_l1 : PC := (⟨_, by delta C L S a b d e i l m t x; exact rfl⟩ : { p : PC // p = S [b 12 .lss 3 (t 11) (t 10) 3] (.seq (C 12 .skip (.exit 0)) (.seq
 (.block 1 (S [x 13 65 9 11,l 14 22 13,a 5 14] (S [m 15 3,m 16 5,L 17 16 22,b 18 .add 3 (t 15) (t 17) 3,a 3 18] (S [m 19 3,b 20 .lss 3 (t 19) (i 0) 3] (C 20
 (.ops [d 21 (.makeInterface 9 (.const (.string ⟨#[108,101,110,32,111,117,116,32,111,102,32,114,97,110,103,101]⟩))),e (.panic (t 21))]) .skip))))) (.ops [b 22
 .add 3 (t 11) (i 1) 3,m 11 22]))) }).1
def pc41_l2 : PC := (⟨_, by delta C S a b d i l m t x; exact rfl⟩ : { p : PC // p = S [b 28 .lss 3 (t 27) (t 26) 3] (.seq (C 28 .skip (.exit 2)) (.seq (.block 3
 (S [x 29 65 25 27,l 30 22 29,a 8 30] (.ops [m 31 6,m 32 8,d 33 (.call ⟨.builtin .append,#[t 31,t 32],#[22,22]⟩),a 6 33]))) (.ops [b 34 .add 3 (t 27) (i 1) 3,m
 27 34]))) }).1
def pc41_r1 : PC := (⟨_, by delta S a m; exact rfl⟩ : { p : PC // p = S [m 35 6,a 2 35] .ret }).1
def pc41_r2 : PC := (⟨_, by delta L S a c d i m t; exact rfl⟩ : { p : PC // p = S [m 23 3,c 24 83 #[.const (.slice none 0 0),t 23] #[22,3],a 6 24] (.seq (S [m
 25 0,L 26 25 65,d 27 (.move (i 0))] (.block 2 (.loop pc41_l2))) pc41_r1) }).1
def pc41 : PC := (⟨_, by delta A L S d i m; exact rfl⟩ : { p : PC // p = S [A 2 (.const (.slice none 0 0))] (S [A 3 (i 0)] (.seq (S [m 9 0,L 10 9 65,d 11 (.move
 (i 0))] (.block 0 (.loop pc41_l1))) pc41_r2)) }).1
theorem calls41 (hn : args.length = 1) (h : avc Tryz.prog G 36 pc41 (afin Tryz.prog [.tmp 2] R) (frame0 args) σ) : ACalls Tryz.prog G 41 args σ R :=
  acalls' (n := 36) (l := [.tmp 2]) mixed Tryz.func41 (by kernel_rfl) (by kernel_rfl) (by kernel_rfl) (by omega) h
def pc42 : PC := (⟨_, by delta A L S a c d m t; exact rfl⟩ : { p : PC // p = S [A 2 (.const (.slice none 0 0))] (S [m 3 0,L 4 3 22,c 5 15 #[t 4] #[3],m 6 0,d 7
 (.call ⟨.builtin .append,#[t 5,t 6],#[22,22]⟩),a 2 7] .ret) }).1
theorem calls42 (hn : args.length = 1) (h : avc Tryz.prog G 8 pc42 (afin Tryz.prog [.tmp 2] R) (frame0 args) σ) : ACalls Tryz.prog G 42 args σ R :=
  acalls' (n := 8) (l := [.tmp 2]) mixed Tryz.func42 (by kernel_rfl) (by kernel_rfl) (by kernel_rfl) (by omega) h
def pc43_l1 : PC := (⟨_, by delta C L S a b d i m t w; exact rfl⟩ : { p : PC // p = .seq (S [m 8 4,m 9 0,L 10 9 38,b 11 .lss 3 (t 8) (t 10) 3,m 12 11,w 13
 (.move (t 0)) 12 true,w 14 (.move (t 4)) 12 true,w 15 (.indexAddr 38 (t 13) (t 14)) 12 true,w 16 (.load 3 (t 15)) 12 true,w 17 (.move (t 0)) 12 true,w 18
 (.indexAddr 38 (t 17) (i 0)) 12 true,w 19 (.load 3 (t 18)) 12 true,w 20 (.binOp .eql 3 (t 16) (t 19) 3) 12 true,d 21 (.pick (t 12) (t 20) (.const (.bool
 false)))] (C 21 .skip (.exit 2))) (.block 3 (.ops [m 22 4,b 23 .add 3 (t 22) (i 1) 3,a 4 23])) }).1
def pc43_r1 : PC := (⟨_, by delta a b c d i l m t; exact rfl⟩ : { p : PC // p = .seq (.both [[m 24 3,m 25 4,m 27 0,d 28 (.indexAddr 38 (t 27) (i 0)),l 29 3 28,b
 30 .sub 3 (i 128) (t 29) 3,⟨some 26,.call ⟨.value (.func 15),#[t 25],#[3]⟩,none,[⟨none,3,t 28,29⟩]⟩,d 31 (.convert 3 5 (t 30)),d 32 (.buildSlice 22 1 #[(0,t
 31)]),d 33 (.call ⟨.builtin .append,#[t 26,t 32],#[22,22]⟩),d 34 (.buildSlice 65 1 #[(0,t 33)]),d 35 (.call ⟨.builtin .append,#[t 24,t 34],#[65,65]⟩),a 3
 35],[m 24 3,m 25 4,m 27 0,d 28 (.indexAddr 38 (t 27) (i 0)),l 29 3 28,b 30 .sub 3 (i 128) (t 29) 3,d 31 (.convert 3 5 (t 30)),d 32 (.buildSlice 22 1 #[(0,t
 31)]),c 26 15 #[t 25] #[3],d 33 (.call ⟨.builtin .append,#[t 26,t 32],#[22,22]⟩),d 34 (.buildSlice 65 1 #[(0,t 33)]),d 35 (.call ⟨.builtin .append,#[t 24,t
 34],#[65,65]⟩),a 3 35]]) (.ops [m 36 0,m 37 4,d 38 (.slice 38 (t 36) (some (t 37)) none none),a 0 38]) }).1
def pc43_l2 : PC := (⟨_, by delta A C L S b i m t; exact rfl⟩ : { p : PC // p = .seq (S [m 5 0,L 6 5 38,b 7 .gtr 3 (t 6) (i 0) 3] (C 7 .skip (.exit 0))) (.block
 1 (S [A 4 (i 1)] (.seq (.block 2 (.loop pc43_l1)) pc43_r1))) }).1
def pc43_r2 : PC := (⟨_, by delta S a c m t; exact rfl⟩ : { p : PC // p = S [m 39 3,c 40 46 #[t 39] #[65],a 2 40] .ret }).1
def pc43 : PC := (⟨_, by delta A S; exact rfl⟩ : { p : PC // p = S [A 2 (.const (.slice none 0 0))] (S [A 3 (.const (.slice none 0 0))] (.seq (.block 0 (.loop
 pc43_l2)) pc43_r2)) }).1
theorem calls43 (hn : args.length = 1) (h : avc Tryz.prog G 41 pc43 (afin Tryz.prog [.tmp 2] R) (frame0 args) σ) : ACalls Tryz.prog G 43 args σ R :=
  acalls' (n := 41) (l := [.tmp 2]) mixed Tryz.func43 (by kernel_rfl) (by kernel_rfl) (by kernel_rfl) (by omega) h
def pc44_l1 : PC := (⟨_, by delta C S a b c d f i l m s t w x; exact rfl⟩ : { p : PC // p = S [b 14 .lss 3 (t 13) (t 12) 3] (.seq (C 14 .skip (.exit 0)) (.seq
 (.block 1 (S [x 15 61 11 13,l 16 73 15,d 6 (.alloc 73),s 73 6 16] (.seq (S [f 17 73 6 0,l 18 3 17] (.block 2 (.seq (S [b 20 .eql 3 (t 18) (i 11) 3,a 19 20] (C
 19 .skip (S [b 21 .eql 3 (t 18) (i 12) 3,a 19 21] (C 19 .skip (.ops [b 22 .eql 3 (t 18) (i 13) 3,a 19 22]))))) (C 19 (S [m 23 4,f 24 73 6 0,l 25 3 24,b 26 .add
 3 (i 2) (t 25) 3,b 27 .sub 3 (t 26) (i 11) 3,d 28 (.convert 3 5 (t 27)),d 29 (.buildSlice 22 2 #[(0,t 28),(1,.const (.int .u8 64))]),d 30 (.call ⟨.builtin
 .append,#[t 23,t 29],#[22,22]⟩),a 4 30] (S [m 31 4,l 32 59 2,f 33 73 6 3,l 34 3 33,c 35 44 #[t 32,t 34] #[59,3],d 36 (.call ⟨.builtin .append,#[t 31,t
 35],#[22,22]⟩),a 4 36] (.seq (S [f 37 73 6 0,l 38 3 37,b 39 .eql 3 (t 38) (i 13) 3,m 40 39,w 41 (.fieldAddr 73 (t 6) 4) 40 true,w 42 (.load 3 (t 41)) 40 true,w
 43 (.binOp .geq 3 (t 42) (i 0) 3) 40 true,d 44 (.pick (t 40) (t 43) (.const (.bool false)))] (C 44 (.ops [m 45 4,d 46 (.buildSlice 22 1 #[(0,.const (.int .u8
 5))]),l 48 59 2,f 49 73 6 4,l 50 3 49,⟨some 47,.call ⟨.builtin .append,#[t 45,t 46],#[22,22]⟩,none,[⟨none,59,t 2,48⟩,⟨none,3,t 49,50⟩]⟩,c 51 44 #[t 48,t 50]
 #[59,3],d 52 (.call ⟨.builtin .append,#[t 47,t 51],#[22,22]⟩),a 4 52]) .skip)) (S [m 53 4,d 54 (.buildSlice 22 1 #[(0,.const (.int .u8 11))]),d 55 (.call
 ⟨.builtin .append,#[t 53,t 54],#[22,22]⟩),a 4 55] (.exit 1))))) .skip)))) (S [m 56 4,l 57 73 6,c 58 84 #[t 57] #[73],d 59 (.buildSlice 22 1 #[(0,t 58)]),d 60
 (.call ⟨.builtin .append,#[t 56,t 59],#[22,22]⟩),a 4 60] (S [f 61 73 6 0,l 62 3 61] (.block 3 (S [b 64 .eql 3 (t 62) (i 1) 3,a 63 64] (C 63 (.ops [m 65 4,f 66
 73 6 2,l 67 3 66,c 68 13 #[t 67] #[3],d 69 (.call ⟨.builtin .append,#[t 65,t 68],#[22,22]⟩),a 4 69]) (.seq (S [b 71 .eql 3 (t 62) (i 2) 3,a 70 71] (C 70 .skip
 (S [b 72 .eql 3 (t 62) (i 3) 3,a 70 72] (C 70 .skip (S [b 73 .eql 3 (t 62) (i 10) 3,a 70 73] (C 70 .skip (S [b 74 .eql 3 (t 62) (i 14) 3,a 70 74] (C 70 .skip
 (.ops [b 75 .eql 3 (t 62) (i 15) 3,a 70 75]))))))))) (C 70 (.ops [m 76 4,f 77 73 6 2,l 78 3 77,c 79 15 #[t 78] #[3],d 80 (.call ⟨.builtin .append,#[t 76,t
 79],#[22,22]⟩),a 4 80]) (.seq (S [b 82 .eql 3 (t 62) (i 8) 3,a 81 82] (C 81 .skip (.ops [b 83 .eql 3 (t 62) (i 9) 3,a 81 83]))) (C 81 (.ops [m 84 4,d 85
 (.buildSlice 22 2 #[(0,.const (.int .u8 0)),(1,.const (.int .u8 0))]),d 86 (.call ⟨.builtin .append,#[t 84,t 85],#[22,22]⟩),a 4 86]) .skip)))))))))))) (.ops [b
 87 .add 3 (t 13) (i 1) 3,m 13 87]))) }).1
def pc44_r1 : PC := (⟨_, by delta S a m; exact rfl⟩ : { p : PC // p = S [m 88 4,a 4 88] .ret }).1
def pc44 : PC := (⟨_, by delta A L S d f i l m t x; exact rfl⟩ : { p : PC // p = S [d 2 (.box 59 (t 0)),A 4 (.const (.slice none 0 0))] (.seq (S [f 7 59 2 4,l 8
 49 7,m 9 1,x 10 49 8 9,l 11 61 10,L 12 11 61,d 13 (.move (i 0))] (.block 0 (.loop pc44_l1))) pc44_r1) }).1
theorem calls44 (hn : args.length = 2) (h : avc Tryz.prog G 89 pc44 (afin Tryz.prog [.tmp 4] R) (frame0 args) σ) : ACalls Tryz.prog G 44 args σ R :=
  acalls' (n := 89) (l := [.tmp 4]) mixed Tryz.func44 (by kernel_rfl) (by kernel_rfl) (by kernel_rfl) (by omega) h
def pc45 : PC := (⟨_, by delta A S a c d m t; exact rfl⟩ : { p : PC // p = S [A 4 (.const (.slice none 0 0))] (S [m 5 0,d 6 (.buildSlice 22 1 #[(0,t 5)]),m 7
 1,c 8 41 #[t 7] #[65],c 9 42 #[t 8] #[22],d 10 (.call ⟨.builtin .append,#[t 6,t 9],#[22,22]⟩),a 4 10] .ret) }).1
theorem calls45 (hn : args.length = 2) (h : avc Tryz.prog G 11 pc45 (afin Tryz.prog [.tmp 4] R) (frame0 args) σ) : ACalls Tryz.prog G 45 args σ R :=
  acalls' (n := 11) (l := [.tmp 4]) mixed Tryz.func45 (by kernel_rfl) (by kernel_rfl) (by kernel_rfl) (by omega) h
def pc46 : PC := (⟨_, by delta A L S a c d m t; exact rfl⟩ : { p : PC // p = S [A 2 (.const (.slice none 0 0))] (S [m 3 0,L 4 3 65,c 5 15 #[t 4] #[3],m 6 0,c 7
 41 #[t 6] #[65],d 8 (.call ⟨.builtin .append,#[t 5,t 7],#[22,22]⟩),a 2 8] .ret) }).1
theorem calls46 (hn : args.length = 1) (h : avc Tryz.prog G 9 pc46 (afin Tryz.prog [.tmp 2] R) (frame0 args) σ) : ACalls Tryz.prog G 46 args σ R :=
  acalls' (n := 9) (l := [.tmp 2]) mixed Tryz.func46 (by kernel_rfl) (by kernel_rfl) (by kernel_rfl) (by omega) h
def pc51 : PC := (⟨_, by delta A C S a b c d i m t; exact rfl⟩ : { p : PC // p = S [A 4 (.const (.slice none 0 0))] (S [d 6 (.buildSlice 22 1 #[(0,.const (.int
 .u8 96))]),m 7 0,c 8 91 #[t 7] #[38],d 9 (.call ⟨.builtin .append,#[t 6,t 8],#[22,22]⟩),a 5 9] (.seq (S [m 10 1,b 11 .eql 3 (t 10) (i 0) 3] (C 11 (S [m 12 5,d
 13 (.buildSlice 22 1 #[(0,.const (.int .u8 0))]),d 14 (.call ⟨.builtin .append,#[t 12,t 13],#[22,22]⟩),a 4 14] .ret) .skip)) (S [m 15 5,m 16 1,c 17 92 #[t 16]
 #[3],d 18 (.buildSlice 22 2 #[(0,.const (.int .u8 1)),(1,t 17)]),d 19 (.call ⟨.builtin .append,#[t 15,t 18],#[22,22]⟩),a 4 19] .ret))) }).1
theorem calls51 (hn : args.length = 2) (h : avc Tryz.prog G 20 pc51 (afin Tryz.prog [.tmp 4] R) (frame0 args) σ) : ACalls Tryz.prog G 51 args σ R :=
  acalls' (n := 20) (l := [.tmp 4]) mixed Tryz.func51 (by kernel_rfl) (by kernel_rfl) (by kernel_rfl) (by omega) h
def pc52_l1 : PC := (⟨_, by delta C L S a b d i m t w; exact rfl⟩ : { p : PC // p = .seq (S [m 12 6,m 13 0,L 14 13 38,b 15 .lss 3 (t 12) (t 14) 3,m 16 15,w 17
 (.move (t 0)) 16 true,w 18 (.move (t 6)) 16 true,w 19 (.indexAddr 38 (t 17) (t 18)) 16 true,w 20 (.load 3 (t 19)) 16 true,w 21 (.move (t 0)) 16 true,w 22
 (.move (t 5)) 16 true,w 23 (.indexAddr 38 (t 21) (t 22)) 16 true,w 24 (.load 3 (t 23)) 16 true,w 25 (.binOp .eql 3 (t 20) (t 24) 3) 16 true,d 26 (.pick (t 16)
 (t 25) (.const (.bool false)))] (C 26 .skip (.exit 2))) (.block 3 (.ops [m 27 6,b 28 .add 3 (t 27) (i 1) 3,a 6 28])) }).1
def pc52_r1 : PC := (⟨_, by delta S a b c d i l m t x; exact rfl⟩ : { p : PC // p = S [m 29 3,m 30 6,m 31 5,b 32 .sub 3 (t 30) (t 31) 3,m 35 0,m 36 5,x 37 38 35
 36,l 38 3 37,⟨some 33,.call ⟨.value (.func 25),#[t 32],#[3]⟩,none,[⟨none,3,t 37,38⟩]⟩,⟨some 34,.call ⟨.builtin .append,#[t 29,t 33],#[22,22]⟩,none,[⟨none,3,t
 37,38⟩]⟩,c 39 92 #[t 38] #[3],d 40 (.buildSlice 22 1 #[(0,t 39)]),d 41 (.call ⟨.builtin .append,#[t 34,t 40],#[22,22]⟩),a 3 41] (S [m 42 4,b 43 .add 3 (t 42)
 (i 1) 3,a 4 43] (.ops [m 44 6,a 5 44])) }).1
def pc52_l2 : PC := (⟨_, by delta C L S a b m t; exact rfl⟩ : { p : PC // p = .seq (S [m 7 5,m 8 0,L 9 8 38,b 10 .lss 3 (t 7) (t 9) 3] (C 10 .skip (.exit 0)))
 (.block 1 (S [m 11 5,a 6 11] (.seq (.block 2 (.loop pc52_l1)) pc52_r1))) }).1
def pc52_r2 : PC := (⟨_, by delta S a c d m t; exact rfl⟩ : { p : PC // p = S [m 45 4,c 46 25 #[t 45] #[3],m 47 3,d 48 (.call ⟨.builtin .append,#[t 46,t
 47],#[22,22]⟩),a 2 48] .ret }).1
def pc52 : PC := (⟨_, by delta A S i; exact rfl⟩ : { p : PC // p = S [A 2 (.const (.slice none 0 0))] (S [A 3 (.const (.slice none 0 0))] (S [A 4 (i 0)] (.seq
 (S [A 5 (i 0)] (.block 0 (.loop pc52_l2))) pc52_r2))) }).1
theorem calls52 (hn : args.length = 1) (h : avc Tryz.prog G 49 pc52 (afin Tryz.prog [.tmp 2] R) (frame0 args) σ) : ACalls Tryz.prog G 52 args σ R :=
  acalls' (n := 49) (l := [.tmp 2]) mixed Tryz.func52 (by kernel_rfl) (by kernel_rfl) (by kernel_rfl) (by omega) h
def pc53_l1 : PC := (⟨_, by delta C L S a b c d f i l m s t w x; exact rfl⟩ : { p : PC // p = .seq (S [m 8 6,f 9 59 2 4,l 10 49 9,m 11 1,x 12 49 10 11,l 13 61
 12,L 14 13 61,b 15 .lss 3 (t 8) (t 14) 3] (C 15 .skip (.exit 0))) (.seq (.block 1 (S [f 18 59 2 4,l 19 49 18,m 20 1,x 21 49 19 20,l 22 61 21,m 23 6,x 24 61 22
 23,l 25 73 24,d 7 (.alloc 73),s 73 7 25] (.seq (S [f 26 73 7 0,l 27 3 26,b 28 .lss 3 (t 27) (i 11) 3,m 29 28,w 30 (.fieldAddr 73 (t 7) 0) 29 false,w 31 (.load
 3 (t 30)) 29 false,w 32 (.binOp .gtr 3 (t 31) (i 13) 3) 29 false,d 33 (.pick (t 29) (.const (.bool true)) (t 32))] (C 33 (S [m 34 5,l 35 73 7,c 36 93 #[t 35]
 #[73],d 37 (.call ⟨.builtin .append,#[t 34,t 36],#[22,22]⟩),a 5 37] (.exit 1)) .skip)) (S [m 38 5,f 39 73 7 0,l 40 3 39,b 41 .sub 3 (t 40) (i 9) 3,d 42
 (.convert 3 5 (t 41)),d 43 (.buildSlice 22 2 #[(0,t 42),(1,.const (.int .u8 64))]),d 44 (.call ⟨.builtin .append,#[t 38,t 43],#[22,22]⟩),a 5 44] (S [m 45 5,l
 46 59 2,f 47 73 7 3,l 48 3 47,c 49 53 #[t 46,t 48] #[59,3],d 50 (.call ⟨.builtin .append,#[t 45,t 49],#[22,22]⟩),a 5 50] (.seq (S [f 51 73 7 0,l 52 3 51,b 53
 .eql 3 (t 52) (i 13) 3,m 54 53,w 55 (.fieldAddr 73 (t 7) 4) 54 true,w 56 (.load 3 (t 55)) 54 true,w 57 (.binOp .geq 3 (t 56) (i 0) 3) 54 true,d 58 (.pick (t
 54) (t 57) (.const (.bool false)))] (C 58 (S [m 59 5,d 60 (.buildSlice 22 1 #[(0,.const (.int .u8 5))]),d 61 (.call ⟨.builtin .append,#[t 59,t 60],#[22,22]⟩),a
 5 61] (.ops [m 62 5,l 63 59 2,f 64 73 7 4,l 65 3 64,c 66 53 #[t 63,t 65] #[59,3],d 67 (.call ⟨.builtin .append,#[t 62,t 66],#[22,22]⟩),a 5 67])) .skip)) (.ops
 [m 68 5,d 69 (.buildSlice 22 1 #[(0,.const (.int .u8 11))]),d 70 (.call ⟨.builtin .append,#[t 68,t 69],#[22,22]⟩),a 5 70]))))))) (.ops [m 16 6,b 17 .add 3 (t
 16) (i 1) 3,a 6 17])) }).1
def pc53_r1 : PC := (⟨_, by delta S a m; exact rfl⟩ : { p : PC // p = S [m 71 5,a 4 71] .ret }).1
def pc53 : PC := (⟨_, by delta A S d i t; exact rfl⟩ : { p : PC // p = S [d 2 (.box 59 (t 0)),A 4 (.const (.slice none 0 0))] (S [A 5 (.const (.slice none 0
 0))] (.seq (S [A 6 (i 0)] (.block 0 (.loop pc53_l1))) pc53_r1)) }).1
theorem calls53 (hn : args.length = 2) (h : avc Tryz.prog G 72 pc53 (afin Tryz.prog [.tmp 4] R) (frame0 args) σ) : ACalls Tryz.prog G 53 args σ R :=
  acalls' (n := 72) (l := [.tmp 4]) mixed Tryz.func53 (by kernel_rfl) (by kernel_rfl) (by kernel_rfl) (by omega) h
def pc54 : PC := (⟨_, by delta A L S a c d m t; exact rfl⟩ : { p : PC // p = S [A 2 (.const (.slice none 0 0))] (S [m 3 0,L 4 3 22,c 5 25 #[t 4] #[3],m 6 0,d 7
 (.call ⟨.builtin .append,#[t 5,t 6],#[22,22]⟩),a 2 7] .ret) }).1
theorem calls54 (hn : args.length = 1) (h : avc Tryz.prog G 8 pc54 (afin Tryz.prog [.tmp 2] R) (frame0 args) σ) : ACalls Tryz.prog G 54 args σ R :=
  acalls' (n := 8) (l := [.tmp 2]) mixed Tryz.func54 (by kernel_rfl) (by kernel_rfl) (by kernel_rfl) (by omega) h
def pc55 : PC := (⟨_, by delta A S a c d m t; exact rfl⟩ : { p : PC // p = S [A 2 (.const (.slice none 0 0))] (S [m 3 0,d 4 (.convert 9 22 (t 3)),c 5 54 #[t 4]
 #[22],a 2 5] .ret) }).1
theorem calls55 (hn : args.length = 1) (h : avc Tryz.prog G 6 pc55 (afin Tryz.prog [.tmp 2] R) (frame0 args) σ) : ACalls Tryz.prog G 55 args σ R :=
  acalls' (n := 6) (l := [.tmp 2]) mixed Tryz.func55 (by kernel_rfl) (by kernel_rfl) (by kernel_rfl) (by omega) h
def pc56 : PC := (⟨_, by delta A S a c d m t; exact rfl⟩ : { p : PC // p = S [A 4 (.const (.slice none 0 0))] (S [m 5 0,d 6 (.convert 3 5 (t 5)),d 7
 (.buildSlice 22 1 #[(0,t 6)]),m 8 1,c 9 54 #[t 8] #[22],d 10 (.call ⟨.builtin .append,#[t 7,t 9],#[22,22]⟩),a 4 10] .ret) }).1
theorem calls56 (hn : args.length = 2) (h : avc Tryz.prog G 11 pc56 (afin Tryz.prog [.tmp 4] R) (frame0 args) σ) : ACalls Tryz.prog G 56 args σ R :=
  acalls' (n := 11) (l := [.tmp 4]) mixed Tryz.func56 (by kernel_rfl) (by kernel_rfl) (by kernel_rfl) (by omega) h
def pc57 : PC := (⟨_, by delta A S a b c d f i l m n s t w; exact rfl⟩ : { p : PC // p = S [A 4 (.const (.slice none 0 0))] (S [m 6 1,b 7 .geq 3 (t 6) (i 0) 3,m
 8 7,w 9 (.move (t 1)) 8 true,w 10 (.move (t 0)) 8 true,w 11 (.nilCheck (t 10)) 8 true,w 12 (.fieldAddr 51 (t 11) 0) 8 true,w 13 (.load 22 (t 12)) 8 true,w 14
 (.call ⟨.builtin .len,#[t 13],#[22]⟩) 8 true,w 15 (.binOp .leq 3 (t 9) (t 14) 3) 8 true,d 16 (.pick (t 8) (t 15) (.const (.bool false))),c 17 30 #[t 16,i 2]
 #[4,28]] (S [m 18 0,n 19 18,f 20 51 19 0,l 21 22 20,m 22 1,d 23 (.slice 22 (t 21) none (some (t 22)) none),a 5 23] (S [m 24 0,m 25 0,n 26 25,f 27 51 26 0,l 28
 22 27,m 29 1,d 30 (.slice 22 (t 28) (some (t 29)) none none),n 31 24,f 32 51 31 0,s 22 32 30] (S [m 33 5,a 4 33] .ret)))) }).1
theorem calls57 (hn : args.length = 2) (h : avc Tryz.prog G 34 pc57 (afin Tryz.prog [.tmp 4] R) (frame0 args) σ) : ACalls Tryz.prog G 57 args σ R :=
  acalls' (n := 34) (l := [.tmp 4]) mixed Tryz.func57 (by kernel_rfl) (by kernel_rfl) (by kernel_rfl) (by omega) h
def pc58_l1 : PC := (⟨_, by delta C L S a b c d f i l m s t; exact rfl⟩ : { p : PC // p = S [b 10 .lss 3 (t 9) (t 8) 3] (.seq (C 10 .skip (.exit 0)) (.seq
 (.block 1 (S [m 11 0,c 12 57 #[t 11,i 1] #[48,3]] (S [m 13 0,c 14 94 #[t 13] #[48],d 15 (.build 59 #[(1,t 14)]),d 3 (.alloc 59),s 59 3 15] (.seq (S [m 16 0,c
 17 94 #[t 16] #[48],a 4 17] (S [m 18 4,L 19 18 38,b 20 .gtr 3 (t 19) (i 0) 3] (C 20 (.ops [m 21 4,d 22 (.indexAddr 38 (t 21) (i 0)),l 23 3 22,f 24 59 3 3,s 3
 24 23]) .skip))) (.ops [m 25 2,l 26 59 3,d 27 (.buildSlice 25 1 #[(0,t 26)]),d 28 (.call ⟨.builtin .append,#[t 25,t 27],#[25,25]⟩),a 2 28]))))) (.ops [b 29
 .add 3 (t 9) (i 1) 3,m 9 29]))) }).1
def pc58_r1 : PC := (⟨_, by delta L S a b c d i m t; exact rfl⟩ : { p : PC // p = S [m 30 2,L 31 30 25,b 32 .geq 3 (t 31) (i 3) 3,c 33 30 #[t 32,i 2] #[4,28]]
 (S [m 34 2,d 35 (.slice 25 (t 34) (some (i 3)) none none),a 2 35] .ret) }).1
def pc58 : PC := (⟨_, by delta A S c d i m t; exact rfl⟩ : { p : PC // p = S [A 2 (.const (.slice none 0 0))] (S [m 5 0,c 6 59 #[t 5,.const (.int .u8 1)]
 #[48,5]] (.seq (S [m 7 0,c 8 60 #[t 7,.const (.bool false)] #[48,4],d 9 (.move (i 0))] (.block 0 (.loop pc58_l1))) pc58_r1)) }).1
theorem calls58 (hn : args.length = 1) (h : avc Tryz.prog G 36 pc58 (afin Tryz.prog [.tmp 2] R) (frame0 args) σ) : ACalls Tryz.prog G 58 args σ R :=
  acalls' (n := 36) (l := [.tmp 2]) mixed Tryz.func58 (by kernel_rfl) (by kernel_rfl) (by kernel_rfl) (by omega) h
def pc59 : PC := (⟨_, by delta S b c d i l m t; exact rfl⟩ : { p : PC // p = S [m 4 0,c 5 57 #[t 4,i 1] #[48,3],d 6 (.indexAddr 22 (t 5) (i 0)),l 7 5 6,m 8 1,b
 9 .eql 5 (t 7) (t 8) 5,c 10 30 #[t 9,i 2] #[4,28]] (.ops [m 11 0,c 12 60 #[t 11,.const (.bool false)] #[48,4]]) }).1
theorem calls59 (hn : args.length = 2) (h : avc Tryz.prog G 13 pc59 (afin Tryz.prog [] R) (frame0 args) σ) : ACalls Tryz.prog G 59 args σ R :=
  acalls' (n := 13) (l := []) mixed Tryz.func59 (by kernel_rfl) (by kernel_rfl) (by kernel_rfl) (by omega) h
def pc60_l1 : PC := (⟨_, by delta C S a b c d i l m t w; exact rfl⟩ : { p : PC // p = .seq (.block 1 (S [m 10 6,b 11 .lss 3 (t 10) (i 70) 3,c 12 30 #[t 11,i 2]
 #[4,28]] (S [m 13 0,c 14 57 #[t 13,i 1] #[48,3],d 15 (.indexAddr 22 (t 14) (i 0)),l 16 5 15,a 7 16] (S [m 17 5,m 18 7,b 19 .and 5 (t 18) (.const (.int .u8
 127)) 5,d 20 (.convert 5 110 (t 19)),m 21 6,b 22 .shl 110 (t 20) (t 21) 3,b 23 .or 110 (t 17) (t 22) 110,a 5 23] (S [m 24 7,b 25 .lss 5 (t 24) (.const (.int
 .u8 128)) 5] (C 25 (.seq (S [m 26 1,m 27 26,w 28 (.move (t 7)) 27 true,w 29 (.binOp .geq 5 (t 28) (.const (.int .u8 64)) 5) 27 true,d 30 (.pick (t 27) (t 29)
 (.const (.bool false))),m 31 30,w 32 (.move (t 6)) 31 true,w 33 (.binOp .lss 3 (t 32) (i 57) 3) 31 true,d 34 (.pick (t 31) (t 33) (.const (.bool false)))] (C
 34 (.ops [m 35 5,m 36 6,b 37 .add 3 (t 36) (i 7) 3,b 38 .shl 110 (.const (.int .u64 18446744073709551615)) (t 37) 3,b 39 .or 110 (t 35) (t 38) 110,a 5 39])
 .skip)) (S [m 40 5,d 41 (.convert 110 3 (t 40)),a 4 41] .ret)) .skip)))))) (.ops [m 8 6,b 9 .add 3 (t 8) (i 7) 3,a 6 9]) }).1
def pc60 : PC := (⟨_, by delta A S i; exact rfl⟩ : { p : PC // p = S [A 4 (i 0)] (S [A 5 (.const (.int .u64 0))] (S [A 6 (i 0)] (.block 0 (.loop pc60_l1))))
 }).1
theorem calls60 (hn : args.length = 2) (h : avc Tryz.prog G 42 pc60 (afin Tryz.prog [.tmp 4] R) (frame0 args) σ) : ACalls Tryz.prog G 60 args σ R :=
  acalls' (n := 42) (l := [.tmp 4]) mixed Tryz.func60 (by kernel_rfl) (by kernel_rfl) (by kernel_rfl) (by omega) h
def pc61_l1 : PC := (⟨_, by delta C S a b c d f i l m n s t w; exact rfl⟩ : { p : PC // p = S [b 10 .lss 3 (t 9) (t 8) 3] (.seq (C 10 .skip (.exit 0)) (.seq
 (.block 1 (S [m 11 0,c 12 60 #[t 11,.const (.bool false)] #[48,4],a 4 12] (S [m 13 4,b 14 .geq 3 (t 13) (i 0) 3,m 15 14,w 16 (.move (t 4)) 15 true,w 17 (.move
 (t 0)) 15 true,w 18 (.nilCheck (t 17)) 15 true,w 19 (.fieldAddr 51 (t 18) 2) 15 true,w 20 (.load 3 (t 19)) 15 true,w 21 (.binOp .sub 3 (i 65536) (t 20) 3) 15
 true,w 22 (.binOp .leq 3 (t 16) (t 21) 3) 15 true,d 23 (.pick (t 15) (t 22) (.const (.bool false))),c 24 30 #[t 23,i 9] #[4,28]] (S [m 25 0,n 26 25,f 27 51 26
 2,l 28 3 27,m 29 4,b 30 .add 3 (t 28) (t 29) 3,n 31 25,f 32 51 31 2,s 3 32 30] (.ops [m 33 1,m 34 1,n 35 34,f 36 59 35 2,l 37 38 36,m 38 0,m 45 4,⟨some
 39,.call ⟨.value (.func 57),#[t 38,i 1],#[48,3]⟩,none,[⟨none,38,t 36,37⟩]⟩,d 40 (.indexAddr 22 (t 39) (i 0)),l 41 5 40,⟨some 42,.convert 5 3 (t
 41),none,[⟨none,38,t 36,37⟩]⟩,b 43 .sub 3 (i 128) (t 42) 3,d 44 (.buildSlice 38 1 #[(0,t 43)]),⟨some 46,.call ⟨.value (.func 95),#[t 44,t
 45],#[38,3]⟩,none,[⟨none,38,t 36,37⟩]⟩,d 47 (.call ⟨.builtin .append,#[t 37,t 46],#[38,38]⟩),n 48 33,f 49 59 48 2,s 38 49 47]))))) (.ops [b 50 .add 3 (t 9) (i
 1) 3,m 9 50]))) }).1
def pc61_r1 : PC := (⟨_, by delta S c e f i l m n s t; exact rfl⟩ : { p : PC // p = S [m 51 0,n 52 51,f 53 51 52 1,e (.store 49 (t 53) (.const (.slice none 0
 0)))] (S [m 54 0,c 55 96 #[t 54,i 0] #[48,3]] (.ops [m 56 1,m 57 0,n 58 57,f 59 51 58 1,l 60 49 59,n 61 56,f 62 59 61 4,s 49 62 60])) }).1
def pc61 : PC := (⟨_, by delta S c d i m t; exact rfl⟩ : { p : PC // p = S [m 5 0,c 6 60 #[t 5,.const (.bool false)] #[48,4]] (.seq (S [m 7 0,c 8 60 #[t
 7,.const (.bool false)] #[48,4],d 9 (.move (i 0))] (.block 0 (.loop pc61_l1))) pc61_r1) }).1
theorem calls61 (hn : args.length = 2) (h : avc Tryz.prog G 63 pc61 (afin Tryz.prog [] R) (frame0 args) σ) : ACalls Tryz.prog G 61 args σ R :=
  acalls' (n := 63) (l := []) mixed Tryz.func61 (by kernel_rfl) (by kernel_rfl) (by kernel_rfl) (by omega) h
def pc62 : PC := (⟨_, by delta A S a b d i m t w; exact rfl⟩ : { p : PC // p = S [A 2 (.const (.bool false))] (S [m 3 0,b 4 .neq 3 (t 3) (i 1) 3,m 5 4,w 6
 (.move (t 0)) 5 true,w 7 (.binOp .neq 3 (t 6) (i 2) 3) 5 true,d 8 (.pick (t 5) (t 7) (.const (.bool false))),a 2 8] .ret) }).1
theorem calls62 (hn : args.length = 1) (h : avc Tryz.prog G 9 pc62 (afin Tryz.prog [.tmp 2] R) (frame0 args) σ) : ACalls Tryz.prog G 62 args σ R :=
  acalls' (n := 9) (l := [.tmp 2]) mixed Tryz.func62 (by kernel_rfl) (by kernel_rfl) (by kernel_rfl) (by omega) h
def pc63 : PC := (⟨_, by delta A S a b c i m t; exact rfl⟩ : { p : PC // p = S [A 4 (.const (.bool false))] (S [m 5 0,m 6 1,c 7 97 #[t 5,t 6] #[25,90],b 8 .geq
 3 (t 7) (i 0) 3,a 4 8] .ret) }).1
theorem calls63 (hn : args.length = 2) (h : avc Tryz.prog G 9 pc63 (afin Tryz.prog [.tmp 4] R) (frame0 args) σ) : ACalls Tryz.prog G 63 args σ R :=
  acalls' (n := 9) (l := [.tmp 4]) mixed Tryz.func63 (by kernel_rfl) (by kernel_rfl) (by kernel_rfl) (by omega) h
def pc64 : PC := (⟨_, by delta A S a c d f i l m t w; exact rfl⟩ : { p : PC // p = S [d 2 (.box 59 (t 0)),A 3 (.const (.bool false))] (S [f 4 59 2 1,l 5 38 4,l
 6 87 1,c 7 65 #[t 5,t 6] #[38,87],m 8 7,w 9 (.fieldAddr 59 (t 2) 2) 8 false,w 10 (.load 38 (t 9)) 8 false,w 11 (.load 87 (t 1)) 8 false,w 12 (.call ⟨.value
 (.func 65),#[t 10,t 11],#[38,87]⟩) 8 false,d 13 (.pick (t 8) (.const (.bool true)) (t 12)),m 14 13,w 15 (.fieldAddr 59 (t 2) 3) 14 false,w 16 (.load 3 (t 15))
 14 false,w 17 (.binOp .neq 3 (t 16) (i 0) 3) 14 false,w 18 (.move (t 17)) 14 false,w 19 (.load 87 (t 1)) 18 true,w 20 (.fieldAddr 59 (t 2) 3) 18 true,w 21
 (.load 3 (t 20)) 18 true,w 22 (.call ⟨.value (t 19),#[t 21],#[3]⟩) 18 true,w 23 (.pick (t 18) (t 22) (.const (.bool false))) 14 false,d 24 (.pick (t 14)
 (.const (.bool true)) (t 23)),a 3 24] .ret) }).1
theorem calls64 (hn : args.length = 2) (h : avc Tryz.prog G 25 pc64 (afin Tryz.prog [.tmp 3] R) (frame0 args) σ) : ACalls Tryz.prog G 64 args σ R :=
  acalls' (n := 25) (l := [.tmp 3]) mixed Tryz.func64 (by kernel_rfl) (by kernel_rfl) (by kernel_rfl) (by omega) h
def pc65 : PC := (⟨_, by delta A S a b c i m t; exact rfl⟩ : { p : PC // p = S [A 4 (.const (.bool false))] (S [m 5 0,m 6 1,c 7 98 #[t 5,t 6] #[38,87],b 8 .geq
 3 (t 7) (i 0) 3,a 4 8] .ret) }).1
theorem calls65 (hn : args.length = 2) (h : avc Tryz.prog G 9 pc65 (afin Tryz.prog [.tmp 4] R) (frame0 args) σ) : ACalls Tryz.prog G 65 args σ R :=
  acalls' (n := 9) (l := [.tmp 4]) mixed Tryz.func65 (by kernel_rfl) (by kernel_rfl) (by kernel_rfl) (by omega) h
def pc66 : PC := (⟨_, by delta A S a b d f i l m t w; exact rfl⟩ : { p : PC // p = S [d 1 (.box 73 (t 0)),A 2 (.const (.bool false))] (S [f 3 73 1 2,l 4 3 3,b 5
 .lss 3 (t 4) (i 0) 3,m 6 5,w 7 (.fieldAddr 73 (t 1) 0) 6 true,w 8 (.load 3 (t 7)) 6 true,w 9 (.binOp .neq 3 (t 8) (i 1) 3) 6 true,d 10 (.pick (t 6) (t 9)
 (.const (.bool false))),a 2 10] .ret) }).1
theorem calls66 (hn : args.length = 1) (h : avc Tryz.prog G 11 pc66 (afin Tryz.prog [.tmp 2] R) (frame0 args) σ) : ACalls Tryz.prog G 66 args σ R :=
  acalls' (n := 11) (l := [.tmp 2]) mixed Tryz.func66 (by kernel_rfl) (by kernel_rfl) (by kernel_rfl) (by omega) h
def pc67 : PC := (⟨_, by delta A S a c d f l t; exact rfl⟩ : { p : PC // p = S [d 2 (.box 59 (t 0)),A 3 (.const (.bool false))] (S [f 4 59 2 4,l 5 49 4,d 6
 (.makeFunc (.func 69) #[] #[t 1]),c 7 68 #[t 5,t 6] #[49,94],a 3 7] .ret) }).1
theorem calls67 (hn : args.length = 2) (h : avc Tryz.prog G 8 pc67 (afin Tryz.prog [.tmp 3] R) (frame0 args) σ) : ACalls Tryz.prog G 67 args σ R :=
  acalls' (n := 8) (l := [.tmp 3]) mixed Tryz.func67 (by kernel_rfl) (by kernel_rfl) (by kernel_rfl) (by omega) h
def pc68 : PC := (⟨_, by delta A S a b c i m t; exact rfl⟩ : { p : PC // p = S [A 4 (.const (.bool false))] (S [m 5 0,m 6 1,c 7 99 #[t 5,t 6] #[49,94],b 8 .geq
 3 (t 7) (i 0) 3,a 4 8] .ret) }).1
theorem calls68 (hn : args.length = 2) (h : avc Tryz.prog G 9 pc68 (afin Tryz.prog [.tmp 4] R) (frame0 args) σ) : ACalls Tryz.prog G 68 args σ R :=
  acalls' (n := 9) (l := [.tmp 4]) mixed Tryz.func68 (by kernel_rfl) (by kernel_rfl) (by kernel_rfl) (by omega) h
def pc69 : PC := (⟨_, by delta A S a c l m t; exact rfl⟩ : { p : PC // p = S [A 3 (.const (.bool false))] (S [m 4 0,l 5 91 1,c 6 70 #[t 4,t 5] #[61,91],a 3 6]
 .ret) }).1
theorem calls69 (hn : args.length = 2) (h : avc Tryz.prog G 7 pc69 (afin Tryz.prog [.tmp 3] R) (frame0 args) σ) : ACalls Tryz.prog G 69 args σ R :=
  acalls' (n := 7) (l := [.tmp 3]) mixed Tryz.func69 (by kernel_rfl) (by kernel_rfl) (by kernel_rfl) (by omega) h
def pc70 : PC := (⟨_, by delta A S a b c i m t; exact rfl⟩ : { p : PC // p = S [A 4 (.const (.bool false))] (S [m 5 0,m 6 1,c 7 100 #[t 5,t 6] #[61,91],b 8 .geq
 3 (t 7) (i 0) 3,a 4 8] .ret) }).1
theorem calls70 (hn : args.length = 2) (h : avc Tryz.prog G 9 pc70 (afin Tryz.prog [.tmp 4] R) (frame0 args) σ) : ACalls Tryz.prog G 70 args σ R :=
  acalls' (n := 9) (l := [.tmp 4]) mixed Tryz.func70 (by kernel_rfl) (by kernel_rfl) (by kernel_rfl) (by omega) h
def pc71_l1 : PC := (⟨_, by delta C S a b c d i m t w; exact rfl⟩ : { p : PC // p = .seq (S [m 5 4,m 6 1,b 7 .lss 3 (t 5) (t 6) 3,m 8 7,w 9 (.move (t 0)) 8
 true,w 10 (.nilCheck (t 9)) 8 true,w 11 (.fieldAddr 55 (t 10) 2) 8 true,w 12 (.load 4 (t 11)) 8 true,w 13 (.unOp .not 4 (t 12)) 8 true,d 14 (.pick (t 8) (t 13)
 (.const (.bool false)))] (C 14 .skip (.exit 0))) (.seq (.block 1 (.ops [m 17 0,c 18 73 #[t 17] #[53]])) (.ops [m 15 4,b 16 .add 3 (t 15) (i 1) 3,a 4 16])) }).1
def pc71 : PC := (⟨_, by delta A S i; exact rfl⟩ : { p : PC // p = S [A 4 (i 0)] (.block 0 (.loop pc71_l1)) }).1
theorem calls71 (hn : args.length = 2) (h : avc Tryz.prog G 19 pc71 (afin Tryz.prog [] R) (frame0 args) σ) : ACalls Tryz.prog G 71 args σ R :=
  acalls' (n := 19) (l := []) mixed Tryz.func71 (by kernel_rfl) (by kernel_rfl) (by kernel_rfl) (by omega) h
def pc72_l1 : PC := (⟨_, by delta C L S a b c d f i l m s t w; exact rfl⟩ : { p : PC // p = .seq (S [m 14 5,m 15 4,b 16 .lss 3 (t 14) (t 15) 3,m 17 16,w 18
 (.move (t 0)) 17 true,w 19 (.nilCheck (t 18)) 17 true,w 20 (.fieldAddr 55 (t 19) 2) 17 true,w 21 (.load 4 (t 20)) 17 true,w 22 (.unOp .not 4 (t 21)) 17 true,d
 23 (.pick (t 17) (t 22) (.const (.bool false)))] (C 23 .skip (.exit 0))) (.seq (.block 1 (S [m 26 0,c 27 73 #[t 26] #[53]] (S [m 28 0,c 29 101 #[t 28] #[53],d
 30 (.build 59 #[(1,t 29)]),d 6 (.alloc 59),s 59 6 30] (S [m 31 0,c 32 101 #[t 31] #[53],a 7 32] (.seq (S [m 33 7,L 34 33 38,b 35 .gtr 3 (t 34) (i 0) 3] (C 35
 (.ops [m 36 7,d 37 (.indexAddr 38 (t 36) (i 0)),l 38 3 37,f 39 59 6 3,s 3 39 38]) .skip)) (S [m 40 5,b 41 .geq 3 (t 40) (i 3) 3] (C 41 (.ops [m 42 3,l 43 59
 6,d 44 (.buildSlice 25 1 #[(0,t 43)]),d 45 (.call ⟨.builtin .append,#[t 42,t 44],#[25,25]⟩),a 3 45]) .skip))))))) (.ops [m 24 5,b 25 .add 3 (t 24) (i 1) 3,a 5
 25])) }).1
def pc72_r1 : PC := (⟨_, by delta S a m; exact rfl⟩ : { p : PC // p = S [m 46 3,a 2 46] .ret }).1
def pc72 : PC := (⟨_, by delta A S a c i m t; exact rfl⟩ : { p : PC // p = S [A 2 (.const (.slice none 0 0))] (S [A 3 (.const (.slice none 0 0))] (S [m 8 0,c 9
 73 #[t 8] #[53]] (S [m 10 0,c 11 74 #[t 10,.const (.bool false)] #[53,4]] (S [m 12 0,c 13 74 #[t 12,.const (.bool false)] #[53,4],a 4 13] (.seq (S [A 5 (i 0)]
 (.block 0 (.loop pc72_l1))) pc72_r1))))) }).1
theorem calls72 (hn : args.length = 1) (h : avc Tryz.prog G 47 pc72 (afin Tryz.prog [.tmp 2] R) (frame0 args) σ) : ACalls Tryz.prog G 72 args σ R :=
  acalls' (n := 47) (l := [.tmp 2]) mixed Tryz.func72 (by kernel_rfl) (by kernel_rfl) (by kernel_rfl) (by omega) h
def pc73 : PC := (⟨_, by delta A C L S a b d e f i l m n s t x; exact rfl⟩ : { p : PC // p = S [A 2 (i 0)] (.seq (S [m 3 0,n 4 3,f 5 55 4 1,l 6 3 5,m 7 0,n 8
 7,f 9 55 8 0,l 10 22 9,L 11 10 22,b 12 .geq 3 (t 6) (t 11) 3] (C 12 (S [m 13 0,n 14 13,f 15 55 14 2,e (.store 4 (t 15) (.const (.bool true)))] (S [A 2 (i 0)]
 .ret)) .skip)) (S [m 16 0,m 17 0,n 18 17,f 19 55 18 1,l 20 3 19,b 21 .add 3 (t 20) (i 1) 3,n 22 16,f 23 55 22 1,s 3 23 21] (S [m 24 0,n 25 24,f 26 55 25 0,l 27
 22 26,m 28 0,n 29 28,f 30 55 29 1,l 31 3 30,b 32 .sub 3 (t 31) (i 1) 3,x 33 22 27 32,l 34 5 33,d 35 (.convert 5 3 (t 34)),a 2 35] .ret))) }).1
theorem calls73 (hn : args.length = 1) (h : avc Tryz.prog G 36 pc73 (afin Tryz.prog [.tmp 2] R) (frame0 args) σ) : ACalls Tryz.prog G 73 args σ R :=
  acalls' (n := 36) (l := [.tmp 2]) mixed Tryz.func73 (by kernel_rfl) (by kernel_rfl) (by kernel_rfl) (by omega) h
def pc74_l1 : PC := (⟨_, by delta C S a b c d i m t w; exact rfl⟩ : { p : PC // p = .seq (S [m 16 8,b 17 .lss 3 (t 16) (i 10) 3] (C 17 .skip (.exit 0))) (.seq
 (.block 1 (S [m 20 0,c 21 73 #[t 20] #[53],a 9 21] (S [m 22 6,m 23 9,b 24 .rem 3 (t 23) (i 128) 3,d 25 (.convert 3 110 (t 24)),m 26 7,b 27 .mul 110 (t 25) (t
 26) 110,b 28 .add 110 (t 22) (t 27) 110,a 6 28] (S [m 29 7,b 30 .mul 110 (t 29) (.const (.int .u64 128)) 110,a 7 30] (S [m 31 9,b 32 .lss 3 (t 31) (i 128) 3]
 (C 32 (.seq (S [m 33 1,m 34 33,w 35 (.move (t 9)) 34 true,w 36 (.binOp .geq 3 (t 35) (i 64) 3) 34 true,d 37 (.pick (t 34) (t 36) (.const (.bool false))),m 38
 37,w 39 (.move (t 8)) 38 true,w 40 (.binOp .lss 3 (t 39) (i 9) 3) 38 true,d 41 (.pick (t 38) (t 40) (.const (.bool false)))] (C 41 (.ops [m 42 6,m 43 7,b 44
 .sub 110 (t 42) (t 43) 110,a 6 44]) .skip)) (.exit 0)) .skip)))))) (.ops [m 18 8,b 19 .add 3 (t 18) (i 1) 3,a 8 19])) }).1
def pc74_r1 : PC := (⟨_, by delta A C S a b c d e f i l m n t; exact rfl⟩ : { p : PC // p = S [m 45 6,d 46 (.convert 110 3 (t 45)),a 10 46] (S [m 47 10,c 48 23
 #[t 47] #[3],a 11 48] (.seq (S [m 49 1,d 50 (.unOp .not 4 (t 49))] (C 50 (.seq (S [m 51 10,b 52 .lss 3 (t 51) (i 0) 3] (C 52 (S [m 53 0,n 54 53,f 55 55 54 2,e
 (.store 4 (t 55) (.const (.bool true)))] (S [A 4 (i 0)] .ret)) .skip)) (.ops [m 56 10,c 57 25 #[t 56] #[3],a 11 57])) .skip)) (.seq (S [m 58 0,n 59 58,f 60 55
 59 0,l 61 22 60,m 62 5,m 63 0,n 64 63,f 65 55 64 1,l 66 3 65,d 67 (.slice 22 (t 61) (some (t 62)) (some (t 66)) none),m 68 11,c 69 14 #[t 67,t 68] #[22,22],d
 70 (.unOp .not 4 (t 69))] (C 70 (S [m 71 0,n 72 71,f 73 55 72 2,e (.store 4 (t 73) (.const (.bool true)))] (S [A 4 (i 0)] .ret)) .skip)) (S [m 74 10,a 4 74]
 .ret)))) }).1
def pc74 : PC := (⟨_, by delta A S a f i l m n; exact rfl⟩ : { p : PC // p = S [A 4 (i 0)] (S [m 12 0,n 13 12,f 14 55 13 1,l 15 3 14,a 5 15] (S [A 6 (.const
 (.int .u64 0))] (S [A 7 (.const (.int .u64 1))] (.seq (S [A 8 (i 0)] (.block 0 (.loop pc74_l1))) pc74_r1)))) }).1
theorem calls74 (hn : args.length = 2) (h : avc Tryz.prog G 75 pc74 (afin Tryz.prog [.tmp 4] R) (frame0 args) σ) : ACalls Tryz.prog G 74 args σ R :=
  acalls' (n := 75) (l := [.tmp 4]) mixed Tryz.func74 (by kernel_rfl) (by kernel_rfl) (by kernel_rfl) (by omega) h
def pc75_l1 : PC := (⟨_, by delta C S a b d f i l m s t; exact rfl⟩ : { p : PC // p = .seq (S [m 50 9,m 51 7,b 52 .lss 3 (t 50) (t 51) 3] (C 52 .skip (.exit
 2))) (.seq (.block 3 (.ops [f 55 59 3 2,l 56 38 55,m 57 8,d 58 (.buildSlice 38 1 #[(0,t 57)]),d 59 (.call ⟨.builtin .append,#[t 56,t 58],#[38,38]⟩),f 60 59 3
 2,s 38 60 59])) (.ops [m 53 9,b 54 .add 3 (t 53) (i 1) 3,a 9 54])) }).1
def pc75_r1 : PC := (⟨_, by delta a b i m t; exact rfl⟩ : { p : PC // p = .ops [m 24 6,b 25 .add 3 (t 24) (i 1) 3,a 6 25] }).1
def pc75_l2 : PC := (⟨_, by delta A C S a b c d e f i l m n s t w; exact rfl⟩ : { p : PC // p = .seq (S [m 14 6,m 15 5,b 16 .lss 3 (t 14) (t 15) 3,m 17 16,w 18
 (.move (t 0)) 17 true,w 19 (.nilCheck (t 18)) 17 true,w 20 (.fieldAddr 55 (t 19) 2) 17 true,w 21 (.load 4 (t 20)) 17 true,w 22 (.unOp .not 4 (t 21)) 17 true,d
 23 (.pick (t 17) (t 22) (.const (.bool false)))] (C 23 .skip (.exit 0))) (.seq (.block 1 (S [m 26 0,c 27 74 #[t 26,.const (.bool false)] #[53,4],a 7 27] (S [m
 28 0,m 29 0,n 30 29,f 31 55 30 4,l 32 3 31,m 33 7,d 34 (.call ⟨.builtin .min,#[t 33,i 1048576],#[3,3]⟩),b 35 .add 3 (t 32) (t 34) 3,d 36 (.call ⟨.builtin
 .min,#[t 35,i 1048576],#[3,3]⟩),n 37 28,f 38 55 37 4,s 3 38 36] (S [m 39 0,c 40 102 #[t 39] #[53],a 8 40] (.seq (S [m 41 0,n 42 41,f 43 55 42 4,l 44 3 43,b 45
 .gtr 3 (t 44) (i 65536) 3] (C 45 (S [m 46 0,n 47 46,f 48 55 47 2,e (.store 4 (t 48) (.const (.bool true)))] (S [l 49 59 3,s 59 4 49] .ret)) .skip)) (S [A 9 (i
 0)] (.block 2 (.loop pc75_l1)))))))) pc75_r1) }).1
def pc75_r2 : PC := (⟨_, by delta S c e f i l m n s t; exact rfl⟩ : { p : PC // p = S [m 61 0,n 62 61,f 63 55 62 3,e (.store 49 (t 63) (.const (.slice none 0
 0)))] (S [m 64 0,c 65 103 #[t 64,i 0] #[53,3]] (S [m 66 0,n 67 66,f 68 55 67 3,l 69 49 68,f 70 59 3 4,s 49 70 69] (S [l 71 59 3,s 59 4 71] .ret))) }).1
def pc75 : PC := (⟨_, by delta A S a c d i m t; exact rfl⟩ : { p : PC // p = S [d 3 (.box 59 (t 1)),d 4 (.alloc 59)] (S [m 10 0,c 11 74 #[t 10,.const (.bool
 false)] #[53,4]] (S [m 12 0,c 13 74 #[t 12,.const (.bool false)] #[53,4],a 5 13] (.seq (S [A 6 (i 0)] (.block 0 (.loop pc75_l2))) pc75_r2))) }).1
theorem calls75 (hn : args.length = 2) (h : avc Tryz.prog G 72 pc75 (afin Tryz.prog [.cell 4 59] R) (frame0 args) σ) : ACalls Tryz.prog G 75 args σ R :=
  acalls' (n := 72) (l := [.cell 4 59]) mixed Tryz.func75 (by kernel_rfl) (by kernel_rfl) (by kernel_rfl) (by omega) h
def pc76 : PC := (⟨_, by delta A S a b d f l m t w; exact rfl⟩ : { p : PC // p = S [d 2 (.box 59 (t 0)),d 3 (.box 59 (t 1)),A 4 (.const (.bool false))] (S [f 5
 59 2 0,l 6 9 5,f 7 59 3 0,l 8 9 7,b 9 .eql 9 (t 6) (t 8) 9,m 10 9,w 11 (.fieldAddr 59 (t 2) 3) 10 true,w 12 (.load 3 (t 11)) 10 true,w 13 (.fieldAddr 59 (t 3)
 3) 10 true,w 14 (.load 3 (t 13)) 10 true,w 15 (.binOp .eql 3 (t 12) (t 14) 3) 10 true,d 16 (.pick (t 10) (t 15) (.const (.bool false))),m 17 16,w 18
 (.fieldAddr 59 (t 2) 1) 17 true,w 19 (.load 38 (t 18)) 17 true,w 20 (.fieldAddr 59 (t 3) 1) 17 true,w 21 (.load 38 (t 20)) 17 true,w 22 (.call ⟨.value (.func
 104),#[t 19,t 21],#[38,38]⟩) 17 true,d 23 (.pick (t 17) (t 22) (.const (.bool false))),m 24 23,w 25 (.fieldAddr 59 (t 2) 2) 24 true,w 26 (.load 38 (t 25)) 24
 true,w 27 (.fieldAddr 59 (t 3) 2) 24 true,w 28 (.load 38 (t 27)) 24 true,w 29 (.call ⟨.value (.func 104),#[t 26,t 28],#[38,38]⟩) 24 true,d 30 (.pick (t 24) (t
 29) (.const (.bool false))),m 31 30,w 32 (.fieldAddr 59 (t 2) 4) 31 true,w 33 (.load 49 (t 32)) 31 true,w 34 (.fieldAddr 59 (t 3) 4) 31 true,w 35 (.load 49 (t
 34)) 31 true,w 36 (.call ⟨.value (.func 105),#[t 33,t 35],#[49,49]⟩) 31 true,d 37 (.pick (t 31) (t 36) (.const (.bool false))),a 4 37] .ret) }).1
theorem calls76 (hn : args.length = 2) (h : avc Tryz.prog G 38 pc76 (afin Tryz.prog [.tmp 4] R) (frame0 args) σ) : ACalls Tryz.prog G 76 args σ R :=
  acalls' (n := 38) (l := [.tmp 4]) mixed Tryz.func76 (by kernel_rfl) (by kernel_rfl) (by kernel_rfl) (by omega) h
def pc77 : PC := (⟨_, by delta A S a b i m t; exact rfl⟩ : { p : PC // p = S [A 2 (i 0)] (S [m 3 0,b 4 .mul 3 (i 13) (t 3) 3,b 5 .add 3 (i 7001) (t 4) 3,a 2 5]
 .ret) }).1
theorem calls77 (hn : args.length = 1) (h : avc Tryz.prog G 6 pc77 (afin Tryz.prog [.tmp 2] R) (frame0 args) σ) : ACalls Tryz.prog G 77 args σ R :=
  acalls' (n := 6) (l := [.tmp 2]) mixed Tryz.func77 (by kernel_rfl) (by kernel_rfl) (by kernel_rfl) (by omega) h
def pc78 : PC := (⟨_, by delta S b d i m s t; exact rfl⟩ : { p : PC // p = S [d 2 (.alloc 73)] (S [m 3 0,b 4 .sub 3 (i (-9)) (t 3) 3,d 5 (.build 73 #[(0,t
 4)]),s 73 2 5] .ret) }).1
theorem calls78 (hn : args.length = 1) (h : avc Tryz.prog G 6 pc78 (afin Tryz.prog [.cell 2 73] R) (frame0 args) σ) : ACalls Tryz.prog G 78 args σ R :=
  acalls' (n := 6) (l := [.cell 2 73]) mixed Tryz.func78 (by kernel_rfl) (by kernel_rfl) (by kernel_rfl) (by omega) h
def pc79 : PC := (⟨_, by delta A S a b d i m t; exact rfl⟩ : { p : PC // p = S [A 2 (.const (.slice none 0 0))] (S [m 3 0,b 4 .add 3 (i 99) (t 3) 3,d 5 (.build
 73 #[(0,t 4)]),d 6 (.buildSlice 61 1 #[(0,t 5)]),a 2 6] .ret) }).1
theorem calls79 (hn : args.length = 1) (h : avc Tryz.prog G 7 pc79 (afin Tryz.prog [.tmp 2] R) (frame0 args) σ) : ACalls Tryz.prog G 79 args σ R :=
  acalls' (n := 7) (l := [.tmp 2]) mixed Tryz.func79 (by kernel_rfl) (by kernel_rfl) (by kernel_rfl) (by omega) h
def pc80 : PC := (⟨_, by delta S b d i m s t; exact rfl⟩ : { p : PC // p = S [d 2 (.alloc 59)] (S [m 3 0,b 4 .sub 3 (i (-9)) (t 3) 3,d 5 (.build 59 #[(3,t
 4)]),s 59 2 5] .ret) }).1
theorem calls80 (hn : args.length = 1) (h : avc Tryz.prog G 6 pc80 (afin Tryz.prog [.cell 2 59] R) (frame0 args) σ) : ACalls Tryz.prog G 80 args σ R :=
  acalls' (n := 6) (l := [.cell 2 59]) mixed Tryz.func80 (by kernel_rfl) (by kernel_rfl) (by kernel_rfl) (by omega) h
def pc81_l1 : PC := (⟨_, by delta C S a b d i l m t x; exact rfl⟩ : { p : PC // p = S [b 12 .lss 3 (t 11) (t 10) 3] (.seq (C 12 .skip (.exit 0)) (.seq (.block 1
 (S [x 13 38 9 11,l 14 3 13,a 5 14] (.ops [m 15 3,m 16 5,b 17 .sub 3 (i 128) (t 16) 3,d 18 (.convert 3 5 (t 17)),d 19 (.buildSlice 22 1 #[(0,t 18)]),d 20 (.call
 ⟨.builtin .append,#[t 15,t 19],#[22,22]⟩),a 3 20]))) (.ops [b 21 .add 3 (t 11) (i 1) 3,m 11 21]))) }).1
def pc81_r1 : PC := (⟨_, by delta S a m; exact rfl⟩ : { p : PC // p = S [m 22 3,a 2 22] .ret }).1
def pc81 : PC := (⟨_, by delta A L S a c d i m t; exact rfl⟩ : { p : PC // p = S [A 2 (.const (.slice none 0 0))] (S [m 6 0,L 7 6 38,c 8 15 #[t 7] #[3],a 3 8]
 (.seq (S [m 9 0,L 10 9 38,d 11 (.move (i 0))] (.block 0 (.loop pc81_l1))) pc81_r1)) }).1
theorem calls81 (hn : args.length = 1) (h : avc Tryz.prog G 23 pc81 (afin Tryz.prog [.tmp 2] R) (frame0 args) σ) : ACalls Tryz.prog G 81 args σ R :=
  acalls' (n := 23) (l := [.tmp 2]) mixed Tryz.func81 (by kernel_rfl) (by kernel_rfl) (by kernel_rfl) (by omega) h
def pc82 : PC := (⟨_, by delta A C S a b c d i m t; exact rfl⟩ : { p : PC // p = S [A 2 (.const (.slice none 0 0))] (.seq (S [m 3 0,b 4 .eql 3 (t 3) (i 0) 3] (C
 4 (S [c 5 81 #[.const (.slice none 0 0)] #[38],a 2 5] .ret) .skip)) (S [m 6 0,d 7 (.buildSlice 38 1 #[(0,t 6)]),c 8 81 #[t 7] #[38],a 2 8] .ret)) }).1
theorem calls82 (hn : args.length = 1) (h : avc Tryz.prog G 9 pc82 (afin Tryz.prog [.tmp 2] R) (frame0 args) σ) : ACalls Tryz.prog G 82 args σ R :=
  acalls' (n := 9) (l := [.tmp 2]) mixed Tryz.func82 (by kernel_rfl) (by kernel_rfl) (by kernel_rfl) (by omega) h
def pc83 : PC := (⟨_, by delta A C L S a b d e i m t; exact rfl⟩ : { p : PC // p = S [A 4 (.const (.slice none 0 0))] (.seq (S [m 5 1,b 6 .lss 3 (t 5) (i 0) 3]
 (C 6 (.ops [d 7 (.makeInterface 9 (.const (.string ⟨#[99,97,110,110,111,116,32,98,101,32,110,101,103,97,116,105,118,101]⟩))),e (.panic (t 7))]) .skip)) (.seq
 (S [m 8 1,m 9 0,d 10 (.call ⟨.builtin .cap,#[t 9],#[22]⟩),m 11 0,L 12 11 22,b 13 .sub 3 (t 10) (t 12) 3,b 14 .sub 3 (t 8) (t 13) 3,a 1 14] (S [m 15 1,b 16 .gtr
 3 (t 15) (i 0) 3] (C 16 (.ops [m 17 0,m 18 0,d 19 (.call ⟨.builtin .cap,#[t 18],#[22]⟩),d 20 (.slice 22 (t 17) none (some (t 19)) none),m 21 1,d 22 (.call
 ⟨.builtin .append,#[t 20,t 21],#[22,3]⟩),m 23 0,L 24 23 22,d 25 (.slice 22 (t 22) none (some (t 24)) none),a 0 25]) .skip))) (S [m 26 0,a 4 26] .ret))) }).1
theorem calls83 (hn : args.length = 2) (h : avc Tryz.prog G 27 pc83 (afin Tryz.prog [.tmp 4] R) (frame0 args) σ) : ACalls Tryz.prog G 83 args σ R :=
  acalls' (n := 27) (l := [.tmp 4]) mixed Tryz.func83 (by kernel_rfl) (by kernel_rfl) (by kernel_rfl) (by omega) h
def pc84_l1 : PC := (⟨_, by delta C S a b d f i l m s t w; exact rfl⟩ : { p : PC // p = S [d 41 (.next (t 40) false),d 42 (.extract (t 41) 0)] (.seq (C 42 .skip
 (.exit 2)) (.block 3 (S [d 43 (.entry (t 40)),d 44 (.extract (t 43) 0),d 45 (.extract (t 43) 1),d 7 (.alloc 73),a 6 44,s 73 7 45] (S [f 46 73 7 0,l 47 3 46,f
 48 73 1 0,l 49 3 48,b 50 .eql 3 (t 47) (t 49) 3,m 51 50,w 52 (.fieldAddr 73 (t 7) 2) 51 true,w 53 (.load 3 (t 52)) 51 true,w 54 (.move (t 3)) 51 true,w 55
 (.binOp .eql 3 (t 53) (t 54) 3) 51 true,d 56 (.pick (t 51) (t 55) (.const (.bool false))),m 57 56,w 58 (.fieldAddr 73 (t 7) 1) 57 true,w 59 (.load 3 (t 58)) 57
 true,w 60 (.binOp .eql 3 (t 59) (i 0) 3) 57 true,w 61 (.move (t 60)) 57 true,w 62 (.fieldAddr 73 (t 7) 1) 61 false,w 63 (.load 3 (t 62)) 61 false,w 64
 (.fieldAddr 73 (t 1) 1) 61 false,w 65 (.load 3 (t 64)) 61 false,w 66 (.binOp .eql 3 (t 63) (t 65) 3) 61 false,w 67 (.pick (t 61) (.const (.bool true)) (t 66))
 57 true,d 68 (.pick (t 57) (t 67) (.const (.bool false)))] (C 68 (S [m 69 6,a 2 69] .ret) .skip))))) }).1
def pc84_r1 : PC := (⟨_, by delta b i m t; exact rfl⟩ : { p : PC // p = .ops [b 70 .add 3 (t 35) (i 1) 3,m 35 70] }).1
def pc84_l2 : PC := (⟨_, by delta C S a b d l m t x; exact rfl⟩ : { p : PC // p = S [b 36 .lss 3 (t 35) (t 34) 3] (.seq (C 36 .skip (.exit 0)) (.seq (.block 1
 (S [x 37 126 33 35,l 38 125 37,a 5 38] (S [m 39 5,d 40 (.range 125 (t 39))] (.block 2 (.loop pc84_l1))))) pc84_r1)) }).1
def pc84_r2 : PC := (⟨_, by delta A S; exact rfl⟩ : { p : PC // p = S [A 2 (.const (.int .u8 0))] .ret }).1
def pc84 : PC := (⟨_, by delta A C L S a b d f i l m t w; exact rfl⟩ : { p : PC // p = S [d 1 (.box 73 (t 0)),A 2 (.const (.int .u8 0))] (.seq (S [f 8 73 1 0,l
 9 3 8,b 10 .eql 3 (t 9) (i 4) 3] (C 10 (S [f 11 73 1 1,l 12 3 11,b 13 .sub 3 (t 12) (i 1) 3,d 14 (.indexAddr 122 (.global 0) (t 13)),l 15 9 14,f 17 73 1 5,l 18
 9 17,⟨some 16,.call ⟨.value (.func 107),#[.const (.string
 ⟨#[97,100,100,32,115,117,98,32,109,117,108,32,100,105,118,95,115,32,114,101,109,95,115,32,97,110,100,32,111,114,32,120,111,114,32,115,104,108,32,115,104,114,95,115,32,101,113,32,110,101,32,108,116,95,115,32,103,116,95,115,32,108,101,95,115,32,103,101,95,115]⟩)],#[9]⟩,none,[⟨none,3,t
 11,12⟩,⟨none,9,t 14,15⟩,⟨none,9,t 17,18⟩]⟩,⟨some 19,.call ⟨.value (.func 106),#[t 16,t 18],#[66,9]⟩,none,[⟨none,3,t 11,12⟩,⟨none,9,t 14,15⟩]⟩,d 20 (.index 9 (t
 15) (t 19)),a 2 20] .ret) .skip)) (S [f 21 73 1 2,l 22 3 21,a 3 22] (.seq (S [f 23 73 1 0,l 24 3 23,b 25 .neq 3 (t 24) (i 8) 3,m 26 25,w 27 (.fieldAddr 73 (t
 1) 0) 26 true,w 28 (.load 3 (t 27)) 26 true,w 29 (.binOp .neq 3 (t 28) (i 9) 3) 26 true,d 30 (.pick (t 26) (t 29) (.const (.bool false)))] (C 30 (.ops [A 3 (i
 0)]) .skip)) (.seq (S [d 31 (.load 125 (.global 1)),d 32 (.load 125 (.global 2)),d 33 (.buildSlice 126 2 #[(0,t 31),(1,t 32)]),L 34 33 126,d 35 (.move (i 0))]
 (.block 0 (.loop pc84_l2))) pc84_r2)))) }).1
theorem calls84 (hn : args.length = 1) (h : avc Tryz.prog G 71 pc84 (afin Tryz.prog [.tmp 2] R) (frame0 args) σ) : ACalls Tryz.prog G 84 args σ R :=
  acalls' (n := 71) (l := [.tmp 2]) mixed Tryz.func84 (by kernel_rfl) (by kernel_rfl) (by kernel_rfl) (by omega) h
def pc91_l1 : PC := (⟨_, by delta C L S a b c d i l m t x; exact rfl⟩ : { p : PC // p = .seq (S [m 8 4,m 9 0,L 10 9 38,b 11 .lss 3 (t 8) (t 10) 3] (C 11 .skip
 (.exit 0))) (.seq (.block 1 (.ops [m 14 3,m 15 0,m 16 4,x 17 38 15 16,l 18 3 17,c 19 92 #[t 18] #[3],d 20 (.buildSlice 22 1 #[(0,t 19)]),d 21 (.call ⟨.builtin
 .append,#[t 14,t 20],#[22,22]⟩),a 3 21])) (.ops [m 12 4,b 13 .add 3 (t 12) (i 1) 3,a 4 13])) }).1
def pc91_r1 : PC := (⟨_, by delta S a m; exact rfl⟩ : { p : PC // p = S [m 22 3,a 2 22] .ret }).1
def pc91 : PC := (⟨_, by delta A L S a c i m t; exact rfl⟩ : { p : PC // p = S [A 2 (.const (.slice none 0 0))] (S [m 5 0,L 6 5 38,c 7 25 #[t 6] #[3],a 3 7]
 (.seq (S [A 4 (i 0)] (.block 0 (.loop pc91_l1))) pc91_r1)) }).1
theorem calls91 (hn : args.length = 1) (h : avc Tryz.prog G 23 pc91 (afin Tryz.prog [.tmp 2] R) (frame0 args) σ) : ACalls Tryz.prog G 91 args σ R :=
  acalls' (n := 23) (l := [.tmp 2]) mixed Tryz.func91 (by kernel_rfl) (by kernel_rfl) (by kernel_rfl) (by omega) h
def pc92 : PC := (⟨_, by delta A C S b i m t; exact rfl⟩ : { p : PC // p = S [A 2 (.const (.int .u8 0))] (.seq (S [m 3 0,b 4 .eql 3 (t 3) (i 2) 3] (C 4 (S [A 2
 (.const (.int .u8 126))] .ret) .skip)) (S [A 2 (.const (.int .u8 127))] .ret)) }).1
theorem calls92 (hn : args.length = 1) (h : avc Tryz.prog G 5 pc92 (afin Tryz.prog [.tmp 2] R) (frame0 args) σ) : ACalls Tryz.prog G 92 args σ R :=
  acalls' (n := 5) (l := [.tmp 2]) mixed Tryz.func92 (by kernel_rfl) (by kernel_rfl) (by kernel_rfl) (by omega) h
def pc93_l1 : PC := (⟨_, by delta C L S a b d f i l m t w x; exact rfl⟩ : { p : PC // p = .seq (S [m 19 6,m 20 3,L 21 20 66,b 22 .lss 3 (t 19) (t 21) 3] (C 22
 .skip (.exit 0))) (.seq (.block 1 (.seq (S [m 25 3,m 26 6,x 27 66 25 26,l 28 9 27,f 29 73 1 5,l 30 9 29,b 31 .eql 9 (t 28) (t 30) 9,m 32 31,w 33 (.fieldAddr 73
 (t 1) 1) 32 true,w 34 (.load 3 (t 33)) 32 true,w 35 (.binOp .eql 3 (t 34) (i 1) 3) 32 true,d 36 (.pick (t 32) (t 35) (.const (.bool false)))] (C 36 (S [m 37
 4,m 38 6,x 39 38 37 38,l 40 3 39,d 41 (.convert 3 5 (t 40)),d 42 (.buildSlice 22 1 #[(0,t 41)]),a 2 42] .ret) .skip)) (S [m 43 3,m 44 6,x 45 66 43 44,l 46 9
 45,f 47 73 1 5,l 48 9 47,b 49 .eql 9 (t 46) (t 48) 9] (C 49 (S [m 50 5,m 51 6,x 52 38 50 51,l 53 3 52,d 54 (.convert 3 5 (t 53)),d 55 (.buildSlice 22 1 #[(0,t
 54)]),a 2 55] .ret) .skip)))) (.ops [m 23 6,b 24 .add 3 (t 23) (i 1) 3,a 6 24])) }).1
def pc93_l2 : PC := (⟨_, by delta C L S a b c d f i l m s t w x; exact rfl⟩ : { p : PC // p = .seq (S [m 57 8,m 58 7,L 59 58 139,b 60 .lss 3 (t 57) (t 59) 3] (C
 60 .skip (.exit 2))) (.seq (.block 3 (S [m 63 7,m 64 8,x 65 139 63 64,f 66 142 65 1,l 67 73 66,d 9 (.alloc 73),s 73 9 67] (.seq (S [f 68 73 9 0,l 69 3 68,f 70
 73 1 0,l 71 3 70,b 72 .neq 3 (t 69) (t 71) 3,m 73 72,w 74 (.fieldAddr 73 (t 9) 1) 73 false,w 75 (.load 3 (t 74)) 73 false,w 76 (.binOp .neq 3 (t 75) (i 0) 3)
 73 false,w 77 (.move (t 76)) 73 false,w 78 (.fieldAddr 73 (t 9) 1) 77 true,w 79 (.load 3 (t 78)) 77 true,w 80 (.fieldAddr 73 (t 1) 1) 77 true,w 81 (.load 3 (t
 80)) 77 true,w 82 (.binOp .neq 3 (t 79) (t 81) 3) 77 true,w 83 (.pick (t 77) (t 82) (.const (.bool false))) 73 false,d 84 (.pick (t 73) (.const (.bool true))
 (t 83)),m 85 84,w 86 (.move (t 8)) 85 false,w 87 (.binOp .geq 3 (t 86) (i 14) 3) 85 false,w 88 (.move (t 87)) 85 false,w 89 (.fieldAddr 73 (t 9) 2) 88 true,w
 90 (.load 3 (t 89)) 88 true,w 91 (.fieldAddr 73 (t 1) 2) 88 true,w 92 (.load 3 (t 91)) 88 true,w 93 (.binOp .neq 3 (t 90) (t 92) 3) 88 true,w 94 (.pick (t 88)
 (t 93) (.const (.bool false))) 85 false,d 95 (.pick (t 85) (.const (.bool true)) (t 94))] (C 95 (.exit 3) .skip)) (S [m 96 7,m 97 8,x 98 139 96 97,f 99 142 98
 0,l 100 3 99,d 101 (.convert 3 5 (t 100)),d 102 (.buildSlice 22 1 #[(0,t 101)]),a 10 102] (.seq (S [m 103 8,b 104 .geq 3 (t 103) (i 14) 3] (C 104 (S [m 105
 10,d 106 (.buildSlice 22 2 #[(0,.const (.int .u8 0)),(1,.const (.int .u8 0))]),d 107 (.call ⟨.builtin .append,#[t 105,t 106],#[22,22]⟩),a 2 107] .ret) .skip))
 (.seq (S [f 108 73 1 0,l 109 3 108,b 110 .eql 3 (t 109) (i 1) 3] (C 110 (S [m 111 10,f 112 73 1 2,l 113 3 112,c 114 23 #[t 113] #[3],d 115 (.call ⟨.builtin
 .append,#[t 111,t 114],#[22,22]⟩),a 2 115] .ret) .skip)) (.seq (S [m 116 8,b 117 .geq 3 (t 116) (i 7) 3] (C 117 (S [m 118 10,f 119 73 1 2,l 120 3 119,c 121 25
 #[t 120] #[3],d 122 (.call ⟨.builtin .append,#[t 118,t 121],#[22,22]⟩),a 2 122] .ret) .skip)) (S [m 123 10,a 2 123] .ret)))))))) (.ops [m 61 8,b 62 .add 3 (t
 61) (i 1) 3,a 8 62])) }).1
def pc93_r1 : PC := (⟨_, by delta A S; exact rfl⟩ : { p : PC // p = S [A 2 (.const (.slice none 0 0))] .ret }).1
def pc93_r2 : PC := (⟨_, by delta A S a c i; exact rfl⟩ : { p : PC // p = S [c 56 116 #[] #[],a 7 56] (.seq (S [A 8 (i 0)] (.block 2 (.loop pc93_l2))) pc93_r1)
 }).1
def pc93 : PC := (⟨_, by delta A C S a b c d f i l m t; exact rfl⟩ : { p : PC // p = S [d 1 (.box 73 (t 0)),A 2 (.const (.slice none 0 0))] (.seq (S [f 11 73 1
 0,l 12 3 11,b 13 .eql 3 (t 12) (i 4) 3] (C 13 (S [c 15 115 #[] #[],m 14 15,d 16 (.extract (t 14) 0),d 17 (.extract (t 14) 1),d 18 (.extract (t 14) 2),a 3 16,a
 4 17,a 5 18] (S [A 6 (i 0)] (.block 0 (.loop pc93_l1)))) .skip)) pc93_r2) }).1
theorem calls93 (hn : args.length = 1) (h : avc Tryz.prog G 124 pc93 (afin Tryz.prog [.tmp 2] R) (frame0 args) σ) : ACalls Tryz.prog G 93 args σ R :=
  acalls' (n := 124) (l := [.tmp 2]) mixed Tryz.func93 (by kernel_rfl) (by kernel_rfl) (by kernel_rfl) (by omega) h
def pc94_l1 : PC := (⟨_, by delta C S a b c d i l m t; exact rfl⟩ : { p : PC // p = S [b 6 .lss 3 (t 5) (t 4) 3] (.seq (C 6 .skip (.exit 0)) (.seq (.block 1
 (.ops [m 7 2,m 8 0,c 9 57 #[t 8,i 1] #[48,3],d 10 (.indexAddr 22 (t 9) (i 0)),l 11 5 10,d 12 (.convert 5 3 (t 11)),b 13 .sub 3 (i 128) (t 12) 3,d 14
 (.buildSlice 38 1 #[(0,t 13)]),d 15 (.call ⟨.builtin .append,#[t 7,t 14],#[38,38]⟩),a 2 15])) (.ops [b 16 .add 3 (t 5) (i 1) 3,m 5 16]))) }).1
def pc94_r1 : PC := (⟨_, by delta S a m; exact rfl⟩ : { p : PC // p = S [m 17 2,a 2 17] .ret }).1
def pc94 : PC := (⟨_, by delta A S c d i m t; exact rfl⟩ : { p : PC // p = S [A 2 (.const (.slice none 0 0))] (.seq (S [m 3 0,c 4 60 #[t 3,.const (.bool false)]
 #[48,4],d 5 (.move (i 0))] (.block 0 (.loop pc94_l1))) pc94_r1) }).1
theorem calls94 (hn : args.length = 1) (h : avc Tryz.prog G 18 pc94 (afin Tryz.prog [.tmp 2] R) (frame0 args) σ) : ACalls Tryz.prog G 94 args σ R :=
  acalls' (n := 18) (l := [.tmp 2]) mixed Tryz.func94 (by kernel_rfl) (by kernel_rfl) (by kernel_rfl) (by omega) h
def pc95_l1 : PC := (⟨_, by delta C L S a b d m t; exact rfl⟩ : { p : PC // p = .seq (S [m 34 8,m 35 7,L 36 35 38,b 37 .lss 3 (t 34) (t 36) 3] (C 37 .skip
 (.exit 0))) (.block 1 (.ops [m 38 8,m 39 7,m 40 8,d 41 (.slice 38 (t 39) (some (t 40)) none none),m 42 7,m 43 8,d 44 (.slice 38 (t 42) none (some (t 43))
 none),d 45 (.call ⟨.builtin .copy,#[t 41,t 44],#[38,38]⟩),b 46 .add 3 (t 38) (t 45) 3,a 8 46])) }).1
def pc95_r1 : PC := (⟨_, by delta S a m; exact rfl⟩ : { p : PC // p = S [m 47 7,a 4 47] .ret }).1
def pc95 : PC := (⟨_, by delta A C L S a b c d e i m t w; exact rfl⟩ : { p : PC // p = S [A 4 (.const (.slice none 0 0))] (.seq (S [m 9 1,b 10 .lss 3 (t 9) (i
 0) 3] (C 10 (.ops [d 11 (.makeInterface 9 (.const (.string ⟨#[99,97,110,110,111,116,32,98,101,32,110,101,103,97,116,105,118,101]⟩))),e (.panic (t 11))])
 .skip)) (S [m 13 0,L 14 13 38,d 15 (.convert 3 41 (t 14)),m 16 1,d 17 (.convert 3 41 (t 16)),c 18 117 #[t 15,t 17] #[41,41],m 12 18,d 19 (.extract (t 12) 0),d
 20 (.extract (t 12) 1),a 5 19,a 6 20] (.seq (S [m 21 5,b 22 .gtr 41 (t 21) (.const (.int .u64 0)) 41,m 23 22,w 24 (.move (t 6)) 23 false,w 25 (.binOp .gtr 41
 (t 24) (.const (.int .u64 9223372036854775807)) 41) 23 false,d 26 (.pick (t 23) (.const (.bool true)) (t 25))] (C 26 (.ops [d 27 (.makeInterface 9 (.const
 (.string
 ⟨#[116,104,101,32,114,101,115,117,108,116,32,111,102,32,40,108,101,110,40,120,41,32,42,32,99,111,117,110,116,41,32,111,118,101,114,102,108,111,119,115]⟩))),e
 (.panic (t 27))]) .skip)) (S [m 28 6,d 29 (.convert 41 3 (t 28)),d 30 (.makeSlice 38 (t 29) (t 29)),a 7 30] (S [m 31 7,m 32 0,d 33 (.call ⟨.builtin .copy,#[t
 31,t 32],#[38,38]⟩),a 8 33] (.seq (.block 0 (.loop pc95_l1)) pc95_r1)))))) }).1
theorem calls95 (hn : args.length = 2) (h : avc Tryz.prog G 48 pc95 (afin Tryz.prog [.tmp 4] R) (frame0 args) σ) : ACalls Tryz.prog G 95 args σ R :=
  acalls' (n := 48) (l := [.tmp 4]) mixed Tryz.func95 (by kernel_rfl) (by kernel_rfl) (by kernel_rfl) (by omega) h
def pc96_l1 : PC := (⟨_, by delta C L S a b c d f i l m n s t w; exact rfl⟩ : { p : PC // p = .block 1 (S [m 8 0,c 9 57 #[t 8,i 1] #[48,3],d 10 (.indexAddr 22
 (t 9) (i 0)),l 11 5 10,a 7 11] (.seq (S [m 12 7,b 13 .eql 5 (t 12) (.const (.int .u8 11)) 5,m 14 13,w 15 (.move (t 7)) 14 false,w 16 (.binOp .eql 5 (t 15)
 (.const (.int .u8 5)) 5) 14 false,d 17 (.pick (t 14) (.const (.bool true)) (t 16))] (C 17 (S [m 18 0,m 19 0,n 20 19,f 21 51 20 1,l 22 49 21,m 23 6,d 24
 (.buildSlice 49 1 #[(0,t 23)]),d 25 (.call ⟨.builtin .append,#[t 22,t 24],#[49,49]⟩),n 26 18,f 27 51 26 1,s 49 27 25] (S [m 28 0,n 29 28,f 30 51 29 1,l 31 49
 30,L 32 31 49,b 33 .sub 3 (t 32) (i 1) 3,m 34 7,a 4 33,a 5 34] .ret)) .skip)) (.ops [m 35 6,m 36 0,m 37 7,m 38 1,c 39 118 #[t 36,t 37,t 38] #[48,5,3],d 40
 (.buildSlice 61 1 #[(0,t 39)]),d 41 (.call ⟨.builtin .append,#[t 35,t 40],#[61,61]⟩),a 6 41]))) }).1
def pc96 : PC := (⟨_, by delta A S i; exact rfl⟩ : { p : PC // p = S [A 4 (i 0),A 5 (.const (.int .u8 0))] (S [A 6 (.const (.slice none 0 0))] (.block 0 (.loop
 pc96_l1))) }).1
theorem calls96 (hn : args.length = 2) (h : avc Tryz.prog G 42 pc96 (afin Tryz.prog [.tmp 4, .tmp 5] R) (frame0 args) σ) : ACalls Tryz.prog G 96 args σ R :=
  acalls' (n := 42) (l := [.tmp 4, .tmp 5]) mixed Tryz.func96 (by kernel_rfl) (by kernel_rfl) (by kernel_rfl) (by omega) h
def pc97_l1 : PC := (⟨_, by delta C S a b d i l m t x; exact rfl⟩ : { p : PC // p = S [b 9 .lss 3 (t 8) (t 7) 3] (.seq (C 9 .skip (.exit 0)) (.seq (.block 1 (S
 [m 10 8,a 5 10] (S [m 11 1,m 12 0,m 13 5,x 14 25 12 13,l 15 59 14,d 16 (.call ⟨.value (t 11),#[t 15],#[59]⟩)] (C 16 (S [m 17 5,a 4 17] .ret) .skip)))) (.ops [b
 18 .add 3 (t 8) (i 1) 3,m 8 18]))) }).1
def pc97_r1 : PC := (⟨_, by delta A S i; exact rfl⟩ : { p : PC // p = S [A 4 (i (-1))] .ret }).1
def pc97 : PC := (⟨_, by delta A L S d i m; exact rfl⟩ : { p : PC // p = S [A 4 (i 0)] (.seq (S [m 6 0,L 7 6 25,d 8 (.move (i 0))] (.block 0 (.loop pc97_l1)))
 pc97_r1) }).1
theorem calls97 (hn : args.length = 2) (h : avc Tryz.prog G 19 pc97 (afin Tryz.prog [.tmp 4] R) (frame0 args) σ) : ACalls Tryz.prog G 97 args σ R :=
  acalls' (n := 19) (l := [.tmp 4]) mixed Tryz.func97 (by kernel_rfl) (by kernel_rfl) (by kernel_rfl) (by omega) h
def pc98_l1 : PC := (⟨_, by delta C S a b d i l m t x; exact rfl⟩ : { p : PC // p = S [b 9 .lss 3 (t 8) (t 7) 3] (.seq (C 9 .skip (.exit 0)) (.seq (.block 1 (S
 [m 10 8,a 5 10] (S [m 11 1,m 12 0,m 13 5,x 14 38 12 13,l 15 3 14,d 16 (.call ⟨.value (t 11),#[t 15],#[3]⟩)] (C 16 (S [m 17 5,a 4 17] .ret) .skip)))) (.ops [b
 18 .add 3 (t 8) (i 1) 3,m 8 18]))) }).1
def pc98_r1 : PC := (⟨_, by delta A S i; exact rfl⟩ : { p : PC // p = S [A 4 (i (-1))] .ret }).1
def pc98 : PC := (⟨_, by delta A L S d i m; exact rfl⟩ : { p : PC // p = S [A 4 (i 0)] (.seq (S [m 6 0,L 7 6 38,d 8 (.move (i 0))] (.block 0 (.loop pc98_l1)))
 pc98_r1) }).1
theorem calls98 (hn : args.length = 2) (h : avc Tryz.prog G 19 pc98 (afin Tryz.prog [.tmp 4] R) (frame0 args) σ) : ACalls Tryz.prog G 98 args σ R :=
  acalls' (n := 19) (l := [.tmp 4]) mixed Tryz.func98 (by kernel_rfl) (by kernel_rfl) (by kernel_rfl) (by omega) h
def pc99_l1 : PC := (⟨_, by delta C S a b d i l m t x; exact rfl⟩ : { p : PC // p = S [b 9 .lss 3 (t 8) (t 7) 3] (.seq (C 9 .skip (.exit 0)) (.seq (.block 1 (S
 [m 10 8,a 5 10] (S [m 11 1,m 12 0,m 13 5,x 14 49 12 13,l 15 61 14,d 16 (.call ⟨.value (t 11),#[t 15],#[61]⟩)] (C 16 (S [m 17 5,a 4 17] .ret) .skip)))) (.ops [b
 18 .add 3 (t 8) (i 1) 3,m 8 18]))) }).1
def pc99_r1 : PC := (⟨_, by delta A S i; exact rfl⟩ : { p : PC // p = S [A 4 (i (-1))] .ret }).1
def pc99 : PC := (⟨_, by delta A L S d i m; exact rfl⟩ : { p : PC // p = S [A 4 (i 0)] (.seq (S [m 6 0,L 7 6 49,d 8 (.move (i 0))] (.block 0 (.loop pc99_l1)))
 pc99_r1) }).1
theorem calls99 (hn : args.length = 2) (h : avc Tryz.prog G 19 pc99 (afin Tryz.prog [.tmp 4] R) (frame0 args) σ) : ACalls Tryz.prog G 99 args σ R :=
  acalls' (n := 19) (l := [.tmp 4]) mixed Tryz.func99 (by kernel_rfl) (by kernel_rfl) (by kernel_rfl) (by omega) h
def pc100_l1 : PC := (⟨_, by delta C S a b d i l m t x; exact rfl⟩ : { p : PC // p = S [b 9 .lss 3 (t 8) (t 7) 3] (.seq (C 9 .skip (.exit 0)) (.seq (.block 1 (S
 [m 10 8,a 5 10] (S [m 11 1,m 12 0,m 13 5,x 14 61 12 13,l 15 73 14,d 16 (.call ⟨.value (t 11),#[t 15],#[73]⟩)] (C 16 (S [m 17 5,a 4 17] .ret) .skip)))) (.ops [b
 18 .add 3 (t 8) (i 1) 3,m 8 18]))) }).1
def pc100_r1 : PC := (⟨_, by delta A S i; exact rfl⟩ : { p : PC // p = S [A 4 (i (-1))] .ret }).1
def pc100 : PC := (⟨_, by delta A L S d i m; exact rfl⟩ : { p : PC // p = S [A 4 (i 0)] (.seq (S [m 6 0,L 7 6 61,d 8 (.move (i 0))] (.block 0 (.loop pc100_l1)))
 pc100_r1) }).1
theorem calls100 (hn : args.length = 2) (h : avc Tryz.prog G 19 pc100 (afin Tryz.prog [.tmp 4] R) (frame0 args) σ) : ACalls Tryz.prog G 100 args σ R :=
  acalls' (n := 19) (l := [.tmp 4]) mixed Tryz.func100 (by kernel_rfl) (by kernel_rfl) (by kernel_rfl) (by omega) h
def pc101_l1 : PC := (⟨_, by delta C S a b c d i m t w; exact rfl⟩ : { p : PC // p = .seq (S [m 8 5,m 9 4,b 10 .lss 3 (t 8) (t 9) 3,m 11 10,w 12 (.move (t 0))
 11 true,w 13 (.nilCheck (t 12)) 11 true,w 14 (.fieldAddr 55 (t 13) 2) 11 true,w 15 (.load 4 (t 14)) 11 true,w 16 (.unOp .not 4 (t 15)) 11 true,d 17 (.pick (t
 11) (t 16) (.const (.bool false)))] (C 17 .skip (.exit 0))) (.seq (.block 1 (.ops [m 20 3,m 21 0,c 22 102 #[t 21] #[53],d 23 (.buildSlice 38 1 #[(0,t 22)]),d
 24 (.call ⟨.builtin .append,#[t 20,t 23],#[38,38]⟩),a 3 24])) (.ops [m 18 5,b 19 .add 3 (t 18) (i 1) 3,a 5 19])) }).1
def pc101_r1 : PC := (⟨_, by delta S a m; exact rfl⟩ : { p : PC // p = S [m 25 3,a 2 25] .ret }).1
def pc101 : PC := (⟨_, by delta A S a c i m t; exact rfl⟩ : { p : PC // p = S [A 2 (.const (.slice none 0 0))] (S [A 3 (.const (.slice none 0 0))] (S [m 6 0,c 7
 74 #[t 6,.const (.bool false)] #[53,4],a 4 7] (.seq (S [A 5 (i 0)] (.block 0 (.loop pc101_l1))) pc101_r1))) }).1
theorem calls101 (hn : args.length = 1) (h : avc Tryz.prog G 26 pc101 (afin Tryz.prog [.tmp 2] R) (frame0 args) σ) : ACalls Tryz.prog G 101 args σ R :=
  acalls' (n := 26) (l := [.tmp 2]) mixed Tryz.func101 (by kernel_rfl) (by kernel_rfl) (by kernel_rfl) (by omega) h
def pc102 : PC := (⟨_, by delta A C S a b c d e f i m n t w; exact rfl⟩ : { p : PC // p = S [A 2 (i 0)] (S [m 4 0,c 5 73 #[t 4] #[53],a 3 5] (.seq (S [m 6 3,b 7
 .neq 3 (t 6) (i 126) 3,m 8 7,w 9 (.move (t 3)) 8 true,w 10 (.binOp .neq 3 (t 9) (i 127) 3) 8 true,d 11 (.pick (t 8) (t 10) (.const (.bool false)))] (C 11 (.ops
 [m 12 0,n 13 12,f 14 55 13 2,e (.store 4 (t 14) (.const (.bool true)))]) .skip)) (.seq (S [m 15 3,b 16 .eql 3 (t 15) (i 126) 3] (C 16 (S [A 2 (i 2)] .ret)
 .skip)) (S [A 2 (i 1)] .ret)))) }).1
theorem calls102 (hn : args.length = 1) (h : avc Tryz.prog G 17 pc102 (afin Tryz.prog [.tmp 2] R) (frame0 args) σ) : ACalls Tryz.prog G 102 args σ R :=
  acalls' (n := 17) (l := [.tmp 2]) mixed Tryz.func102 (by kernel_rfl) (by kernel_rfl) (by kernel_rfl) (by omega) h
def pc103_l1 : PC := (⟨_, by delta C L S a b c d e f i l m n s t w; exact rfl⟩ : { p : PC // p = .seq (S [m 18 0,n 19 18,f 20 55 19 2,l 21 4 20,d 22 (.unOp .not
 4 (t 21))] (C 22 .skip (.exit 0))) (.block 1 (S [m 23 0,c 24 73 #[t 23] #[53],a 7 24] (.seq (S [m 25 7,b 26 .eql 3 (t 25) (i 11) 3,m 27 26,w 28 (.move (t 7))
 27 false,w 29 (.binOp .eql 3 (t 28) (i 5) 3) 27 false,d 30 (.pick (t 27) (.const (.bool true)) (t 29))] (C 30 (S [m 31 0,m 32 0,n 33 32,f 34 55 33 3,l 35 49
 34,m 36 6,d 37 (.buildSlice 49 1 #[(0,t 36)]),d 38 (.call ⟨.builtin .append,#[t 35,t 37],#[49,49]⟩),n 39 31,f 40 55 39 3,s 49 40 38] (S [m 41 0,n 42 41,f 43 55
 42 3,l 44 49 43,L 45 44 49,b 46 .sub 3 (t 45) (i 1) 3,m 47 7,b 48 .eql 3 (t 47) (i 5) 3,a 4 46,a 5 48] .ret)) .skip)) (.seq (S [m 49 7,b 50 .lss 3 (t 49) (i 2)
 3,m 51 50,w 52 (.move (t 7)) 51 false,w 53 (.binOp .gtr 3 (t 52) (i 4) 3) 51 false,d 54 (.pick (t 51) (.const (.bool true)) (t 53))] (C 54 (S [m 55 6,m 56 0,m
 57 7,c 58 119 #[t 56,t 57] #[53,3],d 59 (.buildSlice 61 1 #[(0,t 58)]),d 60 (.call ⟨.builtin .append,#[t 55,t 59],#[61,61]⟩),a 6 60] (.exit 1)) .skip)) (S [m
 61 0,c 62 73 #[t 61] #[53]] (S [m 63 7,b 64 .add 3 (t 63) (i 9) 3,d 65 (.build 73 #[(0,t 64)]),d 8 (.alloc 73),s 73 8 65] (S [m 67 0,m 68 1,b 69 .add 3 (t 68)
 (i 1) 3,c 70 103 #[t 67,t 69] #[53,3],m 66 70,d 71 (.extract (t 66) 0),d 72 (.extract (t 66) 1),a 9 71,a 10 72] (S [m 73 9,f 74 73 8 3,s 3 74 73] (.seq (S [m
 75 7,b 76 .eql 3 (t 75) (i 4) 3] (C 76 (S [f 77 73 8 4,e (.store 3 (t 77) (i (-1)))] (S [m 78 10] (C 78 (S [m 80 0,m 81 1,b 82 .add 3 (t 81) (i 1) 3,c 83 103
 #[t 80,t 82] #[53,3],m 79 83,d 84 (.extract (t 79) 0),d 85 (.extract (t 79) 1),a 11 84,a 12 85] (.ops [m 86 11,f 87 73 8 4,s 3 87 86])) .skip))) .skip)) (.ops
 [m 88 6,l 89 73 8,d 90 (.buildSlice 61 1 #[(0,t 89)]),d 91 (.call ⟨.builtin .append,#[t 88,t 90],#[61,61]⟩),a 6 91])))))))))) }).1
def pc103_r1 : PC := (⟨_, by delta A S i; exact rfl⟩ : { p : PC // p = S [A 4 (i 0),A 5 (.const (.bool false))] .ret }).1
def pc103 : PC := (⟨_, by delta A C S b e f i m n t; exact rfl⟩ : { p : PC // p = S [A 4 (i 0),A 5 (.const (.bool false))] (.seq (S [m 13 1,b 14 .gtr 3 (t 13)
 (i 400) 3] (C 14 (.ops [m 15 0,n 16 15,f 17 55 16 2,e (.store 4 (t 17) (.const (.bool true)))]) .skip)) (S [A 6 (.const (.slice none 0 0))] (.seq (.block 0
 (.loop pc103_l1)) pc103_r1))) }).1
theorem calls103 (hn : args.length = 2) (h : avc Tryz.prog G 92 pc103 (afin Tryz.prog [.tmp 4, .tmp 5] R) (frame0 args) σ) : ACalls Tryz.prog G 103 args σ R :=
  acalls' (n := 92) (l := [.tmp 4, .tmp 5]) mixed Tryz.func103 (by kernel_rfl) (by kernel_rfl) (by kernel_rfl) (by omega) h
def pc104_l1 : PC := (⟨_, by delta A C L S a b d i l m t x; exact rfl⟩ : { p : PC // p = .seq (S [m 11 5,m 12 0,L 13 12 38,b 14 .lss 3 (t 11) (t 13) 3] (C 14
 .skip (.exit 0))) (.seq (.block 1 (S [m 17 0,m 18 5,x 19 38 17 18,l 20 3 19,m 21 1,m 22 5,x 23 38 21 22,l 24 3 23,b 25 .eql 3 (t 20) (t 24) 3,d 26 (.unOp .not
 4 (t 25))] (C 26 (S [A 4 (.const (.bool false))] .ret) .skip))) (.ops [m 15 5,b 16 .add 3 (t 15) (i 1) 3,a 5 16])) }).1
def pc104_r1 : PC := (⟨_, by delta A S; exact rfl⟩ : { p : PC // p = S [A 4 (.const (.bool true))] .ret }).1
def pc104 : PC := (⟨_, by delta A C L S b i m t; exact rfl⟩ : { p : PC // p = S [A 4 (.const (.bool false))] (.seq (S [m 6 0,L 7 6 38,m 8 1,L 9 8 38,b 10 .neq 3
 (t 7) (t 9) 3] (C 10 (S [A 4 (.const (.bool false))] .ret) .skip)) (.seq (S [A 5 (i 0)] (.block 0 (.loop pc104_l1))) pc104_r1)) }).1
theorem calls104 (hn : args.length = 2) (h : avc Tryz.prog G 27 pc104 (afin Tryz.prog [.tmp 4] R) (frame0 args) σ) : ACalls Tryz.prog G 104 args σ R :=
  acalls' (n := 27) (l := [.tmp 4]) mixed Tryz.func104 (by kernel_rfl) (by kernel_rfl) (by kernel_rfl) (by omega) h
def pc105_l1 : PC := (⟨_, by delta A C L S a b c d i l m t x; exact rfl⟩ : { p : PC // p = .seq (S [m 11 5,m 12 0,L 13 12 49,b 14 .lss 3 (t 11) (t 13) 3] (C 14
 .skip (.exit 0))) (.seq (.block 1 (S [m 17 0,m 18 5,x 19 49 17 18,l 20 61 19,m 21 1,m 22 5,x 23 49 21 22,l 24 61 23,c 25 120 #[t 20,t 24] #[61,61],d 26 (.unOp
 .not 4 (t 25))] (C 26 (S [A 4 (.const (.bool false))] .ret) .skip))) (.ops [m 15 5,b 16 .add 3 (t 15) (i 1) 3,a 5 16])) }).1
def pc105_r1 : PC := (⟨_, by delta A S; exact rfl⟩ : { p : PC // p = S [A 4 (.const (.bool true))] .ret }).1
def pc105 : PC := (⟨_, by delta A C L S b i m t; exact rfl⟩ : { p : PC // p = S [A 4 (.const (.bool false))] (.seq (S [m 6 0,L 7 6 49,m 8 1,L 9 8 49,b 10 .neq 3
 (t 7) (t 9) 3] (C 10 (S [A 4 (.const (.bool false))] .ret) .skip)) (.seq (S [A 5 (i 0)] (.block 0 (.loop pc105_l1))) pc105_r1)) }).1
theorem calls105 (hn : args.length = 2) (h : avc Tryz.prog G 27 pc105 (afin Tryz.prog [.tmp 4] R) (frame0 args) σ) : ACalls Tryz.prog G 105 args σ R :=
  acalls' (n := 27) (l := [.tmp 4]) mixed Tryz.func105 (by kernel_rfl) (by kernel_rfl) (by kernel_rfl) (by omega) h
def pc106_l1 : PC := (⟨_, by delta C S a b i l m t x; exact rfl⟩ : { p : PC // p = S [b 9 .lss 3 (t 8) (t 7) 3] (.seq (C 9 .skip (.exit 0)) (.seq (.block 1 (S
 [m 10 8,a 5 10] (S [m 11 1,m 12 0,m 13 5,x 14 66 12 13,l 15 9 14,b 16 .eql 9 (t 11) (t 15) 9] (C 16 (S [m 17 5,a 4 17] .ret) .skip)))) (.ops [b 18 .add 3 (t 8)
 (i 1) 3,m 8 18]))) }).1
def pc106_r1 : PC := (⟨_, by delta A S i; exact rfl⟩ : { p : PC // p = S [A 4 (i (-1))] .ret }).1
def pc106 : PC := (⟨_, by delta A L S d i m; exact rfl⟩ : { p : PC // p = S [A 4 (i 0)] (.seq (S [m 6 0,L 7 6 66,d 8 (.move (i 0))] (.block 0 (.loop pc106_l1)))
 pc106_r1) }).1
theorem calls106 (hn : args.length = 2) (h : avc Tryz.prog G 19 pc106 (afin Tryz.prog [.tmp 4] R) (frame0 args) σ) : ACalls Tryz.prog G 106 args σ R :=
  acalls' (n := 19) (l := [.tmp 4]) mixed Tryz.func106 (by kernel_rfl) (by kernel_rfl) (by kernel_rfl) (by omega) h
def pc107_l1 : PC := (⟨_, by delta C L S a b d i l m t; exact rfl⟩ : { p : PC // p = .seq (S [m 13 6,m 14 0,L 15 14 9,b 16 .lss 3 (t 13) (t 15) 3] (C 16 .skip
 (.exit 0))) (.seq (.block 1 (S [m 19 0,m 20 6,d 21 (.index 9 (t 19) (t 20)),a 7 21] (S [m 22 5,m 23 7,b 24 .or 5 (t 22) (t 23) 5,a 5 24] (S [m 25 7,d 26
 (.indexAddr 147 (.global 3) (t 25)),l 27 5 26,d 28 (.convert 5 3 (t 27)),a 8 28] (S [m 29 3,m 30 4,m 31 8,d 32 (.unOp .xor 3 (t 31)),b 33 .and 3 (t 30) (t 32)
 3,b 34 .add 3 (t 29) (t 33) 3,a 3 34] (.ops [m 35 8,a 4 35])))))) (.ops [m 17 6,b 18 .add 3 (t 17) (i 1) 3,a 6 18])) }).1
def pc107_l2 : PC := (⟨_, by delta C L S a b d i m t w; exact rfl⟩ : { p : PC // p = .seq (S [m 42 12,m 43 0,L 44 43 9,b 45 .lss 3 (t 42) (t 44) 3,m 46 45,w 47
 (.move (t 0)) 46 true,w 48 (.move (t 12)) 46 true,w 49 (.index 9 (t 47) (t 48)) 46 true,w 50 (.indexAddr 147 (.global 3) (t 49)) 46 true,w 51 (.load 5 (t 50))
 46 true,w 52 (.binOp .neq 5 (t 51) (.const (.int .u8 0)) 5) 46 true,d 53 (.pick (t 46) (t 52) (.const (.bool false)))] (C 53 .skip (.exit 2))) (.block 3 (.ops
 [m 54 12,b 55 .add 3 (t 54) (i 1) 3,a 12 55])) }).1
def pc107_l3 : PC := (⟨_, by delta C L S a b d i m t w; exact rfl⟩ : { p : PC // p = .seq (S [m 80 12,m 81 0,L 82 81 9,b 83 .lss 3 (t 80) (t 82) 3,m 84 83,w 85
 (.move (t 0)) 84 true,w 86 (.move (t 12)) 84 true,w 87 (.index 9 (t 85) (t 86)) 84 true,w 88 (.indexAddr 147 (.global 3) (t 87)) 84 true,w 89 (.load 5 (t 88))
 84 true,w 90 (.binOp .neq 5 (t 89) (.const (.int .u8 0)) 5) 84 true,d 91 (.pick (t 84) (t 90) (.const (.bool false)))] (C 91 .skip (.exit 6))) (.block 7 (.ops
 [m 92 12,b 93 .add 3 (t 92) (i 1) 3,a 12 93])) }).1
def pc107_r1 : PC := (⟨_, by delta a m; exact rfl⟩ : { p : PC // p = .ops [m 94 12,a 11 94] }).1
def pc107_l4 : PC := (⟨_, by delta C L S a b d i l m s t x; exact rfl⟩ : { p : PC // p = .seq (S [m 57 12,m 58 0,L 59 58 9,b 60 .lss 3 (t 57) (t 59) 3] (C 60
 .skip (.exit 4))) (.block 5 (.seq (S [m 61 0,m 62 12,d 63 (.index 9 (t 61) (t 62)),d 64 (.indexAddr 147 (.global 3) (t 63)),l 65 5 64,b 66 .eql 5 (t 65)
 (.const (.int .u8 0)) 5] (C 66 (S [m 67 12,b 68 .add 3 (t 67) (i 1) 3,a 12 68] (.exit 5)) .skip)) (S [m 69 9,m 70 10,m 71 0,m 72 11,m 73 12,d 74 (.slice 9 (t
 71) (some (t 72)) (some (t 73)) none),x 75 66 69 70,s 9 75 74] (S [m 76 10,b 77 .add 3 (t 76) (i 1) 3,a 10 77] (S [m 78 12,b 79 .add 3 (t 78) (i 1) 3,a 12 79]
 (.seq (.block 6 (.loop pc107_l3)) pc107_r1)))))) }).1
def pc107_r2 : PC := (⟨_, by delta C L S a b d m s t x; exact rfl⟩ : { p : PC // p = .seq (S [m 95 11,m 96 0,L 97 96 9,b 98 .lss 3 (t 95) (t 97) 3] (C 98 (.ops
 [m 99 9,m 100 10,m 101 0,m 102 11,d 103 (.slice 9 (t 101) (some (t 102)) none none),x 104 66 99 100,s 9 104 103]) .skip)) (S [m 105 9,a 2 105] .ret) }).1
def pc107_r3 : PC := (⟨_, by delta S a m; exact rfl⟩ : { p : PC // p = S [m 56 12,a 11 56] (.seq (.block 4 (.loop pc107_l4)) pc107_r2) }).1
def pc107_r4 : PC := (⟨_, by delta A C S a b c d i m t; exact rfl⟩ : { p : PC // p = .seq (S [m 36 5,b 37 .geq 5 (t 36) (.const (.int .u8 128)) 5] (C 37 (S [m
 38 0,c 39 121 #[t 38,.func 122] #[9,149],a 2 39] .ret) .skip)) (S [m 40 3,d 41 (.makeSlice 66 (t 40) (t 40)),a 9 41] (S [A 10 (i 0)] (S [A 11 (i 0)] (S [A 12
 (i 0)] (.seq (.block 2 (.loop pc107_l2)) pc107_r3))))) }).1
def pc107 : PC := (⟨_, by delta A S i; exact rfl⟩ : { p : PC // p = S [A 2 (.const (.slice none 0 0))] (S [A 3 (i 0)] (S [A 4 (i 1)] (S [A 5 (.const (.int .u8
 0))] (.seq (S [A 6 (i 0)] (.block 0 (.loop pc107_l1))) pc107_r4)))) }).1
theorem calls107 (hn : args.length = 1) (h : avc Tryz.prog G 106 pc107 (afin Tryz.prog [.tmp 2] R) (frame0 args) σ) : ACalls Tryz.prog G 107 args σ R :=
  acalls' (n := 106) (l := [.tmp 2]) mixed Tryz.func107 (by kernel_rfl) (by kernel_rfl) (by kernel_rfl) (by omega) h
def pc115 : PC := (⟨_, by delta A S a d i; exact rfl⟩ : { p : PC // p = S [A 0 (.const (.slice none 0 0)),A 1 (.const (.slice none 0 0)),A 2 (.const (.slice
 none 0 0))] (S [d 3 (.buildSlice 66 16 #[(0,.const (.string ⟨#[97,100,100]⟩)),(1,.const (.string ⟨#[115,117,98]⟩)),(2,.const (.string
 ⟨#[109,117,108]⟩)),(3,.const (.string ⟨#[100,105,118,95,115]⟩)),(4,.const (.string ⟨#[114,101,109,95,115]⟩)),(5,.const (.string ⟨#[97,110,100]⟩)),(6,.const
 (.string ⟨#[111,114]⟩)),(7,.const (.string ⟨#[120,111,114]⟩)),(8,.const (.string ⟨#[115,104,108]⟩)),(9,.const (.string ⟨#[115,104,114,95,115]⟩)),(10,.const
 (.string ⟨#[101,113]⟩)),(11,.const (.string ⟨#[110,101]⟩)),(12,.const (.string ⟨#[108,116,95,115]⟩)),(13,.const (.string ⟨#[103,116,95,115]⟩)),(14,.const
 (.string ⟨#[108,101,95,115]⟩)),(15,.const (.string ⟨#[103,101,95,115]⟩))]),d 4 (.buildSlice 38 16 #[(0,i 106),(1,i 107),(2,i 108),(3,i 109),(4,i 111),(5,i
 113),(6,i 114),(7,i 115),(8,i 116),(9,i 117),(10,i 70),(11,i 71),(12,i 72),(13,i 74),(14,i 76),(15,i 78)]),d 5 (.buildSlice 38 16 #[(0,i 124),(1,i 125),(2,i
 126),(3,i 127),(4,i 129),(5,i 131),(6,i 132),(7,i 133),(8,i 134),(9,i 135),(10,i 81),(11,i 82),(12,i 83),(13,i 85),(14,i 87),(15,i 89)]),a 0 3,a 1 4,a 2 5]
 .ret) }).1
theorem calls115 (hn : args.length = 0) (h : avc Tryz.prog G 6 pc115 (afin Tryz.prog [.tmp 0, .tmp 1, .tmp 2] R) (frame0 args) σ) : ACalls Tryz.prog G 115 args σ R :=
  acalls' (n := 6) (l := [.tmp 0, .tmp 1, .tmp 2]) mixed Tryz.func115 (by kernel_rfl) (by kernel_rfl) (by kernel_rfl) (by omega) h
def pc116 : PC := (⟨_, by delta A S a d i t; exact rfl⟩ : { p : PC // p = S [A 0 (.const (.slice none 0 0))] (S [d 1 (.build 73 #[(0,i 5),(1,i 1)]),d 2 (.build
 142 #[(0,i 69),(1,t 1)]),d 3 (.build 73 #[(0,i 5),(1,i 2)]),d 4 (.build 142 #[(0,i 80),(1,t 3)]),d 5 (.build 73 #[(0,i 6)]),d 6 (.build 142 #[(0,i 167),(1,t
 5)]),d 7 (.build 73 #[(0,i 7)]),d 8 (.build 142 #[(0,i 172),(1,t 7)]),d 9 (.build 73 #[(0,i 16)]),d 10 (.build 142 #[(0,i 15),(1,t 9)]),d 11 (.build 73 #[(0,i
 17)]),d 12 (.build 142 #[(0,i 0),(1,t 11)]),d 13 (.build 73 #[(0,i 18)]),d 14 (.build 142 #[(0,i 26),(1,t 13)]),d 15 (.build 73 #[(0,i 1),(1,i 1)]),d 16
 (.build 142 #[(0,i 65),(1,t 15)]),d 17 (.build 73 #[(0,i 1),(1,i 2)]),d 18 (.build 142 #[(0,i 66),(1,t 17)]),d 19 (.build 73 #[(0,i 2)]),d 20 (.build 142
 #[(0,i 32),(1,t 19)]),d 21 (.build 73 #[(0,i 3)]),d 22 (.build 142 #[(0,i 33),(1,t 21)]),d 23 (.build 73 #[(0,i 10)]),d 24 (.build 142 #[(0,i 16),(1,t 23)]),d
 25 (.build 73 #[(0,i 14)]),d 26 (.build 142 #[(0,i 12),(1,t 25)]),d 27 (.build 73 #[(0,i 15)]),d 28 (.build 142 #[(0,i 13),(1,t 27)]),d 29 (.build 73 #[(0,i
 8),(1,i 1),(2,i 1)]),d 30 (.build 142 #[(0,i 44),(1,t 29)]),d 31 (.build 73 #[(0,i 8),(1,i 1),(2,i 4)]),d 32 (.build 142 #[(0,i 40),(1,t 31)]),d 33 (.build 73
 #[(0,i 8),(1,i 2),(2,i 8)]),d 34 (.build 142 #[(0,i 41),(1,t 33)]),d 35 (.build 73 #[(0,i 9),(1,i 1),(2,i 1)]),d 36 (.build 142 #[(0,i 58),(1,t 35)]),d 37
 (.build 73 #[(0,i 9),(1,i 1),(2,i 4)]),d 38 (.build 142 #[(0,i 54),(1,t 37)]),d 39 (.build 73 #[(0,i 9),(1,i 2),(2,i 8)]),d 40 (.build 142 #[(0,i 55),(1,t
 39)]),d 41 (.buildSlice 139 20 #[(0,t 2),(1,t 4),(2,t 6),(3,t 8),(4,t 10),(5,t 12),(6,t 14),(7,t 16),(8,t 18),(9,t 20),(10,t 22),(11,t 24),(12,t 26),(13,t
 28),(14,t 30),(15,t 32),(16,t 34),(17,t 36),(18,t 38),(19,t 40)]),a 0 41] .ret) }).1
theorem calls116 (hn : args.length = 0) (h : avc Tryz.prog G 42 pc116 (afin Tryz.prog [.tmp 0] R) (frame0 args) σ) : ACalls Tryz.prog G 116 args σ R :=
  acalls' (n := 42) (l := [.tmp 0]) mixed Tryz.func116 (by kernel_rfl) (by kernel_rfl) (by kernel_rfl) (by omega) h
def pc118_l1 : PC := (⟨_, by delta C S a b c d i l m s t x; exact rfl⟩ : { p : PC // p = S [b 88 .lss 3 (t 87) (i 2) 3] (.seq (C 88 .skip (.exit 0)) (.seq
 (.block 1 (S [m 89 87,d 90 (.index 122 (t 86) (t 87)),a 13 89,a 14 90] (S [m 91 14,m 92 1,c 93 133 #[t 91,t 92] #[9,5],a 15 93] (S [m 94 15,b 95 .geq 3 (t 94)
 (i 0) 3] (C 95 (S [m 96 13,b 97 .add 3 (t 96) (i 1) 3,c 98 107 #[.const (.string
 ⟨#[97,100,100,32,115,117,98,32,109,117,108,32,100,105,118,95,115,32,114,101,109,95,115,32,97,110,100,32,111,114,32,120,111,114,32,115,104,108,32,115,104,114,95,115,32,101,113,32,110,101,32,108,116,95,115,32,103,116,95,115,32,108,101,95,115,32,103,101,95,115]⟩)]
 #[9],m 99 15,x 100 66 98 99,l 101 9 100,d 102 (.build 73 #[(0,i 4),(1,t 97),(5,t 101)]),s 73 6 102] .ret) .skip))))) (.ops [b 103 .add 3 (t 87) (i 1) 3,m 87
 103]))) }).1
def pc118_r1 : PC := (⟨_, by delta d e i t; exact rfl⟩ : { p : PC // p = .ops [d 104 (.makeInterface 28 (i 2)),e (.panic (t 104))] }).1
def pc118 : PC := (⟨_, by delta A C S a b c d e f i l m s t w; exact rfl⟩ : { p : PC // p = S [d 6 (.alloc 73)] (.seq (S [m 16 1,b 17 .geq 5 (t 16) (.const
 (.int .u8 2)) 5,m 18 17,w 19 (.move (t 1)) 18 true,w 20 (.binOp .leq 5 (t 19) (.const (.int .u8 4)) 5) 18 true,d 21 (.pick (t 18) (t 20) (.const (.bool
 false)))] (C 21 (S [m 22 2,b 23 .lss 3 (t 22) (i 400) 3,c 24 30 #[t 23,i 3] #[4,28]] (S [m 25 0,c 26 57 #[t 25,i 1] #[48,3]] (S [m 27 1,d 28 (.convert 5 3 (t
 27)),b 29 .add 3 (i 11) (t 28) 3,b 30 .sub 3 (t 29) (i 2) 3,d 31 (.build 73 #[(0,t 30)]),d 7 (.alloc 73),s 73 7 31] (S [A 8 (.const (.int .u8 0))] (S [m 33 0,m
 34 2,b 35 .add 3 (t 34) (i 1) 3,c 36 96 #[t 33,t 35] #[48,3],m 32 36,d 37 (.extract (t 32) 0),d 38 (.extract (t 32) 1),f 39 73 7 3,s 3 39 37,a 8 38] (.seq (S
 [m 40 1,b 41 .eql 5 (t 40) (.const (.int .u8 4)) 5] (C 41 (S [f 42 73 7 4,e (.store 3 (t 42) (i (-1)))] (S [m 43 8,b 44 .eql 5 (t 43) (.const (.int .u8 5)) 5]
 (C 44 (.ops [m 46 0,m 47 2,b 48 .add 3 (t 47) (i 1) 3,c 49 96 #[t 46,t 48] #[48,3],m 45 49,d 50 (.extract (t 45) 0),d 51 (.extract (t 45) 1),f 52 73 7 4,s 3 52
 50]) .skip))) .skip)) (S [l 53 73 7,s 73 6 53] .ret))))))) .skip)) (.seq (S [d 55 (.load 125 (.global 2)),m 56 1,d 57 (.lookup 125 (t 55) (t 56) true),m 54
 57,d 58 (.extract (t 54) 0),d 59 (.extract (t 54) 1),d 9 (.alloc 73),s 73 9 58,a 10 59] (S [m 60 10] (C 60 (S [m 61 0,f 62 73 9 0,l 63 3 62,b 64 .eql 3 (t 63)
 (i 1) 3,c 65 60 #[t 61,t 64] #[48,4],f 66 73 9 2,s 3 66 65] (S [l 67 73 9,s 73 6 67] .ret)) .skip))) (.seq (S [d 69 (.load 125 (.global 1)),m 70 1,d 71
 (.lookup 125 (t 69) (t 70) true),m 68 71,d 72 (.extract (t 68) 0),d 73 (.extract (t 68) 1),d 11 (.alloc 73),s 73 11 72,a 12 73] (S [m 74 12] (C 74 (.seq (S [f
 75 73 11 0,l 76 3 75,b 77 .eql 3 (t 76) (i 8) 3,m 78 77,w 79 (.fieldAddr 73 (t 11) 0) 78 false,w 80 (.load 3 (t 79)) 78 false,w 81 (.binOp .eql 3 (t 80) (i 9)
 3) 78 false,d 82 (.pick (t 78) (.const (.bool true)) (t 81))] (C 82 (.ops [m 83 0,c 84 57 #[t 83,i 2] #[48,3]]) .skip)) (S [l 85 73 11,s 73 6 85] .ret))
 .skip))) (.seq (S [d 86 (.load 122 (.global 0)),d 87 (.move (i 0))] (.block 0 (.loop pc118_l1))) pc118_r1)))) }).1
theorem calls118 (hn : args.length = 3) (h : avc Tryz.prog G 105 pc118 (afin Tryz.prog [.cell 6 73] R) (frame0 args) σ) : ACalls Tryz.prog G 118 args σ R :=
  acalls' (n := 105) (l := [.cell 6 73]) mixed Tryz.func118 (by kernel_rfl) (by kernel_rfl) (by kernel_rfl) (by omega) h
def pc119_l1 : PC := (⟨_, by delta C L S a b d i l m s t x; exact rfl⟩ : { p : PC // p = .seq (S [m 17 8,m 18 5,L 19 18 66,b 20 .lss 3 (t 17) (t 19) 3] (C 20
 .skip (.exit 0))) (.seq (.block 1 (.seq (S [m 23 6,m 24 8,x 25 38 23 24,l 26 3 25,m 27 1,b 28 .eql 3 (t 26) (t 27) 3] (C 28 (S [m 29 5,m 30 8,x 31 66 29 30,l
 32 9 31,d 33 (.build 73 #[(0,i 4),(1,i 1),(5,t 32)]),s 73 4 33] .ret) .skip)) (S [m 34 7,m 35 8,x 36 38 34 35,l 37 3 36,m 38 1,b 39 .eql 3 (t 37) (t 38) 3] (C
 39 (S [m 40 5,m 41 8,x 42 66 40 41,l 43 9 42,d 44 (.build 73 #[(0,i 4),(1,i 2),(5,t 43)]),s 73 4 44] .ret) .skip)))) (.ops [m 21 8,b 22 .add 3 (t 21) (i 1) 3,a
 8 22])) }).1
def pc119_l2 : PC := (⟨_, by delta C L S a b c d f i l m s t x; exact rfl⟩ : { p : PC // p = .seq (S [m 46 10,m 47 9,L 48 47 139,b 49 .lss 3 (t 46) (t 48) 3] (C
 49 .skip (.exit 2))) (.seq (.block 3 (.seq (S [m 52 9,m 53 10,x 54 139 52 53,f 55 142 54 0,l 56 3 55,m 57 1,b 58 .neq 3 (t 56) (t 57) 3] (C 58 (.exit 3)
 .skip)) (S [m 59 9,m 60 10,x 61 139 59 60,f 62 142 61 1,l 63 73 62,d 11 (.alloc 73),s 73 11 63] (.seq (S [m 64 10,b 65 .geq 3 (t 64) (i 14) 3] (C 65 (.ops [m
 66 0,c 67 71 #[t 66,i 2] #[53,3]]) (S [m 68 10,b 69 .geq 3 (t 68) (i 7) 3] (C 69 (.ops [m 70 0,f 71 73 11 0,l 72 3 71,b 73 .eql 3 (t 72) (i 1) 3,c 74 74 #[t
 70,t 73] #[53,4],f 75 73 11 2,s 3 75 74]) .skip)))) (S [l 76 73 11,s 73 4 76] .ret))))) (.ops [m 50 10,b 51 .add 3 (t 50) (i 1) 3,a 10 51])) }).1
def pc119_r1 : PC := (⟨_, by delta S d e f m n s t; exact rfl⟩ : { p : PC // p = S [m 77 0,n 78 77,f 79 55 78 2,e (.store 4 (t 79) (.const (.bool true)))] (S [d
 80 (.build 73 #[]),s 73 4 80] .ret) }).1
def pc119_r2 : PC := (⟨_, by delta A S a c i; exact rfl⟩ : { p : PC // p = S [c 45 116 #[] #[],a 9 45] (.seq (S [A 10 (i 0)] (.block 2 (.loop pc119_l2)))
 pc119_r1) }).1
def pc119 : PC := (⟨_, by delta A S a c d i m t; exact rfl⟩ : { p : PC // p = S [d 4 (.alloc 73)] (S [c 13 115 #[] #[],m 12 13,d 14 (.extract (t 12) 0),d 15
 (.extract (t 12) 1),d 16 (.extract (t 12) 2),a 5 14,a 6 15,a 7 16] (.seq (S [A 8 (i 0)] (.block 0 (.loop pc119_l1))) pc119_r2)) }).1
theorem calls119 (hn : args.length = 2) (h : avc Tryz.prog G 81 pc119 (afin Tryz.prog [.cell 4 73] R) (frame0 args) σ) : ACalls Tryz.prog G 119 args σ R :=
  acalls' (n := 81) (l := [.cell 4 73]) mixed Tryz.func119 (by kernel_rfl) (by kernel_rfl) (by kernel_rfl) (by omega) h
def pc120_l1 : PC := (⟨_, by delta A C L S a b d i l m t x; exact rfl⟩ : { p : PC // p = .seq (S [m 11 5,m 12 0,L 13 12 61,b 14 .lss 3 (t 11) (t 13) 3] (C 14
 .skip (.exit 0))) (.seq (.block 1 (S [m 17 0,m 18 5,x 19 61 17 18,l 20 73 19,m 21 1,m 22 5,x 23 61 21 22,l 24 73 23,b 25 .eql 73 (t 20) (t 24) 73,d 26 (.unOp
 .not 4 (t 25))] (C 26 (S [A 4 (.const (.bool false))] .ret) .skip))) (.ops [m 15 5,b 16 .add 3 (t 15) (i 1) 3,a 5 16])) }).1
def pc120_r1 : PC := (⟨_, by delta A S; exact rfl⟩ : { p : PC // p = S [A 4 (.const (.bool true))] .ret }).1
def pc120 : PC := (⟨_, by delta A C L S b i m t; exact rfl⟩ : { p : PC // p = S [A 4 (.const (.bool false))] (.seq (S [m 6 0,L 7 6 61,m 8 1,L 9 8 61,b 10 .neq 3
 (t 7) (t 9) 3] (C 10 (S [A 4 (.const (.bool false))] .ret) .skip)) (.seq (S [A 5 (i 0)] (.block 0 (.loop pc120_l1))) pc120_r1)) }).1
theorem calls120 (hn : args.length = 2) (h : avc Tryz.prog G 27 pc120 (afin Tryz.prog [.tmp 4] R) (frame0 args) σ) : ACalls Tryz.prog G 120 args σ R :=
  acalls' (n := 27) (l := [.tmp 4]) mixed Tryz.func120 (by kernel_rfl) (by kernel_rfl) (by kernel_rfl) (by omega) h
@[simp] theorem t_el22 : elOf Tryz.prog 22 = some 1 := by kernel_rfl
@[simp] theorem t_str22 : isStr Tryz.prog 22 = false := by kernel_rfl
@[simp] theorem t_und3 : Tryz.prog.underlying 3 = some (.int .i64) := by kernel_rfl
@[simp] theorem t_call6 : callable Tryz.prog 6 = true := by kernel_rfl
@[simp] theorem t_call7 : callable Tryz.prog 7 = true := by kernel_rfl
@[simp] theorem t_call8 : callable Tryz.prog 8 = true := by kernel_rfl
@[simp] theorem t_zero27 : zeroOf Tryz.prog 27 = some (.agg [.nilsl, (.int .i64 0), (.int .i64 0)]) := by kernel_rfl
@[simp] theorem t_sz27 : szOf Tryz.prog 27 = some 3 := by kernel_rfl
@[simp] theorem t_agg27 : aggOf Tryz.prog 27 = true := by kernel_rfl
@[simp] theorem t_call9 : callable Tryz.prog 9 = true := by kernel_rfl
@[simp] theorem t_und28 : Tryz.prog.underlying 28 = some (.int .i64) := by kernel_rfl
@[simp] theorem t_und4 : Tryz.prog.underlying 4 = some .bool := by kernel_rfl
@[simp] theorem t_call10 : callable Tryz.prog 10 = true := by kernel_rfl
@[simp] theorem t_call11 : callable Tryz.prog 11 = true := by kernel_rfl
@[simp] theorem t_call12 : callable Tryz.prog 12 = true := by kernel_rfl
@[simp] theorem t_call13 : callable Tryz.prog 13 = true := by kernel_rfl
@[simp] theorem t_el38 : elOf Tryz.prog 38 = some 1 := by kernel_rfl
@[simp] theorem t_ez38 : elZero Tryz.prog 38 = some (.int .i64 0) := by kernel_rfl
@[simp] theorem t_str38 : isStr Tryz.prog 38 = false := by kernel_rfl
@[simp] theorem t_sz3 : szOf Tryz.prog 3 = some 1 := by kernel_rfl
@[simp] theorem t_agg3 : aggOf Tryz.prog 3 = false := by kernel_rfl
@[simp] theorem t_ez22 : elZero Tryz.prog 22 = some (.int .u8 0) := by kernel_rfl
@[simp] theorem t_eb22 : elBytes Tryz.prog 22 = some 1 := by kernel_rfl
@[simp] theorem t_call14 : callable Tryz.prog 14 = true := by kernel_rfl
@[simp] theorem t_call15 : callable Tryz.prog 15 = true := by kernel_rfl
@[simp] theorem t_sz5 : szOf Tryz.prog 5 = some 1 := by kernel_rfl
@[simp] theorem t_agg5 : aggOf Tryz.prog 5 = false := by kernel_rfl
@[simp] theorem t_call17 : callable Tryz.prog 17 = true := by kernel_rfl
@[simp] theorem t_call16 : callable Tryz.prog 16 = true := by kernel_rfl
@[simp] theorem t_call18 : callable Tryz.prog 18 = true := by kernel_rfl
@[simp] theorem t_str41 : isStr Tryz.prog 41 = false := by kernel_rfl
@[simp] theorem t_str3 : isStr Tryz.prog 3 = false := by kernel_rfl
@[simp] theorem t_u8_3 : isU8 Tryz.prog 3 = false := by kernel_rfl
@[simp] theorem t_u8_41 : isU8 Tryz.prog 41 = false := by kernel_rfl
@[simp] theorem t_int41 : intOf? Tryz.prog 41 = some .u64 := by kernel_rfl
@[simp] theorem t_some3 : (Tryz.prog.underlying 3).isSome = true := by kernel_rfl
@[simp] theorem t_und5 : Tryz.prog.underlying 5 = some (.int .u8) := by kernel_rfl
@[simp] theorem t_call3 : callable Tryz.prog 3 = true := by kernel_rfl
@[simp] theorem t_call26 : callable Tryz.prog 26 = true := by kernel_rfl
@[simp] theorem t_zero28 : zeroOf Tryz.prog 28 = some (.int .i64 0) := by kernel_rfl
@[simp] theorem t_sz28 : szOf Tryz.prog 28 = some 1 := by kernel_rfl
@[simp] theorem t_agg28 : aggOf Tryz.prog 28 = false := by kernel_rfl
@[simp] theorem t_call28 : callable Tryz.prog 28 = true := by kernel_rfl
@[simp] theorem t_struct51 : isStruct Tryz.prog 51 = true := by kernel_rfl
@[simp] theorem t_sized51 : sized Tryz.prog 51 = true := by kernel_rfl
@[simp] theorem t_zero51 : zeroOf Tryz.prog 51 = some (.agg [.nilsl, .nilsl, (.int .i64 0)]) := by kernel_rfl
@[simp] theorem t_fi51_0 : fiOf Tryz.prog 51 0 = some ⟨0, 1, false⟩ := by kernel_rfl
@[simp] theorem t_call29 : callable Tryz.prog 29 = true := by kernel_rfl
@[simp] theorem t_sz22 : szOf Tryz.prog 22 = some 1 := by kernel_rfl
@[simp] theorem t_agg22 : aggOf Tryz.prog 22 = false := by kernel_rfl
@[simp] theorem t_call31 : callable Tryz.prog 31 = true := by kernel_rfl
@[simp] theorem t_call32 : callable Tryz.prog 32 = true := by kernel_rfl
@[simp] theorem t_call33 : callable Tryz.prog 33 = true := by kernel_rfl
@[simp] theorem t_call30 : callable Tryz.prog 30 = true := by kernel_rfl
@[simp] theorem t_struct55 : isStruct Tryz.prog 55 = true := by kernel_rfl
@[simp] theorem t_sized55 : sized Tryz.prog 55 = true := by kernel_rfl
@[simp] theorem t_zero55 : zeroOf Tryz.prog 55 = some (.agg [.nilsl, (.int .i64 0), (.bool false), .nilsl, (.int .i64 0)]) := by kernel_rfl
@[simp] theorem t_fi55_0 : fiOf Tryz.prog 55 0 = some ⟨0, 1, false⟩ := by kernel_rfl
@[simp] theorem t_call34 : callable Tryz.prog 34 = true := by kernel_rfl
@[simp] theorem t_fi55_2 : fiOf Tryz.prog 55 2 = some ⟨2, 1, false⟩ := by kernel_rfl
@[simp] theorem t_sz4 : szOf Tryz.prog 4 = some 1 := by kernel_rfl
@[simp] theorem t_agg4 : aggOf Tryz.prog 4 = false := by kernel_rfl
@[simp] theorem t_fi55_1 : fiOf Tryz.prog 55 1 = some ⟨1, 1, false⟩ := by kernel_rfl
@[simp] theorem t_call22 : callable Tryz.prog 22 = true := by kernel_rfl
@[simp] theorem t_struct27 : isStruct Tryz.prog 27 = true := by kernel_rfl
@[simp] theorem t_sized27 : sized Tryz.prog 27 = true := by kernel_rfl
@[simp] theorem t_fi27_1 : fiOf Tryz.prog 27 1 = some ⟨1, 1, false⟩ := by kernel_rfl
@[simp] theorem t_fi27_2 : fiOf Tryz.prog 27 2 = some ⟨2, 1, false⟩ := by kernel_rfl
@[simp] theorem t_fi27_0 : fiOf Tryz.prog 27 0 = some ⟨0, 1, false⟩ := by kernel_rfl
@[simp] theorem t_sz25 : szOf Tryz.prog 25 = some 1 := by kernel_rfl
@[simp] theorem t_agg25 : aggOf Tryz.prog 25 = false := by kernel_rfl
@[simp] theorem t_call35 : callable Tryz.prog 35 = true := by kernel_rfl
@[simp] theorem t_el25 : elOf Tryz.prog 25 = some 5 := by kernel_rfl
@[simp] theorem t_str25 : isStr Tryz.prog 25 = false := by kernel_rfl
@[simp] theorem t_fi59_1 : fiOf Tryz.prog 59 1 = some ⟨1, 1, false⟩ := by kernel_rfl
@[simp] theorem t_sz38 : szOf Tryz.prog 38 = some 1 := by kernel_rfl
@[simp] theorem t_agg38 : aggOf Tryz.prog 38 = false := by kernel_rfl
@[simp] theorem t_call36 : callable Tryz.prog 36 = true := by kernel_rfl
@[simp] theorem t_fi59_2 : fiOf Tryz.prog 59 2 = some ⟨2, 1, false⟩ := by kernel_rfl
@[simp] theorem t_fi59_4 : fiOf Tryz.prog 59 4 = some ⟨4, 1, false⟩ := by kernel_rfl
@[simp] theorem t_sz49 : szOf Tryz.prog 49 = some 1 := by kernel_rfl
@[simp] theorem t_agg49 : aggOf Tryz.prog 49 = false := by kernel_rfl
@[simp] theorem t_el49 : elOf Tryz.prog 49 = some 1 := by kernel_rfl
@[simp] theorem t_str49 : isStr Tryz.prog 49 = false := by kernel_rfl
@[simp] theorem t_sz61 : szOf Tryz.prog 61 = some 1 := by kernel_rfl
@[simp] theorem t_agg61 : aggOf Tryz.prog 61 = false := by kernel_rfl
@[simp] theorem t_call37 : callable Tryz.prog 37 = true := by kernel_rfl
@[simp] theorem t_call38 : callable Tryz.prog 38 = true := by kernel_rfl
@[simp] theorem t_call39 : callable Tryz.prog 39 = true := by kernel_rfl
@[simp] theorem t_str5 : isStr Tryz.prog 5 = false := by kernel_rfl
@[simp] theorem t_u8_5 : isU8 Tryz.prog 5 = false := by kernel_rfl
@[simp] theorem t_int5 : intOf? Tryz.prog 5 = some .u8 := by kernel_rfl
@[simp] theorem t_call40 : callable Tryz.prog 40 = true := by kernel_rfl
@[simp] theorem t_el65 : elOf Tryz.prog 65 = some 1 := by kernel_rfl
@[simp] theorem t_ez65 : elZero Tryz.prog 65 = some .nilsl := by kernel_rfl
@[simp] theorem t_el66 : elOf Tryz.prog 66 = some 1 := by kernel_rfl
@[simp] theorem t_ez66 : elZero Tryz.prog 66 = some (.str []) := by kernel_rfl
@[simp] theorem t_str66 : isStr Tryz.prog 66 = false := by kernel_rfl
@[simp] theorem t_sz9 : szOf Tryz.prog 9 = some 1 := by kernel_rfl
@[simp] theorem t_agg9 : aggOf Tryz.prog 9 = false := by kernel_rfl
@[simp] theorem t_u8_22 : isU8 Tryz.prog 22 = true := by kernel_rfl
@[simp] theorem t_some22 : (Tryz.prog.underlying 22).isSome = true := by kernel_rfl
@[simp] theorem t_call42 : callable Tryz.prog 42 = true := by kernel_rfl
@[simp] theorem t_str9 : isStr Tryz.prog 9 = true := by kernel_rfl
@[simp] theorem t_u8_9 : isU8 Tryz.prog 9 = false := by kernel_rfl
@[simp] theorem t_some9 : (Tryz.prog.underlying 9).isSome = true := by kernel_rfl
@[simp] theorem t_call41 : callable Tryz.prog 41 = true := by kernel_rfl
@[simp] theorem t_eb65 : elBytes Tryz.prog 65 = some 24 := by kernel_rfl
@[simp] theorem t_str65 : isStr Tryz.prog 65 = false := by kernel_rfl
@[simp] theorem t_sz59 : szOf Tryz.prog 59 = some 5 := by kernel_rfl
@[simp] theorem t_agg59 : aggOf Tryz.prog 59 = true := by kernel_rfl
@[simp] theorem t_zero59 : zeroOf Tryz.prog 59 = some (.agg [(.str []), .nilsl, .nilsl, (.int .i64 0), .nilsl]) := by kernel_rfl
@[simp] theorem t_fi59_3 : fiOf Tryz.prog 59 3 = some ⟨3, 1, false⟩ := by kernel_rfl
@[simp] theorem t_call43 : callable Tryz.prog 43 = true := by kernel_rfl
@[simp] theorem t_call44 : callable Tryz.prog 44 = true := by kernel_rfl
@[simp] theorem t_fi59_0 : fiOf Tryz.prog 59 0 = some ⟨0, 1, false⟩ := by kernel_rfl
@[simp] theorem t_call46 : callable Tryz.prog 46 = true := by kernel_rfl
@[simp] theorem t_call45 : callable Tryz.prog 45 = true := by kernel_rfl
@[simp] theorem t_struct73 : isStruct Tryz.prog 73 = true := by kernel_rfl
@[simp] theorem t_sized73 : sized Tryz.prog 73 = true := by kernel_rfl
@[simp] theorem t_zero73 : zeroOf Tryz.prog 73 = some (.agg [(.int .i64 0), (.int .i64 0), (.int .i64 0), (.int .i64 0), (.int .i64 0), (.str [])]) := by kernel_rfl
@[simp] theorem t_fi73_0 : fiOf Tryz.prog 73 0 = some ⟨0, 1, false⟩ := by kernel_rfl
@[simp] theorem t_fi73_1 : fiOf Tryz.prog 73 1 = some ⟨1, 1, false⟩ := by kernel_rfl
@[simp] theorem t_fi73_2 : fiOf Tryz.prog 73 2 = some ⟨2, 1, false⟩ := by kernel_rfl
@[simp] theorem t_el61 : elOf Tryz.prog 61 = some 6 := by kernel_rfl
@[simp] theorem t_ez61 : elZero Tryz.prog 61 = some (.agg [(.int .i64 0), (.int .i64 0), (.int .i64 0), (.int .i64 0), (.int .i64 0), (.str [])]) := by kernel_rfl
@[simp] theorem t_ez49 : elZero Tryz.prog 49 = some .nilsl := by kernel_rfl
@[simp] theorem t_struct59 : isStruct Tryz.prog 59 = true := by kernel_rfl
@[simp] theorem t_sized59 : sized Tryz.prog 59 = true := by kernel_rfl
@[simp] theorem t_ez25 : elZero Tryz.prog 25 = some (.agg [(.str []), .nilsl, .nilsl, (.int .i64 0), .nilsl]) := by kernel_rfl
@[simp] theorem t_call25 : callable Tryz.prog 25 = true := by kernel_rfl
@[simp] theorem t_call51 : callable Tryz.prog 51 = true := by kernel_rfl
@[simp] theorem t_call52 : callable Tryz.prog 52 = true := by kernel_rfl
@[simp] theorem t_call53 : callable Tryz.prog 53 = true := by kernel_rfl
@[simp] theorem t_call54 : callable Tryz.prog 54 = true := by kernel_rfl
@[simp] theorem t_call55 : callable Tryz.prog 55 = true := by kernel_rfl
@[simp] theorem t_call56 : callable Tryz.prog 56 = true := by kernel_rfl
@[simp] theorem t_call23 : callable Tryz.prog 23 = true := by kernel_rfl
@[simp] theorem t_und22 : Tryz.prog.underlying 22 = some (.slice 5) := by kernel_rfl
@[simp] theorem t_call57 : callable Tryz.prog 57 = true := by kernel_rfl
@[simp] theorem t_call58 : callable Tryz.prog 58 = true := by kernel_rfl
@[simp] theorem t_call59 : callable Tryz.prog 59 = true := by kernel_rfl
@[simp] theorem t_call60 : callable Tryz.prog 60 = true := by kernel_rfl
@[simp] theorem t_call61 : callable Tryz.prog 61 = true := by kernel_rfl
@[simp] theorem t_if28 : isIface Tryz.prog 28 = some false := by kernel_rfl
@[simp] theorem t_zero87 : zeroOf Tryz.prog 87 = some .nilfn := by kernel_rfl
@[simp] theorem t_sz87 : szOf Tryz.prog 87 = some 1 := by kernel_rfl
@[simp] theorem t_agg87 : aggOf Tryz.prog 87 = false := by kernel_rfl
@[simp] theorem t_call64 : callable Tryz.prog 64 = true := by kernel_rfl
@[simp] theorem t_call63 : callable Tryz.prog 63 = true := by kernel_rfl
@[simp] theorem t_zero91 : zeroOf Tryz.prog 91 = some .nilfn := by kernel_rfl
@[simp] theorem t_sz91 : szOf Tryz.prog 91 = some 1 := by kernel_rfl
@[simp] theorem t_agg91 : aggOf Tryz.prog 91 = false := by kernel_rfl
@[simp] theorem t_call67 : callable Tryz.prog 67 = true := by kernel_rfl
@[simp] theorem t_und9 : Tryz.prog.underlying 9 = some .string := by kernel_rfl
@[simp] theorem t_call71 : callable Tryz.prog 71 = true := by kernel_rfl
@[simp] theorem t_call72 : callable Tryz.prog 72 = true := by kernel_rfl
@[simp] theorem t_call73 : callable Tryz.prog 73 = true := by kernel_rfl
@[simp] theorem t_call74 : callable Tryz.prog 74 = true := by kernel_rfl
@[simp] theorem t_call75 : callable Tryz.prog 75 = true := by kernel_rfl
@[simp] theorem t_call76 : callable Tryz.prog 76 = true := by kernel_rfl
@[simp] theorem t_call77 : callable Tryz.prog 77 = true := by kernel_rfl
@[simp] theorem t_str61 : isStr Tryz.prog 61 = false := by kernel_rfl
@[simp] theorem t_call78 : callable Tryz.prog 78 = true := by kernel_rfl
@[simp] theorem t_sz73 : szOf Tryz.prog 73 = some 6 := by kernel_rfl
@[simp] theorem t_agg73 : aggOf Tryz.prog 73 = true := by kernel_rfl
@[simp] theorem t_call79 : callable Tryz.prog 79 = true := by kernel_rfl
@[simp] theorem t_call80 : callable Tryz.prog 80 = true := by kernel_rfl
@[simp] theorem t_call81 : callable Tryz.prog 81 = true := by kernel_rfl
@[simp] theorem t_call82 : callable Tryz.prog 82 = true := by kernel_rfl
@[simp] theorem t_if9 : isIface Tryz.prog 9 = some false := by kernel_rfl
@[simp] theorem t_call83 : callable Tryz.prog 83 = true := by kernel_rfl
@[simp] theorem t_fi73_3 : fiOf Tryz.prog 73 3 = some ⟨3, 1, false⟩ := by kernel_rfl
@[simp] theorem t_fi73_4 : fiOf Tryz.prog 73 4 = some ⟨4, 1, false⟩ := by kernel_rfl
@[simp] theorem t_call84 : callable Tryz.prog 84 = true := by kernel_rfl
@[simp] theorem t_call91 : callable Tryz.prog 91 = true := by kernel_rfl
@[simp] theorem t_call92 : callable Tryz.prog 92 = true := by kernel_rfl
@[simp] theorem t_call93 : callable Tryz.prog 93 = true := by kernel_rfl
@[simp] theorem t_call94 : callable Tryz.prog 94 = true := by kernel_rfl
@[simp] theorem t_eb25 : elBytes Tryz.prog 25 = some 96 := by kernel_rfl
@[simp] theorem t_str110 : isStr Tryz.prog 110 = false := by kernel_rfl
@[simp] theorem t_u8_110 : isU8 Tryz.prog 110 = false := by kernel_rfl
@[simp] theorem t_int110 : intOf? Tryz.prog 110 = some .u64 := by kernel_rfl
@[simp] theorem t_some5 : (Tryz.prog.underlying 5).isSome = true := by kernel_rfl
@[simp] theorem t_und110 : Tryz.prog.underlying 110 = some (.int .u64) := by kernel_rfl
@[simp] theorem t_int3 : intOf? Tryz.prog 3 = some .i64 := by kernel_rfl
@[simp] theorem t_some110 : (Tryz.prog.underlying 110).isSome = true := by kernel_rfl
@[simp] theorem t_fi51_2 : fiOf Tryz.prog 51 2 = some ⟨2, 1, false⟩ := by kernel_rfl
@[simp] theorem t_call95 : callable Tryz.prog 95 = true := by kernel_rfl
@[simp] theorem t_eb38 : elBytes Tryz.prog 38 = some 8 := by kernel_rfl
@[simp] theorem t_fi51_1 : fiOf Tryz.prog 51 1 = some ⟨1, 1, false⟩ := by kernel_rfl
@[simp] theorem t_call96 : callable Tryz.prog 96 = true := by kernel_rfl
@[simp] theorem t_call97 : callable Tryz.prog 97 = true := by kernel_rfl
@[simp] theorem t_call65 : callable Tryz.prog 65 = true := by kernel_rfl
@[simp] theorem t_call98 : callable Tryz.prog 98 = true := by kernel_rfl
@[simp] theorem t_call69 : callable Tryz.prog 69 = true := by kernel_rfl
@[simp] theorem t_call68 : callable Tryz.prog 68 = true := by kernel_rfl
@[simp] theorem t_call99 : callable Tryz.prog 99 = true := by kernel_rfl
@[simp] theorem t_call70 : callable Tryz.prog 70 = true := by kernel_rfl
@[simp] theorem t_call100 : callable Tryz.prog 100 = true := by kernel_rfl
@[simp] theorem t_call101 : callable Tryz.prog 101 = true := by kernel_rfl
@[simp] theorem t_fi55_4 : fiOf Tryz.prog 55 4 = some ⟨4, 1, false⟩ := by kernel_rfl
@[simp] theorem t_call102 : callable Tryz.prog 102 = true := by kernel_rfl
@[simp] theorem t_fi55_3 : fiOf Tryz.prog 55 3 = some ⟨3, 1, false⟩ := by kernel_rfl
@[simp] theorem t_call103 : callable Tryz.prog 103 = true := by kernel_rfl
@[simp] theorem t_call104 : callable Tryz.prog 104 = true := by kernel_rfl
@[simp] theorem t_call105 : callable Tryz.prog 105 = true := by kernel_rfl
@[simp] theorem t_ar122 : arOf Tryz.prog 122 = some (2, 1, false) := by kernel_rfl
@[simp] theorem t_str122 : isStr Tryz.prog 122 = false := by kernel_rfl
@[simp] theorem t_fi73_5 : fiOf Tryz.prog 73 5 = some ⟨5, 1, false⟩ := by kernel_rfl
@[simp] theorem t_call107 : callable Tryz.prog 107 = true := by kernel_rfl
@[simp] theorem t_call106 : callable Tryz.prog 106 = true := by kernel_rfl
@[simp] theorem t_sz125 : szOf Tryz.prog 125 = some 1 := by kernel_rfl
@[simp] theorem t_agg125 : aggOf Tryz.prog 125 = false := by kernel_rfl
@[simp] theorem t_el126 : elOf Tryz.prog 126 = some 1 := by kernel_rfl
@[simp] theorem t_ez126 : elZero Tryz.prog 126 = some .undef := by kernel_rfl
@[simp] theorem t_str126 : isStr Tryz.prog 126 = false := by kernel_rfl
@[simp] theorem t_call115 : callable Tryz.prog 115 = true := by kernel_rfl
@[simp] theorem t_call116 : callable Tryz.prog 116 = true := by kernel_rfl
@[simp] theorem t_el139 : elOf Tryz.prog 139 = some 7 := by kernel_rfl
@[simp] theorem t_str139 : isStr Tryz.prog 139 = false := by kernel_rfl
@[simp] theorem t_fi142_1 : fiOf Tryz.prog 142 1 = some ⟨1, 6, true⟩ := by kernel_rfl
@[simp] theorem t_fi142_0 : fiOf Tryz.prog 142 0 = some ⟨0, 1, false⟩ := by kernel_rfl
@[simp] theorem t_call117 : callable Tryz.prog 117 = true := by kernel_rfl
@[simp] theorem t_und41 : Tryz.prog.underlying 41 = some (.int .u64) := by kernel_rfl
@[simp] theorem t_some41 : (Tryz.prog.underlying 41).isSome = true := by kernel_rfl
@[simp] theorem t_eb49 : elBytes Tryz.prog 49 = some 24 := by kernel_rfl
@[simp] theorem t_call118 : callable Tryz.prog 118 = true := by kernel_rfl
@[simp] theorem t_eb61 : elBytes Tryz.prog 61 = some 56 := by kernel_rfl
@[simp] theorem t_call119 : callable Tryz.prog 119 = true := by kernel_rfl
@[simp] theorem t_call120 : callable Tryz.prog 120 = true := by kernel_rfl
@[simp] theorem t_ar147 : arOf Tryz.prog 147 = some (256, 1, false) := by kernel_rfl
@[simp] theorem t_str147 : isStr Tryz.prog 147 = false := by kernel_rfl
@[simp] theorem t_call121 : callable Tryz.prog 121 = true := by kernel_rfl
@[simp] theorem t_eb66 : elBytes Tryz.prog 66 = some 16 := by kernel_rfl
@[simp] theorem t_struct142 : isStruct Tryz.prog 142 = true := by kernel_rfl
@[simp] theorem t_sized142 : sized Tryz.prog 142 = true := by kernel_rfl
@[simp] theorem t_zero142 : zeroOf Tryz.prog 142 = some (.agg [(.int .i64 0), (.int .i64 0), (.int .i64 0), (.int .i64 0), (.int .i64 0), (.int .i64 0), (.str [])]) := by kernel_rfl
@[simp] theorem t_ez139 : elZero Tryz.prog 139 = some (.agg [(.int .i64 0), (.int .i64 0), (.int .i64 0), (.int .i64 0), (.int .i64 0), (.int .i64 0), (.str [])]) := by kernel_rfl
@[simp] theorem t_sz122 : szOf Tryz.prog 122 = some 2 := by kernel_rfl
@[simp] theorem t_agg122 : aggOf Tryz.prog 122 = true := by kernel_rfl
@[simp] theorem t_call133 : callable Tryz.prog 133 = true := by kernel_rfl
@[simp] theorem t_und73 : Tryz.prog.underlying 73 = some (.struct #[⟨ "Op", 3, 0, false, "", "", 0⟩, ⟨ "Type", 3, 1, false, "", "", 8⟩, ⟨ "N", 3, 2, false, "", "", 16⟩, ⟨ "Body", 3, 3, false, "", "", 24⟩, ⟨ "Other", 3, 4, false, "", "", 32⟩, ⟨ "S", 9, 5, false, "", "", 40⟩]) := by kernel_rfl
@[simp] theorem t_held73 : Tryz.prog.stoodInHeld 73 = false := by kernel_rfl
@[simp] theorem t_guard73 : Tryz.prog.eqGuardType Tryz.prog.depth 73 = false := by kernel_rfl
end Go.Proofs.YthejpoplbllcbaaGreatDoor
