/- The planned texts of the functions, and facts on the program's types; written by a program; no condition. -/
import Derived.Test.YthifgodgfhbnfaaDoorChecked
import Derived.Test.YthifgodgfhbnfaaDoorAbs28
import Derived.KernelRfl
set_option maxRecDepth 100000
namespace Go.Proofs.YthifgodgfhbnfaaDoor
open Go Go.Abs

theorem mixed : Tryd.prog.follows .mixedOrders = true := by kernel_rfl

/- mortise/mortiselaw22.PeepMakes -/
def pc3 : PC :=
  (.seq (.ops [⟨some 1, .box 24 (.tmp 0), none, []⟩,
    ⟨some 2, .assign (.const (.bool false)), none, []⟩])
  (.seq (.seq (.ops [⟨some 5, .load 24 (.tmp 1), none, []⟩,
    ⟨some 6, .call ⟨.value (.func 9), #[(.tmp 5)], #[24]⟩, none, []⟩,
    ⟨some 7, .move (.tmp 6), none, []⟩,
    ⟨some 8, .load 24 (.tmp 1), (some (7, false)), []⟩,
    ⟨some 9, .call ⟨.value (.func 10), #[(.tmp 8)], #[24]⟩, (some (7, false)), []⟩,
    ⟨some 10, .binOp .neq 26 (.tmp 9) (.const (.int .i64 0)) 26, (some (7, false)), []⟩,
    ⟨some 11, .pick (.tmp 7) (.const (.bool true)) (.tmp 10), none, []⟩])
  (.cond (.tmp 11)
    (.seq (.ops [⟨some 12, .call ⟨.value (.func 11), #[], #[]⟩, none, []⟩,
      ⟨some 2, .assign (.tmp 12), none, []⟩])
    .ret)
    .skip))
  (.seq (.ops [⟨some 13, .load 24 (.tmp 1), none, []⟩,
    ⟨some 14, .call ⟨.value (.func 12), #[(.tmp 13)], #[24]⟩, none, []⟩,
    ⟨some 3, .alloc 24, none, []⟩,
    ⟨none, .store 24 (.tmp 3) (.tmp 14), none, []⟩])
  (.seq (.ops [⟨some 15, .load 24 (.tmp 3), none, []⟩,
    ⟨some 16, .call ⟨.value (.func 13), #[(.tmp 15)], #[24]⟩, none, []⟩,
    ⟨some 4, .alloc 24, none, []⟩,
    ⟨none, .store 24 (.tmp 4) (.tmp 16), none, []⟩])
  (.seq (.seq (.ops [⟨some 17, .load 24 (.tmp 4), none, []⟩,
    ⟨some 18, .load 24 (.tmp 1), none, []⟩,
    ⟨some 19, .call ⟨.value (.func 15), #[(.tmp 18)], #[24]⟩, none, [⟨none, 24, (.tmp 4), 17⟩]⟩,
    ⟨some 20, .call ⟨.value (.func 14), #[(.tmp 17), (.tmp 19)], #[24, 24]⟩, none, []⟩,
    ⟨some 21, .unOp .not 4 (.tmp 20), none, []⟩])
  (.cond (.tmp 21)
    (.seq (.ops [⟨some 2, .assign (.const (.bool false)), none, []⟩])
    .ret)
    .skip))
  (.seq (.ops [⟨some 22, .load 24 (.tmp 4), none, []⟩,
    ⟨some 23, .call ⟨.value (.func 16), #[(.tmp 22)], #[24]⟩, none, []⟩])
  (.seq (.ops [⟨some 24, .load 24 (.tmp 3), none, []⟩,
    ⟨some 25, .load 24 (.tmp 1), none, []⟩,
    ⟨some 26, .call ⟨.value (.func 14), #[(.tmp 24), (.tmp 25)], #[24, 24]⟩, none, []⟩,
    ⟨some 27, .move (.tmp 26), none, []⟩,
    ⟨some 28, .call ⟨.value (.func 11), #[], #[]⟩, (some (27, true)), []⟩,
    ⟨some 29, .pick (.tmp 27) (.tmp 28) (.const (.bool false)), none, []⟩,
    ⟨some 2, .assign (.tmp 29), none, []⟩])
  .ret)))))))
theorem plan3 : Tryd.f3.body.bind (plan Tryd.f3.ntmps) = some pc3 := by kernel_rfl
theorem calls3 {G : Env} {args : List AV} {σ : AS} {R : Out → AS → Prop} (hn : args.length = 1) (h : avc Tryd.prog G 30 pc3 (afin Tryd.prog [.tmp 2] R) (frame0 args) σ) : ACalls Tryd.prog G 3 args σ R :=
  acalls' (n := 30) (l := [.tmp 2]) mixed Tryd.func3 (by kernel_rfl) (by kernel_rfl) plan3 (by omega) h

/- mortise/mortiselaw22.PeepLess -/
def pc4_l1 : PC :=
  (.seq (.seq (.ops [⟨some 83, .move (.tmp 11), none, []⟩,
    ⟨some 84, .binOp .add 3 (.tmp 83) (.const (.int .i64 1)) 3, none, []⟩,
    ⟨some 85, .fieldAddr 37 (.tmp 9) 4, none, []⟩,
    ⟨some 86, .load 35 (.tmp 85), none, []⟩,
    ⟨some 87, .move (.tmp 10), none, []⟩,
    ⟨some 88, .indexAddr 35 (.tmp 86) (.tmp 87), none, []⟩,
    ⟨some 89, .load 38 (.tmp 88), none, []⟩,
    ⟨some 90, .call ⟨.builtin .len, #[(.tmp 89)], #[38]⟩, none, []⟩,
    ⟨some 91, .binOp .lss 3 (.tmp 84) (.tmp 90) 3, none, []⟩])
  (.cond (.tmp 91)
    .skip
    (.exit 4)))
  (.seq (.block 5
   (.seq (.ops [⟨some 94, .fieldAddr 37 (.tmp 9) 4, none, []⟩,
     ⟨some 95, .load 35 (.tmp 94), none, []⟩,
     ⟨some 96, .move (.tmp 10), none, []⟩,
     ⟨some 97, .indexAddr 35 (.tmp 95) (.tmp 96), none, []⟩,
     ⟨some 98, .load 38 (.tmp 97), none, []⟩,
     ⟨some 99, .move (.tmp 11), none, []⟩,
     ⟨some 100, .indexAddr 38 (.tmp 98) (.tmp 99), none, []⟩,
     ⟨some 101, .fieldAddr 40 (.tmp 100) 0, none, []⟩,
     ⟨some 102, .load 3 (.tmp 101), none, []⟩,
     ⟨some 12, .assign (.tmp 102), none, []⟩])
   (.seq (.ops [⟨some 103, .move (.tmp 12), none, []⟩,
     ⟨some 104, .binOp .eql 3 (.tmp 103) (.const (.int .i64 14)) 3, none, []⟩,
     ⟨some 105, .move (.tmp 104), none, []⟩,
     ⟨some 106, .move (.tmp 12), (some (105, false)), []⟩,
     ⟨some 107, .binOp .eql 3 (.tmp 106) (.const (.int .i64 16)) 3, (some (105, false)), []⟩,
     ⟨some 108, .pick (.tmp 105) (.const (.bool true)) (.tmp 107), none, []⟩,
     ⟨some 109, .move (.tmp 108), none, []⟩,
     ⟨some 110, .move (.tmp 12), (some (109, false)), []⟩,
     ⟨some 111, .binOp .eql 3 (.tmp 110) (.const (.int .i64 17)) 3, (some (109, false)), []⟩,
     ⟨some 112, .pick (.tmp 109) (.const (.bool true)) (.tmp 111), none, []⟩])
   (.cond (.tmp 112)
     (.seq (.ops [⟨some 2, .assign (.const (.bool false)), none, []⟩])
     .ret)
     .skip))))
  (.ops [⟨some 92, .move (.tmp 11), none, []⟩,
    ⟨some 93, .binOp .add 3 (.tmp 92) (.const (.int .i64 1)) 3, none, []⟩,
    ⟨some 11, .assign (.tmp 93), none, []⟩])))
def pc4_r1 : PC :=
  (.ops [⟨some 81, .move (.tmp 10), none, []⟩,
    ⟨some 82, .binOp .add 3 (.tmp 81) (.const (.int .i64 1)) 3, none, []⟩,
    ⟨some 10, .assign (.tmp 82), none, []⟩])
def pc4_l2 : PC :=
  (.seq (.seq (.ops [⟨some 76, .move (.tmp 10), none, []⟩,
    ⟨some 77, .fieldAddr 37 (.tmp 9) 4, none, []⟩,
    ⟨some 78, .load 35 (.tmp 77), none, []⟩,
    ⟨some 79, .call ⟨.builtin .len, #[(.tmp 78)], #[35]⟩, none, []⟩,
    ⟨some 80, .binOp .lss 3 (.tmp 76) (.tmp 79) 3, none, []⟩])
  (.cond (.tmp 80)
    .skip
    (.exit 2)))
  (.seq (.block 3
   (.seq (.ops [⟨some 11, .assign (.const (.int .i64 0)), none, []⟩])
   (.block 4
    (.loop pc4_l1))))
  pc4_r1))
def pc4_r2 : PC :=
  (.seq (.ops [⟨some 113, .fieldAddr 37 (.tmp 9) 0, none, []⟩,
    ⟨some 114, .load 9 (.tmp 113), none, []⟩,
    ⟨some 115, .fieldAddr 24 (.tmp 1) 0, none, []⟩,
    ⟨some 116, .load 22 (.tmp 115), none, []⟩,
    ⟨some 117, .move (.tmp 8), none, []⟩,
    ⟨some 118, .indexAddr 22 (.tmp 116) (.tmp 117), none, []⟩,
    ⟨some 119, .fieldAddr 37 (.tmp 118) 0, none, []⟩,
    ⟨some 120, .load 9 (.tmp 119), none, []⟩,
    ⟨some 121, .binOp .neq 9 (.tmp 114) (.tmp 120) 9, none, []⟩,
    ⟨some 122, .move (.tmp 121), none, []⟩,
    ⟨some 123, .fieldAddr 37 (.tmp 9) 3, (some (122, false)), []⟩,
    ⟨some 124, .load 3 (.tmp 123), (some (122, false)), []⟩,
    ⟨some 125, .fieldAddr 24 (.tmp 1) 0, (some (122, false)), []⟩,
    ⟨some 126, .load 22 (.tmp 125), (some (122, false)), []⟩,
    ⟨some 127, .move (.tmp 8), (some (122, false)), []⟩,
    ⟨some 128, .indexAddr 22 (.tmp 126) (.tmp 127), (some (122, false)), []⟩,
    ⟨some 129, .fieldAddr 37 (.tmp 128) 3, (some (122, false)), []⟩,
    ⟨some 130, .load 3 (.tmp 129), (some (122, false)), []⟩,
    ⟨some 131, .binOp .neq 3 (.tmp 124) (.tmp 130) 3, (some (122, false)), []⟩,
    ⟨some 132, .pick (.tmp 122) (.const (.bool true)) (.tmp 131), none, []⟩,
    ⟨some 133, .move (.tmp 132), none, []⟩,
    ⟨some 134, .fieldAddr 37 (.tmp 9) 1, (some (133, false)), []⟩,
    ⟨some 135, .load 34 (.tmp 134), (some (133, false)), []⟩,
    ⟨some 136, .fieldAddr 24 (.tmp 1) 0, (some (133, false)), []⟩,
    ⟨some 137, .load 22 (.tmp 136), (some (133, false)), []⟩,
    ⟨some 138, .move (.tmp 8), (some (133, false)), []⟩,
    ⟨some 139, .indexAddr 22 (.tmp 137) (.tmp 138), (some (133, false)), []⟩,
    ⟨some 140, .fieldAddr 37 (.tmp 139) 1, (some (133, false)), []⟩,
    ⟨some 141, .load 34 (.tmp 140), (some (133, false)), []⟩,
    ⟨some 142, .call ⟨.value (.func 18), #[(.tmp 135), (.tmp 141)], #[34, 34]⟩, (some (133, false)), []⟩,
    ⟨some 143, .unOp .not 4 (.tmp 142), (some (133, false)), []⟩,
    ⟨some 144, .pick (.tmp 133) (.const (.bool true)) (.tmp 143), none, []⟩,
    ⟨some 145, .move (.tmp 144), none, []⟩,
    ⟨some 146, .fieldAddr 37 (.tmp 9) 2, (some (145, false)), []⟩,
    ⟨some 147, .load 34 (.tmp 146), (some (145, false)), []⟩,
    ⟨some 148, .fieldAddr 24 (.tmp 1) 0, (some (145, false)), []⟩,
    ⟨some 149, .load 22 (.tmp 148), (some (145, false)), []⟩,
    ⟨some 150, .move (.tmp 8), (some (145, false)), []⟩,
    ⟨some 151, .indexAddr 22 (.tmp 149) (.tmp 150), (some (145, false)), []⟩,
    ⟨some 152, .fieldAddr 37 (.tmp 151) 2, (some (145, false)), []⟩,
    ⟨some 153, .load 34 (.tmp 152), (some (145, false)), []⟩,
    ⟨some 154, .call ⟨.value (.func 18), #[(.tmp 147), (.tmp 153)], #[34, 34]⟩, (some (145, false)), []⟩,
    ⟨some 155, .unOp .not 4 (.tmp 154), (some (145, false)), []⟩,
    ⟨some 156, .pick (.tmp 145) (.const (.bool true)) (.tmp 155), none, []⟩])
  (.cond (.tmp 156)
    (.seq (.ops [⟨some 2, .assign (.const (.bool false)), none, []⟩])
    .ret)
    .skip))
def pc4_r3 : PC :=
  (.ops [⟨some 69, .move (.tmp 8), none, []⟩,
    ⟨some 70, .binOp .add 3 (.tmp 69) (.const (.int .i64 1)) 3, none, []⟩,
    ⟨some 8, .assign (.tmp 70), none, []⟩])
def pc4_l3 : PC :=
  (.seq (.seq (.ops [⟨some 64, .move (.tmp 8), none, []⟩,
    ⟨some 65, .fieldAddr 24 (.tmp 3) 0, none, []⟩,
    ⟨some 66, .load 22 (.tmp 65), none, []⟩,
    ⟨some 67, .call ⟨.builtin .len, #[(.tmp 66)], #[22]⟩, none, []⟩,
    ⟨some 68, .binOp .lss 3 (.tmp 64) (.tmp 67) 3, none, []⟩])
  (.cond (.tmp 68)
    .skip
    (.exit 0)))
  (.seq (.block 1
   (.seq (.ops [⟨some 71, .fieldAddr 24 (.tmp 3) 0, none, []⟩,
     ⟨some 72, .load 22 (.tmp 71), none, []⟩,
     ⟨some 73, .move (.tmp 8), none, []⟩,
     ⟨some 74, .indexAddr 22 (.tmp 72) (.tmp 73), none, []⟩,
     ⟨some 75, .load 37 (.tmp 74), none, []⟩,
     ⟨some 9, .alloc 37, none, []⟩,
     ⟨none, .store 37 (.tmp 9) (.tmp 75), none, []⟩])
   (.seq (.seq (.ops [⟨some 10, .assign (.const (.int .i64 0)), none, []⟩])
   (.block 2
    (.loop pc4_l2)))
   pc4_r2)))
  pc4_r3))
def pc4_r4 : PC :=
  (.seq (.ops [⟨some 157, .call ⟨.value (.func 11), #[], #[]⟩, none, []⟩,
    ⟨some 2, .assign (.tmp 157), none, []⟩])
  .ret)
def pc4 : PC :=
  (.seq (.ops [⟨some 1, .box 24 (.tmp 0), none, []⟩,
    ⟨some 2, .assign (.const (.bool false)), none, []⟩])
  (.seq (.seq (.ops [⟨some 13, .load 24 (.tmp 1), none, []⟩,
    ⟨some 14, .call ⟨.value (.func 9), #[(.tmp 13)], #[24]⟩, none, []⟩,
    ⟨some 15, .move (.tmp 14), none, []⟩,
    ⟨some 16, .load 24 (.tmp 1), (some (15, false)), []⟩,
    ⟨some 17, .call ⟨.value (.func 10), #[(.tmp 16)], #[24]⟩, (some (15, false)), []⟩,
    ⟨some 18, .binOp .neq 26 (.tmp 17) (.const (.int .i64 0)) 26, (some (15, false)), []⟩,
    ⟨some 19, .pick (.tmp 15) (.const (.bool true)) (.tmp 18), none, []⟩])
  (.cond (.tmp 19)
    (.seq (.ops [⟨some 20, .call ⟨.value (.func 11), #[], #[]⟩, none, []⟩,
      ⟨some 2, .assign (.tmp 20), none, []⟩])
    .ret)
    .skip))
  (.seq (.ops [⟨some 21, .load 24 (.tmp 1), none, []⟩,
    ⟨some 22, .call ⟨.value (.func 13), #[(.tmp 21)], #[24]⟩, none, []⟩,
    ⟨some 3, .alloc 24, none, []⟩,
    ⟨none, .store 24 (.tmp 3) (.tmp 22), none, []⟩])
  (.seq (.ops [⟨some 24, .load 24 (.tmp 1), none, []⟩,
    ⟨some 25, .call ⟨.value (.func 17), #[(.tmp 24)], #[24]⟩, none, []⟩,
    ⟨some 23, .move (.tmp 25), none, []⟩,
    ⟨some 26, .extract (.tmp 23) 0, none, []⟩,
    ⟨some 27, .extract (.tmp 23) 1, none, []⟩,
    ⟨some 4, .assign (.tmp 26), none, []⟩,
    ⟨some 5, .assign (.tmp 27), none, []⟩])
  (.seq (.ops [⟨some 29, .load 24 (.tmp 3), none, []⟩,
    ⟨some 30, .call ⟨.value (.func 17), #[(.tmp 29)], #[24]⟩, none, []⟩,
    ⟨some 28, .move (.tmp 30), none, []⟩,
    ⟨some 31, .extract (.tmp 28) 0, none, []⟩,
    ⟨some 32, .extract (.tmp 28) 1, none, []⟩,
    ⟨some 6, .assign (.tmp 31), none, []⟩,
    ⟨some 7, .assign (.tmp 32), none, []⟩])
  (.seq (.seq (.ops [⟨some 33, .move (.tmp 6), none, []⟩,
    ⟨some 34, .move (.tmp 4), none, []⟩,
    ⟨some 35, .binOp .gtr 3 (.tmp 33) (.tmp 34) 3, none, []⟩,
    ⟨some 36, .move (.tmp 35), none, []⟩,
    ⟨some 37, .move (.tmp 7), (some (36, false)), []⟩,
    ⟨some 38, .move (.tmp 5), (some (36, false)), []⟩,
    ⟨some 39, .binOp .gtr 3 (.tmp 37) (.tmp 38) 3, (some (36, false)), []⟩,
    ⟨some 40, .pick (.tmp 36) (.const (.bool true)) (.tmp 39), none, []⟩,
    ⟨some 41, .move (.tmp 40), none, []⟩,
    ⟨some 42, .fieldAddr 24 (.tmp 3) 0, (some (41, false)), []⟩,
    ⟨some 43, .load 22 (.tmp 42), (some (41, false)), []⟩,
    ⟨some 44, .call ⟨.builtin .len, #[(.tmp 43)], #[22]⟩, (some (41, false)), []⟩,
    ⟨some 45, .fieldAddr 24 (.tmp 1) 0, (some (41, false)), []⟩,
    ⟨some 46, .load 22 (.tmp 45), (some (41, false)), []⟩,
    ⟨some 47, .call ⟨.builtin .len, #[(.tmp 46)], #[22]⟩, (some (41, false)), []⟩,
    ⟨some 48, .binOp .neq 3 (.tmp 44) (.tmp 47) 3, (some (41, false)), []⟩,
    ⟨some 49, .pick (.tmp 41) (.const (.bool true)) (.tmp 48), none, []⟩,
    ⟨some 50, .move (.tmp 49), none, []⟩,
    ⟨some 51, .fieldAddr 24 (.tmp 3) 1, (some (50, false)), []⟩,
    ⟨some 52, .load 3 (.tmp 51), (some (50, false)), []⟩,
    ⟨some 53, .fieldAddr 24 (.tmp 1) 1, (some (50, false)), []⟩,
    ⟨some 54, .load 3 (.tmp 53), (some (50, false)), []⟩,
    ⟨some 55, .binOp .neq 3 (.tmp 52) (.tmp 54) 3, (some (50, false)), []⟩,
    ⟨some 56, .pick (.tmp 50) (.const (.bool true)) (.tmp 55), none, []⟩,
    ⟨some 57, .move (.tmp 56), none, []⟩,
    ⟨some 58, .fieldAddr 24 (.tmp 3) 2, (some (57, false)), []⟩,
    ⟨some 59, .load 3 (.tmp 58), (some (57, false)), []⟩,
    ⟨some 60, .fieldAddr 24 (.tmp 1) 2, (some (57, false)), []⟩,
    ⟨some 61, .load 3 (.tmp 60), (some (57, false)), []⟩,
    ⟨some 62, .binOp .neq 3 (.tmp 59) (.tmp 61) 3, (some (57, false)), []⟩,
    ⟨some 63, .pick (.tmp 57) (.const (.bool true)) (.tmp 62), none, []⟩])
  (.cond (.tmp 63)
    (.seq (.ops [⟨some 2, .assign (.const (.bool false)), none, []⟩])
    .ret)
    .skip))
  (.seq (.seq (.ops [⟨some 8, .assign (.const (.int .i64 0)), none, []⟩])
  (.block 0
   (.loop pc4_l3)))
  pc4_r4)))))))
theorem plan4 : Tryd.f4.body.bind (plan Tryd.f4.ntmps) = some pc4 := by kernel_rfl
theorem calls4 {G : Env} {args : List AV} {σ : AS} {R : Out → AS → Prop} (hn : args.length = 1) (h : avc Tryd.prog G 158 pc4 (afin Tryd.prog [.tmp 2] R) (frame0 args) σ) : ACalls Tryd.prog G 4 args σ R :=
  acalls' (n := 158) (l := [.tmp 2]) mixed Tryd.func4 (by kernel_rfl) (by kernel_rfl) plan4 (by omega) h

/- mortise/mortiselaw12.Big -/
def pc9_l1 : PC :=
  (.seq (.seq (.ops [⟨some 36, .move (.tmp 6), none, []⟩,
    ⟨some 37, .fieldAddr 37 (.tmp 5) 4, none, []⟩,
    ⟨some 38, .load 35 (.tmp 37), none, []⟩,
    ⟨some 39, .call ⟨.builtin .len, #[(.tmp 38)], #[35]⟩, none, []⟩,
    ⟨some 40, .binOp .lss 3 (.tmp 36) (.tmp 39) 3, none, []⟩])
  (.cond (.tmp 40)
    .skip
    (.exit 2)))
  (.seq (.block 3
   (.ops [⟨some 43, .move (.tmp 3), none, []⟩,
     ⟨some 44, .fieldAddr 37 (.tmp 5) 4, none, []⟩,
     ⟨some 45, .load 35 (.tmp 44), none, []⟩,
     ⟨some 46, .move (.tmp 6), none, []⟩,
     ⟨some 47, .indexAddr 35 (.tmp 45) (.tmp 46), none, []⟩,
     ⟨some 48, .load 38 (.tmp 47), none, []⟩,
     ⟨some 49, .call ⟨.builtin .len, #[(.tmp 48)], #[38]⟩, none, []⟩,
     ⟨some 50, .binOp .add 3 (.tmp 43) (.tmp 49) 3, none, []⟩,
     ⟨some 3, .assign (.tmp 50), none, []⟩]))
  (.ops [⟨some 41, .move (.tmp 6), none, []⟩,
    ⟨some 42, .binOp .add 3 (.tmp 41) (.const (.int .i64 1)) 3, none, []⟩,
    ⟨some 6, .assign (.tmp 42), none, []⟩])))
def pc9_r1 : PC :=
  (.seq (.ops [⟨some 51, .move (.tmp 3), none, []⟩,
    ⟨some 52, .binOp .gtr 3 (.tmp 51) (.const (.int .i64 3000)) 3, none, []⟩,
    ⟨some 53, .move (.tmp 52), none, []⟩,
    ⟨some 54, .fieldAddr 37 (.tmp 5) 4, (some (53, false)), []⟩,
    ⟨some 55, .load 35 (.tmp 54), (some (53, false)), []⟩,
    ⟨some 56, .call ⟨.builtin .len, #[(.tmp 55)], #[35]⟩, (some (53, false)), []⟩,
    ⟨some 57, .binOp .gtr 3 (.tmp 56) (.const (.int .i64 300)) 3, (some (53, false)), []⟩,
    ⟨some 58, .pick (.tmp 53) (.const (.bool true)) (.tmp 57), none, []⟩])
  (.cond (.tmp 58)
    (.seq (.ops [⟨some 2, .assign (.const (.bool true)), none, []⟩])
    .ret)
    .skip))
def pc9_r2 : PC :=
  (.ops [⟨some 16, .move (.tmp 4), none, []⟩,
    ⟨some 17, .binOp .add 3 (.tmp 16) (.const (.int .i64 1)) 3, none, []⟩,
    ⟨some 4, .assign (.tmp 17), none, []⟩])
def pc9_l2 : PC :=
  (.seq (.seq (.ops [⟨some 11, .move (.tmp 4), none, []⟩,
    ⟨some 12, .fieldAddr 24 (.tmp 1) 0, none, []⟩,
    ⟨some 13, .load 22 (.tmp 12), none, []⟩,
    ⟨some 14, .call ⟨.builtin .len, #[(.tmp 13)], #[22]⟩, none, []⟩,
    ⟨some 15, .binOp .lss 3 (.tmp 11) (.tmp 14) 3, none, []⟩])
  (.cond (.tmp 15)
    .skip
    (.exit 0)))
  (.seq (.block 1
   (.seq (.ops [⟨some 18, .fieldAddr 24 (.tmp 1) 0, none, []⟩,
     ⟨some 19, .load 22 (.tmp 18), none, []⟩,
     ⟨some 20, .move (.tmp 4), none, []⟩,
     ⟨some 21, .indexAddr 22 (.tmp 19) (.tmp 20), none, []⟩,
     ⟨some 22, .load 37 (.tmp 21), none, []⟩,
     ⟨some 5, .alloc 37, none, []⟩,
     ⟨none, .store 37 (.tmp 5) (.tmp 22), none, []⟩])
   (.seq (.ops [⟨some 23, .move (.tmp 3), none, []⟩,
     ⟨some 24, .fieldAddr 37 (.tmp 5) 1, none, []⟩,
     ⟨some 25, .load 34 (.tmp 24), none, []⟩,
     ⟨some 26, .call ⟨.builtin .len, #[(.tmp 25)], #[34]⟩, none, []⟩,
     ⟨some 27, .binOp .add 3 (.tmp 23) (.tmp 26) 3, none, []⟩,
     ⟨some 28, .fieldAddr 37 (.tmp 5) 2, none, []⟩,
     ⟨some 29, .load 34 (.tmp 28), none, []⟩,
     ⟨some 30, .call ⟨.builtin .len, #[(.tmp 29)], #[34]⟩, none, []⟩,
     ⟨some 31, .binOp .add 3 (.tmp 27) (.tmp 30) 3, none, []⟩,
     ⟨some 32, .fieldAddr 37 (.tmp 5) 4, none, []⟩,
     ⟨some 33, .load 35 (.tmp 32), none, []⟩,
     ⟨some 34, .call ⟨.builtin .len, #[(.tmp 33)], #[35]⟩, none, []⟩,
     ⟨some 35, .binOp .add 3 (.tmp 31) (.tmp 34) 3, none, []⟩,
     ⟨some 3, .assign (.tmp 35), none, []⟩])
   (.seq (.seq (.ops [⟨some 6, .assign (.const (.int .i64 0)), none, []⟩])
   (.block 2
    (.loop pc9_l1)))
   pc9_r1))))
  pc9_r2))
def pc9_r3 : PC :=
  (.seq (.ops [⟨some 2, .assign (.const (.bool false)), none, []⟩])
  .ret)
def pc9 : PC :=
  (.seq (.ops [⟨some 1, .box 24 (.tmp 0), none, []⟩,
    ⟨some 2, .assign (.const (.bool false)), none, []⟩])
  (.seq (.seq (.ops [⟨some 7, .fieldAddr 24 (.tmp 1) 0, none, []⟩,
    ⟨some 8, .load 22 (.tmp 7), none, []⟩,
    ⟨some 9, .call ⟨.builtin .len, #[(.tmp 8)], #[22]⟩, none, []⟩,
    ⟨some 10, .binOp .gtr 3 (.tmp 9) (.const (.int .i64 12)) 3, none, []⟩])
  (.cond (.tmp 10)
    (.seq (.ops [⟨some 2, .assign (.const (.bool true)), none, []⟩])
    .ret)
    .skip))
  (.seq (.ops [⟨some 3, .assign (.const (.int .i64 0)), none, []⟩])
  (.seq (.seq (.ops [⟨some 4, .assign (.const (.int .i64 0)), none, []⟩])
  (.block 0
   (.loop pc9_l2)))
  pc9_r3))))
theorem plan9 : Tryd.f9.body.bind (plan Tryd.f9.ntmps) = some pc9 := by kernel_rfl
theorem calls9 {G : Env} {args : List AV} {σ : AS} {R : Out → AS → Prop} (hn : args.length = 1) (h : avc Tryd.prog G 59 pc9 (afin Tryd.prog [.tmp 2] R) (frame0 args) σ) : ACalls Tryd.prog G 9 args σ R :=
  acalls' (n := 59) (l := [.tmp 2]) mixed Tryd.func9 (by kernel_rfl) (by kernel_rfl) plan9 (by omega) h

/- NOT PLANNED WHOLE: 10 mortise/wasm.Check -/
def pc10_x : PC :=
  (.ops [⟨some 1, .box 24 (.tmp 0), none, []⟩,
    ⟨some 2, .alloc 26, none, []⟩])
def pc10_z_l1 : PC :=
  (.seq (.ops [⟨some 19, .binOp .lss 3 (.tmp 18) (.tmp 17) 3, none, []⟩])
  (.seq (.cond (.tmp 19)
    .skip
    (.exit 0))
  (.seq (.block 1
   (.seq (.ops [⟨some 20, .indexAddr 22 (.tmp 16) (.tmp 18), none, []⟩,
     ⟨some 21, .load 37 (.tmp 20), none, []⟩,
     ⟨some 4, .alloc 37, none, []⟩,
     ⟨none, .store 37 (.tmp 4) (.tmp 21), none, []⟩])
   (.ops [⟨some 22, .load 24 (.tmp 1), none, []⟩,
     ⟨some 23, .load 37 (.tmp 4), none, []⟩,
     ⟨some 24, .build 65 #[(0, (.tmp 22)), (1, (.tmp 23))], none, []⟩,
     ⟨some 25, .box 65 (.tmp 24), none, []⟩,
     ⟨some 26, .call ⟨.value (.func 30), #[(.tmp 25)], #[63]⟩, none, []⟩])))
  (.ops [⟨some 27, .binOp .add 3 (.tmp 18) (.const (.int .i64 1)) 3, none, []⟩,
    ⟨some 18, .move (.tmp 27), none, []⟩]))))
def pc10_z_r1 : PC :=
  (.seq (.ops [⟨some 28, .fieldAddr 24 (.tmp 1) 2, none, []⟩,
    ⟨some 29, .load 3 (.tmp 28), none, []⟩,
    ⟨some 30, .binOp .geq 3 (.tmp 29) (.const (.int .i64 0)) 3, none, []⟩,
    ⟨some 31, .move (.tmp 30), none, []⟩,
    ⟨some 32, .fieldAddr 24 (.tmp 1) 2, (some (31, true)), []⟩,
    ⟨some 33, .load 3 (.tmp 32), (some (31, true)), []⟩,
    ⟨some 34, .fieldAddr 24 (.tmp 1) 0, (some (31, true)), []⟩,
    ⟨some 35, .load 22 (.tmp 34), (some (31, true)), []⟩,
    ⟨some 36, .call ⟨.builtin .len, #[(.tmp 35)], #[22]⟩, (some (31, true)), []⟩,
    ⟨some 37, .binOp .lss 3 (.tmp 33) (.tmp 36) 3, (some (31, true)), []⟩,
    ⟨some 38, .pick (.tmp 31) (.tmp 37) (.const (.bool false)), none, []⟩,
    ⟨some 39, .move (.tmp 38), none, []⟩,
    ⟨some 40, .fieldAddr 24 (.tmp 1) 0, (some (39, true)), []⟩,
    ⟨some 41, .load 22 (.tmp 40), (some (39, true)), []⟩,
    ⟨some 42, .fieldAddr 24 (.tmp 1) 2, (some (39, true)), []⟩,
    ⟨some 43, .load 3 (.tmp 42), (some (39, true)), []⟩,
    ⟨some 44, .indexAddr 22 (.tmp 41) (.tmp 43), (some (39, true)), []⟩,
    ⟨some 45, .fieldAddr 37 (.tmp 44) 3, (some (39, true)), []⟩,
    ⟨some 46, .load 3 (.tmp 45), (some (39, true)), []⟩,
    ⟨some 47, .binOp .eql 3 (.tmp 46) (.const (.int .i64 1)) 3, (some (39, true)), []⟩,
    ⟨some 48, .pick (.tmp 39) (.tmp 47) (.const (.bool false)), none, []⟩,
    ⟨some 49, .move (.tmp 48), none, []⟩,
    ⟨some 50, .fieldAddr 24 (.tmp 1) 0, (some (49, true)), []⟩,
    ⟨some 51, .load 22 (.tmp 50), (some (49, true)), []⟩,
    ⟨some 52, .fieldAddr 24 (.tmp 1) 2, (some (49, true)), []⟩,
    ⟨some 53, .load 3 (.tmp 52), (some (49, true)), []⟩,
    ⟨some 54, .indexAddr 22 (.tmp 51) (.tmp 53), (some (49, true)), []⟩,
    ⟨some 55, .fieldAddr 37 (.tmp 54) 1, (some (49, true)), []⟩,
    ⟨some 56, .load 34 (.tmp 55), (some (49, true)), []⟩,
    ⟨some 57, .call ⟨.builtin .len, #[(.tmp 56)], #[34]⟩, (some (49, true)), []⟩,
    ⟨some 58, .binOp .eql 3 (.tmp 57) (.const (.int .i64 0)) 3, (some (49, true)), []⟩,
    ⟨some 59, .pick (.tmp 49) (.tmp 58) (.const (.bool false)), none, []⟩,
    ⟨some 60, .call ⟨.value (.func 29), #[(.tmp 59), (.const (.int .i64 12))], #[4, 26]⟩, none, []⟩])
  (.seq (.ops [⟨none, .store 26 (.tmp 2) (.const (.int .i64 0)), none, []⟩])
  .ret))
def pc10_z : PC :=
  (.seq (.ops [⟨some 6, .fieldAddr 24 (.tmp 1) 1, none, []⟩,
    ⟨some 7, .load 3 (.tmp 6), none, []⟩,
    ⟨some 8, .binOp .geq 3 (.tmp 7) (.const (.int .i64 0)) 3, none, []⟩,
    ⟨some 9, .move (.tmp 8), none, []⟩,
    ⟨some 10, .fieldAddr 24 (.tmp 1) 1, (some (9, true)), []⟩,
    ⟨some 11, .load 3 (.tmp 10), (some (9, true)), []⟩,
    ⟨some 12, .binOp .leq 3 (.tmp 11) (.const (.int .i64 4096)) 3, (some (9, true)), []⟩,
    ⟨some 13, .pick (.tmp 9) (.tmp 12) (.const (.bool false)), none, []⟩,
    ⟨some 14, .call ⟨.value (.func 29), #[(.tmp 13), (.const (.int .i64 11))], #[4, 26]⟩, none, []⟩])
  (.seq (.seq (.ops [⟨some 15, .fieldAddr 24 (.tmp 1) 0, none, []⟩,
    ⟨some 16, .load 22 (.tmp 15), none, []⟩,
    ⟨some 17, .call ⟨.builtin .len, #[(.tmp 16)], #[22]⟩, none, []⟩,
    ⟨some 18, .move (.const (.int .i64 0)), none, []⟩])
  (.block 0
   (.loop pc10_z_l1)))
  pc10_z_r1))
/- mortise/mortiselaw22.known -/
def pc11 : PC :=
  (.seq (.ops [⟨some 0, .assign (.const (.bool false)), none, []⟩])
  (.seq (.ops [⟨some 1, .call ⟨.value (.func 32), #[], #[]⟩, none, []⟩,
    ⟨some 2, .call ⟨.value (.func 33), #[], #[]⟩, none, []⟩,
    ⟨some 3, .call ⟨.value (.func 34), #[(.const (.int .i64 1))], #[3]⟩, none, []⟩,
    ⟨some 4, .call ⟨.value (.func 35), #[], #[]⟩, none, []⟩,
    ⟨some 5, .build 40 #[(0, (.const (.int .i64 3)))], none, []⟩,
    ⟨some 6, .call ⟨.value (.func 34), #[(.const (.int .i64 5))], #[3]⟩, none, []⟩,
    ⟨some 7, .buildSlice 38 6 #[(0, (.tmp 1)), (1, (.tmp 2)), (2, (.tmp 3)), (3, (.tmp 4)), (4, (.tmp 5)), (5, (.tmp 6))], none, []⟩,
    ⟨some 8, .call ⟨.value (.func 34), #[(.const (.int .i64 0))], #[3]⟩, none, []⟩,
    ⟨some 9, .build 40 #[(0, (.const (.int .i64 3)))], none, []⟩,
    ⟨some 10, .call ⟨.value (.func 34), #[(.const (.int .i64 5))], #[3]⟩, none, []⟩,
    ⟨some 11, .buildSlice 38 3 #[(0, (.tmp 8)), (1, (.tmp 9)), (2, (.tmp 10))], none, []⟩,
    ⟨some 12, .call ⟨.value (.func 31), #[(.tmp 7), (.tmp 11)], #[38, 38]⟩, none, []⟩,
    ⟨some 0, .assign (.tmp 12), none, []⟩])
  .ret))
theorem plan11 : Tryd.f11.body.bind (plan Tryd.f11.ntmps) = some pc11 := by kernel_rfl
theorem calls11 {G : Env} {args : List AV} {σ : AS} {R : Out → AS → Prop} (hn : args.length = 0) (h : avc Tryd.prog G 13 pc11 (afin Tryd.prog [.tmp 0] R) (frame0 args) σ) : ACalls Tryd.prog G 11 args σ R :=
  acalls' (n := 13) (l := [.tmp 0]) mixed Tryd.func11 (by kernel_rfl) (by kernel_rfl) plan11 (by omega) h

/- mortise/mortisekit.CopyWModule -/
def pc12 : PC :=
  (.seq (.ops [⟨some 1, .box 24 (.tmp 0), none, []⟩,
    ⟨some 2, .alloc 24, none, []⟩])
  (.seq (.ops [⟨some 3, .fieldAddr 24 (.tmp 1) 0, none, []⟩,
    ⟨some 4, .load 22 (.tmp 3), none, []⟩,
    ⟨some 5, .call ⟨.value (.func 36), #[(.tmp 4)], #[22]⟩, none, []⟩,
    ⟨some 6, .fieldAddr 24 (.tmp 1) 0, none, []⟩,
    ⟨none, .store 22 (.tmp 6) (.tmp 5), none, []⟩])
  (.seq (.ops [⟨some 7, .load 24 (.tmp 1), none, []⟩,
    ⟨none, .store 24 (.tmp 2) (.tmp 7), none, []⟩])
  .ret)))
theorem plan12 : Tryd.f12.body.bind (plan Tryd.f12.ntmps) = some pc12 := by kernel_rfl
theorem calls12 {G : Env} {args : List AV} {σ : AS} {R : Out → AS → Prop} (hn : args.length = 1) (h : avc Tryd.prog G 8 pc12 (afin Tryd.prog [.cell 2 24] R) (frame0 args) σ) : ACalls Tryd.prog G 12 args σ R :=
  acalls' (n := 8) (l := [.cell 2 24]) mixed Tryd.func12 (by kernel_rfl) (by kernel_rfl) plan12 (by omega) h

/- mortise/peep.Peep -/
def pc13_l1 : PC :=
  (.seq (.ops [⟨some 16, .binOp .lss 3 (.tmp 15) (.tmp 14) 3, none, []⟩])
  (.seq (.cond (.tmp 16)
    .skip
    (.exit 0))
  (.seq (.block 1
   (.seq (.ops [⟨some 17, .indexAddr 22 (.tmp 13) (.tmp 15), none, []⟩,
     ⟨some 18, .load 37 (.tmp 17), none, []⟩,
     ⟨some 5, .alloc 37, none, []⟩,
     ⟨none, .store 37 (.tmp 5) (.tmp 18), none, []⟩])
   (.seq (.ops [⟨some 19, .fieldAddr 37 (.tmp 5) 4, none, []⟩,
     ⟨some 20, .load 35 (.tmp 19), none, []⟩,
     ⟨some 21, .build 72 #[(0, (.tmp 20))], none, []⟩,
     ⟨some 22, .box 72 (.tmp 21), none, []⟩,
     ⟨some 6, .assign (.tmp 22), none, []⟩])
   (.seq (.ops [⟨some 23, .move (.tmp 6), none, []⟩,
     ⟨some 24, .fieldAddr 37 (.tmp 5) 4, none, []⟩,
     ⟨some 25, .load 35 (.tmp 24), none, []⟩,
     ⟨some 26, .call ⟨.builtin .len, #[(.tmp 25)], #[35]⟩, none, []⟩,
     ⟨some 27, .binOp .sub 3 (.tmp 26) (.const (.int .i64 1)) 3, none, []⟩,
     ⟨some 28, .call ⟨.value (.func 37), #[(.tmp 23), (.tmp 27)], #[70, 3]⟩, none, []⟩])
   (.seq (.ops [⟨some 29, .fieldAddr 37 (.tmp 5) 1, none, []⟩,
     ⟨some 30, .load 34 (.tmp 29), none, []⟩,
     ⟨some 32, .fieldAddr 37 (.tmp 5) 2, none, []⟩,
     ⟨some 33, .load 34 (.tmp 32), none, []⟩,
     ⟨some 35, .move (.tmp 6), none, []⟩,
     ⟨some 36, .nilCheck (.tmp 35), none, []⟩,
     ⟨some 37, .fieldAddr 72 (.tmp 36) 1, none, []⟩,
     ⟨some 38, .load 35 (.tmp 37), none, []⟩,
     ⟨some 31, .call ⟨.value (.func 38), #[(.tmp 30)], #[34]⟩, none, [⟨none, 34, (.tmp 32), 33⟩, ⟨none, 35, (.tmp 37), 38⟩]⟩,
     ⟨some 39, .fieldAddr 37 (.tmp 5) 1, none, []⟩,
     ⟨some 34, .call ⟨.value (.func 38), #[(.tmp 33)], #[34]⟩, none, [⟨none, 35, (.tmp 37), 38⟩]⟩,
     ⟨none, .store 34 (.tmp 39) (.tmp 31), none, [⟨none, 35, (.tmp 37), 38⟩]⟩,
     ⟨some 40, .fieldAddr 37 (.tmp 5) 2, none, []⟩,
     ⟨none, .store 34 (.tmp 40) (.tmp 34), none, [⟨none, 35, (.tmp 37), 38⟩]⟩,
     ⟨some 41, .fieldAddr 37 (.tmp 5) 4, none, []⟩,
     ⟨none, .store 35 (.tmp 41) (.tmp 38), none, []⟩])
   (.ops [⟨some 42, .fieldAddr 24 (.tmp 3) 0, none, []⟩,
     ⟨some 43, .load 22 (.tmp 42), none, []⟩,
     ⟨some 44, .load 37 (.tmp 5), none, []⟩,
     ⟨some 45, .buildSlice 22 1 #[(0, (.tmp 44))], none, []⟩,
     ⟨some 46, .call ⟨.builtin .append, #[(.tmp 43), (.tmp 45)], #[22, 22]⟩, none, []⟩,
     ⟨some 47, .fieldAddr 24 (.tmp 3) 0, none, []⟩,
     ⟨none, .store 22 (.tmp 47) (.tmp 46), none, []⟩]))))))
  (.ops [⟨some 48, .binOp .add 3 (.tmp 15) (.const (.int .i64 1)) 3, none, []⟩,
    ⟨some 15, .move (.tmp 48), none, []⟩]))))
def pc13_r1 : PC :=
  (.seq (.ops [⟨some 49, .load 24 (.tmp 3), none, []⟩,
    ⟨none, .store 24 (.tmp 2) (.tmp 49), none, []⟩])
  .ret)
def pc13 : PC :=
  (.seq (.ops [⟨some 1, .box 24 (.tmp 0), none, []⟩,
    ⟨some 2, .alloc 24, none, []⟩])
  (.seq (.ops [⟨some 7, .fieldAddr 24 (.tmp 1) 1, none, []⟩,
    ⟨some 8, .load 3 (.tmp 7), none, []⟩,
    ⟨some 9, .fieldAddr 24 (.tmp 1) 2, none, []⟩,
    ⟨some 10, .load 3 (.tmp 9), none, []⟩,
    ⟨some 11, .build 24 #[(1, (.tmp 8)), (2, (.tmp 10))], none, []⟩,
    ⟨some 3, .alloc 24, none, []⟩,
    ⟨none, .store 24 (.tmp 3) (.tmp 11), none, []⟩])
  (.seq (.seq (.ops [⟨some 12, .fieldAddr 24 (.tmp 1) 0, none, []⟩,
    ⟨some 13, .load 22 (.tmp 12), none, []⟩,
    ⟨some 14, .call ⟨.builtin .len, #[(.tmp 13)], #[22]⟩, none, []⟩,
    ⟨some 15, .move (.const (.int .i64 0)), none, []⟩])
  (.block 0
   (.loop pc13_l1)))
  pc13_r1)))
theorem plan13 : Tryd.f13.body.bind (plan Tryd.f13.ntmps) = some pc13 := by kernel_rfl
theorem calls13 {G : Env} {args : List AV} {σ : AS} {R : Out → AS → Prop} (hn : args.length = 1) (h : avc Tryd.prog G 50 pc13 (afin Tryd.prog [.cell 2 24] R) (frame0 args) σ) : ACalls Tryd.prog G 13 args σ R :=
  acalls' (n := 50) (l := [.cell 2 24]) mixed Tryd.func13 (by kernel_rfl) (by kernel_rfl) plan13 (by omega) h

/- mortise/mortisekit.SameWModule -/
def pc14 : PC :=
  (.seq (.ops [⟨some 2, .box 24 (.tmp 0), none, []⟩,
    ⟨some 3, .box 24 (.tmp 1), none, []⟩,
    ⟨some 4, .assign (.const (.bool false)), none, []⟩])
  (.seq (.ops [⟨some 5, .fieldAddr 24 (.tmp 2) 1, none, []⟩,
    ⟨some 6, .load 3 (.tmp 5), none, []⟩,
    ⟨some 7, .fieldAddr 24 (.tmp 3) 1, none, []⟩,
    ⟨some 8, .load 3 (.tmp 7), none, []⟩,
    ⟨some 9, .binOp .eql 3 (.tmp 6) (.tmp 8) 3, none, []⟩,
    ⟨some 10, .move (.tmp 9), none, []⟩,
    ⟨some 11, .fieldAddr 24 (.tmp 2) 2, (some (10, true)), []⟩,
    ⟨some 12, .load 3 (.tmp 11), (some (10, true)), []⟩,
    ⟨some 13, .fieldAddr 24 (.tmp 3) 2, (some (10, true)), []⟩,
    ⟨some 14, .load 3 (.tmp 13), (some (10, true)), []⟩,
    ⟨some 15, .binOp .eql 3 (.tmp 12) (.tmp 14) 3, (some (10, true)), []⟩,
    ⟨some 16, .pick (.tmp 10) (.tmp 15) (.const (.bool false)), none, []⟩,
    ⟨some 17, .move (.tmp 16), none, []⟩,
    ⟨some 18, .fieldAddr 24 (.tmp 2) 0, (some (17, true)), []⟩,
    ⟨some 19, .load 22 (.tmp 18), (some (17, true)), []⟩,
    ⟨some 20, .fieldAddr 24 (.tmp 3) 0, (some (17, true)), []⟩,
    ⟨some 21, .load 22 (.tmp 20), (some (17, true)), []⟩,
    ⟨some 22, .call ⟨.value (.func 39), #[(.tmp 19), (.tmp 21)], #[22, 22]⟩, (some (17, true)), []⟩,
    ⟨some 23, .pick (.tmp 17) (.tmp 22) (.const (.bool false)), none, []⟩,
    ⟨some 4, .assign (.tmp 23), none, []⟩])
  .ret))
theorem plan14 : Tryd.f14.body.bind (plan Tryd.f14.ntmps) = some pc14 := by kernel_rfl
theorem calls14 {G : Env} {args : List AV} {σ : AS} {R : Out → AS → Prop} (hn : args.length = 2) (h : avc Tryd.prog G 24 pc14 (afin Tryd.prog [.tmp 4] R) (frame0 args) σ) : ACalls Tryd.prog G 14 args σ R :=
  acalls' (n := 24) (l := [.tmp 4]) mixed Tryd.func14 (by kernel_rfl) (by kernel_rfl) plan14 (by omega) h

/- mortise/mortiseref22.Peep -/
def pc15_l1 : PC :=
  (.seq (.seq (.ops [⟨some 8, .move (.tmp 4), none, []⟩,
    ⟨some 9, .fieldAddr 24 (.tmp 1) 0, none, []⟩,
    ⟨some 10, .load 22 (.tmp 9), none, []⟩,
    ⟨some 11, .call ⟨.builtin .len, #[(.tmp 10)], #[22]⟩, none, []⟩,
    ⟨some 12, .binOp .lss 3 (.tmp 8) (.tmp 11) 3, none, []⟩])
  (.cond (.tmp 12)
    .skip
    (.exit 0)))
  (.seq (.block 1
   (.seq (.ops [⟨some 15, .fieldAddr 24 (.tmp 1) 0, none, []⟩,
     ⟨some 16, .load 22 (.tmp 15), none, []⟩,
     ⟨some 17, .move (.tmp 4), none, []⟩,
     ⟨some 18, .indexAddr 22 (.tmp 16) (.tmp 17), none, []⟩,
     ⟨some 19, .fieldAddr 37 (.tmp 18) 4, none, []⟩,
     ⟨some 20, .load 35 (.tmp 19), none, []⟩,
     ⟨some 21, .build 78 #[(0, (.tmp 20))], none, []⟩,
     ⟨some 22, .box 78 (.tmp 21), none, []⟩,
     ⟨some 5, .assign (.tmp 22), none, []⟩])
   (.seq (.ops [⟨some 23, .move (.tmp 5), none, []⟩,
     ⟨some 24, .move (.tmp 5), none, []⟩,
     ⟨some 25, .nilCheck (.tmp 24), none, []⟩,
     ⟨some 26, .fieldAddr 78 (.tmp 25) 0, none, []⟩,
     ⟨some 27, .load 35 (.tmp 26), none, []⟩,
     ⟨some 28, .call ⟨.builtin .len, #[(.tmp 27)], #[35]⟩, none, []⟩,
     ⟨some 29, .binOp .sub 3 (.tmp 28) (.const (.int .i64 1)) 3, none, []⟩,
     ⟨some 30, .call ⟨.value (.func 40), #[(.tmp 23), (.tmp 29)], #[76, 3]⟩, none, []⟩])
   (.ops [⟨some 31, .fieldAddr 24 (.tmp 3) 0, none, []⟩,
     ⟨some 32, .load 22 (.tmp 31), none, []⟩,
     ⟨some 33, .move (.tmp 4), none, []⟩,
     ⟨some 34, .move (.tmp 5), none, []⟩,
     ⟨some 35, .nilCheck (.tmp 34), none, []⟩,
     ⟨some 36, .fieldAddr 78 (.tmp 35) 1, none, []⟩,
     ⟨some 37, .load 35 (.tmp 36), none, []⟩,
     ⟨some 38, .indexAddr 22 (.tmp 32) (.tmp 33), none, []⟩,
     ⟨some 39, .fieldAddr 37 (.tmp 38) 4, none, []⟩,
     ⟨none, .store 35 (.tmp 39) (.tmp 37), none, []⟩]))))
  (.ops [⟨some 13, .move (.tmp 4), none, []⟩,
    ⟨some 14, .binOp .add 3 (.tmp 13) (.const (.int .i64 1)) 3, none, []⟩,
    ⟨some 4, .assign (.tmp 14), none, []⟩])))
def pc15_r1 : PC :=
  (.seq (.ops [⟨some 40, .load 24 (.tmp 3), none, []⟩,
    ⟨none, .store 24 (.tmp 2) (.tmp 40), none, []⟩])
  .ret)
def pc15 : PC :=
  (.seq (.ops [⟨some 1, .box 24 (.tmp 0), none, []⟩,
    ⟨some 2, .alloc 24, none, []⟩])
  (.seq (.ops [⟨some 6, .load 24 (.tmp 1), none, []⟩,
    ⟨some 7, .call ⟨.value (.func 12), #[(.tmp 6)], #[24]⟩, none, []⟩,
    ⟨some 3, .alloc 24, none, []⟩,
    ⟨none, .store 24 (.tmp 3) (.tmp 7), none, []⟩])
  (.seq (.seq (.ops [⟨some 4, .assign (.const (.int .i64 0)), none, []⟩])
  (.block 0
   (.loop pc15_l1)))
  pc15_r1)))
theorem plan15 : Tryd.f15.body.bind (plan Tryd.f15.ntmps) = some pc15 := by kernel_rfl
theorem calls15 {G : Env} {args : List AV} {σ : AS} {R : Out → AS → Prop} (hn : args.length = 1) (h : avc Tryd.prog G 41 pc15 (afin Tryd.prog [.cell 2 24] R) (frame0 args) σ) : ACalls Tryd.prog G 15 args σ R :=
  acalls' (n := 41) (l := [.cell 2 24]) mixed Tryd.func15 (by kernel_rfl) (by kernel_rfl) plan15 (by omega) h

/- mortise/mortisekit.SpoilWModule -/
def pc16_l1 : PC :=
  (.seq (.seq (.ops [⟨some 25, .move (.tmp 3), none, []⟩,
    ⟨some 26, .fieldAddr 24 (.tmp 1) 0, none, []⟩,
    ⟨some 27, .load 22 (.tmp 26), none, []⟩,
    ⟨some 28, .move (.tmp 2), none, []⟩,
    ⟨some 29, .indexAddr 22 (.tmp 27) (.tmp 28), none, []⟩,
    ⟨some 30, .fieldAddr 37 (.tmp 29) 4, none, []⟩,
    ⟨some 31, .load 35 (.tmp 30), none, []⟩,
    ⟨some 32, .call ⟨.builtin .len, #[(.tmp 31)], #[35]⟩, none, []⟩,
    ⟨some 33, .binOp .lss 3 (.tmp 25) (.tmp 32) 3, none, []⟩])
  (.cond (.tmp 33)
    .skip
    (.exit 2)))
  (.seq (.block 3
   (.ops [⟨some 36, .fieldAddr 24 (.tmp 1) 0, none, []⟩,
     ⟨some 37, .load 22 (.tmp 36), none, []⟩,
     ⟨some 38, .move (.tmp 2), none, []⟩,
     ⟨some 39, .indexAddr 22 (.tmp 37) (.tmp 38), none, []⟩,
     ⟨some 40, .fieldAddr 37 (.tmp 39) 4, none, []⟩,
     ⟨some 41, .load 35 (.tmp 40), none, []⟩,
     ⟨some 42, .move (.tmp 3), none, []⟩,
     ⟨some 43, .indexAddr 35 (.tmp 41) (.tmp 42), none, []⟩,
     ⟨some 44, .load 38 (.tmp 43), none, []⟩,
     ⟨some 45, .call ⟨.value (.func 42), #[(.tmp 44)], #[38]⟩, none, []⟩]))
  (.ops [⟨some 34, .move (.tmp 3), none, []⟩,
    ⟨some 35, .binOp .add 3 (.tmp 34) (.const (.int .i64 1)) 3, none, []⟩,
    ⟨some 3, .assign (.tmp 35), none, []⟩])))
def pc16_r1 : PC :=
  (.ops [⟨some 46, .fieldAddr 24 (.tmp 1) 0, none, []⟩,
    ⟨some 47, .load 22 (.tmp 46), none, []⟩,
    ⟨some 48, .move (.tmp 2), none, []⟩,
    ⟨some 49, .indexAddr 22 (.tmp 47) (.tmp 48), none, []⟩,
    ⟨some 50, .fieldAddr 37 (.tmp 49) 4, none, []⟩,
    ⟨some 51, .load 35 (.tmp 50), none, []⟩,
    ⟨some 52, .call ⟨.value (.func 43), #[(.tmp 51)], #[35]⟩, none, []⟩])
def pc16_r2 : PC :=
  (.ops [⟨some 9, .move (.tmp 2), none, []⟩,
    ⟨some 10, .binOp .add 3 (.tmp 9) (.const (.int .i64 1)) 3, none, []⟩,
    ⟨some 2, .assign (.tmp 10), none, []⟩])
def pc16_l2 : PC :=
  (.seq (.seq (.ops [⟨some 4, .move (.tmp 2), none, []⟩,
    ⟨some 5, .fieldAddr 24 (.tmp 1) 0, none, []⟩,
    ⟨some 6, .load 22 (.tmp 5), none, []⟩,
    ⟨some 7, .call ⟨.builtin .len, #[(.tmp 6)], #[22]⟩, none, []⟩,
    ⟨some 8, .binOp .lss 3 (.tmp 4) (.tmp 7) 3, none, []⟩])
  (.cond (.tmp 8)
    .skip
    (.exit 0)))
  (.seq (.block 1
   (.seq (.ops [⟨some 11, .fieldAddr 24 (.tmp 1) 0, none, []⟩,
     ⟨some 12, .load 22 (.tmp 11), none, []⟩,
     ⟨some 13, .move (.tmp 2), none, []⟩,
     ⟨some 14, .indexAddr 22 (.tmp 12) (.tmp 13), none, []⟩,
     ⟨some 15, .fieldAddr 37 (.tmp 14) 1, none, []⟩,
     ⟨some 16, .load 34 (.tmp 15), none, []⟩,
     ⟨some 17, .call ⟨.value (.func 41), #[(.tmp 16)], #[34]⟩, none, []⟩])
   (.seq (.ops [⟨some 18, .fieldAddr 24 (.tmp 1) 0, none, []⟩,
     ⟨some 19, .load 22 (.tmp 18), none, []⟩,
     ⟨some 20, .move (.tmp 2), none, []⟩,
     ⟨some 21, .indexAddr 22 (.tmp 19) (.tmp 20), none, []⟩,
     ⟨some 22, .fieldAddr 37 (.tmp 21) 2, none, []⟩,
     ⟨some 23, .load 34 (.tmp 22), none, []⟩,
     ⟨some 24, .call ⟨.value (.func 41), #[(.tmp 23)], #[34]⟩, none, []⟩])
   (.seq (.seq (.ops [⟨some 3, .assign (.const (.int .i64 0)), none, []⟩])
   (.block 2
    (.loop pc16_l1)))
   pc16_r1))))
  pc16_r2))
def pc16_r3 : PC :=
  (.ops [⟨some 53, .fieldAddr 24 (.tmp 1) 0, none, []⟩,
    ⟨some 54, .load 22 (.tmp 53), none, []⟩,
    ⟨some 55, .call ⟨.value (.func 44), #[(.tmp 54)], #[22]⟩, none, []⟩])
def pc16 : PC :=
  (.seq (.ops [⟨some 1, .box 24 (.tmp 0), none, []⟩])
  (.seq (.seq (.ops [⟨some 2, .assign (.const (.int .i64 0)), none, []⟩])
  (.block 0
   (.loop pc16_l2)))
  pc16_r3))
theorem plan16 : Tryd.f16.body.bind (plan Tryd.f16.ntmps) = some pc16 := by kernel_rfl
theorem calls16 {G : Env} {args : List AV} {σ : AS} {R : Out → AS → Prop} (hn : args.length = 1) (h : avc Tryd.prog G 56 pc16 (afin Tryd.prog [] R) (frame0 args) σ) : ACalls Tryd.prog G 16 args σ R :=
  acalls' (n := 56) (l := []) mixed Tryd.func16 (by kernel_rfl) (by kernel_rfl) plan16 (by omega) h

/- mortise/mortiselaw22.size -/
def pc17_l1 : PC :=
  (.seq (.seq (.ops [⟨some 24, .move (.tmp 7), none, []⟩,
    ⟨some 25, .fieldAddr 24 (.tmp 1) 0, none, []⟩,
    ⟨some 26, .load 22 (.tmp 25), none, []⟩,
    ⟨some 27, .move (.tmp 6), none, []⟩,
    ⟨some 28, .indexAddr 22 (.tmp 26) (.tmp 27), none, []⟩,
    ⟨some 29, .fieldAddr 37 (.tmp 28) 4, none, []⟩,
    ⟨some 30, .load 35 (.tmp 29), none, []⟩,
    ⟨some 31, .call ⟨.builtin .len, #[(.tmp 30)], #[35]⟩, none, []⟩,
    ⟨some 32, .binOp .lss 3 (.tmp 24) (.tmp 31) 3, none, []⟩])
  (.cond (.tmp 32)
    .skip
    (.exit 2)))
  (.seq (.block 3
   (.ops [⟨some 35, .move (.tmp 4), none, []⟩,
     ⟨some 36, .fieldAddr 24 (.tmp 1) 0, none, []⟩,
     ⟨some 37, .load 22 (.tmp 36), none, []⟩,
     ⟨some 38, .move (.tmp 6), none, []⟩,
     ⟨some 39, .indexAddr 22 (.tmp 37) (.tmp 38), none, []⟩,
     ⟨some 40, .fieldAddr 37 (.tmp 39) 4, none, []⟩,
     ⟨some 41, .load 35 (.tmp 40), none, []⟩,
     ⟨some 42, .move (.tmp 7), none, []⟩,
     ⟨some 43, .indexAddr 35 (.tmp 41) (.tmp 42), none, []⟩,
     ⟨some 44, .load 38 (.tmp 43), none, []⟩,
     ⟨some 45, .call ⟨.builtin .len, #[(.tmp 44)], #[38]⟩, none, []⟩,
     ⟨some 46, .binOp .add 3 (.tmp 35) (.tmp 45) 3, none, []⟩,
     ⟨some 4, .assign (.tmp 46), none, []⟩]))
  (.ops [⟨some 33, .move (.tmp 7), none, []⟩,
    ⟨some 34, .binOp .add 3 (.tmp 33) (.const (.int .i64 1)) 3, none, []⟩,
    ⟨some 7, .assign (.tmp 34), none, []⟩])))
def pc17_r1 : PC :=
  (.ops [⟨some 13, .move (.tmp 6), none, []⟩,
    ⟨some 14, .binOp .add 3 (.tmp 13) (.const (.int .i64 1)) 3, none, []⟩,
    ⟨some 6, .assign (.tmp 14), none, []⟩])
def pc17_l2 : PC :=
  (.seq (.seq (.ops [⟨some 8, .move (.tmp 6), none, []⟩,
    ⟨some 9, .fieldAddr 24 (.tmp 1) 0, none, []⟩,
    ⟨some 10, .load 22 (.tmp 9), none, []⟩,
    ⟨some 11, .call ⟨.builtin .len, #[(.tmp 10)], #[22]⟩, none, []⟩,
    ⟨some 12, .binOp .lss 3 (.tmp 8) (.tmp 11) 3, none, []⟩])
  (.cond (.tmp 12)
    .skip
    (.exit 0)))
  (.seq (.block 1
   (.seq (.ops [⟨some 15, .move (.tmp 5), none, []⟩,
     ⟨some 16, .fieldAddr 24 (.tmp 1) 0, none, []⟩,
     ⟨some 17, .load 22 (.tmp 16), none, []⟩,
     ⟨some 18, .move (.tmp 6), none, []⟩,
     ⟨some 19, .indexAddr 22 (.tmp 17) (.tmp 18), none, []⟩,
     ⟨some 20, .fieldAddr 37 (.tmp 19) 4, none, []⟩,
     ⟨some 21, .load 35 (.tmp 20), none, []⟩,
     ⟨some 22, .call ⟨.builtin .len, #[(.tmp 21)], #[35]⟩, none, []⟩,
     ⟨some 23, .binOp .add 3 (.tmp 15) (.tmp 22) 3, none, []⟩,
     ⟨some 5, .assign (.tmp 23), none, []⟩])
   (.seq (.ops [⟨some 7, .assign (.const (.int .i64 0)), none, []⟩])
   (.block 2
    (.loop pc17_l1)))))
  pc17_r1))
def pc17_r2 : PC :=
  (.seq (.ops [⟨some 47, .move (.tmp 4), none, []⟩,
    ⟨some 48, .move (.tmp 5), none, []⟩,
    ⟨some 2, .assign (.tmp 47), none, []⟩,
    ⟨some 3, .assign (.tmp 48), none, []⟩])
  .ret)
def pc17 : PC :=
  (.seq (.ops [⟨some 1, .box 24 (.tmp 0), none, []⟩,
    ⟨some 2, .assign (.const (.int .i64 0)), none, []⟩,
    ⟨some 3, .assign (.const (.int .i64 0)), none, []⟩])
  (.seq (.ops [⟨some 4, .assign (.const (.int .i64 0)), none, []⟩,
    ⟨some 5, .assign (.const (.int .i64 0)), none, []⟩])
  (.seq (.seq (.ops [⟨some 6, .assign (.const (.int .i64 0)), none, []⟩])
  (.block 0
   (.loop pc17_l2)))
  pc17_r2)))
theorem plan17 : Tryd.f17.body.bind (plan Tryd.f17.ntmps) = some pc17 := by kernel_rfl
theorem calls17 {G : Env} {args : List AV} {σ : AS} {R : Out → AS → Prop} (hn : args.length = 1) (h : avc Tryd.prog G 49 pc17 (afin Tryd.prog [.tmp 2, .tmp 3] R) (frame0 args) σ) : ACalls Tryd.prog G 17 args σ R :=
  acalls' (n := 49) (l := [.tmp 2, .tmp 3]) mixed Tryd.func17 (by kernel_rfl) (by kernel_rfl) plan17 (by omega) h

/- mortise/mortisekit.SameInts -/
def pc18_l1 : PC :=
  (.seq (.seq (.ops [⟨some 11, .move (.tmp 5), none, []⟩,
    ⟨some 12, .move (.tmp 0), none, []⟩,
    ⟨some 13, .call ⟨.builtin .len, #[(.tmp 12)], #[34]⟩, none, []⟩,
    ⟨some 14, .binOp .lss 3 (.tmp 11) (.tmp 13) 3, none, []⟩])
  (.cond (.tmp 14)
    .skip
    (.exit 0)))
  (.seq (.block 1
   (.seq (.ops [⟨some 17, .move (.tmp 0), none, []⟩,
     ⟨some 18, .move (.tmp 5), none, []⟩,
     ⟨some 19, .indexAddr 34 (.tmp 17) (.tmp 18), none, []⟩,
     ⟨some 20, .load 3 (.tmp 19), none, []⟩,
     ⟨some 21, .move (.tmp 1), none, []⟩,
     ⟨some 22, .move (.tmp 5), none, []⟩,
     ⟨some 23, .indexAddr 34 (.tmp 21) (.tmp 22), none, []⟩,
     ⟨some 24, .load 3 (.tmp 23), none, []⟩,
     ⟨some 25, .binOp .eql 3 (.tmp 20) (.tmp 24) 3, none, []⟩,
     ⟨some 26, .unOp .not 4 (.tmp 25), none, []⟩])
   (.cond (.tmp 26)
     (.seq (.ops [⟨some 4, .assign (.const (.bool false)), none, []⟩])
     .ret)
     .skip)))
  (.ops [⟨some 15, .move (.tmp 5), none, []⟩,
    ⟨some 16, .binOp .add 3 (.tmp 15) (.const (.int .i64 1)) 3, none, []⟩,
    ⟨some 5, .assign (.tmp 16), none, []⟩])))
def pc18_r1 : PC :=
  (.seq (.ops [⟨some 4, .assign (.const (.bool true)), none, []⟩])
  .ret)
def pc18 : PC :=
  (.seq (.ops [⟨some 4, .assign (.const (.bool false)), none, []⟩])
  (.seq (.seq (.ops [⟨some 6, .move (.tmp 0), none, []⟩,
    ⟨some 7, .call ⟨.builtin .len, #[(.tmp 6)], #[34]⟩, none, []⟩,
    ⟨some 8, .move (.tmp 1), none, []⟩,
    ⟨some 9, .call ⟨.builtin .len, #[(.tmp 8)], #[34]⟩, none, []⟩,
    ⟨some 10, .binOp .neq 3 (.tmp 7) (.tmp 9) 3, none, []⟩])
  (.cond (.tmp 10)
    (.seq (.ops [⟨some 4, .assign (.const (.bool false)), none, []⟩])
    .ret)
    .skip))
  (.seq (.seq (.ops [⟨some 5, .assign (.const (.int .i64 0)), none, []⟩])
  (.block 0
   (.loop pc18_l1)))
  pc18_r1)))
theorem plan18 : Tryd.f18.body.bind (plan Tryd.f18.ntmps) = some pc18 := by kernel_rfl
theorem calls18 {G : Env} {args : List AV} {σ : AS} {R : Out → AS → Prop} (hn : args.length = 2) (h : avc Tryd.prog G 27 pc18 (afin Tryd.prog [.tmp 4] R) (frame0 args) σ) : ACalls Tryd.prog G 18 args σ R :=
  acalls' (n := 27) (l := [.tmp 4]) mixed Tryd.func18 (by kernel_rfl) (by kernel_rfl) plan18 (by omega) h

/- NOT PLANNED WHOLE: 28 mortise/wasm.Check$1 -/
def pc28_h : PC :=
  (.seq (.ops [⟨some 3, .move (.tmp 1), none, []⟩,
    ⟨some 4, .binOp .neq 20 (.tmp 3) (.const .nilIface) 20, none, []⟩])
  (.cond (.tmp 4)
    (.ops [⟨some 5, .move (.tmp 1), none, []⟩,
      ⟨some 6, .typeAssert (.tmp 5) 20 61 false, none, []⟩,
      ⟨some 7, .field 61 (.tmp 6) 0, none, []⟩,
      ⟨none, .store 26 (.tmp 0) (.tmp 7), none, []⟩])
    .skip))
/- mortise/wasm.must -/
def pc29 : PC :=
  (.seq (.ops [⟨some 4, .move (.tmp 0), none, []⟩,
    ⟨some 5, .unOp .not 4 (.tmp 4), none, []⟩])
  (.cond (.tmp 5)
    (.ops [⟨some 6, .move (.tmp 1), none, []⟩,
      ⟨some 7, .build 61 #[(0, (.tmp 6))], none, []⟩,
      ⟨some 8, .makeInterface 61 (.tmp 7), none, []⟩,
      ⟨none, .panic (.tmp 8), none, []⟩])
    .skip))
theorem plan29 : Tryd.f29.body.bind (plan Tryd.f29.ntmps) = some pc29 := by kernel_rfl
theorem calls29 {G : Env} {args : List AV} {σ : AS} {R : Out → AS → Prop} (hn : args.length = 2) (h : avc Tryd.prog G 9 pc29 (afin Tryd.prog [] R) (frame0 args) σ) : ACalls Tryd.prog G 29 args σ R :=
  acalls' (n := 9) (l := []) mixed Tryd.func29 (by kernel_rfl) (by kernel_rfl) plan29 (by omega) h

/- (*mortise/wasm.checker).function -/
def pc30 : PC :=
  (.seq (.ops [⟨some 2, .move (.tmp 0), none, []⟩,
    ⟨some 3, .move (.tmp 0), none, []⟩,
    ⟨some 4, .nilCheck (.tmp 3), none, []⟩,
    ⟨some 5, .fieldAddr 65 (.tmp 4) 1, none, []⟩,
    ⟨some 6, .fieldAddr 37 (.tmp 5) 1, none, []⟩,
    ⟨some 7, .load 34 (.tmp 6), none, []⟩,
    ⟨some 8, .move (.tmp 0), none, []⟩,
    ⟨some 9, .nilCheck (.tmp 8), none, []⟩,
    ⟨some 10, .fieldAddr 65 (.tmp 9) 1, none, []⟩,
    ⟨some 11, .fieldAddr 37 (.tmp 10) 2, none, []⟩,
    ⟨some 12, .load 34 (.tmp 11), none, []⟩,
    ⟨some 13, .buildSlice 110 2 #[(0, (.tmp 7)), (1, (.tmp 12))], none, []⟩,
    ⟨some 14, .call ⟨.value (.func 47), #[(.tmp 13)], #[110]⟩, none, []⟩,
    ⟨some 15, .nilCheck (.tmp 2), none, []⟩,
    ⟨some 16, .fieldAddr 65 (.tmp 15) 2, none, []⟩,
    ⟨none, .store 34 (.tmp 16) (.tmp 14), none, []⟩])
  (.seq (.ops [⟨some 17, .move (.tmp 0), none, []⟩,
    ⟨some 18, .nilCheck (.tmp 17), none, []⟩,
    ⟨some 19, .fieldAddr 65 (.tmp 18) 2, none, []⟩,
    ⟨some 20, .load 34 (.tmp 19), none, []⟩,
    ⟨some 21, .call ⟨.value (.func 48), #[(.tmp 20), (.func 49)], #[34, 92]⟩, none, []⟩,
    ⟨some 22, .unOp .not 4 (.tmp 21), none, []⟩,
    ⟨some 23, .move (.tmp 22), none, []⟩,
    ⟨some 24, .move (.tmp 0), (some (23, true)), []⟩,
    ⟨some 25, .nilCheck (.tmp 24), (some (23, true)), []⟩,
    ⟨some 26, .fieldAddr 65 (.tmp 25) 1, (some (23, true)), []⟩,
    ⟨some 27, .fieldAddr 37 (.tmp 26) 3, (some (23, true)), []⟩,
    ⟨some 28, .load 3 (.tmp 27), (some (23, true)), []⟩,
    ⟨some 29, .binOp .geq 3 (.tmp 28) (.const (.int .i64 0)) 3, (some (23, true)), []⟩,
    ⟨some 30, .pick (.tmp 23) (.tmp 29) (.const (.bool false)), none, []⟩,
    ⟨some 31, .move (.tmp 30), none, []⟩,
    ⟨some 32, .move (.tmp 0), (some (31, true)), []⟩,
    ⟨some 33, .nilCheck (.tmp 32), (some (31, true)), []⟩,
    ⟨some 34, .fieldAddr 65 (.tmp 33) 1, (some (31, true)), []⟩,
    ⟨some 35, .fieldAddr 37 (.tmp 34) 3, (some (31, true)), []⟩,
    ⟨some 36, .load 3 (.tmp 35), (some (31, true)), []⟩,
    ⟨some 37, .binOp .leq 3 (.tmp 36) (.const (.int .i64 2)) 3, (some (31, true)), []⟩,
    ⟨some 38, .pick (.tmp 31) (.tmp 37) (.const (.bool false)), none, []⟩,
    ⟨some 39, .call ⟨.value (.func 29), #[(.tmp 38), (.const (.int .i64 6))], #[4, 26]⟩, none, []⟩])
  (.seq (.ops [⟨some 40, .move (.tmp 0), none, []⟩,
    ⟨some 41, .call ⟨.value (.func 51), #[(.tmp 40)], #[63]⟩, none, []⟩])
  (.ops [⟨some 42, .move (.tmp 0), none, []⟩,
    ⟨some 43, .move (.tmp 0), none, []⟩,
    ⟨some 44, .nilCheck (.tmp 43), none, []⟩,
    ⟨some 45, .fieldAddr 65 (.tmp 44) 1, none, []⟩,
    ⟨some 46, .fieldAddr 37 (.tmp 45) 4, none, []⟩,
    ⟨some 47, .load 35 (.tmp 46), none, []⟩,
    ⟨some 48, .call ⟨.builtin .len, #[(.tmp 47)], #[35]⟩, none, []⟩,
    ⟨some 49, .binOp .sub 3 (.tmp 48) (.const (.int .i64 1)) 3, none, []⟩,
    ⟨some 50, .call ⟨.value (.func 52), #[(.tmp 42), (.tmp 49), (.const (.int .i64 0))], #[63, 3, 3]⟩, none, []⟩]))))
theorem plan30 : Tryd.f30.body.bind (plan Tryd.f30.ntmps) = some pc30 := by kernel_rfl
theorem calls30 {G : Env} {args : List AV} {σ : AS} {R : Out → AS → Prop} (hn : args.length = 1) (h : avc Tryd.prog G 51 pc30 (afin Tryd.prog [] R) (frame0 args) σ) : ACalls Tryd.prog G 30 args σ R :=
  acalls' (n := 51) (l := []) mixed Tryd.func30 (by kernel_rfl) (by kernel_rfl) plan30 (by omega) h

/- mortise/mortiselaw22.is -/
def pc31 : PC :=
  (.seq (.ops [⟨some 4, .assign (.const (.bool false)), none, []⟩])
  (.seq (.ops [⟨some 6, .move (.tmp 0), none, []⟩,
    ⟨some 7, .buildSlice 35 1 #[(0, (.tmp 6))], none, []⟩,
    ⟨some 8, .call ⟨.value (.func 53), #[(.tmp 7)], #[35]⟩, none, []⟩,
    ⟨some 9, .call ⟨.value (.func 13), #[(.tmp 8)], #[24]⟩, none, []⟩,
    ⟨some 5, .alloc 24, none, []⟩,
    ⟨none, .store 24 (.tmp 5) (.tmp 9), none, []⟩])
  (.seq (.ops [⟨some 10, .fieldAddr 24 (.tmp 5) 0, none, []⟩,
    ⟨some 11, .load 22 (.tmp 10), none, []⟩,
    ⟨some 12, .call ⟨.builtin .len, #[(.tmp 11)], #[22]⟩, none, []⟩,
    ⟨some 13, .binOp .eql 3 (.tmp 12) (.const (.int .i64 1)) 3, none, []⟩,
    ⟨some 14, .move (.tmp 13), none, []⟩,
    ⟨some 15, .fieldAddr 24 (.tmp 5) 0, (some (14, true)), []⟩,
    ⟨some 16, .load 22 (.tmp 15), (some (14, true)), []⟩,
    ⟨some 17, .indexAddr 22 (.tmp 16) (.const (.int .i64 0)), (some (14, true)), []⟩,
    ⟨some 18, .fieldAddr 37 (.tmp 17) 4, (some (14, true)), []⟩,
    ⟨some 19, .load 35 (.tmp 18), (some (14, true)), []⟩,
    ⟨some 20, .call ⟨.builtin .len, #[(.tmp 19)], #[35]⟩, (some (14, true)), []⟩,
    ⟨some 21, .binOp .eql 3 (.tmp 20) (.const (.int .i64 1)) 3, (some (14, true)), []⟩,
    ⟨some 22, .pick (.tmp 14) (.tmp 21) (.const (.bool false)), none, []⟩,
    ⟨some 23, .move (.tmp 22), none, []⟩,
    ⟨some 24, .fieldAddr 24 (.tmp 5) 0, (some (23, true)), []⟩,
    ⟨some 25, .load 22 (.tmp 24), (some (23, true)), []⟩,
    ⟨some 26, .indexAddr 22 (.tmp 25) (.const (.int .i64 0)), (some (23, true)), []⟩,
    ⟨some 27, .fieldAddr 37 (.tmp 26) 4, (some (23, true)), []⟩,
    ⟨some 28, .load 35 (.tmp 27), (some (23, true)), []⟩,
    ⟨some 29, .indexAddr 35 (.tmp 28) (.const (.int .i64 0)), (some (23, true)), []⟩,
    ⟨some 30, .load 38 (.tmp 29), (some (23, true)), []⟩,
    ⟨some 31, .move (.tmp 1), (some (23, true)), []⟩,
    ⟨some 32, .call ⟨.value (.func 54), #[(.tmp 30), (.tmp 31)], #[38, 38]⟩, (some (23, true)), []⟩,
    ⟨some 33, .pick (.tmp 23) (.tmp 32) (.const (.bool false)), none, []⟩,
    ⟨some 4, .assign (.tmp 33), none, []⟩])
  .ret)))
theorem plan31 : Tryd.f31.body.bind (plan Tryd.f31.ntmps) = some pc31 := by kernel_rfl
theorem calls31 {G : Env} {args : List AV} {σ : AS} {R : Out → AS → Prop} (hn : args.length = 2) (h : avc Tryd.prog G 34 pc31 (afin Tryd.prog [.tmp 4] R) (frame0 args) σ) : ACalls Tryd.prog G 31 args σ R :=
  acalls' (n := 34) (l := [.tmp 4]) mixed Tryd.func31 (by kernel_rfl) (by kernel_rfl) plan31 (by omega) h

/- mortise/mortiselaw22.get -/
def pc32 : PC :=
  (.seq (.ops [⟨some 0, .alloc 40, none, []⟩])
  (.seq (.ops [⟨some 1, .build 40 #[(0, (.const (.int .i64 2)))], none, []⟩,
    ⟨none, .store 40 (.tmp 0) (.tmp 1), none, []⟩])
  .ret))
theorem plan32 : Tryd.f32.body.bind (plan Tryd.f32.ntmps) = some pc32 := by kernel_rfl
theorem calls32 {G : Env} {args : List AV} {σ : AS} {R : Out → AS → Prop} (hn : args.length = 0) (h : avc Tryd.prog G 2 pc32 (afin Tryd.prog [.cell 0 40] R) (frame0 args) σ) : ACalls Tryd.prog G 32 args σ R :=
  acalls' (n := 2) (l := [.cell 0 40]) mixed Tryd.func32 (by kernel_rfl) (by kernel_rfl) plan32 (by omega) h

/- mortise/mortiselaw22.drop -/
def pc33 : PC :=
  (.seq (.ops [⟨some 0, .alloc 40, none, []⟩])
  (.seq (.ops [⟨some 1, .build 40 #[(0, (.const (.int .i64 18)))], none, []⟩,
    ⟨none, .store 40 (.tmp 0) (.tmp 1), none, []⟩])
  .ret))
theorem plan33 : Tryd.f33.body.bind (plan Tryd.f33.ntmps) = some pc33 := by kernel_rfl
theorem calls33 {G : Env} {args : List AV} {σ : AS} {R : Out → AS → Prop} (hn : args.length = 0) (h : avc Tryd.prog G 2 pc33 (afin Tryd.prog [.cell 0 40] R) (frame0 args) σ) : ACalls Tryd.prog G 33 args σ R :=
  acalls' (n := 2) (l := [.cell 0 40]) mixed Tryd.func33 (by kernel_rfl) (by kernel_rfl) plan33 (by omega) h

/- mortise/mortiselaw22.number -/
def pc34 : PC :=
  (.seq (.ops [⟨some 2, .alloc 40, none, []⟩])
  (.seq (.ops [⟨some 3, .move (.tmp 0), none, []⟩,
    ⟨some 4, .build 40 #[(0, (.const (.int .i64 1))), (1, (.const (.int .i64 1))), (2, (.tmp 3))], none, []⟩,
    ⟨none, .store 40 (.tmp 2) (.tmp 4), none, []⟩])
  .ret))
theorem plan34 : Tryd.f34.body.bind (plan Tryd.f34.ntmps) = some pc34 := by kernel_rfl
theorem calls34 {G : Env} {args : List AV} {σ : AS} {R : Out → AS → Prop} (hn : args.length = 1) (h : avc Tryd.prog G 5 pc34 (afin Tryd.prog [.cell 2 40] R) (frame0 args) σ) : ACalls Tryd.prog G 34 args σ R :=
  acalls' (n := 5) (l := [.cell 2 40]) mixed Tryd.func34 (by kernel_rfl) (by kernel_rfl) plan34 (by omega) h

/- mortise/mortiselaw22.eqz -/
def pc35 : PC :=
  (.seq (.ops [⟨some 0, .alloc 40, none, []⟩])
  (.seq (.ops [⟨some 1, .build 40 #[(0, (.const (.int .i64 5))), (1, (.const (.int .i64 1)))], none, []⟩,
    ⟨none, .store 40 (.tmp 0) (.tmp 1), none, []⟩])
  .ret))
theorem plan35 : Tryd.f35.body.bind (plan Tryd.f35.ntmps) = some pc35 := by kernel_rfl
theorem calls35 {G : Env} {args : List AV} {σ : AS} {R : Out → AS → Prop} (hn : args.length = 0) (h : avc Tryd.prog G 2 pc35 (afin Tryd.prog [.cell 0 40] R) (frame0 args) σ) : ACalls Tryd.prog G 35 args σ R :=
  acalls' (n := 2) (l := [.cell 0 40]) mixed Tryd.func35 (by kernel_rfl) (by kernel_rfl) plan35 (by omega) h

/- mortise/mortisekit.CopyWFuncs -/
def pc36_l1 : PC :=
  (.seq (.seq (.ops [⟨some 5, .move (.tmp 4), none, []⟩,
    ⟨some 6, .move (.tmp 0), none, []⟩,
    ⟨some 7, .call ⟨.builtin .len, #[(.tmp 6)], #[22]⟩, none, []⟩,
    ⟨some 8, .binOp .lss 3 (.tmp 5) (.tmp 7) 3, none, []⟩])
  (.cond (.tmp 8)
    .skip
    (.exit 0)))
  (.seq (.block 1
   (.ops [⟨some 11, .move (.tmp 3), none, []⟩,
     ⟨some 12, .move (.tmp 0), none, []⟩,
     ⟨some 13, .move (.tmp 4), none, []⟩,
     ⟨some 14, .indexAddr 22 (.tmp 12) (.tmp 13), none, []⟩,
     ⟨some 15, .load 37 (.tmp 14), none, []⟩,
     ⟨some 16, .call ⟨.value (.func 55), #[(.tmp 15)], #[37]⟩, none, []⟩,
     ⟨some 17, .buildSlice 22 1 #[(0, (.tmp 16))], none, []⟩,
     ⟨some 18, .call ⟨.builtin .append, #[(.tmp 11), (.tmp 17)], #[22, 22]⟩, none, []⟩,
     ⟨some 3, .assign (.tmp 18), none, []⟩]))
  (.ops [⟨some 9, .move (.tmp 4), none, []⟩,
    ⟨some 10, .binOp .add 3 (.tmp 9) (.const (.int .i64 1)) 3, none, []⟩,
    ⟨some 4, .assign (.tmp 10), none, []⟩])))
def pc36_r1 : PC :=
  (.seq (.ops [⟨some 19, .move (.tmp 3), none, []⟩,
    ⟨some 2, .assign (.tmp 19), none, []⟩])
  .ret)
def pc36 : PC :=
  (.seq (.ops [⟨some 2, .assign (.const (.slice none 0 0)), none, []⟩])
  (.seq (.ops [⟨some 3, .assign (.const (.slice none 0 0)), none, []⟩])
  (.seq (.seq (.ops [⟨some 4, .assign (.const (.int .i64 0)), none, []⟩])
  (.block 0
   (.loop pc36_l1)))
  pc36_r1)))
theorem plan36 : Tryd.f36.body.bind (plan Tryd.f36.ntmps) = some pc36 := by kernel_rfl
theorem calls36 {G : Env} {args : List AV} {σ : AS} {R : Out → AS → Prop} (hn : args.length = 1) (h : avc Tryd.prog G 20 pc36 (afin Tryd.prog [.tmp 2] R) (frame0 args) σ) : ACalls Tryd.prog G 36 args σ R :=
  acalls' (n := 20) (l := [.tmp 2]) mixed Tryd.func36 (by kernel_rfl) (by kernel_rfl) plan36 (by omega) h

/- (*mortise/peep.maker).list -/
def pc37_l1 : PC :=
  (.seq (.ops [⟨some 20, .binOp .lss 3 (.tmp 19) (.tmp 18) 3, none, []⟩])
  (.seq (.cond (.tmp 20)
    .skip
    (.exit 0))
  (.seq (.block 1
   (.seq (.ops [⟨some 21, .indexAddr 38 (.tmp 17) (.tmp 19), none, []⟩,
     ⟨some 22, .load 40 (.tmp 21), none, []⟩,
     ⟨some 7, .alloc 40, none, []⟩,
     ⟨none, .store 40 (.tmp 7) (.tmp 22), none, []⟩])
   (.seq (.ops [⟨some 23, .move (.tmp 5), none, []⟩,
     ⟨some 24, .call ⟨.builtin .len, #[(.tmp 23)], #[38]⟩, none, []⟩,
     ⟨some 8, .assign (.tmp 24), none, []⟩])
   (.seq (.seq (.ops [⟨some 25, .move (.tmp 8), none, []⟩,
     ⟨some 26, .binOp .gtr 3 (.tmp 25) (.const (.int .i64 0)) 3, none, []⟩,
     ⟨some 27, .move (.tmp 26), none, []⟩,
     ⟨some 28, .move (.tmp 5), (some (27, true)), []⟩,
     ⟨some 29, .move (.tmp 8), (some (27, true)), []⟩,
     ⟨some 30, .binOp .sub 3 (.tmp 29) (.const (.int .i64 1)) 3, (some (27, true)), []⟩,
     ⟨some 31, .indexAddr 38 (.tmp 28) (.tmp 30), (some (27, true)), []⟩,
     ⟨some 32, .load 40 (.tmp 31), (some (27, true)), []⟩,
     ⟨some 33, .call ⟨.value (.func 56), #[(.tmp 32)], #[40]⟩, (some (27, true)), []⟩,
     ⟨some 34, .pick (.tmp 27) (.tmp 33) (.const (.bool false)), none, []⟩])
   (.cond (.tmp 34)
     (.exit 0)
     .skip))
   (.seq (.seq (.ops [⟨some 35, .move (.tmp 8), none, []⟩,
     ⟨some 36, .binOp .gtr 3 (.tmp 35) (.const (.int .i64 0)) 3, none, []⟩])
   (.cond (.tmp 36)
     (.seq (.ops [⟨some 38, .move (.tmp 0), none, []⟩,
       ⟨some 39, .move (.tmp 5), none, []⟩,
       ⟨some 40, .move (.tmp 8), none, []⟩,
       ⟨some 41, .binOp .sub 3 (.tmp 40) (.const (.int .i64 1)) 3, none, []⟩,
       ⟨some 42, .indexAddr 38 (.tmp 39) (.tmp 41), none, []⟩,
       ⟨some 43, .load 40 (.tmp 42), none, []⟩,
       ⟨some 44, .load 40 (.tmp 7), none, []⟩,
       ⟨some 45, .call ⟨.value (.func 57), #[(.tmp 38), (.tmp 43), (.tmp 44)], #[70, 40, 40]⟩, none, []⟩,
       ⟨some 37, .move (.tmp 45), none, []⟩,
       ⟨some 46, .extract (.tmp 37) 0, none, []⟩,
       ⟨some 47, .extract (.tmp 37) 1, none, []⟩,
       ⟨some 9, .assign (.tmp 46), none, []⟩,
       ⟨some 10, .assign (.tmp 47), none, []⟩])
     (.seq (.ops [⟨some 48, .move (.tmp 10), none, []⟩])
     (.cond (.tmp 48)
       (.seq (.ops [⟨some 49, .move (.tmp 5), none, []⟩,
         ⟨some 50, .move (.tmp 8), none, []⟩,
         ⟨some 51, .binOp .sub 3 (.tmp 50) (.const (.int .i64 1)) 3, none, []⟩,
         ⟨some 52, .slice 38 (.tmp 49) none (some (.tmp 51)) none, none, []⟩,
         ⟨some 53, .move (.tmp 9), none, []⟩,
         ⟨some 54, .call ⟨.builtin .append, #[(.tmp 52), (.tmp 53)], #[38, 38]⟩, none, []⟩,
         ⟨some 5, .assign (.tmp 54), none, []⟩])
       (.exit 1))
       .skip)))
     .skip))
   (.ops [⟨some 55, .move (.tmp 5), none, []⟩,
     ⟨some 56, .move (.tmp 0), none, []⟩,
     ⟨some 57, .load 40 (.tmp 7), none, []⟩,
     ⟨some 58, .call ⟨.value (.func 58), #[(.tmp 56), (.tmp 57)], #[70, 40]⟩, none, []⟩,
     ⟨some 59, .buildSlice 38 1 #[(0, (.tmp 58))], none, []⟩,
     ⟨some 60, .call ⟨.builtin .append, #[(.tmp 55), (.tmp 59)], #[38, 38]⟩, none, []⟩,
     ⟨some 5, .assign (.tmp 60), none, []⟩]))))))
  (.ops [⟨some 61, .binOp .add 3 (.tmp 19) (.const (.int .i64 1)) 3, none, []⟩,
    ⟨some 19, .move (.tmp 61), none, []⟩]))))
def pc37_r1 : PC :=
  (.seq (.ops [⟨some 62, .move (.tmp 0), none, []⟩,
    ⟨some 63, .move (.tmp 0), none, []⟩,
    ⟨some 64, .nilCheck (.tmp 63), none, []⟩,
    ⟨some 65, .fieldAddr 72 (.tmp 64) 1, none, []⟩,
    ⟨some 66, .load 35 (.tmp 65), none, []⟩,
    ⟨some 67, .move (.tmp 5), none, []⟩,
    ⟨some 68, .buildSlice 35 1 #[(0, (.tmp 67))], none, []⟩,
    ⟨some 69, .call ⟨.builtin .append, #[(.tmp 66), (.tmp 68)], #[35, 35]⟩, none, []⟩,
    ⟨some 70, .nilCheck (.tmp 62), none, []⟩,
    ⟨some 71, .fieldAddr 72 (.tmp 70) 1, none, []⟩,
    ⟨none, .store 35 (.tmp 71) (.tmp 69), none, []⟩])
  (.seq (.ops [⟨some 72, .move (.tmp 0), none, []⟩,
    ⟨some 73, .nilCheck (.tmp 72), none, []⟩,
    ⟨some 74, .fieldAddr 72 (.tmp 73) 1, none, []⟩,
    ⟨some 75, .load 35 (.tmp 74), none, []⟩,
    ⟨some 76, .call ⟨.builtin .len, #[(.tmp 75)], #[35]⟩, none, []⟩,
    ⟨some 77, .binOp .sub 3 (.tmp 76) (.const (.int .i64 1)) 3, none, []⟩,
    ⟨some 4, .assign (.tmp 77), none, []⟩])
  .ret))
def pc37 : PC :=
  (.seq (.ops [⟨some 4, .assign (.const (.int .i64 0)), none, []⟩])
  (.seq (.ops [⟨some 5, .assign (.const (.slice none 0 0)), none, []⟩])
  (.seq (.seq (.ops [⟨some 11, .move (.tmp 0), none, []⟩,
    ⟨some 12, .nilCheck (.tmp 11), none, []⟩,
    ⟨some 13, .fieldAddr 72 (.tmp 12) 0, none, []⟩,
    ⟨some 14, .load 35 (.tmp 13), none, []⟩,
    ⟨some 15, .move (.tmp 1), none, []⟩,
    ⟨some 16, .indexAddr 35 (.tmp 14) (.tmp 15), none, []⟩,
    ⟨some 17, .load 38 (.tmp 16), none, []⟩,
    ⟨some 18, .call ⟨.builtin .len, #[(.tmp 17)], #[38]⟩, none, []⟩,
    ⟨some 19, .move (.const (.int .i64 0)), none, []⟩])
  (.block 0
   (.loop pc37_l1)))
  pc37_r1)))
theorem plan37 : Tryd.f37.body.bind (plan Tryd.f37.ntmps) = some pc37 := by kernel_rfl
theorem calls37 {G : Env} {args : List AV} {σ : AS} {R : Out → AS → Prop} (hn : args.length = 2) (h : avc Tryd.prog G 78 pc37 (afin Tryd.prog [.tmp 4] R) (frame0 args) σ) : ACalls Tryd.prog G 37 args σ R :=
  acalls' (n := 78) (l := [.tmp 4]) mixed Tryd.func37 (by kernel_rfl) (by kernel_rfl) plan37 (by omega) h

/- slices.Clone[[]int,int] -/
def pc38 : PC :=
  (.seq (.ops [⟨some 2, .assign (.const (.slice none 0 0)), none, []⟩])
  (.seq (.seq (.ops [⟨some 3, .move (.tmp 0), none, []⟩,
    ⟨some 4, .binOp .eql 34 (.tmp 3) (.const (.slice none 0 0)) 34, none, []⟩])
  (.cond (.tmp 4)
    (.seq (.ops [⟨some 2, .assign (.const (.slice none 0 0)), none, []⟩])
    .ret)
    .skip))
  (.seq (.ops [⟨some 5, .buildSlice 34 0 #[], none, []⟩,
    ⟨some 6, .move (.tmp 0), none, []⟩,
    ⟨some 7, .call ⟨.builtin .append, #[(.tmp 5), (.tmp 6)], #[34, 34]⟩, none, []⟩,
    ⟨some 2, .assign (.tmp 7), none, []⟩])
  .ret)))
theorem plan38 : Tryd.f38.body.bind (plan Tryd.f38.ntmps) = some pc38 := by kernel_rfl
theorem calls38 {G : Env} {args : List AV} {σ : AS} {R : Out → AS → Prop} (hn : args.length = 1) (h : avc Tryd.prog G 8 pc38 (afin Tryd.prog [.tmp 2] R) (frame0 args) σ) : ACalls Tryd.prog G 38 args σ R :=
  acalls' (n := 8) (l := [.tmp 2]) mixed Tryd.func38 (by kernel_rfl) (by kernel_rfl) plan38 (by omega) h

/- mortise/mortisekit.SameWFuncs -/
def pc39_l1 : PC :=
  (.seq (.seq (.ops [⟨some 11, .move (.tmp 5), none, []⟩,
    ⟨some 12, .move (.tmp 0), none, []⟩,
    ⟨some 13, .call ⟨.builtin .len, #[(.tmp 12)], #[22]⟩, none, []⟩,
    ⟨some 14, .binOp .lss 3 (.tmp 11) (.tmp 13) 3, none, []⟩])
  (.cond (.tmp 14)
    .skip
    (.exit 0)))
  (.seq (.block 1
   (.seq (.ops [⟨some 17, .move (.tmp 0), none, []⟩,
     ⟨some 18, .move (.tmp 5), none, []⟩,
     ⟨some 19, .indexAddr 22 (.tmp 17) (.tmp 18), none, []⟩,
     ⟨some 20, .load 37 (.tmp 19), none, []⟩,
     ⟨some 21, .move (.tmp 1), none, []⟩,
     ⟨some 22, .move (.tmp 5), none, []⟩,
     ⟨some 23, .indexAddr 22 (.tmp 21) (.tmp 22), none, []⟩,
     ⟨some 24, .load 37 (.tmp 23), none, []⟩,
     ⟨some 25, .call ⟨.value (.func 59), #[(.tmp 20), (.tmp 24)], #[37, 37]⟩, none, []⟩,
     ⟨some 26, .unOp .not 4 (.tmp 25), none, []⟩])
   (.cond (.tmp 26)
     (.seq (.ops [⟨some 4, .assign (.const (.bool false)), none, []⟩])
     .ret)
     .skip)))
  (.ops [⟨some 15, .move (.tmp 5), none, []⟩,
    ⟨some 16, .binOp .add 3 (.tmp 15) (.const (.int .i64 1)) 3, none, []⟩,
    ⟨some 5, .assign (.tmp 16), none, []⟩])))
def pc39_r1 : PC :=
  (.seq (.ops [⟨some 4, .assign (.const (.bool true)), none, []⟩])
  .ret)
def pc39 : PC :=
  (.seq (.ops [⟨some 4, .assign (.const (.bool false)), none, []⟩])
  (.seq (.seq (.ops [⟨some 6, .move (.tmp 0), none, []⟩,
    ⟨some 7, .call ⟨.builtin .len, #[(.tmp 6)], #[22]⟩, none, []⟩,
    ⟨some 8, .move (.tmp 1), none, []⟩,
    ⟨some 9, .call ⟨.builtin .len, #[(.tmp 8)], #[22]⟩, none, []⟩,
    ⟨some 10, .binOp .neq 3 (.tmp 7) (.tmp 9) 3, none, []⟩])
  (.cond (.tmp 10)
    (.seq (.ops [⟨some 4, .assign (.const (.bool false)), none, []⟩])
    .ret)
    .skip))
  (.seq (.seq (.ops [⟨some 5, .assign (.const (.int .i64 0)), none, []⟩])
  (.block 0
   (.loop pc39_l1)))
  pc39_r1)))
theorem plan39 : Tryd.f39.body.bind (plan Tryd.f39.ntmps) = some pc39 := by kernel_rfl
theorem calls39 {G : Env} {args : List AV} {σ : AS} {R : Out → AS → Prop} (hn : args.length = 2) (h : avc Tryd.prog G 27 pc39 (afin Tryd.prog [.tmp 4] R) (frame0 args) σ) : ACalls Tryd.prog G 39 args σ R :=
  acalls' (n := 27) (l := [.tmp 4]) mixed Tryd.func39 (by kernel_rfl) (by kernel_rfl) plan39 (by omega) h

/- (*mortise/mortiseref22.Maker).list -/
def pc40_l1 : PC :=
  (.seq (.seq (.ops [⟨some 7, .move (.tmp 6), none, []⟩,
    ⟨some 8, .move (.tmp 0), none, []⟩,
    ⟨some 9, .nilCheck (.tmp 8), none, []⟩,
    ⟨some 10, .fieldAddr 78 (.tmp 9) 0, none, []⟩,
    ⟨some 11, .load 35 (.tmp 10), none, []⟩,
    ⟨some 12, .move (.tmp 1), none, []⟩,
    ⟨some 13, .indexAddr 35 (.tmp 11) (.tmp 12), none, []⟩,
    ⟨some 14, .load 38 (.tmp 13), none, []⟩,
    ⟨some 15, .call ⟨.builtin .len, #[(.tmp 14)], #[38]⟩, none, []⟩,
    ⟨some 16, .binOp .lss 3 (.tmp 7) (.tmp 15) 3, none, []⟩])
  (.cond (.tmp 16)
    .skip
    (.exit 0)))
  (.seq (.block 1
   (.seq (.seq (.ops [⟨some 19, .move (.tmp 5), none, []⟩,
     ⟨some 20, .call ⟨.builtin .len, #[(.tmp 19)], #[38]⟩, none, []⟩,
     ⟨some 21, .binOp .gtr 3 (.tmp 20) (.const (.int .i64 0)) 3, none, []⟩,
     ⟨some 22, .move (.tmp 21), none, []⟩,
     ⟨some 23, .move (.tmp 5), (some (22, true)), []⟩,
     ⟨some 24, .move (.tmp 5), (some (22, true)), []⟩,
     ⟨some 25, .call ⟨.builtin .len, #[(.tmp 24)], #[38]⟩, (some (22, true)), []⟩,
     ⟨some 26, .binOp .sub 3 (.tmp 25) (.const (.int .i64 1)) 3, (some (22, true)), []⟩,
     ⟨some 27, .indexAddr 38 (.tmp 23) (.tmp 26), (some (22, true)), []⟩,
     ⟨some 28, .load 40 (.tmp 27), (some (22, true)), []⟩,
     ⟨some 29, .call ⟨.value (.func 60), #[(.tmp 28)], #[40]⟩, (some (22, true)), []⟩,
     ⟨some 30, .pick (.tmp 22) (.tmp 29) (.const (.bool false)), none, []⟩])
   (.cond (.tmp 30)
     (.exit 0)
     .skip))
   (.ops [⟨some 31, .move (.tmp 0), none, []⟩,
     ⟨some 32, .move (.tmp 5), none, []⟩,
     ⟨some 33, .move (.tmp 0), none, []⟩,
     ⟨some 34, .nilCheck (.tmp 33), none, []⟩,
     ⟨some 35, .fieldAddr 78 (.tmp 34) 0, none, []⟩,
     ⟨some 36, .load 35 (.tmp 35), none, []⟩,
     ⟨some 37, .move (.tmp 1), none, []⟩,
     ⟨some 38, .indexAddr 35 (.tmp 36) (.tmp 37), none, []⟩,
     ⟨some 39, .load 38 (.tmp 38), none, []⟩,
     ⟨some 40, .move (.tmp 6), none, []⟩,
     ⟨some 41, .indexAddr 38 (.tmp 39) (.tmp 40), none, []⟩,
     ⟨some 42, .load 40 (.tmp 41), none, []⟩,
     ⟨some 43, .call ⟨.value (.func 61), #[(.tmp 31), (.tmp 32), (.tmp 42)], #[76, 38, 40]⟩, none, []⟩,
     ⟨some 5, .assign (.tmp 43), none, []⟩])))
  (.ops [⟨some 17, .move (.tmp 6), none, []⟩,
    ⟨some 18, .binOp .add 3 (.tmp 17) (.const (.int .i64 1)) 3, none, []⟩,
    ⟨some 6, .assign (.tmp 18), none, []⟩])))
def pc40_r1 : PC :=
  (.seq (.ops [⟨some 44, .move (.tmp 0), none, []⟩,
    ⟨some 45, .move (.tmp 0), none, []⟩,
    ⟨some 46, .nilCheck (.tmp 45), none, []⟩,
    ⟨some 47, .fieldAddr 78 (.tmp 46) 1, none, []⟩,
    ⟨some 48, .load 35 (.tmp 47), none, []⟩,
    ⟨some 49, .move (.tmp 5), none, []⟩,
    ⟨some 50, .buildSlice 35 1 #[(0, (.tmp 49))], none, []⟩,
    ⟨some 51, .call ⟨.builtin .append, #[(.tmp 48), (.tmp 50)], #[35, 35]⟩, none, []⟩,
    ⟨some 52, .nilCheck (.tmp 44), none, []⟩,
    ⟨some 53, .fieldAddr 78 (.tmp 52) 1, none, []⟩,
    ⟨none, .store 35 (.tmp 53) (.tmp 51), none, []⟩])
  (.seq (.ops [⟨some 54, .move (.tmp 0), none, []⟩,
    ⟨some 55, .nilCheck (.tmp 54), none, []⟩,
    ⟨some 56, .fieldAddr 78 (.tmp 55) 1, none, []⟩,
    ⟨some 57, .load 35 (.tmp 56), none, []⟩,
    ⟨some 58, .call ⟨.builtin .len, #[(.tmp 57)], #[35]⟩, none, []⟩,
    ⟨some 59, .binOp .sub 3 (.tmp 58) (.const (.int .i64 1)) 3, none, []⟩,
    ⟨some 4, .assign (.tmp 59), none, []⟩])
  .ret))
def pc40 : PC :=
  (.seq (.ops [⟨some 4, .assign (.const (.int .i64 0)), none, []⟩])
  (.seq (.ops [⟨some 5, .assign (.const (.slice none 0 0)), none, []⟩])
  (.seq (.seq (.ops [⟨some 6, .assign (.const (.int .i64 0)), none, []⟩])
  (.block 0
   (.loop pc40_l1)))
  pc40_r1)))
theorem plan40 : Tryd.f40.body.bind (plan Tryd.f40.ntmps) = some pc40 := by kernel_rfl
theorem calls40 {G : Env} {args : List AV} {σ : AS} {R : Out → AS → Prop} (hn : args.length = 2) (h : avc Tryd.prog G 60 pc40 (afin Tryd.prog [.tmp 4] R) (frame0 args) σ) : ACalls Tryd.prog G 40 args σ R :=
  acalls' (n := 60) (l := [.tmp 4]) mixed Tryd.func40 (by kernel_rfl) (by kernel_rfl) plan40 (by omega) h

/- mortise/mortisekit.SpoilInts -/
def pc41_l1 : PC :=
  (.seq (.seq (.ops [⟨some 3, .move (.tmp 2), none, []⟩,
    ⟨some 4, .move (.tmp 0), none, []⟩,
    ⟨some 5, .call ⟨.builtin .len, #[(.tmp 4)], #[34]⟩, none, []⟩,
    ⟨some 6, .binOp .lss 3 (.tmp 3) (.tmp 5) 3, none, []⟩])
  (.cond (.tmp 6)
    .skip
    (.exit 0)))
  (.seq (.block 1
   (.ops [⟨some 9, .move (.tmp 0), none, []⟩,
     ⟨some 10, .move (.tmp 2), none, []⟩,
     ⟨some 11, .move (.tmp 2), none, []⟩,
     ⟨some 12, .binOp .add 3 (.tmp 11) (.const (.int .i64 7)) 3, none, []⟩,
     ⟨some 13, .call ⟨.value (.func 62), #[(.tmp 12)], #[3]⟩, none, []⟩,
     ⟨some 14, .indexAddr 34 (.tmp 9) (.tmp 10), none, []⟩,
     ⟨none, .store 3 (.tmp 14) (.tmp 13), none, []⟩]))
  (.ops [⟨some 7, .move (.tmp 2), none, []⟩,
    ⟨some 8, .binOp .add 3 (.tmp 7) (.const (.int .i64 1)) 3, none, []⟩,
    ⟨some 2, .assign (.tmp 8), none, []⟩])))
def pc41 : PC :=
  (.seq (.ops [⟨some 2, .assign (.const (.int .i64 0)), none, []⟩])
  (.block 0
   (.loop pc41_l1)))
theorem plan41 : Tryd.f41.body.bind (plan Tryd.f41.ntmps) = some pc41 := by kernel_rfl
theorem calls41 {G : Env} {args : List AV} {σ : AS} {R : Out → AS → Prop} (hn : args.length = 1) (h : avc Tryd.prog G 15 pc41 (afin Tryd.prog [] R) (frame0 args) σ) : ACalls Tryd.prog G 41 args σ R :=
  acalls' (n := 15) (l := []) mixed Tryd.func41 (by kernel_rfl) (by kernel_rfl) plan41 (by omega) h

/- mortise/mortisekit.SpoilWs -/
def pc42_l1 : PC :=
  (.seq (.seq (.ops [⟨some 3, .move (.tmp 2), none, []⟩,
    ⟨some 4, .move (.tmp 0), none, []⟩,
    ⟨some 5, .call ⟨.builtin .len, #[(.tmp 4)], #[38]⟩, none, []⟩,
    ⟨some 6, .binOp .lss 3 (.tmp 3) (.tmp 5) 3, none, []⟩])
  (.cond (.tmp 6)
    .skip
    (.exit 0)))
  (.seq (.block 1
   (.ops [⟨some 9, .move (.tmp 0), none, []⟩,
     ⟨some 10, .move (.tmp 2), none, []⟩,
     ⟨some 11, .move (.tmp 2), none, []⟩,
     ⟨some 12, .binOp .add 3 (.tmp 11) (.const (.int .i64 7)) 3, none, []⟩,
     ⟨some 13, .call ⟨.value (.func 63), #[(.tmp 12)], #[3]⟩, none, []⟩,
     ⟨some 14, .indexAddr 38 (.tmp 9) (.tmp 10), none, []⟩,
     ⟨none, .store 40 (.tmp 14) (.tmp 13), none, []⟩]))
  (.ops [⟨some 7, .move (.tmp 2), none, []⟩,
    ⟨some 8, .binOp .add 3 (.tmp 7) (.const (.int .i64 1)) 3, none, []⟩,
    ⟨some 2, .assign (.tmp 8), none, []⟩])))
def pc42 : PC :=
  (.seq (.ops [⟨some 2, .assign (.const (.int .i64 0)), none, []⟩])
  (.block 0
   (.loop pc42_l1)))
theorem plan42 : Tryd.f42.body.bind (plan Tryd.f42.ntmps) = some pc42 := by kernel_rfl
theorem calls42 {G : Env} {args : List AV} {σ : AS} {R : Out → AS → Prop} (hn : args.length = 1) (h : avc Tryd.prog G 15 pc42 (afin Tryd.prog [] R) (frame0 args) σ) : ACalls Tryd.prog G 42 args σ R :=
  acalls' (n := 15) (l := []) mixed Tryd.func42 (by kernel_rfl) (by kernel_rfl) plan42 (by omega) h

/- mortise/mortisekit.SpoilLists -/
def pc43_l1 : PC :=
  (.seq (.seq (.ops [⟨some 3, .move (.tmp 2), none, []⟩,
    ⟨some 4, .move (.tmp 0), none, []⟩,
    ⟨some 5, .call ⟨.builtin .len, #[(.tmp 4)], #[35]⟩, none, []⟩,
    ⟨some 6, .binOp .lss 3 (.tmp 3) (.tmp 5) 3, none, []⟩])
  (.cond (.tmp 6)
    .skip
    (.exit 0)))
  (.seq (.block 1
   (.ops [⟨some 9, .move (.tmp 0), none, []⟩,
     ⟨some 10, .move (.tmp 2), none, []⟩,
     ⟨some 11, .move (.tmp 2), none, []⟩,
     ⟨some 12, .binOp .add 3 (.tmp 11) (.const (.int .i64 7)) 3, none, []⟩,
     ⟨some 13, .call ⟨.value (.func 64), #[(.tmp 12)], #[3]⟩, none, []⟩,
     ⟨some 14, .indexAddr 35 (.tmp 9) (.tmp 10), none, []⟩,
     ⟨none, .store 38 (.tmp 14) (.tmp 13), none, []⟩]))
  (.ops [⟨some 7, .move (.tmp 2), none, []⟩,
    ⟨some 8, .binOp .add 3 (.tmp 7) (.const (.int .i64 1)) 3, none, []⟩,
    ⟨some 2, .assign (.tmp 8), none, []⟩])))
def pc43 : PC :=
  (.seq (.ops [⟨some 2, .assign (.const (.int .i64 0)), none, []⟩])
  (.block 0
   (.loop pc43_l1)))
theorem plan43 : Tryd.f43.body.bind (plan Tryd.f43.ntmps) = some pc43 := by kernel_rfl
theorem calls43 {G : Env} {args : List AV} {σ : AS} {R : Out → AS → Prop} (hn : args.length = 1) (h : avc Tryd.prog G 15 pc43 (afin Tryd.prog [] R) (frame0 args) σ) : ACalls Tryd.prog G 43 args σ R :=
  acalls' (n := 15) (l := []) mixed Tryd.func43 (by kernel_rfl) (by kernel_rfl) plan43 (by omega) h

/- mortise/mortisekit.SpoilWFuncs -/
def pc44_l1 : PC :=
  (.seq (.seq (.ops [⟨some 3, .move (.tmp 2), none, []⟩,
    ⟨some 4, .move (.tmp 0), none, []⟩,
    ⟨some 5, .call ⟨.builtin .len, #[(.tmp 4)], #[22]⟩, none, []⟩,
    ⟨some 6, .binOp .lss 3 (.tmp 3) (.tmp 5) 3, none, []⟩])
  (.cond (.tmp 6)
    .skip
    (.exit 0)))
  (.seq (.block 1
   (.ops [⟨some 9, .move (.tmp 0), none, []⟩,
     ⟨some 10, .move (.tmp 2), none, []⟩,
     ⟨some 11, .move (.tmp 2), none, []⟩,
     ⟨some 12, .binOp .add 3 (.tmp 11) (.const (.int .i64 7)) 3, none, []⟩,
     ⟨some 13, .call ⟨.value (.func 65), #[(.tmp 12)], #[3]⟩, none, []⟩,
     ⟨some 14, .indexAddr 22 (.tmp 9) (.tmp 10), none, []⟩,
     ⟨none, .store 37 (.tmp 14) (.tmp 13), none, []⟩]))
  (.ops [⟨some 7, .move (.tmp 2), none, []⟩,
    ⟨some 8, .binOp .add 3 (.tmp 7) (.const (.int .i64 1)) 3, none, []⟩,
    ⟨some 2, .assign (.tmp 8), none, []⟩])))
def pc44 : PC :=
  (.seq (.ops [⟨some 2, .assign (.const (.int .i64 0)), none, []⟩])
  (.block 0
   (.loop pc44_l1)))
theorem plan44 : Tryd.f44.body.bind (plan Tryd.f44.ntmps) = some pc44 := by kernel_rfl
theorem calls44 {G : Env} {args : List AV} {σ : AS} {R : Out → AS → Prop} (hn : args.length = 1) (h : avc Tryd.prog G 15 pc44 (afin Tryd.prog [] R) (frame0 args) σ) : ACalls Tryd.prog G 44 args σ R :=
  acalls' (n := 15) (l := []) mixed Tryd.func44 (by kernel_rfl) (by kernel_rfl) plan44 (by omega) h

/- slices.Concat[[]int,int] -/
def pc47_l1 : PC :=
  (.seq (.ops [⟨some 12, .binOp .lss 3 (.tmp 11) (.tmp 10) 3, none, []⟩])
  (.seq (.cond (.tmp 12)
    .skip
    (.exit 0))
  (.seq (.block 1
   (.seq (.ops [⟨some 13, .indexAddr 110 (.tmp 9) (.tmp 11), none, []⟩,
     ⟨some 14, .load 34 (.tmp 13), none, []⟩,
     ⟨some 5, .assign (.tmp 14), none, []⟩])
   (.seq (.ops [⟨some 15, .move (.tmp 3), none, []⟩,
     ⟨some 16, .move (.tmp 5), none, []⟩,
     ⟨some 17, .call ⟨.builtin .len, #[(.tmp 16)], #[34]⟩, none, []⟩,
     ⟨some 18, .binOp .add 3 (.tmp 15) (.tmp 17) 3, none, []⟩,
     ⟨some 3, .assign (.tmp 18), none, []⟩])
   (.seq (.ops [⟨some 19, .move (.tmp 3), none, []⟩,
     ⟨some 20, .binOp .lss 3 (.tmp 19) (.const (.int .i64 0)) 3, none, []⟩])
   (.cond (.tmp 20)
     (.ops [⟨some 21, .makeInterface 9 (.const (.string ⟨#[108, 101, 110, 32, 111, 117, 116, 32, 111, 102, 32, 114, 97, 110, 103, 101]⟩)), none, []⟩,
       ⟨none, .panic (.tmp 21), none, []⟩])
     .skip)))))
  (.ops [⟨some 22, .binOp .add 3 (.tmp 11) (.const (.int .i64 1)) 3, none, []⟩,
    ⟨some 11, .move (.tmp 22), none, []⟩]))))
def pc47_l2 : PC :=
  (.seq (.ops [⟨some 28, .binOp .lss 3 (.tmp 27) (.tmp 26) 3, none, []⟩])
  (.seq (.cond (.tmp 28)
    .skip
    (.exit 2))
  (.seq (.block 3
   (.seq (.ops [⟨some 29, .indexAddr 110 (.tmp 25) (.tmp 27), none, []⟩,
     ⟨some 30, .load 34 (.tmp 29), none, []⟩,
     ⟨some 8, .assign (.tmp 30), none, []⟩])
   (.ops [⟨some 31, .move (.tmp 6), none, []⟩,
     ⟨some 32, .move (.tmp 8), none, []⟩,
     ⟨some 33, .call ⟨.builtin .append, #[(.tmp 31), (.tmp 32)], #[34, 34]⟩, none, []⟩,
     ⟨some 6, .assign (.tmp 33), none, []⟩])))
  (.ops [⟨some 34, .binOp .add 3 (.tmp 27) (.const (.int .i64 1)) 3, none, []⟩,
    ⟨some 27, .move (.tmp 34), none, []⟩]))))
def pc47_r1 : PC :=
  (.seq (.ops [⟨some 35, .move (.tmp 6), none, []⟩,
    ⟨some 2, .assign (.tmp 35), none, []⟩])
  .ret)
def pc47_r2 : PC :=
  (.seq (.ops [⟨some 23, .move (.tmp 3), none, []⟩,
    ⟨some 24, .call ⟨.value (.func 69), #[(.const (.slice none 0 0)), (.tmp 23)], #[34, 3]⟩, none, []⟩,
    ⟨some 6, .assign (.tmp 24), none, []⟩])
  (.seq (.seq (.ops [⟨some 25, .move (.tmp 0), none, []⟩,
    ⟨some 26, .call ⟨.builtin .len, #[(.tmp 25)], #[110]⟩, none, []⟩,
    ⟨some 27, .move (.const (.int .i64 0)), none, []⟩])
  (.block 2
   (.loop pc47_l2)))
  pc47_r1))
def pc47 : PC :=
  (.seq (.ops [⟨some 2, .assign (.const (.slice none 0 0)), none, []⟩])
  (.seq (.ops [⟨some 3, .assign (.const (.int .i64 0)), none, []⟩])
  (.seq (.seq (.ops [⟨some 9, .move (.tmp 0), none, []⟩,
    ⟨some 10, .call ⟨.builtin .len, #[(.tmp 9)], #[110]⟩, none, []⟩,
    ⟨some 11, .move (.const (.int .i64 0)), none, []⟩])
  (.block 0
   (.loop pc47_l1)))
  pc47_r2)))
theorem plan47 : Tryd.f47.body.bind (plan Tryd.f47.ntmps) = some pc47 := by kernel_rfl
theorem calls47 {G : Env} {args : List AV} {σ : AS} {R : Out → AS → Prop} (hn : args.length = 1) (h : avc Tryd.prog G 36 pc47 (afin Tryd.prog [.tmp 2] R) (frame0 args) σ) : ACalls Tryd.prog G 47 args σ R :=
  acalls' (n := 36) (l := [.tmp 2]) mixed Tryd.func47 (by kernel_rfl) (by kernel_rfl) plan47 (by omega) h

/- slices.ContainsFunc[[]int,int] -/
def pc48 : PC :=
  (.seq (.ops [⟨some 4, .assign (.const (.bool false)), none, []⟩])
  (.seq (.ops [⟨some 5, .move (.tmp 0), none, []⟩,
    ⟨some 6, .move (.tmp 1), none, []⟩,
    ⟨some 7, .call ⟨.value (.func 70), #[(.tmp 5), (.tmp 6)], #[34, 92]⟩, none, []⟩,
    ⟨some 8, .binOp .geq 3 (.tmp 7) (.const (.int .i64 0)) 3, none, []⟩,
    ⟨some 4, .assign (.tmp 8), none, []⟩])
  .ret))
theorem plan48 : Tryd.f48.body.bind (plan Tryd.f48.ntmps) = some pc48 := by kernel_rfl
theorem calls48 {G : Env} {args : List AV} {σ : AS} {R : Out → AS → Prop} (hn : args.length = 2) (h : avc Tryd.prog G 9 pc48 (afin Tryd.prog [.tmp 4] R) (frame0 args) σ) : ACalls Tryd.prog G 48 args σ R :=
  acalls' (n := 9) (l := [.tmp 4]) mixed Tryd.func48 (by kernel_rfl) (by kernel_rfl) plan48 (by omega) h

/- (*mortise/wasm.checker).function$1 -/
def pc49 : PC :=
  (.seq (.ops [⟨some 2, .assign (.const (.bool false)), none, []⟩])
  (.seq (.ops [⟨some 3, .move (.tmp 0), none, []⟩,
    ⟨some 4, .call ⟨.value (.func 50), #[(.tmp 3)], #[3]⟩, none, []⟩,
    ⟨some 5, .unOp .not 4 (.tmp 4), none, []⟩,
    ⟨some 2, .assign (.tmp 5), none, []⟩])
  .ret))
theorem plan49 : Tryd.f49.body.bind (plan Tryd.f49.ntmps) = some pc49 := by kernel_rfl
theorem calls49 {G : Env} {args : List AV} {σ : AS} {R : Out → AS → Prop} (hn : args.length = 1) (h : avc Tryd.prog G 6 pc49 (afin Tryd.prog [.tmp 2] R) (frame0 args) σ) : ACalls Tryd.prog G 49 args σ R :=
  acalls' (n := 6) (l := [.tmp 2]) mixed Tryd.func49 (by kernel_rfl) (by kernel_rfl) plan49 (by omega) h

/- mortise/wasm.number -/
def pc50 : PC :=
  (.seq (.ops [⟨some 2, .assign (.const (.bool false)), none, []⟩])
  (.seq (.ops [⟨some 3, .move (.tmp 0), none, []⟩,
    ⟨some 4, .binOp .eql 3 (.tmp 3) (.const (.int .i64 1)) 3, none, []⟩,
    ⟨some 5, .move (.tmp 4), none, []⟩,
    ⟨some 6, .move (.tmp 0), (some (5, false)), []⟩,
    ⟨some 7, .binOp .eql 3 (.tmp 6) (.const (.int .i64 2)) 3, (some (5, false)), []⟩,
    ⟨some 8, .pick (.tmp 5) (.const (.bool true)) (.tmp 7), none, []⟩,
    ⟨some 2, .assign (.tmp 8), none, []⟩])
  .ret))
theorem plan50 : Tryd.f50.body.bind (plan Tryd.f50.ntmps) = some pc50 := by kernel_rfl
theorem calls50 {G : Env} {args : List AV} {σ : AS} {R : Out → AS → Prop} (hn : args.length = 1) (h : avc Tryd.prog G 9 pc50 (afin Tryd.prog [.tmp 2] R) (frame0 args) σ) : ACalls Tryd.prog G 50 args σ R :=
  acalls' (n := 9) (l := [.tmp 2]) mixed Tryd.func50 (by kernel_rfl) (by kernel_rfl) plan50 (by omega) h

/- (*mortise/wasm.checker).lists -/
def pc51_l1 : PC :=
  (.seq (.ops [⟨some 45, .binOp .lss 3 (.tmp 44) (.tmp 43) 3, none, []⟩])
  (.seq (.cond (.tmp 45)
    .skip
    (.exit 4))
  (.seq (.block 5
   (.seq (.ops [⟨some 46, .indexAddr 34 (.tmp 42) (.tmp 44), none, []⟩,
     ⟨some 47, .load 3 (.tmp 46), none, []⟩,
     ⟨some 8, .assign (.tmp 47), none, []⟩])
   (.seq (.ops [⟨some 48, .move (.tmp 8), none, []⟩,
     ⟨some 49, .binOp .geq 3 (.tmp 48) (.const (.int .i64 0)) 3, none, []⟩,
     ⟨some 50, .move (.tmp 49), none, []⟩,
     ⟨some 51, .move (.tmp 8), (some (50, true)), []⟩,
     ⟨some 52, .move (.tmp 3), (some (50, true)), []⟩,
     ⟨some 53, .binOp .lss 3 (.tmp 51) (.tmp 52) 3, (some (50, true)), []⟩,
     ⟨some 54, .pick (.tmp 50) (.tmp 53) (.const (.bool false)), none, []⟩,
     ⟨some 55, .move (.tmp 54), none, []⟩,
     ⟨some 56, .move (.tmp 2), (some (55, true)), []⟩,
     ⟨some 57, .move (.tmp 8), (some (55, true)), []⟩,
     ⟨some 58, .indexAddr 113 (.tmp 56) (.tmp 57), (some (55, true)), []⟩,
     ⟨some 59, .load 4 (.tmp 58), (some (55, true)), []⟩,
     ⟨some 60, .unOp .not 4 (.tmp 59), (some (55, true)), []⟩,
     ⟨some 61, .pick (.tmp 55) (.tmp 60) (.const (.bool false)), none, []⟩,
     ⟨some 62, .call ⟨.value (.func 29), #[(.tmp 61), (.const (.int .i64 11))], #[4, 26]⟩, none, []⟩])
   (.ops [⟨some 63, .move (.tmp 2), none, []⟩,
     ⟨some 64, .move (.tmp 8), none, []⟩,
     ⟨some 65, .indexAddr 113 (.tmp 63) (.tmp 64), none, []⟩,
     ⟨none, .store 4 (.tmp 65) (.const (.bool true)), none, []⟩]))))
  (.ops [⟨some 66, .binOp .add 3 (.tmp 44) (.const (.int .i64 1)) 3, none, []⟩,
    ⟨some 44, .move (.tmp 66), none, []⟩]))))
def pc51_r1 : PC :=
  (.ops [⟨some 67, .binOp .add 3 (.tmp 37) (.const (.int .i64 1)) 3, none, []⟩,
    ⟨some 37, .move (.tmp 67), none, []⟩])
def pc51_l2 : PC :=
  (.seq (.ops [⟨some 38, .binOp .lss 3 (.tmp 37) (.tmp 36) 3, none, []⟩])
  (.seq (.cond (.tmp 38)
    .skip
    (.exit 2))
  (.seq (.block 3
   (.seq (.ops [⟨some 39, .indexAddr 38 (.tmp 35) (.tmp 37), none, []⟩,
     ⟨some 40, .load 40 (.tmp 39), none, []⟩,
     ⟨some 6, .alloc 40, none, []⟩,
     ⟨none, .store 40 (.tmp 6) (.tmp 40), none, []⟩])
   (.seq (.ops [⟨some 41, .load 40 (.tmp 6), none, []⟩,
     ⟨some 42, .call ⟨.value (.func 71), #[(.tmp 41)], #[40]⟩, none, []⟩,
     ⟨some 43, .call ⟨.builtin .len, #[(.tmp 42)], #[34]⟩, none, []⟩,
     ⟨some 44, .move (.const (.int .i64 0)), none, []⟩])
   (.block 4
    (.loop pc51_l1)))))
  pc51_r1)))
def pc51_r2 : PC :=
  (.ops [⟨some 68, .binOp .add 3 (.tmp 30) (.const (.int .i64 1)) 3, none, []⟩,
    ⟨some 30, .move (.tmp 68), none, []⟩])
def pc51_l3 : PC :=
  (.seq (.ops [⟨some 31, .binOp .lss 3 (.tmp 30) (.tmp 29) 3, none, []⟩])
  (.seq (.cond (.tmp 31)
    .skip
    (.exit 0))
  (.seq (.block 1
   (.seq (.ops [⟨some 32, .move (.tmp 30), none, []⟩,
     ⟨some 33, .indexAddr 35 (.tmp 28) (.tmp 30), none, []⟩,
     ⟨some 34, .load 38 (.tmp 33), none, []⟩,
     ⟨some 3, .assign (.tmp 32), none, []⟩,
     ⟨some 4, .assign (.tmp 34), none, []⟩])
   (.seq (.ops [⟨some 35, .move (.tmp 4), none, []⟩,
     ⟨some 36, .call ⟨.builtin .len, #[(.tmp 35)], #[38]⟩, none, []⟩,
     ⟨some 37, .move (.const (.int .i64 0)), none, []⟩])
   (.block 2
    (.loop pc51_l2)))))
  pc51_r2)))
def pc51_r3 : PC :=
  (.ops [⟨some 69, .move (.tmp 2), none, []⟩,
    ⟨some 70, .move (.tmp 2), none, []⟩,
    ⟨some 71, .call ⟨.builtin .len, #[(.tmp 70)], #[113]⟩, none, []⟩,
    ⟨some 72, .binOp .sub 3 (.tmp 71) (.const (.int .i64 1)) 3, none, []⟩,
    ⟨some 73, .slice 113 (.tmp 69) none (some (.tmp 72)) none, none, []⟩,
    ⟨some 74, .call ⟨.value (.func 72), #[(.tmp 73), (.const (.bool false))], #[113, 4]⟩, none, []⟩,
    ⟨some 75, .unOp .not 4 (.tmp 74), none, []⟩,
    ⟨some 76, .call ⟨.value (.func 29), #[(.tmp 75), (.const (.int .i64 11))], #[4, 26]⟩, none, []⟩])
def pc51 : PC :=
  (.seq (.ops [⟨some 9, .move (.tmp 0), none, []⟩,
    ⟨some 10, .nilCheck (.tmp 9), none, []⟩,
    ⟨some 11, .fieldAddr 65 (.tmp 10) 1, none, []⟩,
    ⟨some 12, .fieldAddr 37 (.tmp 11) 4, none, []⟩,
    ⟨some 13, .load 35 (.tmp 12), none, []⟩,
    ⟨some 14, .call ⟨.builtin .len, #[(.tmp 13)], #[35]⟩, none, []⟩,
    ⟨some 15, .binOp .gtr 3 (.tmp 14) (.const (.int .i64 0)) 3, none, []⟩,
    ⟨some 16, .call ⟨.value (.func 29), #[(.tmp 15), (.const (.int .i64 11))], #[4, 26]⟩, none, []⟩])
  (.seq (.ops [⟨some 17, .move (.tmp 0), none, []⟩,
    ⟨some 18, .nilCheck (.tmp 17), none, []⟩,
    ⟨some 19, .fieldAddr 65 (.tmp 18) 1, none, []⟩,
    ⟨some 20, .fieldAddr 37 (.tmp 19) 4, none, []⟩,
    ⟨some 21, .load 35 (.tmp 20), none, []⟩,
    ⟨some 22, .call ⟨.builtin .len, #[(.tmp 21)], #[35]⟩, none, []⟩,
    ⟨some 23, .makeSlice 113 (.tmp 22) (.tmp 22), none, []⟩,
    ⟨some 2, .assign (.tmp 23), none, []⟩])
  (.seq (.seq (.ops [⟨some 24, .move (.tmp 0), none, []⟩,
    ⟨some 25, .nilCheck (.tmp 24), none, []⟩,
    ⟨some 26, .fieldAddr 65 (.tmp 25) 1, none, []⟩,
    ⟨some 27, .fieldAddr 37 (.tmp 26) 4, none, []⟩,
    ⟨some 28, .load 35 (.tmp 27), none, []⟩,
    ⟨some 29, .call ⟨.builtin .len, #[(.tmp 28)], #[35]⟩, none, []⟩,
    ⟨some 30, .move (.const (.int .i64 0)), none, []⟩])
  (.block 0
   (.loop pc51_l3)))
  pc51_r3)))
theorem plan51 : Tryd.f51.body.bind (plan Tryd.f51.ntmps) = some pc51 := by kernel_rfl
theorem calls51 {G : Env} {args : List AV} {σ : AS} {R : Out → AS → Prop} (hn : args.length = 1) (h : avc Tryd.prog G 77 pc51 (afin Tryd.prog [] R) (frame0 args) σ) : ACalls Tryd.prog G 51 args σ R :=
  acalls' (n := 77) (l := []) mixed Tryd.func51 (by kernel_rfl) (by kernel_rfl) plan51 (by omega) h

/- (*mortise/wasm.checker).look -/
def pc52_l1 : PC :=
  (.seq (.ops [⟨some 23, .binOp .lss 3 (.tmp 22) (.tmp 21) 3, none, []⟩])
  (.seq (.cond (.tmp 23)
    .skip
    (.exit 0))
  (.seq (.block 1
   (.seq (.ops [⟨some 24, .indexAddr 38 (.tmp 20) (.tmp 22), none, []⟩,
     ⟨some 25, .load 40 (.tmp 24), none, []⟩,
     ⟨some 8, .alloc 40, none, []⟩,
     ⟨none, .store 40 (.tmp 8) (.tmp 25), none, []⟩])
   (.ops [⟨some 26, .move (.tmp 6), none, []⟩,
     ⟨some 27, .load 40 (.tmp 8), none, []⟩,
     ⟨some 28, .call ⟨.value (.func 73), #[(.tmp 26), (.tmp 27)], #[116, 40]⟩, none, []⟩])))
  (.ops [⟨some 29, .binOp .add 3 (.tmp 22) (.const (.int .i64 1)) 3, none, []⟩,
    ⟨some 22, .move (.tmp 29), none, []⟩]))))
def pc52_r1 : PC :=
  (.seq (.seq (.ops [⟨some 30, .move (.tmp 2), none, []⟩,
    ⟨some 31, .binOp .eql 3 (.tmp 30) (.const (.int .i64 0)) 3, none, []⟩])
  (.cond (.tmp 31)
    (.ops [⟨some 32, .move (.tmp 6), none, []⟩,
      ⟨some 33, .call ⟨.value (.func 74), #[(.tmp 32)], #[116]⟩, none, []⟩])
    .skip))
  (.ops [⟨some 34, .move (.tmp 6), none, []⟩,
    ⟨some 35, .nilCheck (.tmp 34), none, []⟩,
    ⟨some 36, .fieldAddr 118 (.tmp 35) 1, none, []⟩,
    ⟨some 37, .load 34 (.tmp 36), none, []⟩,
    ⟨some 38, .call ⟨.builtin .len, #[(.tmp 37)], #[34]⟩, none, []⟩,
    ⟨some 39, .binOp .eql 3 (.tmp 38) (.const (.int .i64 0)) 3, none, []⟩,
    ⟨some 40, .call ⟨.value (.func 29), #[(.tmp 39), (.const (.int .i64 14))], #[4, 26]⟩, none, []⟩]))
def pc52 : PC :=
  (.seq (.ops [⟨some 9, .move (.tmp 0), none, []⟩,
    ⟨some 10, .move (.tmp 2), none, []⟩,
    ⟨some 11, .build 118 #[(0, (.tmp 9)), (3, (.tmp 10))], none, []⟩,
    ⟨some 12, .box 118 (.tmp 11), none, []⟩,
    ⟨some 6, .assign (.tmp 12), none, []⟩])
  (.seq (.seq (.ops [⟨some 13, .move (.tmp 0), none, []⟩,
    ⟨some 14, .nilCheck (.tmp 13), none, []⟩,
    ⟨some 15, .fieldAddr 65 (.tmp 14) 1, none, []⟩,
    ⟨some 16, .fieldAddr 37 (.tmp 15) 4, none, []⟩,
    ⟨some 17, .load 35 (.tmp 16), none, []⟩,
    ⟨some 18, .move (.tmp 1), none, []⟩,
    ⟨some 19, .indexAddr 35 (.tmp 17) (.tmp 18), none, []⟩,
    ⟨some 20, .load 38 (.tmp 19), none, []⟩,
    ⟨some 21, .call ⟨.builtin .len, #[(.tmp 20)], #[38]⟩, none, []⟩,
    ⟨some 22, .move (.const (.int .i64 0)), none, []⟩])
  (.block 0
   (.loop pc52_l1)))
  pc52_r1))
theorem plan52 : Tryd.f52.body.bind (plan Tryd.f52.ntmps) = some pc52 := by kernel_rfl
theorem calls52 {G : Env} {args : List AV} {σ : AS} {R : Out → AS → Prop} (hn : args.length = 3) (h : avc Tryd.prog G 41 pc52 (afin Tryd.prog [] R) (frame0 args) σ) : ACalls Tryd.prog G 52 args σ R :=
  acalls' (n := 41) (l := []) mixed Tryd.func52 (by kernel_rfl) (by kernel_rfl) plan52 (by omega) h

/- mortise/mortiselaw22.of -/
def pc53 : PC :=
  (.seq (.ops [⟨some 2, .alloc 24, none, []⟩])
  (.seq (.ops [⟨some 3, .buildSlice 34 1 #[(0, (.const (.int .i64 1)))], none, []⟩,
    ⟨some 4, .move (.tmp 0), none, []⟩,
    ⟨some 5, .build 37 #[(0, (.const (.string ⟨#[109, 97, 105, 110]⟩))), (3, (.const (.int .i64 1))), (2, (.tmp 3)), (4, (.tmp 4))], none, []⟩,
    ⟨some 6, .buildSlice 22 1 #[(0, (.tmp 5))], none, []⟩,
    ⟨some 7, .build 24 #[(0, (.tmp 6))], none, []⟩,
    ⟨none, .store 24 (.tmp 2) (.tmp 7), none, []⟩])
  .ret))
theorem plan53 : Tryd.f53.body.bind (plan Tryd.f53.ntmps) = some pc53 := by kernel_rfl
theorem calls53 {G : Env} {args : List AV} {σ : AS} {R : Out → AS → Prop} (hn : args.length = 1) (h : avc Tryd.prog G 8 pc53 (afin Tryd.prog [.cell 2 24] R) (frame0 args) σ) : ACalls Tryd.prog G 53 args σ R :=
  acalls' (n := 8) (l := [.cell 2 24]) mixed Tryd.func53 (by kernel_rfl) (by kernel_rfl) plan53 (by omega) h

/- mortise/mortisekit.SameWs -/
def pc54_l1 : PC :=
  (.seq (.seq (.ops [⟨some 11, .move (.tmp 5), none, []⟩,
    ⟨some 12, .move (.tmp 0), none, []⟩,
    ⟨some 13, .call ⟨.builtin .len, #[(.tmp 12)], #[38]⟩, none, []⟩,
    ⟨some 14, .binOp .lss 3 (.tmp 11) (.tmp 13) 3, none, []⟩])
  (.cond (.tmp 14)
    .skip
    (.exit 0)))
  (.seq (.block 1
   (.seq (.ops [⟨some 17, .move (.tmp 0), none, []⟩,
     ⟨some 18, .move (.tmp 5), none, []⟩,
     ⟨some 19, .indexAddr 38 (.tmp 17) (.tmp 18), none, []⟩,
     ⟨some 20, .load 40 (.tmp 19), none, []⟩,
     ⟨some 21, .move (.tmp 1), none, []⟩,
     ⟨some 22, .move (.tmp 5), none, []⟩,
     ⟨some 23, .indexAddr 38 (.tmp 21) (.tmp 22), none, []⟩,
     ⟨some 24, .load 40 (.tmp 23), none, []⟩,
     ⟨some 25, .binOp .eql 40 (.tmp 20) (.tmp 24) 40, none, []⟩,
     ⟨some 26, .unOp .not 4 (.tmp 25), none, []⟩])
   (.cond (.tmp 26)
     (.seq (.ops [⟨some 4, .assign (.const (.bool false)), none, []⟩])
     .ret)
     .skip)))
  (.ops [⟨some 15, .move (.tmp 5), none, []⟩,
    ⟨some 16, .binOp .add 3 (.tmp 15) (.const (.int .i64 1)) 3, none, []⟩,
    ⟨some 5, .assign (.tmp 16), none, []⟩])))
def pc54_r1 : PC :=
  (.seq (.ops [⟨some 4, .assign (.const (.bool true)), none, []⟩])
  .ret)
def pc54 : PC :=
  (.seq (.ops [⟨some 4, .assign (.const (.bool false)), none, []⟩])
  (.seq (.seq (.ops [⟨some 6, .move (.tmp 0), none, []⟩,
    ⟨some 7, .call ⟨.builtin .len, #[(.tmp 6)], #[38]⟩, none, []⟩,
    ⟨some 8, .move (.tmp 1), none, []⟩,
    ⟨some 9, .call ⟨.builtin .len, #[(.tmp 8)], #[38]⟩, none, []⟩,
    ⟨some 10, .binOp .neq 3 (.tmp 7) (.tmp 9) 3, none, []⟩])
  (.cond (.tmp 10)
    (.seq (.ops [⟨some 4, .assign (.const (.bool false)), none, []⟩])
    .ret)
    .skip))
  (.seq (.seq (.ops [⟨some 5, .assign (.const (.int .i64 0)), none, []⟩])
  (.block 0
   (.loop pc54_l1)))
  pc54_r1)))
theorem plan54 : Tryd.f54.body.bind (plan Tryd.f54.ntmps) = some pc54 := by kernel_rfl
theorem calls54 {G : Env} {args : List AV} {σ : AS} {R : Out → AS → Prop} (hn : args.length = 2) (h : avc Tryd.prog G 27 pc54 (afin Tryd.prog [.tmp 4] R) (frame0 args) σ) : ACalls Tryd.prog G 54 args σ R :=
  acalls' (n := 27) (l := [.tmp 4]) mixed Tryd.func54 (by kernel_rfl) (by kernel_rfl) plan54 (by omega) h

/- mortise/mortisekit.CopyWFunc -/
def pc55 : PC :=
  (.seq (.ops [⟨some 1, .box 37 (.tmp 0), none, []⟩,
    ⟨some 2, .alloc 37, none, []⟩])
  (.seq (.ops [⟨some 3, .fieldAddr 37 (.tmp 1) 1, none, []⟩,
    ⟨some 4, .load 34 (.tmp 3), none, []⟩,
    ⟨some 5, .call ⟨.value (.func 75), #[(.tmp 4)], #[34]⟩, none, []⟩,
    ⟨some 6, .fieldAddr 37 (.tmp 1) 1, none, []⟩,
    ⟨none, .store 34 (.tmp 6) (.tmp 5), none, []⟩])
  (.seq (.ops [⟨some 7, .fieldAddr 37 (.tmp 1) 2, none, []⟩,
    ⟨some 8, .load 34 (.tmp 7), none, []⟩,
    ⟨some 9, .call ⟨.value (.func 75), #[(.tmp 8)], #[34]⟩, none, []⟩,
    ⟨some 10, .fieldAddr 37 (.tmp 1) 2, none, []⟩,
    ⟨none, .store 34 (.tmp 10) (.tmp 9), none, []⟩])
  (.seq (.ops [⟨some 11, .fieldAddr 37 (.tmp 1) 4, none, []⟩,
    ⟨some 12, .load 35 (.tmp 11), none, []⟩,
    ⟨some 13, .call ⟨.value (.func 76), #[(.tmp 12)], #[35]⟩, none, []⟩,
    ⟨some 14, .fieldAddr 37 (.tmp 1) 4, none, []⟩,
    ⟨none, .store 35 (.tmp 14) (.tmp 13), none, []⟩])
  (.seq (.ops [⟨some 15, .load 37 (.tmp 1), none, []⟩,
    ⟨none, .store 37 (.tmp 2) (.tmp 15), none, []⟩])
  .ret)))))
theorem plan55 : Tryd.f55.body.bind (plan Tryd.f55.ntmps) = some pc55 := by kernel_rfl
theorem calls55 {G : Env} {args : List AV} {σ : AS} {R : Out → AS → Prop} (hn : args.length = 1) (h : avc Tryd.prog G 16 pc55 (afin Tryd.prog [.cell 2 37] R) (frame0 args) σ) : ACalls Tryd.prog G 55 args σ R :=
  acalls' (n := 16) (l := [.cell 2 37]) mixed Tryd.func55 (by kernel_rfl) (by kernel_rfl) plan55 (by omega) h

/- mortise/peep.leaves -/
def pc56 : PC :=
  (.seq (.ops [⟨some 1, .box 40 (.tmp 0), none, []⟩,
    ⟨some 2, .assign (.const (.bool false)), none, []⟩])
  (.seq (.ops [⟨some 3, .assign (.const (.bool false)), none, []⟩])
  (.seq (.seq (.ops [⟨some 4, .fieldAddr 40 (.tmp 1) 0, none, []⟩,
    ⟨some 5, .load 3 (.tmp 4), none, []⟩])
  (.block 0
   (.seq (.block 3
    (.block 2
     (.block 1
      (.seq (.seq (.seq (.ops [⟨some 7, .binOp .eql 3 (.tmp 5) (.const (.int .i64 14)) 3, none, []⟩,
        ⟨some 6, .assign (.tmp 7), none, []⟩])
      (.cond (.tmp 6)
        (.exit 1)
        .skip))
      (.seq (.seq (.ops [⟨some 9, .binOp .eql 3 (.tmp 5) (.const (.int .i64 16)) 3, none, []⟩,
        ⟨some 8, .assign (.tmp 9), none, []⟩])
      (.cond (.tmp 8)
        (.exit 2)
        .skip))
      (.seq (.ops [⟨some 11, .binOp .eql 3 (.tmp 5) (.const (.int .i64 17)) 3, none, []⟩,
        ⟨some 10, .assign (.tmp 11), none, []⟩])
      (.cond (.tmp 10)
        (.exit 3)
        .skip))))
      (.exit 0)))))
   (.seq (.ops [⟨some 3, .assign (.const (.bool true)), none, []⟩])
   (.exit 0)))))
  (.seq (.ops [⟨some 12, .move (.tmp 3), none, []⟩,
    ⟨some 2, .assign (.tmp 12), none, []⟩])
  .ret))))
theorem plan56 : Tryd.f56.body.bind (plan Tryd.f56.ntmps) = some pc56 := by kernel_rfl
theorem calls56 {G : Env} {args : List AV} {σ : AS} {R : Out → AS → Prop} (hn : args.length = 1) (h : avc Tryd.prog G 13 pc56 (afin Tryd.prog [.tmp 2] R) (frame0 args) σ) : ACalls Tryd.prog G 56 args σ R :=
  acalls' (n := 13) (l := [.tmp 2]) mixed Tryd.func56 (by kernel_rfl) (by kernel_rfl) plan56 (by omega) h

/- (*mortise/peep.maker).together -/
def pc57 : PC :=
  (.seq (.ops [⟨some 4, .box 40 (.tmp 1), none, []⟩,
    ⟨some 5, .box 40 (.tmp 2), none, []⟩,
    ⟨some 6, .assign (.const (.slice none 0 0)), none, []⟩,
    ⟨some 7, .assign (.const (.bool false)), none, []⟩])
  (.seq (.ops [⟨some 10, .fieldAddr 40 (.tmp 4) 0, none, []⟩,
    ⟨some 11, .load 3 (.tmp 10), none, []⟩,
    ⟨some 12, .binOp .eql 3 (.tmp 11) (.const (.int .i64 1)) 3, none, []⟩,
    ⟨some 13, .move (.tmp 12), none, []⟩,
    ⟨some 14, .fieldAddr 40 (.tmp 4) 1, (some (13, true)), []⟩,
    ⟨some 15, .load 3 (.tmp 14), (some (13, true)), []⟩,
    ⟨some 16, .binOp .eql 3 (.tmp 15) (.const (.int .i64 1)) 3, (some (13, true)), []⟩,
    ⟨some 17, .pick (.tmp 13) (.tmp 16) (.const (.bool false)), none, []⟩,
    ⟨some 8, .assign (.tmp 17), none, []⟩])
  (.seq (.seq (.ops [⟨some 18, .fieldAddr 40 (.tmp 4) 0, none, []⟩,
    ⟨some 19, .load 3 (.tmp 18), none, []⟩,
    ⟨some 20, .fieldAddr 40 (.tmp 5) 0, none, []⟩,
    ⟨some 21, .load 3 (.tmp 20), none, []⟩,
    ⟨some 22, .build 122 #[(0, (.tmp 19)), (1, (.tmp 21))], none, []⟩])
  (.block 0
   (.seq (.seq (.ops [⟨some 24, .build 122 #[(0, (.const (.int .i64 1))), (1, (.const (.int .i64 18)))], none, []⟩,
     ⟨some 25, .binOp .eql 122 (.tmp 22) (.tmp 24) 122, none, []⟩,
     ⟨some 23, .assign (.tmp 25), none, []⟩])
   (.cond (.tmp 23)
     .skip
     (.ops [⟨some 26, .build 122 #[(0, (.const (.int .i64 2))), (1, (.const (.int .i64 18)))], none, []⟩,
       ⟨some 27, .binOp .eql 122 (.tmp 22) (.tmp 26) 122, none, []⟩,
       ⟨some 23, .assign (.tmp 27), none, []⟩])))
   (.cond (.tmp 23)
     (.seq (.ops [⟨some 6, .assign (.const (.slice none 0 0)), none, []⟩,
       ⟨some 7, .assign (.const (.bool true)), none, []⟩])
     .ret)
     (.seq (.ops [⟨some 29, .build 122 #[(0, (.const (.int .i64 1))), (1, (.const (.int .i64 5)))], none, []⟩,
       ⟨some 30, .binOp .eql 122 (.tmp 22) (.tmp 29) 122, none, []⟩,
       ⟨some 28, .assign (.tmp 30), none, []⟩])
     (.cond (.tmp 28)
       (.seq (.ops [⟨some 9, .assign (.const (.int .i64 0)), none, []⟩])
       (.seq (.seq (.ops [⟨some 31, .fieldAddr 40 (.tmp 4) 2, none, []⟩,
         ⟨some 32, .load 3 (.tmp 31), none, []⟩,
         ⟨some 33, .binOp .eql 3 (.tmp 32) (.const (.int .i64 0)) 3, none, []⟩])
       (.cond (.tmp 33)
         (.ops [⟨some 9, .assign (.const (.int .i64 1)), none, []⟩])
         .skip))
       (.seq (.ops [⟨some 34, .move (.tmp 9), none, []⟩,
         ⟨some 35, .build 40 #[(0, (.const (.int .i64 1))), (1, (.const (.int .i64 1))), (2, (.tmp 34))], none, []⟩,
         ⟨some 36, .buildSlice 38 1 #[(0, (.tmp 35))], none, []⟩,
         ⟨some 37, .fieldAddr 40 (.tmp 4) 1, none, []⟩,
         ⟨some 38, .load 3 (.tmp 37), none, []⟩,
         ⟨some 39, .fieldAddr 40 (.tmp 5) 1, none, []⟩,
         ⟨some 40, .load 3 (.tmp 39), none, []⟩,
         ⟨some 41, .binOp .eql 3 (.tmp 38) (.tmp 40) 3, none, []⟩,
         ⟨some 6, .assign (.tmp 36), none, []⟩,
         ⟨some 7, .assign (.tmp 41), none, []⟩])
       .ret)))
       (.seq (.ops [⟨some 43, .build 122 #[(0, (.const (.int .i64 1))), (1, (.const (.int .i64 15)))], none, []⟩,
         ⟨some 44, .binOp .eql 122 (.tmp 22) (.tmp 43) 122, none, []⟩,
         ⟨some 42, .assign (.tmp 44), none, []⟩])
       (.cond (.tmp 42)
         (.seq (.seq (.ops [⟨some 45, .fieldAddr 40 (.tmp 4) 2, none, []⟩,
           ⟨some 46, .load 3 (.tmp 45), none, []⟩,
           ⟨some 47, .binOp .eql 3 (.tmp 46) (.const (.int .i64 0)) 3, none, []⟩])
         (.cond (.tmp 47)
           (.seq (.ops [⟨some 48, .move (.tmp 8), none, []⟩,
             ⟨some 6, .assign (.const (.slice none 0 0)), none, []⟩,
             ⟨some 7, .assign (.tmp 48), none, []⟩])
           .ret)
           .skip))
         (.seq (.ops [⟨some 49, .fieldAddr 40 (.tmp 5) 2, none, []⟩,
           ⟨some 50, .load 3 (.tmp 49), none, []⟩,
           ⟨some 51, .build 40 #[(0, (.const (.int .i64 14))), (2, (.tmp 50))], none, []⟩,
           ⟨some 52, .buildSlice 38 1 #[(0, (.tmp 51))], none, []⟩,
           ⟨some 53, .move (.tmp 8), none, []⟩,
           ⟨some 6, .assign (.tmp 52), none, []⟩,
           ⟨some 7, .assign (.tmp 53), none, []⟩])
         .ret))
         (.seq (.ops [⟨some 55, .build 122 #[(0, (.const (.int .i64 1))), (1, (.const (.int .i64 13)))], none, []⟩,
           ⟨some 56, .binOp .eql 122 (.tmp 22) (.tmp 55) 122, none, []⟩,
           ⟨some 54, .assign (.tmp 56), none, []⟩])
         (.cond (.tmp 54)
           (.seq (.seq (.ops [⟨some 57, .move (.tmp 8), none, []⟩,
             ⟨some 58, .unOp .not 4 (.tmp 57), none, []⟩])
           (.cond (.tmp 58)
             (.seq (.ops [⟨some 6, .assign (.const (.slice none 0 0)), none, []⟩,
               ⟨some 7, .assign (.const (.bool false)), none, []⟩])
             .ret)
             .skip))
           (.seq (.ops [⟨some 59, .move (.tmp 0), none, []⟩,
             ⟨some 60, .fieldAddr 40 (.tmp 4) 2, none, []⟩,
             ⟨some 61, .load 3 (.tmp 60), none, []⟩,
             ⟨some 62, .load 40 (.tmp 5), none, []⟩,
             ⟨some 63, .call ⟨.value (.func 77), #[(.tmp 59), (.tmp 61), (.tmp 62)], #[70, 3, 40]⟩, none, []⟩,
             ⟨some 6, .assign (.tmp 63), none, []⟩,
             ⟨some 7, .assign (.const (.bool true)), none, []⟩])
           .ret))
           .skip))))))))))
  (.seq (.ops [⟨some 6, .assign (.const (.slice none 0 0)), none, []⟩,
    ⟨some 7, .assign (.const (.bool false)), none, []⟩])
  .ret))))
theorem plan57 : Tryd.f57.body.bind (plan Tryd.f57.ntmps) = some pc57 := by kernel_rfl
theorem calls57 {G : Env} {args : List AV} {σ : AS} {R : Out → AS → Prop} (hn : args.length = 3) (h : avc Tryd.prog G 64 pc57 (afin Tryd.prog [.tmp 6, .tmp 7] R) (frame0 args) σ) : ACalls Tryd.prog G 57 args σ R :=
  acalls' (n := 64) (l := [.tmp 6, .tmp 7]) mixed Tryd.func57 (by kernel_rfl) (by kernel_rfl) plan57 (by omega) h

/- (*mortise/peep.maker).lists -/
def pc58 : PC :=
  (.seq (.ops [⟨some 3, .box 40 (.tmp 1), none, []⟩,
    ⟨some 4, .alloc 40, none, []⟩])
  (.seq (.seq (.ops [⟨some 5, .fieldAddr 40 (.tmp 3) 0, none, []⟩,
    ⟨some 6, .load 3 (.tmp 5), none, []⟩])
  (.block 0
   (.seq (.ops [⟨some 8, .binOp .eql 3 (.tmp 6) (.const (.int .i64 13)) 3, none, []⟩,
     ⟨some 7, .assign (.tmp 8), none, []⟩])
   (.cond (.tmp 7)
     (.seq (.ops [⟨some 9, .move (.tmp 0), none, []⟩,
       ⟨some 10, .fieldAddr 40 (.tmp 3) 3, none, []⟩,
       ⟨some 11, .load 3 (.tmp 10), none, []⟩,
       ⟨some 12, .call ⟨.value (.func 37), #[(.tmp 9), (.tmp 11)], #[70, 3]⟩, none, []⟩,
       ⟨some 13, .fieldAddr 40 (.tmp 3) 3, none, []⟩,
       ⟨none, .store 3 (.tmp 13) (.tmp 12), none, []⟩])
     (.seq (.ops [⟨some 14, .fieldAddr 40 (.tmp 3) 4, none, []⟩,
       ⟨some 15, .load 3 (.tmp 14), none, []⟩,
       ⟨some 16, .binOp .geq 3 (.tmp 15) (.const (.int .i64 0)) 3, none, []⟩])
     (.cond (.tmp 16)
       (.ops [⟨some 17, .move (.tmp 0), none, []⟩,
         ⟨some 18, .fieldAddr 40 (.tmp 3) 4, none, []⟩,
         ⟨some 19, .load 3 (.tmp 18), none, []⟩,
         ⟨some 20, .call ⟨.value (.func 37), #[(.tmp 17), (.tmp 19)], #[70, 3]⟩, none, []⟩,
         ⟨some 21, .fieldAddr 40 (.tmp 3) 4, none, []⟩,
         ⟨none, .store 3 (.tmp 21) (.tmp 20), none, []⟩])
       .skip)))
     (.seq (.seq (.ops [⟨some 23, .binOp .eql 3 (.tmp 6) (.const (.int .i64 11)) 3, none, []⟩,
       ⟨some 22, .assign (.tmp 23), none, []⟩])
     (.cond (.tmp 22)
       .skip
       (.ops [⟨some 24, .binOp .eql 3 (.tmp 6) (.const (.int .i64 12)) 3, none, []⟩,
         ⟨some 22, .assign (.tmp 24), none, []⟩])))
     (.cond (.tmp 22)
       (.ops [⟨some 25, .move (.tmp 0), none, []⟩,
         ⟨some 26, .fieldAddr 40 (.tmp 3) 3, none, []⟩,
         ⟨some 27, .load 3 (.tmp 26), none, []⟩,
         ⟨some 28, .call ⟨.value (.func 37), #[(.tmp 25), (.tmp 27)], #[70, 3]⟩, none, []⟩,
         ⟨some 29, .fieldAddr 40 (.tmp 3) 3, none, []⟩,
         ⟨none, .store 3 (.tmp 29) (.tmp 28), none, []⟩])
       .skip))))))
  (.seq (.ops [⟨some 30, .load 40 (.tmp 3), none, []⟩,
    ⟨none, .store 40 (.tmp 4) (.tmp 30), none, []⟩])
  .ret)))
theorem plan58 : Tryd.f58.body.bind (plan Tryd.f58.ntmps) = some pc58 := by kernel_rfl
theorem calls58 {G : Env} {args : List AV} {σ : AS} {R : Out → AS → Prop} (hn : args.length = 2) (h : avc Tryd.prog G 31 pc58 (afin Tryd.prog [.cell 4 40] R) (frame0 args) σ) : ACalls Tryd.prog G 58 args σ R :=
  acalls' (n := 31) (l := [.cell 4 40]) mixed Tryd.func58 (by kernel_rfl) (by kernel_rfl) plan58 (by omega) h

/- mortise/mortisekit.SameWFunc -/
def pc59 : PC :=
  (.seq (.ops [⟨some 2, .box 37 (.tmp 0), none, []⟩,
    ⟨some 3, .box 37 (.tmp 1), none, []⟩,
    ⟨some 4, .assign (.const (.bool false)), none, []⟩])
  (.seq (.ops [⟨some 5, .fieldAddr 37 (.tmp 2) 0, none, []⟩,
    ⟨some 6, .load 9 (.tmp 5), none, []⟩,
    ⟨some 7, .fieldAddr 37 (.tmp 3) 0, none, []⟩,
    ⟨some 8, .load 9 (.tmp 7), none, []⟩,
    ⟨some 9, .binOp .eql 9 (.tmp 6) (.tmp 8) 9, none, []⟩,
    ⟨some 10, .move (.tmp 9), none, []⟩,
    ⟨some 11, .fieldAddr 37 (.tmp 2) 3, (some (10, true)), []⟩,
    ⟨some 12, .load 3 (.tmp 11), (some (10, true)), []⟩,
    ⟨some 13, .fieldAddr 37 (.tmp 3) 3, (some (10, true)), []⟩,
    ⟨some 14, .load 3 (.tmp 13), (some (10, true)), []⟩,
    ⟨some 15, .binOp .eql 3 (.tmp 12) (.tmp 14) 3, (some (10, true)), []⟩,
    ⟨some 16, .pick (.tmp 10) (.tmp 15) (.const (.bool false)), none, []⟩,
    ⟨some 17, .move (.tmp 16), none, []⟩,
    ⟨some 18, .fieldAddr 37 (.tmp 2) 1, (some (17, true)), []⟩,
    ⟨some 19, .load 34 (.tmp 18), (some (17, true)), []⟩,
    ⟨some 20, .fieldAddr 37 (.tmp 3) 1, (some (17, true)), []⟩,
    ⟨some 21, .load 34 (.tmp 20), (some (17, true)), []⟩,
    ⟨some 22, .call ⟨.value (.func 18), #[(.tmp 19), (.tmp 21)], #[34, 34]⟩, (some (17, true)), []⟩,
    ⟨some 23, .pick (.tmp 17) (.tmp 22) (.const (.bool false)), none, []⟩,
    ⟨some 24, .move (.tmp 23), none, []⟩,
    ⟨some 25, .fieldAddr 37 (.tmp 2) 2, (some (24, true)), []⟩,
    ⟨some 26, .load 34 (.tmp 25), (some (24, true)), []⟩,
    ⟨some 27, .fieldAddr 37 (.tmp 3) 2, (some (24, true)), []⟩,
    ⟨some 28, .load 34 (.tmp 27), (some (24, true)), []⟩,
    ⟨some 29, .call ⟨.value (.func 18), #[(.tmp 26), (.tmp 28)], #[34, 34]⟩, (some (24, true)), []⟩,
    ⟨some 30, .pick (.tmp 24) (.tmp 29) (.const (.bool false)), none, []⟩,
    ⟨some 31, .move (.tmp 30), none, []⟩,
    ⟨some 32, .fieldAddr 37 (.tmp 2) 4, (some (31, true)), []⟩,
    ⟨some 33, .load 35 (.tmp 32), (some (31, true)), []⟩,
    ⟨some 34, .fieldAddr 37 (.tmp 3) 4, (some (31, true)), []⟩,
    ⟨some 35, .load 35 (.tmp 34), (some (31, true)), []⟩,
    ⟨some 36, .call ⟨.value (.func 78), #[(.tmp 33), (.tmp 35)], #[35, 35]⟩, (some (31, true)), []⟩,
    ⟨some 37, .pick (.tmp 31) (.tmp 36) (.const (.bool false)), none, []⟩,
    ⟨some 4, .assign (.tmp 37), none, []⟩])
  .ret))
theorem plan59 : Tryd.f59.body.bind (plan Tryd.f59.ntmps) = some pc59 := by kernel_rfl
theorem calls59 {G : Env} {args : List AV} {σ : AS} {R : Out → AS → Prop} (hn : args.length = 2) (h : avc Tryd.prog G 38 pc59 (afin Tryd.prog [.tmp 4] R) (frame0 args) σ) : ACalls Tryd.prog G 59 args σ R :=
  acalls' (n := 38) (l := [.tmp 4]) mixed Tryd.func59 (by kernel_rfl) (by kernel_rfl) plan59 (by omega) h

/- mortise/mortiseref22.leaves -/
def pc60 : PC :=
  (.seq (.ops [⟨some 1, .box 40 (.tmp 0), none, []⟩,
    ⟨some 2, .assign (.const (.bool false)), none, []⟩])
  (.seq (.ops [⟨some 3, .fieldAddr 40 (.tmp 1) 0, none, []⟩,
    ⟨some 4, .load 3 (.tmp 3), none, []⟩,
    ⟨some 5, .binOp .eql 3 (.tmp 4) (.const (.int .i64 14)) 3, none, []⟩,
    ⟨some 6, .move (.tmp 5), none, []⟩,
    ⟨some 7, .fieldAddr 40 (.tmp 1) 0, (some (6, false)), []⟩,
    ⟨some 8, .load 3 (.tmp 7), (some (6, false)), []⟩,
    ⟨some 9, .binOp .eql 3 (.tmp 8) (.const (.int .i64 16)) 3, (some (6, false)), []⟩,
    ⟨some 10, .pick (.tmp 6) (.const (.bool true)) (.tmp 9), none, []⟩,
    ⟨some 11, .move (.tmp 10), none, []⟩,
    ⟨some 12, .fieldAddr 40 (.tmp 1) 0, (some (11, false)), []⟩,
    ⟨some 13, .load 3 (.tmp 12), (some (11, false)), []⟩,
    ⟨some 14, .binOp .eql 3 (.tmp 13) (.const (.int .i64 17)) 3, (some (11, false)), []⟩,
    ⟨some 15, .pick (.tmp 11) (.const (.bool true)) (.tmp 14), none, []⟩,
    ⟨some 2, .assign (.tmp 15), none, []⟩])
  .ret))
theorem plan60 : Tryd.f60.body.bind (plan Tryd.f60.ntmps) = some pc60 := by kernel_rfl
theorem calls60 {G : Env} {args : List AV} {σ : AS} {R : Out → AS → Prop} (hn : args.length = 1) (h : avc Tryd.prog G 16 pc60 (afin Tryd.prog [.tmp 2] R) (frame0 args) σ) : ACalls Tryd.prog G 60 args σ R :=
  acalls' (n := 16) (l := [.tmp 2]) mixed Tryd.func60 (by kernel_rfl) (by kernel_rfl) plan60 (by omega) h

/- (*mortise/mortiseref22.Maker).lay -/
def pc61 : PC :=
  (.seq (.ops [⟨some 5, .box 40 (.tmp 2), none, []⟩,
    ⟨some 6, .assign (.const (.slice none 0 0)), none, []⟩])
  (.seq (.ops [⟨some 10, .move (.tmp 1), none, []⟩,
    ⟨some 11, .call ⟨.builtin .len, #[(.tmp 10)], #[38]⟩, none, []⟩,
    ⟨some 7, .assign (.tmp 11), none, []⟩])
  (.seq (.seq (.ops [⟨some 12, .move (.tmp 7), none, []⟩,
    ⟨some 13, .binOp .gtr 3 (.tmp 12) (.const (.int .i64 0)) 3, none, []⟩,
    ⟨some 14, .move (.tmp 13), none, []⟩,
    ⟨some 15, .move (.tmp 1), (some (14, true)), []⟩,
    ⟨some 16, .move (.tmp 7), (some (14, true)), []⟩,
    ⟨some 17, .binOp .sub 3 (.tmp 16) (.const (.int .i64 1)) 3, (some (14, true)), []⟩,
    ⟨some 18, .indexAddr 38 (.tmp 15) (.tmp 17), (some (14, true)), []⟩,
    ⟨some 19, .load 40 (.tmp 18), (some (14, true)), []⟩,
    ⟨some 20, .load 40 (.tmp 5), (some (14, true)), []⟩,
    ⟨some 21, .call ⟨.value (.func 79), #[(.tmp 19), (.tmp 20)], #[40, 40]⟩, (some (14, true)), []⟩,
    ⟨some 22, .pick (.tmp 14) (.tmp 21) (.const (.bool false)), none, []⟩])
  (.cond (.tmp 22)
    (.seq (.ops [⟨some 23, .move (.tmp 1), none, []⟩,
      ⟨some 24, .move (.tmp 7), none, []⟩,
      ⟨some 25, .binOp .sub 3 (.tmp 24) (.const (.int .i64 1)) 3, none, []⟩,
      ⟨some 26, .slice 38 (.tmp 23) none (some (.tmp 25)) none, none, []⟩,
      ⟨some 6, .assign (.tmp 26), none, []⟩])
    .ret)
    .skip))
  (.seq (.seq (.ops [⟨some 27, .move (.tmp 7), none, []⟩,
    ⟨some 28, .binOp .gtr 3 (.tmp 27) (.const (.int .i64 0)) 3, none, []⟩,
    ⟨some 29, .move (.tmp 28), none, []⟩,
    ⟨some 30, .move (.tmp 1), (some (29, true)), []⟩,
    ⟨some 31, .move (.tmp 7), (some (29, true)), []⟩,
    ⟨some 32, .binOp .sub 3 (.tmp 31) (.const (.int .i64 1)) 3, (some (29, true)), []⟩,
    ⟨some 33, .indexAddr 38 (.tmp 30) (.tmp 32), (some (29, true)), []⟩,
    ⟨some 34, .fieldAddr 40 (.tmp 33) 0, (some (29, true)), []⟩,
    ⟨some 35, .load 3 (.tmp 34), (some (29, true)), []⟩,
    ⟨some 36, .binOp .eql 3 (.tmp 35) (.const (.int .i64 1)) 3, (some (29, true)), []⟩,
    ⟨some 37, .pick (.tmp 29) (.tmp 36) (.const (.bool false)), none, []⟩,
    ⟨some 38, .move (.tmp 37), none, []⟩,
    ⟨some 39, .fieldAddr 40 (.tmp 5) 0, (some (38, true)), []⟩,
    ⟨some 40, .load 3 (.tmp 39), (some (38, true)), []⟩,
    ⟨some 41, .binOp .eql 3 (.tmp 40) (.const (.int .i64 5)) 3, (some (38, true)), []⟩,
    ⟨some 42, .pick (.tmp 38) (.tmp 41) (.const (.bool false)), none, []⟩,
    ⟨some 43, .move (.tmp 42), none, []⟩,
    ⟨some 44, .move (.tmp 1), (some (43, true)), []⟩,
    ⟨some 45, .move (.tmp 7), (some (43, true)), []⟩,
    ⟨some 46, .binOp .sub 3 (.tmp 45) (.const (.int .i64 1)) 3, (some (43, true)), []⟩,
    ⟨some 47, .indexAddr 38 (.tmp 44) (.tmp 46), (some (43, true)), []⟩,
    ⟨some 48, .fieldAddr 40 (.tmp 47) 1, (some (43, true)), []⟩,
    ⟨some 49, .load 3 (.tmp 48), (some (43, true)), []⟩,
    ⟨some 50, .fieldAddr 40 (.tmp 5) 1, (some (43, true)), []⟩,
    ⟨some 51, .load 3 (.tmp 50), (some (43, true)), []⟩,
    ⟨some 52, .binOp .eql 3 (.tmp 49) (.tmp 51) 3, (some (43, true)), []⟩,
    ⟨some 53, .pick (.tmp 43) (.tmp 52) (.const (.bool false)), none, []⟩])
  (.cond (.tmp 53)
    (.seq (.ops [⟨some 8, .assign (.const (.int .i64 0)), none, []⟩])
    (.seq (.seq (.ops [⟨some 54, .move (.tmp 1), none, []⟩,
      ⟨some 55, .move (.tmp 7), none, []⟩,
      ⟨some 56, .binOp .sub 3 (.tmp 55) (.const (.int .i64 1)) 3, none, []⟩,
      ⟨some 57, .indexAddr 38 (.tmp 54) (.tmp 56), none, []⟩,
      ⟨some 58, .fieldAddr 40 (.tmp 57) 2, none, []⟩,
      ⟨some 59, .load 3 (.tmp 58), none, []⟩,
      ⟨some 60, .binOp .eql 3 (.tmp 59) (.const (.int .i64 0)) 3, none, []⟩])
    (.cond (.tmp 60)
      (.ops [⟨some 8, .assign (.const (.int .i64 1)), none, []⟩])
      .skip))
    (.seq (.ops [⟨some 61, .move (.tmp 1), none, []⟩,
      ⟨some 62, .move (.tmp 7), none, []⟩,
      ⟨some 63, .binOp .sub 3 (.tmp 62) (.const (.int .i64 1)) 3, none, []⟩,
      ⟨some 64, .slice 38 (.tmp 61) none (some (.tmp 63)) none, none, []⟩,
      ⟨some 65, .call ⟨.value (.func 80), #[(.tmp 64)], #[38]⟩, none, []⟩,
      ⟨some 66, .move (.tmp 8), none, []⟩,
      ⟨some 67, .build 40 #[(0, (.const (.int .i64 1))), (1, (.const (.int .i64 1))), (2, (.tmp 66))], none, []⟩,
      ⟨some 68, .buildSlice 38 1 #[(0, (.tmp 67))], none, []⟩,
      ⟨some 69, .call ⟨.builtin .append, #[(.tmp 65), (.tmp 68)], #[38, 38]⟩, none, []⟩,
      ⟨some 6, .assign (.tmp 69), none, []⟩])
    .ret)))
    .skip))
  (.seq (.seq (.ops [⟨some 70, .move (.tmp 7), none, []⟩,
    ⟨some 71, .binOp .gtr 3 (.tmp 70) (.const (.int .i64 0)) 3, none, []⟩,
    ⟨some 72, .move (.tmp 71), none, []⟩,
    ⟨some 73, .move (.tmp 1), (some (72, true)), []⟩,
    ⟨some 74, .move (.tmp 7), (some (72, true)), []⟩,
    ⟨some 75, .binOp .sub 3 (.tmp 74) (.const (.int .i64 1)) 3, (some (72, true)), []⟩,
    ⟨some 76, .indexAddr 38 (.tmp 73) (.tmp 75), (some (72, true)), []⟩,
    ⟨some 77, .load 40 (.tmp 76), (some (72, true)), []⟩,
    ⟨some 78, .call ⟨.value (.func 81), #[(.tmp 77)], #[40]⟩, (some (72, true)), []⟩,
    ⟨some 79, .pick (.tmp 72) (.tmp 78) (.const (.bool false)), none, []⟩,
    ⟨some 80, .move (.tmp 79), none, []⟩,
    ⟨some 81, .fieldAddr 40 (.tmp 5) 0, (some (80, true)), []⟩,
    ⟨some 82, .load 3 (.tmp 81), (some (80, true)), []⟩,
    ⟨some 83, .binOp .eql 3 (.tmp 82) (.const (.int .i64 15)) 3, (some (80, true)), []⟩,
    ⟨some 84, .pick (.tmp 80) (.tmp 83) (.const (.bool false)), none, []⟩])
  (.cond (.tmp 84)
    (.seq (.seq (.ops [⟨some 85, .move (.tmp 1), none, []⟩,
      ⟨some 86, .move (.tmp 7), none, []⟩,
      ⟨some 87, .binOp .sub 3 (.tmp 86) (.const (.int .i64 1)) 3, none, []⟩,
      ⟨some 88, .indexAddr 38 (.tmp 85) (.tmp 87), none, []⟩,
      ⟨some 89, .fieldAddr 40 (.tmp 88) 2, none, []⟩,
      ⟨some 90, .load 3 (.tmp 89), none, []⟩,
      ⟨some 91, .binOp .eql 3 (.tmp 90) (.const (.int .i64 0)) 3, none, []⟩])
    (.cond (.tmp 91)
      (.seq (.ops [⟨some 92, .move (.tmp 1), none, []⟩,
        ⟨some 93, .move (.tmp 7), none, []⟩,
        ⟨some 94, .binOp .sub 3 (.tmp 93) (.const (.int .i64 1)) 3, none, []⟩,
        ⟨some 95, .slice 38 (.tmp 92) none (some (.tmp 94)) none, none, []⟩,
        ⟨some 6, .assign (.tmp 95), none, []⟩])
      .ret)
      .skip))
    (.seq (.ops [⟨some 96, .move (.tmp 1), none, []⟩,
      ⟨some 97, .move (.tmp 7), none, []⟩,
      ⟨some 98, .binOp .sub 3 (.tmp 97) (.const (.int .i64 1)) 3, none, []⟩,
      ⟨some 99, .slice 38 (.tmp 96) none (some (.tmp 98)) none, none, []⟩,
      ⟨some 101, .fieldAddr 40 (.tmp 5) 2, none, []⟩,
      ⟨some 102, .load 3 (.tmp 101), none, []⟩,
      ⟨some 103, .build 40 #[(0, (.const (.int .i64 14))), (2, (.tmp 102))], none, []⟩,
      ⟨some 104, .buildSlice 38 1 #[(0, (.tmp 103))], none, []⟩,
      ⟨some 100, .call ⟨.value (.func 80), #[(.tmp 99)], #[38]⟩, none, [⟨none, 3, (.tmp 101), 102⟩]⟩,
      ⟨some 105, .call ⟨.builtin .append, #[(.tmp 100), (.tmp 104)], #[38, 38]⟩, none, []⟩,
      ⟨some 6, .assign (.tmp 105), none, []⟩])
    .ret))
    .skip))
  (.seq (.seq (.ops [⟨some 106, .move (.tmp 7), none, []⟩,
    ⟨some 107, .binOp .gtr 3 (.tmp 106) (.const (.int .i64 0)) 3, none, []⟩,
    ⟨some 108, .move (.tmp 107), none, []⟩,
    ⟨some 109, .move (.tmp 1), (some (108, true)), []⟩,
    ⟨some 110, .move (.tmp 7), (some (108, true)), []⟩,
    ⟨some 111, .binOp .sub 3 (.tmp 110) (.const (.int .i64 1)) 3, (some (108, true)), []⟩,
    ⟨some 112, .indexAddr 38 (.tmp 109) (.tmp 111), (some (108, true)), []⟩,
    ⟨some 113, .load 40 (.tmp 112), (some (108, true)), []⟩,
    ⟨some 114, .call ⟨.value (.func 81), #[(.tmp 113)], #[40]⟩, (some (108, true)), []⟩,
    ⟨some 115, .pick (.tmp 108) (.tmp 114) (.const (.bool false)), none, []⟩,
    ⟨some 116, .move (.tmp 115), none, []⟩,
    ⟨some 117, .fieldAddr 40 (.tmp 5) 0, (some (116, true)), []⟩,
    ⟨some 118, .load 3 (.tmp 117), (some (116, true)), []⟩,
    ⟨some 119, .binOp .eql 3 (.tmp 118) (.const (.int .i64 13)) 3, (some (116, true)), []⟩,
    ⟨some 120, .pick (.tmp 116) (.tmp 119) (.const (.bool false)), none, []⟩])
  (.cond (.tmp 120)
    (.seq (.ops [⟨some 121, .fieldAddr 40 (.tmp 5) 3, none, []⟩,
      ⟨some 122, .load 3 (.tmp 121), none, []⟩,
      ⟨some 9, .assign (.tmp 122), none, []⟩])
    (.seq (.seq (.ops [⟨some 123, .move (.tmp 1), none, []⟩,
      ⟨some 124, .move (.tmp 7), none, []⟩,
      ⟨some 125, .binOp .sub 3 (.tmp 124) (.const (.int .i64 1)) 3, none, []⟩,
      ⟨some 126, .indexAddr 38 (.tmp 123) (.tmp 125), none, []⟩,
      ⟨some 127, .fieldAddr 40 (.tmp 126) 2, none, []⟩,
      ⟨some 128, .load 3 (.tmp 127), none, []⟩,
      ⟨some 129, .binOp .eql 3 (.tmp 128) (.const (.int .i64 0)) 3, none, []⟩])
    (.cond (.tmp 129)
      (.ops [⟨some 130, .fieldAddr 40 (.tmp 5) 4, none, []⟩,
        ⟨some 131, .load 3 (.tmp 130), none, []⟩,
        ⟨some 9, .assign (.tmp 131), none, []⟩])
      .skip))
    (.seq (.seq (.ops [⟨some 132, .move (.tmp 9), none, []⟩,
      ⟨some 133, .binOp .lss 3 (.tmp 132) (.const (.int .i64 0)) 3, none, []⟩])
    (.cond (.tmp 133)
      (.seq (.ops [⟨some 134, .move (.tmp 1), none, []⟩,
        ⟨some 135, .move (.tmp 7), none, []⟩,
        ⟨some 136, .binOp .sub 3 (.tmp 135) (.const (.int .i64 1)) 3, none, []⟩,
        ⟨some 137, .slice 38 (.tmp 134) none (some (.tmp 136)) none, none, []⟩,
        ⟨some 6, .assign (.tmp 137), none, []⟩])
      .ret)
      .skip))
    (.seq (.ops [⟨some 138, .move (.tmp 1), none, []⟩,
      ⟨some 139, .move (.tmp 7), none, []⟩,
      ⟨some 140, .binOp .sub 3 (.tmp 139) (.const (.int .i64 1)) 3, none, []⟩,
      ⟨some 141, .slice 38 (.tmp 138) none (some (.tmp 140)) none, none, []⟩,
      ⟨some 142, .call ⟨.value (.func 80), #[(.tmp 141)], #[38]⟩, none, []⟩,
      ⟨some 143, .move (.tmp 0), none, []⟩,
      ⟨some 144, .move (.tmp 9), none, []⟩,
      ⟨some 145, .call ⟨.value (.func 40), #[(.tmp 143), (.tmp 144)], #[76, 3]⟩, none, []⟩,
      ⟨some 146, .build 40 #[(0, (.const (.int .i64 11))), (3, (.tmp 145))], none, []⟩,
      ⟨some 147, .buildSlice 38 1 #[(0, (.tmp 146))], none, []⟩,
      ⟨some 148, .call ⟨.builtin .append, #[(.tmp 142), (.tmp 147)], #[38, 38]⟩, none, []⟩,
      ⟨some 6, .assign (.tmp 148), none, []⟩])
    .ret))))
    .skip))
  (.seq (.seq (.ops [⟨some 149, .fieldAddr 40 (.tmp 5) 0, none, []⟩,
    ⟨some 150, .load 3 (.tmp 149), none, []⟩,
    ⟨some 151, .binOp .geq 3 (.tmp 150) (.const (.int .i64 11)) 3, none, []⟩,
    ⟨some 152, .move (.tmp 151), none, []⟩,
    ⟨some 153, .fieldAddr 40 (.tmp 5) 0, (some (152, true)), []⟩,
    ⟨some 154, .load 3 (.tmp 153), (some (152, true)), []⟩,
    ⟨some 155, .binOp .leq 3 (.tmp 154) (.const (.int .i64 13)) 3, (some (152, true)), []⟩,
    ⟨some 156, .pick (.tmp 152) (.tmp 155) (.const (.bool false)), none, []⟩])
  (.cond (.tmp 156)
    (.ops [⟨some 157, .move (.tmp 0), none, []⟩,
      ⟨some 158, .fieldAddr 40 (.tmp 5) 3, none, []⟩,
      ⟨some 159, .load 3 (.tmp 158), none, []⟩,
      ⟨some 160, .call ⟨.value (.func 40), #[(.tmp 157), (.tmp 159)], #[76, 3]⟩, none, []⟩,
      ⟨some 161, .fieldAddr 40 (.tmp 5) 3, none, []⟩,
      ⟨none, .store 3 (.tmp 161) (.tmp 160), none, []⟩])
    .skip))
  (.seq (.seq (.ops [⟨some 162, .fieldAddr 40 (.tmp 5) 0, none, []⟩,
    ⟨some 163, .load 3 (.tmp 162), none, []⟩,
    ⟨some 164, .binOp .eql 3 (.tmp 163) (.const (.int .i64 13)) 3, none, []⟩,
    ⟨some 165, .move (.tmp 164), none, []⟩,
    ⟨some 166, .fieldAddr 40 (.tmp 5) 4, (some (165, true)), []⟩,
    ⟨some 167, .load 3 (.tmp 166), (some (165, true)), []⟩,
    ⟨some 168, .binOp .geq 3 (.tmp 167) (.const (.int .i64 0)) 3, (some (165, true)), []⟩,
    ⟨some 169, .pick (.tmp 165) (.tmp 168) (.const (.bool false)), none, []⟩])
  (.cond (.tmp 169)
    (.ops [⟨some 170, .move (.tmp 0), none, []⟩,
      ⟨some 171, .fieldAddr 40 (.tmp 5) 4, none, []⟩,
      ⟨some 172, .load 3 (.tmp 171), none, []⟩,
      ⟨some 173, .call ⟨.value (.func 40), #[(.tmp 170), (.tmp 172)], #[76, 3]⟩, none, []⟩,
      ⟨some 174, .fieldAddr 40 (.tmp 5) 4, none, []⟩,
      ⟨none, .store 3 (.tmp 174) (.tmp 173), none, []⟩])
    .skip))
  (.seq (.ops [⟨some 175, .move (.tmp 1), none, []⟩,
    ⟨some 177, .load 40 (.tmp 5), none, []⟩,
    ⟨some 178, .buildSlice 38 1 #[(0, (.tmp 177))], none, []⟩,
    ⟨some 176, .call ⟨.value (.func 80), #[(.tmp 175)], #[38]⟩, none, [⟨none, 40, (.tmp 5), 177⟩]⟩,
    ⟨some 179, .call ⟨.builtin .append, #[(.tmp 176), (.tmp 178)], #[38, 38]⟩, none, []⟩,
    ⟨some 6, .assign (.tmp 179), none, []⟩])
  .ret)))))))))
theorem plan61 : Tryd.f61.body.bind (plan Tryd.f61.ntmps) = some pc61 := by kernel_rfl
theorem calls61 {G : Env} {args : List AV} {σ : AS} {R : Out → AS → Prop} (hn : args.length = 3) (h : avc Tryd.prog G 180 pc61 (afin Tryd.prog [.tmp 6] R) (frame0 args) σ) : ACalls Tryd.prog G 61 args σ R :=
  acalls' (n := 180) (l := [.tmp 6]) mixed Tryd.func61 (by kernel_rfl) (by kernel_rfl) plan61 (by omega) h

/- mortise/mortisekit.markInts -/
def pc62 : PC :=
  (.seq (.ops [⟨some 2, .assign (.const (.int .i64 0)), none, []⟩])
  (.seq (.ops [⟨some 3, .move (.tmp 0), none, []⟩,
    ⟨some 4, .binOp .mul 3 (.const (.int .i64 13)) (.tmp 3) 3, none, []⟩,
    ⟨some 5, .binOp .add 3 (.const (.int .i64 7001)) (.tmp 4) 3, none, []⟩,
    ⟨some 2, .assign (.tmp 5), none, []⟩])
  .ret))
theorem plan62 : Tryd.f62.body.bind (plan Tryd.f62.ntmps) = some pc62 := by kernel_rfl
theorem calls62 {G : Env} {args : List AV} {σ : AS} {R : Out → AS → Prop} (hn : args.length = 1) (h : avc Tryd.prog G 6 pc62 (afin Tryd.prog [.tmp 2] R) (frame0 args) σ) : ACalls Tryd.prog G 62 args σ R :=
  acalls' (n := 6) (l := [.tmp 2]) mixed Tryd.func62 (by kernel_rfl) (by kernel_rfl) plan62 (by omega) h

/- mortise/mortisekit.markWs -/
def pc63 : PC :=
  (.seq (.ops [⟨some 2, .alloc 40, none, []⟩])
  (.seq (.ops [⟨some 3, .move (.tmp 0), none, []⟩,
    ⟨some 4, .binOp .sub 3 (.const (.int .i64 (-9))) (.tmp 3) 3, none, []⟩,
    ⟨some 5, .build 40 #[(0, (.tmp 4))], none, []⟩,
    ⟨none, .store 40 (.tmp 2) (.tmp 5), none, []⟩])
  .ret))
theorem plan63 : Tryd.f63.body.bind (plan Tryd.f63.ntmps) = some pc63 := by kernel_rfl
theorem calls63 {G : Env} {args : List AV} {σ : AS} {R : Out → AS → Prop} (hn : args.length = 1) (h : avc Tryd.prog G 6 pc63 (afin Tryd.prog [.cell 2 40] R) (frame0 args) σ) : ACalls Tryd.prog G 63 args σ R :=
  acalls' (n := 6) (l := [.cell 2 40]) mixed Tryd.func63 (by kernel_rfl) (by kernel_rfl) plan63 (by omega) h

/- mortise/mortisekit.markLists -/
def pc64 : PC :=
  (.seq (.ops [⟨some 2, .assign (.const (.slice none 0 0)), none, []⟩])
  (.seq (.ops [⟨some 3, .move (.tmp 0), none, []⟩,
    ⟨some 4, .binOp .add 3 (.const (.int .i64 99)) (.tmp 3) 3, none, []⟩,
    ⟨some 5, .build 40 #[(0, (.tmp 4))], none, []⟩,
    ⟨some 6, .buildSlice 38 1 #[(0, (.tmp 5))], none, []⟩,
    ⟨some 2, .assign (.tmp 6), none, []⟩])
  .ret))
theorem plan64 : Tryd.f64.body.bind (plan Tryd.f64.ntmps) = some pc64 := by kernel_rfl
theorem calls64 {G : Env} {args : List AV} {σ : AS} {R : Out → AS → Prop} (hn : args.length = 1) (h : avc Tryd.prog G 7 pc64 (afin Tryd.prog [.tmp 2] R) (frame0 args) σ) : ACalls Tryd.prog G 64 args σ R :=
  acalls' (n := 7) (l := [.tmp 2]) mixed Tryd.func64 (by kernel_rfl) (by kernel_rfl) plan64 (by omega) h

/- mortise/mortisekit.markWFuncs -/
def pc65 : PC :=
  (.seq (.ops [⟨some 2, .alloc 37, none, []⟩])
  (.seq (.ops [⟨some 3, .move (.tmp 0), none, []⟩,
    ⟨some 4, .binOp .sub 3 (.const (.int .i64 (-9))) (.tmp 3) 3, none, []⟩,
    ⟨some 5, .build 37 #[(3, (.tmp 4))], none, []⟩,
    ⟨none, .store 37 (.tmp 2) (.tmp 5), none, []⟩])
  .ret))
theorem plan65 : Tryd.f65.body.bind (plan Tryd.f65.ntmps) = some pc65 := by kernel_rfl
theorem calls65 {G : Env} {args : List AV} {σ : AS} {R : Out → AS → Prop} (hn : args.length = 1) (h : avc Tryd.prog G 6 pc65 (afin Tryd.prog [.cell 2 37] R) (frame0 args) σ) : ACalls Tryd.prog G 65 args σ R :=
  acalls' (n := 6) (l := [.cell 2 37]) mixed Tryd.func65 (by kernel_rfl) (by kernel_rfl) plan65 (by omega) h

/- slices.Grow[[]int,int] -/
def pc69 : PC :=
  (.seq (.ops [⟨some 4, .assign (.const (.slice none 0 0)), none, []⟩])
  (.seq (.seq (.ops [⟨some 5, .move (.tmp 1), none, []⟩,
    ⟨some 6, .binOp .lss 3 (.tmp 5) (.const (.int .i64 0)) 3, none, []⟩])
  (.cond (.tmp 6)
    (.ops [⟨some 7, .makeInterface 9 (.const (.string ⟨#[99, 97, 110, 110, 111, 116, 32, 98, 101, 32, 110, 101, 103, 97, 116, 105, 118, 101]⟩)), none, []⟩,
      ⟨none, .panic (.tmp 7), none, []⟩])
    .skip))
  (.seq (.seq (.ops [⟨some 8, .move (.tmp 1), none, []⟩,
    ⟨some 9, .move (.tmp 0), none, []⟩,
    ⟨some 10, .call ⟨.builtin .cap, #[(.tmp 9)], #[34]⟩, none, []⟩,
    ⟨some 11, .move (.tmp 0), none, []⟩,
    ⟨some 12, .call ⟨.builtin .len, #[(.tmp 11)], #[34]⟩, none, []⟩,
    ⟨some 13, .binOp .sub 3 (.tmp 10) (.tmp 12) 3, none, []⟩,
    ⟨some 14, .binOp .sub 3 (.tmp 8) (.tmp 13) 3, none, []⟩,
    ⟨some 1, .assign (.tmp 14), none, []⟩])
  (.seq (.ops [⟨some 15, .move (.tmp 1), none, []⟩,
    ⟨some 16, .binOp .gtr 3 (.tmp 15) (.const (.int .i64 0)) 3, none, []⟩])
  (.cond (.tmp 16)
    (.ops [⟨some 17, .move (.tmp 0), none, []⟩,
      ⟨some 18, .move (.tmp 0), none, []⟩,
      ⟨some 19, .call ⟨.builtin .cap, #[(.tmp 18)], #[34]⟩, none, []⟩,
      ⟨some 20, .slice 34 (.tmp 17) none (some (.tmp 19)) none, none, []⟩,
      ⟨some 21, .move (.tmp 1), none, []⟩,
      ⟨some 22, .call ⟨.builtin .append, #[(.tmp 20), (.tmp 21)], #[34, 3]⟩, none, []⟩,
      ⟨some 23, .move (.tmp 0), none, []⟩,
      ⟨some 24, .call ⟨.builtin .len, #[(.tmp 23)], #[34]⟩, none, []⟩,
      ⟨some 25, .slice 34 (.tmp 22) none (some (.tmp 24)) none, none, []⟩,
      ⟨some 0, .assign (.tmp 25), none, []⟩])
    .skip)))
  (.seq (.ops [⟨some 26, .move (.tmp 0), none, []⟩,
    ⟨some 4, .assign (.tmp 26), none, []⟩])
  .ret))))
theorem plan69 : Tryd.f69.body.bind (plan Tryd.f69.ntmps) = some pc69 := by kernel_rfl
theorem calls69 {G : Env} {args : List AV} {σ : AS} {R : Out → AS → Prop} (hn : args.length = 2) (h : avc Tryd.prog G 27 pc69 (afin Tryd.prog [.tmp 4] R) (frame0 args) σ) : ACalls Tryd.prog G 69 args σ R :=
  acalls' (n := 27) (l := [.tmp 4]) mixed Tryd.func69 (by kernel_rfl) (by kernel_rfl) plan69 (by omega) h

/- slices.IndexFunc[[]int,int] -/
def pc70_l1 : PC :=
  (.seq (.ops [⟨some 9, .binOp .lss 3 (.tmp 8) (.tmp 7) 3, none, []⟩])
  (.seq (.cond (.tmp 9)
    .skip
    (.exit 0))
  (.seq (.block 1
   (.seq (.ops [⟨some 10, .move (.tmp 8), none, []⟩,
     ⟨some 5, .assign (.tmp 10), none, []⟩])
   (.seq (.ops [⟨some 11, .move (.tmp 1), none, []⟩,
     ⟨some 12, .move (.tmp 0), none, []⟩,
     ⟨some 13, .move (.tmp 5), none, []⟩,
     ⟨some 14, .indexAddr 34 (.tmp 12) (.tmp 13), none, []⟩,
     ⟨some 15, .load 3 (.tmp 14), none, []⟩,
     ⟨some 16, .call ⟨.value (.tmp 11), #[(.tmp 15)], #[3]⟩, none, []⟩])
   (.cond (.tmp 16)
     (.seq (.ops [⟨some 17, .move (.tmp 5), none, []⟩,
       ⟨some 4, .assign (.tmp 17), none, []⟩])
     .ret)
     .skip))))
  (.ops [⟨some 18, .binOp .add 3 (.tmp 8) (.const (.int .i64 1)) 3, none, []⟩,
    ⟨some 8, .move (.tmp 18), none, []⟩]))))
def pc70_r1 : PC :=
  (.seq (.ops [⟨some 4, .assign (.const (.int .i64 (-1))), none, []⟩])
  .ret)
def pc70 : PC :=
  (.seq (.ops [⟨some 4, .assign (.const (.int .i64 0)), none, []⟩])
  (.seq (.seq (.ops [⟨some 6, .move (.tmp 0), none, []⟩,
    ⟨some 7, .call ⟨.builtin .len, #[(.tmp 6)], #[34]⟩, none, []⟩,
    ⟨some 8, .move (.const (.int .i64 0)), none, []⟩])
  (.block 0
   (.loop pc70_l1)))
  pc70_r1))
theorem plan70 : Tryd.f70.body.bind (plan Tryd.f70.ntmps) = some pc70 := by kernel_rfl
theorem calls70 {G : Env} {args : List AV} {σ : AS} {R : Out → AS → Prop} (hn : args.length = 2) (h : avc Tryd.prog G 19 pc70 (afin Tryd.prog [.tmp 4] R) (frame0 args) σ) : ACalls Tryd.prog G 70 args σ R :=
  acalls' (n := 19) (l := [.tmp 4]) mixed Tryd.func70 (by kernel_rfl) (by kernel_rfl) plan70 (by omega) h

/- mortise/wasm.names -/
def pc71 : PC :=
  (.seq (.ops [⟨some 1, .box 40 (.tmp 0), none, []⟩,
    ⟨some 2, .assign (.const (.slice none 0 0)), none, []⟩])
  (.seq (.block 0
   (.seq (.seq (.ops [⟨some 4, .fieldAddr 40 (.tmp 1) 0, none, []⟩,
     ⟨some 5, .load 3 (.tmp 4), none, []⟩,
     ⟨some 6, .binOp .eql 3 (.tmp 5) (.const (.int .i64 11)) 3, none, []⟩,
     ⟨some 3, .assign (.tmp 6), none, []⟩])
   (.cond (.tmp 3)
     .skip
     (.seq (.ops [⟨some 7, .fieldAddr 40 (.tmp 1) 0, none, []⟩,
       ⟨some 8, .load 3 (.tmp 7), none, []⟩,
       ⟨some 9, .binOp .eql 3 (.tmp 8) (.const (.int .i64 12)) 3, none, []⟩,
       ⟨some 3, .assign (.tmp 9), none, []⟩])
     (.cond (.tmp 3)
       .skip
       (.ops [⟨some 10, .fieldAddr 40 (.tmp 1) 0, none, []⟩,
         ⟨some 11, .load 3 (.tmp 10), none, []⟩,
         ⟨some 12, .binOp .eql 3 (.tmp 11) (.const (.int .i64 13)) 3, none, []⟩,
         ⟨some 13, .move (.tmp 12), none, []⟩,
         ⟨some 14, .fieldAddr 40 (.tmp 1) 4, (some (13, true)), []⟩,
         ⟨some 15, .load 3 (.tmp 14), (some (13, true)), []⟩,
         ⟨some 16, .binOp .lss 3 (.tmp 15) (.const (.int .i64 0)) 3, (some (13, true)), []⟩,
         ⟨some 17, .pick (.tmp 13) (.tmp 16) (.const (.bool false)), none, []⟩,
         ⟨some 3, .assign (.tmp 17), none, []⟩])))))
   (.cond (.tmp 3)
     (.seq (.ops [⟨some 18, .fieldAddr 40 (.tmp 1) 3, none, []⟩,
       ⟨some 19, .load 3 (.tmp 18), none, []⟩,
       ⟨some 20, .buildSlice 34 1 #[(0, (.tmp 19))], none, []⟩,
       ⟨some 2, .assign (.tmp 20), none, []⟩])
     .ret)
     (.seq (.ops [⟨some 22, .fieldAddr 40 (.tmp 1) 0, none, []⟩,
       ⟨some 23, .load 3 (.tmp 22), none, []⟩,
       ⟨some 24, .binOp .eql 3 (.tmp 23) (.const (.int .i64 13)) 3, none, []⟩,
       ⟨some 21, .assign (.tmp 24), none, []⟩])
     (.cond (.tmp 21)
       (.seq (.ops [⟨some 25, .fieldAddr 40 (.tmp 1) 3, none, []⟩,
         ⟨some 26, .load 3 (.tmp 25), none, []⟩,
         ⟨some 27, .fieldAddr 40 (.tmp 1) 4, none, []⟩,
         ⟨some 28, .load 3 (.tmp 27), none, []⟩,
         ⟨some 29, .buildSlice 34 2 #[(0, (.tmp 26)), (1, (.tmp 28))], none, []⟩,
         ⟨some 2, .assign (.tmp 29), none, []⟩])
       .ret)
       .skip)))))
  (.seq (.ops [⟨some 2, .assign (.const (.slice none 0 0)), none, []⟩])
  .ret)))
theorem plan71 : Tryd.f71.body.bind (plan Tryd.f71.ntmps) = some pc71 := by kernel_rfl
theorem calls71 {G : Env} {args : List AV} {σ : AS} {R : Out → AS → Prop} (hn : args.length = 1) (h : avc Tryd.prog G 30 pc71 (afin Tryd.prog [.tmp 2] R) (frame0 args) σ) : ACalls Tryd.prog G 71 args σ R :=
  acalls' (n := 30) (l := [.tmp 2]) mixed Tryd.func71 (by kernel_rfl) (by kernel_rfl) plan71 (by omega) h

/- slices.Contains[[]bool,bool] -/
def pc72 : PC :=
  (.seq (.ops [⟨some 4, .assign (.const (.bool false)), none, []⟩])
  (.seq (.ops [⟨some 5, .move (.tmp 0), none, []⟩,
    ⟨some 6, .move (.tmp 1), none, []⟩,
    ⟨some 7, .call ⟨.value (.func 85), #[(.tmp 5), (.tmp 6)], #[113, 4]⟩, none, []⟩,
    ⟨some 8, .binOp .geq 3 (.tmp 7) (.const (.int .i64 0)) 3, none, []⟩,
    ⟨some 4, .assign (.tmp 8), none, []⟩])
  .ret))
theorem plan72 : Tryd.f72.body.bind (plan Tryd.f72.ntmps) = some pc72 := by kernel_rfl
theorem calls72 {G : Env} {args : List AV} {σ : AS} {R : Out → AS → Prop} (hn : args.length = 2) (h : avc Tryd.prog G 9 pc72 (afin Tryd.prog [.tmp 4] R) (frame0 args) σ) : ACalls Tryd.prog G 72 args σ R :=
  acalls' (n := 9) (l := [.tmp 4]) mixed Tryd.func72 (by kernel_rfl) (by kernel_rfl) plan72 (by omega) h

/- (*mortise/wasm.list).instr -/
def pc73 : PC :=
  (.seq (.ops [⟨some 3, .box 40 (.tmp 1), none, []⟩])
  (.seq (.ops [⟨some 4, .load 40 (.tmp 3), none, []⟩,
    ⟨some 5, .call ⟨.value (.func 86), #[(.tmp 4)], #[40]⟩, none, []⟩,
    ⟨some 6, .call ⟨.value (.func 29), #[(.tmp 5), (.const (.int .i64 2))], #[4, 26]⟩, none, []⟩])
  (.seq (.ops [⟨some 7, .move (.tmp 0), none, []⟩,
    ⟨some 8, .load 40 (.tmp 3), none, []⟩,
    ⟨some 9, .call ⟨.value (.func 87), #[(.tmp 7), (.tmp 8)], #[116, 40]⟩, none, []⟩,
    ⟨some 10, .call ⟨.value (.func 29), #[(.tmp 9), (.const (.int .i64 11))], #[4, 26]⟩, none, []⟩])
  (.seq (.ops [⟨some 11, .fieldAddr 40 (.tmp 3) 0, none, []⟩,
    ⟨some 12, .load 3 (.tmp 11), none, []⟩])
  (.block 0
   (.seq (.seq (.ops [⟨some 17, .binOp .eql 3 (.tmp 12) (.const (.int .i64 11)) 3, none, []⟩,
     ⟨some 16, .assign (.tmp 17), none, []⟩])
   (.cond (.tmp 16)
     .skip
     (.ops [⟨some 18, .binOp .eql 3 (.tmp 12) (.const (.int .i64 12)) 3, none, []⟩,
       ⟨some 16, .assign (.tmp 18), none, []⟩])))
   (.cond (.tmp 16)
     (.ops [⟨some 19, .move (.tmp 0), none, []⟩,
       ⟨some 20, .nilCheck (.tmp 19), none, []⟩,
       ⟨some 21, .fieldAddr 118 (.tmp 20) 0, none, []⟩,
       ⟨some 22, .load 63 (.tmp 21), none, []⟩,
       ⟨some 23, .fieldAddr 40 (.tmp 3) 3, none, []⟩,
       ⟨some 24, .load 3 (.tmp 23), none, []⟩,
       ⟨some 25, .move (.tmp 0), none, []⟩,
       ⟨some 26, .nilCheck (.tmp 25), none, []⟩,
       ⟨some 27, .fieldAddr 118 (.tmp 26) 3, none, []⟩,
       ⟨some 28, .load 3 (.tmp 27), none, []⟩,
       ⟨some 29, .binOp .add 3 (.tmp 28) (.const (.int .i64 1)) 3, none, []⟩,
       ⟨some 30, .call ⟨.value (.func 52), #[(.tmp 22), (.tmp 24), (.tmp 29)], #[63, 3, 3]⟩, none, []⟩])
     (.seq (.ops [⟨some 32, .binOp .eql 3 (.tmp 12) (.const (.int .i64 13)) 3, none, []⟩,
       ⟨some 31, .assign (.tmp 32), none, []⟩])
     (.cond (.tmp 31)
       (.seq (.ops [⟨some 33, .move (.tmp 0), none, []⟩,
         ⟨some 34, .buildSlice 34 1 #[(0, (.const (.int .i64 1)))], none, []⟩,
         ⟨some 35, .call ⟨.value (.func 88), #[(.tmp 33), (.tmp 34)], #[116, 34]⟩, none, []⟩])
       (.seq (.ops [⟨some 36, .move (.tmp 0), none, []⟩,
         ⟨some 37, .nilCheck (.tmp 36), none, []⟩,
         ⟨some 38, .fieldAddr 118 (.tmp 37) 0, none, []⟩,
         ⟨some 39, .load 63 (.tmp 38), none, []⟩,
         ⟨some 40, .fieldAddr 40 (.tmp 3) 3, none, []⟩,
         ⟨some 41, .load 3 (.tmp 40), none, []⟩,
         ⟨some 42, .move (.tmp 0), none, []⟩,
         ⟨some 43, .nilCheck (.tmp 42), none, []⟩,
         ⟨some 44, .fieldAddr 118 (.tmp 43) 3, none, []⟩,
         ⟨some 45, .load 3 (.tmp 44), none, []⟩,
         ⟨some 46, .binOp .add 3 (.tmp 45) (.const (.int .i64 1)) 3, none, []⟩,
         ⟨some 47, .call ⟨.value (.func 52), #[(.tmp 39), (.tmp 41), (.tmp 46)], #[63, 3, 3]⟩, none, []⟩])
       (.seq (.ops [⟨some 48, .fieldAddr 40 (.tmp 3) 4, none, []⟩,
         ⟨some 49, .load 3 (.tmp 48), none, []⟩,
         ⟨some 50, .binOp .geq 3 (.tmp 49) (.const (.int .i64 0)) 3, none, []⟩])
       (.cond (.tmp 50)
         (.ops [⟨some 51, .move (.tmp 0), none, []⟩,
           ⟨some 52, .nilCheck (.tmp 51), none, []⟩,
           ⟨some 53, .fieldAddr 118 (.tmp 52) 0, none, []⟩,
           ⟨some 54, .load 63 (.tmp 53), none, []⟩,
           ⟨some 55, .fieldAddr 40 (.tmp 3) 4, none, []⟩,
           ⟨some 56, .load 3 (.tmp 55), none, []⟩,
           ⟨some 57, .move (.tmp 0), none, []⟩,
           ⟨some 58, .nilCheck (.tmp 57), none, []⟩,
           ⟨some 59, .fieldAddr 118 (.tmp 58) 3, none, []⟩,
           ⟨some 60, .load 3 (.tmp 59), none, []⟩,
           ⟨some 61, .binOp .add 3 (.tmp 60) (.const (.int .i64 1)) 3, none, []⟩,
           ⟨some 62, .call ⟨.value (.func 52), #[(.tmp 54), (.tmp 56), (.tmp 61)], #[63, 3, 3]⟩, none, []⟩])
         .skip))))
       (.seq (.ops [⟨some 64, .binOp .eql 3 (.tmp 12) (.const (.int .i64 15)) 3, none, []⟩,
         ⟨some 63, .assign (.tmp 64), none, []⟩])
       (.cond (.tmp 63)
         (.seq (.ops [⟨some 65, .move (.tmp 0), none, []⟩,
           ⟨some 66, .buildSlice 34 1 #[(0, (.const (.int .i64 1)))], none, []⟩,
           ⟨some 67, .call ⟨.value (.func 88), #[(.tmp 65), (.tmp 66)], #[116, 34]⟩, none, []⟩])
         (.seq (.ops [⟨some 68, .fieldAddr 40 (.tmp 3) 2, none, []⟩,
           ⟨some 69, .load 3 (.tmp 68), none, []⟩,
           ⟨some 70, .move (.tmp 0), none, []⟩,
           ⟨some 71, .nilCheck (.tmp 70), none, []⟩,
           ⟨some 72, .fieldAddr 118 (.tmp 71) 3, none, []⟩,
           ⟨some 73, .load 3 (.tmp 72), none, []⟩,
           ⟨some 74, .binOp .eql 3 (.tmp 69) (.tmp 73) 3, none, []⟩])
         (.cond (.tmp 74)
           (.seq (.ops [⟨some 75, .move (.tmp 0), none, []⟩,
             ⟨some 76, .call ⟨.value (.func 74), #[(.tmp 75)], #[116]⟩, none, []⟩])
           (.ops [⟨some 77, .move (.tmp 0), none, []⟩,
             ⟨some 78, .move (.tmp 0), none, []⟩,
             ⟨some 79, .nilCheck (.tmp 78), none, []⟩,
             ⟨some 80, .fieldAddr 118 (.tmp 79) 0, none, []⟩,
             ⟨some 81, .load 63 (.tmp 80), none, []⟩,
             ⟨some 82, .nilCheck (.tmp 81), none, []⟩,
             ⟨some 83, .fieldAddr 65 (.tmp 82) 1, none, []⟩,
             ⟨some 84, .fieldAddr 37 (.tmp 83) 3, none, []⟩,
             ⟨some 85, .load 3 (.tmp 84), none, []⟩,
             ⟨some 86, .call ⟨.value (.func 89), #[(.tmp 77), (.tmp 85)], #[116, 3]⟩, none, []⟩]))
           .skip)))
         (.seq (.ops [⟨some 88, .binOp .eql 3 (.tmp 12) (.const (.int .i64 14)) 3, none, []⟩,
           ⟨some 87, .assign (.tmp 88), none, []⟩])
         (.cond (.tmp 87)
           (.seq (.seq (.ops [⟨some 89, .fieldAddr 40 (.tmp 3) 2, none, []⟩,
             ⟨some 90, .load 3 (.tmp 89), none, []⟩,
             ⟨some 91, .move (.tmp 0), none, []⟩,
             ⟨some 92, .nilCheck (.tmp 91), none, []⟩,
             ⟨some 93, .fieldAddr 118 (.tmp 92) 3, none, []⟩,
             ⟨some 94, .load 3 (.tmp 93), none, []⟩,
             ⟨some 95, .binOp .eql 3 (.tmp 90) (.tmp 94) 3, none, []⟩])
           (.cond (.tmp 95)
             (.ops [⟨some 96, .move (.tmp 0), none, []⟩,
               ⟨some 97, .call ⟨.value (.func 74), #[(.tmp 96)], #[116]⟩, none, []⟩])
             .skip))
           (.ops [⟨some 98, .move (.tmp 0), none, []⟩,
             ⟨some 99, .call ⟨.value (.func 90), #[(.tmp 98)], #[116]⟩, none, []⟩]))
           (.seq (.ops [⟨some 101, .binOp .eql 3 (.tmp 12) (.const (.int .i64 16)) 3, none, []⟩,
             ⟨some 100, .assign (.tmp 101), none, []⟩])
           (.cond (.tmp 100)
             (.seq (.ops [⟨some 102, .move (.tmp 0), none, []⟩,
               ⟨some 103, .call ⟨.value (.func 74), #[(.tmp 102)], #[116]⟩, none, []⟩])
             (.ops [⟨some 104, .move (.tmp 0), none, []⟩,
               ⟨some 105, .call ⟨.value (.func 90), #[(.tmp 104)], #[116]⟩, none, []⟩]))
             (.seq (.ops [⟨some 107, .binOp .eql 3 (.tmp 12) (.const (.int .i64 17)) 3, none, []⟩,
               ⟨some 106, .assign (.tmp 107), none, []⟩])
             (.cond (.tmp 106)
               (.ops [⟨some 108, .move (.tmp 0), none, []⟩,
                 ⟨some 109, .call ⟨.value (.func 90), #[(.tmp 108)], #[116]⟩, none, []⟩])
               (.ops [⟨some 13, .move (.tmp 0), none, []⟩,
                 ⟨some 14, .load 40 (.tmp 3), none, []⟩,
                 ⟨some 15, .call ⟨.value (.func 91), #[(.tmp 13), (.tmp 14)], #[116, 40]⟩, none, []⟩]))))))))))))))))))
theorem plan73 : Tryd.f73.body.bind (plan Tryd.f73.ntmps) = some pc73 := by kernel_rfl
theorem calls73 {G : Env} {args : List AV} {σ : AS} {R : Out → AS → Prop} (hn : args.length = 2) (h : avc Tryd.prog G 110 pc73 (afin Tryd.prog [] R) (frame0 args) σ) : ACalls Tryd.prog G 73 args σ R :=
  acalls' (n := 110) (l := []) mixed Tryd.func73 (by kernel_rfl) (by kernel_rfl) plan73 (by omega) h

/- (*mortise/wasm.list).returns -/
def pc74 : PC :=
  (.seq (.ops [⟨some 2, .move (.tmp 0), none, []⟩,
    ⟨some 3, .nilCheck (.tmp 2), none, []⟩,
    ⟨some 4, .fieldAddr 118 (.tmp 3) 0, none, []⟩,
    ⟨some 5, .load 63 (.tmp 4), none, []⟩,
    ⟨some 6, .nilCheck (.tmp 5), none, []⟩,
    ⟨some 7, .fieldAddr 65 (.tmp 6) 1, none, []⟩,
    ⟨some 8, .fieldAddr 37 (.tmp 7) 3, none, []⟩,
    ⟨some 9, .load 3 (.tmp 8), none, []⟩,
    ⟨some 10, .binOp .neq 3 (.tmp 9) (.const (.int .i64 0)) 3, none, []⟩])
  (.cond (.tmp 10)
    (.ops [⟨some 11, .move (.tmp 0), none, []⟩,
      ⟨some 12, .move (.tmp 0), none, []⟩,
      ⟨some 13, .nilCheck (.tmp 12), none, []⟩,
      ⟨some 14, .fieldAddr 118 (.tmp 13) 0, none, []⟩,
      ⟨some 15, .load 63 (.tmp 14), none, []⟩,
      ⟨some 16, .nilCheck (.tmp 15), none, []⟩,
      ⟨some 17, .fieldAddr 65 (.tmp 16) 1, none, []⟩,
      ⟨some 18, .fieldAddr 37 (.tmp 17) 3, none, []⟩,
      ⟨some 19, .load 3 (.tmp 18), none, []⟩,
      ⟨some 20, .buildSlice 34 1 #[(0, (.tmp 19))], none, []⟩,
      ⟨some 21, .call ⟨.value (.func 88), #[(.tmp 11), (.tmp 20)], #[116, 34]⟩, none, []⟩])
    .skip))
theorem plan74 : Tryd.f74.body.bind (plan Tryd.f74.ntmps) = some pc74 := by kernel_rfl
theorem calls74 {G : Env} {args : List AV} {σ : AS} {R : Out → AS → Prop} (hn : args.length = 1) (h : avc Tryd.prog G 22 pc74 (afin Tryd.prog [] R) (frame0 args) σ) : ACalls Tryd.prog G 74 args σ R :=
  acalls' (n := 22) (l := []) mixed Tryd.func74 (by kernel_rfl) (by kernel_rfl) plan74 (by omega) h

/- mortise/mortisekit.CopyInts -/
def pc75_l1 : PC :=
  (.seq (.seq (.ops [⟨some 5, .move (.tmp 4), none, []⟩,
    ⟨some 6, .move (.tmp 0), none, []⟩,
    ⟨some 7, .call ⟨.builtin .len, #[(.tmp 6)], #[34]⟩, none, []⟩,
    ⟨some 8, .binOp .lss 3 (.tmp 5) (.tmp 7) 3, none, []⟩])
  (.cond (.tmp 8)
    .skip
    (.exit 0)))
  (.seq (.block 1
   (.ops [⟨some 11, .move (.tmp 3), none, []⟩,
     ⟨some 12, .move (.tmp 0), none, []⟩,
     ⟨some 13, .move (.tmp 4), none, []⟩,
     ⟨some 14, .indexAddr 34 (.tmp 12) (.tmp 13), none, []⟩,
     ⟨some 15, .load 3 (.tmp 14), none, []⟩,
     ⟨some 16, .buildSlice 34 1 #[(0, (.tmp 15))], none, []⟩,
     ⟨some 17, .call ⟨.builtin .append, #[(.tmp 11), (.tmp 16)], #[34, 34]⟩, none, []⟩,
     ⟨some 3, .assign (.tmp 17), none, []⟩]))
  (.ops [⟨some 9, .move (.tmp 4), none, []⟩,
    ⟨some 10, .binOp .add 3 (.tmp 9) (.const (.int .i64 1)) 3, none, []⟩,
    ⟨some 4, .assign (.tmp 10), none, []⟩])))
def pc75_r1 : PC :=
  (.seq (.ops [⟨some 18, .move (.tmp 3), none, []⟩,
    ⟨some 2, .assign (.tmp 18), none, []⟩])
  .ret)
def pc75 : PC :=
  (.seq (.ops [⟨some 2, .assign (.const (.slice none 0 0)), none, []⟩])
  (.seq (.ops [⟨some 3, .assign (.const (.slice none 0 0)), none, []⟩])
  (.seq (.seq (.ops [⟨some 4, .assign (.const (.int .i64 0)), none, []⟩])
  (.block 0
   (.loop pc75_l1)))
  pc75_r1)))
theorem plan75 : Tryd.f75.body.bind (plan Tryd.f75.ntmps) = some pc75 := by kernel_rfl
theorem calls75 {G : Env} {args : List AV} {σ : AS} {R : Out → AS → Prop} (hn : args.length = 1) (h : avc Tryd.prog G 19 pc75 (afin Tryd.prog [.tmp 2] R) (frame0 args) σ) : ACalls Tryd.prog G 75 args σ R :=
  acalls' (n := 19) (l := [.tmp 2]) mixed Tryd.func75 (by kernel_rfl) (by kernel_rfl) plan75 (by omega) h

/- mortise/mortisekit.CopyLists -/
def pc76_l1 : PC :=
  (.seq (.seq (.ops [⟨some 5, .move (.tmp 4), none, []⟩,
    ⟨some 6, .move (.tmp 0), none, []⟩,
    ⟨some 7, .call ⟨.builtin .len, #[(.tmp 6)], #[35]⟩, none, []⟩,
    ⟨some 8, .binOp .lss 3 (.tmp 5) (.tmp 7) 3, none, []⟩])
  (.cond (.tmp 8)
    .skip
    (.exit 0)))
  (.seq (.block 1
   (.ops [⟨some 11, .move (.tmp 3), none, []⟩,
     ⟨some 12, .move (.tmp 0), none, []⟩,
     ⟨some 13, .move (.tmp 4), none, []⟩,
     ⟨some 14, .indexAddr 35 (.tmp 12) (.tmp 13), none, []⟩,
     ⟨some 15, .load 38 (.tmp 14), none, []⟩,
     ⟨some 16, .call ⟨.value (.func 80), #[(.tmp 15)], #[38]⟩, none, []⟩,
     ⟨some 17, .buildSlice 35 1 #[(0, (.tmp 16))], none, []⟩,
     ⟨some 18, .call ⟨.builtin .append, #[(.tmp 11), (.tmp 17)], #[35, 35]⟩, none, []⟩,
     ⟨some 3, .assign (.tmp 18), none, []⟩]))
  (.ops [⟨some 9, .move (.tmp 4), none, []⟩,
    ⟨some 10, .binOp .add 3 (.tmp 9) (.const (.int .i64 1)) 3, none, []⟩,
    ⟨some 4, .assign (.tmp 10), none, []⟩])))
def pc76_r1 : PC :=
  (.seq (.ops [⟨some 19, .move (.tmp 3), none, []⟩,
    ⟨some 2, .assign (.tmp 19), none, []⟩])
  .ret)
def pc76 : PC :=
  (.seq (.ops [⟨some 2, .assign (.const (.slice none 0 0)), none, []⟩])
  (.seq (.ops [⟨some 3, .assign (.const (.slice none 0 0)), none, []⟩])
  (.seq (.seq (.ops [⟨some 4, .assign (.const (.int .i64 0)), none, []⟩])
  (.block 0
   (.loop pc76_l1)))
  pc76_r1)))
theorem plan76 : Tryd.f76.body.bind (plan Tryd.f76.ntmps) = some pc76 := by kernel_rfl
theorem calls76 {G : Env} {args : List AV} {σ : AS} {R : Out → AS → Prop} (hn : args.length = 1) (h : avc Tryd.prog G 20 pc76 (afin Tryd.prog [.tmp 2] R) (frame0 args) σ) : ACalls Tryd.prog G 76 args σ R :=
  acalls' (n := 20) (l := [.tmp 2]) mixed Tryd.func76 (by kernel_rfl) (by kernel_rfl) plan76 (by omega) h

/- (*mortise/peep.maker).chosen -/
def pc77 : PC :=
  (.seq (.ops [⟨some 5, .box 40 (.tmp 2), none, []⟩,
    ⟨some 6, .assign (.const (.slice none 0 0)), none, []⟩])
  (.seq (.ops [⟨some 8, .fieldAddr 40 (.tmp 5) 3, none, []⟩,
    ⟨some 9, .load 3 (.tmp 8), none, []⟩,
    ⟨some 7, .assign (.tmp 9), none, []⟩])
  (.seq (.seq (.ops [⟨some 10, .move (.tmp 1), none, []⟩,
    ⟨some 11, .binOp .eql 3 (.tmp 10) (.const (.int .i64 0)) 3, none, []⟩])
  (.cond (.tmp 11)
    (.ops [⟨some 12, .fieldAddr 40 (.tmp 5) 4, none, []⟩,
      ⟨some 13, .load 3 (.tmp 12), none, []⟩,
      ⟨some 7, .assign (.tmp 13), none, []⟩])
    .skip))
  (.seq (.seq (.ops [⟨some 14, .move (.tmp 7), none, []⟩,
    ⟨some 15, .binOp .lss 3 (.tmp 14) (.const (.int .i64 0)) 3, none, []⟩])
  (.cond (.tmp 15)
    (.seq (.ops [⟨some 6, .assign (.const (.slice none 0 0)), none, []⟩])
    .ret)
    .skip))
  (.seq (.ops [⟨some 16, .move (.tmp 0), none, []⟩,
    ⟨some 17, .move (.tmp 7), none, []⟩,
    ⟨some 18, .call ⟨.value (.func 37), #[(.tmp 16), (.tmp 17)], #[70, 3]⟩, none, []⟩,
    ⟨some 19, .build 40 #[(0, (.const (.int .i64 11))), (3, (.tmp 18))], none, []⟩,
    ⟨some 20, .buildSlice 38 1 #[(0, (.tmp 19))], none, []⟩,
    ⟨some 6, .assign (.tmp 20), none, []⟩])
  .ret)))))
theorem plan77 : Tryd.f77.body.bind (plan Tryd.f77.ntmps) = some pc77 := by kernel_rfl
theorem calls77 {G : Env} {args : List AV} {σ : AS} {R : Out → AS → Prop} (hn : args.length = 3) (h : avc Tryd.prog G 21 pc77 (afin Tryd.prog [.tmp 6] R) (frame0 args) σ) : ACalls Tryd.prog G 77 args σ R :=
  acalls' (n := 21) (l := [.tmp 6]) mixed Tryd.func77 (by kernel_rfl) (by kernel_rfl) plan77 (by omega) h

/- mortise/mortisekit.SameLists -/
def pc78_l1 : PC :=
  (.seq (.seq (.ops [⟨some 11, .move (.tmp 5), none, []⟩,
    ⟨some 12, .move (.tmp 0), none, []⟩,
    ⟨some 13, .call ⟨.builtin .len, #[(.tmp 12)], #[35]⟩, none, []⟩,
    ⟨some 14, .binOp .lss 3 (.tmp 11) (.tmp 13) 3, none, []⟩])
  (.cond (.tmp 14)
    .skip
    (.exit 0)))
  (.seq (.block 1
   (.seq (.ops [⟨some 17, .move (.tmp 0), none, []⟩,
     ⟨some 18, .move (.tmp 5), none, []⟩,
     ⟨some 19, .indexAddr 35 (.tmp 17) (.tmp 18), none, []⟩,
     ⟨some 20, .load 38 (.tmp 19), none, []⟩,
     ⟨some 21, .move (.tmp 1), none, []⟩,
     ⟨some 22, .move (.tmp 5), none, []⟩,
     ⟨some 23, .indexAddr 35 (.tmp 21) (.tmp 22), none, []⟩,
     ⟨some 24, .load 38 (.tmp 23), none, []⟩,
     ⟨some 25, .call ⟨.value (.func 54), #[(.tmp 20), (.tmp 24)], #[38, 38]⟩, none, []⟩,
     ⟨some 26, .unOp .not 4 (.tmp 25), none, []⟩])
   (.cond (.tmp 26)
     (.seq (.ops [⟨some 4, .assign (.const (.bool false)), none, []⟩])
     .ret)
     .skip)))
  (.ops [⟨some 15, .move (.tmp 5), none, []⟩,
    ⟨some 16, .binOp .add 3 (.tmp 15) (.const (.int .i64 1)) 3, none, []⟩,
    ⟨some 5, .assign (.tmp 16), none, []⟩])))
def pc78_r1 : PC :=
  (.seq (.ops [⟨some 4, .assign (.const (.bool true)), none, []⟩])
  .ret)
def pc78 : PC :=
  (.seq (.ops [⟨some 4, .assign (.const (.bool false)), none, []⟩])
  (.seq (.seq (.ops [⟨some 6, .move (.tmp 0), none, []⟩,
    ⟨some 7, .call ⟨.builtin .len, #[(.tmp 6)], #[35]⟩, none, []⟩,
    ⟨some 8, .move (.tmp 1), none, []⟩,
    ⟨some 9, .call ⟨.builtin .len, #[(.tmp 8)], #[35]⟩, none, []⟩,
    ⟨some 10, .binOp .neq 3 (.tmp 7) (.tmp 9) 3, none, []⟩])
  (.cond (.tmp 10)
    (.seq (.ops [⟨some 4, .assign (.const (.bool false)), none, []⟩])
    .ret)
    .skip))
  (.seq (.seq (.ops [⟨some 5, .assign (.const (.int .i64 0)), none, []⟩])
  (.block 0
   (.loop pc78_l1)))
  pc78_r1)))
theorem plan78 : Tryd.f78.body.bind (plan Tryd.f78.ntmps) = some pc78 := by kernel_rfl
theorem calls78 {G : Env} {args : List AV} {σ : AS} {R : Out → AS → Prop} (hn : args.length = 2) (h : avc Tryd.prog G 27 pc78 (afin Tryd.prog [.tmp 4] R) (frame0 args) σ) : ACalls Tryd.prog G 78 args σ R :=
  acalls' (n := 27) (l := [.tmp 4]) mixed Tryd.func78 (by kernel_rfl) (by kernel_rfl) plan78 (by omega) h

/- mortise/mortiseref22.drops -/
def pc79 : PC :=
  (.seq (.ops [⟨some 2, .box 40 (.tmp 0), none, []⟩,
    ⟨some 3, .box 40 (.tmp 1), none, []⟩,
    ⟨some 4, .assign (.const (.bool false)), none, []⟩])
  (.seq (.ops [⟨some 5, .fieldAddr 40 (.tmp 2) 0, none, []⟩,
    ⟨some 6, .load 3 (.tmp 5), none, []⟩,
    ⟨some 7, .binOp .eql 3 (.tmp 6) (.const (.int .i64 1)) 3, none, []⟩,
    ⟨some 8, .move (.tmp 7), none, []⟩,
    ⟨some 9, .fieldAddr 40 (.tmp 2) 0, (some (8, false)), []⟩,
    ⟨some 10, .load 3 (.tmp 9), (some (8, false)), []⟩,
    ⟨some 11, .binOp .eql 3 (.tmp 10) (.const (.int .i64 2)) 3, (some (8, false)), []⟩,
    ⟨some 12, .pick (.tmp 8) (.const (.bool true)) (.tmp 11), none, []⟩,
    ⟨some 13, .move (.tmp 12), none, []⟩,
    ⟨some 14, .fieldAddr 40 (.tmp 3) 0, (some (13, true)), []⟩,
    ⟨some 15, .load 3 (.tmp 14), (some (13, true)), []⟩,
    ⟨some 16, .binOp .eql 3 (.tmp 15) (.const (.int .i64 18)) 3, (some (13, true)), []⟩,
    ⟨some 17, .pick (.tmp 13) (.tmp 16) (.const (.bool false)), none, []⟩,
    ⟨some 4, .assign (.tmp 17), none, []⟩])
  .ret))
theorem plan79 : Tryd.f79.body.bind (plan Tryd.f79.ntmps) = some pc79 := by kernel_rfl
theorem calls79 {G : Env} {args : List AV} {σ : AS} {R : Out → AS → Prop} (hn : args.length = 2) (h : avc Tryd.prog G 18 pc79 (afin Tryd.prog [.tmp 4] R) (frame0 args) σ) : ACalls Tryd.prog G 79 args σ R :=
  acalls' (n := 18) (l := [.tmp 4]) mixed Tryd.func79 (by kernel_rfl) (by kernel_rfl) plan79 (by omega) h

/- mortise/mortisekit.CopyWs -/
def pc80_l1 : PC :=
  (.seq (.seq (.ops [⟨some 5, .move (.tmp 4), none, []⟩,
    ⟨some 6, .move (.tmp 0), none, []⟩,
    ⟨some 7, .call ⟨.builtin .len, #[(.tmp 6)], #[38]⟩, none, []⟩,
    ⟨some 8, .binOp .lss 3 (.tmp 5) (.tmp 7) 3, none, []⟩])
  (.cond (.tmp 8)
    .skip
    (.exit 0)))
  (.seq (.block 1
   (.ops [⟨some 11, .move (.tmp 3), none, []⟩,
     ⟨some 12, .move (.tmp 0), none, []⟩,
     ⟨some 13, .move (.tmp 4), none, []⟩,
     ⟨some 14, .indexAddr 38 (.tmp 12) (.tmp 13), none, []⟩,
     ⟨some 15, .load 40 (.tmp 14), none, []⟩,
     ⟨some 16, .buildSlice 38 1 #[(0, (.tmp 15))], none, []⟩,
     ⟨some 17, .call ⟨.builtin .append, #[(.tmp 11), (.tmp 16)], #[38, 38]⟩, none, []⟩,
     ⟨some 3, .assign (.tmp 17), none, []⟩]))
  (.ops [⟨some 9, .move (.tmp 4), none, []⟩,
    ⟨some 10, .binOp .add 3 (.tmp 9) (.const (.int .i64 1)) 3, none, []⟩,
    ⟨some 4, .assign (.tmp 10), none, []⟩])))
def pc80_r1 : PC :=
  (.seq (.ops [⟨some 18, .move (.tmp 3), none, []⟩,
    ⟨some 2, .assign (.tmp 18), none, []⟩])
  .ret)
def pc80 : PC :=
  (.seq (.ops [⟨some 2, .assign (.const (.slice none 0 0)), none, []⟩])
  (.seq (.ops [⟨some 3, .assign (.const (.slice none 0 0)), none, []⟩])
  (.seq (.seq (.ops [⟨some 4, .assign (.const (.int .i64 0)), none, []⟩])
  (.block 0
   (.loop pc80_l1)))
  pc80_r1)))
theorem plan80 : Tryd.f80.body.bind (plan Tryd.f80.ntmps) = some pc80 := by kernel_rfl
theorem calls80 {G : Env} {args : List AV} {σ : AS} {R : Out → AS → Prop} (hn : args.length = 1) (h : avc Tryd.prog G 19 pc80 (afin Tryd.prog [.tmp 2] R) (frame0 args) σ) : ACalls Tryd.prog G 80 args σ R :=
  acalls' (n := 19) (l := [.tmp 2]) mixed Tryd.func80 (by kernel_rfl) (by kernel_rfl) plan80 (by omega) h

/- mortise/mortiseref22.known -/
def pc81 : PC :=
  (.seq (.ops [⟨some 1, .box 40 (.tmp 0), none, []⟩,
    ⟨some 2, .assign (.const (.bool false)), none, []⟩])
  (.seq (.ops [⟨some 3, .fieldAddr 40 (.tmp 1) 0, none, []⟩,
    ⟨some 4, .load 3 (.tmp 3), none, []⟩,
    ⟨some 5, .binOp .eql 3 (.tmp 4) (.const (.int .i64 1)) 3, none, []⟩,
    ⟨some 6, .move (.tmp 5), none, []⟩,
    ⟨some 7, .fieldAddr 40 (.tmp 1) 1, (some (6, true)), []⟩,
    ⟨some 8, .load 3 (.tmp 7), (some (6, true)), []⟩,
    ⟨some 9, .binOp .eql 3 (.tmp 8) (.const (.int .i64 1)) 3, (some (6, true)), []⟩,
    ⟨some 10, .pick (.tmp 6) (.tmp 9) (.const (.bool false)), none, []⟩,
    ⟨some 2, .assign (.tmp 10), none, []⟩])
  .ret))
theorem plan81 : Tryd.f81.body.bind (plan Tryd.f81.ntmps) = some pc81 := by kernel_rfl
theorem calls81 {G : Env} {args : List AV} {σ : AS} {R : Out → AS → Prop} (hn : args.length = 1) (h : avc Tryd.prog G 11 pc81 (afin Tryd.prog [.tmp 2] R) (frame0 args) σ) : ACalls Tryd.prog G 81 args σ R :=
  acalls' (n := 11) (l := [.tmp 2]) mixed Tryd.func81 (by kernel_rfl) (by kernel_rfl) plan81 (by omega) h

/- slices.Index[[]bool,bool] -/
def pc85_l1 : PC :=
  (.seq (.ops [⟨some 9, .binOp .lss 3 (.tmp 8) (.tmp 7) 3, none, []⟩])
  (.seq (.cond (.tmp 9)
    .skip
    (.exit 0))
  (.seq (.block 1
   (.seq (.ops [⟨some 10, .move (.tmp 8), none, []⟩,
     ⟨some 5, .assign (.tmp 10), none, []⟩])
   (.seq (.ops [⟨some 11, .move (.tmp 1), none, []⟩,
     ⟨some 12, .move (.tmp 0), none, []⟩,
     ⟨some 13, .move (.tmp 5), none, []⟩,
     ⟨some 14, .indexAddr 113 (.tmp 12) (.tmp 13), none, []⟩,
     ⟨some 15, .load 4 (.tmp 14), none, []⟩,
     ⟨some 16, .binOp .eql 4 (.tmp 11) (.tmp 15) 4, none, []⟩])
   (.cond (.tmp 16)
     (.seq (.ops [⟨some 17, .move (.tmp 5), none, []⟩,
       ⟨some 4, .assign (.tmp 17), none, []⟩])
     .ret)
     .skip))))
  (.ops [⟨some 18, .binOp .add 3 (.tmp 8) (.const (.int .i64 1)) 3, none, []⟩,
    ⟨some 8, .move (.tmp 18), none, []⟩]))))
def pc85_r1 : PC :=
  (.seq (.ops [⟨some 4, .assign (.const (.int .i64 (-1))), none, []⟩])
  .ret)
def pc85 : PC :=
  (.seq (.ops [⟨some 4, .assign (.const (.int .i64 0)), none, []⟩])
  (.seq (.seq (.ops [⟨some 6, .move (.tmp 0), none, []⟩,
    ⟨some 7, .call ⟨.builtin .len, #[(.tmp 6)], #[113]⟩, none, []⟩,
    ⟨some 8, .move (.const (.int .i64 0)), none, []⟩])
  (.block 0
   (.loop pc85_l1)))
  pc85_r1))
theorem plan85 : Tryd.f85.body.bind (plan Tryd.f85.ntmps) = some pc85 := by kernel_rfl
theorem calls85 {G : Env} {args : List AV} {σ : AS} {R : Out → AS → Prop} (hn : args.length = 2) (h : avc Tryd.prog G 19 pc85 (afin Tryd.prog [.tmp 4] R) (frame0 args) σ) : ACalls Tryd.prog G 85 args σ R :=
  acalls' (n := 19) (l := [.tmp 4]) mixed Tryd.func85 (by kernel_rfl) (by kernel_rfl) plan85 (by omega) h

/- mortise/wasm.form -/
def pc86 : PC :=
  (.seq (.ops [⟨some 1, .box 40 (.tmp 0), none, []⟩,
    ⟨some 2, .assign (.const (.bool false)), none, []⟩])
  (.seq (.seq (.ops [⟨some 3, .fieldAddr 40 (.tmp 1) 0, none, []⟩,
    ⟨some 4, .load 3 (.tmp 3), none, []⟩])
  (.block 0
   (.seq (.seq (.ops [⟨some 6, .binOp .eql 3 (.tmp 4) (.const (.int .i64 1)) 3, none, []⟩,
     ⟨some 5, .assign (.tmp 6), none, []⟩])
   (.cond (.tmp 5)
     .skip
     (.ops [⟨some 7, .binOp .eql 3 (.tmp 4) (.const (.int .i64 5)) 3, none, []⟩,
       ⟨some 5, .assign (.tmp 7), none, []⟩])))
   (.cond (.tmp 5)
     (.seq (.ops [⟨some 8, .fieldAddr 40 (.tmp 1) 1, none, []⟩,
       ⟨some 9, .load 3 (.tmp 8), none, []⟩,
       ⟨some 10, .call ⟨.value (.func 50), #[(.tmp 9)], #[3]⟩, none, []⟩,
       ⟨some 2, .assign (.tmp 10), none, []⟩])
     .ret)
     (.seq (.ops [⟨some 12, .binOp .eql 3 (.tmp 4) (.const (.int .i64 4)) 3, none, []⟩,
       ⟨some 11, .assign (.tmp 12), none, []⟩])
     (.cond (.tmp 11)
       (.seq (.ops [⟨some 13, .fieldAddr 40 (.tmp 1) 1, none, []⟩,
         ⟨some 14, .load 3 (.tmp 13), none, []⟩,
         ⟨some 15, .call ⟨.value (.func 50), #[(.tmp 14)], #[3]⟩, none, []⟩,
         ⟨some 16, .move (.tmp 15), none, []⟩,
         ⟨some 17, .fieldAddr 40 (.tmp 1) 5, (some (16, true)), []⟩,
         ⟨some 18, .load 9 (.tmp 17), (some (16, true)), []⟩,
         ⟨some 19, .call ⟨.value (.func 94), #[(.tmp 18)], #[9]⟩, (some (16, true)), []⟩,
         ⟨some 20, .binOp .neq 9 (.tmp 19) (.const (.string ⟨#[]⟩)) 9, (some (16, true)), []⟩,
         ⟨some 21, .pick (.tmp 16) (.tmp 20) (.const (.bool false)), none, []⟩,
         ⟨some 2, .assign (.tmp 21), none, []⟩])
       .ret)
       (.seq (.seq (.ops [⟨some 23, .binOp .eql 3 (.tmp 4) (.const (.int .i64 8)) 3, none, []⟩,
         ⟨some 22, .assign (.tmp 23), none, []⟩])
       (.cond (.tmp 22)
         .skip
         (.ops [⟨some 24, .binOp .eql 3 (.tmp 4) (.const (.int .i64 9)) 3, none, []⟩,
           ⟨some 22, .assign (.tmp 24), none, []⟩])))
       (.cond (.tmp 22)
         (.seq (.ops [⟨some 25, .fieldAddr 40 (.tmp 1) 1, none, []⟩,
           ⟨some 26, .load 3 (.tmp 25), none, []⟩,
           ⟨some 27, .fieldAddr 40 (.tmp 1) 2, none, []⟩,
           ⟨some 28, .load 3 (.tmp 27), none, []⟩,
           ⟨some 29, .call ⟨.value (.func 99), #[(.tmp 26), (.tmp 28)], #[3, 3]⟩, none, []⟩,
           ⟨some 2, .assign (.tmp 29), none, []⟩])
         .ret)
         .skip))))))))
  (.seq (.ops [⟨some 30, .fieldAddr 40 (.tmp 1) 0, none, []⟩,
    ⟨some 31, .load 3 (.tmp 30), none, []⟩,
    ⟨some 32, .binOp .geq 3 (.tmp 31) (.const (.int .i64 1)) 3, none, []⟩,
    ⟨some 33, .move (.tmp 32), none, []⟩,
    ⟨some 34, .fieldAddr 40 (.tmp 1) 0, (some (33, true)), []⟩,
    ⟨some 35, .load 3 (.tmp 34), (some (33, true)), []⟩,
    ⟨some 36, .binOp .leq 3 (.tmp 35) (.const (.int .i64 18)) 3, (some (33, true)), []⟩,
    ⟨some 37, .pick (.tmp 33) (.tmp 36) (.const (.bool false)), none, []⟩,
    ⟨some 2, .assign (.tmp 37), none, []⟩])
  .ret)))
theorem plan86 : Tryd.f86.body.bind (plan Tryd.f86.ntmps) = some pc86 := by kernel_rfl
theorem calls86 {G : Env} {args : List AV} {σ : AS} {R : Out → AS → Prop} (hn : args.length = 1) (h : avc Tryd.prog G 38 pc86 (afin Tryd.prog [.tmp 2] R) (frame0 args) σ) : ACalls Tryd.prog G 86 args σ R :=
  acalls' (n := 38) (l := [.tmp 2]) mixed Tryd.func86 (by kernel_rfl) (by kernel_rfl) plan86 (by omega) h

/- (*mortise/wasm.list).ranged -/
def pc87 : PC :=
  (.seq (.ops [⟨some 3, .box 40 (.tmp 1), none, []⟩,
    ⟨some 4, .assign (.const (.bool false)), none, []⟩])
  (.seq (.seq (.ops [⟨some 7, .fieldAddr 40 (.tmp 3) 0, none, []⟩,
    ⟨some 8, .load 3 (.tmp 7), none, []⟩])
  (.block 0
   (.seq (.ops [⟨some 10, .binOp .eql 3 (.tmp 8) (.const (.int .i64 1)) 3, none, []⟩,
     ⟨some 9, .assign (.tmp 10), none, []⟩])
   (.cond (.tmp 9)
     (.seq (.ops [⟨some 11, .fieldAddr 40 (.tmp 3) 1, none, []⟩,
       ⟨some 12, .load 3 (.tmp 11), none, []⟩,
       ⟨some 13, .fieldAddr 40 (.tmp 3) 2, none, []⟩,
       ⟨some 14, .load 3 (.tmp 13), none, []⟩,
       ⟨some 16, .fieldAddr 40 (.tmp 3) 2, none, []⟩,
       ⟨some 17, .load 3 (.tmp 16), none, []⟩,
       ⟨some 15, .call ⟨.value (.func 95), #[(.tmp 12), (.tmp 14)], #[3, 3]⟩, none, [⟨none, 3, (.tmp 16), 17⟩]⟩,
       ⟨some 18, .binOp .eql 3 (.tmp 15) (.tmp 17) 3, none, []⟩,
       ⟨some 4, .assign (.tmp 18), none, []⟩])
     .ret)
     (.seq (.seq (.ops [⟨some 20, .binOp .eql 3 (.tmp 8) (.const (.int .i64 2)) 3, none, []⟩,
       ⟨some 19, .assign (.tmp 20), none, []⟩])
     (.cond (.tmp 19)
       .skip
       (.ops [⟨some 21, .binOp .eql 3 (.tmp 8) (.const (.int .i64 3)) 3, none, []⟩,
         ⟨some 19, .assign (.tmp 21), none, []⟩])))
     (.cond (.tmp 19)
       (.seq (.ops [⟨some 22, .fieldAddr 40 (.tmp 3) 2, none, []⟩,
         ⟨some 23, .load 3 (.tmp 22), none, []⟩,
         ⟨some 24, .binOp .geq 3 (.tmp 23) (.const (.int .i64 0)) 3, none, []⟩,
         ⟨some 25, .move (.tmp 24), none, []⟩,
         ⟨some 26, .fieldAddr 40 (.tmp 3) 2, (some (25, true)), []⟩,
         ⟨some 27, .load 3 (.tmp 26), (some (25, true)), []⟩,
         ⟨some 28, .move (.tmp 0), (some (25, true)), []⟩,
         ⟨some 29, .nilCheck (.tmp 28), (some (25, true)), []⟩,
         ⟨some 30, .fieldAddr 118 (.tmp 29) 0, (some (25, true)), []⟩,
         ⟨some 31, .load 63 (.tmp 30), (some (25, true)), []⟩,
         ⟨some 32, .nilCheck (.tmp 31), (some (25, true)), []⟩,
         ⟨some 33, .fieldAddr 65 (.tmp 32) 2, (some (25, true)), []⟩,
         ⟨some 34, .load 34 (.tmp 33), (some (25, true)), []⟩,
         ⟨some 35, .call ⟨.builtin .len, #[(.tmp 34)], #[34]⟩, (some (25, true)), []⟩,
         ⟨some 36, .binOp .lss 3 (.tmp 27) (.tmp 35) 3, (some (25, true)), []⟩,
         ⟨some 37, .pick (.tmp 25) (.tmp 36) (.const (.bool false)), none, []⟩,
         ⟨some 4, .assign (.tmp 37), none, []⟩])
       .ret)
       (.seq (.ops [⟨some 39, .binOp .eql 3 (.tmp 8) (.const (.int .i64 10)) 3, none, []⟩,
         ⟨some 38, .assign (.tmp 39), none, []⟩])
       (.cond (.tmp 38)
         (.seq (.both [[⟨some 41, .move (.tmp 0), none, []⟩,
             ⟨some 42, .nilCheck (.tmp 41), none, []⟩,
             ⟨some 43, .fieldAddr 118 (.tmp 42) 0, none, []⟩,
             ⟨some 44, .load 63 (.tmp 43), none, []⟩,
             ⟨some 45, .nilCheck (.tmp 44), none, []⟩,
             ⟨some 46, .fieldAddr 65 (.tmp 45) 0, none, []⟩,
             ⟨some 47, .load 24 (.tmp 46), none, []⟩,
             ⟨some 48, .fieldAddr 40 (.tmp 3) 2, none, []⟩,
             ⟨some 49, .load 3 (.tmp 48), none, []⟩,
             ⟨some 50, .call ⟨.value (.func 100), #[(.tmp 47), (.tmp 49)], #[24, 3]⟩, none, []⟩,
             ⟨some 40, .move (.tmp 50), none, []⟩,
             ⟨some 51, .extract (.tmp 40) 0, none, []⟩,
             ⟨some 52, .extract (.tmp 40) 1, none, []⟩,
             ⟨some 5, .alloc 139, none, []⟩,
             ⟨none, .store 139 (.tmp 5) (.tmp 51), none, []⟩,
             ⟨some 6, .assign (.tmp 52), none, []⟩],
           [⟨some 41, .move (.tmp 0), none, []⟩,
             ⟨some 42, .nilCheck (.tmp 41), none, []⟩,
             ⟨some 43, .fieldAddr 118 (.tmp 42) 0, none, []⟩,
             ⟨some 44, .load 63 (.tmp 43), none, []⟩,
             ⟨some 45, .nilCheck (.tmp 44), none, []⟩,
             ⟨some 46, .fieldAddr 65 (.tmp 45) 0, none, []⟩,
             ⟨some 47, .load 24 (.tmp 46), none, []⟩,
             ⟨some 48, .fieldAddr 40 (.tmp 3) 2, none, []⟩,
             ⟨some 49, .load 3 (.tmp 48), none, []⟩,
             ⟨some 5, .alloc 139, none, [⟨none, 63, (.tmp 43), 44⟩, ⟨none, 24, (.tmp 46), 47⟩, ⟨none, 3, (.tmp 48), 49⟩]⟩,
             ⟨some 50, .call ⟨.value (.func 100), #[(.tmp 47), (.tmp 49)], #[24, 3]⟩, none, []⟩,
             ⟨some 40, .move (.tmp 50), none, []⟩,
             ⟨some 51, .extract (.tmp 40) 0, none, []⟩,
             ⟨some 52, .extract (.tmp 40) 1, none, []⟩,
             ⟨none, .store 139 (.tmp 5) (.tmp 51), none, []⟩,
             ⟨some 6, .assign (.tmp 52), none, []⟩]])
         (.seq (.ops [⟨some 53, .move (.tmp 6), none, []⟩,
           ⟨some 4, .assign (.tmp 53), none, []⟩])
         .ret))
         (.seq (.seq (.ops [⟨some 55, .binOp .eql 3 (.tmp 8) (.const (.int .i64 14)) 3, none, []⟩,
           ⟨some 54, .assign (.tmp 55), none, []⟩])
         (.cond (.tmp 54)
           .skip
           (.ops [⟨some 56, .binOp .eql 3 (.tmp 8) (.const (.int .i64 15)) 3, none, []⟩,
             ⟨some 54, .assign (.tmp 56), none, []⟩])))
         (.cond (.tmp 54)
           (.seq (.ops [⟨some 57, .fieldAddr 40 (.tmp 3) 2, none, []⟩,
             ⟨some 58, .load 3 (.tmp 57), none, []⟩,
             ⟨some 59, .binOp .geq 3 (.tmp 58) (.const (.int .i64 0)) 3, none, []⟩,
             ⟨some 60, .move (.tmp 59), none, []⟩,
             ⟨some 61, .fieldAddr 40 (.tmp 3) 2, (some (60, true)), []⟩,
             ⟨some 62, .load 3 (.tmp 61), (some (60, true)), []⟩,
             ⟨some 63, .move (.tmp 0), (some (60, true)), []⟩,
             ⟨some 64, .nilCheck (.tmp 63), (some (60, true)), []⟩,
             ⟨some 65, .fieldAddr 118 (.tmp 64) 3, (some (60, true)), []⟩,
             ⟨some 66, .load 3 (.tmp 65), (some (60, true)), []⟩,
             ⟨some 67, .binOp .leq 3 (.tmp 62) (.tmp 66) 3, (some (60, true)), []⟩,
             ⟨some 68, .pick (.tmp 60) (.tmp 67) (.const (.bool false)), none, []⟩,
             ⟨some 4, .assign (.tmp 68), none, []⟩])
           .ret)
           .skip))))))))))
  (.seq (.ops [⟨some 4, .assign (.const (.bool true)), none, []⟩])
  .ret)))
theorem plan87 : Tryd.f87.body.bind (plan Tryd.f87.ntmps) = some pc87 := by kernel_rfl
theorem calls87 {G : Env} {args : List AV} {σ : AS} {R : Out → AS → Prop} (hn : args.length = 2) (h : avc Tryd.prog G 69 pc87 (afin Tryd.prog [.tmp 4] R) (frame0 args) σ) : ACalls Tryd.prog G 87 args σ R :=
  acalls' (n := 69) (l := [.tmp 4]) mixed Tryd.func87 (by kernel_rfl) (by kernel_rfl) plan87 (by omega) h

/- NOT PLANNED WHOLE: 88 (*mortise/wasm.list).take -/
def pc88_x : PC :=
  (.ops [⟨some 2, .box 116 (.tmp 0), none, []⟩])
def pc88_yx : PC :=
  (.ops [⟨some 7, .move (.tmp 1), none, []⟩,
    ⟨some 8, .call ⟨.value (.func 101), #[(.tmp 7)], #[34]⟩, none, []⟩])
def pc88_yya : PC :=
  (.ops [⟨some 5, .assign (.tmp 10), none, []⟩])
def pc88_yyb : PC :=
  (.block 1
   (.seq (.ops [⟨some 11, .load 116 (.tmp 2), none, []⟩,
     ⟨some 12, .nilCheck (.tmp 11), none, []⟩,
     ⟨some 13, .fieldAddr 118 (.tmp 12) 1, none, []⟩,
     ⟨some 14, .load 34 (.tmp 13), none, []⟩,
     ⟨some 15, .call ⟨.builtin .len, #[(.tmp 14)], #[34]⟩, none, []⟩,
     ⟨some 6, .assign (.tmp 15), none, []⟩])
   (.seq (.ops [⟨some 16, .move (.tmp 6), none, []⟩,
     ⟨some 17, .binOp .eql 3 (.tmp 16) (.const (.int .i64 0)) 3, none, []⟩,
     ⟨some 18, .move (.tmp 17), none, []⟩,
     ⟨some 19, .load 116 (.tmp 2), (some (18, false)), []⟩,
     ⟨some 20, .nilCheck (.tmp 19), (some (18, false)), []⟩,
     ⟨some 21, .fieldAddr 118 (.tmp 20) 1, (some (18, false)), []⟩,
     ⟨some 22, .load 34 (.tmp 21), (some (18, false)), []⟩,
     ⟨some 23, .move (.tmp 6), (some (18, false)), []⟩,
     ⟨some 24, .binOp .sub 3 (.tmp 23) (.const (.int .i64 1)) 3, (some (18, false)), []⟩,
     ⟨some 25, .indexAddr 34 (.tmp 22) (.tmp 24), (some (18, false)), []⟩,
     ⟨some 26, .load 3 (.tmp 25), (some (18, false)), []⟩,
     ⟨some 27, .move (.tmp 5), (some (18, false)), []⟩,
     ⟨some 28, .binOp .eql 3 (.tmp 26) (.tmp 27) 3, (some (18, false)), []⟩,
     ⟨some 29, .pick (.tmp 18) (.const (.bool true)) (.tmp 28), none, []⟩,
     ⟨some 30, .call ⟨.value (.func 29), #[(.tmp 29), (.const (.int .i64 14))], #[4, 26]⟩, none, []⟩])
   (.ops [⟨some 31, .load 116 (.tmp 2), none, []⟩,
     ⟨some 32, .call ⟨.value (.func 102), #[(.tmp 31)], #[116]⟩, none, []⟩]))))
/- (*mortise/wasm.list).give -/
def pc89 : PC :=
  (.seq (.ops [⟨some 4, .move (.tmp 1), none, []⟩,
    ⟨some 5, .binOp .neq 3 (.tmp 4) (.const (.int .i64 0)) 3, none, []⟩])
  (.cond (.tmp 5)
    (.ops [⟨some 6, .move (.tmp 0), none, []⟩,
      ⟨some 7, .move (.tmp 0), none, []⟩,
      ⟨some 8, .nilCheck (.tmp 7), none, []⟩,
      ⟨some 9, .fieldAddr 118 (.tmp 8) 1, none, []⟩,
      ⟨some 10, .load 34 (.tmp 9), none, []⟩,
      ⟨some 11, .move (.tmp 1), none, []⟩,
      ⟨some 12, .buildSlice 34 1 #[(0, (.tmp 11))], none, []⟩,
      ⟨some 13, .call ⟨.builtin .append, #[(.tmp 10), (.tmp 12)], #[34, 34]⟩, none, []⟩,
      ⟨some 14, .nilCheck (.tmp 6), none, []⟩,
      ⟨some 15, .fieldAddr 118 (.tmp 14) 1, none, []⟩,
      ⟨none, .store 34 (.tmp 15) (.tmp 13), none, []⟩])
    .skip))
theorem plan89 : Tryd.f89.body.bind (plan Tryd.f89.ntmps) = some pc89 := by kernel_rfl
theorem calls89 {G : Env} {args : List AV} {σ : AS} {R : Out → AS → Prop} (hn : args.length = 2) (h : avc Tryd.prog G 16 pc89 (afin Tryd.prog [] R) (frame0 args) σ) : ACalls Tryd.prog G 89 args σ R :=
  acalls' (n := 16) (l := []) mixed Tryd.func89 (by kernel_rfl) (by kernel_rfl) plan89 (by omega) h

/- (*mortise/wasm.list).leaves -/
def pc90 : PC :=
  (.ops [⟨some 2, .move (.tmp 0), none, []⟩,
    ⟨some 3, .move (.tmp 0), none, []⟩,
    ⟨some 4, .nilCheck (.tmp 2), none, []⟩,
    ⟨some 5, .fieldAddr 118 (.tmp 4) 1, none, []⟩,
    ⟨none, .store 34 (.tmp 5) (.const (.slice none 0 0)), none, []⟩,
    ⟨some 6, .nilCheck (.tmp 3), none, []⟩,
    ⟨some 7, .fieldAddr 118 (.tmp 6) 2, none, []⟩,
    ⟨none, .store 4 (.tmp 7) (.const (.bool true)), none, []⟩])
theorem plan90 : Tryd.f90.body.bind (plan Tryd.f90.ntmps) = some pc90 := by kernel_rfl
theorem calls90 {G : Env} {args : List AV} {σ : AS} {R : Out → AS → Prop} (hn : args.length = 1) (h : avc Tryd.prog G 8 pc90 (afin Tryd.prog [] R) (frame0 args) σ) : ACalls Tryd.prog G 90 args σ R :=
  acalls' (n := 8) (l := []) mixed Tryd.func90 (by kernel_rfl) (by kernel_rfl) plan90 (by omega) h

/- (*mortise/wasm.list).plain -/
def pc91 : PC :=
  (.seq (.ops [⟨some 3, .box 40 (.tmp 1), none, []⟩])
  (.seq (.ops [⟨some 6, .fieldAddr 40 (.tmp 3) 0, none, []⟩,
    ⟨some 7, .load 3 (.tmp 6), none, []⟩])
  (.block 0
   (.seq (.ops [⟨some 9, .binOp .eql 3 (.tmp 7) (.const (.int .i64 1)) 3, none, []⟩,
     ⟨some 8, .assign (.tmp 9), none, []⟩])
   (.cond (.tmp 8)
     (.ops [⟨some 10, .move (.tmp 0), none, []⟩,
       ⟨some 11, .fieldAddr 40 (.tmp 3) 1, none, []⟩,
       ⟨some 12, .load 3 (.tmp 11), none, []⟩,
       ⟨some 13, .call ⟨.value (.func 89), #[(.tmp 10), (.tmp 12)], #[116, 3]⟩, none, []⟩])
     (.seq (.ops [⟨some 15, .binOp .eql 3 (.tmp 7) (.const (.int .i64 2)) 3, none, []⟩,
       ⟨some 14, .assign (.tmp 15), none, []⟩])
     (.cond (.tmp 14)
       (.ops [⟨some 16, .move (.tmp 0), none, []⟩,
         ⟨some 17, .move (.tmp 0), none, []⟩,
         ⟨some 18, .nilCheck (.tmp 17), none, []⟩,
         ⟨some 19, .fieldAddr 118 (.tmp 18) 0, none, []⟩,
         ⟨some 20, .load 63 (.tmp 19), none, []⟩,
         ⟨some 21, .nilCheck (.tmp 20), none, []⟩,
         ⟨some 22, .fieldAddr 65 (.tmp 21) 2, none, []⟩,
         ⟨some 23, .load 34 (.tmp 22), none, []⟩,
         ⟨some 24, .fieldAddr 40 (.tmp 3) 2, none, []⟩,
         ⟨some 25, .load 3 (.tmp 24), none, []⟩,
         ⟨some 26, .indexAddr 34 (.tmp 23) (.tmp 25), none, []⟩,
         ⟨some 27, .load 3 (.tmp 26), none, []⟩,
         ⟨some 28, .call ⟨.value (.func 89), #[(.tmp 16), (.tmp 27)], #[116, 3]⟩, none, []⟩])
       (.seq (.ops [⟨some 30, .binOp .eql 3 (.tmp 7) (.const (.int .i64 3)) 3, none, []⟩,
         ⟨some 29, .assign (.tmp 30), none, []⟩])
       (.cond (.tmp 29)
         (.ops [⟨some 31, .move (.tmp 0), none, []⟩,
           ⟨some 32, .move (.tmp 0), none, []⟩,
           ⟨some 33, .nilCheck (.tmp 32), none, []⟩,
           ⟨some 34, .fieldAddr 118 (.tmp 33) 0, none, []⟩,
           ⟨some 35, .load 63 (.tmp 34), none, []⟩,
           ⟨some 36, .nilCheck (.tmp 35), none, []⟩,
           ⟨some 37, .fieldAddr 65 (.tmp 36) 2, none, []⟩,
           ⟨some 38, .load 34 (.tmp 37), none, []⟩,
           ⟨some 39, .fieldAddr 40 (.tmp 3) 2, none, []⟩,
           ⟨some 40, .load 3 (.tmp 39), none, []⟩,
           ⟨some 41, .indexAddr 34 (.tmp 38) (.tmp 40), none, []⟩,
           ⟨some 42, .load 3 (.tmp 41), none, []⟩,
           ⟨some 43, .buildSlice 34 1 #[(0, (.tmp 42))], none, []⟩,
           ⟨some 44, .call ⟨.value (.func 88), #[(.tmp 31), (.tmp 43)], #[116, 34]⟩, none, []⟩])
         (.seq (.ops [⟨some 46, .binOp .eql 3 (.tmp 7) (.const (.int .i64 4)) 3, none, []⟩,
           ⟨some 45, .assign (.tmp 46), none, []⟩])
         (.cond (.tmp 45)
           (.seq (.ops [⟨some 47, .move (.tmp 0), none, []⟩,
             ⟨some 48, .fieldAddr 40 (.tmp 3) 1, none, []⟩,
             ⟨some 49, .load 3 (.tmp 48), none, []⟩,
             ⟨some 50, .fieldAddr 40 (.tmp 3) 1, none, []⟩,
             ⟨some 51, .load 3 (.tmp 50), none, []⟩,
             ⟨some 52, .buildSlice 34 2 #[(0, (.tmp 49)), (1, (.tmp 51))], none, []⟩,
             ⟨some 53, .call ⟨.value (.func 88), #[(.tmp 47), (.tmp 52)], #[116, 34]⟩, none, []⟩])
           (.seq (.ops [⟨some 54, .fieldAddr 40 (.tmp 3) 5, none, []⟩,
             ⟨some 55, .load 9 (.tmp 54), none, []⟩,
             ⟨some 56, .binOp .add 9 (.const (.string ⟨#[32]⟩)) (.tmp 55) 9, none, []⟩,
             ⟨some 57, .binOp .add 9 (.tmp 56) (.const (.string ⟨#[32]⟩)) 9, none, []⟩,
             ⟨some 58, .call ⟨.value (.func 103), #[(.const (.string ⟨#[32, 101, 113, 32, 110, 101, 32, 108, 116, 95, 115, 32, 108, 101, 95, 115, 32, 103, 116, 95, 115, 32, 103, 101, 95, 115, 32]⟩)), (.tmp 57)], #[9, 9]⟩, none, []⟩])
           (.cond (.tmp 58)
             (.ops [⟨some 59, .move (.tmp 0), none, []⟩,
               ⟨some 60, .call ⟨.value (.func 89), #[(.tmp 59), (.const (.int .i64 1))], #[116, 3]⟩, none, []⟩])
             (.ops [⟨some 61, .move (.tmp 0), none, []⟩,
               ⟨some 62, .fieldAddr 40 (.tmp 3) 1, none, []⟩,
               ⟨some 63, .load 3 (.tmp 62), none, []⟩,
               ⟨some 64, .call ⟨.value (.func 89), #[(.tmp 61), (.tmp 63)], #[116, 3]⟩, none, []⟩]))))
           (.seq (.ops [⟨some 66, .binOp .eql 3 (.tmp 7) (.const (.int .i64 5)) 3, none, []⟩,
             ⟨some 65, .assign (.tmp 66), none, []⟩])
           (.cond (.tmp 65)
             (.seq (.ops [⟨some 67, .move (.tmp 0), none, []⟩,
               ⟨some 68, .fieldAddr 40 (.tmp 3) 1, none, []⟩,
               ⟨some 69, .load 3 (.tmp 68), none, []⟩,
               ⟨some 70, .buildSlice 34 1 #[(0, (.tmp 69))], none, []⟩,
               ⟨some 71, .call ⟨.value (.func 88), #[(.tmp 67), (.tmp 70)], #[116, 34]⟩, none, []⟩])
             (.ops [⟨some 72, .move (.tmp 0), none, []⟩,
               ⟨some 73, .call ⟨.value (.func 89), #[(.tmp 72), (.const (.int .i64 1))], #[116, 3]⟩, none, []⟩]))
             (.seq (.ops [⟨some 75, .binOp .eql 3 (.tmp 7) (.const (.int .i64 6)) 3, none, []⟩,
               ⟨some 74, .assign (.tmp 75), none, []⟩])
             (.cond (.tmp 74)
               (.seq (.ops [⟨some 76, .move (.tmp 0), none, []⟩,
                 ⟨some 77, .buildSlice 34 1 #[(0, (.const (.int .i64 2)))], none, []⟩,
                 ⟨some 78, .call ⟨.value (.func 88), #[(.tmp 76), (.tmp 77)], #[116, 34]⟩, none, []⟩])
               (.ops [⟨some 79, .move (.tmp 0), none, []⟩,
                 ⟨some 80, .call ⟨.value (.func 89), #[(.tmp 79), (.const (.int .i64 1))], #[116, 3]⟩, none, []⟩]))
               (.seq (.ops [⟨some 82, .binOp .eql 3 (.tmp 7) (.const (.int .i64 7)) 3, none, []⟩,
                 ⟨some 81, .assign (.tmp 82), none, []⟩])
               (.cond (.tmp 81)
                 (.seq (.ops [⟨some 83, .move (.tmp 0), none, []⟩,
                   ⟨some 84, .buildSlice 34 1 #[(0, (.const (.int .i64 1)))], none, []⟩,
                   ⟨some 85, .call ⟨.value (.func 88), #[(.tmp 83), (.tmp 84)], #[116, 34]⟩, none, []⟩])
                 (.ops [⟨some 86, .move (.tmp 0), none, []⟩,
                   ⟨some 87, .call ⟨.value (.func 89), #[(.tmp 86), (.const (.int .i64 2))], #[116, 3]⟩, none, []⟩]))
                 (.seq (.ops [⟨some 89, .binOp .eql 3 (.tmp 7) (.const (.int .i64 8)) 3, none, []⟩,
                   ⟨some 88, .assign (.tmp 89), none, []⟩])
                 (.cond (.tmp 88)
                   (.seq (.ops [⟨some 90, .move (.tmp 0), none, []⟩,
                     ⟨some 91, .buildSlice 34 1 #[(0, (.const (.int .i64 1)))], none, []⟩,
                     ⟨some 92, .call ⟨.value (.func 88), #[(.tmp 90), (.tmp 91)], #[116, 34]⟩, none, []⟩])
                   (.ops [⟨some 93, .move (.tmp 0), none, []⟩,
                     ⟨some 94, .fieldAddr 40 (.tmp 3) 1, none, []⟩,
                     ⟨some 95, .load 3 (.tmp 94), none, []⟩,
                     ⟨some 96, .call ⟨.value (.func 89), #[(.tmp 93), (.tmp 95)], #[116, 3]⟩, none, []⟩]))
                   (.seq (.ops [⟨some 98, .binOp .eql 3 (.tmp 7) (.const (.int .i64 9)) 3, none, []⟩,
                     ⟨some 97, .assign (.tmp 98), none, []⟩])
                   (.cond (.tmp 97)
                     (.ops [⟨some 99, .move (.tmp 0), none, []⟩,
                       ⟨some 100, .fieldAddr 40 (.tmp 3) 1, none, []⟩,
                       ⟨some 101, .load 3 (.tmp 100), none, []⟩,
                       ⟨some 102, .buildSlice 34 2 #[(0, (.const (.int .i64 1))), (1, (.tmp 101))], none, []⟩,
                       ⟨some 103, .call ⟨.value (.func 88), #[(.tmp 99), (.tmp 102)], #[116, 34]⟩, none, []⟩])
                     (.seq (.ops [⟨some 105, .binOp .eql 3 (.tmp 7) (.const (.int .i64 10)) 3, none, []⟩,
                       ⟨some 104, .assign (.tmp 105), none, []⟩])
                     (.cond (.tmp 104)
                       (.seq (.both [[⟨some 107, .move (.tmp 0), none, []⟩,
                           ⟨some 108, .nilCheck (.tmp 107), none, []⟩,
                           ⟨some 109, .fieldAddr 118 (.tmp 108) 0, none, []⟩,
                           ⟨some 110, .load 63 (.tmp 109), none, []⟩,
                           ⟨some 111, .nilCheck (.tmp 110), none, []⟩,
                           ⟨some 112, .fieldAddr 65 (.tmp 111) 0, none, []⟩,
                           ⟨some 113, .load 24 (.tmp 112), none, []⟩,
                           ⟨some 114, .fieldAddr 40 (.tmp 3) 2, none, []⟩,
                           ⟨some 115, .load 3 (.tmp 114), none, []⟩,
                           ⟨some 116, .call ⟨.value (.func 100), #[(.tmp 113), (.tmp 115)], #[24, 3]⟩, none, []⟩,
                           ⟨some 106, .move (.tmp 116), none, []⟩,
                           ⟨some 117, .extract (.tmp 106) 0, none, []⟩,
                           ⟨some 118, .extract (.tmp 106) 1, none, []⟩,
                           ⟨some 4, .alloc 139, none, []⟩,
                           ⟨none, .store 139 (.tmp 4) (.tmp 117), none, []⟩,
                           ⟨some 5, .assign (.tmp 118), none, []⟩],
                         [⟨some 107, .move (.tmp 0), none, []⟩,
                           ⟨some 108, .nilCheck (.tmp 107), none, []⟩,
                           ⟨some 109, .fieldAddr 118 (.tmp 108) 0, none, []⟩,
                           ⟨some 110, .load 63 (.tmp 109), none, []⟩,
                           ⟨some 111, .nilCheck (.tmp 110), none, []⟩,
                           ⟨some 112, .fieldAddr 65 (.tmp 111) 0, none, []⟩,
                           ⟨some 113, .load 24 (.tmp 112), none, []⟩,
                           ⟨some 114, .fieldAddr 40 (.tmp 3) 2, none, []⟩,
                           ⟨some 115, .load 3 (.tmp 114), none, []⟩,
                           ⟨some 4, .alloc 139, none, [⟨none, 63, (.tmp 109), 110⟩, ⟨none, 24, (.tmp 112), 113⟩, ⟨none, 3, (.tmp 114), 115⟩]⟩,
                           ⟨some 116, .call ⟨.value (.func 100), #[(.tmp 113), (.tmp 115)], #[24, 3]⟩, none, []⟩,
                           ⟨some 106, .move (.tmp 116), none, []⟩,
                           ⟨some 117, .extract (.tmp 106) 0, none, []⟩,
                           ⟨some 118, .extract (.tmp 106) 1, none, []⟩,
                           ⟨none, .store 139 (.tmp 4) (.tmp 117), none, []⟩,
                           ⟨some 5, .assign (.tmp 118), none, []⟩]])
                       (.seq (.ops [⟨some 119, .move (.tmp 0), none, []⟩,
                         ⟨some 120, .fieldAddr 139 (.tmp 4) 0, none, []⟩,
                         ⟨some 121, .load 34 (.tmp 120), none, []⟩,
                         ⟨some 122, .call ⟨.value (.func 88), #[(.tmp 119), (.tmp 121)], #[116, 34]⟩, none, []⟩])
                       (.ops [⟨some 123, .move (.tmp 0), none, []⟩,
                         ⟨some 124, .fieldAddr 139 (.tmp 4) 1, none, []⟩,
                         ⟨some 125, .load 3 (.tmp 124), none, []⟩,
                         ⟨some 126, .call ⟨.value (.func 89), #[(.tmp 123), (.tmp 125)], #[116, 3]⟩, none, []⟩])))
                       (.seq (.ops [⟨some 128, .binOp .eql 3 (.tmp 7) (.const (.int .i64 18)) 3, none, []⟩,
                         ⟨some 127, .assign (.tmp 128), none, []⟩])
                       (.cond (.tmp 127)
                         (.ops [⟨some 129, .move (.tmp 0), none, []⟩,
                           ⟨some 130, .call ⟨.value (.func 102), #[(.tmp 129)], #[116]⟩, none, []⟩])
                         .skip)))))))))))))))))))))))))
theorem plan91 : Tryd.f91.body.bind (plan Tryd.f91.ntmps) = some pc91 := by kernel_rfl
theorem calls91 {G : Env} {args : List AV} {σ : AS} {R : Out → AS → Prop} (hn : args.length = 2) (h : avc Tryd.prog G 131 pc91 (afin Tryd.prog [] R) (frame0 args) σ) : ACalls Tryd.prog G 91 args σ R :=
  acalls' (n := 131) (l := []) mixed Tryd.func91 (by kernel_rfl) (by kernel_rfl) plan91 (by omega) h

/- mortise/wasm.sign -/
def pc94_l1 : PC :=
  (.seq (.ops [⟨some 7, .binOp .lss 3 (.tmp 6) (.const (.int .i64 16)) 3, none, []⟩])
  (.seq (.cond (.tmp 7)
    .skip
    (.exit 0))
  (.seq (.block 1
   (.seq (.ops [⟨some 8, .index 149 (.tmp 5) (.tmp 6), none, []⟩,
     ⟨some 4, .alloc 148, none, []⟩,
     ⟨none, .store 148 (.tmp 4) (.tmp 8), none, []⟩])
   (.seq (.ops [⟨some 9, .indexAddr 148 (.tmp 4) (.const (.int .i64 0)), none, []⟩,
     ⟨some 10, .load 9 (.tmp 9), none, []⟩,
     ⟨some 11, .move (.tmp 0), none, []⟩,
     ⟨some 12, .binOp .eql 9 (.tmp 10) (.tmp 11) 9, none, []⟩])
   (.cond (.tmp 12)
     (.seq (.ops [⟨some 13, .indexAddr 148 (.tmp 4) (.const (.int .i64 1)), none, []⟩,
       ⟨some 14, .load 9 (.tmp 13), none, []⟩,
       ⟨some 2, .assign (.tmp 14), none, []⟩])
     .ret)
     .skip))))
  (.ops [⟨some 15, .binOp .add 3 (.tmp 6) (.const (.int .i64 1)) 3, none, []⟩,
    ⟨some 6, .move (.tmp 15), none, []⟩]))))
def pc94_r1 : PC :=
  (.seq (.ops [⟨some 2, .assign (.const (.string ⟨#[]⟩)), none, []⟩])
  .ret)
def pc94 : PC :=
  (.seq (.ops [⟨some 2, .assign (.const (.string ⟨#[]⟩)), none, []⟩])
  (.seq (.seq (.ops [⟨some 5, .load 149 (.global 0), none, []⟩,
    ⟨some 6, .move (.const (.int .i64 0)), none, []⟩])
  (.block 0
   (.loop pc94_l1)))
  pc94_r1))
theorem plan94 : Tryd.f94.body.bind (plan Tryd.f94.ntmps) = some pc94 := by kernel_rfl
theorem calls94 {G : Env} {args : List AV} {σ : AS} {R : Out → AS → Prop} (hn : args.length = 1) (h : avc Tryd.prog G 16 pc94 (afin Tryd.prog [.tmp 2] R) (frame0 args) σ) : ACalls Tryd.prog G 94 args σ R :=
  acalls' (n := 16) (l := [.tmp 2]) mixed Tryd.func94 (by kernel_rfl) (by kernel_rfl) plan94 (by omega) h

/- mortise/word.Wrap -/
def pc95 : PC :=
  (.seq (.ops [⟨some 4, .assign (.const (.int .i64 0)), none, []⟩])
  (.seq (.seq (.ops [⟨some 5, .move (.tmp 0), none, []⟩])
  (.block 0
   (.seq (.ops [⟨some 7, .binOp .eql 3 (.tmp 5) (.const (.int .i64 3)) 3, none, []⟩,
     ⟨some 6, .assign (.tmp 7), none, []⟩])
   (.cond (.tmp 6)
     (.seq (.ops [⟨some 8, .move (.tmp 1), none, []⟩,
       ⟨some 9, .convert 3 53 (.tmp 8), none, []⟩,
       ⟨some 10, .convert 53 3 (.tmp 9), none, []⟩,
       ⟨some 4, .assign (.tmp 10), none, []⟩])
     .ret)
     (.seq (.ops [⟨some 12, .binOp .eql 3 (.tmp 5) (.const (.int .i64 1)) 3, none, []⟩,
       ⟨some 11, .assign (.tmp 12), none, []⟩])
     (.cond (.tmp 11)
       (.seq (.ops [⟨some 13, .move (.tmp 1), none, []⟩,
         ⟨some 14, .convert 3 21 (.tmp 13), none, []⟩,
         ⟨some 15, .convert 21 3 (.tmp 14), none, []⟩,
         ⟨some 4, .assign (.tmp 15), none, []⟩])
       .ret)
       (.seq (.ops [⟨some 17, .binOp .eql 3 (.tmp 5) (.const (.int .i64 2)) 3, none, []⟩,
         ⟨some 16, .assign (.tmp 17), none, []⟩])
       (.cond (.tmp 16)
         (.seq (.ops [⟨some 18, .move (.tmp 1), none, []⟩,
           ⟨some 4, .assign (.tmp 18), none, []⟩])
         .ret)
         .skip))))))))
  (.seq (.ops [⟨some 4, .assign (.const (.int .i64 0)), none, []⟩])
  .ret)))
theorem plan95 : Tryd.f95.body.bind (plan Tryd.f95.ntmps) = some pc95 := by kernel_rfl
theorem calls95 {G : Env} {args : List AV} {σ : AS} {R : Out → AS → Prop} (hn : args.length = 2) (h : avc Tryd.prog G 19 pc95 (afin Tryd.prog [.tmp 4] R) (frame0 args) σ) : ACalls Tryd.prog G 95 args σ R :=
  acalls' (n := 19) (l := [.tmp 4]) mixed Tryd.func95 (by kernel_rfl) (by kernel_rfl) plan95 (by omega) h

/- mortise/wasm.bytes -/
def pc99 : PC :=
  (.seq (.ops [⟨some 4, .assign (.const (.bool false)), none, []⟩])
  (.seq (.ops [⟨some 5, .move (.tmp 0), none, []⟩,
    ⟨some 6, .binOp .eql 3 (.tmp 5) (.const (.int .i64 1)) 3, none, []⟩,
    ⟨some 7, .move (.tmp 6), none, []⟩,
    ⟨some 8, .move (.tmp 1), (some (7, true)), []⟩,
    ⟨some 9, .binOp .eql 3 (.tmp 8) (.const (.int .i64 1)) 3, (some (7, true)), []⟩,
    ⟨some 10, .move (.tmp 9), (some (7, true)), []⟩,
    ⟨some 11, .move (.tmp 1), (some (10, false)), []⟩,
    ⟨some 12, .binOp .eql 3 (.tmp 11) (.const (.int .i64 4)) 3, (some (10, false)), []⟩,
    ⟨some 13, .pick (.tmp 10) (.const (.bool true)) (.tmp 12), (some (7, true)), []⟩,
    ⟨some 14, .pick (.tmp 7) (.tmp 13) (.const (.bool false)), none, []⟩,
    ⟨some 15, .move (.tmp 14), none, []⟩,
    ⟨some 16, .move (.tmp 0), (some (15, false)), []⟩,
    ⟨some 17, .binOp .eql 3 (.tmp 16) (.const (.int .i64 2)) 3, (some (15, false)), []⟩,
    ⟨some 18, .move (.tmp 17), (some (15, false)), []⟩,
    ⟨some 19, .move (.tmp 1), (some (18, true)), []⟩,
    ⟨some 20, .binOp .eql 3 (.tmp 19) (.const (.int .i64 8)) 3, (some (18, true)), []⟩,
    ⟨some 21, .pick (.tmp 18) (.tmp 20) (.const (.bool false)), (some (15, false)), []⟩,
    ⟨some 22, .pick (.tmp 15) (.const (.bool true)) (.tmp 21), none, []⟩,
    ⟨some 4, .assign (.tmp 22), none, []⟩])
  .ret))
theorem plan99 : Tryd.f99.body.bind (plan Tryd.f99.ntmps) = some pc99 := by kernel_rfl
theorem calls99 {G : Env} {args : List AV} {σ : AS} {R : Out → AS → Prop} (hn : args.length = 2) (h : avc Tryd.prog G 23 pc99 (afin Tryd.prog [.tmp 4] R) (frame0 args) σ) : ACalls Tryd.prog G 99 args σ R :=
  acalls' (n := 23) (l := [.tmp 4]) mixed Tryd.func99 (by kernel_rfl) (by kernel_rfl) plan99 (by omega) h

/- mortise/wasm.headOf -/
def pc100 : PC :=
  (.seq (.ops [⟨some 2, .box 24 (.tmp 0), none, []⟩,
    ⟨some 4, .alloc 139, none, []⟩,
    ⟨some 5, .assign (.const (.bool false)), none, []⟩])
  (.seq (.block 0
   (.seq (.ops [⟨some 8, .move (.tmp 1), none, []⟩,
     ⟨some 9, .binOp .eql 3 (.tmp 8) (.const (.int .i64 0)) 3, none, []⟩,
     ⟨some 7, .assign (.tmp 9), none, []⟩])
   (.cond (.tmp 7)
     (.seq (.ops [⟨some 10, .build 139 #[(0, (.const (.slice none 0 0))), (1, (.const (.int .i64 2)))], none, []⟩,
       ⟨none, .store 139 (.tmp 4) (.tmp 10), none, []⟩,
       ⟨some 5, .assign (.const (.bool true)), none, []⟩])
     .ret)
     (.seq (.ops [⟨some 12, .move (.tmp 1), none, []⟩,
       ⟨some 13, .binOp .eql 3 (.tmp 12) (.const (.int .i64 1)) 3, none, []⟩,
       ⟨some 11, .assign (.tmp 13), none, []⟩])
     (.cond (.tmp 11)
       (.seq (.ops [⟨some 14, .buildSlice 34 1 #[(0, (.const (.int .i64 2)))], none, []⟩,
         ⟨some 15, .build 139 #[(0, (.tmp 14)), (1, (.const (.int .i64 0)))], none, []⟩,
         ⟨none, .store 139 (.tmp 4) (.tmp 15), none, []⟩,
         ⟨some 5, .assign (.const (.bool true)), none, []⟩])
       .ret)
       (.seq (.ops [⟨some 17, .move (.tmp 1), none, []⟩,
         ⟨some 18, .binOp .eql 3 (.tmp 17) (.const (.int .i64 2)) 3, none, []⟩,
         ⟨some 16, .assign (.tmp 18), none, []⟩])
       (.cond (.tmp 16)
         (.seq (.ops [⟨some 19, .buildSlice 34 1 #[(0, (.const (.int .i64 1)))], none, []⟩,
           ⟨some 20, .build 139 #[(0, (.tmp 19)), (1, (.const (.int .i64 0)))], none, []⟩,
           ⟨none, .store 139 (.tmp 4) (.tmp 20), none, []⟩,
           ⟨some 5, .assign (.const (.bool true)), none, []⟩])
         .ret)
         (.seq (.ops [⟨some 22, .move (.tmp 1), none, []⟩,
           ⟨some 23, .binOp .lss 3 (.tmp 22) (.const (.int .i64 0)) 3, none, []⟩,
           ⟨some 24, .move (.tmp 23), none, []⟩,
           ⟨some 25, .move (.tmp 1), (some (24, false)), []⟩,
           ⟨some 26, .binOp .sub 3 (.tmp 25) (.const (.int .i64 3)) 3, (some (24, false)), []⟩,
           ⟨some 27, .fieldAddr 24 (.tmp 2) 0, (some (24, false)), []⟩,
           ⟨some 28, .load 22 (.tmp 27), (some (24, false)), []⟩,
           ⟨some 29, .call ⟨.builtin .len, #[(.tmp 28)], #[22]⟩, (some (24, false)), []⟩,
           ⟨some 30, .binOp .geq 3 (.tmp 26) (.tmp 29) 3, (some (24, false)), []⟩,
           ⟨some 31, .pick (.tmp 24) (.const (.bool true)) (.tmp 30), none, []⟩,
           ⟨some 21, .assign (.tmp 31), none, []⟩])
         (.cond (.tmp 21)
           (.seq (.ops [⟨some 32, .build 139 #[], none, []⟩,
             ⟨none, .store 139 (.tmp 4) (.tmp 32), none, []⟩,
             ⟨some 5, .assign (.const (.bool false)), none, []⟩])
           .ret)
           .skip)))))))))
  (.seq (.ops [⟨some 33, .fieldAddr 24 (.tmp 2) 0, none, []⟩,
    ⟨some 34, .load 22 (.tmp 33), none, []⟩,
    ⟨some 35, .move (.tmp 1), none, []⟩,
    ⟨some 36, .binOp .sub 3 (.tmp 35) (.const (.int .i64 3)) 3, none, []⟩,
    ⟨some 37, .indexAddr 22 (.tmp 34) (.tmp 36), none, []⟩,
    ⟨some 38, .load 37 (.tmp 37), none, []⟩,
    ⟨some 6, .alloc 37, none, []⟩,
    ⟨none, .store 37 (.tmp 6) (.tmp 38), none, []⟩])
  (.seq (.ops [⟨some 39, .fieldAddr 37 (.tmp 6) 1, none, []⟩,
    ⟨some 40, .load 34 (.tmp 39), none, []⟩,
    ⟨some 41, .fieldAddr 37 (.tmp 6) 3, none, []⟩,
    ⟨some 42, .load 3 (.tmp 41), none, []⟩,
    ⟨some 43, .build 139 #[(0, (.tmp 40)), (1, (.tmp 42))], none, []⟩,
    ⟨none, .store 139 (.tmp 4) (.tmp 43), none, []⟩,
    ⟨some 5, .assign (.const (.bool true)), none, []⟩])
  .ret))))
theorem plan100 : Tryd.f100.body.bind (plan Tryd.f100.ntmps) = some pc100 := by kernel_rfl
theorem calls100 {G : Env} {args : List AV} {σ : AS} {R : Out → AS → Prop} (hn : args.length = 2) (h : avc Tryd.prog G 44 pc100 (afin Tryd.prog [.cell 4 139, .tmp 5] R) (frame0 args) σ) : ACalls Tryd.prog G 100 args σ R :=
  acalls' (n := 44) (l := [.cell 4 139, .tmp 5]) mixed Tryd.func100 (by kernel_rfl) (by kernel_rfl) plan100 (by omega) h

/- slices.Backward[[]int,int] -/
def pc101 : PC :=
  (.seq (.ops [⟨some 1, .box 34 (.tmp 0), none, []⟩,
    ⟨some 2, .assign (.const .nilFunc), none, []⟩])
  (.seq (.ops [⟨some 3, .makeFunc (.func 107) #[] #[(.tmp 1)], none, []⟩,
    ⟨some 2, .assign (.tmp 3), none, []⟩])
  .ret))
theorem plan101 : Tryd.f101.body.bind (plan Tryd.f101.ntmps) = some pc101 := by kernel_rfl
theorem calls101 {G : Env} {args : List AV} {σ : AS} {R : Out → AS → Prop} (hn : args.length = 1) (h : avc Tryd.prog G 4 pc101 (afin Tryd.prog [.tmp 2] R) (frame0 args) σ) : ACalls Tryd.prog G 101 args σ R :=
  acalls' (n := 4) (l := [.tmp 2]) mixed Tryd.func101 (by kernel_rfl) (by kernel_rfl) plan101 (by omega) h

/- (*mortise/wasm.list).drop -/
def pc102 : PC :=
  (.seq (.ops [⟨some 3, .move (.tmp 0), none, []⟩,
    ⟨some 4, .nilCheck (.tmp 3), none, []⟩,
    ⟨some 5, .fieldAddr 118 (.tmp 4) 1, none, []⟩,
    ⟨some 6, .load 34 (.tmp 5), none, []⟩,
    ⟨some 7, .call ⟨.builtin .len, #[(.tmp 6)], #[34]⟩, none, []⟩,
    ⟨some 2, .assign (.tmp 7), none, []⟩])
  (.seq (.seq (.ops [⟨some 8, .move (.tmp 2), none, []⟩,
    ⟨some 9, .binOp .eql 3 (.tmp 8) (.const (.int .i64 0)) 3, none, []⟩,
    ⟨some 10, .move (.tmp 9), none, []⟩,
    ⟨some 11, .move (.tmp 0), (some (10, true)), []⟩,
    ⟨some 12, .nilCheck (.tmp 11), (some (10, true)), []⟩,
    ⟨some 13, .fieldAddr 118 (.tmp 12) 2, (some (10, true)), []⟩,
    ⟨some 14, .load 4 (.tmp 13), (some (10, true)), []⟩,
    ⟨some 15, .pick (.tmp 10) (.tmp 14) (.const (.bool false)), none, []⟩])
  (.cond (.tmp 15)
    .ret
    .skip))
  (.seq (.ops [⟨some 16, .move (.tmp 2), none, []⟩,
    ⟨some 17, .binOp .gtr 3 (.tmp 16) (.const (.int .i64 0)) 3, none, []⟩,
    ⟨some 18, .call ⟨.value (.func 29), #[(.tmp 17), (.const (.int .i64 14))], #[4, 26]⟩, none, []⟩])
  (.ops [⟨some 19, .move (.tmp 0), none, []⟩,
    ⟨some 20, .move (.tmp 0), none, []⟩,
    ⟨some 21, .nilCheck (.tmp 20), none, []⟩,
    ⟨some 22, .fieldAddr 118 (.tmp 21) 1, none, []⟩,
    ⟨some 23, .load 34 (.tmp 22), none, []⟩,
    ⟨some 24, .move (.tmp 2), none, []⟩,
    ⟨some 25, .binOp .sub 3 (.tmp 24) (.const (.int .i64 1)) 3, none, []⟩,
    ⟨some 26, .move (.tmp 2), none, []⟩,
    ⟨some 27, .binOp .sub 3 (.tmp 26) (.const (.int .i64 1)) 3, none, []⟩,
    ⟨some 28, .slice 34 (.tmp 23) none (some (.tmp 25)) (some (.tmp 27)), none, []⟩,
    ⟨some 29, .nilCheck (.tmp 19), none, []⟩,
    ⟨some 30, .fieldAddr 118 (.tmp 29) 1, none, []⟩,
    ⟨none, .store 34 (.tmp 30) (.tmp 28), none, []⟩]))))
theorem plan102 : Tryd.f102.body.bind (plan Tryd.f102.ntmps) = some pc102 := by kernel_rfl
theorem calls102 {G : Env} {args : List AV} {σ : AS} {R : Out → AS → Prop} (hn : args.length = 1) (h : avc Tryd.prog G 31 pc102 (afin Tryd.prog [] R) (frame0 args) σ) : ACalls Tryd.prog G 102 args σ R :=
  acalls' (n := 31) (l := []) mixed Tryd.func102 (by kernel_rfl) (by kernel_rfl) plan102 (by omega) h

/- slices.Backward[[]int,int]$1 -/
def pc107_l1 : PC :=
  (.seq (.seq (.ops [⟨some 7, .move (.tmp 3), none, []⟩,
    ⟨some 8, .binOp .geq 3 (.tmp 7) (.const (.int .i64 0)) 3, none, []⟩])
  (.cond (.tmp 8)
    .skip
    (.exit 0)))
  (.seq (.block 1
   (.seq (.ops [⟨some 11, .move (.tmp 0), none, []⟩,
     ⟨some 12, .move (.tmp 3), none, []⟩,
     ⟨some 13, .load 34 (.tmp 1), none, []⟩,
     ⟨some 14, .move (.tmp 3), none, []⟩,
     ⟨some 15, .indexAddr 34 (.tmp 13) (.tmp 14), none, []⟩,
     ⟨some 16, .load 3 (.tmp 15), none, []⟩,
     ⟨some 17, .call ⟨.value (.tmp 11), #[(.tmp 12), (.tmp 16)], #[3, 3]⟩, none, []⟩,
     ⟨some 18, .unOp .not 4 (.tmp 17), none, []⟩])
   (.cond (.tmp 18)
     .ret
     .skip)))
  (.ops [⟨some 9, .move (.tmp 3), none, []⟩,
    ⟨some 10, .binOp .sub 3 (.tmp 9) (.const (.int .i64 1)) 3, none, []⟩,
    ⟨some 3, .assign (.tmp 10), none, []⟩])))
def pc107 : PC :=
  (.seq (.ops [⟨some 4, .load 34 (.tmp 1), none, []⟩,
    ⟨some 5, .call ⟨.builtin .len, #[(.tmp 4)], #[34]⟩, none, []⟩,
    ⟨some 6, .binOp .sub 3 (.tmp 5) (.const (.int .i64 1)) 3, none, []⟩,
    ⟨some 3, .assign (.tmp 6), none, []⟩])
  (.block 0
   (.loop pc107_l1)))
theorem plan107 : Tryd.f107.body.bind (plan Tryd.f107.ntmps) = some pc107 := by kernel_rfl
theorem calls107 {G : Env} {args : List AV} {σ : AS} {R : Out → AS → Prop} (hn : args.length = 2) (h : avc Tryd.prog G 19 pc107 (afin Tryd.prog [] R) (frame0 args) σ) : ACalls Tryd.prog G 107 args σ R :=
  acalls' (n := 19) (l := []) mixed Tryd.func107 (by kernel_rfl) (by kernel_rfl) plan107 (by omega) h

@[simp] theorem t_sz24 : szOf Tryd.prog 24 = some 3 := by kernel_rfl
@[simp] theorem t_agg24 : aggOf Tryd.prog 24 = true := by kernel_rfl
@[simp] theorem t_call9 : callable Tryd.prog 9 = true := by kernel_rfl
@[simp] theorem t_call10 : callable Tryd.prog 10 = true := by kernel_rfl
@[simp] theorem t_und26 : Tryd.prog.underlying 26 = some (.int .i64) := by kernel_rfl
@[simp] theorem t_call11 : callable Tryd.prog 11 = true := by kernel_rfl
@[simp] theorem t_call12 : callable Tryd.prog 12 = true := by kernel_rfl
@[simp] theorem t_zero24 : zeroOf Tryd.prog 24 = some (.agg [.nilsl, (.int .i64 0), (.int .i64 0)]) := by kernel_rfl
@[simp] theorem t_call13 : callable Tryd.prog 13 = true := by kernel_rfl
@[simp] theorem t_call15 : callable Tryd.prog 15 = true := by kernel_rfl
@[simp] theorem t_call14 : callable Tryd.prog 14 = true := by kernel_rfl
@[simp] theorem t_call16 : callable Tryd.prog 16 = true := by kernel_rfl
@[simp] theorem t_call17 : callable Tryd.prog 17 = true := by kernel_rfl
@[simp] theorem t_und3 : Tryd.prog.underlying 3 = some (.int .i64) := by kernel_rfl
@[simp] theorem t_fi24_0 : fiOf Tryd.prog 24 0 = some ⟨0, 1, false⟩ := by kernel_rfl
@[simp] theorem t_sz22 : szOf Tryd.prog 22 = some 1 := by kernel_rfl
@[simp] theorem t_agg22 : aggOf Tryd.prog 22 = false := by kernel_rfl
@[simp] theorem t_el22 : elOf Tryd.prog 22 = some 5 := by kernel_rfl
@[simp] theorem t_str22 : isStr Tryd.prog 22 = false := by kernel_rfl
@[simp] theorem t_fi24_1 : fiOf Tryd.prog 24 1 = some ⟨1, 1, false⟩ := by kernel_rfl
@[simp] theorem t_sz3 : szOf Tryd.prog 3 = some 1 := by kernel_rfl
@[simp] theorem t_agg3 : aggOf Tryd.prog 3 = false := by kernel_rfl
@[simp] theorem t_fi24_2 : fiOf Tryd.prog 24 2 = some ⟨2, 1, false⟩ := by kernel_rfl
@[simp] theorem t_sz37 : szOf Tryd.prog 37 = some 5 := by kernel_rfl
@[simp] theorem t_agg37 : aggOf Tryd.prog 37 = true := by kernel_rfl
@[simp] theorem t_zero37 : zeroOf Tryd.prog 37 = some (.agg [(.str []), .nilsl, .nilsl, (.int .i64 0), .nilsl]) := by kernel_rfl
@[simp] theorem t_fi37_4 : fiOf Tryd.prog 37 4 = some ⟨4, 1, false⟩ := by kernel_rfl
@[simp] theorem t_sz35 : szOf Tryd.prog 35 = some 1 := by kernel_rfl
@[simp] theorem t_agg35 : aggOf Tryd.prog 35 = false := by kernel_rfl
@[simp] theorem t_el35 : elOf Tryd.prog 35 = some 1 := by kernel_rfl
@[simp] theorem t_str35 : isStr Tryd.prog 35 = false := by kernel_rfl
@[simp] theorem t_sz38 : szOf Tryd.prog 38 = some 1 := by kernel_rfl
@[simp] theorem t_agg38 : aggOf Tryd.prog 38 = false := by kernel_rfl
@[simp] theorem t_el38 : elOf Tryd.prog 38 = some 6 := by kernel_rfl
@[simp] theorem t_str38 : isStr Tryd.prog 38 = false := by kernel_rfl
@[simp] theorem t_fi40_0 : fiOf Tryd.prog 40 0 = some ⟨0, 1, false⟩ := by kernel_rfl
@[simp] theorem t_fi37_0 : fiOf Tryd.prog 37 0 = some ⟨0, 1, false⟩ := by kernel_rfl
@[simp] theorem t_sz9 : szOf Tryd.prog 9 = some 1 := by kernel_rfl
@[simp] theorem t_agg9 : aggOf Tryd.prog 9 = false := by kernel_rfl
@[simp] theorem t_und9 : Tryd.prog.underlying 9 = some .string := by kernel_rfl
@[simp] theorem t_fi37_3 : fiOf Tryd.prog 37 3 = some ⟨3, 1, false⟩ := by kernel_rfl
@[simp] theorem t_fi37_1 : fiOf Tryd.prog 37 1 = some ⟨1, 1, false⟩ := by kernel_rfl
@[simp] theorem t_sz34 : szOf Tryd.prog 34 = some 1 := by kernel_rfl
@[simp] theorem t_agg34 : aggOf Tryd.prog 34 = false := by kernel_rfl
@[simp] theorem t_call18 : callable Tryd.prog 18 = true := by kernel_rfl
@[simp] theorem t_fi37_2 : fiOf Tryd.prog 37 2 = some ⟨2, 1, false⟩ := by kernel_rfl
@[simp] theorem t_el34 : elOf Tryd.prog 34 = some 1 := by kernel_rfl
@[simp] theorem t_str34 : isStr Tryd.prog 34 = false := by kernel_rfl
@[simp] theorem t_zero26 : zeroOf Tryd.prog 26 = some (.int .i64 0) := by kernel_rfl
@[simp] theorem t_sz26 : szOf Tryd.prog 26 = some 1 := by kernel_rfl
@[simp] theorem t_agg26 : aggOf Tryd.prog 26 = false := by kernel_rfl
@[simp] theorem t_call29 : callable Tryd.prog 29 = true := by kernel_rfl
@[simp] theorem t_struct65 : isStruct Tryd.prog 65 = true := by kernel_rfl
@[simp] theorem t_sized65 : sized Tryd.prog 65 = true := by kernel_rfl
@[simp] theorem t_zero65 : zeroOf Tryd.prog 65 = some (.agg [.nilsl, (.int .i64 0), (.int .i64 0), (.str []), .nilsl, .nilsl, (.int .i64 0), .nilsl, .nilsl]) := by kernel_rfl
@[simp] theorem t_fi65_0 : fiOf Tryd.prog 65 0 = some ⟨0, 3, true⟩ := by kernel_rfl
@[simp] theorem t_fi65_1 : fiOf Tryd.prog 65 1 = some ⟨3, 5, true⟩ := by kernel_rfl
@[simp] theorem t_call30 : callable Tryd.prog 30 = true := by kernel_rfl
@[simp] theorem t_call32 : callable Tryd.prog 32 = true := by kernel_rfl
@[simp] theorem t_call33 : callable Tryd.prog 33 = true := by kernel_rfl
@[simp] theorem t_call34 : callable Tryd.prog 34 = true := by kernel_rfl
@[simp] theorem t_call35 : callable Tryd.prog 35 = true := by kernel_rfl
@[simp] theorem t_struct40 : isStruct Tryd.prog 40 = true := by kernel_rfl
@[simp] theorem t_sized40 : sized Tryd.prog 40 = true := by kernel_rfl
@[simp] theorem t_zero40 : zeroOf Tryd.prog 40 = some (.agg [(.int .i64 0), (.int .i64 0), (.int .i64 0), (.int .i64 0), (.int .i64 0), (.str [])]) := by kernel_rfl
@[simp] theorem t_ez38 : elZero Tryd.prog 38 = some (.agg [(.int .i64 0), (.int .i64 0), (.int .i64 0), (.int .i64 0), (.int .i64 0), (.str [])]) := by kernel_rfl
@[simp] theorem t_call31 : callable Tryd.prog 31 = true := by kernel_rfl
@[simp] theorem t_call36 : callable Tryd.prog 36 = true := by kernel_rfl
@[simp] theorem t_struct24 : isStruct Tryd.prog 24 = true := by kernel_rfl
@[simp] theorem t_sized24 : sized Tryd.prog 24 = true := by kernel_rfl
@[simp] theorem t_struct72 : isStruct Tryd.prog 72 = true := by kernel_rfl
@[simp] theorem t_sized72 : sized Tryd.prog 72 = true := by kernel_rfl
@[simp] theorem t_zero72 : zeroOf Tryd.prog 72 = some (.agg [.nilsl, .nilsl]) := by kernel_rfl
@[simp] theorem t_fi72_0 : fiOf Tryd.prog 72 0 = some ⟨0, 1, false⟩ := by kernel_rfl
@[simp] theorem t_call37 : callable Tryd.prog 37 = true := by kernel_rfl
@[simp] theorem t_fi72_1 : fiOf Tryd.prog 72 1 = some ⟨1, 1, false⟩ := by kernel_rfl
@[simp] theorem t_call38 : callable Tryd.prog 38 = true := by kernel_rfl
@[simp] theorem t_ez22 : elZero Tryd.prog 22 = some (.agg [(.str []), .nilsl, .nilsl, (.int .i64 0), .nilsl]) := by kernel_rfl
@[simp] theorem t_eb22 : elBytes Tryd.prog 22 = some 96 := by kernel_rfl
@[simp] theorem t_call39 : callable Tryd.prog 39 = true := by kernel_rfl
@[simp] theorem t_struct78 : isStruct Tryd.prog 78 = true := by kernel_rfl
@[simp] theorem t_sized78 : sized Tryd.prog 78 = true := by kernel_rfl
@[simp] theorem t_zero78 : zeroOf Tryd.prog 78 = some (.agg [.nilsl, .nilsl]) := by kernel_rfl
@[simp] theorem t_fi78_0 : fiOf Tryd.prog 78 0 = some ⟨0, 1, false⟩ := by kernel_rfl
@[simp] theorem t_call40 : callable Tryd.prog 40 = true := by kernel_rfl
@[simp] theorem t_fi78_1 : fiOf Tryd.prog 78 1 = some ⟨1, 1, false⟩ := by kernel_rfl
@[simp] theorem t_call41 : callable Tryd.prog 41 = true := by kernel_rfl
@[simp] theorem t_call42 : callable Tryd.prog 42 = true := by kernel_rfl
@[simp] theorem t_call43 : callable Tryd.prog 43 = true := by kernel_rfl
@[simp] theorem t_call44 : callable Tryd.prog 44 = true := by kernel_rfl
@[simp] theorem t_fi61_0 : fiOf Tryd.prog 61 0 = some ⟨0, 1, false⟩ := by kernel_rfl
@[simp] theorem t_struct61 : isStruct Tryd.prog 61 = true := by kernel_rfl
@[simp] theorem t_sized61 : sized Tryd.prog 61 = true := by kernel_rfl
@[simp] theorem t_zero61 : zeroOf Tryd.prog 61 = some (.agg [(.int .i64 0)]) := by kernel_rfl
@[simp] theorem t_if61 : isIface Tryd.prog 61 = some false := by kernel_rfl
@[simp] theorem t_el110 : elOf Tryd.prog 110 = some 1 := by kernel_rfl
@[simp] theorem t_ez110 : elZero Tryd.prog 110 = some .nilsl := by kernel_rfl
@[simp] theorem t_call47 : callable Tryd.prog 47 = true := by kernel_rfl
@[simp] theorem t_fi65_2 : fiOf Tryd.prog 65 2 = some ⟨8, 1, false⟩ := by kernel_rfl
@[simp] theorem t_call48 : callable Tryd.prog 48 = true := by kernel_rfl
@[simp] theorem t_call51 : callable Tryd.prog 51 = true := by kernel_rfl
@[simp] theorem t_call52 : callable Tryd.prog 52 = true := by kernel_rfl
@[simp] theorem t_ez35 : elZero Tryd.prog 35 = some .nilsl := by kernel_rfl
@[simp] theorem t_call53 : callable Tryd.prog 53 = true := by kernel_rfl
@[simp] theorem t_call54 : callable Tryd.prog 54 = true := by kernel_rfl
@[simp] theorem t_sz40 : szOf Tryd.prog 40 = some 6 := by kernel_rfl
@[simp] theorem t_agg40 : aggOf Tryd.prog 40 = true := by kernel_rfl
@[simp] theorem t_fi40_1 : fiOf Tryd.prog 40 1 = some ⟨1, 1, false⟩ := by kernel_rfl
@[simp] theorem t_fi40_2 : fiOf Tryd.prog 40 2 = some ⟨2, 1, false⟩ := by kernel_rfl
@[simp] theorem t_call55 : callable Tryd.prog 55 = true := by kernel_rfl
@[simp] theorem t_call56 : callable Tryd.prog 56 = true := by kernel_rfl
@[simp] theorem t_call57 : callable Tryd.prog 57 = true := by kernel_rfl
@[simp] theorem t_eb38 : elBytes Tryd.prog 38 = some 56 := by kernel_rfl
@[simp] theorem t_call58 : callable Tryd.prog 58 = true := by kernel_rfl
@[simp] theorem t_eb35 : elBytes Tryd.prog 35 = some 24 := by kernel_rfl
@[simp] theorem t_und34 : Tryd.prog.underlying 34 = some (.slice 3) := by kernel_rfl
@[simp] theorem t_ez34 : elZero Tryd.prog 34 = some (.int .i64 0) := by kernel_rfl
@[simp] theorem t_eb34 : elBytes Tryd.prog 34 = some 8 := by kernel_rfl
@[simp] theorem t_call59 : callable Tryd.prog 59 = true := by kernel_rfl
@[simp] theorem t_call60 : callable Tryd.prog 60 = true := by kernel_rfl
@[simp] theorem t_call61 : callable Tryd.prog 61 = true := by kernel_rfl
@[simp] theorem t_call62 : callable Tryd.prog 62 = true := by kernel_rfl
@[simp] theorem t_call63 : callable Tryd.prog 63 = true := by kernel_rfl
@[simp] theorem t_call64 : callable Tryd.prog 64 = true := by kernel_rfl
@[simp] theorem t_call65 : callable Tryd.prog 65 = true := by kernel_rfl
@[simp] theorem t_str110 : isStr Tryd.prog 110 = false := by kernel_rfl
@[simp] theorem t_if9 : isIface Tryd.prog 9 = some false := by kernel_rfl
@[simp] theorem t_call69 : callable Tryd.prog 69 = true := by kernel_rfl
@[simp] theorem t_call70 : callable Tryd.prog 70 = true := by kernel_rfl
@[simp] theorem t_call50 : callable Tryd.prog 50 = true := by kernel_rfl
@[simp] theorem t_el113 : elOf Tryd.prog 113 = some 1 := by kernel_rfl
@[simp] theorem t_ez113 : elZero Tryd.prog 113 = some (.bool false) := by kernel_rfl
@[simp] theorem t_eb113 : elBytes Tryd.prog 113 = some 1 := by kernel_rfl
@[simp] theorem t_call71 : callable Tryd.prog 71 = true := by kernel_rfl
@[simp] theorem t_str113 : isStr Tryd.prog 113 = false := by kernel_rfl
@[simp] theorem t_sz4 : szOf Tryd.prog 4 = some 1 := by kernel_rfl
@[simp] theorem t_agg4 : aggOf Tryd.prog 4 = false := by kernel_rfl
@[simp] theorem t_call72 : callable Tryd.prog 72 = true := by kernel_rfl
@[simp] theorem t_struct118 : isStruct Tryd.prog 118 = true := by kernel_rfl
@[simp] theorem t_sized118 : sized Tryd.prog 118 = true := by kernel_rfl
@[simp] theorem t_zero118 : zeroOf Tryd.prog 118 = some (.agg [.nilp, .nilsl, (.bool false), (.int .i64 0)]) := by kernel_rfl
@[simp] theorem t_fi118_0 : fiOf Tryd.prog 118 0 = some ⟨0, 1, false⟩ := by kernel_rfl
@[simp] theorem t_fi118_3 : fiOf Tryd.prog 118 3 = some ⟨3, 1, false⟩ := by kernel_rfl
@[simp] theorem t_call73 : callable Tryd.prog 73 = true := by kernel_rfl
@[simp] theorem t_call74 : callable Tryd.prog 74 = true := by kernel_rfl
@[simp] theorem t_fi118_1 : fiOf Tryd.prog 118 1 = some ⟨1, 1, false⟩ := by kernel_rfl
@[simp] theorem t_struct37 : isStruct Tryd.prog 37 = true := by kernel_rfl
@[simp] theorem t_sized37 : sized Tryd.prog 37 = true := by kernel_rfl
@[simp] theorem t_und40 : Tryd.prog.underlying 40 = some (.struct #[⟨ "Op", 3, 0, false, "", "", 0⟩, ⟨ "Type", 3, 1, false, "", "", 8⟩, ⟨ "N", 3, 2, false, "", "", 16⟩, ⟨ "Body", 3, 3, false, "", "", 24⟩, ⟨ "Other", 3, 4, false, "", "", 32⟩, ⟨ "S", 9, 5, false, "", "", 40⟩]) := by kernel_rfl
@[simp] theorem t_held40 : Tryd.prog.stoodInHeld 40 = false := by kernel_rfl
@[simp] theorem t_guard40 : Tryd.prog.eqGuardType Tryd.prog.depth 40 = false := by kernel_rfl
@[simp] theorem t_call75 : callable Tryd.prog 75 = true := by kernel_rfl
@[simp] theorem t_call76 : callable Tryd.prog 76 = true := by kernel_rfl
@[simp] theorem t_struct122 : isStruct Tryd.prog 122 = true := by kernel_rfl
@[simp] theorem t_sized122 : sized Tryd.prog 122 = true := by kernel_rfl
@[simp] theorem t_zero122 : zeroOf Tryd.prog 122 = some (.agg [(.int .i64 0), (.int .i64 0)]) := by kernel_rfl
@[simp] theorem t_fi122_0 : fiOf Tryd.prog 122 0 = some ⟨0, 1, false⟩ := by kernel_rfl
@[simp] theorem t_fi122_1 : fiOf Tryd.prog 122 1 = some ⟨1, 1, false⟩ := by kernel_rfl
@[simp] theorem t_und122 : Tryd.prog.underlying 122 = some (.struct #[⟨ "first", 3, 0, false, "", "mortise/peep", 0⟩, ⟨ "second", 3, 1, false, "", "mortise/peep", 8⟩]) := by kernel_rfl
@[simp] theorem t_held122 : Tryd.prog.stoodInHeld 122 = false := by kernel_rfl
@[simp] theorem t_guard122 : Tryd.prog.eqGuardType Tryd.prog.depth 122 = false := by kernel_rfl
@[simp] theorem t_call77 : callable Tryd.prog 77 = true := by kernel_rfl
@[simp] theorem t_fi40_3 : fiOf Tryd.prog 40 3 = some ⟨3, 1, false⟩ := by kernel_rfl
@[simp] theorem t_fi40_4 : fiOf Tryd.prog 40 4 = some ⟨4, 1, false⟩ := by kernel_rfl
@[simp] theorem t_call78 : callable Tryd.prog 78 = true := by kernel_rfl
@[simp] theorem t_call79 : callable Tryd.prog 79 = true := by kernel_rfl
@[simp] theorem t_call80 : callable Tryd.prog 80 = true := by kernel_rfl
@[simp] theorem t_call81 : callable Tryd.prog 81 = true := by kernel_rfl
@[simp] theorem t_str3 : isStr Tryd.prog 3 = false := by kernel_rfl
@[simp] theorem t_int3 : intOf? Tryd.prog 3 = some .i64 := by kernel_rfl
@[simp] theorem t_call85 : callable Tryd.prog 85 = true := by kernel_rfl
@[simp] theorem t_call86 : callable Tryd.prog 86 = true := by kernel_rfl
@[simp] theorem t_call87 : callable Tryd.prog 87 = true := by kernel_rfl
@[simp] theorem t_sz63 : szOf Tryd.prog 63 = some 1 := by kernel_rfl
@[simp] theorem t_agg63 : aggOf Tryd.prog 63 = false := by kernel_rfl
@[simp] theorem t_call88 : callable Tryd.prog 88 = true := by kernel_rfl
@[simp] theorem t_call89 : callable Tryd.prog 89 = true := by kernel_rfl
@[simp] theorem t_call90 : callable Tryd.prog 90 = true := by kernel_rfl
@[simp] theorem t_call91 : callable Tryd.prog 91 = true := by kernel_rfl
@[simp] theorem t_und4 : Tryd.prog.underlying 4 = some .bool := by kernel_rfl
@[simp] theorem t_fi40_5 : fiOf Tryd.prog 40 5 = some ⟨5, 1, false⟩ := by kernel_rfl
@[simp] theorem t_call94 : callable Tryd.prog 94 = true := by kernel_rfl
@[simp] theorem t_call99 : callable Tryd.prog 99 = true := by kernel_rfl
@[simp] theorem t_call95 : callable Tryd.prog 95 = true := by kernel_rfl
@[simp] theorem t_call100 : callable Tryd.prog 100 = true := by kernel_rfl
@[simp] theorem t_zero139 : zeroOf Tryd.prog 139 = some (.agg [.nilsl, (.int .i64 0)]) := by kernel_rfl
@[simp] theorem t_sz139 : szOf Tryd.prog 139 = some 2 := by kernel_rfl
@[simp] theorem t_agg139 : aggOf Tryd.prog 139 = true := by kernel_rfl
@[simp] theorem t_call101 : callable Tryd.prog 101 = true := by kernel_rfl
@[simp] theorem t_sz116 : szOf Tryd.prog 116 = some 1 := by kernel_rfl
@[simp] theorem t_agg116 : aggOf Tryd.prog 116 = false := by kernel_rfl
@[simp] theorem t_call102 : callable Tryd.prog 102 = true := by kernel_rfl
@[simp] theorem t_fi118_2 : fiOf Tryd.prog 118 2 = some ⟨2, 1, false⟩ := by kernel_rfl
@[simp] theorem t_call103 : callable Tryd.prog 103 = true := by kernel_rfl
@[simp] theorem t_fi139_0 : fiOf Tryd.prog 139 0 = some ⟨0, 1, false⟩ := by kernel_rfl
@[simp] theorem t_fi139_1 : fiOf Tryd.prog 139 1 = some ⟨1, 1, false⟩ := by kernel_rfl
@[simp] theorem t_sz149 : szOf Tryd.prog 149 = some 32 := by kernel_rfl
@[simp] theorem t_agg149 : aggOf Tryd.prog 149 = true := by kernel_rfl
@[simp] theorem t_ar149 : arOf Tryd.prog 149 = some (16, 2, true) := by kernel_rfl
@[simp] theorem t_str149 : isStr Tryd.prog 149 = false := by kernel_rfl
@[simp] theorem t_zero148 : zeroOf Tryd.prog 148 = some (.agg [(.str []), (.str [])]) := by kernel_rfl
@[simp] theorem t_sz148 : szOf Tryd.prog 148 = some 2 := by kernel_rfl
@[simp] theorem t_agg148 : aggOf Tryd.prog 148 = true := by kernel_rfl
@[simp] theorem t_ar148 : arOf Tryd.prog 148 = some (2, 1, false) := by kernel_rfl
@[simp] theorem t_str148 : isStr Tryd.prog 148 = false := by kernel_rfl
@[simp] theorem t_str53 : isStr Tryd.prog 53 = false := by kernel_rfl
@[simp] theorem t_u8_3 : isU8 Tryd.prog 3 = false := by kernel_rfl
@[simp] theorem t_u8_53 : isU8 Tryd.prog 53 = false := by kernel_rfl
@[simp] theorem t_int53 : intOf? Tryd.prog 53 = some .i8 := by kernel_rfl
@[simp] theorem t_some3 : (Tryd.prog.underlying 3).isSome = true := by kernel_rfl
@[simp] theorem t_some53 : (Tryd.prog.underlying 53).isSome = true := by kernel_rfl
@[simp] theorem t_str21 : isStr Tryd.prog 21 = false := by kernel_rfl
@[simp] theorem t_u8_21 : isU8 Tryd.prog 21 = false := by kernel_rfl
@[simp] theorem t_int21 : intOf? Tryd.prog 21 = some .i32 := by kernel_rfl
@[simp] theorem t_some21 : (Tryd.prog.underlying 21).isSome = true := by kernel_rfl
@[simp] theorem t_struct139 : isStruct Tryd.prog 139 = true := by kernel_rfl
@[simp] theorem t_sized139 : sized Tryd.prog 139 = true := by kernel_rfl
@[simp] theorem t_call107 : callable Tryd.prog 107 = true := by kernel_rfl

end Go.Proofs.YthifgodgfhbnfaaDoor
