/- The planned texts of the functions, and facts on the program's types; written by a program; no condition. -/
import Derived.Test.YtmbibfeiemblkaaDoorChecked
import Derived.Test.YtmbibfeiemblkaaDoorAbs27
import Derived.KernelRfl
set_option maxRecDepth 100000
namespace Go.Proofs.YtmbibfeiemblkaaDoor
open Go Go.Abs

theorem mixed : Tryd.prog.follows .mixedOrders = true := by kernel_rfl

/- mortise/mortiselaw26.LinesShown -/
def pc3_l1 : PC :=
  (.seq (.seq (.ops [⟨some 59, .move (.tmp 10), none, []⟩,
    ⟨some 60, .move (.tmp 9), none, []⟩,
    ⟨some 61, .call ⟨.builtin .len, #[(.tmp 60)], #[9]⟩, none, []⟩,
    ⟨some 62, .binOp .lss 3 (.tmp 59) (.tmp 61) 3, none, []⟩])
  (.cond (.tmp 62)
    .skip
    (.exit 0)))
  (.seq (.block 1
   (.seq (.ops [⟨some 65, .move (.tmp 9), none, []⟩,
     ⟨some 66, .move (.tmp 10), none, []⟩,
     ⟨some 67, .index 9 (.tmp 65) (.tmp 66), none, []⟩,
     ⟨some 68, .binOp .eql 5 (.tmp 67) (.const (.int .u8 94)) 5, none, []⟩,
     ⟨some 69, .move (.tmp 10), none, []⟩,
     ⟨some 70, .move (.tmp 7), none, []⟩,
     ⟨some 71, .binOp .sub 3 (.tmp 70) (.const (.int .i64 1)) 3, none, []⟩,
     ⟨some 72, .binOp .eql 3 (.tmp 69) (.tmp 71) 3, none, []⟩,
     ⟨some 73, .binOp .neq 4 (.tmp 68) (.tmp 72) 4, none, []⟩,
     ⟨some 74, .move (.tmp 73), none, []⟩,
     ⟨some 75, .move (.tmp 9), (some (74, false)), []⟩,
     ⟨some 76, .move (.tmp 10), (some (74, false)), []⟩,
     ⟨some 77, .index 9 (.tmp 75) (.tmp 76), (some (74, false)), []⟩,
     ⟨some 78, .binOp .neq 5 (.tmp 77) (.const (.int .u8 94)) 5, (some (74, false)), []⟩,
     ⟨some 79, .move (.tmp 78), (some (74, false)), []⟩,
     ⟨some 80, .move (.tmp 9), (some (79, true)), []⟩,
     ⟨some 81, .move (.tmp 10), (some (79, true)), []⟩,
     ⟨some 82, .index 9 (.tmp 80) (.tmp 81), (some (79, true)), []⟩,
     ⟨some 83, .binOp .neq 5 (.tmp 82) (.const (.int .u8 32)) 5, (some (79, true)), []⟩,
     ⟨some 84, .pick (.tmp 79) (.tmp 83) (.const (.bool false)), (some (74, false)), []⟩,
     ⟨some 85, .pick (.tmp 74) (.const (.bool true)) (.tmp 84), none, []⟩])
   (.cond (.tmp 85)
     (.seq (.ops [⟨some 4, .assign (.const (.bool false)), none, []⟩])
     .ret)
     .skip)))
  (.ops [⟨some 63, .move (.tmp 10), none, []⟩,
    ⟨some 64, .binOp .add 3 (.tmp 63) (.const (.int .i64 1)) 3, none, []⟩,
    ⟨some 10, .assign (.tmp 64), none, []⟩])))
def pc3_l2 : PC :=
  (.seq (.seq (.ops [⟨some 86, .move (.tmp 11), none, []⟩,
    ⟨some 87, .move (.tmp 5), none, []⟩,
    ⟨some 88, .call ⟨.builtin .len, #[(.tmp 87)], #[9]⟩, none, []⟩,
    ⟨some 89, .binOp .lss 3 (.tmp 86) (.tmp 88) 3, none, []⟩])
  (.cond (.tmp 89)
    .skip
    (.exit 2)))
  (.seq (.block 3
   (.seq (.ops [⟨some 92, .move (.tmp 5), none, []⟩,
     ⟨some 93, .move (.tmp 11), none, []⟩,
     ⟨some 94, .index 9 (.tmp 92) (.tmp 93), none, []⟩,
     ⟨some 95, .binOp .neq 5 (.tmp 94) (.const (.int .u8 10)) 5, none, []⟩,
     ⟨some 96, .move (.tmp 95), none, []⟩,
     ⟨some 97, .move (.tmp 5), (some (96, true)), []⟩,
     ⟨some 98, .move (.tmp 11), (some (96, true)), []⟩,
     ⟨some 99, .index 9 (.tmp 97) (.tmp 98), (some (96, true)), []⟩,
     ⟨some 100, .binOp .lss 5 (.tmp 99) (.const (.int .u8 32)) 5, (some (96, true)), []⟩,
     ⟨some 101, .move (.tmp 100), (some (96, true)), []⟩,
     ⟨some 102, .move (.tmp 5), (some (101, false)), []⟩,
     ⟨some 103, .move (.tmp 11), (some (101, false)), []⟩,
     ⟨some 104, .index 9 (.tmp 102) (.tmp 103), (some (101, false)), []⟩,
     ⟨some 105, .binOp .gtr 5 (.tmp 104) (.const (.int .u8 126)) 5, (some (101, false)), []⟩,
     ⟨some 106, .pick (.tmp 101) (.const (.bool true)) (.tmp 105), (some (96, true)), []⟩,
     ⟨some 107, .pick (.tmp 96) (.tmp 106) (.const (.bool false)), none, []⟩])
   (.cond (.tmp 107)
     (.seq (.ops [⟨some 4, .assign (.const (.bool false)), none, []⟩])
     .ret)
     .skip)))
  (.ops [⟨some 90, .move (.tmp 11), none, []⟩,
    ⟨some 91, .binOp .add 3 (.tmp 90) (.const (.int .i64 1)) 3, none, []⟩,
    ⟨some 11, .assign (.tmp 91), none, []⟩])))
def pc3_r1 : PC :=
  (.seq (.ops [⟨some 108, .call ⟨.value (.func 7), #[], #[]⟩, none, []⟩,
    ⟨some 4, .assign (.tmp 108), none, []⟩])
  .ret)
def pc3_r2 : PC :=
  (.seq (.seq (.ops [⟨some 11, .assign (.const (.int .i64 0)), none, []⟩])
  (.block 2
   (.loop pc3_l2)))
  pc3_r1)
def pc3 : PC :=
  (.seq (.ops [⟨some 3, .box 24 (.tmp 1), none, []⟩,
    ⟨some 4, .assign (.const (.bool false)), none, []⟩])
  (.seq (.seq (.ops [⟨some 12, .move (.tmp 0), none, []⟩,
    ⟨some 13, .call ⟨.builtin .len, #[(.tmp 12)], #[9]⟩, none, []⟩,
    ⟨some 14, .binOp .gtr 3 (.tmp 13) (.const (.int .i64 1024)) 3, none, []⟩])
  (.cond (.tmp 14)
    (.seq (.ops [⟨some 15, .call ⟨.value (.func 7), #[], #[]⟩, none, []⟩,
      ⟨some 4, .assign (.tmp 15), none, []⟩])
    .ret)
    .skip))
  (.seq (.ops [⟨some 16, .move (.tmp 0), none, []⟩,
    ⟨some 17, .load 24 (.tmp 3), none, []⟩,
    ⟨some 18, .call ⟨.value (.func 8), #[(.tmp 16), (.tmp 17)], #[9, 24]⟩, none, []⟩,
    ⟨some 5, .assign (.tmp 18), none, []⟩])
  (.seq (.ops [⟨some 20, .move (.tmp 0), none, []⟩,
    ⟨some 21, .fieldAddr 24 (.tmp 3) 1, none, []⟩,
    ⟨some 22, .load 3 (.tmp 21), none, []⟩,
    ⟨some 23, .call ⟨.value (.func 9), #[(.tmp 20), (.tmp 22)], #[9, 3]⟩, none, []⟩,
    ⟨some 19, .move (.tmp 23), none, []⟩,
    ⟨some 24, .extract (.tmp 19) 0, none, []⟩,
    ⟨some 25, .extract (.tmp 19) 1, none, []⟩,
    ⟨some 6, .assign (.tmp 24), none, []⟩,
    ⟨some 7, .assign (.tmp 25), none, []⟩])
  (.seq (.ops [⟨some 26, .move (.tmp 5), none, []⟩,
    ⟨some 27, .call ⟨.value (.func 10), #[(.tmp 26)], #[9]⟩, none, []⟩,
    ⟨some 8, .assign (.tmp 27), none, []⟩])
  (.seq (.seq (.ops [⟨some 28, .move (.tmp 8), none, []⟩,
    ⟨some 29, .binOp .eql 29 (.tmp 28) (.const (.pointer none)) 29, none, []⟩,
    ⟨some 30, .move (.tmp 29), none, []⟩,
    ⟨some 31, .move (.tmp 8), (some (30, false)), []⟩,
    ⟨some 32, .call ⟨.value (.func 11), #[(.tmp 31)], #[29]⟩, (some (30, false)), []⟩,
    ⟨some 33, .binOp .neq 3 (.tmp 32) (.const (.int .i64 4)) 3, (some (30, false)), []⟩,
    ⟨some 34, .pick (.tmp 30) (.const (.bool true)) (.tmp 33), none, []⟩,
    ⟨some 35, .move (.tmp 34), none, []⟩,
    ⟨some 36, .move (.tmp 5), (some (35, false)), []⟩,
    ⟨some 37, .call ⟨.value (.func 12), #[(.tmp 36), (.const (.int .i64 4))], #[9, 3]⟩, (some (35, false)), []⟩,
    ⟨some 38, .binOp .neq 9 (.tmp 37) (.const (.string ⟨#[]⟩)) 9, (some (35, false)), []⟩,
    ⟨some 39, .pick (.tmp 35) (.const (.bool true)) (.tmp 38), none, []⟩,
    ⟨some 40, .move (.tmp 39), none, []⟩,
    ⟨some 41, .move (.tmp 5), (some (40, false)), []⟩,
    ⟨some 42, .call ⟨.value (.func 12), #[(.tmp 41), (.const (.int .i64 2))], #[9, 3]⟩, (some (40, false)), []⟩,
    ⟨some 43, .call ⟨.builtin .len, #[(.tmp 42)], #[9]⟩, (some (40, false)), []⟩,
    ⟨some 44, .move (.tmp 0), (some (40, false)), []⟩,
    ⟨some 45, .move (.tmp 6), (some (40, false)), []⟩,
    ⟨some 46, .call ⟨.value (.func 12), #[(.tmp 44), (.tmp 45)], #[9, 3]⟩, (some (40, false)), []⟩,
    ⟨some 47, .call ⟨.builtin .len, #[(.tmp 46)], #[9]⟩, (some (40, false)), []⟩,
    ⟨some 48, .binOp .neq 3 (.tmp 43) (.tmp 47) 3, (some (40, false)), []⟩,
    ⟨some 49, .pick (.tmp 40) (.const (.bool true)) (.tmp 48), none, []⟩,
    ⟨some 50, .move (.tmp 49), none, []⟩,
    ⟨some 51, .move (.tmp 5), (some (50, false)), []⟩,
    ⟨some 52, .call ⟨.value (.func 12), #[(.tmp 51), (.const (.int .i64 3))], #[9, 3]⟩, (some (50, false)), []⟩,
    ⟨some 53, .call ⟨.builtin .len, #[(.tmp 52)], #[9]⟩, (some (50, false)), []⟩,
    ⟨some 54, .move (.tmp 7), (some (50, false)), []⟩,
    ⟨some 55, .binOp .neq 3 (.tmp 53) (.tmp 54) 3, (some (50, false)), []⟩,
    ⟨some 56, .pick (.tmp 50) (.const (.bool true)) (.tmp 55), none, []⟩])
  (.cond (.tmp 56)
    (.seq (.ops [⟨some 4, .assign (.const (.bool false)), none, []⟩])
    .ret)
    .skip))
  (.seq (.ops [⟨some 57, .move (.tmp 5), none, []⟩,
    ⟨some 58, .call ⟨.value (.func 12), #[(.tmp 57), (.const (.int .i64 3))], #[9, 3]⟩, none, []⟩,
    ⟨some 9, .assign (.tmp 58), none, []⟩])
  (.seq (.seq (.ops [⟨some 10, .assign (.const (.int .i64 0)), none, []⟩])
  (.block 0
   (.loop pc3_l1)))
  pc3_r2))))))))
theorem plan3 : Tryd.f3.body.bind (plan Tryd.f3.ntmps) = some pc3 := by kernel_rfl
theorem calls3 {G : Env} {args : List AV} {σ : AS} {R : Out → AS → Prop} (hn : args.length = 2) (h : avc Tryd.prog G 109 pc3 (afin Tryd.prog [.tmp 4] R) (frame0 args) σ) : ACalls Tryd.prog G 3 args σ R :=
  acalls' (n := 109) (l := [.tmp 4]) mixed Tryd.func3 (by kernel_rfl) (by kernel_rfl) plan3 (by omega) h

/- mortise/mortiselaw26.LinesTell -/
def pc4 : PC :=
  (.seq (.ops [⟨some 1, .box 35 (.tmp 0), none, []⟩,
    ⟨some 2, .assign (.const (.bool false)), none, []⟩])
  (.seq (.ops [⟨some 18, .fieldAddr 35 (.tmp 1) 0, none, []⟩,
    ⟨some 19, .load 9 (.tmp 18), none, []⟩,
    ⟨some 20, .fieldAddr 35 (.tmp 1) 1, none, []⟩,
    ⟨some 21, .load 24 (.tmp 20), none, []⟩,
    ⟨some 22, .fieldAddr 35 (.tmp 1) 2, none, []⟩,
    ⟨some 23, .load 3 (.tmp 22), none, []⟩,
    ⟨some 24, .fieldAddr 35 (.tmp 1) 3, none, []⟩,
    ⟨some 25, .load 3 (.tmp 24), none, []⟩,
    ⟨some 4, .alloc 24, none, [⟨none, 9, (.tmp 18), 19⟩, ⟨none, 24, (.tmp 20), 21⟩, ⟨none, 3, (.tmp 22), 23⟩, ⟨none, 3, (.tmp 24), 25⟩]⟩,
    ⟨some 3, .assign (.tmp 19), none, []⟩,
    ⟨none, .store 24 (.tmp 4) (.tmp 21), none, [⟨none, 3, (.tmp 22), 23⟩, ⟨none, 3, (.tmp 24), 25⟩]⟩,
    ⟨some 5, .assign (.tmp 23), none, []⟩,
    ⟨some 6, .assign (.tmp 25), none, []⟩])
  (.seq (.seq (.ops [⟨some 26, .move (.tmp 3), none, []⟩,
    ⟨some 27, .call ⟨.builtin .len, #[(.tmp 26)], #[9]⟩, none, []⟩,
    ⟨some 28, .binOp .gtr 3 (.tmp 27) (.const (.int .i64 1024)) 3, none, []⟩])
  (.cond (.tmp 28)
    (.seq (.ops [⟨some 29, .call ⟨.value (.func 7), #[], #[]⟩, none, []⟩,
      ⟨some 2, .assign (.tmp 29), none, []⟩])
    .ret)
    .skip))
  (.seq (.ops [⟨some 31, .move (.tmp 3), none, []⟩,
    ⟨some 32, .fieldAddr 24 (.tmp 4) 1, none, []⟩,
    ⟨some 33, .load 3 (.tmp 32), none, []⟩,
    ⟨some 34, .call ⟨.value (.func 9), #[(.tmp 31), (.tmp 33)], #[9, 3]⟩, none, []⟩,
    ⟨some 30, .move (.tmp 34), none, []⟩,
    ⟨some 35, .extract (.tmp 30) 0, none, []⟩,
    ⟨some 36, .extract (.tmp 30) 1, none, []⟩,
    ⟨some 7, .assign (.tmp 35), none, []⟩,
    ⟨some 8, .assign (.tmp 36), none, []⟩])
  (.seq (.ops [⟨some 38, .move (.tmp 3), none, []⟩,
    ⟨some 39, .fieldAddr 24 (.tmp 4) 1, none, []⟩,
    ⟨some 40, .load 3 (.tmp 39), none, []⟩,
    ⟨some 41, .call ⟨.value (.func 13), #[(.tmp 38), (.tmp 40)], #[9, 3]⟩, none, []⟩,
    ⟨some 37, .move (.tmp 41), none, []⟩,
    ⟨some 42, .extract (.tmp 37) 0, none, []⟩,
    ⟨some 43, .extract (.tmp 37) 1, none, []⟩,
    ⟨some 9, .assign (.tmp 42), none, []⟩,
    ⟨some 10, .assign (.tmp 43), none, []⟩])
  (.seq (.ops [⟨some 45, .move (.tmp 3), none, []⟩,
    ⟨some 46, .move (.tmp 5), none, []⟩,
    ⟨some 47, .move (.tmp 6), none, []⟩,
    ⟨some 48, .call ⟨.value (.func 14), #[(.tmp 45), (.tmp 46), (.tmp 47)], #[9, 3, 3]⟩, none, []⟩,
    ⟨some 44, .move (.tmp 48), none, []⟩,
    ⟨some 49, .extract (.tmp 44) 0, none, []⟩,
    ⟨some 50, .extract (.tmp 44) 1, none, []⟩,
    ⟨some 11, .assign (.tmp 49), none, []⟩,
    ⟨some 12, .assign (.tmp 50), none, []⟩])
  (.seq (.ops [⟨some 52, .move (.tmp 3), none, []⟩,
    ⟨some 53, .move (.tmp 5), none, []⟩,
    ⟨some 54, .move (.tmp 6), none, []⟩,
    ⟨some 55, .call ⟨.value (.func 15), #[(.tmp 52), (.tmp 53), (.tmp 54)], #[9, 3, 3]⟩, none, []⟩,
    ⟨some 51, .move (.tmp 55), none, []⟩,
    ⟨some 56, .extract (.tmp 51) 0, none, []⟩,
    ⟨some 57, .extract (.tmp 51) 1, none, []⟩,
    ⟨some 13, .assign (.tmp 56), none, []⟩,
    ⟨some 14, .assign (.tmp 57), none, []⟩])
  (.seq (.ops [⟨some 58, .move (.tmp 3), none, []⟩,
    ⟨some 59, .call ⟨.value (.func 10), #[(.tmp 58)], #[9]⟩, none, []⟩,
    ⟨some 15, .assign (.tmp 59), none, []⟩])
  (.seq (.seq (.ops [⟨some 60, .move (.tmp 15), none, []⟩,
    ⟨some 61, .binOp .eql 29 (.tmp 60) (.const (.pointer none)) 29, none, []⟩,
    ⟨some 62, .move (.tmp 61), none, []⟩,
    ⟨some 63, .move (.tmp 7), (some (62, false)), []⟩,
    ⟨some 64, .move (.tmp 9), (some (62, false)), []⟩,
    ⟨some 65, .binOp .neq 3 (.tmp 63) (.tmp 64) 3, (some (62, false)), []⟩,
    ⟨some 66, .pick (.tmp 62) (.const (.bool true)) (.tmp 65), none, []⟩,
    ⟨some 67, .move (.tmp 66), none, []⟩,
    ⟨some 68, .move (.tmp 8), (some (67, false)), []⟩,
    ⟨some 69, .move (.tmp 10), (some (67, false)), []⟩,
    ⟨some 70, .binOp .neq 3 (.tmp 68) (.tmp 69) 3, (some (67, false)), []⟩,
    ⟨some 71, .pick (.tmp 67) (.const (.bool true)) (.tmp 70), none, []⟩,
    ⟨some 72, .move (.tmp 71), none, []⟩,
    ⟨some 73, .move (.tmp 11), (some (72, false)), []⟩,
    ⟨some 74, .move (.tmp 13), (some (72, false)), []⟩,
    ⟨some 75, .binOp .neq 3 (.tmp 73) (.tmp 74) 3, (some (72, false)), []⟩,
    ⟨some 76, .pick (.tmp 72) (.const (.bool true)) (.tmp 75), none, []⟩,
    ⟨some 77, .move (.tmp 76), none, []⟩,
    ⟨some 78, .move (.tmp 12), (some (77, false)), []⟩,
    ⟨some 79, .move (.tmp 14), (some (77, false)), []⟩,
    ⟨some 80, .binOp .neq 4 (.tmp 78) (.tmp 79) 4, (some (77, false)), []⟩,
    ⟨some 81, .pick (.tmp 77) (.const (.bool true)) (.tmp 80), none, []⟩])
  (.cond (.tmp 81)
    (.seq (.ops [⟨some 2, .assign (.const (.bool false)), none, []⟩])
    .ret)
    .skip))
  (.seq (.ops [⟨some 83, .move (.tmp 15), none, []⟩,
    ⟨some 84, .fieldAddr 24 (.tmp 4) 1, none, []⟩,
    ⟨some 85, .load 3 (.tmp 84), none, []⟩,
    ⟨some 86, .call ⟨.value (.func 16), #[(.tmp 83), (.tmp 85)], #[29, 3]⟩, none, []⟩,
    ⟨some 82, .move (.tmp 86), none, []⟩,
    ⟨some 87, .extract (.tmp 82) 0, none, []⟩,
    ⟨some 88, .extract (.tmp 82) 1, none, []⟩,
    ⟨some 16, .assign (.tmp 87), none, []⟩,
    ⟨some 17, .assign (.tmp 88), none, []⟩])
  (.seq (.ops [⟨some 89, .move (.tmp 16), none, []⟩,
    ⟨some 90, .move (.tmp 9), none, []⟩,
    ⟨some 91, .binOp .eql 3 (.tmp 89) (.tmp 90) 3, none, []⟩,
    ⟨some 92, .move (.tmp 91), none, []⟩,
    ⟨some 93, .move (.tmp 17), (some (92, true)), []⟩,
    ⟨some 94, .move (.tmp 10), (some (92, true)), []⟩,
    ⟨some 95, .binOp .eql 3 (.tmp 93) (.tmp 94) 3, (some (92, true)), []⟩,
    ⟨some 96, .pick (.tmp 92) (.tmp 95) (.const (.bool false)), none, []⟩,
    ⟨some 97, .move (.tmp 96), none, []⟩,
    ⟨some 98, .move (.tmp 15), (some (97, true)), []⟩,
    ⟨some 100, .move (.tmp 3), (some (97, true)), []⟩,
    ⟨some 99, .call ⟨.value (.func 11), #[(.tmp 98)], #[29]⟩, (some (97, true)), []⟩,
    ⟨some 101, .call ⟨.value (.func 17), #[(.tmp 100)], #[9]⟩, (some (97, true)), []⟩,
    ⟨some 102, .call ⟨.builtin .len, #[(.tmp 101)], #[39]⟩, (some (97, true)), []⟩,
    ⟨some 103, .binOp .eql 3 (.tmp 99) (.tmp 102) 3, (some (97, true)), []⟩,
    ⟨some 104, .pick (.tmp 97) (.tmp 103) (.const (.bool false)), none, []⟩,
    ⟨some 105, .move (.tmp 104), none, []⟩,
    ⟨some 106, .move (.tmp 3), (some (105, true)), []⟩,
    ⟨some 107, .move (.tmp 5), (some (105, true)), []⟩,
    ⟨some 109, .move (.tmp 3), (some (105, true)), []⟩,
    ⟨some 110, .move (.tmp 5), (some (105, true)), []⟩,
    ⟨some 108, .call ⟨.value (.func 12), #[(.tmp 106), (.tmp 107)], #[9, 3]⟩, (some (105, true)), []⟩,
    ⟨some 111, .call ⟨.value (.func 18), #[(.tmp 109), (.tmp 110)], #[9, 3]⟩, (some (105, true)), []⟩,
    ⟨some 112, .binOp .eql 9 (.tmp 108) (.tmp 111) 9, (some (105, true)), []⟩,
    ⟨some 113, .pick (.tmp 105) (.tmp 112) (.const (.bool false)), none, []⟩,
    ⟨some 114, .move (.tmp 113), none, []⟩,
    ⟨some 115, .fieldAddr 24 (.tmp 4) 0, (some (114, true)), []⟩,
    ⟨some 116, .load 22 (.tmp 115), (some (114, true)), []⟩,
    ⟨some 118, .fieldAddr 24 (.tmp 4) 0, (some (114, true)), []⟩,
    ⟨some 119, .load 22 (.tmp 118), (some (114, true)), []⟩,
    ⟨some 117, .call ⟨.value (.func 19), #[(.tmp 116)], #[22]⟩, (some (114, true)), [⟨(some (114, true)), 22, (.tmp 118), 119⟩]⟩,
    ⟨some 120, .call ⟨.value (.func 20), #[(.tmp 119)], #[22]⟩, (some (114, true)), []⟩,
    ⟨some 121, .binOp .eql 9 (.tmp 117) (.tmp 120) 9, (some (114, true)), []⟩,
    ⟨some 122, .pick (.tmp 114) (.tmp 121) (.const (.bool false)), none, []⟩,
    ⟨some 123, .move (.tmp 122), none, []⟩,
    ⟨some 124, .move (.tmp 3), (some (123, true)), []⟩,
    ⟨some 125, .load 24 (.tmp 4), (some (123, true)), []⟩,
    ⟨some 127, .move (.tmp 3), (some (123, true)), []⟩,
    ⟨some 128, .load 24 (.tmp 4), (some (123, true)), []⟩,
    ⟨some 126, .call ⟨.value (.func 8), #[(.tmp 124), (.tmp 125)], #[9, 24]⟩, (some (123, true)), [⟨(some (123, true)), 24, (.tmp 4), 128⟩]⟩,
    ⟨some 129, .call ⟨.value (.func 21), #[(.tmp 127), (.tmp 128)], #[9, 24]⟩, (some (123, true)), []⟩,
    ⟨some 130, .binOp .eql 9 (.tmp 126) (.tmp 129) 9, (some (123, true)), []⟩,
    ⟨some 131, .pick (.tmp 123) (.tmp 130) (.const (.bool false)), none, []⟩,
    ⟨some 132, .move (.tmp 131), none, []⟩,
    ⟨some 133, .call ⟨.value (.func 7), #[], #[]⟩, (some (132, true)), []⟩,
    ⟨some 134, .pick (.tmp 132) (.tmp 133) (.const (.bool false)), none, []⟩,
    ⟨some 2, .assign (.tmp 134), none, []⟩])
  .ret)))))))))))
theorem plan4 : Tryd.f4.body.bind (plan Tryd.f4.ntmps) = some pc4 := by kernel_rfl
theorem calls4 {G : Env} {args : List AV} {σ : AS} {R : Out → AS → Prop} (hn : args.length = 1) (h : avc Tryd.prog G 135 pc4 (afin Tryd.prog [.tmp 2] R) (frame0 args) σ) : ACalls Tryd.prog G 4 args σ R :=
  acalls' (n := 135) (l := [.tmp 2]) mixed Tryd.func4 (by kernel_rfl) (by kernel_rfl) plan4 (by omega) h

/- mortise/mortiselaw26.LinesBack -/
def pc5_l1 : PC :=
  (.seq (.seq (.ops [⟨some 22, .move (.tmp 6), none, []⟩,
    ⟨some 23, .move (.tmp 0), none, []⟩,
    ⟨some 24, .call ⟨.builtin .len, #[(.tmp 23)], #[9]⟩, none, []⟩,
    ⟨some 25, .binOp .leq 3 (.tmp 22) (.tmp 24) 3, none, []⟩])
  (.cond (.tmp 25)
    .skip
    (.exit 0)))
  (.seq (.block 1
   (.seq (.ops [⟨some 29, .move (.tmp 3), none, []⟩,
     ⟨some 30, .move (.tmp 6), none, []⟩,
     ⟨some 31, .call ⟨.value (.func 16), #[(.tmp 29), (.tmp 30)], #[29, 3]⟩, none, []⟩,
     ⟨some 28, .move (.tmp 31), none, []⟩,
     ⟨some 32, .extract (.tmp 28) 0, none, []⟩,
     ⟨some 33, .extract (.tmp 28) 1, none, []⟩,
     ⟨some 7, .assign (.tmp 32), none, []⟩,
     ⟨some 8, .assign (.tmp 33), none, []⟩])
   (.seq (.ops [⟨some 35, .move (.tmp 0), none, []⟩,
     ⟨some 36, .move (.tmp 7), none, []⟩,
     ⟨some 37, .move (.tmp 8), none, []⟩,
     ⟨some 38, .call ⟨.value (.func 14), #[(.tmp 35), (.tmp 36), (.tmp 37)], #[9, 3, 3]⟩, none, []⟩,
     ⟨some 34, .move (.tmp 38), none, []⟩,
     ⟨some 39, .extract (.tmp 34) 0, none, []⟩,
     ⟨some 40, .extract (.tmp 34) 1, none, []⟩,
     ⟨some 9, .assign (.tmp 39), none, []⟩,
     ⟨some 10, .assign (.tmp 40), none, []⟩])
   (.seq (.ops [⟨some 41, .move (.tmp 7), none, []⟩,
     ⟨some 42, .move (.tmp 4), none, []⟩,
     ⟨some 43, .binOp .eql 3 (.tmp 41) (.tmp 42) 3, none, []⟩,
     ⟨some 44, .move (.tmp 43), none, []⟩,
     ⟨some 45, .move (.tmp 8), (some (44, true)), []⟩,
     ⟨some 46, .move (.tmp 5), (some (44, true)), []⟩,
     ⟨some 47, .binOp .add 3 (.tmp 46) (.const (.int .i64 1)) 3, (some (44, true)), []⟩,
     ⟨some 48, .binOp .eql 3 (.tmp 45) (.tmp 47) 3, (some (44, true)), []⟩,
     ⟨some 49, .pick (.tmp 44) (.tmp 48) (.const (.bool false)), none, []⟩,
     ⟨some 50, .move (.tmp 49), none, []⟩,
     ⟨some 51, .move (.tmp 6), (some (50, true)), []⟩,
     ⟨some 52, .binOp .eql 3 (.tmp 51) (.const (.int .i64 0)) 3, (some (50, true)), []⟩,
     ⟨some 53, .move (.tmp 52), (some (50, true)), []⟩,
     ⟨some 54, .move (.tmp 0), (some (53, false)), []⟩,
     ⟨some 55, .move (.tmp 6), (some (53, false)), []⟩,
     ⟨some 56, .binOp .sub 3 (.tmp 55) (.const (.int .i64 1)) 3, (some (53, false)), []⟩,
     ⟨some 57, .index 9 (.tmp 54) (.tmp 56), (some (53, false)), []⟩,
     ⟨some 58, .binOp .neq 5 (.tmp 57) (.const (.int .u8 10)) 5, (some (53, false)), []⟩,
     ⟨some 59, .pick (.tmp 53) (.const (.bool true)) (.tmp 58), (some (50, true)), []⟩,
     ⟨some 60, .pick (.tmp 50) (.tmp 59) (.const (.bool false)), none, []⟩,
     ⟨some 61, .move (.tmp 60), none, []⟩,
     ⟨some 62, .move (.tmp 7), (some (61, false)), []⟩,
     ⟨some 63, .move (.tmp 4), (some (61, false)), []⟩,
     ⟨some 64, .binOp .add 3 (.tmp 63) (.const (.int .i64 1)) 3, (some (61, false)), []⟩,
     ⟨some 65, .binOp .eql 3 (.tmp 62) (.tmp 64) 3, (some (61, false)), []⟩,
     ⟨some 66, .move (.tmp 65), (some (61, false)), []⟩,
     ⟨some 67, .move (.tmp 8), (some (66, true)), []⟩,
     ⟨some 68, .binOp .eql 3 (.tmp 67) (.const (.int .i64 1)) 3, (some (66, true)), []⟩,
     ⟨some 69, .pick (.tmp 66) (.tmp 68) (.const (.bool false)), (some (61, false)), []⟩,
     ⟨some 70, .move (.tmp 69), (some (61, false)), []⟩,
     ⟨some 71, .move (.tmp 6), (some (70, true)), []⟩,
     ⟨some 72, .binOp .gtr 3 (.tmp 71) (.const (.int .i64 0)) 3, (some (70, true)), []⟩,
     ⟨some 73, .pick (.tmp 70) (.tmp 72) (.const (.bool false)), (some (61, false)), []⟩,
     ⟨some 74, .move (.tmp 73), (some (61, false)), []⟩,
     ⟨some 75, .move (.tmp 0), (some (74, true)), []⟩,
     ⟨some 76, .move (.tmp 6), (some (74, true)), []⟩,
     ⟨some 77, .binOp .sub 3 (.tmp 76) (.const (.int .i64 1)) 3, (some (74, true)), []⟩,
     ⟨some 78, .index 9 (.tmp 75) (.tmp 77), (some (74, true)), []⟩,
     ⟨some 79, .binOp .eql 5 (.tmp 78) (.const (.int .u8 10)) 5, (some (74, true)), []⟩,
     ⟨some 80, .pick (.tmp 74) (.tmp 79) (.const (.bool false)), (some (61, false)), []⟩,
     ⟨some 81, .pick (.tmp 61) (.const (.bool true)) (.tmp 80), none, []⟩,
     ⟨some 11, .assign (.tmp 81), none, []⟩])
   (.seq (.seq (.ops [⟨some 82, .move (.tmp 10), none, []⟩,
     ⟨some 83, .unOp .not 4 (.tmp 82), none, []⟩,
     ⟨some 84, .move (.tmp 83), none, []⟩,
     ⟨some 85, .move (.tmp 9), (some (84, false)), []⟩,
     ⟨some 86, .move (.tmp 6), (some (84, false)), []⟩,
     ⟨some 87, .binOp .neq 3 (.tmp 85) (.tmp 86) 3, (some (84, false)), []⟩,
     ⟨some 88, .pick (.tmp 84) (.const (.bool true)) (.tmp 87), none, []⟩,
     ⟨some 89, .move (.tmp 88), none, []⟩,
     ⟨some 90, .move (.tmp 11), (some (89, false)), []⟩,
     ⟨some 91, .unOp .not 4 (.tmp 90), (some (89, false)), []⟩,
     ⟨some 92, .pick (.tmp 89) (.const (.bool true)) (.tmp 91), none, []⟩])
   (.cond (.tmp 92)
     (.seq (.ops [⟨some 2, .assign (.const (.bool false)), none, []⟩])
     .ret)
     .skip))
   (.ops [⟨some 93, .move (.tmp 7), none, []⟩,
     ⟨some 94, .move (.tmp 8), none, []⟩,
     ⟨some 4, .assign (.tmp 93), none, []⟩,
     ⟨some 5, .assign (.tmp 94), none, []⟩]))))))
  (.ops [⟨some 26, .move (.tmp 6), none, []⟩,
    ⟨some 27, .binOp .add 3 (.tmp 26) (.const (.int .i64 1)) 3, none, []⟩,
    ⟨some 6, .assign (.tmp 27), none, []⟩])))
def pc5_l2 : PC :=
  (.seq (.seq (.ops [⟨some 95, .move (.tmp 13), none, []⟩,
    ⟨some 96, .move (.tmp 3), none, []⟩,
    ⟨some 97, .call ⟨.value (.func 11), #[(.tmp 96)], #[29]⟩, none, []⟩,
    ⟨some 98, .binOp .leq 3 (.tmp 95) (.tmp 97) 3, none, []⟩])
  (.cond (.tmp 98)
    .skip
    (.exit 2)))
  (.seq (.block 3
   (.seq (.seq (.ops [⟨some 101, .move (.tmp 13), none, []⟩,
     ⟨some 102, .binOp .gtr 3 (.tmp 101) (.const (.int .i64 1)) 3, none, []⟩])
   (.cond (.tmp 102)
     (.ops [⟨some 103, .move (.tmp 12), none, []⟩,
       ⟨some 104, .binOp .add 9 (.tmp 103) (.const (.string ⟨#[10]⟩)) 9, none, []⟩,
       ⟨some 12, .assign (.tmp 104), none, []⟩])
     .skip))
   (.ops [⟨some 105, .move (.tmp 12), none, []⟩,
     ⟨some 106, .move (.tmp 0), none, []⟩,
     ⟨some 107, .move (.tmp 13), none, []⟩,
     ⟨some 108, .call ⟨.value (.func 12), #[(.tmp 106), (.tmp 107)], #[9, 3]⟩, none, []⟩,
     ⟨some 109, .binOp .add 9 (.tmp 105) (.tmp 108) 9, none, []⟩,
     ⟨some 12, .assign (.tmp 109), none, []⟩])))
  (.ops [⟨some 99, .move (.tmp 13), none, []⟩,
    ⟨some 100, .binOp .add 3 (.tmp 99) (.const (.int .i64 1)) 3, none, []⟩,
    ⟨some 13, .assign (.tmp 100), none, []⟩])))
def pc5_r1 : PC :=
  (.seq (.ops [⟨some 110, .move (.tmp 4), none, []⟩,
    ⟨some 111, .move (.tmp 3), none, []⟩,
    ⟨some 112, .call ⟨.value (.func 11), #[(.tmp 111)], #[29]⟩, none, []⟩,
    ⟨some 113, .binOp .eql 3 (.tmp 110) (.tmp 112) 3, none, []⟩,
    ⟨some 114, .move (.tmp 113), none, []⟩,
    ⟨some 115, .move (.tmp 12), (some (114, true)), []⟩,
    ⟨some 116, .move (.tmp 0), (some (114, true)), []⟩,
    ⟨some 117, .binOp .eql 9 (.tmp 115) (.tmp 116) 9, (some (114, true)), []⟩,
    ⟨some 118, .pick (.tmp 114) (.tmp 117) (.const (.bool false)), none, []⟩,
    ⟨some 119, .move (.tmp 118), none, []⟩,
    ⟨some 120, .move (.tmp 0), (some (119, true)), []⟩,
    ⟨some 121, .move (.tmp 4), (some (119, true)), []⟩,
    ⟨some 122, .binOp .add 3 (.tmp 121) (.const (.int .i64 1)) 3, (some (119, true)), []⟩,
    ⟨some 123, .call ⟨.value (.func 12), #[(.tmp 120), (.tmp 122)], #[9, 3]⟩, (some (119, true)), []⟩,
    ⟨some 124, .binOp .eql 9 (.tmp 123) (.const (.string ⟨#[]⟩)) 9, (some (119, true)), []⟩,
    ⟨some 125, .pick (.tmp 119) (.tmp 124) (.const (.bool false)), none, []⟩,
    ⟨some 126, .move (.tmp 125), none, []⟩,
    ⟨some 127, .call ⟨.value (.func 7), #[], #[]⟩, (some (126, true)), []⟩,
    ⟨some 128, .pick (.tmp 126) (.tmp 127) (.const (.bool false)), none, []⟩,
    ⟨some 2, .assign (.tmp 128), none, []⟩])
  .ret)
def pc5_r2 : PC :=
  (.seq (.ops [⟨some 12, .assign (.const (.string ⟨#[]⟩)), none, []⟩])
  (.seq (.seq (.ops [⟨some 13, .assign (.const (.int .i64 1)), none, []⟩])
  (.block 2
   (.loop pc5_l2)))
  pc5_r1))
def pc5 : PC :=
  (.seq (.ops [⟨some 2, .assign (.const (.bool false)), none, []⟩])
  (.seq (.seq (.ops [⟨some 14, .move (.tmp 0), none, []⟩,
    ⟨some 15, .call ⟨.builtin .len, #[(.tmp 14)], #[9]⟩, none, []⟩,
    ⟨some 16, .binOp .gtr 3 (.tmp 15) (.const (.int .i64 1024)) 3, none, []⟩])
  (.cond (.tmp 16)
    (.seq (.ops [⟨some 17, .call ⟨.value (.func 7), #[], #[]⟩, none, []⟩,
      ⟨some 2, .assign (.tmp 17), none, []⟩])
    .ret)
    .skip))
  (.seq (.ops [⟨some 18, .move (.tmp 0), none, []⟩,
    ⟨some 19, .call ⟨.value (.func 10), #[(.tmp 18)], #[9]⟩, none, []⟩,
    ⟨some 3, .assign (.tmp 19), none, []⟩])
  (.seq (.seq (.ops [⟨some 20, .move (.tmp 3), none, []⟩,
    ⟨some 21, .binOp .eql 29 (.tmp 20) (.const (.pointer none)) 29, none, []⟩])
  (.cond (.tmp 21)
    (.seq (.ops [⟨some 2, .assign (.const (.bool false)), none, []⟩])
    .ret)
    .skip))
  (.seq (.ops [⟨some 4, .assign (.const (.int .i64 1)), none, []⟩,
    ⟨some 5, .assign (.const (.int .i64 0)), none, []⟩])
  (.seq (.seq (.ops [⟨some 6, .assign (.const (.int .i64 0)), none, []⟩])
  (.block 0
   (.loop pc5_l1)))
  pc5_r2))))))
theorem plan5 : Tryd.f5.body.bind (plan Tryd.f5.ntmps) = some pc5 := by kernel_rfl
theorem calls5 {G : Env} {args : List AV} {σ : AS} {R : Out → AS → Prop} (hn : args.length = 1) (h : avc Tryd.prog G 129 pc5 (afin Tryd.prog [.tmp 2] R) (frame0 args) σ) : ACalls Tryd.prog G 5 args σ R :=
  acalls' (n := 129) (l := [.tmp 2]) mixed Tryd.func5 (by kernel_rfl) (by kernel_rfl) plan5 (by omega) h

/- mortise/mortiselaw26.LinesKnown -/
def pc6_l1 : PC :=
  (.seq (.seq (.ops [⟨some 24, .move (.tmp 4), none, []⟩,
    ⟨some 25, .move (.tmp 2), none, []⟩,
    ⟨some 26, .call ⟨.builtin .len, #[(.tmp 25)], #[44]⟩, none, []⟩,
    ⟨some 27, .binOp .lss 3 (.tmp 24) (.tmp 26) 3, none, []⟩])
  (.cond (.tmp 27)
    .skip
    (.exit 0)))
  (.seq (.block 1
   (.seq (.ops [⟨some 31, .move (.tmp 1), none, []⟩,
     ⟨some 32, .move (.tmp 2), none, []⟩,
     ⟨some 33, .move (.tmp 4), none, []⟩,
     ⟨some 34, .indexAddr 44 (.tmp 32) (.tmp 33), none, []⟩,
     ⟨some 35, .load 3 (.tmp 34), none, []⟩,
     ⟨some 36, .call ⟨.value (.func 9), #[(.tmp 31), (.tmp 35)], #[9, 3]⟩, none, []⟩,
     ⟨some 30, .move (.tmp 36), none, []⟩,
     ⟨some 37, .extract (.tmp 30) 0, none, []⟩,
     ⟨some 38, .extract (.tmp 30) 1, none, []⟩,
     ⟨some 5, .assign (.tmp 37), none, []⟩,
     ⟨some 6, .assign (.tmp 38), none, []⟩])
   (.seq (.ops [⟨some 39, .move (.tmp 5), none, []⟩,
     ⟨some 40, .move (.tmp 3), none, []⟩,
     ⟨some 41, .move (.tmp 4), none, []⟩,
     ⟨some 42, .indexAddr 45 (.tmp 40) (.tmp 41), none, []⟩,
     ⟨some 43, .load 44 (.tmp 42), none, []⟩,
     ⟨some 44, .indexAddr 44 (.tmp 43) (.const (.int .i64 0)), none, []⟩,
     ⟨some 45, .load 3 (.tmp 44), none, []⟩,
     ⟨some 46, .binOp .neq 3 (.tmp 39) (.tmp 45) 3, none, []⟩,
     ⟨some 47, .move (.tmp 46), none, []⟩,
     ⟨some 48, .move (.tmp 6), (some (47, false)), []⟩,
     ⟨some 49, .move (.tmp 3), (some (47, false)), []⟩,
     ⟨some 50, .move (.tmp 4), (some (47, false)), []⟩,
     ⟨some 51, .indexAddr 45 (.tmp 49) (.tmp 50), (some (47, false)), []⟩,
     ⟨some 52, .load 44 (.tmp 51), (some (47, false)), []⟩,
     ⟨some 53, .indexAddr 44 (.tmp 52) (.const (.int .i64 1)), (some (47, false)), []⟩,
     ⟨some 54, .load 3 (.tmp 53), (some (47, false)), []⟩,
     ⟨some 55, .binOp .neq 3 (.tmp 48) (.tmp 54) 3, (some (47, false)), []⟩,
     ⟨some 56, .pick (.tmp 47) (.const (.bool true)) (.tmp 55), none, []⟩])
   (.cond (.tmp 56)
     (.seq (.ops [⟨some 0, .assign (.const (.bool false)), none, []⟩])
     .ret)
     .skip))))
  (.ops [⟨some 28, .move (.tmp 4), none, []⟩,
    ⟨some 29, .binOp .add 3 (.tmp 28) (.const (.int .i64 1)) 3, none, []⟩,
    ⟨some 4, .assign (.tmp 29), none, []⟩])))
def pc6_l2 : PC :=
  (.seq (.seq (.ops [⟨some 76, .move (.tmp 15), none, []⟩,
    ⟨some 77, .move (.tmp 14), none, []⟩,
    ⟨some 78, .binOp .lss 3 (.tmp 76) (.tmp 77) 3, none, []⟩])
  (.cond (.tmp 78)
    .skip
    (.exit 4)))
  (.seq (.block 5
   (.seq (.ops [⟨some 81, .move (.tmp 14), none, []⟩,
     ⟨some 82, .call ⟨.value (.func 19), #[(.tmp 81)], #[22]⟩, none, []⟩,
     ⟨some 83, .move (.tmp 15), none, []⟩,
     ⟨some 84, .call ⟨.value (.func 19), #[(.tmp 83)], #[22]⟩, none, []⟩,
     ⟨some 85, .binOp .eql 9 (.tmp 82) (.tmp 84) 9, none, []⟩])
   (.cond (.tmp 85)
     (.seq (.ops [⟨some 0, .assign (.const (.bool false)), none, []⟩])
     .ret)
     .skip)))
  (.ops [⟨some 79, .move (.tmp 15), none, []⟩,
    ⟨some 80, .binOp .add 3 (.tmp 79) (.const (.int .i64 1)) 3, none, []⟩,
    ⟨some 15, .assign (.tmp 80), none, []⟩])))
def pc6_r1 : PC :=
  (.ops [⟨some 86, .move (.tmp 13), none, []⟩,
    ⟨some 87, .binOp .add 3 (.tmp 86) (.const (.int .i64 1)) 3, none, []⟩,
    ⟨some 13, .assign (.tmp 87), none, []⟩])
def pc6_r2 : PC :=
  (.ops [⟨some 74, .move (.tmp 14), none, []⟩,
    ⟨some 75, .binOp .add 3 (.tmp 74) (.const (.int .i64 1)) 3, none, []⟩,
    ⟨some 14, .assign (.tmp 75), none, []⟩])
def pc6_l3 : PC :=
  (.seq (.seq (.ops [⟨some 72, .move (.tmp 14), none, []⟩,
    ⟨some 73, .binOp .lss 3 (.tmp 72) (.const (.int .i64 15)) 3, none, []⟩])
  (.cond (.tmp 73)
    .skip
    (.exit 2)))
  (.seq (.block 3
   (.seq (.seq (.ops [⟨some 15, .assign (.const (.int .i64 0)), none, []⟩])
   (.block 4
    (.loop pc6_l2)))
   pc6_r1))
  pc6_r2))
def pc6_r3 : PC :=
  (.seq (.ops [⟨some 88, .move (.tmp 8), none, []⟩,
    ⟨some 89, .unOp .not 4 (.tmp 88), none, []⟩,
    ⟨some 90, .move (.tmp 89), none, []⟩,
    ⟨some 91, .move (.tmp 10), (some (90, true)), []⟩,
    ⟨some 92, .unOp .not 4 (.tmp 91), (some (90, true)), []⟩,
    ⟨some 93, .pick (.tmp 90) (.tmp 92) (.const (.bool false)), none, []⟩,
    ⟨some 94, .move (.tmp 93), none, []⟩,
    ⟨some 95, .move (.tmp 12), (some (94, true)), []⟩,
    ⟨some 96, .pick (.tmp 94) (.tmp 95) (.const (.bool false)), none, []⟩,
    ⟨some 97, .move (.tmp 96), none, []⟩,
    ⟨some 98, .move (.tmp 11), (some (97, true)), []⟩,
    ⟨some 99, .binOp .eql 3 (.tmp 98) (.const (.int .i64 4)) 3, (some (97, true)), []⟩,
    ⟨some 100, .pick (.tmp 97) (.tmp 99) (.const (.bool false)), none, []⟩,
    ⟨some 101, .move (.tmp 100), none, []⟩,
    ⟨some 102, .move (.tmp 13), (some (101, true)), []⟩,
    ⟨some 103, .binOp .eql 3 (.tmp 102) (.const (.int .i64 14)) 3, (some (101, true)), []⟩,
    ⟨some 104, .pick (.tmp 101) (.tmp 103) (.const (.bool false)), none, []⟩,
    ⟨some 105, .move (.tmp 104), none, []⟩,
    ⟨some 106, .call ⟨.value (.func 19), #[(.const (.int .i64 0))], #[22]⟩, (some (105, true)), []⟩,
    ⟨some 107, .binOp .eql 9 (.tmp 106) (.const (.string ⟨#[117, 110, 107, 110, 111, 119, 110]⟩)) 9, (some (105, true)), []⟩,
    ⟨some 108, .pick (.tmp 105) (.tmp 107) (.const (.bool false)), none, []⟩,
    ⟨some 109, .move (.tmp 108), none, []⟩,
    ⟨some 110, .call ⟨.value (.func 19), #[(.const (.int .i64 15))], #[22]⟩, (some (109, true)), []⟩,
    ⟨some 111, .binOp .eql 9 (.tmp 110) (.const (.string ⟨#[117, 110, 107, 110, 111, 119, 110]⟩)) 9, (some (109, true)), []⟩,
    ⟨some 112, .pick (.tmp 109) (.tmp 111) (.const (.bool false)), none, []⟩,
    ⟨some 113, .move (.tmp 112), none, []⟩,
    ⟨some 114, .call ⟨.value (.func 19), #[(.const (.int .i64 (-1)))], #[22]⟩, (some (113, true)), []⟩,
    ⟨some 115, .binOp .eql 9 (.tmp 114) (.const (.string ⟨#[117, 110, 107, 110, 111, 119, 110]⟩)) 9, (some (113, true)), []⟩,
    ⟨some 116, .pick (.tmp 113) (.tmp 115) (.const (.bool false)), none, []⟩,
    ⟨some 117, .move (.tmp 116), none, []⟩,
    ⟨some 118, .build 24 #[(1, (.const (.int .i64 2)))], (some (117, true)), []⟩,
    ⟨some 119, .call ⟨.value (.func 8), #[(.const (.string ⟨#[9, 97, 128]⟩)), (.tmp 118)], #[9, 24]⟩, (some (117, true)), []⟩,
    ⟨some 120, .binOp .eql 9 (.tmp 119) (.const (.string ⟨#[49, 58, 51, 58, 32, 117, 110, 107, 110, 111, 119, 110, 10, 63, 97, 63, 10, 32, 32, 94, 10]⟩)) 9, (some (117, true)), []⟩,
    ⟨some 121, .pick (.tmp 117) (.tmp 120) (.const (.bool false)), none, []⟩,
    ⟨some 122, .move (.tmp 121), none, []⟩,
    ⟨some 123, .call ⟨.value (.func 10), #[(.const (.string ⟨#[]⟩))], #[9]⟩, (some (122, true)), []⟩,
    ⟨some 124, .call ⟨.value (.func 11), #[(.tmp 123)], #[29]⟩, (some (122, true)), []⟩,
    ⟨some 125, .binOp .eql 3 (.tmp 124) (.const (.int .i64 1)) 3, (some (122, true)), []⟩,
    ⟨some 126, .pick (.tmp 122) (.tmp 125) (.const (.bool false)), none, []⟩,
    ⟨some 127, .move (.tmp 126), none, []⟩,
    ⟨some 128, .call ⟨.value (.func 7), #[], #[]⟩, (some (127, true)), []⟩,
    ⟨some 129, .pick (.tmp 127) (.tmp 128) (.const (.bool false)), none, []⟩,
    ⟨some 0, .assign (.tmp 129), none, []⟩])
  .ret)
def pc6_r4 : PC :=
  (.seq (.ops [⟨some 58, .move (.tmp 1), none, []⟩,
    ⟨some 59, .call ⟨.value (.func 14), #[(.tmp 58), (.const (.int .i64 1)), (.const (.int .i64 4))], #[9, 3, 3]⟩, none, []⟩,
    ⟨some 57, .move (.tmp 59), none, []⟩,
    ⟨some 60, .extract (.tmp 57) 0, none, []⟩,
    ⟨some 61, .extract (.tmp 57) 1, none, []⟩,
    ⟨some 7, .assign (.tmp 60), none, []⟩,
    ⟨some 8, .assign (.tmp 61), none, []⟩])
  (.seq (.ops [⟨some 63, .move (.tmp 1), none, []⟩,
    ⟨some 64, .call ⟨.value (.func 14), #[(.tmp 63), (.const (.int .i64 3)), (.const (.int .i64 1))], #[9, 3, 3]⟩, none, []⟩,
    ⟨some 62, .move (.tmp 64), none, []⟩,
    ⟨some 65, .extract (.tmp 62) 0, none, []⟩,
    ⟨some 66, .extract (.tmp 62) 1, none, []⟩,
    ⟨some 9, .assign (.tmp 65), none, []⟩,
    ⟨some 10, .assign (.tmp 66), none, []⟩])
  (.seq (.ops [⟨some 68, .move (.tmp 1), none, []⟩,
    ⟨some 69, .call ⟨.value (.func 14), #[(.tmp 68), (.const (.int .i64 2)), (.const (.int .i64 2))], #[9, 3, 3]⟩, none, []⟩,
    ⟨some 67, .move (.tmp 69), none, []⟩,
    ⟨some 70, .extract (.tmp 67) 0, none, []⟩,
    ⟨some 71, .extract (.tmp 67) 1, none, []⟩,
    ⟨some 11, .assign (.tmp 70), none, []⟩,
    ⟨some 12, .assign (.tmp 71), none, []⟩])
  (.seq (.ops [⟨some 13, .assign (.const (.int .i64 0)), none, []⟩])
  (.seq (.seq (.ops [⟨some 14, .assign (.const (.int .i64 1)), none, []⟩])
  (.block 2
   (.loop pc6_l3)))
  pc6_r3)))))
def pc6 : PC :=
  (.seq (.ops [⟨some 0, .assign (.const (.bool false)), none, []⟩])
  (.seq (.ops [⟨some 1, .assign (.const (.string ⟨#[97, 98, 10, 99]⟩)), none, []⟩])
  (.seq (.ops [⟨some 16, .buildSlice 44 6 #[(0, (.const (.int .i64 (-5)))), (1, (.const (.int .i64 0))), (2, (.const (.int .i64 2))), (3, (.const (.int .i64 3))), (4, (.const (.int .i64 4))), (5, (.const (.int .i64 99)))], none, []⟩,
    ⟨some 2, .assign (.tmp 16), none, []⟩])
  (.seq (.ops [⟨some 17, .buildSlice 44 2 #[(0, (.const (.int .i64 1))), (1, (.const (.int .i64 1)))], none, []⟩,
    ⟨some 18, .buildSlice 44 2 #[(0, (.const (.int .i64 1))), (1, (.const (.int .i64 1)))], none, []⟩,
    ⟨some 19, .buildSlice 44 2 #[(0, (.const (.int .i64 1))), (1, (.const (.int .i64 3)))], none, []⟩,
    ⟨some 20, .buildSlice 44 2 #[(0, (.const (.int .i64 2))), (1, (.const (.int .i64 1)))], none, []⟩,
    ⟨some 21, .buildSlice 44 2 #[(0, (.const (.int .i64 2))), (1, (.const (.int .i64 2)))], none, []⟩,
    ⟨some 22, .buildSlice 44 2 #[(0, (.const (.int .i64 2))), (1, (.const (.int .i64 2)))], none, []⟩,
    ⟨some 23, .buildSlice 45 6 #[(0, (.tmp 17)), (1, (.tmp 18)), (2, (.tmp 19)), (3, (.tmp 20)), (4, (.tmp 21)), (5, (.tmp 22))], none, []⟩,
    ⟨some 3, .assign (.tmp 23), none, []⟩])
  (.seq (.seq (.ops [⟨some 4, .assign (.const (.int .i64 0)), none, []⟩])
  (.block 0
   (.loop pc6_l1)))
  pc6_r4)))))
theorem plan6 : Tryd.f6.body.bind (plan Tryd.f6.ntmps) = some pc6 := by kernel_rfl
theorem calls6 {G : Env} {args : List AV} {σ : AS} {R : Out → AS → Prop} (hn : args.length = 0) (h : avc Tryd.prog G 130 pc6 (afin Tryd.prog [.tmp 0] R) (frame0 args) σ) : ACalls Tryd.prog G 6 args σ R :=
  acalls' (n := 130) (l := [.tmp 0]) mixed Tryd.func6 (by kernel_rfl) (by kernel_rfl) plan6 (by omega) h

/- mortise/mortiselaw26.known -/
def pc7 : PC :=
  (.seq (.ops [⟨some 0, .assign (.const (.bool false)), none, []⟩])
  (.seq (.ops [⟨some 6, .call ⟨.value (.func 9), #[(.const (.string ⟨#[97, 98, 10, 99]⟩)), (.const (.int .i64 3))], #[9, 3]⟩, none, []⟩,
    ⟨some 5, .move (.tmp 6), none, []⟩,
    ⟨some 7, .extract (.tmp 5) 0, none, []⟩,
    ⟨some 8, .extract (.tmp 5) 1, none, []⟩,
    ⟨some 1, .assign (.tmp 7), none, []⟩,
    ⟨some 2, .assign (.tmp 8), none, []⟩])
  (.seq (.ops [⟨some 10, .call ⟨.value (.func 9), #[(.const (.string ⟨#[97, 98, 10, 99]⟩)), (.const (.int .i64 2))], #[9, 3]⟩, none, []⟩,
    ⟨some 9, .move (.tmp 10), none, []⟩,
    ⟨some 11, .extract (.tmp 9) 0, none, []⟩,
    ⟨some 12, .extract (.tmp 9) 1, none, []⟩,
    ⟨some 3, .assign (.tmp 11), none, []⟩,
    ⟨some 4, .assign (.tmp 12), none, []⟩])
  (.seq (.ops [⟨some 13, .move (.tmp 1), none, []⟩,
    ⟨some 14, .binOp .eql 3 (.tmp 13) (.const (.int .i64 2)) 3, none, []⟩,
    ⟨some 15, .move (.tmp 14), none, []⟩,
    ⟨some 16, .move (.tmp 2), (some (15, true)), []⟩,
    ⟨some 17, .binOp .eql 3 (.tmp 16) (.const (.int .i64 1)) 3, (some (15, true)), []⟩,
    ⟨some 18, .pick (.tmp 15) (.tmp 17) (.const (.bool false)), none, []⟩,
    ⟨some 19, .move (.tmp 18), none, []⟩,
    ⟨some 20, .move (.tmp 3), (some (19, true)), []⟩,
    ⟨some 21, .binOp .eql 3 (.tmp 20) (.const (.int .i64 1)) 3, (some (19, true)), []⟩,
    ⟨some 22, .pick (.tmp 19) (.tmp 21) (.const (.bool false)), none, []⟩,
    ⟨some 23, .move (.tmp 22), none, []⟩,
    ⟨some 24, .move (.tmp 4), (some (23, true)), []⟩,
    ⟨some 25, .binOp .eql 3 (.tmp 24) (.const (.int .i64 3)) 3, (some (23, true)), []⟩,
    ⟨some 26, .pick (.tmp 23) (.tmp 25) (.const (.bool false)), none, []⟩,
    ⟨some 27, .move (.tmp 26), none, []⟩,
    ⟨some 28, .build 24 #[(0, (.const (.int .i64 4))), (1, (.const (.int .i64 3)))], (some (27, true)), []⟩,
    ⟨some 29, .call ⟨.value (.func 8), #[(.const (.string ⟨#[97, 98, 10, 99]⟩)), (.tmp 28)], #[9, 24]⟩, (some (27, true)), []⟩,
    ⟨some 30, .binOp .eql 9 (.tmp 29) (.const (.string ⟨#[50, 58, 49, 58, 32, 116, 104, 105, 115, 32, 110, 97, 109, 101, 32, 109, 101, 97, 110, 115, 32, 110, 111, 116, 104, 105, 110, 103, 32, 104, 101, 114, 101, 10, 99, 10, 94, 10]⟩)) 9, (some (27, true)), []⟩,
    ⟨some 31, .pick (.tmp 27) (.tmp 30) (.const (.bool false)), none, []⟩,
    ⟨some 0, .assign (.tmp 31), none, []⟩])
  .ret))))
theorem plan7 : Tryd.f7.body.bind (plan Tryd.f7.ntmps) = some pc7 := by kernel_rfl
theorem calls7 {G : Env} {args : List AV} {σ : AS} {R : Out → AS → Prop} (hn : args.length = 0) (h : avc Tryd.prog G 32 pc7 (afin Tryd.prog [.tmp 0] R) (frame0 args) σ) : ACalls Tryd.prog G 7 args σ R :=
  acalls' (n := 32) (l := [.tmp 0]) mixed Tryd.func7 (by kernel_rfl) (by kernel_rfl) plan7 (by omega) h

/- mortise/lines.Where -/
def pc9 : PC :=
  (.seq (.ops [⟨some 4, .assign (.const (.int .i64 0)), none, []⟩,
    ⟨some 5, .assign (.const (.int .i64 0)), none, []⟩])
  (.seq (.ops [⟨some 6, .move (.tmp 0), none, []⟩,
    ⟨some 7, .call ⟨.value (.func 10), #[(.tmp 6)], #[9]⟩, none, []⟩,
    ⟨some 8, .move (.tmp 1), none, []⟩,
    ⟨some 9, .call ⟨.value (.func 16), #[(.tmp 7), (.tmp 8)], #[29, 3]⟩, none, []⟩,
    ⟨some 10, .extract (.tmp 9) 0, none, []⟩,
    ⟨some 11, .extract (.tmp 9) 1, none, []⟩,
    ⟨some 4, .assign (.tmp 10), none, []⟩,
    ⟨some 5, .assign (.tmp 11), none, []⟩])
  .ret))
theorem plan9 : Tryd.f9.body.bind (plan Tryd.f9.ntmps) = some pc9 := by kernel_rfl
theorem calls9 {G : Env} {args : List AV} {σ : AS} {R : Out → AS → Prop} (hn : args.length = 2) (h : avc Tryd.prog G 12 pc9 (afin Tryd.prog [.tmp 4, .tmp 5] R) (frame0 args) σ) : ACalls Tryd.prog G 9 args σ R :=
  acalls' (n := 12) (l := [.tmp 4, .tmp 5]) mixed Tryd.func9 (by kernel_rfl) (by kernel_rfl) plan9 (by omega) h

/- mortise/lines.Table -/
def pc10_l1 : PC :=
  (.seq (.ops [⟨some 13, .binOp .lss 3 (.tmp 12) (.tmp 11) 3, none, []⟩])
  (.seq (.cond (.tmp 13)
    .skip
    (.exit 0))
  (.seq (.block 1
   (.seq (.ops [⟨some 14, .move (.tmp 12), none, []⟩,
     ⟨some 4, .assign (.tmp 14), none, []⟩])
   (.seq (.ops [⟨some 15, .move (.tmp 0), none, []⟩,
     ⟨some 16, .move (.tmp 4), none, []⟩,
     ⟨some 17, .index 9 (.tmp 15) (.tmp 16), none, []⟩,
     ⟨some 18, .binOp .eql 5 (.tmp 17) (.const (.int .u8 10)) 5, none, []⟩])
   (.cond (.tmp 18)
     (.ops [⟨some 19, .move (.tmp 3), none, []⟩,
       ⟨some 20, .move (.tmp 3), none, []⟩,
       ⟨some 21, .nilCheck (.tmp 20), none, []⟩,
       ⟨some 22, .fieldAddr 58 (.tmp 21) 0, none, []⟩,
       ⟨some 23, .load 44 (.tmp 22), none, []⟩,
       ⟨some 24, .move (.tmp 4), none, []⟩,
       ⟨some 25, .binOp .add 3 (.tmp 24) (.const (.int .i64 1)) 3, none, []⟩,
       ⟨some 26, .buildSlice 44 1 #[(0, (.tmp 25))], none, []⟩,
       ⟨some 27, .call ⟨.builtin .append, #[(.tmp 23), (.tmp 26)], #[44, 44]⟩, none, []⟩,
       ⟨some 28, .nilCheck (.tmp 19), none, []⟩,
       ⟨some 29, .fieldAddr 58 (.tmp 28) 0, none, []⟩,
       ⟨none, .store 44 (.tmp 29) (.tmp 27), none, []⟩])
     .skip))))
  (.ops [⟨some 30, .binOp .add 3 (.tmp 12) (.const (.int .i64 1)) 3, none, []⟩,
    ⟨some 12, .move (.tmp 30), none, []⟩]))))
def pc10_r1 : PC :=
  (.seq (.ops [⟨some 31, .move (.tmp 3), none, []⟩,
    ⟨some 2, .assign (.tmp 31), none, []⟩])
  .ret)
def pc10 : PC :=
  (.seq (.ops [⟨some 2, .assign (.const (.pointer none)), none, []⟩])
  (.seq (.ops [⟨some 5, .buildSlice 44 1 #[(0, (.const (.int .i64 0)))], none, []⟩,
    ⟨some 6, .move (.tmp 0), none, []⟩,
    ⟨some 7, .call ⟨.builtin .len, #[(.tmp 6)], #[9]⟩, none, []⟩,
    ⟨some 8, .build 58 #[(0, (.tmp 5)), (1, (.tmp 7))], none, []⟩,
    ⟨some 9, .box 58 (.tmp 8), none, []⟩,
    ⟨some 3, .assign (.tmp 9), none, []⟩])
  (.seq (.seq (.ops [⟨some 10, .move (.tmp 0), none, []⟩,
    ⟨some 11, .call ⟨.builtin .len, #[(.tmp 10)], #[9]⟩, none, []⟩,
    ⟨some 12, .move (.const (.int .i64 0)), none, []⟩])
  (.block 0
   (.loop pc10_l1)))
  pc10_r1)))
theorem plan10 : Tryd.f10.body.bind (plan Tryd.f10.ntmps) = some pc10 := by kernel_rfl
theorem calls10 {G : Env} {args : List AV} {σ : AS} {R : Out → AS → Prop} (hn : args.length = 1) (h : avc Tryd.prog G 32 pc10 (afin Tryd.prog [.tmp 2] R) (frame0 args) σ) : ACalls Tryd.prog G 10 args σ R :=
  acalls' (n := 32) (l := [.tmp 2]) mixed Tryd.func10 (by kernel_rfl) (by kernel_rfl) plan10 (by omega) h

/- (*mortise/lines.Lines).Len -/
def pc11 : PC :=
  (.seq (.ops [⟨some 2, .assign (.const (.int .i64 0)), none, []⟩])
  (.seq (.ops [⟨some 3, .move (.tmp 0), none, []⟩,
    ⟨some 4, .nilCheck (.tmp 3), none, []⟩,
    ⟨some 5, .fieldAddr 58 (.tmp 4) 0, none, []⟩,
    ⟨some 6, .load 44 (.tmp 5), none, []⟩,
    ⟨some 7, .call ⟨.builtin .len, #[(.tmp 6)], #[44]⟩, none, []⟩,
    ⟨some 2, .assign (.tmp 7), none, []⟩])
  .ret))
theorem plan11 : Tryd.f11.body.bind (plan Tryd.f11.ntmps) = some pc11 := by kernel_rfl
theorem calls11 {G : Env} {args : List AV} {σ : AS} {R : Out → AS → Prop} (hn : args.length = 1) (h : avc Tryd.prog G 8 pc11 (afin Tryd.prog [.tmp 2] R) (frame0 args) σ) : ACalls Tryd.prog G 11 args σ R :=
  acalls' (n := 8) (l := [.tmp 2]) mixed Tryd.func11 (by kernel_rfl) (by kernel_rfl) plan11 (by omega) h

/- mortise/lines.Line -/
def pc12 : PC :=
  (.seq (.ops [⟨some 4, .assign (.const (.string ⟨#[]⟩)), none, []⟩])
  (.seq (.ops [⟨some 9, .move (.tmp 0), none, []⟩,
    ⟨some 10, .move (.tmp 1), none, []⟩,
    ⟨some 11, .call ⟨.value (.func 27), #[(.tmp 9), (.tmp 10)], #[9, 3]⟩, none, []⟩,
    ⟨some 8, .move (.tmp 11), none, []⟩,
    ⟨some 12, .extract (.tmp 8) 0, none, []⟩,
    ⟨some 13, .extract (.tmp 8) 1, none, []⟩,
    ⟨some 14, .extract (.tmp 8) 2, none, []⟩,
    ⟨some 5, .assign (.tmp 12), none, []⟩,
    ⟨some 6, .assign (.tmp 13), none, []⟩,
    ⟨some 7, .assign (.tmp 14), none, []⟩])
  (.seq (.ops [⟨some 15, .move (.tmp 5), none, []⟩,
    ⟨some 4, .assign (.tmp 15), none, []⟩])
  .ret)))
theorem plan12 : Tryd.f12.body.bind (plan Tryd.f12.ntmps) = some pc12 := by kernel_rfl
theorem calls12 {G : Env} {args : List AV} {σ : AS} {R : Out → AS → Prop} (hn : args.length = 2) (h : avc Tryd.prog G 16 pc12 (afin Tryd.prog [.tmp 4] R) (frame0 args) σ) : ACalls Tryd.prog G 12 args σ R :=
  acalls' (n := 16) (l := [.tmp 4]) mixed Tryd.func12 (by kernel_rfl) (by kernel_rfl) plan12 (by omega) h

/- mortise/mortiseref26.Where -/
def pc13_l1 : PC :=
  (.seq (.seq (.ops [⟨some 9, .move (.tmp 8), none, []⟩,
    ⟨some 10, .move (.tmp 0), none, []⟩,
    ⟨some 11, .call ⟨.builtin .len, #[(.tmp 10)], #[9]⟩, none, []⟩,
    ⟨some 12, .binOp .lss 3 (.tmp 9) (.tmp 11) 3, none, []⟩,
    ⟨some 13, .move (.tmp 12), none, []⟩,
    ⟨some 14, .move (.tmp 8), (some (13, true)), []⟩,
    ⟨some 15, .move (.tmp 1), (some (13, true)), []⟩,
    ⟨some 16, .binOp .lss 3 (.tmp 14) (.tmp 15) 3, (some (13, true)), []⟩,
    ⟨some 17, .pick (.tmp 13) (.tmp 16) (.const (.bool false)), none, []⟩])
  (.cond (.tmp 17)
    .skip
    (.exit 0)))
  (.seq (.block 1
   (.seq (.ops [⟨some 20, .move (.tmp 7), none, []⟩,
     ⟨some 21, .binOp .add 3 (.tmp 20) (.const (.int .i64 1)) 3, none, []⟩,
     ⟨some 7, .assign (.tmp 21), none, []⟩])
   (.seq (.ops [⟨some 22, .move (.tmp 0), none, []⟩,
     ⟨some 23, .move (.tmp 8), none, []⟩,
     ⟨some 24, .index 9 (.tmp 22) (.tmp 23), none, []⟩,
     ⟨some 25, .binOp .eql 5 (.tmp 24) (.const (.int .u8 10)) 5, none, []⟩])
   (.cond (.tmp 25)
     (.seq (.ops [⟨some 26, .move (.tmp 6), none, []⟩,
       ⟨some 27, .binOp .add 3 (.tmp 26) (.const (.int .i64 1)) 3, none, []⟩,
       ⟨some 6, .assign (.tmp 27), none, []⟩])
     (.ops [⟨some 7, .assign (.const (.int .i64 1)), none, []⟩]))
     .skip))))
  (.ops [⟨some 18, .move (.tmp 8), none, []⟩,
    ⟨some 19, .binOp .add 3 (.tmp 18) (.const (.int .i64 1)) 3, none, []⟩,
    ⟨some 8, .assign (.tmp 19), none, []⟩])))
def pc13_r1 : PC :=
  (.seq (.ops [⟨some 28, .move (.tmp 6), none, []⟩,
    ⟨some 29, .move (.tmp 7), none, []⟩,
    ⟨some 4, .assign (.tmp 28), none, []⟩,
    ⟨some 5, .assign (.tmp 29), none, []⟩])
  .ret)
def pc13 : PC :=
  (.seq (.ops [⟨some 4, .assign (.const (.int .i64 0)), none, []⟩,
    ⟨some 5, .assign (.const (.int .i64 0)), none, []⟩])
  (.seq (.ops [⟨some 6, .assign (.const (.int .i64 1)), none, []⟩,
    ⟨some 7, .assign (.const (.int .i64 1)), none, []⟩])
  (.seq (.seq (.ops [⟨some 8, .assign (.const (.int .i64 0)), none, []⟩])
  (.block 0
   (.loop pc13_l1)))
  pc13_r1)))
theorem plan13 : Tryd.f13.body.bind (plan Tryd.f13.ntmps) = some pc13 := by kernel_rfl
theorem calls13 {G : Env} {args : List AV} {σ : AS} {R : Out → AS → Prop} (hn : args.length = 2) (h : avc Tryd.prog G 30 pc13 (afin Tryd.prog [.tmp 4, .tmp 5] R) (frame0 args) σ) : ACalls Tryd.prog G 13 args σ R :=
  acalls' (n := 30) (l := [.tmp 4, .tmp 5]) mixed Tryd.func13 (by kernel_rfl) (by kernel_rfl) plan13 (by omega) h

/- mortise/lines.Place -/
def pc14 : PC :=
  (.seq (.ops [⟨some 6, .assign (.const (.int .i64 0)), none, []⟩,
    ⟨some 7, .assign (.const (.bool false)), none, []⟩])
  (.seq (.ops [⟨some 12, .move (.tmp 0), none, []⟩,
    ⟨some 13, .move (.tmp 1), none, []⟩,
    ⟨some 14, .call ⟨.value (.func 27), #[(.tmp 12), (.tmp 13)], #[9, 3]⟩, none, []⟩,
    ⟨some 11, .move (.tmp 14), none, []⟩,
    ⟨some 15, .extract (.tmp 11) 0, none, []⟩,
    ⟨some 16, .extract (.tmp 11) 1, none, []⟩,
    ⟨some 17, .extract (.tmp 11) 2, none, []⟩,
    ⟨some 8, .assign (.tmp 15), none, []⟩,
    ⟨some 9, .assign (.tmp 16), none, []⟩,
    ⟨some 10, .assign (.tmp 17), none, []⟩])
  (.seq (.seq (.ops [⟨some 18, .move (.tmp 10), none, []⟩,
    ⟨some 19, .unOp .not 4 (.tmp 18), none, []⟩,
    ⟨some 20, .move (.tmp 19), none, []⟩,
    ⟨some 21, .move (.tmp 2), (some (20, false)), []⟩,
    ⟨some 22, .binOp .lss 3 (.tmp 21) (.const (.int .i64 1)) 3, (some (20, false)), []⟩,
    ⟨some 23, .pick (.tmp 20) (.const (.bool true)) (.tmp 22), none, []⟩,
    ⟨some 24, .move (.tmp 23), none, []⟩,
    ⟨some 25, .move (.tmp 2), (some (24, false)), []⟩,
    ⟨some 26, .move (.tmp 8), (some (24, false)), []⟩,
    ⟨some 27, .call ⟨.builtin .len, #[(.tmp 26)], #[9]⟩, (some (24, false)), []⟩,
    ⟨some 28, .binOp .add 3 (.tmp 27) (.const (.int .i64 1)) 3, (some (24, false)), []⟩,
    ⟨some 29, .binOp .gtr 3 (.tmp 25) (.tmp 28) 3, (some (24, false)), []⟩,
    ⟨some 30, .pick (.tmp 24) (.const (.bool true)) (.tmp 29), none, []⟩])
  (.cond (.tmp 30)
    (.seq (.ops [⟨some 6, .assign (.const (.int .i64 0)), none, []⟩,
      ⟨some 7, .assign (.const (.bool false)), none, []⟩])
    .ret)
    .skip))
  (.seq (.ops [⟨some 31, .move (.tmp 9), none, []⟩,
    ⟨some 32, .move (.tmp 2), none, []⟩,
    ⟨some 33, .binOp .add 3 (.tmp 31) (.tmp 32) 3, none, []⟩,
    ⟨some 34, .binOp .sub 3 (.tmp 33) (.const (.int .i64 1)) 3, none, []⟩,
    ⟨some 6, .assign (.tmp 34), none, []⟩,
    ⟨some 7, .assign (.const (.bool true)), none, []⟩])
  .ret))))
theorem plan14 : Tryd.f14.body.bind (plan Tryd.f14.ntmps) = some pc14 := by kernel_rfl
theorem calls14 {G : Env} {args : List AV} {σ : AS} {R : Out → AS → Prop} (hn : args.length = 3) (h : avc Tryd.prog G 35 pc14 (afin Tryd.prog [.tmp 6, .tmp 7] R) (frame0 args) σ) : ACalls Tryd.prog G 14 args σ R :=
  acalls' (n := 35) (l := [.tmp 6, .tmp 7]) mixed Tryd.func14 (by kernel_rfl) (by kernel_rfl) plan14 (by omega) h

/- mortise/mortiseref26.Place -/
def pc15_l1 : PC :=
  (.seq (.seq (.ops [⟨some 11, .move (.tmp 8), none, []⟩,
    ⟨some 12, .move (.tmp 0), none, []⟩,
    ⟨some 13, .call ⟨.builtin .len, #[(.tmp 12)], #[9]⟩, none, []⟩,
    ⟨some 14, .binOp .leq 3 (.tmp 11) (.tmp 13) 3, none, []⟩])
  (.cond (.tmp 14)
    .skip
    (.exit 0)))
  (.seq (.block 1
   (.seq (.ops [⟨some 18, .move (.tmp 0), none, []⟩,
     ⟨some 19, .move (.tmp 8), none, []⟩,
     ⟨some 20, .call ⟨.value (.func 13), #[(.tmp 18), (.tmp 19)], #[9, 3]⟩, none, []⟩,
     ⟨some 17, .move (.tmp 20), none, []⟩,
     ⟨some 21, .extract (.tmp 17) 0, none, []⟩,
     ⟨some 22, .extract (.tmp 17) 1, none, []⟩,
     ⟨some 9, .assign (.tmp 21), none, []⟩,
     ⟨some 10, .assign (.tmp 22), none, []⟩])
   (.seq (.ops [⟨some 23, .move (.tmp 9), none, []⟩,
     ⟨some 24, .move (.tmp 1), none, []⟩,
     ⟨some 25, .binOp .eql 3 (.tmp 23) (.tmp 24) 3, none, []⟩,
     ⟨some 26, .move (.tmp 25), none, []⟩,
     ⟨some 27, .move (.tmp 10), (some (26, true)), []⟩,
     ⟨some 28, .move (.tmp 2), (some (26, true)), []⟩,
     ⟨some 29, .binOp .eql 3 (.tmp 27) (.tmp 28) 3, (some (26, true)), []⟩,
     ⟨some 30, .pick (.tmp 26) (.tmp 29) (.const (.bool false)), none, []⟩])
   (.cond (.tmp 30)
     (.seq (.ops [⟨some 31, .move (.tmp 8), none, []⟩,
       ⟨some 6, .assign (.tmp 31), none, []⟩,
       ⟨some 7, .assign (.const (.bool true)), none, []⟩])
     .ret)
     .skip))))
  (.ops [⟨some 15, .move (.tmp 8), none, []⟩,
    ⟨some 16, .binOp .add 3 (.tmp 15) (.const (.int .i64 1)) 3, none, []⟩,
    ⟨some 8, .assign (.tmp 16), none, []⟩])))
def pc15_r1 : PC :=
  (.seq (.ops [⟨some 6, .assign (.const (.int .i64 0)), none, []⟩,
    ⟨some 7, .assign (.const (.bool false)), none, []⟩])
  .ret)
def pc15 : PC :=
  (.seq (.ops [⟨some 6, .assign (.const (.int .i64 0)), none, []⟩,
    ⟨some 7, .assign (.const (.bool false)), none, []⟩])
  (.seq (.seq (.ops [⟨some 8, .assign (.const (.int .i64 0)), none, []⟩])
  (.block 0
   (.loop pc15_l1)))
  pc15_r1))
theorem plan15 : Tryd.f15.body.bind (plan Tryd.f15.ntmps) = some pc15 := by kernel_rfl
theorem calls15 {G : Env} {args : List AV} {σ : AS} {R : Out → AS → Prop} (hn : args.length = 3) (h : avc Tryd.prog G 32 pc15 (afin Tryd.prog [.tmp 6, .tmp 7] R) (frame0 args) σ) : ACalls Tryd.prog G 15 args σ R :=
  acalls' (n := 32) (l := [.tmp 6, .tmp 7]) mixed Tryd.func15 (by kernel_rfl) (by kernel_rfl) plan15 (by omega) h

/- (*mortise/lines.Lines).Where -/
def pc16 : PC :=
  (.seq (.ops [⟨some 4, .assign (.const (.int .i64 0)), none, []⟩,
    ⟨some 5, .assign (.const (.int .i64 0)), none, []⟩])
  (.seq (.ops [⟨some 7, .move (.tmp 1), none, []⟩,
    ⟨some 8, .move (.tmp 0), none, []⟩,
    ⟨some 9, .nilCheck (.tmp 8), none, []⟩,
    ⟨some 10, .fieldAddr 58 (.tmp 9) 1, none, []⟩,
    ⟨some 11, .load 3 (.tmp 10), none, []⟩,
    ⟨some 12, .call ⟨.builtin .min, #[(.tmp 7), (.tmp 11)], #[3, 3]⟩, none, []⟩,
    ⟨some 13, .call ⟨.builtin .max, #[(.const (.int .i64 0)), (.tmp 12)], #[3, 3]⟩, none, []⟩,
    ⟨some 1, .assign (.tmp 13), none, []⟩])
  (.seq (.ops [⟨some 14, .move (.tmp 0), none, []⟩,
    ⟨some 15, .nilCheck (.tmp 14), none, []⟩,
    ⟨some 16, .fieldAddr 58 (.tmp 15) 0, none, []⟩,
    ⟨some 17, .load 44 (.tmp 16), none, []⟩,
    ⟨some 18, .call ⟨.builtin .len, #[(.tmp 17)], #[44]⟩, none, []⟩,
    ⟨some 19, .move (.tmp 0), none, []⟩,
    ⟨some 20, .nilCheck (.tmp 19), none, []⟩,
    ⟨some 21, .fieldAddr 58 (.tmp 20) 0, none, []⟩,
    ⟨some 22, .load 44 (.tmp 21), none, []⟩,
    ⟨some 23, .move (.tmp 1), none, []⟩,
    ⟨some 24, .build 64 #[(0, (.tmp 22)), (1, (.tmp 23))], none, []⟩,
    ⟨some 25, .makeFunc (.func 29) #[(.tmp 24)] #[], none, []⟩,
    ⟨some 26, .call ⟨.value (.func 28), #[(.tmp 18), (.tmp 25)], #[3, 62]⟩, none, []⟩,
    ⟨some 6, .assign (.tmp 26), none, []⟩])
  (.seq (.ops [⟨some 27, .move (.tmp 6), none, []⟩,
    ⟨some 28, .move (.tmp 1), none, []⟩,
    ⟨some 29, .move (.tmp 0), none, []⟩,
    ⟨some 30, .nilCheck (.tmp 29), none, []⟩,
    ⟨some 31, .fieldAddr 58 (.tmp 30) 0, none, []⟩,
    ⟨some 32, .load 44 (.tmp 31), none, []⟩,
    ⟨some 33, .move (.tmp 6), none, []⟩,
    ⟨some 34, .binOp .sub 3 (.tmp 33) (.const (.int .i64 1)) 3, none, []⟩,
    ⟨some 35, .indexAddr 44 (.tmp 32) (.tmp 34), none, []⟩,
    ⟨some 36, .load 3 (.tmp 35), none, []⟩,
    ⟨some 37, .binOp .sub 3 (.tmp 28) (.tmp 36) 3, none, []⟩,
    ⟨some 38, .binOp .add 3 (.tmp 37) (.const (.int .i64 1)) 3, none, []⟩,
    ⟨some 4, .assign (.tmp 27), none, []⟩,
    ⟨some 5, .assign (.tmp 38), none, []⟩])
  .ret))))
theorem plan16 : Tryd.f16.body.bind (plan Tryd.f16.ntmps) = some pc16 := by kernel_rfl
theorem calls16 {G : Env} {args : List AV} {σ : AS} {R : Out → AS → Prop} (hn : args.length = 2) (h : avc Tryd.prog G 39 pc16 (afin Tryd.prog [.tmp 4, .tmp 5] R) (frame0 args) σ) : ACalls Tryd.prog G 16 args σ R :=
  acalls' (n := 39) (l := [.tmp 4, .tmp 5]) mixed Tryd.func16 (by kernel_rfl) (by kernel_rfl) plan16 (by omega) h

/- mortise/mortiseref26.All -/
def pc17_l1 : PC :=
  (.seq (.seq (.ops [⟨some 6, .move (.tmp 5), none, []⟩,
    ⟨some 7, .move (.tmp 0), none, []⟩,
    ⟨some 8, .call ⟨.builtin .len, #[(.tmp 7)], #[9]⟩, none, []⟩,
    ⟨some 9, .binOp .lss 3 (.tmp 6) (.tmp 8) 3, none, []⟩])
  (.cond (.tmp 9)
    .skip
    (.exit 0)))
  (.seq (.block 1
   (.seq (.ops [⟨some 12, .move (.tmp 0), none, []⟩,
     ⟨some 13, .move (.tmp 5), none, []⟩,
     ⟨some 14, .index 9 (.tmp 12) (.tmp 13), none, []⟩,
     ⟨some 15, .binOp .eql 5 (.tmp 14) (.const (.int .u8 10)) 5, none, []⟩])
   (.cond (.tmp 15)
     (.seq (.ops [⟨some 16, .move (.tmp 3), none, []⟩,
       ⟨some 17, .move (.tmp 4), none, []⟩,
       ⟨some 18, .buildSlice 39 1 #[(0, (.tmp 17))], none, []⟩,
       ⟨some 19, .call ⟨.builtin .append, #[(.tmp 16), (.tmp 18)], #[39, 39]⟩, none, []⟩,
       ⟨some 3, .assign (.tmp 19), none, []⟩])
     (.ops [⟨some 4, .assign (.const (.string ⟨#[]⟩)), none, []⟩]))
     (.ops [⟨some 20, .move (.tmp 4), none, []⟩,
       ⟨some 21, .move (.tmp 0), none, []⟩,
       ⟨some 22, .move (.tmp 5), none, []⟩,
       ⟨some 23, .move (.tmp 5), none, []⟩,
       ⟨some 24, .binOp .add 3 (.tmp 23) (.const (.int .i64 1)) 3, none, []⟩,
       ⟨some 25, .slice 9 (.tmp 21) (some (.tmp 22)) (some (.tmp 24)) none, none, []⟩,
       ⟨some 26, .binOp .add 9 (.tmp 20) (.tmp 25) 9, none, []⟩,
       ⟨some 4, .assign (.tmp 26), none, []⟩]))))
  (.ops [⟨some 10, .move (.tmp 5), none, []⟩,
    ⟨some 11, .binOp .add 3 (.tmp 10) (.const (.int .i64 1)) 3, none, []⟩,
    ⟨some 5, .assign (.tmp 11), none, []⟩])))
def pc17_r1 : PC :=
  (.seq (.ops [⟨some 27, .move (.tmp 3), none, []⟩,
    ⟨some 28, .move (.tmp 4), none, []⟩,
    ⟨some 29, .buildSlice 39 1 #[(0, (.tmp 28))], none, []⟩,
    ⟨some 30, .call ⟨.builtin .append, #[(.tmp 27), (.tmp 29)], #[39, 39]⟩, none, []⟩,
    ⟨some 2, .assign (.tmp 30), none, []⟩])
  .ret)
def pc17 : PC :=
  (.seq (.ops [⟨some 2, .assign (.const (.slice none 0 0)), none, []⟩])
  (.seq (.ops [⟨some 3, .assign (.const (.slice none 0 0)), none, []⟩])
  (.seq (.ops [⟨some 4, .assign (.const (.string ⟨#[]⟩)), none, []⟩])
  (.seq (.seq (.ops [⟨some 5, .assign (.const (.int .i64 0)), none, []⟩])
  (.block 0
   (.loop pc17_l1)))
  pc17_r1))))
theorem plan17 : Tryd.f17.body.bind (plan Tryd.f17.ntmps) = some pc17 := by kernel_rfl
theorem calls17 {G : Env} {args : List AV} {σ : AS} {R : Out → AS → Prop} (hn : args.length = 1) (h : avc Tryd.prog G 31 pc17 (afin Tryd.prog [.tmp 2] R) (frame0 args) σ) : ACalls Tryd.prog G 17 args σ R :=
  acalls' (n := 31) (l := [.tmp 2]) mixed Tryd.func17 (by kernel_rfl) (by kernel_rfl) plan17 (by omega) h

/- mortise/mortiseref26.Line -/
def pc18 : PC :=
  (.seq (.ops [⟨some 4, .assign (.const (.string ⟨#[]⟩)), none, []⟩])
  (.seq (.ops [⟨some 6, .move (.tmp 0), none, []⟩,
    ⟨some 7, .call ⟨.value (.func 17), #[(.tmp 6)], #[9]⟩, none, []⟩,
    ⟨some 5, .assign (.tmp 7), none, []⟩])
  (.seq (.seq (.ops [⟨some 8, .move (.tmp 1), none, []⟩,
    ⟨some 9, .binOp .lss 3 (.tmp 8) (.const (.int .i64 1)) 3, none, []⟩,
    ⟨some 10, .move (.tmp 9), none, []⟩,
    ⟨some 11, .move (.tmp 1), (some (10, false)), []⟩,
    ⟨some 12, .move (.tmp 5), (some (10, false)), []⟩,
    ⟨some 13, .call ⟨.builtin .len, #[(.tmp 12)], #[39]⟩, (some (10, false)), []⟩,
    ⟨some 14, .binOp .gtr 3 (.tmp 11) (.tmp 13) 3, (some (10, false)), []⟩,
    ⟨some 15, .pick (.tmp 10) (.const (.bool true)) (.tmp 14), none, []⟩])
  (.cond (.tmp 15)
    (.seq (.ops [⟨some 4, .assign (.const (.string ⟨#[]⟩)), none, []⟩])
    .ret)
    .skip))
  (.seq (.ops [⟨some 16, .move (.tmp 5), none, []⟩,
    ⟨some 17, .move (.tmp 1), none, []⟩,
    ⟨some 18, .binOp .sub 3 (.tmp 17) (.const (.int .i64 1)) 3, none, []⟩,
    ⟨some 19, .indexAddr 39 (.tmp 16) (.tmp 18), none, []⟩,
    ⟨some 20, .load 9 (.tmp 19), none, []⟩,
    ⟨some 4, .assign (.tmp 20), none, []⟩])
  .ret))))
theorem plan18 : Tryd.f18.body.bind (plan Tryd.f18.ntmps) = some pc18 := by kernel_rfl
theorem calls18 {G : Env} {args : List AV} {σ : AS} {R : Out → AS → Prop} (hn : args.length = 2) (h : avc Tryd.prog G 21 pc18 (afin Tryd.prog [.tmp 4] R) (frame0 args) σ) : ACalls Tryd.prog G 18 args σ R :=
  acalls' (n := 21) (l := [.tmp 4]) mixed Tryd.func18 (by kernel_rfl) (by kernel_rfl) plan18 (by omega) h

/- mortise/lines.Reason -/
def pc19 : PC :=
  (.seq (.ops [⟨some 2, .assign (.const (.string ⟨#[]⟩)), none, []⟩])
  (.seq (.seq (.ops [⟨some 3, .move (.tmp 0), none, []⟩,
    ⟨some 4, .binOp .lss 22 (.tmp 3) (.const (.int .i64 1)) 22, none, []⟩,
    ⟨some 5, .move (.tmp 4), none, []⟩,
    ⟨some 6, .move (.tmp 0), (some (5, false)), []⟩,
    ⟨some 7, .binOp .geq 3 (.tmp 6) (.const (.int .i64 15)) 3, (some (5, false)), []⟩,
    ⟨some 8, .pick (.tmp 5) (.const (.bool true)) (.tmp 7), none, []⟩])
  (.cond (.tmp 8)
    (.seq (.ops [⟨some 2, .assign (.const (.string ⟨#[117, 110, 107, 110, 111, 119, 110]⟩)), none, []⟩])
    .ret)
    .skip))
  (.seq (.ops [⟨some 9, .move (.tmp 0), none, []⟩,
    ⟨some 10, .indexAddr 65 (.global 0) (.tmp 9), none, []⟩,
    ⟨some 11, .load 9 (.tmp 10), none, []⟩,
    ⟨some 2, .assign (.tmp 11), none, []⟩])
  .ret)))
theorem plan19 : Tryd.f19.body.bind (plan Tryd.f19.ntmps) = some pc19 := by kernel_rfl
theorem calls19 {G : Env} {args : List AV} {σ : AS} {R : Out → AS → Prop} (hn : args.length = 1) (h : avc Tryd.prog G 12 pc19 (afin Tryd.prog [.tmp 2] R) (frame0 args) σ) : ACalls Tryd.prog G 19 args σ R :=
  acalls' (n := 12) (l := [.tmp 2]) mixed Tryd.func19 (by kernel_rfl) (by kernel_rfl) plan19 (by omega) h

/- mortise/mortiseref26.Reason -/
def pc20 : PC :=
  (.seq (.ops [⟨some 2, .assign (.const (.string ⟨#[]⟩)), none, []⟩])
  (.seq (.ops [⟨some 4, .buildSlice 39 15 #[(0, (.const (.string ⟨#[117, 110, 107, 110, 111, 119, 110]⟩))), (1, (.const (.string ⟨#[110, 111, 32, 115, 117, 99, 104, 32, 115, 105, 103, 110]⟩))), (2, (.const (.string ⟨#[116, 104, 105, 115, 32, 100, 111, 101, 115, 32, 110, 111, 116, 32, 102, 105, 116, 32, 104, 101, 114, 101]⟩))), (3, (.const (.string ⟨#[110, 101, 115, 116, 101, 100, 32, 116, 111, 111, 32, 100, 101, 101, 112]⟩))), (4, (.const (.string ⟨#[116, 104, 105, 115, 32, 110, 97, 109, 101, 32, 109, 101, 97, 110, 115, 32, 110, 111, 116, 104, 105, 110, 103, 32, 104, 101, 114, 101]⟩))), (5, (.const (.string ⟨#[116, 104, 105, 115, 32, 110, 97, 109, 101, 32, 105, 115, 32, 116, 104, 101, 114, 101, 32, 97, 108, 114, 101, 97, 100, 121]⟩))), (6, (.const (.string ⟨#[97, 110, 111, 116, 104, 101, 114, 32, 116, 121, 112, 101, 32, 109, 117, 115, 116, 32, 115, 116, 97, 110, 100, 32, 104, 101, 114, 101]⟩))), (7, (.const (.string ⟨#[97, 110, 111, 116, 104, 101, 114, 32, 110, 117, 109, 98, 101, 114, 32, 111, 102, 32, 97, 114, 103, 117, 109, 101, 110, 116, 115]⟩))), (8, (.const (.string ⟨#[110, 111, 32, 115, 117, 99, 104, 32, 108, 97, 98, 101, 108]⟩))), (9, (.const (.string ⟨#[116, 111, 111, 32, 109, 97, 110, 121]⟩))), (10, (.const (.string ⟨#[116, 111, 111, 32, 108, 111, 110, 103]⟩))), (11, (.const (.string ⟨#[97, 32, 110, 117, 109, 98, 101, 114, 32, 111, 117, 116, 32, 111, 102, 32, 105, 116, 115, 32, 112, 108, 97, 99, 101]⟩))), (12, (.const (.string ⟨#[109, 97, 105, 110, 32, 109, 117, 115, 116, 32, 98, 101, 32, 116, 104, 101, 114, 101, 58, 32, 105, 110, 116, 32, 109, 97, 105, 110, 40, 41]⟩))), (13, (.const (.string ⟨#[108, 111, 111, 112, 115, 32, 119, 105, 116, 104, 32, 116, 111, 111, 32, 109, 97, 110, 121, 32, 101, 110, 116, 114, 105, 101, 115]⟩))), (14, (.const (.string ⟨#[116, 104, 101, 32, 115, 116, 97, 99, 107, 32, 100, 111, 101, 115, 32, 110, 111, 116, 32, 102, 105, 116]⟩)))], none, []⟩,
    ⟨some 3, .assign (.tmp 4), none, []⟩])
  (.seq (.seq (.ops [⟨some 5, .move (.tmp 0), none, []⟩,
    ⟨some 6, .binOp .lss 22 (.tmp 5) (.const (.int .i64 0)) 22, none, []⟩,
    ⟨some 7, .move (.tmp 6), none, []⟩,
    ⟨some 8, .move (.tmp 0), (some (7, false)), []⟩,
    ⟨some 9, .move (.tmp 3), (some (7, false)), []⟩,
    ⟨some 10, .call ⟨.builtin .len, #[(.tmp 9)], #[39]⟩, (some (7, false)), []⟩,
    ⟨some 11, .binOp .geq 3 (.tmp 8) (.tmp 10) 3, (some (7, false)), []⟩,
    ⟨some 12, .pick (.tmp 7) (.const (.bool true)) (.tmp 11), none, []⟩])
  (.cond (.tmp 12)
    (.seq (.ops [⟨some 13, .move (.tmp 3), none, []⟩,
      ⟨some 14, .indexAddr 39 (.tmp 13) (.const (.int .i64 0)), none, []⟩,
      ⟨some 15, .load 9 (.tmp 14), none, []⟩,
      ⟨some 2, .assign (.tmp 15), none, []⟩])
    .ret)
    .skip))
  (.seq (.ops [⟨some 16, .move (.tmp 3), none, []⟩,
    ⟨some 17, .move (.tmp 0), none, []⟩,
    ⟨some 18, .indexAddr 39 (.tmp 16) (.tmp 17), none, []⟩,
    ⟨some 19, .load 9 (.tmp 18), none, []⟩,
    ⟨some 2, .assign (.tmp 19), none, []⟩])
  .ret))))
theorem plan20 : Tryd.f20.body.bind (plan Tryd.f20.ntmps) = some pc20 := by kernel_rfl
theorem calls20 {G : Env} {args : List AV} {σ : AS} {R : Out → AS → Prop} (hn : args.length = 1) (h : avc Tryd.prog G 20 pc20 (afin Tryd.prog [.tmp 2] R) (frame0 args) σ) : ACalls Tryd.prog G 20 args σ R :=
  acalls' (n := 20) (l := [.tmp 2]) mixed Tryd.func20 (by kernel_rfl) (by kernel_rfl) plan20 (by omega) h

/- mortise/mortiseref26.Tell -/
def pc21_l1 : PC :=
  (.seq (.seq (.ops [⟨some 33, .move (.tmp 9), none, []⟩,
    ⟨some 34, .move (.tmp 8), none, []⟩,
    ⟨some 35, .call ⟨.builtin .len, #[(.tmp 34)], #[9]⟩, none, []⟩,
    ⟨some 36, .binOp .lss 3 (.tmp 33) (.tmp 35) 3, none, []⟩])
  (.cond (.tmp 36)
    .skip
    (.exit 0)))
  (.seq (.block 1
   (.seq (.ops [⟨some 39, .move (.tmp 8), none, []⟩,
     ⟨some 40, .move (.tmp 9), none, []⟩,
     ⟨some 41, .index 9 (.tmp 39) (.tmp 40), none, []⟩,
     ⟨some 42, .binOp .lss 5 (.tmp 41) (.const (.int .u8 32)) 5, none, []⟩,
     ⟨some 43, .move (.tmp 42), none, []⟩,
     ⟨some 44, .move (.tmp 8), (some (43, false)), []⟩,
     ⟨some 45, .move (.tmp 9), (some (43, false)), []⟩,
     ⟨some 46, .index 9 (.tmp 44) (.tmp 45), (some (43, false)), []⟩,
     ⟨some 47, .binOp .gtr 5 (.tmp 46) (.const (.int .u8 126)) 5, (some (43, false)), []⟩,
     ⟨some 48, .pick (.tmp 43) (.const (.bool true)) (.tmp 47), none, []⟩])
   (.cond (.tmp 48)
     (.ops [⟨some 49, .move (.tmp 7), none, []⟩,
       ⟨some 50, .binOp .add 9 (.tmp 49) (.const (.string ⟨#[63]⟩)) 9, none, []⟩,
       ⟨some 7, .assign (.tmp 50), none, []⟩])
     (.ops [⟨some 51, .move (.tmp 7), none, []⟩,
       ⟨some 52, .move (.tmp 8), none, []⟩,
       ⟨some 53, .move (.tmp 9), none, []⟩,
       ⟨some 54, .move (.tmp 9), none, []⟩,
       ⟨some 55, .binOp .add 3 (.tmp 54) (.const (.int .i64 1)) 3, none, []⟩,
       ⟨some 56, .slice 9 (.tmp 52) (some (.tmp 53)) (some (.tmp 55)) none, none, []⟩,
       ⟨some 57, .binOp .add 9 (.tmp 51) (.tmp 56) 9, none, []⟩,
       ⟨some 7, .assign (.tmp 57), none, []⟩]))))
  (.ops [⟨some 37, .move (.tmp 9), none, []⟩,
    ⟨some 38, .binOp .add 3 (.tmp 37) (.const (.int .i64 1)) 3, none, []⟩,
    ⟨some 9, .assign (.tmp 38), none, []⟩])))
def pc21_l2 : PC :=
  (.seq (.seq (.ops [⟨some 60, .move (.tmp 10), none, []⟩,
    ⟨some 61, .move (.tmp 6), none, []⟩,
    ⟨some 62, .binOp .lss 3 (.tmp 60) (.tmp 61) 3, none, []⟩])
  (.cond (.tmp 62)
    .skip
    (.exit 2)))
  (.seq (.block 3
   (.ops [⟨some 65, .move (.tmp 7), none, []⟩,
     ⟨some 66, .binOp .add 9 (.tmp 65) (.const (.string ⟨#[32]⟩)) 9, none, []⟩,
     ⟨some 7, .assign (.tmp 66), none, []⟩]))
  (.ops [⟨some 63, .move (.tmp 10), none, []⟩,
    ⟨some 64, .binOp .add 3 (.tmp 63) (.const (.int .i64 1)) 3, none, []⟩,
    ⟨some 10, .assign (.tmp 64), none, []⟩])))
def pc21_r1 : PC :=
  (.seq (.ops [⟨some 67, .move (.tmp 7), none, []⟩,
    ⟨some 68, .binOp .add 9 (.tmp 67) (.const (.string ⟨#[94, 10]⟩)) 9, none, []⟩,
    ⟨some 4, .assign (.tmp 68), none, []⟩])
  .ret)
def pc21_r2 : PC :=
  (.seq (.ops [⟨some 58, .move (.tmp 7), none, []⟩,
    ⟨some 59, .binOp .add 9 (.tmp 58) (.const (.string ⟨#[10]⟩)) 9, none, []⟩,
    ⟨some 7, .assign (.tmp 59), none, []⟩])
  (.seq (.seq (.ops [⟨some 10, .assign (.const (.int .i64 1)), none, []⟩])
  (.block 2
   (.loop pc21_l2)))
  pc21_r1))
def pc21 : PC :=
  (.seq (.ops [⟨some 3, .box 24 (.tmp 1), none, []⟩,
    ⟨some 4, .assign (.const (.string ⟨#[]⟩)), none, []⟩])
  (.seq (.ops [⟨some 12, .move (.tmp 0), none, []⟩,
    ⟨some 13, .fieldAddr 24 (.tmp 3) 1, none, []⟩,
    ⟨some 14, .load 3 (.tmp 13), none, []⟩,
    ⟨some 15, .call ⟨.value (.func 13), #[(.tmp 12), (.tmp 14)], #[9, 3]⟩, none, []⟩,
    ⟨some 11, .move (.tmp 15), none, []⟩,
    ⟨some 16, .extract (.tmp 11) 0, none, []⟩,
    ⟨some 17, .extract (.tmp 11) 1, none, []⟩,
    ⟨some 5, .assign (.tmp 16), none, []⟩,
    ⟨some 6, .assign (.tmp 17), none, []⟩])
  (.seq (.ops [⟨some 18, .move (.tmp 5), none, []⟩,
    ⟨some 21, .move (.tmp 6), none, []⟩,
    ⟨some 25, .fieldAddr 24 (.tmp 3) 0, none, []⟩,
    ⟨some 26, .load 22 (.tmp 25), none, []⟩,
    ⟨some 19, .call ⟨.value (.func 30), #[(.tmp 18)], #[3]⟩, none, [⟨none, 22, (.tmp 25), 26⟩]⟩,
    ⟨some 20, .binOp .add 9 (.tmp 19) (.const (.string ⟨#[58]⟩)) 9, none, []⟩,
    ⟨some 22, .call ⟨.value (.func 30), #[(.tmp 21)], #[3]⟩, none, [⟨none, 22, (.tmp 25), 26⟩]⟩,
    ⟨some 23, .binOp .add 9 (.tmp 20) (.tmp 22) 9, none, []⟩,
    ⟨some 24, .binOp .add 9 (.tmp 23) (.const (.string ⟨#[58, 32]⟩)) 9, none, []⟩,
    ⟨some 27, .call ⟨.value (.func 20), #[(.tmp 26)], #[22]⟩, none, []⟩,
    ⟨some 28, .binOp .add 9 (.tmp 24) (.tmp 27) 9, none, []⟩,
    ⟨some 29, .binOp .add 9 (.tmp 28) (.const (.string ⟨#[10]⟩)) 9, none, []⟩,
    ⟨some 7, .assign (.tmp 29), none, []⟩])
  (.seq (.ops [⟨some 30, .move (.tmp 0), none, []⟩,
    ⟨some 31, .move (.tmp 5), none, []⟩,
    ⟨some 32, .call ⟨.value (.func 18), #[(.tmp 30), (.tmp 31)], #[9, 3]⟩, none, []⟩,
    ⟨some 8, .assign (.tmp 32), none, []⟩])
  (.seq (.seq (.ops [⟨some 9, .assign (.const (.int .i64 0)), none, []⟩])
  (.block 0
   (.loop pc21_l1)))
  pc21_r2)))))
theorem plan21 : Tryd.f21.body.bind (plan Tryd.f21.ntmps) = some pc21 := by kernel_rfl
theorem calls21 {G : Env} {args : List AV} {σ : AS} {R : Out → AS → Prop} (hn : args.length = 2) (h : avc Tryd.prog G 69 pc21 (afin Tryd.prog [.tmp 4] R) (frame0 args) σ) : ACalls Tryd.prog G 21 args σ R :=
  acalls' (n := 69) (l := [.tmp 4]) mixed Tryd.func21 (by kernel_rfl) (by kernel_rfl) plan21 (by omega) h

/- mortise/lines.shown -/
def pc24_l1 : PC :=
  (.seq (.ops [⟨some 11, .binOp .lss 3 (.tmp 10) (.tmp 9) 3, none, []⟩])
  (.seq (.cond (.tmp 11)
    .skip
    (.exit 0))
  (.seq (.block 1
   (.seq (.ops [⟨some 12, .move (.tmp 10), none, []⟩,
     ⟨some 13, .indexAddr 47 (.tmp 8) (.tmp 10), none, []⟩,
     ⟨some 14, .load 5 (.tmp 13), none, []⟩,
     ⟨some 4, .assign (.tmp 12), none, []⟩,
     ⟨some 5, .assign (.tmp 14), none, []⟩])
   (.seq (.ops [⟨some 15, .move (.tmp 5), none, []⟩,
     ⟨some 16, .binOp .lss 5 (.tmp 15) (.const (.int .u8 32)) 5, none, []⟩,
     ⟨some 17, .move (.tmp 16), none, []⟩,
     ⟨some 18, .move (.tmp 5), (some (17, false)), []⟩,
     ⟨some 19, .binOp .gtr 5 (.tmp 18) (.const (.int .u8 126)) 5, (some (17, false)), []⟩,
     ⟨some 20, .pick (.tmp 17) (.const (.bool true)) (.tmp 19), none, []⟩])
   (.cond (.tmp 20)
     (.ops [⟨some 21, .move (.tmp 3), none, []⟩,
       ⟨some 22, .move (.tmp 4), none, []⟩,
       ⟨some 23, .indexAddr 47 (.tmp 21) (.tmp 22), none, []⟩,
       ⟨none, .store 5 (.tmp 23) (.const (.int .u8 63)), none, []⟩])
     .skip))))
  (.ops [⟨some 24, .binOp .add 3 (.tmp 10) (.const (.int .i64 1)) 3, none, []⟩,
    ⟨some 10, .move (.tmp 24), none, []⟩]))))
def pc24_r1 : PC :=
  (.seq (.ops [⟨some 25, .move (.tmp 3), none, []⟩,
    ⟨some 26, .convert 47 9 (.tmp 25), none, []⟩,
    ⟨some 2, .assign (.tmp 26), none, []⟩])
  .ret)
def pc24 : PC :=
  (.seq (.ops [⟨some 2, .assign (.const (.string ⟨#[]⟩)), none, []⟩])
  (.seq (.ops [⟨some 6, .move (.tmp 0), none, []⟩,
    ⟨some 7, .convert 9 47 (.tmp 6), none, []⟩,
    ⟨some 3, .assign (.tmp 7), none, []⟩])
  (.seq (.seq (.ops [⟨some 8, .move (.tmp 3), none, []⟩,
    ⟨some 9, .call ⟨.builtin .len, #[(.tmp 8)], #[47]⟩, none, []⟩,
    ⟨some 10, .move (.const (.int .i64 0)), none, []⟩])
  (.block 0
   (.loop pc24_l1)))
  pc24_r1)))
theorem plan24 : Tryd.f24.body.bind (plan Tryd.f24.ntmps) = some pc24 := by kernel_rfl
theorem calls24 {G : Env} {args : List AV} {σ : AS} {R : Out → AS → Prop} (hn : args.length = 1) (h : avc Tryd.prog G 27 pc24 (afin Tryd.prog [.tmp 2] R) (frame0 args) σ) : ACalls Tryd.prog G 24 args σ R :=
  acalls' (n := 27) (l := [.tmp 2]) mixed Tryd.func24 (by kernel_rfl) (by kernel_rfl) plan24 (by omega) h

/- mortise/lines.line -/
def pc27 : PC :=
  (.seq (.ops [⟨some 4, .assign (.const (.string ⟨#[]⟩)), none, []⟩,
    ⟨some 5, .assign (.const (.int .i64 0)), none, []⟩,
    ⟨some 6, .assign (.const (.bool false)), none, []⟩])
  (.seq (.ops [⟨some 12, .move (.tmp 0), none, []⟩,
    ⟨some 13, .call ⟨.value (.func 10), #[(.tmp 12)], #[9]⟩, none, []⟩,
    ⟨some 7, .assign (.tmp 13), none, []⟩])
  (.seq (.seq (.ops [⟨some 14, .move (.tmp 1), none, []⟩,
    ⟨some 15, .binOp .lss 3 (.tmp 14) (.const (.int .i64 1)) 3, none, []⟩,
    ⟨some 16, .move (.tmp 15), none, []⟩,
    ⟨some 17, .move (.tmp 1), (some (16, false)), []⟩,
    ⟨some 18, .move (.tmp 7), (some (16, false)), []⟩,
    ⟨some 19, .call ⟨.value (.func 11), #[(.tmp 18)], #[29]⟩, (some (16, false)), []⟩,
    ⟨some 20, .binOp .gtr 3 (.tmp 17) (.tmp 19) 3, (some (16, false)), []⟩,
    ⟨some 21, .pick (.tmp 16) (.const (.bool true)) (.tmp 20), none, []⟩])
  (.cond (.tmp 21)
    (.seq (.ops [⟨some 4, .assign (.const (.string ⟨#[]⟩)), none, []⟩,
      ⟨some 5, .assign (.const (.int .i64 0)), none, []⟩,
      ⟨some 6, .assign (.const (.bool false)), none, []⟩])
    .ret)
    .skip))
  (.seq (.ops [⟨some 22, .move (.tmp 7), none, []⟩,
    ⟨some 23, .nilCheck (.tmp 22), none, []⟩,
    ⟨some 24, .fieldAddr 58 (.tmp 23) 0, none, []⟩,
    ⟨some 25, .load 44 (.tmp 24), none, []⟩,
    ⟨some 26, .move (.tmp 1), none, []⟩,
    ⟨some 27, .binOp .sub 3 (.tmp 26) (.const (.int .i64 1)) 3, none, []⟩,
    ⟨some 28, .indexAddr 44 (.tmp 25) (.tmp 27), none, []⟩,
    ⟨some 29, .load 3 (.tmp 28), none, []⟩,
    ⟨some 8, .assign (.tmp 29), none, []⟩])
  (.seq (.ops [⟨some 31, .move (.tmp 0), none, []⟩,
    ⟨some 32, .move (.tmp 8), none, []⟩,
    ⟨some 33, .slice 9 (.tmp 31) (some (.tmp 32)) none none, none, []⟩,
    ⟨some 34, .call ⟨.value (.func 37), #[(.tmp 33), (.const (.string ⟨#[10]⟩))], #[9, 9]⟩, none, []⟩,
    ⟨some 30, .move (.tmp 34), none, []⟩,
    ⟨some 35, .extract (.tmp 30) 0, none, []⟩,
    ⟨some 36, .extract (.tmp 30) 1, none, []⟩,
    ⟨some 37, .extract (.tmp 30) 2, none, []⟩,
    ⟨some 9, .assign (.tmp 35), none, []⟩,
    ⟨some 10, .assign (.tmp 36), none, []⟩,
    ⟨some 11, .assign (.tmp 37), none, []⟩])
  (.seq (.ops [⟨some 38, .move (.tmp 9), none, []⟩,
    ⟨some 39, .move (.tmp 8), none, []⟩,
    ⟨some 4, .assign (.tmp 38), none, []⟩,
    ⟨some 5, .assign (.tmp 39), none, []⟩,
    ⟨some 6, .assign (.const (.bool true)), none, []⟩])
  .ret))))))
theorem plan27 : Tryd.f27.body.bind (plan Tryd.f27.ntmps) = some pc27 := by kernel_rfl
theorem calls27 {G : Env} {args : List AV} {σ : AS} {R : Out → AS → Prop} (hn : args.length = 2) (h : avc Tryd.prog G 40 pc27 (afin Tryd.prog [.tmp 4, .tmp 5, .tmp 6] R) (frame0 args) σ) : ACalls Tryd.prog G 27 args σ R :=
  acalls' (n := 40) (l := [.tmp 4, .tmp 5, .tmp 6]) mixed Tryd.func27 (by kernel_rfl) (by kernel_rfl) plan27 (by omega) h

/- sort.Search -/
def pc28_l1 : PC :=
  (.seq (.seq (.ops [⟨some 9, .move (.tmp 5), none, []⟩,
    ⟨some 10, .move (.tmp 6), none, []⟩,
    ⟨some 11, .binOp .lss 3 (.tmp 9) (.tmp 10) 3, none, []⟩])
  (.cond (.tmp 11)
    .skip
    (.exit 0)))
  (.block 1
   (.seq (.ops [⟨some 12, .move (.tmp 5), none, []⟩,
     ⟨some 13, .move (.tmp 6), none, []⟩,
     ⟨some 14, .binOp .add 3 (.tmp 12) (.tmp 13) 3, none, []⟩,
     ⟨some 15, .convert 3 66 (.tmp 14), none, []⟩,
     ⟨some 16, .binOp .shr 66 (.tmp 15) (.const (.int .u64 1)) 66, none, []⟩,
     ⟨some 17, .convert 66 3 (.tmp 16), none, []⟩,
     ⟨some 7, .assign (.tmp 17), none, []⟩])
   (.seq (.ops [⟨some 18, .move (.tmp 1), none, []⟩,
     ⟨some 19, .move (.tmp 7), none, []⟩,
     ⟨some 20, .call ⟨.value (.tmp 18), #[(.tmp 19)], #[3]⟩, none, []⟩,
     ⟨some 21, .unOp .not 4 (.tmp 20), none, []⟩])
   (.cond (.tmp 21)
     (.ops [⟨some 22, .move (.tmp 7), none, []⟩,
       ⟨some 23, .binOp .add 3 (.tmp 22) (.const (.int .i64 1)) 3, none, []⟩,
       ⟨some 5, .assign (.tmp 23), none, []⟩])
     (.ops [⟨some 24, .move (.tmp 7), none, []⟩,
       ⟨some 6, .assign (.tmp 24), none, []⟩]))))))
def pc28_r1 : PC :=
  (.seq (.ops [⟨some 25, .move (.tmp 5), none, []⟩,
    ⟨some 4, .assign (.tmp 25), none, []⟩])
  .ret)
def pc28 : PC :=
  (.seq (.ops [⟨some 4, .assign (.const (.int .i64 0)), none, []⟩])
  (.seq (.ops [⟨some 8, .move (.tmp 0), none, []⟩,
    ⟨some 5, .assign (.const (.int .i64 0)), none, []⟩,
    ⟨some 6, .assign (.tmp 8), none, []⟩])
  (.seq (.block 0
   (.loop pc28_l1))
  pc28_r1)))
theorem plan28 : Tryd.f28.body.bind (plan Tryd.f28.ntmps) = some pc28 := by kernel_rfl
theorem calls28 {G : Env} {args : List AV} {σ : AS} {R : Out → AS → Prop} (hn : args.length = 2) (h : avc Tryd.prog G 26 pc28 (afin Tryd.prog [.tmp 4] R) (frame0 args) σ) : ACalls Tryd.prog G 28 args σ R :=
  acalls' (n := 26) (l := [.tmp 4]) mixed Tryd.func28 (by kernel_rfl) (by kernel_rfl) plan28 (by omega) h

/- (mortise/lines.behind).is -/
def pc29 : PC :=
  (.seq (.ops [⟨some 2, .box 64 (.tmp 0), none, []⟩,
    ⟨some 4, .assign (.const (.bool false)), none, []⟩])
  (.seq (.ops [⟨some 5, .fieldAddr 64 (.tmp 2) 0, none, []⟩,
    ⟨some 6, .load 44 (.tmp 5), none, []⟩,
    ⟨some 7, .move (.tmp 1), none, []⟩,
    ⟨some 8, .indexAddr 44 (.tmp 6) (.tmp 7), none, []⟩,
    ⟨some 9, .load 3 (.tmp 8), none, []⟩,
    ⟨some 10, .fieldAddr 64 (.tmp 2) 1, none, []⟩,
    ⟨some 11, .load 3 (.tmp 10), none, []⟩,
    ⟨some 12, .binOp .gtr 3 (.tmp 9) (.tmp 11) 3, none, []⟩,
    ⟨some 4, .assign (.tmp 12), none, []⟩])
  .ret))
theorem plan29 : Tryd.f29.body.bind (plan Tryd.f29.ntmps) = some pc29 := by kernel_rfl
theorem calls29 {G : Env} {args : List AV} {σ : AS} {R : Out → AS → Prop} (hn : args.length = 2) (h : avc Tryd.prog G 13 pc29 (afin Tryd.prog [.tmp 4] R) (frame0 args) σ) : ACalls Tryd.prog G 29 args σ R :=
  acalls' (n := 13) (l := [.tmp 4]) mixed Tryd.func29 (by kernel_rfl) (by kernel_rfl) plan29 (by omega) h

/- mortise/mortiseref26.Digits -/
def pc30 : PC :=
  (.seq (.ops [⟨some 2, .assign (.const (.string ⟨#[]⟩)), none, []⟩])
  (.seq (.seq (.ops [⟨some 3, .move (.tmp 0), none, []⟩,
    ⟨some 4, .binOp .lss 3 (.tmp 3) (.const (.int .i64 10)) 3, none, []⟩])
  (.cond (.tmp 4)
    (.seq (.ops [⟨some 5, .move (.tmp 0), none, []⟩,
      ⟨some 6, .binOp .add 3 (.const (.int .i64 48)) (.tmp 5) 3, none, []⟩,
      ⟨some 7, .convert 3 5 (.tmp 6), none, []⟩,
      ⟨some 8, .buildSlice 47 1 #[(0, (.tmp 7))], none, []⟩,
      ⟨some 9, .convert 47 9 (.tmp 8), none, []⟩,
      ⟨some 2, .assign (.tmp 9), none, []⟩])
    .ret)
    .skip))
  (.seq (.ops [⟨some 10, .move (.tmp 0), none, []⟩,
    ⟨some 11, .binOp .quo 3 (.tmp 10) (.const (.int .i64 10)) 3, none, []⟩,
    ⟨some 12, .call ⟨.value (.func 30), #[(.tmp 11)], #[3]⟩, none, []⟩,
    ⟨some 13, .move (.tmp 0), none, []⟩,
    ⟨some 14, .binOp .rem 3 (.tmp 13) (.const (.int .i64 10)) 3, none, []⟩,
    ⟨some 15, .call ⟨.value (.func 30), #[(.tmp 14)], #[3]⟩, none, []⟩,
    ⟨some 16, .binOp .add 9 (.tmp 12) (.tmp 15) 9, none, []⟩,
    ⟨some 2, .assign (.tmp 16), none, []⟩])
  .ret)))
theorem plan30 : Tryd.f30.body.bind (plan Tryd.f30.ntmps) = some pc30 := by kernel_rfl
theorem calls30 {G : Env} {args : List AV} {σ : AS} {R : Out → AS → Prop} (hn : args.length = 1) (h : avc Tryd.prog G 17 pc30 (afin Tryd.prog [.tmp 2] R) (frame0 args) σ) : ACalls Tryd.prog G 30 args σ R :=
  acalls' (n := 17) (l := [.tmp 2]) mixed Tryd.func30 (by kernel_rfl) (by kernel_rfl) plan30 (by omega) h

@[simp] theorem t_str9 : isStr Tryd.prog 9 = true := by kernel_rfl
@[simp] theorem t_und3 : Tryd.prog.underlying 3 = some (.int .i64) := by kernel_rfl
@[simp] theorem t_call7 : callable Tryd.prog 7 = true := by kernel_rfl
@[simp] theorem t_sz24 : szOf Tryd.prog 24 = some 2 := by kernel_rfl
@[simp] theorem t_agg24 : aggOf Tryd.prog 24 = true := by kernel_rfl
@[simp] theorem t_call8 : callable Tryd.prog 8 = true := by kernel_rfl
@[simp] theorem t_fi24_1 : fiOf Tryd.prog 24 1 = some ⟨1, 1, false⟩ := by kernel_rfl
@[simp] theorem t_sz3 : szOf Tryd.prog 3 = some 1 := by kernel_rfl
@[simp] theorem t_agg3 : aggOf Tryd.prog 3 = false := by kernel_rfl
@[simp] theorem t_call9 : callable Tryd.prog 9 = true := by kernel_rfl
@[simp] theorem t_call10 : callable Tryd.prog 10 = true := by kernel_rfl
@[simp] theorem t_und29 : Tryd.prog.underlying 29 = some (.pointer 58) := by kernel_rfl
@[simp] theorem t_call11 : callable Tryd.prog 11 = true := by kernel_rfl
@[simp] theorem t_call12 : callable Tryd.prog 12 = true := by kernel_rfl
@[simp] theorem t_und9 : Tryd.prog.underlying 9 = some .string := by kernel_rfl
@[simp] theorem t_und5 : Tryd.prog.underlying 5 = some (.int .u8) := by kernel_rfl
@[simp] theorem t_und4 : Tryd.prog.underlying 4 = some .bool := by kernel_rfl
@[simp] theorem t_fi35_0 : fiOf Tryd.prog 35 0 = some ⟨0, 1, false⟩ := by kernel_rfl
@[simp] theorem t_sz9 : szOf Tryd.prog 9 = some 1 := by kernel_rfl
@[simp] theorem t_agg9 : aggOf Tryd.prog 9 = false := by kernel_rfl
@[simp] theorem t_fi35_1 : fiOf Tryd.prog 35 1 = some ⟨1, 2, true⟩ := by kernel_rfl
@[simp] theorem t_fi35_2 : fiOf Tryd.prog 35 2 = some ⟨3, 1, false⟩ := by kernel_rfl
@[simp] theorem t_fi35_3 : fiOf Tryd.prog 35 3 = some ⟨4, 1, false⟩ := by kernel_rfl
@[simp] theorem t_zero24 : zeroOf Tryd.prog 24 = some (.agg [(.int .i64 0), (.int .i64 0)]) := by kernel_rfl
@[simp] theorem t_call13 : callable Tryd.prog 13 = true := by kernel_rfl
@[simp] theorem t_call14 : callable Tryd.prog 14 = true := by kernel_rfl
@[simp] theorem t_call15 : callable Tryd.prog 15 = true := by kernel_rfl
@[simp] theorem t_call16 : callable Tryd.prog 16 = true := by kernel_rfl
@[simp] theorem t_call17 : callable Tryd.prog 17 = true := by kernel_rfl
@[simp] theorem t_el39 : elOf Tryd.prog 39 = some 1 := by kernel_rfl
@[simp] theorem t_str39 : isStr Tryd.prog 39 = false := by kernel_rfl
@[simp] theorem t_call18 : callable Tryd.prog 18 = true := by kernel_rfl
@[simp] theorem t_fi24_0 : fiOf Tryd.prog 24 0 = some ⟨0, 1, false⟩ := by kernel_rfl
@[simp] theorem t_sz22 : szOf Tryd.prog 22 = some 1 := by kernel_rfl
@[simp] theorem t_agg22 : aggOf Tryd.prog 22 = false := by kernel_rfl
@[simp] theorem t_call19 : callable Tryd.prog 19 = true := by kernel_rfl
@[simp] theorem t_call20 : callable Tryd.prog 20 = true := by kernel_rfl
@[simp] theorem t_call21 : callable Tryd.prog 21 = true := by kernel_rfl
@[simp] theorem t_el44 : elOf Tryd.prog 44 = some 1 := by kernel_rfl
@[simp] theorem t_ez44 : elZero Tryd.prog 44 = some (.int .i64 0) := by kernel_rfl
@[simp] theorem t_el45 : elOf Tryd.prog 45 = some 1 := by kernel_rfl
@[simp] theorem t_ez45 : elZero Tryd.prog 45 = some .nilsl := by kernel_rfl
@[simp] theorem t_str44 : isStr Tryd.prog 44 = false := by kernel_rfl
@[simp] theorem t_str45 : isStr Tryd.prog 45 = false := by kernel_rfl
@[simp] theorem t_sz44 : szOf Tryd.prog 44 = some 1 := by kernel_rfl
@[simp] theorem t_agg44 : aggOf Tryd.prog 44 = false := by kernel_rfl
@[simp] theorem t_struct24 : isStruct Tryd.prog 24 = true := by kernel_rfl
@[simp] theorem t_sized24 : sized Tryd.prog 24 = true := by kernel_rfl
@[simp] theorem t_struct58 : isStruct Tryd.prog 58 = true := by kernel_rfl
@[simp] theorem t_sized58 : sized Tryd.prog 58 = true := by kernel_rfl
@[simp] theorem t_zero58 : zeroOf Tryd.prog 58 = some (.agg [.nilsl, (.int .i64 0)]) := by kernel_rfl
@[simp] theorem t_fi58_0 : fiOf Tryd.prog 58 0 = some ⟨0, 1, false⟩ := by kernel_rfl
@[simp] theorem t_fi58_1 : fiOf Tryd.prog 58 1 = some ⟨1, 1, false⟩ := by kernel_rfl
@[simp] theorem t_eb44 : elBytes Tryd.prog 44 = some 8 := by kernel_rfl
@[simp] theorem t_call27 : callable Tryd.prog 27 = true := by kernel_rfl
@[simp] theorem t_struct64 : isStruct Tryd.prog 64 = true := by kernel_rfl
@[simp] theorem t_sized64 : sized Tryd.prog 64 = true := by kernel_rfl
@[simp] theorem t_zero64 : zeroOf Tryd.prog 64 = some (.agg [.nilsl, (.int .i64 0)]) := by kernel_rfl
@[simp] theorem t_fi64_0 : fiOf Tryd.prog 64 0 = some ⟨0, 1, false⟩ := by kernel_rfl
@[simp] theorem t_fi64_1 : fiOf Tryd.prog 64 1 = some ⟨1, 1, false⟩ := by kernel_rfl
@[simp] theorem t_call29 : callable Tryd.prog 29 = true := by kernel_rfl
@[simp] theorem t_call28 : callable Tryd.prog 28 = true := by kernel_rfl
@[simp] theorem t_ez39 : elZero Tryd.prog 39 = some (.str []) := by kernel_rfl
@[simp] theorem t_eb39 : elBytes Tryd.prog 39 = some 16 := by kernel_rfl
@[simp] theorem t_und22 : Tryd.prog.underlying 22 = some (.int .i64) := by kernel_rfl
@[simp] theorem t_ar65 : arOf Tryd.prog 65 = some (15, 1, false) := by kernel_rfl
@[simp] theorem t_str65 : isStr Tryd.prog 65 = false := by kernel_rfl
@[simp] theorem t_call30 : callable Tryd.prog 30 = true := by kernel_rfl
@[simp] theorem t_str47 : isStr Tryd.prog 47 = false := by kernel_rfl
@[simp] theorem t_u8_9 : isU8 Tryd.prog 9 = false := by kernel_rfl
@[simp] theorem t_u8_47 : isU8 Tryd.prog 47 = true := by kernel_rfl
@[simp] theorem t_some9 : (Tryd.prog.underlying 9).isSome = true := by kernel_rfl
@[simp] theorem t_el47 : elOf Tryd.prog 47 = some 1 := by kernel_rfl
@[simp] theorem t_sz5 : szOf Tryd.prog 5 = some 1 := by kernel_rfl
@[simp] theorem t_agg5 : aggOf Tryd.prog 5 = false := by kernel_rfl
@[simp] theorem t_some47 : (Tryd.prog.underlying 47).isSome = true := by kernel_rfl
@[simp] theorem t_call37 : callable Tryd.prog 37 = true := by kernel_rfl
@[simp] theorem t_str66 : isStr Tryd.prog 66 = false := by kernel_rfl
@[simp] theorem t_str3 : isStr Tryd.prog 3 = false := by kernel_rfl
@[simp] theorem t_u8_3 : isU8 Tryd.prog 3 = false := by kernel_rfl
@[simp] theorem t_u8_66 : isU8 Tryd.prog 66 = false := by kernel_rfl
@[simp] theorem t_int66 : intOf? Tryd.prog 66 = some .u64 := by kernel_rfl
@[simp] theorem t_some3 : (Tryd.prog.underlying 3).isSome = true := by kernel_rfl
@[simp] theorem t_und66 : Tryd.prog.underlying 66 = some (.int .u64) := by kernel_rfl
@[simp] theorem t_int3 : intOf? Tryd.prog 3 = some .i64 := by kernel_rfl
@[simp] theorem t_some66 : (Tryd.prog.underlying 66).isSome = true := by kernel_rfl
@[simp] theorem t_str5 : isStr Tryd.prog 5 = false := by kernel_rfl
@[simp] theorem t_u8_5 : isU8 Tryd.prog 5 = false := by kernel_rfl
@[simp] theorem t_int5 : intOf? Tryd.prog 5 = some .u8 := by kernel_rfl
@[simp] theorem t_ez47 : elZero Tryd.prog 47 = some (.int .u8 0) := by kernel_rfl

end Go.Proofs.YtmbibfeiemblkaaDoor
