/- The planned texts of the functions, and facts on the program's types; written by a program; no condition. -/
import Derived.Test.YthifgodgfhbnfaaChecked
import Derived.Test.YthifgodgfhbnfaaAbs20
import Derived.KernelRfl
set_option maxRecDepth 100000
namespace Go.Proofs.Ythifgodgfhbnfaa
open Go Go.Abs

theorem mixed : Try.prog.follows .mixedOrders = true := by kernel_rfl

/- mortise/mortiselaw22.PeepKnown -/
def pc3 : PC :=
  (.seq (.ops [⟨some 0, .assign (.const (.bool false)), none, []⟩])
  (.seq (.ops [⟨some 10, .call ⟨.value (.func 5), #[(.const (.int .i64 7))], #[3]⟩, none, []⟩,
    ⟨some 11, .call ⟨.value (.func 6), #[], #[]⟩, none, []⟩,
    ⟨some 12, .call ⟨.value (.func 7), #[], #[]⟩, none, []⟩,
    ⟨some 13, .call ⟨.value (.func 8), #[], #[]⟩, none, []⟩,
    ⟨some 14, .buildSlice 27 4 #[(0, (.tmp 10)), (1, (.tmp 11)), (2, (.tmp 12)), (3, (.tmp 13))], none, []⟩,
    ⟨some 15, .call ⟨.value (.func 5), #[(.const (.int .i64 7))], #[3]⟩, none, []⟩,
    ⟨some 16, .call ⟨.value (.func 6), #[], #[]⟩, none, []⟩,
    ⟨some 17, .buildSlice 27 2 #[(0, (.tmp 15)), (1, (.tmp 16))], none, []⟩,
    ⟨some 18, .call ⟨.value (.func 4), #[(.tmp 14), (.tmp 17)], #[27, 27]⟩, none, []⟩,
    ⟨some 19, .move (.tmp 18), none, []⟩,
    ⟨some 20, .call ⟨.value (.func 5), #[(.const (.int .i64 7))], #[3]⟩, (some (19, true)), []⟩,
    ⟨some 21, .call ⟨.value (.func 5), #[(.const (.int .i64 1))], #[3]⟩, (some (19, true)), []⟩,
    ⟨some 22, .build 24 #[(0, (.const (.int .i64 15))), (2, (.const (.int .i64 0)))], (some (19, true)), []⟩,
    ⟨some 23, .call ⟨.value (.func 8), #[], #[]⟩, (some (19, true)), []⟩,
    ⟨some 24, .call ⟨.value (.func 5), #[(.const (.int .i64 3))], #[3]⟩, (some (19, true)), []⟩,
    ⟨some 25, .buildSlice 27 5 #[(0, (.tmp 20)), (1, (.tmp 21)), (2, (.tmp 22)), (3, (.tmp 23)), (4, (.tmp 24))], (some (19, true)), []⟩,
    ⟨some 26, .call ⟨.value (.func 5), #[(.const (.int .i64 7))], #[3]⟩, (some (19, true)), []⟩,
    ⟨some 27, .build 24 #[(0, (.const (.int .i64 14)))], (some (19, true)), []⟩,
    ⟨some 28, .buildSlice 27 2 #[(0, (.tmp 26)), (1, (.tmp 27))], (some (19, true)), []⟩,
    ⟨some 29, .call ⟨.value (.func 4), #[(.tmp 25), (.tmp 28)], #[27, 27]⟩, (some (19, true)), []⟩,
    ⟨some 30, .pick (.tmp 19) (.tmp 29) (.const (.bool false)), none, []⟩,
    ⟨some 31, .move (.tmp 30), none, []⟩,
    ⟨some 32, .call ⟨.value (.func 5), #[(.const (.int .i64 7))], #[3]⟩, (some (31, true)), []⟩,
    ⟨some 33, .call ⟨.value (.func 5), #[(.const (.int .i64 0))], #[3]⟩, (some (31, true)), []⟩,
    ⟨some 34, .build 24 #[(0, (.const (.int .i64 15))), (2, (.const (.int .i64 0)))], (some (31, true)), []⟩,
    ⟨some 35, .buildSlice 27 3 #[(0, (.tmp 32)), (1, (.tmp 33)), (2, (.tmp 34))], (some (31, true)), []⟩,
    ⟨some 36, .call ⟨.value (.func 5), #[(.const (.int .i64 7))], #[3]⟩, (some (31, true)), []⟩,
    ⟨some 37, .buildSlice 27 1 #[(0, (.tmp 36))], (some (31, true)), []⟩,
    ⟨some 38, .call ⟨.value (.func 4), #[(.tmp 35), (.tmp 37)], #[27, 27]⟩, (some (31, true)), []⟩,
    ⟨some 39, .pick (.tmp 31) (.tmp 38) (.const (.bool false)), none, []⟩,
    ⟨some 40, .move (.tmp 39), none, []⟩,
    ⟨some 41, .call ⟨.value (.func 5), #[(.const (.int .i64 0))], #[3]⟩, (some (40, true)), []⟩,
    ⟨some 42, .call ⟨.value (.func 9), #[], #[]⟩, (some (40, true)), []⟩,
    ⟨some 43, .call ⟨.value (.func 9), #[], #[]⟩, (some (40, true)), []⟩,
    ⟨some 44, .call ⟨.value (.func 9), #[], #[]⟩, (some (40, true)), []⟩,
    ⟨some 45, .buildSlice 27 4 #[(0, (.tmp 41)), (1, (.tmp 42)), (2, (.tmp 43)), (3, (.tmp 44))], (some (40, true)), []⟩,
    ⟨some 46, .call ⟨.value (.func 5), #[(.const (.int .i64 1))], #[3]⟩, (some (40, true)), []⟩,
    ⟨some 47, .buildSlice 27 1 #[(0, (.tmp 46))], (some (40, true)), []⟩,
    ⟨some 48, .call ⟨.value (.func 4), #[(.tmp 45), (.tmp 47)], #[27, 27]⟩, (some (40, true)), []⟩,
    ⟨some 49, .pick (.tmp 40) (.tmp 48) (.const (.bool false)), none, []⟩,
    ⟨some 1, .assign (.tmp 49), none, []⟩])
  (.seq (.ops [⟨some 50, .build 24 #[(0, (.const (.int .i64 1))), (1, (.const (.int .i64 2))), (2, (.const (.int .i64 3)))], none, []⟩,
    ⟨some 51, .build 24 #[(0, (.const (.int .i64 5))), (1, (.const (.int .i64 2)))], none, []⟩,
    ⟨some 52, .buildSlice 27 2 #[(0, (.tmp 50)), (1, (.tmp 51))], none, []⟩,
    ⟨some 53, .call ⟨.value (.func 5), #[(.const (.int .i64 0))], #[3]⟩, none, []⟩,
    ⟨some 54, .buildSlice 27 1 #[(0, (.tmp 53))], none, []⟩,
    ⟨some 55, .call ⟨.value (.func 4), #[(.tmp 52), (.tmp 54)], #[27, 27]⟩, none, []⟩,
    ⟨some 2, .assign (.tmp 55), none, []⟩])
  (.seq (.ops [⟨some 56, .call ⟨.value (.func 5), #[(.const (.int .i64 1))], #[3]⟩, none, []⟩,
    ⟨some 57, .build 24 #[(0, (.const (.int .i64 3)))], none, []⟩,
    ⟨some 58, .buildSlice 27 2 #[(0, (.tmp 56)), (1, (.tmp 57))], none, []⟩,
    ⟨some 3, .assign (.tmp 58), none, []⟩])
  (.seq (.ops [⟨some 59, .call ⟨.value (.func 5), #[(.const (.int .i64 2))], #[3]⟩, none, []⟩,
    ⟨some 60, .build 24 #[(0, (.const (.int .i64 3)))], none, []⟩,
    ⟨some 61, .call ⟨.value (.func 7), #[], #[]⟩, none, []⟩,
    ⟨some 62, .call ⟨.value (.func 8), #[], #[]⟩, none, []⟩,
    ⟨some 63, .buildSlice 27 4 #[(0, (.tmp 59)), (1, (.tmp 60)), (2, (.tmp 61)), (3, (.tmp 62))], none, []⟩,
    ⟨some 4, .assign (.tmp 63), none, []⟩])
  (.seq (.ops [⟨some 64, .move (.tmp 3), none, []⟩,
    ⟨some 65, .move (.tmp 4), none, []⟩,
    ⟨some 66, .call ⟨.value (.func 5), #[(.const (.int .i64 0))], #[3]⟩, none, []⟩,
    ⟨some 67, .build 24 #[(0, (.const (.int .i64 13))), (3, (.const (.int .i64 0))), (4, (.const (.int .i64 1)))], none, []⟩,
    ⟨some 68, .call ⟨.value (.func 7), #[], #[]⟩, none, []⟩,
    ⟨some 69, .buildSlice 27 3 #[(0, (.tmp 66)), (1, (.tmp 67)), (2, (.tmp 68))], none, []⟩,
    ⟨some 70, .buildSlice 34 3 #[(0, (.tmp 64)), (1, (.tmp 65)), (2, (.tmp 69))], none, []⟩,
    ⟨some 71, .call ⟨.value (.func 11), #[(.tmp 70)], #[34]⟩, none, []⟩,
    ⟨some 72, .call ⟨.value (.func 10), #[(.tmp 71)], #[30]⟩, none, []⟩,
    ⟨some 5, .alloc 30, none, []⟩,
    ⟨none, .store 30 (.tmp 5) (.tmp 72), none, []⟩])
  (.seq (.ops [⟨some 73, .move (.tmp 3), none, []⟩,
    ⟨some 74, .move (.tmp 4), none, []⟩,
    ⟨some 75, .call ⟨.value (.func 5), #[(.const (.int .i64 9))], #[3]⟩, none, []⟩,
    ⟨some 76, .build 24 #[(0, (.const (.int .i64 13))), (3, (.const (.int .i64 0))), (4, (.const (.int .i64 1)))], none, []⟩,
    ⟨some 77, .call ⟨.value (.func 7), #[], #[]⟩, none, []⟩,
    ⟨some 78, .buildSlice 27 3 #[(0, (.tmp 75)), (1, (.tmp 76)), (2, (.tmp 77))], none, []⟩,
    ⟨some 79, .buildSlice 34 3 #[(0, (.tmp 73)), (1, (.tmp 74)), (2, (.tmp 78))], none, []⟩,
    ⟨some 80, .call ⟨.value (.func 11), #[(.tmp 79)], #[34]⟩, none, []⟩,
    ⟨some 81, .call ⟨.value (.func 10), #[(.tmp 80)], #[30]⟩, none, []⟩,
    ⟨some 6, .alloc 30, none, []⟩,
    ⟨none, .store 30 (.tmp 6) (.tmp 81), none, []⟩])
  (.seq (.ops [⟨some 82, .move (.tmp 3), none, []⟩,
    ⟨some 83, .call ⟨.value (.func 5), #[(.const (.int .i64 0))], #[3]⟩, none, []⟩,
    ⟨some 84, .build 24 #[(0, (.const (.int .i64 13))), (3, (.const (.int .i64 0))), (4, (.const (.int .i64 (-1))))], none, []⟩,
    ⟨some 85, .call ⟨.value (.func 7), #[], #[]⟩, none, []⟩,
    ⟨some 86, .buildSlice 27 3 #[(0, (.tmp 83)), (1, (.tmp 84)), (2, (.tmp 85))], none, []⟩,
    ⟨some 87, .buildSlice 34 2 #[(0, (.tmp 82)), (1, (.tmp 86))], none, []⟩,
    ⟨some 88, .call ⟨.value (.func 11), #[(.tmp 87)], #[34]⟩, none, []⟩,
    ⟨some 89, .call ⟨.value (.func 10), #[(.tmp 88)], #[30]⟩, none, []⟩,
    ⟨some 7, .alloc 30, none, []⟩,
    ⟨none, .store 30 (.tmp 7) (.tmp 89), none, []⟩])
  (.seq (.ops [⟨some 90, .move (.tmp 3), none, []⟩,
    ⟨some 91, .move (.tmp 4), none, []⟩,
    ⟨some 92, .call ⟨.value (.func 7), #[], #[]⟩, none, []⟩,
    ⟨some 93, .build 24 #[(0, (.const (.int .i64 13))), (3, (.const (.int .i64 0))), (4, (.const (.int .i64 1)))], none, []⟩,
    ⟨some 94, .call ⟨.value (.func 7), #[], #[]⟩, none, []⟩,
    ⟨some 95, .buildSlice 27 3 #[(0, (.tmp 92)), (1, (.tmp 93)), (2, (.tmp 94))], none, []⟩,
    ⟨some 96, .buildSlice 34 3 #[(0, (.tmp 90)), (1, (.tmp 91)), (2, (.tmp 95))], none, []⟩,
    ⟨some 97, .call ⟨.value (.func 11), #[(.tmp 96)], #[34]⟩, none, []⟩,
    ⟨some 98, .call ⟨.value (.func 10), #[(.tmp 97)], #[30]⟩, none, []⟩,
    ⟨some 8, .alloc 30, none, []⟩,
    ⟨none, .store 30 (.tmp 8) (.tmp 98), none, []⟩])
  (.seq (.seq (.ops [⟨some 99, .fieldAddr 30 (.tmp 5) 0, none, []⟩,
    ⟨some 100, .load 28 (.tmp 99), none, []⟩,
    ⟨some 101, .call ⟨.builtin .len, #[(.tmp 100)], #[28]⟩, none, []⟩,
    ⟨some 102, .binOp .neq 3 (.tmp 101) (.const (.int .i64 1)) 3, none, []⟩,
    ⟨some 103, .move (.tmp 102), none, []⟩,
    ⟨some 104, .fieldAddr 30 (.tmp 6) 0, (some (103, false)), []⟩,
    ⟨some 105, .load 28 (.tmp 104), (some (103, false)), []⟩,
    ⟨some 106, .call ⟨.builtin .len, #[(.tmp 105)], #[28]⟩, (some (103, false)), []⟩,
    ⟨some 107, .binOp .neq 3 (.tmp 106) (.const (.int .i64 1)) 3, (some (103, false)), []⟩,
    ⟨some 108, .pick (.tmp 103) (.const (.bool true)) (.tmp 107), none, []⟩,
    ⟨some 109, .move (.tmp 108), none, []⟩,
    ⟨some 110, .fieldAddr 30 (.tmp 7) 0, (some (109, false)), []⟩,
    ⟨some 111, .load 28 (.tmp 110), (some (109, false)), []⟩,
    ⟨some 112, .call ⟨.builtin .len, #[(.tmp 111)], #[28]⟩, (some (109, false)), []⟩,
    ⟨some 113, .binOp .neq 3 (.tmp 112) (.const (.int .i64 1)) 3, (some (109, false)), []⟩,
    ⟨some 114, .pick (.tmp 109) (.const (.bool true)) (.tmp 113), none, []⟩,
    ⟨some 115, .move (.tmp 114), none, []⟩,
    ⟨some 116, .fieldAddr 30 (.tmp 8) 0, (some (115, false)), []⟩,
    ⟨some 117, .load 28 (.tmp 116), (some (115, false)), []⟩,
    ⟨some 118, .call ⟨.builtin .len, #[(.tmp 117)], #[28]⟩, (some (115, false)), []⟩,
    ⟨some 119, .binOp .neq 3 (.tmp 118) (.const (.int .i64 1)) 3, (some (115, false)), []⟩,
    ⟨some 120, .pick (.tmp 115) (.const (.bool true)) (.tmp 119), none, []⟩,
    ⟨some 121, .move (.tmp 120), none, []⟩,
    ⟨some 122, .fieldAddr 30 (.tmp 5) 0, (some (121, false)), []⟩,
    ⟨some 123, .load 28 (.tmp 122), (some (121, false)), []⟩,
    ⟨some 124, .indexAddr 28 (.tmp 123) (.const (.int .i64 0)), (some (121, false)), []⟩,
    ⟨some 125, .fieldAddr 36 (.tmp 124) 4, (some (121, false)), []⟩,
    ⟨some 126, .load 34 (.tmp 125), (some (121, false)), []⟩,
    ⟨some 127, .call ⟨.builtin .len, #[(.tmp 126)], #[34]⟩, (some (121, false)), []⟩,
    ⟨some 128, .binOp .neq 3 (.tmp 127) (.const (.int .i64 2)) 3, (some (121, false)), []⟩,
    ⟨some 129, .pick (.tmp 121) (.const (.bool true)) (.tmp 128), none, []⟩,
    ⟨some 130, .move (.tmp 129), none, []⟩,
    ⟨some 131, .fieldAddr 30 (.tmp 6) 0, (some (130, false)), []⟩,
    ⟨some 132, .load 28 (.tmp 131), (some (130, false)), []⟩,
    ⟨some 133, .indexAddr 28 (.tmp 132) (.const (.int .i64 0)), (some (130, false)), []⟩,
    ⟨some 134, .fieldAddr 36 (.tmp 133) 4, (some (130, false)), []⟩,
    ⟨some 135, .load 34 (.tmp 134), (some (130, false)), []⟩,
    ⟨some 136, .call ⟨.builtin .len, #[(.tmp 135)], #[34]⟩, (some (130, false)), []⟩,
    ⟨some 137, .binOp .neq 3 (.tmp 136) (.const (.int .i64 2)) 3, (some (130, false)), []⟩,
    ⟨some 138, .pick (.tmp 130) (.const (.bool true)) (.tmp 137), none, []⟩,
    ⟨some 139, .move (.tmp 138), none, []⟩,
    ⟨some 140, .fieldAddr 30 (.tmp 7) 0, (some (139, false)), []⟩,
    ⟨some 141, .load 28 (.tmp 140), (some (139, false)), []⟩,
    ⟨some 142, .indexAddr 28 (.tmp 141) (.const (.int .i64 0)), (some (139, false)), []⟩,
    ⟨some 143, .fieldAddr 36 (.tmp 142) 4, (some (139, false)), []⟩,
    ⟨some 144, .load 34 (.tmp 143), (some (139, false)), []⟩,
    ⟨some 145, .call ⟨.builtin .len, #[(.tmp 144)], #[34]⟩, (some (139, false)), []⟩,
    ⟨some 146, .binOp .neq 3 (.tmp 145) (.const (.int .i64 1)) 3, (some (139, false)), []⟩,
    ⟨some 147, .pick (.tmp 139) (.const (.bool true)) (.tmp 146), none, []⟩,
    ⟨some 148, .move (.tmp 147), none, []⟩,
    ⟨some 149, .fieldAddr 30 (.tmp 8) 0, (some (148, false)), []⟩,
    ⟨some 150, .load 28 (.tmp 149), (some (148, false)), []⟩,
    ⟨some 151, .indexAddr 28 (.tmp 150) (.const (.int .i64 0)), (some (148, false)), []⟩,
    ⟨some 152, .fieldAddr 36 (.tmp 151) 4, (some (148, false)), []⟩,
    ⟨some 153, .load 34 (.tmp 152), (some (148, false)), []⟩,
    ⟨some 154, .call ⟨.builtin .len, #[(.tmp 153)], #[34]⟩, (some (148, false)), []⟩,
    ⟨some 155, .binOp .neq 3 (.tmp 154) (.const (.int .i64 3)) 3, (some (148, false)), []⟩,
    ⟨some 156, .pick (.tmp 148) (.const (.bool true)) (.tmp 155), none, []⟩])
  (.cond (.tmp 156)
    (.seq (.ops [⟨some 0, .assign (.const (.bool false)), none, []⟩])
    .ret)
    .skip))
  (.seq (.ops [⟨some 157, .build 24 #[(0, (.const (.int .i64 11))), (3, (.const (.int .i64 0)))], none, []⟩,
    ⟨some 158, .call ⟨.value (.func 7), #[], #[]⟩, none, []⟩,
    ⟨some 159, .buildSlice 27 2 #[(0, (.tmp 157)), (1, (.tmp 158))], none, []⟩,
    ⟨some 9, .assign (.tmp 159), none, []⟩])
  (.seq (.ops [⟨some 160, .move (.tmp 1), none, []⟩,
    ⟨some 161, .move (.tmp 160), none, []⟩,
    ⟨some 162, .move (.tmp 2), (some (161, true)), []⟩,
    ⟨some 163, .pick (.tmp 161) (.tmp 162) (.const (.bool false)), none, []⟩,
    ⟨some 164, .move (.tmp 163), none, []⟩,
    ⟨some 165, .fieldAddr 30 (.tmp 5) 0, (some (164, true)), []⟩,
    ⟨some 166, .load 28 (.tmp 165), (some (164, true)), []⟩,
    ⟨some 167, .indexAddr 28 (.tmp 166) (.const (.int .i64 0)), (some (164, true)), []⟩,
    ⟨some 168, .fieldAddr 36 (.tmp 167) 4, (some (164, true)), []⟩,
    ⟨some 169, .load 34 (.tmp 168), (some (164, true)), []⟩,
    ⟨some 170, .indexAddr 34 (.tmp 169) (.const (.int .i64 0)), (some (164, true)), []⟩,
    ⟨some 171, .load 27 (.tmp 170), (some (164, true)), []⟩,
    ⟨some 172, .move (.tmp 4), (some (164, true)), []⟩,
    ⟨some 173, .slice 27 (.tmp 172) none (some (.const (.int .i64 2))) none, (some (164, true)), []⟩,
    ⟨some 174, .call ⟨.value (.func 12), #[(.tmp 171), (.tmp 173)], #[27, 27]⟩, (some (164, true)), []⟩,
    ⟨some 175, .pick (.tmp 164) (.tmp 174) (.const (.bool false)), none, []⟩,
    ⟨some 176, .move (.tmp 175), none, []⟩,
    ⟨some 177, .fieldAddr 30 (.tmp 5) 0, (some (176, true)), []⟩,
    ⟨some 178, .load 28 (.tmp 177), (some (176, true)), []⟩,
    ⟨some 179, .indexAddr 28 (.tmp 178) (.const (.int .i64 0)), (some (176, true)), []⟩,
    ⟨some 180, .fieldAddr 36 (.tmp 179) 4, (some (176, true)), []⟩,
    ⟨some 181, .load 34 (.tmp 180), (some (176, true)), []⟩,
    ⟨some 182, .indexAddr 34 (.tmp 181) (.const (.int .i64 1)), (some (176, true)), []⟩,
    ⟨some 183, .load 27 (.tmp 182), (some (176, true)), []⟩,
    ⟨some 184, .move (.tmp 9), (some (176, true)), []⟩,
    ⟨some 185, .call ⟨.value (.func 12), #[(.tmp 183), (.tmp 184)], #[27, 27]⟩, (some (176, true)), []⟩,
    ⟨some 186, .pick (.tmp 176) (.tmp 185) (.const (.bool false)), none, []⟩,
    ⟨some 187, .move (.tmp 186), none, []⟩,
    ⟨some 188, .fieldAddr 30 (.tmp 6) 0, (some (187, true)), []⟩,
    ⟨some 189, .load 28 (.tmp 188), (some (187, true)), []⟩,
    ⟨some 190, .indexAddr 28 (.tmp 189) (.const (.int .i64 0)), (some (187, true)), []⟩,
    ⟨some 191, .fieldAddr 36 (.tmp 190) 4, (some (187, true)), []⟩,
    ⟨some 192, .load 34 (.tmp 191), (some (187, true)), []⟩,
    ⟨some 193, .indexAddr 34 (.tmp 192) (.const (.int .i64 0)), (some (187, true)), []⟩,
    ⟨some 194, .load 27 (.tmp 193), (some (187, true)), []⟩,
    ⟨some 195, .move (.tmp 3), (some (187, true)), []⟩,
    ⟨some 196, .call ⟨.value (.func 12), #[(.tmp 194), (.tmp 195)], #[27, 27]⟩, (some (187, true)), []⟩,
    ⟨some 197, .pick (.tmp 187) (.tmp 196) (.const (.bool false)), none, []⟩,
    ⟨some 198, .move (.tmp 197), none, []⟩,
    ⟨some 199, .fieldAddr 30 (.tmp 6) 0, (some (198, true)), []⟩,
    ⟨some 200, .load 28 (.tmp 199), (some (198, true)), []⟩,
    ⟨some 201, .indexAddr 28 (.tmp 200) (.const (.int .i64 0)), (some (198, true)), []⟩,
    ⟨some 202, .fieldAddr 36 (.tmp 201) 4, (some (198, true)), []⟩,
    ⟨some 203, .load 34 (.tmp 202), (some (198, true)), []⟩,
    ⟨some 204, .indexAddr 34 (.tmp 203) (.const (.int .i64 1)), (some (198, true)), []⟩,
    ⟨some 205, .load 27 (.tmp 204), (some (198, true)), []⟩,
    ⟨some 206, .move (.tmp 9), (some (198, true)), []⟩,
    ⟨some 207, .call ⟨.value (.func 12), #[(.tmp 205), (.tmp 206)], #[27, 27]⟩, (some (198, true)), []⟩,
    ⟨some 208, .pick (.tmp 198) (.tmp 207) (.const (.bool false)), none, []⟩,
    ⟨some 209, .move (.tmp 208), none, []⟩,
    ⟨some 210, .fieldAddr 30 (.tmp 7) 0, (some (209, true)), []⟩,
    ⟨some 211, .load 28 (.tmp 210), (some (209, true)), []⟩,
    ⟨some 212, .indexAddr 28 (.tmp 211) (.const (.int .i64 0)), (some (209, true)), []⟩,
    ⟨some 213, .fieldAddr 36 (.tmp 212) 4, (some (209, true)), []⟩,
    ⟨some 214, .load 34 (.tmp 213), (some (209, true)), []⟩,
    ⟨some 215, .indexAddr 34 (.tmp 214) (.const (.int .i64 0)), (some (209, true)), []⟩,
    ⟨some 216, .load 27 (.tmp 215), (some (209, true)), []⟩,
    ⟨some 217, .call ⟨.value (.func 7), #[], #[]⟩, (some (209, true)), [⟨(some (209, true)), 28, (.tmp 210), 211⟩, ⟨(some (209, true)), 34, (.tmp 213), 214⟩, ⟨(some (209, true)), 27, (.tmp 215), 216⟩]⟩,
    ⟨some 218, .buildSlice 27 1 #[(0, (.tmp 217))], (some (209, true)), []⟩,
    ⟨some 219, .call ⟨.value (.func 12), #[(.tmp 216), (.tmp 218)], #[27, 27]⟩, (some (209, true)), []⟩,
    ⟨some 220, .pick (.tmp 209) (.tmp 219) (.const (.bool false)), none, []⟩,
    ⟨some 221, .move (.tmp 220), none, []⟩,
    ⟨some 222, .fieldAddr 30 (.tmp 8) 0, (some (221, true)), []⟩,
    ⟨some 223, .load 28 (.tmp 222), (some (221, true)), []⟩,
    ⟨some 224, .indexAddr 28 (.tmp 223) (.const (.int .i64 0)), (some (221, true)), []⟩,
    ⟨some 225, .fieldAddr 36 (.tmp 224) 4, (some (221, true)), []⟩,
    ⟨some 226, .load 34 (.tmp 225), (some (221, true)), []⟩,
    ⟨some 227, .indexAddr 34 (.tmp 226) (.const (.int .i64 1)), (some (221, true)), []⟩,
    ⟨some 228, .load 27 (.tmp 227), (some (221, true)), []⟩,
    ⟨some 229, .move (.tmp 4), (some (221, true)), []⟩,
    ⟨some 230, .slice 27 (.tmp 229) none (some (.const (.int .i64 2))) none, (some (221, true)), []⟩,
    ⟨some 231, .call ⟨.value (.func 12), #[(.tmp 228), (.tmp 230)], #[27, 27]⟩, (some (221, true)), []⟩,
    ⟨some 232, .pick (.tmp 221) (.tmp 231) (.const (.bool false)), none, []⟩,
    ⟨some 233, .move (.tmp 232), none, []⟩,
    ⟨some 234, .call ⟨.value (.func 13), #[], #[]⟩, (some (233, true)), []⟩,
    ⟨some 235, .pick (.tmp 233) (.tmp 234) (.const (.bool false)), none, []⟩,
    ⟨some 0, .assign (.tmp 235), none, []⟩])
  .ret))))))))))))
theorem plan3 : Try.f3.body.bind (plan Try.f3.ntmps) = some pc3 := by kernel_rfl
theorem calls3 {G : Nat → AV} {args : List AV} {σ : AS} {R : Out → AS → Prop} (hn : args.length = 0) (h : avc Try.prog G 236 pc3 (afin Try.prog [.tmp 0] R) (frame0 args) σ) : ACalls Try.prog G 3 args σ R :=
  acalls' (n := 236) (l := [.tmp 0]) mixed Try.func3 (by kernel_rfl) (by kernel_rfl) plan3 (by omega) h

/- mortise/mortiselaw22.is -/
def pc4 : PC :=
  (.seq (.ops [⟨some 4, .assign (.const (.bool false)), none, []⟩])
  (.seq (.ops [⟨some 6, .move (.tmp 0), none, []⟩,
    ⟨some 7, .buildSlice 34 1 #[(0, (.tmp 6))], none, []⟩,
    ⟨some 8, .call ⟨.value (.func 11), #[(.tmp 7)], #[34]⟩, none, []⟩,
    ⟨some 9, .call ⟨.value (.func 10), #[(.tmp 8)], #[30]⟩, none, []⟩,
    ⟨some 5, .alloc 30, none, []⟩,
    ⟨none, .store 30 (.tmp 5) (.tmp 9), none, []⟩])
  (.seq (.ops [⟨some 10, .fieldAddr 30 (.tmp 5) 0, none, []⟩,
    ⟨some 11, .load 28 (.tmp 10), none, []⟩,
    ⟨some 12, .call ⟨.builtin .len, #[(.tmp 11)], #[28]⟩, none, []⟩,
    ⟨some 13, .binOp .eql 3 (.tmp 12) (.const (.int .i64 1)) 3, none, []⟩,
    ⟨some 14, .move (.tmp 13), none, []⟩,
    ⟨some 15, .fieldAddr 30 (.tmp 5) 0, (some (14, true)), []⟩,
    ⟨some 16, .load 28 (.tmp 15), (some (14, true)), []⟩,
    ⟨some 17, .indexAddr 28 (.tmp 16) (.const (.int .i64 0)), (some (14, true)), []⟩,
    ⟨some 18, .fieldAddr 36 (.tmp 17) 4, (some (14, true)), []⟩,
    ⟨some 19, .load 34 (.tmp 18), (some (14, true)), []⟩,
    ⟨some 20, .call ⟨.builtin .len, #[(.tmp 19)], #[34]⟩, (some (14, true)), []⟩,
    ⟨some 21, .binOp .eql 3 (.tmp 20) (.const (.int .i64 1)) 3, (some (14, true)), []⟩,
    ⟨some 22, .pick (.tmp 14) (.tmp 21) (.const (.bool false)), none, []⟩,
    ⟨some 23, .move (.tmp 22), none, []⟩,
    ⟨some 24, .fieldAddr 30 (.tmp 5) 0, (some (23, true)), []⟩,
    ⟨some 25, .load 28 (.tmp 24), (some (23, true)), []⟩,
    ⟨some 26, .indexAddr 28 (.tmp 25) (.const (.int .i64 0)), (some (23, true)), []⟩,
    ⟨some 27, .fieldAddr 36 (.tmp 26) 4, (some (23, true)), []⟩,
    ⟨some 28, .load 34 (.tmp 27), (some (23, true)), []⟩,
    ⟨some 29, .indexAddr 34 (.tmp 28) (.const (.int .i64 0)), (some (23, true)), []⟩,
    ⟨some 30, .load 27 (.tmp 29), (some (23, true)), []⟩,
    ⟨some 31, .move (.tmp 1), (some (23, true)), []⟩,
    ⟨some 32, .call ⟨.value (.func 12), #[(.tmp 30), (.tmp 31)], #[27, 27]⟩, (some (23, true)), []⟩,
    ⟨some 33, .pick (.tmp 23) (.tmp 32) (.const (.bool false)), none, []⟩,
    ⟨some 4, .assign (.tmp 33), none, []⟩])
  .ret)))
theorem plan4 : Try.f4.body.bind (plan Try.f4.ntmps) = some pc4 := by kernel_rfl
theorem calls4 {G : Nat → AV} {args : List AV} {σ : AS} {R : Out → AS → Prop} (hn : args.length = 2) (h : avc Try.prog G 34 pc4 (afin Try.prog [.tmp 4] R) (frame0 args) σ) : ACalls Try.prog G 4 args σ R :=
  acalls' (n := 34) (l := [.tmp 4]) mixed Try.func4 (by kernel_rfl) (by kernel_rfl) plan4 (by omega) h

/- mortise/mortiselaw22.number -/
def pc5 : PC :=
  (.seq (.ops [⟨some 2, .alloc 24, none, []⟩])
  (.seq (.ops [⟨some 3, .move (.tmp 0), none, []⟩,
    ⟨some 4, .build 24 #[(0, (.const (.int .i64 1))), (1, (.const (.int .i64 1))), (2, (.tmp 3))], none, []⟩,
    ⟨none, .store 24 (.tmp 2) (.tmp 4), none, []⟩])
  .ret))
theorem plan5 : Try.f5.body.bind (plan Try.f5.ntmps) = some pc5 := by kernel_rfl
theorem calls5 {G : Nat → AV} {args : List AV} {σ : AS} {R : Out → AS → Prop} (hn : args.length = 1) (h : avc Try.prog G 5 pc5 (afin Try.prog [.cell 2 24] R) (frame0 args) σ) : ACalls Try.prog G 5 args σ R :=
  acalls' (n := 5) (l := [.cell 2 24]) mixed Try.func5 (by kernel_rfl) (by kernel_rfl) plan5 (by omega) h

/- mortise/mortiselaw22.back -/
def pc6 : PC :=
  (.seq (.ops [⟨some 0, .alloc 24, none, []⟩])
  (.seq (.ops [⟨some 1, .build 24 #[(0, (.const (.int .i64 16)))], none, []⟩,
    ⟨none, .store 24 (.tmp 0) (.tmp 1), none, []⟩])
  .ret))
theorem plan6 : Try.f6.body.bind (plan Try.f6.ntmps) = some pc6 := by kernel_rfl
theorem calls6 {G : Nat → AV} {args : List AV} {σ : AS} {R : Out → AS → Prop} (hn : args.length = 0) (h : avc Try.prog G 2 pc6 (afin Try.prog [.cell 0 24] R) (frame0 args) σ) : ACalls Try.prog G 6 args σ R :=
  acalls' (n := 2) (l := [.cell 0 24]) mixed Try.func6 (by kernel_rfl) (by kernel_rfl) plan6 (by omega) h

/- mortise/mortiselaw22.get -/
def pc7 : PC :=
  (.seq (.ops [⟨some 0, .alloc 24, none, []⟩])
  (.seq (.ops [⟨some 1, .build 24 #[(0, (.const (.int .i64 2)))], none, []⟩,
    ⟨none, .store 24 (.tmp 0) (.tmp 1), none, []⟩])
  .ret))
theorem plan7 : Try.f7.body.bind (plan Try.f7.ntmps) = some pc7 := by kernel_rfl
theorem calls7 {G : Nat → AV} {args : List AV} {σ : AS} {R : Out → AS → Prop} (hn : args.length = 0) (h : avc Try.prog G 2 pc7 (afin Try.prog [.cell 0 24] R) (frame0 args) σ) : ACalls Try.prog G 7 args σ R :=
  acalls' (n := 2) (l := [.cell 0 24]) mixed Try.func7 (by kernel_rfl) (by kernel_rfl) plan7 (by omega) h

/- mortise/mortiselaw22.drop -/
def pc8 : PC :=
  (.seq (.ops [⟨some 0, .alloc 24, none, []⟩])
  (.seq (.ops [⟨some 1, .build 24 #[(0, (.const (.int .i64 18)))], none, []⟩,
    ⟨none, .store 24 (.tmp 0) (.tmp 1), none, []⟩])
  .ret))
theorem plan8 : Try.f8.body.bind (plan Try.f8.ntmps) = some pc8 := by kernel_rfl
theorem calls8 {G : Nat → AV} {args : List AV} {σ : AS} {R : Out → AS → Prop} (hn : args.length = 0) (h : avc Try.prog G 2 pc8 (afin Try.prog [.cell 0 24] R) (frame0 args) σ) : ACalls Try.prog G 8 args σ R :=
  acalls' (n := 2) (l := [.cell 0 24]) mixed Try.func8 (by kernel_rfl) (by kernel_rfl) plan8 (by omega) h

/- mortise/mortiselaw22.eqz -/
def pc9 : PC :=
  (.seq (.ops [⟨some 0, .alloc 24, none, []⟩])
  (.seq (.ops [⟨some 1, .build 24 #[(0, (.const (.int .i64 5))), (1, (.const (.int .i64 1)))], none, []⟩,
    ⟨none, .store 24 (.tmp 0) (.tmp 1), none, []⟩])
  .ret))
theorem plan9 : Try.f9.body.bind (plan Try.f9.ntmps) = some pc9 := by kernel_rfl
theorem calls9 {G : Nat → AV} {args : List AV} {σ : AS} {R : Out → AS → Prop} (hn : args.length = 0) (h : avc Try.prog G 2 pc9 (afin Try.prog [.cell 0 24] R) (frame0 args) σ) : ACalls Try.prog G 9 args σ R :=
  acalls' (n := 2) (l := [.cell 0 24]) mixed Try.func9 (by kernel_rfl) (by kernel_rfl) plan9 (by omega) h

/- mortise/peep.Peep -/
def pc10_l1 : PC :=
  (.seq (.ops [⟨some 16, .binOp .lss 3 (.tmp 15) (.tmp 14) 3, none, []⟩])
  (.seq (.cond (.tmp 16)
    .skip
    (.exit 0))
  (.seq (.block 1
   (.seq (.ops [⟨some 17, .indexAddr 28 (.tmp 13) (.tmp 15), none, []⟩,
     ⟨some 18, .load 36 (.tmp 17), none, []⟩,
     ⟨some 5, .alloc 36, none, []⟩,
     ⟨none, .store 36 (.tmp 5) (.tmp 18), none, []⟩])
   (.seq (.ops [⟨some 19, .fieldAddr 36 (.tmp 5) 4, none, []⟩,
     ⟨some 20, .load 34 (.tmp 19), none, []⟩,
     ⟨some 21, .build 40 #[(0, (.tmp 20))], none, []⟩,
     ⟨some 22, .box 40 (.tmp 21), none, []⟩,
     ⟨some 6, .assign (.tmp 22), none, []⟩])
   (.seq (.ops [⟨some 23, .move (.tmp 6), none, []⟩,
     ⟨some 24, .fieldAddr 36 (.tmp 5) 4, none, []⟩,
     ⟨some 25, .load 34 (.tmp 24), none, []⟩,
     ⟨some 26, .call ⟨.builtin .len, #[(.tmp 25)], #[34]⟩, none, []⟩,
     ⟨some 27, .binOp .sub 3 (.tmp 26) (.const (.int .i64 1)) 3, none, []⟩,
     ⟨some 28, .call ⟨.value (.func 14), #[(.tmp 23), (.tmp 27)], #[38, 3]⟩, none, []⟩])
   (.seq (.ops [⟨some 29, .fieldAddr 36 (.tmp 5) 1, none, []⟩,
     ⟨some 30, .load 33 (.tmp 29), none, []⟩,
     ⟨some 32, .fieldAddr 36 (.tmp 5) 2, none, []⟩,
     ⟨some 33, .load 33 (.tmp 32), none, []⟩,
     ⟨some 35, .move (.tmp 6), none, []⟩,
     ⟨some 36, .nilCheck (.tmp 35), none, []⟩,
     ⟨some 37, .fieldAddr 40 (.tmp 36) 1, none, []⟩,
     ⟨some 38, .load 34 (.tmp 37), none, []⟩,
     ⟨some 31, .call ⟨.value (.func 15), #[(.tmp 30)], #[33]⟩, none, [⟨none, 33, (.tmp 32), 33⟩, ⟨none, 34, (.tmp 37), 38⟩]⟩,
     ⟨some 39, .fieldAddr 36 (.tmp 5) 1, none, []⟩,
     ⟨some 34, .call ⟨.value (.func 15), #[(.tmp 33)], #[33]⟩, none, [⟨none, 34, (.tmp 37), 38⟩]⟩,
     ⟨none, .store 33 (.tmp 39) (.tmp 31), none, [⟨none, 34, (.tmp 37), 38⟩]⟩,
     ⟨some 40, .fieldAddr 36 (.tmp 5) 2, none, []⟩,
     ⟨none, .store 33 (.tmp 40) (.tmp 34), none, [⟨none, 34, (.tmp 37), 38⟩]⟩,
     ⟨some 41, .fieldAddr 36 (.tmp 5) 4, none, []⟩,
     ⟨none, .store 34 (.tmp 41) (.tmp 38), none, []⟩])
   (.ops [⟨some 42, .fieldAddr 30 (.tmp 3) 0, none, []⟩,
     ⟨some 43, .load 28 (.tmp 42), none, []⟩,
     ⟨some 44, .load 36 (.tmp 5), none, []⟩,
     ⟨some 45, .buildSlice 28 1 #[(0, (.tmp 44))], none, []⟩,
     ⟨some 46, .call ⟨.builtin .append, #[(.tmp 43), (.tmp 45)], #[28, 28]⟩, none, []⟩,
     ⟨some 47, .fieldAddr 30 (.tmp 3) 0, none, []⟩,
     ⟨none, .store 28 (.tmp 47) (.tmp 46), none, []⟩]))))))
  (.ops [⟨some 48, .binOp .add 3 (.tmp 15) (.const (.int .i64 1)) 3, none, []⟩,
    ⟨some 15, .move (.tmp 48), none, []⟩]))))
def pc10_r1 : PC :=
  (.seq (.ops [⟨some 49, .load 30 (.tmp 3), none, []⟩,
    ⟨none, .store 30 (.tmp 2) (.tmp 49), none, []⟩])
  .ret)
def pc10 : PC :=
  (.seq (.ops [⟨some 1, .box 30 (.tmp 0), none, []⟩,
    ⟨some 2, .alloc 30, none, []⟩])
  (.seq (.ops [⟨some 7, .fieldAddr 30 (.tmp 1) 1, none, []⟩,
    ⟨some 8, .load 3 (.tmp 7), none, []⟩,
    ⟨some 9, .fieldAddr 30 (.tmp 1) 2, none, []⟩,
    ⟨some 10, .load 3 (.tmp 9), none, []⟩,
    ⟨some 11, .build 30 #[(1, (.tmp 8)), (2, (.tmp 10))], none, []⟩,
    ⟨some 3, .alloc 30, none, []⟩,
    ⟨none, .store 30 (.tmp 3) (.tmp 11), none, []⟩])
  (.seq (.seq (.ops [⟨some 12, .fieldAddr 30 (.tmp 1) 0, none, []⟩,
    ⟨some 13, .load 28 (.tmp 12), none, []⟩,
    ⟨some 14, .call ⟨.builtin .len, #[(.tmp 13)], #[28]⟩, none, []⟩,
    ⟨some 15, .move (.const (.int .i64 0)), none, []⟩])
  (.block 0
   (.loop pc10_l1)))
  pc10_r1)))
theorem plan10 : Try.f10.body.bind (plan Try.f10.ntmps) = some pc10 := by kernel_rfl
theorem calls10 {G : Nat → AV} {args : List AV} {σ : AS} {R : Out → AS → Prop} (hn : args.length = 1) (h : avc Try.prog G 50 pc10 (afin Try.prog [.cell 2 30] R) (frame0 args) σ) : ACalls Try.prog G 10 args σ R :=
  acalls' (n := 50) (l := [.cell 2 30]) mixed Try.func10 (by kernel_rfl) (by kernel_rfl) plan10 (by omega) h

/- mortise/mortiselaw22.of -/
def pc11 : PC :=
  (.seq (.ops [⟨some 2, .alloc 30, none, []⟩])
  (.seq (.ops [⟨some 3, .buildSlice 33 1 #[(0, (.const (.int .i64 1)))], none, []⟩,
    ⟨some 4, .move (.tmp 0), none, []⟩,
    ⟨some 5, .build 36 #[(0, (.const (.string ⟨#[109, 97, 105, 110]⟩))), (3, (.const (.int .i64 1))), (2, (.tmp 3)), (4, (.tmp 4))], none, []⟩,
    ⟨some 6, .buildSlice 28 1 #[(0, (.tmp 5))], none, []⟩,
    ⟨some 7, .build 30 #[(0, (.tmp 6))], none, []⟩,
    ⟨none, .store 30 (.tmp 2) (.tmp 7), none, []⟩])
  .ret))
theorem plan11 : Try.f11.body.bind (plan Try.f11.ntmps) = some pc11 := by kernel_rfl
theorem calls11 {G : Nat → AV} {args : List AV} {σ : AS} {R : Out → AS → Prop} (hn : args.length = 1) (h : avc Try.prog G 8 pc11 (afin Try.prog [.cell 2 30] R) (frame0 args) σ) : ACalls Try.prog G 11 args σ R :=
  acalls' (n := 8) (l := [.cell 2 30]) mixed Try.func11 (by kernel_rfl) (by kernel_rfl) plan11 (by omega) h

/- mortise/mortisekit.SameWs -/
def pc12_l1 : PC :=
  (.seq (.seq (.ops [⟨some 11, .move (.tmp 5), none, []⟩,
    ⟨some 12, .move (.tmp 0), none, []⟩,
    ⟨some 13, .call ⟨.builtin .len, #[(.tmp 12)], #[27]⟩, none, []⟩,
    ⟨some 14, .binOp .lss 3 (.tmp 11) (.tmp 13) 3, none, []⟩])
  (.cond (.tmp 14)
    .skip
    (.exit 0)))
  (.seq (.block 1
   (.seq (.ops [⟨some 17, .move (.tmp 0), none, []⟩,
     ⟨some 18, .move (.tmp 5), none, []⟩,
     ⟨some 19, .indexAddr 27 (.tmp 17) (.tmp 18), none, []⟩,
     ⟨some 20, .load 24 (.tmp 19), none, []⟩,
     ⟨some 21, .move (.tmp 1), none, []⟩,
     ⟨some 22, .move (.tmp 5), none, []⟩,
     ⟨some 23, .indexAddr 27 (.tmp 21) (.tmp 22), none, []⟩,
     ⟨some 24, .load 24 (.tmp 23), none, []⟩,
     ⟨some 25, .binOp .eql 24 (.tmp 20) (.tmp 24) 24, none, []⟩,
     ⟨some 26, .unOp .not 4 (.tmp 25), none, []⟩])
   (.cond (.tmp 26)
     (.seq (.ops [⟨some 4, .assign (.const (.bool false)), none, []⟩])
     .ret)
     .skip)))
  (.ops [⟨some 15, .move (.tmp 5), none, []⟩,
    ⟨some 16, .binOp .add 3 (.tmp 15) (.const (.int .i64 1)) 3, none, []⟩,
    ⟨some 5, .assign (.tmp 16), none, []⟩])))
def pc12_r1 : PC :=
  (.seq (.ops [⟨some 4, .assign (.const (.bool true)), none, []⟩])
  .ret)
def pc12 : PC :=
  (.seq (.ops [⟨some 4, .assign (.const (.bool false)), none, []⟩])
  (.seq (.seq (.ops [⟨some 6, .move (.tmp 0), none, []⟩,
    ⟨some 7, .call ⟨.builtin .len, #[(.tmp 6)], #[27]⟩, none, []⟩,
    ⟨some 8, .move (.tmp 1), none, []⟩,
    ⟨some 9, .call ⟨.builtin .len, #[(.tmp 8)], #[27]⟩, none, []⟩,
    ⟨some 10, .binOp .neq 3 (.tmp 7) (.tmp 9) 3, none, []⟩])
  (.cond (.tmp 10)
    (.seq (.ops [⟨some 4, .assign (.const (.bool false)), none, []⟩])
    .ret)
    .skip))
  (.seq (.seq (.ops [⟨some 5, .assign (.const (.int .i64 0)), none, []⟩])
  (.block 0
   (.loop pc12_l1)))
  pc12_r1)))
theorem plan12 : Try.f12.body.bind (plan Try.f12.ntmps) = some pc12 := by kernel_rfl
theorem calls12 {G : Nat → AV} {args : List AV} {σ : AS} {R : Out → AS → Prop} (hn : args.length = 2) (h : avc Try.prog G 27 pc12 (afin Try.prog [.tmp 4] R) (frame0 args) σ) : ACalls Try.prog G 12 args σ R :=
  acalls' (n := 27) (l := [.tmp 4]) mixed Try.func12 (by kernel_rfl) (by kernel_rfl) plan12 (by omega) h

/- mortise/mortiselaw22.known -/
def pc13 : PC :=
  (.seq (.ops [⟨some 0, .assign (.const (.bool false)), none, []⟩])
  (.seq (.ops [⟨some 1, .call ⟨.value (.func 7), #[], #[]⟩, none, []⟩,
    ⟨some 2, .call ⟨.value (.func 8), #[], #[]⟩, none, []⟩,
    ⟨some 3, .call ⟨.value (.func 5), #[(.const (.int .i64 1))], #[3]⟩, none, []⟩,
    ⟨some 4, .call ⟨.value (.func 9), #[], #[]⟩, none, []⟩,
    ⟨some 5, .build 24 #[(0, (.const (.int .i64 3)))], none, []⟩,
    ⟨some 6, .call ⟨.value (.func 5), #[(.const (.int .i64 5))], #[3]⟩, none, []⟩,
    ⟨some 7, .buildSlice 27 6 #[(0, (.tmp 1)), (1, (.tmp 2)), (2, (.tmp 3)), (3, (.tmp 4)), (4, (.tmp 5)), (5, (.tmp 6))], none, []⟩,
    ⟨some 8, .call ⟨.value (.func 5), #[(.const (.int .i64 0))], #[3]⟩, none, []⟩,
    ⟨some 9, .build 24 #[(0, (.const (.int .i64 3)))], none, []⟩,
    ⟨some 10, .call ⟨.value (.func 5), #[(.const (.int .i64 5))], #[3]⟩, none, []⟩,
    ⟨some 11, .buildSlice 27 3 #[(0, (.tmp 8)), (1, (.tmp 9)), (2, (.tmp 10))], none, []⟩,
    ⟨some 12, .call ⟨.value (.func 4), #[(.tmp 7), (.tmp 11)], #[27, 27]⟩, none, []⟩,
    ⟨some 0, .assign (.tmp 12), none, []⟩])
  .ret))
theorem plan13 : Try.f13.body.bind (plan Try.f13.ntmps) = some pc13 := by kernel_rfl
theorem calls13 {G : Nat → AV} {args : List AV} {σ : AS} {R : Out → AS → Prop} (hn : args.length = 0) (h : avc Try.prog G 13 pc13 (afin Try.prog [.tmp 0] R) (frame0 args) σ) : ACalls Try.prog G 13 args σ R :=
  acalls' (n := 13) (l := [.tmp 0]) mixed Try.func13 (by kernel_rfl) (by kernel_rfl) plan13 (by omega) h

/- (*mortise/peep.maker).list -/
def pc14_l1 : PC :=
  (.seq (.ops [⟨some 20, .binOp .lss 3 (.tmp 19) (.tmp 18) 3, none, []⟩])
  (.seq (.cond (.tmp 20)
    .skip
    (.exit 0))
  (.seq (.block 1
   (.seq (.ops [⟨some 21, .indexAddr 27 (.tmp 17) (.tmp 19), none, []⟩,
     ⟨some 22, .load 24 (.tmp 21), none, []⟩,
     ⟨some 7, .alloc 24, none, []⟩,
     ⟨none, .store 24 (.tmp 7) (.tmp 22), none, []⟩])
   (.seq (.ops [⟨some 23, .move (.tmp 5), none, []⟩,
     ⟨some 24, .call ⟨.builtin .len, #[(.tmp 23)], #[27]⟩, none, []⟩,
     ⟨some 8, .assign (.tmp 24), none, []⟩])
   (.seq (.seq (.ops [⟨some 25, .move (.tmp 8), none, []⟩,
     ⟨some 26, .binOp .gtr 3 (.tmp 25) (.const (.int .i64 0)) 3, none, []⟩,
     ⟨some 27, .move (.tmp 26), none, []⟩,
     ⟨some 28, .move (.tmp 5), (some (27, true)), []⟩,
     ⟨some 29, .move (.tmp 8), (some (27, true)), []⟩,
     ⟨some 30, .binOp .sub 3 (.tmp 29) (.const (.int .i64 1)) 3, (some (27, true)), []⟩,
     ⟨some 31, .indexAddr 27 (.tmp 28) (.tmp 30), (some (27, true)), []⟩,
     ⟨some 32, .load 24 (.tmp 31), (some (27, true)), []⟩,
     ⟨some 33, .call ⟨.value (.func 16), #[(.tmp 32)], #[24]⟩, (some (27, true)), []⟩,
     ⟨some 34, .pick (.tmp 27) (.tmp 33) (.const (.bool false)), none, []⟩])
   (.cond (.tmp 34)
     (.exit 0)
     .skip))
   (.seq (.seq (.ops [⟨some 35, .move (.tmp 8), none, []⟩,
     ⟨some 36, .binOp .gtr 3 (.tmp 35) (.const (.int .i64 0)) 3, none, []⟩])
   (.cond (.tmp 36)
     (.seq (.ops [⟨some 38, .move (.tmp 0), none, []⟩,
       ⟨some 39, .move (.tmp 5), none, []⟩,
       ⟨some 40, .move (.tmp 8), none, []⟩,
       ⟨some 41, .binOp .sub 3 (.tmp 40) (.const (.int .i64 1)) 3, none, []⟩,
       ⟨some 42, .indexAddr 27 (.tmp 39) (.tmp 41), none, []⟩,
       ⟨some 43, .load 24 (.tmp 42), none, []⟩,
       ⟨some 44, .load 24 (.tmp 7), none, []⟩,
       ⟨some 45, .call ⟨.value (.func 17), #[(.tmp 38), (.tmp 43), (.tmp 44)], #[38, 24, 24]⟩, none, []⟩,
       ⟨some 37, .move (.tmp 45), none, []⟩,
       ⟨some 46, .extract (.tmp 37) 0, none, []⟩,
       ⟨some 47, .extract (.tmp 37) 1, none, []⟩,
       ⟨some 9, .assign (.tmp 46), none, []⟩,
       ⟨some 10, .assign (.tmp 47), none, []⟩])
     (.seq (.ops [⟨some 48, .move (.tmp 10), none, []⟩])
     (.cond (.tmp 48)
       (.seq (.ops [⟨some 49, .move (.tmp 5), none, []⟩,
         ⟨some 50, .move (.tmp 8), none, []⟩,
         ⟨some 51, .binOp .sub 3 (.tmp 50) (.const (.int .i64 1)) 3, none, []⟩,
         ⟨some 52, .slice 27 (.tmp 49) none (some (.tmp 51)) none, none, []⟩,
         ⟨some 53, .move (.tmp 9), none, []⟩,
         ⟨some 54, .call ⟨.builtin .append, #[(.tmp 52), (.tmp 53)], #[27, 27]⟩, none, []⟩,
         ⟨some 5, .assign (.tmp 54), none, []⟩])
       (.exit 1))
       .skip)))
     .skip))
   (.ops [⟨some 55, .move (.tmp 5), none, []⟩,
     ⟨some 56, .move (.tmp 0), none, []⟩,
     ⟨some 57, .load 24 (.tmp 7), none, []⟩,
     ⟨some 58, .call ⟨.value (.func 18), #[(.tmp 56), (.tmp 57)], #[38, 24]⟩, none, []⟩,
     ⟨some 59, .buildSlice 27 1 #[(0, (.tmp 58))], none, []⟩,
     ⟨some 60, .call ⟨.builtin .append, #[(.tmp 55), (.tmp 59)], #[27, 27]⟩, none, []⟩,
     ⟨some 5, .assign (.tmp 60), none, []⟩]))))))
  (.ops [⟨some 61, .binOp .add 3 (.tmp 19) (.const (.int .i64 1)) 3, none, []⟩,
    ⟨some 19, .move (.tmp 61), none, []⟩]))))
def pc14_r1 : PC :=
  (.seq (.ops [⟨some 62, .move (.tmp 0), none, []⟩,
    ⟨some 63, .move (.tmp 0), none, []⟩,
    ⟨some 64, .nilCheck (.tmp 63), none, []⟩,
    ⟨some 65, .fieldAddr 40 (.tmp 64) 1, none, []⟩,
    ⟨some 66, .load 34 (.tmp 65), none, []⟩,
    ⟨some 67, .move (.tmp 5), none, []⟩,
    ⟨some 68, .buildSlice 34 1 #[(0, (.tmp 67))], none, []⟩,
    ⟨some 69, .call ⟨.builtin .append, #[(.tmp 66), (.tmp 68)], #[34, 34]⟩, none, []⟩,
    ⟨some 70, .nilCheck (.tmp 62), none, []⟩,
    ⟨some 71, .fieldAddr 40 (.tmp 70) 1, none, []⟩,
    ⟨none, .store 34 (.tmp 71) (.tmp 69), none, []⟩])
  (.seq (.ops [⟨some 72, .move (.tmp 0), none, []⟩,
    ⟨some 73, .nilCheck (.tmp 72), none, []⟩,
    ⟨some 74, .fieldAddr 40 (.tmp 73) 1, none, []⟩,
    ⟨some 75, .load 34 (.tmp 74), none, []⟩,
    ⟨some 76, .call ⟨.builtin .len, #[(.tmp 75)], #[34]⟩, none, []⟩,
    ⟨some 77, .binOp .sub 3 (.tmp 76) (.const (.int .i64 1)) 3, none, []⟩,
    ⟨some 4, .assign (.tmp 77), none, []⟩])
  .ret))
def pc14 : PC :=
  (.seq (.ops [⟨some 4, .assign (.const (.int .i64 0)), none, []⟩])
  (.seq (.ops [⟨some 5, .assign (.const (.slice none 0 0)), none, []⟩])
  (.seq (.seq (.ops [⟨some 11, .move (.tmp 0), none, []⟩,
    ⟨some 12, .nilCheck (.tmp 11), none, []⟩,
    ⟨some 13, .fieldAddr 40 (.tmp 12) 0, none, []⟩,
    ⟨some 14, .load 34 (.tmp 13), none, []⟩,
    ⟨some 15, .move (.tmp 1), none, []⟩,
    ⟨some 16, .indexAddr 34 (.tmp 14) (.tmp 15), none, []⟩,
    ⟨some 17, .load 27 (.tmp 16), none, []⟩,
    ⟨some 18, .call ⟨.builtin .len, #[(.tmp 17)], #[27]⟩, none, []⟩,
    ⟨some 19, .move (.const (.int .i64 0)), none, []⟩])
  (.block 0
   (.loop pc14_l1)))
  pc14_r1)))
theorem plan14 : Try.f14.body.bind (plan Try.f14.ntmps) = some pc14 := by kernel_rfl
theorem calls14 {G : Nat → AV} {args : List AV} {σ : AS} {R : Out → AS → Prop} (hn : args.length = 2) (h : avc Try.prog G 78 pc14 (afin Try.prog [.tmp 4] R) (frame0 args) σ) : ACalls Try.prog G 14 args σ R :=
  acalls' (n := 78) (l := [.tmp 4]) mixed Try.func14 (by kernel_rfl) (by kernel_rfl) plan14 (by omega) h

/- slices.Clone[[]int,int] -/
def pc15 : PC :=
  (.seq (.ops [⟨some 2, .assign (.const (.slice none 0 0)), none, []⟩])
  (.seq (.seq (.ops [⟨some 3, .move (.tmp 0), none, []⟩,
    ⟨some 4, .binOp .eql 33 (.tmp 3) (.const (.slice none 0 0)) 33, none, []⟩])
  (.cond (.tmp 4)
    (.seq (.ops [⟨some 2, .assign (.const (.slice none 0 0)), none, []⟩])
    .ret)
    .skip))
  (.seq (.ops [⟨some 5, .buildSlice 33 0 #[], none, []⟩,
    ⟨some 6, .move (.tmp 0), none, []⟩,
    ⟨some 7, .call ⟨.builtin .append, #[(.tmp 5), (.tmp 6)], #[33, 33]⟩, none, []⟩,
    ⟨some 2, .assign (.tmp 7), none, []⟩])
  .ret)))
theorem plan15 : Try.f15.body.bind (plan Try.f15.ntmps) = some pc15 := by kernel_rfl
theorem calls15 {G : Nat → AV} {args : List AV} {σ : AS} {R : Out → AS → Prop} (hn : args.length = 1) (h : avc Try.prog G 8 pc15 (afin Try.prog [.tmp 2] R) (frame0 args) σ) : ACalls Try.prog G 15 args σ R :=
  acalls' (n := 8) (l := [.tmp 2]) mixed Try.func15 (by kernel_rfl) (by kernel_rfl) plan15 (by omega) h

/- mortise/peep.leaves -/
def pc16 : PC :=
  (.seq (.ops [⟨some 1, .box 24 (.tmp 0), none, []⟩,
    ⟨some 2, .assign (.const (.bool false)), none, []⟩])
  (.seq (.ops [⟨some 3, .assign (.const (.bool false)), none, []⟩])
  (.seq (.seq (.ops [⟨some 4, .fieldAddr 24 (.tmp 1) 0, none, []⟩,
    ⟨some 5, .load 3 (.tmp 4), none, []⟩])
  (.block 0
   (.seq (.block 3
    (.block 2
     (.block 1
      (.seq (.seq (.seq (.ops [⟨some 7, .binOp .eql 3 (.tmp 5) (.const (.int .i64 14)) 3, none, []⟩,
        ⟨some 6, .assign (.tmp 7), none, []⟩])
      (.cond (.tmp 6)
        (.exit 1)
        .skip))
      (.seq (.seq (.ops [⟨some 9, .binOp .eql 3 (.tmp 5) (.const (.int .i64 16)) 3, none, []⟩,
        ⟨some 8, .assign (.tmp 9), none, []⟩])
      (.cond (.tmp 8)
        (.exit 2)
        .skip))
      (.seq (.ops [⟨some 11, .binOp .eql 3 (.tmp 5) (.const (.int .i64 17)) 3, none, []⟩,
        ⟨some 10, .assign (.tmp 11), none, []⟩])
      (.cond (.tmp 10)
        (.exit 3)
        .skip))))
      (.exit 0)))))
   (.seq (.ops [⟨some 3, .assign (.const (.bool true)), none, []⟩])
   (.exit 0)))))
  (.seq (.ops [⟨some 12, .move (.tmp 3), none, []⟩,
    ⟨some 2, .assign (.tmp 12), none, []⟩])
  .ret))))
theorem plan16 : Try.f16.body.bind (plan Try.f16.ntmps) = some pc16 := by kernel_rfl
theorem calls16 {G : Nat → AV} {args : List AV} {σ : AS} {R : Out → AS → Prop} (hn : args.length = 1) (h : avc Try.prog G 13 pc16 (afin Try.prog [.tmp 2] R) (frame0 args) σ) : ACalls Try.prog G 16 args σ R :=
  acalls' (n := 13) (l := [.tmp 2]) mixed Try.func16 (by kernel_rfl) (by kernel_rfl) plan16 (by omega) h

/- (*mortise/peep.maker).together -/
def pc17 : PC :=
  (.seq (.ops [⟨some 4, .box 24 (.tmp 1), none, []⟩,
    ⟨some 5, .box 24 (.tmp 2), none, []⟩,
    ⟨some 6, .assign (.const (.slice none 0 0)), none, []⟩,
    ⟨some 7, .assign (.const (.bool false)), none, []⟩])
  (.seq (.ops [⟨some 10, .fieldAddr 24 (.tmp 4) 0, none, []⟩,
    ⟨some 11, .load 3 (.tmp 10), none, []⟩,
    ⟨some 12, .binOp .eql 3 (.tmp 11) (.const (.int .i64 1)) 3, none, []⟩,
    ⟨some 13, .move (.tmp 12), none, []⟩,
    ⟨some 14, .fieldAddr 24 (.tmp 4) 1, (some (13, true)), []⟩,
    ⟨some 15, .load 3 (.tmp 14), (some (13, true)), []⟩,
    ⟨some 16, .binOp .eql 3 (.tmp 15) (.const (.int .i64 1)) 3, (some (13, true)), []⟩,
    ⟨some 17, .pick (.tmp 13) (.tmp 16) (.const (.bool false)), none, []⟩,
    ⟨some 8, .assign (.tmp 17), none, []⟩])
  (.seq (.seq (.ops [⟨some 18, .fieldAddr 24 (.tmp 4) 0, none, []⟩,
    ⟨some 19, .load 3 (.tmp 18), none, []⟩,
    ⟨some 20, .fieldAddr 24 (.tmp 5) 0, none, []⟩,
    ⟨some 21, .load 3 (.tmp 20), none, []⟩,
    ⟨some 22, .build 48 #[(0, (.tmp 19)), (1, (.tmp 21))], none, []⟩])
  (.block 0
   (.seq (.seq (.ops [⟨some 24, .build 48 #[(0, (.const (.int .i64 1))), (1, (.const (.int .i64 18)))], none, []⟩,
     ⟨some 25, .binOp .eql 48 (.tmp 22) (.tmp 24) 48, none, []⟩,
     ⟨some 23, .assign (.tmp 25), none, []⟩])
   (.cond (.tmp 23)
     .skip
     (.ops [⟨some 26, .build 48 #[(0, (.const (.int .i64 2))), (1, (.const (.int .i64 18)))], none, []⟩,
       ⟨some 27, .binOp .eql 48 (.tmp 22) (.tmp 26) 48, none, []⟩,
       ⟨some 23, .assign (.tmp 27), none, []⟩])))
   (.cond (.tmp 23)
     (.seq (.ops [⟨some 6, .assign (.const (.slice none 0 0)), none, []⟩,
       ⟨some 7, .assign (.const (.bool true)), none, []⟩])
     .ret)
     (.seq (.ops [⟨some 29, .build 48 #[(0, (.const (.int .i64 1))), (1, (.const (.int .i64 5)))], none, []⟩,
       ⟨some 30, .binOp .eql 48 (.tmp 22) (.tmp 29) 48, none, []⟩,
       ⟨some 28, .assign (.tmp 30), none, []⟩])
     (.cond (.tmp 28)
       (.seq (.ops [⟨some 9, .assign (.const (.int .i64 0)), none, []⟩])
       (.seq (.seq (.ops [⟨some 31, .fieldAddr 24 (.tmp 4) 2, none, []⟩,
         ⟨some 32, .load 3 (.tmp 31), none, []⟩,
         ⟨some 33, .binOp .eql 3 (.tmp 32) (.const (.int .i64 0)) 3, none, []⟩])
       (.cond (.tmp 33)
         (.ops [⟨some 9, .assign (.const (.int .i64 1)), none, []⟩])
         .skip))
       (.seq (.ops [⟨some 34, .move (.tmp 9), none, []⟩,
         ⟨some 35, .build 24 #[(0, (.const (.int .i64 1))), (1, (.const (.int .i64 1))), (2, (.tmp 34))], none, []⟩,
         ⟨some 36, .buildSlice 27 1 #[(0, (.tmp 35))], none, []⟩,
         ⟨some 37, .fieldAddr 24 (.tmp 4) 1, none, []⟩,
         ⟨some 38, .load 3 (.tmp 37), none, []⟩,
         ⟨some 39, .fieldAddr 24 (.tmp 5) 1, none, []⟩,
         ⟨some 40, .load 3 (.tmp 39), none, []⟩,
         ⟨some 41, .binOp .eql 3 (.tmp 38) (.tmp 40) 3, none, []⟩,
         ⟨some 6, .assign (.tmp 36), none, []⟩,
         ⟨some 7, .assign (.tmp 41), none, []⟩])
       .ret)))
       (.seq (.ops [⟨some 43, .build 48 #[(0, (.const (.int .i64 1))), (1, (.const (.int .i64 15)))], none, []⟩,
         ⟨some 44, .binOp .eql 48 (.tmp 22) (.tmp 43) 48, none, []⟩,
         ⟨some 42, .assign (.tmp 44), none, []⟩])
       (.cond (.tmp 42)
         (.seq (.seq (.ops [⟨some 45, .fieldAddr 24 (.tmp 4) 2, none, []⟩,
           ⟨some 46, .load 3 (.tmp 45), none, []⟩,
           ⟨some 47, .binOp .eql 3 (.tmp 46) (.const (.int .i64 0)) 3, none, []⟩])
         (.cond (.tmp 47)
           (.seq (.ops [⟨some 48, .move (.tmp 8), none, []⟩,
             ⟨some 6, .assign (.const (.slice none 0 0)), none, []⟩,
             ⟨some 7, .assign (.tmp 48), none, []⟩])
           .ret)
           .skip))
         (.seq (.ops [⟨some 49, .fieldAddr 24 (.tmp 5) 2, none, []⟩,
           ⟨some 50, .load 3 (.tmp 49), none, []⟩,
           ⟨some 51, .build 24 #[(0, (.const (.int .i64 14))), (2, (.tmp 50))], none, []⟩,
           ⟨some 52, .buildSlice 27 1 #[(0, (.tmp 51))], none, []⟩,
           ⟨some 53, .move (.tmp 8), none, []⟩,
           ⟨some 6, .assign (.tmp 52), none, []⟩,
           ⟨some 7, .assign (.tmp 53), none, []⟩])
         .ret))
         (.seq (.ops [⟨some 55, .build 48 #[(0, (.const (.int .i64 1))), (1, (.const (.int .i64 13)))], none, []⟩,
           ⟨some 56, .binOp .eql 48 (.tmp 22) (.tmp 55) 48, none, []⟩,
           ⟨some 54, .assign (.tmp 56), none, []⟩])
         (.cond (.tmp 54)
           (.seq (.seq (.ops [⟨some 57, .move (.tmp 8), none, []⟩,
             ⟨some 58, .unOp .not 4 (.tmp 57), none, []⟩])
           (.cond (.tmp 58)
             (.seq (.ops [⟨some 6, .assign (.const (.slice none 0 0)), none, []⟩,
               ⟨some 7, .assign (.const (.bool false)), none, []⟩])
             .ret)
             .skip))
           (.seq (.ops [⟨some 59, .move (.tmp 0), none, []⟩,
             ⟨some 60, .fieldAddr 24 (.tmp 4) 2, none, []⟩,
             ⟨some 61, .load 3 (.tmp 60), none, []⟩,
             ⟨some 62, .load 24 (.tmp 5), none, []⟩,
             ⟨some 63, .call ⟨.value (.func 19), #[(.tmp 59), (.tmp 61), (.tmp 62)], #[38, 3, 24]⟩, none, []⟩,
             ⟨some 6, .assign (.tmp 63), none, []⟩,
             ⟨some 7, .assign (.const (.bool true)), none, []⟩])
           .ret))
           .skip))))))))))
  (.seq (.ops [⟨some 6, .assign (.const (.slice none 0 0)), none, []⟩,
    ⟨some 7, .assign (.const (.bool false)), none, []⟩])
  .ret))))
theorem plan17 : Try.f17.body.bind (plan Try.f17.ntmps) = some pc17 := by kernel_rfl
theorem calls17 {G : Nat → AV} {args : List AV} {σ : AS} {R : Out → AS → Prop} (hn : args.length = 3) (h : avc Try.prog G 64 pc17 (afin Try.prog [.tmp 6, .tmp 7] R) (frame0 args) σ) : ACalls Try.prog G 17 args σ R :=
  acalls' (n := 64) (l := [.tmp 6, .tmp 7]) mixed Try.func17 (by kernel_rfl) (by kernel_rfl) plan17 (by omega) h

/- (*mortise/peep.maker).lists -/
def pc18 : PC :=
  (.seq (.ops [⟨some 3, .box 24 (.tmp 1), none, []⟩,
    ⟨some 4, .alloc 24, none, []⟩])
  (.seq (.seq (.ops [⟨some 5, .fieldAddr 24 (.tmp 3) 0, none, []⟩,
    ⟨some 6, .load 3 (.tmp 5), none, []⟩])
  (.block 0
   (.seq (.ops [⟨some 8, .binOp .eql 3 (.tmp 6) (.const (.int .i64 13)) 3, none, []⟩,
     ⟨some 7, .assign (.tmp 8), none, []⟩])
   (.cond (.tmp 7)
     (.seq (.ops [⟨some 9, .move (.tmp 0), none, []⟩,
       ⟨some 10, .fieldAddr 24 (.tmp 3) 3, none, []⟩,
       ⟨some 11, .load 3 (.tmp 10), none, []⟩,
       ⟨some 12, .call ⟨.value (.func 14), #[(.tmp 9), (.tmp 11)], #[38, 3]⟩, none, []⟩,
       ⟨some 13, .fieldAddr 24 (.tmp 3) 3, none, []⟩,
       ⟨none, .store 3 (.tmp 13) (.tmp 12), none, []⟩])
     (.seq (.ops [⟨some 14, .fieldAddr 24 (.tmp 3) 4, none, []⟩,
       ⟨some 15, .load 3 (.tmp 14), none, []⟩,
       ⟨some 16, .binOp .geq 3 (.tmp 15) (.const (.int .i64 0)) 3, none, []⟩])
     (.cond (.tmp 16)
       (.ops [⟨some 17, .move (.tmp 0), none, []⟩,
         ⟨some 18, .fieldAddr 24 (.tmp 3) 4, none, []⟩,
         ⟨some 19, .load 3 (.tmp 18), none, []⟩,
         ⟨some 20, .call ⟨.value (.func 14), #[(.tmp 17), (.tmp 19)], #[38, 3]⟩, none, []⟩,
         ⟨some 21, .fieldAddr 24 (.tmp 3) 4, none, []⟩,
         ⟨none, .store 3 (.tmp 21) (.tmp 20), none, []⟩])
       .skip)))
     (.seq (.seq (.ops [⟨some 23, .binOp .eql 3 (.tmp 6) (.const (.int .i64 11)) 3, none, []⟩,
       ⟨some 22, .assign (.tmp 23), none, []⟩])
     (.cond (.tmp 22)
       .skip
       (.ops [⟨some 24, .binOp .eql 3 (.tmp 6) (.const (.int .i64 12)) 3, none, []⟩,
         ⟨some 22, .assign (.tmp 24), none, []⟩])))
     (.cond (.tmp 22)
       (.ops [⟨some 25, .move (.tmp 0), none, []⟩,
         ⟨some 26, .fieldAddr 24 (.tmp 3) 3, none, []⟩,
         ⟨some 27, .load 3 (.tmp 26), none, []⟩,
         ⟨some 28, .call ⟨.value (.func 14), #[(.tmp 25), (.tmp 27)], #[38, 3]⟩, none, []⟩,
         ⟨some 29, .fieldAddr 24 (.tmp 3) 3, none, []⟩,
         ⟨none, .store 3 (.tmp 29) (.tmp 28), none, []⟩])
       .skip))))))
  (.seq (.ops [⟨some 30, .load 24 (.tmp 3), none, []⟩,
    ⟨none, .store 24 (.tmp 4) (.tmp 30), none, []⟩])
  .ret)))
theorem plan18 : Try.f18.body.bind (plan Try.f18.ntmps) = some pc18 := by kernel_rfl
theorem calls18 {G : Nat → AV} {args : List AV} {σ : AS} {R : Out → AS → Prop} (hn : args.length = 2) (h : avc Try.prog G 31 pc18 (afin Try.prog [.cell 4 24] R) (frame0 args) σ) : ACalls Try.prog G 18 args σ R :=
  acalls' (n := 31) (l := [.cell 4 24]) mixed Try.func18 (by kernel_rfl) (by kernel_rfl) plan18 (by omega) h

/- (*mortise/peep.maker).chosen -/
def pc19 : PC :=
  (.seq (.ops [⟨some 5, .box 24 (.tmp 2), none, []⟩,
    ⟨some 6, .assign (.const (.slice none 0 0)), none, []⟩])
  (.seq (.ops [⟨some 8, .fieldAddr 24 (.tmp 5) 3, none, []⟩,
    ⟨some 9, .load 3 (.tmp 8), none, []⟩,
    ⟨some 7, .assign (.tmp 9), none, []⟩])
  (.seq (.seq (.ops [⟨some 10, .move (.tmp 1), none, []⟩,
    ⟨some 11, .binOp .eql 3 (.tmp 10) (.const (.int .i64 0)) 3, none, []⟩])
  (.cond (.tmp 11)
    (.ops [⟨some 12, .fieldAddr 24 (.tmp 5) 4, none, []⟩,
      ⟨some 13, .load 3 (.tmp 12), none, []⟩,
      ⟨some 7, .assign (.tmp 13), none, []⟩])
    .skip))
  (.seq (.seq (.ops [⟨some 14, .move (.tmp 7), none, []⟩,
    ⟨some 15, .binOp .lss 3 (.tmp 14) (.const (.int .i64 0)) 3, none, []⟩])
  (.cond (.tmp 15)
    (.seq (.ops [⟨some 6, .assign (.const (.slice none 0 0)), none, []⟩])
    .ret)
    .skip))
  (.seq (.ops [⟨some 16, .move (.tmp 0), none, []⟩,
    ⟨some 17, .move (.tmp 7), none, []⟩,
    ⟨some 18, .call ⟨.value (.func 14), #[(.tmp 16), (.tmp 17)], #[38, 3]⟩, none, []⟩,
    ⟨some 19, .build 24 #[(0, (.const (.int .i64 11))), (3, (.tmp 18))], none, []⟩,
    ⟨some 20, .buildSlice 27 1 #[(0, (.tmp 19))], none, []⟩,
    ⟨some 6, .assign (.tmp 20), none, []⟩])
  .ret)))))
theorem plan19 : Try.f19.body.bind (plan Try.f19.ntmps) = some pc19 := by kernel_rfl
theorem calls19 {G : Nat → AV} {args : List AV} {σ : AS} {R : Out → AS → Prop} (hn : args.length = 3) (h : avc Try.prog G 21 pc19 (afin Try.prog [.tmp 6] R) (frame0 args) σ) : ACalls Try.prog G 19 args σ R :=
  acalls' (n := 21) (l := [.tmp 6]) mixed Try.func19 (by kernel_rfl) (by kernel_rfl) plan19 (by omega) h

@[simp] theorem t_call5 : callable Try.prog 5 = true := by kernel_rfl
@[simp] theorem t_call6 : callable Try.prog 6 = true := by kernel_rfl
@[simp] theorem t_call7 : callable Try.prog 7 = true := by kernel_rfl
@[simp] theorem t_call8 : callable Try.prog 8 = true := by kernel_rfl
@[simp] theorem t_el27 : elOf Try.prog 27 = some 6 := by kernel_rfl
@[simp] theorem t_ez27 : elZero Try.prog 27 = some (.agg [(.int .i64 0), (.int .i64 0), (.int .i64 0), (.int .i64 0), (.int .i64 0), (.str [])]) := by kernel_rfl
@[simp] theorem t_call4 : callable Try.prog 4 = true := by kernel_rfl
@[simp] theorem t_struct24 : isStruct Try.prog 24 = true := by kernel_rfl
@[simp] theorem t_sized24 : sized Try.prog 24 = true := by kernel_rfl
@[simp] theorem t_zero24 : zeroOf Try.prog 24 = some (.agg [(.int .i64 0), (.int .i64 0), (.int .i64 0), (.int .i64 0), (.int .i64 0), (.str [])]) := by kernel_rfl
@[simp] theorem t_fi24_0 : fiOf Try.prog 24 0 = some ⟨0, 1, false⟩ := by kernel_rfl
@[simp] theorem t_fi24_2 : fiOf Try.prog 24 2 = some ⟨2, 1, false⟩ := by kernel_rfl
@[simp] theorem t_call9 : callable Try.prog 9 = true := by kernel_rfl
@[simp] theorem t_fi24_1 : fiOf Try.prog 24 1 = some ⟨1, 1, false⟩ := by kernel_rfl
@[simp] theorem t_fi24_3 : fiOf Try.prog 24 3 = some ⟨3, 1, false⟩ := by kernel_rfl
@[simp] theorem t_fi24_4 : fiOf Try.prog 24 4 = some ⟨4, 1, false⟩ := by kernel_rfl
@[simp] theorem t_el34 : elOf Try.prog 34 = some 1 := by kernel_rfl
@[simp] theorem t_ez34 : elZero Try.prog 34 = some .nilsl := by kernel_rfl
@[simp] theorem t_call11 : callable Try.prog 11 = true := by kernel_rfl
@[simp] theorem t_call10 : callable Try.prog 10 = true := by kernel_rfl
@[simp] theorem t_zero30 : zeroOf Try.prog 30 = some (.agg [.nilsl, (.int .i64 0), (.int .i64 0)]) := by kernel_rfl
@[simp] theorem t_sz30 : szOf Try.prog 30 = some 3 := by kernel_rfl
@[simp] theorem t_agg30 : aggOf Try.prog 30 = true := by kernel_rfl
@[simp] theorem t_fi30_0 : fiOf Try.prog 30 0 = some ⟨0, 1, false⟩ := by kernel_rfl
@[simp] theorem t_sz28 : szOf Try.prog 28 = some 1 := by kernel_rfl
@[simp] theorem t_agg28 : aggOf Try.prog 28 = false := by kernel_rfl
@[simp] theorem t_el28 : elOf Try.prog 28 = some 5 := by kernel_rfl
@[simp] theorem t_str28 : isStr Try.prog 28 = false := by kernel_rfl
@[simp] theorem t_und3 : Try.prog.underlying 3 = some (.int .i64) := by kernel_rfl
@[simp] theorem t_fi36_4 : fiOf Try.prog 36 4 = some ⟨4, 1, false⟩ := by kernel_rfl
@[simp] theorem t_sz34 : szOf Try.prog 34 = some 1 := by kernel_rfl
@[simp] theorem t_agg34 : aggOf Try.prog 34 = false := by kernel_rfl
@[simp] theorem t_str34 : isStr Try.prog 34 = false := by kernel_rfl
@[simp] theorem t_sz27 : szOf Try.prog 27 = some 1 := by kernel_rfl
@[simp] theorem t_agg27 : aggOf Try.prog 27 = false := by kernel_rfl
@[simp] theorem t_str27 : isStr Try.prog 27 = false := by kernel_rfl
@[simp] theorem t_call12 : callable Try.prog 12 = true := by kernel_rfl
@[simp] theorem t_call13 : callable Try.prog 13 = true := by kernel_rfl
@[simp] theorem t_sz24 : szOf Try.prog 24 = some 6 := by kernel_rfl
@[simp] theorem t_agg24 : aggOf Try.prog 24 = true := by kernel_rfl
@[simp] theorem t_fi30_1 : fiOf Try.prog 30 1 = some ⟨1, 1, false⟩ := by kernel_rfl
@[simp] theorem t_sz3 : szOf Try.prog 3 = some 1 := by kernel_rfl
@[simp] theorem t_agg3 : aggOf Try.prog 3 = false := by kernel_rfl
@[simp] theorem t_fi30_2 : fiOf Try.prog 30 2 = some ⟨2, 1, false⟩ := by kernel_rfl
@[simp] theorem t_struct30 : isStruct Try.prog 30 = true := by kernel_rfl
@[simp] theorem t_sized30 : sized Try.prog 30 = true := by kernel_rfl
@[simp] theorem t_sz36 : szOf Try.prog 36 = some 5 := by kernel_rfl
@[simp] theorem t_agg36 : aggOf Try.prog 36 = true := by kernel_rfl
@[simp] theorem t_zero36 : zeroOf Try.prog 36 = some (.agg [(.str []), .nilsl, .nilsl, (.int .i64 0), .nilsl]) := by kernel_rfl
@[simp] theorem t_struct40 : isStruct Try.prog 40 = true := by kernel_rfl
@[simp] theorem t_sized40 : sized Try.prog 40 = true := by kernel_rfl
@[simp] theorem t_zero40 : zeroOf Try.prog 40 = some (.agg [.nilsl, .nilsl]) := by kernel_rfl
@[simp] theorem t_fi40_0 : fiOf Try.prog 40 0 = some ⟨0, 1, false⟩ := by kernel_rfl
@[simp] theorem t_call14 : callable Try.prog 14 = true := by kernel_rfl
@[simp] theorem t_fi36_1 : fiOf Try.prog 36 1 = some ⟨1, 1, false⟩ := by kernel_rfl
@[simp] theorem t_sz33 : szOf Try.prog 33 = some 1 := by kernel_rfl
@[simp] theorem t_agg33 : aggOf Try.prog 33 = false := by kernel_rfl
@[simp] theorem t_fi36_2 : fiOf Try.prog 36 2 = some ⟨2, 1, false⟩ := by kernel_rfl
@[simp] theorem t_fi40_1 : fiOf Try.prog 40 1 = some ⟨1, 1, false⟩ := by kernel_rfl
@[simp] theorem t_call15 : callable Try.prog 15 = true := by kernel_rfl
@[simp] theorem t_ez28 : elZero Try.prog 28 = some (.agg [(.str []), .nilsl, .nilsl, (.int .i64 0), .nilsl]) := by kernel_rfl
@[simp] theorem t_eb28 : elBytes Try.prog 28 = some 96 := by kernel_rfl
@[simp] theorem t_el33 : elOf Try.prog 33 = some 1 := by kernel_rfl
@[simp] theorem t_ez33 : elZero Try.prog 33 = some (.int .i64 0) := by kernel_rfl
@[simp] theorem t_struct36 : isStruct Try.prog 36 = true := by kernel_rfl
@[simp] theorem t_sized36 : sized Try.prog 36 = true := by kernel_rfl
@[simp] theorem t_fi36_0 : fiOf Try.prog 36 0 = some ⟨0, 1, false⟩ := by kernel_rfl
@[simp] theorem t_fi36_3 : fiOf Try.prog 36 3 = some ⟨3, 1, false⟩ := by kernel_rfl
@[simp] theorem t_und24 : Try.prog.underlying 24 = some (.struct #[⟨ "Op", 3, 0, false, "", "", 0⟩, ⟨ "Type", 3, 1, false, "", "", 8⟩, ⟨ "N", 3, 2, false, "", "", 16⟩, ⟨ "Body", 3, 3, false, "", "", 24⟩, ⟨ "Other", 3, 4, false, "", "", 32⟩, ⟨ "S", 9, 5, false, "", "", 40⟩]) := by kernel_rfl
@[simp] theorem t_held24 : Try.prog.stoodInHeld 24 = false := by kernel_rfl
@[simp] theorem t_guard24 : Try.prog.eqGuardType Try.prog.depth 24 = false := by kernel_rfl
@[simp] theorem t_und9 : Try.prog.underlying 9 = some .string := by kernel_rfl
@[simp] theorem t_call16 : callable Try.prog 16 = true := by kernel_rfl
@[simp] theorem t_call17 : callable Try.prog 17 = true := by kernel_rfl
@[simp] theorem t_eb27 : elBytes Try.prog 27 = some 56 := by kernel_rfl
@[simp] theorem t_call18 : callable Try.prog 18 = true := by kernel_rfl
@[simp] theorem t_eb34 : elBytes Try.prog 34 = some 24 := by kernel_rfl
@[simp] theorem t_und33 : Try.prog.underlying 33 = some (.slice 3) := by kernel_rfl
@[simp] theorem t_eb33 : elBytes Try.prog 33 = some 8 := by kernel_rfl
@[simp] theorem t_str33 : isStr Try.prog 33 = false := by kernel_rfl
@[simp] theorem t_struct48 : isStruct Try.prog 48 = true := by kernel_rfl
@[simp] theorem t_sized48 : sized Try.prog 48 = true := by kernel_rfl
@[simp] theorem t_zero48 : zeroOf Try.prog 48 = some (.agg [(.int .i64 0), (.int .i64 0)]) := by kernel_rfl
@[simp] theorem t_fi48_0 : fiOf Try.prog 48 0 = some ⟨0, 1, false⟩ := by kernel_rfl
@[simp] theorem t_fi48_1 : fiOf Try.prog 48 1 = some ⟨1, 1, false⟩ := by kernel_rfl
@[simp] theorem t_und48 : Try.prog.underlying 48 = some (.struct #[⟨ "first", 3, 0, false, "", "mortise/peep", 0⟩, ⟨ "second", 3, 1, false, "", "mortise/peep", 8⟩]) := by kernel_rfl
@[simp] theorem t_held48 : Try.prog.stoodInHeld 48 = false := by kernel_rfl
@[simp] theorem t_guard48 : Try.prog.eqGuardType Try.prog.depth 48 = false := by kernel_rfl
@[simp] theorem t_call19 : callable Try.prog 19 = true := by kernel_rfl

end Go.Proofs.Ythifgodgfhbnfaa
