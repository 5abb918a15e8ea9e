/- THIS TEXT TELLS SOME FUNCTIONS OF THE PROGRAM IN THE CALCULUS, PROVES BY THE KERNEL THAT WHAT IS TOLD IS THE LOADED CODE, AND PROVES WHAT THEY COMPUTE: for every argument that is told; the conditions stand in each theorem. -/
import Derived.KernelRfl
import Derived.Test.YtfgjannlepahgaaGreatProg
import Derived.Test.YtfgjannlepahgaaGreatDhM1
set_option linter.unusedVariables false
set_option linter.unusedSimpArgs false
namespace Go.Abs
/- porism/tele.Split -/
def c1184b0 : SCode :=
 .seq (.seq (.reg
 [⟨some 5, none, .ldn 63 3 (.t 1)⟩,
 ⟨some 6, none, .call (.f 194) [.t 5, .k (.int .i64 6)]⟩])
 (.cond (.t 6)
 (.skip)
 (.exit 0)))
 (.block 1 (.seq (.seq (.reg
 [⟨some 7, none, .mv (.t 4)⟩,
 ⟨some 8, none, .fad 63 2 2 (.t 1)⟩,
 ⟨some 9, none, .ld1 61 (.t 8)⟩,
 ⟨some 10, none, .iad 63 3 (.t 9) (.k (.int .i64 1))⟩,
 ⟨some 11, none, .ldn 63 3 (.t 10)⟩,
 ⟨some 12, none, .lit 63 3 40 [.t 11]⟩,
 ⟨some 13, none, .appm 63 3 40 (.t 7) (.t 12)⟩,
 ⟨some 4, none, .mv (.t 13)⟩])
 (.gh))
 (.reg
 [⟨some 14, none, .fad 63 2 2 (.t 1)⟩,
 ⟨some 15, none, .ld1 61 (.t 14)⟩,
 ⟨some 16, none, .iad 63 3 (.t 15) (.k (.int .i64 0))⟩,
 ⟨some 17, none, .ldn 63 3 (.t 16)⟩,
 ⟨none, none, .stn 63 3 (.t 1) (.t 17)⟩])))
def c1184 : SCode :=
 .seq (.reg
 [⟨some 1, none, .box 63 (.t 0)⟩,
 ⟨some 2, none, .alloc 63 [.v (.int .i64 0), .v (.int .i64 0), .cap 3 40 []]⟩,
 ⟨some 3, none, .mv (.nil 3 40)⟩])
 (.seq (.seq (.reg
 [⟨some 4, none, .mv (.nil 3 40)⟩])
 (.gh))
 (.seq (.block 0 (.loop c1184b0))
 (.seq (.seq (.reg
 [⟨some 18, none, .mv (.t 4)⟩,
 ⟨some 19, none, .call (.f 195) [.t 18]⟩])
 (.gh))
 (.seq (.reg
 [⟨some 20, none, .ldn 63 3 (.t 1)⟩,
 ⟨some 21, none, .mv (.t 4)⟩,
 ⟨none, none, .stn 63 3 (.t 2) (.t 20)⟩,
 ⟨some 3, none, .mv (.t 21)⟩])
 (.ret)))))
def r1184 : List RR := [.cn 2 3, .t 3]
theorem ok1184 : okFn Go.Proofs.Tryz.prog 184 22 c1184 r1184 1 = true := by kernel_rfl
/- porism/tele.two -/
def c1194 : SCode :=
 .seq (.reg
 [⟨some 2, none, .box 63 (.t 0)⟩,
 ⟨some 4, none, .mv (.k (.bool false))⟩])
 (.seq (.reg
 [⟨some 5, none, .fad 63 0 0 (.t 2)⟩,
 ⟨some 6, none, .ld1 3 (.t 5)⟩,
 ⟨some 7, none, .mv (.t 1)⟩,
 ⟨some 8, none, .bin .eql (.t 6) (.t 7)⟩,
 ⟨some 9, none, .mv (.t 8)⟩,
 ⟨some 10, some (9, true), .fad 63 2 2 (.t 2)⟩,
 ⟨some 11, some (9, true), .ld1 61 (.t 10)⟩,
 ⟨some 12, some (9, true), .len 61 (.t 11)⟩,
 ⟨some 13, some (9, true), .bin .eql (.t 12) (.k (.int .i64 2))⟩,
 ⟨some 14, none, .pick (.t 9) (.t 13) (.k (.bool false))⟩,
 ⟨some 4, none, .mv (.t 14)⟩])
 (.ret))
def r1194 : List RR := [.t 4]
theorem ok1194 : okFn Go.Proofs.Tryz.prog 194 15 c1194 r1194 2 = true := by kernel_rfl
/- slices.Reverse[[]porism/api.Term,porism/api.Term] -/
def c1195b0 : SCode :=
 .seq (.seq (.reg
 [⟨some 7, none, .mv (.t 2)⟩,
 ⟨some 8, none, .mv (.t 3)⟩,
 ⟨some 9, none, .bin .lss (.t 7) (.t 8)⟩])
 (.cond (.t 9)
 (.skip)
 (.exit 0)))
 (.seq (.block 1 (.dreg [0, 0, 0, 0, 0, 0, 48, 112, 0, 0, 768, 1792, 4083, 8179, 16383, 32767]
 [⟨some 14, none, .mv (.t 0)⟩,
 ⟨some 15, none, .mv (.t 2)⟩,
 ⟨some 16, none, .mv (.t 0)⟩,
 ⟨some 17, none, .mv (.t 3)⟩,
 ⟨some 18, none, .mv (.t 0)⟩,
 ⟨some 19, none, .mv (.t 3)⟩,
 ⟨some 20, none, .iad 63 3 (.t 18) (.t 19)⟩,
 ⟨some 21, none, .ldn 63 3 (.t 20)⟩,
 ⟨some 22, none, .mv (.t 0)⟩,
 ⟨some 23, none, .mv (.t 2)⟩,
 ⟨some 24, none, .iad 63 3 (.t 22) (.t 23)⟩,
 ⟨some 25, none, .ldn 63 3 (.t 24)⟩,
 ⟨some 26, none, .iad 63 3 (.t 14) (.t 15)⟩,
 ⟨none, none, .stn 63 3 (.t 26) (.t 21)⟩,
 ⟨some 27, none, .iad 63 3 (.t 16) (.t 17)⟩,
 ⟨none, none, .stn 63 3 (.t 27) (.t 25)⟩]))
 (.reg
 [⟨some 10, none, .mv (.t 2)⟩,
 ⟨some 11, none, .bin .add (.t 10) (.k (.int .i64 1))⟩,
 ⟨some 12, none, .mv (.t 3)⟩,
 ⟨some 13, none, .bin .sub (.t 12) (.k (.int .i64 1))⟩,
 ⟨some 2, none, .mv (.t 11)⟩,
 ⟨some 3, none, .mv (.t 13)⟩]))
def c1195 : SCode :=
 .seq (.reg
 [⟨some 4, none, .mv (.t 0)⟩,
 ⟨some 5, none, .len 61 (.t 4)⟩,
 ⟨some 6, none, .bin .sub (.t 5) (.k (.int .i64 1))⟩,
 ⟨some 2, none, .mv (.k (.int .i64 0))⟩,
 ⟨some 3, none, .mv (.t 6)⟩])
 (.block 0 (.loop c1195b0))
def r1195 : List RR := []
theorem ok1195 : okFn Go.Proofs.Tryz.prog 195 28 c1195 r1195 1 = true := by kernel_rfl
/- (porism/posit.place).in -/
def c1161 : SCode :=
 .seq (.reg
 [⟨some 2, none, .box 145 (.t 0)⟩,
 ⟨some 4, none, .alloc 145 [.cap 6 80 [], .cap 6 96 [], .v (.int .i64 0), .v (.int .i64 0), .cap 7 104 [], .v (.int .i64 0)]⟩])
 (.seq (.reg
 [⟨some 5, none, .fad 145 3 5 (.t 2)⟩,
 ⟨some 6, none, .ld1 3 (.t 5)⟩,
 ⟨some 7, none, .mv (.t 1)⟩,
 ⟨some 8, none, .bin .add (.t 6) (.t 7)⟩,
 ⟨some 9, none, .fad 145 3 5 (.t 2)⟩,
 ⟨none, none, .st1 3 (.t 9) (.t 8)⟩])
 (.seq (.reg
 [⟨some 10, none, .ldn 145 6 (.t 2)⟩,
 ⟨none, none, .stn 145 6 (.t 4) (.t 10)⟩])
 (.ret)))
def r1161 : List RR := [.cn 4 6]
theorem ok1161 : okFn Go.Proofs.Tryz.prog 161 11 c1161 r1161 2 = true := by kernel_rfl
/- (porism/posit.place).guarded -/
def c1162 : SCode :=
 .seq (.reg
 [⟨some 2, none, .box 145 (.t 0)⟩,
 ⟨some 3, none, .box 63 (.t 1)⟩,
 ⟨some 4, none, .mv (.k (.int .i64 0))⟩,
 ⟨some 5, none, .mv (.k (.bool false))⟩])
 (.seq (.reg
 [⟨some 7, none, .fad 145 2 4 (.t 2)⟩,
 ⟨some 8, none, .ld1 102 (.t 7)⟩,
 ⟨some 9, none, .len 102 (.t 8)⟩,
 ⟨some 10, none, .bin .sub (.t 9) (.k (.int .i64 1))⟩,
 ⟨some 11, none, .fad 63 1 1 (.t 3)⟩,
 ⟨some 12, none, .ld1 3 (.t 11)⟩,
 ⟨some 13, none, .fad 145 3 5 (.t 2)⟩,
 ⟨some 14, none, .ld1 3 (.t 13)⟩,
 ⟨some 15, none, .bin .sub (.t 12) (.t 14)⟩,
 ⟨some 16, none, .bin .sub (.t 10) (.t 15)⟩,
 ⟨some 6, none, .mv (.t 16)⟩])
 (.seq (.seq (.reg
 [⟨some 17, none, .fad 63 0 0 (.t 3)⟩,
 ⟨some 18, none, .ld1 3 (.t 17)⟩,
 ⟨some 19, none, .bin .neq (.t 18) (.k (.int .i64 1))⟩,
 ⟨some 20, none, .mv (.t 19)⟩,
 ⟨some 21, some (20, false), .fad 63 1 1 (.t 3)⟩,
 ⟨some 22, some (20, false), .ld1 3 (.t 21)⟩,
 ⟨some 23, some (20, false), .fad 145 3 5 (.t 2)⟩,
 ⟨some 24, some (20, false), .ld1 3 (.t 23)⟩,
 ⟨some 25, some (20, false), .bin .lss (.t 22) (.t 24)⟩,
 ⟨some 26, none, .pick (.t 20) (.k (.bool true)) (.t 25)⟩,
 ⟨some 27, none, .mv (.t 26)⟩,
 ⟨some 28, some (27, false), .mv (.t 6)⟩,
 ⟨some 29, some (27, false), .bin .lss (.t 28) (.k (.int .i64 0))⟩,
 ⟨some 30, none, .pick (.t 27) (.k (.bool true)) (.t 29)⟩])
 (.cond (.t 30)
 (.seq (.reg
 [⟨some 4, none, .mv (.k (.int .i64 0))⟩,
 ⟨some 5, none, .mv (.k (.bool false))⟩])
 (.ret))
 (.skip)))
 (.seq (.dreg [0, 0, 2, 0, 14, 30, 62, 1, 255]
 [⟨some 31, none, .mv (.t 6)⟩,
 ⟨some 32, none, .fad 145 2 4 (.t 2)⟩,
 ⟨some 33, none, .ld1 102 (.t 32)⟩,
 ⟨some 34, none, .mv (.t 6)⟩,
 ⟨some 35, none, .iad 126 7 (.t 33) (.t 34)⟩,
 ⟨some 36, none, .fad 126 0 0 (.t 35)⟩,
 ⟨some 37, none, .ld1 4 (.t 36)⟩,
 ⟨some 4, none, .mv (.t 31)⟩,
 ⟨some 5, none, .mv (.t 37)⟩])
 (.ret))))
def r1162 : List RR := [.t 4, .t 5]
theorem ok1162 : okFn Go.Proofs.Tryz.prog 162 38 c1162 r1162 2 = true := by kernel_rfl
/- porism/shape.Of -/
def c1163b0 : SCode :=
 .seq (.reg
 [⟨some 55, none, .bin .lss (.t 54) (.t 53)⟩])
 (.seq (.cond (.t 55)
 (.skip)
 (.exit 2))
 (.seq (.block 3 (.seq (.reg
 [⟨some 56, none, .mv (.t 54)⟩,
 ⟨some 10, none, .mv (.t 56)⟩])
 (.seq (.reg
 [⟨some 57, none, .fad 189 2 2 (.t 9)⟩,
 ⟨some 58, none, .ldf 116 (.t 57)⟩,
 ⟨some 59, none, .ldn 68 3 (.t 3)⟩,
 ⟨some 60, none, .mv (.t 1)⟩,
 ⟨some 61, none, .mv (.t 10)⟩,
 ⟨some 62, none, .call (.t 58) [.t 59, .t 60, .t 61]⟩,
 ⟨some 63, none, .mv (.t 2)⟩,
 ⟨some 64, none, .bin .eql (.t 62) (.t 63)⟩])
 (.cond (.t 64)
 (.seq (.reg
 [⟨some 65, none, .fad 189 0 0 (.t 9)⟩,
 ⟨some 66, none, .ld1 3 (.t 65)⟩,
 ⟨some 67, none, .mv (.t 10)⟩,
 ⟨some 6, none, .mv (.t 66)⟩,
 ⟨some 7, none, .mv (.t 67)⟩])
 (.ret))
 (.skip)))))
 (.reg
 [⟨some 68, none, .bin .add (.t 54) (.k (.int .i64 1))⟩,
 ⟨some 54, none, .mv (.t 68)⟩])))
def c1163b1 : SCode :=
 .seq (.reg
 [⟨some 49, none, .bin .lss (.t 48) (.t 47)⟩])
 (.seq (.cond (.t 49)
 (.skip)
 (.exit 0))
 (.seq (.block 1 (.seq (.reg
 [⟨some 50, none, .iad 189 3 (.t 46) (.t 48)⟩,
 ⟨some 51, none, .ldn 189 3 (.t 50)⟩,
 ⟨some 9, none, .alloc 189 [.v (.int .i64 0), .v (.int .i64 0), .v .nilFunc]⟩,
 ⟨none, none, .stn 189 3 (.t 9) (.t 51)⟩])
 (.seq (.reg
 [⟨some 52, none, .fad 189 1 1 (.t 9)⟩,
 ⟨some 53, none, .ld1 3 (.t 52)⟩,
 ⟨some 54, none, .mv (.k (.int .i64 0))⟩])
 (.block 2 (.loop c1163b0)))))
 (.reg
 [⟨some 69, none, .bin .add (.t 48) (.k (.int .i64 1))⟩,
 ⟨some 48, none, .mv (.t 69)⟩])))
def c1163 : SCode :=
 .seq (.reg
 [⟨some 3, none, .box 68 (.t 0)⟩,
 ⟨some 6, none, .mv (.k (.int .i64 0))⟩,
 ⟨some 7, none, .mv (.k (.int .i64 0))⟩])
 (.seq (.seq (.reg
 [⟨some 11, none, .mv (.t 1)⟩,
 ⟨some 12, none, .bin .lss (.t 11) (.k (.int .i64 0))⟩,
 ⟨some 13, none, .mv (.t 12)⟩,
 ⟨some 14, some (13, false), .mv (.t 1)⟩,
 ⟨some 15, some (13, false), .bin .gtr (.t 14) (.k (.int .i64 65535))⟩,
 ⟨some 16, none, .pick (.t 13) (.k (.bool true)) (.t 15)⟩,
 ⟨some 17, none, .mv (.t 16)⟩,
 ⟨some 18, some (17, false), .mv (.t 2)⟩,
 ⟨some 19, some (17, false), .mv (.t 1)⟩,
 ⟨some 20, some (17, false), .bin .lss (.t 18) (.t 19)⟩,
 ⟨some 21, none, .pick (.t 17) (.k (.bool true)) (.t 20)⟩,
 ⟨some 22, none, .mv (.t 21)⟩,
 ⟨some 23, some (22, false), .mv (.t 2)⟩,
 ⟨some 24, some (22, false), .mv (.t 1)⟩,
 ⟨some 25, some (22, false), .bin .sub (.t 23) (.t 24)⟩,
 ⟨some 26, some (22, false), .ldn 68 3 (.t 3)⟩,
 ⟨some 27, some (22, false), .call (.f 94) [.t 26]⟩,
 ⟨some 28, some (22, false), .bin .geq (.t 25) (.t 27)⟩,
 ⟨some 29, none, .pick (.t 22) (.k (.bool true)) (.t 28)⟩])
 (.cond (.t 29)
 (.seq (.reg
 [⟨some 6, none, .mv (.k (.int .i64 0))⟩,
 ⟨some 7, none, .mv (.k (.int .i64 0))⟩])
 (.ret))
 (.skip)))
 (.seq (.seq (.reg
 [⟨some 30, none, .fad 68 0 0 (.t 3)⟩,
 ⟨some 31, none, .ld1 65 (.t 30)⟩,
 ⟨some 32, none, .len 65 (.t 31)⟩,
 ⟨some 33, none, .build 189 [.v (.int .i64 0), .v (.int .i64 0), .v .nilFunc] [(0, 0, 1, .k (.int .i64 3)), (1, 1, 1, .t 32), (2, 2, 1, .k (.func (.func 114) #[] #[]))]⟩,
 ⟨some 34, none, .fad 68 0 0 (.t 3)⟩,
 ⟨some 35, none, .ld1 65 (.t 34)⟩,
 ⟨some 36, none, .len 65 (.t 35)⟩,
 ⟨some 37, none, .build 189 [.v (.int .i64 0), .v (.int .i64 0), .v .nilFunc] [(0, 0, 1, .k (.int .i64 4)), (1, 1, 1, .t 36), (2, 2, 1, .k (.func (.func 115) #[] #[]))]⟩,
 ⟨some 38, none, .fad 68 1 1 (.t 3)⟩,
 ⟨some 39, none, .ld1 66 (.t 38)⟩,
 ⟨some 40, none, .len 66 (.t 39)⟩,
 ⟨some 41, none, .build 189 [.v (.int .i64 0), .v (.int .i64 0), .v .nilFunc] [(0, 0, 1, .k (.int .i64 5)), (1, 1, 1, .t 40), (2, 2, 1, .k (.func (.func 116) #[] #[]))]⟩,
 ⟨some 42, none, .fad 68 0 0 (.t 3)⟩,
 ⟨some 43, none, .ld1 65 (.t 42)⟩,
 ⟨some 44, none, .len 65 (.t 43)⟩,
 ⟨some 45, none, .build 189 [.v (.int .i64 0), .v (.int .i64 0), .v .nilFunc] [(0, 0, 1, .k (.int .i64 6)), (1, 1, 1, .t 44), (2, 2, 1, .k (.func (.func 117) #[] #[]))]⟩,
 ⟨some 46, none, .lit 189 3 24 [.t 33, .t 37, .t 41, .t 45]⟩,
 ⟨some 47, none, .len 190 (.t 46)⟩,
 ⟨some 48, none, .mv (.k (.int .i64 0))⟩])
 (.block 0 (.loop c1163b1)))
 (.seq (.reg
 [⟨some 6, none, .mv (.k (.int .i64 0))⟩,
 ⟨some 7, none, .mv (.k (.int .i64 0))⟩])
 (.ret))))
def r1163 : List RR := [.t 6, .t 7]
theorem ok1163 : okFn Go.Proofs.Tryz.prog 163 70 c1163 r1163 3 = true := by kernel_rfl
/- (porism/posit.place).all -/
def c1185 : SCode :=
 .seq (.reg
 [⟨some 2, none, .box 145 (.t 0)⟩,
 ⟨some 4, none, .mv (.k (.bool false))⟩])
 (.seq (.reg
 [⟨some 5, none, .mv (.t 1)⟩,
 ⟨some 6, none, .mkfn 196 [] [.t 2]⟩,
 ⟨some 7, none, .call (.f 175) [.t 5, .t 6]⟩,
 ⟨some 8, none, .not (.t 7)⟩,
 ⟨some 4, none, .mv (.t 8)⟩])
 (.ret))
def r1185 : List RR := [.t 4]
theorem ok1185 : okFn Go.Proofs.Tryz.prog 185 9 c1185 r1185 2 = true := by kernel_rfl
/- (porism/posit.place).all$1 -/
def c1196 : SCode :=
 .seq (.reg
 [⟨some 2, none, .box 63 (.t 0)⟩,
 ⟨some 3, none, .mv (.k (.bool false))⟩])
 (.seq (.reg
 [⟨some 4, none, .ldn 145 6 (.t 1)⟩,
 ⟨some 5, none, .ldn 63 3 (.t 2)⟩,
 ⟨some 6, none, .call (.f 123) [.t 4, .t 5]⟩,
 ⟨some 7, none, .not (.t 6)⟩,
 ⟨some 3, none, .mv (.t 7)⟩])
 (.ret))
def r1196 : List RR := [.t 3]
theorem ok1196 : okFn Go.Proofs.Tryz.prog 196 8 c1196 r1196 2 = true := by kernel_rfl
/- (porism/posit.place).decodes -/
def c1164 : SCode :=
 .seq (.reg
 [⟨some 2, none, .box 145 (.t 0)⟩,
 ⟨some 3, none, .box 63 (.t 1)⟩,
 ⟨some 4, none, .mv (.k (.bool false))⟩])
 (.seq (.reg
 [⟨some 15, none, .ldn 63 3 (.t 3)⟩,
 ⟨some 16, none, .call (.f 184) [.t 15]⟩,
 ⟨some 14, none, .mv (.t 16)⟩,
 ⟨some 17, none, .ext (.t 14) 0⟩,
 ⟨some 18, none, .ext (.t 14) 1⟩,
 ⟨some 5, none, .alloc 63 [.v (.int .i64 0), .v (.int .i64 0), .cap 3 40 []]⟩,
 ⟨none, none, .stn 63 3 (.t 5) (.t 17)⟩,
 ⟨some 6, none, .mv (.t 18)⟩])
 (.seq (.seq (.reg
 [⟨some 19, none, .fad 63 0 0 (.t 5)⟩,
 ⟨some 20, none, .ld1 3 (.t 19)⟩,
 ⟨some 21, none, .bin .neq (.t 20) (.k (.int .i64 3))⟩])
 (.cond (.t 21)
 (.seq (.reg
 [⟨some 4, none, .mv (.k (.bool false))⟩])
 (.ret))
 (.skip)))
 (.seq (.reg
 [⟨some 23, none, .fad 145 0 0 (.t 2)⟩,
 ⟨some 24, none, .ldn 68 3 (.t 23)⟩,
 ⟨some 25, none, .fad 145 1 3 (.t 2)⟩,
 ⟨some 26, none, .ld1 3 (.t 25)⟩,
 ⟨some 27, none, .fad 63 1 1 (.t 5)⟩,
 ⟨some 28, none, .ld1 3 (.t 27)⟩,
 ⟨some 29, none, .call (.f 163) [.t 24, .t 26, .t 28]⟩,
 ⟨some 22, none, .mv (.t 29)⟩,
 ⟨some 30, none, .ext (.t 22) 0⟩,
 ⟨some 31, none, .ext (.t 22) 1⟩,
 ⟨some 7, none, .mv (.t 30)⟩,
 ⟨some 8, none, .mv (.t 31)⟩])
 (.seq (.seq (.reg
 [⟨some 32, none, .mv (.t 7)⟩,
 ⟨some 33, none, .bin .neq (.t 32) (.k (.int .i64 4))⟩,
 ⟨some 34, none, .mv (.t 33)⟩,
 ⟨some 35, some (34, false), .mv (.t 6)⟩,
 ⟨some 36, some (34, false), .len 61 (.t 35)⟩,
 ⟨some 37, some (34, false), .fad 145 0 0 (.t 2)⟩,
 ⟨some 38, some (34, false), .fad 68 0 0 (.t 37)⟩,
 ⟨some 39, some (34, false), .ld1 65 (.t 38)⟩,
 ⟨some 40, some (34, false), .mv (.t 8)⟩,
 ⟨some 41, some (34, false), .iad 104 6 (.t 39) (.t 40)⟩,
 ⟨some 42, some (34, false), .fad 104 0 0 (.t 41)⟩,
 ⟨some 43, some (34, false), .ld1 102 (.t 42)⟩,
 ⟨some 44, some (34, false), .len 102 (.t 43)⟩,
 ⟨some 45, some (34, false), .bin .add (.t 44) (.k (.int .i64 1))⟩,
 ⟨some 46, some (34, false), .bin .neq (.t 36) (.t 45)⟩,
 ⟨some 47, none, .pick (.t 34) (.k (.bool true)) (.t 46)⟩])
 (.cond (.t 47)
 (.seq (.reg
 [⟨some 4, none, .mv (.k (.bool false))⟩])
 (.ret))
 (.skip)))
 (.seq (.reg
 [⟨some 48, none, .mv (.t 6)⟩,
 ⟨some 49, none, .len 61 (.t 48)⟩,
 ⟨some 50, none, .bin .sub (.t 49) (.k (.int .i64 1))⟩,
 ⟨some 9, none, .mv (.t 50)⟩])
 (.seq (.reg
 [⟨some 52, none, .mv (.t 6)⟩,
 ⟨some 53, none, .mv (.t 9)⟩,
 ⟨some 54, none, .iad 63 3 (.t 52) (.t 53)⟩,
 ⟨some 55, none, .ldn 63 3 (.t 54)⟩,
 ⟨some 56, none, .call (.f 184) [.t 55]⟩,
 ⟨some 51, none, .mv (.t 56)⟩,
 ⟨some 57, none, .ext (.t 51) 0⟩,
 ⟨some 58, none, .ext (.t 51) 1⟩,
 ⟨some 10, none, .alloc 63 [.v (.int .i64 0), .v (.int .i64 0), .cap 3 40 []]⟩,
 ⟨none, none, .stn 63 3 (.t 10) (.t 57)⟩,
 ⟨some 11, none, .mv (.t 58)⟩])
 (.seq (.reg
 [⟨some 60, none, .ldn 145 6 (.t 2)⟩,
 ⟨some 61, none, .ldn 63 3 (.t 10)⟩,
 ⟨some 62, none, .call (.f 162) [.t 60, .t 61]⟩,
 ⟨some 59, none, .mv (.t 62)⟩,
 ⟨some 63, none, .ext (.t 59) 0⟩,
 ⟨some 64, none, .ext (.t 59) 1⟩,
 ⟨some 12, none, .mv (.t 63)⟩,
 ⟨some 13, none, .mv (.t 64)⟩])
 (.seq (.dreg [0, 1, 3, 3, 3, 27, 63, 127, 255, 511, 511, 2047, 4095, 8191]
 [⟨some 65, none, .mv (.t 13)⟩,
 ⟨some 66, none, .mv (.t 65)⟩,
 ⟨some 67, some (66, true), .ldn 145 6 (.t 2)⟩,
 ⟨some 68, some (66, true), .mv (.t 6)⟩,
 ⟨some 69, some (66, true), .mv (.t 9)⟩,
 ⟨some 70, some (66, true), .slc 63 3 40 (.t 68) none (some (.t 69)) none⟩,
 ⟨some 71, some (66, true), .call (.f 185) [.t 67, .t 70]⟩,
 ⟨some 72, none, .pick (.t 66) (.t 71) (.k (.bool false))⟩,
 ⟨some 73, none, .mv (.t 72)⟩,
 ⟨some 74, some (73, true), .ldn 145 6 (.t 2)⟩,
 ⟨some 75, some (73, true), .mv (.t 11)⟩,
 ⟨some 76, some (73, true), .call (.f 185) [.t 74, .t 75]⟩,
 ⟨some 77, none, .pick (.t 73) (.t 76) (.k (.bool false))⟩,
 ⟨some 4, none, .mv (.t 77)⟩])
 (.ret)))))))))
def r1164 : List RR := [.t 4]
theorem ok1164 : okFn Go.Proofs.Tryz.prog 164 78 c1164 r1164 2 = true := by kernel_rfl
/- (porism/posit.place).clean -/
def c1123b0 : SCode :=
 .seq (.reg
 [⟨some 46, none, .bin .lss (.t 45) (.t 44)⟩])
 (.seq (.cond (.t 46)
 (.skip)
 (.exit 1))
 (.seq (.block 2 (.seq (.reg
 [⟨some 47, none, .mv (.t 45)⟩,
 ⟨some 48, none, .iad 63 3 (.t 43) (.t 45)⟩,
 ⟨some 49, none, .ldn 63 3 (.t 48)⟩,
 ⟨some 10, none, .alloc 63 [.v (.int .i64 0), .v (.int .i64 0), .cap 3 40 []]⟩,
 ⟨some 9, none, .mv (.t 47)⟩,
 ⟨none, none, .stn 63 3 (.t 10) (.t 49)⟩])
 (.seq (.dreg [0, 0, 2, 0, 14, 31, 0, 127, 255]
 [⟨some 50, none, .ldn 145 6 (.t 2)⟩,
 ⟨some 51, none, .fad 63 0 0 (.t 3)⟩,
 ⟨some 52, none, .ld1 3 (.t 51)⟩,
 ⟨some 53, none, .mv (.t 9)⟩,
 ⟨some 54, none, .call (.f 154) [.t 52, .t 53]⟩,
 ⟨some 55, none, .call (.f 161) [.t 50, .t 54]⟩,
 ⟨some 56, none, .ldn 63 3 (.t 10)⟩,
 ⟨some 57, none, .call (.f 123) [.t 55, .t 56]⟩,
 ⟨some 58, none, .not (.t 57)⟩])
 (.cond (.t 58)
 (.seq (.reg
 [⟨some 4, none, .mv (.k (.bool false))⟩])
 (.ret))
 (.skip)))))
 (.reg
 [⟨some 59, none, .bin .add (.t 45) (.k (.int .i64 1))⟩,
 ⟨some 45, none, .mv (.t 59)⟩])))
def c1123 : SCode :=
 .seq (.reg
 [⟨some 2, none, .box 145 (.t 0)⟩,
 ⟨some 3, none, .box 63 (.t 1)⟩,
 ⟨some 4, none, .mv (.k (.bool false))⟩])
 (.seq (.seq (.reg
 [⟨some 11, none, .fad 63 0 0 (.t 3)⟩,
 ⟨some 12, none, .ld1 3 (.t 11)⟩])
 (.block 0 (.seq (.reg
 [⟨some 14, none, .bin .eql (.t 12) (.k (.int .i64 1))⟩,
 ⟨some 13, none, .mv (.t 14)⟩])
 (.cond (.t 13)
 (.seq (.reg
 [⟨some 16, none, .ldn 145 6 (.t 2)⟩,
 ⟨some 17, none, .ldn 63 3 (.t 3)⟩,
 ⟨some 18, none, .call (.f 162) [.t 16, .t 17]⟩,
 ⟨some 15, none, .mv (.t 18)⟩,
 ⟨some 19, none, .ext (.t 15) 0⟩,
 ⟨some 20, none, .ext (.t 15) 1⟩,
 ⟨some 5, none, .mv (.t 19)⟩,
 ⟨some 6, none, .mv (.t 20)⟩])
 (.seq (.reg
 [⟨some 21, none, .mv (.t 6)⟩,
 ⟨some 22, none, .not (.t 21)⟩,
 ⟨some 4, none, .mv (.t 22)⟩])
 (.ret)))
 (.seq (.reg
 [⟨some 24, none, .bin .eql (.t 12) (.k (.int .i64 3))⟩,
 ⟨some 23, none, .mv (.t 24)⟩])
 (.cond (.t 23)
 (.seq (.reg
 [⟨some 26, none, .fad 145 0 0 (.t 2)⟩,
 ⟨some 27, none, .ldn 68 3 (.t 26)⟩,
 ⟨some 28, none, .fad 145 1 3 (.t 2)⟩,
 ⟨some 29, none, .ld1 3 (.t 28)⟩,
 ⟨some 30, none, .fad 63 1 1 (.t 3)⟩,
 ⟨some 31, none, .ld1 3 (.t 30)⟩,
 ⟨some 32, none, .call (.f 163) [.t 27, .t 29, .t 31]⟩,
 ⟨some 25, none, .mv (.t 32)⟩,
 ⟨some 33, none, .ext (.t 25) 0⟩,
 ⟨some 34, none, .ext (.t 25) 1⟩,
 ⟨some 7, none, .mv (.t 33)⟩,
 ⟨some 8, none, .mv (.t 34)⟩])
 (.seq (.reg
 [⟨some 35, none, .mv (.t 7)⟩,
 ⟨some 36, none, .bin .eql (.t 35) (.k (.int .i64 0))⟩,
 ⟨some 4, none, .mv (.t 36)⟩])
 (.ret)))
 (.seq (.reg
 [⟨some 38, none, .bin .eql (.t 12) (.k (.int .i64 6))⟩,
 ⟨some 37, none, .mv (.t 38)⟩])
 (.cond (.t 37)
 (.seq (.reg
 [⟨some 39, none, .ldn 145 6 (.t 2)⟩,
 ⟨some 40, none, .ldn 63 3 (.t 3)⟩,
 ⟨some 41, none, .call (.f 164) [.t 39, .t 40]⟩])
 (.cond (.t 41)
 (.seq (.reg
 [⟨some 4, none, .mv (.k (.bool true))⟩])
 (.ret))
 (.skip)))
 (.skip)))))))))
 (.seq (.seq (.reg
 [⟨some 42, none, .fad 63 2 2 (.t 3)⟩,
 ⟨some 43, none, .ld1 61 (.t 42)⟩,
 ⟨some 44, none, .len 61 (.t 43)⟩,
 ⟨some 45, none, .mv (.k (.int .i64 0))⟩])
 (.block 1 (.loop c1123b0)))
 (.seq (.reg
 [⟨some 4, none, .mv (.k (.bool true))⟩])
 (.ret))))
def r1123 : List RR := [.t 4]
theorem ok1123 : okFn Go.Proofs.Tryz.prog 123 60 c1123 r1123 2 = true := by kernel_rfl
/- (porism/posit.place).good -/
def c1165b0 : SCode :=
 .seq (.reg
 [⟨some 86, none, .bin .lss (.t 85) (.t 84)⟩])
 (.seq (.cond (.t 86)
 (.skip)
 (.exit 0))
 (.seq (.block 1 (.seq (.reg
 [⟨some 87, none, .mv (.t 85)⟩,
 ⟨some 88, none, .iad 126 7 (.t 83) (.t 85)⟩,
 ⟨some 89, none, .ldn 126 7 (.t 88)⟩,
 ⟨some 14, none, .alloc 126 [.v (.bool false), .v (.int .i64 0), .v (.int .i64 0), .cap 3 40 [], .cap 3 40 [], .v (.int .i64 0), .cap 3 40 []]⟩,
 ⟨some 13, none, .mv (.t 87)⟩,
 ⟨none, none, .stn 126 7 (.t 14) (.t 89)⟩])
 (.seq (.dreg [0, 0, 0, 6, 14, 31, 63, 127, 127, 255, 1023]
 [⟨some 91, none, .ldn 145 6 (.t 3)⟩,
 ⟨some 92, none, .mv (.t 8)⟩,
 ⟨some 93, none, .mv (.t 13)⟩,
 ⟨some 94, none, .iad 63 3 (.t 92) (.t 93)⟩,
 ⟨some 95, none, .ldn 63 3 (.t 94)⟩,
 ⟨some 96, none, .call (.f 162) [.t 91, .t 95]⟩,
 ⟨some 90, none, .mv (.t 96)⟩,
 ⟨some 97, none, .ext (.t 90) 0⟩,
 ⟨some 98, none, .ext (.t 90) 1⟩,
 ⟨some 15, none, .mv (.t 97)⟩,
 ⟨some 16, none, .mv (.t 98)⟩])
 (.block 2 (.seq (.seq (.dreg [0, 1, 3, 7, 15, 15, 15, 111, 239, 511, 1023, 2047, 4095]
 [⟨some 100, none, .fad 126 0 0 (.t 14)⟩,
 ⟨some 101, none, .ld1 4 (.t 100)⟩,
 ⟨some 102, none, .not (.t 101)⟩,
 ⟨some 103, none, .mv (.t 102)⟩,
 ⟨some 104, some (103, true), .ldn 145 6 (.t 3)⟩,
 ⟨some 105, some (103, true), .mv (.t 8)⟩,
 ⟨some 106, some (103, true), .mv (.t 13)⟩,
 ⟨some 107, some (103, true), .iad 63 3 (.t 105) (.t 106)⟩,
 ⟨some 108, some (103, true), .ldn 63 3 (.t 107)⟩,
 ⟨some 109, some (103, true), .call (.f 123) [.t 104, .t 108]⟩,
 ⟨some 110, some (103, true), .not (.t 109)⟩,
 ⟨some 111, none, .pick (.t 103) (.t 110) (.k (.bool false))⟩,
 ⟨some 99, none, .mv (.t 111)⟩])
 (.cond (.t 99)
 (.skip)
 (.seq (.dreg [0, 1, 3, 7, 15, 31, 63, 127, 255, 511, 511, 511, 3583, 7679, 511, 32767, 65535, 131071, 262143]
 [⟨some 112, none, .fad 126 0 0 (.t 14)⟩,
 ⟨some 113, none, .ld1 4 (.t 112)⟩,
 ⟨some 114, none, .mv (.t 113)⟩,
 ⟨some 115, some (114, true), .fad 126 2 4 (.t 14)⟩,
 ⟨some 116, some (114, true), .ld1 61 (.t 115)⟩,
 ⟨some 117, some (114, true), .len 61 (.t 116)⟩,
 ⟨some 118, some (114, true), .bin .eql (.t 117) (.k (.int .i64 0))⟩,
 ⟨some 119, none, .pick (.t 114) (.t 118) (.k (.bool false))⟩,
 ⟨some 120, none, .mv (.t 119)⟩,
 ⟨some 121, some (120, true), .ldn 145 6 (.t 3)⟩,
 ⟨some 122, some (120, true), .mv (.t 8)⟩,
 ⟨some 123, some (120, true), .mv (.t 13)⟩,
 ⟨some 124, some (120, true), .iad 63 3 (.t 122) (.t 123)⟩,
 ⟨some 125, some (120, true), .ldn 63 3 (.t 124)⟩,
 ⟨some 126, some (120, true), .mv (.t 2)⟩,
 ⟨some 127, some (120, true), .call (.f 165) [.t 121, .t 125, .t 126]⟩,
 ⟨some 128, some (120, true), .not (.t 127)⟩,
 ⟨some 129, none, .pick (.t 120) (.t 128) (.k (.bool false))⟩,
 ⟨some 99, none, .mv (.t 129)⟩])
 (.cond (.t 99)
 (.skip)
 (.reg
 [⟨some 130, none, .fad 126 0 0 (.t 14)⟩,
 ⟨some 131, none, .ld1 4 (.t 130)⟩,
 ⟨some 132, none, .mv (.t 131)⟩,
 ⟨some 133, some (132, true), .fad 126 2 4 (.t 14)⟩,
 ⟨some 134, some (132, true), .ld1 61 (.t 133)⟩,
 ⟨some 135, some (132, true), .len 61 (.t 134)⟩,
 ⟨some 136, some (132, true), .bin .gtr (.t 135) (.k (.int .i64 0))⟩,
 ⟨some 137, none, .pick (.t 132) (.t 136) (.k (.bool false))⟩,
 ⟨some 138, none, .mv (.t 137)⟩,
 ⟨some 139, some (138, true), .mv (.t 16)⟩,
 ⟨some 140, some (138, true), .not (.t 139)⟩,
 ⟨some 141, none, .pick (.t 138) (.t 140) (.k (.bool false))⟩,
 ⟨some 99, none, .mv (.t 141)⟩])))))
 (.cond (.t 99)
 (.seq (.reg
 [⟨some 6, none, .mv (.k (.bool false))⟩])
 (.ret))
 (.skip)))))))
 (.reg
 [⟨some 142, none, .bin .add (.t 85) (.k (.int .i64 1))⟩,
 ⟨some 85, none, .mv (.t 142)⟩])))
def c1165 : SCode :=
 .seq (.reg
 [⟨some 3, none, .box 145 (.t 0)⟩,
 ⟨some 4, none, .box 63 (.t 1)⟩,
 ⟨some 6, none, .mv (.k (.bool false))⟩])
 (.seq (.reg
 [⟨some 18, none, .ldn 63 3 (.t 4)⟩,
 ⟨some 19, none, .call (.f 184) [.t 18]⟩,
 ⟨some 17, none, .mv (.t 19)⟩,
 ⟨some 20, none, .ext (.t 17) 0⟩,
 ⟨some 21, none, .ext (.t 17) 1⟩,
 ⟨some 7, none, .alloc 63 [.v (.int .i64 0), .v (.int .i64 0), .cap 3 40 []]⟩,
 ⟨none, none, .stn 63 3 (.t 7) (.t 20)⟩,
 ⟨some 8, none, .mv (.t 21)⟩])
 (.seq (.reg
 [⟨some 23, none, .ldn 145 6 (.t 3)⟩,
 ⟨some 24, none, .ldn 63 3 (.t 7)⟩,
 ⟨some 25, none, .call (.f 162) [.t 23, .t 24]⟩,
 ⟨some 22, none, .mv (.t 25)⟩,
 ⟨some 26, none, .ext (.t 22) 0⟩,
 ⟨some 27, none, .ext (.t 22) 1⟩,
 ⟨some 9, none, .mv (.t 26)⟩,
 ⟨some 10, none, .mv (.t 27)⟩])
 (.seq (.seq (.reg
 [⟨some 28, none, .mv (.t 10)⟩])
 (.cond (.t 28)
 (.seq (.reg
 [⟨some 29, none, .mv (.t 8)⟩,
 ⟨some 30, none, .len 61 (.t 29)⟩,
 ⟨some 31, none, .fad 145 2 4 (.t 3)⟩,
 ⟨some 32, none, .ld1 102 (.t 31)⟩,
 ⟨some 33, none, .mv (.t 9)⟩,
 ⟨some 34, none, .iad 126 7 (.t 32) (.t 33)⟩,
 ⟨some 35, none, .fad 126 2 4 (.t 34)⟩,
 ⟨some 36, none, .ld1 61 (.t 35)⟩,
 ⟨some 37, none, .len 61 (.t 36)⟩,
 ⟨some 38, none, .bin .eql (.t 30) (.t 37)⟩,
 ⟨some 39, none, .mv (.t 38)⟩,
 ⟨some 40, some (39, true), .ldn 145 6 (.t 3)⟩,
 ⟨some 41, some (39, true), .mv (.t 8)⟩,
 ⟨some 42, some (39, true), .call (.f 185) [.t 40, .t 41]⟩,
 ⟨some 43, none, .pick (.t 39) (.t 42) (.k (.bool false))⟩,
 ⟨some 6, none, .mv (.t 43)⟩])
 (.ret))
 (.skip)))
 (.seq (.seq (.reg
 [⟨some 44, none, .fad 63 0 0 (.t 7)⟩,
 ⟨some 45, none, .ld1 3 (.t 44)⟩,
 ⟨some 46, none, .bin .neq (.t 45) (.k (.int .i64 3))⟩])
 (.cond (.t 46)
 (.seq (.reg
 [⟨some 6, none, .mv (.k (.bool false))⟩])
 (.ret))
 (.skip)))
 (.seq (.reg
 [⟨some 48, none, .fad 145 0 0 (.t 3)⟩,
 ⟨some 49, none, .ldn 68 3 (.t 48)⟩,
 ⟨some 50, none, .fad 145 1 3 (.t 3)⟩,
 ⟨some 51, none, .ld1 3 (.t 50)⟩,
 ⟨some 52, none, .fad 63 1 1 (.t 7)⟩,
 ⟨some 53, none, .ld1 3 (.t 52)⟩,
 ⟨some 54, none, .call (.f 163) [.t 49, .t 51, .t 53]⟩,
 ⟨some 47, none, .mv (.t 54)⟩,
 ⟨some 55, none, .ext (.t 47) 0⟩,
 ⟨some 56, none, .ext (.t 47) 1⟩,
 ⟨some 11, none, .mv (.t 55)⟩,
 ⟨some 12, none, .mv (.t 56)⟩])
 (.seq (.seq (.reg
 [⟨some 57, none, .mv (.t 11)⟩,
 ⟨some 58, none, .bin .neq (.t 57) (.k (.int .i64 5))⟩,
 ⟨some 59, none, .mv (.t 58)⟩,
 ⟨some 60, some (59, false), .mv (.t 12)⟩,
 ⟨some 61, some (59, false), .mv (.t 2)⟩,
 ⟨some 62, some (59, false), .bin .geq (.t 60) (.t 61)⟩,
 ⟨some 63, none, .pick (.t 59) (.k (.bool true)) (.t 62)⟩,
 ⟨some 64, none, .mv (.t 63)⟩,
 ⟨some 65, some (64, false), .mv (.t 8)⟩,
 ⟨some 66, some (64, false), .len 61 (.t 65)⟩,
 ⟨some 67, some (64, false), .fad 145 0 0 (.t 3)⟩,
 ⟨some 68, some (64, false), .fad 68 1 1 (.t 67)⟩,
 ⟨some 69, some (64, false), .ld1 66 (.t 68)⟩,
 ⟨some 70, some (64, false), .mv (.t 12)⟩,
 ⟨some 71, some (64, false), .iad 106 6 (.t 69) (.t 70)⟩,
 ⟨some 72, some (64, false), .fad 106 1 1 (.t 71)⟩,
 ⟨some 73, some (64, false), .ld1 102 (.t 72)⟩,
 ⟨some 74, some (64, false), .len 102 (.t 73)⟩,
 ⟨some 75, some (64, false), .bin .neq (.t 66) (.t 74)⟩,
 ⟨some 76, none, .pick (.t 64) (.k (.bool true)) (.t 75)⟩])
 (.cond (.t 76)
 (.seq (.reg
 [⟨some 6, none, .mv (.k (.bool false))⟩])
 (.ret))
 (.skip)))
 (.seq (.seq (.reg
 [⟨some 77, none, .fad 145 0 0 (.t 3)⟩,
 ⟨some 78, none, .fad 68 1 1 (.t 77)⟩,
 ⟨some 79, none, .ld1 66 (.t 78)⟩,
 ⟨some 80, none, .mv (.t 12)⟩,
 ⟨some 81, none, .iad 106 6 (.t 79) (.t 80)⟩,
 ⟨some 82, none, .fad 106 1 1 (.t 81)⟩,
 ⟨some 83, none, .ld1 102 (.t 82)⟩,
 ⟨some 84, none, .len 102 (.t 83)⟩,
 ⟨some 85, none, .mv (.k (.int .i64 0))⟩])
 (.block 0 (.loop c1165b0)))
 (.seq (.reg
 [⟨some 6, none, .mv (.k (.bool true))⟩])
 (.ret)))))))))
def r1165 : List RR := [.t 6]
theorem ok1165 : okFn Go.Proofs.Tryz.prog 165 143 c1165 r1165 3 = true := by kernel_rfl
/- (porism/posit.place).indices -/
def c1124b0 : SCode :=
 .seq (.reg
 [⟨some 20, none, .bin .lss (.t 19) (.t 18)⟩])
 (.seq (.cond (.t 20)
 (.skip)
 (.exit 0))
 (.seq (.block 1 (.seq (.reg
 [⟨some 21, none, .mv (.t 19)⟩,
 ⟨some 22, none, .iad 126 7 (.t 17) (.t 19)⟩,
 ⟨some 23, none, .ldn 126 7 (.t 22)⟩,
 ⟨some 10, none, .alloc 126 [.v (.bool false), .v (.int .i64 0), .v (.int .i64 0), .cap 3 40 [], .cap 3 40 [], .v (.int .i64 0), .cap 3 40 []]⟩,
 ⟨some 9, none, .mv (.t 21)⟩,
 ⟨none, none, .stn 126 7 (.t 10) (.t 23)⟩])
 (.seq (.dreg [0, 1, 3, 7, 7, 7, 55, 119, 7, 511, 1023, 2047, 4095, 8191, 16383, 32767, 65535, 131071, 131071, 131071, 917503, 1966079, 4194303, 8388607, 16777215, 33554431]
 [⟨some 24, none, .fad 126 0 0 (.t 10)⟩,
 ⟨some 25, none, .ld1 4 (.t 24)⟩,
 ⟨some 26, none, .mv (.t 25)⟩,
 ⟨some 27, some (26, true), .ldn 145 6 (.t 4)⟩,
 ⟨some 28, some (26, true), .mv (.t 2)⟩,
 ⟨some 29, some (26, true), .mv (.t 9)⟩,
 ⟨some 30, some (26, true), .iad 63 3 (.t 28) (.t 29)⟩,
 ⟨some 31, some (26, true), .ldn 63 3 (.t 30)⟩,
 ⟨some 32, some (26, true), .mv (.t 3)⟩,
 ⟨some 33, some (26, true), .call (.f 165) [.t 27, .t 31, .t 32]⟩,
 ⟨some 34, some (26, true), .not (.t 33)⟩,
 ⟨some 35, none, .pick (.t 26) (.t 34) (.k (.bool false))⟩,
 ⟨some 36, none, .mv (.t 35)⟩,
 ⟨some 37, some (36, false), .fad 126 0 0 (.t 10)⟩,
 ⟨some 38, some (36, false), .ld1 4 (.t 37)⟩,
 ⟨some 39, some (36, false), .not (.t 38)⟩,
 ⟨some 40, some (36, false), .mv (.t 39)⟩,
 ⟨some 41, some (40, true), .ldn 145 6 (.t 4)⟩,
 ⟨some 42, some (40, true), .mv (.t 2)⟩,
 ⟨some 43, some (40, true), .mv (.t 9)⟩,
 ⟨some 44, some (40, true), .iad 63 3 (.t 42) (.t 43)⟩,
 ⟨some 45, some (40, true), .ldn 63 3 (.t 44)⟩,
 ⟨some 46, some (40, true), .call (.f 123) [.t 41, .t 45]⟩,
 ⟨some 47, some (40, true), .not (.t 46)⟩,
 ⟨some 48, some (36, false), .pick (.t 40) (.t 47) (.k (.bool false))⟩,
 ⟨some 49, none, .pick (.t 36) (.k (.bool true)) (.t 48)⟩])
 (.cond (.t 49)
 (.seq (.reg
 [⟨some 8, none, .mv (.k (.bool false))⟩])
 (.ret))
 (.skip)))))
 (.reg
 [⟨some 50, none, .bin .add (.t 19) (.k (.int .i64 1))⟩,
 ⟨some 19, none, .mv (.t 50)⟩])))
def c1124 : SCode :=
 .seq (.reg
 [⟨some 4, none, .box 145 (.t 0)⟩,
 ⟨some 8, none, .mv (.k (.bool false))⟩])
 (.seq (.seq (.reg
 [⟨some 11, none, .fad 145 0 0 (.t 4)⟩,
 ⟨some 12, none, .fad 68 0 0 (.t 11)⟩,
 ⟨some 13, none, .ld1 65 (.t 12)⟩,
 ⟨some 14, none, .mv (.t 1)⟩,
 ⟨some 15, none, .iad 104 6 (.t 13) (.t 14)⟩,
 ⟨some 16, none, .fad 104 0 0 (.t 15)⟩,
 ⟨some 17, none, .ld1 102 (.t 16)⟩,
 ⟨some 18, none, .len 102 (.t 17)⟩,
 ⟨some 19, none, .mv (.k (.int .i64 0))⟩])
 (.block 0 (.loop c1124b0)))
 (.seq (.reg
 [⟨some 8, none, .mv (.k (.bool true))⟩])
 (.ret)))
def r1124 : List RR := [.t 8]
theorem ok1124 : okFn Go.Proofs.Tryz.prog 124 51 c1124 r1124 4 = true := by kernel_rfl
/- porism/posit.row -/
def w1122_0 : List (List Nat) := [[], [], [], [], [], [], [1122011], [1122011]]
def f1122_0 : List (List Nat) := [[1122011], [1122011], [1122011], [1122011], [1122011], [1122011], [], []]
def c1122b0 : SCode :=
 .seq (.reg
 [⟨some 39, none, .bin .lss (.t 38) (.t 37)⟩])
 (.seq (.cond (.t 39)
 (.skip)
 (.exit 2))
 (.seq (.block 3 (.seq (.reg
 [⟨some 40, none, .mv (.t 38)⟩,
 ⟨some 41, none, .iad 63 3 (.t 36) (.t 38)⟩,
 ⟨some 42, none, .ldn 63 3 (.t 41)⟩,
 ⟨some 13, none, .alloc 63 [.v (.int .i64 0), .v (.int .i64 0), .cap 3 40 []]⟩,
 ⟨some 12, none, .mv (.t 40)⟩,
 ⟨none, none, .stn 63 3 (.t 13) (.t 42)⟩])
 (.seq (.dreg [0, 0, 3, 0, 15, 31]
 [⟨some 43, none, .ldn 145 6 (.t 11)⟩,
 ⟨some 44, none, .mv (.t 12)⟩,
 ⟨some 45, none, .call (.f 161) [.t 43, .t 44]⟩,
 ⟨some 46, none, .ldn 63 3 (.t 13)⟩,
 ⟨some 47, none, .call (.f 123) [.t 45, .t 46]⟩,
 ⟨some 48, none, .not (.t 47)⟩])
 (.cond (.t 48)
 (.seq (.reg
 [⟨some 8, none, .mv (.k (.bool false))⟩])
 (.ret))
 (.skip)))))
 (.reg
 [⟨some 49, none, .bin .add (.t 38) (.k (.int .i64 1))⟩,
 ⟨some 38, none, .mv (.t 49)⟩])))
def c1122b1 : SCode :=
 .seq (.reg
 [⟨some 17, none, .bin .lss (.t 16) (.t 15)⟩])
 (.seq (.cond (.t 17)
 (.skip)
 (.exit 0))
 (.seq (.block 1 (.seq (.reg
 [⟨some 18, none, .mv (.t 16)⟩,
 ⟨some 19, none, .iad 126 7 (.t 14) (.t 16)⟩,
 ⟨some 20, none, .ldn 126 7 (.t 19)⟩,
 ⟨some 10, none, .alloc 126 [.v (.bool false), .v (.int .i64 0), .v (.int .i64 0), .cap 3 40 [], .cap 3 40 [], .v (.int .i64 0), .cap 3 40 []]⟩,
 ⟨some 9, none, .mv (.t 18)⟩,
 ⟨none, none, .stn 126 7 (.t 10) (.t 20)⟩])
 (.seq (.dreg [0, 0, 0, 0, 12, 31, 0, 127]
 [⟨some 21, none, .ldn 68 3 (.t 4)⟩,
 ⟨some 22, none, .mv (.t 1)⟩,
 ⟨some 23, none, .mv (.t 2)⟩,
 ⟨some 24, none, .mv (.t 9)⟩,
 ⟨some 25, none, .slc 126 7 104 (.t 23) none (some (.t 24)) none⟩,
 ⟨some 26, none, .build 145 [.cap 6 80 [], .cap 6 96 [], .v (.int .i64 0), .v (.int .i64 0), .cap 7 104 [], .v (.int .i64 0)] [(0, 0, 3, .t 21), (1, 3, 1, .t 22), (2, 4, 1, .t 25)]⟩,
 ⟨some 11, none, .alloc 145 [.cap 6 80 [], .cap 6 96 [], .v (.int .i64 0), .v (.int .i64 0), .cap 7 104 [], .v (.int .i64 0)]⟩,
 ⟨none, none, .stn 145 6 (.t 11) (.t 26)⟩])
 (.seq (.seq (.reg
 [⟨some 27, none, .fad 126 0 0 (.t 10)⟩,
 ⟨some 28, none, .ld1 4 (.t 27)⟩,
 ⟨some 29, none, .not (.t 28)⟩])
 (.cond (.t 29)
 (.seq (.seq (.reg
 [⟨some 30, none, .ldn 145 6 (.t 11)⟩,
 ⟨some 31, none, .fad 126 1 1 (.t 10)⟩,
 ⟨some 32, none, .ldn 63 3 (.t 31)⟩,
 ⟨some 33, none, .call (.f 123) [.t 30, .t 32]⟩,
 ⟨some 34, none, .not (.t 33)⟩])
 (.cond (.t 34)
 (.seq (.reg
 [⟨some 8, none, .mv (.k (.bool false))⟩])
 (.ret))
 (.skip)))
 (.exit 1))
 (.skip)))
 (.seq (.seq (.reg
 [⟨some 35, none, .fad 126 2 4 (.t 10)⟩,
 ⟨some 36, none, .ld1 61 (.t 35)⟩,
 ⟨some 37, none, .len 61 (.t 36)⟩,
 ⟨some 38, none, .mv (.k (.int .i64 0))⟩])
 (.block 2 (.loop c1122b0)))
 (.seq (.dreg [0, 0, 2, 6, 15, 0, 32, 0, 128, 0, 1023, 2047]
 [⟨some 50, none, .ldn 145 6 (.t 11)⟩,
 ⟨some 51, none, .fad 126 2 4 (.t 10)⟩,
 ⟨some 52, none, .ld1 61 (.t 51)⟩,
 ⟨some 53, none, .len 61 (.t 52)⟩,
 ⟨some 54, none, .call (.f 161) [.t 50, .t 53]⟩,
 ⟨some 55, none, .fad 126 3 5 (.t 10)⟩,
 ⟨some 56, none, .ld1 3 (.t 55)⟩,
 ⟨some 57, none, .fad 126 4 6 (.t 10)⟩,
 ⟨some 58, none, .ld1 61 (.t 57)⟩,
 ⟨some 59, none, .mv (.t 3)⟩,
 ⟨some 60, none, .call (.f 124) [.t 54, .t 56, .t 58, .t 59]⟩,
 ⟨some 61, none, .not (.t 60)⟩])
 (.cond (.t 61)
 (.seq (.reg
 [⟨some 8, none, .mv (.k (.bool false))⟩])
 (.ret))
 (.skip))))))))
 (.reg
 [⟨some 62, none, .bin .add (.t 16) (.k (.int .i64 1))⟩,
 ⟨some 16, none, .mv (.t 62)⟩])))
def c1122 : SCode :=
 .seq (.reg
 [⟨some 4, none, .box 68 (.t 0)⟩,
 ⟨some 8, none, .mv (.k (.bool false))⟩])
 (.seq (.seq (.reg
 [⟨some 14, none, .mv (.t 2)⟩,
 ⟨some 15, none, .len 102 (.t 14)⟩,
 ⟨some 16, none, .mv (.k (.int .i64 0))⟩])
 (.block 0 (.loop c1122b1)))
 (.seq (.reg
 [⟨some 8, none, .mv (.k (.bool true))⟩])
 (.ret)))
def r1122 : List RR := [.t 8]
theorem ok1122 : okFn Go.Proofs.Tryz.prog 122 63 c1122 r1122 4 = true := by kernel_rfl
/- porism/posit.Check -/
def c1092b0 : SCode :=
 .seq (.reg
 [⟨some 29, none, .bin .lss (.t 28) (.t 27)⟩])
 (.seq (.cond (.t 29)
 (.skip)
 (.exit 1))
 (.seq (.block 2 (.seq (.reg
 [⟨some 30, none, .iad 104 6 (.t 26) (.t 28)⟩,
 ⟨some 31, none, .ldn 104 6 (.t 30)⟩,
 ⟨some 7, none, .alloc 104 [.cap 7 104 [], .v (.int .i64 0), .v (.bool false), .v (.int .i64 0), .v (.int .i64 0), .cap 3 40 []]⟩,
 ⟨none, none, .stn 104 6 (.t 7) (.t 31)⟩])
 (.seq (.reg
 [⟨some 32, none, .ldn 68 3 (.t 2)⟩,
 ⟨some 33, none, .mv (.t 1)⟩,
 ⟨some 34, none, .fad 104 0 0 (.t 7)⟩,
 ⟨some 35, none, .ld1 102 (.t 34)⟩,
 ⟨some 36, none, .build 145 [.cap 6 80 [], .cap 6 96 [], .v (.int .i64 0), .v (.int .i64 0), .cap 7 104 [], .v (.int .i64 0)] [(0, 0, 3, .t 32), (1, 3, 1, .t 33), (2, 4, 1, .t 35)]⟩,
 ⟨some 8, none, .alloc 145 [.cap 6 80 [], .cap 6 96 [], .v (.int .i64 0), .v (.int .i64 0), .cap 7 104 [], .v (.int .i64 0)]⟩,
 ⟨none, none, .stn 145 6 (.t 8) (.t 36)⟩])
 (.seq (.reg
 [⟨some 37, none, .ldn 68 3 (.t 2)⟩,
 ⟨some 38, none, .mv (.t 1)⟩,
 ⟨some 39, none, .fad 104 0 0 (.t 7)⟩,
 ⟨some 40, none, .ld1 102 (.t 39)⟩,
 ⟨some 41, none, .call (.f 122) [.t 37, .t 38, .t 40, .k (.int .i64 0)]⟩,
 ⟨some 42, none, .not (.t 41)⟩,
 ⟨some 43, none, .mv (.t 42)⟩,
 ⟨some 44, some (43, false), .fad 104 2 2 (.t 7)⟩,
 ⟨some 45, some (43, false), .ld1 4 (.t 44)⟩,
 ⟨some 46, some (43, false), .mv (.t 45)⟩,
 ⟨some 47, some (46, true), .ldn 145 6 (.t 8)⟩,
 ⟨some 48, some (46, true), .fad 104 3 3 (.t 7)⟩,
 ⟨some 49, some (46, true), .ldn 63 3 (.t 48)⟩,
 ⟨some 50, some (46, true), .call (.f 123) [.t 47, .t 49]⟩,
 ⟨some 51, some (46, true), .not (.t 50)⟩,
 ⟨some 52, some (43, false), .pick (.t 46) (.t 51) (.k (.bool false))⟩,
 ⟨some 53, none, .pick (.t 43) (.k (.bool true)) (.t 52)⟩])
 (.cond (.t 53)
 (.seq (.reg
 [⟨some 4, none, .mv (.k (.int .i64 11))⟩])
 (.ret))
 (.skip))))))
 (.reg
 [⟨some 54, none, .bin .add (.t 28) (.k (.int .i64 1))⟩,
 ⟨some 28, none, .mv (.t 54)⟩])))
def c1092b1 : SCode :=
 .seq (.reg
 [⟨some 59, none, .bin .lss (.t 58) (.t 57)⟩])
 (.seq (.cond (.t 59)
 (.skip)
 (.exit 3))
 (.seq (.block 4 (.seq (.reg
 [⟨some 60, none, .mv (.t 58)⟩,
 ⟨some 61, none, .iad 106 6 (.t 56) (.t 58)⟩,
 ⟨some 62, none, .ldn 106 6 (.t 61)⟩,
 ⟨some 10, none, .alloc 106 [.v (.int .i64 0), .cap 7 104 [], .cap 3 40 [], .v (.int .i64 0), .v (.int .i64 0), .cap 3 40 []]⟩,
 ⟨some 9, none, .mv (.t 60)⟩,
 ⟨none, none, .stn 106 6 (.t 10) (.t 62)⟩])
 (.seq (.reg
 [⟨some 63, none, .ldn 68 3 (.t 2)⟩,
 ⟨some 64, none, .mv (.t 1)⟩,
 ⟨some 65, none, .fad 106 1 1 (.t 10)⟩,
 ⟨some 66, none, .ld1 102 (.t 65)⟩,
 ⟨some 67, none, .build 145 [.cap 6 80 [], .cap 6 96 [], .v (.int .i64 0), .v (.int .i64 0), .cap 7 104 [], .v (.int .i64 0)] [(0, 0, 3, .t 63), (1, 3, 1, .t 64), (2, 4, 1, .t 66)]⟩,
 ⟨some 11, none, .alloc 145 [.cap 6 80 [], .cap 6 96 [], .v (.int .i64 0), .v (.int .i64 0), .cap 7 104 [], .v (.int .i64 0)]⟩,
 ⟨none, none, .stn 145 6 (.t 11) (.t 67)⟩])
 (.seq (.reg
 [⟨some 68, none, .ldn 68 3 (.t 2)⟩,
 ⟨some 69, none, .mv (.t 1)⟩,
 ⟨some 70, none, .fad 106 1 1 (.t 10)⟩,
 ⟨some 71, none, .ld1 102 (.t 70)⟩,
 ⟨some 72, none, .mv (.t 9)⟩,
 ⟨some 73, none, .call (.f 122) [.t 68, .t 69, .t 71, .t 72]⟩,
 ⟨some 74, none, .not (.t 73)⟩,
 ⟨some 75, none, .mv (.t 74)⟩,
 ⟨some 76, some (75, false), .ldn 145 6 (.t 11)⟩,
 ⟨some 77, some (75, false), .fad 106 0 0 (.t 10)⟩,
 ⟨some 78, some (75, false), .ld1 3 (.t 77)⟩,
 ⟨some 79, some (75, false), .fad 106 2 2 (.t 10)⟩,
 ⟨some 80, some (75, false), .ld1 61 (.t 79)⟩,
 ⟨some 81, some (75, false), .mv (.t 9)⟩,
 ⟨some 82, some (75, false), .call (.f 124) [.t 76, .t 78, .t 80, .t 81]⟩,
 ⟨some 83, some (75, false), .not (.t 82)⟩,
 ⟨some 84, none, .pick (.t 75) (.k (.bool true)) (.t 83)⟩,
 ⟨some 85, none, .mv (.t 84)⟩,
 ⟨some 86, some (85, false), .fad 68 0 0 (.t 2)⟩,
 ⟨some 87, some (85, false), .ld1 65 (.t 86)⟩,
 ⟨some 88, some (85, false), .fad 106 0 0 (.t 10)⟩,
 ⟨some 89, some (85, false), .ld1 3 (.t 88)⟩,
 ⟨some 90, some (85, false), .iad 104 6 (.t 87) (.t 89)⟩,
 ⟨some 91, some (85, false), .fad 104 2 2 (.t 90)⟩,
 ⟨some 92, some (85, false), .ld1 4 (.t 91)⟩,
 ⟨some 93, some (85, false), .mv (.t 92)⟩,
 ⟨some 94, some (93, true), .ldn 145 6 (.t 11)⟩,
 ⟨some 95, some (93, true), .fad 106 3 3 (.t 10)⟩,
 ⟨some 96, some (93, true), .ldn 63 3 (.t 95)⟩,
 ⟨some 97, some (93, true), .call (.f 123) [.t 94, .t 96]⟩,
 ⟨some 98, some (93, true), .not (.t 97)⟩,
 ⟨some 99, some (85, false), .pick (.t 93) (.t 98) (.k (.bool false))⟩,
 ⟨some 100, none, .pick (.t 85) (.k (.bool true)) (.t 99)⟩])
 (.cond (.t 100)
 (.seq (.reg
 [⟨some 4, none, .mv (.k (.int .i64 11))⟩])
 (.ret))
 (.skip))))))
 (.reg
 [⟨some 101, none, .bin .add (.t 58) (.k (.int .i64 1))⟩,
 ⟨some 58, none, .mv (.t 101)⟩])))
def c1092 : SCode :=
 .seq (.reg
 [⟨some 2, none, .box 68 (.t 0)⟩,
 ⟨some 4, none, .mv (.k (.int .i64 0))⟩])
 (.seq (.reg
 [⟨some 12, none, .ldn 68 3 (.t 2)⟩,
 ⟨some 13, none, .call (.f 121) [.t 12]⟩,
 ⟨some 5, none, .mv (.t 13)⟩])
 (.seq (.block 0 (.seq (.reg
 [⟨some 15, none, .mv (.t 5)⟩,
 ⟨some 16, none, .bin .neq (.t 15) (.k (.int .i64 0))⟩,
 ⟨some 14, none, .mv (.t 16)⟩])
 (.cond (.t 14)
 (.seq (.reg
 [⟨some 17, none, .mv (.t 5)⟩,
 ⟨some 4, none, .mv (.t 17)⟩])
 (.ret))
 (.seq (.reg
 [⟨some 19, none, .mv (.t 1)⟩,
 ⟨some 20, none, .bin .lss (.t 19) (.k (.int .i64 0))⟩,
 ⟨some 21, none, .mv (.t 20)⟩,
 ⟨some 22, some (21, false), .mv (.t 1)⟩,
 ⟨some 23, some (21, false), .bin .gtr (.t 22) (.k (.int .i64 65535))⟩,
 ⟨some 24, none, .pick (.t 21) (.k (.bool true)) (.t 23)⟩,
 ⟨some 18, none, .mv (.t 24)⟩])
 (.cond (.t 18)
 (.seq (.reg
 [⟨some 4, none, .mv (.k (.int .i64 1))⟩])
 (.ret))
 (.skip))))))
 (.seq (.seq (.reg
 [⟨some 25, none, .fad 68 0 0 (.t 2)⟩,
 ⟨some 26, none, .ld1 65 (.t 25)⟩,
 ⟨some 27, none, .len 65 (.t 26)⟩,
 ⟨some 28, none, .mv (.k (.int .i64 0))⟩])
 (.block 1 (.loop c1092b0)))
 (.seq (.seq (.reg
 [⟨some 55, none, .fad 68 1 1 (.t 2)⟩,
 ⟨some 56, none, .ld1 66 (.t 55)⟩,
 ⟨some 57, none, .len 66 (.t 56)⟩,
 ⟨some 58, none, .mv (.k (.int .i64 0))⟩])
 (.block 3 (.loop c1092b1)))
 (.seq (.reg
 [⟨some 4, none, .mv (.k (.int .i64 0))⟩])
 (.ret))))))
def r1092 : List RR := [.t 4]
theorem ok1092 : okFn Go.Proofs.Tryz.prog 92 102 c1092 r1092 2 = true := by kernel_rfl
end Go.Abs

namespace Go.Abs
open Go.Proofs
/-! ### spines -/
def T.two (t : T) (k : Int) : Bool := decide (t.kind = k) && decide (t.kids.length = 2)
theorem fn1194 (t : T) (k : Int) : Fn Tryz.prog 194 [tm t, ib k] (bb (t.two k)) := by
  refine fn_of (base := 1194000) ok1194 rfl fun σ h0 hr => ?_
  have s0 : σ.sl 0 = tm t := h0 0
  have s1 : σ.sl 1 = .c (.v (.int .i64 k)) := h0 1
  obtain ⟨k', n, ts⟩ := t
  simp only [tm, cells_mk] at s0
  clear h0 hr
  unfold c1194
  by_cases c1 : k' = k
  · by_cases c2 : ts.length = 2
    · have c2' : (ts.length : Int) = 2 := by omega
      simp [s0, s1, c1, c2, c2', r1194, bb, T.two, T.kind, T.kids]
    · have c2' : ¬ (ts.length : Int) = 2 := by omega
      simp [s0, s1, c1, c2, c2', r1194, bb, T.two, T.kind, T.kids]
  · simp [s0, s1, c1, r1194, bb, T.two, T.kind, T.kids]
def w1195 : List (List Nat) := [[], [], [], [], [], [], [], [], [], [], [], [], [], [1184013], [], [1184013]]
def f1195 : List (List Nat) := [[], [], [1184013], [1184013], [], [], [], [], [], [], [], [], [], [], [], []]
/-- Two places exchanged, from both ends on. -/
def rvs (l : List T) (i : Nat) : List T := l.reverse.take i ++ (l.drop i).take (l.length - 2 * i) ++ l.reverse.drop (l.length - i)
def trow (l : List T) : Obj := .mrow 63 3 40 (l.map T.cells)
theorem rvs_zero (l : List T) : rvs l 0 = l := by simp [rvs]
theorem rvs_len {l : List T} {i : Nat} (h : 2 * i ≤ l.length) : (rvs l i).length = l.length := by simp [rvs]; omega
theorem rvs_get {l : List T} {i : Nat} (h : 2 * i ≤ l.length) (k : Nat) (hk : k < l.length) : (rvs l i)[k]? = if i ≤ k ∧ k < l.length - i then l[k]? else l[l.length - 1 - k]? := by
  unfold rvs
  by_cases h1 : k < i
  · rw [if_neg (by omega), List.append_assoc, List.getElem?_append_left (by simp; omega), List.getElem?_take, if_pos h1, List.getElem?_reverse hk]
  · by_cases h2 : k < l.length - i
    · rw [if_pos ⟨by omega, h2⟩, List.append_assoc, List.getElem?_append_right (by simp; omega), List.getElem?_append_left (by simp; omega), List.getElem?_take, if_pos (by simp; omega), List.getElem?_drop]
      congr 1; simp; omega
    · rw [if_neg (by omega), List.getElem?_append_right (by simp; omega), List.getElem?_drop, ← List.getElem?_reverse hk]
      congr 1; simp; omega
theorem rvs_step {l : List T} {i : Nat} (h : 2 * i + 1 < l.length) {x y : T} (hx : l[i]? = some x) (hy : l[l.length - 1 - i]? = some y) : ((rvs l i).set i y).set (l.length - 1 - i) x = rvs l (i + 1) := by
  refine List.ext_getElem? fun k => ?_
  have hl := rvs_len (l := l) (i := i) (by omega)
  have hl2 := rvs_len (l := l) (i := i + 1) (by omega)
  by_cases hk : k < l.length
  · rw [rvs_get (by omega) k hk, List.getElem?_set, List.getElem?_set, rvs_get (by omega) k hk]
    by_cases e1 : l.length - 1 - i = k
    · subst e1
      simp [hl]
      rw [if_pos (by omega), if_neg (by omega)]
      rw [← hx]; congr 1; omega
    · rw [if_neg e1]
      by_cases e2 : i = k
      · subst e2
        simp [hl]
        rw [if_pos (by omega), if_neg (by omega)]
        exact hy.symm
      · rw [if_neg e2]
        by_cases e3 : i ≤ k ∧ k < l.length - i
        · rw [if_pos e3, if_pos (by omega)]
        · rw [if_neg e3, if_neg (by omega)]
  · rw [List.getElem?_eq_none (by simp [hl]; omega), List.getElem?_eq_none (by omega)]
theorem rvs_end {l : List T} {i : Nat} (h : 2 * i ≤ l.length) (h2 : l.length ≤ 2 * i + 1) : rvs l i = l.reverse := by
  refine List.ext_getElem? fun k => ?_
  by_cases hk : k < l.length
  · rw [rvs_get h k hk, List.getElem?_reverse hk]
    by_cases e : i ≤ k ∧ k < l.length - i
    · rw [if_pos e]; congr 1; omega
    · rw [if_neg e]
  · rw [List.getElem?_eq_none (by rw [rvs_len h]; omega), List.getElem?_eq_none (by simp; omega)]
theorem sp1195 (tn : Nat) (l : List T) (hl : l.length ≤ 1048576) : Spec Tryz.prog 195 [.c (.own 1184013 tn)] [(1184013, tn, trow l)] (.tup []) [(1184013, tn, trow l.reverse)] := by
  refine spec_one (base := 1195000) ok1195 rfl fun σ h0 oK gK hr => ?_
  have s0 : σ.sl 0 = .c (.own 1184013 tn) := h0 0
  clear h0 hr
  unfold c1195
  simp only [trow] at oK
  have w0 : IntKind.wrap .i64 ((l.length : Int) - 1) = (l.length : Int) - 1 := wrap_id (by omega) (by omega)
  simp [s0, oK, gK, w0, -W_block]
  rw [W_block]
  refine W_loop (fun m σ => ∃ i : Nat, 2 * i + m = l.length + 1 ∧ 2 * i ≤ l.length + 0 ∧ σ.sl 0 = .c (.own 1184013 tn) ∧ σ.tg 1184013 = tn ∧ σ.ob 1184013 = some (.mrow 63 3 40 ((rvs l i).map T.cells)) ∧ σ.sl 2 = .c (.v (.int .i64 i)) ∧ σ.sl 3 = .c (.v (.int .i64 ((l.length : Int) - 1 - i)))) (l.length + 1) ?_ ?_
  · exact ⟨0, by omega, by omega, by simp [s0], by simp [gK], by simp [oK, rvs_zero], by simp, by simp⟩
  clear s0 oK gK σ
  rintro m σ ⟨i, hm, hi2, s0, gK, oK, s2, s3⟩
  unfold c1195b0
  by_cases hi : 2 * i + 1 < l.length
  · have c1 : (i : Int) < (l.length : Int) - 1 - i := by omega
    obtain ⟨j, hj⟩ : ∃ j : Nat, j = l.length - 1 - i := ⟨_, rfl⟩
    have hjc : (l.length : Int) - 1 - i = (j : Int) := by omega
    rw [hjc] at s3 c1
    have w1 := wrap_succ (i := i) (by omega)
    have w2 : IntKind.wrap .i64 ((j : Int) - 1) = (l.length : Int) - 1 - (i + 1 : Nat) := by rw [wrap_id (by omega) (by omega)]; omega
    obtain ⟨x, hx⟩ := at_of (ts := l) (i := i) (by omega)
    obtain ⟨y, hy⟩ := at_of (ts := l) (i := j) (by omega)
    have hsl := rvs_len (l := l) (i := i) (by omega)
    have hx1 : (rvs l i)[i]? = some x := by rw [rvs_get (by omega) i (by omega), if_pos (by omega)]; exact hx
    have hy1 : (rvs l i)[j]? = some y := by rw [rvs_get (by omega) j (by omega), if_pos (by omega)]; exact hy
    obtain ⟨hx2, hx3⟩ := getE hx1
    obtain ⟨hy2, hy3⟩ := getE hy1
    have hst := rvs_step hi hx (by rw [← hj]; exact hy)
    rw [← hj] at hst
    simp [s0, s2, s3, c1]
    refine W_dregD w1195 f1195 (by decide) ?_
    unfold w1195 f1195
    have e : ((List.map T.cells (rvs l i)).set i y.cells).set j x.cells = List.map T.cells (rvs l (i + 1)) := by rw [← hst, List.map_set, List.map_set]
    have hij : ¬ i = j := by omega
    obtain ⟨kx, nx, tx⟩ := x
    obtain ⟨ky, ny, ty⟩ := y
    simp only [cells_mk] at e
    simp [s0, gK, oK, s2, s3, c1, hx2, hx3, hy2, hy3, cells_mk, List.getElem_set, hij, keysCs, e]
    refine realC_n ?_
    simp [s2, s3, w1, w2]
    exact ⟨m - 2, by omega, i + 1, by omega, by omega, by simp [s0], by simp [gK], by simp⟩
  · have c1 : ¬ (i : Int) < (l.length : Int) - 1 - i := by omega
    simp [s0, s2, s3, c1]
    refine EndU_one ?_ ?_ ?_ ?_ <;> simp [r1195, trow, oK, gK]
    rw [rvs_end (by omega) (by omega), List.map_reverse]
/-! ### what is applied, to what -/
def T.split : T → T × List T
  | .mk k n [f, a] => if k = 6 then ((T.split f).1, (T.split f).2 ++ [a]) else (.mk k n [f, a], [])
  | t => (t, [])
theorem split_app (n : Int) (f a : T) : T.split (.mk 6 n [f, a]) = ((T.split f).1, (T.split f).2 ++ [a]) := by rw [T.split]; simp
theorem split_no {t : T} (h : t.two 6 = false) : T.split t = (t, []) := by
  obtain ⟨k, n, ts⟩ := t
  match ts with
  | [] => rw [T.split]; simp
  | [_] => rw [T.split]; simp
  | [f, a] =>
    rw [T.split]
    have : k ≠ 6 := by intro e; simp [T.two, e, T.kind, T.kids] at h
    rw [if_neg this]
  | _ :: _ :: _ :: _ => rw [T.split]; simp
theorem two_is {t : T} (h : t.two 6 = true) : ∃ n f a, t = .mk 6 n [f, a] := by
  obtain ⟨k, n, ts⟩ := t
  have h' := Bool.and_eq_true_iff.1 h
  have h1 : k = 6 := of_decide_eq_true h'.1
  have h2 : ts.length = 2 := of_decide_eq_true h'.2
  subst h1
  match ts, h2 with
  | [f, a], _ => exact ⟨n, f, a, rfl⟩
def accO (acc : List T) (q : Option Obj) : Prop := (acc = [] ∧ q = some (.row 63 3 40 [])) ∨ q = some (trow acc)
theorem fn1195n : Fn Tryz.prog 195 [tms []] (.tup []) := by
  refine fn_of (base := 1195000) ok1195 rfl fun σ h0 hr => ?_
  have s0 : σ.sl 0 = .c (.sl 3 40 []) := h0 0
  clear h0 hr
  unfold c1195
  have w0 : IntKind.wrap .i64 ((0 : Int) - 1) = -1 := by decide
  have w0' : IntKind.wrap .i64 (-1 : Int) = -1 := by decide
  simp [s0, w0, w0', -W_block]
  rw [W_block]
  refine W_loop (fun m σ => σ.sl 0 = .c (.sl 3 40 []) ∧ σ.sl 2 = .c (.v (.int .i64 0)) ∧ σ.sl 3 = .c (.v (.int .i64 (-1)))) 1 ?_ ?_
  · exact ⟨by simp [s0], by simp, by simp⟩
  clear s0 σ
  rintro m σ ⟨s0, s2, s3⟩
  unfold c1195b0
  simp [s0, s2, s3, r1195]
theorem fn1184 (t : T) (hc : t.count ≤ 1048576) : Fn Tryz.prog 184 [tm t] (.tup [tm t.split.1, tms t.split.2]) := by
  refine fn_of (base := 1184000) ok1184 rfl fun σ h0 hr => ?_
  have s0 : σ.sl 0 = tm t := h0 0
  simp only [tm] at s0
  clear h0 hr
  unfold c1184
  simp [s0, -W_block]
  refine W_ads (s := 4) (K := 1184013) (ty := 63) (sz := 3) (bs := 40) (es := []) (by simp) ?_
  simp [s0, -W_block]
  rw [W_block]
  refine W_loop (fun m σ => ∃ u acc, u.count = m ∧ u.count + acc.length ≤ t.count ∧ T.split t = ((T.split u).1, (T.split u).2 ++ acc.reverse) ∧ σ.sl 1 = .c (.ref 1184001 (σ.tg 1184001) 0) ∧ σ.ob 1184001 = some (.box 63 u.cells) ∧ σ.sl 2 = .c (.ref 1184002 (σ.tg 1184002) 0) ∧ σ.ob 1184002 = some (.box 63 [.v (.int .i64 0), .v (.int .i64 0), .cap 3 40 []]) ∧ σ.sl 4 = .c (.own 1184013 (σ.tg 1184013)) ∧ accO acc (σ.ob 1184013)) t.count ?_ ?_
  · exact ⟨t, [], rfl, by simp, by simp, by simp, by simp, by simp, by simp, by simp, .inl ⟨rfl, by simp⟩⟩
  clear s0 σ
  rintro m σ ⟨u, acc, hm, hlen, hsp, s1, o1, s2, o2, s4, o4⟩
  unfold c1184b0
  have ou := o1
  rw [cells_eq] at o1
  simp [s1, o1, -W_block]
  refine ECall.fn (fn1194 u 6) (by simp [tm, ib, cells_eq]) (by simp) rfl fun hx => ?_
  clear hx
  cases h2 : u.two 6 with
  | true =>
    obtain ⟨n, f, a, rfl⟩ := two_is h2
    simp only [cells_mk] at ou
    have hcu : (T.mk 6 n [f, a]).count = f.count + a.count + 1 := by simp [T.count, T.countL]
    have hca : 0 < a.count := by cases a; simp [T.count]
    have hnew : T.split t = ((T.split f).1, (T.split f).2 ++ (acc ++ [a]).reverse) := by rw [hsp, split_app]; simp
    rcases o4 with ⟨e1, o4⟩ | o4
    · subst e1
      simp [bb, s1, ou, s4, o4]
      refine ⟨by rw [cells_eq]; simp [room], by simp [room], ?_⟩
      refine W_gh0 ?_
      simp [s1, ou, cells_eq f]
      exact ⟨f.count, by omega, f, rfl, [a], by simp; omega, by simpa using hnew, by simp [cells_eq f], by simp [s2], by simp [o2], .inr (by simp [trow])⟩
    · simp only [trow] at o4
      simp [bb, s1, ou, s4, o4]
      refine ⟨by rw [cells_eq]; simp [room], by simp [room]; omega, ?_⟩
      refine W_gh0 ?_
      simp [s1, ou, cells_eq f]
      exact ⟨f.count, by omega, f, rfl, acc ++ [a], by simp; omega, by simpa using hnew, by simp [cells_eq f], by simp [s2], by simp [o2], .inr (by simp [trow])⟩
  | false =>
    have hs := split_no h2
    rw [hs] at hsp
    simp at hsp
    rw [hsp]
    rcases o4 with ⟨e1, o4⟩ | o4
    · subst e1
      simp [bb, s4]
      refine ECall.fn fn1195n (by simp [toD2, toD1, toD, o4, tms]) (by simp) rfl fun hx => ?_
      simp
      refine W_gh0 ?_
      simp [s1, o1, s2, o2, s4, o4, r1184, tm, tms, cells_eq u]
    · simp only [trow] at o4
      simp [bb, s4]
      refine ECall.one (args := [.c (.own 1184013 (σ.tg 1184013))]) (sp1195 (σ.tg 1184013) acc (by omega)) (by simp [toD2, toD1, toD, o4]) (by simp) rfl rfl (by simp [o4, trow]) (by simp) fun hx => ?_
      simp
      refine W_fz (k := 1184013) (ty := 63) (sz := 3) (bs := 40) (es := acc.reverse.map T.cells) (by simp [trow]) ?_
      simp [s1, o1, s2, o2, s4, o4, r1184, tm, tms, cells_eq u]
end Go.Abs

namespace Go.Abs
open Go.Proofs
/-! ### places -/
structure PL where
  b : B
  base : Int
  args : List A
  more : Nat
def PL.cells (p : PL) : List Cell := [.sl 6 80 (p.b.sorts.map S.cells), .sl 6 96 (p.b.cons.map K.cells), .v (.int .i64 p.b.elim), .v (.int .i64 p.base), .sl 7 104 (p.args.map A.cells), .v (.int .i64 p.more)]
def plm (p : PL) : AV := .agg p.cells
def PL.inn (p : PL) (n : Nat) : PL := { p with more := p.more + n }
theorem fn1161 (p : PL) (n : Nat) (h : p.more + n ≤ 1000000000) : Fn Tryz.prog 161 [plm p, ib n] (plm (p.inn n)) := by
  refine fn_of (base := 1161000) ok1161 rfl fun σ h0 hr => ?_
  have s0 : σ.sl 0 = plm p := h0 0
  have s1 : σ.sl 1 = .c (.v (.int .i64 n)) := h0 1
  simp only [plm, PL.cells] at s0
  clear h0 hr
  have w1 : IntKind.wrap .i64 ((p.more : Int) + n) = ((p.more + n : Nat) : Int) := by rw [wrap_id (by omega) (by omega)]; omega
  unfold c1161
  simp [s0, s1, w1, -Int.natCast_add]
  simp [r1161, plm, PL.cells, PL.inn]
/-- Which recursive argument a variable is. -/
def PL.guarded (p : PL) (t : T) : Int × Bool :=
  if t.kind = 1 ∧ (p.more : Int) ≤ t.val ∧ t.val - p.more < p.args.length then ((p.args.length : Int) - 1 - (t.val - p.more), match p.args[((p.args.length : Int) - 1 - (t.val - p.more)).toNat]? with | some a => a.rc | none => false)
  else (0, false)
theorem real_pl {p : PL} (h : Real (plm p)) : p.args.length * 104 ≤ 140737488355328 := by
  have := real_cell h (show .sl 7 104 (p.args.map A.cells) ∈ p.cells by simp [PL.cells]); simpa [room] using this
theorem fn1162 (p : PL) (t : T) (hm : p.more ≤ 1000000000) (hw : t.wf = true) : Fn Tryz.prog 162 [plm p, tm t] (.tup [ib (p.guarded t).1, bb (p.guarded t).2]) := by
  refine fn_of (base := 1162000) ok1162 rfl fun σ h0 hr => ?_
  have s0 : σ.sl 0 = plm p := h0 0
  have s1 : σ.sl 1 = tm t := h0 1
  have hl := real_pl (hr (plm p) (by simp))
  obtain ⟨k, n, ts⟩ := t
  simp only [plm, PL.cells] at s0
  simp only [tm, cells_mk] at s1
  clear h0 hr
  have hn : -9223372036854775808 ≤ n ∧ n < 9223372036854775808 := by
    simp only [T.wf, Bool.and_eq_true] at hw
    exact of_decide_eq_true hw.1
  have w0 : IntKind.wrap .i64 ((p.args.length : Int) - 1) = (p.args.length : Int) - 1 := wrap_id (by omega) (by omega)
  unfold c1162
  by_cases c1 : k = 1
  · by_cases c2 : n < (p.more : Int)
    · simp [s0, s1, c1, c2, r1162, PL.guarded, T.kind, T.val, show ¬ (p.more : Int) ≤ n by omega, ib, bb]
    · have w1 : IntKind.wrap .i64 (n - (p.more : Int)) = n - p.more := wrap_id (by omega) (by omega)
      have w2 : IntKind.wrap .i64 ((p.args.length : Int) - 1 - (n - p.more)) = (p.args.length : Int) - 1 - (n - p.more) := wrap_id (by omega) (by omega)
      by_cases c3 : (p.args.length : Int) - 1 - (n - p.more) < 0
      · have c3' : ¬ (n - (p.more : Int) < p.args.length) := by omega
        simp [s0, s1, c1, c2, w0, w1, w2, c3, r1162, PL.guarded, T.kind, T.val, show (p.more : Int) ≤ n by omega, c3', ib, bb]
      · obtain ⟨j, hj⟩ := Int.eq_ofNat_of_zero_le (a := (p.args.length : Int) - 1 - (n - p.more)) (by omega)
        obtain ⟨a, ha⟩ := at_of (ts := p.args) (i := j) (by omega)
        obtain ⟨hjl, ha2⟩ := getE ha
        have hk : (T.mk k n ts).kind = 1 := c1
        have hv : (T.mk k n ts).val = n := rfl
        have hg : p.guarded (.mk k n ts) = ((j : Int), a.rc) := by
          unfold PL.guarded
          rw [if_pos ⟨hk, by rw [hv]; omega, by rw [hv]; omega⟩]
          simp only [hv]
          rw [hj]
          simp [ha]
        rw [hg]
        have w2' : IntKind.wrap .i64 ((p.args.length : Int) - 1 - (n - (p.more : Int))) = (j : Int) := by rw [hj] at w2 ⊢; exact w2
        have hj0 : ¬ (j : Int) < 0 := by omega
        simp [s0, s1, c1, c2, w0, w1, w2', hj0]
        refine W_dregA ?_
        simp [hjl, ha2, A.cells]
        refine realC_n ?_
        simp [r1162, ib, bb]
  · simp [s0, s1, c1, r1162, PL.guarded, T.kind, T.val, ib, bb]
theorem guarded_lt {p : PL} {t : T} (h : (p.guarded t).2 = true) : ∃ (j : Nat) (a : A), (p.guarded t).1 = j ∧ p.args[j]? = some a ∧ a.rc = true := by
  unfold PL.guarded at h ⊢
  split at h
  · rename_i hc
    rw [if_pos hc]
    refine ⟨((p.args.length : Int) - 1 - (t.val - p.more)).toNat, ?_⟩
    cases e : p.args[((p.args.length : Int) - 1 - (t.val - p.more)).toNat]? with
    | none => simp [e] at h
    | some a => simp [e] at h; exact ⟨a, by simp; omega, rfl, h⟩
  · cases h
/-! ### which constant of a block a number is -/
def findK (f : Int → Int) (n : Int) (m : Nat) : Option Nat := (List.range m).find? fun k => decide (f k = n)
def B.ofK (b : B) (base n : Int) : Int × Int :=
  if base < 0 ∨ 65535 < base ∨ n < base ∨ (b.count : Int) ≤ n - base then (0, 0) else
  match findK (b.former base) n b.sorts.length with
  | some k => (3, k)
  | none => match findK (b.decoder base) n b.sorts.length with
    | some k => (4, k)
    | none => match findK (b.constr base) n b.cons.length with
      | some k => (5, k)
      | none => match findK (b.elimn base) n b.sorts.length with
        | some k => (6, k)
        | none => (0, 0)
theorem find_none {f : Int → Int} {n : Int} {i : Nat} (h : ∀ k : Nat, k < i → f k ≠ n) : findK f n i = none := by
  rw [findK, List.find?_eq_none]
  intro k hk
  simpa using h k (List.mem_range.1 hk)
theorem find_some {f : Int → Int} {n : Int} {i m : Nat} (hi : i < m) (h : ∀ k : Nat, k < i → f k ≠ n) (hn : f i = n) : findK f n m = some i := by
  rw [findK, List.find?_eq_some_iff_append]
  refine ⟨by simp [hn], List.range i, (List.range' (i + 1) (m - i - 1)), ?_, fun j hj => ?_⟩
  · have h1 : m = i + (1 + (m - i - 1)) := by omega
    conv => lhs; rw [h1]
    rw [List.range_eq_range', ← List.range'_append_1, List.range_eq_range', Nat.zero_add, Nat.add_comm 1, List.range'_succ]
  · simpa using h j (List.mem_range.1 hj)
theorem findK_lt {f : Int → Int} {n : Int} {m k : Nat} (h : findK f n m = some k) : k < m ∧ f k = n := by
  have h1 := List.mem_of_find?_eq_some h
  have h2 := List.find?_some h
  exact ⟨List.mem_range.1 h1, by simpa using h2⟩
theorem loopOf {σ : St} {Q : SEx → St → Prop} (b : B) (base n : Int) (fn : Nat) (kd : Int) (m : Nat) (hm : m ≤ 1000000000000000) (f : Int → Int) (hf : ∀ k : Int, Fn Tryz.prog fn [bm b, ib base, ib k] (ib (f k)))
    (s1 : σ.sl 1 = .c (.v (.int .i64 base))) (s2 : σ.sl 2 = .c (.v (.int .i64 n))) (s3 : σ.sl 3 = .c (.ref 1163003 (σ.tg 1163003) 0)) (o3 : σ.ob 1163003 = some (.box 68 b.cells)) (s9 : σ.sl 9 = .c (.ref 1163009 (σ.tg 1163009) 0))
    (o9 : σ.ob 1163009 = some (.box 189 [.v (.int .i64 kd), .v (.int .i64 m), .v (.func (.func fn) #[] #[])])) (s53 : σ.sl 53 = .c (.v (.int .i64 m))) (s54 : σ.sl 54 = .c (.v (.int .i64 (0 : Nat))))
    (E : St → Prop) (hE : ∀ σ σ', E σ → (∀ k, k ≠ 10 → k < 54 → σ'.sl k = σ.sl k) → (∀ k, σ'.ob k = σ.ob k ∧ σ'.tg k = σ.tg k) → E σ') (he : E σ)
    (hR : ∀ σ' k, findK f n m = some k → σ'.sl 6 = ib kd → σ'.sl 7 = ib (k : Nat) → Q .ret σ') (hQ : ∀ σ', findK f n m = none → E σ' → Q .normal σ') : W Tryz.prog 1163000 (.loop c1163b0) σ (onBlock 2 Q) := by
  refine W_loop (fun r σ => ∃ i : Nat, i + r = m ∧ (∀ k : Nat, k < i → f k ≠ n) ∧ E σ ∧ σ.sl 1 = .c (.v (.int .i64 base)) ∧ σ.sl 2 = .c (.v (.int .i64 n)) ∧ σ.sl 3 = .c (.ref 1163003 (σ.tg 1163003) 0) ∧ σ.ob 1163003 = some (.box 68 b.cells) ∧ σ.sl 9 = .c (.ref 1163009 (σ.tg 1163009) 0) ∧ σ.ob 1163009 = some (.box 189 [.v (.int .i64 kd), .v (.int .i64 m), .v (.func (.func fn) #[] #[])]) ∧ σ.sl 53 = .c (.v (.int .i64 m)) ∧ σ.sl 54 = .c (.v (.int .i64 i))) m ⟨0, by simp, by simp, he, s1, s2, s3, o3, s9, o9, s53, s54⟩ ?_
  clear s1 s2 s3 o3 s9 o9 s53 s54 he σ
  rintro r σ ⟨i, hr, hno, he, s1, s2, s3, o3, s9, o9, s53, s54⟩
  unfold c1163b0
  by_cases hi : i < m
  · have w1 := wrap_succ (i := i) (by omega)
    simp [s1, s2, s3, o3, s9, o9, s53, s54, hi, B.cells]
    refine ECall.fn (hf i) (by simp [bm, ib, B.cells]) (by simp) rfl fun _ => ?_
    by_cases hfi : f i = n
    · simp [ib, s1, s2, s3, o3, s9, o9, hfi]
      exact hR _ i (find_some hi hno hfi) (by simp [ib]) (by simp [ib])
    · simp [ib, s1, s2, s3, o3, s9, o9, s53, s54, hfi, w1]
      refine ⟨r - 1, by omega, i + 1, by omega, ?_, ?_, by simp [o3, B.cells], by simp [o9]⟩
      · intro k hk
        by_cases e : k = i
        · subst e; exact hfi
        · exact hno k (by omega)
      · exact hE _ _ he (fun k h1 h2 => by simp [h1, show k ≠ 54 by omega, show k ≠ 55 by omega, show k ≠ 56 by omega, show k ≠ 57 by omega, show k ≠ 58 by omega, show k ≠ 59 by omega, show k ≠ 60 by omega, show k ≠ 61 by omega, show k ≠ 62 by omega, show k ≠ 63 by omega, show k ≠ 64 by omega, show k ≠ 65 by omega, show k ≠ 66 by omega, show k ≠ 67 by omega, show k ≠ 68 by omega]) fun k => by simp
  · have : i = m := by omega
    subst this
    simp [s1, s2, s3, o3, s9, o9, s53, s54]
    exact hQ _ (find_none hno) (hE _ _ he (fun k h1 h2 => by simp [h1, show k ≠ 54 by omega, show k ≠ 55 by omega, show k ≠ 56 by omega, show k ≠ 57 by omega, show k ≠ 58 by omega, show k ≠ 59 by omega, show k ≠ 60 by omega, show k ≠ 61 by omega, show k ≠ 62 by omega, show k ≠ 63 by omega, show k ≠ 64 by omega, show k ≠ 65 by omega, show k ≠ 66 by omega, show k ≠ 67 by omega, show k ≠ 68 by omega]) fun k => by simp)
/-- What stands while the four kinds are gone through. -/
structure FO (b : B) (base n : Int) (σ : St) : Prop where
  s1 : σ.sl 1 = .c (.v (.int .i64 base))
  s2 : σ.sl 2 = .c (.v (.int .i64 n))
  s3 : σ.sl 3 = .c (.ref 1163003 (σ.tg 1163003) 0)
  o3 : σ.ob 1163003 = some (.box 68 b.cells)
  s46 : σ.sl 46 = .c (.cap 3 24 [[.v (.int .i64 3), .v (.int .i64 b.sorts.length), .v (.func (.func 114) #[] #[])], [.v (.int .i64 4), .v (.int .i64 b.sorts.length), .v (.func (.func 115) #[] #[])], [.v (.int .i64 5), .v (.int .i64 b.cons.length), .v (.func (.func 116) #[] #[])], [.v (.int .i64 6), .v (.int .i64 b.sorts.length), .v (.func (.func 117) #[] #[])]])
  s47 : σ.sl 47 = .c (.v (.int .i64 4))
theorem FO.mono {b : B} {base n : Int} {σ σ' : St} (h : FO b base n σ) (hs : ∀ k, k ≠ 10 → k < 54 → σ'.sl k = σ.sl k) (ho : ∀ k, σ'.ob k = σ.ob k ∧ σ'.tg k = σ.tg k) : FO b base n σ' :=
  ⟨by rw [hs 1 (by decide) (by decide)]; exact h.s1, by rw [hs 2 (by decide) (by decide)]; exact h.s2, by rw [hs 3 (by decide) (by decide), (ho _).2]; exact h.s3, by rw [(ho _).1]; exact h.o3, by rw [hs 46 (by decide) (by decide)]; exact h.s46, by rw [hs 47 (by decide) (by decide)]; exact h.s47⟩
theorem loopOf2 {σ : St} {Q : SEx → St → Prop} (b : B) (base n : Int) (hl1 : b.sorts.length * 80 ≤ 140737488355328) (hl2 : b.cons.length * 96 ≤ 140737488355328) (H : FO b base n σ) (s48 : σ.sl 48 = .c (.v (.int .i64 (0 : Nat)))) (res : Int × Int)
    (ho : res = match findK (b.former base) n b.sorts.length with
            | some k => ((3 : Int), (k : Int))
            | none => match findK (b.decoder base) n b.sorts.length with
              | some k => (4, k)
              | none => match findK (b.constr base) n b.cons.length with
                | some k => (5, k)
                | none => match findK (b.elimn base) n b.sorts.length with
                  | some k => (6, k)
                  | none => (0, 0))
    (hR : ∀ σ', σ'.sl 6 = ib res.1 → σ'.sl 7 = ib res.2 → Q .ret σ') (hQ : ∀ σ', res = (0, 0) → Q .normal σ') : W Tryz.prog 1163000 (.loop c1163b1) σ (onBlock 0 Q) := by
  refine W_loop (fun m σ => ∃ j : Nat, j + m = 4 ∧ FO b base n σ ∧ σ.sl 48 = .c (.v (.int .i64 j)) ∧ (1 ≤ j → findK (b.former base) n b.sorts.length = none) ∧ (2 ≤ j → findK (b.decoder base) n b.sorts.length = none) ∧ (3 ≤ j → findK (b.constr base) n b.cons.length = none) ∧ (4 ≤ j → findK (b.elimn base) n b.sorts.length = none)) 4 ⟨0, by simp, H, s48, by simp, by simp, by simp, by simp⟩ ?_
  clear H s48 σ
  rintro m σ ⟨j, hm, H, s48, n1, n2, n3, n4⟩
  have H0 := H
  obtain ⟨s1, s2, s3, o3, s46, s47⟩ := H
  unfold c1163b1
  match j, hm with
  | 0, hm =>
    simp [s46, s47, s48]
    refine loopOf b base n 114 3 b.sorts.length (by omega) (b.former base) (fun k => fn1114 b base k) (by simp [s1]) (by simp [s2]) (by simp [s3]) (by simp [o3]) (by simp) (by simp) (by simp) (by simp) (fun σ => FO b base n σ ∧ σ.sl 48 = .c (.v (.int .i64 (0 : Nat)))) (fun σ σ' h h1 h2 => ⟨h.1.mono h1 h2, by rw [h1 48 (by decide) (by decide)]; exact h.2⟩) ⟨⟨by simp [s1], by simp [s2], by simp [s3], by simp [o3], by simp [s46], by simp [s47]⟩, by simp [s48]⟩ (fun σ' k hk q6 q7 => ?_) fun σ' hk hE => ?_
    · have : res = (3, (k : Int)) := by rw [ho, hk]
      simp
      exact hR _ (by rw [this]; exact q6) (by rw [this]; exact q7)
    · obtain ⟨hF, q48⟩ := hE
      have w1 : IntKind.wrap .i64 ((0 : Int) + 1) = ((0 + 1 : Nat) : Int) := by decide
      simp [q48]
      exact ⟨m - 1, by omega, 0 + 1, by omega, ⟨by simp [hF.s1], by simp [hF.s2], by simp [hF.s3], by simp [hF.o3], by simp [hF.s46], by simp [hF.s47]⟩, by simpa using w1, fun _ => hk, fun h => by omega, fun h => by omega, fun h => by omega⟩
  | 1, hm =>
    simp [s46, s47, s48]
    refine loopOf b base n 115 4 b.sorts.length (by omega) (b.decoder base) (fun k => fn1115 b base k) (by simp [s1]) (by simp [s2]) (by simp [s3]) (by simp [o3]) (by simp) (by simp) (by simp) (by simp) (fun σ => FO b base n σ ∧ σ.sl 48 = .c (.v (.int .i64 (1 : Nat)))) (fun σ σ' h h1 h2 => ⟨h.1.mono h1 h2, by rw [h1 48 (by decide) (by decide)]; exact h.2⟩) ⟨⟨by simp [s1], by simp [s2], by simp [s3], by simp [o3], by simp [s46], by simp [s47]⟩, by simp [s48]⟩ (fun σ' k hk q6 q7 => ?_) fun σ' hk hE => ?_
    · have : res = (4, (k : Int)) := by rw [ho, n1 (by omega), hk]
      simp
      exact hR _ (by rw [this]; exact q6) (by rw [this]; exact q7)
    · obtain ⟨hF, q48⟩ := hE
      have w1 : IntKind.wrap .i64 ((1 : Int) + 1) = ((1 + 1 : Nat) : Int) := by decide
      simp [q48]
      exact ⟨m - 1, by omega, 1 + 1, by omega, ⟨by simp [hF.s1], by simp [hF.s2], by simp [hF.s3], by simp [hF.o3], by simp [hF.s46], by simp [hF.s47]⟩, by simpa using w1, fun _ => n1 (by omega), fun _ => hk, fun h => by omega, fun h => by omega⟩
  | 2, hm =>
    simp [s46, s47, s48]
    refine loopOf b base n 116 5 b.cons.length (by omega) (b.constr base) (fun k => fn1116 b base k) (by simp [s1]) (by simp [s2]) (by simp [s3]) (by simp [o3]) (by simp) (by simp) (by simp) (by simp) (fun σ => FO b base n σ ∧ σ.sl 48 = .c (.v (.int .i64 (2 : Nat)))) (fun σ σ' h h1 h2 => ⟨h.1.mono h1 h2, by rw [h1 48 (by decide) (by decide)]; exact h.2⟩) ⟨⟨by simp [s1], by simp [s2], by simp [s3], by simp [o3], by simp [s46], by simp [s47]⟩, by simp [s48]⟩ (fun σ' k hk q6 q7 => ?_) fun σ' hk hE => ?_
    · have : res = (5, (k : Int)) := by rw [ho, n1 (by omega), n2 (by omega), hk]
      simp
      exact hR _ (by rw [this]; exact q6) (by rw [this]; exact q7)
    · obtain ⟨hF, q48⟩ := hE
      have w1 : IntKind.wrap .i64 ((2 : Int) + 1) = ((2 + 1 : Nat) : Int) := by decide
      simp [q48]
      exact ⟨m - 1, by omega, 2 + 1, by omega, ⟨by simp [hF.s1], by simp [hF.s2], by simp [hF.s3], by simp [hF.o3], by simp [hF.s46], by simp [hF.s47]⟩, by simpa using w1, fun _ => n1 (by omega), fun _ => n2 (by omega), fun _ => hk, fun h => by omega⟩
  | 3, hm =>
    simp [s46, s47, s48]
    refine loopOf b base n 117 6 b.sorts.length (by omega) (b.elimn base) (fun k => fn1117 b base k) (by simp [s1]) (by simp [s2]) (by simp [s3]) (by simp [o3]) (by simp) (by simp) (by simp) (by simp) (fun σ => FO b base n σ ∧ σ.sl 48 = .c (.v (.int .i64 (3 : Nat)))) (fun σ σ' h h1 h2 => ⟨h.1.mono h1 h2, by rw [h1 48 (by decide) (by decide)]; exact h.2⟩) ⟨⟨by simp [s1], by simp [s2], by simp [s3], by simp [o3], by simp [s46], by simp [s47]⟩, by simp [s48]⟩ (fun σ' k hk q6 q7 => ?_) fun σ' hk hE => ?_
    · have : res = (6, (k : Int)) := by rw [ho, n1 (by omega), n2 (by omega), n3 (by omega), hk]
      simp
      exact hR _ (by rw [this]; exact q6) (by rw [this]; exact q7)
    · obtain ⟨hF, q48⟩ := hE
      have w1 : IntKind.wrap .i64 ((3 : Int) + 1) = ((3 + 1 : Nat) : Int) := by decide
      simp [q48]
      exact ⟨m - 1, by omega, 3 + 1, by omega, ⟨by simp [hF.s1], by simp [hF.s2], by simp [hF.s3], by simp [hF.o3], by simp [hF.s46], by simp [hF.s47]⟩, by simpa using w1, fun _ => n1 (by omega), fun _ => n2 (by omega), fun _ => n3 (by omega), fun _ => hk⟩
  | 4, hm =>
    simp [s46, s47, s48]
    refine hQ _ ?_
    rw [ho, n1 (by omega), n2 (by omega), n3 (by omega), n4 (by omega)]
  | j + 5, hm => omega
theorem fn1163 (b : B) (base n : Int) (hn : okI n) : Fn Tryz.prog 163 [bm b, ib base, ib n] (.tup [ib (b.ofK base n).1, ib (b.ofK base n).2]) := by
  refine fn_of (base := 1163000) ok1163 rfl fun σ h0 hr => ?_
  have s0 : σ.sl 0 = bm b := h0 0
  have s1 : σ.sl 1 = .c (.v (.int .i64 base)) := h0 1
  have s2 : σ.sl 2 = .c (.v (.int .i64 n)) := h0 2
  have hl1 := real_b1 (hr (bm b) (by simp))
  have hl2 := real_b2 (hr (bm b) (by simp))
  simp only [bm, B.cells] at s0
  clear h0 hr
  obtain ⟨hn1, hn2⟩ := hn
  unfold c1163
  by_cases c1 : base < 0
  · simp [s0, s1, s2, c1]
    refine GCall.fn (fun _ => fn1094 b) (by simp [bm, B.cells]) (by simp) rfl fun _ => ?_
    simp [r1163, ib, B.ofK, c1]
  · by_cases c2 : 65535 < base
    · simp [s0, s1, s2, c1, c2]
      refine GCall.fn (fun _ => fn1094 b) (by simp [bm, B.cells]) (by simp) rfl fun _ => ?_
      simp [r1163, ib, B.ofK, c1, c2]
    · by_cases c3 : n < base
      · simp [s0, s1, s2, c1, c2, c3]
        refine GCall.fn (fun _ => fn1094 b) (by simp [bm, B.cells]) (by simp) rfl fun _ => ?_
        simp [r1163, ib, B.ofK, c1, c2, c3]
      · have w1 : IntKind.wrap .i64 (n - base) = n - base := wrap_id (by omega) (by omega)
        simp [s0, s1, s2, c1, c2, c3, w1]
        refine GCall.fn (fun _ => fn1094 b) (by simp [bm, B.cells]) (by simp) rfl fun _ => ?_
        by_cases c4 : (b.count : Int) ≤ n - base
        · simp [r1163, ib, B.ofK, c1, c2, c3, c4]
        · simp [ib, c4]
          refine ⟨by simp [room], ?_⟩
          have ho : b.ofK base n = match findK (b.former base) n b.sorts.length with
            | some k => (3, k)
            | none => match findK (b.decoder base) n b.sorts.length with
              | some k => (4, k)
              | none => match findK (b.constr base) n b.cons.length with
                | some k => (5, k)
                | none => match findK (b.elimn base) n b.sorts.length with
                  | some k => (6, k)
                  | none => (0, 0) := by rw [B.ofK, if_neg (by omega)]
          refine loopOf2 b base n hl1 hl2 ⟨by simp [s1], by simp [s2], by simp, by simp [B.cells], by simp, by simp⟩ (by simp) (b.ofK base n) ho (fun σ' q6 q7 => ?_) fun σ' e => ?_
          · simp [q6, q7, r1163, ib]
          · simp [e, r1163, ib]
end Go.Abs

namespace Go.Abs
open Go.Proofs
/-! ### subterms -/
theorem wf_kids {k n : Int} {ts : List T} (h : (T.mk k n ts).wf = true) : okI n ∧ ∀ t, t ∈ ts → t.wf = true := by
  simp only [T.wf, Bool.and_eq_true] at h
  have h1 : -9223372036854775808 ≤ n ∧ n < 9223372036854775808 := of_decide_eq_true h.1
  exact ⟨h1, fun t ht => by have := wfL_all ts ▸ h.2; exact List.all_eq_true.1 this t ht⟩
theorem split_facts : ∀ (m : Nat) (t : T), t.count ≤ m → (t.split.1.count ≤ t.count ∧ (t.wf = true → t.split.1.wf = true) ∧ ∀ a, a ∈ t.split.2 → a.count < t.count ∧ (t.wf = true → a.wf = true))
  | 0, t, h => by obtain ⟨k, n, ts⟩ := t; simp [T.count] at h
  | m + 1, t, h => by
    by_cases h2 : t.two 6 = true
    · obtain ⟨n, f, a, rfl⟩ := two_is h2
      have hc : (T.mk 6 n [f, a]).count = f.count + a.count + 1 := by simp [T.count, T.countL]
      have ih := split_facts m f (by omega)
      rw [split_app]
      refine ⟨by simp only []; omega, fun hw => ih.2.1 ((wf_kids hw).2 f (by simp)), fun x hx => ?_⟩
      rcases List.mem_append.1 hx with hx | hx
      · have := ih.2.2 x hx
        exact ⟨by omega, fun hw => this.2 ((wf_kids hw).2 f (by simp))⟩
      · simp at hx
        subst hx
        exact ⟨by omega, fun hw => (wf_kids hw).2 x (by simp)⟩
    · have h2' : t.two 6 = false := by simpa using h2
      rw [split_no h2']
      exact ⟨Nat.le_refl _, id, by simp⟩
theorem keys_tt (t : T) (l : List T) : (AV.tup [tm t, tms l]).keys2 = [] := by simp [AV.keys2, AV.keys1, tm, tms, cells_eq, keysCs, Cell.keys]
/-! ### all of them -/
theorem sp1196 (tn : Nat) (p : PL) (t : T) (cl : T → Bool) (h : Fn Tryz.prog 123 [plm p, tm t] (bb (cl t))) : Spec Tryz.prog 196 [tm t, .c (.ref 1185002 tn 0)] [(1185002, tn, .box 145 p.cells)] (bb (!cl t)) [(1185002, tn, .box 145 p.cells)] := by
  refine spec_one (base := 1196000) ok1196 rfl fun σ h0 oK gK hr => ?_
  have s0 : σ.sl 0 = tm t := h0 0
  have s1 : σ.sl 1 = .c (.ref 1185002 tn 0) := h0 1
  simp only [tm] at s0
  clear h0 hr
  unfold c1196
  simp [s0, s1, oK, gK, PL.cells]
  refine ECall.fn h (by simp [tm, plm, PL.cells]) (by simp) rfl fun hx => ?_
  simp [bb]
  refine EndU_one ?_ ?_ ?_ ?_ <;> simp [r1196, bb, oK, gK, PL.cells]
theorem fn1185 (p : PL) (l : List T) (cl : T → Bool) (h : ∀ t, t ∈ l → Fn Tryz.prog 123 [plm p, tm t] (bb (cl t))) : Fn Tryz.prog 185 [plm p, tms l] (bb (l.all cl)) := by
  refine fn_of (base := 1185000) ok1185 rfl fun σ h0 hr => ?_
  have s0 : σ.sl 0 = plm p := h0 0
  have s1 : σ.sl 1 = tms l := h0 1
  simp only [plm, PL.cells] at s0
  simp only [tms] at s1
  clear h0 hr
  unfold c1185
  simp [s0, s1]
  have hs := spc112 (f := 196) (rs := [(1185002, σ.tg 1185002 + 1)]) (l := [(1185002, σ.tg 1185002 + 1, .box 145 p.cells)]) (NoKeys.one rfl) (p := fun t => !cl t) (ts := l) fun t ht => by simpa [refs] using sp1196 (σ.tg 1185002 + 1) p t cl (h t ht)
  refine ECall.ro (rs := []) (args := [tms l, .c (.clo 196 [] [(1185002, σ.tg 1185002 + 1)])]) [(1185002, σ.tg 1185002 + 1, .box 145 p.cells)] (by simpa [refs] using hs) (by simp [tms, toD2, toD1, toD]) (by simp) rfl (Ro.one (by simp [PL.cells]) (by simp) rfl) fun _ => ?_
  have e : l.all cl = !(l.any fun t => !cl t) := by rw [List.all_eq_not_any_not]
  rw [e]
  generalize (l.any fun t => !cl t) = r
  simp [r1185, bb]
/-! ### decodings -/
def decG (cl : T → Bool) (p : PL) (t : T) : Bool :=
  if t.split.1.kind ≠ 3 then false else
  if (p.b.ofK p.base t.split.1.val).1 ≠ 4 ∨ t.split.2.length ≠ (sIdx p.b (p.b.ofK p.base t.split.1.val).2).length + 1 then false else
  match t.split.2[t.split.2.length - 1]? with
  | some x => (p.guarded x.split.1).2 && (t.split.2.take (t.split.2.length - 1)).all cl && x.split.2.all cl
  | none => false
theorem ofK_dec {b : B} {base n : Int} (h : (b.ofK base n).1 = 4) : ∃ k : Nat, (b.ofK base n).2 = k ∧ k < b.sorts.length := by
  unfold B.ofK at h ⊢
  split
  · rename_i h1; rw [if_pos h1] at h; cases h
  · rename_i h1
    rw [if_neg h1] at h
    cases e1 : findK (b.former base) n b.sorts.length with
    | some k => rw [e1] at h; cases h
    | none =>
      rw [e1] at h
      cases e2 : findK (b.decoder base) n b.sorts.length with
      | some k => exact ⟨k, rfl, (findK_lt e2).1⟩
      | none =>
        rw [e2] at h
        simp only [] at h
        cases e3 : findK (b.constr base) n b.cons.length with
        | some k => rw [e3] at h; cases h
        | none =>
          rw [e3] at h
          cases e4 : findK (b.elimn base) n b.sorts.length with
          | some k => rw [e4] at h; cases h
          | none => rw [e4] at h; cases h
theorem ofK_con {b : B} {base n : Int} (h : (b.ofK base n).1 = 5) : ∃ k : Nat, (b.ofK base n).2 = k ∧ k < b.cons.length := by
  unfold B.ofK at h ⊢
  split
  · rename_i h1; rw [if_pos h1] at h; cases h
  · rename_i h1
    rw [if_neg h1] at h
    cases e1 : findK (b.former base) n b.sorts.length with
    | some k => rw [e1] at h; cases h
    | none =>
      rw [e1] at h
      cases e2 : findK (b.decoder base) n b.sorts.length with
      | some k => rw [e2] at h; cases h
      | none =>
        rw [e2] at h
        simp only [] at h
        cases e3 : findK (b.constr base) n b.cons.length with
        | some k => exact ⟨k, rfl, (findK_lt e3).1⟩
        | none =>
          rw [e3] at h
          cases e4 : findK (b.elimn base) n b.sorts.length with
          | some k => rw [e4] at h; cases h
          | none => rw [e4] at h; cases h
theorem wf_val {t : T} (h : t.wf = true) : okI t.val := by obtain ⟨k, n, ts⟩ := t; exact (wf_kids h).1
/-- No telescope is too long. -/
structure B.Fit (b : B) : Prop where
  srt : ∀ s, s ∈ b.sorts → s.idx.length ≤ 12
  con : ∀ c, c ∈ b.cons → c.args.length ≤ 12
theorem keys_ib (a : Int) (b : Bool) : (AV.tup [ib a, bb b]).keys2 = [] := by simp [AV.keys2, AV.keys1, ib, bb, Cell.keys]
theorem keys_ii (a b : Int) : (AV.tup [ib a, ib b]).keys2 = [] := by simp [AV.keys2, AV.keys1, ib, Cell.keys]
theorem fn1164 (p : PL) (hb : p.b.Fit) (t : T) (cl : T → Bool) (hm : p.more ≤ 1000000000) (hc : t.count ≤ 1048576) (hw : t.wf = true) (hcl : ∀ a, a.count < t.count → a.wf = true → Fn Tryz.prog 123 [plm p, tm a] (bb (cl a))) : Fn Tryz.prog 164 [plm p, tm t] (bb (decG cl p t)) := by
  refine fn_of (base := 1164000) ok1164 rfl fun σ h0 hr => ?_
  have s0 : σ.sl 0 = plm p := h0 0
  have s1 : σ.sl 1 = tm t := h0 1
  simp only [plm, PL.cells] at s0
  rw [tm, cells_eq] at s1
  clear h0 hr
  obtain ⟨f1, f2, f3⟩ := split_facts t.count t (Nat.le_refl _)
  unfold c1164
  simp [s0, s1]
  refine ECall.fn (fn1184 t hc) (by simp [tm, cells_eq]) (by simp) (keys_tt _ _) fun _ => ?_
  have hdef : decG cl p t = decG cl p t := rfl
  conv at hdef => rhs; unfold decG
  generalize t.split.1 = f at *
  generalize t.split.2 = args at *
  simp [tm, tms, cells_eq f]
  by_cases k3 : f.kind = 3
  · simp [k3]
    refine ECall.fn (fn1163 p.b p.base f.val (wf_val (f2 hw))) (by simp [bm, B.cells, ib]) (by simp) rfl fun _ => ?_
    generalize hok : p.b.ofK p.base f.val = kk at *
    obtain ⟨kd, kx⟩ := kk
    simp only [ib]
    by_cases k4 : kd = 4
    · subst k4
      obtain ⟨k, hk1, hk2⟩ := ofK_dec (b := p.b) (base := p.base) (n := f.val) (by rw [hok])
      rw [hok] at hk1
      simp only [] at hk1
      subst hk1
      obtain ⟨s, hs⟩ := at_of hk2
      obtain ⟨hkl, hs2⟩ := getE hs
      have hsx : sIdx p.b (k : Int) = s.idx := by simp [sIdx, hs]
      have h12 := hb.srt s (List.mem_of_getElem? hs)
      generalize hmm : s.idx.length = m at *
      have w1 : IntKind.wrap .i64 ((m : Int) + 1) = (m : Int) + 1 := wrap_id (by omega) (by omega)
      have w2 : IntKind.wrap .i64 (m : Int) = (m : Int) := wrap_id (by omega) (by omega)
      by_cases hlen : args.length = m + 1
      · obtain ⟨x, hx⟩ := at_of (ts := args) (i := m) (by omega)
        obtain ⟨hxl, hx2⟩ := getE hx
        have hxf := f3 x (List.mem_of_getElem? hx)
        simp [hok, k3, hsx, hmm, hlen, hx2, hxl] at hdef
        simp [hkl, hs2, S.cells, hmm, w1, w2, hlen, hx2, hxl]
        refine ⟨by omega, ECall.fn (fn1184 x (by omega)) (by simp [tm]) (by simp) (keys_tt _ _) fun _ => ?_⟩
        have hxs := split_facts x.count x (Nat.le_refl _)
        generalize x.split.1 = g at *
        generalize x.split.2 = of at *
        simp [tm, tms, cells_eq g]
        refine ECall.fn (fn1162 p g hm (hxs.2.1 (hxf.2 hw))) (by simp [tm, plm, PL.cells, cells_eq]) (by simp) (keys_ib _ _) fun _ => ?_
        simp [ib, bb]
        have hdef2 : decG cl p t = ((p.guarded g).2 && (args.take m).all cl && of.all cl) := by rw [hdef]
        clear hdef
        have hc1 := fn1185 p (args.take m) cl fun a ha => hcl a (f3 a (List.mem_of_mem_take ha)).1 ((f3 a (List.mem_of_mem_take ha)).2 hw)
        have hc2 := fn1185 p of cl fun a ha => hcl a (by have := (hxs.2.2 a ha).1; omega) ((hxs.2.2 a ha).2 (hxf.2 hw))
        refine W_dregA ?_
        rw [hdef2]
        generalize (args.take m).all cl = z1 at *
        generalize of.all cl = z2 at *
        cases hg : (p.guarded g).2 with
        | false =>
          simp [hlen]
          refine GCallA.fn (fun _ => hc1) (by simp [plm, PL.cells, tms, List.map_take]) (by simp) rfl ?_
          simp [bb]
          refine GCallA.fn (fun _ => hc2) (by simp [plm, PL.cells, tms]) (by simp) rfl ?_
          simp [bb]
          refine realC_n ?_
          simp [r1164, bb]
        | true =>
          simp [hlen]
          refine ⟨⟨by simp [room]; omega, by omega⟩, ?_⟩
          refine GCallA.fn (fun _ => hc1) (by simp [plm, PL.cells, tms, List.map_take]) (by simp) rfl ?_
          simp [bb]
          refine GCallA.fn (fun _ => hc2) (by simp [plm, PL.cells, tms]) (by simp) rfl ?_
          simp [bb]
          refine realC_n ?_
          simp [r1164, bb]
      · have hlen2 : ¬ ((args.length : Int) = (m : Int) + 1) := by omega
        have hdf : decG cl p t = false := by rw [hdef]; simp [k3, hok, hsx, hmm, hlen]
        simp [hkl, hs2, S.cells, hmm, w1, hlen2, r1164, bb, hdf]
    · have hdf : decG cl p t = false := by rw [hdef]; simp [k3, hok, k4]
      cases hx : p.b.sorts[kx.toNat]? with
      | none => simp [k4, hx, r1164, bb, hdf]
      | some s => simp [k4, hx, S.cells, r1164, bb, hdf]
  · simp [k3, r1164, bb, hdef]
end Go.Abs

namespace Go.Abs
open Go.Proofs
/-! ### clean terms -/
def kidsG (cl : PL → T → Bool) (p : PL) (k : Int) : List T → Nat → Bool
  | [], _ => true
  | t :: ts, i => cl (p.inn (bindsOf k i).toNat) t && kidsG cl p k ts (i + 1)
def cleanF : Nat → PL → T → Bool
  | 0, _, _ => false
  | f + 1, p, t => if t.kind = 1 then !(p.guarded t).2 else if t.kind = 3 then decide ((p.b.ofK p.base t.val).1 = 0) else
      (decide (t.kind = 6) && decG (cleanF f p) p t) || kidsG (cleanF f) p t.kind t.kids 0
theorem binds_nat (k i : Int) : bindsOf k i = ((bindsOf k i).toNat : Int) ∧ (bindsOf k i).toNat ≤ 1 := by
  unfold bindsOf; split <;> simp
theorem countL_len : ∀ ts : List T, ts.length ≤ T.countL ts
  | [] => by simp [T.countL]
  | .mk k n us :: ts => by
    have := countL_len ts
    simp only [T.countL, T.count, List.length_cons]; omega
structure FC (p : PL) (t : T) (σ : St) : Prop where
  s2 : σ.sl 2 = .c (.ref 1123002 (σ.tg 1123002) 0)
  o2 : σ.ob 1123002 = some (.box 145 p.cells)
  s3 : σ.sl 3 = .c (.ref 1123003 (σ.tg 1123003) 0)
  o3 : σ.ob 1123003 = some (.box 63 t.cells)
theorem keys_pl (p : PL) : (plm p).keys2 = [] := by simp [AV.keys2, AV.keys1, plm, PL.cells, keysCs, Cell.keys]
theorem loop1123 {σ : St} {Q : SEx → St → Prop} (p : PL) (k n : Int) (ts : List T) (cl : PL → T → Bool) (hl : ts.length ≤ 1048576) (hm : p.more ≤ 900000000) (h : ∀ t, t ∈ ts → ∀ i, Fn Tryz.prog 123 [plm (p.inn (bindsOf k i).toNat), tm t] (bb (cl (p.inn (bindsOf k i).toNat) t))) (H : FC p (.mk k n ts) σ)
    (s43 : σ.sl 43 = .c (.sl 3 40 (ts.map T.cells))) (s44 : σ.sl 44 = .c (.v (.int .i64 ts.length))) (s45 : σ.sl 45 = .c (.v (.int .i64 (0 : Nat))))
    (hR : ∀ σ', kidsG cl p k ts 0 = false → σ'.sl 4 = bb false → Q .ret σ') (hQ : ∀ σ', kidsG cl p k ts 0 = true → Q .normal σ') : W Tryz.prog 1123000 (.loop c1123b0) σ (onBlock 1 Q) := by
  refine W_loop (fun m σ => ∃ i : Nat, i + m = ts.length ∧ kidsG cl p k (ts.drop i) i = kidsG cl p k ts 0 ∧ FC p (.mk k n ts) σ ∧ σ.sl 43 = .c (.sl 3 40 (ts.map T.cells)) ∧ σ.sl 44 = .c (.v (.int .i64 ts.length)) ∧ σ.sl 45 = .c (.v (.int .i64 i))) ts.length ⟨0, by simp, by simp, H, s43, s44, s45⟩ ?_
  clear H s43 s44 s45 σ
  rintro m σ ⟨i, hm2, hp, ⟨s2, o2, s3, o3⟩, s43, s44, s45⟩
  rw [cells_mk] at o3
  unfold c1123b0
  by_cases hi : i < ts.length
  · have w1 := wrap_succ (i := i) (by omega)
    obtain ⟨t, ht⟩ := at_of hi
    obtain ⟨_, ht2⟩ := getE ht
    obtain ⟨b1, b2⟩ := binds_nat k i
    rw [drop_at ht, kidsG] at hp
    have hcall := h t (List.mem_of_getElem? ht) i
    have hinn := fn1161 p (bindsOf k i).toNat (by omega)
    rw [← b1] at hinn
    simp [s2, s3, o2, o3, s43, s44, s45, hi, ht2, PL.cells, cells_eq t]
    refine W_dregA ?_
    simp [s2, s3, o2, o3, PL.cells]
    refine CallA.fn (fn31 k i) (by simp [ib]) (by simp) rfl ?_
    simp [ib]
    refine CallA.fn hinn (by simp [plm, PL.cells, ib]) (by simp) (keys_pl _) ?_
    simp [plm, PL.cells]
    refine CallA.fn hcall (by simp [plm, PL.cells, tm, cells_eq t]) (by simp) rfl ?_
    cases hc : cl (p.inn (bindsOf k i).toNat) t with
    | false =>
      rw [hc] at hp
      simp [bb]
      refine realC_n ?_
      simp
      exact hR _ (by simpa using hp.symm) (by simp [bb])
    | true =>
      rw [hc] at hp
      simp [bb]
      refine realC_n ?_
      simp [s45, w1]
      exact ⟨m - 1, by omega, i + 1, by omega, by simpa using hp, ⟨by simp [s2], by simp [o2, PL.cells], by simp [s3], by simp [o3, cells_mk]⟩, by simp [s43], by simp [s44], by simp⟩
  · have : i = ts.length := by omega
    subst this
    simp [kidsG] at hp
    simp [s43, s44, s45]
    exact hQ _ hp
theorem fn1123 : ∀ (f : Nat) (p : PL), p.b.Fit → ∀ (t : T), t.count ≤ f → t.count ≤ 1048576 → p.more + t.count ≤ 100000000 → t.wf = true → Fn Tryz.prog 123 [plm p, tm t] (bb (cleanF f p t))
  | 0, p, hb, t, hf, _, _, _ => by obtain ⟨k, n, ts⟩ := t; simp [T.count] at hf
  | f + 1, p, hb, t, hf, hc, hm, hw => by
    have ih := fn1123 f
    refine fn_of (base := 1123000) ok1123 rfl fun σ h0 hr => ?_
    have s0 : σ.sl 0 = plm p := h0 0
    have s1 : σ.sl 1 = tm t := h0 1
    simp only [plm, PL.cells] at s0
    have hcount : t.count = T.countL t.kids + 1 := by obtain ⟨k, n, ts⟩ := t; rfl
    have hdec := fn1164 p hb t (cleanF f p) (by omega) hc hw fun a h1 h2 => ih p hb a (by omega) (by omega) (by omega) h2
    have hg := fn1162 p t (by omega) hw
    have hof := fn1163 p.b p.base t.val (wf_val hw)
    have hkid : ∀ u, u ∈ t.kids → ∀ i, Fn Tryz.prog 123 [plm (p.inn (bindsOf t.kind i).toNat), tm u] (bb (cleanF f (p.inn (bindsOf t.kind i).toNat) u)) := fun u hu i => by
      have h1 := count_mem hu
      have h2 := (binds_nat t.kind i).2
      refine ih (p.inn (bindsOf t.kind i).toNat) hb u (by omega) (by omega) (by show p.more + (bindsOf t.kind i).toNat + u.count ≤ 100000000; omega) ?_
      obtain ⟨k, n, ts⟩ := t
      exact (wf_kids hw).2 u hu
    have hkl : t.kids.length ≤ T.countL t.kids := by
      exact countL_len t.kids
    have hdef : cleanF (f + 1) p t = (if t.kind = 1 then !(p.guarded t).2 else if t.kind = 3 then decide ((p.b.ofK p.base t.val).1 = 0) else (decide (t.kind = 6) && decG (cleanF f p) p t) || kidsG (cleanF f) p t.kind t.kids 0) := rfl
    clear h0 hr
    obtain ⟨k, n, ts⟩ := t
    rw [show (T.mk k n ts).kind = k from rfl, show (T.mk k n ts).val = n from rfl, show (T.mk k n ts).kids = ts from rfl] at *
    rw [hdef]
    simp only [tm, cells_mk] at s1
    unfold c1123
    by_cases k1 : k = 1
    · subst k1
      simp [s0, s1]
      refine ECall.fn hg (by simp [plm, PL.cells, tm, cells_mk]) (by simp) (keys_ib _ _) fun _ => ?_
      simp [ib, bb, r1123]
    · by_cases k3 : k = 3
      · simp [s0, s1, k1, k3]
        refine ECall.fn hof (by simp [bm, B.cells, ib]) (by simp) (keys_ii _ _) fun _ => ?_
        simp [ib, bb, r1123]
      · rw [if_neg k1, if_neg k3]
        by_cases k6 : k = 6
        · subst k6
          simp [s0, s1]
          refine ECall.fn hdec (by simp [plm, PL.cells, tm, cells_mk]) (by simp) rfl fun _ => ?_
          cases hd : decG (cleanF f p) p (.mk 6 n ts) with
          | true => simp [bb, r1123]
          | false =>
            simp [bb]
            refine loop1123 p 6 n ts (cleanF f) (by omega) (by omega) hkid ⟨by simp, by simp [PL.cells], by simp, by simp [cells_mk]⟩ (by simp) (by simp) (by simp) (fun σ' e q4 => ?_) fun σ' e => ?_
            · simp [q4, r1123, bb, e]
            · simp [r1123, bb, e]
        · simp [s0, s1, k1, k3, k6]
          refine loop1123 p k n ts (cleanF f) (by omega) (by omega) hkid ⟨by simp, by simp [PL.cells], by simp, by simp [cells_mk]⟩ (by simp) (by simp) (by simp) (fun σ' e q4 => ?_) fun σ' e => ?_
          · simp [q4, r1123, bb, e]
          · simp [r1123, bb, e]
end Go.Abs

namespace Go.Abs
open Go.Proofs
/-! ### good terms -/
def cArgs (b : B) (c : Int) : List A := match b.cons[c.toNat]? with | some k => k.args | none => []
def jDom (p : PL) (j : Int) : List T := match p.args[j.toNat]? with | some a => a.dom | none => []
def badA (cl gd : T → Bool) (p : PL) (a : A) (x : T) : Bool := (!a.rc && !cl x) || (a.rc && decide (a.dom.length = 0) && !gd x) || (a.rc && decide (0 < a.dom.length) && !(p.guarded x).2)
def goodL (cl gd : T → Bool) (p : PL) : List A → List T → Bool
  | a :: ys, x :: xs => !badA cl gd p a x && goodL cl gd p ys xs
  | _, _ => true
def goodF : Nat → PL → Int → T → Bool
  | 0, _, _, _ => false
  | f + 1, p, cons, t =>
    if (p.guarded t.split.1).2 then decide (t.split.2.length = (jDom p (p.guarded t.split.1).1).length) && t.split.2.all (cleanF f p)
    else if t.split.1.kind ≠ 3 then false
    else if (p.b.ofK p.base t.split.1.val).1 ≠ 5 ∨ cons ≤ (p.b.ofK p.base t.split.1.val).2 ∨ t.split.2.length ≠ (cArgs p.b (p.b.ofK p.base t.split.1.val).2).length then false
    else goodL (cleanF f p) (goodF f p cons) p (cArgs p.b (p.b.ofK p.base t.split.1.val).2) t.split.2
structure FG (p : PL) (cons : Int) (xs : List T) (σ : St) : Prop where
  s2 : σ.sl 2 = .c (.v (.int .i64 cons))
  s3 : σ.sl 3 = .c (.ref 1165003 (σ.tg 1165003) 0)
  o3 : σ.ob 1165003 = some (.box 145 p.cells)
  s8 : σ.sl 8 = .c (.sl 3 40 (xs.map T.cells))
theorem goodL_at {cl gd : T → Bool} {p : PL} : ∀ {ys : List A} {xs : List T} {i : Nat} {a : A} {x : T}, ys[i]? = some a → xs[i]? = some x → goodL cl gd p (ys.drop i) (xs.drop i) = (!badA cl gd p a x && goodL cl gd p (ys.drop (i + 1)) (xs.drop (i + 1))) := by
  intro ys xs i a x ha hx
  rw [drop_at ha, drop_at hx, goodL]
theorem loop1165 {σ : St} {Q : SEx → St → Prop} (p : PL) (cons : Int) (ys : List A) (xs : List T) (cl gd : T → Bool) (hl : ys.length = xs.length) (hx1 : xs.length ≤ 1048576) (hm : p.more ≤ 900000000) (hw : ∀ x, x ∈ xs → x.wf = true)
    (h1 : ∀ x, x ∈ xs → Fn Tryz.prog 123 [plm p, tm x] (bb (cl x))) (h2 : ∀ x, x ∈ xs → Fn Tryz.prog 165 [plm p, tm x, ib cons] (bb (gd x))) (H : FG p cons xs σ)
    (s83 : σ.sl 83 = .c (.sl 7 104 (ys.map A.cells))) (s84 : σ.sl 84 = .c (.v (.int .i64 ys.length))) (s85 : σ.sl 85 = .c (.v (.int .i64 (0 : Nat))))
    (hR : ∀ σ', goodL cl gd p ys xs = false → σ'.sl 6 = bb false → Q .ret σ') (hQ : ∀ σ', goodL cl gd p ys xs = true → Q .normal σ') : W Tryz.prog 1165000 (.loop c1165b0) σ (onBlock 0 Q) := by
  refine W_loop (fun m σ => ∃ i : Nat, i + m = ys.length ∧ goodL cl gd p (ys.drop i) (xs.drop i) = goodL cl gd p ys xs ∧ FG p cons xs σ ∧ σ.sl 83 = .c (.sl 7 104 (ys.map A.cells)) ∧ σ.sl 84 = .c (.v (.int .i64 ys.length)) ∧ σ.sl 85 = .c (.v (.int .i64 i))) ys.length ⟨0, by simp, by simp, H, s83, s84, s85⟩ ?_
  clear H s83 s84 s85 σ
  rintro m σ ⟨i, hm2, hp, ⟨s2, s3, o3, s8⟩, s83, s84, s85⟩
  unfold c1165b0
  by_cases hi : i < ys.length
  · have w1 := wrap_succ (i := i) (by omega)
    obtain ⟨a, ha⟩ := at_of hi
    obtain ⟨x, hx⟩ := at_of (ts := xs) (i := i) (by omega)
    obtain ⟨_, ha2⟩ := getE ha
    obtain ⟨hxl, hx2⟩ := getE hx
    have hxm := List.mem_of_getElem? hx
    have hcl := h1 x hxm
    have hgd := h2 x hxm
    rw [goodL_at ha hx] at hp
    simp [s2, s3, o3, s8, s83, s84, s85, hi, ha2, A.cells]
    refine W_dregA ?_
    simp [s2, s3, o3, s8, hxl, hx2, PL.cells]
    refine CallA.fn (fn1162 p x (by omega) (hw x hxm)) (by simp [plm, PL.cells, tm]) (by simp) (keys_ib _ _) ?_
    simp [ib, bb]
    refine realC_n ?_
    simp
    refine W_dregA ?_
    have fin : ∀ σ', badA cl gd p a x = true → σ'.sl 6 = bb false → Q .ret σ' := fun σ' hb q => hR σ' (by rw [hb] at hp; simpa using hp.symm) q
    have go : badA cl gd p a x = false → goodL cl gd p (ys.drop (i + 1)) (xs.drop (i + 1)) = goodL cl gd p ys xs := fun hb => by rw [hb] at hp; simpa using hp
    cases hrc : a.rc with
    | false =>
      simp [s2, s3, o3, s8, hxl, hx2, PL.cells, hrc]
      refine GCallA.fn (fun _ => hcl) (by simp [plm, PL.cells, tm]) (by simp) rfl ?_
      cases hc : cl x with
      | false =>
        simp [bb]
        refine realC_n ?_
        simp
        exact fin _ (by simp [badA, hrc, hc]) (by simp [bb])
      | true =>
        simp [bb]
        refine realC_n ?_
        simp
        refine W_dregA ?_
        simp [s2, s3, o3, s8, hxl, hx2, PL.cells, hrc]
        refine GCallA.fn (fun _ => hgd) (by simp [plm, PL.cells, tm, ib]) (by simp) rfl ?_
        simp [bb]
        refine realC_n ?_
        simp [hrc, s85, w1]
        exact ⟨m - 1, by omega, i + 1, by omega, go (by simp [badA, hrc, hc]), ⟨by simp [s2], by simp [s3], by simp [o3, PL.cells], by simp [s8]⟩, by simp [s83], by simp [s84], by simp⟩
    | true =>
      simp [s2, s3, o3, s8, hxl, hx2, PL.cells, hrc]
      refine GCallA.fn (fun _ => hcl) (by simp [plm, PL.cells, tm]) (by simp) rfl ?_
      simp [bb]
      refine realC_n ?_
      simp
      refine W_dregA ?_
      by_cases hd : a.dom.length = 0
      · have hd' : (a.dom.length : Int) = 0 := by omega
        have hd2 : ¬ (0 : Int) < a.dom.length := by omega
        simp [s2, s3, o3, s8, hxl, hx2, PL.cells, hrc, hd']
        refine GCallA.fn (fun _ => hgd) (by simp [plm, PL.cells, tm, ib]) (by simp) rfl ?_
        cases hc : gd x with
        | false =>
          simp [bb]
          refine realC_n ?_
          simp
          exact fin _ (by simp [badA, hrc, hc, hd]) (by simp [bb])
        | true =>
          simp [bb]
          refine realC_n ?_
          simp [hrc, hd, hd', hd2, s85, w1]
          exact ⟨m - 1, by omega, i + 1, by omega, go (by simp [badA, hrc, hc, hd]), ⟨by simp [s2], by simp [s3], by simp [o3, PL.cells], by simp [s8]⟩, by simp [s83], by simp [s84], by simp⟩
      · have hd' : ¬ (a.dom.length : Int) = 0 := by omega
        have hd2 : (0 : Int) < a.dom.length := by omega
        have hd3 : 0 < a.dom.length := by omega
        have hdn : a.dom ≠ [] := fun e => by simp [e] at hd
        simp [s2, s3, o3, s8, hxl, hx2, PL.cells, hrc, hd']
        refine GCallA.fn (fun _ => hgd) (by simp [plm, PL.cells, tm, ib]) (by simp) rfl ?_
        simp [bb]
        refine realC_n ?_
        cases hc : (p.guarded x).2 with
        | false =>
          simp [hrc, hd2, hd3, hc, hdn]
          exact fin _ (by simp [badA, hrc, hc, hd, hd3]) (by simp [bb])
        | true =>
          simp [hrc, hd2, hd3, hc, hdn, s85, w1]
          exact ⟨m - 1, by omega, i + 1, by omega, go (by simp [badA, hrc, hc, hd, hd3]), ⟨by simp [s2], by simp [s3], by simp [o3, PL.cells], by simp [s8]⟩, by simp [s83], by simp [s84], by simp⟩
  · have : i = ys.length := by omega
    subst this
    simp [goodL] at hp
    simp [s83, s84, s85]
    exact hQ _ hp
theorem fn1165 : ∀ (f : Nat) (p : PL), p.b.Fit → ∀ (cons : Int) (t : T), t.count ≤ f → t.count ≤ 1048576 → p.more + t.count ≤ 100000000 → t.wf = true → Fn Tryz.prog 165 [plm p, tm t, ib cons] (bb (goodF f p cons t))
  | 0, p, hb, cons, t, hf, _, _, _ => by obtain ⟨k, n, ts⟩ := t; simp [T.count] at hf
  | f + 1, p, hb, cons, t, hf, hc, hm, hw => by
    have ih := fn1165 f
    refine fn_of (base := 1165000) ok1165 rfl fun σ h0 hr => ?_
    have s0 : σ.sl 0 = plm p := h0 0
    have s1 : σ.sl 1 = tm t := h0 1
    have s2 : σ.sl 2 = .c (.v (.int .i64 cons)) := h0 2
    simp only [plm, PL.cells] at s0
    rw [tm, cells_eq] at s1
    clear h0 hr
    obtain ⟨f1, f2, f3⟩ := split_facts t.count t (Nat.le_refl _)
    have hlen : t.split.2.length ≤ 1048576 := by
      have : ∀ (m : Nat) (t : T), t.count ≤ m → t.split.2.length ≤ t.count := by
        intro m
        induction m with
        | zero => intro t h; obtain ⟨k, n, ts⟩ := t; simp [T.count] at h
        | succ m ihm =>
          intro t h
          by_cases h2 : t.two 6 = true
          · obtain ⟨n, g, a, rfl⟩ := two_is h2
            have hcc : (T.mk 6 n [g, a]).count = g.count + a.count + 1 := by simp [T.count, T.countL]
            have := ihm g (by omega)
            rw [split_app]; simp; omega
          · rw [split_no (by simpa using h2)]; simp
      have := this t.count t (Nat.le_refl _)
      omega
    have hcl : ∀ x, x ∈ t.split.2 → Fn Tryz.prog 123 [plm p, tm x] (bb (cleanF f p x)) := fun x hx => fn1123 f p hb x (by have := (f3 x hx).1; omega) (by have := (f3 x hx).1; omega) (by have := (f3 x hx).1; omega) ((f3 x hx).2 hw)
    have hgd : ∀ x, x ∈ t.split.2 → Fn Tryz.prog 165 [plm p, tm x, ib cons] (bb (goodF f p cons x)) := fun x hx => ih p hb cons x (by have := (f3 x hx).1; omega) (by have := (f3 x hx).1; omega) (by have := (f3 x hx).1; omega) ((f3 x hx).2 hw)
    unfold c1165
    simp [s0, s1]
    refine ECall.fn (fn1184 t hc) (by simp [tm, cells_eq]) (by simp) (keys_tt _ _) fun _ => ?_
    have hdef : goodF (f + 1) p cons t = goodF (f + 1) p cons t := rfl
    conv at hdef => rhs; unfold goodF
    generalize t.split.1 = g at *
    generalize t.split.2 = args at *
    simp [tm, tms, cells_eq g]
    refine ECall.fn (fn1162 p g (by omega) (f2 hw)) (by simp [tm, plm, PL.cells, cells_eq]) (by simp) (keys_ib _ _) fun _ => ?_
    simp [ib, bb]
    refine And.symm ⟨fun hg => ?_, fun hg => ?_⟩
    · -- no recursive argument
      rw [if_neg (by simp [hg])] at hdef
      by_cases k3 : g.kind = 3
      · rw [if_neg (by simp [k3])] at hdef
        simp [k3]
        refine ECall.fn (fn1163 p.b p.base g.val (wf_val (f2 hw))) (by simp [bm, B.cells, ib]) (by simp) (keys_ii _ _) fun _ => ?_
        generalize hok : p.b.ofK p.base g.val = kk at *
        obtain ⟨kd, kx⟩ := kk
        simp only [ib]
        by_cases k5 : kd = 5
        · subst k5
          obtain ⟨k, hk1, hk2⟩ := ofK_con (b := p.b) (base := p.base) (n := g.val) (by rw [hok])
          rw [hok] at hk1
          simp only [] at hk1
          subst hk1
          obtain ⟨s, hs⟩ := at_of hk2
          obtain ⟨hkl, hs2⟩ := getE hs
          have hsx : cArgs p.b (k : Int) = s.args := by simp [cArgs, hs]
          by_cases k6 : cons ≤ (k : Int)
          · have hdf : goodF (f + 1) p cons t = false := by rw [hdef, if_pos (.inr (.inl k6))]
            simp [s2, hkl, hs2, K.cells, k6, r1165, bb, hdf]
          · by_cases hln : args.length = s.args.length
            · have hln' : (args.length : Int) = s.args.length := by omega
              rw [if_neg (by rw [hsx]; simp [k6, hln])] at hdef
              simp only [hsx] at hdef
              simp [s2, hkl, hs2, K.cells, k6, hln, hln']
              refine loop1165 p cons s.args args (cleanF f p) (goodF f p cons) hln.symm hlen (by omega) (fun x hx => (f3 x hx).2 hw) hcl hgd ⟨by simp [s2], by simp, by simp [PL.cells], by simp⟩ (by simp) (by simp) (by simp) (fun σ' e q => ?_) fun σ' e => ?_
              · simp [q, r1165, bb, hdef, e]
              · simp [r1165, bb, hdef, e]
            · have hln' : ¬ (args.length : Int) = s.args.length := by omega
              have hdf : goodF (f + 1) p cons t = false := by rw [hdef, if_pos (.inr (.inr (by rw [hsx]; exact hln)))]
              simp [s2, hkl, hs2, K.cells, k6, hln, hln', r1165, bb, hdf]
        · have hdf : goodF (f + 1) p cons t = false := by rw [hdef, if_pos (.inl k5)]
          cases hx : p.b.cons[kx.toNat]? with
          | none => simp [s2, k5, hx, r1165, bb, hdf]
          | some s => simp [s2, k5, hx, K.cells, r1165, bb, hdf]
      · rw [if_pos (by simp [k3])] at hdef
        simp [k3, r1165, bb, hdef]
    · rw [if_pos hg] at hdef
      obtain ⟨j, a, hj, ha, _⟩ := guarded_lt hg
      obtain ⟨hjl, ha2⟩ := getE ha
      have hjd : jDom p (p.guarded g).1 = a.dom := by simp [jDom, hj, ha]
      rw [hjd] at hdef
      rw [hdef]
      have hc1 := fn1185 p args (cleanF f p) hcl
      generalize args.all (cleanF f p) = z at *
      by_cases hln : args.length = a.dom.length
      · have hln' : (args.length : Int) = a.dom.length := by omega
        simp [hj, hjl, ha2, A.cells, hln, hln']
        refine GCall.fn (fun _ => hc1) (by simp [plm, PL.cells, tms]) (by simp) rfl fun _ => ?_
        simp [r1165, bb]
      · have hln' : ¬ (args.length : Int) = a.dom.length := by omega
        simp [hj, hjl, ha2, A.cells, hln, hln']
        refine GCall.fn (fun _ => hc1) (by simp [plm, PL.cells, tms]) (by simp) rfl fun _ => ?_
        simp [r1165, bb]
end Go.Abs

namespace Go.Abs
open Go.Proofs
/-! ### a block's terms -/
def T.ok (t : T) : Prop := t.count ≤ 1048576 ∧ t.wf = true
structure A.Ok (a : A) : Prop where
  typ : a.typ.ok
  dom : ∀ t, t ∈ a.dom → t.ok
  idx : ∀ t, t ∈ a.idx → t.ok
structure S.Ok (s : S) : Prop where
  idx : ∀ a, a ∈ s.idx → a.Ok
  dec : s.decType.ok
structure K.Ok (c : K) : Prop where
  args : ∀ a, a ∈ c.args → a.Ok
  idx : ∀ t, t ∈ c.idx → t.ok
  dec : c.dec.ok
structure B.Ok (b : B) : Prop where
  sorts : ∀ s, s ∈ b.sorts → s.Ok
  cons : ∀ c, c ∈ b.cons → c.Ok
def NN : Nat := 1048576
def clean (p : PL) (t : T) : Bool := cleanF NN p t
def good (p : PL) (c : Int) (t : T) : Bool := goodF NN p c t
theorem fnClean {p : PL} (hb : p.b.Fit) {t : T} (ht : t.ok) (hm : p.more ≤ 1000) : Fn Tryz.prog 123 [plm p, tm t] (bb (clean p t)) := fn1123 NN p hb t ht.1 ht.1 (by have := ht.1; omega) ht.2
theorem fnGood {p : PL} (hb : p.b.Fit) {t : T} (ht : t.ok) (hm : p.more ≤ 1000) (c : Int) : Fn Tryz.prog 165 [plm p, tm t, ib c] (bb (good p c t)) := fn1165 NN p hb c t ht.1 ht.1 (by have := ht.1; omega) ht.2
def badI (p : PL) (c : Int) (a : A) (x : T) : Bool := (a.rc && !good p c x) || (!a.rc && !clean p x)
def indG (p : PL) (c : Int) : List A → List T → Bool
  | a :: ys, x :: xs => !badI p c a x && indG p c ys xs
  | _, _ => true
structure FI (p : PL) (c : Int) (l : List T) (σ : St) : Prop where
  s2 : σ.sl 2 = .c (.sl 3 40 (l.map T.cells))
  s3 : σ.sl 3 = .c (.v (.int .i64 c))
  s4 : σ.sl 4 = .c (.ref 1124004 (σ.tg 1124004) 0)
  o4 : σ.ob 1124004 = some (.box 145 p.cells)
theorem loop1124 {σ : St} {Q : SEx → St → Prop} (p : PL) (hb : p.b.Fit) (hm : p.more ≤ 1000) (c : Int) (ys : List A) (xs : List T) (hl : ys.length ≤ xs.length) (h12 : ys.length ≤ 12) (hx : ∀ x, x ∈ xs → x.ok) (H : FI p c xs σ)
    (s17 : σ.sl 17 = .c (.sl 7 104 (ys.map A.cells))) (s18 : σ.sl 18 = .c (.v (.int .i64 ys.length))) (s19 : σ.sl 19 = .c (.v (.int .i64 (0 : Nat))))
    (hR : ∀ σ', indG p c ys xs = false → σ'.sl 8 = bb false → Q .ret σ') (hQ : ∀ σ', indG p c ys xs = true → Q .normal σ') : W Tryz.prog 1124000 (.loop c1124b0) σ (onBlock 0 Q) := by
  refine W_loop (fun m σ => ∃ i : Nat, i + m = ys.length ∧ indG p c (ys.drop i) (xs.drop i) = indG p c ys xs ∧ FI p c xs σ ∧ σ.sl 17 = .c (.sl 7 104 (ys.map A.cells)) ∧ σ.sl 18 = .c (.v (.int .i64 ys.length)) ∧ σ.sl 19 = .c (.v (.int .i64 i))) ys.length ⟨0, by simp, by simp, H, s17, s18, s19⟩ ?_
  clear H s17 s18 s19 σ
  rintro m σ ⟨i, hm2, hp, ⟨s2, s3, s4, o4⟩, s17, s18, s19⟩
  unfold c1124b0
  by_cases hi : i < ys.length
  · have w1 := wrap_succ (i := i) (by omega)
    obtain ⟨a, ha⟩ := at_of hi
    obtain ⟨x, hx1⟩ := at_of (ts := xs) (i := i) (by omega)
    obtain ⟨_, ha2⟩ := getE ha
    obtain ⟨hxl, hx2⟩ := getE hx1
    have hxo := hx x (List.mem_of_getElem? hx1)
    rw [drop_at ha, drop_at hx1, indG] at hp
    simp [s2, s3, s4, o4, s17, s18, s19, hi, ha2, A.cells]
    refine W_dregA ?_
    have fin : ∀ σ', badI p c a x = true → σ'.sl 8 = bb false → Q .ret σ' := fun σ' hb q => hR σ' (by rw [hb] at hp; simpa using hp.symm) q
    have go : badI p c a x = false → indG p c (ys.drop (i + 1)) (xs.drop (i + 1)) = indG p c ys xs := fun hb => by rw [hb] at hp; simpa using hp
    cases hrc : a.rc with
    | false =>
      simp [s2, s3, s4, o4, hxl, hx2, PL.cells, hrc]
      refine GCallA.fn (fun _ => fnGood hb hxo hm c) (by simp [plm, PL.cells, tm, ib]) (by simp) rfl ?_
      simp [s2, s3, s4, o4, hxl, hx2, PL.cells, hrc, bb]
      refine GCallA.fn (fun _ => fnClean hb hxo hm) (by simp [plm, PL.cells, tm]) (by simp) rfl ?_
      cases hc : clean p x with
      | false =>
        simp [bb]
        refine realC_n ?_
        simp
        exact fin _ (by simp [badI, hrc, hc]) (by simp [bb])
      | true =>
        simp [bb]
        refine realC_n ?_
        simp [s19, w1]
        exact ⟨m - 1, by omega, i + 1, by omega, go (by simp [badI, hrc, hc]), ⟨by simp [s2], by simp [s3], by simp [s4], by simp [o4, PL.cells]⟩, by simp [s17], by simp [s18], by simp⟩
    | true =>
      simp [s2, s3, s4, o4, hxl, hx2, PL.cells, hrc]
      refine GCallA.fn (fun _ => fnGood hb hxo hm c) (by simp [plm, PL.cells, tm, ib]) (by simp) rfl ?_
      simp [s2, s3, s4, o4, hxl, hx2, PL.cells, hrc, bb]
      refine GCallA.fn (fun _ => fnClean hb hxo hm) (by simp [plm, PL.cells, tm]) (by simp) rfl ?_
      cases hc : good p c x with
      | false =>
        simp [bb]
        refine realC_n ?_
        simp
        exact fin _ (by simp [badI, hrc, hc]) (by simp [bb])
      | true =>
        simp [bb]
        refine realC_n ?_
        simp [s19, w1]
        exact ⟨m - 1, by omega, i + 1, by omega, go (by simp [badI, hrc, hc]), ⟨by simp [s2], by simp [s3], by simp [s4], by simp [o4, PL.cells]⟩, by simp [s17], by simp [s18], by simp⟩
  · have : i = ys.length := by omega
    subst this
    simp [indG] at hp
    simp [s17, s18, s19]
    exact hQ _ hp
theorem fn1124 (p : PL) (hb : p.b.Fit) (hm : p.more ≤ 1000) (k : Nat) (s : S) (hs : p.b.sorts[k]? = some s) (c : Int) (xs : List T) (hl : s.idx.length ≤ xs.length) (hx : ∀ x, x ∈ xs → x.ok) : Fn Tryz.prog 124 [plm p, ib k, tms xs, ib c] (bb (indG p c s.idx xs)) := by
  refine fn_of (base := 1124000) ok1124 rfl fun σ h0 hr => ?_
  have s0 : σ.sl 0 = plm p := h0 0
  have s1 : σ.sl 1 = .c (.v (.int .i64 k)) := h0 1
  have s2 : σ.sl 2 = tms xs := h0 2
  have s3 : σ.sl 3 = .c (.v (.int .i64 c)) := h0 3
  simp only [plm, PL.cells] at s0
  simp only [tms] at s2
  clear h0 hr
  obtain ⟨hkl, hs2⟩ := getE hs
  unfold c1124
  simp [s0, s1, s2, s3, hkl, hs2, S.cells]
  refine loop1124 p hb hm c s.idx xs hl (hb.srt s (List.mem_of_getElem? hs)) hx ⟨by simp [s2], by simp [s3], by simp, by simp [PL.cells]⟩ (by simp) (by simp) (by simp) (fun σ' e q => ?_) fun σ' e => ?_
  · simp [q, r1124, bb, e]
  · simp [r1124, bb, e]
end Go.Abs

namespace Go.Abs
open Go.Proofs
/-! ### rows of arguments, as they are to be -/
def domG (p : PL) : List T → Nat → Bool
  | [], _ => true
  | d :: r, j => clean (p.inn j) d && domG p r (j + 1)
def plAt (b : B) (base : Int) (l : List A) (i : Nat) : PL := ⟨b, base, l.take i, 0⟩
def argG (b : B) (base : Int) (l : List A) (c : Int) (i : Nat) (a : A) : Bool :=
  if a.rc then domG (plAt b base l i) a.dom 0 && indG ((plAt b base l i).inn a.dom.length) c (sIdx b a.sort) a.idx
  else clean (plAt b base l i) a.typ
def rowG (b : B) (base : Int) (l : List A) (c : Int) : List A → Nat → Bool
  | [], _ => true
  | a :: r, i => argG b base l c i a && rowG b base l c r (i + 1)
/-- What a right argument brings along. -/
structure A.Fine (b : B) (a : A) : Prop where
  ok : a.Ok
  dom : a.rc = true → a.dom.length ≤ 12
  srt : a.rc = true → 0 ≤ a.sort ∧ a.sort < b.sorts.length
  len : a.rc = true → a.idx.length = (sIdx b a.sort).length
structure FR0 (b : B) (base : Int) (l : List A) (c : Int) (σ : St) : Prop where
  s1 : σ.sl 1 = .c (.v (.int .i64 base))
  s2 : σ.sl 2 = .c (.sl 7 104 (l.map A.cells))
  s3 : σ.sl 3 = .c (.v (.int .i64 c))
  s4 : σ.sl 4 = .c (.ref 1122004 (σ.tg 1122004) 0)
  o4 : σ.ob 1122004 = some (.box 68 b.cells)
  s14 : σ.sl 14 = .c (.sl 7 104 (l.map A.cells))
  s15 : σ.sl 15 = .c (.v (.int .i64 l.length))
structure FR1 (p : PL) (a : A) (i : Nat) (σ : St) : Prop where
  s10 : σ.sl 10 = .c (.ref 1122010 (σ.tg 1122010) 0)
  o10 : σ.ob 1122010 = some (.box 126 a.cells)
  s11 : σ.sl 11 = .c (.ref 1122011 (σ.tg 1122011) 0)
  o11 : σ.ob 1122011 = some (.box 145 p.cells)
  s16 : σ.sl 16 = .c (.v (.int .i64 i))
theorem loop1122a {σ : St} {Q : SEx → St → Prop} (b : B) (base : Int) (l : List A) (c : Int) (p : PL) (hb : p.b.Fit) (hp0 : p.more = 0) (a : A) (i : Nat) (hd : a.dom.length ≤ 12) (hok : a.Ok) (H0 : FR0 b base l c σ) (H1 : FR1 p a i σ)
    (s36 : σ.sl 36 = .c (.sl 3 40 (a.dom.map T.cells))) (s37 : σ.sl 37 = .c (.v (.int .i64 a.dom.length))) (s38 : σ.sl 38 = .c (.v (.int .i64 (0 : Nat))))
    (hR : ∀ σ', domG p a.dom 0 = false → σ'.sl 8 = bb false → Q .ret σ') (hQ : ∀ σ', domG p a.dom 0 = true → FR0 b base l c σ' → FR1 p a i σ' → Q .normal σ') : W Tryz.prog 1122000 (.loop c1122b0) σ (onBlock 2 Q) := by
  refine W_loop (fun m σ => ∃ j : Nat, j + m = a.dom.length ∧ domG p (a.dom.drop j) j = domG p a.dom 0 ∧ FR0 b base l c σ ∧ FR1 p a i σ ∧ σ.sl 36 = .c (.sl 3 40 (a.dom.map T.cells)) ∧ σ.sl 37 = .c (.v (.int .i64 a.dom.length)) ∧ σ.sl 38 = .c (.v (.int .i64 j))) a.dom.length ⟨0, by simp, by simp, H0, H1, s36, s37, s38⟩ ?_
  clear H0 H1 s36 s37 s38 σ
  rintro m σ ⟨j, hm, hp, ⟨s1, s2, s3, s4, o4, s14, s15⟩, ⟨s10, o10, s11, o11, s16⟩, s36, s37, s38⟩
  unfold c1122b0
  by_cases hj : j < a.dom.length
  · have w1 := wrap_succ (i := j) (by omega)
    obtain ⟨d, hd1⟩ := at_of hj
    obtain ⟨_, hd2⟩ := getE hd1
    rw [drop_at hd1, domG] at hp
    have hdo := hok.dom d (List.mem_of_getElem? hd1)
    have hcall := fnClean (p := p.inn j) hb hdo (by show p.more + j ≤ 1000; omega)
    simp [s36, s37, s38, hj, hd2, cells_eq d]
    refine W_dregA ?_
    simp [s11, o11, PL.cells]
    refine CallA.fn (fn1161 p j (by omega)) (by simp [plm, PL.cells, ib]) (by simp) (keys_pl _) ?_
    simp [plm, PL.cells]
    refine CallA.fn hcall (by simp [plm, PL.cells, tm, cells_eq d]) (by simp) rfl ?_
    cases hc : clean (p.inn j) d with
    | false =>
      rw [hc] at hp
      simp [bb]
      refine realC_n ?_
      simp
      exact hR _ (by simpa using hp.symm) (by simp [bb])
    | true =>
      rw [hc] at hp
      simp [bb]
      refine realC_n ?_
      simp [s38, w1]
      exact ⟨m - 1, by omega, j + 1, by omega, by simpa using hp, ⟨by simp [s1], by simp [s2], by simp [s3], by simp [s4], by simp [o4], by simp [s14], by simp [s15]⟩, ⟨by simp [s10], by simp [o10], by simp [s11], by simp [o11, PL.cells], by simp [s16]⟩, by simp [s36], by simp [s37], by simp⟩
  · have : j = a.dom.length := by omega
    subst this
    simp [domG] at hp
    simp [s36, s37, s38]
    exact hQ _ hp ⟨by simp [s1], by simp [s2], by simp [s3], by simp [s4], by simp [o4], by simp [s14], by simp [s15]⟩ ⟨by simp [s10], by simp [o10], by simp [s11], by simp [o11], by simp [s16]⟩
theorem loop1122 {σ : St} {Q : SEx → St → Prop} (b : B) (hb : b.Fit) (base : Int) (l : List A) (hl : l.length ≤ 12) (c : Int) (hf : ∀ a, a ∈ l → a.Fine b) (H : FR0 b base l c σ) (s16 : σ.sl 16 = .c (.v (.int .i64 (0 : Nat))))
    (hR : ∀ σ', rowG b base l c l 0 = false → σ'.sl 8 = bb false → Q .ret σ') (hQ : ∀ σ', rowG b base l c l 0 = true → Q .normal σ') : W Tryz.prog 1122000 (.loop c1122b1) σ (onBlock 0 Q) := by
  refine W_loop (fun m σ => ∃ i : Nat, i + m = l.length ∧ rowG b base l c (l.drop i) i = rowG b base l c l 0 ∧ FR0 b base l c σ ∧ σ.sl 16 = .c (.v (.int .i64 i))) l.length ⟨0, by simp, by simp, H, s16⟩ ?_
  clear H s16 σ
  rintro m σ ⟨i, hm, hp, ⟨s1, s2, s3, s4, o4, s14, s15⟩, s16⟩
  unfold c1122b1
  by_cases hi : i < l.length
  · have w1 := wrap_succ (i := i) (by omega)
    obtain ⟨a, ha⟩ := at_of hi
    obtain ⟨_, ha2⟩ := getE ha
    have haf := hf a (List.mem_of_getElem? ha)
    rw [drop_at ha, rowG] at hp
    simp [s1, s2, s3, s4, o4, s14, s15, s16, hi, ha2, A.cells]
    refine W_dregD w1122_0 f1122_0 (by decide) ?_
    unfold w1122_0 f1122_0
    simp [s1, s2, s3, s4, o4, B.cells, optL]
    refine ⟨⟨by simp [room]; omega, by omega⟩, by simp [keysCs, Cell.keys], realC_n ?_⟩
    have fin : ∀ σ', argG b base l c i a = false → σ'.sl 8 = bb false → Q .ret σ' := fun σ' hb q => hR σ' (by rw [hb] at hp; simpa using hp.symm) q
    have go : argG b base l c i a = true → rowG b base l c (l.drop (i + 1)) (i + 1) = rowG b base l c l 0 := fun hb => by rw [hb] at hp; simpa using hp
    have hpb : (plAt b base l i).b.Fit := hb
    cases hrc : a.rc with
    | false =>
      have hag : argG b base l c i a = clean (plAt b base l i) a.typ := by simp [argG, hrc]
      simp [hrc]
      refine ECall.fn (fnClean hpb haf.ok.typ (by show (0 : Nat) ≤ 1000; omega)) (by simp [plm, PL.cells, plAt, tm, cells_eq, B.cells, List.map_take]) (by simp) rfl fun _ => ?_
      cases hc : clean (plAt b base l i) a.typ with
      | false =>
        simp [bb]
        exact fin _ (by rw [hag, hc]) (by simp [bb])
      | true =>
        simp [bb, s16, w1]
        exact ⟨m - 1, by omega, i + 1, by omega, go (by rw [hag, hc]), ⟨by simp [s1], by simp [s2], by simp [s3], by simp [s4], by simp [o4, B.cells], by simp [s14], by simp [s15]⟩, by simp⟩
    | true =>
      have hag : argG b base l c i a = (domG (plAt b base l i) a.dom 0 && indG ((plAt b base l i).inn a.dom.length) c (sIdx b a.sort) a.idx) := by simp [argG, hrc]
      have hd12 := haf.dom hrc
      obtain ⟨hs0, hs1⟩ := haf.srt hrc
      have hsl := haf.len hrc
      obtain ⟨k, hk⟩ := Int.eq_ofNat_of_zero_le hs0
      obtain ⟨s, hs⟩ := at_of (ts := b.sorts) (i := k) (by omega)
      have hsx : sIdx b a.sort = s.idx := by rw [hk]; simp [sIdx, hs]
      rw [hsx] at hsl hag
      have hind := fn1124 ((plAt b base l i).inn a.dom.length) hb (by show 0 + a.dom.length ≤ 1000; omega) k s hs c a.idx (by omega) haf.ok.idx
      simp [hrc]
      refine loop1122a b base l c (plAt b base l i) hpb rfl a i hd12 haf.ok ⟨by simp [s1], by simp [s2], by simp [s3], by simp [s4], by simp [o4, B.cells], by simp [s14], by simp [s15]⟩ ⟨by simp, by simp [A.cells, hrc], by simp, by simp [plAt, PL.cells, List.map_take], by simp [s16]⟩ (by simp) (by simp) (by simp) (fun σ' e q => ?_) fun σ' e H0 H1 => ?_
      · simp
        exact fin _ (by rw [hag, e]; rfl) q
      clear s1 s2 s3 s4 o4 s14 s15 s16
      obtain ⟨s1, s2, s3, s4, o4, s14, s15⟩ := H0
      obtain ⟨s10, o10, s11, o11, s16⟩ := H1
      simp
      refine W_dregA ?_
      simp [s10, o10, s11, o11, s3, A.cells, PL.cells]
      refine CallA.fn (fn1161 (plAt b base l i) a.dom.length (by show 0 + a.dom.length ≤ 1000000000; omega)) (by simp [plm, PL.cells, ib]) (by simp) (keys_pl _) ?_
      simp [plm, PL.cells, s10, o10, s11, o11, s3, A.cells]
      refine CallA.fn hind (by simp [plm, PL.cells, ib, tms, hk]) (by simp) rfl ?_
      rw [e, Bool.true_and] at hag
      rw [← hag]
      cases hc : argG b base l c i a with
      | false =>
        simp [bb]
        refine realC_n ?_
        simp
        exact fin _ hc (by simp [bb])
      | true =>
        simp [bb]
        refine realC_n ?_
        simp [s16, w1]
        exact ⟨m - 1, by omega, i + 1, by omega, go hc, ⟨by simp [s1], by simp [s2], by simp [s3], by simp [s4], by simp [o4], by simp [s14], by simp [s15]⟩, by simp⟩
  · have : i = l.length := by omega
    subst this
    simp [rowG] at hp
    simp [s15, s16]
    exact hQ _ hp
theorem fn1122 (b : B) (hb : b.Fit) (base : Int) (l : List A) (hl : l.length ≤ 12) (c : Int) (hf : ∀ a, a ∈ l → a.Fine b) : Fn Tryz.prog 122 [bm b, ib base, ams l, ib c] (bb (rowG b base l c l 0)) := by
  refine fn_of (base := 1122000) ok1122 rfl fun σ h0 hr => ?_
  have s0 : σ.sl 0 = bm b := h0 0
  have s1 : σ.sl 1 = .c (.v (.int .i64 base)) := h0 1
  have s2 : σ.sl 2 = ams l := h0 2
  have s3 : σ.sl 3 = .c (.v (.int .i64 c)) := h0 3
  simp only [bm] at s0
  simp only [ams] at s2
  clear h0 hr
  unfold c1122
  simp [s0, s1, s2, s3, B.cells]
  refine loop1122 b hb base l hl c hf ⟨by simp [s1], by simp [s2], by simp [s3], by simp, by simp [B.cells], by simp, by simp⟩ (by simp) (fun σ' e q => ?_) fun σ' e => ?_
  · simp [q, r1122, bb, e]
  · simp [r1122, bb, e]
end Go.Abs

namespace Go.Abs
open Go.Proofs
/-! ### a positive block -/
def sortP (b : B) (base : Int) (s : S) : Bool := rowG b base s.idx 0 s.idx 0 && (!s.dec || clean ⟨b, base, s.idx, 0⟩ s.decType)
def conP (b : B) (base : Int) (c : Nat) (x : K) : Bool :=
  rowG b base x.args c x.args 0 && indG ⟨b, base, x.args, 0⟩ c (sIdx b x.sort) x.idx && (!(sAt b x.sort).dec || clean ⟨b, base, x.args, 0⟩ x.dec)
def conL (b : B) (base : Int) : List K → Nat → Bool
  | [], _ => true
  | x :: r, c => conP b base c x && conL b base r (c + 1)
def B.posit (b : B) (base : Int) : Int :=
  if b.shape ≠ 0 then b.shape else if base < 0 ∨ 65535 < base then 1 else if b.sorts.all (sortP b base) && conL b base b.cons 0 then 0 else 11
theorem rowA_fine {b : B} : ∀ {l : List A} {i : Nat}, rowA b l i = true → (∀ a, a ∈ l → a.Ok) → ∀ a, a ∈ l → a.Fine b
  | [], _, _, _, a, h => by cases h
  | a :: l, i, h, ho, x, hx => by
    rw [rowA, Bool.and_eq_true] at h
    rcases List.mem_cons.1 hx with rfl | hx
    · have h1 := h.1
      have key : x.rc = true → badRec b x = false := fun hrc => by
        unfold A.right at h1
        rw [hrc] at h1
        simp at h1
        exact h1.1.1
      refine ⟨ho x (by simp), fun hrc => ?_, fun hrc => ?_, fun hrc => ?_⟩ <;>
        (have hk := key hrc; simp only [badRec, Bool.or_eq_false_iff, decide_eq_false_iff_not] at hk; omega)
    · exact rowA_fine h.2 (fun a ha => ho a (by simp [ha])) x hx
theorem rowOk_facts {b : B} {l : List A} (h : rowOk b l = true) (ho : ∀ a, a ∈ l → a.Ok) : l.length ≤ 12 ∧ ∀ a, a ∈ l → a.Fine b := by
  unfold rowOk at h
  rw [Bool.and_eq_true] at h
  exact ⟨of_decide_eq_true h.1, rowA_fine h.2 ho⟩
theorem sortsOk_all {b : B} : ∀ {l : List S} {k : Nat}, sortsOk b l k = true → ∀ s, s ∈ l → rowOk b s.idx = true
  | [], _, _, s, h => by cases h
  | s :: l, k, h, x, hx => by
    rw [sortsOk, Bool.and_eq_true] at h
    rcases List.mem_cons.1 hx with rfl | hx
    · have h1 := h.1
      simp only [S.right, Bool.and_eq_true] at h1
      exact h1.1.1.1
    · exact sortsOk_all h.2 x hx
/-- What the form of a block says. -/
structure B.Form (b : B) : Prop where
  ns : b.sorts.length ≤ 4
  nc : b.cons.length ≤ 8
  srt : ∀ s, s ∈ b.sorts → rowOk b s.idx = true
  con : ∀ c, c ∈ b.cons → 0 ≤ c.sort ∧ c.sort < b.sorts.length ∧ rowOk b c.args = true ∧ c.idx.length = (sAt b c.sort).idx.length
theorem shape_form {b : B} (h : b.shape = 0) : b.Form := by
  have hb : b.shapeB = true := by
    unfold B.shape at h
    split at h
    · assumption
    · cases h
  simp only [B.shapeB, Bool.and_eq_true, Bool.not_eq_true', Bool.or_eq_false_iff, decide_eq_false_iff_not] at hb
  obtain ⟨⟨⟨⟨⟨h1, h2⟩, h3⟩, h4⟩, h5⟩, h6⟩ := hb
  refine ⟨by omega, by omega, sortsOk_all h5, fun c hc => ?_⟩
  have := List.all_eq_true.1 h6 c hc
  simp only [K.right, Bool.and_eq_true, Bool.not_eq_true', Bool.or_eq_false_iff, decide_eq_false_iff_not, decide_eq_true_eq] at this
  obtain ⟨⟨⟨⟨⟨q1, q2⟩, q3⟩, q4⟩, q5⟩, q6⟩ := this
  exact ⟨by omega, by omega, q3, q4⟩
theorem B.Form.fit {b : B} (h : b.Form) : b.Fit := by
  refine ⟨fun s hs => ?_, fun c hc => ?_⟩
  · have := h.srt s hs
    unfold rowOk at this
    rw [Bool.and_eq_true] at this
    exact of_decide_eq_true this.1
  · have := (h.con c hc).2.2.1
    unfold rowOk at this
    rw [Bool.and_eq_true] at this
    exact of_decide_eq_true this.1
structure FP (b : B) (base : Int) (σ : St) : Prop where
  s1 : σ.sl 1 = .c (.v (.int .i64 base))
  s2 : σ.sl 2 = .c (.ref 1092002 (σ.tg 1092002) 0)
  o2 : σ.ob 1092002 = some (.box 68 b.cells)
theorem loop1092a {σ : St} {Q : SEx → St → Prop} (b : B) (hF : b.Form) (hO : b.Ok) (base : Int) (H : FP b base σ) (s26 : σ.sl 26 = .c (.sl 6 80 (b.sorts.map S.cells))) (s27 : σ.sl 27 = .c (.v (.int .i64 b.sorts.length))) (s28 : σ.sl 28 = .c (.v (.int .i64 (0 : Nat))))
    (hR : ∀ σ', b.sorts.all (sortP b base) = false → σ'.sl 4 = ib 11 → Q .ret σ') (hQ : ∀ σ', b.sorts.all (sortP b base) = true → FP b base σ' → Q .normal σ') : W Tryz.prog 1092000 (.loop c1092b0) σ (onBlock 1 Q) := by
  have hfit := hF.fit
  refine W_loop (fun m σ => ∃ i : Nat, i + m = b.sorts.length ∧ (b.sorts.drop i).all (sortP b base) = b.sorts.all (sortP b base) ∧ FP b base σ ∧ σ.sl 26 = .c (.sl 6 80 (b.sorts.map S.cells)) ∧ σ.sl 27 = .c (.v (.int .i64 b.sorts.length)) ∧ σ.sl 28 = .c (.v (.int .i64 i))) b.sorts.length ⟨0, by simp, by simp, H, s26, s27, s28⟩ ?_
  clear H s26 s27 s28 σ
  rintro m σ ⟨i, hm, hp, ⟨s1, s2, o2⟩, s26, s27, s28⟩
  unfold c1092b0
  by_cases hi : i < b.sorts.length
  · have hn := hF.ns
    have w1 := wrap_succ (i := i) (by omega)
    obtain ⟨s, hs⟩ := at_of hi
    obtain ⟨_, hs2⟩ := getE hs
    have hsm := List.mem_of_getElem? hs
    have hso := hO.sorts s hsm
    obtain ⟨h12, hfine⟩ := rowOk_facts (hF.srt s hsm) hso.idx
    rw [drop_at hs, List.all_cons] at hp
    have fin : ∀ σ', sortP b base s = false → σ'.sl 4 = ib 11 → Q .ret σ' := fun σ' hb q => hR σ' (by rw [hb] at hp; simpa using hp.symm) q
    have go : sortP b base s = true → (b.sorts.drop (i + 1)).all (sortP b base) = b.sorts.all (sortP b base) := fun hb => by rw [hb] at hp; simpa using hp
    have hcl := fnClean (p := ⟨b, base, s.idx, 0⟩) hfit hso.dec (by show (0 : Nat) ≤ 1000; omega)
    simp [s1, s2, o2, s26, s27, s28, hi, hs2, S.cells, B.cells]
    refine ECall.fn (fn1122 b hfit base s.idx h12 0 hfine) (by simp [bm, B.cells, ib, ams]) (by simp) rfl fun _ => ?_
    cases hr : rowG b base s.idx 0 s.idx 0 with
    | false =>
      cases hd : s.dec with
      | false =>
        simp [bb]
        refine GCall.fn (fun _ => hcl) (by simp [plm, PL.cells, tm, cells_eq]) (by simp) rfl fun _ => ?_
        simp [bb]
        exact fin _ (by simp [sortP, hr]) (by simp [ib])
      | true =>
        simp [bb]
        refine GCall.fn (fun _ => hcl) (by simp [plm, PL.cells, tm, cells_eq]) (by simp) rfl fun _ => ?_
        simp [bb]
        exact fin _ (by simp [sortP, hr]) (by simp [ib])
    | true =>
      cases hd : s.dec with
      | false =>
        simp [bb]
        refine GCall.fn (fun _ => hcl) (by simp [plm, PL.cells, tm, cells_eq]) (by simp) rfl fun _ => ?_
        simp [bb, s28, w1]
        exact ⟨m - 1, by omega, i + 1, by omega, go (by simp [sortP, hr, hd]), ⟨by simp [s1], by simp [s2], by simp [o2, B.cells]⟩, by simp [s26], by simp [s27], by simp⟩
      | true =>
        simp [bb]
        refine GCall.fn (fun _ => hcl) (by simp [plm, PL.cells, tm, cells_eq]) (by simp) rfl fun _ => ?_
        cases hc : clean ⟨b, base, s.idx, 0⟩ s.decType with
        | false =>
          simp [bb]
          exact fin _ (by simp [sortP, hr, hd, hc]) (by simp [ib])
        | true =>
          simp [bb, s28, w1]
          exact ⟨m - 1, by omega, i + 1, by omega, go (by simp [sortP, hr, hd, hc]), ⟨by simp [s1], by simp [s2], by simp [o2, B.cells]⟩, by simp [s26], by simp [s27], by simp⟩
  · have : i = b.sorts.length := by omega
    subst this
    simp at hp
    simp [s26, s27, s28]
    exact hQ _ (by simpa using hp) ⟨by simp [s1], by simp [s2], by simp [o2]⟩
theorem loop1092b {σ : St} {Q : SEx → St → Prop} (b : B) (hF : b.Form) (hO : b.Ok) (base : Int) (H : FP b base σ) (s56 : σ.sl 56 = .c (.sl 6 96 (b.cons.map K.cells))) (s57 : σ.sl 57 = .c (.v (.int .i64 b.cons.length))) (s58 : σ.sl 58 = .c (.v (.int .i64 (0 : Nat))))
    (hR : ∀ σ', conL b base b.cons 0 = false → σ'.sl 4 = ib 11 → Q .ret σ') (hQ : ∀ σ', conL b base b.cons 0 = true → Q .normal σ') : W Tryz.prog 1092000 (.loop c1092b1) σ (onBlock 3 Q) := by
  have hfit := hF.fit
  refine W_loop (fun m σ => ∃ i : Nat, i + m = b.cons.length ∧ conL b base (b.cons.drop i) i = conL b base b.cons 0 ∧ FP b base σ ∧ σ.sl 56 = .c (.sl 6 96 (b.cons.map K.cells)) ∧ σ.sl 57 = .c (.v (.int .i64 b.cons.length)) ∧ σ.sl 58 = .c (.v (.int .i64 i))) b.cons.length ⟨0, by simp, by simp, H, s56, s57, s58⟩ ?_
  clear H s56 s57 s58 σ
  rintro m σ ⟨i, hm, hp, ⟨s1, s2, o2⟩, s56, s57, s58⟩
  unfold c1092b1
  by_cases hi : i < b.cons.length
  · have hn := hF.nc
    have w1 := wrap_succ (i := i) (by omega)
    obtain ⟨x, hx⟩ := at_of hi
    obtain ⟨_, hx2⟩ := getE hx
    have hxm := List.mem_of_getElem? hx
    have hxo := hO.cons x hxm
    obtain ⟨q0, q1, q2, q3⟩ := hF.con x hxm
    obtain ⟨h12, hfine⟩ := rowOk_facts q2 hxo.args
    obtain ⟨k, hk⟩ := Int.eq_ofNat_of_zero_le q0
    obtain ⟨s, hs⟩ := at_of (ts := b.sorts) (i := k) (by omega)
    obtain ⟨hkl, hs2⟩ := getE hs
    have hsx : sIdx b x.sort = s.idx := by rw [hk]; simp [sIdx, hs]
    have hsa : sAt b x.sort = s := by rw [hk]; simp [sAt, hs]
    rw [hsa] at q3
    rw [drop_at hx, conL] at hp
    have fin : ∀ σ', conP b base i x = false → σ'.sl 4 = ib 11 → Q .ret σ' := fun σ' hb q => hR σ' (by rw [hb] at hp; simpa using hp.symm) q
    have go : conP b base i x = true → conL b base (b.cons.drop (i + 1)) (i + 1) = conL b base b.cons 0 := fun hb => by rw [hb] at hp; simpa using hp
    have hdef : conP b base i x = (rowG b base x.args i x.args 0 && indG ⟨b, base, x.args, 0⟩ i s.idx x.idx && (!s.dec || clean ⟨b, base, x.args, 0⟩ x.dec)) := by simp only [conP, hsx, hsa]
    have hcl := fnClean (p := ⟨b, base, x.args, 0⟩) hfit hxo.dec (by show (0 : Nat) ≤ 1000; omega)
    have hin := fn1124 ⟨b, base, x.args, 0⟩ hfit (by show (0 : Nat) ≤ 1000; omega) k s hs i x.idx (by omega) hxo.idx
    have hrw := fn1122 b hfit base x.args h12 i hfine
    generalize rowG b base x.args i x.args 0 = z1 at *
    generalize indG ⟨b, base, x.args, 0⟩ i s.idx x.idx = z2 at *
    generalize clean ⟨b, base, x.args, 0⟩ x.dec = z3 at *
    simp [s1, s2, o2, s56, s57, s58, hi, hx2, K.cells, B.cells]
    refine ECall.fn hrw (by simp [bm, B.cells, ib, ams]) (by simp) rfl fun _ => ?_
    simp [bb]
    refine GCall.fn (fun _ => hin) (by simp [plm, PL.cells, ib, tms, hk]) (by simp) rfl fun _ => ?_
    cases z1 with
    | false =>
      cases hd : s.dec <;>
      · simp [s1, s2, o2, B.cells, bb, hk, hkl, hs2, S.cells, hd]
        refine GCall.fn (fun _ => hcl) (by simp [plm, PL.cells, tm, cells_eq]) (by simp) rfl fun _ => ?_
        simp [bb]
        exact fin _ (by rw [hdef]; simp) (by simp [ib])
    | true =>
      cases z2 with
      | false =>
        cases hd : s.dec <;>
        · simp [s1, s2, o2, B.cells, bb, hk, hkl, hs2, S.cells, hd]
          refine GCall.fn (fun _ => hcl) (by simp [plm, PL.cells, tm, cells_eq]) (by simp) rfl fun _ => ?_
          simp [bb]
          exact fin _ (by rw [hdef]; simp) (by simp [ib])
      | true =>
        cases hd : s.dec with
        | false =>
          simp [s1, s2, o2, B.cells, bb, hk, hkl, hs2, S.cells, hd]
          refine GCall.fn (fun _ => hcl) (by simp [plm, PL.cells, tm, cells_eq]) (by simp) rfl fun _ => ?_
          simp [bb, s58, w1]
          exact ⟨m - 1, by omega, i + 1, by omega, go (by rw [hdef, hd]; simp), ⟨by simp [s1], by simp [s2], by simp [o2, B.cells]⟩, by simp [s56], by simp [s57], by simp⟩
        | true =>
          simp [s1, s2, o2, B.cells, bb, hk, hkl, hs2, S.cells, hd]
          refine GCall.fn (fun _ => hcl) (by simp [plm, PL.cells, tm, cells_eq]) (by simp) rfl fun _ => ?_
          cases z3 with
          | false =>
            simp [bb]
            exact fin _ (by rw [hdef, hd]; simp) (by simp [ib])
          | true =>
            simp [bb, s58, w1]
            exact ⟨m - 1, by omega, i + 1, by omega, go (by rw [hdef, hd]; simp), ⟨by simp [s1], by simp [s2], by simp [o2, B.cells]⟩, by simp [s56], by simp [s57], by simp⟩
  · have : i = b.cons.length := by omega
    subst this
    simp [conL] at hp
    simp [s56, s57, s58]
    exact hQ _ hp
theorem fn1092 (b : B) (base : Int) (hO : b.Ok) : Fn Tryz.prog 92 [bm b, ib base] (ib (b.posit base)) := by
  refine fn_of (base := 1092000) ok1092 rfl fun σ h0 hr => ?_
  have s0 : σ.sl 0 = bm b := h0 0
  have s1 : σ.sl 1 = .c (.v (.int .i64 base)) := h0 1
  simp only [bm] at s0
  clear h0 hr
  unfold c1092
  simp [s0, s1, B.cells]
  refine ECall.fn (fn1121 b) (by simp [bm, B.cells]) (by simp) rfl fun _ => ?_
  by_cases hsh : b.shape = 0
  · have hF := shape_form hsh
    by_cases c1 : base < 0
    · simp [s1, ib, hsh, c1, r1092, B.posit]
    · by_cases c2 : 65535 < base
      · simp [s1, ib, hsh, c1, c2, r1092, B.posit]
      · have hdef : b.posit base = if b.sorts.all (sortP b base) && conL b base b.cons 0 then 0 else 11 := by
          unfold B.posit
          rw [if_neg (by simp [hsh]), if_neg (by omega)]
        rw [hdef]
        generalize hz1 : b.sorts.all (sortP b base) = z1
        generalize hz2 : conL b base b.cons 0 = z2
        simp [s1, ib, hsh, c1, c2]
        refine loop1092a b hF hO base ⟨by simp [s1], by simp, by simp [B.cells]⟩ (by simp) (by simp) (by simp) (fun σ' e q => ?_) fun σ' e H => ?_
        · rw [hz1] at e; subst e
          simp [q, r1092, ib]
        rw [hz1] at e; subst e
        obtain ⟨q1, q2, o2⟩ := H
        simp [q1, q2, o2, B.cells]
        refine loop1092b b hF hO base ⟨by simp [q1], by simp [q2], by simp [o2, B.cells]⟩ (by simp) (by simp) (by simp) (fun σ'' e q => ?_) fun σ'' e => ?_
        · rw [hz2] at e; subst e
          simp [q, r1092, ib]
        · rw [hz2] at e; subst e
          simp [r1092, ib]
  · simp [s1, ib, hsh, r1092, B.posit]
end Go.Abs

namespace Go.Abs
/- slices.Max[[]int,int] -/
def c1126b0 : SCode :=
 .seq (.seq (.reg
 [⟨some 12, none, .mv (.t 4)⟩,
 ⟨some 13, none, .mv (.t 0)⟩,
 ⟨some 14, none, .len 24 (.t 13)⟩,
 ⟨some 15, none, .bin .lss (.t 12) (.t 14)⟩])
 (.cond (.t 15)
 (.skip)
 (.exit 0)))
 (.seq (.block 1 (.reg
 [⟨some 18, none, .mv (.t 3)⟩,
 ⟨some 19, none, .mv (.t 0)⟩,
 ⟨some 20, none, .mv (.t 4)⟩,
 ⟨some 21, none, .iad 3 1 (.t 19) (.t 20)⟩,
 ⟨some 22, none, .ld1 3 (.t 21)⟩,
 ⟨some 23, none, .best true [.t 18, .t 22]⟩,
 ⟨some 3, none, .mv (.t 23)⟩]))
 (.reg
 [⟨some 16, none, .mv (.t 4)⟩,
 ⟨some 17, none, .bin .add (.t 16) (.k (.int .i64 1))⟩,
 ⟨some 4, none, .mv (.t 17)⟩]))
def c1126 : SCode :=
 .seq (.reg
 [⟨some 2, none, .mv (.k (.int .i64 0))⟩])
 (.seq (.seq (.reg
 [⟨some 5, none, .mv (.t 0)⟩,
 ⟨some 6, none, .len 24 (.t 5)⟩,
 ⟨some 7, none, .bin .lss (.t 6) (.k (.int .i64 1))⟩])
 (.cond (.t 7)
 (.reg
 [⟨some 8, none, .mki 9 (.k (.string ⟨#[115, 108, 105, 99, 101, 115, 46, 77, 97, 120, 58, 32, 101, 109, 112, 116, 121, 32, 108, 105, 115, 116]⟩))⟩,
 ⟨none, none, .pan (.t 8)⟩])
 (.skip)))
 (.seq (.reg
 [⟨some 9, none, .mv (.t 0)⟩,
 ⟨some 10, none, .iad 3 1 (.t 9) (.k (.int .i64 0))⟩,
 ⟨some 11, none, .ld1 3 (.t 10)⟩,
 ⟨some 3, none, .mv (.t 11)⟩])
 (.seq (.seq (.reg
 [⟨some 4, none, .mv (.k (.int .i64 1))⟩])
 (.block 0 (.loop c1126b0)))
 (.seq (.reg
 [⟨some 24, none, .mv (.t 3)⟩,
 ⟨some 2, none, .mv (.t 24)⟩])
 (.ret)))))
def r1126 : List RR := [.t 2]
theorem ok1126 : okFn Go.Proofs.Tryz.prog 126 25 c1126 r1126 1 = true := by kernel_rfl
/- porism/shape.termsOf -/
def c1125b0 : SCode :=
 .seq (.reg
 [⟨some 9, none, .bin .lss (.t 8) (.t 7)⟩])
 (.seq (.cond (.t 9)
 (.skip)
 (.exit 0))
 (.seq (.block 1 (.seq (.reg
 [⟨some 10, none, .iad 126 7 (.t 6) (.t 8)⟩,
 ⟨some 11, none, .ldn 126 7 (.t 10)⟩,
 ⟨some 5, none, .alloc 126 [.v (.bool false), .v (.int .i64 0), .v (.int .i64 0), .cap 3 40 [], .cap 3 40 [], .v (.int .i64 0), .cap 3 40 []]⟩,
 ⟨none, none, .stn 126 7 (.t 5) (.t 11)⟩])
 (.dreg [0, 0, 2, 6, 15, 0, 32, 127, 0, 256, 1023, 2047]
 [⟨some 12, none, .mv (.t 3)⟩,
 ⟨some 13, none, .fad 126 1 1 (.t 5)⟩,
 ⟨some 14, none, .ldn 63 3 (.t 13)⟩,
 ⟨some 15, none, .lit 63 3 40 [.t 14]⟩,
 ⟨some 16, none, .app 63 3 40 (.t 12) (.t 15)⟩,
 ⟨some 17, none, .fad 126 2 4 (.t 5)⟩,
 ⟨some 18, none, .ld1 61 (.t 17)⟩,
 ⟨some 19, none, .app 63 3 40 (.t 16) (.t 18)⟩,
 ⟨some 20, none, .fad 126 4 6 (.t 5)⟩,
 ⟨some 21, none, .ld1 61 (.t 20)⟩,
 ⟨some 22, none, .app 63 3 40 (.t 19) (.t 21)⟩,
 ⟨some 3, none, .mv (.t 22)⟩])))
 (.reg
 [⟨some 23, none, .bin .add (.t 8) (.k (.int .i64 1))⟩,
 ⟨some 8, none, .mv (.t 23)⟩])))
def c1125 : SCode :=
 .seq (.reg
 [⟨some 2, none, .mv (.nil 3 40)⟩])
 (.seq (.reg
 [⟨some 3, none, .mv (.nil 3 40)⟩])
 (.seq (.seq (.reg
 [⟨some 6, none, .mv (.t 0)⟩,
 ⟨some 7, none, .len 102 (.t 6)⟩,
 ⟨some 8, none, .mv (.k (.int .i64 0))⟩])
 (.block 0 (.loop c1125b0)))
 (.seq (.reg
 [⟨some 24, none, .mv (.t 3)⟩,
 ⟨some 2, none, .mv (.t 24)⟩])
 (.ret))))
def r1125 : List RR := [.t 2]
theorem ok1125 : okFn Go.Proofs.Tryz.prog 125 25 c1125 r1125 1 = true := by kernel_rfl
/- porism/shape.Names -/
def c1093b0 : SCode :=
 .seq (.reg
 [⟨some 15, none, .bin .lss (.t 14) (.t 13)⟩])
 (.seq (.cond (.t 15)
 (.skip)
 (.exit 0))
 (.seq (.block 1 (.seq (.reg
 [⟨some 16, none, .iad 104 6 (.t 12) (.t 14)⟩,
 ⟨some 17, none, .ldn 104 6 (.t 16)⟩,
 ⟨some 5, none, .alloc 104 [.cap 7 104 [], .v (.int .i64 0), .v (.bool false), .v (.int .i64 0), .v (.int .i64 0), .cap 3 40 []]⟩,
 ⟨none, none, .stn 104 6 (.t 5) (.t 17)⟩])
 (.dreg [0, 0, 2, 6, 15, 0, 32, 127, 255, 511]
 [⟨some 18, none, .mv (.t 3)⟩,
 ⟨some 19, none, .fad 104 3 3 (.t 5)⟩,
 ⟨some 20, none, .ldn 63 3 (.t 19)⟩,
 ⟨some 21, none, .lit 63 3 40 [.t 20]⟩,
 ⟨some 22, none, .app 63 3 40 (.t 18) (.t 21)⟩,
 ⟨some 23, none, .fad 104 0 0 (.t 5)⟩,
 ⟨some 24, none, .ld1 102 (.t 23)⟩,
 ⟨some 25, none, .call (.f 125) [.t 24]⟩,
 ⟨some 26, none, .app 63 3 40 (.t 22) (.t 25)⟩,
 ⟨some 3, none, .mv (.t 26)⟩])))
 (.reg
 [⟨some 27, none, .bin .add (.t 14) (.k (.int .i64 1))⟩,
 ⟨some 14, none, .mv (.t 27)⟩])))
def c1093b1 : SCode :=
 .seq (.reg
 [⟨some 32, none, .bin .lss (.t 31) (.t 30)⟩])
 (.seq (.cond (.t 32)
 (.skip)
 (.exit 2))
 (.seq (.block 3 (.seq (.reg
 [⟨some 33, none, .iad 106 6 (.t 29) (.t 31)⟩,
 ⟨some 34, none, .ldn 106 6 (.t 33)⟩,
 ⟨some 7, none, .alloc 106 [.v (.int .i64 0), .cap 7 104 [], .cap 3 40 [], .v (.int .i64 0), .v (.int .i64 0), .cap 3 40 []]⟩,
 ⟨none, none, .stn 106 6 (.t 7) (.t 34)⟩])
 (.dreg [0, 0, 2, 6, 15, 0, 32, 127, 0, 256, 1023, 2047, 4095]
 [⟨some 35, none, .mv (.t 3)⟩,
 ⟨some 36, none, .fad 106 3 3 (.t 7)⟩,
 ⟨some 37, none, .ldn 63 3 (.t 36)⟩,
 ⟨some 38, none, .lit 63 3 40 [.t 37]⟩,
 ⟨some 39, none, .app 63 3 40 (.t 35) (.t 38)⟩,
 ⟨some 40, none, .fad 106 2 2 (.t 7)⟩,
 ⟨some 41, none, .ld1 61 (.t 40)⟩,
 ⟨some 42, none, .app 63 3 40 (.t 39) (.t 41)⟩,
 ⟨some 43, none, .fad 106 1 1 (.t 7)⟩,
 ⟨some 44, none, .ld1 102 (.t 43)⟩,
 ⟨some 45, none, .call (.f 125) [.t 44]⟩,
 ⟨some 46, none, .app 63 3 40 (.t 42) (.t 45)⟩,
 ⟨some 3, none, .mv (.t 46)⟩])))
 (.reg
 [⟨some 47, none, .bin .add (.t 31) (.k (.int .i64 1))⟩,
 ⟨some 31, none, .mv (.t 47)⟩])))
def c1093b2 : SCode :=
 .seq (.reg
 [⟨some 51, none, .bin .lss (.t 50) (.t 49)⟩])
 (.seq (.cond (.t 51)
 (.skip)
 (.exit 4))
 (.seq (.block 5 (.seq (.reg
 [⟨some 52, none, .iad 63 3 (.t 48) (.t 50)⟩,
 ⟨some 53, none, .ldn 63 3 (.t 52)⟩,
 ⟨some 10, none, .alloc 63 [.v (.int .i64 0), .v (.int .i64 0), .cap 3 40 []]⟩,
 ⟨none, none, .stn 63 3 (.t 10) (.t 53)⟩])
 (.reg
 [⟨some 54, none, .mv (.t 8)⟩,
 ⟨some 55, none, .ldn 63 3 (.t 10)⟩,
 ⟨some 56, none, .call (.f 61) [.t 55]⟩,
 ⟨some 57, none, .lit 3 1 8 [.k (.int .i64 (-1))]⟩,
 ⟨some 58, none, .app 3 1 8 (.t 56) (.t 57)⟩,
 ⟨some 59, none, .call (.f 126) [.t 58]⟩,
 ⟨some 60, none, .best true [.t 54, .t 59]⟩,
 ⟨some 8, none, .mv (.t 60)⟩])))
 (.reg
 [⟨some 61, none, .bin .add (.t 50) (.k (.int .i64 1))⟩,
 ⟨some 50, none, .mv (.t 61)⟩])))
def c1093 : SCode :=
 .seq (.reg
 [⟨some 1, none, .box 68 (.t 0)⟩,
 ⟨some 2, none, .mv (.k (.int .i64 0))⟩])
 (.seq (.reg
 [⟨some 3, none, .mv (.nil 3 40)⟩])
 (.seq (.seq (.reg
 [⟨some 11, none, .fad 68 0 0 (.t 1)⟩,
 ⟨some 12, none, .ld1 65 (.t 11)⟩,
 ⟨some 13, none, .len 65 (.t 12)⟩,
 ⟨some 14, none, .mv (.k (.int .i64 0))⟩])
 (.block 0 (.loop c1093b0)))
 (.seq (.seq (.reg
 [⟨some 28, none, .fad 68 1 1 (.t 1)⟩,
 ⟨some 29, none, .ld1 66 (.t 28)⟩,
 ⟨some 30, none, .len 66 (.t 29)⟩,
 ⟨some 31, none, .mv (.k (.int .i64 0))⟩])
 (.block 2 (.loop c1093b1)))
 (.seq (.reg
 [⟨some 8, none, .mv (.k (.int .i64 (-1)))⟩])
 (.seq (.seq (.reg
 [⟨some 48, none, .mv (.t 3)⟩,
 ⟨some 49, none, .len 61 (.t 48)⟩,
 ⟨some 50, none, .mv (.k (.int .i64 0))⟩])
 (.block 4 (.loop c1093b2)))
 (.seq (.reg
 [⟨some 62, none, .mv (.t 8)⟩,
 ⟨some 2, none, .mv (.t 62)⟩])
 (.ret)))))))
def r1093 : List RR := [.t 2]
theorem ok1093 : okFn Go.Proofs.Tryz.prog 93 63 c1093 r1093 1 = true := by kernel_rfl
/- porism/rule.known -/
def c1054 : SCode :=
 .seq (.reg
 [⟨some 2, none, .box 68 (.t 0)⟩,
 ⟨some 4, none, .mv (.k (.bool false))⟩])
 (.seq (.dreg [0, 0, 3, 7, 15, 31, 63, 31, 31, 383, 1023, 2047, 4095, 8191]
 [⟨some 5, none, .ldn 68 3 (.t 2)⟩,
 ⟨some 6, none, .mv (.t 1)⟩,
 ⟨some 7, none, .call (.f 92) [.t 5, .t 6]⟩,
 ⟨some 8, none, .bin .eql (.t 7) (.k (.int .i64 0))⟩,
 ⟨some 9, none, .mv (.t 8)⟩,
 ⟨some 10, some (9, true), .ldn 68 3 (.t 2)⟩,
 ⟨some 11, some (9, true), .call (.f 93) [.t 10]⟩,
 ⟨some 12, some (9, true), .mv (.t 1)⟩,
 ⟨some 13, some (9, true), .ldn 68 3 (.t 2)⟩,
 ⟨some 14, some (9, true), .call (.f 94) [.t 13]⟩,
 ⟨some 15, some (9, true), .bin .add (.t 12) (.t 14)⟩,
 ⟨some 16, some (9, true), .bin .lss (.t 11) (.t 15)⟩,
 ⟨some 17, none, .pick (.t 9) (.t 16) (.k (.bool false))⟩,
 ⟨some 4, none, .mv (.t 17)⟩])
 (.ret))
def r1054 : List RR := [.t 4]
theorem ok1054 : okFn Go.Proofs.Tryz.prog 54 18 c1054 r1054 2 = true := by kernel_rfl
/- porism/porismlaw07.heavyArgs -/
def c1059b0 : SCode :=
 .seq (.seq (.reg
 [⟨some 7, none, .mv (.t 3)⟩,
 ⟨some 8, none, .mv (.t 0)⟩,
 ⟨some 9, none, .len 102 (.t 8)⟩,
 ⟨some 10, none, .bin .lss (.t 7) (.t 9)⟩])
 (.cond (.t 10)
 (.skip)
 (.exit 0)))
 (.seq (.block 1 (.seq (.reg
 [⟨some 13, none, .mv (.t 0)⟩,
 ⟨some 14, none, .mv (.t 3)⟩,
 ⟨some 15, none, .iad 126 7 (.t 13) (.t 14)⟩,
 ⟨some 16, none, .fad 126 1 1 (.t 15)⟩,
 ⟨some 17, none, .ldn 63 3 (.t 16)⟩,
 ⟨some 18, none, .lit 63 3 40 [.t 17]⟩,
 ⟨some 19, none, .call (.f 35) [.t 18]⟩,
 ⟨some 20, none, .mv (.t 19)⟩,
 ⟨some 21, some (20, false), .mv (.t 0)⟩,
 ⟨some 22, some (20, false), .mv (.t 3)⟩,
 ⟨some 23, some (20, false), .iad 126 7 (.t 21) (.t 22)⟩,
 ⟨some 24, some (20, false), .fad 126 2 4 (.t 23)⟩,
 ⟨some 25, some (20, false), .ld1 61 (.t 24)⟩,
 ⟨some 26, some (20, false), .call (.f 35) [.t 25]⟩,
 ⟨some 27, none, .pick (.t 20) (.k (.bool true)) (.t 26)⟩,
 ⟨some 28, none, .mv (.t 27)⟩,
 ⟨some 29, some (28, false), .mv (.t 0)⟩,
 ⟨some 30, some (28, false), .mv (.t 3)⟩,
 ⟨some 31, some (28, false), .iad 126 7 (.t 29) (.t 30)⟩,
 ⟨some 32, some (28, false), .fad 126 4 6 (.t 31)⟩,
 ⟨some 33, some (28, false), .ld1 61 (.t 32)⟩,
 ⟨some 34, some (28, false), .call (.f 35) [.t 33]⟩,
 ⟨some 35, none, .pick (.t 28) (.k (.bool true)) (.t 34)⟩])
 (.cond (.t 35)
 (.seq (.reg
 [⟨some 2, none, .mv (.k (.bool true))⟩])
 (.ret))
 (.skip))))
 (.reg
 [⟨some 11, none, .mv (.t 3)⟩,
 ⟨some 12, none, .bin .add (.t 11) (.k (.int .i64 1))⟩,
 ⟨some 3, none, .mv (.t 12)⟩]))
def c1059 : SCode :=
 .seq (.reg
 [⟨some 2, none, .mv (.k (.bool false))⟩])
 (.seq (.seq (.reg
 [⟨some 4, none, .mv (.t 0)⟩,
 ⟨some 5, none, .len 102 (.t 4)⟩,
 ⟨some 6, none, .bin .gtr (.t 5) (.k (.int .i64 20))⟩])
 (.cond (.t 6)
 (.seq (.reg
 [⟨some 2, none, .mv (.k (.bool true))⟩])
 (.ret))
 (.skip)))
 (.seq (.seq (.reg
 [⟨some 3, none, .mv (.k (.int .i64 0))⟩])
 (.block 0 (.loop c1059b0)))
 (.seq (.reg
 [⟨some 2, none, .mv (.k (.bool false))⟩])
 (.ret))))
def r1059 : List RR := [.t 2]
theorem ok1059 : okFn Go.Proofs.Tryz.prog 59 36 c1059 r1059 1 = true := by kernel_rfl
/- porism/porismlaw07.Heavy -/
def c1036b0 : SCode :=
 .seq (.seq (.reg
 [⟨some 15, none, .mv (.t 3)⟩,
 ⟨some 16, none, .fad 68 0 0 (.t 1)⟩,
 ⟨some 17, none, .ld1 65 (.t 16)⟩,
 ⟨some 18, none, .len 65 (.t 17)⟩,
 ⟨some 19, none, .bin .lss (.t 15) (.t 18)⟩])
 (.cond (.t 19)
 (.skip)
 (.exit 0)))
 (.seq (.block 1 (.seq (.reg
 [⟨some 22, none, .fad 68 0 0 (.t 1)⟩,
 ⟨some 23, none, .ld1 65 (.t 22)⟩,
 ⟨some 24, none, .mv (.t 3)⟩,
 ⟨some 25, none, .iad 104 6 (.t 23) (.t 24)⟩,
 ⟨some 26, none, .fad 104 0 0 (.t 25)⟩,
 ⟨some 27, none, .ld1 102 (.t 26)⟩,
 ⟨some 28, none, .call (.f 59) [.t 27]⟩,
 ⟨some 29, none, .mv (.t 28)⟩,
 ⟨some 30, some (29, false), .fad 68 0 0 (.t 1)⟩,
 ⟨some 31, some (29, false), .ld1 65 (.t 30)⟩,
 ⟨some 32, some (29, false), .mv (.t 3)⟩,
 ⟨some 33, some (29, false), .iad 104 6 (.t 31) (.t 32)⟩,
 ⟨some 34, some (29, false), .fad 104 3 3 (.t 33)⟩,
 ⟨some 35, some (29, false), .ldn 63 3 (.t 34)⟩,
 ⟨some 36, some (29, false), .lit 63 3 40 [.t 35]⟩,
 ⟨some 37, some (29, false), .call (.f 35) [.t 36]⟩,
 ⟨some 38, none, .pick (.t 29) (.k (.bool true)) (.t 37)⟩])
 (.cond (.t 38)
 (.seq (.reg
 [⟨some 2, none, .mv (.k (.bool true))⟩])
 (.ret))
 (.skip))))
 (.reg
 [⟨some 20, none, .mv (.t 3)⟩,
 ⟨some 21, none, .bin .add (.t 20) (.k (.int .i64 1))⟩,
 ⟨some 3, none, .mv (.t 21)⟩]))
def c1036b1 : SCode :=
 .seq (.seq (.reg
 [⟨some 39, none, .mv (.t 4)⟩,
 ⟨some 40, none, .fad 68 1 1 (.t 1)⟩,
 ⟨some 41, none, .ld1 66 (.t 40)⟩,
 ⟨some 42, none, .len 66 (.t 41)⟩,
 ⟨some 43, none, .bin .lss (.t 39) (.t 42)⟩])
 (.cond (.t 43)
 (.skip)
 (.exit 2)))
 (.seq (.block 3 (.seq (.reg
 [⟨some 46, none, .fad 68 1 1 (.t 1)⟩,
 ⟨some 47, none, .ld1 66 (.t 46)⟩,
 ⟨some 48, none, .mv (.t 4)⟩,
 ⟨some 49, none, .iad 106 6 (.t 47) (.t 48)⟩,
 ⟨some 50, none, .fad 106 1 1 (.t 49)⟩,
 ⟨some 51, none, .ld1 102 (.t 50)⟩,
 ⟨some 52, none, .call (.f 59) [.t 51]⟩,
 ⟨some 53, none, .mv (.t 52)⟩,
 ⟨some 54, some (53, false), .fad 68 1 1 (.t 1)⟩,
 ⟨some 55, some (53, false), .ld1 66 (.t 54)⟩,
 ⟨some 56, some (53, false), .mv (.t 4)⟩,
 ⟨some 57, some (53, false), .iad 106 6 (.t 55) (.t 56)⟩,
 ⟨some 58, some (53, false), .fad 106 2 2 (.t 57)⟩,
 ⟨some 59, some (53, false), .ld1 61 (.t 58)⟩,
 ⟨some 60, some (53, false), .call (.f 35) [.t 59]⟩,
 ⟨some 61, none, .pick (.t 53) (.k (.bool true)) (.t 60)⟩,
 ⟨some 62, none, .mv (.t 61)⟩,
 ⟨some 63, some (62, false), .fad 68 1 1 (.t 1)⟩,
 ⟨some 64, some (62, false), .ld1 66 (.t 63)⟩,
 ⟨some 65, some (62, false), .mv (.t 4)⟩,
 ⟨some 66, some (62, false), .iad 106 6 (.t 64) (.t 65)⟩,
 ⟨some 67, some (62, false), .fad 106 3 3 (.t 66)⟩,
 ⟨some 68, some (62, false), .ldn 63 3 (.t 67)⟩,
 ⟨some 69, some (62, false), .lit 63 3 40 [.t 68]⟩,
 ⟨some 70, some (62, false), .call (.f 35) [.t 69]⟩,
 ⟨some 71, none, .pick (.t 62) (.k (.bool true)) (.t 70)⟩])
 (.cond (.t 71)
 (.seq (.reg
 [⟨some 2, none, .mv (.k (.bool true))⟩])
 (.ret))
 (.skip))))
 (.reg
 [⟨some 44, none, .mv (.t 4)⟩,
 ⟨some 45, none, .bin .add (.t 44) (.k (.int .i64 1))⟩,
 ⟨some 4, none, .mv (.t 45)⟩]))
def c1036 : SCode :=
 .seq (.reg
 [⟨some 1, none, .box 68 (.t 0)⟩,
 ⟨some 2, none, .mv (.k (.bool false))⟩])
 (.seq (.seq (.reg
 [⟨some 5, none, .fad 68 0 0 (.t 1)⟩,
 ⟨some 6, none, .ld1 65 (.t 5)⟩,
 ⟨some 7, none, .len 65 (.t 6)⟩,
 ⟨some 8, none, .bin .gtr (.t 7) (.k (.int .i64 10))⟩,
 ⟨some 9, none, .mv (.t 8)⟩,
 ⟨some 10, some (9, false), .fad 68 1 1 (.t 1)⟩,
 ⟨some 11, some (9, false), .ld1 66 (.t 10)⟩,
 ⟨some 12, some (9, false), .len 66 (.t 11)⟩,
 ⟨some 13, some (9, false), .bin .gtr (.t 12) (.k (.int .i64 20))⟩,
 ⟨some 14, none, .pick (.t 9) (.k (.bool true)) (.t 13)⟩])
 (.cond (.t 14)
 (.seq (.reg
 [⟨some 2, none, .mv (.k (.bool true))⟩])
 (.ret))
 (.skip)))
 (.seq (.seq (.reg
 [⟨some 3, none, .mv (.k (.int .i64 0))⟩])
 (.block 0 (.loop c1036b0)))
 (.seq (.seq (.reg
 [⟨some 4, none, .mv (.k (.int .i64 0))⟩])
 (.block 2 (.loop c1036b1)))
 (.seq (.reg
 [⟨some 2, none, .mv (.k (.bool false))⟩])
 (.ret)))))
def r1036 : List RR := [.t 2]
theorem ok1036 : okFn Go.Proofs.Tryz.prog 36 72 c1036 r1036 1 = true := by kernel_rfl
/- porism/porismlaw14.HeavyEnv -/
def c1016b0 : SCode :=
 .seq (.seq (.reg
 [⟨some 8, none, .mv (.t 4)⟩,
 ⟨some 9, none, .mv (.t 0)⟩,
 ⟨some 10, none, .len 37 (.t 9)⟩,
 ⟨some 11, none, .bin .lss (.t 8) (.t 10)⟩])
 (.cond (.t 11)
 (.skip)
 (.exit 0)))
 (.seq (.block 1 (.seq (.seq (.dreg [0, 0, 3, 7, 15, 0, 0, 96, 224, 480, 1023, 2047, 4095, 8191, 8191, 32767, 65535, 131071, 262143, 524287]
 [⟨some 14, none, .mv (.t 0)⟩,
 ⟨some 15, none, .mv (.t 4)⟩,
 ⟨some 16, none, .iad 70 12 (.t 14) (.t 15)⟩,
 ⟨some 17, none, .fad 70 1 1 (.t 16)⟩,
 ⟨some 18, none, .ldn 63 3 (.t 17)⟩,
 ⟨some 19, none, .mv (.t 0)⟩,
 ⟨some 20, none, .mv (.t 4)⟩,
 ⟨some 21, none, .iad 70 12 (.t 19) (.t 20)⟩,
 ⟨some 22, none, .fad 70 2 4 (.t 21)⟩,
 ⟨some 23, none, .ldn 63 3 (.t 22)⟩,
 ⟨some 24, none, .lit 63 3 40 [.t 18, .t 23]⟩,
 ⟨some 25, none, .call (.f 35) [.t 24]⟩,
 ⟨some 26, none, .mv (.t 25)⟩,
 ⟨some 27, some (26, false), .mv (.t 0)⟩,
 ⟨some 28, some (26, false), .mv (.t 4)⟩,
 ⟨some 29, some (26, false), .iad 70 12 (.t 27) (.t 28)⟩,
 ⟨some 30, some (26, false), .fad 70 5 9 (.t 29)⟩,
 ⟨some 31, some (26, false), .ldn 68 3 (.t 30)⟩,
 ⟨some 32, some (26, false), .call (.f 36) [.t 31]⟩,
 ⟨some 33, none, .pick (.t 26) (.k (.bool true)) (.t 32)⟩])
 (.cond (.t 33)
 (.seq (.reg
 [⟨some 2, none, .mv (.k (.bool true))⟩])
 (.ret))
 (.skip)))
 (.dreg [0, 0, 0, 6, 14, 30, 62, 127, 0, 0, 768, 1792, 3840, 8062, 16383, 32767]
 [⟨some 34, none, .mv (.t 3)⟩,
 ⟨some 35, none, .mv (.t 0)⟩,
 ⟨some 36, none, .mv (.t 4)⟩,
 ⟨some 37, none, .iad 70 12 (.t 35) (.t 36)⟩,
 ⟨some 38, none, .fad 70 1 1 (.t 37)⟩,
 ⟨some 39, none, .ldn 63 3 (.t 38)⟩,
 ⟨some 40, none, .call (.f 37) [.t 39]⟩,
 ⟨some 41, none, .bin .add (.t 34) (.t 40)⟩,
 ⟨some 42, none, .mv (.t 0)⟩,
 ⟨some 43, none, .mv (.t 4)⟩,
 ⟨some 44, none, .iad 70 12 (.t 42) (.t 43)⟩,
 ⟨some 45, none, .fad 70 2 4 (.t 44)⟩,
 ⟨some 46, none, .ldn 63 3 (.t 45)⟩,
 ⟨some 47, none, .call (.f 37) [.t 46]⟩,
 ⟨some 48, none, .bin .add (.t 41) (.t 47)⟩,
 ⟨some 3, none, .mv (.t 48)⟩])))
 (.reg
 [⟨some 12, none, .mv (.t 4)⟩,
 ⟨some 13, none, .bin .add (.t 12) (.k (.int .i64 1))⟩,
 ⟨some 4, none, .mv (.t 13)⟩]))
def c1016 : SCode :=
 .seq (.reg
 [⟨some 2, none, .mv (.k (.bool false))⟩])
 (.seq (.seq (.reg
 [⟨some 5, none, .mv (.t 0)⟩,
 ⟨some 6, none, .len 37 (.t 5)⟩,
 ⟨some 7, none, .bin .gtr (.t 6) (.k (.int .i64 220))⟩])
 (.cond (.t 7)
 (.seq (.reg
 [⟨some 2, none, .mv (.k (.bool true))⟩])
 (.ret))
 (.skip)))
 (.seq (.reg
 [⟨some 3, none, .mv (.k (.int .i64 0))⟩])
 (.seq (.seq (.reg
 [⟨some 4, none, .mv (.k (.int .i64 0))⟩])
 (.block 0 (.loop c1016b0)))
 (.seq (.reg
 [⟨some 49, none, .mv (.t 3)⟩,
 ⟨some 50, none, .bin .gtr (.t 49) (.k (.int .i64 20000))⟩,
 ⟨some 2, none, .mv (.t 50)⟩])
 (.ret)))))
def r1016 : List RR := [.t 2]
theorem ok1016 : okFn Go.Proofs.Tryz.prog 16 51 c1016 r1016 1 = true := by kernel_rfl
/- porism/porismlaw21.within -/
def c1018b0 : SCode :=
 .seq (.seq (.reg
 [⟨some 14, none, .mv (.t 7)⟩,
 ⟨some 15, none, .mv (.t 1)⟩,
 ⟨some 16, none, .len 24 (.t 15)⟩,
 ⟨some 17, none, .bin .lss (.t 14) (.t 16)⟩])
 (.cond (.t 17)
 (.skip)
 (.exit 2)))
 (.seq (.block 3 (.dreg [0, 1, 3, 3, 15, 31, 3, 3, 195, 451, 1023, 2047, 4095]
 [⟨some 20, none, .mv (.t 6)⟩,
 ⟨some 21, none, .mv (.t 20)⟩,
 ⟨some 22, some (21, false), .mv (.t 0)⟩,
 ⟨some 23, some (21, false), .mv (.t 5)⟩,
 ⟨some 24, some (21, false), .iad 3 1 (.t 22) (.t 23)⟩,
 ⟨some 25, some (21, false), .ld1 3 (.t 24)⟩,
 ⟨some 26, some (21, false), .mv (.t 1)⟩,
 ⟨some 27, some (21, false), .mv (.t 7)⟩,
 ⟨some 28, some (21, false), .iad 3 1 (.t 26) (.t 27)⟩,
 ⟨some 29, some (21, false), .ld1 3 (.t 28)⟩,
 ⟨some 30, some (21, false), .bin .eql (.t 25) (.t 29)⟩,
 ⟨some 31, none, .pick (.t 21) (.k (.bool true)) (.t 30)⟩,
 ⟨some 6, none, .mv (.t 31)⟩]))
 (.reg
 [⟨some 18, none, .mv (.t 7)⟩,
 ⟨some 19, none, .bin .add (.t 18) (.k (.int .i64 1))⟩,
 ⟨some 7, none, .mv (.t 19)⟩]))
def c1018b1 : SCode :=
 .seq (.seq (.reg
 [⟨some 8, none, .mv (.t 5)⟩,
 ⟨some 9, none, .mv (.t 0)⟩,
 ⟨some 10, none, .len 24 (.t 9)⟩,
 ⟨some 11, none, .bin .lss (.t 8) (.t 10)⟩])
 (.cond (.t 11)
 (.skip)
 (.exit 0)))
 (.seq (.block 1 (.seq (.reg
 [⟨some 6, none, .mv (.k (.bool false))⟩])
 (.seq (.seq (.reg
 [⟨some 7, none, .mv (.k (.int .i64 0))⟩])
 (.block 2 (.loop c1018b0)))
 (.seq (.reg
 [⟨some 32, none, .mv (.t 6)⟩,
 ⟨some 33, none, .not (.t 32)⟩])
 (.cond (.t 33)
 (.seq (.reg
 [⟨some 4, none, .mv (.k (.bool false))⟩])
 (.ret))
 (.skip))))))
 (.reg
 [⟨some 12, none, .mv (.t 5)⟩,
 ⟨some 13, none, .bin .add (.t 12) (.k (.int .i64 1))⟩,
 ⟨some 5, none, .mv (.t 13)⟩]))
def c1018 : SCode :=
 .seq (.reg
 [⟨some 4, none, .mv (.k (.bool false))⟩])
 (.seq (.seq (.reg
 [⟨some 5, none, .mv (.k (.int .i64 0))⟩])
 (.block 0 (.loop c1018b1)))
 (.seq (.reg
 [⟨some 4, none, .mv (.k (.bool true))⟩])
 (.ret)))
def r1018 : List RR := [.t 4]
theorem ok1018 : okFn Go.Proofs.Tryz.prog 18 34 c1018 r1018 2 = true := by kernel_rfl
/- porism/deps.Uses -/
def c1021 : SCode :=
 .seq (.reg
 [⟨some 4, none, .mv (.nil 1 8)⟩,
 ⟨some 5, none, .mv (.k (.int .i64 0))⟩])
 (.seq (.reg
 [⟨some 7, none, .mv (.t 0)⟩,
 ⟨some 8, none, .call (.f 27) [.t 7]⟩,
 ⟨some 6, none, .mv (.t 8)⟩])
 (.seq (.block 0 (.seq (.reg
 [⟨some 10, none, .mv (.t 6)⟩,
 ⟨some 11, none, .bin .neq (.t 10) (.k (.int .i64 0))⟩,
 ⟨some 9, none, .mv (.t 11)⟩])
 (.cond (.t 9)
 (.seq (.reg
 [⟨some 12, none, .mv (.t 6)⟩,
 ⟨some 4, none, .mv (.nil 1 8)⟩,
 ⟨some 5, none, .mv (.t 12)⟩])
 (.ret))
 (.seq (.reg
 [⟨some 14, none, .mv (.t 1)⟩,
 ⟨some 15, none, .bin .lss (.t 14) (.k (.int .i64 0))⟩,
 ⟨some 16, none, .mv (.t 15)⟩,
 ⟨some 17, some (16, false), .mv (.t 1)⟩,
 ⟨some 18, some (16, false), .mv (.t 0)⟩,
 ⟨some 19, some (16, false), .len 37 (.t 18)⟩,
 ⟨some 20, some (16, false), .bin .geq (.t 17) (.t 19)⟩,
 ⟨some 21, none, .pick (.t 16) (.k (.bool true)) (.t 20)⟩,
 ⟨some 13, none, .mv (.t 21)⟩])
 (.cond (.t 13)
 (.seq (.reg
 [⟨some 4, none, .mv (.nil 1 8)⟩,
 ⟨some 5, none, .mv (.k (.int .i64 14))⟩])
 (.ret))
 (.skip))))))
 (.seq (.reg
 [⟨some 22, none, .mv (.t 0)⟩,
 ⟨some 23, none, .mv (.t 1)⟩,
 ⟨some 24, none, .call (.f 41) [.t 22, .t 23]⟩,
 ⟨some 4, none, .mv (.t 24)⟩,
 ⟨some 5, none, .mv (.k (.int .i64 0))⟩])
 (.ret))))
def r1021 : List RR := [.t 4, .t 5]
theorem ok1021 : okFn Go.Proofs.Tryz.prog 21 25 c1021 r1021 2 = true := by kernel_rfl
/- porism/porismlaw21.DepsUnion -/
def c1007 : SCode :=
 .seq (.reg
 [⟨some 6, none, .mv (.k (.bool false))⟩])
 (.seq (.seq (.reg
 [⟨some 13, none, .mv (.t 0)⟩,
 ⟨some 14, none, .call (.f 16) [.t 13]⟩,
 ⟨some 15, none, .mv (.t 14)⟩,
 ⟨some 16, some (15, false), .mv (.t 1)⟩,
 ⟨some 17, some (15, false), .len 24 (.t 16)⟩,
 ⟨some 18, some (15, false), .bin .gtr (.t 17) (.k (.int .i64 30))⟩,
 ⟨some 19, none, .pick (.t 15) (.k (.bool true)) (.t 18)⟩,
 ⟨some 20, none, .mv (.t 19)⟩,
 ⟨some 21, some (20, false), .mv (.t 2)⟩,
 ⟨some 22, some (20, false), .len 24 (.t 21)⟩,
 ⟨some 23, some (20, false), .bin .gtr (.t 22) (.k (.int .i64 30))⟩,
 ⟨some 24, none, .pick (.t 20) (.k (.bool true)) (.t 23)⟩])
 (.cond (.t 24)
 (.seq (.reg
 [⟨some 6, none, .mv (.k (.bool true))⟩])
 (.ret))
 (.skip)))
 (.seq (.reg
 [⟨some 26, none, .mv (.t 0)⟩,
 ⟨some 27, none, .mv (.t 1)⟩,
 ⟨some 28, none, .call (.f 17) [.t 26, .t 27]⟩,
 ⟨some 25, none, .mv (.t 28)⟩,
 ⟨some 29, none, .ext (.t 25) 0⟩,
 ⟨some 30, none, .ext (.t 25) 1⟩,
 ⟨some 7, none, .mv (.t 29)⟩,
 ⟨some 8, none, .mv (.t 30)⟩])
 (.seq (.reg
 [⟨some 32, none, .mv (.t 0)⟩,
 ⟨some 33, none, .mv (.t 2)⟩,
 ⟨some 34, none, .call (.f 17) [.t 32, .t 33]⟩,
 ⟨some 31, none, .mv (.t 34)⟩,
 ⟨some 35, none, .ext (.t 31) 0⟩,
 ⟨some 36, none, .ext (.t 31) 1⟩,
 ⟨some 9, none, .mv (.t 35)⟩,
 ⟨some 10, none, .mv (.t 36)⟩])
 (.seq (.reg
 [⟨some 38, none, .mv (.t 0)⟩,
 ⟨some 39, none, .lit 3 1 8 []⟩,
 ⟨some 40, none, .mv (.t 1)⟩,
 ⟨some 41, none, .app 3 1 8 (.t 39) (.t 40)⟩,
 ⟨some 42, none, .mv (.t 2)⟩,
 ⟨some 43, none, .app 3 1 8 (.t 41) (.t 42)⟩,
 ⟨some 44, none, .call (.f 17) [.t 38, .t 43]⟩,
 ⟨some 37, none, .mv (.t 44)⟩,
 ⟨some 45, none, .ext (.t 37) 0⟩,
 ⟨some 46, none, .ext (.t 37) 1⟩,
 ⟨some 11, none, .mv (.t 45)⟩,
 ⟨some 12, none, .mv (.t 46)⟩])
 (.seq (.seq (.reg
 [⟨some 47, none, .mv (.t 8)⟩,
 ⟨some 48, none, .bin .neq (.t 47) (.k (.int .i64 0))⟩,
 ⟨some 49, none, .mv (.t 48)⟩,
 ⟨some 50, some (49, false), .mv (.t 10)⟩,
 ⟨some 51, some (49, false), .bin .neq (.t 50) (.k (.int .i64 0))⟩,
 ⟨some 52, none, .pick (.t 49) (.k (.bool true)) (.t 51)⟩])
 (.cond (.t 52)
 (.seq (.reg
 [⟨some 53, none, .mv (.t 12)⟩,
 ⟨some 54, none, .bin .neq (.t 53) (.k (.int .i64 0))⟩,
 ⟨some 55, none, .mv (.t 54)⟩,
 ⟨some 56, some (55, true), .mv (.t 11)⟩,
 ⟨some 57, some (55, true), .len 24 (.t 56)⟩,
 ⟨some 58, some (55, true), .bin .eql (.t 57) (.k (.int .i64 0))⟩,
 ⟨some 59, none, .pick (.t 55) (.t 58) (.k (.bool false))⟩,
 ⟨some 60, none, .mv (.t 59)⟩,
 ⟨some 61, some (60, true), .call (.f 13) []⟩,
 ⟨some 62, none, .pick (.t 60) (.t 61) (.k (.bool false))⟩,
 ⟨some 6, none, .mv (.t 62)⟩])
 (.ret))
 (.skip)))
 (.seq (.reg
 [⟨some 63, none, .mv (.t 12)⟩,
 ⟨some 64, none, .bin .eql (.t 63) (.k (.int .i64 0))⟩,
 ⟨some 65, none, .mv (.t 64)⟩,
 ⟨some 66, some (65, true), .mv (.t 7)⟩,
 ⟨some 67, some (65, true), .mv (.t 11)⟩,
 ⟨some 68, some (65, true), .call (.f 18) [.t 66, .t 67]⟩,
 ⟨some 69, none, .pick (.t 65) (.t 68) (.k (.bool false))⟩,
 ⟨some 70, none, .mv (.t 69)⟩,
 ⟨some 71, some (70, true), .mv (.t 9)⟩,
 ⟨some 72, some (70, true), .mv (.t 11)⟩,
 ⟨some 73, some (70, true), .call (.f 18) [.t 71, .t 72]⟩,
 ⟨some 74, none, .pick (.t 70) (.t 73) (.k (.bool false))⟩,
 ⟨some 75, none, .mv (.t 74)⟩,
 ⟨some 76, some (75, true), .mv (.t 11)⟩,
 ⟨some 77, some (75, true), .lit 3 1 8 []⟩,
 ⟨some 78, some (75, true), .mv (.t 7)⟩,
 ⟨some 79, some (75, true), .app 3 1 8 (.t 77) (.t 78)⟩,
 ⟨some 80, some (75, true), .mv (.t 9)⟩,
 ⟨some 81, some (75, true), .app 3 1 8 (.t 79) (.t 80)⟩,
 ⟨some 82, some (75, true), .call (.f 18) [.t 76, .t 81]⟩,
 ⟨some 83, none, .pick (.t 75) (.t 82) (.k (.bool false))⟩,
 ⟨some 84, none, .mv (.t 83)⟩,
 ⟨some 85, some (84, true), .call (.f 13) []⟩,
 ⟨some 86, none, .pick (.t 84) (.t 85) (.k (.bool false))⟩,
 ⟨some 6, none, .mv (.t 86)⟩])
 (.ret)))))))
def r1007 : List RR := [.t 6]
theorem ok1007 : okFn Go.Proofs.Tryz.prog 7 87 c1007 r1007 3 = true := by kernel_rfl
/- porism/porismlaw21.DepsNeeds -/
def c1009b0 : SCode :=
 .seq (.seq (.reg
 [⟨some 96, none, .mv (.t 14)⟩,
 ⟨some 97, none, .mv (.t 12)⟩,
 ⟨some 98, none, .len 24 (.t 97)⟩,
 ⟨some 99, none, .bin .lss (.t 96) (.t 98)⟩])
 (.cond (.t 99)
 (.skip)
 (.exit 2)))
 (.seq (.block 3 (.seq (.dreg [0, 0, 3, 7, 0, 0, 48, 112, 255]
 [⟨some 102, none, .mv (.t 12)⟩,
 ⟨some 103, none, .mv (.t 14)⟩,
 ⟨some 104, none, .iad 3 1 (.t 102) (.t 103)⟩,
 ⟨some 105, none, .ld1 3 (.t 104)⟩,
 ⟨some 106, none, .mv (.t 7)⟩,
 ⟨some 107, none, .mv (.t 11)⟩,
 ⟨some 108, none, .iad 3 1 (.t 106) (.t 107)⟩,
 ⟨some 109, none, .ld1 3 (.t 108)⟩,
 ⟨some 110, none, .bin .geq (.t 105) (.t 109)⟩])
 (.cond (.t 110)
 (.seq (.reg
 [⟨some 6, none, .mv (.k (.bool false))⟩])
 (.ret))
 (.skip))))
 (.reg
 [⟨some 100, none, .mv (.t 14)⟩,
 ⟨some 101, none, .bin .add (.t 100) (.k (.int .i64 1))⟩,
 ⟨some 14, none, .mv (.t 101)⟩]))
def c1009b1 : SCode :=
 .seq (.seq (.reg
 [⟨some 57, none, .mv (.t 11)⟩,
 ⟨some 58, none, .mv (.t 7)⟩,
 ⟨some 59, none, .len 24 (.t 58)⟩,
 ⟨some 60, none, .bin .lss (.t 57) (.t 59)⟩])
 (.cond (.t 60)
 (.skip)
 (.exit 0)))
 (.seq (.block 1 (.seq (.reg
 [⟨some 64, none, .mv (.t 0)⟩,
 ⟨some 65, none, .mv (.t 7)⟩,
 ⟨some 66, none, .mv (.t 11)⟩,
 ⟨some 67, none, .iad 3 1 (.t 65) (.t 66)⟩,
 ⟨some 68, none, .ld1 3 (.t 67)⟩,
 ⟨some 69, none, .call (.f 21) [.t 64, .t 68]⟩,
 ⟨some 63, none, .mv (.t 69)⟩,
 ⟨some 70, none, .ext (.t 63) 0⟩,
 ⟨some 71, none, .ext (.t 63) 1⟩,
 ⟨some 12, none, .mv (.t 70)⟩,
 ⟨some 13, none, .mv (.t 71)⟩])
 (.seq (.seq (.dreg [0, 1, 3, 7, 15, 31, 63, 63, 255, 511, 63, 63, 2111, 7231, 15423, 32767, 65535, 131071, 262143, 524287, 524287, 2097151, 4194303, 8388607]
 [⟨some 72, none, .mv (.t 13)⟩,
 ⟨some 73, none, .bin .neq (.t 72) (.k (.int .i64 0))⟩,
 ⟨some 74, none, .mv (.t 73)⟩,
 ⟨some 75, some (74, false), .mv (.t 11)⟩,
 ⟨some 76, some (74, false), .bin .gtr (.t 75) (.k (.int .i64 0))⟩,
 ⟨some 77, some (74, false), .mv (.t 76)⟩,
 ⟨some 78, some (77, true), .mv (.t 7)⟩,
 ⟨some 79, some (77, true), .mv (.t 11)⟩,
 ⟨some 80, some (77, true), .iad 3 1 (.t 78) (.t 79)⟩,
 ⟨some 81, some (77, true), .ld1 3 (.t 80)⟩,
 ⟨some 82, some (77, true), .mv (.t 7)⟩,
 ⟨some 83, some (77, true), .mv (.t 11)⟩,
 ⟨some 84, some (77, true), .bin .sub (.t 83) (.k (.int .i64 1))⟩,
 ⟨some 85, some (77, true), .iad 3 1 (.t 82) (.t 84)⟩,
 ⟨some 86, some (77, true), .ld1 3 (.t 85)⟩,
 ⟨some 87, some (77, true), .bin .leq (.t 81) (.t 86)⟩,
 ⟨some 88, some (74, false), .pick (.t 77) (.t 87) (.k (.bool false))⟩,
 ⟨some 89, none, .pick (.t 74) (.k (.bool true)) (.t 88)⟩,
 ⟨some 90, none, .mv (.t 89)⟩,
 ⟨some 91, some (90, false), .mv (.t 12)⟩,
 ⟨some 92, some (90, false), .mv (.t 7)⟩,
 ⟨some 93, some (90, false), .call (.f 18) [.t 91, .t 92]⟩,
 ⟨some 94, some (90, false), .not (.t 93)⟩,
 ⟨some 95, none, .pick (.t 90) (.k (.bool true)) (.t 94)⟩])
 (.cond (.t 95)
 (.seq (.reg
 [⟨some 6, none, .mv (.k (.bool false))⟩])
 (.ret))
 (.skip)))
 (.seq (.reg
 [⟨some 14, none, .mv (.k (.int .i64 0))⟩])
 (.block 2 (.loop c1009b0))))))
 (.reg
 [⟨some 61, none, .mv (.t 11)⟩,
 ⟨some 62, none, .bin .add (.t 61) (.k (.int .i64 1))⟩,
 ⟨some 11, none, .mv (.t 62)⟩]))
def c1009 : SCode :=
 .seq (.reg
 [⟨some 6, none, .mv (.k (.bool false))⟩])
 (.seq (.seq (.reg
 [⟨some 17, none, .mv (.t 0)⟩,
 ⟨some 18, none, .call (.f 16) [.t 17]⟩,
 ⟨some 19, none, .mv (.t 18)⟩,
 ⟨some 20, some (19, false), .mv (.t 1)⟩,
 ⟨some 21, some (19, false), .len 24 (.t 20)⟩,
 ⟨some 22, some (19, false), .bin .gtr (.t 21) (.k (.int .i64 30))⟩,
 ⟨some 23, none, .pick (.t 19) (.k (.bool true)) (.t 22)⟩,
 ⟨some 24, none, .mv (.t 23)⟩,
 ⟨some 25, some (24, false), .mv (.t 2)⟩,
 ⟨some 26, some (24, false), .len 24 (.t 25)⟩,
 ⟨some 27, some (24, false), .bin .gtr (.t 26) (.k (.int .i64 30))⟩,
 ⟨some 28, none, .pick (.t 24) (.k (.bool true)) (.t 27)⟩])
 (.cond (.t 28)
 (.seq (.reg
 [⟨some 6, none, .mv (.k (.bool true))⟩])
 (.ret))
 (.skip)))
 (.seq (.reg
 [⟨some 30, none, .mv (.t 0)⟩,
 ⟨some 31, none, .mv (.t 1)⟩,
 ⟨some 32, none, .call (.f 17) [.t 30, .t 31]⟩,
 ⟨some 29, none, .mv (.t 32)⟩,
 ⟨some 33, none, .ext (.t 29) 0⟩,
 ⟨some 34, none, .ext (.t 29) 1⟩,
 ⟨some 7, none, .mv (.t 33)⟩,
 ⟨some 8, none, .mv (.t 34)⟩])
 (.seq (.seq (.reg
 [⟨some 35, none, .mv (.t 8)⟩,
 ⟨some 36, none, .bin .neq (.t 35) (.k (.int .i64 0))⟩])
 (.cond (.t 36)
 (.seq (.reg
 [⟨some 37, none, .mv (.t 7)⟩,
 ⟨some 38, none, .len 24 (.t 37)⟩,
 ⟨some 39, none, .bin .eql (.t 38) (.k (.int .i64 0))⟩,
 ⟨some 40, none, .mv (.t 39)⟩,
 ⟨some 41, some (40, true), .call (.f 13) []⟩,
 ⟨some 42, none, .pick (.t 40) (.t 41) (.k (.bool false))⟩,
 ⟨some 6, none, .mv (.t 42)⟩])
 (.ret))
 (.skip)))
 (.seq (.reg
 [⟨some 44, none, .mv (.t 0)⟩,
 ⟨some 45, none, .mv (.t 7)⟩,
 ⟨some 46, none, .call (.f 17) [.t 44, .t 45]⟩,
 ⟨some 43, none, .mv (.t 46)⟩,
 ⟨some 47, none, .ext (.t 43) 0⟩,
 ⟨some 48, none, .ext (.t 43) 1⟩,
 ⟨some 9, none, .mv (.t 47)⟩,
 ⟨some 10, none, .mv (.t 48)⟩])
 (.seq (.seq (.reg
 [⟨some 49, none, .mv (.t 10)⟩,
 ⟨some 50, none, .bin .neq (.t 49) (.k (.int .i64 0))⟩,
 ⟨some 51, none, .mv (.t 50)⟩,
 ⟨some 52, some (51, false), .mv (.t 7)⟩,
 ⟨some 53, some (51, false), .mv (.t 9)⟩,
 ⟨some 54, some (51, false), .call (.f 15) [.t 52, .t 53]⟩,
 ⟨some 55, some (51, false), .not (.t 54)⟩,
 ⟨some 56, none, .pick (.t 51) (.k (.bool true)) (.t 55)⟩])
 (.cond (.t 56)
 (.seq (.reg
 [⟨some 6, none, .mv (.k (.bool false))⟩])
 (.ret))
 (.skip)))
 (.seq (.seq (.reg
 [⟨some 11, none, .mv (.k (.int .i64 0))⟩])
 (.block 0 (.loop c1009b1)))
 (.seq (.reg
 [⟨some 112, none, .mv (.t 0)⟩,
 ⟨some 113, none, .lit 3 1 8 []⟩,
 ⟨some 114, none, .mv (.t 1)⟩,
 ⟨some 115, none, .app 3 1 8 (.t 113) (.t 114)⟩,
 ⟨some 116, none, .mv (.t 2)⟩,
 ⟨some 117, none, .app 3 1 8 (.t 115) (.t 116)⟩,
 ⟨some 118, none, .call (.f 17) [.t 112, .t 117]⟩,
 ⟨some 111, none, .mv (.t 118)⟩,
 ⟨some 119, none, .ext (.t 111) 0⟩,
 ⟨some 120, none, .ext (.t 111) 1⟩,
 ⟨some 15, none, .mv (.t 119)⟩,
 ⟨some 16, none, .mv (.t 120)⟩])
 (.seq (.reg
 [⟨some 121, none, .mv (.t 1)⟩,
 ⟨some 122, none, .mv (.t 7)⟩,
 ⟨some 123, none, .call (.f 18) [.t 121, .t 122]⟩,
 ⟨some 124, none, .mv (.t 123)⟩,
 ⟨some 125, some (124, true), .mv (.t 16)⟩,
 ⟨some 126, some (124, true), .bin .neq (.t 125) (.k (.int .i64 0))⟩,
 ⟨some 127, some (124, true), .mv (.t 126)⟩,
 ⟨some 128, some (127, false), .mv (.t 7)⟩,
 ⟨some 129, some (127, false), .mv (.t 15)⟩,
 ⟨some 130, some (127, false), .call (.f 18) [.t 128, .t 129]⟩,
 ⟨some 131, some (124, true), .pick (.t 127) (.k (.bool true)) (.t 130)⟩,
 ⟨some 132, none, .pick (.t 124) (.t 131) (.k (.bool false))⟩,
 ⟨some 133, none, .mv (.t 132)⟩,
 ⟨some 134, some (133, true), .call (.f 13) []⟩,
 ⟨some 135, none, .pick (.t 133) (.t 134) (.k (.bool false))⟩,
 ⟨some 6, none, .mv (.t 135)⟩])
 (.ret)))))))))
def r1009 : List RR := [.t 6]
theorem ok1009 : okFn Go.Proofs.Tryz.prog 9 136 c1009 r1009 3 = true := by kernel_rfl
/- porism/porismlaw21.DepsRows -/
def c1010b0 : SCode :=
 .seq (.seq (.reg
 [⟨some 37, none, .mv (.t 7)⟩,
 ⟨some 38, none, .mv (.t 5)⟩,
 ⟨some 39, none, .len 24 (.t 38)⟩,
 ⟨some 40, none, .bin .lss (.t 37) (.t 39)⟩])
 (.cond (.t 40)
 (.skip)
 (.exit 2)))
 (.seq (.block 3 (.seq (.seq (.reg
 [⟨some 43, none, .mv (.t 5)⟩,
 ⟨some 44, none, .mv (.t 7)⟩,
 ⟨some 45, none, .iad 3 1 (.t 43) (.t 44)⟩,
 ⟨some 46, none, .ld1 3 (.t 45)⟩,
 ⟨some 47, none, .mv (.t 4)⟩,
 ⟨some 48, none, .bin .geq (.t 46) (.t 47)⟩])
 (.cond (.t 48)
 (.seq (.reg
 [⟨some 2, none, .mv (.k (.bool false))⟩])
 (.ret))
 (.skip)))
 (.reg
 [⟨some 49, none, .mv (.t 3)⟩,
 ⟨some 50, none, .mv (.t 5)⟩,
 ⟨some 51, none, .mv (.t 7)⟩,
 ⟨some 52, none, .iad 3 1 (.t 50) (.t 51)⟩,
 ⟨some 53, none, .ld1 3 (.t 52)⟩,
 ⟨some 54, none, .mv (.t 4)⟩,
 ⟨some 55, none, .build 28 [.v (.int .i64 0), .v (.int .i64 0)] [(0, 0, 1, .t 53), (1, 1, 1, .t 54)]⟩,
 ⟨some 56, none, .lit 28 2 16 [.t 55]⟩,
 ⟨some 57, none, .app 28 2 16 (.t 49) (.t 56)⟩,
 ⟨some 3, none, .mv (.t 57)⟩])))
 (.reg
 [⟨some 41, none, .mv (.t 7)⟩,
 ⟨some 42, none, .bin .add (.t 41) (.k (.int .i64 1))⟩,
 ⟨some 7, none, .mv (.t 42)⟩]))
def c1010b1 : SCode :=
 .seq (.seq (.reg
 [⟨some 23, none, .mv (.t 4)⟩,
 ⟨some 24, none, .mv (.t 0)⟩,
 ⟨some 25, none, .len 37 (.t 24)⟩,
 ⟨some 26, none, .bin .lss (.t 23) (.t 25)⟩])
 (.cond (.t 26)
 (.skip)
 (.exit 0)))
 (.seq (.block 1 (.seq (.reg
 [⟨some 30, none, .mv (.t 0)⟩,
 ⟨some 31, none, .mv (.t 4)⟩,
 ⟨some 32, none, .call (.f 21) [.t 30, .t 31]⟩,
 ⟨some 29, none, .mv (.t 32)⟩,
 ⟨some 33, none, .ext (.t 29) 0⟩,
 ⟨some 34, none, .ext (.t 29) 1⟩,
 ⟨some 5, none, .mv (.t 33)⟩,
 ⟨some 6, none, .mv (.t 34)⟩])
 (.seq (.seq (.reg
 [⟨some 35, none, .mv (.t 6)⟩,
 ⟨some 36, none, .bin .neq (.t 35) (.k (.int .i64 0))⟩])
 (.cond (.t 36)
 (.seq (.reg
 [⟨some 2, none, .mv (.k (.bool false))⟩])
 (.ret))
 (.skip)))
 (.seq (.reg
 [⟨some 7, none, .mv (.k (.int .i64 0))⟩])
 (.block 2 (.loop c1010b0))))))
 (.reg
 [⟨some 27, none, .mv (.t 4)⟩,
 ⟨some 28, none, .bin .add (.t 27) (.k (.int .i64 1))⟩,
 ⟨some 4, none, .mv (.t 28)⟩]))
def c1010b2 : SCode :=
 .seq (.seq (.reg
 [⟨some 80, none, .mv (.t 10)⟩,
 ⟨some 81, none, .mv (.t 8)⟩,
 ⟨some 82, none, .len 24 (.t 81)⟩,
 ⟨some 83, none, .bin .lss (.t 80) (.t 82)⟩])
 (.cond (.t 83)
 (.skip)
 (.exit 4)))
 (.seq (.block 5 (.seq (.reg
 [⟨some 86, none, .mv (.t 8)⟩,
 ⟨some 87, none, .mv (.t 10)⟩,
 ⟨some 88, none, .iad 3 1 (.t 86) (.t 87)⟩,
 ⟨some 89, none, .ld1 3 (.t 88)⟩,
 ⟨some 90, none, .mv (.t 10)⟩,
 ⟨some 91, none, .bin .neq (.t 89) (.t 90)⟩])
 (.cond (.t 91)
 (.seq (.reg
 [⟨some 2, none, .mv (.k (.bool false))⟩])
 (.ret))
 (.skip))))
 (.reg
 [⟨some 84, none, .mv (.t 10)⟩,
 ⟨some 85, none, .bin .add (.t 84) (.k (.int .i64 1))⟩,
 ⟨some 10, none, .mv (.t 85)⟩]))
def c1010 : SCode :=
 .seq (.reg
 [⟨some 2, none, .mv (.k (.bool false))⟩])
 (.seq (.seq (.reg
 [⟨some 11, none, .mv (.t 0)⟩,
 ⟨some 12, none, .call (.f 16) [.t 11]⟩,
 ⟨some 13, none, .mv (.t 12)⟩,
 ⟨some 14, some (13, false), .mv (.t 0)⟩,
 ⟨some 15, some (13, false), .len 37 (.t 14)⟩,
 ⟨some 16, some (13, false), .bin .gtr (.t 15) (.k (.int .i64 60))⟩,
 ⟨some 17, none, .pick (.t 13) (.k (.bool true)) (.t 16)⟩,
 ⟨some 18, none, .mv (.t 17)⟩,
 ⟨some 19, some (18, false), .mv (.t 0)⟩,
 ⟨some 20, some (18, false), .call (.f 27) [.t 19]⟩,
 ⟨some 21, some (18, false), .bin .neq (.t 20) (.k (.int .i64 0))⟩,
 ⟨some 22, none, .pick (.t 18) (.k (.bool true)) (.t 21)⟩])
 (.cond (.t 22)
 (.seq (.reg
 [⟨some 2, none, .mv (.k (.bool true))⟩])
 (.ret))
 (.skip)))
 (.seq (.reg
 [⟨some 3, none, .mv (.nil 2 16)⟩])
 (.seq (.seq (.reg
 [⟨some 4, none, .mv (.k (.int .i64 0))⟩])
 (.block 0 (.loop c1010b1)))
 (.seq (.reg
 [⟨some 59, none, .mv (.t 0)⟩,
 ⟨some 60, none, .len 37 (.t 59)⟩,
 ⟨some 61, none, .mv (.t 3)⟩,
 ⟨some 62, none, .call (.f 12) [.t 60, .t 61]⟩,
 ⟨some 58, none, .mv (.t 62)⟩,
 ⟨some 63, none, .ext (.t 58) 0⟩,
 ⟨some 64, none, .ext (.t 58) 1⟩,
 ⟨some 8, none, .mv (.t 63)⟩,
 ⟨some 9, none, .mv (.t 64)⟩])
 (.seq (.seq (.reg
 [⟨some 65, none, .mv (.t 9)⟩,
 ⟨some 66, none, .bin .neq (.t 65) (.k (.int .i64 0))⟩,
 ⟨some 67, none, .mv (.t 66)⟩,
 ⟨some 68, some (67, false), .mv (.t 8)⟩,
 ⟨some 69, some (67, false), .len 24 (.t 68)⟩,
 ⟨some 70, some (67, false), .mv (.t 0)⟩,
 ⟨some 71, some (67, false), .len 37 (.t 70)⟩,
 ⟨some 72, some (67, false), .bin .neq (.t 69) (.t 71)⟩,
 ⟨some 73, none, .pick (.t 67) (.k (.bool true)) (.t 72)⟩])
 (.cond (.t 73)
 (.seq (.reg
 [⟨some 74, none, .mv (.t 3)⟩,
 ⟨some 75, none, .len 22 (.t 74)⟩,
 ⟨some 76, none, .bin .gtr (.t 75) (.k (.int .i64 4000))⟩,
 ⟨some 77, none, .mv (.t 76)⟩,
 ⟨some 78, some (77, true), .call (.f 13) []⟩,
 ⟨some 79, none, .pick (.t 77) (.t 78) (.k (.bool false))⟩,
 ⟨some 2, none, .mv (.t 79)⟩])
 (.ret))
 (.skip)))
 (.seq (.seq (.reg
 [⟨some 10, none, .mv (.k (.int .i64 0))⟩])
 (.block 4 (.loop c1010b2)))
 (.seq (.reg
 [⟨some 92, none, .call (.f 13) []⟩,
 ⟨some 2, none, .mv (.t 92)⟩])
 (.ret))))))))
def r1010 : List RR := [.t 2]
theorem ok1010 : okFn Go.Proofs.Tryz.prog 10 93 c1010 r1010 1 = true := by kernel_rfl
end Go.Abs
