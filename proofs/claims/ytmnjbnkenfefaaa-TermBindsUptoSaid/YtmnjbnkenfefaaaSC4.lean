/- THIS TEXT TELLS SOME FUNCTIONS OF THE PROGRAM IN THE CALCULUS AND PROVES, BY THE KERNEL, THAT WHAT IS TOLD IS THE LOADED CODE: no condition. -/
import Derived.KernelRfl
import Derived.Test.YtmnjbnkenfefaaaProg
import Derived.Test.YtmnjbnkenfefaaaAbs21
set_option linter.unusedVariables false
set_option linter.unusedSimpArgs false
namespace Go.Abs


def c23 : SCode :=
  .seq (.reg
       [⟨some 0, none, .mv (.k (.bool false))⟩])
  (.seq (.reg
       [⟨some 2, none, .call (.f 24) [.k (.int .i64 0)]⟩,
        ⟨some 3, none, .call (.f 66) [.k (.int .i64 0)]⟩,
        ⟨some 4, none, .lit 24 3 40 [.t 2, .t 3]⟩,
        ⟨some 5, none, .call (.f 25) [.k (.int .i64 5), .t 4]⟩,
        ⟨some 1, none, .alloc 24 [.v (.int .i64 0), .v (.int .i64 0), .cap 3 40 []]⟩,
        ⟨none, none, .stn 24 3 (.t 1) (.t 5)⟩])
  (.seq (.reg
       [⟨some 6, none, .ldn 24 3 (.t 1)⟩,
        ⟨some 7, none, .call (.f 22) [.t 6]⟩,
        ⟨some 8, none, .bin .eql (.t 7) (.k (.int .i64 0))⟩,
        ⟨some 9, none, .mv (.t 8)⟩,
        ⟨some 10, some (9, true), .ldn 24 3 (.t 1)⟩,
        ⟨some 11, some (9, true), .call (.f 20) [.t 10]⟩,
        ⟨some 12, some (9, true), .bin .eql (.t 11) (.k (.int .i64 3))⟩,
        ⟨some 13, none, .pick (.t 9) (.t 12) (.k (.bool false))⟩,
        ⟨some 14, none, .mv (.t 13)⟩,
        ⟨some 15, some (14, true), .ldn 24 3 (.t 1)⟩,
        ⟨some 16, some (14, true), .call (.f 21) [.t 15]⟩,
        ⟨some 17, some (14, true), .bin .eql (.t 16) (.k (.int .i64 2))⟩,
        ⟨some 18, none, .pick (.t 14) (.t 17) (.k (.bool false))⟩,
        ⟨some 19, none, .mv (.t 18)⟩,
        ⟨some 20, some (19, true), .ldn 24 3 (.t 1)⟩,
        ⟨some 21, some (19, true), .call (.f 30) [.t 20, .k (.int .i64 0), .k (.int .i64 0)]⟩,
        ⟨some 22, none, .pick (.t 19) (.t 21) (.k (.bool false))⟩,
        ⟨some 23, none, .mv (.t 22)⟩,
        ⟨some 24, some (23, true), .call (.f 66) [.k (.int .i64 0)]⟩,
        ⟨some 25, some (23, true), .call (.f 30) [.t 24, .k (.int .i64 0), .k (.int .i64 0)]⟩,
        ⟨some 26, some (23, true), .not (.t 25)⟩,
        ⟨some 27, none, .pick (.t 23) (.t 26) (.k (.bool false))⟩,
        ⟨some 28, none, .mv (.t 27)⟩,
        ⟨some 29, some (28, true), .ldn 24 3 (.t 1)⟩,
        ⟨some 30, some (28, true), .ldn 24 3 (.t 1)⟩,
        ⟨some 31, some (28, true), .call (.f 18) [.t 29, .t 30]⟩,
        ⟨some 32, none, .pick (.t 28) (.t 31) (.k (.bool false))⟩,
        ⟨some 0, none, .mv (.t 32)⟩])
  (.ret)))
def r23 : List RR := [.t 0]
theorem ok23 : okFn Go.Proofs.Try.prog 23 33 c23 r23 0 = true := by kernel_rfl


def c3 : SCode :=
  .seq (.reg
       [⟨some 2, none, .box 24 (.t 0)⟩,
        ⟨some 3, none, .box 24 (.t 1)⟩,
        ⟨some 4, none, .mv (.k (.bool false))⟩])
  (.seq (.seq (.reg
         [⟨some 6, none, .ldn 24 3 (.t 2)⟩,
          ⟨some 7, none, .ldn 24 3 (.t 3)⟩,
          ⟨some 8, none, .lit 24 3 40 [.t 6, .t 7]⟩,
          ⟨some 9, none, .call (.f 17) [.t 8]⟩])
    (.cond (.t 9)
      (.seq (.reg
           [⟨some 4, none, .mv (.k (.bool true))⟩])
      (.ret))
      (.skip)))
  (.seq (.seq (.dreg [0, 0, 2, 7, 15, 31, 63, 63, 255, 63, 63, 2047, 4095, 8191]
         [⟨some 10, none, .ldn 24 3 (.t 2)⟩,
          ⟨some 11, none, .ldn 24 3 (.t 2)⟩,
          ⟨some 12, none, .call (.f 19) [.t 11]⟩,
          ⟨some 13, none, .call (.f 18) [.t 10, .t 12]⟩,
          ⟨some 14, none, .not (.t 13)⟩,
          ⟨some 15, none, .mv (.t 14)⟩,
          ⟨some 16, some (15, false), .ldn 24 3 (.t 2)⟩,
          ⟨some 17, some (15, false), .ldn 24 3 (.t 3)⟩,
          ⟨some 18, some (15, false), .call (.f 18) [.t 16, .t 17]⟩,
          ⟨some 19, some (15, false), .ldn 24 3 (.t 3)⟩,
          ⟨some 20, some (15, false), .ldn 24 3 (.t 2)⟩,
          ⟨some 21, some (15, false), .call (.f 18) [.t 19, .t 20]⟩,
          ⟨some 22, some (15, false), .beq true 4 (.t 18) (.t 21)⟩,
          ⟨some 23, none, .pick (.t 15) (.k (.bool true)) (.t 22)⟩])
    (.cond (.t 23)
      (.seq (.reg
           [⟨some 4, none, .mv (.k (.bool false))⟩])
      (.ret))
      (.skip)))
  (.seq (.seq (.dreg [0, 0, 3, 7, 15, 31, 15, 127, 255, 511, 1023, 2047, 1023, 8191, 16383, 32767, 65535, 131071, 262143, 131071, 1048575, 2097151, 4194303, 8388607]
         [⟨some 24, none, .ldn 24 3 (.t 2)⟩,
          ⟨some 25, none, .ldn 24 3 (.t 3)⟩,
          ⟨some 26, none, .call (.f 18) [.t 24, .t 25]⟩,
          ⟨some 27, none, .mv (.t 26)⟩,
          ⟨some 28, some (27, true), .ldn 24 3 (.t 2)⟩,
          ⟨some 29, some (27, true), .call (.f 20) [.t 28]⟩,
          ⟨some 30, some (27, true), .ldn 24 3 (.t 3)⟩,
          ⟨some 31, some (27, true), .call (.f 20) [.t 30]⟩,
          ⟨some 32, some (27, true), .bin .neq (.t 29) (.t 31)⟩,
          ⟨some 33, some (27, true), .mv (.t 32)⟩,
          ⟨some 34, some (33, false), .ldn 24 3 (.t 2)⟩,
          ⟨some 35, some (33, false), .call (.f 21) [.t 34]⟩,
          ⟨some 36, some (33, false), .ldn 24 3 (.t 3)⟩,
          ⟨some 37, some (33, false), .call (.f 21) [.t 36]⟩,
          ⟨some 38, some (33, false), .bin .neq (.t 35) (.t 37)⟩,
          ⟨some 39, some (27, true), .pick (.t 33) (.k (.bool true)) (.t 38)⟩,
          ⟨some 40, some (27, true), .mv (.t 39)⟩,
          ⟨some 41, some (40, false), .ldn 24 3 (.t 2)⟩,
          ⟨some 42, some (40, false), .call (.f 22) [.t 41]⟩,
          ⟨some 43, some (40, false), .ldn 24 3 (.t 3)⟩,
          ⟨some 44, some (40, false), .call (.f 22) [.t 43]⟩,
          ⟨some 45, some (40, false), .bin .neq (.t 42) (.t 44)⟩,
          ⟨some 46, some (27, true), .pick (.t 40) (.k (.bool true)) (.t 45)⟩,
          ⟨some 47, none, .pick (.t 27) (.t 46) (.k (.bool false))⟩])
    (.cond (.t 47)
      (.seq (.reg
           [⟨some 4, none, .mv (.k (.bool false))⟩])
      (.ret))
      (.skip)))
  (.seq (.reg
       [⟨some 48, none, .ldn 24 3 (.t 2)⟩,
        ⟨some 49, none, .call (.f 19) [.t 48]⟩,
        ⟨some 5, none, .alloc 24 [.v (.int .i64 0), .v (.int .i64 0), .cap 3 40 []]⟩,
        ⟨none, none, .stn 24 3 (.t 5) (.t 49)⟩])
  (.seq (.reg
       [⟨some 50, none, .fad 24 1 1 (.t 5)⟩,
        ⟨some 51, none, .ld1 3 (.t 50)⟩,
        ⟨some 52, none, .bin .add (.t 51) (.k (.int .i64 1))⟩,
        ⟨some 53, none, .fad 24 1 1 (.t 5)⟩,
        ⟨none, none, .st1 3 (.t 53) (.t 52)⟩])
  (.seq (.reg
       [⟨some 54, none, .ldn 24 3 (.t 2)⟩,
        ⟨some 55, none, .ldn 24 3 (.t 5)⟩,
        ⟨some 56, none, .call (.f 18) [.t 54, .t 55]⟩,
        ⟨some 57, none, .not (.t 56)⟩,
        ⟨some 58, none, .mv (.t 57)⟩,
        ⟨some 59, some (58, true), .call (.f 23) []⟩,
        ⟨some 60, none, .pick (.t 58) (.t 59) (.k (.bool false))⟩,
        ⟨some 4, none, .mv (.t 60)⟩])
  (.ret)))))))
def r3 : List RR := [.t 4]
theorem ok3 : okFn Go.Proofs.Try.prog 3 61 c3 r3 2 = true := by kernel_rfl

end Go.Abs
