/- THIS TEXT TELLS SOME FUNCTIONS OF THE PROGRAM IN THE CALCULUS AND PROVES, BY THE KERNEL, THAT WHAT IS TOLD IS THE LOADED CODE: no condition. -/
import Derived.KernelRfl
import Derived.Test.YtmnjbnkenfefaaaProg
import Derived.Test.YtmnjbnkenfefaaaAbs21
set_option linter.unusedVariables false
set_option linter.unusedSimpArgs false
namespace Go.Abs


def c65 : SCode :=
  .seq (.reg
       [⟨some 1, none, .box 24 (.t 0)⟩,
        ⟨some 2, none, .mv (.k (.bool false))⟩])
  (.seq (.reg
       [⟨some 4, none, .fad 24 0 0 (.t 1)⟩,
        ⟨some 5, none, .ld1 3 (.t 4)⟩,
        ⟨some 6, none, .call (.f 62) [.t 5]⟩,
        ⟨some 3, none, .mv (.t 6)⟩])
  (.seq (.seq (.reg
         [⟨some 7, none, .mv (.t 3)⟩,
          ⟨some 8, none, .bin .lss (.t 7) (.k (.int .i64 0))⟩,
          ⟨some 9, none, .mv (.t 8)⟩,
          ⟨some 10, some (9, false), .fad 24 2 2 (.t 1)⟩,
          ⟨some 11, some (9, false), .ld1 22 (.t 10)⟩,
          ⟨some 12, some (9, false), .len 22 (.t 11)⟩,
          ⟨some 13, some (9, false), .mv (.t 3)⟩,
          ⟨some 14, some (9, false), .bin .neq (.t 12) (.t 13)⟩,
          ⟨some 15, none, .pick (.t 9) (.k (.bool true)) (.t 14)⟩,
          ⟨some 16, none, .mv (.t 15)⟩,
          ⟨some 17, some (16, false), .fad 24 1 1 (.t 1)⟩,
          ⟨some 18, some (16, false), .ld1 3 (.t 17)⟩,
          ⟨some 19, some (16, false), .bin .lss (.t 18) (.k (.int .i64 0))⟩,
          ⟨some 20, none, .pick (.t 16) (.k (.bool true)) (.t 19)⟩,
          ⟨some 21, none, .mv (.t 20)⟩,
          ⟨some 22, some (21, false), .fad 24 1 1 (.t 1)⟩,
          ⟨some 23, some (21, false), .ld1 3 (.t 22)⟩,
          ⟨some 24, some (21, false), .bin .gtr (.t 23) (.k (.int .i64 65535))⟩,
          ⟨some 25, none, .pick (.t 21) (.k (.bool true)) (.t 24)⟩,
          ⟨some 26, none, .mv (.t 25)⟩,
          ⟨some 27, some (26, false), .mv (.t 3)⟩,
          ⟨some 28, some (26, false), .bin .gtr (.t 27) (.k (.int .i64 0))⟩,
          ⟨some 29, some (26, false), .mv (.t 28)⟩,
          ⟨some 30, some (29, true), .fad 24 1 1 (.t 1)⟩,
          ⟨some 31, some (29, true), .ld1 3 (.t 30)⟩,
          ⟨some 32, some (29, true), .bin .neq (.t 31) (.k (.int .i64 0))⟩,
          ⟨some 33, some (26, false), .pick (.t 29) (.t 32) (.k (.bool false))⟩,
          ⟨some 34, none, .pick (.t 26) (.k (.bool true)) (.t 33)⟩])
    (.cond (.t 34)
      (.seq (.reg
           [⟨some 2, none, .mv (.k (.bool false))⟩])
      (.ret))
      (.skip)))
  (.seq (.reg
       [⟨some 35, none, .fad 24 2 2 (.t 1)⟩,
        ⟨some 36, none, .ld1 22 (.t 35)⟩,
        ⟨some 37, none, .call (.f 112) [.t 36, .f 113]⟩,
        ⟨some 38, none, .not (.t 37)⟩,
        ⟨some 2, none, .mv (.t 38)⟩])
  (.ret))))
def r65 : List RR := [.t 2]
theorem ok65 : okFn Go.Proofs.Try.prog 65 39 c65 r65 1 = true := by kernel_rfl


def c113 : SCode :=
  .seq (.reg
       [⟨some 1, none, .box 24 (.t 0)⟩,
        ⟨some 2, none, .mv (.k (.bool false))⟩])
  (.seq (.reg
       [⟨some 3, none, .ldn 24 3 (.t 1)⟩,
        ⟨some 4, none, .call (.f 65) [.t 3]⟩,
        ⟨some 5, none, .not (.t 4)⟩,
        ⟨some 2, none, .mv (.t 5)⟩])
  (.ret))
def r113 : List RR := [.t 2]
theorem ok113 : okFn Go.Proofs.Try.prog 113 6 c113 r113 1 = true := by kernel_rfl


def c22 : SCode :=
  .seq (.reg
       [⟨some 1, none, .box 24 (.t 0)⟩,
        ⟨some 2, none, .mv (.k (.int .i64 0))⟩])
  (.seq (.block 0 (.seq (.reg
           [⟨some 4, none, .ldn 24 3 (.t 1)⟩,
            ⟨some 5, none, .call (.f 20) [.t 4]⟩,
            ⟨some 6, none, .bin .gtr (.t 5) (.k (.int .i64 6000))⟩,
            ⟨some 3, none, .mv (.t 6)⟩])
      (.cond (.t 3)
        (.seq (.reg
             [⟨some 2, none, .mv (.k (.int .i64 4))⟩])
        (.ret))
        (.seq (.reg
             [⟨some 8, none, .ldn 24 3 (.t 1)⟩,
              ⟨some 9, none, .call (.f 21) [.t 8]⟩,
              ⟨some 10, none, .bin .gtr (.t 9) (.k (.int .i64 200))⟩,
              ⟨some 7, none, .mv (.t 10)⟩])
        (.cond (.t 7)
          (.seq (.reg
               [⟨some 2, none, .mv (.k (.int .i64 5))⟩])
          (.ret))
          (.seq (.reg
               [⟨some 12, none, .ldn 24 3 (.t 1)⟩,
                ⟨some 13, none, .call (.f 65) [.t 12]⟩,
                ⟨some 14, none, .not (.t 13)⟩,
                ⟨some 11, none, .mv (.t 14)⟩])
          (.cond (.t 11)
            (.seq (.reg
                 [⟨some 2, none, .mv (.k (.int .i64 1))⟩])
            (.ret))
            (.skip))))))))
  (.seq (.reg
       [⟨some 2, none, .mv (.k (.int .i64 0))⟩])
  (.ret)))
def r22 : List RR := [.t 2]
theorem ok22 : okFn Go.Proofs.Try.prog 22 15 c22 r22 1 = true := by kernel_rfl


def c24 : SCode :=
  .seq (.reg
       [⟨some 2, none, .alloc 24 [.v (.int .i64 0), .v (.int .i64 0), .cap 3 40 []]⟩])
  (.seq (.reg
       [⟨some 3, none, .mv (.t 0)⟩,
        ⟨some 4, none, .build 24 [.v (.int .i64 0), .v (.int .i64 0), .cap 3 40 []] [(0, 0, 1, .k (.int .i64 2)), (1, 1, 1, .t 3)]⟩,
        ⟨none, none, .stn 24 3 (.t 2) (.t 4)⟩])
  (.ret))
def r24 : List RR := [.cn 2 3]
theorem ok24 : okFn Go.Proofs.Try.prog 24 5 c24 r24 1 = true := by kernel_rfl


def c25 : SCode :=
  .seq (.reg
       [⟨some 4, none, .alloc 24 [.v (.int .i64 0), .v (.int .i64 0), .cap 3 40 []]⟩])
  (.seq (.reg
       [⟨some 5, none, .mv (.nil 3 40)⟩])
  (.seq (.reg
       [⟨some 6, none, .mv (.t 0)⟩,
        ⟨some 7, none, .mv (.t 5)⟩,
        ⟨some 8, none, .mv (.t 1)⟩,
        ⟨some 9, none, .app 24 3 40 (.t 7) (.t 8)⟩,
        ⟨some 10, none, .build 24 [.v (.int .i64 0), .v (.int .i64 0), .cap 3 40 []] [(0, 0, 1, .t 6), (2, 2, 1, .t 9)]⟩,
        ⟨none, none, .stn 24 3 (.t 4) (.t 10)⟩])
  (.ret)))
def r25 : List RR := [.cn 4 3]
theorem ok25 : okFn Go.Proofs.Try.prog 25 11 c25 r25 2 = true := by kernel_rfl


def c66 : SCode :=
  .seq (.reg
       [⟨some 2, none, .alloc 24 [.v (.int .i64 0), .v (.int .i64 0), .cap 3 40 []]⟩])
  (.seq (.reg
       [⟨some 3, none, .mv (.t 0)⟩,
        ⟨some 4, none, .build 24 [.v (.int .i64 0), .v (.int .i64 0), .cap 3 40 []] [(0, 0, 1, .k (.int .i64 1)), (1, 1, 1, .t 3)]⟩,
        ⟨none, none, .stn 24 3 (.t 2) (.t 4)⟩])
  (.ret))
def r66 : List RR := [.cn 2 3]
theorem ok66 : okFn Go.Proofs.Try.prog 66 5 c66 r66 1 = true := by kernel_rfl


def c31 : SCode :=
  .seq (.reg
       [⟨some 4, none, .mv (.k (.int .i64 0))⟩])
  (.seq (.seq (.reg
         [⟨some 5, none, .mv (.t 1)⟩,
          ⟨some 6, none, .bin .eql (.t 5) (.k (.int .i64 1))⟩,
          ⟨some 7, none, .mv (.t 6)⟩,
          ⟨some 8, some (7, true), .lit 3 1 8 [.k (.int .i64 4), .k (.int .i64 5), .k (.int .i64 7)]⟩,
          ⟨some 9, some (7, true), .mv (.t 0)⟩,
          ⟨some 10, some (7, true), .call (.f 69) [.t 8, .t 9]⟩,
          ⟨some 11, none, .pick (.t 7) (.t 10) (.k (.bool false))⟩])
    (.cond (.t 11)
      (.seq (.reg
           [⟨some 4, none, .mv (.k (.int .i64 1))⟩])
      (.ret))
      (.skip)))
  (.seq (.reg
       [⟨some 4, none, .mv (.k (.int .i64 0))⟩])
  (.ret)))
def r31 : List RR := [.t 4]
theorem ok31 : okFn Go.Proofs.Try.prog 31 12 c31 r31 2 = true := by kernel_rfl


def c69 : SCode :=
  .seq (.reg
       [⟨some 4, none, .mv (.k (.bool false))⟩])
  (.seq (.reg
       [⟨some 5, none, .mv (.t 0)⟩,
        ⟨some 6, none, .mv (.t 1)⟩,
        ⟨some 7, none, .call (.f 115) [.t 5, .t 6]⟩,
        ⟨some 8, none, .bin .geq (.t 7) (.k (.int .i64 0))⟩,
        ⟨some 4, none, .mv (.t 8)⟩])
  (.ret))
def r69 : List RR := [.t 4]
theorem ok69 : okFn Go.Proofs.Try.prog 69 9 c69 r69 2 = true := by kernel_rfl


def c115b0 : SCode :=
  .seq (.reg
       [⟨some 9, none, .bin .lss (.t 8) (.t 7)⟩])
  (.seq (.cond (.t 9)
      (.skip)
      (.exit 0))
  (.seq (.block 1 (.seq (.reg
           [⟨some 10, none, .mv (.t 8)⟩,
            ⟨some 5, none, .mv (.t 10)⟩])
      (.seq (.reg
           [⟨some 11, none, .mv (.t 1)⟩,
            ⟨some 12, none, .mv (.t 0)⟩,
            ⟨some 13, none, .mv (.t 5)⟩,
            ⟨some 14, none, .iad 3 1 (.t 12) (.t 13)⟩,
            ⟨some 15, none, .ld1 3 (.t 14)⟩,
            ⟨some 16, none, .bin .eql (.t 11) (.t 15)⟩])
      (.cond (.t 16)
        (.seq (.reg
             [⟨some 17, none, .mv (.t 5)⟩,
              ⟨some 4, none, .mv (.t 17)⟩])
        (.ret))
        (.skip)))))
  (.reg
     [⟨some 18, none, .bin .add (.t 8) (.k (.int .i64 1))⟩,
      ⟨some 8, none, .mv (.t 18)⟩])))
def c115 : SCode :=
  .seq (.reg
       [⟨some 4, none, .mv (.k (.int .i64 0))⟩])
  (.seq (.seq (.reg
         [⟨some 6, none, .mv (.t 0)⟩,
          ⟨some 7, none, .len 38 (.t 6)⟩,
          ⟨some 8, none, .mv (.k (.int .i64 0))⟩])
    (.block 0 (.loop c115b0)))
  (.seq (.reg
       [⟨some 4, none, .mv (.k (.int .i64 (-1)))⟩])
  (.ret)))
def r115 : List RR := [.t 4]
theorem ok115 : okFn Go.Proofs.Try.prog 115 19 c115 r115 2 = true := by kernel_rfl


def c30 : SCode :=
  .seq (.reg
       [⟨some 3, none, .box 24 (.t 0)⟩,
        ⟨some 6, none, .mv (.k (.bool false))⟩])
  (.seq (.reg
       [⟨some 7, none, .mv (.t 1)⟩,
        ⟨some 8, none, .bin .geq (.t 7) (.k (.int .i64 0))⟩,
        ⟨some 9, none, .mv (.t 8)⟩,
        ⟨some 10, some (9, true), .mv (.t 2)⟩,
        ⟨some 11, some (9, true), .bin .geq (.t 10) (.k (.int .i64 0))⟩,
        ⟨some 12, none, .pick (.t 9) (.t 11) (.k (.bool false))⟩,
        ⟨some 13, none, .mv (.t 12)⟩,
        ⟨some 14, some (13, true), .ldn 24 3 (.t 3)⟩,
        ⟨some 15, some (13, true), .call (.f 22) [.t 14]⟩,
        ⟨some 16, some (13, true), .bin .eql (.t 15) (.k (.int .i64 0))⟩,
        ⟨some 17, none, .pick (.t 13) (.t 16) (.k (.bool false))⟩,
        ⟨some 18, none, .mv (.t 17)⟩,
        ⟨some 19, some (18, true), .ldn 24 3 (.t 3)⟩,
        ⟨some 20, some (18, true), .mv (.t 1)⟩,
        ⟨some 21, some (18, true), .best false [.t 20, .k (.int .i64 65536)]⟩,
        ⟨some 22, some (18, true), .mv (.t 2)⟩,
        ⟨some 23, some (18, true), .call (.f 68) [.t 19, .t 21, .t 22]⟩,
        ⟨some 24, none, .pick (.t 18) (.t 23) (.k (.bool false))⟩,
        ⟨some 6, none, .mv (.t 24)⟩])
  (.ret))
def r30 : List RR := [.t 6]
theorem ok30 : okFn Go.Proofs.Try.prog 30 25 c30 r30 3 = true := by kernel_rfl


def c68b0 : SCode :=
  .seq (.reg
       [⟨some 32, none, .bin .lss (.t 31) (.t 30)⟩])
  (.seq (.cond (.t 32)
      (.skip)
      (.exit 1))
  (.seq (.block 2 (.seq (.reg
           [⟨some 33, none, .mv (.t 31)⟩,
            ⟨some 34, none, .iad 24 3 (.t 29) (.t 31)⟩,
            ⟨some 35, none, .ldn 24 3 (.t 34)⟩,
            ⟨some 8, none, .alloc 24 [.v (.int .i64 0), .v (.int .i64 0), .cap 3 40 []]⟩,
            ⟨some 7, none, .mv (.t 33)⟩,
            ⟨none, none, .stn 24 3 (.t 8) (.t 35)⟩])
      (.seq (.dreg [0, 0, 0, 4, 0, 28, 62, 0, 255, 511]
           [⟨some 36, none, .ldn 24 3 (.t 8)⟩,
            ⟨some 37, none, .mv (.t 1)⟩,
            ⟨some 38, none, .fad 24 0 0 (.t 3)⟩,
            ⟨some 39, none, .ld1 3 (.t 38)⟩,
            ⟨some 40, none, .mv (.t 7)⟩,
            ⟨some 41, none, .call (.f 31) [.t 39, .t 40]⟩,
            ⟨some 42, none, .bin .add (.t 37) (.t 41)⟩,
            ⟨some 43, none, .mv (.t 2)⟩,
            ⟨some 44, none, .call (.f 68) [.t 36, .t 42, .t 43]⟩,
            ⟨some 45, none, .not (.t 44)⟩])
      (.cond (.t 45)
        (.seq (.reg
             [⟨some 6, none, .mv (.k (.bool false))⟩])
        (.ret))
        (.skip)))))
  (.reg
     [⟨some 46, none, .bin .add (.t 31) (.k (.int .i64 1))⟩,
      ⟨some 31, none, .mv (.t 46)⟩])))
def c68 : SCode :=
  .seq (.reg
       [⟨some 3, none, .box 24 (.t 0)⟩,
        ⟨some 6, none, .mv (.k (.bool false))⟩])
  (.seq (.seq (.reg
         [⟨some 9, none, .fad 24 0 0 (.t 3)⟩,
          ⟨some 10, none, .ld1 3 (.t 9)⟩])
    (.block 0 (.seq (.reg
           [⟨some 12, none, .bin .eql (.t 10) (.k (.int .i64 1))⟩,
            ⟨some 11, none, .mv (.t 12)⟩])
      (.cond (.t 11)
        (.seq (.reg
             [⟨some 13, none, .fad 24 1 1 (.t 3)⟩,
              ⟨some 14, none, .ld1 3 (.t 13)⟩,
              ⟨some 15, none, .mv (.t 1)⟩,
              ⟨some 16, none, .bin .lss (.t 14) (.t 15)⟩,
              ⟨some 6, none, .mv (.t 16)⟩])
        (.ret))
        (.seq (.reg
             [⟨some 18, none, .bin .eql (.t 10) (.k (.int .i64 2))⟩,
              ⟨some 17, none, .mv (.t 18)⟩])
        (.cond (.t 17)
          (.seq (.reg
               [⟨some 19, none, .fad 24 1 1 (.t 3)⟩,
                ⟨some 20, none, .ld1 3 (.t 19)⟩,
                ⟨some 21, none, .bin .leq (.t 20) (.k (.int .i64 6))⟩,
                ⟨some 6, none, .mv (.t 21)⟩])
          (.ret))
          (.seq (.reg
               [⟨some 23, none, .bin .eql (.t 10) (.k (.int .i64 3))⟩,
                ⟨some 22, none, .mv (.t 23)⟩])
          (.cond (.t 22)
            (.seq (.reg
                 [⟨some 24, none, .fad 24 1 1 (.t 3)⟩,
                  ⟨some 25, none, .ld1 3 (.t 24)⟩,
                  ⟨some 26, none, .mv (.t 2)⟩,
                  ⟨some 27, none, .bin .lss (.t 25) (.t 26)⟩,
                  ⟨some 6, none, .mv (.t 27)⟩])
            (.ret))
            (.skip)))))))))
  (.seq (.seq (.reg
         [⟨some 28, none, .fad 24 2 2 (.t 3)⟩,
          ⟨some 29, none, .ld1 22 (.t 28)⟩,
          ⟨some 30, none, .len 22 (.t 29)⟩,
          ⟨some 31, none, .mv (.k (.int .i64 0))⟩])
    (.block 1 (.loop c68b0)))
  (.seq (.reg
       [⟨some 6, none, .mv (.k (.bool true))⟩])
  (.ret))))
def r68 : List RR := [.t 6]
theorem ok68 : okFn Go.Proofs.Try.prog 68 47 c68 r68 3 = true := by kernel_rfl

end Go.Abs
