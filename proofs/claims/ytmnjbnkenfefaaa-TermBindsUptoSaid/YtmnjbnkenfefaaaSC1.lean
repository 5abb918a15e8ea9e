/- THIS TEXT TELLS SOME FUNCTIONS OF THE PROGRAM IN THE CALCULUS AND PROVES, BY THE KERNEL, THAT WHAT IS TOLD IS THE LOADED CODE: no condition. -/
import Derived.KernelRfl
import Derived.Test.YtmnjbnkenfefaaaProg
import Derived.Test.YtmnjbnkenfefaaaAbs21
set_option linter.unusedVariables false
set_option linter.unusedSimpArgs false
namespace Go.Abs


def c17b0 : SCode :=
  .seq (.seq (.reg
         [⟨some 8, none, .mv (.t 4)⟩,
          ⟨some 9, none, .mv (.t 0)⟩,
          ⟨some 10, none, .len 22 (.t 9)⟩,
          ⟨some 11, none, .bin .lss (.t 8) (.t 10)⟩])
    (.cond (.t 11)
      (.skip)
      (.exit 0)))
  (.seq (.block 1 (.seq (.seq (.reg
             [⟨some 14, none, .mv (.t 0)⟩,
              ⟨some 15, none, .mv (.t 4)⟩,
              ⟨some 16, none, .iad 24 3 (.t 14) (.t 15)⟩,
              ⟨some 17, none, .ldn 24 3 (.t 16)⟩,
              ⟨some 18, none, .call (.f 29) [.t 17]⟩,
              ⟨some 19, none, .bin .gtr (.t 18) (.k (.int .i64 300))⟩])
        (.cond (.t 19)
          (.seq (.reg
               [⟨some 2, none, .mv (.k (.bool true))⟩])
          (.ret))
          (.skip)))
      (.reg
         [⟨some 20, none, .mv (.t 3)⟩,
          ⟨some 21, none, .mv (.t 0)⟩,
          ⟨some 22, none, .mv (.t 4)⟩,
          ⟨some 23, none, .iad 24 3 (.t 21) (.t 22)⟩,
          ⟨some 24, none, .ldn 24 3 (.t 23)⟩,
          ⟨some 25, none, .call (.f 28) [.t 24]⟩,
          ⟨some 26, none, .bin .add (.t 20) (.t 25)⟩,
          ⟨some 3, none, .mv (.t 26)⟩])))
  (.reg
     [⟨some 12, none, .mv (.t 4)⟩,
      ⟨some 13, none, .bin .add (.t 12) (.k (.int .i64 1))⟩,
      ⟨some 4, none, .mv (.t 13)⟩]))
def c17 : SCode :=
  .seq (.reg
       [⟨some 2, none, .mv (.k (.bool false))⟩])
  (.seq (.seq (.reg
         [⟨some 5, none, .mv (.t 0)⟩,
          ⟨some 6, none, .len 22 (.t 5)⟩,
          ⟨some 7, none, .bin .gtr (.t 6) (.k (.int .i64 60))⟩])
    (.cond (.t 7)
      (.seq (.reg
           [⟨some 2, none, .mv (.k (.bool true))⟩])
      (.ret))
      (.skip)))
  (.seq (.reg
       [⟨some 3, none, .mv (.k (.int .i64 0))⟩])
  (.seq (.seq (.reg
         [⟨some 4, none, .mv (.k (.int .i64 0))⟩])
    (.block 0 (.loop c17b0)))
  (.seq (.reg
       [⟨some 27, none, .mv (.t 3)⟩,
        ⟨some 28, none, .bin .gtr (.t 27) (.k (.int .i64 9000))⟩,
        ⟨some 2, none, .mv (.t 28)⟩])
  (.ret)))))
def r17 : List RR := [.t 2]
theorem ok17 : okFn Go.Proofs.Try.prog 17 29 c17 r17 1 = true := by kernel_rfl


def c18 : SCode :=
  .seq (.reg
       [⟨some 2, none, .box 24 (.t 0)⟩,
        ⟨some 3, none, .box 24 (.t 1)⟩,
        ⟨some 4, none, .mv (.k (.bool false))⟩])
  (.seq (.reg
       [⟨some 5, none, .fad 24 0 0 (.t 2)⟩,
        ⟨some 6, none, .ld1 3 (.t 5)⟩,
        ⟨some 7, none, .fad 24 0 0 (.t 3)⟩,
        ⟨some 8, none, .ld1 3 (.t 7)⟩,
        ⟨some 9, none, .bin .eql (.t 6) (.t 8)⟩,
        ⟨some 10, none, .mv (.t 9)⟩,
        ⟨some 11, some (10, true), .fad 24 1 1 (.t 2)⟩,
        ⟨some 12, some (10, true), .ld1 3 (.t 11)⟩,
        ⟨some 13, some (10, true), .fad 24 1 1 (.t 3)⟩,
        ⟨some 14, some (10, true), .ld1 3 (.t 13)⟩,
        ⟨some 15, some (10, true), .bin .eql (.t 12) (.t 14)⟩,
        ⟨some 16, none, .pick (.t 10) (.t 15) (.k (.bool false))⟩,
        ⟨some 17, none, .mv (.t 16)⟩,
        ⟨some 18, some (17, true), .fad 24 2 2 (.t 2)⟩,
        ⟨some 19, some (17, true), .ld1 22 (.t 18)⟩,
        ⟨some 20, some (17, true), .fad 24 2 2 (.t 3)⟩,
        ⟨some 21, some (17, true), .ld1 22 (.t 20)⟩,
        ⟨some 22, some (17, true), .call (.f 63) [.t 19, .t 21, .f 18]⟩,
        ⟨some 23, none, .pick (.t 17) (.t 22) (.k (.bool false))⟩,
        ⟨some 4, none, .mv (.t 23)⟩])
  (.ret))
def r18 : List RR := [.t 4]
theorem ok18 : okFn Go.Proofs.Try.prog 18 24 c18 r18 2 = true := by kernel_rfl


def c19 : SCode :=
  .seq (.reg
       [⟨some 1, none, .box 24 (.t 0)⟩,
        ⟨some 2, none, .alloc 24 [.v (.int .i64 0), .v (.int .i64 0), .cap 3 40 []]⟩])
  (.seq (.dreg [0, 1, 0, 4, 0, 16, 48, 127, 255]
       [⟨some 3, none, .fad 24 0 0 (.t 1)⟩,
        ⟨some 4, none, .ld1 3 (.t 3)⟩,
        ⟨some 5, none, .fad 24 1 1 (.t 1)⟩,
        ⟨some 6, none, .ld1 3 (.t 5)⟩,
        ⟨some 7, none, .fad 24 2 2 (.t 1)⟩,
        ⟨some 8, none, .ld1 22 (.t 7)⟩,
        ⟨some 9, none, .call (.f 64) [.t 8]⟩,
        ⟨some 10, none, .build 24 [.v (.int .i64 0), .v (.int .i64 0), .cap 3 40 []] [(0, 0, 1, .t 4), (1, 1, 1, .t 6), (2, 2, 1, .t 9)]⟩,
        ⟨none, none, .stn 24 3 (.t 2) (.t 10)⟩])
  (.ret))
def r19 : List RR := [.cn 2 3]
theorem ok19 : okFn Go.Proofs.Try.prog 19 11 c19 r19 1 = true := by kernel_rfl


def c20b0 : SCode :=
  .seq (.reg
       [⟨some 10, none, .bin .lss (.t 9) (.t 8)⟩])
  (.seq (.cond (.t 10)
      (.skip)
      (.exit 0))
  (.seq (.block 1 (.seq (.reg
           [⟨some 11, none, .iad 24 3 (.t 7) (.t 9)⟩,
            ⟨some 12, none, .ldn 24 3 (.t 11)⟩,
            ⟨some 5, none, .alloc 24 [.v (.int .i64 0), .v (.int .i64 0), .cap 3 40 []]⟩,
            ⟨none, none, .stn 24 3 (.t 5) (.t 12)⟩])
      (.reg
         [⟨some 13, none, .mv (.t 3)⟩,
          ⟨some 14, none, .ldn 24 3 (.t 5)⟩,
          ⟨some 15, none, .call (.f 20) [.t 14]⟩,
          ⟨some 16, none, .bin .add (.t 13) (.t 15)⟩,
          ⟨some 3, none, .mv (.t 16)⟩])))
  (.reg
     [⟨some 17, none, .bin .add (.t 9) (.k (.int .i64 1))⟩,
      ⟨some 9, none, .mv (.t 17)⟩])))
def c20 : SCode :=
  .seq (.reg
       [⟨some 1, none, .box 24 (.t 0)⟩,
        ⟨some 2, none, .mv (.k (.int .i64 0))⟩])
  (.seq (.reg
       [⟨some 3, none, .mv (.k (.int .i64 1))⟩])
  (.seq (.seq (.reg
         [⟨some 6, none, .fad 24 2 2 (.t 1)⟩,
          ⟨some 7, none, .ld1 22 (.t 6)⟩,
          ⟨some 8, none, .len 22 (.t 7)⟩,
          ⟨some 9, none, .mv (.k (.int .i64 0))⟩])
    (.block 0 (.loop c20b0)))
  (.seq (.reg
       [⟨some 18, none, .mv (.t 3)⟩,
        ⟨some 2, none, .mv (.t 18)⟩])
  (.ret))))
def r20 : List RR := [.t 2]
theorem ok20 : okFn Go.Proofs.Try.prog 20 19 c20 r20 1 = true := by kernel_rfl


def c21b0 : SCode :=
  .seq (.reg
       [⟨some 10, none, .bin .lss (.t 9) (.t 8)⟩])
  (.seq (.cond (.t 10)
      (.skip)
      (.exit 0))
  (.seq (.block 1 (.seq (.reg
           [⟨some 11, none, .iad 24 3 (.t 7) (.t 9)⟩,
            ⟨some 12, none, .ldn 24 3 (.t 11)⟩,
            ⟨some 5, none, .alloc 24 [.v (.int .i64 0), .v (.int .i64 0), .cap 3 40 []]⟩,
            ⟨none, none, .stn 24 3 (.t 5) (.t 12)⟩])
      (.reg
         [⟨some 13, none, .mv (.t 3)⟩,
          ⟨some 14, none, .ldn 24 3 (.t 5)⟩,
          ⟨some 15, none, .call (.f 21) [.t 14]⟩,
          ⟨some 16, none, .best true [.t 13, .t 15]⟩,
          ⟨some 3, none, .mv (.t 16)⟩])))
  (.reg
     [⟨some 17, none, .bin .add (.t 9) (.k (.int .i64 1))⟩,
      ⟨some 9, none, .mv (.t 17)⟩])))
def c21 : SCode :=
  .seq (.reg
       [⟨some 1, none, .box 24 (.t 0)⟩,
        ⟨some 2, none, .mv (.k (.int .i64 0))⟩])
  (.seq (.reg
       [⟨some 3, none, .mv (.k (.int .i64 0))⟩])
  (.seq (.seq (.reg
         [⟨some 6, none, .fad 24 2 2 (.t 1)⟩,
          ⟨some 7, none, .ld1 22 (.t 6)⟩,
          ⟨some 8, none, .len 22 (.t 7)⟩,
          ⟨some 9, none, .mv (.k (.int .i64 0))⟩])
    (.block 0 (.loop c21b0)))
  (.seq (.reg
       [⟨some 18, none, .mv (.t 3)⟩,
        ⟨some 19, none, .bin .add (.t 18) (.k (.int .i64 1))⟩,
        ⟨some 2, none, .mv (.t 19)⟩])
  (.ret))))
def r21 : List RR := [.t 2]
theorem ok21 : okFn Go.Proofs.Try.prog 21 20 c21 r21 1 = true := by kernel_rfl


def c28b0 : SCode :=
  .seq (.seq (.reg
         [⟨some 5, none, .mv (.t 4)⟩,
          ⟨some 6, none, .fad 24 2 2 (.t 1)⟩,
          ⟨some 7, none, .ld1 22 (.t 6)⟩,
          ⟨some 8, none, .len 22 (.t 7)⟩,
          ⟨some 9, none, .bin .lss (.t 5) (.t 8)⟩])
    (.cond (.t 9)
      (.skip)
      (.exit 0)))
  (.seq (.block 1 (.reg
         [⟨some 12, none, .mv (.t 3)⟩,
          ⟨some 13, none, .fad 24 2 2 (.t 1)⟩,
          ⟨some 14, none, .ld1 22 (.t 13)⟩,
          ⟨some 15, none, .mv (.t 4)⟩,
          ⟨some 16, none, .iad 24 3 (.t 14) (.t 15)⟩,
          ⟨some 17, none, .ldn 24 3 (.t 16)⟩,
          ⟨some 18, none, .call (.f 28) [.t 17]⟩,
          ⟨some 19, none, .bin .add (.t 12) (.t 18)⟩,
          ⟨some 3, none, .mv (.t 19)⟩]))
  (.reg
     [⟨some 10, none, .mv (.t 4)⟩,
      ⟨some 11, none, .bin .add (.t 10) (.k (.int .i64 1))⟩,
      ⟨some 4, none, .mv (.t 11)⟩]))
def c28 : SCode :=
  .seq (.reg
       [⟨some 1, none, .box 24 (.t 0)⟩,
        ⟨some 2, none, .mv (.k (.int .i64 0))⟩])
  (.seq (.reg
       [⟨some 3, none, .mv (.k (.int .i64 1))⟩])
  (.seq (.seq (.reg
         [⟨some 4, none, .mv (.k (.int .i64 0))⟩])
    (.block 0 (.loop c28b0)))
  (.seq (.reg
       [⟨some 20, none, .mv (.t 3)⟩,
        ⟨some 2, none, .mv (.t 20)⟩])
  (.ret))))
def r28 : List RR := [.t 2]
theorem ok28 : okFn Go.Proofs.Try.prog 28 21 c28 r28 1 = true := by kernel_rfl


def c29b0 : SCode :=
  .seq (.seq (.reg
         [⟨some 5, none, .mv (.t 4)⟩,
          ⟨some 6, none, .fad 24 2 2 (.t 1)⟩,
          ⟨some 7, none, .ld1 22 (.t 6)⟩,
          ⟨some 8, none, .len 22 (.t 7)⟩,
          ⟨some 9, none, .bin .lss (.t 5) (.t 8)⟩])
    (.cond (.t 9)
      (.skip)
      (.exit 0)))
  (.seq (.block 1 (.reg
         [⟨some 12, none, .mv (.t 3)⟩,
          ⟨some 13, none, .fad 24 2 2 (.t 1)⟩,
          ⟨some 14, none, .ld1 22 (.t 13)⟩,
          ⟨some 15, none, .mv (.t 4)⟩,
          ⟨some 16, none, .iad 24 3 (.t 14) (.t 15)⟩,
          ⟨some 17, none, .ldn 24 3 (.t 16)⟩,
          ⟨some 18, none, .call (.f 29) [.t 17]⟩,
          ⟨some 19, none, .best true [.t 12, .t 18]⟩,
          ⟨some 3, none, .mv (.t 19)⟩]))
  (.reg
     [⟨some 10, none, .mv (.t 4)⟩,
      ⟨some 11, none, .bin .add (.t 10) (.k (.int .i64 1))⟩,
      ⟨some 4, none, .mv (.t 11)⟩]))
def c29 : SCode :=
  .seq (.reg
       [⟨some 1, none, .box 24 (.t 0)⟩,
        ⟨some 2, none, .mv (.k (.int .i64 0))⟩])
  (.seq (.reg
       [⟨some 3, none, .mv (.k (.int .i64 0))⟩])
  (.seq (.seq (.reg
         [⟨some 4, none, .mv (.k (.int .i64 0))⟩])
    (.block 0 (.loop c29b0)))
  (.seq (.reg
       [⟨some 20, none, .mv (.t 3)⟩,
        ⟨some 21, none, .bin .add (.t 20) (.k (.int .i64 1))⟩,
        ⟨some 2, none, .mv (.t 21)⟩])
  (.ret))))
def r29 : List RR := [.t 2]
theorem ok29 : okFn Go.Proofs.Try.prog 29 22 c29 r29 1 = true := by kernel_rfl


def c63b0 : SCode :=
  .seq (.reg
       [⟨some 18, none, .bin .lss (.t 17) (.t 16)⟩])
  (.seq (.cond (.t 18)
      (.skip)
      (.exit 0))
  (.seq (.block 1 (.seq (.reg
           [⟨some 19, none, .mv (.t 17)⟩,
            ⟨some 20, none, .iad 24 3 (.t 15) (.t 17)⟩,
            ⟨some 21, none, .ldn 24 3 (.t 20)⟩,
            ⟨some 8, none, .alloc 24 [.v (.int .i64 0), .v (.int .i64 0), .cap 3 40 []]⟩,
            ⟨some 7, none, .mv (.t 19)⟩,
            ⟨none, none, .stn 24 3 (.t 8) (.t 21)⟩])
      (.seq (.reg
           [⟨some 22, none, .mv (.t 1)⟩,
            ⟨some 23, none, .mv (.t 7)⟩,
            ⟨some 24, none, .iad 24 3 (.t 22) (.t 23)⟩,
            ⟨some 25, none, .ldn 24 3 (.t 24)⟩,
            ⟨some 9, none, .alloc 24 [.v (.int .i64 0), .v (.int .i64 0), .cap 3 40 []]⟩,
            ⟨none, none, .stn 24 3 (.t 9) (.t 25)⟩])
      (.seq (.reg
           [⟨some 26, none, .mv (.t 2)⟩,
            ⟨some 27, none, .ldn 24 3 (.t 8)⟩,
            ⟨some 28, none, .ldn 24 3 (.t 9)⟩,
            ⟨some 29, none, .call (.t 26) [.t 27, .t 28]⟩,
            ⟨some 30, none, .not (.t 29)⟩])
      (.cond (.t 30)
        (.seq (.reg
             [⟨some 6, none, .mv (.k (.bool false))⟩])
        (.ret))
        (.skip))))))
  (.reg
     [⟨some 31, none, .bin .add (.t 17) (.k (.int .i64 1))⟩,
      ⟨some 17, none, .mv (.t 31)⟩])))
def c63 : SCode :=
  .seq (.reg
       [⟨some 6, none, .mv (.k (.bool false))⟩])
  (.seq (.seq (.reg
         [⟨some 10, none, .mv (.t 0)⟩,
          ⟨some 11, none, .len 22 (.t 10)⟩,
          ⟨some 12, none, .mv (.t 1)⟩,
          ⟨some 13, none, .len 22 (.t 12)⟩,
          ⟨some 14, none, .bin .neq (.t 11) (.t 13)⟩])
    (.cond (.t 14)
      (.seq (.reg
           [⟨some 6, none, .mv (.k (.bool false))⟩])
      (.ret))
      (.skip)))
  (.seq (.seq (.reg
         [⟨some 15, none, .mv (.t 0)⟩,
          ⟨some 16, none, .len 22 (.t 15)⟩,
          ⟨some 17, none, .mv (.k (.int .i64 0))⟩])
    (.block 0 (.loop c63b0)))
  (.seq (.reg
       [⟨some 6, none, .mv (.k (.bool true))⟩])
  (.ret))))
def r63 : List RR := [.t 6]
theorem ok63 : okFn Go.Proofs.Try.prog 63 32 c63 r63 3 = true := by kernel_rfl


def c64b0 : SCode :=
  .seq (.seq (.reg
         [⟨some 5, none, .mv (.t 4)⟩,
          ⟨some 6, none, .mv (.t 0)⟩,
          ⟨some 7, none, .len 22 (.t 6)⟩,
          ⟨some 8, none, .bin .lss (.t 5) (.t 7)⟩])
    (.cond (.t 8)
      (.skip)
      (.exit 0)))
  (.seq (.block 1 (.reg
         [⟨some 11, none, .mv (.t 3)⟩,
          ⟨some 12, none, .mv (.t 0)⟩,
          ⟨some 13, none, .mv (.t 4)⟩,
          ⟨some 14, none, .iad 24 3 (.t 12) (.t 13)⟩,
          ⟨some 15, none, .ldn 24 3 (.t 14)⟩,
          ⟨some 16, none, .call (.f 19) [.t 15]⟩,
          ⟨some 17, none, .lit 24 3 40 [.t 16]⟩,
          ⟨some 18, none, .app 24 3 40 (.t 11) (.t 17)⟩,
          ⟨some 3, none, .mv (.t 18)⟩]))
  (.reg
     [⟨some 9, none, .mv (.t 4)⟩,
      ⟨some 10, none, .bin .add (.t 9) (.k (.int .i64 1))⟩,
      ⟨some 4, none, .mv (.t 10)⟩]))
def c64 : SCode :=
  .seq (.reg
       [⟨some 2, none, .mv (.nil 3 40)⟩])
  (.seq (.reg
       [⟨some 3, none, .mv (.nil 3 40)⟩])
  (.seq (.seq (.reg
         [⟨some 4, none, .mv (.k (.int .i64 0))⟩])
    (.block 0 (.loop c64b0)))
  (.seq (.reg
       [⟨some 19, none, .mv (.t 3)⟩,
        ⟨some 2, none, .mv (.t 19)⟩])
  (.ret))))
def r64 : List RR := [.t 2]
theorem ok64 : okFn Go.Proofs.Try.prog 64 20 c64 r64 1 = true := by kernel_rfl

end Go.Abs
