/- THIS TEXT TELLS SOME FUNCTIONS OF THE PROGRAM IN THE CALCULUS AND PROVES, BY THE KERNEL, THAT WHAT IS TOLD IS THE LOADED CODE: no condition. -/
import Derived.KernelRfl
import Derived.Test.YtmnjbnkenfefaaaProg
import Derived.Test.YtmnjbnkenfefaaaAbs21
set_option linter.unusedVariables false
set_option linter.unusedSimpArgs false
namespace Go.Abs


def c27 : SCode :=
  .seq (.reg
       [⟨some 1, none, .box 24 (.t 0)⟩,
        ⟨some 2, none, .mv (.k (.int .i64 0))⟩])
  (.seq (.seq (.reg
         [⟨some 3, none, .ldn 24 3 (.t 1)⟩,
          ⟨some 4, none, .call (.f 28) [.t 3]⟩,
          ⟨some 5, none, .bin .gtr (.t 4) (.k (.int .i64 6000))⟩])
    (.cond (.t 5)
      (.seq (.reg
           [⟨some 2, none, .mv (.k (.int .i64 4))⟩])
      (.ret))
      (.skip)))
  (.seq (.seq (.reg
         [⟨some 6, none, .ldn 24 3 (.t 1)⟩,
          ⟨some 7, none, .call (.f 29) [.t 6]⟩,
          ⟨some 8, none, .bin .gtr (.t 7) (.k (.int .i64 200))⟩])
    (.cond (.t 8)
      (.seq (.reg
           [⟨some 2, none, .mv (.k (.int .i64 5))⟩])
      (.ret))
      (.skip)))
  (.seq (.seq (.reg
         [⟨some 9, none, .ldn 24 3 (.t 1)⟩,
          ⟨some 10, none, .call (.f 67) [.t 9]⟩,
          ⟨some 11, none, .not (.t 10)⟩])
    (.cond (.t 11)
      (.seq (.reg
           [⟨some 2, none, .mv (.k (.int .i64 1))⟩])
      (.ret))
      (.skip)))
  (.seq (.reg
       [⟨some 2, none, .mv (.k (.int .i64 0))⟩])
  (.ret)))))
def r27 : List RR := [.t 2]
theorem ok27 : okFn Go.Proofs.Try.prog 27 12 c27 r27 1 = true := by kernel_rfl


def c67b0 : SCode :=
  .seq (.seq (.reg
         [⟨some 32, none, .mv (.t 3)⟩,
          ⟨some 33, none, .fad 24 2 2 (.t 1)⟩,
          ⟨some 34, none, .ld1 22 (.t 33)⟩,
          ⟨some 35, none, .len 22 (.t 34)⟩,
          ⟨some 36, none, .bin .lss (.t 32) (.t 35)⟩])
    (.cond (.t 36)
      (.skip)
      (.exit 0)))
  (.seq (.block 1 (.seq (.reg
           [⟨some 39, none, .fad 24 2 2 (.t 1)⟩,
            ⟨some 40, none, .ld1 22 (.t 39)⟩,
            ⟨some 41, none, .mv (.t 3)⟩,
            ⟨some 42, none, .iad 24 3 (.t 40) (.t 41)⟩,
            ⟨some 43, none, .ldn 24 3 (.t 42)⟩,
            ⟨some 44, none, .call (.f 67) [.t 43]⟩,
            ⟨some 45, none, .not (.t 44)⟩])
      (.cond (.t 45)
        (.seq (.reg
             [⟨some 2, none, .mv (.k (.bool false))⟩])
        (.ret))
        (.skip))))
  (.reg
     [⟨some 37, none, .mv (.t 3)⟩,
      ⟨some 38, none, .bin .add (.t 37) (.k (.int .i64 1))⟩,
      ⟨some 3, none, .mv (.t 38)⟩]))
def c67 : SCode :=
  .seq (.reg
       [⟨some 1, none, .box 24 (.t 0)⟩,
        ⟨some 2, none, .mv (.k (.bool false))⟩])
  (.seq (.seq (.dreg [0, 1, 3, 0, 8, 24, 63]
         [⟨some 4, none, .fad 24 2 2 (.t 1)⟩,
          ⟨some 5, none, .ld1 22 (.t 4)⟩,
          ⟨some 6, none, .len 22 (.t 5)⟩,
          ⟨some 7, none, .fad 24 0 0 (.t 1)⟩,
          ⟨some 8, none, .ld1 3 (.t 7)⟩,
          ⟨some 9, none, .call (.f 114) [.t 8]⟩,
          ⟨some 10, none, .bin .neq (.t 6) (.t 9)⟩])
    (.cond (.t 10)
      (.seq (.reg
           [⟨some 2, none, .mv (.k (.bool false))⟩])
      (.ret))
      (.skip)))
  (.seq (.seq (.reg
         [⟨some 11, none, .fad 24 2 2 (.t 1)⟩,
          ⟨some 12, none, .ld1 22 (.t 11)⟩,
          ⟨some 13, none, .len 22 (.t 12)⟩,
          ⟨some 14, none, .bin .eql (.t 13) (.k (.int .i64 0))⟩,
          ⟨some 15, none, .mv (.t 14)⟩,
          ⟨some 16, some (15, true), .fad 24 1 1 (.t 1)⟩,
          ⟨some 17, some (15, true), .ld1 3 (.t 16)⟩,
          ⟨some 18, some (15, true), .call (.f 101) [.t 17, .k (.int .i64 0), .k (.int .i64 65535)]⟩,
          ⟨some 19, some (15, true), .not (.t 18)⟩,
          ⟨some 20, none, .pick (.t 15) (.t 19) (.k (.bool false))⟩,
          ⟨some 21, none, .mv (.t 20)⟩,
          ⟨some 22, some (21, false), .fad 24 2 2 (.t 1)⟩,
          ⟨some 23, some (21, false), .ld1 22 (.t 22)⟩,
          ⟨some 24, some (21, false), .len 22 (.t 23)⟩,
          ⟨some 25, some (21, false), .bin .gtr (.t 24) (.k (.int .i64 0))⟩,
          ⟨some 26, some (21, false), .mv (.t 25)⟩,
          ⟨some 27, some (26, true), .fad 24 1 1 (.t 1)⟩,
          ⟨some 28, some (26, true), .ld1 3 (.t 27)⟩,
          ⟨some 29, some (26, true), .bin .neq (.t 28) (.k (.int .i64 0))⟩,
          ⟨some 30, some (21, false), .pick (.t 26) (.t 29) (.k (.bool false))⟩,
          ⟨some 31, none, .pick (.t 21) (.k (.bool true)) (.t 30)⟩])
    (.cond (.t 31)
      (.seq (.reg
           [⟨some 2, none, .mv (.k (.bool false))⟩])
      (.ret))
      (.skip)))
  (.seq (.seq (.reg
         [⟨some 3, none, .mv (.k (.int .i64 0))⟩])
    (.block 0 (.loop c67b0)))
  (.seq (.reg
       [⟨some 2, none, .mv (.k (.bool true))⟩])
  (.ret)))))
def r67 : List RR := [.t 2]
theorem ok67 : okFn Go.Proofs.Try.prog 67 46 c67 r67 1 = true := by kernel_rfl


def c101 : SCode :=
  .seq (.reg
       [⟨some 6, none, .mv (.k (.bool false))⟩])
  (.seq (.reg
       [⟨some 7, none, .mv (.t 0)⟩,
        ⟨some 8, none, .mv (.t 1)⟩,
        ⟨some 9, none, .bin .geq (.t 7) (.t 8)⟩,
        ⟨some 10, none, .mv (.t 9)⟩,
        ⟨some 11, some (10, true), .mv (.t 0)⟩,
        ⟨some 12, some (10, true), .mv (.t 2)⟩,
        ⟨some 13, some (10, true), .bin .leq (.t 11) (.t 12)⟩,
        ⟨some 14, none, .pick (.t 10) (.t 13) (.k (.bool false))⟩,
        ⟨some 6, none, .mv (.t 14)⟩])
  (.ret))
def r101 : List RR := [.t 6]
theorem ok101 : okFn Go.Proofs.Try.prog 101 15 c101 r101 3 = true := by kernel_rfl


def c114 : SCode :=
  .seq (.reg
       [⟨some 2, none, .mv (.k (.int .i64 0))⟩])
  (.seq (.seq (.reg
         [⟨some 3, none, .mv (.t 0)⟩])
    (.block 0 (.seq (.seq (.reg
             [⟨some 5, none, .bin .eql (.t 3) (.k (.int .i64 1))⟩,
              ⟨some 4, none, .mv (.t 5)⟩])
        (.cond (.t 4)
          (.skip)
          (.seq (.reg
               [⟨some 6, none, .bin .eql (.t 3) (.k (.int .i64 2))⟩,
                ⟨some 4, none, .mv (.t 6)⟩])
          (.cond (.t 4)
            (.skip)
            (.reg
               [⟨some 7, none, .bin .eql (.t 3) (.k (.int .i64 3))⟩,
                ⟨some 4, none, .mv (.t 7)⟩])))))
      (.cond (.t 4)
        (.seq (.reg
             [⟨some 2, none, .mv (.k (.int .i64 0))⟩])
        (.ret))
        (.seq (.seq (.reg
               [⟨some 9, none, .bin .eql (.t 3) (.k (.int .i64 9))⟩,
                ⟨some 8, none, .mv (.t 9)⟩])
          (.cond (.t 8)
            (.skip)
            (.reg
               [⟨some 10, none, .bin .eql (.t 3) (.k (.int .i64 10))⟩,
                ⟨some 8, none, .mv (.t 10)⟩])))
        (.cond (.t 8)
          (.seq (.reg
               [⟨some 2, none, .mv (.k (.int .i64 1))⟩])
          (.ret))
          (.seq (.seq (.reg
                 [⟨some 12, none, .bin .eql (.t 3) (.k (.int .i64 4))⟩,
                  ⟨some 11, none, .mv (.t 12)⟩])
            (.cond (.t 11)
              (.skip)
              (.seq (.reg
                   [⟨some 13, none, .bin .eql (.t 3) (.k (.int .i64 5))⟩,
                    ⟨some 11, none, .mv (.t 13)⟩])
              (.cond (.t 11)
                (.skip)
                (.seq (.reg
                     [⟨some 14, none, .bin .eql (.t 3) (.k (.int .i64 6))⟩,
                      ⟨some 11, none, .mv (.t 14)⟩])
                (.cond (.t 11)
                  (.skip)
                  (.seq (.reg
                       [⟨some 15, none, .bin .eql (.t 3) (.k (.int .i64 7))⟩,
                        ⟨some 11, none, .mv (.t 15)⟩])
                  (.cond (.t 11)
                    (.skip)
                    (.reg
                       [⟨some 16, none, .bin .eql (.t 3) (.k (.int .i64 12))⟩,
                        ⟨some 11, none, .mv (.t 16)⟩])))))))))
          (.cond (.t 11)
            (.seq (.reg
                 [⟨some 2, none, .mv (.k (.int .i64 2))⟩])
            (.ret))
            (.seq (.seq (.reg
                   [⟨some 18, none, .bin .eql (.t 3) (.k (.int .i64 8))⟩,
                    ⟨some 17, none, .mv (.t 18)⟩])
              (.cond (.t 17)
                (.skip)
                (.seq (.reg
                     [⟨some 19, none, .bin .eql (.t 3) (.k (.int .i64 11))⟩,
                      ⟨some 17, none, .mv (.t 19)⟩])
                (.cond (.t 17)
                  (.skip)
                  (.reg
                     [⟨some 20, none, .bin .eql (.t 3) (.k (.int .i64 13))⟩,
                      ⟨some 17, none, .mv (.t 20)⟩])))))
            (.cond (.t 17)
              (.seq (.reg
                   [⟨some 2, none, .mv (.k (.int .i64 3))⟩])
              (.ret))
              (.skip)))))))))))
  (.seq (.reg
       [⟨some 2, none, .mv (.k (.int .i64 (-1)))⟩])
  (.ret)))
def r114 : List RR := [.t 2]
theorem ok114 : okFn Go.Proofs.Try.prog 114 21 c114 r114 1 = true := by kernel_rfl


def c5 : SCode :=
  .seq (.reg
       [⟨some 2, none, .box 24 (.t 0)⟩,
        ⟨some 4, none, .mv (.k (.bool false))⟩])
  (.seq (.seq (.reg
         [⟨some 6, none, .ldn 24 3 (.t 2)⟩,
          ⟨some 7, none, .lit 24 3 40 [.t 6]⟩,
          ⟨some 8, none, .call (.f 17) [.t 7]⟩,
          ⟨some 9, none, .mv (.t 8)⟩,
          ⟨some 10, some (9, false), .ldn 24 3 (.t 2)⟩,
          ⟨some 11, some (9, false), .call (.f 27) [.t 10]⟩,
          ⟨some 12, some (9, false), .bin .neq (.t 11) (.k (.int .i64 0))⟩,
          ⟨some 13, none, .pick (.t 9) (.k (.bool true)) (.t 12)⟩,
          ⟨some 14, none, .mv (.t 13)⟩,
          ⟨some 15, some (14, false), .ldn 24 3 (.t 2)⟩,
          ⟨some 16, some (14, false), .call (.f 28) [.t 15]⟩,
          ⟨some 17, some (14, false), .bin .geq (.t 16) (.k (.int .i64 6000))⟩,
          ⟨some 18, none, .pick (.t 14) (.k (.bool true)) (.t 17)⟩,
          ⟨some 19, none, .mv (.t 18)⟩,
          ⟨some 20, some (19, false), .ldn 24 3 (.t 2)⟩,
          ⟨some 21, some (19, false), .call (.f 29) [.t 20]⟩,
          ⟨some 22, some (19, false), .bin .geq (.t 21) (.k (.int .i64 200))⟩,
          ⟨some 23, none, .pick (.t 19) (.k (.bool true)) (.t 22)⟩])
    (.cond (.t 23)
      (.seq (.reg
           [⟨some 4, none, .mv (.k (.bool true))⟩])
      (.ret))
      (.skip)))
  (.seq (.reg
       [⟨some 24, none, .ldn 24 3 (.t 2)⟩,
        ⟨some 25, none, .call (.f 19) [.t 24]⟩,
        ⟨some 5, none, .alloc 24 [.v (.int .i64 0), .v (.int .i64 0), .cap 3 40 []]⟩,
        ⟨none, none, .stn 24 3 (.t 5) (.t 25)⟩])
  (.seq (.seq (.reg
         [⟨some 26, none, .mv (.t 1)⟩,
          ⟨some 27, none, .conv 3 32 .u64 (.t 26)⟩,
          ⟨some 28, none, .bin .rem (.t 27) (.k (.int .u64 4))⟩])
    (.block 0 (.seq (.reg
           [⟨some 43, none, .bin .eql (.t 28) (.k (.int .u64 0))⟩,
            ⟨some 42, none, .mv (.t 43)⟩])
      (.cond (.t 42)
        (.reg
           [⟨some 44, none, .fad 24 0 0 (.t 5)⟩,
            ⟨none, none, .st1 3 (.t 44) (.k (.int .i64 14))⟩])
        (.seq (.reg
             [⟨some 46, none, .bin .eql (.t 28) (.k (.int .u64 1))⟩,
              ⟨some 45, none, .mv (.t 46)⟩])
        (.cond (.t 45)
          (.seq (.reg
               [⟨some 47, none, .fad 24 2 2 (.t 5)⟩,
                ⟨some 48, none, .ld1 22 (.t 47)⟩,
                ⟨some 49, none, .len 22 (.t 48)⟩,
                ⟨some 50, none, .bin .gtr (.t 49) (.k (.int .i64 0))⟩])
          (.cond (.t 50)
            (.reg
               [⟨some 51, none, .fad 24 1 1 (.t 5)⟩,
                ⟨none, none, .st1 3 (.t 51) (.k (.int .i64 1))⟩])
            (.reg
               [⟨some 52, none, .fad 24 1 1 (.t 5)⟩,
                ⟨none, none, .st1 3 (.t 52) (.k (.int .i64 65536))⟩])))
          (.seq (.reg
               [⟨some 54, none, .bin .eql (.t 28) (.k (.int .u64 2))⟩,
                ⟨some 53, none, .mv (.t 54)⟩])
          (.cond (.t 53)
            (.dreg [0, 1, 0, 4, 15, 31, 63]
               [⟨some 55, none, .fad 24 2 2 (.t 5)⟩,
                ⟨some 56, none, .ld1 22 (.t 55)⟩,
                ⟨some 57, none, .call (.f 24) [.k (.int .i64 0)]⟩,
                ⟨some 58, none, .lit 24 3 40 [.t 57]⟩,
                ⟨some 59, none, .app 24 3 40 (.t 56) (.t 58)⟩,
                ⟨some 60, none, .fad 24 2 2 (.t 5)⟩,
                ⟨none, none, .st1 22 (.t 60) (.t 59)⟩])
            (.seq (.reg
                 [⟨some 29, none, .fad 24 2 2 (.t 5)⟩,
                  ⟨some 30, none, .ld1 22 (.t 29)⟩,
                  ⟨some 31, none, .len 22 (.t 30)⟩,
                  ⟨some 32, none, .bin .eql (.t 31) (.k (.int .i64 0))⟩])
            (.cond (.t 32)
              (.reg
                 [⟨some 33, none, .fad 24 1 1 (.t 5)⟩,
                  ⟨none, none, .st1 3 (.t 33) (.k (.int .i64 (-1)))⟩])
              (.reg
                 [⟨some 34, none, .fad 24 2 2 (.t 5)⟩,
                  ⟨some 35, none, .ld1 22 (.t 34)⟩,
                  ⟨some 36, none, .fad 24 2 2 (.t 5)⟩,
                  ⟨some 37, none, .ld1 22 (.t 36)⟩,
                  ⟨some 38, none, .len 22 (.t 37)⟩,
                  ⟨some 39, none, .bin .sub (.t 38) (.k (.int .i64 1))⟩,
                  ⟨some 40, none, .slc 24 3 40 (.t 35) none (some (.t 39)) none⟩,
                  ⟨some 41, none, .fad 24 2 2 (.t 5)⟩,
                  ⟨none, none, .st1 22 (.t 41) (.t 40)⟩])))))))))))
  (.seq (.reg
       [⟨some 61, none, .ldn 24 3 (.t 2)⟩,
        ⟨some 62, none, .call (.f 22) [.t 61]⟩,
        ⟨some 63, none, .bin .eql (.t 62) (.k (.int .i64 0))⟩,
        ⟨some 64, none, .mv (.t 63)⟩,
        ⟨some 65, some (64, true), .ldn 24 3 (.t 5)⟩,
        ⟨some 66, some (64, true), .call (.f 22) [.t 65]⟩,
        ⟨some 67, some (64, true), .bin .eql (.t 66) (.k (.int .i64 1))⟩,
        ⟨some 68, none, .pick (.t 64) (.t 67) (.k (.bool false))⟩,
        ⟨some 69, none, .mv (.t 68)⟩,
        ⟨some 70, some (69, true), .ldn 24 3 (.t 5)⟩,
        ⟨some 71, some (69, true), .call (.f 30) [.t 70, .k (.int .i64 100), .k (.int .i64 100)]⟩,
        ⟨some 72, some (69, true), .not (.t 71)⟩,
        ⟨some 73, none, .pick (.t 69) (.t 72) (.k (.bool false))⟩,
        ⟨some 74, none, .mv (.t 73)⟩,
        ⟨some 75, some (74, true), .call (.f 23) []⟩,
        ⟨some 76, none, .pick (.t 74) (.t 75) (.k (.bool false))⟩,
        ⟨some 4, none, .mv (.t 76)⟩])
  (.ret)))))
def r5 : List RR := [.t 4]
theorem ok5 : okFn Go.Proofs.Try.prog 5 77 c5 r5 2 = true := by kernel_rfl


def c6 : SCode :=
  .seq (.reg
       [⟨some 4, none, .box 24 (.t 0)⟩,
        ⟨some 5, none, .box 24 (.t 1)⟩,
        ⟨some 8, none, .mv (.k (.bool false))⟩])
  (.seq (.seq (.reg
         [⟨some 11, none, .ldn 24 3 (.t 4)⟩,
          ⟨some 12, none, .ldn 24 3 (.t 5)⟩,
          ⟨some 13, none, .lit 24 3 40 [.t 11, .t 12]⟩,
          ⟨some 14, none, .call (.f 17) [.t 13]⟩])
    (.cond (.t 14)
      (.seq (.reg
           [⟨some 8, none, .mv (.k (.bool true))⟩])
      (.ret))
      (.skip)))
  (.seq (.reg
       [⟨some 15, none, .mv (.t 3)⟩,
        ⟨some 16, none, .conv 3 32 .u64 (.t 15)⟩,
        ⟨some 17, none, .bin .rem (.t 16) (.k (.int .u64 10))⟩,
        ⟨some 18, none, .conv 32 3 .i64 (.t 17)⟩,
        ⟨some 3, none, .mv (.t 18)⟩])
  (.seq (.dreg [0, 0, 2, 6, 14, 31, 63, 0, 0, 384, 1023, 0, 4095]
       [⟨some 19, none, .lit 3 1 8 [.k (.int .i64 4), .k (.int .i64 5), .k (.int .i64 7), .k (.int .i64 6), .k (.int .i64 12)]⟩,
        ⟨some 20, none, .mv (.t 2)⟩,
        ⟨some 21, none, .conv 3 32 .u64 (.t 20)⟩,
        ⟨some 22, none, .bin .rem (.t 21) (.k (.int .u64 5))⟩,
        ⟨some 23, none, .conv 32 3 .i64 (.t 22)⟩,
        ⟨some 24, none, .iad 3 1 (.t 19) (.t 23)⟩,
        ⟨some 25, none, .ld1 3 (.t 24)⟩,
        ⟨some 26, none, .ldn 24 3 (.t 4)⟩,
        ⟨some 27, none, .ldn 24 3 (.t 5)⟩,
        ⟨some 28, none, .lit 24 3 40 [.t 26, .t 27]⟩,
        ⟨some 29, none, .call (.f 25) [.t 25, .t 28]⟩,
        ⟨some 9, none, .alloc 24 [.v (.int .i64 0), .v (.int .i64 0), .cap 3 40 []]⟩,
        ⟨none, none, .stn 24 3 (.t 9) (.t 29)⟩])
  (.seq (.seq (.reg
         [⟨some 30, none, .ldn 24 3 (.t 9)⟩,
          ⟨some 31, none, .call (.f 22) [.t 30]⟩,
          ⟨some 32, none, .bin .neq (.t 31) (.k (.int .i64 0))⟩])
    (.cond (.t 32)
      (.seq (.reg
           [⟨some 33, none, .call (.f 23) []⟩,
            ⟨some 8, none, .mv (.t 33)⟩])
      (.ret))
      (.skip)))
  (.seq (.dreg [0, 0, 3, 7, 15, 15, 15, 79, 207, 495, 1023, 2047, 4095]
       [⟨some 34, none, .ldn 24 3 (.t 4)⟩,
        ⟨some 35, none, .mv (.t 3)⟩,
        ⟨some 36, none, .call (.f 30) [.t 34, .t 35, .k (.int .i64 65536)]⟩,
        ⟨some 37, none, .mv (.t 36)⟩,
        ⟨some 38, some (37, true), .ldn 24 3 (.t 5)⟩,
        ⟨some 39, some (37, true), .mv (.t 3)⟩,
        ⟨some 40, some (37, true), .fad 24 0 0 (.t 9)⟩,
        ⟨some 41, some (37, true), .ld1 3 (.t 40)⟩,
        ⟨some 42, some (37, true), .call (.f 31) [.t 41, .k (.int .i64 1)]⟩,
        ⟨some 43, some (37, true), .bin .add (.t 39) (.t 42)⟩,
        ⟨some 44, some (37, true), .call (.f 30) [.t 38, .t 43, .k (.int .i64 65536)]⟩,
        ⟨some 45, none, .pick (.t 37) (.t 44) (.k (.bool false))⟩,
        ⟨some 10, none, .mv (.t 45)⟩])
  (.seq (.dreg [0, 0, 3, 0, 15, 31, 63, 63, 191, 511, 1023, 2047, 4095, 8191, 16383]
       [⟨some 46, none, .ldn 24 3 (.t 9)⟩,
        ⟨some 47, none, .mv (.t 3)⟩,
        ⟨some 48, none, .call (.f 30) [.t 46, .t 47, .k (.int .i64 65536)]⟩,
        ⟨some 49, none, .mv (.t 10)⟩,
        ⟨some 50, none, .beq false 4 (.t 48) (.t 49)⟩,
        ⟨some 51, none, .mv (.t 50)⟩,
        ⟨some 52, some (51, true), .ldn 24 3 (.t 9)⟩,
        ⟨some 53, some (51, true), .ldn 24 3 (.t 9)⟩,
        ⟨some 54, some (51, true), .call (.f 19) [.t 53]⟩,
        ⟨some 55, some (51, true), .call (.f 18) [.t 52, .t 54]⟩,
        ⟨some 56, none, .pick (.t 51) (.t 55) (.k (.bool false))⟩,
        ⟨some 57, none, .mv (.t 56)⟩,
        ⟨some 58, some (57, true), .call (.f 23) []⟩,
        ⟨some 59, none, .pick (.t 57) (.t 58) (.k (.bool false))⟩,
        ⟨some 8, none, .mv (.t 59)⟩])
  (.ret)))))))
def r6 : List RR := [.t 8]
theorem ok6 : okFn Go.Proofs.Try.prog 6 60 c6 r6 4 = true := by kernel_rfl

end Go.Abs
