/- THIS TEXT TELLS SOME FUNCTIONS OF THE PROGRAM IN THE CALCULUS AND PROVES, BY THE KERNEL, THAT WHAT IS TOLD IS THE LOADED CODE: no condition. -/
import Derived.KernelRfl
import Derived.Test.YtmnjbnkenfefaaaProg
import Derived.Test.YtmnjbnkenfefaaaAbs21
set_option linter.unusedVariables false
set_option linter.unusedSimpArgs false
namespace Go.Abs


def c111 : SCode :=
  .seq (.reg
       [⟨some 2, none, .mv (.k (.bool false))⟩])
  (.seq (.reg
       [⟨some 3, none, .mv (.t 0)⟩,
        ⟨some 4, none, .bin .geq (.t 3) (.k (.int .i64 1))⟩,
        ⟨some 5, none, .mv (.t 4)⟩,
        ⟨some 6, some (5, true), .mv (.t 0)⟩,
        ⟨some 7, some (5, true), .bin .leq (.t 6) (.k (.int .i64 13))⟩,
        ⟨some 8, none, .pick (.t 5) (.t 7) (.k (.bool false))⟩,
        ⟨some 2, none, .mv (.t 8)⟩])
  (.ret))
def r111 : List RR := [.t 2]
theorem ok111 : okFn Go.Proofs.Try.prog 111 9 c111 r111 1 = true := by kernel_rfl


def c62 : SCode :=
  .seq (.reg
       [⟨some 2, none, .mv (.k (.int .i64 0))⟩])
  (.seq (.seq (.reg
         [⟨some 3, none, .mv (.t 0)⟩])
    (.block 0 (.seq (.seq (.reg
             [⟨some 5, none, .bin .eql (.t 3) (.k (.int .i64 1))⟩,
              ⟨some 4, none, .mv (.t 5)⟩])
        (.cond (.t 4)
          (.skip)
          (.seq (.reg
               [⟨some 6, none, .bin .eql (.t 3) (.k (.int .i64 2))⟩,
                ⟨some 4, none, .mv (.t 6)⟩])
          (.cond (.t 4)
            (.skip)
            (.reg
               [⟨some 7, none, .bin .eql (.t 3) (.k (.int .i64 3))⟩,
                ⟨some 4, none, .mv (.t 7)⟩])))))
      (.cond (.t 4)
        (.seq (.reg
             [⟨some 2, none, .mv (.k (.int .i64 0))⟩])
        (.ret))
        (.seq (.seq (.reg
               [⟨some 9, none, .bin .eql (.t 3) (.k (.int .i64 9))⟩,
                ⟨some 8, none, .mv (.t 9)⟩])
          (.cond (.t 8)
            (.skip)
            (.reg
               [⟨some 10, none, .bin .eql (.t 3) (.k (.int .i64 10))⟩,
                ⟨some 8, none, .mv (.t 10)⟩])))
        (.cond (.t 8)
          (.seq (.reg
               [⟨some 2, none, .mv (.k (.int .i64 1))⟩])
          (.ret))
          (.seq (.seq (.reg
                 [⟨some 12, none, .bin .eql (.t 3) (.k (.int .i64 8))⟩,
                  ⟨some 11, none, .mv (.t 12)⟩])
            (.cond (.t 11)
              (.skip)
              (.seq (.reg
                   [⟨some 13, none, .bin .eql (.t 3) (.k (.int .i64 11))⟩,
                    ⟨some 11, none, .mv (.t 13)⟩])
              (.cond (.t 11)
                (.skip)
                (.reg
                   [⟨some 14, none, .bin .eql (.t 3) (.k (.int .i64 13))⟩,
                    ⟨some 11, none, .mv (.t 14)⟩])))))
          (.cond (.t 11)
            (.seq (.reg
                 [⟨some 2, none, .mv (.k (.int .i64 3))⟩])
            (.ret))
            (.skip)))))))))
  (.seq (.seq (.reg
         [⟨some 15, none, .mv (.t 0)⟩,
          ⟨some 16, none, .call (.f 111) [.t 15]⟩])
    (.cond (.t 16)
      (.seq (.reg
           [⟨some 2, none, .mv (.k (.int .i64 2))⟩])
      (.ret))
      (.skip)))
  (.seq (.reg
       [⟨some 2, none, .mv (.k (.int .i64 (-1)))⟩])
  (.ret))))
def r62 : List RR := [.t 2]
theorem ok62 : okFn Go.Proofs.Try.prog 62 17 c62 r62 1 = true := by kernel_rfl


def c112 : SCode :=
  .seq (.reg
       [⟨some 4, none, .mv (.k (.bool false))⟩])
  (.seq (.reg
       [⟨some 5, none, .mv (.t 0)⟩,
        ⟨some 6, none, .mv (.t 1)⟩,
        ⟨some 7, none, .call (.f 124) [.t 5, .t 6]⟩,
        ⟨some 8, none, .bin .geq (.t 7) (.k (.int .i64 0))⟩,
        ⟨some 4, none, .mv (.t 8)⟩])
  (.ret))
def r112 : List RR := [.t 4]
theorem ok112 : okFn Go.Proofs.Try.prog 112 9 c112 r112 2 = true := by kernel_rfl


def c124b0 : SCode :=
  .seq (.reg
       [⟨some 9, none, .bin .lss (.t 8) (.t 7)⟩])
  (.seq (.cond (.t 9)
      (.skip)
      (.exit 0))
  (.seq (.block 1 (.seq (.reg
           [⟨some 10, none, .mv (.t 8)⟩,
            ⟨some 5, none, .mv (.t 10)⟩])
      (.seq (.reg
           [⟨some 11, none, .mv (.t 1)⟩,
            ⟨some 12, none, .mv (.t 0)⟩,
            ⟨some 13, none, .mv (.t 5)⟩,
            ⟨some 14, none, .iad 24 3 (.t 12) (.t 13)⟩,
            ⟨some 15, none, .ldn 24 3 (.t 14)⟩,
            ⟨some 16, none, .call (.t 11) [.t 15]⟩])
      (.cond (.t 16)
        (.seq (.reg
             [⟨some 17, none, .mv (.t 5)⟩,
              ⟨some 4, none, .mv (.t 17)⟩])
        (.ret))
        (.skip)))))
  (.reg
     [⟨some 18, none, .bin .add (.t 8) (.k (.int .i64 1))⟩,
      ⟨some 8, none, .mv (.t 18)⟩])))
def c124 : SCode :=
  .seq (.reg
       [⟨some 4, none, .mv (.k (.int .i64 0))⟩])
  (.seq (.seq (.reg
         [⟨some 6, none, .mv (.t 0)⟩,
          ⟨some 7, none, .len 22 (.t 6)⟩,
          ⟨some 8, none, .mv (.k (.int .i64 0))⟩])
    (.block 0 (.loop c124b0)))
  (.seq (.reg
       [⟨some 4, none, .mv (.k (.int .i64 (-1)))⟩])
  (.ret)))
def r124 : List RR := [.t 4]
theorem ok124 : okFn Go.Proofs.Try.prog 124 19 c124 r124 2 = true := by kernel_rfl

end Go.Abs
