/- THIS TEXT TELLS SOME FUNCTIONS OF THE PROGRAM IN THE CALCULUS, PROVES BY THE KERNEL THAT WHAT IS TOLD IS THE LOADED CODE, AND PROVES WHAT THEY COMPUTE: for every argument that is told; the conditions stand in each theorem. -/
import Derived.KernelRfl
import Derived.Test.YtmnjbnkenfefaaaProg
import Derived.Test.YtmnjbnkenfefaaaScM1
set_option linter.unusedVariables false
set_option linter.unusedSimpArgs false
namespace Go.Abs

/- porism/porismlaw02.TermExact -/
def c13 : SCode :=
  .seq (.reg
       [⟨some 4, none, .box 24 (.t 0)⟩,
        ⟨some 5, none, .box 24 (.t 1)⟩,
        ⟨some 8, none, .mv (.k (.bool false))⟩])
  (.seq (.seq (.reg
         [⟨some 10, none, .ldn 24 3 (.t 4)⟩,
          ⟨some 11, none, .ldn 24 3 (.t 5)⟩,
          ⟨some 12, none, .lit 24 3 40 [.t 10, .t 11]⟩,
          ⟨some 13, none, .call (.f 17) [.t 12]⟩])
    (.cond (.t 13)
      (.seq (.reg
           [⟨some 8, none, .mv (.k (.bool true))⟩])
      (.ret))
      (.skip)))
  (.seq (.reg
       [⟨some 14, none, .ldn 24 3 (.t 4)⟩,
        ⟨some 15, none, .call (.f 19) [.t 14]⟩,
        ⟨some 9, none, .alloc 24 [.v (.int .i64 0), .v (.int .i64 0), .cap 3 40 []]⟩,
        ⟨none, none, .stn 24 3 (.t 9) (.t 15)⟩])
  (.seq (.dreg [0, 1, 0, 7, 15, 31, 63, 127, 63, 511, 1023, 2047, 4095, 8191, 16383, 8191, 65535, 131071, 262143, 524287, 1048575, 1048575, 4194303, 1048575, 1048575, 33554431, 67108863, 134217727, 268435455, 536870911, 536870911, 536870911, 4294967295, 536870911, 536870911, 536870911, 68719476735, 137438953471, 274877906943, 549755813887, 1099511627775, 2199023255551, 1099511627775, 8796093022207, 17592186044415, 35184372088831, 70368744177663, 140737488355327, 140737488355327, 562949953421311, 1125899906842623, 2251799813685247, 4503599627370495, 9007199254740991, 18014398509481983]
       [⟨some 16, none, .ldn 24 3 (.t 9)⟩,
        ⟨some 17, none, .call (.f 22) [.t 16]⟩,
        ⟨some 18, none, .ldn 24 3 (.t 4)⟩,
        ⟨some 19, none, .call (.f 27) [.t 18]⟩,
        ⟨some 20, none, .bin .eql (.t 17) (.t 19)⟩,
        ⟨some 21, none, .mv (.t 20)⟩,
        ⟨some 22, some (21, true), .ldn 24 3 (.t 9)⟩,
        ⟨some 23, some (21, true), .call (.f 20) [.t 22]⟩,
        ⟨some 24, some (21, true), .ldn 24 3 (.t 4)⟩,
        ⟨some 25, some (21, true), .call (.f 28) [.t 24]⟩,
        ⟨some 26, some (21, true), .bin .eql (.t 23) (.t 25)⟩,
        ⟨some 27, none, .pick (.t 21) (.t 26) (.k (.bool false))⟩,
        ⟨some 28, none, .mv (.t 27)⟩,
        ⟨some 29, some (28, true), .ldn 24 3 (.t 9)⟩,
        ⟨some 30, some (28, true), .call (.f 21) [.t 29]⟩,
        ⟨some 31, some (28, true), .ldn 24 3 (.t 4)⟩,
        ⟨some 32, some (28, true), .call (.f 29) [.t 31]⟩,
        ⟨some 33, some (28, true), .bin .eql (.t 30) (.t 32)⟩,
        ⟨some 34, none, .pick (.t 28) (.t 33) (.k (.bool false))⟩,
        ⟨some 35, none, .mv (.t 34)⟩,
        ⟨some 36, some (35, true), .ldn 24 3 (.t 9)⟩,
        ⟨some 37, some (35, true), .ldn 24 3 (.t 5)⟩,
        ⟨some 38, some (35, true), .call (.f 18) [.t 36, .t 37]⟩,
        ⟨some 39, some (35, true), .ldn 24 3 (.t 4)⟩,
        ⟨some 40, some (35, true), .ldn 24 3 (.t 5)⟩,
        ⟨some 41, some (35, true), .call (.f 45) [.t 39, .t 40]⟩,
        ⟨some 42, some (35, true), .beq false 4 (.t 38) (.t 41)⟩,
        ⟨some 43, none, .pick (.t 35) (.t 42) (.k (.bool false))⟩,
        ⟨some 44, none, .mv (.t 43)⟩,
        ⟨some 45, some (44, true), .ldn 24 3 (.t 9)⟩,
        ⟨some 46, some (44, true), .mv (.t 2)⟩,
        ⟨some 47, some (44, true), .mv (.t 3)⟩,
        ⟨some 48, some (44, true), .call (.f 30) [.t 45, .t 46, .t 47]⟩,
        ⟨some 49, some (44, true), .ldn 24 3 (.t 4)⟩,
        ⟨some 50, some (44, true), .mv (.t 2)⟩,
        ⟨some 51, some (44, true), .mv (.t 3)⟩,
        ⟨some 52, some (44, true), .call (.f 58) [.t 49, .t 50, .t 51]⟩,
        ⟨some 53, some (44, true), .beq false 4 (.t 48) (.t 52)⟩,
        ⟨some 54, none, .pick (.t 44) (.t 53) (.k (.bool false))⟩,
        ⟨some 55, none, .mv (.t 54)⟩,
        ⟨some 56, some (55, true), .ldn 24 3 (.t 9)⟩,
        ⟨some 57, some (55, true), .call (.f 60) [.t 56]⟩,
        ⟨some 58, some (55, true), .ldn 24 3 (.t 4)⟩,
        ⟨some 59, some (55, true), .call (.f 61) [.t 58]⟩,
        ⟨some 60, some (55, true), .call (.f 59) [.t 57, .t 59]⟩,
        ⟨some 61, none, .pick (.t 55) (.t 60) (.k (.bool false))⟩,
        ⟨some 62, none, .mv (.t 61)⟩,
        ⟨some 63, some (62, true), .ldn 24 3 (.t 9)⟩,
        ⟨some 64, some (62, true), .ldn 24 3 (.t 4)⟩,
        ⟨some 65, some (62, true), .call (.f 45) [.t 63, .t 64]⟩,
        ⟨some 66, none, .pick (.t 62) (.t 65) (.k (.bool false))⟩,
        ⟨some 67, none, .mv (.t 66)⟩,
        ⟨some 68, some (67, true), .call (.f 23) []⟩,
        ⟨some 69, none, .pick (.t 67) (.t 68) (.k (.bool false))⟩,
        ⟨some 8, none, .mv (.t 69)⟩])
  (.ret))))
def r13 : List RR := [.t 8]
theorem ok13 : okFn Go.Proofs.Try.prog 13 70 c13 r13 4 = true := by kernel_rfl

/- porism/porismlaw02.TermScope -/
def c14 : SCode :=
  .seq (.reg
       [⟨some 4, none, .box 24 (.t 0)⟩,
        ⟨some 8, none, .mv (.k (.bool false))⟩])
  (.seq (.seq (.reg
         [⟨some 11, none, .ldn 24 3 (.t 4)⟩,
          ⟨some 12, none, .lit 24 3 40 [.t 11]⟩,
          ⟨some 13, none, .call (.f 17) [.t 12]⟩])
    (.cond (.t 13)
      (.seq (.reg
           [⟨some 8, none, .mv (.k (.bool true))⟩])
      (.ret))
      (.skip)))
  (.seq (.reg
       [⟨some 14, none, .mv (.t 1)⟩,
        ⟨some 15, none, .conv 3 32 .u64 (.t 14)⟩,
        ⟨some 16, none, .bin .rem (.t 15) (.k (.int .u64 100))⟩,
        ⟨some 17, none, .conv 32 3 .i64 (.t 16)⟩,
        ⟨some 18, none, .mv (.t 2)⟩,
        ⟨some 19, none, .conv 3 32 .u64 (.t 18)⟩,
        ⟨some 20, none, .bin .rem (.t 19) (.k (.int .u64 100))⟩,
        ⟨some 21, none, .conv 32 3 .i64 (.t 20)⟩,
        ⟨some 22, none, .mv (.t 3)⟩,
        ⟨some 23, none, .conv 3 32 .u64 (.t 22)⟩,
        ⟨some 24, none, .bin .rem (.t 23) (.k (.int .u64 100))⟩,
        ⟨some 25, none, .conv 32 3 .i64 (.t 24)⟩,
        ⟨some 1, none, .mv (.t 17)⟩,
        ⟨some 2, none, .mv (.t 21)⟩,
        ⟨some 3, none, .mv (.t 25)⟩])
  (.seq (.reg
       [⟨some 26, none, .ldn 24 3 (.t 4)⟩,
        ⟨some 27, none, .mv (.t 1)⟩,
        ⟨some 28, none, .mv (.t 2)⟩,
        ⟨some 29, none, .call (.f 30) [.t 26, .t 27, .t 28]⟩,
        ⟨some 9, none, .mv (.t 29)⟩])
  (.seq (.seq (.reg
         [⟨some 30, none, .mv (.t 9)⟩,
          ⟨some 31, none, .mv (.t 30)⟩,
          ⟨some 32, some (31, true), .ldn 24 3 (.t 4)⟩,
          ⟨some 33, some (31, true), .mv (.t 1)⟩,
          ⟨some 34, some (31, true), .mv (.t 3)⟩,
          ⟨some 35, some (31, true), .bin .add (.t 33) (.t 34)⟩,
          ⟨some 36, some (31, true), .mv (.t 2)⟩,
          ⟨some 37, some (31, true), .call (.f 30) [.t 32, .t 35, .t 36]⟩,
          ⟨some 38, some (31, true), .not (.t 37)⟩,
          ⟨some 39, some (31, true), .mv (.t 38)⟩,
          ⟨some 40, some (39, false), .ldn 24 3 (.t 4)⟩,
          ⟨some 41, some (39, false), .mv (.t 1)⟩,
          ⟨some 42, some (39, false), .mv (.t 2)⟩,
          ⟨some 43, some (39, false), .mv (.t 3)⟩,
          ⟨some 44, some (39, false), .bin .add (.t 42) (.t 43)⟩,
          ⟨some 45, some (39, false), .call (.f 30) [.t 40, .t 41, .t 44]⟩,
          ⟨some 46, some (39, false), .not (.t 45)⟩,
          ⟨some 47, some (31, true), .pick (.t 39) (.k (.bool true)) (.t 46)⟩,
          ⟨some 48, some (31, true), .mv (.t 47)⟩,
          ⟨some 49, some (48, false), .ldn 24 3 (.t 4)⟩,
          ⟨some 50, some (48, false), .call (.f 22) [.t 49]⟩,
          ⟨some 51, some (48, false), .bin .neq (.t 50) (.k (.int .i64 0))⟩,
          ⟨some 52, some (31, true), .pick (.t 48) (.k (.bool true)) (.t 51)⟩,
          ⟨some 53, none, .pick (.t 31) (.t 52) (.k (.bool false))⟩])
    (.cond (.t 53)
      (.seq (.reg
           [⟨some 8, none, .mv (.k (.bool false))⟩])
      (.ret))
      (.skip)))
  (.seq (.reg
       [⟨some 54, none, .ldn 24 3 (.t 4)⟩,
        ⟨some 55, none, .call (.f 60) [.t 54]⟩,
        ⟨some 10, none, .mv (.t 55)⟩])
  (.seq (.seq (.dreg [0, 1, 3, 7, 15, 31, 63, 127, 127, 383, 895, 2047, 4095, 127, 16383, 32767, 65535, 65535, 65535, 65535, 589823, 1638399, 3997695, 8191999, 16580607, 33554431, 67108863, 134217727, 268435455, 536870911, 536870911, 536870911, 536870911, 4831838207, 13421772799, 32749125631, 67108863999, 137438953471, 274877906943, 549755813887]
         [⟨some 56, none, .mv (.t 9)⟩,
          ⟨some 57, none, .mv (.t 56)⟩,
          ⟨some 58, some (57, true), .mv (.t 10)⟩,
          ⟨some 59, some (57, true), .len 38 (.t 58)⟩,
          ⟨some 60, some (57, true), .bin .gtr (.t 59) (.k (.int .i64 0))⟩,
          ⟨some 61, none, .pick (.t 57) (.t 60) (.k (.bool false))⟩,
          ⟨some 62, none, .mv (.t 61)⟩,
          ⟨some 63, some (62, true), .mv (.t 10)⟩,
          ⟨some 64, some (62, true), .mv (.t 10)⟩,
          ⟨some 65, some (62, true), .len 38 (.t 64)⟩,
          ⟨some 66, some (62, true), .bin .sub (.t 65) (.k (.int .i64 1))⟩,
          ⟨some 67, some (62, true), .iad 3 1 (.t 63) (.t 66)⟩,
          ⟨some 68, some (62, true), .ld1 3 (.t 67)⟩,
          ⟨some 69, some (62, true), .mv (.t 2)⟩,
          ⟨some 70, some (62, true), .bin .geq (.t 68) (.t 69)⟩,
          ⟨some 71, some (62, true), .mv (.t 70)⟩,
          ⟨some 72, some (71, false), .ldn 24 3 (.t 4)⟩,
          ⟨some 73, some (71, false), .mv (.t 1)⟩,
          ⟨some 74, some (71, false), .mv (.t 10)⟩,
          ⟨some 75, some (71, false), .mv (.t 10)⟩,
          ⟨some 76, some (71, false), .len 38 (.t 75)⟩,
          ⟨some 77, some (71, false), .bin .sub (.t 76) (.k (.int .i64 1))⟩,
          ⟨some 78, some (71, false), .iad 3 1 (.t 74) (.t 77)⟩,
          ⟨some 79, some (71, false), .ld1 3 (.t 78)⟩,
          ⟨some 80, some (71, false), .bin .add (.t 79) (.k (.int .i64 1))⟩,
          ⟨some 81, some (71, false), .call (.f 30) [.t 72, .t 73, .t 80]⟩,
          ⟨some 82, some (71, false), .not (.t 81)⟩,
          ⟨some 83, some (62, true), .pick (.t 71) (.k (.bool true)) (.t 82)⟩,
          ⟨some 84, some (62, true), .mv (.t 83)⟩,
          ⟨some 85, some (84, false), .ldn 24 3 (.t 4)⟩,
          ⟨some 86, some (84, false), .mv (.t 1)⟩,
          ⟨some 87, some (84, false), .mv (.t 10)⟩,
          ⟨some 88, some (84, false), .mv (.t 10)⟩,
          ⟨some 89, some (84, false), .len 38 (.t 88)⟩,
          ⟨some 90, some (84, false), .bin .sub (.t 89) (.k (.int .i64 1))⟩,
          ⟨some 91, some (84, false), .iad 3 1 (.t 87) (.t 90)⟩,
          ⟨some 92, some (84, false), .ld1 3 (.t 91)⟩,
          ⟨some 93, some (84, false), .call (.f 30) [.t 85, .t 86, .t 92]⟩,
          ⟨some 94, some (62, true), .pick (.t 84) (.k (.bool true)) (.t 93)⟩,
          ⟨some 95, none, .pick (.t 62) (.t 94) (.k (.bool false))⟩])
    (.cond (.t 95)
      (.seq (.reg
           [⟨some 8, none, .mv (.k (.bool false))⟩])
      (.ret))
      (.skip)))
  (.seq (.seq (.dreg [0, 1, 3, 7, 15, 31, 63, 63, 191, 63, 1023, 63, 63, 4159, 16383, 32767, 65535, 131071]
         [⟨some 96, none, .mv (.t 9)⟩,
          ⟨some 97, none, .mv (.t 96)⟩,
          ⟨some 98, some (97, true), .mv (.t 1)⟩,
          ⟨some 99, some (97, true), .bin .gtr (.t 98) (.k (.int .i64 0))⟩,
          ⟨some 100, none, .pick (.t 97) (.t 99) (.k (.bool false))⟩,
          ⟨some 101, none, .mv (.t 100)⟩,
          ⟨some 102, some (101, true), .ldn 24 3 (.t 4)⟩,
          ⟨some 103, some (101, true), .mv (.t 1)⟩,
          ⟨some 104, some (101, true), .bin .sub (.t 103) (.k (.int .i64 1))⟩,
          ⟨some 105, some (101, true), .mv (.t 2)⟩,
          ⟨some 106, some (101, true), .call (.f 30) [.t 102, .t 104, .t 105]⟩,
          ⟨some 107, some (101, true), .ldn 24 3 (.t 4)⟩,
          ⟨some 108, some (101, true), .mv (.t 1)⟩,
          ⟨some 109, some (101, true), .bin .sub (.t 108) (.k (.int .i64 1))⟩,
          ⟨some 110, some (101, true), .call (.f 56) [.t 107, .t 109]⟩,
          ⟨some 111, some (101, true), .bin .gtr (.t 110) (.k (.int .i64 0))⟩,
          ⟨some 112, some (101, true), .beq false 4 (.t 106) (.t 111)⟩,
          ⟨some 113, none, .pick (.t 101) (.t 112) (.k (.bool false))⟩])
    (.cond (.t 113)
      (.seq (.reg
           [⟨some 8, none, .mv (.k (.bool false))⟩])
      (.ret))
      (.skip)))
  (.seq (.reg
       [⟨some 114, none, .ldn 24 3 (.t 4)⟩,
        ⟨some 115, none, .mv (.t 2)⟩,
        ⟨some 116, none, .call (.f 30) [.t 114, .k (.int .i64 (-1)), .t 115]⟩,
        ⟨some 117, none, .not (.t 116)⟩,
        ⟨some 118, none, .mv (.t 117)⟩,
        ⟨some 119, some (118, true), .ldn 24 3 (.t 4)⟩,
        ⟨some 120, some (118, true), .mv (.t 1)⟩,
        ⟨some 121, some (118, true), .call (.f 30) [.t 119, .t 120, .k (.int .i64 (-1))]⟩,
        ⟨some 122, some (118, true), .not (.t 121)⟩,
        ⟨some 123, none, .pick (.t 118) (.t 122) (.k (.bool false))⟩,
        ⟨some 124, none, .mv (.t 123)⟩,
        ⟨some 125, some (124, true), .call (.f 23) []⟩,
        ⟨some 126, none, .pick (.t 124) (.t 125) (.k (.bool false))⟩,
        ⟨some 8, none, .mv (.t 126)⟩])
  (.ret)))))))))
def r14 : List RR := [.t 8]
theorem ok14 : okFn Go.Proofs.Try.prog 14 127 c14 r14 4 = true := by kernel_rfl

end Go.Abs

namespace Go.Abs
open Go.Proofs

theorem scope_neg (t : T) {a b : Int} (h : a < 0 ∨ b < 0) : t.scope a b = false := by
  simp only [T.scope, Bool.and_eq_false_iff, decide_eq_false_iff_not]
  rcases h with h | h
  · exact .inl (.inl (.inl (by omega)))
  · exact .inl (.inl (.inr (by omega)))

theorem consts_len (t : T) : t.consts.length ≤ t.count := by
  have := (cons_facts t []).1
  rw [T.consts, sortI, List.length_mergeSort]
  simpa using this
theorem consts_ok {t : T} (hw : t.wf = true) {n : Int} (h : n ∈ t.consts) : okI n := by
  rw [T.consts, sortI_mem] at h
  exact (cons_facts t []).2.2 hw (by simp) n h
theorem srt_last {l : List Int} (h : Srt l) {x : Int} (hx : l[l.length - 1]? = some x) : ∀ n, n ∈ l → n ≤ x := by
  intro n hn
  obtain ⟨i, hi, rfl⟩ := List.mem_iff_getElem.1 hn
  obtain ⟨hj, rfl⟩ := List.getElem?_eq_some_iff.1 hx
  rcases Nat.lt_or_ge i (l.length - 1) with h1 | h1
  · exact Int.le_of_lt (List.pairwise_iff_getElem.1 h i (l.length - 1) hi hj h1)
  · have : i = l.length - 1 := by omega
    subst this; exact Int.le_refl _

theorem hasC_ge (t : T) : t.formed = true → ∀ n, t.hasC n = true → 0 ≤ n := by
  induction t using T.ind with
  | h k m ts ih =>
  intro hf n h
  rw [T.formed, Bool.and_eq_true, formedL_all, List.all_eq_true] at hf
  simp only [T.hasC, Bool.or_eq_true, Bool.and_eq_true, decide_eq_true_eq, hasCL_any, List.any_eq_true] at h
  rcases h with ⟨_, rfl⟩ | ⟨t, ht, h⟩
  · have hb := hf.1
    have : ¬ badHead k m ts.length = true := by simpa using hb
    rw [bad_iff, Classical.not_not] at this
    exact this.2.1
  · exact ih t ht (hf.2 t ht) n h

theorem fn14 (t : T) (pa pb pc : Int) (hc : t.count ≤ 1048576) (hw : t.wf = true) : Fn Try.prog 14 [tm t, ib pa, ib pb, ib pc] (bb true) := by
  refine fn_of (base := 14000) ok14 rfl fun σ h0 hr => ?_
  have s0 := h0 0
  have s1 : σ.sl 1 = ib pa := h0 1
  have s2 : σ.sl 2 = ib pb := h0 2
  have s3 : σ.sl 3 = ib pc := h0 3
  rw [slots0] at s0
  simp only [tm, ib] at s0 s1 s2 s3
  clear h0 hr
  obtain ⟨v1, v2, v3⟩ := umod pa (m := 100) (by omega) (by omega)
  obtain ⟨c1, c2, c3⟩ := umod pb (m := 100) (by omega) (by omega)
  obtain ⟨m1, m2, m3⟩ := umod pc (m := 100) (by omega) (by omega)
  unfold c14
  simp [s0, room]
  refine ⟨fun x hx => cells_isD' _ x hx, ?_⟩
  refine ECall.fn (fn17 [t]) (by simp [tms]) (by simp) rfl fun _ => ?_
  simp [bb]
  refine ⟨fun hh => by simp [r14, hh], fun hh => ?_⟩
  simp [hh, s1, s2, s3, v3, c3, m3]
  generalize (uw pa).tmod 100 = v at v1 v2 v3
  generalize (uw pb).tmod 100 = c at c1 c2 c3
  generalize (uw pc).tmod 100 = m at m1 m2 m3
  clear s1 s2 s3
  have w1 : IntKind.wrap .i64 (v + m) = v + m := wrap_id (by omega) (by omega)
  have w2 : IntKind.wrap .i64 (c + m) = c + m := wrap_id (by omega) (by omega)
  have w3 : IntKind.wrap .i64 (v - 1) = v - 1 := wrap_id (by omega) (by omega)
  have n1 : t.scope (-1) c = false := scope_neg t (.inl (by omega))
  have n2 : t.scope v (-1) = false := scope_neg t (.inr (by omega))
  have e1 := fn30 t (-1) c
  rw [n1] at e1
  have e2 := fn30 t v (-1)
  rw [n2] at e2
  refine ECall.fn (fn30 t v c) (by simp [tm, ib]) (by simp) (by simp [bb]) fun _ => ?_
  by_cases his : t.scope v c = true
  · obtain ⟨_, _, hck, hin⟩ := (scope_iff hc (by omega)).1 his
    have hf := ((check_iff t).1 hck).2.2
    have d1 : t.scope (v + m) c = true := (scope_iff hc (by omega)).2 ⟨by omega, c1, hck, inS_mono t _ _ _ _ (by omega) (by omega) hin⟩
    have d2 : t.scope v (c + m) = true := (scope_iff hc (by omega)).2 ⟨v1, by omega, hck, inS_mono t _ _ _ _ (by omega) (by omega) hin⟩
    have g1 := fn30 t (v + m) c
    rw [d1] at g1
    have g2 := fn30 t v (c + m)
    rw [d2] at g2
    have g3 := fn22 t
    rw [hck] at g3
    obtain ⟨k1, k2⟩ := consts_facts t
    have hlast : ∀ x, t.hasC x = true → x < c := (inS_consts t hf v c c hin).2 hin
    have ge1 : ∀ x, x ∈ t.consts → 0 ≤ x + 1 := fun x h => by have := hasC_ge t hf x ((k2 x).1 h); omega
    simp [bb, his, w1, w2]
    refine GCall.fn (fun _ => g1) (by simp [tm, ib]) (by simp) rfl fun _ => ?_
    simp [bb, w2]
    refine GCall.fn (fun _ => g2) (by simp [tm, ib]) (by simp) rfl fun _ => ?_
    simp [bb]
    refine GCall.fn (fun _ => g3) (by simp [tm]) (by simp) rfl fun _ => ?_
    simp [ib]
    refine ECall.fn (fn60 t hc hw) (by simp [tm]) (by simp) (by simp [is]) fun _ => ?_
    simp [is]
    refine W_cut (fun σ => σ.sl 4 = .c (.ref 14004 (σ.tg 14004) 0) ∧ σ.ob 14004 = some (.box 24 t.cells) ∧ σ.sl 1 = .c (.v (.int .i64 v)) ∧ σ.sl 2 = .c (.v (.int .i64 c)) ∧ σ.sl 9 = .c (.v (.bool true)) ∧ σ.sl 95 = .c (.v (.bool false))) ?_ fun σ' hA => ?_
    · refine W_dregA ?_
      by_cases hl : t.consts = []
      · simp [hl]
        refine GCallA.fn (res := bb false) (fun h => by cases h) rfl (by simp) rfl ?_
        simp [bb]
        refine GCallA.fn (res := bb false) (fun h => by cases h) rfl (by simp) rfl ?_
        simp [bb]
        refine realC_n ?_
        simp [only]
      · have lp : 0 < t.consts.length := List.length_pos_iff.2 hl
        have lc := consts_len t
        have wl : IntKind.wrap .i64 ((t.consts.length : Int) - 1) = (t.consts.length : Int) - 1 := wrap_id (by omega) (by omega)
        obtain ⟨x, hx⟩ : ∃ x, t.consts[t.consts.length - 1]? = some x := ⟨_, List.getElem?_eq_getElem (by omega)⟩
        have hxc := hlast x ((k2 x).1 (List.mem_of_getElem? hx))
        have hxo := consts_ok hw (List.mem_of_getElem? hx)
        have wx : IntKind.wrap .i64 (x + 1) = x + 1 := wrap_id (by simp only [okI] at hxo; omega) (by omega)
        have hcx : ¬ c ≤ x := by omega
        have le1 : (1 : Int) ≤ t.consts.length := by omega
        have lt1 : (t.consts.length : Int) - 1 < t.consts.length := by omega
        have a1 := fn30 t v (x + 1)
        rw [show t.scope v (x + 1) = true from (scope_iff hc (by omega)).2 ⟨v1, ge1 x (List.mem_of_getElem? hx), hck, (inS_consts t hf v c (x + 1) hin).1 fun n hn => by have := srt_last k1 hx n ((k2 n).2 hn); omega⟩] at a1
        have a2 := fn30 t v x
        rw [show t.scope v x = false by
          rw [Bool.eq_false_iff]; intro h
          have h := (inS_consts t hf v c x hin).2 ((scope_iff hc (by omega)).1 h).2.2.2 x ((k2 x).1 (List.mem_of_getElem? hx))
          omega] at a2
        simp [lp, wl, hx, hcx, le1, lt1, wx]
        refine GCallA.fn (fun _ => a1) (by simp [tm, ib]) (by simp) rfl ?_
        simp [bb, lp, wl, hx, hcx, le1, lt1]
        refine GCallA.fn (fun _ => a2) (by simp [tm, ib]) (by simp) rfl ?_
        simp [bb]
        refine realC_n ?_
        simp [only]
    · obtain ⟨q4, qo, q1, q2, q9, q95⟩ := hA
      simp [q95]
      refine W_cut (fun σ => σ.sl 4 = .c (.ref 14004 (σ.tg 14004) 0) ∧ σ.ob 14004 = some (.box 24 t.cells) ∧ σ.sl 1 = .c (.v (.int .i64 v)) ∧ σ.sl 2 = .c (.v (.int .i64 c)) ∧ σ.sl 113 = .c (.v (.bool false))) ?_ fun σ' hA => ?_
      · refine W_dregA ?_
        by_cases hv : 0 < v
        · have a1 := fn30 t (v - 1) c
          have a2 := fn56 t (v - 1)
          have ho := inS_occ t hf (v - 1) c (by rw [Int.sub_add_cancel]; exact hin)
          have ho2 : t.rcount (v - 1) = (t.occ (v - 1) : Nat) := by
            rw [← rcnt_occ t (v - 1) (by omega) (by omega), T.rcount, if_pos (by simp [mayB]; omega)]
          rw [ho2] at a2
          have ho3 : t.scope (v - 1) c = decide (t.occ (v - 1) = 0) := by
            rw [Bool.eq_iff_iff, scope_iff hc (by omega), decide_eq_true_eq, ← ho]
            exact ⟨fun h => h.2.2.2, fun h => ⟨by omega, c1, hck, h⟩⟩
          rw [ho3] at a1
          simp [q4, qo, q1, q2, q9, hv, w3]
          refine GCallA.fn (fun _ => a1) (by simp [tm, ib]) (by simp) rfl ?_
          simp [bb, qo, q4, q1, w3, hv]
          refine GCallA.fn (fun _ => a2) (by simp [tm, ib]) (by simp) rfl ?_
          simp [ib]
          refine realC_n ?_
          simp [only, q4, qo, q1, q2]
          omega
        · simp [q4, qo, q1, q2, q9, hv]
          refine GCallA.fn (res := bb false) (fun h => by cases h) rfl (by simp) rfl ?_
          simp [bb, hv, q4, qo, q1]
          refine GCallA.fn (res := ib 0) (fun h => by cases h) rfl (by simp) rfl ?_
          simp [ib]
          refine realC_n ?_
          simp [only, q4, qo, q1, q2, hv]
      · obtain ⟨q4, qo, q1, q2, q113⟩ := hA
        simp [q113, q4, qo, q1, q2]
        refine ECall.fn e1 (by simp [tm, ib]) (by simp) rfl fun _ => ?_
        simp [bb, q4, qo, q1, q2]
        refine GCall.fn (fun _ => e2) (by simp [tm, ib]) (by simp) rfl fun _ => ?_
        simp [bb, q4, qo, q1, q2]
        refine GCall.fn (fun _ => fn23) (by simp) (by simp) rfl fun _ => ?_
        simp [bb, r14]
  · have his : t.scope v c = false := by simpa using his
    simp [bb, his]
    refine GCall.fn (res := bb false) (fun h => by cases h) rfl (by simp) rfl fun _ => ?_
    simp [bb]
    refine GCall.fn (res := bb false) (fun h => by cases h) rfl (by simp) rfl fun _ => ?_
    simp [bb]
    refine GCall.fn (res := ib 0) (fun h => by cases h) rfl (by simp) rfl fun _ => ?_
    simp [ib]
    refine ECall.fn (fn60 t hc hw) (by simp [tm]) (by simp) (by simp [is]) fun _ => ?_
    simp [is]
    refine W_cut (fun σ => σ.sl 4 = .c (.ref 14004 (σ.tg 14004) 0) ∧ σ.ob 14004 = some (.box 24 t.cells) ∧ σ.sl 1 = .c (.v (.int .i64 v)) ∧ σ.sl 2 = .c (.v (.int .i64 c)) ∧ σ.sl 9 = .c (.v (.bool false)) ∧ σ.sl 95 = .c (.v (.bool false))) ?_ fun σ' hA => ?_
    · refine W_dregA ?_
      by_cases hl : t.consts = []
      · simp [hl]
        refine GCallA.fn (res := bb false) (fun h => by cases h) rfl (by simp) rfl ?_
        simp [bb]
        refine GCallA.fn (res := bb false) (fun h => by cases h) rfl (by simp) rfl ?_
        simp [bb]
        refine realC_n ?_
        simp [only]
      · have lp : 0 < t.consts.length := List.length_pos_iff.2 hl
        have lc := consts_len t
        have wl : IntKind.wrap .i64 ((t.consts.length : Int) - 1) = (t.consts.length : Int) - 1 := wrap_id (by omega) (by omega)
        obtain ⟨x, hx⟩ : ∃ x, t.consts[t.consts.length - 1]? = some x := ⟨_, List.getElem?_eq_getElem (by omega)⟩
        simp [lp, wl, hx]
        refine GCallA.fn (res := bb false) (fun h => by cases h) rfl (by simp) rfl ?_
        simp [bb, wl, hx]
        refine GCallA.fn (res := bb false) (fun h => by cases h) rfl (by simp) rfl ?_
        simp [bb]
        refine realC_n ?_
        simp [only]
    · obtain ⟨q4, qo, q1, q2, q9, q95⟩ := hA
      simp [q95]
      refine W_cut (fun σ => σ.sl 4 = .c (.ref 14004 (σ.tg 14004) 0) ∧ σ.ob 14004 = some (.box 24 t.cells) ∧ σ.sl 1 = .c (.v (.int .i64 v)) ∧ σ.sl 2 = .c (.v (.int .i64 c)) ∧ σ.sl 113 = .c (.v (.bool false))) ?_ fun σ' hA => ?_
      · refine W_dregA ?_
        simp [q4, qo, q1, q2, q9]
        refine GCallA.fn (res := bb false) (fun h => by cases h) rfl (by simp) rfl ?_
        simp [bb, q4, qo, q1]
        refine GCallA.fn (res := ib 0) (fun h => by cases h) rfl (by simp) rfl ?_
        simp [ib]
        refine realC_n ?_
        simp [only, q4, qo, q1, q2]
      · obtain ⟨q4, qo, q1, q2, q113⟩ := hA
        simp [q113, q4, qo, q1, q2]
        refine ECall.fn e1 (by simp [tm, ib]) (by simp) rfl fun _ => ?_
        simp [bb, q4, qo, q1, q2]
        refine GCall.fn (fun _ => e2) (by simp [tm, ib]) (by simp) rfl fun _ => ?_
        simp [bb, q4, qo, q1, q2]
        refine GCall.fn (fun _ => fn23) (by simp) (by simp) rfl fun _ => ?_
        simp [bb, r14]
end Go.Abs

namespace Go.Abs

/- porism/porismlaw02.TermParts -/
def c15b0 : SCode :=
  .seq (.seq (.reg
         [⟨some 16, none, .mv (.t 5)⟩,
          ⟨some 17, none, .fad 24 2 2 (.t 1)⟩,
          ⟨some 18, none, .ld1 22 (.t 17)⟩,
          ⟨some 19, none, .len 22 (.t 18)⟩,
          ⟨some 20, none, .bin .lss (.t 16) (.t 19)⟩])
    (.cond (.t 20)
      (.skip)
      (.exit 0)))
  (.seq (.block 1 (.seq (.dreg [0, 0, 2, 0, 14, 30, 62, 127, 0, 0, 512, 0, 3584, 7680, 15998, 32638, 32511, 131071]
           [⟨some 23, none, .mv (.t 3)⟩,
            ⟨some 24, none, .fad 24 2 2 (.t 1)⟩,
            ⟨some 25, none, .ld1 22 (.t 24)⟩,
            ⟨some 26, none, .mv (.t 5)⟩,
            ⟨some 27, none, .iad 24 3 (.t 25) (.t 26)⟩,
            ⟨some 28, none, .ldn 24 3 (.t 27)⟩,
            ⟨some 29, none, .call (.f 20) [.t 28]⟩,
            ⟨some 30, none, .bin .add (.t 23) (.t 29)⟩,
            ⟨some 31, none, .mv (.t 4)⟩,
            ⟨some 32, none, .fad 24 2 2 (.t 1)⟩,
            ⟨some 33, none, .ld1 22 (.t 32)⟩,
            ⟨some 34, none, .mv (.t 5)⟩,
            ⟨some 35, none, .iad 24 3 (.t 33) (.t 34)⟩,
            ⟨some 36, none, .ldn 24 3 (.t 35)⟩,
            ⟨some 37, none, .call (.f 21) [.t 36]⟩,
            ⟨some 38, none, .best true [.t 31, .t 37]⟩,
            ⟨some 3, none, .mv (.t 30)⟩,
            ⟨some 4, none, .mv (.t 38)⟩])
      (.seq (.reg
           [⟨some 39, none, .ldn 24 3 (.t 1)⟩,
            ⟨some 40, none, .call (.f 22) [.t 39]⟩,
            ⟨some 41, none, .bin .eql (.t 40) (.k (.int .i64 0))⟩,
            ⟨some 42, none, .mv (.t 41)⟩,
            ⟨some 43, some (42, true), .fad 24 2 2 (.t 1)⟩,
            ⟨some 44, some (42, true), .ld1 22 (.t 43)⟩,
            ⟨some 45, some (42, true), .mv (.t 5)⟩,
            ⟨some 46, some (42, true), .iad 24 3 (.t 44) (.t 45)⟩,
            ⟨some 47, some (42, true), .ldn 24 3 (.t 46)⟩,
            ⟨some 48, some (42, true), .call (.f 22) [.t 47]⟩,
            ⟨some 49, some (42, true), .bin .neq (.t 48) (.k (.int .i64 0))⟩,
            ⟨some 50, none, .pick (.t 42) (.t 49) (.k (.bool false))⟩])
      (.cond (.t 50)
        (.seq (.reg
             [⟨some 2, none, .mv (.k (.bool false))⟩])
        (.ret))
        (.skip)))))
  (.reg
     [⟨some 21, none, .mv (.t 5)⟩,
      ⟨some 22, none, .bin .add (.t 21) (.k (.int .i64 1))⟩,
      ⟨some 5, none, .mv (.t 22)⟩]))
def c15b1 : SCode :=
  .seq (.seq (.reg
         [⟨some 78, none, .mv (.t 7)⟩,
          ⟨some 79, none, .mv (.t 6)⟩,
          ⟨some 80, none, .len 38 (.t 79)⟩,
          ⟨some 81, none, .bin .lss (.t 78) (.t 80)⟩])
    (.cond (.t 81)
      (.skip)
      (.exit 2)))
  (.seq (.block 3 (.seq (.dreg [0, 0, 3, 7, 0, 0, 32, 112, 240, 511]
           [⟨some 84, none, .mv (.t 6)⟩,
            ⟨some 85, none, .mv (.t 7)⟩,
            ⟨some 86, none, .iad 3 1 (.t 84) (.t 85)⟩,
            ⟨some 87, none, .ld1 3 (.t 86)⟩,
            ⟨some 88, none, .mv (.t 6)⟩,
            ⟨some 89, none, .mv (.t 7)⟩,
            ⟨some 90, none, .bin .sub (.t 89) (.k (.int .i64 1))⟩,
            ⟨some 91, none, .iad 3 1 (.t 88) (.t 90)⟩,
            ⟨some 92, none, .ld1 3 (.t 91)⟩,
            ⟨some 93, none, .bin .leq (.t 87) (.t 92)⟩])
      (.cond (.t 93)
        (.seq (.reg
             [⟨some 2, none, .mv (.k (.bool false))⟩])
        (.ret))
        (.skip))))
  (.reg
     [⟨some 82, none, .mv (.t 7)⟩,
      ⟨some 83, none, .bin .add (.t 82) (.k (.int .i64 1))⟩,
      ⟨some 7, none, .mv (.t 83)⟩]))
def c15b2 : SCode :=
  .seq (.seq (.reg
         [⟨some 113, none, .mv (.t 12)⟩,
          ⟨some 114, none, .mv (.t 6)⟩,
          ⟨some 115, none, .len 38 (.t 114)⟩,
          ⟨some 116, none, .bin .lss (.t 113) (.t 115)⟩])
    (.cond (.t 116)
      (.skip)
      (.exit 8)))
  (.seq (.block 9 (.dreg [0, 1, 3, 3, 15, 31, 3, 3, 195, 451, 1023, 2047, 4095]
         [⟨some 119, none, .mv (.t 11)⟩,
          ⟨some 120, none, .mv (.t 119)⟩,
          ⟨some 121, some (120, false), .mv (.t 6)⟩,
          ⟨some 122, some (120, false), .mv (.t 12)⟩,
          ⟨some 123, some (120, false), .iad 3 1 (.t 121) (.t 122)⟩,
          ⟨some 124, some (120, false), .ld1 3 (.t 123)⟩,
          ⟨some 125, some (120, false), .mv (.t 9)⟩,
          ⟨some 126, some (120, false), .mv (.t 10)⟩,
          ⟨some 127, some (120, false), .iad 3 1 (.t 125) (.t 126)⟩,
          ⟨some 128, some (120, false), .ld1 3 (.t 127)⟩,
          ⟨some 129, some (120, false), .bin .eql (.t 124) (.t 128)⟩,
          ⟨some 130, none, .pick (.t 120) (.k (.bool true)) (.t 129)⟩,
          ⟨some 11, none, .mv (.t 130)⟩]))
  (.reg
     [⟨some 117, none, .mv (.t 12)⟩,
      ⟨some 118, none, .bin .add (.t 117) (.k (.int .i64 1))⟩,
      ⟨some 12, none, .mv (.t 118)⟩]))
def c15b3 : SCode :=
  .seq (.seq (.reg
         [⟨some 107, none, .mv (.t 10)⟩,
          ⟨some 108, none, .mv (.t 9)⟩,
          ⟨some 109, none, .len 38 (.t 108)⟩,
          ⟨some 110, none, .bin .lss (.t 107) (.t 109)⟩])
    (.cond (.t 110)
      (.skip)
      (.exit 6)))
  (.seq (.block 7 (.seq (.reg
           [⟨some 11, none, .mv (.k (.bool false))⟩])
      (.seq (.seq (.reg
             [⟨some 12, none, .mv (.k (.int .i64 0))⟩])
        (.block 8 (.loop c15b2)))
      (.seq (.reg
           [⟨some 131, none, .mv (.t 11)⟩,
            ⟨some 132, none, .not (.t 131)⟩])
      (.cond (.t 132)
        (.seq (.reg
             [⟨some 2, none, .mv (.k (.bool false))⟩])
        (.ret))
        (.skip))))))
  (.reg
     [⟨some 111, none, .mv (.t 10)⟩,
      ⟨some 112, none, .bin .add (.t 111) (.k (.int .i64 1))⟩,
      ⟨some 10, none, .mv (.t 112)⟩]))
def c15b4 : SCode :=
  .seq (.seq (.reg
         [⟨some 94, none, .mv (.t 8)⟩,
          ⟨some 95, none, .fad 24 2 2 (.t 1)⟩,
          ⟨some 96, none, .ld1 22 (.t 95)⟩,
          ⟨some 97, none, .len 22 (.t 96)⟩,
          ⟨some 98, none, .bin .lss (.t 94) (.t 97)⟩])
    (.cond (.t 98)
      (.skip)
      (.exit 4)))
  (.seq (.block 5 (.seq (.reg
           [⟨some 101, none, .fad 24 2 2 (.t 1)⟩,
            ⟨some 102, none, .ld1 22 (.t 101)⟩,
            ⟨some 103, none, .mv (.t 8)⟩,
            ⟨some 104, none, .iad 24 3 (.t 102) (.t 103)⟩,
            ⟨some 105, none, .ldn 24 3 (.t 104)⟩,
            ⟨some 106, none, .call (.f 60) [.t 105]⟩,
            ⟨some 9, none, .mv (.t 106)⟩])
      (.seq (.reg
           [⟨some 10, none, .mv (.k (.int .i64 0))⟩])
      (.block 6 (.loop c15b3)))))
  (.reg
     [⟨some 99, none, .mv (.t 8)⟩,
      ⟨some 100, none, .bin .add (.t 99) (.k (.int .i64 1))⟩,
      ⟨some 8, none, .mv (.t 100)⟩]))
def c15 : SCode :=
  .seq (.reg
       [⟨some 1, none, .box 24 (.t 0)⟩,
        ⟨some 2, none, .mv (.k (.bool false))⟩])
  (.seq (.seq (.reg
         [⟨some 13, none, .ldn 24 3 (.t 1)⟩,
          ⟨some 14, none, .lit 24 3 40 [.t 13]⟩,
          ⟨some 15, none, .call (.f 17) [.t 14]⟩])
    (.cond (.t 15)
      (.seq (.reg
           [⟨some 2, none, .mv (.k (.bool true))⟩])
      (.ret))
      (.skip)))
  (.seq (.reg
       [⟨some 3, none, .mv (.k (.int .i64 1))⟩,
        ⟨some 4, none, .mv (.k (.int .i64 0))⟩])
  (.seq (.seq (.reg
         [⟨some 5, none, .mv (.k (.int .i64 0))⟩])
    (.block 0 (.loop c15b0)))
  (.seq (.seq (.dreg [0, 1, 0, 7, 15, 31, 63, 31, 159, 511, 1023, 2047, 4095, 8191, 16383, 32767, 65535, 131071, 262143, 65535, 589823, 1638399, 4194303, 8388607, 16777215]
         [⟨some 51, none, .ldn 24 3 (.t 1)⟩,
          ⟨some 52, none, .call (.f 20) [.t 51]⟩,
          ⟨some 53, none, .mv (.t 3)⟩,
          ⟨some 54, none, .bin .neq (.t 52) (.t 53)⟩,
          ⟨some 55, none, .mv (.t 54)⟩,
          ⟨some 56, some (55, false), .ldn 24 3 (.t 1)⟩,
          ⟨some 57, some (55, false), .call (.f 21) [.t 56]⟩,
          ⟨some 58, some (55, false), .mv (.t 4)⟩,
          ⟨some 59, some (55, false), .bin .add (.t 58) (.k (.int .i64 1))⟩,
          ⟨some 60, some (55, false), .bin .neq (.t 57) (.t 59)⟩,
          ⟨some 61, none, .pick (.t 55) (.k (.bool true)) (.t 60)⟩,
          ⟨some 62, none, .mv (.t 61)⟩,
          ⟨some 63, some (62, false), .ldn 24 3 (.t 1)⟩,
          ⟨some 64, some (62, false), .call (.f 22) [.t 63]⟩,
          ⟨some 65, some (62, false), .bin .eql (.t 64) (.k (.int .i64 0))⟩,
          ⟨some 66, some (62, false), .mv (.t 65)⟩,
          ⟨some 67, some (66, true), .fad 24 2 2 (.t 1)⟩,
          ⟨some 68, some (66, true), .ld1 22 (.t 67)⟩,
          ⟨some 69, some (66, true), .len 22 (.t 68)⟩,
          ⟨some 70, some (66, true), .fad 24 0 0 (.t 1)⟩,
          ⟨some 71, some (66, true), .ld1 3 (.t 70)⟩,
          ⟨some 72, some (66, true), .call (.f 62) [.t 71]⟩,
          ⟨some 73, some (66, true), .bin .neq (.t 69) (.t 72)⟩,
          ⟨some 74, some (62, false), .pick (.t 66) (.t 73) (.k (.bool false))⟩,
          ⟨some 75, none, .pick (.t 62) (.k (.bool true)) (.t 74)⟩])
    (.cond (.t 75)
      (.seq (.reg
           [⟨some 2, none, .mv (.k (.bool false))⟩])
      (.ret))
      (.skip)))
  (.seq (.reg
       [⟨some 76, none, .ldn 24 3 (.t 1)⟩,
        ⟨some 77, none, .call (.f 60) [.t 76]⟩,
        ⟨some 6, none, .mv (.t 77)⟩])
  (.seq (.seq (.reg
         [⟨some 7, none, .mv (.k (.int .i64 1))⟩])
    (.block 2 (.loop c15b1)))
  (.seq (.seq (.reg
         [⟨some 8, none, .mv (.k (.int .i64 0))⟩])
    (.block 4 (.loop c15b4)))
  (.seq (.reg
       [⟨some 133, none, .call (.f 23) []⟩,
        ⟨some 2, none, .mv (.t 133)⟩])
  (.ret)))))))))
def r15 : List RR := [.t 2]
theorem ok15 : okFn Go.Proofs.Try.prog 15 134 c15 r15 1 = true := by kernel_rfl

/- porism/porismlaw04.ShiftCounts -/
def c16b0 : SCode :=
  .seq (.seq (.reg
         [⟨some 39, none, .mv (.t 11)⟩,
          ⟨some 40, none, .mv (.t 1)⟩,
          ⟨some 41, none, .bin .lss (.t 39) (.t 40)⟩])
    (.cond (.t 41)
      (.skip)
      (.exit 0)))
  (.seq (.block 1 (.seq (.reg
           [⟨some 44, none, .ldn 24 3 (.t 9)⟩,
            ⟨some 45, none, .mv (.t 2)⟩,
            ⟨some 46, none, .mv (.t 11)⟩,
            ⟨some 47, none, .bin .add (.t 45) (.t 46)⟩,
            ⟨some 48, none, .call (.f 52) [.t 44, .t 47]⟩,
            ⟨some 49, none, .bin .neq (.t 48) (.k (.int .i64 0))⟩])
      (.cond (.t 49)
        (.seq (.reg
             [⟨some 8, none, .mv (.k (.bool false))⟩])
        (.ret))
        (.skip))))
  (.reg
     [⟨some 42, none, .mv (.t 11)⟩,
      ⟨some 43, none, .bin .add (.t 42) (.k (.int .i64 1))⟩,
      ⟨some 11, none, .mv (.t 43)⟩]))
def c16 : SCode :=
  .seq (.reg
       [⟨some 4, none, .box 24 (.t 0)⟩,
        ⟨some 8, none, .mv (.k (.bool false))⟩])
  (.seq (.seq (.reg
         [⟨some 13, none, .ldn 24 3 (.t 4)⟩,
          ⟨some 14, none, .lit 24 3 40 [.t 13]⟩,
          ⟨some 15, none, .call (.f 17) [.t 14]⟩])
    (.cond (.t 15)
      (.seq (.reg
           [⟨some 8, none, .mv (.k (.bool true))⟩])
      (.ret))
      (.skip)))
  (.seq (.reg
       [⟨some 16, none, .mv (.t 1)⟩,
        ⟨some 17, none, .conv 3 32 .u64 (.t 16)⟩,
        ⟨some 18, none, .bin .rem (.t 17) (.k (.int .u64 50))⟩,
        ⟨some 19, none, .conv 32 3 .i64 (.t 18)⟩,
        ⟨some 20, none, .bin .add (.k (.int .i64 1)) (.t 19)⟩,
        ⟨some 21, none, .mv (.t 2)⟩,
        ⟨some 22, none, .conv 3 32 .u64 (.t 21)⟩,
        ⟨some 23, none, .bin .rem (.t 22) (.k (.int .u64 10))⟩,
        ⟨some 24, none, .conv 32 3 .i64 (.t 23)⟩,
        ⟨some 25, none, .mv (.t 3)⟩,
        ⟨some 26, none, .conv 3 32 .u64 (.t 25)⟩,
        ⟨some 27, none, .bin .rem (.t 26) (.k (.int .u64 20))⟩,
        ⟨some 28, none, .conv 32 3 .i64 (.t 27)⟩,
        ⟨some 1, none, .mv (.t 20)⟩,
        ⟨some 2, none, .mv (.t 24)⟩,
        ⟨some 3, none, .mv (.t 28)⟩])
  (.seq (.reg
       [⟨some 30, none, .ldn 24 3 (.t 4)⟩,
        ⟨some 31, none, .mv (.t 1)⟩,
        ⟨some 32, none, .mv (.t 2)⟩,
        ⟨some 33, none, .call (.f 49) [.t 30, .t 31, .t 32]⟩,
        ⟨some 29, none, .mv (.t 33)⟩,
        ⟨some 34, none, .ext (.t 29) 0⟩,
        ⟨some 35, none, .ext (.t 29) 1⟩,
        ⟨some 9, none, .alloc 24 [.v (.int .i64 0), .v (.int .i64 0), .cap 3 40 []]⟩,
        ⟨none, none, .stn 24 3 (.t 9) (.t 34)⟩,
        ⟨some 10, none, .mv (.t 35)⟩])
  (.seq (.seq (.reg
         [⟨some 36, none, .mv (.t 10)⟩,
          ⟨some 37, none, .bin .neq (.t 36) (.k (.int .i64 0))⟩])
    (.cond (.t 37)
      (.seq (.reg
           [⟨some 38, none, .call (.f 50) []⟩,
            ⟨some 8, none, .mv (.t 38)⟩])
      (.ret))
      (.skip)))
  (.seq (.seq (.reg
         [⟨some 11, none, .mv (.k (.int .i64 0))⟩])
    (.block 0 (.loop c16b0)))
  (.seq (.reg
       [⟨some 50, none, .mv (.t 3)⟩,
        ⟨some 12, none, .mv (.t 50)⟩])
  (.seq (.seq (.reg
         [⟨some 51, none, .mv (.t 3)⟩,
          ⟨some 52, none, .mv (.t 2)⟩,
          ⟨some 53, none, .bin .geq (.t 51) (.t 52)⟩])
    (.cond (.t 53)
      (.reg
         [⟨some 54, none, .mv (.t 3)⟩,
          ⟨some 55, none, .mv (.t 1)⟩,
          ⟨some 56, none, .bin .add (.t 54) (.t 55)⟩,
          ⟨some 12, none, .mv (.t 56)⟩])
      (.skip)))
  (.seq (.dreg [0, 0, 3, 0, 0, 31, 63, 127, 255, 511, 255, 2047, 4095, 8191, 16383, 32767, 65535, 32767, 262143, 524287, 1048575, 2097151, 4194303, 8388607, 4194303, 33554431, 67108863, 134217727, 268435455, 536870911, 1073741823, 2147483647]
       [⟨some 57, none, .ldn 24 3 (.t 9)⟩,
        ⟨some 58, none, .mv (.t 12)⟩,
        ⟨some 59, none, .call (.f 52) [.t 57, .t 58]⟩,
        ⟨some 60, none, .ldn 24 3 (.t 4)⟩,
        ⟨some 61, none, .mv (.t 3)⟩,
        ⟨some 62, none, .call (.f 52) [.t 60, .t 61]⟩,
        ⟨some 63, none, .bin .eql (.t 59) (.t 62)⟩,
        ⟨some 64, none, .mv (.t 63)⟩,
        ⟨some 65, some (64, true), .ldn 24 3 (.t 9)⟩,
        ⟨some 66, some (64, true), .call (.f 20) [.t 65]⟩,
        ⟨some 67, some (64, true), .ldn 24 3 (.t 4)⟩,
        ⟨some 68, some (64, true), .call (.f 20) [.t 67]⟩,
        ⟨some 69, some (64, true), .bin .eql (.t 66) (.t 68)⟩,
        ⟨some 70, none, .pick (.t 64) (.t 69) (.k (.bool false))⟩,
        ⟨some 71, none, .mv (.t 70)⟩,
        ⟨some 72, some (71, true), .ldn 24 3 (.t 9)⟩,
        ⟨some 73, some (71, true), .call (.f 21) [.t 72]⟩,
        ⟨some 74, some (71, true), .ldn 24 3 (.t 4)⟩,
        ⟨some 75, some (71, true), .call (.f 21) [.t 74]⟩,
        ⟨some 76, some (71, true), .bin .eql (.t 73) (.t 75)⟩,
        ⟨some 77, none, .pick (.t 71) (.t 76) (.k (.bool false))⟩,
        ⟨some 78, none, .mv (.t 77)⟩,
        ⟨some 79, some (78, true), .ldn 24 3 (.t 9)⟩,
        ⟨some 80, some (78, true), .call (.f 60) [.t 79]⟩,
        ⟨some 81, some (78, true), .ldn 24 3 (.t 4)⟩,
        ⟨some 82, some (78, true), .call (.f 60) [.t 81]⟩,
        ⟨some 83, some (78, true), .call (.f 59) [.t 80, .t 82]⟩,
        ⟨some 84, none, .pick (.t 78) (.t 83) (.k (.bool false))⟩,
        ⟨some 85, none, .mv (.t 84)⟩,
        ⟨some 86, some (85, true), .call (.f 50) []⟩,
        ⟨some 87, none, .pick (.t 85) (.t 86) (.k (.bool false))⟩,
        ⟨some 8, none, .mv (.t 87)⟩])
  (.ret)))))))))
def r16 : List RR := [.t 8]
theorem ok16 : okFn Go.Proofs.Try.prog 16 88 c16 r16 4 = true := by kernel_rfl

end Go.Abs

namespace Go.Abs
open Go.Proofs

theorem kid_consts {k n : Int} {ts : List T} {t : T} (ht : t ∈ ts) {x : Int} (hx : x ∈ t.consts) : x ∈ (T.mk k n ts).consts := by
  rw [(consts_facts _).2] at hx ⊢
  rw [T.hasC, hasCL_any, Bool.or_eq_true, List.any_eq_true]
  exact .inr ⟨t, ht, hx⟩
theorem kids_num {k n : Int} {ts : List T} (h : (T.mk k n ts).check = 0) : (ts.length : Int) = kidsOf k := by
  have hf := ((check_iff _).1 h).2.2
  rw [T.formed, Bool.and_eq_true] at hf
  have : ¬ badHead k n ts.length = true := by simpa using hf.1
  rw [bad_iff, Classical.not_not] at this
  exact this.1

def FoundAt (σ : St) (x : Int) (l : List Int) : Prop := ∃ f : Bool, σ.sl 11 = bb f ∧ (f = true ∨ x ∈ l)

theorem fn15 (t : T) (hc : t.count ≤ 1048576) (hw : t.wf = true) : Fn Try.prog 15 [tm t] (bb true) := by
  obtain ⟨k, n, ts⟩ := t
  refine fn_of (base := 15000) ok15 rfl fun σ h0 hr => ?_
  have s0 := h0 0
  rw [slots0] at s0
  simp only [tm, cells_mk] at s0
  have hlen := real_kids (hr (tm (.mk k n ts)) (by simp))
  rw [kids_mk] at hlen
  clear h0 hr
  have hwk : ∀ t, t ∈ ts → t.wf = true ∧ t.count ≤ 1048576 := fun t ht => by
    have h1 := hw
    rw [T.wf, Bool.and_eq_true, wfL_all, List.all_eq_true] at h1
    have h2 := count_mem ht
    have h3 := hc
    simp only [T.count] at h3
    exact ⟨h1.2 t ht, by omega⟩
  have lc := consts_len (T.mk k n ts)
  obtain ⟨k1, k2⟩ := consts_facts (T.mk k n ts)
  have f22 := fn22 (T.mk k n ts)
  unfold c15
  simp [s0, room]
  refine ECall.fn (fn17 [.mk k n ts]) (by simp [tms, cells_mk]) (by simp) rfl fun _ => ?_
  simp [bb]
  refine ⟨fun hh => by simp [r15, hh], fun hh => ?_⟩
  simp [hh, -W_block]
  refine W_cutb (fun σ => σ.sl 1 = .c (.ref 15001 (σ.tg 15001) 0) ∧ σ.ob 15001 = some (.box 24 (T.mk k n ts).cells) ∧ σ.sl 3 = ib (T.sizeL 1 ts) ∧ σ.sl 4 = ib (T.depthL 0 ts)) ?_ fun σ' hA => ?_
  · refine W_loop (fun m σ => ∃ (i : Nat) (a b : Int), i + m = ts.length ∧ T.sizeL a (ts.drop i) = T.sizeL 1 ts ∧ T.depthL b (ts.drop i) = T.depthL 0 ts ∧ σ.sl 1 = .c (.ref 15001 (σ.tg 15001) 0) ∧ σ.ob 15001 = some (.box 24 (T.mk k n ts).cells) ∧ σ.sl 3 = ib a ∧ σ.sl 4 = ib b ∧ σ.sl 5 = ib i) ts.length ?_ ?_
    · exact ⟨0, 1, 0, by simp [ib, cells_mk]⟩
    · rintro m σ ⟨i, a, b, hm, hp1, hp2, q1, qo, q3, q4, q5⟩
      unfold c15b0
      simp only [cells_mk, ib] at q3 q1 qo q4 q5
      by_cases hi : i < ts.length
      · obtain ⟨t, ht⟩ := at_of hi
        obtain ⟨_, ht'⟩ := getE ht
        have w1 := wrap_succ (i := i) (by omega)
        have htm := List.mem_of_getElem? ht
        rw [drop_at ht, T.sizeL] at hp1
        rw [drop_at ht, T.depthL] at hp2
        simp [q3, q1, qo, q4, q5, hi, ht']
        refine W_dregA ?_
        simp [q3, q1, qo, q4, q5, hi, ht']
        refine CallA.fn (fn20 t) (by simp [tm]) (by simp) rfl ?_
        simp [ib, q3, q1, qo, q4, q5, hi, ht']
        refine CallA.fn (fn21 t) (by simp [tm]) (by simp) rfl ?_
        simp [ib, q4]
        refine realC_n ?_
        simp [q1, qo]
        refine ECall.fn f22 (by simp [tm, cells_mk]) (by simp) rfl fun _ => ?_
        simp [ib, q1, qo, q5]
        have kr : (T.mk k n ts).check = 0 → t.check = 0 := fun h => (kid_right hc h htm).1
        by_cases hk : (T.mk k n ts).check = 0
        · simp [hk, hi, ht']
          refine GCall.fn (fun _ => fn22 t) (by simp [tm]) (by simp) rfl fun _ => ?_
          simp [ib, kr hk, q5]
          refine ⟨m - 1, by omega, i + 1, by omega, _, hp1, _, hp2, ?_⟩
          simp [q1, qo, w1, cells_mk]
        · simp [hk, hi, ht']
          refine GCall.fn (res := ib 0) (fun h => by cases h) rfl (by simp) rfl fun _ => ?_
          simp [ib, q5]
          refine ⟨m - 1, by omega, i + 1, by omega, _, hp1, _, hp2, ?_⟩
          simp [q1, qo, w1, cells_mk]
      · rw [List.drop_eq_nil_of_le (by omega), T.sizeL] at hp1
        rw [List.drop_eq_nil_of_le (by omega), T.depthL] at hp2
        simp [q3, q1, qo, q4, q5, hi, only, ib, cells_mk, hp1, hp2]
  · obtain ⟨q1, qo, q3, q4⟩ := hA
    simp only [cells_mk, ib] at q1 qo q3 q4
    have hlw : ∀ d : Int, IntKind.wrap .i64 (d + 1) = IntKind.wrap .i64 (d + 1) := fun _ => rfl
    simp
    refine W_cut (fun σ => σ.sl 1 = .c (.ref 15001 (σ.tg 15001) 0) ∧ σ.ob 15001 = some (.box 24 (T.mk k n ts).cells) ∧ σ.sl 75 = bb false) ?_ fun σ' hA => ?_
    · refine W_dregA ?_
      simp [q3, q1, qo, q4]
      refine CallA.fn (fn20 (.mk k n ts)) (by simp [tm, cells_mk]) (by simp) rfl ?_
      simp [ib, q3, q1, qo, q4, T.size]
      refine GCallA.fn (fun _ => fn21 (.mk k n ts)) (by simp [tm, cells_mk]) (by simp) rfl ?_
      simp [ib, q3, q1, qo, q4, T.depth]
      refine GCallA.fn (fun _ => f22) (by simp [tm, cells_mk]) (by simp) rfl ?_
      simp [ib, q3, q1, qo, q4]
      refine GCallA.fn (fun _ => fn62 k) (by simp [ib]) (by simp) rfl ?_
      simp [ib]
      refine realC_n ?_
      simp [only, cells_mk, q1, qo, bb]
      exact fun h => kids_num h
    · obtain ⟨q1, qo, q75⟩ := hA
      simp only [cells_mk, bb] at q1 qo q75
      simp [q75, q1, qo]
      refine ECall.fn (fn60 (.mk k n ts) hc hw) (by simp [tm, cells_mk]) (by simp) (by simp [is]) fun _ => ?_
      simp [is, -W_block]
      refine W_cutb (fun σ => σ.sl 1 = .c (.ref 15001 (σ.tg 15001) 0) ∧ σ.ob 15001 = some (.box 24 (T.mk k n ts).cells) ∧ σ.sl 6 = is (T.mk k n ts).consts) ?_ fun σ' hA => ?_
      · refine W_loop (fun m σ => ∃ (i : Nat), i + m = (T.mk k n ts).consts.length + 1 ∧ 1 ≤ i ∧ σ.sl 1 = .c (.ref 15001 (σ.tg 15001) 0) ∧ σ.ob 15001 = some (.box 24 (T.mk k n ts).cells) ∧ σ.sl 6 = is (T.mk k n ts).consts ∧ σ.sl 7 = ib i) (T.mk k n ts).consts.length ?_ ?_
        · exact ⟨1, by omega, by simp [ib, is, cells_mk, q1, qo]⟩
        · rintro m σ ⟨i, hm, h1, q1, qo, q6, q7⟩
          unfold c15b1
          simp only [cells_mk, ib, is] at q1 qo q6 q7
          by_cases hi : i < (T.mk k n ts).consts.length
          · obtain ⟨x, hx⟩ := at_of hi
            obtain ⟨y, hy⟩ := at_of (show i - 1 < (T.mk k n ts).consts.length by omega)
            obtain ⟨_, hx'⟩ := getE hx
            obtain ⟨_, hy'⟩ := getE hy
            have w1 := wrap_succ (i := i) (by omega)
            have w2 : IntKind.wrap .i64 ((i : Int) - 1) = ((i - 1 : Nat) : Int) := by rw [wrap_id (by omega) (by omega)]; omega
            have hyx : ¬ x ≤ y := by
              have := List.pairwise_iff_getElem.1 k1 (i - 1) i (by omega) hi (by omega)
              rw [hx', hy'] at this
              omega
            simp [q1, qo, q6, q7, hi]
            refine W_dregA ?_
            have hi1 : i - 1 < (T.mk k n ts).consts.length := by omega
            simp [q1, qo, q6, q7, hi, hx', hy, hi1, w2]
            refine realC_n ?_
            simp [q7, hyx, hy']
            refine ⟨m - 1, by omega, i + 1, by omega, by omega, ?_⟩
            simp [q1, qo, q6, w1, is, ib, cells_mk]
          · simp [q1, qo, q6, q7, hi, only, cells_mk, is]
      · obtain ⟨q1, qo, q6⟩ := hA
        simp only [cells_mk, is] at q1 qo q6
        simp [-W_block]
        refine W_cutb (fun σ => True) ?_ fun σ' hA => ?_
        · refine W_loop (fun m σ => ∃ (i : Nat), i + m = ts.length ∧ σ.sl 1 = .c (.ref 15001 (σ.tg 15001) 0) ∧ σ.ob 15001 = some (.box 24 (T.mk k n ts).cells) ∧ σ.sl 6 = is (T.mk k n ts).consts ∧ σ.sl 8 = ib i) ts.length ?_ ?_
          · exact ⟨0, by omega, by simp [ib, is, cells_mk, q1, qo, q6]⟩
          · rintro m σ ⟨i, hm, q1, qo, q6, q8⟩
            unfold c15b4
            simp only [cells_mk, ib, is] at q1 qo q6 q8
            by_cases hi : i < ts.length
            · obtain ⟨t, ht⟩ := at_of hi
              obtain ⟨_, ht'⟩ := getE ht
              have w1 := wrap_succ (i := i) (by omega)
              have htm := List.mem_of_getElem? ht
              simp [q1, qo, q6, q8, hi, ht']
              refine ECall.fn (fn60 t (hwk t htm).2 (hwk t htm).1) (by simp [tm]) (by simp) (by simp [is]) fun _ => ?_
              simp [is, -W_block]
              refine W_cutb (fun σ => σ.sl 1 = .c (.ref 15001 (σ.tg 15001) 0) ∧ σ.ob 15001 = some (.box 24 (T.mk k n ts).cells) ∧ σ.sl 6 = is (T.mk k n ts).consts ∧ σ.sl 8 = ib i) ?_ fun σ' hA => ?_
              · have lc2 := consts_len t
                have hcl := (hwk t htm).2
                refine W_loop (fun m σ => ∃ (j : Nat), j + m = t.consts.length ∧ σ.sl 1 = .c (.ref 15001 (σ.tg 15001) 0) ∧ σ.ob 15001 = some (.box 24 (T.mk k n ts).cells) ∧ σ.sl 6 = is (T.mk k n ts).consts ∧ σ.sl 8 = ib i ∧ σ.sl 9 = is t.consts ∧ σ.sl 10 = ib j) t.consts.length ?_ ?_
                · exact ⟨0, by omega, by simp [ib, is, cells_mk, q1, qo, q6, q8]⟩
                · rintro m σ ⟨j, hm, q1, qo, q6, q8, q9, q10⟩
                  unfold c15b3
                  simp only [cells_mk, ib, is] at q1 qo q6 q8 q9 q10
                  by_cases hj : j < t.consts.length
                  · obtain ⟨x, hx⟩ := at_of hj
                    obtain ⟨_, hx'⟩ := getE hx
                    have w2 := wrap_succ (i := j) (by omega)
                    have hmem : x ∈ (T.mk k n ts).consts := kid_consts htm (List.mem_of_getElem? hx)
                    simp [q1, qo, q6, q8, q9, q10, hj, -W_block]
                    rw [W_block]
                    simp [-W_block]
                    refine W_cutb (fun σ => σ.sl 1 = .c (.ref 15001 (σ.tg 15001) 0) ∧ σ.ob 15001 = some (.box 24 (T.mk k n ts).cells) ∧ σ.sl 6 = is (T.mk k n ts).consts ∧ σ.sl 8 = ib i ∧ σ.sl 9 = is t.consts ∧ σ.sl 10 = ib j ∧ σ.sl 11 = bb true) ?_ fun σ' hA => ?_
                    · refine W_loop (fun m σ => ∃ (l : Nat), l + m = (T.mk k n ts).consts.length ∧ FoundAt σ x ((T.mk k n ts).consts.drop l) ∧ σ.sl 1 = .c (.ref 15001 (σ.tg 15001) 0) ∧ σ.ob 15001 = some (.box 24 (T.mk k n ts).cells) ∧ σ.sl 6 = is (T.mk k n ts).consts ∧ σ.sl 8 = ib i ∧ σ.sl 9 = is t.consts ∧ σ.sl 10 = ib j ∧ σ.sl 12 = ib l) (T.mk k n ts).consts.length ?_ ?_
                      · exact ⟨0, by omega, ⟨false, by simp [bb], .inr hmem⟩, by simp [ib, is, bb, cells_mk, q1, qo, q6, q8, q9, q10]⟩
                      · rintro m σ ⟨l, hm, ⟨f, q11, hp⟩, q1, qo, q6, q8, q9, q10, q12⟩
                        unfold c15b2
                        simp only [cells_mk, ib, is, bb] at q1 qo q6 q8 q9 q10 q11 q12
                        by_cases hl : l < (T.mk k n ts).consts.length
                        · obtain ⟨y, hy⟩ := at_of hl
                          obtain ⟨_, hy'⟩ := getE hy
                          have w1 := wrap_succ (i := l) (by omega)
                          rw [drop_at hy, List.mem_cons] at hp
                          simp [q1, qo, q6, q8, q9, q10, q11, q12, hl]
                          refine W_dregA ?_
                          simp [q1, qo, q6, q8, q9, q10, q11, q12, hl, hj, hx', hy']
                          refine realC_n ?_
                          simp [q12]
                          refine ⟨m - 1, by omega, l + 1, by omega, ⟨f || decide (y = x), by simp [bb], ?_⟩, ?_⟩
                          · rcases hp with h | h | h
                            · exact .inl (by simp [h])
                            · exact .inl (by simp [h])
                            · exact .inr h
                          · simp [q1, qo, q6, q8, q9, q10, w1, is, ib, bb, cells_mk]
                        · have : f = true := by
                            rcases hp with h | h
                            · exact h
                            · rw [List.drop_eq_nil_of_le (by omega)] at h; cases h
                          simp [q1, qo, q6, q8, q9, q10, q11, q12, hl, only, this, is, ib, bb, cells_mk]
                    · obtain ⟨q1, qo, q6, q8, q9, q10, q11⟩ := hA
                      simp only [cells_mk, ib, is, bb] at q1 qo q6 q8 q9 q10 q11
                      simp [q11, q10]
                      refine ⟨m - 1, by omega, j + 1, by omega, ?_⟩
                      simp [q1, qo, q6, q8, q9, w2, is, ib, cells_mk]
                  · simp [q1, qo, q6, q8, q9, q10, hj, only, is, ib, cells_mk]
              · obtain ⟨q1, qo, q6, q8⟩ := hA
                simp only [cells_mk, ib, is] at q1 qo q6 q8
                simp [q8]
                refine ⟨m - 1, by omega, i + 1, by omega, ?_⟩
                simp [q1, qo, q6, w1, is, ib, cells_mk]
            · simp [q1, qo, q6, q8, hi, only]
        · simp
          refine ECall.fn fn23 (by simp) (by simp) rfl fun _ => ?_
          simp [bb, r15]
end Go.Abs

namespace Go.Abs
open Go.Proofs

theorem occ_shift (t : T) : t.formed = true → ∀ y c v : Int, 0 ≤ y → (t.mv y c).occ (if c ≤ v then v + y else v) = t.occ v := by
  induction t using T.ind with
  | h k n ts ih =>
  intro hf y c v hy
  rw [T.formed, Bool.and_eq_true, formedL_all, List.all_eq_true] at hf
  by_cases hk : k = 1
  · have := head_leaf hf.1 (.inl hk)
    subst this
    subst hk
    simp only [T.mv, if_true, T.occ, T.occL, true_and]
    have e : ((if n < c then n else n + y) = (if c ≤ v then v + y else v)) ↔ n = v := by split <;> split <;> omega
    simp only [e]
  · have key : ∀ (ts : List T) (i : Int), (∀ t, t ∈ ts → ∀ y c v : Int, 0 ≤ y → (t.mv y c).occ (if c ≤ v then v + y else v) = t.occ v) → T.occL k (if c ≤ v then v + y else v) i (T.mvL k y c i ts) = T.occL k v i ts := by
      intro ts
      induction ts with
      | nil => intro i _; simp [T.mvL, T.occL]
      | cons t ts ih2 =>
        intro i h
        simp only [T.mvL, T.occL]
        have e : (if c ≤ v then v + y else v) + bindsOf k i = if c + bindsOf k i ≤ v + bindsOf k i then v + bindsOf k i + y else v + bindsOf k i := by
          split <;> split <;> omega
        rw [ih2 (i + 1) fun u hu => h u (by simp [hu]), e, h t (by simp) y _ _ hy]
    simp only [T.mv, hk, if_false, T.occ]
    rw [key ts 0 fun t ht => ih t ht (hf.2 t ht)]
    simp
theorem mv_hasC (t : T) : t.formed = true → ∀ y c m : Int, (t.mv y c).hasC m = t.hasC m := by
  induction t using T.ind with
  | h k n ts ih =>
  intro hf y c m
  rw [T.formed, Bool.and_eq_true, formedL_all, List.all_eq_true] at hf
  by_cases hk : k = 1
  · have := head_leaf hf.1 (.inl hk)
    subst this
    subst hk
    simp [T.mv, T.hasC, T.hasCL]
  · have key : ∀ (ts : List T) (i : Int), (∀ t, t ∈ ts → ∀ y c m : Int, (t.mv y c).hasC m = t.hasC m) → T.hasCL (T.mvL k y c i ts) m = T.hasCL ts m := by
      intro ts
      induction ts with
      | nil => intro i _; simp [T.mvL, T.hasCL]
      | cons t ts ih2 =>
        intro i h
        simp only [T.mvL, T.hasCL]
        rw [h t (by simp), ih2 (i + 1) fun u hu => h u (by simp [hu])]
    simp only [T.mv, hk, if_false, T.hasC]
    rw [key ts 0 fun t ht => ih t ht (hf.2 t ht)]
theorem mv_consts {t : T} (hf : t.formed = true) (y c : Int) : (t.mv y c).consts = t.consts :=
  srt_ext (consts_facts _).1 (consts_facts _).1 fun n => by rw [(consts_facts _).2, (consts_facts _).2, mv_hasC t hf]
theorem formed_wf (t : T) : t.formed = true → t.wf = true := by
  induction t using T.ind with
  | h k n ts ih =>
  intro hf
  rw [T.formed, Bool.and_eq_true, formedL_all, List.all_eq_true] at hf
  have : ¬ badHead k n ts.length = true := by simpa using hf.1
  rw [bad_iff, Classical.not_not] at this
  rw [T.wf, Bool.and_eq_true, wfL_all, List.all_eq_true, decide_eq_true_eq]
  exact ⟨by omega, fun t ht => ih t ht (hf.2 t ht)⟩

def d16 : SCode :=
  .dreg [0, 0, 3, 0, 0, 31, 63, 127, 255, 511, 255, 2047, 4095, 8191, 16383, 32767, 65535, 32767, 262143, 524287, 1048575, 2097151, 4194303, 8388607, 4194303, 33554431, 67108863, 134217727, 268435455, 536870911, 1073741823, 2147483647]
       [⟨some 57, none, .ldn 24 3 (.t 9)⟩,
        ⟨some 58, none, .mv (.t 12)⟩,
        ⟨some 59, none, .call (.f 52) [.t 57, .t 58]⟩,
        ⟨some 60, none, .ldn 24 3 (.t 4)⟩,
        ⟨some 61, none, .mv (.t 3)⟩,
        ⟨some 62, none, .call (.f 52) [.t 60, .t 61]⟩,
        ⟨some 63, none, .bin .eql (.t 59) (.t 62)⟩,
        ⟨some 64, none, .mv (.t 63)⟩,
        ⟨some 65, some (64, true), .ldn 24 3 (.t 9)⟩,
        ⟨some 66, some (64, true), .call (.f 20) [.t 65]⟩,
        ⟨some 67, some (64, true), .ldn 24 3 (.t 4)⟩,
        ⟨some 68, some (64, true), .call (.f 20) [.t 67]⟩,
        ⟨some 69, some (64, true), .bin .eql (.t 66) (.t 68)⟩,
        ⟨some 70, none, .pick (.t 64) (.t 69) (.k (.bool false))⟩,
        ⟨some 71, none, .mv (.t 70)⟩,
        ⟨some 72, some (71, true), .ldn 24 3 (.t 9)⟩,
        ⟨some 73, some (71, true), .call (.f 21) [.t 72]⟩,
        ⟨some 74, some (71, true), .ldn 24 3 (.t 4)⟩,
        ⟨some 75, some (71, true), .call (.f 21) [.t 74]⟩,
        ⟨some 76, some (71, true), .bin .eql (.t 73) (.t 75)⟩,
        ⟨some 77, none, .pick (.t 71) (.t 76) (.k (.bool false))⟩,
        ⟨some 78, none, .mv (.t 77)⟩,
        ⟨some 79, some (78, true), .ldn 24 3 (.t 9)⟩,
        ⟨some 80, some (78, true), .call (.f 60) [.t 79]⟩,
        ⟨some 81, some (78, true), .ldn 24 3 (.t 4)⟩,
        ⟨some 82, some (78, true), .call (.f 60) [.t 81]⟩,
        ⟨some 83, some (78, true), .call (.f 59) [.t 80, .t 82]⟩,
        ⟨some 84, none, .pick (.t 78) (.t 83) (.k (.bool false))⟩,
        ⟨some 85, none, .mv (.t 84)⟩,
        ⟨some 86, some (85, true), .call (.f 50) []⟩,
        ⟨some 87, none, .pick (.t 85) (.t 86) (.k (.bool false))⟩,
        ⟨some 8, none, .mv (.t 87)⟩]

theorem fn16 (t : T) (pb pc pv : Int) (hc : t.count ≤ 1048576) (hw : t.wf = true) : Fn Try.prog 16 [tm t, ib pb, ib pc, ib pv] (bb true) := by
  refine fn_of (base := 16000) ok16 rfl fun σ h0 hr => ?_
  have s0 := h0 0
  have s1 : σ.sl 1 = ib pb := h0 1
  have s2 : σ.sl 2 = ib pc := h0 2
  have s3 : σ.sl 3 = ib pv := h0 3
  rw [slots0] at s0
  simp only [tm, ib] at s0 s1 s2 s3
  clear h0 hr
  obtain ⟨b1, b2, b3⟩ := umod pb (m := 50) (by omega) (by omega)
  obtain ⟨c1, c2, c3⟩ := umod pc (m := 10) (by omega) (by omega)
  obtain ⟨v1, v2, v3⟩ := umod pv (m := 20) (by omega) (by omega)
  unfold c16
  simp [s0, room]
  refine ⟨fun x hx => cells_isD' _ x hx, ?_⟩
  refine ECall.fn (fn17 [t]) (by simp [tms]) (by simp) rfl fun _ => ?_
  simp [bb]
  refine ⟨fun hh => by simp [r16, hh], fun hh => ?_⟩
  simp [hh, s1, s2, s3, b3, c3, v3]
  generalize (uw pb).tmod 50 = b0 at b1 b2 b3
  generalize (uw pc).tmod 10 = c at c1 c2 c3
  generalize (uw pv).tmod 20 = v at v1 v2 v3
  clear s1 s2 s3
  have w0 : IntKind.wrap .i64 (1 + b0) = 1 + b0 := wrap_id (by omega) (by omega)
  simp [w0]
  generalize hb : 1 + b0 = b
  have bb1 : 1 ≤ b := by omega
  have bb2 : b ≤ 50 := by omega
  refine ECall.fn (fn49 t b c) (by simp [tm, ib]) (by simp) (by simp [tm, ib, AV.keys2]) fun _ => ?_
  simp [tm, ib]
  refine ⟨fun he => ?_, fun he => ?_⟩
  · refine ECall.fn fn50 (by simp) (by simp) rfl fun _ => ?_
    simp [bb, r16]
  · obtain ⟨hck, ho, m1⟩ := shift_ok hc (b := b) (fr := c) (by omega) (by omega) c1 (by omega) he
    have hf := ((check_iff t).1 hck).2.2
    have hf2 := mv_formed t hf b c (by omega) ho
    have hcn := mv_count t hf b c
    have hc2 : (t.mv b c).count ≤ 1048576 := by omega
    have hw2 := formed_wf _ hf2
    have hd := mv_depth t hf b c
    have hcs := mv_consts hf b c
    have hsz : (t.mv b c).size = t.size := by rw [size_count _ (by omega), size_count _ (by omega), hcn]
    have cnt1 : ∀ x : Int, 0 ≤ x → x ≤ 1000 → (if 0 ≤ x ∧ x ≤ 65535 then (t.mv b c).cnt x 0 else 0) = ((t.mv b c).occ x : Nat) := fun x h1 h2 => by
      rw [if_pos (by omega), cnt_occ _ x 0 h1 (by omega) (by omega), Int.add_zero]
    have cnt2 : ∀ x : Int, 0 ≤ x → x ≤ 1000 → (if 0 ≤ x ∧ x ≤ 65535 then t.cnt x 0 else 0) = (t.occ x : Nat) := fun x h1 h2 => by
      rw [if_pos (by omega), cnt_occ _ x 0 h1 (by omega) (by omega), Int.add_zero]
    have call1 : ∀ x : Int, 0 ≤ x → x ≤ 1000 → Fn Try.prog 52 [tm (t.mv b c), ib x] (ib ((t.mv b c).occ x : Nat)) := fun x h1 h2 => by rw [← cnt1 x h1 h2]; exact fn52 _ x
    have call2 : ∀ x : Int, 0 ≤ x → x ≤ 1000 → Fn Try.prog 52 [tm t, ib x] (ib (t.occ x : Nat)) := fun x h1 h2 => by rw [← cnt2 x h1 h2]; exact fn52 _ x
    simp [m1, he, -W_block]
    refine W_cutb (fun σ => σ.sl 4 = .c (.ref 16004 (σ.tg 16004) 0) ∧ σ.ob 16004 = some (.box 24 t.cells) ∧ σ.sl 9 = .c (.ref 16009 (σ.tg 16009) 0) ∧ σ.ob 16009 = some (.box 24 (t.mv b c).cells) ∧ σ.sl 1 = ib b ∧ σ.sl 2 = ib c ∧ σ.sl 3 = ib v) ?_ fun σ' hA => ?_
    · refine W_loop (fun m σ => ∃ i : Nat, (i : Int) + m = b ∧ σ.sl 4 = .c (.ref 16004 (σ.tg 16004) 0) ∧ σ.ob 16004 = some (.box 24 t.cells) ∧ σ.sl 9 = .c (.ref 16009 (σ.tg 16009) 0) ∧ σ.ob 16009 = some (.box 24 (t.mv b c).cells) ∧ σ.sl 1 = ib b ∧ σ.sl 2 = ib c ∧ σ.sl 3 = ib v ∧ σ.sl 11 = ib i) b.toNat ?_ ?_
      · exact ⟨0, by omega, by simp [ib]⟩
      · rintro m σ ⟨i, hm, q4, o4, q9, o9, q1, q2, q3, q11⟩
        unfold c16b0
        simp only [ib] at q1 q2 q3 q11
        by_cases hi : (i : Int) < b
        · have w1 := wrap_succ (i := i) (by omega)
          have w2 : IntKind.wrap .i64 (c + (i : Int)) = c + i := wrap_id (by omega) (by omega)
          have hz := call1 (c + i) (by omega) (by omega)
          rw [occ_gap t b c (c + i) (by omega) (by omega)] at hz
          simp [q4, o4, q9, o9, q1, q2, q3, q11, hi, w2]
          refine ECall.fn hz (by simp [tm, ib]) (by simp) rfl fun _ => ?_
          simp [ib, q11]
          refine ⟨m - 1, by omega, i + 1, by omega, ?_⟩
          simp [q4, o4, q9, o9, q1, q2, q3, w1, ib]
        · simp [q4, o4, q9, o9, q1, q2, q3, q11, hi, only, ib]
    · obtain ⟨q4, o4, q9, o9, q1, q2, q3⟩ := hA
      simp only [ib] at q1 q2 q3
      have hfin : ∀ x : Int, 0 ≤ x → x ≤ 1000 → (t.mv b c).occ x = t.occ v → ∀ σ : St, σ.sl 4 = .c (.ref 16004 (σ.tg 16004) 0) → σ.ob 16004 = some (.box 24 t.cells) → σ.sl 9 = .c (.ref 16009 (σ.tg 16009) 0) → σ.ob 16009 = some (.box 24 (t.mv b c).cells) → σ.sl 3 = .c (.v (.int .i64 v)) → σ.sl 12 = .c (.v (.int .i64 x)) → W Try.prog 16000 d16 σ (seqC Try.prog 16000 SCode.ret (onEnd [] r16 (AV.c (Cell.v (Value.bool true))) [])) := by
        intro x x1 x2 hx σ q4 o4 q9 o9 q3 q12
        have k1 := call1 x x1 x2
        have k2 := call2 v v1 (by omega)
        rw [hx] at k1
        have e1 := fn20 (t.mv b c)
        rw [hsz] at e1
        have e2 := fn21 (t.mv b c)
        rw [hd] at e2
        have e3 := fn60 (t.mv b c) hc2 hw2
        rw [hcs] at e3
        unfold d16
        refine W_dregA ?_
        simp [q4, o4, q9, o9, q3, q12]
        refine CallA.fn k1 (by simp [tm, ib]) (by simp) rfl ?_
        simp [ib, q4, o4, q9, o9, q3, q12]
        refine CallA.fn k2 (by simp [tm, ib]) (by simp) rfl ?_
        simp [ib, q4, o4, q9, o9, q3, q12]
        refine GCallA.fn (fun _ => e1) (by simp [tm]) (by simp) rfl ?_
        simp [ib, q4, o4, q9, o9, q3, q12]
        refine GCallA.fn (fun _ => fn20 t) (by simp [tm]) (by simp) rfl ?_
        simp [ib, q4, o4, q9, o9, q3, q12]
        refine GCallA.fn (fun _ => e2) (by simp [tm]) (by simp) rfl ?_
        simp [ib, q4, o4, q9, o9, q3, q12]
        refine GCallA.fn (fun _ => fn21 t) (by simp [tm]) (by simp) rfl ?_
        simp [ib, q4, o4, q9, o9, q3, q12]
        refine GCallA.fn (fun _ => e3) (by simp [tm]) (by simp) (by simp [is]) ?_
        simp [is, q4, o4, q9, o9, q3, q12]
        refine GCallA.fn (fun _ => fn60 t hc hw) (by simp [tm]) (by simp) (by simp [is]) ?_
        simp [is, q4, o4, q9, o9, q3, q12]
        refine GCallA.fn (fun _ => fn59 t.consts t.consts) (by simp [is]) (by simp) rfl ?_
        simp [bb]
        refine GCallA.fn (fun _ => fn50) (by simp) (by simp) rfl ?_
        simp [bb]
        refine realC_n ?_
        simp [r16]
      have hoc := occ_shift t hf b c v (by omega)
      have wv : IntKind.wrap .i64 (v + b) = v + b := wrap_id (by omega) (by omega)
      simp [q1, q2, q3, wv]
      refine ⟨fun h => ?_, fun h => ?_⟩
      · rw [if_pos h] at hoc
        exact hfin (v + b) (by omega) (by omega) hoc _ (by simp [q4]) (by simp [o4]) (by simp [q9]) (by simp [o9]) (by simp [q3]) (by simp)
      · rw [if_neg (by omega)] at hoc
        exact hfin v (by omega) (by omega) hoc _ (by simp [q4]) (by simp [o4]) (by simp [q9]) (by simp [o9]) (by simp [q3]) (by simp)
end Go.Abs
