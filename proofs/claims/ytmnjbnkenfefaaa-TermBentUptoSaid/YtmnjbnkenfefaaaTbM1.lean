/- THIS TEXT TELLS SOME FUNCTIONS OF THE PROGRAM IN THE CALCULUS, PROVES BY THE KERNEL THAT WHAT IS TOLD IS THE LOADED CODE, AND PROVES WHAT THEY COMPUTE: for every argument that is told; the conditions stand in each theorem. -/
import Derived.KernelRfl
import Derived.Test.YtmnjbnkenfefaaaProg
import Derived.Test.YtmnjbnkenfefaaaTbM0
set_option linter.unusedVariables false
set_option linter.unusedSimpArgs false
namespace Go.Abs
open Go.Proofs

theorem shO_kin (fr b e fr' b' e' : Int) (tf tb te : Nat) : Kin (shO fr b e tf tb te) (shO fr' b' e' tf tb te) where
  there k t q h := by
    rcases shO_get h with ⟨rfl, rfl, rfl⟩ | ⟨rfl, rfl, rfl⟩ | ⟨rfl, rfl, rfl⟩ <;> exact ⟨_, rfl⟩
  back k t q h := by
    rcases shO_get h with ⟨rfl, rfl, rfl⟩ | ⟨rfl, rfl, rfl⟩ | ⟨rfl, rfl, rfl⟩ <;> exact ⟨_, rfl⟩
  data k t q h := by
    rcases shO_get h with ⟨rfl, rfl, rfl⟩ | ⟨rfl, rfl, rfl⟩ | ⟨rfl, rfl, rfl⟩ <;> rfl

theorem spMap (fr b : Int) (tf tb te : Nat) (t : T) (e d : Int) : Spec Try.prog 98 [tm t, ib d, .c (.clo 99 [] [(49005, tf), (49004, tb), (49008, te)])] (shO fr b e tf tb te) (tm (t.mapS (S := Int) (fun _ n d => shV fr b n d) (fun e n d => shE fr b n d e) e d).1)
    (shO fr b (t.mapS (S := Int) (fun _ n d => shV fr b n d) (fun e n d => shE fr b n d e) e d).2 tf tb te) :=
  sp98 (O := fun e => shO fr b e tf tb te) (fun e n d => sp99 fr b e n d tf tb te) (fun e e' => shO_kin fr b e fr b e' tf tb te) (fun e k h1 h2 => by
    cases h : (shO fr b e tf tb te).lookup k with
    | none => rfl
    | some x =>
      obtain ⟨t, q⟩ := x
      rcases shO_get h with ⟨rfl, _⟩ | ⟨rfl, _⟩ | ⟨rfl, _⟩ <;> omega) t e d
end Go.Abs

namespace Go.Abs
open Go.Proofs

def T.zero : T := .mk 0 0 []
def T.shiftM (t : T) (b fr : Int) : T × Int := t.mapS (S := Int) (fun _ n d => shV fr b n d) (fun e n d => shE fr b n d e) 0 0
def mayB (x : Int) : Bool := decide (0 ≤ x) && decide (x ≤ 65535)
def T.shift (t : T) (b fr : Int) : T × Int :=
  if t.check ≠ 0 then (.zero, t.check) else if !(mayB b && mayB fr) then (.zero, 1) else if (t.shiftM b fr).2 ≠ 0 then (.zero, (t.shiftM b fr).2) else ((t.shiftM b fr).1, 0)

theorem fn49 (t : T) (b fr : Int) : Fn Try.prog 49 [tm t, ib b, ib fr] (.tup [tm (t.shift b fr).1, ib (t.shift b fr).2]) := by
  refine fn_of (base := 49000) ok49 rfl fun σ h0 hr => ?_
  have s0 := h0 0
  have s1 := h0 1
  have s2 := h0 2
  rw [slots0] at s0
  rw [slots1] at s1
  rw [slots2] at s2
  simp only [tm, ib] at s0 s1 s2
  clear h0 hr
  unfold c49
  simp [s0, s1, s2]
  refine ECall.fn (fn22 t) (by simp [tm]) (by simp) (by simp [ib]) fun _ => ?_
  simp [ib]
  refine ⟨fun hc => ?_, fun hc => ?_⟩
  · refine W_dregE 2 [49006] ?_
    simp [SOp.args, s0, s1, s2]
    refine realC_n ?_
    simp [r49, T.shift, hc, tm, cells_mk, T.zero]
  · simp [hc, s0, s1, s2]
    refine ECall.fn (fn97 b) (by simp [ib]) (by simp) (by simp [bb]) fun _ => ?_
    simp [bb, s0, s1, s2]
    refine GCall.fn (fun _ => fn97 fr) (by simp [ib]) (by simp) (by simp [bb]) fun _ => ?_
    simp [bb, r49]
    refine ⟨fun hm => ?_, fun m1 m2 m3 m4 => ?_⟩
    · have hm' : (mayB b && mayB fr) = false := by
        simp only [mayB, Bool.and_eq_false_iff, decide_eq_false_iff_not]; omega
      simp [T.shift, hc, hm', tm, cells_mk, T.zero]
    · have hm' : (mayB b && mayB fr) = true := by
        simp only [mayB, Bool.and_eq_true, decide_eq_true_eq]; omega
      refine ECall.obj (rs := []) (args := [tm t, ib 0, .c (.clo 99 [] [(49005, σ.tg 49005 + 1), (49004, σ.tg 49004 + 1), (49008, σ.tg 49008 + 1)])])
        (by simpa [refs] using spMap fr b (σ.tg 49005 + 1) (σ.tg 49004 + 1) (σ.tg 49008 + 1) t 0 0) (by simp [tm, ib]) (by simp) (by simp [tm]) ?_ (shO_kin _ _ _ _ _ _ _ _ _) fun _ => ?_
      · intro k t' q h
        rcases shO_get h with ⟨rfl, rfl, rfl⟩ | ⟨rfl, rfl, rfl⟩ | ⟨rfl, rfl, rfl⟩ <;> simp [hc]
      · have e8 : ∀ τ : St, (τ.puts (shO fr b (t.shiftM b fr).2 (σ.tg 49005 + 1) (σ.tg 49004 + 1) (σ.tg 49008 + 1))).ob 49008 = some (.box 29 [.v (.int .i64 (t.shiftM b fr).2)]) := fun τ => puts_some rfl
        have n6 : ∀ (τ : St), (τ.puts (shO fr b (t.shiftM b fr).2 (σ.tg 49005 + 1) (σ.tg 49004 + 1) (σ.tg 49008 + 1))).ob 49006 = τ.ob 49006 := fun τ => puts_none rfl
        simp only [T.shiftM] at e8 n6
        simp [tm, e8, n6]
        have hsh : t.shift b fr = if (t.shiftM b fr).2 ≠ 0 then (.zero, (t.shiftM b fr).2) else ((t.shiftM b fr).1, 0) := by simp [T.shift, hc, hm']
        simp only [T.shiftM] at hsh
        refine ⟨fun he => ?_, fun he => ?_⟩
        · refine W_dregE 2 [49006] ?_
          simp [SOp.args, e8, n6]
          refine realC_n ?_
          simp [he, hsh, tm, cells_mk, T.zero]
        · simp [n6, he, hsh, tm, cells_mk, T.zero]
end Go.Abs

namespace Go.Abs
open Go.Proofs

def wk4 : T := .mk 5 0 [.mk 1 0 [], .mk 1 1 []]
def wk4s : T := .mk 5 0 [.mk 1 2 [], .mk 1 3 []]
theorem wk4_check : wk4.check = 0 := by rfl
theorem wk4_shift : wk4.shift 2 0 = (wk4s, 0) := by rfl
theorem wk4_cnt : (if (0 : Int) ≤ 0 ∧ (0 : Int) ≤ 65535 then wk4.cnt 0 0 else 0) = 2 := by rfl

theorem fn50 : Fn Try.prog 50 [] (bb true) := by
  refine fn_of (base := 50000) ok50 rfl fun σ h0 hr => ?_
  clear h0 hr
  have c49 := fn49 wk4 2 0
  rw [wk4_shift] at c49
  have c52 := fn52 wk4 0
  rw [wk4_cnt] at c52
  have c45 := fn45 wk4s wk4s
  rw [eqb_self] at c45
  unfold c50
  simp
  refine ECall.fn (fn66 0) (by simp [ib]) (by simp) (by simp [tm]) fun _ => ?_
  simp
  refine ECall.fn (fn66 1) (by simp [ib]) (by simp) (by simp [tm]) fun _ => ?_
  simp [tm, room]
  refine ⟨⟨fun x hx => cells_isD' _ x hx, fun x hx => cells_isD' _ x hx⟩, ?_⟩
  refine ECall.fn (fn25 5 [.mk 1 0 [], .mk 1 1 []]) (by simp [ib, tms]) (by simp) (by simp [tm]) fun _ => ?_
  simp [tm]
  refine ECall.fn c49 (by simp [tm, wk4, ib]) (by simp) (by simp [tm, ib, AV.keys2]) fun _ => ?_
  simp [tm, ib]
  refine W_dregA ?_
  simp
  refine GCallA.fn (fun _ => fn66 2) (by simp [ib]) (by simp) (by simp [tm]) ?_
  simp
  refine GCallA.fn (fun _ => fn66 3) (by simp [ib]) (by simp) (by simp [tm]) ?_
  simp [tm, room]
  refine ⟨⟨fun x hx => cells_isD' _ x hx, fun x hx => cells_isD' _ x hx⟩, ?_⟩
  refine GCallA.fn (fun _ => fn25 5 [.mk 1 2 [], .mk 1 3 []]) (by simp [ib, tms]) (by simp) (by simp [tm]) ?_
  simp [tm]
  refine GCallA.fn (fun _ => c45) (by simp [tm, wk4s]) (by simp) rfl ?_
  simp [bb]
  refine GCallA.fn (fun _ => c52) (by simp [tm, wk4, ib]) (by simp) rfl ?_
  simp [ib]
  refine realC_n ?_
  simp [r50, bb]
end Go.Abs

namespace Go.Abs

/- porism/porismlaw04.ShiftSwaps -/
def c8 : SCode :=
  .seq (.reg
       [⟨some 5, none, .box 24 (.t 0)⟩,
        ⟨some 10, none, .mv (.k (.bool false))⟩])
  (.seq (.seq (.reg
         [⟨some 17, none, .ldn 24 3 (.t 5)⟩,
          ⟨some 18, none, .lit 24 3 40 [.t 17]⟩,
          ⟨some 19, none, .call (.f 17) [.t 18]⟩])
    (.cond (.t 19)
      (.seq (.reg
           [⟨some 10, none, .mv (.k (.bool true))⟩])
      (.ret))
      (.skip)))
  (.seq (.reg
       [⟨some 20, none, .mv (.t 1)⟩,
        ⟨some 21, none, .conv 3 32 .u64 (.t 20)⟩,
        ⟨some 22, none, .bin .rem (.t 21) (.k (.int .u64 30))⟩,
        ⟨some 23, none, .conv 32 3 .i64 (.t 22)⟩,
        ⟨some 24, none, .mv (.t 2)⟩,
        ⟨some 25, none, .conv 3 32 .u64 (.t 24)⟩,
        ⟨some 26, none, .bin .rem (.t 25) (.k (.int .u64 30))⟩,
        ⟨some 27, none, .conv 32 3 .i64 (.t 26)⟩,
        ⟨some 28, none, .mv (.t 3)⟩,
        ⟨some 29, none, .conv 3 32 .u64 (.t 28)⟩,
        ⟨some 30, none, .bin .rem (.t 29) (.k (.int .u64 10))⟩,
        ⟨some 31, none, .conv 32 3 .i64 (.t 30)⟩,
        ⟨some 32, none, .mv (.t 4)⟩,
        ⟨some 33, none, .conv 3 32 .u64 (.t 32)⟩,
        ⟨some 34, none, .bin .rem (.t 33) (.k (.int .u64 10))⟩,
        ⟨some 35, none, .conv 32 3 .i64 (.t 34)⟩,
        ⟨some 1, none, .mv (.t 23)⟩,
        ⟨some 2, none, .mv (.t 27)⟩,
        ⟨some 3, none, .mv (.t 31)⟩,
        ⟨some 4, none, .mv (.t 35)⟩])
  (.seq (.reg
       [⟨some 37, none, .ldn 24 3 (.t 5)⟩,
        ⟨some 38, none, .mv (.t 1)⟩,
        ⟨some 39, none, .mv (.t 3)⟩,
        ⟨some 40, none, .call (.f 49) [.t 37, .t 38, .t 39]⟩,
        ⟨some 36, none, .mv (.t 40)⟩,
        ⟨some 41, none, .ext (.t 36) 0⟩,
        ⟨some 42, none, .ext (.t 36) 1⟩,
        ⟨some 11, none, .alloc 24 [.v (.int .i64 0), .v (.int .i64 0), .cap 3 40 []]⟩,
        ⟨none, none, .stn 24 3 (.t 11) (.t 41)⟩,
        ⟨some 12, none, .mv (.t 42)⟩])
  (.seq (.reg
       [⟨some 44, none, .ldn 24 3 (.t 5)⟩,
        ⟨some 45, none, .mv (.t 2)⟩,
        ⟨some 46, none, .mv (.t 3)⟩,
        ⟨some 47, none, .mv (.t 4)⟩,
        ⟨some 48, none, .bin .add (.t 46) (.t 47)⟩,
        ⟨some 49, none, .call (.f 49) [.t 44, .t 45, .t 48]⟩,
        ⟨some 43, none, .mv (.t 49)⟩,
        ⟨some 50, none, .ext (.t 43) 0⟩,
        ⟨some 51, none, .ext (.t 43) 1⟩,
        ⟨some 13, none, .alloc 24 [.v (.int .i64 0), .v (.int .i64 0), .cap 3 40 []]⟩,
        ⟨none, none, .stn 24 3 (.t 13) (.t 50)⟩,
        ⟨some 14, none, .mv (.t 51)⟩])
  (.seq (.seq (.reg
         [⟨some 52, none, .mv (.t 12)⟩,
          ⟨some 53, none, .bin .neq (.t 52) (.k (.int .i64 0))⟩,
          ⟨some 54, none, .mv (.t 53)⟩,
          ⟨some 55, some (54, false), .mv (.t 14)⟩,
          ⟨some 56, some (54, false), .bin .neq (.t 55) (.k (.int .i64 0))⟩,
          ⟨some 57, none, .pick (.t 54) (.k (.bool true)) (.t 56)⟩])
    (.cond (.t 57)
      (.seq (.reg
           [⟨some 58, none, .call (.f 50) []⟩,
            ⟨some 10, none, .mv (.t 58)⟩])
      (.ret))
      (.skip)))
  (.seq (.reg
       [⟨some 60, none, .ldn 24 3 (.t 11)⟩,
        ⟨some 61, none, .mv (.t 2)⟩,
        ⟨some 62, none, .mv (.t 3)⟩,
        ⟨some 63, none, .mv (.t 4)⟩,
        ⟨some 64, none, .bin .add (.t 62) (.t 63)⟩,
        ⟨some 65, none, .mv (.t 1)⟩,
        ⟨some 66, none, .bin .add (.t 64) (.t 65)⟩,
        ⟨some 67, none, .call (.f 49) [.t 60, .t 61, .t 66]⟩,
        ⟨some 59, none, .mv (.t 67)⟩,
        ⟨some 68, none, .ext (.t 59) 0⟩,
        ⟨some 69, none, .ext (.t 59) 1⟩,
        ⟨some 15, none, .alloc 24 [.v (.int .i64 0), .v (.int .i64 0), .cap 3 40 []]⟩,
        ⟨none, none, .stn 24 3 (.t 15) (.t 68)⟩,
        ⟨some 12, none, .mv (.t 69)⟩])
  (.seq (.reg
       [⟨some 71, none, .ldn 24 3 (.t 13)⟩,
        ⟨some 72, none, .mv (.t 1)⟩,
        ⟨some 73, none, .mv (.t 3)⟩,
        ⟨some 74, none, .call (.f 49) [.t 71, .t 72, .t 73]⟩,
        ⟨some 70, none, .mv (.t 74)⟩,
        ⟨some 75, none, .ext (.t 70) 0⟩,
        ⟨some 76, none, .ext (.t 70) 1⟩,
        ⟨some 16, none, .alloc 24 [.v (.int .i64 0), .v (.int .i64 0), .cap 3 40 []]⟩,
        ⟨none, none, .stn 24 3 (.t 16) (.t 75)⟩,
        ⟨some 14, none, .mv (.t 76)⟩])
  (.seq (.seq (.reg
         [⟨some 77, none, .mv (.t 12)⟩,
          ⟨some 78, none, .bin .neq (.t 77) (.k (.int .i64 0))⟩,
          ⟨some 79, none, .mv (.t 78)⟩,
          ⟨some 80, some (79, false), .mv (.t 14)⟩,
          ⟨some 81, some (79, false), .bin .neq (.t 80) (.k (.int .i64 0))⟩,
          ⟨some 82, none, .pick (.t 79) (.k (.bool true)) (.t 81)⟩])
    (.cond (.t 82)
      (.seq (.reg
           [⟨some 83, none, .mv (.t 12)⟩,
            ⟨some 84, none, .bin .eql (.t 83) (.k (.int .i64 6))⟩,
            ⟨some 85, none, .mv (.t 84)⟩,
            ⟨some 86, some (85, false), .mv (.t 14)⟩,
            ⟨some 87, some (85, false), .bin .eql (.t 86) (.k (.int .i64 6))⟩,
            ⟨some 88, none, .pick (.t 85) (.k (.bool true)) (.t 87)⟩,
            ⟨some 89, none, .mv (.t 88)⟩,
            ⟨some 90, some (89, true), .call (.f 50) []⟩,
            ⟨some 91, none, .pick (.t 89) (.t 90) (.k (.bool false))⟩,
            ⟨some 10, none, .mv (.t 91)⟩])
      (.ret))
      (.skip)))
  (.seq (.reg
       [⟨some 92, none, .ldn 24 3 (.t 15)⟩,
        ⟨some 93, none, .ldn 24 3 (.t 16)⟩,
        ⟨some 94, none, .call (.f 45) [.t 92, .t 93]⟩,
        ⟨some 95, none, .mv (.t 94)⟩,
        ⟨some 96, some (95, true), .call (.f 50) []⟩,
        ⟨some 97, none, .pick (.t 95) (.t 96) (.k (.bool false))⟩,
        ⟨some 10, none, .mv (.t 97)⟩])
  (.ret))))))))))
def r8 : List RR := [.t 10]
theorem ok8 : okFn Go.Proofs.Try.prog 8 98 c8 r8 5 = true := by kernel_rfl

/- porism/porismlaw04.ShiftKids -/
def w9_0 : List (List Nat) := [[], [], [], [], [], [], [], [], [], [], [], [], [], [], [], [], [9010], [9010], []]
def f9_0 : List (List Nat) := [[9010], [9010], [9010], [9010], [9010], [9010], [9010], [9010], [9010], [9010], [9010], [9010], [9010], [9010], [9010], [9010], [], [], []]
def c9b0 : SCode :=
  .seq (.seq (.reg
         [⟨some 64, none, .mv (.t 9)⟩,
          ⟨some 65, none, .fad 24 2 2 (.t 3)⟩,
          ⟨some 66, none, .ld1 22 (.t 65)⟩,
          ⟨some 67, none, .len 22 (.t 66)⟩,
          ⟨some 68, none, .bin .lss (.t 64) (.t 67)⟩])
    (.cond (.t 68)
      (.skip)
      (.exit 0)))
  (.seq (.block 1 (.seq (.dreg [0, 1, 0, 7, 15, 0, 0, 0, 128, 0, 896, 1984, 4095, 8191, 16383, 16383, 0, 98303, 262143]
           [⟨some 72, none, .fad 24 2 2 (.t 3)⟩,
            ⟨some 73, none, .ld1 22 (.t 72)⟩,
            ⟨some 74, none, .mv (.t 9)⟩,
            ⟨some 75, none, .iad 24 3 (.t 73) (.t 74)⟩,
            ⟨some 76, none, .ldn 24 3 (.t 75)⟩,
            ⟨some 77, none, .mv (.t 1)⟩,
            ⟨some 78, none, .mv (.t 2)⟩,
            ⟨some 79, none, .fad 24 0 0 (.t 3)⟩,
            ⟨some 80, none, .ld1 3 (.t 79)⟩,
            ⟨some 81, none, .mv (.t 9)⟩,
            ⟨some 82, none, .call (.f 51) [.t 80, .t 81]⟩,
            ⟨some 83, none, .bin .add (.t 78) (.t 82)⟩,
            ⟨some 84, none, .call (.f 49) [.t 76, .t 77, .t 83]⟩,
            ⟨some 71, none, .mv (.t 84)⟩,
            ⟨some 85, none, .ext (.t 71) 0⟩,
            ⟨some 86, none, .ext (.t 71) 1⟩,
            ⟨some 10, none, .alloc 24 [.v (.int .i64 0), .v (.int .i64 0), .cap 3 40 []]⟩,
            ⟨none, none, .stn 24 3 (.t 10) (.t 85)⟩,
            ⟨some 11, none, .mv (.t 86)⟩])
      (.seq (.dreg [0, 1, 3, 7, 7, 23, 7, 119, 247, 511, 1023, 2047]
           [⟨some 87, none, .mv (.t 11)⟩,
            ⟨some 88, none, .bin .neq (.t 87) (.k (.int .i64 0))⟩,
            ⟨some 89, none, .mv (.t 88)⟩,
            ⟨some 90, some (89, false), .ldn 24 3 (.t 10)⟩,
            ⟨some 91, some (89, false), .fad 24 2 2 (.t 7)⟩,
            ⟨some 92, some (89, false), .ld1 22 (.t 91)⟩,
            ⟨some 93, some (89, false), .mv (.t 9)⟩,
            ⟨some 94, some (89, false), .iad 24 3 (.t 92) (.t 93)⟩,
            ⟨some 95, some (89, false), .ldn 24 3 (.t 94)⟩,
            ⟨some 96, some (89, false), .call (.f 45) [.t 90, .t 95]⟩,
            ⟨some 97, some (89, false), .not (.t 96)⟩,
            ⟨some 98, none, .pick (.t 89) (.k (.bool true)) (.t 97)⟩])
      (.cond (.t 98)
        (.seq (.reg
             [⟨some 6, none, .mv (.k (.bool false))⟩])
        (.ret))
        (.skip)))))
  (.reg
     [⟨some 69, none, .mv (.t 9)⟩,
      ⟨some 70, none, .bin .add (.t 69) (.k (.int .i64 1))⟩,
      ⟨some 9, none, .mv (.t 70)⟩]))
def c9b1 : SCode :=
  .seq (.seq (.reg
         [⟨some 99, none, .mv (.t 13)⟩,
          ⟨some 100, none, .fad 24 2 2 (.t 3)⟩,
          ⟨some 101, none, .ld1 22 (.t 100)⟩,
          ⟨some 102, none, .len 22 (.t 101)⟩,
          ⟨some 103, none, .bin .lss (.t 99) (.t 102)⟩])
    (.cond (.t 103)
      (.skip)
      (.exit 2)))
  (.seq (.block 3 (.dreg [0, 0, 2, 0, 14, 30, 0, 0, 128, 0, 896, 1984, 4094, 8191, 16383]
         [⟨some 106, none, .mv (.t 12)⟩,
          ⟨some 107, none, .fad 24 2 2 (.t 3)⟩,
          ⟨some 108, none, .ld1 22 (.t 107)⟩,
          ⟨some 109, none, .mv (.t 13)⟩,
          ⟨some 110, none, .iad 24 3 (.t 108) (.t 109)⟩,
          ⟨some 111, none, .ldn 24 3 (.t 110)⟩,
          ⟨some 112, none, .mv (.t 2)⟩,
          ⟨some 113, none, .fad 24 0 0 (.t 3)⟩,
          ⟨some 114, none, .ld1 3 (.t 113)⟩,
          ⟨some 115, none, .mv (.t 13)⟩,
          ⟨some 116, none, .call (.f 51) [.t 114, .t 115]⟩,
          ⟨some 117, none, .bin .add (.t 112) (.t 116)⟩,
          ⟨some 118, none, .call (.f 52) [.t 111, .t 117]⟩,
          ⟨some 119, none, .bin .add (.t 106) (.t 118)⟩,
          ⟨some 12, none, .mv (.t 119)⟩]))
  (.reg
     [⟨some 104, none, .mv (.t 13)⟩,
      ⟨some 105, none, .bin .add (.t 104) (.k (.int .i64 1))⟩,
      ⟨some 13, none, .mv (.t 105)⟩]))
def c9 : SCode :=
  .seq (.reg
       [⟨some 3, none, .box 24 (.t 0)⟩,
        ⟨some 6, none, .mv (.k (.bool false))⟩])
  (.seq (.seq (.reg
         [⟨some 14, none, .ldn 24 3 (.t 3)⟩,
          ⟨some 15, none, .lit 24 3 40 [.t 14]⟩,
          ⟨some 16, none, .call (.f 17) [.t 15]⟩,
          ⟨some 17, none, .mv (.t 16)⟩,
          ⟨some 18, some (17, false), .ldn 24 3 (.t 3)⟩,
          ⟨some 19, some (17, false), .call (.f 27) [.t 18]⟩,
          ⟨some 20, some (17, false), .bin .neq (.t 19) (.k (.int .i64 0))⟩,
          ⟨some 21, none, .pick (.t 17) (.k (.bool true)) (.t 20)⟩,
          ⟨some 22, none, .mv (.t 21)⟩,
          ⟨some 23, some (22, false), .fad 24 2 2 (.t 3)⟩,
          ⟨some 24, some (22, false), .ld1 22 (.t 23)⟩,
          ⟨some 25, some (22, false), .len 22 (.t 24)⟩,
          ⟨some 26, some (22, false), .bin .eql (.t 25) (.k (.int .i64 0))⟩,
          ⟨some 27, none, .pick (.t 22) (.k (.bool true)) (.t 26)⟩])
    (.cond (.t 27)
      (.seq (.reg
           [⟨some 6, none, .mv (.k (.bool true))⟩])
      (.ret))
      (.skip)))
  (.seq (.reg
       [⟨some 28, none, .mv (.t 1)⟩,
        ⟨some 29, none, .conv 3 32 .u64 (.t 28)⟩,
        ⟨some 30, none, .bin .rem (.t 29) (.k (.int .u64 1000))⟩,
        ⟨some 31, none, .conv 32 3 .i64 (.t 30)⟩,
        ⟨some 32, none, .mv (.t 2)⟩,
        ⟨some 33, none, .conv 3 32 .u64 (.t 32)⟩,
        ⟨some 34, none, .bin .rem (.t 33) (.k (.int .u64 50))⟩,
        ⟨some 35, none, .conv 32 3 .i64 (.t 34)⟩,
        ⟨some 1, none, .mv (.t 31)⟩,
        ⟨some 2, none, .mv (.t 35)⟩])
  (.seq (.reg
       [⟨some 37, none, .ldn 24 3 (.t 3)⟩,
        ⟨some 38, none, .mv (.t 1)⟩,
        ⟨some 39, none, .mv (.t 2)⟩,
        ⟨some 40, none, .call (.f 49) [.t 37, .t 38, .t 39]⟩,
        ⟨some 36, none, .mv (.t 40)⟩,
        ⟨some 41, none, .ext (.t 36) 0⟩,
        ⟨some 42, none, .ext (.t 36) 1⟩,
        ⟨some 7, none, .alloc 24 [.v (.int .i64 0), .v (.int .i64 0), .cap 3 40 []]⟩,
        ⟨none, none, .stn 24 3 (.t 7) (.t 41)⟩,
        ⟨some 8, none, .mv (.t 42)⟩])
  (.seq (.seq (.reg
         [⟨some 43, none, .mv (.t 8)⟩,
          ⟨some 44, none, .bin .neq (.t 43) (.k (.int .i64 0))⟩])
    (.cond (.t 44)
      (.seq (.reg
           [⟨some 45, none, .mv (.t 8)⟩,
            ⟨some 46, none, .bin .eql (.t 45) (.k (.int .i64 6))⟩,
            ⟨some 47, none, .mv (.t 46)⟩,
            ⟨some 48, some (47, true), .call (.f 50) []⟩,
            ⟨some 49, none, .pick (.t 47) (.t 48) (.k (.bool false))⟩,
            ⟨some 6, none, .mv (.t 49)⟩])
      (.ret))
      (.skip)))
  (.seq (.seq (.reg
         [⟨some 50, none, .fad 24 2 2 (.t 7)⟩,
          ⟨some 51, none, .ld1 22 (.t 50)⟩,
          ⟨some 52, none, .len 22 (.t 51)⟩,
          ⟨some 53, none, .fad 24 2 2 (.t 3)⟩,
          ⟨some 54, none, .ld1 22 (.t 53)⟩,
          ⟨some 55, none, .len 22 (.t 54)⟩,
          ⟨some 56, none, .bin .neq (.t 52) (.t 55)⟩,
          ⟨some 57, none, .mv (.t 56)⟩,
          ⟨some 58, some (57, false), .fad 24 0 0 (.t 7)⟩,
          ⟨some 59, some (57, false), .ld1 3 (.t 58)⟩,
          ⟨some 60, some (57, false), .fad 24 0 0 (.t 3)⟩,
          ⟨some 61, some (57, false), .ld1 3 (.t 60)⟩,
          ⟨some 62, some (57, false), .bin .neq (.t 59) (.t 61)⟩,
          ⟨some 63, none, .pick (.t 57) (.k (.bool true)) (.t 62)⟩])
    (.cond (.t 63)
      (.seq (.reg
           [⟨some 6, none, .mv (.k (.bool false))⟩])
      (.ret))
      (.skip)))
  (.seq (.seq (.reg
         [⟨some 9, none, .mv (.k (.int .i64 0))⟩])
    (.block 0 (.loop c9b0)))
  (.seq (.reg
       [⟨some 12, none, .mv (.k (.int .i64 0))⟩])
  (.seq (.seq (.reg
         [⟨some 13, none, .mv (.k (.int .i64 0))⟩])
    (.block 2 (.loop c9b1)))
  (.seq (.reg
       [⟨some 120, none, .mv (.t 12)⟩,
        ⟨some 121, none, .ldn 24 3 (.t 3)⟩,
        ⟨some 122, none, .mv (.t 2)⟩,
        ⟨some 123, none, .call (.f 52) [.t 121, .t 122]⟩,
        ⟨some 124, none, .bin .eql (.t 120) (.t 123)⟩,
        ⟨some 125, none, .mv (.t 124)⟩,
        ⟨some 126, some (125, true), .call (.f 50) []⟩,
        ⟨some 127, none, .pick (.t 125) (.t 126) (.k (.bool false))⟩,
        ⟨some 6, none, .mv (.t 127)⟩])
  (.ret))))))))))
def r9 : List RR := [.t 6]
theorem ok9 : okFn Go.Proofs.Try.prog 9 128 c9 r9 3 = true := by kernel_rfl

/- porism/porismlaw04.ShiftTwice -/
def c11 : SCode :=
  .seq (.reg
       [⟨some 4, none, .box 24 (.t 0)⟩,
        ⟨some 8, none, .mv (.k (.bool false))⟩])
  (.seq (.seq (.reg
         [⟨some 21, none, .ldn 24 3 (.t 4)⟩,
          ⟨some 22, none, .lit 24 3 40 [.t 21]⟩,
          ⟨some 23, none, .call (.f 17) [.t 22]⟩])
    (.cond (.t 23)
      (.seq (.reg
           [⟨some 8, none, .mv (.k (.bool true))⟩])
      (.ret))
      (.skip)))
  (.seq (.reg
       [⟨some 24, none, .mv (.t 1)⟩,
        ⟨some 25, none, .conv 3 32 .u64 (.t 24)⟩,
        ⟨some 26, none, .bin .rem (.t 25) (.k (.int .u64 200))⟩,
        ⟨some 27, none, .conv 32 3 .i64 (.t 26)⟩,
        ⟨some 28, none, .mv (.t 2)⟩,
        ⟨some 29, none, .conv 3 32 .u64 (.t 28)⟩,
        ⟨some 30, none, .bin .rem (.t 29) (.k (.int .u64 200))⟩,
        ⟨some 31, none, .conv 32 3 .i64 (.t 30)⟩,
        ⟨some 32, none, .bin .add (.k (.int .i64 1)) (.t 31)⟩,
        ⟨some 33, none, .mv (.t 3)⟩,
        ⟨some 34, none, .conv 3 32 .u64 (.t 33)⟩,
        ⟨some 35, none, .bin .rem (.t 34) (.k (.int .u64 20))⟩,
        ⟨some 36, none, .conv 32 3 .i64 (.t 35)⟩,
        ⟨some 1, none, .mv (.t 27)⟩,
        ⟨some 2, none, .mv (.t 32)⟩,
        ⟨some 3, none, .mv (.t 36)⟩])
  (.seq (.reg
       [⟨some 38, none, .ldn 24 3 (.t 4)⟩,
        ⟨some 39, none, .mv (.t 1)⟩,
        ⟨some 40, none, .mv (.t 3)⟩,
        ⟨some 41, none, .call (.f 49) [.t 38, .t 39, .t 40]⟩,
        ⟨some 37, none, .mv (.t 41)⟩,
        ⟨some 42, none, .ext (.t 37) 0⟩,
        ⟨some 43, none, .ext (.t 37) 1⟩,
        ⟨some 9, none, .alloc 24 [.v (.int .i64 0), .v (.int .i64 0), .cap 3 40 []]⟩,
        ⟨none, none, .stn 24 3 (.t 9) (.t 42)⟩,
        ⟨some 10, none, .mv (.t 43)⟩])
  (.seq (.reg
       [⟨some 45, none, .ldn 24 3 (.t 4)⟩,
        ⟨some 46, none, .mv (.t 1)⟩,
        ⟨some 47, none, .mv (.t 2)⟩,
        ⟨some 48, none, .bin .add (.t 46) (.t 47)⟩,
        ⟨some 49, none, .mv (.t 3)⟩,
        ⟨some 50, none, .call (.f 49) [.t 45, .t 48, .t 49]⟩,
        ⟨some 44, none, .mv (.t 50)⟩,
        ⟨some 51, none, .ext (.t 44) 0⟩,
        ⟨some 52, none, .ext (.t 44) 1⟩,
        ⟨some 11, none, .alloc 24 [.v (.int .i64 0), .v (.int .i64 0), .cap 3 40 []]⟩,
        ⟨none, none, .stn 24 3 (.t 11) (.t 51)⟩,
        ⟨some 12, none, .mv (.t 52)⟩])
  (.seq (.seq (.reg
         [⟨some 53, none, .mv (.t 10)⟩,
          ⟨some 54, none, .bin .neq (.t 53) (.k (.int .i64 0))⟩,
          ⟨some 55, none, .mv (.t 54)⟩,
          ⟨some 56, some (55, false), .mv (.t 12)⟩,
          ⟨some 57, some (55, false), .bin .neq (.t 56) (.k (.int .i64 0))⟩,
          ⟨some 58, none, .pick (.t 55) (.k (.bool true)) (.t 57)⟩])
    (.cond (.t 58)
      (.seq (.reg
           [⟨some 59, none, .mv (.t 10)⟩,
            ⟨some 60, none, .bin .eql (.t 59) (.k (.int .i64 6))⟩,
            ⟨some 61, none, .mv (.t 60)⟩,
            ⟨some 62, some (61, false), .mv (.t 12)⟩,
            ⟨some 63, some (61, false), .bin .eql (.t 62) (.k (.int .i64 6))⟩,
            ⟨some 64, none, .pick (.t 61) (.k (.bool true)) (.t 63)⟩,
            ⟨some 65, none, .mv (.t 64)⟩,
            ⟨some 66, some (65, false), .mv (.t 10)⟩,
            ⟨some 67, some (65, false), .mv (.t 12)⟩,
            ⟨some 68, some (65, false), .bin .eql (.t 66) (.t 67)⟩,
            ⟨some 69, some (65, false), .mv (.t 68)⟩,
            ⟨some 70, some (69, true), .ldn 24 3 (.t 4)⟩,
            ⟨some 71, some (69, true), .call (.f 22) [.t 70]⟩,
            ⟨some 72, some (69, true), .mv (.t 10)⟩,
            ⟨some 73, some (69, true), .bin .eql (.t 71) (.t 72)⟩,
            ⟨some 74, some (65, false), .pick (.t 69) (.t 73) (.k (.bool false))⟩,
            ⟨some 75, none, .pick (.t 65) (.k (.bool true)) (.t 74)⟩,
            ⟨some 76, none, .mv (.t 75)⟩,
            ⟨some 77, some (76, true), .call (.f 50) []⟩,
            ⟨some 78, none, .pick (.t 76) (.t 77) (.k (.bool false))⟩,
            ⟨some 8, none, .mv (.t 78)⟩])
      (.ret))
      (.skip)))
  (.seq (.reg
       [⟨some 80, none, .ldn 24 3 (.t 9)⟩,
        ⟨some 81, none, .mv (.t 2)⟩,
        ⟨some 82, none, .mv (.t 3)⟩,
        ⟨some 83, none, .call (.f 49) [.t 80, .t 81, .t 82]⟩,
        ⟨some 79, none, .mv (.t 83)⟩,
        ⟨some 84, none, .ext (.t 79) 0⟩,
        ⟨some 85, none, .ext (.t 79) 1⟩,
        ⟨some 13, none, .alloc 24 [.v (.int .i64 0), .v (.int .i64 0), .cap 3 40 []]⟩,
        ⟨none, none, .stn 24 3 (.t 13) (.t 84)⟩,
        ⟨some 14, none, .mv (.t 85)⟩])
  (.seq (.reg
       [⟨some 87, none, .ldn 24 3 (.t 4)⟩,
        ⟨some 88, none, .mv (.t 3)⟩,
        ⟨some 89, none, .call (.f 49) [.t 87, .k (.int .i64 0), .t 88]⟩,
        ⟨some 86, none, .mv (.t 89)⟩,
        ⟨some 90, none, .ext (.t 86) 0⟩,
        ⟨some 91, none, .ext (.t 86) 1⟩,
        ⟨some 15, none, .alloc 24 [.v (.int .i64 0), .v (.int .i64 0), .cap 3 40 []]⟩,
        ⟨none, none, .stn 24 3 (.t 15) (.t 90)⟩,
        ⟨some 16, none, .mv (.t 91)⟩])
  (.seq (.reg
       [⟨some 93, none, .ldn 24 3 (.t 4)⟩,
        ⟨some 94, none, .mv (.t 3)⟩,
        ⟨some 95, none, .call (.f 49) [.t 93, .k (.int .i64 1), .t 94]⟩,
        ⟨some 92, none, .mv (.t 95)⟩,
        ⟨some 96, none, .ext (.t 92) 0⟩,
        ⟨some 97, none, .ext (.t 92) 1⟩,
        ⟨some 17, none, .alloc 24 [.v (.int .i64 0), .v (.int .i64 0), .cap 3 40 []]⟩,
        ⟨none, none, .stn 24 3 (.t 17) (.t 96)⟩,
        ⟨some 18, none, .mv (.t 97)⟩])
  (.seq (.reg
       [⟨some 99, none, .ldn 24 3 (.t 17)⟩,
        ⟨some 100, none, .mv (.t 3)⟩,
        ⟨some 101, none, .call (.f 54) [.t 99, .t 100]⟩,
        ⟨some 98, none, .mv (.t 101)⟩,
        ⟨some 102, none, .ext (.t 98) 0⟩,
        ⟨some 103, none, .ext (.t 98) 1⟩,
        ⟨some 19, none, .alloc 24 [.v (.int .i64 0), .v (.int .i64 0), .cap 3 40 []]⟩,
        ⟨none, none, .stn 24 3 (.t 19) (.t 102)⟩,
        ⟨some 20, none, .mv (.t 103)⟩])
  (.seq (.reg
       [⟨some 104, none, .mv (.t 14)⟩,
        ⟨some 105, none, .bin .eql (.t 104) (.k (.int .i64 0))⟩,
        ⟨some 106, none, .mv (.t 105)⟩,
        ⟨some 107, some (106, true), .ldn 24 3 (.t 13)⟩,
        ⟨some 108, some (106, true), .ldn 24 3 (.t 11)⟩,
        ⟨some 109, some (106, true), .call (.f 45) [.t 107, .t 108]⟩,
        ⟨some 110, none, .pick (.t 106) (.t 109) (.k (.bool false))⟩,
        ⟨some 111, none, .mv (.t 110)⟩,
        ⟨some 112, some (111, true), .mv (.t 16)⟩,
        ⟨some 113, some (111, true), .bin .eql (.t 112) (.k (.int .i64 0))⟩,
        ⟨some 114, none, .pick (.t 111) (.t 113) (.k (.bool false))⟩,
        ⟨some 115, none, .mv (.t 114)⟩,
        ⟨some 116, some (115, true), .ldn 24 3 (.t 15)⟩,
        ⟨some 117, some (115, true), .ldn 24 3 (.t 4)⟩,
        ⟨some 118, some (115, true), .call (.f 45) [.t 116, .t 117]⟩,
        ⟨some 119, none, .pick (.t 115) (.t 118) (.k (.bool false))⟩,
        ⟨some 120, none, .mv (.t 119)⟩,
        ⟨some 121, some (120, true), .mv (.t 18)⟩,
        ⟨some 122, some (120, true), .bin .eql (.t 121) (.k (.int .i64 0))⟩,
        ⟨some 123, none, .pick (.t 120) (.t 122) (.k (.bool false))⟩,
        ⟨some 124, none, .mv (.t 123)⟩,
        ⟨some 125, some (124, true), .mv (.t 20)⟩,
        ⟨some 126, none, .pick (.t 124) (.t 125) (.k (.bool false))⟩,
        ⟨some 127, none, .mv (.t 126)⟩,
        ⟨some 128, some (127, true), .ldn 24 3 (.t 19)⟩,
        ⟨some 129, some (127, true), .ldn 24 3 (.t 4)⟩,
        ⟨some 130, some (127, true), .call (.f 45) [.t 128, .t 129]⟩,
        ⟨some 131, none, .pick (.t 127) (.t 130) (.k (.bool false))⟩,
        ⟨some 132, none, .mv (.t 131)⟩,
        ⟨some 133, some (132, true), .call (.f 50) []⟩,
        ⟨some 134, none, .pick (.t 132) (.t 133) (.k (.bool false))⟩,
        ⟨some 8, none, .mv (.t 134)⟩])
  (.ret)))))))))))
def r11 : List RR := [.t 8]
theorem ok11 : okFn Go.Proofs.Try.prog 11 135 c11 r11 4 = true := by kernel_rfl

/- porism/porismlaw04.ShiftScopes -/
def c12 : SCode :=
  .seq (.reg
       [⟨some 4, none, .box 24 (.t 0)⟩,
        ⟨some 8, none, .mv (.k (.bool false))⟩])
  (.seq (.seq (.reg
         [⟨some 11, none, .ldn 24 3 (.t 4)⟩,
          ⟨some 12, none, .lit 24 3 40 [.t 11]⟩,
          ⟨some 13, none, .call (.f 17) [.t 12]⟩])
    (.cond (.t 13)
      (.seq (.reg
           [⟨some 8, none, .mv (.k (.bool true))⟩])
      (.ret))
      (.skip)))
  (.seq (.reg
       [⟨some 14, none, .mv (.t 1)⟩,
        ⟨some 15, none, .conv 3 32 .u64 (.t 14)⟩,
        ⟨some 16, none, .bin .rem (.t 15) (.k (.int .u64 30))⟩,
        ⟨some 17, none, .conv 32 3 .i64 (.t 16)⟩,
        ⟨some 18, none, .mv (.t 2)⟩,
        ⟨some 19, none, .conv 3 32 .u64 (.t 18)⟩,
        ⟨some 20, none, .bin .rem (.t 19) (.k (.int .u64 30))⟩,
        ⟨some 21, none, .conv 32 3 .i64 (.t 20)⟩,
        ⟨some 22, none, .mv (.t 3)⟩,
        ⟨some 23, none, .conv 3 32 .u64 (.t 22)⟩,
        ⟨some 24, none, .bin .rem (.t 23) (.k (.int .u64 30))⟩,
        ⟨some 25, none, .conv 32 3 .i64 (.t 24)⟩,
        ⟨some 1, none, .mv (.t 17)⟩,
        ⟨some 2, none, .mv (.t 21)⟩,
        ⟨some 3, none, .mv (.t 25)⟩])
  (.seq (.seq (.reg
         [⟨some 26, none, .ldn 24 3 (.t 4)⟩,
          ⟨some 27, none, .mv (.t 1)⟩,
          ⟨some 28, none, .call (.f 30) [.t 26, .t 27, .k (.int .i64 65536)]⟩,
          ⟨some 29, none, .not (.t 28)⟩])
    (.cond (.t 29)
      (.seq (.reg
           [⟨some 30, none, .call (.f 50) []⟩,
            ⟨some 8, none, .mv (.t 30)⟩])
      (.ret))
      (.skip)))
  (.seq (.reg
       [⟨some 32, none, .ldn 24 3 (.t 4)⟩,
        ⟨some 33, none, .mv (.t 2)⟩,
        ⟨some 34, none, .mv (.t 3)⟩,
        ⟨some 35, none, .call (.f 49) [.t 32, .t 33, .t 34]⟩,
        ⟨some 31, none, .mv (.t 35)⟩,
        ⟨some 36, none, .ext (.t 31) 0⟩,
        ⟨some 37, none, .ext (.t 31) 1⟩,
        ⟨some 9, none, .alloc 24 [.v (.int .i64 0), .v (.int .i64 0), .cap 3 40 []]⟩,
        ⟨none, none, .stn 24 3 (.t 9) (.t 36)⟩,
        ⟨some 10, none, .mv (.t 37)⟩])
  (.seq (.seq (.reg
         [⟨some 38, none, .mv (.t 10)⟩,
          ⟨some 39, none, .bin .neq (.t 38) (.k (.int .i64 0))⟩,
          ⟨some 40, none, .mv (.t 39)⟩,
          ⟨some 41, some (40, false), .ldn 24 3 (.t 9)⟩,
          ⟨some 42, some (40, false), .mv (.t 1)⟩,
          ⟨some 43, some (40, false), .mv (.t 2)⟩,
          ⟨some 44, some (40, false), .bin .add (.t 42) (.t 43)⟩,
          ⟨some 45, some (40, false), .call (.f 30) [.t 41, .t 44, .k (.int .i64 65536)]⟩,
          ⟨some 46, some (40, false), .not (.t 45)⟩,
          ⟨some 47, none, .pick (.t 40) (.k (.bool true)) (.t 46)⟩])
    (.cond (.t 47)
      (.seq (.reg
           [⟨some 8, none, .mv (.k (.bool false))⟩])
      (.ret))
      (.skip)))
  (.seq (.reg
       [⟨some 48, none, .mv (.t 1)⟩,
        ⟨some 49, none, .mv (.t 3)⟩,
        ⟨some 50, none, .bin .gtr (.t 48) (.t 49)⟩,
        ⟨some 51, none, .mv (.t 50)⟩,
        ⟨some 52, some (51, false), .ldn 24 3 (.t 9)⟩,
        ⟨some 53, some (51, false), .ldn 24 3 (.t 4)⟩,
        ⟨some 54, some (51, false), .call (.f 45) [.t 52, .t 53]⟩,
        ⟨some 55, none, .pick (.t 51) (.k (.bool true)) (.t 54)⟩,
        ⟨some 56, none, .mv (.t 55)⟩,
        ⟨some 57, some (56, true), .call (.f 50) []⟩,
        ⟨some 58, none, .pick (.t 56) (.t 57) (.k (.bool false))⟩,
        ⟨some 8, none, .mv (.t 58)⟩])
  (.ret)))))))
def r12 : List RR := [.t 8]
theorem ok12 : okFn Go.Proofs.Try.prog 12 59 c12 r12 4 = true := by kernel_rfl

/- porism/porismref01.Binds -/
def c51 : SCode :=
  .seq (.reg
       [⟨some 4, none, .mv (.k (.int .i64 0))⟩])
  (.seq (.seq (.reg
         [⟨some 5, none, .mv (.t 1)⟩,
          ⟨some 6, none, .bin .eql (.t 5) (.k (.int .i64 1))⟩,
          ⟨some 7, none, .mv (.t 6)⟩,
          ⟨some 8, some (7, true), .mv (.t 0)⟩,
          ⟨some 9, some (7, true), .bin .eql (.t 8) (.k (.int .i64 4))⟩,
          ⟨some 10, some (7, true), .mv (.t 9)⟩,
          ⟨some 11, some (10, false), .mv (.t 0)⟩,
          ⟨some 12, some (10, false), .bin .eql (.t 11) (.k (.int .i64 5))⟩,
          ⟨some 13, some (7, true), .pick (.t 10) (.k (.bool true)) (.t 12)⟩,
          ⟨some 14, some (7, true), .mv (.t 13)⟩,
          ⟨some 15, some (14, false), .mv (.t 0)⟩,
          ⟨some 16, some (14, false), .bin .eql (.t 15) (.k (.int .i64 7))⟩,
          ⟨some 17, some (7, true), .pick (.t 14) (.k (.bool true)) (.t 16)⟩,
          ⟨some 18, none, .pick (.t 7) (.t 17) (.k (.bool false))⟩])
    (.cond (.t 18)
      (.seq (.reg
           [⟨some 4, none, .mv (.k (.int .i64 1))⟩])
      (.ret))
      (.skip)))
  (.seq (.reg
       [⟨some 4, none, .mv (.k (.int .i64 0))⟩])
  (.ret)))
def r51 : List RR := [.t 4]
theorem ok51 : okFn Go.Proofs.Try.prog 51 19 c51 r51 2 = true := by kernel_rfl

/- porism/shift.Lower -/
def c54 : SCode :=
  .seq (.reg
       [⟨some 2, none, .box 24 (.t 0)⟩,
        ⟨some 3, none, .box 3 (.t 1)⟩,
        ⟨some 4, none, .alloc 24 [.v (.int .i64 0), .v (.int .i64 0), .cap 3 40 []]⟩,
        ⟨some 5, none, .mv (.k (.bool false))⟩])
  (.seq (.seq (.reg
         [⟨some 6, none, .ldn 24 3 (.t 2)⟩,
          ⟨some 7, none, .call (.f 22) [.t 6]⟩,
          ⟨some 8, none, .bin .neq (.t 7) (.k (.int .i64 0))⟩,
          ⟨some 9, none, .mv (.t 8)⟩,
          ⟨some 10, some (9, false), .ld1 3 (.t 3)⟩,
          ⟨some 11, some (9, false), .call (.f 97) [.t 10]⟩,
          ⟨some 12, some (9, false), .not (.t 11)⟩,
          ⟨some 13, none, .pick (.t 9) (.k (.bool true)) (.t 12)⟩,
          ⟨some 14, none, .mv (.t 13)⟩,
          ⟨some 15, some (14, false), .ldn 24 3 (.t 2)⟩,
          ⟨some 16, some (14, false), .ld1 3 (.t 3)⟩,
          ⟨some 17, some (14, false), .call (.f 52) [.t 15, .t 16]⟩,
          ⟨some 18, some (14, false), .bin .gtr (.t 17) (.k (.int .i64 0))⟩,
          ⟨some 19, none, .pick (.t 14) (.k (.bool true)) (.t 18)⟩])
    (.cond (.t 19)
      (.seq (.reg
           [⟨some 20, none, .build 24 [.v (.int .i64 0), .v (.int .i64 0), .cap 3 40 []] []⟩,
            ⟨none, none, .stn 24 3 (.t 4) (.t 20)⟩,
            ⟨some 5, none, .mv (.k (.bool false))⟩])
      (.ret))
      (.skip)))
  (.seq (.reg
       [⟨some 21, none, .ldn 24 3 (.t 2)⟩,
        ⟨some 22, none, .mkfn 103 [] [.t 3]⟩,
        ⟨some 23, none, .call (.f 98) [.t 21, .k (.int .i64 0), .t 22]⟩,
        ⟨none, none, .stn 24 3 (.t 4) (.t 23)⟩,
        ⟨some 5, none, .mv (.k (.bool true))⟩])
  (.ret)))
def r54 : List RR := [.cn 4 3, .t 5]
theorem ok54 : okFn Go.Proofs.Try.prog 54 24 c54 r54 2 = true := by kernel_rfl

/- porism/shift.Lower$1 -/
def c103 : SCode :=
  .seq (.reg
       [⟨some 5, none, .alloc 24 [.v (.int .i64 0), .v (.int .i64 0), .cap 3 40 []]⟩])
  (.seq (.seq (.reg
         [⟨some 6, none, .mv (.t 0)⟩,
          ⟨some 7, none, .ld1 3 (.t 2)⟩,
          ⟨some 8, none, .mv (.t 1)⟩,
          ⟨some 9, none, .bin .add (.t 7) (.t 8)⟩,
          ⟨some 10, none, .bin .gtr (.t 6) (.t 9)⟩])
    (.cond (.t 10)
      (.reg
         [⟨some 11, none, .mv (.t 0)⟩,
          ⟨some 12, none, .bin .sub (.t 11) (.k (.int .i64 1))⟩,
          ⟨some 0, none, .mv (.t 12)⟩])
      (.skip)))
  (.seq (.reg
       [⟨some 13, none, .mv (.t 0)⟩,
        ⟨some 14, none, .call (.f 76) [.t 13]⟩,
        ⟨none, none, .stn 24 3 (.t 5) (.t 14)⟩])
  (.ret)))
def r103 : List RR := [.cn 5 3]
theorem ok103 : okFn Go.Proofs.Try.prog 103 15 c103 r103 3 = true := by kernel_rfl

end Go.Abs

namespace Go.Abs
open Go.Proofs

theorem may_ok {x : Int} (h0 : 0 ≤ x) (h1 : x ≤ 65535) : mayB x = true := by simp [mayB, h0, h1]
theorem shift_eq {t : T} (hc : t.count ≤ 1048576) {b fr : Int} (hb : 0 ≤ b) (hb2 : b ≤ 65535) (hfr : 0 ≤ fr) (hfr2 : fr ≤ 65535) :
    t.shift b fr = if t.check = 0 then (if t.ov b fr then (.zero, 6) else (t.mv b fr, 0)) else (.zero, t.check) := by
  by_cases h : t.check = 0
  · have hm := mapS_mv fr b hfr hfr2 hb hb2 t ((check_iff t).1 h).2.2 0 0 (by omega) (by omega)
    simp only [Int.add_zero] at hm
    simp only [T.shift, T.shiftM, h, may_ok hb hb2, may_ok hfr hfr2, hm]
    by_cases ho : t.ov b fr = true <;> simp [ho]
  · simp [T.shift, h]
theorem shift_ok {t : T} (hc : t.count ≤ 1048576) {b fr : Int} (hb : 0 ≤ b) (hb2 : b ≤ 65535) (hfr : 0 ≤ fr) (hfr2 : fr ≤ 65535) (h : (t.shift b fr).2 = 0) : t.check = 0 ∧ t.ov b fr = false ∧ (t.shift b fr).1 = t.mv b fr := by
  rw [shift_eq hc hb hb2 hfr hfr2] at h ⊢
  by_cases h1 : t.check = 0
  · by_cases h2 : t.ov b fr = true
    · simp [h1, h2] at h
    · simp only [h1, if_true, h2]; simp
  · simp only [h1, if_false] at h
theorem shift_bad {t : T} (hc : t.count ≤ 1048576) {b fr : Int} (hb : 0 ≤ b) (hb2 : b ≤ 65535) (hfr : 0 ≤ fr) (hfr2 : fr ≤ 65535) (h : t.check = 0) : (t.shift b fr).2 = 0 ∨ (t.shift b fr).2 = 6 := by
  rw [shift_eq hc hb hb2 hfr hfr2]
  by_cases h2 : t.ov b fr = true <;> simp [h, h2]
theorem shift_run {t : T} (hc : t.count ≤ 1048576) {b fr : Int} (hb : 0 ≤ b) (hb2 : b ≤ 65535) (hfr : 0 ≤ fr) (hfr2 : fr ≤ 65535) (h : t.check = 0) (ho : t.ov b fr = false) : t.shift b fr = (t.mv b fr, 0) := by
  rw [shift_eq hc hb hb2 hfr hfr2]
  simp [h, ho]
theorem mv_count' {t : T} (h : t.check = 0) (b c : Int) : (t.mv b c).count = t.count := mv_count t ((check_iff t).1 h).2.2 b c

theorem fn8 (t : T) (a b i k : Int) (hc : t.count ≤ 1048576) : Fn Try.prog 8 [tm t, ib a, ib b, ib i, ib k] (bb true) := by
  refine fn_of (base := 8000) ok8 rfl fun σ h0 hr => ?_
  have s0 := h0 0
  have s1 : σ.sl 1 = ib a := h0 1
  have s2 : σ.sl 2 = ib b := h0 2
  have s3 : σ.sl 3 = ib i := h0 3
  have s4 : σ.sl 4 = ib k := h0 4
  rw [slots0] at s0
  simp only [tm, ib] at s0 s1 s2 s3 s4
  clear h0 hr
  obtain ⟨a1, a2, a3⟩ := umod a (m := 30) (by omega) (by omega)
  obtain ⟨b1, b2, b3⟩ := umod b (m := 30) (by omega) (by omega)
  obtain ⟨i1, i2, i3⟩ := umod i (m := 10) (by omega) (by omega)
  obtain ⟨k1, k2, k3⟩ := umod k (m := 10) (by omega) (by omega)
  unfold c8
  simp [s0, room]
  refine ⟨fun x hx => cells_isD' _ x hx, ?_⟩
  refine ECall.fn (fn17 [t]) (by simp [tms]) (by simp) rfl fun _ => ?_
  simp [bb]
  refine ⟨fun hh => by simp [r8, hh], fun hh => ?_⟩
  simp [hh, s1, s2, s3, s4, a3, b3, i3, k3]
  generalize (uw a).tmod 30 = a at a1 a2 a3
  generalize (uw b).tmod 30 = b at b1 b2 b3
  generalize (uw i).tmod 10 = i at i1 i2 i3
  generalize (uw k).tmod 10 = k at k1 k2 k3
  have w1 : IntKind.wrap .i64 (i + k) = i + k := wrap_id (by omega) (by omega)
  have w2 : IntKind.wrap .i64 (i + k + a) = i + k + a := wrap_id (by omega) (by omega)
  clear s1 s2 s3 s4
  refine ECall.fn (fn49 t a i) (by simp [tm, ib]) (by simp) (by simp [tm, ib, AV.keys2]) fun _ => ?_
  simp [tm, ib, w1]
  refine ECall.fn (fn49 t b (i + k)) (by simp [tm, ib]) (by simp) (by simp [tm, ib, AV.keys2]) fun _ => ?_
  simp [tm, ib]
  refine ⟨fun he => ?_, fun e1 e2 => ?_⟩
  · refine ECall.fn fn50 (by simp) (by simp) rfl fun _ => ?_
    simp [bb, r8]
  · obtain ⟨c1, o1, m1⟩ := shift_ok hc a1 (by omega) i1 (by omega) e1
    obtain ⟨c2, o2, m2⟩ := shift_ok hc b1 (by omega) (by omega) (by omega) e2
    simp [m1, m2, w1, w2]
    refine ECall.fn (fn49 (t.mv a i) b (i + k + a)) (by simp [tm, ib]) (by simp) (by simp [tm, ib, AV.keys2]) fun _ => ?_
    simp [tm, ib]
    refine ECall.fn (fn49 (t.mv b (i + k)) a i) (by simp [tm, ib]) (by simp) (by simp [tm, ib, AV.keys2]) fun _ => ?_
    simp [tm, ib]
    have hc1 := mv_count' c1 a i
    have hc2 := mv_count' c1 b (i + k)
    have k1 := mv_check hc c1 a1 o1
    have k2 := mv_check hc c1 b1 o2
    refine ⟨fun he => ?_, fun e3 e4 => ?_⟩
    · have hor : ((t.mv a i).shift b (i + k + a)).2 = 6 ∨ ((t.mv b (i + k)).shift a i).2 = 6 := by
        have q1 := shift_bad (t := t.mv a i) (by omega) (b := b) (fr := i + k + a) b1 (by omega) (by omega) (by omega) k1
        have q2 := shift_bad (t := t.mv b (i + k)) (by omega) (b := a) (fr := i) a1 (by omega) (by omega) (by omega) k2
        omega
      refine GCall.fn (fun _ => fn50) (by simp) (by simp) rfl fun _ => ?_
      have hd : (decide (((t.mv a i).shift b (i + k + a)).2 = 6) || decide (((t.mv b (i + k)).shift a i).2 = 6)) = true := by simpa using hor
      simp [bb, r8, hd]
    · obtain ⟨_, _, m3⟩ := shift_ok (t := t.mv a i) (by omega) (b := b) (fr := i + k + a) b1 (by omega) (by omega) (by omega) e3
      obtain ⟨_, _, m4⟩ := shift_ok (t := t.mv b (i + k)) (by omega) (b := a) (fr := i) a1 (by omega) (by omega) (by omega) e4
      have hsw := mv_swap t a b i k a1 b1 (by omega)
      have c45 := fn45 ((t.mv a i).mv b (i + k + a)) ((t.mv b (i + k)).mv a i)
      rw [hsw, eqb_self] at c45
      simp [m3, m4, hsw]
      refine ECall.fn c45 (by simp [tm]) (by simp) rfl fun _ => ?_
      simp [bb]
      refine GCall.fn (fun _ => fn50) (by simp) (by simp) rfl fun _ => ?_
      simp [bb, r8]
end Go.Abs

namespace Go.Abs
open Go.Proofs

/-! In scope: no variable wraps. -/
mutual
def T.inS : T → Int → Int → Bool
  | .mk k n ts, a, b => if k = 1 then decide (n < a) else if k = 2 then decide (n ≤ 6) else if k = 3 then decide (n < b) else T.inSL k a b 0 ts
def T.inSL (k a b : Int) : Int → List T → Bool
  | _, [] => true
  | i, t :: ts => T.inS t (a + bindsOf k i) b && T.inSL k a b (i + 1) ts
end
theorem within_inS (t : T) : ∀ a b : Int, 0 ≤ a → a + t.count ≤ 4611686018427387 → t.within a b = t.inS a b := by
  induction t using T.ind with
  | h k n ts ih =>
  intro a b ha hc
  simp only [T.count] at hc
  have key : ∀ (ts : List T) (i : Int), (∀ t, t ∈ ts → ∀ a b : Int, 0 ≤ a → a + t.count ≤ 4611686018427387 → t.within a b = t.inS a b) → a + 1 + T.countL ts ≤ 4611686018427387 → T.withinL k a b i ts = T.inSL k a b i ts := by
    intro ts
    induction ts with
    | nil => intro i _ _; simp [T.withinL, T.inSL]
    | cons t ts ih2 =>
      intro i h hc
      simp only [T.countL] at hc
      have hbd := binds01 k i
      simp only [T.withinL, T.inSL, wrap_dp (k := k) (i := i) ha (by omega)]
      rw [ih2 (i + 1) (fun u hu => h u (by simp [hu])) (by omega), h t (by simp) _ b (by omega) (by omega)]
  simp only [T.within, T.inS]
  rw [key ts 0 ih (by omega)]

theorem scope_iff {t : T} (hc : t.count ≤ 1048576) {a b : Int} (ha : a ≤ 60000) : t.scope a b = true ↔ 0 ≤ a ∧ 0 ≤ b ∧ t.check = 0 ∧ t.inS a b = true := by
  simp only [T.scope, Bool.and_eq_true, decide_eq_true_eq]
  have hm : best2 false a 65536 = a := by simp only [best2]; simp; omega
  rw [hm]
  constructor
  · rintro ⟨⟨⟨h1, h2⟩, h3⟩, h4⟩
    rw [within_inS t a b h1 (by omega)] at h4
    exact ⟨h1, h2, h3, h4⟩
  · rintro ⟨h1, h2, h3, h4⟩
    rw [within_inS t a b h1 (by omega)]
    exact ⟨⟨⟨h1, h2⟩, h3⟩, h4⟩

theorem head_leaf {k n : Int} {ts : List T} (h : (!badHead k n ts.length) = true) (hk : k = 1 ∨ k = 2 ∨ k = 3) : ts = [] := by
  have : badHead k n ts.length = false := by simpa using h
  have h2 : ¬ badHead k n ts.length = true := by simp [this]
  rw [bad_iff] at h2
  have h3 : (ts.length : Int) = kidsOf k := by omega
  have h4 : kidsOf k = 0 := by rcases hk with rfl | rfl | rfl <;> rfl
  exact List.length_eq_zero_iff.1 (by omega)

theorem inS_ov (t : T) : t.formed = true → ∀ a b c y : Int, t.inS a b = true → a + t.count + y ≤ 65535 → t.ov y c = false := by
  induction t using T.ind with
  | h k n ts ih =>
  intro hf a b c y h hc
  simp only [T.count] at hc
  rw [T.formed, Bool.and_eq_true, formedL_all, List.all_eq_true] at hf
  by_cases hk : k = 1
  · subst hk
    simp only [T.inS, if_true, decide_eq_true_eq] at h
    simp only [T.ov, if_true, Bool.and_eq_false_iff, decide_eq_false_iff_not]
    omega
  · by_cases hl : k = 1 ∨ k = 2 ∨ k = 3
    · have := head_leaf hf.1 hl
      subst this
      simp [T.ov, hk, T.ovL]
    · have h2 : k ≠ 2 := fun h => hl (.inr (.inl h))
      have h3 : k ≠ 3 := fun h => hl (.inr (.inr h))
      simp only [T.inS, hk, h2, h3, if_false] at h
      have key : ∀ (ts : List T) (i : Int), (∀ t, t ∈ ts → ∀ a b c y : Int, t.inS a b = true → a + t.count + y ≤ 65535 → t.ov y c = false) → a + 1 + T.countL ts + y ≤ 65535 → T.inSL k a b i ts = true → T.ovL k y c i ts = false := by
        intro ts
        induction ts with
        | nil => intro i _ _ _; simp [T.ovL]
        | cons t ts ih2 =>
          intro i h hc hh
          simp only [T.countL] at hc
          have hbd := binds01 k i
          simp only [T.inSL, Bool.and_eq_true] at hh
          simp only [T.ovL, Bool.or_eq_false_iff]
          exact ⟨h t (by simp) _ b _ y hh.1 (by omega), ih2 (i + 1) (fun u hu => h u (by simp [hu])) (by omega) hh.2⟩
      simp only [T.ov, hk, if_false]
      exact key ts 0 (fun t ht => ih t ht (hf.2 t ht)) (by omega) h
theorem inS_mv (t : T) : ∀ a b c y : Int, 0 ≤ y → t.inS a b = true → (t.mv y c).inS (a + y) b = true := by
  induction t using T.ind with
  | h k n ts ih =>
  intro a b c y hy h
  by_cases hk : k = 1
  · subst hk
    simp only [T.inS, if_true, decide_eq_true_eq] at h
    simp only [T.mv, T.inS, if_true, decide_eq_true_eq]
    split <;> omega
  · simp only [T.mv, hk, if_false]
    simp only [T.inS, hk, if_false] at h ⊢
    by_cases h2 : k = 2
    · simpa [h2] using h
    · by_cases h3 : k = 3
      · simpa [h2, h3] using h
      · simp only [h2, h3, if_false] at h ⊢
        have key : ∀ (ts : List T) (i : Int), (∀ t, t ∈ ts → ∀ a b c y : Int, 0 ≤ y → t.inS a b = true → (t.mv y c).inS (a + y) b = true) → T.inSL k a b i ts = true → T.inSL k (a + y) b i (T.mvL k y c i ts) = true := by
          intro ts
          induction ts with
          | nil => intro i _ _; simp [T.mvL, T.inSL]
          | cons t ts ih2 =>
            intro i h hh
            simp only [T.inSL, Bool.and_eq_true] at hh
            simp only [T.mvL, T.inSL, Bool.and_eq_true]
            have h1 := h t (by simp) (a + bindsOf k i) b (c + bindsOf k i) y hy hh.1
            have e : a + bindsOf k i + y = a + y + bindsOf k i := by omega
            rw [e] at h1
            exact ⟨h1, ih2 (i + 1) (fun u hu => h u (by simp [hu])) hh.2⟩
        exact key ts 0 ih h
theorem inS_same (t : T) : t.formed = true → ∀ a b c y : Int, a ≤ c → t.inS a b = true → t.mv y c = t := by
  induction t using T.ind with
  | h k n ts ih =>
  intro hf a b c y hac h
  rw [T.formed, Bool.and_eq_true, formedL_all, List.all_eq_true] at hf
  by_cases hk : k = 1
  · subst hk
    have := head_leaf hf.1 (.inl rfl)
    subst this
    simp only [T.inS, if_true, decide_eq_true_eq] at h
    have : n < c := by omega
    simp [T.mv, this]
  · by_cases hl : k = 1 ∨ k = 2 ∨ k = 3
    · have := head_leaf hf.1 hl
      subst this
      simp [T.mv, hk, T.mvL]
    · have h2 : k ≠ 2 := fun h => hl (.inr (.inl h))
      have h3 : k ≠ 3 := fun h => hl (.inr (.inr h))
      simp only [T.inS, hk, h2, h3, if_false] at h
      have key : ∀ (ts : List T) (i : Int), (∀ t, t ∈ ts → ∀ a b c y : Int, a ≤ c → t.inS a b = true → t.mv y c = t) → T.inSL k a b i ts = true → T.mvL k y c i ts = ts := by
        intro ts
        induction ts with
        | nil => intro i _ _; simp [T.mvL]
        | cons t ts ih2 =>
          intro i h hh
          simp only [T.inSL, Bool.and_eq_true] at hh
          simp only [T.mvL]
          rw [h t (by simp) _ b _ y (by omega) hh.1, ih2 (i + 1) (fun u hu => h u (by simp [hu])) hh.2]
      simp only [T.mv, hk, if_false]
      rw [key ts 0 (fun t ht => ih t ht (hf.2 t ht)) h]

theorem fn12 (t : T) (v b fr : Int) (hc : t.count ≤ 1048576) : Fn Try.prog 12 [tm t, ib v, ib b, ib fr] (bb true) := by
  refine fn_of (base := 12000) ok12 rfl fun σ h0 hr => ?_
  have s0 := h0 0
  have s1 : σ.sl 1 = ib v := h0 1
  have s2 : σ.sl 2 = ib b := h0 2
  have s3 : σ.sl 3 = ib fr := h0 3
  rw [slots0] at s0
  simp only [tm, ib] at s0 s1 s2 s3
  clear h0 hr
  obtain ⟨v1, v2, v3⟩ := umod v (m := 30) (by omega) (by omega)
  obtain ⟨b1, b2, b3⟩ := umod b (m := 30) (by omega) (by omega)
  obtain ⟨i1, i2, i3⟩ := umod fr (m := 30) (by omega) (by omega)
  unfold c12
  simp [s0, room]
  refine ⟨fun x hx => cells_isD' _ x hx, ?_⟩
  refine ECall.fn (fn17 [t]) (by simp [tms]) (by simp) rfl fun _ => ?_
  simp [bb]
  refine ⟨fun hh => by simp [r12, hh], fun hh => ?_⟩
  simp [hh, s1, s2, s3, v3, b3, i3]
  generalize (uw v).tmod 30 = v at v1 v2 v3
  generalize (uw b).tmod 30 = b at b1 b2 b3
  generalize (uw fr).tmod 30 = i at i1 i2 i3
  have w1 : IntKind.wrap .i64 (v + b) = v + b := wrap_id (by omega) (by omega)
  clear s1 s2 s3
  refine ECall.fn (fn30 t v 65536) (by simp [tm, ib]) (by simp) (by simp [bb]) fun _ => ?_
  simp [bb]
  refine ⟨fun he => ?_, fun he => ?_⟩
  · simp [he]
    refine ECall.fn fn50 (by simp) (by simp) rfl fun _ => ?_
    simp [bb, r12]
  · obtain ⟨_, _, c1, hin⟩ := (scope_iff hc (by omega)).1 he
    have hf := ((check_iff t).1 c1).2.2
    have h6 := count_6000 hc c1
    have ho := inS_ov t hf v 65536 i b hin (by omega)
    have hs := shift_run hc b1 (by omega) i1 (by omega) c1 ho
    have hc1 := mv_count' c1 b i
    have k1 := mv_check hc c1 b1 ho
    have hin2 := inS_mv t v 65536 i b b1 hin
    have hsc : (t.mv b i).scope (v + b) 65536 = true := (scope_iff (by omega) (by omega)).2 ⟨by omega, by omega, k1, hin2⟩
    have c49 := fn49 t b i
    rw [hs] at c49
    have c30 := fn30 (t.mv b i) (v + b) 65536
    rw [hsc] at c30
    have c45 := fn45 (t.mv b i) t
    simp [he]
    refine ECall.fn c49 (by simp [tm, ib]) (by simp) (by simp [tm, ib, AV.keys2]) fun _ => ?_
    simp [tm, ib, w1]
    refine GCall.fn (fun _ => c30) (by simp [tm, ib]) (by simp) rfl fun _ => ?_
    simp [bb]
    refine GCall.fn (fun _ => c45) (by simp [tm, ib]) (by simp) rfl fun _ => ?_
    have hor : (decide (i < v) || T.eqb (t.mv b i) t) = true := by
      by_cases hlt : i < v
      · simp [hlt]
      · rw [inS_same t hf v 65536 i b (by omega) hin, eqb_self]; simp
    simp [bb, hor]
    refine GCall.fn (fun _ => fn50) (by simp) (by simp) rfl fun _ => ?_
    simp [bb, r12]
end Go.Abs

namespace Go.Abs

/- porism/porismlaw02.TermEnds -/
def c4b0 : SCode :=
  .seq (.seq (.reg
         [⟨some 14, none, .mv (.t 7)⟩,
          ⟨some 15, none, .mv (.t 0)⟩,
          ⟨some 16, none, .bin .add (.k (.int .i64 198)) (.t 15)⟩,
          ⟨some 17, none, .bin .lss (.t 14) (.t 16)⟩])
    (.cond (.t 17)
      (.skip)
      (.exit 0)))
  (.seq (.block 1 (.reg
         [⟨some 20, none, .ldn 24 3 (.t 5)⟩,
          ⟨some 21, none, .lit 24 3 40 [.t 20]⟩,
          ⟨some 22, none, .call (.f 25) [.k (.int .i64 9), .t 21]⟩,
          ⟨none, none, .stn 24 3 (.t 5) (.t 22)⟩]))
  (.reg
     [⟨some 18, none, .mv (.t 7)⟩,
      ⟨some 19, none, .bin .add (.t 18) (.k (.int .i64 1))⟩,
      ⟨some 7, none, .mv (.t 19)⟩]))
def c4 : SCode :=
  .seq (.reg
       [⟨some 4, none, .mv (.k (.bool false))⟩])
  (.seq (.reg
       [⟨some 8, none, .mv (.t 0)⟩,
        ⟨some 9, none, .conv 3 32 .u64 (.t 8)⟩,
        ⟨some 10, none, .bin .rem (.t 9) (.k (.int .u64 3))⟩,
        ⟨some 11, none, .conv 32 3 .i64 (.t 10)⟩,
        ⟨some 0, none, .mv (.t 11)⟩])
  (.seq (.reg
       [⟨some 12, none, .call (.f 24) [.k (.int .i64 0)]⟩,
        ⟨some 5, none, .alloc 24 [.v (.int .i64 0), .v (.int .i64 0), .cap 3 40 []]⟩,
        ⟨none, none, .stn 24 3 (.t 5) (.t 12)⟩])
  (.seq (.reg
       [⟨some 6, none, .mv (.k (.int .i64 0))⟩])
  (.seq (.seq (.reg
         [⟨some 13, none, .mv (.t 1)⟩])
    (.cond (.t 13)
      (.seq (.seq (.reg
             [⟨some 7, none, .mv (.k (.int .i64 0))⟩])
        (.block 0 (.loop c4b0)))
      (.seq (.seq (.reg
             [⟨some 23, none, .mv (.t 0)⟩,
              ⟨some 24, none, .bin .gtr (.t 23) (.k (.int .i64 1))⟩])
        (.cond (.t 24)
          (.reg
             [⟨some 6, none, .mv (.k (.int .i64 5))⟩])
          (.skip)))
      (.seq (.reg
           [⟨some 25, none, .ldn 24 3 (.t 5)⟩,
            ⟨some 26, none, .call (.f 21) [.t 25]⟩,
            ⟨some 27, none, .mv (.t 0)⟩,
            ⟨some 28, none, .bin .add (.k (.int .i64 199)) (.t 27)⟩,
            ⟨some 29, none, .bin .eql (.t 26) (.t 28)⟩,
            ⟨some 30, none, .mv (.t 29)⟩,
            ⟨some 31, some (30, true), .ldn 24 3 (.t 5)⟩,
            ⟨some 32, some (30, true), .call (.f 22) [.t 31]⟩,
            ⟨some 33, some (30, true), .mv (.t 6)⟩,
            ⟨some 34, some (30, true), .bin .eql (.t 32) (.t 33)⟩,
            ⟨some 35, none, .pick (.t 30) (.t 34) (.k (.bool false))⟩,
            ⟨some 36, none, .mv (.t 35)⟩,
            ⟨some 37, some (36, true), .call (.f 23) []⟩,
            ⟨some 38, none, .pick (.t 36) (.t 37) (.k (.bool false))⟩,
            ⟨some 4, none, .mv (.t 38)⟩])
      (.ret))))
      (.skip)))
  (.seq (.reg
       [⟨some 39, none, .mv (.t 0)⟩,
        ⟨some 40, none, .bin .add (.k (.int .i64 5999)) (.t 39)⟩,
        ⟨some 41, none, .call (.f 26) [.t 40]⟩,
        ⟨none, none, .stn 24 3 (.t 5) (.t 41)⟩])
  (.seq (.seq (.reg
         [⟨some 42, none, .mv (.t 0)⟩,
          ⟨some 43, none, .bin .gtr (.t 42) (.k (.int .i64 1))⟩])
    (.cond (.t 43)
      (.reg
         [⟨some 6, none, .mv (.k (.int .i64 4))⟩])
      (.skip)))
  (.seq (.reg
       [⟨some 44, none, .ldn 24 3 (.t 5)⟩,
        ⟨some 45, none, .call (.f 20) [.t 44]⟩,
        ⟨some 46, none, .mv (.t 0)⟩,
        ⟨some 47, none, .bin .add (.k (.int .i64 5999)) (.t 46)⟩,
        ⟨some 48, none, .bin .eql (.t 45) (.t 47)⟩,
        ⟨some 49, none, .mv (.t 48)⟩,
        ⟨some 50, some (49, true), .ldn 24 3 (.t 5)⟩,
        ⟨some 51, some (49, true), .call (.f 22) [.t 50]⟩,
        ⟨some 52, some (49, true), .mv (.t 6)⟩,
        ⟨some 53, some (49, true), .bin .eql (.t 51) (.t 52)⟩,
        ⟨some 54, none, .pick (.t 49) (.t 53) (.k (.bool false))⟩,
        ⟨some 55, none, .mv (.t 54)⟩,
        ⟨some 56, some (55, true), .call (.f 23) []⟩,
        ⟨some 57, none, .pick (.t 55) (.t 56) (.k (.bool false))⟩,
        ⟨some 4, none, .mv (.t 57)⟩])
  (.ret))))))))
def r4 : List RR := [.t 4]
theorem ok4 : okFn Go.Proofs.Try.prog 4 58 c4 r4 2 = true := by kernel_rfl

/- porism/porismlaw02.full -/
def c26 : SCode :=
  .seq (.reg
       [⟨some 2, none, .alloc 24 [.v (.int .i64 0), .v (.int .i64 0), .cap 3 40 []]⟩])
  (.seq (.block 0 (.seq (.reg
           [⟨some 5, none, .mv (.t 0)⟩,
            ⟨some 6, none, .bin .lss (.t 5) (.k (.int .i64 2))⟩,
            ⟨some 4, none, .mv (.t 6)⟩])
      (.cond (.t 4)
        (.seq (.reg
             [⟨some 7, none, .call (.f 24) [.k (.int .i64 0)]⟩,
              ⟨none, none, .stn 24 3 (.t 2) (.t 7)⟩])
        (.ret))
        (.seq (.reg
             [⟨some 9, none, .mv (.t 0)⟩,
              ⟨some 10, none, .bin .eql (.t 9) (.k (.int .i64 2))⟩,
              ⟨some 8, none, .mv (.t 10)⟩])
        (.cond (.t 8)
          (.seq (.reg
               [⟨some 11, none, .call (.f 24) [.k (.int .i64 0)]⟩,
                ⟨some 12, none, .lit 24 3 40 [.t 11]⟩,
                ⟨some 13, none, .call (.f 25) [.k (.int .i64 9), .t 12]⟩,
                ⟨none, none, .stn 24 3 (.t 2) (.t 13)⟩])
          (.ret))
          (.skip))))))
  (.seq (.reg
       [⟨some 14, none, .mv (.t 0)⟩,
        ⟨some 15, none, .bin .sub (.t 14) (.k (.int .i64 1))⟩,
        ⟨some 16, none, .bin .quo (.t 15) (.k (.int .i64 2))⟩,
        ⟨some 3, none, .mv (.t 16)⟩])
  (.seq (.reg
       [⟨some 17, none, .mv (.t 3)⟩,
        ⟨some 18, none, .call (.f 26) [.t 17]⟩,
        ⟨some 19, none, .mv (.t 0)⟩,
        ⟨some 20, none, .bin .sub (.t 19) (.k (.int .i64 1))⟩,
        ⟨some 21, none, .mv (.t 3)⟩,
        ⟨some 22, none, .bin .sub (.t 20) (.t 21)⟩,
        ⟨some 23, none, .call (.f 26) [.t 22]⟩,
        ⟨some 24, none, .lit 24 3 40 [.t 18, .t 23]⟩,
        ⟨some 25, none, .call (.f 25) [.k (.int .i64 6), .t 24]⟩,
        ⟨none, none, .stn 24 3 (.t 2) (.t 25)⟩])
  (.ret))))
def r26 : List RR := [.cn 2 3]
theorem ok26 : okFn Go.Proofs.Try.prog 26 26 c26 r26 1 = true := by kernel_rfl

end Go.Abs

namespace Go.Abs
open Go.Proofs

def fullT (n : Nat) : T := if h : n < 2 then .mk 2 0 [] else if n = 2 then .mk 9 0 [.mk 2 0 []] else .mk 6 0 [fullT ((n - 1) / 2), fullT (n - 1 - (n - 1) / 2)]
termination_by n
decreasing_by all_goals omega

theorem full_1 {n : Nat} (h : n < 2) : fullT n = .mk 2 0 [] := by rw [fullT]; simp [h]
theorem full_2 : fullT 2 = .mk 9 0 [.mk 2 0 []] := by rw [fullT]; simp
theorem full_3 {n : Nat} (h : 2 < n) : fullT n = .mk 6 0 [fullT ((n - 1) / 2), fullT (n - 1 - (n - 1) / 2)] := by
  rw [fullT]; rw [dif_neg (by omega), if_neg (by omega)]

theorem full_count (n : Nat) : 1 ≤ n → (fullT n).count = n := by
  induction n using Nat.strongRecOn with
  | ind n ih =>
  intro h1
  by_cases h : n < 2
  · rw [full_1 h]; simp [T.count, T.countL]; omega
  · by_cases h2 : n = 2
    · subst h2; rw [full_2]; simp [T.count, T.countL]
    · rw [full_3 (by omega)]
      simp only [T.count, T.countL]
      rw [ih _ (by omega) (by omega), ih _ (by omega) (by omega)]
      omega
theorem full_formed (n : Nat) : (fullT n).formed = true := by
  induction n using Nat.strongRecOn with
  | ind n ih =>
  by_cases h : n < 2
  · rw [full_1 h]; rfl
  · by_cases h2 : n = 2
    · subst h2; rw [full_2]; rfl
    · rw [full_3 (by omega)]
      simp only [T.formed, T.formedL]
      rw [ih _ (by omega), ih _ (by omega)]
      rfl
theorem best_max (a b : Int) : best2 true a b = max a b := by simp only [best2, if_true]; split <;> omega
theorem full_depth (m : Nat) : ∀ n : Nat, n < 2 ^ (m + 1) → m ≤ 1000 → 1 ≤ (fullT n).depth ∧ (fullT n).depth ≤ m + 1 := by
  induction m with
  | zero => intro n h _; rw [full_1 (by omega)]; decide
  | succ m ih =>
    intro n h hm
    by_cases h1 : n < 2
    · have e : (T.mk 2 0 []).depth = 1 := by rfl
      rw [full_1 h1, e]; omega
    · by_cases h2 : n = 2
      · subst h2
        have e : (T.mk 9 0 [.mk 2 0 []]).depth = 2 := by rfl
        rw [full_2, e]; omega
      · rw [full_3 (by omega)]
        have h3 : 2 ^ (m + 1 + 1) = 2 * 2 ^ (m + 1) := by rw [Nat.pow_succ]; omega
        have a := ih ((n - 1) / 2) (by omega) (by omega)
        have b := ih (n - 1 - (n - 1) / 2) (by omega) (by omega)
        simp only [T.depth, T.depthL, best_max]
        rw [wrap_id (by omega) (by omega)]
        omega

theorem fn26 (n : Nat) : n ≤ 1000000 → Fn Try.prog 26 [ib n] (tm (fullT n)) := by
  induction n using Nat.strongRecOn with
  | ind n ih =>
  intro hn
  refine fn_of (base := 26000) ok26 rfl fun σ h0 hr => ?_
  have s0 := h0 0
  rw [slots0] at s0
  simp only [ib] at s0
  clear h0 hr
  unfold c26
  by_cases h : n < 2
  · have h' : (n : Int) < 2 := by omega
    simp [s0, h']
    refine ECall.fn (fn24 0) (by simp [ib]) (by simp) (by simp [tm]) fun _ => ?_
    simp [tm, r26, full_1 h]
  · have h' : ¬ (n : Int) < 2 := by omega
    by_cases h2 : n = 2
    · subst h2
      simp [s0]
      refine ECall.fn (fn24 0) (by simp [ib]) (by simp) (by simp [tm]) fun _ => ?_
      simp [tm, room]
      refine ⟨fun x hx => cells_isD' _ x hx, ?_⟩
      refine ECall.fn (fn25 9 [.mk 2 0 []]) (by simp [ib, tms]) (by simp) (by simp [tm]) fun _ => ?_
      simp [tm, r26, full_2]
    · have h2' : ¬ (n : Int) = 2 := by omega
      have c1 := ih ((n - 1) / 2) (by omega) (by omega)
      have c2 := ih (n - 1 - (n - 1) / 2) (by omega) (by omega)
      have w1 : IntKind.wrap .i64 ((n : Int) - 1) = ((n - 1 : Nat) : Int) := by rw [wrap_id (by omega) (by omega)]; omega
      have w2 : IntKind.wrap .i64 (((n - 1 : Nat) : Int) / 2) = (((n - 1) / 2 : Nat) : Int) := by
        rw [wrap_id (by omega) (by omega)]; omega
      have w3 : IntKind.wrap .i64 (((n - 1 : Nat) : Int) - ((n - 1 : Nat) : Int) / 2) = ((n - 1 - (n - 1) / 2 : Nat) : Int) := by rw [wrap_id (by omega) (by omega)]; omega
      simp [s0, h', h2', w1, w2]
      refine ECall.fn c1 (by simp [ib]) (by simp) (by simp [tm]) fun _ => ?_
      simp [s0, w1, w3]
      refine ECall.fn c2 (by simp [ib]) (by simp) (by simp [tm]) fun _ => ?_
      simp [tm, room]
      refine ⟨⟨fun x hx => cells_isD' _ x hx, fun x hx => cells_isD' _ x hx⟩, ?_⟩
      refine ECall.fn (fn25 6 [fullT ((n - 1) / 2), fullT (n - 1 - (n - 1) / 2)]) (by simp [ib, tms]) (by simp) (by simp [tm]) fun _ => ?_
      simp [tm, r26, full_3 (show 2 < n by omega)]

def chainT : Nat → T
  | 0 => .mk 2 0 []
  | i + 1 => .mk 9 0 [chainT i]
theorem chain_facts (i : Nat) : (chainT i).count = i + 1 ∧ (chainT i).formed = true ∧ (i ≤ 1000000 → (chainT i).depth = i + 1) := by
  induction i with
  | zero => exact ⟨rfl, rfl, fun _ => rfl⟩
  | succ i ih =>
    refine ⟨?_, ?_, fun h => ?_⟩
    · simp [chainT, T.count, T.countL, ih.1]
    · simp [chainT, T.formed, T.formedL, ih.2.1, badHead, kidsOf]
    · simp only [chainT, T.depth, T.depthL, best_max, ih.2.2 (by omega)]
      rw [wrap_id (by omega) (by omega)]; omega

theorem fn4 (v : Int) (deep : Bool) : Fn Try.prog 4 [ib v, bb deep] (bb true) := by
  refine fn_of (base := 4000) ok4 rfl fun σ h0 hr => ?_
  have s0 := h0 0
  have s1 := h0 1
  rw [slots0] at s0
  rw [slots1] at s1
  simp only [ib, bb] at s0 s1
  clear h0 hr
  obtain ⟨v1, v2, v3⟩ := umod v (m := 3) (by omega) (by omega)
  unfold c4
  simp [s0, v3]
  obtain ⟨o, ho⟩ : ∃ o : Nat, (uw v).tmod 3 = o := ⟨((uw v).tmod 3).toNat, by omega⟩
  rw [ho] at v1 v2 v3 ⊢
  refine ECall.fn (fn24 0) (by simp [ib]) (by simp) (by simp [tm]) fun _ => ?_
  simp [tm, s1]
  have wo (k : Nat) (hk : k ≤ 1000000) : IntKind.wrap .i64 ((k : Int) + (o : Int)) = ((k + o : Nat) : Int) := by rw [wrap_id (by omega) (by omega)]; omega
  have w198 := wo 198 (by omega)
  have w199 := wo 199 (by omega)
  have w5999 := wo 5999 (by omega)
  simp at w198 w199 w5999
  have ho3 : o < 3 := by omega
  cases deep with
  | true =>
    simp
    refine W_loop (fun m σ => ∃ i : Nat, i + m = 198 + o ∧ σ.sl 0 = .c (.v (.int .i64 o)) ∧ σ.sl 5 = .c (.ref 4005 (σ.tg 4005) 0) ∧ σ.ob 4005 = some (.box 24 (chainT i).cells) ∧ σ.sl 6 = .c (.v (.int .i64 0)) ∧ σ.sl 7 = .c (.v (.int .i64 i))) (198 + o) ?_ ?_
    · exact ⟨0, by simp [chainT]⟩
    · rintro m σ ⟨i, hm, q0, q5, o5, q6, q7⟩
      unfold c4b0
      by_cases hi : i < 198 + o
      · have hi' : (i : Int) < 198 + (o : Int) := by omega
        have w1 := wrap_succ (i := i) (by omega)
        simp [q0, q5, o5, q6, q7, w198, hi', room]
        refine ⟨fun x hx => cells_isD' _ x hx, ?_⟩
        refine ECall.fn (fn25 9 [chainT i]) (by simp [ib, tms]) (by simp) (by simp [tm]) fun _ => ?_
        simp [tm, q5, o5, q7]
        refine ⟨m - 1, by omega, i + 1, by omega, ?_⟩
        simp [q0, q5, q6, w1, chainT]
      · have hi' : ¬ (i : Int) < 198 + (o : Int) := by omega
        have hio : i = 198 + o := by omega
        obtain ⟨h1, h2, h3⟩ := chain_facts i
        have h3 := h3 (by omega)
        have hs := size_count (chainT i) (by omega)
        have hck : (chainT i).check = if 1 < o then 5 else 0 := by
          by_cases h : 1 < o
          · rw [if_pos h, T.check, if_neg (by omega), if_pos (by omega)]
          · rw [if_neg h, check_iff]; exact ⟨by omega, by omega, h2⟩
        have hd : (chainT i).depth = 199 + (o : Int) := by omega
        have c22 := fn22 (chainT i)
        rw [hck] at c22
        have c21 := fn21 (chainT i)
        rw [hd] at c21
        simp [q0, q5, o5, q6, q7, w198, hi']
        refine ⟨fun h => ?_, fun h => ?_⟩
        · rw [if_pos (by omega)] at c22
          refine ECall.fn c21 (by simp [tm]) (by simp) rfl fun _ => ?_
          simp [ib, w199, q0, q5, o5]
          refine GCall.fn (fun _ => c22) (by simp [tm]) (by simp) rfl fun _ => ?_
          simp [ib]
          refine GCall.fn (fun _ => fn23) (by simp) (by simp) rfl fun _ => ?_
          simp [bb, r4]
        · rw [if_neg (by omega)] at c22
          refine ECall.fn c21 (by simp [tm]) (by simp) rfl fun _ => ?_
          simp [ib, w199, q0, q5, o5, q6]
          refine GCall.fn (fun _ => c22) (by simp [tm]) (by simp) rfl fun _ => ?_
          simp [ib, q6]
          refine GCall.fn (fun _ => fn23) (by simp) (by simp) rfl fun _ => ?_
          simp [bb, r4]
  | false =>
    have e1 : ((5999 + o : Nat) : Int) = 5999 + (o : Int) := by omega
    have c26 := fn26 (5999 + o) (by omega)
    rw [e1] at c26
    generalize hT : fullT (5999 + o) = F at c26
    have h1 : F.count = 5999 + o := by rw [← hT]; exact full_count _ (by omega)
    have h2 : F.formed = true := by rw [← hT]; exact full_formed _
    have h3 : F.depth ≤ 200 := by
      have := (full_depth 12 (5999 + o) (by omega) (by omega)).2
      rw [← hT]; omega
    have hs : F.size = 5999 + (o : Int) := by rw [size_count F (by omega)]; omega
    have hck : F.check = if 1 < o then 4 else 0 := by
      by_cases h : 1 < o
      · rw [if_pos h, T.check, if_pos (by omega)]
      · rw [if_neg h, check_iff]; exact ⟨by omega, by omega, h2⟩
    have c22 := fn22 F
    rw [hck] at c22
    have c20 := fn20 F
    rw [hs] at c20
    simp [w5999]
    refine ECall.fn c26 (by simp [ib]) (by simp) (by simp [tm]) fun _ => ?_
    simp [tm]
    refine ⟨fun h => ?_, fun h => ?_⟩
    · rw [if_pos (by omega)] at c22
      refine ECall.fn c20 (by simp [tm]) (by simp) rfl fun _ => ?_
      simp [ib, w5999]
      refine GCall.fn (fun _ => c22) (by simp [tm]) (by simp) rfl fun _ => ?_
      simp [ib]
      refine GCall.fn (fun _ => fn23) (by simp) (by simp) rfl fun _ => ?_
      simp [bb, r4]
    · rw [if_neg (by omega)] at c22
      refine ECall.fn c20 (by simp [tm]) (by simp) rfl fun _ => ?_
      simp [ib, w5999]
      refine GCall.fn (fun _ => c22) (by simp [tm]) (by simp) rfl fun _ => ?_
      simp [ib]
      refine GCall.fn (fun _ => fn23) (by simp) (by simp) rfl fun _ => ?_
      simp [bb, r4]
end Go.Abs

namespace Go.Abs
open Go.Proofs

theorem sp64 (ts : List T) : SpecNew Try.prog 64 [tms ts] (.c (.own 0 0)) (.row 24 3 40 (ts.map T.cells)) := by
  refine new_of (base := 64000) 64018 ok64 rfl rfl rfl fun σ h0 hr => ?_
  have s0 := h0 0
  rw [slots0] at s0
  have hlen := real_tms (hr (tms ts) (by simp))
  simp only [tms] at s0
  clear h0 hr
  unfold c64
  simp [s0]
  refine W_loop (fun m σ => ∃ (i : Nat), i + m = ts.length ∧ ((i = 0 ∧ σ.sl 3 = .c (.cap 3 40 [])) ∨ (0 < i ∧ σ.sl 3 = .c (.own 64018 (σ.tg 64018)) ∧ σ.ob 64018 = some (.row 24 3 40 ((ts.take i).map T.cells)))) ∧ σ.sl 0 = tms ts ∧ σ.sl 4 = ib i) ts.length ?_ ?_
  · exact ⟨0, by simp [ib, tms, s0]⟩
  · rintro m σ ⟨i, hm, hp, q0, q4⟩
    unfold c64b0
    simp only [tms, ib] at q0 q4
    by_cases hi : i < ts.length
    · obtain ⟨t, ht⟩ := at_of hi
      obtain ⟨_, ht'⟩ := getE ht
      have w1 := wrap_succ (i := i) (by omega)
      have htake : (ts.map T.cells).take i ++ [t.cells] = (ts.map T.cells).take (i + 1) := by
        rw [List.take_add_one, List.getElem?_map, ht]; simp
      have hroom : (i + 1) * 40 ≤ room := by simp only [room]; omega
      have hmin : min i ts.length = i := by omega
      rcases hp with ⟨h1, q3⟩ | ⟨h1, q3, qo⟩
      · subst h1
        simp [q3, q0, q4, hi, ht']
        refine ECall.fn (fn19 t) (by simp [tm]) (by simp [tm]) (by simp [tm, AV.keys2, AV.keys1]) fun _ => ?_
        simp [tm, q3, q4, room, AV.keys1, keysCs]
        refine ⟨fun x hx => cells_isD' t x hx, m - 1, by omega, 1, by omega, ⟨by omega, by simpa using htake⟩, ?_⟩
        simp at w1
        simp [q0, w1, ib, tms]
      · simp [q3, q0, q4, hi, ht']
        refine ECall.fn (fn19 t) (by simp [tm]) (by simp [tm]) (by simp [tm, AV.keys2, AV.keys1]) fun _ => ?_
        simp [tm, q3, q4, qo, hmin, hroom]
        refine ⟨⟨fun x hx => cells_isD' t x hx, by simp [room]⟩, m - 1, by omega, i + 1, by omega, ⟨by omega, htake⟩, ?_⟩
        simp [q0, w1, ib, tms]
    · rcases hp with ⟨h1, q3⟩ | ⟨h1, q3, qo⟩
      · have : ts = [] := List.length_eq_zero_iff.1 (by omega)
        simp [q0, q3, q4, hi, r64]
        refine ⟨_, .step 2 64018 24 3 40 [] (by simp) (.refl _), ?_, ?_, ?_⟩
        · simp
        · simp [resN, resLN, rrEvN]
        · simp [this]
      · have : ts.take i = ts := List.take_of_length_le (by omega)
        simp [q0, q3, q4, hi, r64]
        refine ⟨_, .refl _, ?_, ?_, ?_⟩
        · simp
        · simp [resN, resLN, rrEvN]
        · simp [qo, this]

theorem sp19 (t : T) : SpecNew Try.prog 19 [tm t] (.agg [.v (.int .i64 t.kind), .v (.int .i64 t.val), .own 0 0]) (.row 24 3 40 (t.kids.map T.cells)) := by
  obtain ⟨k, n, ts⟩ := t
  refine new_of (base := 19000) 19009 ok19 rfl rfl rfl fun σ h0 hr => ?_
  have s0 := h0 0
  rw [slots0] at s0
  simp only [tm, cells_mk] at s0
  clear h0 hr
  unfold c19
  simp [s0]
  refine W_dregD [[], [], [], [], [], [], [19009], [], [19002]] [[19009], [19009], [19009], [19009], [], [], [], [], []] (by decide) ?_
  simp
  refine CallD.new 19009 (sp64 ts) rfl rfl (by simp [tms]) (by simp) (by simp) (by simp) ?_
  simp
  refine realC_n ?_
  simp
  refine ⟨_, .refl _, ?_, ?_, ?_⟩
  · simp [r19]
  · simp [resN, resLN, rrEvN, r19]
  · simp

theorem depthL_max : ∀ (ts : List T) (a : Int), 0 ≤ a → T.depthL a ts = ts.foldl (fun m t => max m t.depth) a
  | [], a, _ => rfl
  | t :: ts, a, h => by rw [T.depthL, best_max, depthL_max ts _ (by omega)]; rfl
theorem fold_le : ∀ (ts : List T) (a b : Int), a ≤ b → (∀ t, t ∈ ts → t.depth ≤ b) → ts.foldl (fun m t => max m t.depth) a ≤ b
  | [], a, b, h, _ => h
  | t :: ts, a, b, h, hd => by
    have h2 := hd t (by simp)
    have h3 : max a t.depth ≤ b := by omega
    exact fold_le ts _ b h3 fun u hu => hd u (by simp [hu])
theorem fold_ge : ∀ (ts : List T) (a : Int), a ≤ ts.foldl (fun m t => max m t.depth) a
  | [], a => Int.le_refl _
  | t :: ts, a => by have := fold_ge ts (max a t.depth); simp only [List.foldl_cons]; omega
theorem depth_bound {k n : Int} {ts : List T} {b : Int} (h0 : 0 ≤ b) (h1 : b ≤ 1000000) (h : ∀ t, t ∈ ts → t.depth ≤ b) : (T.mk k n ts).depth ≤ b + 1 := by
  have h2 := fold_le ts 0 b h0 h
  have h3 := fold_ge ts 0
  rw [T.depth, depthL_max ts 0 (by omega), wrap_id (by omega) (by omega)]
  omega
theorem countL_app5 (ts us : List T) : T.countL (ts ++ us) = T.countL ts + T.countL us := by
  induction ts with
  | nil => simp [T.countL]
  | cons t ts ih => simp only [List.cons_append, T.countL, ih]; omega
theorem countL_take5 (ts : List T) (i : Nat) : T.countL (ts.take i) ≤ T.countL ts := by
  have h := countL_app5 (ts.take i) (ts.drop i)
  rw [List.take_append_drop] at h
  omega

theorem bent_check {k n k' n' : Int} {ts us : List T} (hc : (T.mk k n ts).count ≤ 1048576) (h : (T.mk k n ts).check = 0) (hs : (T.mk k n ts).size < 6000) (hd : (T.mk k n ts).depth < 200)
    (h1 : T.countL us ≤ T.countL ts + 1) (h2 : ∀ t, t ∈ us → t ∈ ts ∨ t = .mk 2 0 []) (hb : badHead k' n' us.length = true) : (T.mk k' n' us).check = 1 := by
  have hsz := size_count (T.mk k n ts) (by omega)
  simp only [T.count] at hsz hc
  have hsz2 := size_count (T.mk k' n' us) (by simp only [T.count]; omega)
  simp only [T.count] at hsz2
  have hdp : (T.mk k' n' us).depth ≤ 199 + 1 := by
    refine depth_bound (by omega) (by omega) fun t ht => ?_
    rcases h2 t ht with h | h
    · have := depth_kid (k := k) (n := n) h (by simp only [T.count]; omega)
      omega
    · have e : (T.mk 2 0 []).depth = 1 := rfl
      rw [h, e]; omega
  have hf : (T.mk k' n' us).formed = false := by simp [T.formed, hb]
  rw [T.check, if_neg (by omega), if_neg (by omega), hf]
  rfl
theorem kids_le (k : Int) : kidsOf k ≤ 3 := by
  simp only [kidsOf]; repeat' split
  all_goals omega
theorem scope_bad {t : T} (h : t.check = 1) (a b : Int) : t.scope a b = false := by simp [T.scope, h]

theorem fn5 (t : T) (what : Int) (hc : t.count ≤ 1048576) : Fn Try.prog 5 [tm t, ib what] (bb true) := by
  obtain ⟨k, n, ts⟩ := t
  refine fn_of (base := 5000) ok5 rfl fun σ h0 hr => ?_
  have s0 := h0 0
  have s1 : σ.sl 1 = ib what := h0 1
  rw [slots0] at s0
  simp only [tm, ib, cells_mk] at s0 s1
  have hlen := real_kids (hr (tm (.mk k n ts)) (by simp))
  rw [kids_mk] at hlen
  clear h0 hr
  have hw := uw_pos what
  unfold c5
  simp [s0, room]
  refine ECall.fn (fn17 [.mk k n ts]) (by simp [tms, cells_mk]) (by simp) rfl fun _ => ?_
  simp [bb]
  refine GCall.fn (fun _ => fn27 (.mk k n ts)) (by simp [tm, cells_mk]) (by simp) rfl fun _ => ?_
  simp [ib]
  refine GCall.fn (fun _ => fn28 (.mk k n ts)) (by simp [tm, cells_mk]) (by simp) rfl fun _ => ?_
  simp [ib]
  refine GCall.fn (fun _ => fn29 (.mk k n ts)) (by simp [tm, cells_mk]) (by simp) rfl fun _ => ?_
  simp [ib, r5, s1]
  intro hh hck hsz hdp
  refine ECall.new 5025 (sp19 (.mk k n ts)) rfl rfl (by simp [tm, cells_mk]) (by simp) fun hz => ?_
  clear hz
  simp [s1, -W_block]
  refine W_cut (fun σ => ∃ (k' n' : Int) (us : List T) (c3 : Cell), σ.sl 2 = .c (.ref 5002 (σ.tg 5002) 0) ∧ σ.ob 5002 = some (.box 24 [.v (.int .i64 k), .v (.int .i64 n), .sl 3 40 (ts.map T.cells)]) ∧ σ.sl 5 = .c (.ref 5005 (σ.tg 5005) 0) ∧
    σ.ob 5005 = some (.box 24 [.v (.int .i64 k'), .v (.int .i64 n'), c3]) ∧ (∀ τ : St, τ.ob = σ.ob → τ.tg = σ.tg → toD τ c3 = .sl 3 40 (us.map T.cells)) ∧ (T.mk k' n' us).check = 1) ?_ fun σ' hA => ?_
  · have hb := ((check_iff _).1 hck).2.2
    rw [T.formed, Bool.and_eq_true] at hb
    have hbh : ¬ badHead k n ts.length = true := by simpa using hb.1
    rw [bad_iff] at hbh
    have hkk : (ts.length : Int) = kidsOf k := by omega
    have hm4 : (uw what).tmod 4 = 0 ∨ (uw what).tmod 4 = 1 ∨ (uw what).tmod 4 = 2 ∨ (uw what).tmod 4 = 3 := by
      have := Int.tmod_nonneg 4 hw
      have := Int.tmod_lt_of_pos (uw what) (b := 4) (by omega)
      omega
    have same : ∀ t, t ∈ ts → t ∈ ts ∨ t = .mk 2 0 [] := fun t h => .inl h
    rcases hm4 with hm | hm | hm | hm
    · simp [hm]
      refine ⟨14, n, ts, _, ⟨rfl, rfl, rfl⟩, ?_, bent_check hc hck hsz hdp (by omega) same ?_⟩
      · intro τ h1 h2; simp [toD, h1, h2]
      · rw [bad_iff]; simp [kidsOf]
    · by_cases hne : ts = []
      · subst hne
        simp [hm]
        refine ⟨k, 65536, [], _, ⟨rfl, rfl, rfl⟩, ?_, bent_check hc hck hsz hdp (by omega) same ?_⟩
        · intro τ h1 h2; simp [toD, h1, h2]
        · rw [bad_iff]; simp
      · have hpos : 0 < ts.length := List.length_pos_iff.2 hne
        simp [hm, hpos]
        refine ⟨k, 1, ts, _, ⟨rfl, rfl, rfl⟩, ?_, bent_check hc hck hsz hdp (by omega) same ?_⟩
        · intro τ h1 h2; simp [toD, h1, h2]
        · rw [bad_iff]; omega
    · simp [hm]
      refine W_dregD [[], [], [], [], [5059, 5025], [], [5005]] [[], [], [5059, 5025], [], [], [], []] (by decide) ?_
      simp
      refine CallD.fn (fn24 0) (by simp [ib]) (by simp) (by simp [tm]) (by simp) ?_
      have hroom : (ts.length + 1) * 40 ≤ room := by simp only [room]; have := kids_le k; omega
      simp [tm, hroom, room]
      refine ⟨fun x hx => cells_isD' _ x hx, by simp only [room] at hroom; omega, realC_n ?_⟩
      simp
      refine ⟨k, n, ts ++ [.mk 2 0 []], _, ⟨rfl, rfl, rfl⟩, ?_, bent_check hc hck hsz hdp (by rw [countL_app5]; simp [T.countL, T.count]) (fun t ht => by simpa using ht) ?_⟩
      · intro τ h1 h2; simp [toD, h1, h2]
      · rw [bad_iff, List.length_append, List.length_singleton]; omega
    · by_cases hne : ts = []
      · subst hne
        simp [hm]
        refine ⟨k, -1, [], _, ⟨rfl, rfl, rfl⟩, ?_, bent_check hc hck hsz hdp (by omega) same ?_⟩
        · intro τ h1 h2; simp [toD, h1, h2]
        · rw [bad_iff]; simp
      · have hpos : 0 < ts.length := List.length_pos_iff.2 hne
        have w1 : IntKind.wrap .i64 ((ts.length : Int) - 1) = ((ts.length - 1 : Nat) : Int) := by rw [wrap_id (by omega) (by omega)]; omega
        have hk3 : ¬ k = 1 := fun h => hne (head_leaf hb.1 (.inl h))
        simp [hm, hne, w1]
        refine ⟨by simp only [room]; omega, k, n, ts.take (ts.length - 1), _, ⟨rfl, rfl, rfl⟩, ?_, bent_check hc hck hsz hdp (by have := countL_take5 ts (ts.length - 1); omega) (fun t ht => .inl (List.mem_of_mem_take ht)) ?_⟩
        · intro τ h1 h2; simp [toD, List.map_take]
        · rw [bad_iff, List.length_take]; omega
  · obtain ⟨k', n', us, c3, q2, o2, q5, o5, hc3, hx⟩ := hA
    simp [q2, q5, o2, o5]
    have c22 := fn22 (.mk k n ts)
    rw [hck] at c22
    have c22' := fn22 (.mk k' n' us)
    rw [hx] at c22'
    have c30 := fn30 (.mk k' n' us) 100 100
    rw [scope_bad hx] at c30
    refine ECall.fn c22 (by simp [tm, cells_mk]) (by simp) rfl fun _ => ?_
    simp [ib, q5, o5]
    refine GCall.fn (fun _ => c22') (by simp [tm, cells_mk]; exact hc3 _ rfl rfl) (by simp) rfl fun _ => ?_
    simp [ib, q5, o5]
    refine GCall.fn (fun _ => c30) (by simp [tm, cells_mk, ib]; exact hc3 _ rfl rfl) (by simp) rfl fun _ => ?_
    simp [bb]
    refine GCall.fn (fun _ => fn23) (by simp) (by simp) rfl fun _ => ?_
    simp [bb]
end Go.Abs
