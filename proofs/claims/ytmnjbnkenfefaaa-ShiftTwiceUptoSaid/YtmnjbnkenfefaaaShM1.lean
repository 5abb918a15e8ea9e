/- THIS TEXT TELLS SOME FUNCTIONS OF THE PROGRAM IN THE CALCULUS, PROVES BY THE KERNEL THAT WHAT IS TOLD IS THE LOADED CODE, AND PROVES WHAT THEY COMPUTE: for every argument that is told; the conditions stand in each theorem. -/
import Derived.KernelRfl
import Derived.Test.YtmnjbnkenfefaaaProg
import Derived.Test.YtmnjbnkenfefaaaShM0
set_option linter.unusedVariables false
set_option linter.unusedSimpArgs false
namespace Go.Abs
open Go.Proofs

abbrev uw (n : Int) : Int := IntKind.wrap .u64 n
theorem uw_pos (n : Int) : 0 ≤ uw n := by
  simp only [uw, IntKind.wrap, IntKind.bits, IntKind.signed, Bool.false_and]
  exact Int.emod_nonneg _ (by decide)
theorem umod (n : Int) {m : Int} (hm : 0 < m) (hm2 : m ≤ 1000) : 0 ≤ (uw n).tmod m ∧ (uw n).tmod m < m ∧ IntKind.wrap .i64 ((uw n).tmod m) = (uw n).tmod m := by
  have h1 := Int.tmod_nonneg m (uw_pos n)
  have h2 := Int.tmod_lt_of_pos (uw n) hm
  exact ⟨h1, h2, wrap_id (by omega) (by omega)⟩

theorem kid_check {kk n : Int} {a b : T} (ha : a.count ≤ 1048576) (hb : b.count ≤ 1048576) (h : (T.mk kk n [a, b]).check = 0) : a.check = 0 ∧ b.check = 0 := by
  have hc : (T.mk kk n [a, b]).count < 4611686018427387904 := by simp [T.count, T.countL]; omega
  have h1 := size_count _ hc
  have h2 := size_count a (by omega)
  have h3 := size_count b (by omega)
  have d1 := depth_kid (k := kk) (n := n) (ts := [a, b]) (t := a) (by simp) hc
  have d2 := depth_kid (k := kk) (n := n) (ts := [a, b]) (t := b) (by simp) hc
  have hf : (T.mk kk n [a, b]).formed = true → a.formed = true ∧ b.formed = true := by
    simp [T.formed, T.formedL]
  simp only [T.count, T.countL] at h1
  simp only [T.check] at h ⊢
  by_cases c1 : 6000 < (T.mk kk n [a, b]).size
  · simp [c1] at h
  · by_cases c2 : 200 < (T.mk kk n [a, b]).depth
    · simp [c1, c2] at h
    · by_cases c3 : (T.mk kk n [a, b]).formed = true
      · obtain ⟨f1, f2⟩ := hf c3
        have e1 : ¬ 6000 < a.size := by omega
        have e2 : ¬ 6000 < b.size := by omega
        have e3 : ¬ 200 < a.depth := by omega
        have e4 : ¬ 200 < b.depth := by omega
        simp [e1, e2, e3, e4, f1, f2]
      · simp [c1, c2, c3] at h

theorem two_scope {kk v : Int} {a b : T} (ha : a.count ≤ 1048576) (hb : b.count ≤ 1048576) (h : (T.mk kk 0 [a, b]).check = 0) (h0 : 0 ≤ v) (h1 : v < 10) (h2 : kk ≠ 1 ∧ kk ≠ 2 ∧ kk ≠ 3) :
    (T.mk kk 0 [a, b]).scope v 65536 = (a.scope v 65536 && b.scope (IntKind.wrap .i64 (v + bindsOf kk 1)) 65536) := by
  obtain ⟨c1, c2⟩ := kid_check ha hb h
  have hb1 : 0 ≤ bindsOf kk 1 ∧ bindsOf kk 1 ≤ 1 := by simp only [bindsOf]; split <;> omega
  have w1 : IntKind.wrap .i64 (v + bindsOf kk 1) = v + bindsOf kk 1 := wrap_id (by omega) (by omega)
  have hb0 : bindsOf kk 0 = 0 := by simp [bindsOf]
  have w0 : IntKind.wrap .i64 (v + bindsOf kk 0) = v := by rw [hb0, Int.add_zero]; exact wrap_id (by omega) (by omega)
  have m1 : best2 false v 65536 = v := by simp only [best2]; simp; omega
  have m2 : best2 false (v + bindsOf kk 1) 65536 = v + bindsOf kk 1 := by simp only [best2]; simp; omega
  have g1 : 0 ≤ v + bindsOf kk 1 := by omega
  simp [T.scope, h, c1, c2, h0, w1, g1, m1, m2, T.within, h2, T.withinL, w0]

theorem fn6 (a b : T) (k vars : Int) (ha : a.count ≤ 1048576) (hb : b.count ≤ 1048576) : Fn Try.prog 6 [tm a, tm b, ib k, ib vars] (bb true) := by
  refine fn_of (base := 6000) ok6 rfl fun σ h0 hr => ?_
  have s0 := h0 0
  have s1 := h0 1
  have s2 : σ.sl 2 = ib k := h0 2
  have s3 : σ.sl 3 = ib vars := h0 3
  rw [slots0] at s0
  rw [slots1] at s1
  simp only [tm, ib] at s0 s1 s2 s3
  clear h0 hr
  obtain ⟨v1, v2, v3⟩ := umod vars (m := 10) (by omega) (by omega)
  obtain ⟨k1, k2, k3⟩ := umod k (m := 5) (by omega) (by omega)
  unfold c6
  simp [s0, s1, room]
  refine ⟨⟨fun x hx => cells_isD' _ x hx, fun x hx => cells_isD' _ x hx⟩, ?_⟩
  refine ECall.fn (fn17 [a, b]) (by simp [tms]) (by simp) rfl fun _ => ?_
  simp [bb]
  refine ⟨fun hh => by simp [r6, hh], fun hh => ?_⟩
  simp [hh, s3]
  refine W_dregE 11 [6009] ?_
  obtain ⟨kk, hk, hget⟩ : ∃ kk : Int, (kk ≠ 1 ∧ kk ≠ 2 ∧ kk ≠ 3) ∧ ([[.v (.int .i64 4)], [.v (.int .i64 5)], [.v (.int .i64 7)], [.v (.int .i64 6)], [.v (.int .i64 12)]] : List (List Cell))[((uw k).tmod 5).toNat]?.getD [] = [.v (.int .i64 kk)] := by
    have h5 : (uw k).tmod 5 = 0 ∨ (uw k).tmod 5 = 1 ∨ (uw k).tmod 5 = 2 ∨ (uw k).tmod 5 = 3 ∨ (uw k).tmod 5 = 4 := by omega
    rcases h5 with h | h | h | h | h <;> rw [h]
    · exact ⟨4, by omega, rfl⟩
    · exact ⟨5, by omega, rfl⟩
    · exact ⟨7, by omega, rfl⟩
    · exact ⟨6, by omega, rfl⟩
    · exact ⟨12, by omega, rfl⟩
  have hlt : ((uw k).tmod 5).toNat < ([[.v (.int .i64 4)], [.v (.int .i64 5)], [.v (.int .i64 7)], [.v (.int .i64 6)], [.v (.int .i64 12)]] : List (List Cell)).length := by
    show ((uw k).tmod 5).toNat < 5
    omega
  have hget' : ([[.v (.int .i64 4)], [.v (.int .i64 5)], [.v (.int .i64 7)], [.v (.int .i64 6)], [.v (.int .i64 12)]] : List (List Cell))[((uw k).tmod 5).toNat]'hlt = [.v (.int .i64 kk)] := by
    rw [List.getElem?_eq_getElem hlt] at hget
    exact hget
  simp [s2, SOp.args, k1, k2, k3, v3, hget', room]
  refine ⟨⟨fun x hx => cells_isD' _ x hx, fun x hx => cells_isD' _ x hx⟩, ?_⟩
  refine FCall.fn (fn25 kk [a, b]) (by simp [ib, tms]) (by simp) (by simp [tm]) (by simp) (by simp) ?_
  simp [tm]
  refine ⟨rfl, realC_n ?_⟩
  simp
  refine ECall.fn (fn22 (.mk kk 0 [a, b])) (by simp [tm]) (by simp) rfl fun _ => ?_
  simp [ib]
  refine ⟨fun hc => ?_, fun hc => ?_⟩
  · simp [hc]
    refine ECall.fn fn23 (by simp) (by simp) rfl fun _ => ?_
    simp [bb, r6]
  · simp [hc]
    refine W_dregA ?_
    simp
    refine CallA.fn (fn30 a ((uw vars).tmod 10) 65536) (by simp [tm, ib, v3]) (by simp) rfl ?_
    simp [bb, cells_mk]
    refine GCallA.fn (fun _ => fn31 kk 1) (by simp [ib]) (by simp) rfl ?_
    simp [ib]
    refine GCallA.fn (fun _ => fn30 b (IntKind.wrap .i64 ((uw vars).tmod 10 + bindsOf kk 1)) 65536) (by simp [tm, ib, v3]) (by simp) rfl ?_
    simp [bb]
    refine realC_n ?_
    simp
    refine W_dregA ?_
    simp
    refine CallA.fn (fn30 (.mk kk 0 [a, b]) ((uw vars).tmod 10) 65536) (by simp [tm, ib, v3, cells_mk]) (by simp) rfl ?_
    rw [two_scope ha hb hc v1 v2 hk]
    simp [bb]
    refine GCallA.fn (fun _ => fn19 (.mk kk 0 [a, b])) (by simp [tm, cells_mk]) (by simp) (by simp [tm]) ?_
    simp [tm]
    have c18 := fn18 (.mk kk 0 [a, b]) (.mk kk 0 [a, b])
    rw [eqb_self] at c18
    refine GCallA.fn (fun _ => c18) (by simp [tm, cells_mk]) (by simp) rfl ?_
    simp [bb]
    refine GCallA.fn (fun _ => fn23) (by simp) (by simp) rfl ?_
    simp [bb]
    refine realC_n ?_
    simp [r6]
end Go.Abs

namespace Go.Abs

/- porism/porismlaw04.ShiftSwaps -/
def c8 : SCode :=
  .seq (.reg
       [⟨some 5, none, .box 24 (.t 0)⟩,
        ⟨some 10, none, .mv (.k (.bool false))⟩])
  (.seq (.seq (.reg
         [⟨some 17, none, .ldn 24 3 (.t 5)⟩,
          ⟨some 18, none, .lit 24 3 40 [.t 17]⟩,
          ⟨some 19, none, .call (.f 17) [.t 18]⟩])
    (.cond (.t 19)
      (.seq (.reg
           [⟨some 10, none, .mv (.k (.bool true))⟩])
      (.ret))
      (.skip)))
  (.seq (.reg
       [⟨some 20, none, .mv (.t 1)⟩,
        ⟨some 21, none, .conv 3 32 .u64 (.t 20)⟩,
        ⟨some 22, none, .bin .rem (.t 21) (.k (.int .u64 30))⟩,
        ⟨some 23, none, .conv 32 3 .i64 (.t 22)⟩,
        ⟨some 24, none, .mv (.t 2)⟩,
        ⟨some 25, none, .conv 3 32 .u64 (.t 24)⟩,
        ⟨some 26, none, .bin .rem (.t 25) (.k (.int .u64 30))⟩,
        ⟨some 27, none, .conv 32 3 .i64 (.t 26)⟩,
        ⟨some 28, none, .mv (.t 3)⟩,
        ⟨some 29, none, .conv 3 32 .u64 (.t 28)⟩,
        ⟨some 30, none, .bin .rem (.t 29) (.k (.int .u64 10))⟩,
        ⟨some 31, none, .conv 32 3 .i64 (.t 30)⟩,
        ⟨some 32, none, .mv (.t 4)⟩,
        ⟨some 33, none, .conv 3 32 .u64 (.t 32)⟩,
        ⟨some 34, none, .bin .rem (.t 33) (.k (.int .u64 10))⟩,
        ⟨some 35, none, .conv 32 3 .i64 (.t 34)⟩,
        ⟨some 1, none, .mv (.t 23)⟩,
        ⟨some 2, none, .mv (.t 27)⟩,
        ⟨some 3, none, .mv (.t 31)⟩,
        ⟨some 4, none, .mv (.t 35)⟩])
  (.seq (.reg
       [⟨some 37, none, .ldn 24 3 (.t 5)⟩,
        ⟨some 38, none, .mv (.t 1)⟩,
        ⟨some 39, none, .mv (.t 3)⟩,
        ⟨some 40, none, .call (.f 49) [.t 37, .t 38, .t 39]⟩,
        ⟨some 36, none, .mv (.t 40)⟩,
        ⟨some 41, none, .ext (.t 36) 0⟩,
        ⟨some 42, none, .ext (.t 36) 1⟩,
        ⟨some 11, none, .alloc 24 [.v (.int .i64 0), .v (.int .i64 0), .cap 3 40 []]⟩,
        ⟨none, none, .stn 24 3 (.t 11) (.t 41)⟩,
        ⟨some 12, none, .mv (.t 42)⟩])
  (.seq (.reg
       [⟨some 44, none, .ldn 24 3 (.t 5)⟩,
        ⟨some 45, none, .mv (.t 2)⟩,
        ⟨some 46, none, .mv (.t 3)⟩,
        ⟨some 47, none, .mv (.t 4)⟩,
        ⟨some 48, none, .bin .add (.t 46) (.t 47)⟩,
        ⟨some 49, none, .call (.f 49) [.t 44, .t 45, .t 48]⟩,
        ⟨some 43, none, .mv (.t 49)⟩,
        ⟨some 50, none, .ext (.t 43) 0⟩,
        ⟨some 51, none, .ext (.t 43) 1⟩,
        ⟨some 13, none, .alloc 24 [.v (.int .i64 0), .v (.int .i64 0), .cap 3 40 []]⟩,
        ⟨none, none, .stn 24 3 (.t 13) (.t 50)⟩,
        ⟨some 14, none, .mv (.t 51)⟩])
  (.seq (.seq (.reg
         [⟨some 52, none, .mv (.t 12)⟩,
          ⟨some 53, none, .bin .neq (.t 52) (.k (.int .i64 0))⟩,
          ⟨some 54, none, .mv (.t 53)⟩,
          ⟨some 55, some (54, false), .mv (.t 14)⟩,
          ⟨some 56, some (54, false), .bin .neq (.t 55) (.k (.int .i64 0))⟩,
          ⟨some 57, none, .pick (.t 54) (.k (.bool true)) (.t 56)⟩])
    (.cond (.t 57)
      (.seq (.reg
           [⟨some 58, none, .call (.f 50) []⟩,
            ⟨some 10, none, .mv (.t 58)⟩])
      (.ret))
      (.skip)))
  (.seq (.reg
       [⟨some 60, none, .ldn 24 3 (.t 11)⟩,
        ⟨some 61, none, .mv (.t 2)⟩,
        ⟨some 62, none, .mv (.t 3)⟩,
        ⟨some 63, none, .mv (.t 4)⟩,
        ⟨some 64, none, .bin .add (.t 62) (.t 63)⟩,
        ⟨some 65, none, .mv (.t 1)⟩,
        ⟨some 66, none, .bin .add (.t 64) (.t 65)⟩,
        ⟨some 67, none, .call (.f 49) [.t 60, .t 61, .t 66]⟩,
        ⟨some 59, none, .mv (.t 67)⟩,
        ⟨some 68, none, .ext (.t 59) 0⟩,
        ⟨some 69, none, .ext (.t 59) 1⟩,
        ⟨some 15, none, .alloc 24 [.v (.int .i64 0), .v (.int .i64 0), .cap 3 40 []]⟩,
        ⟨none, none, .stn 24 3 (.t 15) (.t 68)⟩,
        ⟨some 12, none, .mv (.t 69)⟩])
  (.seq (.reg
       [⟨some 71, none, .ldn 24 3 (.t 13)⟩,
        ⟨some 72, none, .mv (.t 1)⟩,
        ⟨some 73, none, .mv (.t 3)⟩,
        ⟨some 74, none, .call (.f 49) [.t 71, .t 72, .t 73]⟩,
        ⟨some 70, none, .mv (.t 74)⟩,
        ⟨some 75, none, .ext (.t 70) 0⟩,
        ⟨some 76, none, .ext (.t 70) 1⟩,
        ⟨some 16, none, .alloc 24 [.v (.int .i64 0), .v (.int .i64 0), .cap 3 40 []]⟩,
        ⟨none, none, .stn 24 3 (.t 16) (.t 75)⟩,
        ⟨some 14, none, .mv (.t 76)⟩])
  (.seq (.seq (.reg
         [⟨some 77, none, .mv (.t 12)⟩,
          ⟨some 78, none, .bin .neq (.t 77) (.k (.int .i64 0))⟩,
          ⟨some 79, none, .mv (.t 78)⟩,
          ⟨some 80, some (79, false), .mv (.t 14)⟩,
          ⟨some 81, some (79, false), .bin .neq (.t 80) (.k (.int .i64 0))⟩,
          ⟨some 82, none, .pick (.t 79) (.k (.bool true)) (.t 81)⟩])
    (.cond (.t 82)
      (.seq (.reg
           [⟨some 83, none, .mv (.t 12)⟩,
            ⟨some 84, none, .bin .eql (.t 83) (.k (.int .i64 6))⟩,
            ⟨some 85, none, .mv (.t 84)⟩,
            ⟨some 86, some (85, false), .mv (.t 14)⟩,
            ⟨some 87, some (85, false), .bin .eql (.t 86) (.k (.int .i64 6))⟩,
            ⟨some 88, none, .pick (.t 85) (.k (.bool true)) (.t 87)⟩,
            ⟨some 89, none, .mv (.t 88)⟩,
            ⟨some 90, some (89, true), .call (.f 50) []⟩,
            ⟨some 91, none, .pick (.t 89) (.t 90) (.k (.bool false))⟩,
            ⟨some 10, none, .mv (.t 91)⟩])
      (.ret))
      (.skip)))
  (.seq (.reg
       [⟨some 92, none, .ldn 24 3 (.t 15)⟩,
        ⟨some 93, none, .ldn 24 3 (.t 16)⟩,
        ⟨some 94, none, .call (.f 45) [.t 92, .t 93]⟩,
        ⟨some 95, none, .mv (.t 94)⟩,
        ⟨some 96, some (95, true), .call (.f 50) []⟩,
        ⟨some 97, none, .pick (.t 95) (.t 96) (.k (.bool false))⟩,
        ⟨some 10, none, .mv (.t 97)⟩])
  (.ret))))))))))
def r8 : List RR := [.t 10]
theorem ok8 : okFn Go.Proofs.Try.prog 8 98 c8 r8 5 = true := by kernel_rfl

/- porism/porismlaw04.ShiftKids -/
def w9_0 : List (List Nat) := [[], [], [], [], [], [], [], [], [], [], [], [], [], [], [], [], [9010], [9010], []]
def f9_0 : List (List Nat) := [[9010], [9010], [9010], [9010], [9010], [9010], [9010], [9010], [9010], [9010], [9010], [9010], [9010], [9010], [9010], [9010], [], [], []]
def c9b0 : SCode :=
  .seq (.seq (.reg
         [⟨some 64, none, .mv (.t 9)⟩,
          ⟨some 65, none, .fad 24 2 2 (.t 3)⟩,
          ⟨some 66, none, .ld1 22 (.t 65)⟩,
          ⟨some 67, none, .len 22 (.t 66)⟩,
          ⟨some 68, none, .bin .lss (.t 64) (.t 67)⟩])
    (.cond (.t 68)
      (.skip)
      (.exit 0)))
  (.seq (.block 1 (.seq (.dreg [0, 1, 0, 7, 15, 0, 0, 0, 128, 0, 896, 1984, 4095, 8191, 16383, 16383, 0, 98303, 262143]
           [⟨some 72, none, .fad 24 2 2 (.t 3)⟩,
            ⟨some 73, none, .ld1 22 (.t 72)⟩,
            ⟨some 74, none, .mv (.t 9)⟩,
            ⟨some 75, none, .iad 24 3 (.t 73) (.t 74)⟩,
            ⟨some 76, none, .ldn 24 3 (.t 75)⟩,
            ⟨some 77, none, .mv (.t 1)⟩,
            ⟨some 78, none, .mv (.t 2)⟩,
            ⟨some 79, none, .fad 24 0 0 (.t 3)⟩,
            ⟨some 80, none, .ld1 3 (.t 79)⟩,
            ⟨some 81, none, .mv (.t 9)⟩,
            ⟨some 82, none, .call (.f 51) [.t 80, .t 81]⟩,
            ⟨some 83, none, .bin .add (.t 78) (.t 82)⟩,
            ⟨some 84, none, .call (.f 49) [.t 76, .t 77, .t 83]⟩,
            ⟨some 71, none, .mv (.t 84)⟩,
            ⟨some 85, none, .ext (.t 71) 0⟩,
            ⟨some 86, none, .ext (.t 71) 1⟩,
            ⟨some 10, none, .alloc 24 [.v (.int .i64 0), .v (.int .i64 0), .cap 3 40 []]⟩,
            ⟨none, none, .stn 24 3 (.t 10) (.t 85)⟩,
            ⟨some 11, none, .mv (.t 86)⟩])
      (.seq (.dreg [0, 1, 3, 7, 7, 23, 7, 119, 247, 511, 1023, 2047]
           [⟨some 87, none, .mv (.t 11)⟩,
            ⟨some 88, none, .bin .neq (.t 87) (.k (.int .i64 0))⟩,
            ⟨some 89, none, .mv (.t 88)⟩,
            ⟨some 90, some (89, false), .ldn 24 3 (.t 10)⟩,
            ⟨some 91, some (89, false), .fad 24 2 2 (.t 7)⟩,
            ⟨some 92, some (89, false), .ld1 22 (.t 91)⟩,
            ⟨some 93, some (89, false), .mv (.t 9)⟩,
            ⟨some 94, some (89, false), .iad 24 3 (.t 92) (.t 93)⟩,
            ⟨some 95, some (89, false), .ldn 24 3 (.t 94)⟩,
            ⟨some 96, some (89, false), .call (.f 45) [.t 90, .t 95]⟩,
            ⟨some 97, some (89, false), .not (.t 96)⟩,
            ⟨some 98, none, .pick (.t 89) (.k (.bool true)) (.t 97)⟩])
      (.cond (.t 98)
        (.seq (.reg
             [⟨some 6, none, .mv (.k (.bool false))⟩])
        (.ret))
        (.skip)))))
  (.reg
     [⟨some 69, none, .mv (.t 9)⟩,
      ⟨some 70, none, .bin .add (.t 69) (.k (.int .i64 1))⟩,
      ⟨some 9, none, .mv (.t 70)⟩]))
def c9b1 : SCode :=
  .seq (.seq (.reg
         [⟨some 99, none, .mv (.t 13)⟩,
          ⟨some 100, none, .fad 24 2 2 (.t 3)⟩,
          ⟨some 101, none, .ld1 22 (.t 100)⟩,
          ⟨some 102, none, .len 22 (.t 101)⟩,
          ⟨some 103, none, .bin .lss (.t 99) (.t 102)⟩])
    (.cond (.t 103)
      (.skip)
      (.exit 2)))
  (.seq (.block 3 (.dreg [0, 0, 2, 0, 14, 30, 0, 0, 128, 0, 896, 1984, 4094, 8191, 16383]
         [⟨some 106, none, .mv (.t 12)⟩,
          ⟨some 107, none, .fad 24 2 2 (.t 3)⟩,
          ⟨some 108, none, .ld1 22 (.t 107)⟩,
          ⟨some 109, none, .mv (.t 13)⟩,
          ⟨some 110, none, .iad 24 3 (.t 108) (.t 109)⟩,
          ⟨some 111, none, .ldn 24 3 (.t 110)⟩,
          ⟨some 112, none, .mv (.t 2)⟩,
          ⟨some 113, none, .fad 24 0 0 (.t 3)⟩,
          ⟨some 114, none, .ld1 3 (.t 113)⟩,
          ⟨some 115, none, .mv (.t 13)⟩,
          ⟨some 116, none, .call (.f 51) [.t 114, .t 115]⟩,
          ⟨some 117, none, .bin .add (.t 112) (.t 116)⟩,
          ⟨some 118, none, .call (.f 52) [.t 111, .t 117]⟩,
          ⟨some 119, none, .bin .add (.t 106) (.t 118)⟩,
          ⟨some 12, none, .mv (.t 119)⟩]))
  (.reg
     [⟨some 104, none, .mv (.t 13)⟩,
      ⟨some 105, none, .bin .add (.t 104) (.k (.int .i64 1))⟩,
      ⟨some 13, none, .mv (.t 105)⟩]))
def c9 : SCode :=
  .seq (.reg
       [⟨some 3, none, .box 24 (.t 0)⟩,
        ⟨some 6, none, .mv (.k (.bool false))⟩])
  (.seq (.seq (.reg
         [⟨some 14, none, .ldn 24 3 (.t 3)⟩,
          ⟨some 15, none, .lit 24 3 40 [.t 14]⟩,
          ⟨some 16, none, .call (.f 17) [.t 15]⟩,
          ⟨some 17, none, .mv (.t 16)⟩,
          ⟨some 18, some (17, false), .ldn 24 3 (.t 3)⟩,
          ⟨some 19, some (17, false), .call (.f 27) [.t 18]⟩,
          ⟨some 20, some (17, false), .bin .neq (.t 19) (.k (.int .i64 0))⟩,
          ⟨some 21, none, .pick (.t 17) (.k (.bool true)) (.t 20)⟩,
          ⟨some 22, none, .mv (.t 21)⟩,
          ⟨some 23, some (22, false), .fad 24 2 2 (.t 3)⟩,
          ⟨some 24, some (22, false), .ld1 22 (.t 23)⟩,
          ⟨some 25, some (22, false), .len 22 (.t 24)⟩,
          ⟨some 26, some (22, false), .bin .eql (.t 25) (.k (.int .i64 0))⟩,
          ⟨some 27, none, .pick (.t 22) (.k (.bool true)) (.t 26)⟩])
    (.cond (.t 27)
      (.seq (.reg
           [⟨some 6, none, .mv (.k (.bool true))⟩])
      (.ret))
      (.skip)))
  (.seq (.reg
       [⟨some 28, none, .mv (.t 1)⟩,
        ⟨some 29, none, .conv 3 32 .u64 (.t 28)⟩,
        ⟨some 30, none, .bin .rem (.t 29) (.k (.int .u64 1000))⟩,
        ⟨some 31, none, .conv 32 3 .i64 (.t 30)⟩,
        ⟨some 32, none, .mv (.t 2)⟩,
        ⟨some 33, none, .conv 3 32 .u64 (.t 32)⟩,
        ⟨some 34, none, .bin .rem (.t 33) (.k (.int .u64 50))⟩,
        ⟨some 35, none, .conv 32 3 .i64 (.t 34)⟩,
        ⟨some 1, none, .mv (.t 31)⟩,
        ⟨some 2, none, .mv (.t 35)⟩])
  (.seq (.reg
       [⟨some 37, none, .ldn 24 3 (.t 3)⟩,
        ⟨some 38, none, .mv (.t 1)⟩,
        ⟨some 39, none, .mv (.t 2)⟩,
        ⟨some 40, none, .call (.f 49) [.t 37, .t 38, .t 39]⟩,
        ⟨some 36, none, .mv (.t 40)⟩,
        ⟨some 41, none, .ext (.t 36) 0⟩,
        ⟨some 42, none, .ext (.t 36) 1⟩,
        ⟨some 7, none, .alloc 24 [.v (.int .i64 0), .v (.int .i64 0), .cap 3 40 []]⟩,
        ⟨none, none, .stn 24 3 (.t 7) (.t 41)⟩,
        ⟨some 8, none, .mv (.t 42)⟩])
  (.seq (.seq (.reg
         [⟨some 43, none, .mv (.t 8)⟩,
          ⟨some 44, none, .bin .neq (.t 43) (.k (.int .i64 0))⟩])
    (.cond (.t 44)
      (.seq (.reg
           [⟨some 45, none, .mv (.t 8)⟩,
            ⟨some 46, none, .bin .eql (.t 45) (.k (.int .i64 6))⟩,
            ⟨some 47, none, .mv (.t 46)⟩,
            ⟨some 48, some (47, true), .call (.f 50) []⟩,
            ⟨some 49, none, .pick (.t 47) (.t 48) (.k (.bool false))⟩,
            ⟨some 6, none, .mv (.t 49)⟩])
      (.ret))
      (.skip)))
  (.seq (.seq (.reg
         [⟨some 50, none, .fad 24 2 2 (.t 7)⟩,
          ⟨some 51, none, .ld1 22 (.t 50)⟩,
          ⟨some 52, none, .len 22 (.t 51)⟩,
          ⟨some 53, none, .fad 24 2 2 (.t 3)⟩,
          ⟨some 54, none, .ld1 22 (.t 53)⟩,
          ⟨some 55, none, .len 22 (.t 54)⟩,
          ⟨some 56, none, .bin .neq (.t 52) (.t 55)⟩,
          ⟨some 57, none, .mv (.t 56)⟩,
          ⟨some 58, some (57, false), .fad 24 0 0 (.t 7)⟩,
          ⟨some 59, some (57, false), .ld1 3 (.t 58)⟩,
          ⟨some 60, some (57, false), .fad 24 0 0 (.t 3)⟩,
          ⟨some 61, some (57, false), .ld1 3 (.t 60)⟩,
          ⟨some 62, some (57, false), .bin .neq (.t 59) (.t 61)⟩,
          ⟨some 63, none, .pick (.t 57) (.k (.bool true)) (.t 62)⟩])
    (.cond (.t 63)
      (.seq (.reg
           [⟨some 6, none, .mv (.k (.bool false))⟩])
      (.ret))
      (.skip)))
  (.seq (.seq (.reg
         [⟨some 9, none, .mv (.k (.int .i64 0))⟩])
    (.block 0 (.loop c9b0)))
  (.seq (.reg
       [⟨some 12, none, .mv (.k (.int .i64 0))⟩])
  (.seq (.seq (.reg
         [⟨some 13, none, .mv (.k (.int .i64 0))⟩])
    (.block 2 (.loop c9b1)))
  (.seq (.reg
       [⟨some 120, none, .mv (.t 12)⟩,
        ⟨some 121, none, .ldn 24 3 (.t 3)⟩,
        ⟨some 122, none, .mv (.t 2)⟩,
        ⟨some 123, none, .call (.f 52) [.t 121, .t 122]⟩,
        ⟨some 124, none, .bin .eql (.t 120) (.t 123)⟩,
        ⟨some 125, none, .mv (.t 124)⟩,
        ⟨some 126, some (125, true), .call (.f 50) []⟩,
        ⟨some 127, none, .pick (.t 125) (.t 126) (.k (.bool false))⟩,
        ⟨some 6, none, .mv (.t 127)⟩])
  (.ret))))))))))
def r9 : List RR := [.t 6]
theorem ok9 : okFn Go.Proofs.Try.prog 9 128 c9 r9 3 = true := by kernel_rfl

/- porism/porismlaw04.ShiftTwice -/
def c11 : SCode :=
  .seq (.reg
       [⟨some 4, none, .box 24 (.t 0)⟩,
        ⟨some 8, none, .mv (.k (.bool false))⟩])
  (.seq (.seq (.reg
         [⟨some 21, none, .ldn 24 3 (.t 4)⟩,
          ⟨some 22, none, .lit 24 3 40 [.t 21]⟩,
          ⟨some 23, none, .call (.f 17) [.t 22]⟩])
    (.cond (.t 23)
      (.seq (.reg
           [⟨some 8, none, .mv (.k (.bool true))⟩])
      (.ret))
      (.skip)))
  (.seq (.reg
       [⟨some 24, none, .mv (.t 1)⟩,
        ⟨some 25, none, .conv 3 32 .u64 (.t 24)⟩,
        ⟨some 26, none, .bin .rem (.t 25) (.k (.int .u64 200))⟩,
        ⟨some 27, none, .conv 32 3 .i64 (.t 26)⟩,
        ⟨some 28, none, .mv (.t 2)⟩,
        ⟨some 29, none, .conv 3 32 .u64 (.t 28)⟩,
        ⟨some 30, none, .bin .rem (.t 29) (.k (.int .u64 200))⟩,
        ⟨some 31, none, .conv 32 3 .i64 (.t 30)⟩,
        ⟨some 32, none, .bin .add (.k (.int .i64 1)) (.t 31)⟩,
        ⟨some 33, none, .mv (.t 3)⟩,
        ⟨some 34, none, .conv 3 32 .u64 (.t 33)⟩,
        ⟨some 35, none, .bin .rem (.t 34) (.k (.int .u64 20))⟩,
        ⟨some 36, none, .conv 32 3 .i64 (.t 35)⟩,
        ⟨some 1, none, .mv (.t 27)⟩,
        ⟨some 2, none, .mv (.t 32)⟩,
        ⟨some 3, none, .mv (.t 36)⟩])
  (.seq (.reg
       [⟨some 38, none, .ldn 24 3 (.t 4)⟩,
        ⟨some 39, none, .mv (.t 1)⟩,
        ⟨some 40, none, .mv (.t 3)⟩,
        ⟨some 41, none, .call (.f 49) [.t 38, .t 39, .t 40]⟩,
        ⟨some 37, none, .mv (.t 41)⟩,
        ⟨some 42, none, .ext (.t 37) 0⟩,
        ⟨some 43, none, .ext (.t 37) 1⟩,
        ⟨some 9, none, .alloc 24 [.v (.int .i64 0), .v (.int .i64 0), .cap 3 40 []]⟩,
        ⟨none, none, .stn 24 3 (.t 9) (.t 42)⟩,
        ⟨some 10, none, .mv (.t 43)⟩])
  (.seq (.reg
       [⟨some 45, none, .ldn 24 3 (.t 4)⟩,
        ⟨some 46, none, .mv (.t 1)⟩,
        ⟨some 47, none, .mv (.t 2)⟩,
        ⟨some 48, none, .bin .add (.t 46) (.t 47)⟩,
        ⟨some 49, none, .mv (.t 3)⟩,
        ⟨some 50, none, .call (.f 49) [.t 45, .t 48, .t 49]⟩,
        ⟨some 44, none, .mv (.t 50)⟩,
        ⟨some 51, none, .ext (.t 44) 0⟩,
        ⟨some 52, none, .ext (.t 44) 1⟩,
        ⟨some 11, none, .alloc 24 [.v (.int .i64 0), .v (.int .i64 0), .cap 3 40 []]⟩,
        ⟨none, none, .stn 24 3 (.t 11) (.t 51)⟩,
        ⟨some 12, none, .mv (.t 52)⟩])
  (.seq (.seq (.reg
         [⟨some 53, none, .mv (.t 10)⟩,
          ⟨some 54, none, .bin .neq (.t 53) (.k (.int .i64 0))⟩,
          ⟨some 55, none, .mv (.t 54)⟩,
          ⟨some 56, some (55, false), .mv (.t 12)⟩,
          ⟨some 57, some (55, false), .bin .neq (.t 56) (.k (.int .i64 0))⟩,
          ⟨some 58, none, .pick (.t 55) (.k (.bool true)) (.t 57)⟩])
    (.cond (.t 58)
      (.seq (.reg
           [⟨some 59, none, .mv (.t 10)⟩,
            ⟨some 60, none, .bin .eql (.t 59) (.k (.int .i64 6))⟩,
            ⟨some 61, none, .mv (.t 60)⟩,
            ⟨some 62, some (61, false), .mv (.t 12)⟩,
            ⟨some 63, some (61, false), .bin .eql (.t 62) (.k (.int .i64 6))⟩,
            ⟨some 64, none, .pick (.t 61) (.k (.bool true)) (.t 63)⟩,
            ⟨some 65, none, .mv (.t 64)⟩,
            ⟨some 66, some (65, false), .mv (.t 10)⟩,
            ⟨some 67, some (65, false), .mv (.t 12)⟩,
            ⟨some 68, some (65, false), .bin .eql (.t 66) (.t 67)⟩,
            ⟨some 69, some (65, false), .mv (.t 68)⟩,
            ⟨some 70, some (69, true), .ldn 24 3 (.t 4)⟩,
            ⟨some 71, some (69, true), .call (.f 22) [.t 70]⟩,
            ⟨some 72, some (69, true), .mv (.t 10)⟩,
            ⟨some 73, some (69, true), .bin .eql (.t 71) (.t 72)⟩,
            ⟨some 74, some (65, false), .pick (.t 69) (.t 73) (.k (.bool false))⟩,
            ⟨some 75, none, .pick (.t 65) (.k (.bool true)) (.t 74)⟩,
            ⟨some 76, none, .mv (.t 75)⟩,
            ⟨some 77, some (76, true), .call (.f 50) []⟩,
            ⟨some 78, none, .pick (.t 76) (.t 77) (.k (.bool false))⟩,
            ⟨some 8, none, .mv (.t 78)⟩])
      (.ret))
      (.skip)))
  (.seq (.reg
       [⟨some 80, none, .ldn 24 3 (.t 9)⟩,
        ⟨some 81, none, .mv (.t 2)⟩,
        ⟨some 82, none, .mv (.t 3)⟩,
        ⟨some 83, none, .call (.f 49) [.t 80, .t 81, .t 82]⟩,
        ⟨some 79, none, .mv (.t 83)⟩,
        ⟨some 84, none, .ext (.t 79) 0⟩,
        ⟨some 85, none, .ext (.t 79) 1⟩,
        ⟨some 13, none, .alloc 24 [.v (.int .i64 0), .v (.int .i64 0), .cap 3 40 []]⟩,
        ⟨none, none, .stn 24 3 (.t 13) (.t 84)⟩,
        ⟨some 14, none, .mv (.t 85)⟩])
  (.seq (.reg
       [⟨some 87, none, .ldn 24 3 (.t 4)⟩,
        ⟨some 88, none, .mv (.t 3)⟩,
        ⟨some 89, none, .call (.f 49) [.t 87, .k (.int .i64 0), .t 88]⟩,
        ⟨some 86, none, .mv (.t 89)⟩,
        ⟨some 90, none, .ext (.t 86) 0⟩,
        ⟨some 91, none, .ext (.t 86) 1⟩,
        ⟨some 15, none, .alloc 24 [.v (.int .i64 0), .v (.int .i64 0), .cap 3 40 []]⟩,
        ⟨none, none, .stn 24 3 (.t 15) (.t 90)⟩,
        ⟨some 16, none, .mv (.t 91)⟩])
  (.seq (.reg
       [⟨some 93, none, .ldn 24 3 (.t 4)⟩,
        ⟨some 94, none, .mv (.t 3)⟩,
        ⟨some 95, none, .call (.f 49) [.t 93, .k (.int .i64 1), .t 94]⟩,
        ⟨some 92, none, .mv (.t 95)⟩,
        ⟨some 96, none, .ext (.t 92) 0⟩,
        ⟨some 97, none, .ext (.t 92) 1⟩,
        ⟨some 17, none, .alloc 24 [.v (.int .i64 0), .v (.int .i64 0), .cap 3 40 []]⟩,
        ⟨none, none, .stn 24 3 (.t 17) (.t 96)⟩,
        ⟨some 18, none, .mv (.t 97)⟩])
  (.seq (.reg
       [⟨some 99, none, .ldn 24 3 (.t 17)⟩,
        ⟨some 100, none, .mv (.t 3)⟩,
        ⟨some 101, none, .call (.f 54) [.t 99, .t 100]⟩,
        ⟨some 98, none, .mv (.t 101)⟩,
        ⟨some 102, none, .ext (.t 98) 0⟩,
        ⟨some 103, none, .ext (.t 98) 1⟩,
        ⟨some 19, none, .alloc 24 [.v (.int .i64 0), .v (.int .i64 0), .cap 3 40 []]⟩,
        ⟨none, none, .stn 24 3 (.t 19) (.t 102)⟩,
        ⟨some 20, none, .mv (.t 103)⟩])
  (.seq (.reg
       [⟨some 104, none, .mv (.t 14)⟩,
        ⟨some 105, none, .bin .eql (.t 104) (.k (.int .i64 0))⟩,
        ⟨some 106, none, .mv (.t 105)⟩,
        ⟨some 107, some (106, true), .ldn 24 3 (.t 13)⟩,
        ⟨some 108, some (106, true), .ldn 24 3 (.t 11)⟩,
        ⟨some 109, some (106, true), .call (.f 45) [.t 107, .t 108]⟩,
        ⟨some 110, none, .pick (.t 106) (.t 109) (.k (.bool false))⟩,
        ⟨some 111, none, .mv (.t 110)⟩,
        ⟨some 112, some (111, true), .mv (.t 16)⟩,
        ⟨some 113, some (111, true), .bin .eql (.t 112) (.k (.int .i64 0))⟩,
        ⟨some 114, none, .pick (.t 111) (.t 113) (.k (.bool false))⟩,
        ⟨some 115, none, .mv (.t 114)⟩,
        ⟨some 116, some (115, true), .ldn 24 3 (.t 15)⟩,
        ⟨some 117, some (115, true), .ldn 24 3 (.t 4)⟩,
        ⟨some 118, some (115, true), .call (.f 45) [.t 116, .t 117]⟩,
        ⟨some 119, none, .pick (.t 115) (.t 118) (.k (.bool false))⟩,
        ⟨some 120, none, .mv (.t 119)⟩,
        ⟨some 121, some (120, true), .mv (.t 18)⟩,
        ⟨some 122, some (120, true), .bin .eql (.t 121) (.k (.int .i64 0))⟩,
        ⟨some 123, none, .pick (.t 120) (.t 122) (.k (.bool false))⟩,
        ⟨some 124, none, .mv (.t 123)⟩,
        ⟨some 125, some (124, true), .mv (.t 20)⟩,
        ⟨some 126, none, .pick (.t 124) (.t 125) (.k (.bool false))⟩,
        ⟨some 127, none, .mv (.t 126)⟩,
        ⟨some 128, some (127, true), .ldn 24 3 (.t 19)⟩,
        ⟨some 129, some (127, true), .ldn 24 3 (.t 4)⟩,
        ⟨some 130, some (127, true), .call (.f 45) [.t 128, .t 129]⟩,
        ⟨some 131, none, .pick (.t 127) (.t 130) (.k (.bool false))⟩,
        ⟨some 132, none, .mv (.t 131)⟩,
        ⟨some 133, some (132, true), .call (.f 50) []⟩,
        ⟨some 134, none, .pick (.t 132) (.t 133) (.k (.bool false))⟩,
        ⟨some 8, none, .mv (.t 134)⟩])
  (.ret)))))))))))
def r11 : List RR := [.t 8]
theorem ok11 : okFn Go.Proofs.Try.prog 11 135 c11 r11 4 = true := by kernel_rfl

/- porism/porismlaw04.ShiftScopes -/
def c12 : SCode :=
  .seq (.reg
       [⟨some 4, none, .box 24 (.t 0)⟩,
        ⟨some 8, none, .mv (.k (.bool false))⟩])
  (.seq (.seq (.reg
         [⟨some 11, none, .ldn 24 3 (.t 4)⟩,
          ⟨some 12, none, .lit 24 3 40 [.t 11]⟩,
          ⟨some 13, none, .call (.f 17) [.t 12]⟩])
    (.cond (.t 13)
      (.seq (.reg
           [⟨some 8, none, .mv (.k (.bool true))⟩])
      (.ret))
      (.skip)))
  (.seq (.reg
       [⟨some 14, none, .mv (.t 1)⟩,
        ⟨some 15, none, .conv 3 32 .u64 (.t 14)⟩,
        ⟨some 16, none, .bin .rem (.t 15) (.k (.int .u64 30))⟩,
        ⟨some 17, none, .conv 32 3 .i64 (.t 16)⟩,
        ⟨some 18, none, .mv (.t 2)⟩,
        ⟨some 19, none, .conv 3 32 .u64 (.t 18)⟩,
        ⟨some 20, none, .bin .rem (.t 19) (.k (.int .u64 30))⟩,
        ⟨some 21, none, .conv 32 3 .i64 (.t 20)⟩,
        ⟨some 22, none, .mv (.t 3)⟩,
        ⟨some 23, none, .conv 3 32 .u64 (.t 22)⟩,
        ⟨some 24, none, .bin .rem (.t 23) (.k (.int .u64 30))⟩,
        ⟨some 25, none, .conv 32 3 .i64 (.t 24)⟩,
        ⟨some 1, none, .mv (.t 17)⟩,
        ⟨some 2, none, .mv (.t 21)⟩,
        ⟨some 3, none, .mv (.t 25)⟩])
  (.seq (.seq (.reg
         [⟨some 26, none, .ldn 24 3 (.t 4)⟩,
          ⟨some 27, none, .mv (.t 1)⟩,
          ⟨some 28, none, .call (.f 30) [.t 26, .t 27, .k (.int .i64 65536)]⟩,
          ⟨some 29, none, .not (.t 28)⟩])
    (.cond (.t 29)
      (.seq (.reg
           [⟨some 30, none, .call (.f 50) []⟩,
            ⟨some 8, none, .mv (.t 30)⟩])
      (.ret))
      (.skip)))
  (.seq (.reg
       [⟨some 32, none, .ldn 24 3 (.t 4)⟩,
        ⟨some 33, none, .mv (.t 2)⟩,
        ⟨some 34, none, .mv (.t 3)⟩,
        ⟨some 35, none, .call (.f 49) [.t 32, .t 33, .t 34]⟩,
        ⟨some 31, none, .mv (.t 35)⟩,
        ⟨some 36, none, .ext (.t 31) 0⟩,
        ⟨some 37, none, .ext (.t 31) 1⟩,
        ⟨some 9, none, .alloc 24 [.v (.int .i64 0), .v (.int .i64 0), .cap 3 40 []]⟩,
        ⟨none, none, .stn 24 3 (.t 9) (.t 36)⟩,
        ⟨some 10, none, .mv (.t 37)⟩])
  (.seq (.seq (.reg
         [⟨some 38, none, .mv (.t 10)⟩,
          ⟨some 39, none, .bin .neq (.t 38) (.k (.int .i64 0))⟩,
          ⟨some 40, none, .mv (.t 39)⟩,
          ⟨some 41, some (40, false), .ldn 24 3 (.t 9)⟩,
          ⟨some 42, some (40, false), .mv (.t 1)⟩,
          ⟨some 43, some (40, false), .mv (.t 2)⟩,
          ⟨some 44, some (40, false), .bin .add (.t 42) (.t 43)⟩,
          ⟨some 45, some (40, false), .call (.f 30) [.t 41, .t 44, .k (.int .i64 65536)]⟩,
          ⟨some 46, some (40, false), .not (.t 45)⟩,
          ⟨some 47, none, .pick (.t 40) (.k (.bool true)) (.t 46)⟩])
    (.cond (.t 47)
      (.seq (.reg
           [⟨some 8, none, .mv (.k (.bool false))⟩])
      (.ret))
      (.skip)))
  (.seq (.reg
       [⟨some 48, none, .mv (.t 1)⟩,
        ⟨some 49, none, .mv (.t 3)⟩,
        ⟨some 50, none, .bin .gtr (.t 48) (.t 49)⟩,
        ⟨some 51, none, .mv (.t 50)⟩,
        ⟨some 52, some (51, false), .ldn 24 3 (.t 9)⟩,
        ⟨some 53, some (51, false), .ldn 24 3 (.t 4)⟩,
        ⟨some 54, some (51, false), .call (.f 45) [.t 52, .t 53]⟩,
        ⟨some 55, none, .pick (.t 51) (.k (.bool true)) (.t 54)⟩,
        ⟨some 56, none, .mv (.t 55)⟩,
        ⟨some 57, some (56, true), .call (.f 50) []⟩,
        ⟨some 58, none, .pick (.t 56) (.t 57) (.k (.bool false))⟩,
        ⟨some 8, none, .mv (.t 58)⟩])
  (.ret)))))))
def r12 : List RR := [.t 8]
theorem ok12 : okFn Go.Proofs.Try.prog 12 59 c12 r12 4 = true := by kernel_rfl

/- porism/porismref01.Binds -/
def c51 : SCode :=
  .seq (.reg
       [⟨some 4, none, .mv (.k (.int .i64 0))⟩])
  (.seq (.seq (.reg
         [⟨some 5, none, .mv (.t 1)⟩,
          ⟨some 6, none, .bin .eql (.t 5) (.k (.int .i64 1))⟩,
          ⟨some 7, none, .mv (.t 6)⟩,
          ⟨some 8, some (7, true), .mv (.t 0)⟩,
          ⟨some 9, some (7, true), .bin .eql (.t 8) (.k (.int .i64 4))⟩,
          ⟨some 10, some (7, true), .mv (.t 9)⟩,
          ⟨some 11, some (10, false), .mv (.t 0)⟩,
          ⟨some 12, some (10, false), .bin .eql (.t 11) (.k (.int .i64 5))⟩,
          ⟨some 13, some (7, true), .pick (.t 10) (.k (.bool true)) (.t 12)⟩,
          ⟨some 14, some (7, true), .mv (.t 13)⟩,
          ⟨some 15, some (14, false), .mv (.t 0)⟩,
          ⟨some 16, some (14, false), .bin .eql (.t 15) (.k (.int .i64 7))⟩,
          ⟨some 17, some (7, true), .pick (.t 14) (.k (.bool true)) (.t 16)⟩,
          ⟨some 18, none, .pick (.t 7) (.t 17) (.k (.bool false))⟩])
    (.cond (.t 18)
      (.seq (.reg
           [⟨some 4, none, .mv (.k (.int .i64 1))⟩])
      (.ret))
      (.skip)))
  (.seq (.reg
       [⟨some 4, none, .mv (.k (.int .i64 0))⟩])
  (.ret)))
def r51 : List RR := [.t 4]
theorem ok51 : okFn Go.Proofs.Try.prog 51 19 c51 r51 2 = true := by kernel_rfl

/- porism/shift.Lower -/
def c54 : SCode :=
  .seq (.reg
       [⟨some 2, none, .box 24 (.t 0)⟩,
        ⟨some 3, none, .box 3 (.t 1)⟩,
        ⟨some 4, none, .alloc 24 [.v (.int .i64 0), .v (.int .i64 0), .cap 3 40 []]⟩,
        ⟨some 5, none, .mv (.k (.bool false))⟩])
  (.seq (.seq (.reg
         [⟨some 6, none, .ldn 24 3 (.t 2)⟩,
          ⟨some 7, none, .call (.f 22) [.t 6]⟩,
          ⟨some 8, none, .bin .neq (.t 7) (.k (.int .i64 0))⟩,
          ⟨some 9, none, .mv (.t 8)⟩,
          ⟨some 10, some (9, false), .ld1 3 (.t 3)⟩,
          ⟨some 11, some (9, false), .call (.f 97) [.t 10]⟩,
          ⟨some 12, some (9, false), .not (.t 11)⟩,
          ⟨some 13, none, .pick (.t 9) (.k (.bool true)) (.t 12)⟩,
          ⟨some 14, none, .mv (.t 13)⟩,
          ⟨some 15, some (14, false), .ldn 24 3 (.t 2)⟩,
          ⟨some 16, some (14, false), .ld1 3 (.t 3)⟩,
          ⟨some 17, some (14, false), .call (.f 52) [.t 15, .t 16]⟩,
          ⟨some 18, some (14, false), .bin .gtr (.t 17) (.k (.int .i64 0))⟩,
          ⟨some 19, none, .pick (.t 14) (.k (.bool true)) (.t 18)⟩])
    (.cond (.t 19)
      (.seq (.reg
           [⟨some 20, none, .build 24 [.v (.int .i64 0), .v (.int .i64 0), .cap 3 40 []] []⟩,
            ⟨none, none, .stn 24 3 (.t 4) (.t 20)⟩,
            ⟨some 5, none, .mv (.k (.bool false))⟩])
      (.ret))
      (.skip)))
  (.seq (.reg
       [⟨some 21, none, .ldn 24 3 (.t 2)⟩,
        ⟨some 22, none, .mkfn 103 [] [.t 3]⟩,
        ⟨some 23, none, .call (.f 98) [.t 21, .k (.int .i64 0), .t 22]⟩,
        ⟨none, none, .stn 24 3 (.t 4) (.t 23)⟩,
        ⟨some 5, none, .mv (.k (.bool true))⟩])
  (.ret)))
def r54 : List RR := [.cn 4 3, .t 5]
theorem ok54 : okFn Go.Proofs.Try.prog 54 24 c54 r54 2 = true := by kernel_rfl

/- porism/shift.Lower$1 -/
def c103 : SCode :=
  .seq (.reg
       [⟨some 5, none, .alloc 24 [.v (.int .i64 0), .v (.int .i64 0), .cap 3 40 []]⟩])
  (.seq (.seq (.reg
         [⟨some 6, none, .mv (.t 0)⟩,
          ⟨some 7, none, .ld1 3 (.t 2)⟩,
          ⟨some 8, none, .mv (.t 1)⟩,
          ⟨some 9, none, .bin .add (.t 7) (.t 8)⟩,
          ⟨some 10, none, .bin .gtr (.t 6) (.t 9)⟩])
    (.cond (.t 10)
      (.reg
         [⟨some 11, none, .mv (.t 0)⟩,
          ⟨some 12, none, .bin .sub (.t 11) (.k (.int .i64 1))⟩,
          ⟨some 0, none, .mv (.t 12)⟩])
      (.skip)))
  (.seq (.reg
       [⟨some 13, none, .mv (.t 0)⟩,
        ⟨some 14, none, .call (.f 76) [.t 13]⟩,
        ⟨none, none, .stn 24 3 (.t 5) (.t 14)⟩])
  (.ret)))
def r103 : List RR := [.cn 5 3]
theorem ok103 : okFn Go.Proofs.Try.prog 103 15 c103 r103 3 = true := by kernel_rfl

end Go.Abs

namespace Go.Abs
open Go.Proofs

theorem may_ok {x : Int} (h0 : 0 ≤ x) (h1 : x ≤ 65535) : mayB x = true := by simp [mayB, h0, h1]
theorem shift_eq {t : T} (hc : t.count ≤ 1048576) {b fr : Int} (hb : 0 ≤ b) (hb2 : b ≤ 65535) (hfr : 0 ≤ fr) (hfr2 : fr ≤ 65535) :
    t.shift b fr = if t.check = 0 then (if t.ov b fr then (.zero, 6) else (t.mv b fr, 0)) else (.zero, t.check) := by
  by_cases h : t.check = 0
  · have hm := mapS_mv fr b hfr hfr2 hb hb2 t ((check_iff t).1 h).2.2 0 0 (by omega) (by omega)
    simp only [Int.add_zero] at hm
    simp only [T.shift, T.shiftM, h, may_ok hb hb2, may_ok hfr hfr2, hm]
    by_cases ho : t.ov b fr = true <;> simp [ho]
  · simp [T.shift, h]
theorem shift_ok {t : T} (hc : t.count ≤ 1048576) {b fr : Int} (hb : 0 ≤ b) (hb2 : b ≤ 65535) (hfr : 0 ≤ fr) (hfr2 : fr ≤ 65535) (h : (t.shift b fr).2 = 0) : t.check = 0 ∧ t.ov b fr = false ∧ (t.shift b fr).1 = t.mv b fr := by
  rw [shift_eq hc hb hb2 hfr hfr2] at h ⊢
  by_cases h1 : t.check = 0
  · by_cases h2 : t.ov b fr = true
    · simp [h1, h2] at h
    · simp only [h1, if_true, h2]; simp
  · simp only [h1, if_false] at h
theorem shift_bad {t : T} (hc : t.count ≤ 1048576) {b fr : Int} (hb : 0 ≤ b) (hb2 : b ≤ 65535) (hfr : 0 ≤ fr) (hfr2 : fr ≤ 65535) (h : t.check = 0) : (t.shift b fr).2 = 0 ∨ (t.shift b fr).2 = 6 := by
  rw [shift_eq hc hb hb2 hfr hfr2]
  by_cases h2 : t.ov b fr = true <;> simp [h, h2]
theorem shift_run {t : T} (hc : t.count ≤ 1048576) {b fr : Int} (hb : 0 ≤ b) (hb2 : b ≤ 65535) (hfr : 0 ≤ fr) (hfr2 : fr ≤ 65535) (h : t.check = 0) (ho : t.ov b fr = false) : t.shift b fr = (t.mv b fr, 0) := by
  rw [shift_eq hc hb hb2 hfr hfr2]
  simp [h, ho]
theorem mv_count' {t : T} (h : t.check = 0) (b c : Int) : (t.mv b c).count = t.count := mv_count t ((check_iff t).1 h).2.2 b c

theorem fn8 (t : T) (a b i k : Int) (hc : t.count ≤ 1048576) : Fn Try.prog 8 [tm t, ib a, ib b, ib i, ib k] (bb true) := by
  refine fn_of (base := 8000) ok8 rfl fun σ h0 hr => ?_
  have s0 := h0 0
  have s1 : σ.sl 1 = ib a := h0 1
  have s2 : σ.sl 2 = ib b := h0 2
  have s3 : σ.sl 3 = ib i := h0 3
  have s4 : σ.sl 4 = ib k := h0 4
  rw [slots0] at s0
  simp only [tm, ib] at s0 s1 s2 s3 s4
  clear h0 hr
  obtain ⟨a1, a2, a3⟩ := umod a (m := 30) (by omega) (by omega)
  obtain ⟨b1, b2, b3⟩ := umod b (m := 30) (by omega) (by omega)
  obtain ⟨i1, i2, i3⟩ := umod i (m := 10) (by omega) (by omega)
  obtain ⟨k1, k2, k3⟩ := umod k (m := 10) (by omega) (by omega)
  unfold c8
  simp [s0, room]
  refine ⟨fun x hx => cells_isD' _ x hx, ?_⟩
  refine ECall.fn (fn17 [t]) (by simp [tms]) (by simp) rfl fun _ => ?_
  simp [bb]
  refine ⟨fun hh => by simp [r8, hh], fun hh => ?_⟩
  simp [hh, s1, s2, s3, s4, a3, b3, i3, k3]
  generalize (uw a).tmod 30 = a at a1 a2 a3
  generalize (uw b).tmod 30 = b at b1 b2 b3
  generalize (uw i).tmod 10 = i at i1 i2 i3
  generalize (uw k).tmod 10 = k at k1 k2 k3
  have w1 : IntKind.wrap .i64 (i + k) = i + k := wrap_id (by omega) (by omega)
  have w2 : IntKind.wrap .i64 (i + k + a) = i + k + a := wrap_id (by omega) (by omega)
  clear s1 s2 s3 s4
  refine ECall.fn (fn49 t a i) (by simp [tm, ib]) (by simp) (by simp [tm, ib, AV.keys2]) fun _ => ?_
  simp [tm, ib, w1]
  refine ECall.fn (fn49 t b (i + k)) (by simp [tm, ib]) (by simp) (by simp [tm, ib, AV.keys2]) fun _ => ?_
  simp [tm, ib]
  refine ⟨fun he => ?_, fun e1 e2 => ?_⟩
  · refine ECall.fn fn50 (by simp) (by simp) rfl fun _ => ?_
    simp [bb, r8]
  · obtain ⟨c1, o1, m1⟩ := shift_ok hc a1 (by omega) i1 (by omega) e1
    obtain ⟨c2, o2, m2⟩ := shift_ok hc b1 (by omega) (by omega) (by omega) e2
    simp [m1, m2, w1, w2]
    refine ECall.fn (fn49 (t.mv a i) b (i + k + a)) (by simp [tm, ib]) (by simp) (by simp [tm, ib, AV.keys2]) fun _ => ?_
    simp [tm, ib]
    refine ECall.fn (fn49 (t.mv b (i + k)) a i) (by simp [tm, ib]) (by simp) (by simp [tm, ib, AV.keys2]) fun _ => ?_
    simp [tm, ib]
    have hc1 := mv_count' c1 a i
    have hc2 := mv_count' c1 b (i + k)
    have k1 := mv_check hc c1 a1 o1
    have k2 := mv_check hc c1 b1 o2
    refine ⟨fun he => ?_, fun e3 e4 => ?_⟩
    · have hor : ((t.mv a i).shift b (i + k + a)).2 = 6 ∨ ((t.mv b (i + k)).shift a i).2 = 6 := by
        have q1 := shift_bad (t := t.mv a i) (by omega) (b := b) (fr := i + k + a) b1 (by omega) (by omega) (by omega) k1
        have q2 := shift_bad (t := t.mv b (i + k)) (by omega) (b := a) (fr := i) a1 (by omega) (by omega) (by omega) k2
        omega
      refine GCall.fn (fun _ => fn50) (by simp) (by simp) rfl fun _ => ?_
      have hd : (decide (((t.mv a i).shift b (i + k + a)).2 = 6) || decide (((t.mv b (i + k)).shift a i).2 = 6)) = true := by simpa using hor
      simp [bb, r8, hd]
    · obtain ⟨_, _, m3⟩ := shift_ok (t := t.mv a i) (by omega) (b := b) (fr := i + k + a) b1 (by omega) (by omega) (by omega) e3
      obtain ⟨_, _, m4⟩ := shift_ok (t := t.mv b (i + k)) (by omega) (b := a) (fr := i) a1 (by omega) (by omega) (by omega) e4
      have hsw := mv_swap t a b i k a1 b1 (by omega)
      have c45 := fn45 ((t.mv a i).mv b (i + k + a)) ((t.mv b (i + k)).mv a i)
      rw [hsw, eqb_self] at c45
      simp [m3, m4, hsw]
      refine ECall.fn c45 (by simp [tm]) (by simp) rfl fun _ => ?_
      simp [bb]
      refine GCall.fn (fun _ => fn50) (by simp) (by simp) rfl fun _ => ?_
      simp [bb, r8]
end Go.Abs

namespace Go.Abs
open Go.Proofs

def lwO (n : Int) (tn : Nat) : Objs := [(54003, tn, .box 3 [.v (.int .i64 n)])]
theorem lwO_get {n : Int} {tn k t : Nat} {q : Obj} (h : (lwO n tn).lookup k = some (t, q)) : k = 54003 ∧ t = tn ∧ q = .box 3 [.v (.int .i64 n)] := by
  simp only [lwO, List.lookup_cons, List.lookup_nil] at h
  split at h
  · rename_i hk; cases h; exact ⟨by simpa using hk, rfl, rfl⟩
  · cases h
theorem lwO_kin (n n' : Int) (tn : Nat) : Kin (lwO n tn) (lwO n' tn) where
  there k t q h := by obtain ⟨rfl, rfl, rfl⟩ := lwO_get h; exact ⟨_, rfl⟩
  back k t q h := by obtain ⟨rfl, rfl, rfl⟩ := lwO_get h; exact ⟨_, rfl⟩
  data k t q h := by obtain ⟨rfl, rfl, rfl⟩ := lwO_get h; rfl

def lwV (m v d : Int) : T := .mk 1 (if IntKind.wrap .i64 (m + d) < v then IntKind.wrap .i64 (v - 1) else v) []

theorem sp103 (m v d : Int) (tn : Nat) : Spec Try.prog 103 [ib v, ib d, .c (.ref 54003 tn 0)] (lwO m tn) (tm (lwV m v d)) (lwO m tn) := by
  refine spec_of (base := 103000) ok103 rfl fun T hT hr => ?_
  have t1 := hT 54003 tn _ rfl
  clear hT hr
  generalize hσ : (⟨slotsOf [ib v, ib d, .c (.ref 54003 tn 0)], obsOf (lwO m tn), T⟩ : St) = σ
  have s0 : σ.sl 0 = .c (.v (.int .i64 v)) := by rw [← hσ]; rfl
  have s1 : σ.sl 1 = .c (.v (.int .i64 d)) := by rw [← hσ]; rfl
  have s2 : σ.sl 2 = .c (.ref 54003 tn 0) := by rw [← hσ]; rfl
  have o1 : σ.ob 54003 = some (.box 3 [.v (.int .i64 m)]) := by rw [← hσ]; rfl
  have g1 : σ.tg 54003 = tn := by rw [← hσ]; exact t1
  clear hσ
  have fin : ∀ σ' : St, σ'.ob 54003 = some (.box 3 [.v (.int .i64 m)]) → σ'.tg 54003 = tn →
      (∀ r, r ∈ r103 → rrGok σ' r) → resOf σ' r103 = some (tm (lwV m v d)) → EndOK (lwO m tn) r103 (tm (lwV m v d)) (lwO m tn) σ' := fun σ' a1 b1 hg hres => by
    refine ⟨hg, hres, fun k t q h => ?_⟩
    obtain ⟨rfl, rfl, rfl⟩ := lwO_get h
    exact ⟨a1, b1, _, rfl⟩
  unfold c103
  by_cases h1 : IntKind.wrap .i64 (m + d) < v
  · simp [s0, s1, s2, o1, g1, h1]
    refine ECall.fn (fn76 (IntKind.wrap .i64 (v - 1))) (by simp [ib]) (by simp) (by simp [tm]) fun _ => ?_
    simp [tm]
    refine fin _ (by simp [o1]) (by simp [g1]) (by simp [r103]) (by simp [r103, tm, lwV, h1])
  · simp [s0, s1, s2, o1, g1, h1]
    refine ECall.fn (fn76 v) (by simp [ib]) (by simp) (by simp [tm]) fun _ => ?_
    simp [tm]
    refine fin _ (by simp [o1]) (by simp [g1]) (by simp [r103]) (by simp [r103, tm, lwV, h1])

def T.lowM (t : T) (m : Int) : T := (t.mapS (S := Unit) (fun _ v d => lwV m v d) (fun _ _ _ => ()) () 0).1
def T.lower (t : T) (m : Int) : T × Bool := if t.check ≠ 0 then (.zero, false) else if mayB m = false then (.zero, false) else if 0 < t.cnt m 0 then (.zero, false) else (t.lowM m, true)

theorem spLow (m : Int) (tn : Nat) (t : T) (d : Int) : Spec Try.prog 98 [tm t, ib d, .c (.clo 103 [] [(54003, tn)])] (lwO m tn) (tm (t.mapS (S := Unit) (fun _ v d => lwV m v d) (fun _ _ _ => ()) () d).1) (lwO m tn) :=
  sp98 (O := fun _ : Unit => lwO m tn) (fun _ n d => sp103 m n d tn) (fun _ _ => lwO_kin m m tn) (fun _ k h1 h2 => by
    cases h : (lwO m tn).lookup k with
    | none => rfl
    | some x =>
      obtain ⟨t, q⟩ := x
      obtain ⟨rfl, _⟩ := lwO_get h
      omega) t () d

theorem fn54 (t : T) (m : Int) : Fn Try.prog 54 [tm t, ib m] (.tup [tm (t.lower m).1, bb (t.lower m).2]) := by
  refine fn_of (base := 54000) ok54 rfl fun σ h0 hr => ?_
  have s0 := h0 0
  have s1 := h0 1
  rw [slots0] at s0
  rw [slots1] at s1
  simp only [tm, ib] at s0 s1
  clear h0 hr
  unfold c54
  simp [s0, s1]
  refine ECall.fn (fn22 t) (by simp [tm]) (by simp) rfl fun _ => ?_
  simp [ib]
  refine GCall.fn (fun _ => fn97 m) (by simp [ib]) (by simp) rfl fun _ => ?_
  simp [bb]
  refine GCall.fn (fun _ => fn52 t m) (by simp [ib, tm]) (by simp) rfl fun _ => ?_
  simp [ib, r54]
  have hif : (if 0 ≤ m ∧ m ≤ 65535 then t.cnt m 0 else 0) = if mayB m = true then t.cnt m 0 else 0 := by simp [mayB]
  rw [hif]
  have hmb : mayB m = (decide (0 ≤ m) && decide (m ≤ 65535)) := rfl
  refine ⟨fun he => ?_, fun e1 => ?_⟩
  · have hl : t.lower m = (.zero, false) := by
      by_cases h1 : t.check = 0
      · by_cases h2 : mayB m = true
        · have h3 : 0 < t.cnt m 0 := by
            simp only [h2, if_true] at he
            simp [mayB] at h2
            omega
          simp [T.lower, h1, h2, h3]
        · simp [T.lower, h1, h2]
      · simp [T.lower, h1]
    simp [hl, tm, bb, cells_mk, T.zero]
  · intro h0 h1 h2
    have hm : mayB m = true := by simp [mayB, h0, h1]
    simp only [hm, if_true] at h2
    have h3 : ¬ 0 < t.cnt m 0 := by omega
    refine ECall.obj (rs := []) (args := [tm t, ib 0, .c (.clo 103 [] [(54003, σ.tg 54003 + 1)])])
      (by simpa [refs] using spLow m (σ.tg 54003 + 1) t 0) (by simp [tm, ib]) (by simp) (by simp [tm]) ?_ (lwO_kin _ _ _) fun _ => ?_
    · intro k t' q h
      obtain ⟨rfl, rfl, rfl⟩ := lwO_get h
      simp
    · have n4 : ∀ (τ : St), (τ.puts (lwO m (σ.tg 54003 + 1))).ob 54004 = τ.ob 54004 := fun τ => puts_none rfl
      simp [tm, n4, T.lower, e1, hm, h3, T.lowM]

/-! ### plainly -/
mutual
def T.occ : T → Int → Nat
  | .mk k n ts, v => (if k = 1 ∧ n = v then 1 else 0) + T.occL k v 0 ts
def T.occL (k v : Int) : Int → List T → Nat
  | _, [] => 0
  | i, t :: ts => T.occ t (v + bindsOf k i) + T.occL k v (i + 1) ts
end
theorem occ_le (t : T) : ∀ v, t.occ v ≤ t.count := by
  induction t using T.ind with
  | h k n ts ih =>
  intro v
  have key : ∀ (ts : List T) (i : Int), (∀ t, t ∈ ts → ∀ v, t.occ v ≤ t.count) → T.occL k v i ts ≤ T.countL ts := by
    intro ts
    induction ts with
    | nil => intro i _; simp [T.occL, T.countL]
    | cons t ts ih2 =>
      intro i h
      have h1 := h t (by simp) (v + bindsOf k i)
      have h2 := ih2 (i + 1) fun u hu => h u (by simp [hu])
      simp only [T.occL, T.countL]; omega
  have := key ts 0 ih
  simp only [T.occ, T.count]
  split <;> omega
theorem cnt_occ (t : T) : ∀ b d : Int, 0 ≤ b → 0 ≤ d → b + d + t.count ≤ 4611686018427387 → t.cnt b d = (t.occ (b + d) : Nat) := by
  induction t using T.ind with
  | h k n ts ih =>
  intro b d hb hd hc
  simp only [T.count] at hc
  have w : IntKind.wrap .i64 (b + d) = b + d := wrap_id (by omega) (by omega)
  have key : ∀ (ts : List T) (i a : Int), (∀ t, t ∈ ts → ∀ b d : Int, 0 ≤ b → 0 ≤ d → b + d + t.count ≤ 4611686018427387 → t.cnt b d = (t.occ (b + d) : Nat)) → 0 ≤ a → a + T.countL ts ≤ 4611686018427388 → b + d + 1 + T.countL ts ≤ 4611686018427387 →
      T.cntL k b d i a ts = a + (T.occL k (b + d) i ts : Nat) := by
    intro ts
    induction ts with
    | nil => intro i a _ _ _ _; simp [T.cntL, T.occL]
    | cons t ts ih2 =>
      intro i a h ha hc2 hc
      simp only [T.countL] at hc hc2
      have hbd := binds01 k i
      have h1 := h t (by simp) b (d + bindsOf k i) hb (by omega) (by omega)
      have h2 := occ_le t (b + (d + bindsOf k i))
      have w1 : IntKind.wrap .i64 (a + (t.occ (b + (d + bindsOf k i)) : Nat)) = a + (t.occ (b + (d + bindsOf k i)) : Nat) := wrap_id (by omega) (by omega)
      simp only [T.cntL, wrap_dp (k := k) (i := i) hd (by omega), h1, w1]
      rw [ih2 (i + 1) _ (fun u hu => h u (by simp [hu])) (by omega) (by omega) (by omega)]
      have e : b + (d + bindsOf k i) = b + d + bindsOf k i := by omega
      rw [e]
      simp only [T.occL]; omega
  simp only [T.cnt, T.occ, w]
  by_cases h : k = 1 ∧ n = b + d
  · rw [if_pos h, if_pos h, key ts 0 1 ih (by omega) (by omega) (by omega)]; omega
  · rw [if_neg h, if_neg h, key ts 0 0 ih (by omega) (by omega) (by omega)]; omega
theorem occ_gap (t : T) : ∀ y c v : Int, c ≤ v → v < c + y → (t.mv y c).occ v = 0 := by
  induction t using T.ind with
  | h k n ts ih =>
  intro y c v h1 h2
  by_cases hk : k = 1
  · subst hk
    simp only [T.mv, if_true, T.occ, T.occL]
    split <;> simp <;> omega
  · have key : ∀ (ts : List T) (i : Int), (∀ t, t ∈ ts → ∀ y c v : Int, c ≤ v → v < c + y → (t.mv y c).occ v = 0) → T.occL k v i (T.mvL k y c i ts) = 0 := by
      intro ts
      induction ts with
      | nil => intro i _; simp [T.mvL, T.occL]
      | cons t ts ih2 =>
        intro i h
        simp only [T.mvL, T.occL]
        rw [h t (by simp) y _ _ (by omega) (by omega), ih2 (i + 1) fun u hu => h u (by simp [hu])]
    simp only [T.mv, hk, if_false, T.occ]
    rw [key ts 0 ih]
    simp
mutual
def T.lw : T → Int → T
  | .mk k n ts, c => if k = 1 then .mk 1 (if c < n then n - 1 else n) [] else .mk k n (T.lwL k c 0 ts)
def T.lwL (k c : Int) : Int → List T → List T
  | _, [] => []
  | i, t :: ts => T.lw t (c + bindsOf k i) :: T.lwL k c (i + 1) ts
end
theorem mapS_lw (m : Int) (hm : 0 ≤ m) (hm2 : m ≤ 65535) (t : T) : t.formed = true → ∀ d : Int, 0 ≤ d → d + t.count ≤ 4611686018427387 →
    (t.mapS (S := Unit) (fun _ v d => lwV m v d) (fun _ _ _ => ()) () d).1 = t.lw (m + d) := by
  induction t using T.ind with
  | h k n ts ih =>
  intro hf d h0 h1
  rw [T.formed, Bool.and_eq_true, formedL_all, List.all_eq_true] at hf
  by_cases hk : k = 1
  · subst hk
    have hh := hf.1
    simp [badHead, kidsOf] at hh
    have hn : 0 ≤ n ∧ n ≤ 65535 := by omega
    have w1 : IntKind.wrap .i64 (m + d) = m + d := wrap_id (by omega) (by omega)
    have w2 : IntKind.wrap .i64 (n - 1) = n - 1 := wrap_id (by omega) (by omega)
    simp only [T.mapS, if_true, lwV, w1, w2, T.lw]
  · have key : ∀ (ts : List T) (i : Int), (∀ t, t ∈ ts → ∀ d : Int, 0 ≤ d → d + t.count ≤ 4611686018427387 → (t.mapS (S := Unit) (fun _ v d => lwV m v d) (fun _ _ _ => ()) () d).1 = t.lw (m + d)) →
        d + 1 + T.countL ts ≤ 4611686018427387 → (T.mapSL (S := Unit) (fun _ v d => lwV m v d) (fun _ _ _ => ()) k d i ts ()).1 = T.lwL k (m + d) i ts := by
      intro ts
      induction ts with
      | nil => intro i _ _; simp [T.mapSL, T.lwL]
      | cons t ts ih2 =>
        intro i h hc
        simp only [T.countL] at hc
        have hbd := binds01 k i
        have ht := h t (by simp) (d + bindsOf k i) (by omega) (by omega)
        simp only [T.mapSL, wrap_dp (k := k) (i := i) h0 (by omega), ht, T.lwL]
        rw [ih2 (i + 1) (fun u hu => h u (by simp [hu])) (by omega)]
        have e : m + (d + bindsOf k i) = m + d + bindsOf k i := by omega
        rw [e]
    simp only [T.count] at h1
    simp only [T.mapS, hk, if_false, T.lw]
    rw [key ts 0 (fun t ht => ih t ht (hf.2 t ht)) (by omega)]
theorem lw_mv (t : T) : t.formed = true → ∀ c : Int, (t.mv 1 c).lw c = t := by
  induction t using T.ind with
  | h k n ts ih =>
  intro hf c
  rw [T.formed, Bool.and_eq_true, formedL_all, List.all_eq_true] at hf
  by_cases hk : k = 1
  · subst hk
    have hh := hf.1
    simp [badHead, kidsOf] at hh
    have hts : ts = [] := hh.1.1
    subst hts
    simp only [T.mv, T.lw, if_true]
    congr 1
    split <;> split <;> omega
  · have key : ∀ (ts : List T) (i : Int), (∀ t, t ∈ ts → ∀ c : Int, (t.mv 1 c).lw c = t) → T.lwL k c i (T.mvL k 1 c i ts) = ts := by
      intro ts
      induction ts with
      | nil => intro i _; simp [T.mvL, T.lwL]
      | cons t ts ih2 =>
        intro i h
        simp only [T.mvL, T.lwL]
        rw [h t (by simp), ih2 (i + 1) fun u hu => h u (by simp [hu])]
    simp only [T.mv, T.lw, hk, if_false]
    rw [key ts 0 fun t ht => ih t ht (hf.2 t ht)]
theorem lower_mv {t : T} (hc : t.count ≤ 1048576) (h : t.check = 0) {c : Int} (h0 : 0 ≤ c) (h1 : c ≤ 65535) (ho : t.ov 1 c = false) : (t.mv 1 c).lower c = (t, true) := by
  have hf := ((check_iff t).1 h).2.2
  have k1 := mv_check hc h (by omega) ho
  have hc1 := mv_count' h 1 c
  have hf2 := ((check_iff _).1 k1).2.2
  have h2 := cnt_occ (t.mv 1 c) c 0 h0 (by omega) (by omega)
  rw [Int.add_zero, occ_gap t 1 c c (by omega) (by omega)] at h2
  have h3 := mapS_lw c h0 h1 (t.mv 1 c) hf2 0 (by omega) (by omega)
  rw [Int.add_zero, lw_mv t hf] at h3
  simp [T.lower, k1, may_ok h0 h1, h2, T.lowM, h3]
end Go.Abs

namespace Go.Abs
open Go.Proofs

/-! In scope: no variable wraps. -/
mutual
def T.inS : T → Int → Int → Bool
  | .mk k n ts, a, b => if k = 1 then decide (n < a) else if k = 2 then decide (n ≤ 6) else if k = 3 then decide (n < b) else T.inSL k a b 0 ts
def T.inSL (k a b : Int) : Int → List T → Bool
  | _, [] => true
  | i, t :: ts => T.inS t (a + bindsOf k i) b && T.inSL k a b (i + 1) ts
end
theorem within_inS (t : T) : ∀ a b : Int, 0 ≤ a → a + t.count ≤ 4611686018427387 → t.within a b = t.inS a b := by
  induction t using T.ind with
  | h k n ts ih =>
  intro a b ha hc
  simp only [T.count] at hc
  have key : ∀ (ts : List T) (i : Int), (∀ t, t ∈ ts → ∀ a b : Int, 0 ≤ a → a + t.count ≤ 4611686018427387 → t.within a b = t.inS a b) → a + 1 + T.countL ts ≤ 4611686018427387 → T.withinL k a b i ts = T.inSL k a b i ts := by
    intro ts
    induction ts with
    | nil => intro i _ _; simp [T.withinL, T.inSL]
    | cons t ts ih2 =>
      intro i h hc
      simp only [T.countL] at hc
      have hbd := binds01 k i
      simp only [T.withinL, T.inSL, wrap_dp (k := k) (i := i) ha (by omega)]
      rw [ih2 (i + 1) (fun u hu => h u (by simp [hu])) (by omega), h t (by simp) _ b (by omega) (by omega)]
  simp only [T.within, T.inS]
  rw [key ts 0 ih (by omega)]

theorem scope_iff {t : T} (hc : t.count ≤ 1048576) {a b : Int} (ha : a ≤ 60000) : t.scope a b = true ↔ 0 ≤ a ∧ 0 ≤ b ∧ t.check = 0 ∧ t.inS a b = true := by
  simp only [T.scope, Bool.and_eq_true, decide_eq_true_eq]
  have hm : best2 false a 65536 = a := by simp only [best2]; simp; omega
  rw [hm]
  constructor
  · rintro ⟨⟨⟨h1, h2⟩, h3⟩, h4⟩
    rw [within_inS t a b h1 (by omega)] at h4
    exact ⟨h1, h2, h3, h4⟩
  · rintro ⟨h1, h2, h3, h4⟩
    rw [within_inS t a b h1 (by omega)]
    exact ⟨⟨⟨h1, h2⟩, h3⟩, h4⟩

theorem head_leaf {k n : Int} {ts : List T} (h : (!badHead k n ts.length) = true) (hk : k = 1 ∨ k = 2 ∨ k = 3) : ts = [] := by
  have : badHead k n ts.length = false := by simpa using h
  have h2 : ¬ badHead k n ts.length = true := by simp [this]
  rw [bad_iff] at h2
  have h3 : (ts.length : Int) = kidsOf k := by omega
  have h4 : kidsOf k = 0 := by rcases hk with rfl | rfl | rfl <;> rfl
  exact List.length_eq_zero_iff.1 (by omega)

theorem inS_ov (t : T) : t.formed = true → ∀ a b c y : Int, t.inS a b = true → a + t.count + y ≤ 65535 → t.ov y c = false := by
  induction t using T.ind with
  | h k n ts ih =>
  intro hf a b c y h hc
  simp only [T.count] at hc
  rw [T.formed, Bool.and_eq_true, formedL_all, List.all_eq_true] at hf
  by_cases hk : k = 1
  · subst hk
    simp only [T.inS, if_true, decide_eq_true_eq] at h
    simp only [T.ov, if_true, Bool.and_eq_false_iff, decide_eq_false_iff_not]
    omega
  · by_cases hl : k = 1 ∨ k = 2 ∨ k = 3
    · have := head_leaf hf.1 hl
      subst this
      simp [T.ov, hk, T.ovL]
    · have h2 : k ≠ 2 := fun h => hl (.inr (.inl h))
      have h3 : k ≠ 3 := fun h => hl (.inr (.inr h))
      simp only [T.inS, hk, h2, h3, if_false] at h
      have key : ∀ (ts : List T) (i : Int), (∀ t, t ∈ ts → ∀ a b c y : Int, t.inS a b = true → a + t.count + y ≤ 65535 → t.ov y c = false) → a + 1 + T.countL ts + y ≤ 65535 → T.inSL k a b i ts = true → T.ovL k y c i ts = false := by
        intro ts
        induction ts with
        | nil => intro i _ _ _; simp [T.ovL]
        | cons t ts ih2 =>
          intro i h hc hh
          simp only [T.countL] at hc
          have hbd := binds01 k i
          simp only [T.inSL, Bool.and_eq_true] at hh
          simp only [T.ovL, Bool.or_eq_false_iff]
          exact ⟨h t (by simp) _ b _ y hh.1 (by omega), ih2 (i + 1) (fun u hu => h u (by simp [hu])) (by omega) hh.2⟩
      simp only [T.ov, hk, if_false]
      exact key ts 0 (fun t ht => ih t ht (hf.2 t ht)) (by omega) h
theorem inS_mv (t : T) : ∀ a b c y : Int, 0 ≤ y → t.inS a b = true → (t.mv y c).inS (a + y) b = true := by
  induction t using T.ind with
  | h k n ts ih =>
  intro a b c y hy h
  by_cases hk : k = 1
  · subst hk
    simp only [T.inS, if_true, decide_eq_true_eq] at h
    simp only [T.mv, T.inS, if_true, decide_eq_true_eq]
    split <;> omega
  · simp only [T.mv, hk, if_false]
    simp only [T.inS, hk, if_false] at h ⊢
    by_cases h2 : k = 2
    · simpa [h2] using h
    · by_cases h3 : k = 3
      · simpa [h2, h3] using h
      · simp only [h2, h3, if_false] at h ⊢
        have key : ∀ (ts : List T) (i : Int), (∀ t, t ∈ ts → ∀ a b c y : Int, 0 ≤ y → t.inS a b = true → (t.mv y c).inS (a + y) b = true) → T.inSL k a b i ts = true → T.inSL k (a + y) b i (T.mvL k y c i ts) = true := by
          intro ts
          induction ts with
          | nil => intro i _ _; simp [T.mvL, T.inSL]
          | cons t ts ih2 =>
            intro i h hh
            simp only [T.inSL, Bool.and_eq_true] at hh
            simp only [T.mvL, T.inSL, Bool.and_eq_true]
            have h1 := h t (by simp) (a + bindsOf k i) b (c + bindsOf k i) y hy hh.1
            have e : a + bindsOf k i + y = a + y + bindsOf k i := by omega
            rw [e] at h1
            exact ⟨h1, ih2 (i + 1) (fun u hu => h u (by simp [hu])) hh.2⟩
        exact key ts 0 ih h
theorem inS_same (t : T) : t.formed = true → ∀ a b c y : Int, a ≤ c → t.inS a b = true → t.mv y c = t := by
  induction t using T.ind with
  | h k n ts ih =>
  intro hf a b c y hac h
  rw [T.formed, Bool.and_eq_true, formedL_all, List.all_eq_true] at hf
  by_cases hk : k = 1
  · subst hk
    have := head_leaf hf.1 (.inl rfl)
    subst this
    simp only [T.inS, if_true, decide_eq_true_eq] at h
    have : n < c := by omega
    simp [T.mv, this]
  · by_cases hl : k = 1 ∨ k = 2 ∨ k = 3
    · have := head_leaf hf.1 hl
      subst this
      simp [T.mv, hk, T.mvL]
    · have h2 : k ≠ 2 := fun h => hl (.inr (.inl h))
      have h3 : k ≠ 3 := fun h => hl (.inr (.inr h))
      simp only [T.inS, hk, h2, h3, if_false] at h
      have key : ∀ (ts : List T) (i : Int), (∀ t, t ∈ ts → ∀ a b c y : Int, a ≤ c → t.inS a b = true → t.mv y c = t) → T.inSL k a b i ts = true → T.mvL k y c i ts = ts := by
        intro ts
        induction ts with
        | nil => intro i _ _; simp [T.mvL]
        | cons t ts ih2 =>
          intro i h hh
          simp only [T.inSL, Bool.and_eq_true] at hh
          simp only [T.mvL]
          rw [h t (by simp) _ b _ y (by omega) hh.1, ih2 (i + 1) (fun u hu => h u (by simp [hu])) hh.2]
      simp only [T.mv, hk, if_false]
      rw [key ts 0 (fun t ht => ih t ht (hf.2 t ht)) h]

theorem fn12 (t : T) (v b fr : Int) (hc : t.count ≤ 1048576) : Fn Try.prog 12 [tm t, ib v, ib b, ib fr] (bb true) := by
  refine fn_of (base := 12000) ok12 rfl fun σ h0 hr => ?_
  have s0 := h0 0
  have s1 : σ.sl 1 = ib v := h0 1
  have s2 : σ.sl 2 = ib b := h0 2
  have s3 : σ.sl 3 = ib fr := h0 3
  rw [slots0] at s0
  simp only [tm, ib] at s0 s1 s2 s3
  clear h0 hr
  obtain ⟨v1, v2, v3⟩ := umod v (m := 30) (by omega) (by omega)
  obtain ⟨b1, b2, b3⟩ := umod b (m := 30) (by omega) (by omega)
  obtain ⟨i1, i2, i3⟩ := umod fr (m := 30) (by omega) (by omega)
  unfold c12
  simp [s0, room]
  refine ⟨fun x hx => cells_isD' _ x hx, ?_⟩
  refine ECall.fn (fn17 [t]) (by simp [tms]) (by simp) rfl fun _ => ?_
  simp [bb]
  refine ⟨fun hh => by simp [r12, hh], fun hh => ?_⟩
  simp [hh, s1, s2, s3, v3, b3, i3]
  generalize (uw v).tmod 30 = v at v1 v2 v3
  generalize (uw b).tmod 30 = b at b1 b2 b3
  generalize (uw fr).tmod 30 = i at i1 i2 i3
  have w1 : IntKind.wrap .i64 (v + b) = v + b := wrap_id (by omega) (by omega)
  clear s1 s2 s3
  refine ECall.fn (fn30 t v 65536) (by simp [tm, ib]) (by simp) (by simp [bb]) fun _ => ?_
  simp [bb]
  refine ⟨fun he => ?_, fun he => ?_⟩
  · simp [he]
    refine ECall.fn fn50 (by simp) (by simp) rfl fun _ => ?_
    simp [bb, r12]
  · obtain ⟨_, _, c1, hin⟩ := (scope_iff hc (by omega)).1 he
    have hf := ((check_iff t).1 c1).2.2
    have h6 := count_6000 hc c1
    have ho := inS_ov t hf v 65536 i b hin (by omega)
    have hs := shift_run hc b1 (by omega) i1 (by omega) c1 ho
    have hc1 := mv_count' c1 b i
    have k1 := mv_check hc c1 b1 ho
    have hin2 := inS_mv t v 65536 i b b1 hin
    have hsc : (t.mv b i).scope (v + b) 65536 = true := (scope_iff (by omega) (by omega)).2 ⟨by omega, by omega, k1, hin2⟩
    have c49 := fn49 t b i
    rw [hs] at c49
    have c30 := fn30 (t.mv b i) (v + b) 65536
    rw [hsc] at c30
    have c45 := fn45 (t.mv b i) t
    simp [he]
    refine ECall.fn c49 (by simp [tm, ib]) (by simp) (by simp [tm, ib, AV.keys2]) fun _ => ?_
    simp [tm, ib, w1]
    refine GCall.fn (fun _ => c30) (by simp [tm, ib]) (by simp) rfl fun _ => ?_
    simp [bb]
    refine GCall.fn (fun _ => c45) (by simp [tm, ib]) (by simp) rfl fun _ => ?_
    have hor : (decide (i < v) || T.eqb (t.mv b i) t) = true := by
      by_cases hlt : i < v
      · simp [hlt]
      · rw [inS_same t hf v 65536 i b (by omega) hin, eqb_self]; simp
    simp [bb, hor]
    refine GCall.fn (fun _ => fn50) (by simp) (by simp) rfl fun _ => ?_
    simp [bb, r12]
end Go.Abs

namespace Go.Abs
open Go.Proofs

theorem fn51 (k i : Int) : Fn Try.prog 51 [ib k, ib i] (ib (bindsOf k i)) := by
  refine fn_of (base := 51000) ok51 rfl fun σ h0 hr => ?_
  have s0 := h0 0
  have s1 := h0 1
  rw [slots0] at s0
  rw [slots1] at s1
  simp only [ib] at s0 s1
  clear h0 hr
  unfold c51
  simp [s0, s1, r51, ib]
  refine ⟨fun h1 h2 => ?_, fun h => ?_⟩
  · simp only [bindsOf]; rw [if_pos (by omega)]
  · simp only [bindsOf]; rw [if_neg (by omega)]

theorem kid_right {k n : Int} {ts : List T} (hc : (T.mk k n ts).count ≤ 1048576) (h : (T.mk k n ts).check = 0) {t : T} (ht : t ∈ ts) : t.check = 0 ∧ t.count ≤ 1048576 := by
  have h1 := (check_iff _).1 h
  have h2 := size_count (T.mk k n ts) (by omega)
  have h3 := count_mem ht
  have h6 := hc
  simp only [T.count] at h2 h6
  have h4 := size_count t (by omega)
  have h5 := depth_kid (k := k) (n := n) ht (by simp only [T.count]; omega)
  have hf := h1.2.2
  rw [T.formed, Bool.and_eq_true, formedL_all, List.all_eq_true] at hf
  exact ⟨(check_iff t).2 ⟨by omega, by omega, hf.2 t ht⟩, by omega⟩

theorem mvL_get (k b c : Int) : ∀ (ts : List T) (i : Int) (j : Nat) (t : T), ts[j]? = some t → (T.mvL k b c i ts)[j]? = some (t.mv b (c + bindsOf k (i + j)))
  | u :: ts, i, 0, t, h => by simp at h; subst h; simp [T.mvL]
  | u :: ts, i, j + 1, t, h => by
    have h1 := mvL_get k b c ts (i + 1) j t (by simpa using h)
    have e : i + ((j + 1 : Nat) : Int) = i + 1 + (j : Int) := by omega
    rw [e]
    simpa [T.mvL] using h1
  | [], i, j, t, h => by simp at h
theorem ovL_get {k b c : Int} : ∀ {ts : List T} {i : Int}, T.ovL k b c i ts = false → ∀ {j : Nat} {t : T}, ts[j]? = some t → t.ov b (c + bindsOf k (i + j)) = false
  | u :: ts, i, h0, 0, t, h => by simp only [T.ovL, Bool.or_eq_false_iff] at h0; simp at h; subst h; simpa using h0.1
  | u :: ts, i, h0, j + 1, t, h => by
    simp only [T.ovL, Bool.or_eq_false_iff] at h0
    have h1 := ovL_get h0.2 (j := j) (t := t) (by simpa using h)
    have e : i + ((j + 1 : Nat) : Int) = i + 1 + (j : Int) := by omega
    rw [e]
    exact h1
  | [], i, h0, j, t, h => by simp at h

theorem fn9 (t : T) (b fr : Int) (hc : t.count ≤ 1048576) : Fn Try.prog 9 [tm t, ib b, ib fr] (bb true) := by
  obtain ⟨k, n, ts⟩ := t
  refine fn_of (base := 9000) ok9 rfl fun σ h0 hr => ?_
  have s0 := h0 0
  have s1 : σ.sl 1 = ib b := h0 1
  have s2 : σ.sl 2 = ib fr := h0 2
  rw [slots0] at s0
  simp only [tm, ib, cells_mk] at s0 s1 s2
  have hlen := real_kids (hr (tm (.mk k n ts)) (by simp))
  rw [kids_mk] at hlen
  clear h0 hr
  obtain ⟨b1, b2, b3⟩ := umod b (m := 1000) (by omega) (by omega)
  obtain ⟨i1, i2, i3⟩ := umod fr (m := 50) (by omega) (by omega)
  unfold c9
  simp [s0, room]
  refine ECall.fn (fn17 [.mk k n ts]) (by simp [tms, cells_mk]) (by simp) rfl fun _ => ?_
  simp [bb]
  refine GCall.fn (fun _ => fn27 (.mk k n ts)) (by simp [tm, cells_mk]) (by simp) rfl fun _ => ?_
  simp [ib, r9]
  intro hh hck hne
  simp [s1, s2, b3, i3]
  generalize (uw b).tmod 1000 = b at b1 b2 b3
  generalize (uw fr).tmod 50 = c at i1 i2 i3
  clear s1 s2
  refine ECall.fn (fn49 (.mk k n ts) b c) (by simp [tm, ib, cells_mk]) (by simp) (by simp [tm, ib, AV.keys2]) fun _ => ?_
  simp [tm, ib]
  refine ⟨fun he => ?_, fun he => ?_⟩
  · refine GCall.fn (fun _ => fn50) (by simp) (by simp) rfl fun _ => ?_
    have h6 : ((T.mk k n ts).shift b c).2 = 6 := by
      have := shift_bad hc (b := b) (fr := c) b1 (by omega) i1 (by omega) hck
      omega
    simp [bb, h6]
  · obtain ⟨_, o1, m1⟩ := shift_ok hc b1 (by omega) i1 (by omega) he
    have hf := ((check_iff _).1 hck).2.2
    rw [T.formed, Bool.and_eq_true] at hf
    have hk1 : k ≠ 1 := fun h => by
      have := head_leaf hf.1 (.inl h)
      exact hne this
    have hmv : (T.mk k n ts).mv b c = .mk k n (T.mvL k b c 0 ts) := by simp [T.mv, hk1]
    rw [T.ov, if_neg hk1] at o1
    rw [hmv] at m1
    simp [m1, cells_mk, mvL_len]
    refine W_loop (fun m σ => ∃ i : Nat, i + m = ts.length ∧ σ.sl 1 = .c (.v (.int .i64 b)) ∧ σ.sl 2 = .c (.v (.int .i64 c)) ∧ σ.sl 3 = .c (.ref 9003 (σ.tg 9003) 0) ∧ σ.ob 9003 = some (.box 24 (T.mk k n ts).cells) ∧
      σ.sl 7 = .c (.ref 9007 (σ.tg 9007) 0) ∧ σ.ob 9007 = some (.box 24 (T.mk k n (T.mvL k b c 0 ts)).cells) ∧ σ.sl 9 = .c (.v (.int .i64 i))) ts.length ?_ ?_
    · exact ⟨0, by simp [cells_mk]⟩
    · rintro m σ ⟨i, hm, q1, q2, q3, o3, q7, o7, q9⟩
      unfold c9b0
      simp only [cells_mk] at o3 o7
      by_cases hi : i < ts.length
      · obtain ⟨t, ht⟩ := at_of hi
        obtain ⟨_, ht'⟩ := getE ht
        have w1 := wrap_succ (i := i) (by omega)
        have hbd := binds01 k i
        have w2 : IntKind.wrap .i64 (c + bindsOf k i) = c + bindsOf k i := wrap_id (by omega) (by omega)
        obtain ⟨kc, kn⟩ := kid_right hc hck (List.mem_of_getElem? ht)
        have ho := ovL_get o1 ht
        rw [Int.zero_add] at ho
        have hs := shift_run kn (b := b) (fr := c + bindsOf k i) b1 (by omega) (by omega) (by omega) kc ho
        have hg := mvL_get k b c ts 0 i t ht
        rw [Int.zero_add] at hg
        obtain ⟨hgl, hg'⟩ := getE hg
        have c49 := fn49 t b (c + bindsOf k i)
        rw [hs] at c49
        have c45 := fn45 (t.mv b (c + bindsOf k i)) (t.mv b (c + bindsOf k i))
        rw [eqb_self] at c45
        simp [q1, q2, q3, o3, q7, o7, q9, hi, ht']
        refine W_dregD w9_0 f9_0 (by decide) ?_
        unfold w9_0 f9_0
        simp [q1, q2, q3, o3, q7, o7, q9, hi, ht']
        refine CallD.fn (fn51 k i) (by simp [ib]) (by simp) rfl (by simp) ?_
        simp [ib, w2]
        refine CallD.fn c49 (by simp [tm, ib]) (by simp) (by simp [tm, ib, AV.keys2]) (by simp) ?_
        simp [tm, ib, AV.keys2]
        refine realC_n ?_
        simp
        refine W_dregA ?_
        have hil : (i : Int) < (T.mvL k b c 0 ts).length := by omega
        simp [q3, o3, q7, o7, q9, hi, hil, hgl, hg']
        refine GCallA.fn (fun _ => c45) (by simp [tm]) (by simp) rfl ?_
        simp [bb]
        refine realC_n ?_
        simp [q9]
        refine ⟨m - 1, by omega, i + 1, by omega, ?_⟩
        simp [q1, q2, q3, o3, q7, o7, cells_mk, w1]
      · simp [q1, q2, q3, o3, q7, o7, q9, hi]
        refine W_loop (fun m σ => ∃ (i : Nat) (a : Int), i + m = ts.length ∧ T.cntL k c 0 i a (ts.drop i) = T.cntL k c 0 0 0 ts ∧ σ.sl 2 = .c (.v (.int .i64 c)) ∧ σ.sl 3 = .c (.ref 9003 (σ.tg 9003) 0) ∧ σ.ob 9003 = some (.box 24 (T.mk k n ts).cells) ∧
          σ.sl 12 = .c (.v (.int .i64 a)) ∧ σ.sl 13 = .c (.v (.int .i64 i))) ts.length ?_ ?_
        · exact ⟨0, 0, by simp [cells_mk, q2, q3, o3]⟩
        · clear q1 q2 q3 o3 q7 o7 q9
          rintro m σ ⟨i, a, hm, hp, q2, q3, o3, q12, q13⟩
          unfold c9b1
          simp only [cells_mk] at o3
          by_cases hi : i < ts.length
          · obtain ⟨t, ht⟩ := at_of hi
            obtain ⟨_, ht'⟩ := getE ht
            have w1 := wrap_succ (i := i) (by omega)
            have hbd := binds01 k i
            have w2 : IntKind.wrap .i64 (c + bindsOf k i) = c + bindsOf k i := wrap_id (by omega) (by omega)
            have w3 : IntKind.wrap .i64 (0 + bindsOf k i) = bindsOf k i := by rw [Int.zero_add]; exact wrap_id (by omega) (by omega)
            obtain ⟨kc, kn⟩ := kid_right hc hck (List.mem_of_getElem? ht)
            have hcnt : (if 0 ≤ c + bindsOf k i ∧ c + bindsOf k i ≤ 65535 then t.cnt (c + bindsOf k i) 0 else 0) = t.cnt c (bindsOf k i) := by
              rw [if_pos (by omega), cnt_occ t _ 0 (by omega) (by omega) (by omega), cnt_occ t c _ (by omega) (by omega) (by omega), Int.add_zero]
            have c52 := fn52 t (c + bindsOf k i)
            rw [hcnt] at c52
            rw [drop_at ht, T.cntL] at hp
            rw [w3] at hp
            simp [q2, q3, o3, q12, q13, hi, ht']
            refine W_dregA ?_
            simp [q2, q3, o3, q12, q13, hi, ht']
            refine CallA.fn (fn51 k i) (by simp [ib]) (by simp) rfl ?_
            simp [ib, w2]
            refine CallA.fn c52 (by simp [tm, ib]) (by simp) rfl ?_
            simp [ib]
            refine realC_n ?_
            simp [q13]
            refine ⟨m - 1, by omega, i + 1, by omega, _, hp, ?_⟩
            simp [q2, q3, o3, cells_mk, w1]
          · rw [List.drop_eq_nil_of_le (by omega), T.cntL] at hp
            have c52 := fn52 (.mk k n ts) c
            have hcnt : (if 0 ≤ c ∧ c ≤ 65535 then (T.mk k n ts).cnt c 0 else 0) = a := by
              rw [if_pos (by omega), hp, T.cnt, if_neg (by omega)]
            rw [hcnt] at c52
            simp [q2, q3, o3, q12, q13, hi]
            refine ECall.fn c52 (by simp [tm, ib, cells_mk]) (by simp) rfl fun _ => ?_
            simp [ib]
            refine GCall.fn (fun _ => fn50) (by simp) (by simp) rfl fun _ => ?_
            simp [bb]
end Go.Abs

namespace Go.Abs
open Go.Proofs

theorem fn11 (t : T) (a b fr : Int) (hc : t.count ≤ 1048576) : Fn Try.prog 11 [tm t, ib a, ib b, ib fr] (bb true) := by
  refine fn_of (base := 11000) ok11 rfl fun σ h0 hr => ?_
  have s0 := h0 0
  have s1 : σ.sl 1 = ib a := h0 1
  have s2 : σ.sl 2 = ib b := h0 2
  have s3 : σ.sl 3 = ib fr := h0 3
  rw [slots0] at s0
  simp only [tm, ib] at s0 s1 s2 s3
  clear h0 hr
  obtain ⟨a1, a2, a3⟩ := umod a (m := 200) (by omega) (by omega)
  obtain ⟨b1, b2, b3⟩ := umod b (m := 200) (by omega) (by omega)
  obtain ⟨i1, i2, i3⟩ := umod fr (m := 20) (by omega) (by omega)
  unfold c11
  simp [s0, room]
  refine ⟨fun x hx => cells_isD' _ x hx, ?_⟩
  refine ECall.fn (fn17 [t]) (by simp [tms]) (by simp) rfl fun _ => ?_
  simp [bb]
  refine ⟨fun hh => by simp [r11, hh], fun hh => ?_⟩
  simp [hh, s1, s2, s3, a3, b3, i3]
  generalize (uw a).tmod 200 = a at a1 a2 a3
  generalize (uw b).tmod 200 = b' at b1 b2 b3
  generalize (uw fr).tmod 20 = i at i1 i2 i3
  have w0 : IntKind.wrap .i64 (1 + b') = 1 + b' := wrap_id (by omega) (by omega)
  rw [w0]
  generalize hbb : 1 + b' = b
  have w1 : IntKind.wrap .i64 (a + b) = a + b := wrap_id (by omega) (by omega)
  clear s1 s2 s3
  refine ECall.fn (fn49 t a i) (by simp [tm, ib]) (by simp) (by simp [tm, ib, AV.keys2]) fun _ => ?_
  simp [tm, ib, w1]
  refine ECall.fn (fn49 t (a + b) i) (by simp [tm, ib]) (by simp) (by simp [tm, ib, AV.keys2]) fun _ => ?_
  simp [tm, ib]
  refine ⟨fun he => ?_, fun e1 e2 => ?_⟩
  · refine GCall.fn (fun _ => fn22 t) (by simp [tm, ib]) (by simp) rfl fun _ => ?_
    simp [ib]
    refine GCall.fn (fun _ => fn50) (by simp) (by simp) rfl fun _ => ?_
    have hor : (decide ((t.shift a i).2 = 6) || decide ((t.shift (a + b) i).2 = 6) || decide ((t.shift a i).2 = (t.shift (a + b) i).2) && decide (t.check = (t.shift a i).2)) = true := by
      by_cases h1 : t.check = 0
      · have q1 := shift_bad hc (b := a) (fr := i) a1 (by omega) i1 (by omega) h1
        have q2 := shift_bad hc (b := a + b) (fr := i) (by omega) (by omega) i1 (by omega) h1
        have : (t.shift a i).2 = 6 ∨ (t.shift (a + b) i).2 = 6 := by omega
        rcases this with h | h <;> simp [h]
      · rw [shift_eq hc (b := a) (fr := i) a1 (by omega) i1 (by omega), shift_eq hc (b := a + b) (fr := i) (by omega) (by omega) i1 (by omega)]
        simp [h1]
    simp [bb, r11, hor]
  · obtain ⟨c1, o1, m1⟩ := shift_ok hc a1 (by omega) i1 (by omega) e1
    obtain ⟨c2, o2, m2⟩ := shift_ok hc (b := a + b) (by omega) (by omega) i1 (by omega) e2
    have hf := ((check_iff t).1 c1).2.2
    have hc1 := mv_count' c1 a i
    have k1 := mv_check hc c1 a1 o1
    have o3 := (ov_mv t a b i a1 (by omega) o2).2
    have q1 := shift_run (t := t.mv a i) (by omega) (b := b) (fr := i) (by omega) (by omega) i1 (by omega) k1 o3
    rw [mv_mv t a b i a1 (by omega)] at q1
    have o4 := mv_zero t hf i
    have q2 := shift_run hc (b := 0) (fr := i) (by omega) (by omega) i1 (by omega) c1 o4.2
    rw [o4.1] at q2
    have o5 := ov_mono t 1 (a + b) i (by omega) o2
    have q3 := shift_run hc (b := 1) (fr := i) (by omega) (by omega) i1 (by omega) c1 o5
    have q4 := lower_mv hc c1 i1 (by omega) o5
    have c49 := fn49 (t.mv a i) b i
    rw [q1] at c49
    have c49' := fn49 t 0 i
    rw [q2] at c49'
    have c49'' := fn49 t 1 i
    rw [q3] at c49''
    have c54 := fn54 (t.mv 1 i) i
    rw [q4] at c54
    have c45 := fn45 (t.mv (a + b) i) (t.mv (a + b) i)
    rw [eqb_self] at c45
    have c45' := fn45 t t
    rw [eqb_self] at c45'
    simp [m1, m2]
    refine ECall.fn c49 (by simp [tm, ib]) (by simp) (by simp [tm, ib, AV.keys2]) fun _ => ?_
    simp [tm, ib]
    refine ECall.fn c49' (by simp [tm, ib]) (by simp) (by simp [tm, ib, AV.keys2]) fun _ => ?_
    simp [tm, ib]
    refine ECall.fn c49'' (by simp [tm, ib]) (by simp) (by simp [tm, ib, AV.keys2]) fun _ => ?_
    simp [tm, ib]
    refine ECall.fn c54 (by simp [tm, ib]) (by simp) (by simp [tm, bb, AV.keys2]) fun _ => ?_
    simp [tm, ib, bb]
    refine GCall.fn (fun _ => c45) (by simp [tm]) (by simp) rfl fun _ => ?_
    simp [bb]
    refine GCall.fn (fun _ => c45') (by simp [tm]) (by simp) rfl fun _ => ?_
    simp [bb]
    refine GCall.fn (fun _ => c45') (by simp [tm]) (by simp) rfl fun _ => ?_
    simp [bb]
    refine GCall.fn (fun _ => fn50) (by simp) (by simp) rfl fun _ => ?_
    simp [bb, r11]
end Go.Abs
