/- THIS TEXT TELLS SOME FUNCTIONS OF THE PROGRAM IN THE CALCULUS, PROVES BY THE KERNEL THAT WHAT IS TOLD IS THE LOADED CODE, AND PROVES WHAT THEY COMPUTE: for every argument that is told; the conditions stand in each theorem. -/
import Derived.KernelRfl
import Derived.Test.YtmnjbnkenfefaaaProg
import Derived.Shelf.SlIterI.Sorted
import Derived.Shelf.SlIterI.Keys
import Derived.Shelf.SlIterI.Collect
import Derived.Shelf.SortM.Plain
import Derived.Shelf.SortM.SortNone
import Derived.Test.YtmnjbnkenfefaaaScM0
set_option linter.unusedVariables false
set_option linter.unusedSimpArgs false
namespace Go.Abs
open Go.Proofs

set_option maxHeartbeats 4000000 in
theorem fn114 (k : Int) : Fn Try.prog 114 [ib k] (ib (kidsOf k)) := by
  refine fn_of (base := 114000) ok114 rfl fun σ h0 hr => ?_
  have s0 := h0 0
  rw [slots0] at s0
  simp only [ib] at s0
  clear h0 hr
  unfold c114
  by_cases h1 : k = 1
  · subst h1; simp [s0, r114, ib, kidsOf]
  by_cases h2 : k = 2
  · subst h2; simp [s0, r114, ib, kidsOf]
  by_cases h3 : k = 3
  · subst h3; simp [s0, r114, ib, kidsOf]
  by_cases h9 : k = 9
  · subst h9; simp [s0, r114, ib, kidsOf]
  by_cases h10 : k = 10
  · subst h10; simp [s0, r114, ib, kidsOf]
  by_cases h8 : k = 8
  · subst h8; simp [s0, r114, ib, kidsOf]
  by_cases h11 : k = 11
  · subst h11; simp [s0, r114, ib, kidsOf]
  by_cases h13 : k = 13
  · subst h13; simp [s0, r114, ib, kidsOf]
  by_cases h4 : k = 4
  · subst h4; simp [s0, r114, ib, kidsOf]
  by_cases h5 : k = 5
  · subst h5; simp [s0, r114, ib, kidsOf]
  by_cases h6 : k = 6
  · subst h6; simp [s0, r114, ib, kidsOf]
  by_cases h7 : k = 7
  · subst h7; simp [s0, r114, ib, kidsOf]
  by_cases h12 : k = 12
  · subst h12; simp [s0, r114, ib, kidsOf]
  have hk : kidsOf k = -1 := by
    have : ¬ (1 ≤ k ∧ k ≤ 13) := by omega
    simp [kidsOf, h1, h2, h3, h9, h10, h8, h11, h13, this]
  simp [s0, h1, h2, h3, h9, h10, h8, h11, h13, h4, h5, h6, h7, h12, r114, ib, hk]

theorem fn101 (x a b : Int) : Fn Try.prog 101 [ib x, ib a, ib b] (bb (decide (a ≤ x) && decide (x ≤ b))) := by
  refine fn_of (base := 101000) ok101 rfl fun σ h0 hr => ?_
  have s0 := h0 0
  have s1 := h0 1
  have s2 := h0 2
  rw [slots0] at s0
  rw [slots1] at s1
  rw [slots2] at s2
  simp only [ib] at s0 s1 s2
  clear h0 hr
  unfold c101
  simp [s0, s1, s2, r101, bb]

theorem bad_iff {k n : Int} {len : Nat} : badHead k n len = true ↔ ¬ ((len : Int) = kidsOf k ∧ 0 ≤ n ∧ n ≤ 65535 ∧ (0 < len → n = 0)) := by
  simp only [badHead, Bool.or_eq_true, Bool.and_eq_true, decide_eq_true_eq, Bool.not_eq_true', decide_eq_false_iff_not]
  omega

theorem fn67 (t : T) : Fn Try.prog 67 [tm t] (bb t.formed) := by
  induction t using T.ind with
  | h k n ts ih =>
  refine fn_of (base := 67000) ok67 rfl fun σ h0 hr => ?_
  have s0 := h0 0
  rw [slots0] at s0
  have hlen := real_kids (hr (tm (.mk k n ts)) (by simp))
  rw [kids_mk] at hlen
  simp only [tm, cells_mk] at s0
  clear h0 hr
  unfold c67
  by_cases hk : (ts.length : Int) = kidsOf k
  case neg =>
    have hb : badHead k n ts.length = true := bad_iff.2 fun h => hk h.1
    simp [s0]
    refine W_dregA ?_
    simp
    refine CallA.fn (fn114 k) (by simp [ib]) (by simp) rfl ?_
    simp [ib]
    refine realC_n ?_
    simp [hk, r67, bb, T.formed, hb]
  case pos =>
    have c114 := fn114 k
    rw [← hk] at c114
    simp [s0]
    refine W_dregA ?_
    simp
    refine CallA.fn c114 (by simp [ib]) (by simp) rfl ?_
    simp [ib]
    refine realC_n ?_
    simp
    refine GCall.fn (fun _ => fn101 n 0 65535) (by simp [ib]) (by simp) rfl fun _ => ?_
    simp [bb, r67]
    constructor
    · intro hb
      have hb' : badHead k n ts.length = true := bad_iff.2 fun h => by
        rcases hb with ⟨h1, h2⟩ | ⟨h1, h2⟩
        · have := h.2.1; have := h.2.2.1; omega
        · exact h2 (h.2.2.2 h1)
      simp [T.formed, hb']
    · intro hb1 hb2
      have hb' : badHead k n ts.length = false := by
        cases h : badHead k n ts.length with
        | false => rfl
        | true =>
          exfalso
          refine bad_iff.1 h ⟨hk, ?_⟩
          by_cases h0 : ts = []
          · have := hb1 h0
            subst h0
            exact ⟨by omega, by omega, fun h => by simp at h⟩
          · have := hb2 (List.length_pos_iff.2 h0)
            exact ⟨by omega, by omega, fun _ => this⟩
      refine W_loop (fun m σ => ∃ i : Nat, i + m = ts.length ∧ T.formedL (ts.drop i) = T.formedL ts ∧ σ.sl 1 = .c (.ref 67001 (σ.tg 67001) 0) ∧ σ.ob 67001 = some (.box 24 (T.mk k n ts).cells) ∧ σ.sl 3 = .c (.v (.int .i64 i))) ts.length ?_ ?_
      · exact ⟨0, by simp [cells_mk]⟩
      · rintro m σ ⟨i, hm, hp, q1, qo, q3⟩
        unfold c67b0
        simp only [cells_mk] at qo
        by_cases hi : i < ts.length
        · obtain ⟨t, ht⟩ := at_of hi
          obtain ⟨_, ht'⟩ := getE ht
          have w1 := wrap_succ (i := i) (by omega)
          rw [drop_at ht, T.formedL] at hp
          simp [q1, qo, q3, hi, ht']
          refine ECall.fn (ih t (List.mem_of_getElem? ht)) (by simp [tm]) (by simp) rfl fun _ => ?_
          simp [bb]
          constructor
          · intro hd
            simp [T.formed, hb', ← hp, hd]
          · intro hd
            rw [hd, Bool.true_and] at hp
            simp [q3]
            refine ⟨m - 1, by omega, i + 1, by omega, hp, ?_⟩
            simp [q1, qo, cells_mk, w1]
        · simp [q1, qo, q3, hi, T.formed, hb']
          rw [← hp, List.drop_eq_nil_of_le (by omega), T.formedL]

theorem fn27 (t : T) : Fn Try.prog 27 [tm t] (ib t.check) := by
  refine fn_of (base := 27000) ok27 rfl fun σ h0 hr => ?_
  have s0 := h0 0
  rw [slots0] at s0
  simp only [tm] at s0
  clear h0 hr
  unfold c27
  simp [s0]
  refine ECall.fn (fn28 t) (by simp [tm]) (by simp) rfl fun _ => ?_
  simp [ib]
  refine ⟨fun h1 => by simp [r27, h1, T.check], fun h1 => ?_⟩
  simp [show ¬ 6000 < t.size by omega]
  refine ECall.fn (fn29 t) (by simp [tm]) (by simp) rfl fun _ => ?_
  simp [ib]
  refine ⟨fun h2 => by simp [r27, h2, T.check, show ¬ 6000 < t.size by omega], fun h2 => ?_⟩
  simp [show ¬ 200 < t.depth by omega]
  refine ECall.fn (fn67 t) (by simp [tm]) (by simp) rfl fun _ => ?_
  simp [bb]
  refine ⟨fun h3 => by simp [r27, h3, T.check, show ¬ 6000 < t.size by omega, show ¬ 200 < t.depth by omega], fun h3 => by simp [r27, h3, T.check, show ¬ 6000 < t.size by omega, show ¬ 200 < t.depth by omega]⟩
end Go.Abs

namespace Go.Abs
open Go.Proofs

abbrev uw (n : Int) : Int := IntKind.wrap .u64 n
theorem uw_pos (n : Int) : 0 ≤ uw n := by
  simp only [uw, IntKind.wrap, IntKind.bits, IntKind.signed, Bool.false_and]
  exact Int.emod_nonneg _ (by decide)
theorem umod (n : Int) {m : Int} (hm : 0 < m) (hm2 : m ≤ 1000) : 0 ≤ (uw n).tmod m ∧ (uw n).tmod m < m ∧ IntKind.wrap .i64 ((uw n).tmod m) = (uw n).tmod m := by
  have h1 := Int.tmod_nonneg m (uw_pos n)
  have h2 := Int.tmod_lt_of_pos (uw n) hm
  exact ⟨h1, h2, wrap_id (by omega) (by omega)⟩

theorem kid_check {kk n : Int} {a b : T} (ha : a.count ≤ 1048576) (hb : b.count ≤ 1048576) (h : (T.mk kk n [a, b]).check = 0) : a.check = 0 ∧ b.check = 0 := by
  have hc : (T.mk kk n [a, b]).count < 4611686018427387904 := by simp [T.count, T.countL]; omega
  have h1 := size_count _ hc
  have h2 := size_count a (by omega)
  have h3 := size_count b (by omega)
  have d1 := depth_kid (k := kk) (n := n) (ts := [a, b]) (t := a) (by simp) hc
  have d2 := depth_kid (k := kk) (n := n) (ts := [a, b]) (t := b) (by simp) hc
  have hf : (T.mk kk n [a, b]).formed = true → a.formed = true ∧ b.formed = true := by
    simp [T.formed, T.formedL]
  simp only [T.count, T.countL] at h1
  simp only [T.check] at h ⊢
  by_cases c1 : 6000 < (T.mk kk n [a, b]).size
  · simp [c1] at h
  · by_cases c2 : 200 < (T.mk kk n [a, b]).depth
    · simp [c1, c2] at h
    · by_cases c3 : (T.mk kk n [a, b]).formed = true
      · obtain ⟨f1, f2⟩ := hf c3
        have e1 : ¬ 6000 < a.size := by omega
        have e2 : ¬ 6000 < b.size := by omega
        have e3 : ¬ 200 < a.depth := by omega
        have e4 : ¬ 200 < b.depth := by omega
        simp [e1, e2, e3, e4, f1, f2]
      · simp [c1, c2, c3] at h

theorem two_scope {kk v : Int} {a b : T} (ha : a.count ≤ 1048576) (hb : b.count ≤ 1048576) (h : (T.mk kk 0 [a, b]).check = 0) (h0 : 0 ≤ v) (h1 : v < 10) (h2 : kk ≠ 1 ∧ kk ≠ 2 ∧ kk ≠ 3) :
    (T.mk kk 0 [a, b]).scope v 65536 = (a.scope v 65536 && b.scope (IntKind.wrap .i64 (v + bindsOf kk 1)) 65536) := by
  obtain ⟨c1, c2⟩ := kid_check ha hb h
  have hb1 : 0 ≤ bindsOf kk 1 ∧ bindsOf kk 1 ≤ 1 := by simp only [bindsOf]; split <;> omega
  have w1 : IntKind.wrap .i64 (v + bindsOf kk 1) = v + bindsOf kk 1 := wrap_id (by omega) (by omega)
  have hb0 : bindsOf kk 0 = 0 := by simp [bindsOf]
  have w0 : IntKind.wrap .i64 (v + bindsOf kk 0) = v := by rw [hb0, Int.add_zero]; exact wrap_id (by omega) (by omega)
  have m1 : best2 false v 65536 = v := by simp only [best2]; simp; omega
  have m2 : best2 false (v + bindsOf kk 1) 65536 = v + bindsOf kk 1 := by simp only [best2]; simp; omega
  have g1 : 0 ≤ v + bindsOf kk 1 := by omega
  simp [T.scope, h, c1, c2, h0, w1, g1, m1, m2, T.within, h2, T.withinL, w0]

theorem fn6 (a b : T) (k vars : Int) (ha : a.count ≤ 1048576) (hb : b.count ≤ 1048576) : Fn Try.prog 6 [tm a, tm b, ib k, ib vars] (bb true) := by
  refine fn_of (base := 6000) ok6 rfl fun σ h0 hr => ?_
  have s0 := h0 0
  have s1 := h0 1
  have s2 : σ.sl 2 = ib k := h0 2
  have s3 : σ.sl 3 = ib vars := h0 3
  rw [slots0] at s0
  rw [slots1] at s1
  simp only [tm, ib] at s0 s1 s2 s3
  clear h0 hr
  obtain ⟨v1, v2, v3⟩ := umod vars (m := 10) (by omega) (by omega)
  obtain ⟨k1, k2, k3⟩ := umod k (m := 5) (by omega) (by omega)
  unfold c6
  simp [s0, s1, room]
  refine ⟨⟨fun x hx => cells_isD' _ x hx, fun x hx => cells_isD' _ x hx⟩, ?_⟩
  refine ECall.fn (fn17 [a, b]) (by simp [tms]) (by simp) rfl fun _ => ?_
  simp [bb]
  refine ⟨fun hh => by simp [r6, hh], fun hh => ?_⟩
  simp [hh, s3]
  refine W_dregE 11 [6009] ?_
  obtain ⟨kk, hk, hget⟩ : ∃ kk : Int, (kk ≠ 1 ∧ kk ≠ 2 ∧ kk ≠ 3) ∧ ([[.v (.int .i64 4)], [.v (.int .i64 5)], [.v (.int .i64 7)], [.v (.int .i64 6)], [.v (.int .i64 12)]] : List (List Cell))[((uw k).tmod 5).toNat]?.getD [] = [.v (.int .i64 kk)] := by
    have h5 : (uw k).tmod 5 = 0 ∨ (uw k).tmod 5 = 1 ∨ (uw k).tmod 5 = 2 ∨ (uw k).tmod 5 = 3 ∨ (uw k).tmod 5 = 4 := by omega
    rcases h5 with h | h | h | h | h <;> rw [h]
    · exact ⟨4, by omega, rfl⟩
    · exact ⟨5, by omega, rfl⟩
    · exact ⟨7, by omega, rfl⟩
    · exact ⟨6, by omega, rfl⟩
    · exact ⟨12, by omega, rfl⟩
  have hlt : ((uw k).tmod 5).toNat < ([[.v (.int .i64 4)], [.v (.int .i64 5)], [.v (.int .i64 7)], [.v (.int .i64 6)], [.v (.int .i64 12)]] : List (List Cell)).length := by
    show ((uw k).tmod 5).toNat < 5
    omega
  have hget' : ([[.v (.int .i64 4)], [.v (.int .i64 5)], [.v (.int .i64 7)], [.v (.int .i64 6)], [.v (.int .i64 12)]] : List (List Cell))[((uw k).tmod 5).toNat]'hlt = [.v (.int .i64 kk)] := by
    rw [List.getElem?_eq_getElem hlt] at hget
    exact hget
  simp [s2, SOp.args, k1, k2, k3, v3, hget', room]
  refine ⟨⟨fun x hx => cells_isD' _ x hx, fun x hx => cells_isD' _ x hx⟩, ?_⟩
  refine FCall.fn (fn25 kk [a, b]) (by simp [ib, tms]) (by simp) (by simp [tm]) (by simp) (by simp) ?_
  simp [tm]
  refine ⟨rfl, realC_n ?_⟩
  simp
  refine ECall.fn (fn22 (.mk kk 0 [a, b])) (by simp [tm]) (by simp) rfl fun _ => ?_
  simp [ib]
  refine ⟨fun hc => ?_, fun hc => ?_⟩
  · simp [hc]
    refine ECall.fn fn23 (by simp) (by simp) rfl fun _ => ?_
    simp [bb, r6]
  · simp [hc]
    refine W_dregA ?_
    simp
    refine CallA.fn (fn30 a ((uw vars).tmod 10) 65536) (by simp [tm, ib, v3]) (by simp) rfl ?_
    simp [bb, cells_mk]
    refine GCallA.fn (fun _ => fn31 kk 1) (by simp [ib]) (by simp) rfl ?_
    simp [ib]
    refine GCallA.fn (fun _ => fn30 b (IntKind.wrap .i64 ((uw vars).tmod 10 + bindsOf kk 1)) 65536) (by simp [tm, ib, v3]) (by simp) rfl ?_
    simp [bb]
    refine realC_n ?_
    simp
    refine W_dregA ?_
    simp
    refine CallA.fn (fn30 (.mk kk 0 [a, b]) ((uw vars).tmod 10) 65536) (by simp [tm, ib, v3, cells_mk]) (by simp) rfl ?_
    rw [two_scope ha hb hc v1 v2 hk]
    simp [bb]
    refine GCallA.fn (fun _ => fn19 (.mk kk 0 [a, b])) (by simp [tm, cells_mk]) (by simp) (by simp [tm]) ?_
    simp [tm]
    have c18 := fn18 (.mk kk 0 [a, b]) (.mk kk 0 [a, b])
    rw [eqb_self] at c18
    refine GCallA.fn (fun _ => c18) (by simp [tm, cells_mk]) (by simp) rfl ?_
    simp [bb]
    refine GCallA.fn (fun _ => fn23) (by simp) (by simp) rfl ?_
    simp [bb]
    refine realC_n ?_
    simp [r6]
end Go.Abs

namespace Go.Abs

/- porism/porismlaw04.ShiftSwaps -/
def c8 : SCode :=
  .seq (.reg
       [⟨some 5, none, .box 24 (.t 0)⟩,
        ⟨some 10, none, .mv (.k (.bool false))⟩])
  (.seq (.seq (.reg
         [⟨some 17, none, .ldn 24 3 (.t 5)⟩,
          ⟨some 18, none, .lit 24 3 40 [.t 17]⟩,
          ⟨some 19, none, .call (.f 17) [.t 18]⟩])
    (.cond (.t 19)
      (.seq (.reg
           [⟨some 10, none, .mv (.k (.bool true))⟩])
      (.ret))
      (.skip)))
  (.seq (.reg
       [⟨some 20, none, .mv (.t 1)⟩,
        ⟨some 21, none, .conv 3 32 .u64 (.t 20)⟩,
        ⟨some 22, none, .bin .rem (.t 21) (.k (.int .u64 30))⟩,
        ⟨some 23, none, .conv 32 3 .i64 (.t 22)⟩,
        ⟨some 24, none, .mv (.t 2)⟩,
        ⟨some 25, none, .conv 3 32 .u64 (.t 24)⟩,
        ⟨some 26, none, .bin .rem (.t 25) (.k (.int .u64 30))⟩,
        ⟨some 27, none, .conv 32 3 .i64 (.t 26)⟩,
        ⟨some 28, none, .mv (.t 3)⟩,
        ⟨some 29, none, .conv 3 32 .u64 (.t 28)⟩,
        ⟨some 30, none, .bin .rem (.t 29) (.k (.int .u64 10))⟩,
        ⟨some 31, none, .conv 32 3 .i64 (.t 30)⟩,
        ⟨some 32, none, .mv (.t 4)⟩,
        ⟨some 33, none, .conv 3 32 .u64 (.t 32)⟩,
        ⟨some 34, none, .bin .rem (.t 33) (.k (.int .u64 10))⟩,
        ⟨some 35, none, .conv 32 3 .i64 (.t 34)⟩,
        ⟨some 1, none, .mv (.t 23)⟩,
        ⟨some 2, none, .mv (.t 27)⟩,
        ⟨some 3, none, .mv (.t 31)⟩,
        ⟨some 4, none, .mv (.t 35)⟩])
  (.seq (.reg
       [⟨some 37, none, .ldn 24 3 (.t 5)⟩,
        ⟨some 38, none, .mv (.t 1)⟩,
        ⟨some 39, none, .mv (.t 3)⟩,
        ⟨some 40, none, .call (.f 49) [.t 37, .t 38, .t 39]⟩,
        ⟨some 36, none, .mv (.t 40)⟩,
        ⟨some 41, none, .ext (.t 36) 0⟩,
        ⟨some 42, none, .ext (.t 36) 1⟩,
        ⟨some 11, none, .alloc 24 [.v (.int .i64 0), .v (.int .i64 0), .cap 3 40 []]⟩,
        ⟨none, none, .stn 24 3 (.t 11) (.t 41)⟩,
        ⟨some 12, none, .mv (.t 42)⟩])
  (.seq (.reg
       [⟨some 44, none, .ldn 24 3 (.t 5)⟩,
        ⟨some 45, none, .mv (.t 2)⟩,
        ⟨some 46, none, .mv (.t 3)⟩,
        ⟨some 47, none, .mv (.t 4)⟩,
        ⟨some 48, none, .bin .add (.t 46) (.t 47)⟩,
        ⟨some 49, none, .call (.f 49) [.t 44, .t 45, .t 48]⟩,
        ⟨some 43, none, .mv (.t 49)⟩,
        ⟨some 50, none, .ext (.t 43) 0⟩,
        ⟨some 51, none, .ext (.t 43) 1⟩,
        ⟨some 13, none, .alloc 24 [.v (.int .i64 0), .v (.int .i64 0), .cap 3 40 []]⟩,
        ⟨none, none, .stn 24 3 (.t 13) (.t 50)⟩,
        ⟨some 14, none, .mv (.t 51)⟩])
  (.seq (.seq (.reg
         [⟨some 52, none, .mv (.t 12)⟩,
          ⟨some 53, none, .bin .neq (.t 52) (.k (.int .i64 0))⟩,
          ⟨some 54, none, .mv (.t 53)⟩,
          ⟨some 55, some (54, false), .mv (.t 14)⟩,
          ⟨some 56, some (54, false), .bin .neq (.t 55) (.k (.int .i64 0))⟩,
          ⟨some 57, none, .pick (.t 54) (.k (.bool true)) (.t 56)⟩])
    (.cond (.t 57)
      (.seq (.reg
           [⟨some 58, none, .call (.f 50) []⟩,
            ⟨some 10, none, .mv (.t 58)⟩])
      (.ret))
      (.skip)))
  (.seq (.reg
       [⟨some 60, none, .ldn 24 3 (.t 11)⟩,
        ⟨some 61, none, .mv (.t 2)⟩,
        ⟨some 62, none, .mv (.t 3)⟩,
        ⟨some 63, none, .mv (.t 4)⟩,
        ⟨some 64, none, .bin .add (.t 62) (.t 63)⟩,
        ⟨some 65, none, .mv (.t 1)⟩,
        ⟨some 66, none, .bin .add (.t 64) (.t 65)⟩,
        ⟨some 67, none, .call (.f 49) [.t 60, .t 61, .t 66]⟩,
        ⟨some 59, none, .mv (.t 67)⟩,
        ⟨some 68, none, .ext (.t 59) 0⟩,
        ⟨some 69, none, .ext (.t 59) 1⟩,
        ⟨some 15, none, .alloc 24 [.v (.int .i64 0), .v (.int .i64 0), .cap 3 40 []]⟩,
        ⟨none, none, .stn 24 3 (.t 15) (.t 68)⟩,
        ⟨some 12, none, .mv (.t 69)⟩])
  (.seq (.reg
       [⟨some 71, none, .ldn 24 3 (.t 13)⟩,
        ⟨some 72, none, .mv (.t 1)⟩,
        ⟨some 73, none, .mv (.t 3)⟩,
        ⟨some 74, none, .call (.f 49) [.t 71, .t 72, .t 73]⟩,
        ⟨some 70, none, .mv (.t 74)⟩,
        ⟨some 75, none, .ext (.t 70) 0⟩,
        ⟨some 76, none, .ext (.t 70) 1⟩,
        ⟨some 16, none, .alloc 24 [.v (.int .i64 0), .v (.int .i64 0), .cap 3 40 []]⟩,
        ⟨none, none, .stn 24 3 (.t 16) (.t 75)⟩,
        ⟨some 14, none, .mv (.t 76)⟩])
  (.seq (.seq (.reg
         [⟨some 77, none, .mv (.t 12)⟩,
          ⟨some 78, none, .bin .neq (.t 77) (.k (.int .i64 0))⟩,
          ⟨some 79, none, .mv (.t 78)⟩,
          ⟨some 80, some (79, false), .mv (.t 14)⟩,
          ⟨some 81, some (79, false), .bin .neq (.t 80) (.k (.int .i64 0))⟩,
          ⟨some 82, none, .pick (.t 79) (.k (.bool true)) (.t 81)⟩])
    (.cond (.t 82)
      (.seq (.reg
           [⟨some 83, none, .mv (.t 12)⟩,
            ⟨some 84, none, .bin .eql (.t 83) (.k (.int .i64 6))⟩,
            ⟨some 85, none, .mv (.t 84)⟩,
            ⟨some 86, some (85, false), .mv (.t 14)⟩,
            ⟨some 87, some (85, false), .bin .eql (.t 86) (.k (.int .i64 6))⟩,
            ⟨some 88, none, .pick (.t 85) (.k (.bool true)) (.t 87)⟩,
            ⟨some 89, none, .mv (.t 88)⟩,
            ⟨some 90, some (89, true), .call (.f 50) []⟩,
            ⟨some 91, none, .pick (.t 89) (.t 90) (.k (.bool false))⟩,
            ⟨some 10, none, .mv (.t 91)⟩])
      (.ret))
      (.skip)))
  (.seq (.reg
       [⟨some 92, none, .ldn 24 3 (.t 15)⟩,
        ⟨some 93, none, .ldn 24 3 (.t 16)⟩,
        ⟨some 94, none, .call (.f 45) [.t 92, .t 93]⟩,
        ⟨some 95, none, .mv (.t 94)⟩,
        ⟨some 96, some (95, true), .call (.f 50) []⟩,
        ⟨some 97, none, .pick (.t 95) (.t 96) (.k (.bool false))⟩,
        ⟨some 10, none, .mv (.t 97)⟩])
  (.ret))))))))))
def r8 : List RR := [.t 10]
theorem ok8 : okFn Go.Proofs.Try.prog 8 98 c8 r8 5 = true := by kernel_rfl

/- porism/porismlaw04.ShiftKids -/
def w9_0 : List (List Nat) := [[], [], [], [], [], [], [], [], [], [], [], [], [], [], [], [], [9010], [9010], []]
def f9_0 : List (List Nat) := [[9010], [9010], [9010], [9010], [9010], [9010], [9010], [9010], [9010], [9010], [9010], [9010], [9010], [9010], [9010], [9010], [], [], []]
def c9b0 : SCode :=
  .seq (.seq (.reg
         [⟨some 64, none, .mv (.t 9)⟩,
          ⟨some 65, none, .fad 24 2 2 (.t 3)⟩,
          ⟨some 66, none, .ld1 22 (.t 65)⟩,
          ⟨some 67, none, .len 22 (.t 66)⟩,
          ⟨some 68, none, .bin .lss (.t 64) (.t 67)⟩])
    (.cond (.t 68)
      (.skip)
      (.exit 0)))
  (.seq (.block 1 (.seq (.dreg [0, 1, 0, 7, 15, 0, 0, 0, 128, 0, 896, 1984, 4095, 8191, 16383, 16383, 0, 98303, 262143]
           [⟨some 72, none, .fad 24 2 2 (.t 3)⟩,
            ⟨some 73, none, .ld1 22 (.t 72)⟩,
            ⟨some 74, none, .mv (.t 9)⟩,
            ⟨some 75, none, .iad 24 3 (.t 73) (.t 74)⟩,
            ⟨some 76, none, .ldn 24 3 (.t 75)⟩,
            ⟨some 77, none, .mv (.t 1)⟩,
            ⟨some 78, none, .mv (.t 2)⟩,
            ⟨some 79, none, .fad 24 0 0 (.t 3)⟩,
            ⟨some 80, none, .ld1 3 (.t 79)⟩,
            ⟨some 81, none, .mv (.t 9)⟩,
            ⟨some 82, none, .call (.f 51) [.t 80, .t 81]⟩,
            ⟨some 83, none, .bin .add (.t 78) (.t 82)⟩,
            ⟨some 84, none, .call (.f 49) [.t 76, .t 77, .t 83]⟩,
            ⟨some 71, none, .mv (.t 84)⟩,
            ⟨some 85, none, .ext (.t 71) 0⟩,
            ⟨some 86, none, .ext (.t 71) 1⟩,
            ⟨some 10, none, .alloc 24 [.v (.int .i64 0), .v (.int .i64 0), .cap 3 40 []]⟩,
            ⟨none, none, .stn 24 3 (.t 10) (.t 85)⟩,
            ⟨some 11, none, .mv (.t 86)⟩])
      (.seq (.dreg [0, 1, 3, 7, 7, 23, 7, 119, 247, 511, 1023, 2047]
           [⟨some 87, none, .mv (.t 11)⟩,
            ⟨some 88, none, .bin .neq (.t 87) (.k (.int .i64 0))⟩,
            ⟨some 89, none, .mv (.t 88)⟩,
            ⟨some 90, some (89, false), .ldn 24 3 (.t 10)⟩,
            ⟨some 91, some (89, false), .fad 24 2 2 (.t 7)⟩,
            ⟨some 92, some (89, false), .ld1 22 (.t 91)⟩,
            ⟨some 93, some (89, false), .mv (.t 9)⟩,
            ⟨some 94, some (89, false), .iad 24 3 (.t 92) (.t 93)⟩,
            ⟨some 95, some (89, false), .ldn 24 3 (.t 94)⟩,
            ⟨some 96, some (89, false), .call (.f 45) [.t 90, .t 95]⟩,
            ⟨some 97, some (89, false), .not (.t 96)⟩,
            ⟨some 98, none, .pick (.t 89) (.k (.bool true)) (.t 97)⟩])
      (.cond (.t 98)
        (.seq (.reg
             [⟨some 6, none, .mv (.k (.bool false))⟩])
        (.ret))
        (.skip)))))
  (.reg
     [⟨some 69, none, .mv (.t 9)⟩,
      ⟨some 70, none, .bin .add (.t 69) (.k (.int .i64 1))⟩,
      ⟨some 9, none, .mv (.t 70)⟩]))
def c9b1 : SCode :=
  .seq (.seq (.reg
         [⟨some 99, none, .mv (.t 13)⟩,
          ⟨some 100, none, .fad 24 2 2 (.t 3)⟩,
          ⟨some 101, none, .ld1 22 (.t 100)⟩,
          ⟨some 102, none, .len 22 (.t 101)⟩,
          ⟨some 103, none, .bin .lss (.t 99) (.t 102)⟩])
    (.cond (.t 103)
      (.skip)
      (.exit 2)))
  (.seq (.block 3 (.dreg [0, 0, 2, 0, 14, 30, 0, 0, 128, 0, 896, 1984, 4094, 8191, 16383]
         [⟨some 106, none, .mv (.t 12)⟩,
          ⟨some 107, none, .fad 24 2 2 (.t 3)⟩,
          ⟨some 108, none, .ld1 22 (.t 107)⟩,
          ⟨some 109, none, .mv (.t 13)⟩,
          ⟨some 110, none, .iad 24 3 (.t 108) (.t 109)⟩,
          ⟨some 111, none, .ldn 24 3 (.t 110)⟩,
          ⟨some 112, none, .mv (.t 2)⟩,
          ⟨some 113, none, .fad 24 0 0 (.t 3)⟩,
          ⟨some 114, none, .ld1 3 (.t 113)⟩,
          ⟨some 115, none, .mv (.t 13)⟩,
          ⟨some 116, none, .call (.f 51) [.t 114, .t 115]⟩,
          ⟨some 117, none, .bin .add (.t 112) (.t 116)⟩,
          ⟨some 118, none, .call (.f 52) [.t 111, .t 117]⟩,
          ⟨some 119, none, .bin .add (.t 106) (.t 118)⟩,
          ⟨some 12, none, .mv (.t 119)⟩]))
  (.reg
     [⟨some 104, none, .mv (.t 13)⟩,
      ⟨some 105, none, .bin .add (.t 104) (.k (.int .i64 1))⟩,
      ⟨some 13, none, .mv (.t 105)⟩]))
def c9 : SCode :=
  .seq (.reg
       [⟨some 3, none, .box 24 (.t 0)⟩,
        ⟨some 6, none, .mv (.k (.bool false))⟩])
  (.seq (.seq (.reg
         [⟨some 14, none, .ldn 24 3 (.t 3)⟩,
          ⟨some 15, none, .lit 24 3 40 [.t 14]⟩,
          ⟨some 16, none, .call (.f 17) [.t 15]⟩,
          ⟨some 17, none, .mv (.t 16)⟩,
          ⟨some 18, some (17, false), .ldn 24 3 (.t 3)⟩,
          ⟨some 19, some (17, false), .call (.f 27) [.t 18]⟩,
          ⟨some 20, some (17, false), .bin .neq (.t 19) (.k (.int .i64 0))⟩,
          ⟨some 21, none, .pick (.t 17) (.k (.bool true)) (.t 20)⟩,
          ⟨some 22, none, .mv (.t 21)⟩,
          ⟨some 23, some (22, false), .fad 24 2 2 (.t 3)⟩,
          ⟨some 24, some (22, false), .ld1 22 (.t 23)⟩,
          ⟨some 25, some (22, false), .len 22 (.t 24)⟩,
          ⟨some 26, some (22, false), .bin .eql (.t 25) (.k (.int .i64 0))⟩,
          ⟨some 27, none, .pick (.t 22) (.k (.bool true)) (.t 26)⟩])
    (.cond (.t 27)
      (.seq (.reg
           [⟨some 6, none, .mv (.k (.bool true))⟩])
      (.ret))
      (.skip)))
  (.seq (.reg
       [⟨some 28, none, .mv (.t 1)⟩,
        ⟨some 29, none, .conv 3 32 .u64 (.t 28)⟩,
        ⟨some 30, none, .bin .rem (.t 29) (.k (.int .u64 1000))⟩,
        ⟨some 31, none, .conv 32 3 .i64 (.t 30)⟩,
        ⟨some 32, none, .mv (.t 2)⟩,
        ⟨some 33, none, .conv 3 32 .u64 (.t 32)⟩,
        ⟨some 34, none, .bin .rem (.t 33) (.k (.int .u64 50))⟩,
        ⟨some 35, none, .conv 32 3 .i64 (.t 34)⟩,
        ⟨some 1, none, .mv (.t 31)⟩,
        ⟨some 2, none, .mv (.t 35)⟩])
  (.seq (.reg
       [⟨some 37, none, .ldn 24 3 (.t 3)⟩,
        ⟨some 38, none, .mv (.t 1)⟩,
        ⟨some 39, none, .mv (.t 2)⟩,
        ⟨some 40, none, .call (.f 49) [.t 37, .t 38, .t 39]⟩,
        ⟨some 36, none, .mv (.t 40)⟩,
        ⟨some 41, none, .ext (.t 36) 0⟩,
        ⟨some 42, none, .ext (.t 36) 1⟩,
        ⟨some 7, none, .alloc 24 [.v (.int .i64 0), .v (.int .i64 0), .cap 3 40 []]⟩,
        ⟨none, none, .stn 24 3 (.t 7) (.t 41)⟩,
        ⟨some 8, none, .mv (.t 42)⟩])
  (.seq (.seq (.reg
         [⟨some 43, none, .mv (.t 8)⟩,
          ⟨some 44, none, .bin .neq (.t 43) (.k (.int .i64 0))⟩])
    (.cond (.t 44)
      (.seq (.reg
           [⟨some 45, none, .mv (.t 8)⟩,
            ⟨some 46, none, .bin .eql (.t 45) (.k (.int .i64 6))⟩,
            ⟨some 47, none, .mv (.t 46)⟩,
            ⟨some 48, some (47, true), .call (.f 50) []⟩,
            ⟨some 49, none, .pick (.t 47) (.t 48) (.k (.bool false))⟩,
            ⟨some 6, none, .mv (.t 49)⟩])
      (.ret))
      (.skip)))
  (.seq (.seq (.reg
         [⟨some 50, none, .fad 24 2 2 (.t 7)⟩,
          ⟨some 51, none, .ld1 22 (.t 50)⟩,
          ⟨some 52, none, .len 22 (.t 51)⟩,
          ⟨some 53, none, .fad 24 2 2 (.t 3)⟩,
          ⟨some 54, none, .ld1 22 (.t 53)⟩,
          ⟨some 55, none, .len 22 (.t 54)⟩,
          ⟨some 56, none, .bin .neq (.t 52) (.t 55)⟩,
          ⟨some 57, none, .mv (.t 56)⟩,
          ⟨some 58, some (57, false), .fad 24 0 0 (.t 7)⟩,
          ⟨some 59, some (57, false), .ld1 3 (.t 58)⟩,
          ⟨some 60, some (57, false), .fad 24 0 0 (.t 3)⟩,
          ⟨some 61, some (57, false), .ld1 3 (.t 60)⟩,
          ⟨some 62, some (57, false), .bin .neq (.t 59) (.t 61)⟩,
          ⟨some 63, none, .pick (.t 57) (.k (.bool true)) (.t 62)⟩])
    (.cond (.t 63)
      (.seq (.reg
           [⟨some 6, none, .mv (.k (.bool false))⟩])
      (.ret))
      (.skip)))
  (.seq (.seq (.reg
         [⟨some 9, none, .mv (.k (.int .i64 0))⟩])
    (.block 0 (.loop c9b0)))
  (.seq (.reg
       [⟨some 12, none, .mv (.k (.int .i64 0))⟩])
  (.seq (.seq (.reg
         [⟨some 13, none, .mv (.k (.int .i64 0))⟩])
    (.block 2 (.loop c9b1)))
  (.seq (.reg
       [⟨some 120, none, .mv (.t 12)⟩,
        ⟨some 121, none, .ldn 24 3 (.t 3)⟩,
        ⟨some 122, none, .mv (.t 2)⟩,
        ⟨some 123, none, .call (.f 52) [.t 121, .t 122]⟩,
        ⟨some 124, none, .bin .eql (.t 120) (.t 123)⟩,
        ⟨some 125, none, .mv (.t 124)⟩,
        ⟨some 126, some (125, true), .call (.f 50) []⟩,
        ⟨some 127, none, .pick (.t 125) (.t 126) (.k (.bool false))⟩,
        ⟨some 6, none, .mv (.t 127)⟩])
  (.ret))))))))))
def r9 : List RR := [.t 6]
theorem ok9 : okFn Go.Proofs.Try.prog 9 128 c9 r9 3 = true := by kernel_rfl

/- porism/porismlaw04.ShiftTwice -/
def c11 : SCode :=
  .seq (.reg
       [⟨some 4, none, .box 24 (.t 0)⟩,
        ⟨some 8, none, .mv (.k (.bool false))⟩])
  (.seq (.seq (.reg
         [⟨some 21, none, .ldn 24 3 (.t 4)⟩,
          ⟨some 22, none, .lit 24 3 40 [.t 21]⟩,
          ⟨some 23, none, .call (.f 17) [.t 22]⟩])
    (.cond (.t 23)
      (.seq (.reg
           [⟨some 8, none, .mv (.k (.bool true))⟩])
      (.ret))
      (.skip)))
  (.seq (.reg
       [⟨some 24, none, .mv (.t 1)⟩,
        ⟨some 25, none, .conv 3 32 .u64 (.t 24)⟩,
        ⟨some 26, none, .bin .rem (.t 25) (.k (.int .u64 200))⟩,
        ⟨some 27, none, .conv 32 3 .i64 (.t 26)⟩,
        ⟨some 28, none, .mv (.t 2)⟩,
        ⟨some 29, none, .conv 3 32 .u64 (.t 28)⟩,
        ⟨some 30, none, .bin .rem (.t 29) (.k (.int .u64 200))⟩,
        ⟨some 31, none, .conv 32 3 .i64 (.t 30)⟩,
        ⟨some 32, none, .bin .add (.k (.int .i64 1)) (.t 31)⟩,
        ⟨some 33, none, .mv (.t 3)⟩,
        ⟨some 34, none, .conv 3 32 .u64 (.t 33)⟩,
        ⟨some 35, none, .bin .rem (.t 34) (.k (.int .u64 20))⟩,
        ⟨some 36, none, .conv 32 3 .i64 (.t 35)⟩,
        ⟨some 1, none, .mv (.t 27)⟩,
        ⟨some 2, none, .mv (.t 32)⟩,
        ⟨some 3, none, .mv (.t 36)⟩])
  (.seq (.reg
       [⟨some 38, none, .ldn 24 3 (.t 4)⟩,
        ⟨some 39, none, .mv (.t 1)⟩,
        ⟨some 40, none, .mv (.t 3)⟩,
        ⟨some 41, none, .call (.f 49) [.t 38, .t 39, .t 40]⟩,
        ⟨some 37, none, .mv (.t 41)⟩,
        ⟨some 42, none, .ext (.t 37) 0⟩,
        ⟨some 43, none, .ext (.t 37) 1⟩,
        ⟨some 9, none, .alloc 24 [.v (.int .i64 0), .v (.int .i64 0), .cap 3 40 []]⟩,
        ⟨none, none, .stn 24 3 (.t 9) (.t 42)⟩,
        ⟨some 10, none, .mv (.t 43)⟩])
  (.seq (.reg
       [⟨some 45, none, .ldn 24 3 (.t 4)⟩,
        ⟨some 46, none, .mv (.t 1)⟩,
        ⟨some 47, none, .mv (.t 2)⟩,
        ⟨some 48, none, .bin .add (.t 46) (.t 47)⟩,
        ⟨some 49, none, .mv (.t 3)⟩,
        ⟨some 50, none, .call (.f 49) [.t 45, .t 48, .t 49]⟩,
        ⟨some 44, none, .mv (.t 50)⟩,
        ⟨some 51, none, .ext (.t 44) 0⟩,
        ⟨some 52, none, .ext (.t 44) 1⟩,
        ⟨some 11, none, .alloc 24 [.v (.int .i64 0), .v (.int .i64 0), .cap 3 40 []]⟩,
        ⟨none, none, .stn 24 3 (.t 11) (.t 51)⟩,
        ⟨some 12, none, .mv (.t 52)⟩])
  (.seq (.seq (.reg
         [⟨some 53, none, .mv (.t 10)⟩,
          ⟨some 54, none, .bin .neq (.t 53) (.k (.int .i64 0))⟩,
          ⟨some 55, none, .mv (.t 54)⟩,
          ⟨some 56, some (55, false), .mv (.t 12)⟩,
          ⟨some 57, some (55, false), .bin .neq (.t 56) (.k (.int .i64 0))⟩,
          ⟨some 58, none, .pick (.t 55) (.k (.bool true)) (.t 57)⟩])
    (.cond (.t 58)
      (.seq (.reg
           [⟨some 59, none, .mv (.t 10)⟩,
            ⟨some 60, none, .bin .eql (.t 59) (.k (.int .i64 6))⟩,
            ⟨some 61, none, .mv (.t 60)⟩,
            ⟨some 62, some (61, false), .mv (.t 12)⟩,
            ⟨some 63, some (61, false), .bin .eql (.t 62) (.k (.int .i64 6))⟩,
            ⟨some 64, none, .pick (.t 61) (.k (.bool true)) (.t 63)⟩,
            ⟨some 65, none, .mv (.t 64)⟩,
            ⟨some 66, some (65, false), .mv (.t 10)⟩,
            ⟨some 67, some (65, false), .mv (.t 12)⟩,
            ⟨some 68, some (65, false), .bin .eql (.t 66) (.t 67)⟩,
            ⟨some 69, some (65, false), .mv (.t 68)⟩,
            ⟨some 70, some (69, true), .ldn 24 3 (.t 4)⟩,
            ⟨some 71, some (69, true), .call (.f 22) [.t 70]⟩,
            ⟨some 72, some (69, true), .mv (.t 10)⟩,
            ⟨some 73, some (69, true), .bin .eql (.t 71) (.t 72)⟩,
            ⟨some 74, some (65, false), .pick (.t 69) (.t 73) (.k (.bool false))⟩,
            ⟨some 75, none, .pick (.t 65) (.k (.bool true)) (.t 74)⟩,
            ⟨some 76, none, .mv (.t 75)⟩,
            ⟨some 77, some (76, true), .call (.f 50) []⟩,
            ⟨some 78, none, .pick (.t 76) (.t 77) (.k (.bool false))⟩,
            ⟨some 8, none, .mv (.t 78)⟩])
      (.ret))
      (.skip)))
  (.seq (.reg
       [⟨some 80, none, .ldn 24 3 (.t 9)⟩,
        ⟨some 81, none, .mv (.t 2)⟩,
        ⟨some 82, none, .mv (.t 3)⟩,
        ⟨some 83, none, .call (.f 49) [.t 80, .t 81, .t 82]⟩,
        ⟨some 79, none, .mv (.t 83)⟩,
        ⟨some 84, none, .ext (.t 79) 0⟩,
        ⟨some 85, none, .ext (.t 79) 1⟩,
        ⟨some 13, none, .alloc 24 [.v (.int .i64 0), .v (.int .i64 0), .cap 3 40 []]⟩,
        ⟨none, none, .stn 24 3 (.t 13) (.t 84)⟩,
        ⟨some 14, none, .mv (.t 85)⟩])
  (.seq (.reg
       [⟨some 87, none, .ldn 24 3 (.t 4)⟩,
        ⟨some 88, none, .mv (.t 3)⟩,
        ⟨some 89, none, .call (.f 49) [.t 87, .k (.int .i64 0), .t 88]⟩,
        ⟨some 86, none, .mv (.t 89)⟩,
        ⟨some 90, none, .ext (.t 86) 0⟩,
        ⟨some 91, none, .ext (.t 86) 1⟩,
        ⟨some 15, none, .alloc 24 [.v (.int .i64 0), .v (.int .i64 0), .cap 3 40 []]⟩,
        ⟨none, none, .stn 24 3 (.t 15) (.t 90)⟩,
        ⟨some 16, none, .mv (.t 91)⟩])
  (.seq (.reg
       [⟨some 93, none, .ldn 24 3 (.t 4)⟩,
        ⟨some 94, none, .mv (.t 3)⟩,
        ⟨some 95, none, .call (.f 49) [.t 93, .k (.int .i64 1), .t 94]⟩,
        ⟨some 92, none, .mv (.t 95)⟩,
        ⟨some 96, none, .ext (.t 92) 0⟩,
        ⟨some 97, none, .ext (.t 92) 1⟩,
        ⟨some 17, none, .alloc 24 [.v (.int .i64 0), .v (.int .i64 0), .cap 3 40 []]⟩,
        ⟨none, none, .stn 24 3 (.t 17) (.t 96)⟩,
        ⟨some 18, none, .mv (.t 97)⟩])
  (.seq (.reg
       [⟨some 99, none, .ldn 24 3 (.t 17)⟩,
        ⟨some 100, none, .mv (.t 3)⟩,
        ⟨some 101, none, .call (.f 54) [.t 99, .t 100]⟩,
        ⟨some 98, none, .mv (.t 101)⟩,
        ⟨some 102, none, .ext (.t 98) 0⟩,
        ⟨some 103, none, .ext (.t 98) 1⟩,
        ⟨some 19, none, .alloc 24 [.v (.int .i64 0), .v (.int .i64 0), .cap 3 40 []]⟩,
        ⟨none, none, .stn 24 3 (.t 19) (.t 102)⟩,
        ⟨some 20, none, .mv (.t 103)⟩])
  (.seq (.reg
       [⟨some 104, none, .mv (.t 14)⟩,
        ⟨some 105, none, .bin .eql (.t 104) (.k (.int .i64 0))⟩,
        ⟨some 106, none, .mv (.t 105)⟩,
        ⟨some 107, some (106, true), .ldn 24 3 (.t 13)⟩,
        ⟨some 108, some (106, true), .ldn 24 3 (.t 11)⟩,
        ⟨some 109, some (106, true), .call (.f 45) [.t 107, .t 108]⟩,
        ⟨some 110, none, .pick (.t 106) (.t 109) (.k (.bool false))⟩,
        ⟨some 111, none, .mv (.t 110)⟩,
        ⟨some 112, some (111, true), .mv (.t 16)⟩,
        ⟨some 113, some (111, true), .bin .eql (.t 112) (.k (.int .i64 0))⟩,
        ⟨some 114, none, .pick (.t 111) (.t 113) (.k (.bool false))⟩,
        ⟨some 115, none, .mv (.t 114)⟩,
        ⟨some 116, some (115, true), .ldn 24 3 (.t 15)⟩,
        ⟨some 117, some (115, true), .ldn 24 3 (.t 4)⟩,
        ⟨some 118, some (115, true), .call (.f 45) [.t 116, .t 117]⟩,
        ⟨some 119, none, .pick (.t 115) (.t 118) (.k (.bool false))⟩,
        ⟨some 120, none, .mv (.t 119)⟩,
        ⟨some 121, some (120, true), .mv (.t 18)⟩,
        ⟨some 122, some (120, true), .bin .eql (.t 121) (.k (.int .i64 0))⟩,
        ⟨some 123, none, .pick (.t 120) (.t 122) (.k (.bool false))⟩,
        ⟨some 124, none, .mv (.t 123)⟩,
        ⟨some 125, some (124, true), .mv (.t 20)⟩,
        ⟨some 126, none, .pick (.t 124) (.t 125) (.k (.bool false))⟩,
        ⟨some 127, none, .mv (.t 126)⟩,
        ⟨some 128, some (127, true), .ldn 24 3 (.t 19)⟩,
        ⟨some 129, some (127, true), .ldn 24 3 (.t 4)⟩,
        ⟨some 130, some (127, true), .call (.f 45) [.t 128, .t 129]⟩,
        ⟨some 131, none, .pick (.t 127) (.t 130) (.k (.bool false))⟩,
        ⟨some 132, none, .mv (.t 131)⟩,
        ⟨some 133, some (132, true), .call (.f 50) []⟩,
        ⟨some 134, none, .pick (.t 132) (.t 133) (.k (.bool false))⟩,
        ⟨some 8, none, .mv (.t 134)⟩])
  (.ret)))))))))))
def r11 : List RR := [.t 8]
theorem ok11 : okFn Go.Proofs.Try.prog 11 135 c11 r11 4 = true := by kernel_rfl

/- porism/porismlaw04.ShiftScopes -/
def c12 : SCode :=
  .seq (.reg
       [⟨some 4, none, .box 24 (.t 0)⟩,
        ⟨some 8, none, .mv (.k (.bool false))⟩])
  (.seq (.seq (.reg
         [⟨some 11, none, .ldn 24 3 (.t 4)⟩,
          ⟨some 12, none, .lit 24 3 40 [.t 11]⟩,
          ⟨some 13, none, .call (.f 17) [.t 12]⟩])
    (.cond (.t 13)
      (.seq (.reg
           [⟨some 8, none, .mv (.k (.bool true))⟩])
      (.ret))
      (.skip)))
  (.seq (.reg
       [⟨some 14, none, .mv (.t 1)⟩,
        ⟨some 15, none, .conv 3 32 .u64 (.t 14)⟩,
        ⟨some 16, none, .bin .rem (.t 15) (.k (.int .u64 30))⟩,
        ⟨some 17, none, .conv 32 3 .i64 (.t 16)⟩,
        ⟨some 18, none, .mv (.t 2)⟩,
        ⟨some 19, none, .conv 3 32 .u64 (.t 18)⟩,
        ⟨some 20, none, .bin .rem (.t 19) (.k (.int .u64 30))⟩,
        ⟨some 21, none, .conv 32 3 .i64 (.t 20)⟩,
        ⟨some 22, none, .mv (.t 3)⟩,
        ⟨some 23, none, .conv 3 32 .u64 (.t 22)⟩,
        ⟨some 24, none, .bin .rem (.t 23) (.k (.int .u64 30))⟩,
        ⟨some 25, none, .conv 32 3 .i64 (.t 24)⟩,
        ⟨some 1, none, .mv (.t 17)⟩,
        ⟨some 2, none, .mv (.t 21)⟩,
        ⟨some 3, none, .mv (.t 25)⟩])
  (.seq (.seq (.reg
         [⟨some 26, none, .ldn 24 3 (.t 4)⟩,
          ⟨some 27, none, .mv (.t 1)⟩,
          ⟨some 28, none, .call (.f 30) [.t 26, .t 27, .k (.int .i64 65536)]⟩,
          ⟨some 29, none, .not (.t 28)⟩])
    (.cond (.t 29)
      (.seq (.reg
           [⟨some 30, none, .call (.f 50) []⟩,
            ⟨some 8, none, .mv (.t 30)⟩])
      (.ret))
      (.skip)))
  (.seq (.reg
       [⟨some 32, none, .ldn 24 3 (.t 4)⟩,
        ⟨some 33, none, .mv (.t 2)⟩,
        ⟨some 34, none, .mv (.t 3)⟩,
        ⟨some 35, none, .call (.f 49) [.t 32, .t 33, .t 34]⟩,
        ⟨some 31, none, .mv (.t 35)⟩,
        ⟨some 36, none, .ext (.t 31) 0⟩,
        ⟨some 37, none, .ext (.t 31) 1⟩,
        ⟨some 9, none, .alloc 24 [.v (.int .i64 0), .v (.int .i64 0), .cap 3 40 []]⟩,
        ⟨none, none, .stn 24 3 (.t 9) (.t 36)⟩,
        ⟨some 10, none, .mv (.t 37)⟩])
  (.seq (.seq (.reg
         [⟨some 38, none, .mv (.t 10)⟩,
          ⟨some 39, none, .bin .neq (.t 38) (.k (.int .i64 0))⟩,
          ⟨some 40, none, .mv (.t 39)⟩,
          ⟨some 41, some (40, false), .ldn 24 3 (.t 9)⟩,
          ⟨some 42, some (40, false), .mv (.t 1)⟩,
          ⟨some 43, some (40, false), .mv (.t 2)⟩,
          ⟨some 44, some (40, false), .bin .add (.t 42) (.t 43)⟩,
          ⟨some 45, some (40, false), .call (.f 30) [.t 41, .t 44, .k (.int .i64 65536)]⟩,
          ⟨some 46, some (40, false), .not (.t 45)⟩,
          ⟨some 47, none, .pick (.t 40) (.k (.bool true)) (.t 46)⟩])
    (.cond (.t 47)
      (.seq (.reg
           [⟨some 8, none, .mv (.k (.bool false))⟩])
      (.ret))
      (.skip)))
  (.seq (.reg
       [⟨some 48, none, .mv (.t 1)⟩,
        ⟨some 49, none, .mv (.t 3)⟩,
        ⟨some 50, none, .bin .gtr (.t 48) (.t 49)⟩,
        ⟨some 51, none, .mv (.t 50)⟩,
        ⟨some 52, some (51, false), .ldn 24 3 (.t 9)⟩,
        ⟨some 53, some (51, false), .ldn 24 3 (.t 4)⟩,
        ⟨some 54, some (51, false), .call (.f 45) [.t 52, .t 53]⟩,
        ⟨some 55, none, .pick (.t 51) (.k (.bool true)) (.t 54)⟩,
        ⟨some 56, none, .mv (.t 55)⟩,
        ⟨some 57, some (56, true), .call (.f 50) []⟩,
        ⟨some 58, none, .pick (.t 56) (.t 57) (.k (.bool false))⟩,
        ⟨some 8, none, .mv (.t 58)⟩])
  (.ret)))))))
def r12 : List RR := [.t 8]
theorem ok12 : okFn Go.Proofs.Try.prog 12 59 c12 r12 4 = true := by kernel_rfl

/- porism/porismref01.Binds -/
def c51 : SCode :=
  .seq (.reg
       [⟨some 4, none, .mv (.k (.int .i64 0))⟩])
  (.seq (.seq (.reg
         [⟨some 5, none, .mv (.t 1)⟩,
          ⟨some 6, none, .bin .eql (.t 5) (.k (.int .i64 1))⟩,
          ⟨some 7, none, .mv (.t 6)⟩,
          ⟨some 8, some (7, true), .mv (.t 0)⟩,
          ⟨some 9, some (7, true), .bin .eql (.t 8) (.k (.int .i64 4))⟩,
          ⟨some 10, some (7, true), .mv (.t 9)⟩,
          ⟨some 11, some (10, false), .mv (.t 0)⟩,
          ⟨some 12, some (10, false), .bin .eql (.t 11) (.k (.int .i64 5))⟩,
          ⟨some 13, some (7, true), .pick (.t 10) (.k (.bool true)) (.t 12)⟩,
          ⟨some 14, some (7, true), .mv (.t 13)⟩,
          ⟨some 15, some (14, false), .mv (.t 0)⟩,
          ⟨some 16, some (14, false), .bin .eql (.t 15) (.k (.int .i64 7))⟩,
          ⟨some 17, some (7, true), .pick (.t 14) (.k (.bool true)) (.t 16)⟩,
          ⟨some 18, none, .pick (.t 7) (.t 17) (.k (.bool false))⟩])
    (.cond (.t 18)
      (.seq (.reg
           [⟨some 4, none, .mv (.k (.int .i64 1))⟩])
      (.ret))
      (.skip)))
  (.seq (.reg
       [⟨some 4, none, .mv (.k (.int .i64 0))⟩])
  (.ret)))
def r51 : List RR := [.t 4]
theorem ok51 : okFn Go.Proofs.Try.prog 51 19 c51 r51 2 = true := by kernel_rfl

/- porism/shift.Lower -/
def c54 : SCode :=
  .seq (.reg
       [⟨some 2, none, .box 24 (.t 0)⟩,
        ⟨some 3, none, .box 3 (.t 1)⟩,
        ⟨some 4, none, .alloc 24 [.v (.int .i64 0), .v (.int .i64 0), .cap 3 40 []]⟩,
        ⟨some 5, none, .mv (.k (.bool false))⟩])
  (.seq (.seq (.reg
         [⟨some 6, none, .ldn 24 3 (.t 2)⟩,
          ⟨some 7, none, .call (.f 22) [.t 6]⟩,
          ⟨some 8, none, .bin .neq (.t 7) (.k (.int .i64 0))⟩,
          ⟨some 9, none, .mv (.t 8)⟩,
          ⟨some 10, some (9, false), .ld1 3 (.t 3)⟩,
          ⟨some 11, some (9, false), .call (.f 97) [.t 10]⟩,
          ⟨some 12, some (9, false), .not (.t 11)⟩,
          ⟨some 13, none, .pick (.t 9) (.k (.bool true)) (.t 12)⟩,
          ⟨some 14, none, .mv (.t 13)⟩,
          ⟨some 15, some (14, false), .ldn 24 3 (.t 2)⟩,
          ⟨some 16, some (14, false), .ld1 3 (.t 3)⟩,
          ⟨some 17, some (14, false), .call (.f 52) [.t 15, .t 16]⟩,
          ⟨some 18, some (14, false), .bin .gtr (.t 17) (.k (.int .i64 0))⟩,
          ⟨some 19, none, .pick (.t 14) (.k (.bool true)) (.t 18)⟩])
    (.cond (.t 19)
      (.seq (.reg
           [⟨some 20, none, .build 24 [.v (.int .i64 0), .v (.int .i64 0), .cap 3 40 []] []⟩,
            ⟨none, none, .stn 24 3 (.t 4) (.t 20)⟩,
            ⟨some 5, none, .mv (.k (.bool false))⟩])
      (.ret))
      (.skip)))
  (.seq (.reg
       [⟨some 21, none, .ldn 24 3 (.t 2)⟩,
        ⟨some 22, none, .mkfn 103 [] [.t 3]⟩,
        ⟨some 23, none, .call (.f 98) [.t 21, .k (.int .i64 0), .t 22]⟩,
        ⟨none, none, .stn 24 3 (.t 4) (.t 23)⟩,
        ⟨some 5, none, .mv (.k (.bool true))⟩])
  (.ret)))
def r54 : List RR := [.cn 4 3, .t 5]
theorem ok54 : okFn Go.Proofs.Try.prog 54 24 c54 r54 2 = true := by kernel_rfl

/- porism/shift.Lower$1 -/
def c103 : SCode :=
  .seq (.reg
       [⟨some 5, none, .alloc 24 [.v (.int .i64 0), .v (.int .i64 0), .cap 3 40 []]⟩])
  (.seq (.seq (.reg
         [⟨some 6, none, .mv (.t 0)⟩,
          ⟨some 7, none, .ld1 3 (.t 2)⟩,
          ⟨some 8, none, .mv (.t 1)⟩,
          ⟨some 9, none, .bin .add (.t 7) (.t 8)⟩,
          ⟨some 10, none, .bin .gtr (.t 6) (.t 9)⟩])
    (.cond (.t 10)
      (.reg
         [⟨some 11, none, .mv (.t 0)⟩,
          ⟨some 12, none, .bin .sub (.t 11) (.k (.int .i64 1))⟩,
          ⟨some 0, none, .mv (.t 12)⟩])
      (.skip)))
  (.seq (.reg
       [⟨some 13, none, .mv (.t 0)⟩,
        ⟨some 14, none, .call (.f 76) [.t 13]⟩,
        ⟨none, none, .stn 24 3 (.t 5) (.t 14)⟩])
  (.ret)))
def r103 : List RR := [.cn 5 3]
theorem ok103 : okFn Go.Proofs.Try.prog 103 15 c103 r103 3 = true := by kernel_rfl

end Go.Abs

namespace Go.Abs
open Go.Proofs

theorem may_ok {x : Int} (h0 : 0 ≤ x) (h1 : x ≤ 65535) : mayB x = true := by simp [mayB, h0, h1]
theorem shift_eq {t : T} (hc : t.count ≤ 1048576) {b fr : Int} (hb : 0 ≤ b) (hb2 : b ≤ 65535) (hfr : 0 ≤ fr) (hfr2 : fr ≤ 65535) :
    t.shift b fr = if t.check = 0 then (if t.ov b fr then (.zero, 6) else (t.mv b fr, 0)) else (.zero, t.check) := by
  by_cases h : t.check = 0
  · have hm := mapS_mv fr b hfr hfr2 hb hb2 t ((check_iff t).1 h).2.2 0 0 (by omega) (by omega)
    simp only [Int.add_zero] at hm
    simp only [T.shift, T.shiftM, h, may_ok hb hb2, may_ok hfr hfr2, hm]
    by_cases ho : t.ov b fr = true <;> simp [ho]
  · simp [T.shift, h]
theorem shift_ok {t : T} (hc : t.count ≤ 1048576) {b fr : Int} (hb : 0 ≤ b) (hb2 : b ≤ 65535) (hfr : 0 ≤ fr) (hfr2 : fr ≤ 65535) (h : (t.shift b fr).2 = 0) : t.check = 0 ∧ t.ov b fr = false ∧ (t.shift b fr).1 = t.mv b fr := by
  rw [shift_eq hc hb hb2 hfr hfr2] at h ⊢
  by_cases h1 : t.check = 0
  · by_cases h2 : t.ov b fr = true
    · simp [h1, h2] at h
    · simp only [h1, if_true, h2]; simp
  · simp only [h1, if_false] at h
theorem shift_bad {t : T} (hc : t.count ≤ 1048576) {b fr : Int} (hb : 0 ≤ b) (hb2 : b ≤ 65535) (hfr : 0 ≤ fr) (hfr2 : fr ≤ 65535) (h : t.check = 0) : (t.shift b fr).2 = 0 ∨ (t.shift b fr).2 = 6 := by
  rw [shift_eq hc hb hb2 hfr hfr2]
  by_cases h2 : t.ov b fr = true <;> simp [h, h2]
theorem shift_run {t : T} (hc : t.count ≤ 1048576) {b fr : Int} (hb : 0 ≤ b) (hb2 : b ≤ 65535) (hfr : 0 ≤ fr) (hfr2 : fr ≤ 65535) (h : t.check = 0) (ho : t.ov b fr = false) : t.shift b fr = (t.mv b fr, 0) := by
  rw [shift_eq hc hb hb2 hfr hfr2]
  simp [h, ho]
theorem mv_count' {t : T} (h : t.check = 0) (b c : Int) : (t.mv b c).count = t.count := mv_count t ((check_iff t).1 h).2.2 b c

theorem fn8 (t : T) (a b i k : Int) (hc : t.count ≤ 1048576) : Fn Try.prog 8 [tm t, ib a, ib b, ib i, ib k] (bb true) := by
  refine fn_of (base := 8000) ok8 rfl fun σ h0 hr => ?_
  have s0 := h0 0
  have s1 : σ.sl 1 = ib a := h0 1
  have s2 : σ.sl 2 = ib b := h0 2
  have s3 : σ.sl 3 = ib i := h0 3
  have s4 : σ.sl 4 = ib k := h0 4
  rw [slots0] at s0
  simp only [tm, ib] at s0 s1 s2 s3 s4
  clear h0 hr
  obtain ⟨a1, a2, a3⟩ := umod a (m := 30) (by omega) (by omega)
  obtain ⟨b1, b2, b3⟩ := umod b (m := 30) (by omega) (by omega)
  obtain ⟨i1, i2, i3⟩ := umod i (m := 10) (by omega) (by omega)
  obtain ⟨k1, k2, k3⟩ := umod k (m := 10) (by omega) (by omega)
  unfold c8
  simp [s0, room]
  refine ⟨fun x hx => cells_isD' _ x hx, ?_⟩
  refine ECall.fn (fn17 [t]) (by simp [tms]) (by simp) rfl fun _ => ?_
  simp [bb]
  refine ⟨fun hh => by simp [r8, hh], fun hh => ?_⟩
  simp [hh, s1, s2, s3, s4, a3, b3, i3, k3]
  generalize (uw a).tmod 30 = a at a1 a2 a3
  generalize (uw b).tmod 30 = b at b1 b2 b3
  generalize (uw i).tmod 10 = i at i1 i2 i3
  generalize (uw k).tmod 10 = k at k1 k2 k3
  have w1 : IntKind.wrap .i64 (i + k) = i + k := wrap_id (by omega) (by omega)
  have w2 : IntKind.wrap .i64 (i + k + a) = i + k + a := wrap_id (by omega) (by omega)
  clear s1 s2 s3 s4
  refine ECall.fn (fn49 t a i) (by simp [tm, ib]) (by simp) (by simp [tm, ib, AV.keys2]) fun _ => ?_
  simp [tm, ib, w1]
  refine ECall.fn (fn49 t b (i + k)) (by simp [tm, ib]) (by simp) (by simp [tm, ib, AV.keys2]) fun _ => ?_
  simp [tm, ib]
  refine ⟨fun he => ?_, fun e1 e2 => ?_⟩
  · refine ECall.fn fn50 (by simp) (by simp) rfl fun _ => ?_
    simp [bb, r8]
  · obtain ⟨c1, o1, m1⟩ := shift_ok hc a1 (by omega) i1 (by omega) e1
    obtain ⟨c2, o2, m2⟩ := shift_ok hc b1 (by omega) (by omega) (by omega) e2
    simp [m1, m2, w1, w2]
    refine ECall.fn (fn49 (t.mv a i) b (i + k + a)) (by simp [tm, ib]) (by simp) (by simp [tm, ib, AV.keys2]) fun _ => ?_
    simp [tm, ib]
    refine ECall.fn (fn49 (t.mv b (i + k)) a i) (by simp [tm, ib]) (by simp) (by simp [tm, ib, AV.keys2]) fun _ => ?_
    simp [tm, ib]
    have hc1 := mv_count' c1 a i
    have hc2 := mv_count' c1 b (i + k)
    have k1 := mv_check hc c1 a1 o1
    have k2 := mv_check hc c1 b1 o2
    refine ⟨fun he => ?_, fun e3 e4 => ?_⟩
    · have hor : ((t.mv a i).shift b (i + k + a)).2 = 6 ∨ ((t.mv b (i + k)).shift a i).2 = 6 := by
        have q1 := shift_bad (t := t.mv a i) (by omega) (b := b) (fr := i + k + a) b1 (by omega) (by omega) (by omega) k1
        have q2 := shift_bad (t := t.mv b (i + k)) (by omega) (b := a) (fr := i) a1 (by omega) (by omega) (by omega) k2
        omega
      refine GCall.fn (fun _ => fn50) (by simp) (by simp) rfl fun _ => ?_
      have hd : (decide (((t.mv a i).shift b (i + k + a)).2 = 6) || decide (((t.mv b (i + k)).shift a i).2 = 6)) = true := by simpa using hor
      simp [bb, r8, hd]
    · obtain ⟨_, _, m3⟩ := shift_ok (t := t.mv a i) (by omega) (b := b) (fr := i + k + a) b1 (by omega) (by omega) (by omega) e3
      obtain ⟨_, _, m4⟩ := shift_ok (t := t.mv b (i + k)) (by omega) (b := a) (fr := i) a1 (by omega) (by omega) (by omega) e4
      have hsw := mv_swap t a b i k a1 b1 (by omega)
      have c45 := fn45 ((t.mv a i).mv b (i + k + a)) ((t.mv b (i + k)).mv a i)
      rw [hsw, eqb_self] at c45
      simp [m3, m4, hsw]
      refine ECall.fn c45 (by simp [tm]) (by simp) rfl fun _ => ?_
      simp [bb]
      refine GCall.fn (fun _ => fn50) (by simp) (by simp) rfl fun _ => ?_
      simp [bb, r8]
end Go.Abs

namespace Go.Abs
open Go.Proofs

def lwO (n : Int) (tn : Nat) : Objs := [(54003, tn, .box 3 [.v (.int .i64 n)])]
theorem lwO_get {n : Int} {tn k t : Nat} {q : Obj} (h : (lwO n tn).lookup k = some (t, q)) : k = 54003 ∧ t = tn ∧ q = .box 3 [.v (.int .i64 n)] := by
  simp only [lwO, List.lookup_cons, List.lookup_nil] at h
  split at h
  · rename_i hk; cases h; exact ⟨by simpa using hk, rfl, rfl⟩
  · cases h
theorem lwO_kin (n n' : Int) (tn : Nat) : Kin (lwO n tn) (lwO n' tn) where
  there k t q h := by obtain ⟨rfl, rfl, rfl⟩ := lwO_get h; exact ⟨_, rfl⟩
  back k t q h := by obtain ⟨rfl, rfl, rfl⟩ := lwO_get h; exact ⟨_, rfl⟩
  data k t q h := by obtain ⟨rfl, rfl, rfl⟩ := lwO_get h; rfl

def lwV (m v d : Int) : T := .mk 1 (if IntKind.wrap .i64 (m + d) < v then IntKind.wrap .i64 (v - 1) else v) []

theorem sp103 (m v d : Int) (tn : Nat) : Spec Try.prog 103 [ib v, ib d, .c (.ref 54003 tn 0)] (lwO m tn) (tm (lwV m v d)) (lwO m tn) := by
  refine spec_of (base := 103000) ok103 rfl fun T hT hr => ?_
  have t1 := hT 54003 tn _ rfl
  clear hT hr
  generalize hσ : (⟨slotsOf [ib v, ib d, .c (.ref 54003 tn 0)], obsOf (lwO m tn), T⟩ : St) = σ
  have s0 : σ.sl 0 = .c (.v (.int .i64 v)) := by rw [← hσ]; rfl
  have s1 : σ.sl 1 = .c (.v (.int .i64 d)) := by rw [← hσ]; rfl
  have s2 : σ.sl 2 = .c (.ref 54003 tn 0) := by rw [← hσ]; rfl
  have o1 : σ.ob 54003 = some (.box 3 [.v (.int .i64 m)]) := by rw [← hσ]; rfl
  have g1 : σ.tg 54003 = tn := by rw [← hσ]; exact t1
  clear hσ
  have fin : ∀ σ' : St, σ'.ob 54003 = some (.box 3 [.v (.int .i64 m)]) → σ'.tg 54003 = tn →
      (∀ r, r ∈ r103 → rrGok σ' r) → resOf σ' r103 = some (tm (lwV m v d)) → EndOK (lwO m tn) r103 (tm (lwV m v d)) (lwO m tn) σ' := fun σ' a1 b1 hg hres => by
    refine ⟨hg, hres, fun k t q h => ?_⟩
    obtain ⟨rfl, rfl, rfl⟩ := lwO_get h
    exact ⟨a1, b1, _, rfl⟩
  unfold c103
  by_cases h1 : IntKind.wrap .i64 (m + d) < v
  · simp [s0, s1, s2, o1, g1, h1]
    refine ECall.fn (fn76 (IntKind.wrap .i64 (v - 1))) (by simp [ib]) (by simp) (by simp [tm]) fun _ => ?_
    simp [tm]
    refine fin _ (by simp [o1]) (by simp [g1]) (by simp [r103]) (by simp [r103, tm, lwV, h1])
  · simp [s0, s1, s2, o1, g1, h1]
    refine ECall.fn (fn76 v) (by simp [ib]) (by simp) (by simp [tm]) fun _ => ?_
    simp [tm]
    refine fin _ (by simp [o1]) (by simp [g1]) (by simp [r103]) (by simp [r103, tm, lwV, h1])

def T.lowM (t : T) (m : Int) : T := (t.mapS (S := Unit) (fun _ v d => lwV m v d) (fun _ _ _ => ()) () 0).1
def T.lower (t : T) (m : Int) : T × Bool := if t.check ≠ 0 then (.zero, false) else if mayB m = false then (.zero, false) else if 0 < t.cnt m 0 then (.zero, false) else (t.lowM m, true)

theorem spLow (m : Int) (tn : Nat) (t : T) (d : Int) : Spec Try.prog 98 [tm t, ib d, .c (.clo 103 [] [(54003, tn)])] (lwO m tn) (tm (t.mapS (S := Unit) (fun _ v d => lwV m v d) (fun _ _ _ => ()) () d).1) (lwO m tn) :=
  sp98 (O := fun _ : Unit => lwO m tn) (fun _ n d => sp103 m n d tn) (fun _ _ => lwO_kin m m tn) (fun _ k h1 h2 => by
    cases h : (lwO m tn).lookup k with
    | none => rfl
    | some x =>
      obtain ⟨t, q⟩ := x
      obtain ⟨rfl, _⟩ := lwO_get h
      omega) t () d

theorem fn54 (t : T) (m : Int) : Fn Try.prog 54 [tm t, ib m] (.tup [tm (t.lower m).1, bb (t.lower m).2]) := by
  refine fn_of (base := 54000) ok54 rfl fun σ h0 hr => ?_
  have s0 := h0 0
  have s1 := h0 1
  rw [slots0] at s0
  rw [slots1] at s1
  simp only [tm, ib] at s0 s1
  clear h0 hr
  unfold c54
  simp [s0, s1]
  refine ECall.fn (fn22 t) (by simp [tm]) (by simp) rfl fun _ => ?_
  simp [ib]
  refine GCall.fn (fun _ => fn97 m) (by simp [ib]) (by simp) rfl fun _ => ?_
  simp [bb]
  refine GCall.fn (fun _ => fn52 t m) (by simp [ib, tm]) (by simp) rfl fun _ => ?_
  simp [ib, r54]
  have hif : (if 0 ≤ m ∧ m ≤ 65535 then t.cnt m 0 else 0) = if mayB m = true then t.cnt m 0 else 0 := by simp [mayB]
  rw [hif]
  have hmb : mayB m = (decide (0 ≤ m) && decide (m ≤ 65535)) := rfl
  refine ⟨fun he => ?_, fun e1 => ?_⟩
  · have hl : t.lower m = (.zero, false) := by
      by_cases h1 : t.check = 0
      · by_cases h2 : mayB m = true
        · have h3 : 0 < t.cnt m 0 := by
            simp only [h2, if_true] at he
            simp [mayB] at h2
            omega
          simp [T.lower, h1, h2, h3]
        · simp [T.lower, h1, h2]
      · simp [T.lower, h1]
    simp [hl, tm, bb, cells_mk, T.zero]
  · intro h0 h1 h2
    have hm : mayB m = true := by simp [mayB, h0, h1]
    simp only [hm, if_true] at h2
    have h3 : ¬ 0 < t.cnt m 0 := by omega
    refine ECall.obj (rs := []) (args := [tm t, ib 0, .c (.clo 103 [] [(54003, σ.tg 54003 + 1)])])
      (by simpa [refs] using spLow m (σ.tg 54003 + 1) t 0) (by simp [tm, ib]) (by simp) (by simp [tm]) ?_ (lwO_kin _ _ _) fun _ => ?_
    · intro k t' q h
      obtain ⟨rfl, rfl, rfl⟩ := lwO_get h
      simp
    · have n4 : ∀ (τ : St), (τ.puts (lwO m (σ.tg 54003 + 1))).ob 54004 = τ.ob 54004 := fun τ => puts_none rfl
      simp [tm, n4, T.lower, e1, hm, h3, T.lowM]

/-! ### plainly -/
mutual
def T.occ : T → Int → Nat
  | .mk k n ts, v => (if k = 1 ∧ n = v then 1 else 0) + T.occL k v 0 ts
def T.occL (k v : Int) : Int → List T → Nat
  | _, [] => 0
  | i, t :: ts => T.occ t (v + bindsOf k i) + T.occL k v (i + 1) ts
end
theorem occ_le (t : T) : ∀ v, t.occ v ≤ t.count := by
  induction t using T.ind with
  | h k n ts ih =>
  intro v
  have key : ∀ (ts : List T) (i : Int), (∀ t, t ∈ ts → ∀ v, t.occ v ≤ t.count) → T.occL k v i ts ≤ T.countL ts := by
    intro ts
    induction ts with
    | nil => intro i _; simp [T.occL, T.countL]
    | cons t ts ih2 =>
      intro i h
      have h1 := h t (by simp) (v + bindsOf k i)
      have h2 := ih2 (i + 1) fun u hu => h u (by simp [hu])
      simp only [T.occL, T.countL]; omega
  have := key ts 0 ih
  simp only [T.occ, T.count]
  split <;> omega
theorem cnt_occ (t : T) : ∀ b d : Int, 0 ≤ b → 0 ≤ d → b + d + t.count ≤ 4611686018427387 → t.cnt b d = (t.occ (b + d) : Nat) := by
  induction t using T.ind with
  | h k n ts ih =>
  intro b d hb hd hc
  simp only [T.count] at hc
  have w : IntKind.wrap .i64 (b + d) = b + d := wrap_id (by omega) (by omega)
  have key : ∀ (ts : List T) (i a : Int), (∀ t, t ∈ ts → ∀ b d : Int, 0 ≤ b → 0 ≤ d → b + d + t.count ≤ 4611686018427387 → t.cnt b d = (t.occ (b + d) : Nat)) → 0 ≤ a → a + T.countL ts ≤ 4611686018427388 → b + d + 1 + T.countL ts ≤ 4611686018427387 →
      T.cntL k b d i a ts = a + (T.occL k (b + d) i ts : Nat) := by
    intro ts
    induction ts with
    | nil => intro i a _ _ _ _; simp [T.cntL, T.occL]
    | cons t ts ih2 =>
      intro i a h ha hc2 hc
      simp only [T.countL] at hc hc2
      have hbd := binds01 k i
      have h1 := h t (by simp) b (d + bindsOf k i) hb (by omega) (by omega)
      have h2 := occ_le t (b + (d + bindsOf k i))
      have w1 : IntKind.wrap .i64 (a + (t.occ (b + (d + bindsOf k i)) : Nat)) = a + (t.occ (b + (d + bindsOf k i)) : Nat) := wrap_id (by omega) (by omega)
      simp only [T.cntL, wrap_dp (k := k) (i := i) hd (by omega), h1, w1]
      rw [ih2 (i + 1) _ (fun u hu => h u (by simp [hu])) (by omega) (by omega) (by omega)]
      have e : b + (d + bindsOf k i) = b + d + bindsOf k i := by omega
      rw [e]
      simp only [T.occL]; omega
  simp only [T.cnt, T.occ, w]
  by_cases h : k = 1 ∧ n = b + d
  · rw [if_pos h, if_pos h, key ts 0 1 ih (by omega) (by omega) (by omega)]; omega
  · rw [if_neg h, if_neg h, key ts 0 0 ih (by omega) (by omega) (by omega)]; omega
theorem occ_gap (t : T) : ∀ y c v : Int, c ≤ v → v < c + y → (t.mv y c).occ v = 0 := by
  induction t using T.ind with
  | h k n ts ih =>
  intro y c v h1 h2
  by_cases hk : k = 1
  · subst hk
    simp only [T.mv, if_true, T.occ, T.occL]
    split <;> simp <;> omega
  · have key : ∀ (ts : List T) (i : Int), (∀ t, t ∈ ts → ∀ y c v : Int, c ≤ v → v < c + y → (t.mv y c).occ v = 0) → T.occL k v i (T.mvL k y c i ts) = 0 := by
      intro ts
      induction ts with
      | nil => intro i _; simp [T.mvL, T.occL]
      | cons t ts ih2 =>
        intro i h
        simp only [T.mvL, T.occL]
        rw [h t (by simp) y _ _ (by omega) (by omega), ih2 (i + 1) fun u hu => h u (by simp [hu])]
    simp only [T.mv, hk, if_false, T.occ]
    rw [key ts 0 ih]
    simp
mutual
def T.lw : T → Int → T
  | .mk k n ts, c => if k = 1 then .mk 1 (if c < n then n - 1 else n) [] else .mk k n (T.lwL k c 0 ts)
def T.lwL (k c : Int) : Int → List T → List T
  | _, [] => []
  | i, t :: ts => T.lw t (c + bindsOf k i) :: T.lwL k c (i + 1) ts
end
theorem mapS_lw (m : Int) (hm : 0 ≤ m) (hm2 : m ≤ 65535) (t : T) : t.formed = true → ∀ d : Int, 0 ≤ d → d + t.count ≤ 4611686018427387 →
    (t.mapS (S := Unit) (fun _ v d => lwV m v d) (fun _ _ _ => ()) () d).1 = t.lw (m + d) := by
  induction t using T.ind with
  | h k n ts ih =>
  intro hf d h0 h1
  rw [T.formed, Bool.and_eq_true, formedL_all, List.all_eq_true] at hf
  by_cases hk : k = 1
  · subst hk
    have hh := hf.1
    simp [badHead, kidsOf] at hh
    have hn : 0 ≤ n ∧ n ≤ 65535 := by omega
    have w1 : IntKind.wrap .i64 (m + d) = m + d := wrap_id (by omega) (by omega)
    have w2 : IntKind.wrap .i64 (n - 1) = n - 1 := wrap_id (by omega) (by omega)
    simp only [T.mapS, if_true, lwV, w1, w2, T.lw]
  · have key : ∀ (ts : List T) (i : Int), (∀ t, t ∈ ts → ∀ d : Int, 0 ≤ d → d + t.count ≤ 4611686018427387 → (t.mapS (S := Unit) (fun _ v d => lwV m v d) (fun _ _ _ => ()) () d).1 = t.lw (m + d)) →
        d + 1 + T.countL ts ≤ 4611686018427387 → (T.mapSL (S := Unit) (fun _ v d => lwV m v d) (fun _ _ _ => ()) k d i ts ()).1 = T.lwL k (m + d) i ts := by
      intro ts
      induction ts with
      | nil => intro i _ _; simp [T.mapSL, T.lwL]
      | cons t ts ih2 =>
        intro i h hc
        simp only [T.countL] at hc
        have hbd := binds01 k i
        have ht := h t (by simp) (d + bindsOf k i) (by omega) (by omega)
        simp only [T.mapSL, wrap_dp (k := k) (i := i) h0 (by omega), ht, T.lwL]
        rw [ih2 (i + 1) (fun u hu => h u (by simp [hu])) (by omega)]
        have e : m + (d + bindsOf k i) = m + d + bindsOf k i := by omega
        rw [e]
    simp only [T.count] at h1
    simp only [T.mapS, hk, if_false, T.lw]
    rw [key ts 0 (fun t ht => ih t ht (hf.2 t ht)) (by omega)]
theorem lw_mv (t : T) : t.formed = true → ∀ c : Int, (t.mv 1 c).lw c = t := by
  induction t using T.ind with
  | h k n ts ih =>
  intro hf c
  rw [T.formed, Bool.and_eq_true, formedL_all, List.all_eq_true] at hf
  by_cases hk : k = 1
  · subst hk
    have hh := hf.1
    simp [badHead, kidsOf] at hh
    have hts : ts = [] := hh.1.1
    subst hts
    simp only [T.mv, T.lw, if_true]
    congr 1
    split <;> split <;> omega
  · have key : ∀ (ts : List T) (i : Int), (∀ t, t ∈ ts → ∀ c : Int, (t.mv 1 c).lw c = t) → T.lwL k c i (T.mvL k 1 c i ts) = ts := by
      intro ts
      induction ts with
      | nil => intro i _; simp [T.mvL, T.lwL]
      | cons t ts ih2 =>
        intro i h
        simp only [T.mvL, T.lwL]
        rw [h t (by simp), ih2 (i + 1) fun u hu => h u (by simp [hu])]
    simp only [T.mv, T.lw, hk, if_false]
    rw [key ts 0 fun t ht => ih t ht (hf.2 t ht)]
theorem lower_mv {t : T} (hc : t.count ≤ 1048576) (h : t.check = 0) {c : Int} (h0 : 0 ≤ c) (h1 : c ≤ 65535) (ho : t.ov 1 c = false) : (t.mv 1 c).lower c = (t, true) := by
  have hf := ((check_iff t).1 h).2.2
  have k1 := mv_check hc h (by omega) ho
  have hc1 := mv_count' h 1 c
  have hf2 := ((check_iff _).1 k1).2.2
  have h2 := cnt_occ (t.mv 1 c) c 0 h0 (by omega) (by omega)
  rw [Int.add_zero, occ_gap t 1 c c (by omega) (by omega)] at h2
  have h3 := mapS_lw c h0 h1 (t.mv 1 c) hf2 0 (by omega) (by omega)
  rw [Int.add_zero, lw_mv t hf] at h3
  simp [T.lower, k1, may_ok h0 h1, h2, T.lowM, h3]
end Go.Abs

namespace Go.Abs
open Go.Proofs

/-! In scope: no variable wraps. -/
mutual
def T.inS : T → Int → Int → Bool
  | .mk k n ts, a, b => if k = 1 then decide (n < a) else if k = 2 then decide (n ≤ 6) else if k = 3 then decide (n < b) else T.inSL k a b 0 ts
def T.inSL (k a b : Int) : Int → List T → Bool
  | _, [] => true
  | i, t :: ts => T.inS t (a + bindsOf k i) b && T.inSL k a b (i + 1) ts
end
theorem within_inS (t : T) : ∀ a b : Int, 0 ≤ a → a + t.count ≤ 4611686018427387 → t.within a b = t.inS a b := by
  induction t using T.ind with
  | h k n ts ih =>
  intro a b ha hc
  simp only [T.count] at hc
  have key : ∀ (ts : List T) (i : Int), (∀ t, t ∈ ts → ∀ a b : Int, 0 ≤ a → a + t.count ≤ 4611686018427387 → t.within a b = t.inS a b) → a + 1 + T.countL ts ≤ 4611686018427387 → T.withinL k a b i ts = T.inSL k a b i ts := by
    intro ts
    induction ts with
    | nil => intro i _ _; simp [T.withinL, T.inSL]
    | cons t ts ih2 =>
      intro i h hc
      simp only [T.countL] at hc
      have hbd := binds01 k i
      simp only [T.withinL, T.inSL, wrap_dp (k := k) (i := i) ha (by omega)]
      rw [ih2 (i + 1) (fun u hu => h u (by simp [hu])) (by omega), h t (by simp) _ b (by omega) (by omega)]
  simp only [T.within, T.inS]
  rw [key ts 0 ih (by omega)]

theorem scope_iff {t : T} (hc : t.count ≤ 1048576) {a b : Int} (ha : a ≤ 60000) : t.scope a b = true ↔ 0 ≤ a ∧ 0 ≤ b ∧ t.check = 0 ∧ t.inS a b = true := by
  simp only [T.scope, Bool.and_eq_true, decide_eq_true_eq]
  have hm : best2 false a 65536 = a := by simp only [best2]; simp; omega
  rw [hm]
  constructor
  · rintro ⟨⟨⟨h1, h2⟩, h3⟩, h4⟩
    rw [within_inS t a b h1 (by omega)] at h4
    exact ⟨h1, h2, h3, h4⟩
  · rintro ⟨h1, h2, h3, h4⟩
    rw [within_inS t a b h1 (by omega)]
    exact ⟨⟨⟨h1, h2⟩, h3⟩, h4⟩

theorem head_leaf {k n : Int} {ts : List T} (h : (!badHead k n ts.length) = true) (hk : k = 1 ∨ k = 2 ∨ k = 3) : ts = [] := by
  have : badHead k n ts.length = false := by simpa using h
  have h2 : ¬ badHead k n ts.length = true := by simp [this]
  rw [bad_iff] at h2
  have h3 : (ts.length : Int) = kidsOf k := by omega
  have h4 : kidsOf k = 0 := by rcases hk with rfl | rfl | rfl <;> rfl
  exact List.length_eq_zero_iff.1 (by omega)

theorem inS_ov (t : T) : t.formed = true → ∀ a b c y : Int, t.inS a b = true → a + t.count + y ≤ 65535 → t.ov y c = false := by
  induction t using T.ind with
  | h k n ts ih =>
  intro hf a b c y h hc
  simp only [T.count] at hc
  rw [T.formed, Bool.and_eq_true, formedL_all, List.all_eq_true] at hf
  by_cases hk : k = 1
  · subst hk
    simp only [T.inS, if_true, decide_eq_true_eq] at h
    simp only [T.ov, if_true, Bool.and_eq_false_iff, decide_eq_false_iff_not]
    omega
  · by_cases hl : k = 1 ∨ k = 2 ∨ k = 3
    · have := head_leaf hf.1 hl
      subst this
      simp [T.ov, hk, T.ovL]
    · have h2 : k ≠ 2 := fun h => hl (.inr (.inl h))
      have h3 : k ≠ 3 := fun h => hl (.inr (.inr h))
      simp only [T.inS, hk, h2, h3, if_false] at h
      have key : ∀ (ts : List T) (i : Int), (∀ t, t ∈ ts → ∀ a b c y : Int, t.inS a b = true → a + t.count + y ≤ 65535 → t.ov y c = false) → a + 1 + T.countL ts + y ≤ 65535 → T.inSL k a b i ts = true → T.ovL k y c i ts = false := by
        intro ts
        induction ts with
        | nil => intro i _ _ _; simp [T.ovL]
        | cons t ts ih2 =>
          intro i h hc hh
          simp only [T.countL] at hc
          have hbd := binds01 k i
          simp only [T.inSL, Bool.and_eq_true] at hh
          simp only [T.ovL, Bool.or_eq_false_iff]
          exact ⟨h t (by simp) _ b _ y hh.1 (by omega), ih2 (i + 1) (fun u hu => h u (by simp [hu])) (by omega) hh.2⟩
      simp only [T.ov, hk, if_false]
      exact key ts 0 (fun t ht => ih t ht (hf.2 t ht)) (by omega) h
theorem inS_mv (t : T) : ∀ a b c y : Int, 0 ≤ y → t.inS a b = true → (t.mv y c).inS (a + y) b = true := by
  induction t using T.ind with
  | h k n ts ih =>
  intro a b c y hy h
  by_cases hk : k = 1
  · subst hk
    simp only [T.inS, if_true, decide_eq_true_eq] at h
    simp only [T.mv, T.inS, if_true, decide_eq_true_eq]
    split <;> omega
  · simp only [T.mv, hk, if_false]
    simp only [T.inS, hk, if_false] at h ⊢
    by_cases h2 : k = 2
    · simpa [h2] using h
    · by_cases h3 : k = 3
      · simpa [h2, h3] using h
      · simp only [h2, h3, if_false] at h ⊢
        have key : ∀ (ts : List T) (i : Int), (∀ t, t ∈ ts → ∀ a b c y : Int, 0 ≤ y → t.inS a b = true → (t.mv y c).inS (a + y) b = true) → T.inSL k a b i ts = true → T.inSL k (a + y) b i (T.mvL k y c i ts) = true := by
          intro ts
          induction ts with
          | nil => intro i _ _; simp [T.mvL, T.inSL]
          | cons t ts ih2 =>
            intro i h hh
            simp only [T.inSL, Bool.and_eq_true] at hh
            simp only [T.mvL, T.inSL, Bool.and_eq_true]
            have h1 := h t (by simp) (a + bindsOf k i) b (c + bindsOf k i) y hy hh.1
            have e : a + bindsOf k i + y = a + y + bindsOf k i := by omega
            rw [e] at h1
            exact ⟨h1, ih2 (i + 1) (fun u hu => h u (by simp [hu])) hh.2⟩
        exact key ts 0 ih h
theorem inS_same (t : T) : t.formed = true → ∀ a b c y : Int, a ≤ c → t.inS a b = true → t.mv y c = t := by
  induction t using T.ind with
  | h k n ts ih =>
  intro hf a b c y hac h
  rw [T.formed, Bool.and_eq_true, formedL_all, List.all_eq_true] at hf
  by_cases hk : k = 1
  · subst hk
    have := head_leaf hf.1 (.inl rfl)
    subst this
    simp only [T.inS, if_true, decide_eq_true_eq] at h
    have : n < c := by omega
    simp [T.mv, this]
  · by_cases hl : k = 1 ∨ k = 2 ∨ k = 3
    · have := head_leaf hf.1 hl
      subst this
      simp [T.mv, hk, T.mvL]
    · have h2 : k ≠ 2 := fun h => hl (.inr (.inl h))
      have h3 : k ≠ 3 := fun h => hl (.inr (.inr h))
      simp only [T.inS, hk, h2, h3, if_false] at h
      have key : ∀ (ts : List T) (i : Int), (∀ t, t ∈ ts → ∀ a b c y : Int, a ≤ c → t.inS a b = true → t.mv y c = t) → T.inSL k a b i ts = true → T.mvL k y c i ts = ts := by
        intro ts
        induction ts with
        | nil => intro i _ _; simp [T.mvL]
        | cons t ts ih2 =>
          intro i h hh
          simp only [T.inSL, Bool.and_eq_true] at hh
          simp only [T.mvL]
          rw [h t (by simp) _ b _ y (by omega) hh.1, ih2 (i + 1) (fun u hu => h u (by simp [hu])) hh.2]
      simp only [T.mv, hk, if_false]
      rw [key ts 0 (fun t ht => ih t ht (hf.2 t ht)) h]

theorem fn12 (t : T) (v b fr : Int) (hc : t.count ≤ 1048576) : Fn Try.prog 12 [tm t, ib v, ib b, ib fr] (bb true) := by
  refine fn_of (base := 12000) ok12 rfl fun σ h0 hr => ?_
  have s0 := h0 0
  have s1 : σ.sl 1 = ib v := h0 1
  have s2 : σ.sl 2 = ib b := h0 2
  have s3 : σ.sl 3 = ib fr := h0 3
  rw [slots0] at s0
  simp only [tm, ib] at s0 s1 s2 s3
  clear h0 hr
  obtain ⟨v1, v2, v3⟩ := umod v (m := 30) (by omega) (by omega)
  obtain ⟨b1, b2, b3⟩ := umod b (m := 30) (by omega) (by omega)
  obtain ⟨i1, i2, i3⟩ := umod fr (m := 30) (by omega) (by omega)
  unfold c12
  simp [s0, room]
  refine ⟨fun x hx => cells_isD' _ x hx, ?_⟩
  refine ECall.fn (fn17 [t]) (by simp [tms]) (by simp) rfl fun _ => ?_
  simp [bb]
  refine ⟨fun hh => by simp [r12, hh], fun hh => ?_⟩
  simp [hh, s1, s2, s3, v3, b3, i3]
  generalize (uw v).tmod 30 = v at v1 v2 v3
  generalize (uw b).tmod 30 = b at b1 b2 b3
  generalize (uw fr).tmod 30 = i at i1 i2 i3
  have w1 : IntKind.wrap .i64 (v + b) = v + b := wrap_id (by omega) (by omega)
  clear s1 s2 s3
  refine ECall.fn (fn30 t v 65536) (by simp [tm, ib]) (by simp) (by simp [bb]) fun _ => ?_
  simp [bb]
  refine ⟨fun he => ?_, fun he => ?_⟩
  · simp [he]
    refine ECall.fn fn50 (by simp) (by simp) rfl fun _ => ?_
    simp [bb, r12]
  · obtain ⟨_, _, c1, hin⟩ := (scope_iff hc (by omega)).1 he
    have hf := ((check_iff t).1 c1).2.2
    have h6 := count_6000 hc c1
    have ho := inS_ov t hf v 65536 i b hin (by omega)
    have hs := shift_run hc b1 (by omega) i1 (by omega) c1 ho
    have hc1 := mv_count' c1 b i
    have k1 := mv_check hc c1 b1 ho
    have hin2 := inS_mv t v 65536 i b b1 hin
    have hsc : (t.mv b i).scope (v + b) 65536 = true := (scope_iff (by omega) (by omega)).2 ⟨by omega, by omega, k1, hin2⟩
    have c49 := fn49 t b i
    rw [hs] at c49
    have c30 := fn30 (t.mv b i) (v + b) 65536
    rw [hsc] at c30
    have c45 := fn45 (t.mv b i) t
    simp [he]
    refine ECall.fn c49 (by simp [tm, ib]) (by simp) (by simp [tm, ib, AV.keys2]) fun _ => ?_
    simp [tm, ib, w1]
    refine GCall.fn (fun _ => c30) (by simp [tm, ib]) (by simp) rfl fun _ => ?_
    simp [bb]
    refine GCall.fn (fun _ => c45) (by simp [tm, ib]) (by simp) rfl fun _ => ?_
    have hor : (decide (i < v) || T.eqb (t.mv b i) t) = true := by
      by_cases hlt : i < v
      · simp [hlt]
      · rw [inS_same t hf v 65536 i b (by omega) hin, eqb_self]; simp
    simp [bb, hor]
    refine GCall.fn (fun _ => fn50) (by simp) (by simp) rfl fun _ => ?_
    simp [bb, r12]
end Go.Abs

namespace Go.Abs

/- porism/term.Consts -/
def c60 : SCode :=
  .seq (.reg
       [⟨some 1, none, .box 24 (.t 0)⟩,
        ⟨some 2, none, .mv (.nil 1 8)⟩])
  (.seq (.reg
       [⟨some 4, none, .mkmap true⟩,
        ⟨some 3, none, .mv (.t 4)⟩])
  (.seq (.reg
       [⟨some 5, none, .ldn 24 3 (.t 1)⟩,
        ⟨some 6, none, .mv (.t 3)⟩,
        ⟨some 7, none, .call (.f 107) [.t 5, .t 6]⟩])
  (.seq (.reg
       [⟨some 8, none, .mv (.t 3)⟩,
        ⟨some 9, none, .call (.f 109) [.t 8]⟩,
        ⟨some 10, none, .call (.f 108) [.t 9]⟩,
        ⟨some 2, none, .mv (.t 10)⟩])
  (.ret))))
def r60 : List RR := [.t 2]
theorem ok60 : okFn Go.Proofs.Try.prog 60 11 c60 r60 1 = true := by kernel_rfl

/- porism/term.consts -/
def c107b0 : SCode :=
  .seq (.reg
       [⟨some 16, none, .bin .lss (.t 15) (.t 14)⟩])
  (.seq (.cond (.t 16)
      (.skip)
      (.exit 0))
  (.seq (.block 1 (.seq (.reg
           [⟨some 17, none, .iad 24 3 (.t 13) (.t 15)⟩,
            ⟨some 18, none, .ldn 24 3 (.t 17)⟩,
            ⟨some 5, none, .alloc 24 [.v (.int .i64 0), .v (.int .i64 0), .cap 3 40 []]⟩,
            ⟨none, none, .stn 24 3 (.t 5) (.t 18)⟩])
      (.reg
         [⟨some 19, none, .ldn 24 3 (.t 5)⟩,
          ⟨some 20, none, .mv (.t 1)⟩,
          ⟨some 21, none, .call (.f 107) [.t 19, .t 20]⟩])))
  (.reg
     [⟨some 22, none, .bin .add (.t 15) (.k (.int .i64 1))⟩,
      ⟨some 15, none, .mv (.t 22)⟩])))
def c107 : SCode :=
  .seq (.reg
       [⟨some 2, none, .box 24 (.t 0)⟩])
  (.seq (.seq (.reg
         [⟨some 6, none, .fad 24 0 0 (.t 2)⟩,
          ⟨some 7, none, .ld1 3 (.t 6)⟩,
          ⟨some 8, none, .bin .eql (.t 7) (.k (.int .i64 3))⟩])
    (.cond (.t 8)
      (.reg
         [⟨some 9, none, .mv (.t 1)⟩,
          ⟨some 10, none, .fad 24 1 1 (.t 2)⟩,
          ⟨some 11, none, .ld1 3 (.t 10)⟩,
          ⟨none, none, .mset true (.t 9) (.t 11) (.k (.bool true))⟩])
      (.skip)))
  (.seq (.reg
       [⟨some 12, none, .fad 24 2 2 (.t 2)⟩,
        ⟨some 13, none, .ld1 22 (.t 12)⟩,
        ⟨some 14, none, .len 22 (.t 13)⟩,
        ⟨some 15, none, .mv (.k (.int .i64 0))⟩])
  (.block 0 (.loop c107b0))))
def r107 : List RR := []
theorem ok107 : okFn Go.Proofs.Try.prog 107 23 c107 r107 2 = true := by kernel_rfl

/- maps.Keys[map[int]bool,int,bool] -/
def c109 : SCode :=
  .seq (.reg
       [⟨some 1, none, .box 96 (.t 0)⟩,
        ⟨some 2, none, .mv (.k (.nilFunc))⟩])
  (.seq (.reg
       [⟨some 3, none, .mkfn 123 [] [.t 1]⟩,
        ⟨some 2, none, .mv (.t 3)⟩])
  (.ret))
def r109 : List RR := [.t 2]
theorem ok109 : okFn Go.Proofs.Try.prog 109 4 c109 r109 1 = true := by kernel_rfl

end Go.Abs

namespace Go.Abs
open Go.Proofs

/-! ### the constants of a term, noted in a map -/
def addK (ks : List Int) (n : Int) : List Int := if n ∈ ks then ks else ks ++ [n]
def encK (ks : List Int) : List (Int × List Cell) := ks.map fun n => (n, [.v (.bool true)])
theorem mset_encK (ks : List Int) (n : Int) : msetL (encK ks) n [.v (.bool true)] = encK (addK ks n) := by
  unfold msetL
  cases hf : (encK ks).findIdx? (fun p => p.1 == n) with
  | none =>
    have h : n ∉ ks := fun h => by
      have := List.findIdx?_eq_none_iff.1 hf (n, [.v (.bool true)]) (List.mem_map.2 ⟨n, h, rfl⟩)
      simp at this
    simp [addK, h, encK]
  | some j =>
    obtain ⟨hj, hm, _⟩ := List.findIdx?_eq_some_iff_getElem.1 hf
    have hj2 : j < ks.length := by simpa [encK] using hj
    have e1 : (encK ks)[j] = (ks[j], [.v (.bool true)]) := by simp [encK]
    rw [e1] at hm
    have hm : ks[j] = n := by simpa using hm
    have h : n ∈ ks := by rw [← hm]; exact List.getElem_mem hj2
    simp only [addK, h, if_true]
    apply List.ext_getElem?
    intro i
    rw [List.getElem?_set]
    split
    · rename_i hi; subst hi
      rw [List.getElem?_eq_getElem hj, e1, hm]
    · rfl
mutual
def T.cons : T → List Int → List Int
  | .mk k n ts, ks => T.consL ts (if k = 3 then addK ks n else ks)
def T.consL : List T → List Int → List Int
  | [], ks => ks
  | t :: ts, ks => T.consL ts (T.cons t ks)
end

def mpO (k tg : Nat) (ks : List Int) : Objs := [(k, tg, .mob true (encK ks))]
theorem mpO_get {k tg k' t : Nat} {ks : List Int} {q : Obj} (h : (mpO k tg ks).lookup k' = some (t, q)) : k' = k ∧ t = tg ∧ q = .mob true (encK ks) := by
  simp only [mpO, List.lookup_cons, List.lookup_nil] at h
  split at h
  · rename_i hk; cases h; exact ⟨by simpa using hk, rfl, rfl⟩
  · cases h
theorem mpO_self (k tg : Nat) (ks : List Int) : (mpO k tg ks).lookup k = some (tg, .mob true (encK ks)) := by simp [mpO]
theorem mpO_kin (k tg : Nat) (ks ks' : List Int) : Kin (mpO k tg ks) (mpO k tg ks') where
  there k' t q h := by obtain ⟨rfl, rfl, rfl⟩ := mpO_get h; exact ⟨_, mpO_self _ _ _⟩
  back k' t q h := by obtain ⟨rfl, rfl, rfl⟩ := mpO_get h; exact ⟨_, mpO_self _ _ _⟩
  data k' t q h := by obtain ⟨rfl, rfl, rfl⟩ := mpO_get h; rfl

theorem sp107 (t : T) : ∀ (k tg : Nat) (ks : List Int), ¬ (107000 ≤ k ∧ k < 108000) → Spec Try.prog 107 [tm t, .c (.mp k tg)] (mpO k tg ks) (.tup []) (mpO k tg (t.cons ks)) := by
  induction t using T.ind with
  | h kd n ts ih =>
  intro k tg ks hk
  refine spec_of (base := 107000) ok107 rfl fun T0 hT hr => ?_
  have hlen := real_kids (hr (tm (.mk kd n ts)) (by simp))
  rw [kids_mk] at hlen
  have t1 := hT k tg _ (mpO_self _ _ _)
  clear hr hT
  generalize hσ : (⟨slotsOf [tm (.mk kd n ts), .c (.mp k tg)], obsOf (mpO k tg ks), T0⟩ : St) = σ
  have s0 : σ.sl 0 = tm (.mk kd n ts) := by rw [← hσ]; rfl
  have s1 : σ.sl 1 = .c (.mp k tg) := by rw [← hσ]; rfl
  have o1 : σ.ob k = some (.mob true (encK ks)) := by rw [← hσ]; simp [obsOf, mpO_self]
  have g1 : σ.tg k = tg := by rw [← hσ]; exact t1
  clear hσ
  simp only [tm, cells_mk] at s0
  have n2 : k ≠ 107002 := by omega
  have n5 : k ≠ 107005 := by omega
  have fin : ∀ (σ' : St), σ'.ob k = some (.mob true (encK ((T.mk kd n ts).cons ks))) → σ'.tg k = tg → EndOK (mpO k tg ks) r107 (.tup []) (mpO k tg ((T.mk kd n ts).cons ks)) σ' := fun σ' h1 h2 => by
    refine ⟨by simp [r107], by simp [r107], fun k' t q h => ?_⟩
    obtain ⟨rfl, rfl, rfl⟩ := mpO_get h
    exact ⟨h1, h2, _, mpO_self _ _ _⟩
  have loop : ∀ (ks0 : List Int) (σ : St), σ.sl 1 = .c (.mp k tg) → σ.ob k = some (.mob true (encK ks0)) → σ.tg k = tg → σ.sl 13 = .c (.sl 3 40 (ts.map T.cells)) → σ.sl 14 = .c (.v (.int .i64 ts.length)) → σ.sl 15 = .c (.v (.int .i64 0)) →
      T.consL ts ks0 = (T.mk kd n ts).cons ks → W Try.prog 107000 (.loop c107b0) σ (onBlock 0 (onEnd (mpO k tg ks) r107 (.tup []) (mpO k tg ((T.mk kd n ts).cons ks)))) := by
    intro ks0 σ q1 qo qg q13 q14 q15 hres
    refine W_loop (fun m σ => ∃ (i : Nat) (ks1 : List Int), i + m = ts.length ∧ T.consL (ts.drop i) ks1 = T.consL ts ks0 ∧ σ.sl 1 = .c (.mp k tg) ∧ σ.ob k = some (.mob true (encK ks1)) ∧ σ.tg k = tg ∧ σ.sl 13 = .c (.sl 3 40 (ts.map T.cells)) ∧ σ.sl 14 = .c (.v (.int .i64 ts.length)) ∧ σ.sl 15 = .c (.v (.int .i64 i))) ts.length ?_ ?_
    · exact ⟨0, ks0, by simp [q1, qo, qg, q13, q14, q15]⟩
    · rintro m σ ⟨i, ks1, hm, hp, q1, qo, qg, q13, q14, q15⟩
      unfold c107b0
      by_cases hi : i < ts.length
      · obtain ⟨t, ht⟩ := at_of hi
        obtain ⟨_, ht'⟩ := getE ht
        have w1 := wrap_succ (i := i) (by omega)
        rw [drop_at ht, T.consL] at hp
        simp [q1, qo, qg, q13, q14, q15, hi, ht']
        refine ECall.obj (rs := []) (args := [tm t, .c (.mp k tg)]) (by simpa [refs] using ih t (List.mem_of_getElem? ht) k tg ks1 hk) (by simp [tm]) (by simp) (by simp [AV.keys2]) ?_ (mpO_kin _ _ _ _) fun _ => ?_
        · intro k' t' q h
          obtain ⟨rfl, rfl, rfl⟩ := mpO_get h
          simp [n5, qo, qg]
        · simp [q15]
          refine ⟨m - 1, by omega, i + 1, by omega, _, hp, ?_⟩
          simp [q1, qg, q13, q14, w1, n5, puts_some (mpO_self k tg (t.cons ks1))]
      · rw [List.drop_eq_nil_of_le (by omega), T.consL] at hp
        simp [q1, qo, qg, q13, q14, q15, hi]
        refine fin _ ?_ ?_
        · simp [qo, hp, hres]
        · simp [qg]
  unfold c107
  by_cases h3 : kd = 3
  · subst h3
    simp [s0, s1, n2, n5, n2.symm, n5.symm, o1, g1, mset_encK]
    refine loop (addK ks n) _ (by simp [s1]) (by simp) (by simp [g1, n2]) (by simp) (by simp) (by simp) (by simp [T.cons])
  · simp [s0, s1, n2, n5, o1, g1, h3]
    refine loop ks _ (by simp [s1]) (by simp [o1, n2]) (by simp [g1, n2]) (by simp) (by simp) (by simp) (by simp [T.cons, h3])
end Go.Abs

namespace Go.Abs
open Go.Proofs Go.Shelf Go.RowKit Go.Maps Go.Sort

def keysA_ren : Go.Shelf.Ren := ⟨fun | 7 => 109 | 10 => 123 | n => n, fun | 23 => 96 | 26 => 3 | 3 => 4 | 28 => 100 | 0 => 0 | 27 => 99 | 33 => 70 | 4 => 4 | n => n, fun | n => n⟩
theorem keysA : Go.Proofs.SlLaysZI.n7 Try.prog keysA_ren := {
  mixed := by kernel_rfl,
  f7 := ⟨Try.f109.name, by decide, Try.func109.trans (congrArg some (by kernel_rfl))⟩,
  f10 := ⟨Try.f123.name, by decide, Try.func123.trans (congrArg some (by kernel_rfl))⟩,
  t0 := Try.underlying0,
  a0 := Try.isAgg0,
  z0 := Try.sizeOf0,
  v0 := Try.zeroValue0,
  t4 := Try.underlying4,
  a4 := Try.isAgg4,
  z4 := Try.sizeOf4,
  v4 := Try.zeroValue4,
  t23 := Try.underlying96,
  a23 := Try.isAgg96,
  z23 := Try.sizeOf96,
  v23 := Try.zeroValue96,
  t26 := Try.underlying3,
  a26 := Try.isAgg3,
  z26 := Try.sizeOf3,
  v26 := Try.zeroValue3,
  t27 := Try.underlying99,
  a27 := Try.isAgg99,
  z27 := Try.sizeOf99,
  v27 := Try.zeroValue99,
  t28 := Try.underlying100,
  a28 := Try.isAgg100,
  z28 := Try.sizeOf100,
  v28 := Try.zeroValue100,
  t33 := Try.underlying70,
  a33 := Try.isAgg70,
  z33 := Try.sizeOf70,
  v33 := Try.zeroValue70 }
def sortedA_ren : Go.Shelf.Ren := ⟨fun | 6 => 108 | 8 => 121 | 9 => 122 | 11 => 128 | 13 => 130 | 12 => 129 | 23 => 142 | 24 => 143 | 14 => 133 | 15 => 134 | 16 => 135 | 17 => 136 | 18 => 137 | 19 => 138 | 20 => 139 | 21 => 140 | 22 => 141 | 25 => 144 | 26 => 145 | 27 => 146 | 28 => 147 | 29 => 148 | 30 => 149 | 31 => 150 | n => n, fun | 26 => 3 | 28 => 100 | 24 => 38 | 0 => 0 | 3 => 3 | 37 => 32 | 48 => 129 | 50 => 131 | 4 => 4 | 40 => 121 | 39 => 120 | 45 => 126 | 5 => 5 | 9 => 9 | 51 => 132 | 55 => 136 | 57 => 138 | 58 => 139 | 33 => 70 | n => n, fun | n => n⟩
theorem sortedA : Go.Proofs.SlLaysZI.n6 Try.prog sortedA_ren := {
  mixed := by kernel_rfl,
  f6 := ⟨Try.f108.name, by decide, Try.func108.trans (congrArg some (by kernel_rfl))⟩,
  f8 := ⟨Try.f121.name, by decide, Try.func121.trans (congrArg some (by kernel_rfl))⟩,
  f11 := ⟨Try.f128.name, by decide, Try.func128.trans (congrArg some (by kernel_rfl))⟩,
  t0 := Try.underlying0,
  a0 := Try.isAgg0,
  z0 := Try.sizeOf0,
  v0 := Try.zeroValue0,
  t24 := Try.underlying38,
  a24 := Try.isAgg38,
  z24 := Try.sizeOf38,
  v24 := Try.zeroValue38,
  t26 := Try.underlying3,
  a26 := Try.isAgg3,
  z26 := Try.sizeOf3,
  v26 := Try.zeroValue3,
  t28 := Try.underlying100,
  a28 := Try.isAgg100,
  z28 := Try.sizeOf100,
  v28 := Try.zeroValue100,
  i26 := by kernel_rfl }
def sortA_ren : Go.Shelf.Ren := ⟨fun | 5 => 122 | 8 => 130 | 7 => 129 | 19 => 142 | 20 => 143 | 10 => 133 | 11 => 134 | 12 => 135 | 13 => 136 | 14 => 137 | 15 => 138 | 16 => 139 | 17 => 140 | 18 => 141 | 30 => 144 | 31 => 145 | 32 => 146 | 33 => 147 | 34 => 148 | 35 => 149 | 40 => 150 | n => n, fun | 23 => 38 | 25 => 3 | 3 => 3 | 32 => 32 | 22 => 38 | 0 => 0 | 44 => 129 | 46 => 131 | 4 => 4 | 36 => 121 | 35 => 120 | 41 => 126 | 5 => 5 | 9 => 9 | 53 => 132 | 57 => 136 | 63 => 138 | 64 => 139 | n => n, fun | n => n⟩
theorem sortA : Go.Proofs.SlLaysM.n5 Try.prog sortA_ren := {
  mixed := by kernel_rfl,
  f5 := ⟨Try.f122.name, by decide, Try.func122.trans (congrArg some (by kernel_rfl))⟩,
  f7 := ⟨Try.f129.name, by decide, Try.func129.trans (congrArg some (by kernel_rfl))⟩,
  f8 := Try.func130.trans (congrArg some (by kernel_rfl)),
  f10 := ⟨Try.f133.name, by decide, Try.func133.trans (congrArg some (by kernel_rfl))⟩,
  f11 := ⟨Try.f134.name, by decide, Try.func134.trans (congrArg some (by kernel_rfl))⟩,
  f12 := ⟨Try.f135.name, by decide, Try.func135.trans (congrArg some (by kernel_rfl))⟩,
  f13 := ⟨Try.f136.name, by decide, Try.func136.trans (congrArg some (by kernel_rfl))⟩,
  f14 := ⟨Try.f137.name, by decide, Try.func137.trans (congrArg some (by kernel_rfl))⟩,
  f15 := ⟨Try.f138.name, by decide, Try.func138.trans (congrArg some (by kernel_rfl))⟩,
  f16 := ⟨Try.f139.name, by decide, Try.func139.trans (congrArg some (by kernel_rfl))⟩,
  f17 := ⟨Try.f140.name, by decide, Try.func140.trans (congrArg some (by kernel_rfl))⟩,
  f18 := ⟨Try.f141.name, by decide, Try.func141.trans (congrArg some (by kernel_rfl))⟩,
  f19 := Try.func142.trans (congrArg some (by kernel_rfl)),
  f20 := Try.func143.trans (congrArg some (by kernel_rfl)),
  f30 := ⟨Try.f144.name, by decide, Try.func144.trans (congrArg some (by kernel_rfl))⟩,
  f31 := Try.func145.trans (congrArg some (by kernel_rfl)),
  f32 := Try.func146.trans (congrArg some (by kernel_rfl)),
  f33 := ⟨Try.f147.name, by decide, Try.func147.trans (congrArg some (by kernel_rfl))⟩,
  f34 := ⟨Try.f148.name, by decide, Try.func148.trans (congrArg some (by kernel_rfl))⟩,
  f35 := ⟨Try.f149.name, by decide, Try.func149.trans (congrArg some (by kernel_rfl))⟩,
  f40 := ⟨Try.f150.name, by decide, Try.func150.trans (congrArg some (by kernel_rfl))⟩,
  t0 := Try.underlying0,
  a0 := Try.isAgg0,
  z0 := Try.sizeOf0,
  v0 := Try.zeroValue0,
  t3 := Try.underlying3,
  a3 := Try.isAgg3,
  z3 := Try.sizeOf3,
  v3 := Try.zeroValue3,
  t4 := Try.underlying4,
  a4 := Try.isAgg4,
  z4 := Try.sizeOf4,
  v4 := Try.zeroValue4,
  t5 := Try.underlying5,
  a5 := Try.isAgg5,
  z5 := Try.sizeOf5,
  v5 := Try.zeroValue5,
  t9 := Try.underlying9,
  a9 := Try.isAgg9,
  z9 := Try.sizeOf9,
  v9 := Try.zeroValue9,
  t22 := Try.underlying38,
  a22 := Try.isAgg38,
  z22 := Try.sizeOf38,
  v22 := Try.zeroValue38,
  t23 := Try.underlying38,
  a23 := Try.isAgg38,
  z23 := Try.sizeOf38,
  v23 := Try.zeroValue38,
  t25 := Try.underlying3,
  a25 := Try.isAgg3,
  z25 := Try.sizeOf3,
  v25 := Try.zeroValue3,
  t32 := Try.underlying32,
  a32 := Try.isAgg32,
  z32 := Try.sizeOf32,
  v32 := Try.zeroValue32,
  t35 := Try.underlying120,
  a35 := Try.isAgg120,
  z35 := Try.sizeOf120,
  v35 := Try.zeroValue120,
  t36 := Try.underlying121,
  a36 := Try.isAgg121,
  z36 := Try.sizeOf121,
  v36 := Try.zeroValue121,
  t41 := Try.underlying126,
  a41 := Try.isAgg126,
  z41 := Try.sizeOf126,
  v41 := Try.zeroValue126,
  t44 := Try.underlying129,
  a44 := Try.isAgg129,
  z44 := Try.sizeOf129,
  v44 := Try.zeroValue129,
  t46 := Try.underlying131,
  a46 := Try.isAgg131,
  z46 := Try.sizeOf131,
  v46 := Try.zeroValue131,
  t53 := Try.underlying132,
  a53 := Try.isAgg132,
  z53 := Try.sizeOf132,
  v53 := Try.zeroValue132,
  t57 := Try.underlying136,
  a57 := Try.isAgg136,
  z57 := Try.sizeOf136,
  v57 := Try.zeroValue136,
  t63 := Try.underlying138,
  a63 := Try.isAgg138,
  z63 := Try.sizeOf138,
  v63 := Try.zeroValue138,
  t64 := Try.underlying139,
  a64 := Try.isAgg139,
  z64 := Try.sizeOf139,
  v64 := Try.zeroValue139 }

theorem sortsA (m : Nat) : AnyZI.SortsIn Try.prog sortedA_ren Fence.wide m :=
  ⟨fun blk off cap ss W hH hblk hsz => callsIn_wide.2 (AnyM.slices_Sort_int sortA blk off cap ss W hH hblk hsz),
   fun p cap W => callsIn_wide.2 (AnyM.slices_Sort_int_none sortA p cap W)⟩

/-- maps.Keys at a map: a function value over one new block that holds the map. -/
theorem keys_call (mb : Option Nat) (W : World) : Calls Try.prog 109 #[.map mb] W fun e w' => e = .returned (.func (.func 123) #[] #[.pointer (some ⟨W.heap.size, 0, none⟩)]) ∧ w' = W.alloc (.cells #[.map mb] 96) := by
  have h : CallsIn Fence.wide 5 Try.prog 109 #[.map mb] W fun e w' => e = .returned (.func (.func 123) #[] #[.pointer (some ⟨W.heap.size, 0, none⟩)]) ∧ w' = W.alloc (.cells #[.map mb] 96) := AnyZI.keys_in keysA Fence.wide 5 trivial rfl mb W
  exact callsIn_wide.1 h

/-- slices.Sorted at what maps.Keys hands back: a new slice that holds the keys, sorted. -/
theorem sorted_call {H : Type} (B b nn : Nat) (D0 : DataW H) (R : Value → Option (DataW H × List MemPlace)) (w : World) (hB : B < w.heap.size) (hm : w.cell? ⟨B, 0, none⟩ = some (.map (some b))) (hown : w.ownsMap Try.prog 3 R b nn D0) (hmax : Maps.size D0 ≤ maxLen) (hbytes : Maps.size D0 * 8 ≤ 140737488355328) :
    Calls Try.prog 108 #[.func (.func 123) #[] #[.pointer (some ⟨B, 0, none⟩)]] w fun e w' => ∃ (v : Value) (ss : List Int), e = .returned v ∧ ss.Perm (intKeys D0) ∧
      w'.ownsRow w.heap.size 3 1 v ss.length ((ss.mergeSort (fun x y => decide (x ≤ y))).map encZ) ∧ (v = .slice none 0 0 ↔ ss = []) ∧ Below w.heap.size w w' := by
  have hseq : SeqGives Fence.wide 2 Try.prog 123 #[.pointer (some ⟨B, 0, none⟩)] encZ (fun ss => ss.Perm (intKeys D0)) (Maps.size D0) w :=
    AnyZI.keys_gives (ρ := keysA_ren) { keysA with } Fence.wide _ trivial rfl (by omega) B b nn D0 _ hB hm hown
  have cS := AnyZI.sorted_in sortedA Fence.wide 5 trivial trivial trivial trivial rfl (by omega) (sortsA _) (enters_of Try.func122 (by kernel_rfl) rfl) 123 #[.pointer (some ⟨B, 0, none⟩)] trivial (enters_of Try.func123 (by kernel_rfl) rfl) _ _ hmax hbytes _ hseq
  change CallsIn _ _ Try.prog 108 _ _ _ at cS
  exact callsIn_wide.1 cS
end Go.Abs

namespace Go.Abs
open Go.Proofs Go.Shelf Go.RowKit Go.Maps Go.Sort

def okI (n : Int) : Prop := -9223372036854775808 ≤ n ∧ n < 9223372036854775808
theorem okI_wf {n : Int} (h : okI n) : (Lit.int .i64 n).wf = true := by
  obtain ⟨h1, h2⟩ := h
  simp [Lit.wf, IntKind.min, IntKind.max, IntKind.bits, IntKind.signed]
  omega
theorem keyOf_int {n : Int} (h : okI n) : keyOf Try.prog 3 (.int .i64 n) = some (.int .i64 n) := by
  have u : Try.prog.underlying 3 = some (.int .i64) := Try.underlying3
  simp [keyOf, u, mapKey, okI_wf h]

def sortI (ks : List Int) : List Int := ks.mergeSort fun x y => decide (x ≤ y)
def isL (ks : List Int) : List (List Cell) := ks.map fun n => [.v (.int .i64 n)]

theorem enters109 : EntersF Try.prog 109 := fun args w => (enters_of Try.func109 (by kernel_rfl) rfl) args w
theorem enters108 : EntersF Try.prog 108 := fun args w => (enters_of Try.func108 (by kernel_rfl) rfl) args w

theorem one_ins {k tg k' t : Nat} {q q' : Obj} (h : List.lookup k' [(k, tg, q)] = some (t, q')) : k' = k ∧ t = tg ∧ q' = q := by
  simp only [List.lookup_cons, List.lookup_nil] at h
  split at h
  · rename_i hk; cases h; exact ⟨by simpa using hk, rfl, rfl⟩
  · cases h

/-- maps.Keys: the iterator of a map. -/
theorem sp109 (k tg : Nat) (one : Bool) (es : List (Int × List Cell)) : Spec Try.prog 109 [.c (.mp k tg)] [(k, tg, .mob one es)] (.c (.itr 123 k tg)) [(k, tg, .mob one es)] := by
  refine ⟨enters109, fun g w vs hwok hargs hins => ?_⟩
  obtain ⟨hgk, hob⟩ := hins.ok k tg (.mob one es) (by simp)
  obtain ⟨v, hvs, hv⟩ := hargs.get 0 _ rfl
  have hsz : vs.size = 1 := by simpa using hargs.length.symm
  have hv2 : v = .map (some (g.blk k)) := (hv (by simp)).2.2 hgk.symm
  have hvs' : vs = #[.map (some (g.blk k))] := by
    apply Array.ext
    · simpa using hsz
    · intro i h1 h2
      have : i = 0 := by simp at h2; exact h2
      subst this
      have h3 : vs[0]? = some v := by simpa using hvs
      rw [Array.getElem?_eq_getElem h1] at h3
      simp at h3
      simp [h3, hv2]
  subst hvs'
  refine (keys_call (some (g.blk k)) w).mono ?_
  rintro e w' ⟨rfl, rfl⟩
  obtain ⟨arr, clock, f1, f2, f3, f4, f5, f6⟩ := hob
  have hlt : g.blk k < w.heap.size := (Array.getElem?_eq_some_iff.1 f1).1
  let g' : Gh := ⟨fun b x => g.st b x ∨ (b = w.heap.size ∧ x = 0), g.blk, g.rv, g.tg⟩
  have hkp : Kp g w g' (w.alloc (.cells #[.map (some (g.blk k))] 96)) := Kp_alloc _ hwok fun _ _ h => .inl h
  refine ⟨_, g', rfl,
    { res := fun _ => ⟨rfl, Nat.le_of_eq hgk.symm, fun _ => ⟨_, rfl, .inr ⟨rfl, rfl⟩, by simp [g']⟩⟩
      obs := ⟨fun k' t q h => ?_, fun k' k'' t t' q q' h h' _ _ _ => (one_ins h).1.trans (one_ins h').1.symm⟩
      kp := hkp
      wok := fun b x h => ?_
      os := rfl, tape := rfl, out := rfl, grow := by rw [size_alloc]; omega
      frame := fun b hb _ => ⟨heap_old _ hb, fun x => ⟨fun h => ?_, .inl⟩⟩
      loc := fun k' t q h ha => ?_
      box := fun _ _ _ _ _ => ⟨rfl, rfl⟩ }⟩
  · obtain ⟨rfl, rfl, rfl⟩ := one_ins h
    refine ⟨hgk, arr, clock, by rw [show g'.blk k' = g.blk k' from rfl, heap_old _ hlt]; exact f1, f2, f3, f4.imp fun p _ x hx => ⟨hx.1, MV.mono hkp hx.2⟩, f5, fun x hx => ?_⟩
    rcases hx with hx | ⟨hx, _⟩
    · exact f6 x hx
    · have : g.blk k' = w.heap.size := hx
      omega
  · rw [size_alloc]
    rcases h with h | ⟨h, _⟩
    · have := hwok b x h; omega
    · omega
  · rcases h with h | ⟨h, _⟩
    · exact h
    · omega
  · obtain ⟨rfl, rfl, rfl⟩ := one_ins h
    exact .inl ⟨k', t, .mob one es, by simp, trivial, rfl⟩

/-- slices.Sorted at a map's keys. -/
theorem sp108 (k tg : Nat) (one : Bool) (es : List (Int × List Cell)) (hes : ∀ p, p ∈ es → okI p.1) (hlen : es.length ≤ 1000000000) (kn tn : Nat) (hkn : kn ≠ k) :
    Spec Try.prog 108 [.c (.itr 123 k tg)] [(k, tg, .mob one es)] (.c (.own kn tn)) [(kn, tn, .row 3 1 8 (isL (sortI (es.map (·.1))))), (k, tg, .mob one es)] := by
  refine ⟨enters108, fun g w vs hwok hargs hins => ?_⟩
  obtain ⟨hgk, hob⟩ := hins.ok k tg (.mob one es) (by simp)
  obtain ⟨v, hvs, hv⟩ := hargs.get 0 _ rfl
  have hsz : vs.size = 1 := by simpa using hargs.length.symm
  obtain ⟨B, hv2, hst, hcell⟩ := (hv (by simp)).2.2 hgk.symm
  have hvs' : vs = #[.func (.func 123) #[] #[.pointer (some ⟨B, 0, none⟩)]] := by
    apply Array.ext
    · simpa using hsz
    · intro i h1 h2
      have : i = 0 := by simp at h2; exact h2
      subst this
      have h3 : vs[0]? = some v := by simpa using hvs
      rw [Array.getElem?_eq_getElem h1] at h3
      simp at h3
      simp [h3, hv2]
  subst hvs'
  have hBlt : B < w.heap.size := hwok B 0 hst
  obtain ⟨arr, clock, f1, f2, f3, f4, f5, f6⟩ := hob
  have f4 : All2 (ME g w one) es arr.toList := f4
  have hlt : g.blk k < w.heap.size := (Array.getElem?_eq_some_iff.1 f1).1
  have hl := f4.length
  let R : Value → Option (DataW Unit × List MemPlace) := fun _ => some (.nil, [])
  have hkey : ∀ (i : Nat) x, arr.toList[i]? = some x → ∃ p, es[i]? = some p ∧ x.key = .int .i64 p.1 := fun i x hx => by
    have hi : i < es.length := by rw [hl]; exact (List.getElem?_eq_some_iff.1 hx).1
    obtain ⟨y, e1, e2⟩ := f4.get i es[i] (List.getElem?_eq_getElem hi)
    rw [hx] at e1; cases e1
    exact ⟨es[i], List.getElem?_eq_getElem hi, e2.1⟩
  have hkeys : arr.toList.map (·.key) = es.map fun p => .int .i64 p.1 := by
    apply List.ext_getElem?
    intro i
    rw [List.getElem?_map, List.getElem?_map]
    cases hx : arr.toList[i]? with
    | none =>
      have : es[i]? = none := by rw [List.getElem?_eq_none_iff] at hx ⊢; omega
      simp [this]
    | some x =>
      obtain ⟨p, h1, h2⟩ := hkey i x hx
      simp [h1, h2]
  have hrd : ∀ (i : Nat) x, arr.toList[i]? = some x → ∃ p, es[i]? = some p ∧ Go.WideElems.rd Try.prog 3 R x = some (.int .i64 p.1, .nil) := fun i x hx => by
    obtain ⟨p, h1, h2⟩ := hkey i x hx
    refine ⟨p, h1, ?_⟩
    simp [Go.WideElems.rd, h2, keyOf_int (hes p (List.mem_of_getElem? h1)), R]
  have hfit : Go.WideElems.Fit Try.prog 3 R arr clock :=
    { size := by have : arr.size = es.length := by simpa using hl.symm
                 rw [this]; simp only [maxLen]; omega
      stamped := ⟨f2, f3, by
        rw [hkeys]
        have : (es.map fun p => Value.int .i64 p.1) = (es.map (·.1)).map (Value.int .i64) := by simp
        rw [this]
        exact List.Pairwise.map _ (fun a b hab h => hab (by cases h; rfl)) f5⟩
      reads := fun x hx => by
        obtain ⟨i, hi⟩ := List.getElem?_of_mem hx
        obtain ⟨p, _, h⟩ := hrd i x hi
        exact ⟨_, h⟩ }
  let E : List (Lit × DataW Unit) := arr.toList.map (Go.WideElems.rg Try.prog 3 R)
  have hE : E = es.map fun p => (.int .i64 p.1, .nil) := by
    apply List.ext_getElem?
    intro i
    simp only [E]
    rw [List.getElem?_map, List.getElem?_map]
    cases hx : arr.toList[i]? with
    | none =>
      have : es[i]? = none := by rw [List.getElem?_eq_none_iff] at hx ⊢; omega
      simp [this]
    | some x =>
      obtain ⟨p, h1, h2⟩ := hrd i x hx
      simp [h1, Go.WideElems.rg, h2]
  have hown : w.ownsMap Try.prog 3 R (g.blk k) arr.size (.map (E.foldr DataW.insert [])) := ⟨arr, clock, f1, hfit, Nat.le_refl _, rfl⟩
  have hperm := Go.WideShapes.sorted_perm E
  have hsize : Maps.size (DataW.map (E.foldr DataW.insert [])) = es.length := by
    rw [Maps.size_eq, hperm.length_eq, hE]; simp
  have hik : (intKeys (DataW.map (E.foldr DataW.insert []))).Perm (es.map (·.1)) := by
    show ((E.foldr DataW.insert []).map fun p => intOf p.1).Perm _
    refine (hperm.map _).trans ?_
    rw [hE, List.map_map]
    exact List.Perm.of_eq (List.map_congr_left fun p _ => rfl)
  refine (sorted_call (H := Unit) B (g.blk k) arr.size _ R w hBlt hcell hown (by rw [hsize]; simp only [maxLen]; omega) (by rw [hsize]; omega)).mono ?_
  rintro e w' ⟨v, ss, rfl, hp, hrow, hnil, hbel⟩
  have hss : ss.mergeSort (fun x y => decide (x ≤ y)) = sortI (es.map (·.1)) := mergeSort_of_perm_i (hp.trans hik)
  rw [hss] at hrow
  have hn : ss.length = (sortI (es.map (·.1))).length := by
    have := hrow.1
    simp at this
    omega
  have hn2 : (sortI (es.map (·.1))).length = es.length := by simp [sortI, (List.mergeSort_perm _ _).length_eq]
  have hK : Kp g w g w' := ⟨fun ad h => ⟨h, World.cell?_of_block (hbel.block _ (hwok _ _ h))⟩⟩
  -- the row's block
  obtain ⟨gb, hgb⟩ : ∃ gb : Nat, w.heap.size ≤ gb ∧ ((v = .slice none 0 0 ∧ ss.length = 0) ∨ ∃ cap cur, v = .slice (some ⟨gb, 0, none⟩) ss.length cap ∧ w'.heap[gb]? = some (.cells cur 3 (0, 0)) ∧ ss.length ≤ cap ∧ cur.size = cap ∧ cur.toList.take ss.length = (sortI (es.map (·.1))).map encZ) := by
    rcases hrow.2 with h | ⟨gb, cap, cur, h1, h2, h3, h4, h5, h6, h7⟩
    · exact ⟨w.heap.size, Nat.le_refl _, .inl h⟩
    · exact ⟨gb, h2, .inr ⟨cap, cur, h1, h3, h4, by omega, by simpa using h7⟩⟩
  obtain ⟨hge, hcase⟩ := hgb
  let N := ss.length
  let g' : Gh := ⟨fun b x => g.st b x ∨ (b = gb ∧ x < N ∧ N ≠ 0), fun q => if q = kn then gb else g.blk q, fun q => if q = kn then v else g.rv q, fun q => if q = kn then tn else g.tg q⟩
  have hKp : Kp g w g' w' := ⟨fun ad h => ⟨.inl h, (hK.keep ad h).2⟩⟩
  have hgkn : g'.rv kn = v ∧ g'.blk kn = gb ∧ g'.tg kn = tn := by simp [g']
  have hgo : ∀ q, q ≠ kn → g'.rv q = g.rv q ∧ g'.blk q = g.blk q ∧ g'.tg q = g.tg q := fun q hq => by simp [g', hq]
  have two : ∀ {k' t : Nat} {q : Obj}, List.lookup k' [(kn, tn, Obj.row 3 1 8 (isL (sortI (es.map (·.1))))), (k, tg, .mob one es)] = some (t, q) → (k' = kn ∧ t = tn ∧ q = .row 3 1 8 (isL (sortI (es.map (·.1))))) ∨ (k' = k ∧ t = tg ∧ q = .mob one es) := by
    intro k' t q h
    simp only [List.lookup_cons, List.lookup_nil] at h
    split at h
    · rename_i hk; cases h; exact .inl ⟨by simpa using hk, rfl, rfl⟩
    · split at h
      · rename_i hk; cases h; exact .inr ⟨by simpa using hk, rfl, rfl⟩
      · cases h
  have hvf : ∃ a c, v = .slice a N c := by
    rcases hcase with ⟨h1, h2⟩ | ⟨cap, cur, h1, _⟩
    · exact ⟨none, 0, by rw [h1]; simp [N, h2]⟩
    · exact ⟨_, _, h1⟩
  have hRD : RD g' w' (.sl 1 8 (isL (sortI (es.map (·.1))))) v := by
    have hll : (isL (sortI (es.map (·.1)))).length = N := by simp [isL, N, hn]
    rcases hcase with ⟨h1, h2⟩ | ⟨cap, cur, h1, h3, h4, h5, h6⟩
    · have : isL (sortI (es.map (·.1))) = [] := List.length_eq_zero_iff.1 (by rw [hll]; exact h2)
      rw [this, h1]
      exact .sl 1 8 [] none 0 (fun _ _ => undef) (Nat.le_refl _) (by simp [room]) (by simp) (by simp) (by simp)
    · rw [h1, show ss.length = N from rfl, ← hll]
      have hget : ∀ i l, (isL (sortI (es.map (·.1))))[i]? = some l → ∃ n, l = [.v (.int .i64 n)] ∧ i < N ∧ cur[i]? = some (.int .i64 n) := fun i l hi => by
        simp only [isL, List.getElem?_map] at hi
        cases hx : (sortI (es.map (·.1)))[i]? with
        | none => rw [hx] at hi; cases hi
        | some n =>
          rw [hx] at hi; cases hi
          have hiN : i < N := by
            have := (List.getElem?_eq_some_iff.1 hx).1
            simp only [N]; omega
          refine ⟨n, rfl, hiN, ?_⟩
          have h7 : (cur.toList.take ss.length)[i]? = some (encZ n) := by rw [h6, List.getElem?_map, hx]; rfl
          rw [List.getElem?_take_of_lt hiN] at h7
          simpa [encZ] using h7
      refine .sl 1 8 _ (some ⟨gb, 0, none⟩) cap (fun i _ => (cur[i]?).getD undef) (by rw [hll]; exact h4) (by rw [hll]; simp only [room, N]; omega) (fun l hl => ?_) (fun i j l d e1 e2 => ?_) (fun i j l d e1 e2 => ?_)
      · simp only [isL, List.mem_map] at hl
        obtain ⟨n, _, rfl⟩ := hl; rfl
      · obtain ⟨n, rfl, hi, hc⟩ := hget i l e1
        have hj : j = 0 := by have := (List.getElem?_eq_some_iff.1 e2).1; simp at this; exact this
        subst hj
        refine ⟨_, rfl, ?_, ?_⟩
        · rw [add_blk]
          refine .inr ⟨rfl, ?_, by omega⟩
          show 0 + (i * 1 + 0) < N
          omega
        · rw [add_blk, cell_blk h3]
          simp [hc]
      · obtain ⟨n, rfl, hi, hc⟩ := hget i l e1
        have hj : j = 0 := by have := (List.getElem?_eq_some_iff.1 e2).1; simp at this; exact this
        subst hj
        simp at e2; subst e2
        rw [hc]
        exact .v _ rfl
  refine ⟨v, g', rfl,
    { res := fun _ => ⟨?_, Nat.le_of_eq hgkn.2.2.symm, fun _ => ⟨hgkn.1.symm, ?_⟩⟩
      obs := ⟨fun k' t q h => ?_, fun k' k'' t t' q q' h h' ha ha' hb => ?_⟩
      kp := hKp
      wok := fun b x h => ?_
      os := hbel.os, tape := hbel.tape, out := hbel.output, grow := hbel.size
      frame := fun b hb _ => ⟨hbel.block b hb, fun x => ⟨fun h => ?_, .inl⟩⟩
      loc := fun k' t q h ha => ?_
      box := fun k' t _ ⟨q, h⟩ _ => ?_ }⟩
  · obtain ⟨a, c, h⟩ := hvf; rw [h]; rfl
  · obtain ⟨a, c, h⟩ := hvf; exact ⟨a, N, c, h⟩
  · rcases two h with ⟨rfl, rfl, rfl⟩ | ⟨rfl, rfl, rfl⟩
    · refine ⟨hgkn.2.2, by rw [hgkn.1]; exact hRD, fun a n c h1 h2 => ?_⟩
      rw [hgkn.1] at h1
      rcases hcase with ⟨h3, h4⟩ | ⟨cap, cur, h3, h4, h5, h6, h7⟩
      · rw [h3] at h1; cases h1; omega
      · rw [h3] at h1; cases h1
        refine ⟨by rw [hgkn.2.1], ⟨cur, by rw [hgkn.2.1]; exact h4, by omega⟩, fun x hx => ?_⟩
        rw [hgkn.2.1] at hx
        rcases hx with hx | hx
        · have := hwok _ _ hx; omega
        · have := hx.2.1; simp only [N] at this; omega
    · obtain ⟨e1, e2, e3⟩ := hgo k' (fun e => hkn e.symm)
      refine ⟨by rw [e3]; exact hgk, arr, clock, by rw [e2, hbel.block _ hlt]; exact f1, f2, f3, f4.imp fun p _ x hx => ⟨hx.1, MV.mono hKp hx.2⟩, f5, fun x hx => ?_⟩
      rw [e2] at hx
      rcases hx with hx | hx
      · exact f6 x hx
      · have := hx.1; omega
  · rcases two h with ⟨rfl, rfl, rfl⟩ | ⟨rfl, rfl, rfl⟩ <;> rcases two h' with ⟨rfl, rfl, rfl⟩ | ⟨rfl, rfl, rfl⟩
    · rfl
    · rw [hgkn.2.1, (hgo k'' (fun e => hkn e.symm)).2.1] at hb; omega
    · rw [hgkn.2.1, (hgo k' (fun e => hkn e.symm)).2.1] at hb; omega
    · rfl
  · rcases h with h | ⟨rfl, h1, h2⟩
    · exact Nat.lt_of_lt_of_le (hwok b x h) hbel.size
    · rcases hcase with ⟨h3, h4⟩ | ⟨cap, cur, h3, h4, _⟩
      · exact absurd h4 h2
      · exact (Array.getElem?_eq_some_iff.1 h4).1
  · rcases h with h | ⟨h, _⟩
    · exact h
    · omega
  · rcases two h with ⟨rfl, rfl, rfl⟩ | ⟨rfl, rfl, rfl⟩
    · rw [hgkn.2.1]; exact .inr hge
    · rw [(hgo k' (fun e => hkn e.symm)).2.1]
      exact .inl ⟨k', t, .mob one es, by simp, trivial, rfl⟩
  · obtain ⟨rfl, rfl, rfl⟩ := one_ins h
    exact ⟨(hgo k' (fun e => hkn e.symm)).2.1, (hgo k' (fun e => hkn e.symm)).1⟩
end Go.Abs

namespace Go.Abs
open Go.Proofs

theorem puts_same {σ : St} {k t : Nat} {q : Obj} (h : σ.ob k = some q) : σ.puts [(k, t, q)] = σ := by
  refine st_ext (fun s => rfl) (fun k' => ?_) fun k' => rfl
  simp only [St.puts]
  cases e : List.lookup k' [(k, t, q)] with
  | none => rfl
  | some x =>
    obtain ⟨t', q'⟩ := x
    obtain ⟨rfl, rfl, rfl⟩ := one_ins e
    exact h.symm
theorem ECall.keys {σ : St} {d k tg : Nat} {one : Bool} {es : List (Int × List Cell)} {K : St → Prop} (ho : σ.ob k = some (.mob one es)) (ht : σ.tg k = tg) (hK : K (σ.set d (.c (.itr 123 k tg)))) :
    ECall Try.prog σ (.c (.clo 109 [] [])) [.c (.mp k tg)] (some d) K := by
  refine ⟨109, [], [], [(k, tg, .mob one es)], [(k, tg, .mob one es)], .c (.itr 123 k tg), [], ?_, fun _ => ?_⟩
  · exact
      { c0 := rfl, gf := trivial, gx := by simp
        cs := fun _ => by simpa [refs, toD2, toD1] using sp109 k tg one es
        ci := fun k' t q h => by obtain ⟨rfl, rfl, rfl⟩ := one_ins h; exact ⟨ho, ht, by simp⟩
        co := fun k' t q h => by obtain ⟨rfl, rfl, rfl⟩ := one_ins h; exact .inr ⟨by simp, ht.symm, _, h⟩
        cp := fun k h => by simp at h
        kres := fun k' h => by simp at h; subst h; simp
        kobs := fun k' t q h => by obtain ⟨rfl, rfl, rfl⟩ := one_ins h; intro k h; simp [Obj.keys] at h }
  · rw [ap_puts, puts_same ho]; exact hK
theorem ECall.sorted {σ : St} {d k tg : Nat} {one : Bool} {es : List (Int × List Cell)} {K : St → Prop} (kn : Nat) (ho : σ.ob k = some (.mob one es)) (ht : σ.tg k = tg) (hne : kn ≠ k) (hes : ∀ p, p ∈ es → okI p.1) (hlen : es.length ≤ 1000000000)
    (hK : K ((σ.new kn (.row 3 1 8 (isL (sortI (es.map (·.1)))))).set d (.c (.own kn (σ.tg kn + 1))))) :
    ECall Try.prog σ (.c (.clo 108 [] [])) [.c (.itr 123 k tg)] (some d) K := by
  have two : ∀ {k' t : Nat} {q : Obj}, List.lookup k' [(kn, σ.tg kn + 1, Obj.row 3 1 8 (isL (sortI (es.map (·.1))))), (k, tg, .mob one es)] = some (t, q) → (k' = kn ∧ t = σ.tg kn + 1 ∧ q = .row 3 1 8 (isL (sortI (es.map (·.1))))) ∨ (k' = k ∧ t = tg ∧ q = .mob one es) := by
    intro k' t q h
    simp only [List.lookup_cons, List.lookup_nil] at h
    split at h
    · rename_i hk; cases h; exact .inl ⟨by simpa using hk, rfl, rfl⟩
    · split at h
      · rename_i hk; cases h; exact .inr ⟨by simpa using hk, rfl, rfl⟩
      · cases h
  have hkb : (k == kn) = false := by simpa using fun h : k = kn => hne h.symm
  refine ⟨108, [], [], [(k, tg, .mob one es)], [(kn, σ.tg kn + 1, .row 3 1 8 (isL (sortI (es.map (·.1))))), (k, tg, .mob one es)], .c (.own kn (σ.tg kn + 1)), [kn], ?_, fun _ => ?_⟩
  · exact
      { c0 := rfl, gf := trivial, gx := by simp
        cs := fun _ => by simpa [refs, toD2, toD1] using sp108 k tg one es hes hlen kn (σ.tg kn + 1) hne
        ci := fun k' t q h => by obtain ⟨rfl, rfl, rfl⟩ := one_ins h; exact ⟨ho, ht, by simp [List.lookup_cons, hkb]⟩
        co := fun k' t q h => by
          rcases two h with ⟨rfl, rfl, rfl⟩ | ⟨rfl, rfl, rfl⟩
          · exact .inl ⟨by simp, rfl⟩
          · exact .inr ⟨by simpa using fun h : k' = kn => hne h.symm, ht.symm, .mob one es, by simp⟩
        cp := fun k h => by simp at h; subst h; simp
        kres := fun k' h => by simp at h; subst h; simp
        kobs := fun k' t q h => by
          intro k2 hk2
          rcases two h with ⟨rfl, rfl, rfl⟩ | ⟨rfl, rfl, rfl⟩ <;> simp [Obj.keys] at hk2 }
  · have e : σ.ap (some d) ⟨.c (.own kn (σ.tg kn + 1)), [kn], objsOf [(kn, σ.tg kn + 1, .row 3 1 8 (isL (sortI (es.map (·.1))))), (k, tg, .mob one es)], [(k, tg, Obj.mob one es)].map (·.1)⟩ = (σ.new kn (.row 3 1 8 (isL (sortI (es.map (·.1)))))).set d (.c (.own kn (σ.tg kn + 1))) := by
      refine st_ext (fun s => rfl) (fun k' => ?_) fun k' => ?_
      · simp only [St.ap, obAfter, objsOf, List.map_cons, List.map_nil, List.lookup_cons, List.lookup_nil, set_ob, new_ob]
        by_cases h1 : k' = kn
        · simp [h1]
        · have h1' : (k' == kn) = false := by simpa using h1
          simp only [h1', h1, if_false]
          by_cases h2 : k' = k
          · subst h2; simp [ho]
          · have h2' : (k' == k) = false := by simpa using h2
            simp [h2', h1]
      · simp only [St.ap, set_tg, new_tg]
        by_cases h1 : k' = kn <;> simp [h1]
    rw [e]; exact hK

/-! ### term.Consts -/
theorem addK_len (ks : List Int) (n : Int) : (addK ks n).length ≤ ks.length + 1 := by simp only [addK]; split <;> simp
theorem addK_mem {ks : List Int} {n m : Int} : m ∈ addK ks n ↔ m ∈ ks ∨ m = n := by
  simp only [addK]; split
  · rename_i h; constructor
    · exact .inl
    · rintro (h2 | rfl)
      · exact h2
      · exact h
  · simp
theorem addK_nodup {ks : List Int} {n : Int} (h : ks.Nodup) : (addK ks n).Nodup := by
  simp only [addK]; split
  · exact h
  · rename_i hn
    rw [List.nodup_append]
    refine ⟨h, by simp, fun a ha b hb => ?_⟩
    simp at hb; subst hb
    exact fun e => hn (e ▸ ha)
theorem cons_facts (t : T) : ∀ ks : List Int, (t.cons ks).length ≤ ks.length + t.count ∧ (ks.Nodup → (t.cons ks).Nodup) ∧ (t.wf = true → (∀ n, n ∈ ks → okI n) → ∀ n, n ∈ t.cons ks → okI n) := by
  induction t using T.ind with
  | h k n ts ih =>
  intro ks
  have key : ∀ (ts : List T) (ks : List Int), (∀ t, t ∈ ts → ∀ ks : List Int, (t.cons ks).length ≤ ks.length + t.count ∧ (ks.Nodup → (t.cons ks).Nodup) ∧ (t.wf = true → (∀ n, n ∈ ks → okI n) → ∀ n, n ∈ t.cons ks → okI n)) →
      (T.consL ts ks).length ≤ ks.length + T.countL ts ∧ (ks.Nodup → (T.consL ts ks).Nodup) ∧ (T.wfL ts = true → (∀ n, n ∈ ks → okI n) → ∀ n, n ∈ T.consL ts ks → okI n) := by
    intro ts
    induction ts with
    | nil => intro ks _; simp [T.consL, T.countL]
    | cons t ts ih2 =>
      intro ks h
      obtain ⟨a1, a2, a3⟩ := h t (by simp) ks
      obtain ⟨b1, b2, b3⟩ := ih2 (t.cons ks) fun u hu => h u (by simp [hu])
      simp only [T.consL, T.countL, T.wfL, Bool.and_eq_true]
      exact ⟨by omega, fun h => b2 (a2 h), fun h h2 => b3 h.2 (a3 h.1 h2)⟩
  obtain ⟨b1, b2, b3⟩ := key ts (if k = 3 then addK ks n else ks) ih
  have hl := addK_len ks n
  simp only [T.cons, T.count, T.wf, Bool.and_eq_true, decide_eq_true_eq]
  refine ⟨?_, fun h => b2 ?_, fun h h2 => b3 h.2 ?_⟩
  · refine Nat.le_trans b1 ?_
    split <;> omega
  · split
    · exact addK_nodup h
    · exact h
  · intro m hm
    split at hm
    · rcases addK_mem.1 hm with hm | rfl
      · exact h2 m hm
      · exact h.1
    · exact h2 m hm
def T.consts (t : T) : List Int := sortI (t.cons [])
theorem encK_keys (ks : List Int) : (encK ks).map (·.1) = ks := by simp [encK, Function.comp_def]

theorem sp60 (t : T) (hc : t.count ≤ 1048576) (hw : t.wf = true) : SpecNew Try.prog 60 [tm t] (.c (.own 0 0)) (.row 3 1 8 (isL t.consts)) := by
  refine new_of (base := 60000) 60010 ok60 rfl rfl rfl fun σ h0 hr => ?_
  have s0 := h0 0
  rw [slots0] at s0
  simp only [tm] at s0
  clear h0 hr
  obtain ⟨f1, f2, f3⟩ := cons_facts t []
  unfold c60
  simp [s0]
  refine ECall.obj (rs := []) (args := [tm t, .c (.mp 60004 (σ.tg 60004 + 1))]) (by simpa [refs] using sp107 t 60004 (σ.tg 60004 + 1) [] (by omega)) (by simp [tm]) (by simp) (by simp [AV.keys2]) ?_ (mpO_kin _ _ _ _) fun _ => ?_
  · intro k' t' q h
    obtain ⟨rfl, rfl, rfl⟩ := mpO_get h
    simp [encK]
  · simp
    refine ECall.keys (k := 60004) (one := true) (es := encK (t.cons [])) (by simp [puts_some (mpO_self 60004 (σ.tg 60004 + 1) (t.cons []))]) (by simp) ?_
    simp
    refine ECall.sorted 60010 (k := 60004) (one := true) (es := encK (t.cons [])) (by simp [puts_some (mpO_self 60004 (σ.tg 60004 + 1) (t.cons []))]) (by simp) (by omega) ?_ ?_ ?_
    · intro p hp
      obtain ⟨n, hn, rfl⟩ := List.mem_map.1 hp
      exact f3 hw (by simp) n hn
    · simp [encK]
      simp at f1
      omega
    · simp
      refine ⟨_, .refl _, ?_, ?_, ?_⟩
      · simp [r60]
      · simp [resN, resLN, rrEvN, r60]
      · simp [encK_keys, T.consts]
end Go.Abs

namespace Go.Abs

/- porism/porismref01.Count -/
def c56 : SCode :=
  .seq (.reg
       [⟨some 2, none, .box 24 (.t 0)⟩,
        ⟨some 4, none, .mv (.k (.int .i64 0))⟩])
  (.seq (.seq (.reg
         [⟨some 5, none, .mv (.t 1)⟩,
          ⟨some 6, none, .call (.f 101) [.t 5, .k (.int .i64 0), .k (.int .i64 65535)]⟩,
          ⟨some 7, none, .not (.t 6)⟩])
    (.cond (.t 7)
      (.seq (.reg
           [⟨some 4, none, .mv (.k (.int .i64 0))⟩])
      (.ret))
      (.skip)))
  (.seq (.reg
       [⟨some 8, none, .ldn 24 3 (.t 2)⟩,
        ⟨some 9, none, .mv (.t 1)⟩,
        ⟨some 10, none, .call (.f 105) [.t 8, .t 9]⟩,
        ⟨some 4, none, .mv (.t 10)⟩])
  (.ret)))
def r56 : List RR := [.t 4]
theorem ok56 : okFn Go.Proofs.Try.prog 56 11 c56 r56 2 = true := by kernel_rfl

/- porism/porismref01.Scope -/
def c58 : SCode :=
  .seq (.reg
       [⟨some 3, none, .box 24 (.t 0)⟩,
        ⟨some 6, none, .mv (.k (.bool false))⟩])
  (.seq (.reg
       [⟨some 7, none, .mv (.t 1)⟩,
        ⟨some 8, none, .bin .geq (.t 7) (.k (.int .i64 0))⟩,
        ⟨some 9, none, .mv (.t 8)⟩,
        ⟨some 10, some (9, true), .mv (.t 2)⟩,
        ⟨some 11, some (9, true), .bin .geq (.t 10) (.k (.int .i64 0))⟩,
        ⟨some 12, none, .pick (.t 9) (.t 11) (.k (.bool false))⟩,
        ⟨some 13, none, .mv (.t 12)⟩,
        ⟨some 14, some (13, true), .ldn 24 3 (.t 3)⟩,
        ⟨some 15, some (13, true), .call (.f 27) [.t 14]⟩,
        ⟨some 16, some (13, true), .bin .eql (.t 15) (.k (.int .i64 0))⟩,
        ⟨some 17, none, .pick (.t 13) (.t 16) (.k (.bool false))⟩,
        ⟨some 18, none, .mv (.t 17)⟩,
        ⟨some 19, some (18, true), .ldn 24 3 (.t 3)⟩,
        ⟨some 20, some (18, true), .mv (.t 1)⟩,
        ⟨some 21, some (18, true), .best false [.t 20, .k (.int .i64 1048576)]⟩,
        ⟨some 22, some (18, true), .mv (.t 2)⟩,
        ⟨some 23, some (18, true), .call (.f 106) [.t 19, .t 21, .t 22]⟩,
        ⟨some 24, none, .pick (.t 18) (.t 23) (.k (.bool false))⟩,
        ⟨some 6, none, .mv (.t 24)⟩])
  (.ret))
def r58 : List RR := [.t 6]
theorem ok58 : okFn Go.Proofs.Try.prog 58 25 c58 r58 3 = true := by kernel_rfl

/- porism/porismkeep.Ints -/
def c59b0 : SCode :=
  .seq (.seq (.reg
         [⟨some 11, none, .mv (.t 5)⟩,
          ⟨some 12, none, .mv (.t 0)⟩,
          ⟨some 13, none, .len 38 (.t 12)⟩,
          ⟨some 14, none, .bin .lss (.t 11) (.t 13)⟩])
    (.cond (.t 14)
      (.skip)
      (.exit 0)))
  (.seq (.block 1 (.seq (.dreg [0, 0, 3, 7, 0, 0, 48, 112, 255]
           [⟨some 17, none, .mv (.t 0)⟩,
            ⟨some 18, none, .mv (.t 5)⟩,
            ⟨some 19, none, .iad 3 1 (.t 17) (.t 18)⟩,
            ⟨some 20, none, .ld1 3 (.t 19)⟩,
            ⟨some 21, none, .mv (.t 1)⟩,
            ⟨some 22, none, .mv (.t 5)⟩,
            ⟨some 23, none, .iad 3 1 (.t 21) (.t 22)⟩,
            ⟨some 24, none, .ld1 3 (.t 23)⟩,
            ⟨some 25, none, .bin .neq (.t 20) (.t 24)⟩])
      (.cond (.t 25)
        (.seq (.reg
             [⟨some 4, none, .mv (.k (.bool false))⟩])
        (.ret))
        (.skip))))
  (.reg
     [⟨some 15, none, .mv (.t 5)⟩,
      ⟨some 16, none, .bin .add (.t 15) (.k (.int .i64 1))⟩,
      ⟨some 5, none, .mv (.t 16)⟩]))
def c59 : SCode :=
  .seq (.reg
       [⟨some 4, none, .mv (.k (.bool false))⟩])
  (.seq (.seq (.reg
         [⟨some 6, none, .mv (.t 0)⟩,
          ⟨some 7, none, .len 38 (.t 6)⟩,
          ⟨some 8, none, .mv (.t 1)⟩,
          ⟨some 9, none, .len 38 (.t 8)⟩,
          ⟨some 10, none, .bin .neq (.t 7) (.t 9)⟩])
    (.cond (.t 10)
      (.seq (.reg
           [⟨some 4, none, .mv (.k (.bool false))⟩])
      (.ret))
      (.skip)))
  (.seq (.seq (.reg
         [⟨some 5, none, .mv (.k (.int .i64 0))⟩])
    (.block 0 (.loop c59b0)))
  (.seq (.reg
       [⟨some 4, none, .mv (.k (.bool true))⟩])
  (.ret))))
def r59 : List RR := [.t 4]
theorem ok59 : okFn Go.Proofs.Try.prog 59 26 c59 r59 2 = true := by kernel_rfl

/- porism/porismref01.Consts -/
def c61b0 : SCode :=
  .seq (.seq (.reg
         [⟨some 27, none, .mv (.t 6)⟩,
          ⟨some 28, none, .mv (.t 5)⟩,
          ⟨some 29, none, .len 38 (.t 28)⟩,
          ⟨some 30, none, .bin .lss (.t 27) (.t 29)⟩])
    (.cond (.t 30)
      (.skip)
      (.exit 2)))
  (.seq (.block 3 (.reg
         [⟨some 33, none, .mv (.t 3)⟩,
          ⟨some 34, none, .mv (.t 5)⟩,
          ⟨some 35, none, .mv (.t 6)⟩,
          ⟨some 36, none, .iad 3 1 (.t 34) (.t 35)⟩,
          ⟨some 37, none, .ld1 3 (.t 36)⟩,
          ⟨some 38, none, .call (.f 110) [.t 33, .t 37]⟩,
          ⟨some 3, none, .mv (.t 38)⟩]))
  (.reg
     [⟨some 31, none, .mv (.t 6)⟩,
      ⟨some 32, none, .bin .add (.t 31) (.k (.int .i64 1))⟩,
      ⟨some 6, none, .mv (.t 32)⟩]))
def c61b1 : SCode :=
  .seq (.seq (.reg
         [⟨some 14, none, .mv (.t 4)⟩,
          ⟨some 15, none, .fad 24 2 2 (.t 1)⟩,
          ⟨some 16, none, .ld1 22 (.t 15)⟩,
          ⟨some 17, none, .len 22 (.t 16)⟩,
          ⟨some 18, none, .bin .lss (.t 14) (.t 17)⟩])
    (.cond (.t 18)
      (.skip)
      (.exit 0)))
  (.seq (.block 1 (.seq (.reg
           [⟨some 21, none, .fad 24 2 2 (.t 1)⟩,
            ⟨some 22, none, .ld1 22 (.t 21)⟩,
            ⟨some 23, none, .mv (.t 4)⟩,
            ⟨some 24, none, .iad 24 3 (.t 22) (.t 23)⟩,
            ⟨some 25, none, .ldn 24 3 (.t 24)⟩,
            ⟨some 26, none, .call (.f 61) [.t 25]⟩,
            ⟨some 5, none, .mv (.t 26)⟩])
      (.seq (.reg
           [⟨some 6, none, .mv (.k (.int .i64 0))⟩])
      (.block 2 (.loop c61b0)))))
  (.reg
     [⟨some 19, none, .mv (.t 4)⟩,
      ⟨some 20, none, .bin .add (.t 19) (.k (.int .i64 1))⟩,
      ⟨some 4, none, .mv (.t 20)⟩]))
def c61 : SCode :=
  .seq (.reg
       [⟨some 1, none, .box 24 (.t 0)⟩,
        ⟨some 2, none, .mv (.nil 1 8)⟩])
  (.seq (.reg
       [⟨some 3, none, .mv (.nil 1 8)⟩])
  (.seq (.seq (.reg
         [⟨some 7, none, .fad 24 0 0 (.t 1)⟩,
          ⟨some 8, none, .ld1 3 (.t 7)⟩,
          ⟨some 9, none, .bin .eql (.t 8) (.k (.int .i64 3))⟩])
    (.cond (.t 9)
      (.reg
         [⟨some 10, none, .mv (.t 3)⟩,
          ⟨some 11, none, .fad 24 1 1 (.t 1)⟩,
          ⟨some 12, none, .ld1 3 (.t 11)⟩,
          ⟨some 13, none, .call (.f 110) [.t 10, .t 12]⟩,
          ⟨some 3, none, .mv (.t 13)⟩])
      (.skip)))
  (.seq (.seq (.reg
         [⟨some 4, none, .mv (.k (.int .i64 0))⟩])
    (.block 0 (.loop c61b1)))
  (.seq (.reg
       [⟨some 39, none, .mv (.t 3)⟩,
        ⟨some 2, none, .mv (.t 39)⟩])
  (.ret)))))
def r61 : List RR := [.t 2]
theorem ok61 : okFn Go.Proofs.Try.prog 61 40 c61 r61 1 = true := by kernel_rfl

/- porism/porismref01.count -/
def c105b0 : SCode :=
  .seq (.seq (.reg
         [⟨some 16, none, .mv (.t 6)⟩,
          ⟨some 17, none, .fad 24 2 2 (.t 2)⟩,
          ⟨some 18, none, .ld1 22 (.t 17)⟩,
          ⟨some 19, none, .len 22 (.t 18)⟩,
          ⟨some 20, none, .bin .lss (.t 16) (.t 19)⟩])
    (.cond (.t 20)
      (.skip)
      (.exit 0)))
  (.seq (.block 1 (.dreg [0, 0, 2, 0, 14, 30, 0, 0, 128, 0, 896, 1984, 4094, 8191, 16383]
         [⟨some 23, none, .mv (.t 5)⟩,
          ⟨some 24, none, .fad 24 2 2 (.t 2)⟩,
          ⟨some 25, none, .ld1 22 (.t 24)⟩,
          ⟨some 26, none, .mv (.t 6)⟩,
          ⟨some 27, none, .iad 24 3 (.t 25) (.t 26)⟩,
          ⟨some 28, none, .ldn 24 3 (.t 27)⟩,
          ⟨some 29, none, .mv (.t 1)⟩,
          ⟨some 30, none, .fad 24 0 0 (.t 2)⟩,
          ⟨some 31, none, .ld1 3 (.t 30)⟩,
          ⟨some 32, none, .mv (.t 6)⟩,
          ⟨some 33, none, .call (.f 51) [.t 31, .t 32]⟩,
          ⟨some 34, none, .bin .add (.t 29) (.t 33)⟩,
          ⟨some 35, none, .call (.f 105) [.t 28, .t 34]⟩,
          ⟨some 36, none, .bin .add (.t 23) (.t 35)⟩,
          ⟨some 5, none, .mv (.t 36)⟩]))
  (.reg
     [⟨some 21, none, .mv (.t 6)⟩,
      ⟨some 22, none, .bin .add (.t 21) (.k (.int .i64 1))⟩,
      ⟨some 6, none, .mv (.t 22)⟩]))
def c105 : SCode :=
  .seq (.reg
       [⟨some 2, none, .box 24 (.t 0)⟩,
        ⟨some 4, none, .mv (.k (.int .i64 0))⟩])
  (.seq (.reg
       [⟨some 5, none, .mv (.k (.int .i64 0))⟩])
  (.seq (.seq (.reg
         [⟨some 7, none, .fad 24 0 0 (.t 2)⟩,
          ⟨some 8, none, .ld1 3 (.t 7)⟩,
          ⟨some 9, none, .bin .eql (.t 8) (.k (.int .i64 1))⟩,
          ⟨some 10, none, .mv (.t 9)⟩,
          ⟨some 11, some (10, true), .fad 24 1 1 (.t 2)⟩,
          ⟨some 12, some (10, true), .ld1 3 (.t 11)⟩,
          ⟨some 13, some (10, true), .mv (.t 1)⟩,
          ⟨some 14, some (10, true), .bin .eql (.t 12) (.t 13)⟩,
          ⟨some 15, none, .pick (.t 10) (.t 14) (.k (.bool false))⟩])
    (.cond (.t 15)
      (.reg
         [⟨some 5, none, .mv (.k (.int .i64 1))⟩])
      (.skip)))
  (.seq (.seq (.reg
         [⟨some 6, none, .mv (.k (.int .i64 0))⟩])
    (.block 0 (.loop c105b0)))
  (.seq (.reg
       [⟨some 37, none, .mv (.t 5)⟩,
        ⟨some 4, none, .mv (.t 37)⟩])
  (.ret)))))
def r105 : List RR := [.t 4]
theorem ok105 : okFn Go.Proofs.Try.prog 105 38 c105 r105 2 = true := by kernel_rfl

/- porism/porismref01.scoped -/
def c106b0 : SCode :=
  .seq (.seq (.reg
         [⟨some 27, none, .mv (.t 7)⟩,
          ⟨some 28, none, .fad 24 2 2 (.t 3)⟩,
          ⟨some 29, none, .ld1 22 (.t 28)⟩,
          ⟨some 30, none, .len 22 (.t 29)⟩,
          ⟨some 31, none, .bin .lss (.t 27) (.t 30)⟩])
    (.cond (.t 31)
      (.skip)
      (.exit 1)))
  (.seq (.block 2 (.seq (.dreg [0, 1, 0, 7, 15, 0, 0, 64, 0, 448, 992, 0, 4095, 8191]
           [⟨some 34, none, .fad 24 2 2 (.t 3)⟩,
            ⟨some 35, none, .ld1 22 (.t 34)⟩,
            ⟨some 36, none, .mv (.t 7)⟩,
            ⟨some 37, none, .iad 24 3 (.t 35) (.t 36)⟩,
            ⟨some 38, none, .ldn 24 3 (.t 37)⟩,
            ⟨some 39, none, .mv (.t 1)⟩,
            ⟨some 40, none, .fad 24 0 0 (.t 3)⟩,
            ⟨some 41, none, .ld1 3 (.t 40)⟩,
            ⟨some 42, none, .mv (.t 7)⟩,
            ⟨some 43, none, .call (.f 51) [.t 41, .t 42]⟩,
            ⟨some 44, none, .bin .add (.t 39) (.t 43)⟩,
            ⟨some 45, none, .mv (.t 2)⟩,
            ⟨some 46, none, .call (.f 106) [.t 38, .t 44, .t 45]⟩,
            ⟨some 47, none, .not (.t 46)⟩])
      (.cond (.t 47)
        (.seq (.reg
             [⟨some 6, none, .mv (.k (.bool false))⟩])
        (.ret))
        (.skip))))
  (.reg
     [⟨some 32, none, .mv (.t 7)⟩,
      ⟨some 33, none, .bin .add (.t 32) (.k (.int .i64 1))⟩,
      ⟨some 7, none, .mv (.t 33)⟩]))
def c106 : SCode :=
  .seq (.reg
       [⟨some 3, none, .box 24 (.t 0)⟩,
        ⟨some 6, none, .mv (.k (.bool false))⟩])
  (.seq (.seq (.reg
         [⟨some 8, none, .fad 24 0 0 (.t 3)⟩,
          ⟨some 9, none, .ld1 3 (.t 8)⟩])
    (.block 0 (.seq (.reg
           [⟨some 11, none, .bin .eql (.t 9) (.k (.int .i64 1))⟩,
            ⟨some 10, none, .mv (.t 11)⟩])
      (.cond (.t 10)
        (.seq (.reg
             [⟨some 12, none, .fad 24 1 1 (.t 3)⟩,
              ⟨some 13, none, .ld1 3 (.t 12)⟩,
              ⟨some 14, none, .mv (.t 1)⟩,
              ⟨some 15, none, .bin .lss (.t 13) (.t 14)⟩,
              ⟨some 6, none, .mv (.t 15)⟩])
        (.ret))
        (.seq (.reg
             [⟨some 17, none, .bin .eql (.t 9) (.k (.int .i64 2))⟩,
              ⟨some 16, none, .mv (.t 17)⟩])
        (.cond (.t 16)
          (.seq (.reg
               [⟨some 18, none, .fad 24 1 1 (.t 3)⟩,
                ⟨some 19, none, .ld1 3 (.t 18)⟩,
                ⟨some 20, none, .bin .leq (.t 19) (.k (.int .i64 6))⟩,
                ⟨some 6, none, .mv (.t 20)⟩])
          (.ret))
          (.seq (.reg
               [⟨some 22, none, .bin .eql (.t 9) (.k (.int .i64 3))⟩,
                ⟨some 21, none, .mv (.t 22)⟩])
          (.cond (.t 21)
            (.seq (.reg
                 [⟨some 23, none, .fad 24 1 1 (.t 3)⟩,
                  ⟨some 24, none, .ld1 3 (.t 23)⟩,
                  ⟨some 25, none, .mv (.t 2)⟩,
                  ⟨some 26, none, .bin .lss (.t 24) (.t 25)⟩,
                  ⟨some 6, none, .mv (.t 26)⟩])
            (.ret))
            (.skip)))))))))
  (.seq (.seq (.reg
         [⟨some 7, none, .mv (.k (.int .i64 0))⟩])
    (.block 1 (.loop c106b0)))
  (.seq (.reg
       [⟨some 6, none, .mv (.k (.bool true))⟩])
  (.ret))))
def r106 : List RR := [.t 6]
theorem ok106 : okFn Go.Proofs.Try.prog 106 48 c106 r106 3 = true := by kernel_rfl

/- porism/porismref01.Join -/
def c110b0 : SCode :=
  .seq (.seq (.reg
         [⟨some 7, none, .mv (.t 5)⟩,
          ⟨some 8, none, .mv (.t 0)⟩,
          ⟨some 9, none, .len 38 (.t 8)⟩,
          ⟨some 10, none, .bin .lss (.t 7) (.t 9)⟩,
          ⟨some 11, none, .mv (.t 10)⟩,
          ⟨some 12, some (11, true), .mv (.t 0)⟩,
          ⟨some 13, some (11, true), .mv (.t 5)⟩,
          ⟨some 14, some (11, true), .iad 3 1 (.t 12) (.t 13)⟩,
          ⟨some 15, some (11, true), .ld1 3 (.t 14)⟩,
          ⟨some 16, some (11, true), .mv (.t 1)⟩,
          ⟨some 17, some (11, true), .bin .lss (.t 15) (.t 16)⟩,
          ⟨some 18, none, .pick (.t 11) (.t 17) (.k (.bool false))⟩])
    (.cond (.t 18)
      (.skip)
      (.exit 0)))
  (.block 1 (.reg
       [⟨some 19, none, .mv (.t 5)⟩,
        ⟨some 20, none, .bin .add (.t 19) (.k (.int .i64 1))⟩,
        ⟨some 5, none, .mv (.t 20)⟩]))
def c110 : SCode :=
  .seq (.reg
       [⟨some 4, none, .mv (.nil 1 8)⟩])
  (.seq (.reg
       [⟨some 5, none, .mv (.k (.int .i64 0))⟩])
  (.seq (.block 0 (.loop c110b0))
  (.seq (.seq (.reg
         [⟨some 21, none, .mv (.t 5)⟩,
          ⟨some 22, none, .mv (.t 0)⟩,
          ⟨some 23, none, .len 38 (.t 22)⟩,
          ⟨some 24, none, .bin .lss (.t 21) (.t 23)⟩,
          ⟨some 25, none, .mv (.t 24)⟩,
          ⟨some 26, some (25, true), .mv (.t 0)⟩,
          ⟨some 27, some (25, true), .mv (.t 5)⟩,
          ⟨some 28, some (25, true), .iad 3 1 (.t 26) (.t 27)⟩,
          ⟨some 29, some (25, true), .ld1 3 (.t 28)⟩,
          ⟨some 30, some (25, true), .mv (.t 1)⟩,
          ⟨some 31, some (25, true), .bin .eql (.t 29) (.t 30)⟩,
          ⟨some 32, none, .pick (.t 25) (.t 31) (.k (.bool false))⟩])
    (.cond (.t 32)
      (.seq (.reg
           [⟨some 33, none, .mv (.t 0)⟩,
            ⟨some 4, none, .mv (.t 33)⟩])
      (.ret))
      (.skip)))
  (.seq (.reg
       [⟨some 6, none, .mv (.nil 1 8)⟩])
  (.seq (.reg
       [⟨some 34, none, .mv (.t 6)⟩,
        ⟨some 35, none, .mv (.t 0)⟩,
        ⟨some 36, none, .mv (.t 5)⟩,
        ⟨some 37, none, .slc 3 1 8 (.t 35) none (some (.t 36)) none⟩,
        ⟨some 38, none, .app 3 1 8 (.t 34) (.t 37)⟩,
        ⟨some 39, none, .mv (.t 1)⟩,
        ⟨some 40, none, .lit 3 1 8 [.t 39]⟩,
        ⟨some 41, none, .app 3 1 8 (.t 38) (.t 40)⟩,
        ⟨some 6, none, .mv (.t 41)⟩])
  (.seq (.reg
       [⟨some 42, none, .mv (.t 6)⟩,
        ⟨some 43, none, .mv (.t 0)⟩,
        ⟨some 44, none, .mv (.t 5)⟩,
        ⟨some 45, none, .slc 3 1 8 (.t 43) (some (.t 44)) none none⟩,
        ⟨some 46, none, .app 3 1 8 (.t 42) (.t 45)⟩,
        ⟨some 4, none, .mv (.t 46)⟩])
  (.ret)))))))
def r110 : List RR := [.t 4]
theorem ok110 : okFn Go.Proofs.Try.prog 110 47 c110 r110 2 = true := by kernel_rfl

end Go.Abs

namespace Go.Abs
open Go.Proofs

def cutI (l : List Int) (n : Int) : Nat := (l.takeWhile fun m => decide (m < n)).length
def joinI (l : List Int) (n : Int) : List Int := if l[cutI l n]? = some n then l else l.take (cutI l n) ++ [n] ++ l.drop (cutI l n)

theorem cut_le (l : List Int) (n : Int) : cutI l n ≤ l.length := by
  simp only [cutI]
  exact (List.takeWhile_sublist _).length_le
theorem cut_lt {l : List Int} {n : Int} : ∀ {i : Nat}, i < cutI l n → ∃ m, l[i]? = some m ∧ m < n := by
  induction l with
  | nil => intro i h; simp [cutI] at h
  | cons a l ih =>
    intro i h
    by_cases ha : a < n
    · have : cutI (a :: l) n = cutI l n + 1 := by simp [cutI, List.takeWhile_cons, ha]
      cases i with
      | zero => exact ⟨a, rfl, ha⟩
      | succ i => exact ih (by omega)
    · have : cutI (a :: l) n = 0 := by simp [cutI, List.takeWhile_cons, ha]
      omega
theorem cut_ge {l : List Int} {n m : Int} (h : l[cutI l n]? = some m) : ¬ m < n := by
  induction l with
  | nil => simp at h
  | cons a l ih =>
    by_cases ha : a < n
    · have : cutI (a :: l) n = cutI l n + 1 := by simp [cutI, List.takeWhile_cons, ha]
      rw [this] at h
      exact ih (by simpa using h)
    · have : cutI (a :: l) n = 0 := by simp [cutI, List.takeWhile_cons, ha]
      rw [this] at h
      simp at h; subst h; exact ha

theorem at_is {l : List Int} {i : Nat} {m : Int} (h : l[i]? = some m) : ∃ hi : i < (l.map fun n => [Cell.v (.int .i64 n)]).length, (l.map fun n => [Cell.v (.int .i64 n)])[i] = [.v (.int .i64 m)] := by
  obtain ⟨hi, e⟩ := getE h
  exact ⟨by simpa using hi, by simp [e]⟩

theorem fn110 (l : List Int) (n : Int) (hl : l.length ≤ 1000000000) : Fn Try.prog 110 [is l, ib n] (is (joinI l n)) := by
  refine fn_of (base := 110000) ok110 rfl fun σ h0 hr => ?_
  have s0 := h0 0
  have s1 := h0 1
  rw [slots0] at s0
  rw [slots1] at s1
  simp only [is, ib] at s0 s1
  clear h0 hr
  unfold c110
  simp [-W_block]
  have hcl := cut_le l n
  refine W_cut (fun σ => σ.sl 0 = is l ∧ σ.sl 1 = ib n ∧ σ.sl 5 = ib (cutI l n)) ?_ fun σ' hA => ?_
  · simp
    refine W_loop (fun m σ => ∃ i : Nat, i + m = cutI l n ∧ σ.sl 0 = is l ∧ σ.sl 1 = ib n ∧ σ.sl 5 = ib i) (cutI l n) ?_ ?_
    · exact ⟨0, by simp [s0, s1, is, ib]⟩
    · rintro m σ ⟨i, hm, q0, q1, q5⟩
      unfold c110b0
      simp only [is, ib] at q0 q1 q5
      by_cases hi : i < cutI l n
      · obtain ⟨x, hx, hxn⟩ := cut_lt hi
        obtain ⟨hi2, hx'⟩ := getE hx
        have w1 := wrap_succ (i := i) (by omega)
        have hlt : (i : Int) < (l.length : Int) := by omega
        simp [q0, q1, q5, hi2, hx', hxn]
        refine ⟨m - 1, by omega, i + 1, by omega, ?_⟩
        simp [q0, q1, w1, is, ib]
      · have hie : cutI l n = i := by omega
        by_cases hi2 : i < l.length
        · obtain ⟨x, hx⟩ := at_of hi2
          have hge := cut_ge (by rw [hie]; exact hx)
          obtain ⟨_, hx'⟩ := getE hx
          simp [q0, q1, q5, hi2, hx', hge, is, ib, hie]
        · simp [q0, q1, q5, hi2, is, ib, hie]
  · obtain ⟨q0, q1, q5⟩ := hA
    simp only [is, ib] at q0 q1 q5
    have hroom : (l.length + 1) * 8 ≤ room := by simp only [room]; omega
    by_cases hi : cutI l n < l.length
    · obtain ⟨x, hx⟩ := at_of hi
      obtain ⟨_, hx'⟩ := getE hx
      by_cases hxn : x = n
      · subst hxn
        have hj : joinI l x = l := by simp [joinI, hx]
        simp [q0, q1, q5, hi, hx', r110, is, hj]
      · have hj : joinI l n = l.take (cutI l n) ++ [n] ++ l.drop (cutI l n) := by simp [joinI, hx, hxn]
        have hm : min (cutI l n) l.length = cutI l n := by omega
        simp [q0, q1, q5, hi, hx', hxn, room, r110, is, hj, hm]
        refine ⟨⟨by omega, hcl⟩, by omega, by omega, ⟨by omega, hcl⟩, by omega, ?_⟩
        rw [List.take_of_length_le (by simp)]
    · have hle : l.length ≤ cutI l n := by omega
      have hj : joinI l n = l ++ [n] := by
        have h1 : l[cutI l n]? = none := List.getElem?_eq_none hle
        simp [joinI, h1, List.take_of_length_le hle, List.drop_eq_nil_of_le hle]
      have hce : cutI l n = l.length := by omega
      simp [q0, q1, q5, hce, room, r110, is, hj]
      refine ⟨by omega, by omega, by omega, by omega, ?_⟩
      rw [List.take_of_length_le (by simp)]

theorem countL_app6 (ts us : List T) : T.countL (ts ++ us) = T.countL ts + T.countL us := by
  induction ts with
  | nil => simp [T.countL]
  | cons t ts ih => simp only [List.cons_append, T.countL, ih]; omega
theorem countL_take6 (ts : List T) (i : Nat) : T.countL (ts.take i) ≤ T.countL ts := by
  have h := countL_app6 (ts.take i) (ts.drop i)
  rw [List.take_append_drop] at h
  omega
mutual
def T.rcons : T → List Int
  | .mk k n ts => T.rconsL ts (if k = 3 then joinI [] n else [])
def T.rconsL : List T → List Int → List Int
  | [], out => out
  | t :: ts, out => T.rconsL ts ((T.rcons t).foldl joinI out)
end
theorem join_len (l : List Int) (n : Int) : (joinI l n).length ≤ l.length + 1 := by
  have := cut_le l n
  simp only [joinI]; split <;> simp <;> omega
theorem fold_len : ∀ (ms out : List Int), (ms.foldl joinI out).length ≤ out.length + ms.length
  | [], out => by simp
  | m :: ms, out => by
    have h1 := fold_len ms (joinI out m)
    have h2 := join_len out m
    simp only [List.foldl_cons, List.length_cons]; omega
theorem rcons_len (t : T) : t.rcons.length ≤ t.count := by
  induction t using T.ind with
  | h k n ts ih =>
  have key : ∀ (ts : List T) (out : List Int), (∀ t, t ∈ ts → t.rcons.length ≤ t.count) → (T.rconsL ts out).length ≤ out.length + T.countL ts := by
    intro ts
    induction ts with
    | nil => intro out _; simp [T.rconsL, T.countL]
    | cons t ts ih2 =>
      intro out h
      have h1 := ih2 (t.rcons.foldl joinI out) fun u hu => h u (by simp [hu])
      have h2 := fold_len t.rcons out
      have h3 := h t (by simp)
      simp only [T.rconsL, T.countL]; omega
  have h1 := key ts (if k = 3 then joinI [] n else []) ih
  have h2 : (if k = 3 then joinI [] n else []).length ≤ 1 := by
    split
    · exact join_len [] n
    · simp
  simp only [T.rcons, T.count]; omega
theorem rconsL_len (ts : List T) (out : List Int) : (T.rconsL ts out).length ≤ out.length + T.countL ts := by
  induction ts generalizing out with
  | nil => simp [T.rconsL, T.countL]
  | cons t ts ih2 =>
    have h1 := ih2 (t.rcons.foldl joinI out)
    have h2 := fold_len t.rcons out
    have h3 := rcons_len t
    simp only [T.rconsL, T.countL]; omega

def isC (l : List Int) : AV → Prop := fun x => x = is l ∨ x = .c (.cap 1 8 (l.map fun n => [.v (.int .i64 n)]))

theorem fn61 (t : T) : t.count ≤ 1048576 → Fn Try.prog 61 [tm t] (is t.rcons) := by
  induction t using T.ind with
  | h k n ts ih =>
  intro hc
  simp only [T.count] at hc
  refine fn_of (base := 61000) ok61 rfl fun σ h0 hr => ?_
  have s0 := h0 0
  rw [slots0] at s0
  have hlen := real_kids (hr (tm (.mk k n ts)) (by simp))
  rw [kids_mk] at hlen
  simp only [tm, cells_mk] at s0
  clear h0 hr
  have loop : ∀ (out0 : List Int) (σ : St), out0.length ≤ 1 → isC out0 (σ.sl 3) → σ.sl 1 = .c (.ref 61001 (σ.tg 61001) 0) → σ.ob 61001 = some (.box 24 (T.mk k n ts).cells) → σ.sl 4 = ib 0 →
      T.rconsL ts out0 = (T.mk k n ts).rcons → W Try.prog 61000 (.loop c61b1) σ (onBlock 0 (seqC Try.prog 61000 (.seq (.reg
       [⟨some 39, none, .mv (.t 3)⟩,
        ⟨some 2, none, .mv (.t 39)⟩])
  (.ret)) (onEnd [] r61 (is (T.mk k n ts).rcons) []))) := by
    intro out0 σ hol q3 q1 qo q4 hres
    simp only [cells_mk] at qo
    refine W_loop (fun m σ => ∃ (i : Nat) (out : List Int), i + m = ts.length ∧ T.rconsL (ts.drop i) out = T.rconsL ts out0 ∧ out.length ≤ out0.length + T.countL (ts.take i) ∧ isC out (σ.sl 3) ∧ σ.sl 1 = .c (.ref 61001 (σ.tg 61001) 0) ∧ σ.ob 61001 = some (.box 24 (T.mk k n ts).cells) ∧ σ.sl 4 = ib i) ts.length ?_ ?_
    · exact ⟨0, out0, by simp [q3, q1, qo, q4, cells_mk]⟩
    · clear q3 q1 qo q4
      rintro m σ ⟨i, out, hm, hp, ho, q3, q1, qo, q4⟩
      unfold c61b1
      simp only [cells_mk, ib] at qo q4
      by_cases hi : i < ts.length
      · obtain ⟨t, ht⟩ := at_of hi
        obtain ⟨_, ht'⟩ := getE ht
        have w1 := wrap_succ (i := i) (by omega)
        rw [drop_at ht, T.rconsL] at hp
        have hmem := List.mem_of_getElem? ht
        have hcm := count_mem hmem
        have hrl := rcons_len t
        have htk : T.countL (ts.take (i + 1)) = T.countL (ts.take i) + t.count := by
          rw [List.take_add_one, ht]
          simp [countL_app6, T.countL]
        have htl : T.countL (ts.take (i + 1)) ≤ T.countL ts := countL_take6 ts (i + 1)
        simp [q1, qo, q4, hi, ht']
        refine ECall.fn (ih t hmem (by omega)) (by simp [tm]) (by simp) (by simp [is]) fun _ => ?_
        simp [is, -W_block]
        refine W_cut (fun σ => isC (t.rcons.foldl joinI out) (σ.sl 3) ∧ σ.sl 1 = .c (.ref 61001 (σ.tg 61001) 0) ∧ σ.ob 61001 = some (.box 24 (T.mk k n ts).cells) ∧ σ.sl 4 = ib i) ?_ fun σ' hA => ?_
        · simp
          refine W_loop (fun m σ => ∃ (j : Nat) (o2 : List Int), j + m = t.rcons.length ∧ (t.rcons.drop j).foldl joinI o2 = t.rcons.foldl joinI out ∧ o2.length ≤ out.length + j ∧ isC o2 (σ.sl 3) ∧ σ.sl 5 = is t.rcons ∧ σ.sl 6 = ib j ∧ σ.sl 1 = .c (.ref 61001 (σ.tg 61001) 0) ∧ σ.ob 61001 = some (.box 24 (T.mk k n ts).cells) ∧ σ.sl 4 = ib i) t.rcons.length ?_ ?_
          · exact ⟨0, out, by simp [q3, q1, qo, q4, cells_mk, is, ib]⟩
          · clear q3 q1 qo q4
            rintro m σ ⟨j, o2, hm, hp, ho2, q3, q5, q6, q1, qo, q4⟩
            unfold c61b0
            simp only [is, ib] at q5 q6
            by_cases hj : j < t.rcons.length
            · obtain ⟨x, hx⟩ := at_of hj
              obtain ⟨_, hx'⟩ := getE hx
              have w2 := wrap_succ (i := j) (by omega)
              rw [drop_at hx, List.foldl_cons] at hp
              have hjl := join_len o2 x
              rcases q3 with q3 | q3
              all_goals
                try simp only [is] at q3
                simp [q3, q5, q6, hj, hx']
                refine ECall.fn (fn110 o2 x (by omega)) (by simp [is, ib]) (by simp) (by simp [is]) fun _ => ?_
                simp [is, q6]
                refine ⟨m - 1, by omega, j + 1, by omega, _, hp, by omega, ?_⟩
                simp [q5, q1, qo, q4, w2, is, ib, isC]
            · rw [List.drop_eq_nil_of_le (by omega), List.foldl_nil] at hp
              simp [q5, q6, hj, q3, q1, qo, q4, ← hp]
        · obtain ⟨q3, q1, qo, q4⟩ := hA
          simp only [ib] at q4
          simp [q4]
          have hfl := fold_len t.rcons out
          refine ⟨m - 1, by omega, i + 1, by omega, _, hp, by omega, ?_⟩
          simp [q3, q1, qo, w1, ib]
      · rw [List.drop_eq_nil_of_le (by omega), T.rconsL] at hp
        have hoo : out = (T.mk k n ts).rcons := hp.trans hres
        rcases q3 with q3 | q3
        all_goals
          try simp only [is] at q3
          simp [q3, q1, qo, q4, hi, r61, is, ← hoo]
  unfold c61
  by_cases h3 : k = 3
  · subst h3
    simp [s0]
    refine ECall.fn (fn110 [] n (by simp)) (by simp [is, ib]) (by simp) (by simp [is]) fun _ => ?_
    simp [is]
    exact loop (joinI [] n) _ (join_len [] n) (.inl (by simp [is])) (by simp) (by simp [cells_mk]) (by simp [ib]) (by simp [T.rcons])
  · simp [s0, h3]
    exact loop [] _ (by simp) (.inr (by simp)) (by simp) (by simp [cells_mk]) (by simp [ib]) (by simp [T.rcons, h3])
end Go.Abs

namespace Go.Abs
open Go.Proofs

theorem fn51 (k i : Int) : Fn Try.prog 51 [ib k, ib i] (ib (bindsOf k i)) := by
  refine fn_of (base := 51000) ok51 rfl fun σ h0 hr => ?_
  have s0 := h0 0
  have s1 := h0 1
  rw [slots0] at s0
  rw [slots1] at s1
  simp only [ib] at s0 s1
  clear h0 hr
  unfold c51
  simp [s0, s1, r51, ib]
  refine ⟨fun h1 h2 => ?_, fun h => ?_⟩
  · simp only [bindsOf]; rw [if_pos (by omega)]
  · simp only [bindsOf]; rw [if_neg (by omega)]

theorem kid_right {k n : Int} {ts : List T} (hc : (T.mk k n ts).count ≤ 1048576) (h : (T.mk k n ts).check = 0) {t : T} (ht : t ∈ ts) : t.check = 0 ∧ t.count ≤ 1048576 := by
  have h1 := (check_iff _).1 h
  have h2 := size_count (T.mk k n ts) (by omega)
  have h3 := count_mem ht
  have h6 := hc
  simp only [T.count] at h2 h6
  have h4 := size_count t (by omega)
  have h5 := depth_kid (k := k) (n := n) ht (by simp only [T.count]; omega)
  have hf := h1.2.2
  rw [T.formed, Bool.and_eq_true, formedL_all, List.all_eq_true] at hf
  exact ⟨(check_iff t).2 ⟨by omega, by omega, hf.2 t ht⟩, by omega⟩

theorem mvL_get (k b c : Int) : ∀ (ts : List T) (i : Int) (j : Nat) (t : T), ts[j]? = some t → (T.mvL k b c i ts)[j]? = some (t.mv b (c + bindsOf k (i + j)))
  | u :: ts, i, 0, t, h => by simp at h; subst h; simp [T.mvL]
  | u :: ts, i, j + 1, t, h => by
    have h1 := mvL_get k b c ts (i + 1) j t (by simpa using h)
    have e : i + ((j + 1 : Nat) : Int) = i + 1 + (j : Int) := by omega
    rw [e]
    simpa [T.mvL] using h1
  | [], i, j, t, h => by simp at h
theorem ovL_get {k b c : Int} : ∀ {ts : List T} {i : Int}, T.ovL k b c i ts = false → ∀ {j : Nat} {t : T}, ts[j]? = some t → t.ov b (c + bindsOf k (i + j)) = false
  | u :: ts, i, h0, 0, t, h => by simp only [T.ovL, Bool.or_eq_false_iff] at h0; simp at h; subst h; simpa using h0.1
  | u :: ts, i, h0, j + 1, t, h => by
    simp only [T.ovL, Bool.or_eq_false_iff] at h0
    have h1 := ovL_get h0.2 (j := j) (t := t) (by simpa using h)
    have e : i + ((j + 1 : Nat) : Int) = i + 1 + (j : Int) := by omega
    rw [e]
    exact h1
  | [], i, h0, j, t, h => by simp at h

theorem fn9 (t : T) (b fr : Int) (hc : t.count ≤ 1048576) : Fn Try.prog 9 [tm t, ib b, ib fr] (bb true) := by
  obtain ⟨k, n, ts⟩ := t
  refine fn_of (base := 9000) ok9 rfl fun σ h0 hr => ?_
  have s0 := h0 0
  have s1 : σ.sl 1 = ib b := h0 1
  have s2 : σ.sl 2 = ib fr := h0 2
  rw [slots0] at s0
  simp only [tm, ib, cells_mk] at s0 s1 s2
  have hlen := real_kids (hr (tm (.mk k n ts)) (by simp))
  rw [kids_mk] at hlen
  clear h0 hr
  obtain ⟨b1, b2, b3⟩ := umod b (m := 1000) (by omega) (by omega)
  obtain ⟨i1, i2, i3⟩ := umod fr (m := 50) (by omega) (by omega)
  unfold c9
  simp [s0, room]
  refine ECall.fn (fn17 [.mk k n ts]) (by simp [tms, cells_mk]) (by simp) rfl fun _ => ?_
  simp [bb]
  refine GCall.fn (fun _ => fn27 (.mk k n ts)) (by simp [tm, cells_mk]) (by simp) rfl fun _ => ?_
  simp [ib, r9]
  intro hh hck hne
  simp [s1, s2, b3, i3]
  generalize (uw b).tmod 1000 = b at b1 b2 b3
  generalize (uw fr).tmod 50 = c at i1 i2 i3
  clear s1 s2
  refine ECall.fn (fn49 (.mk k n ts) b c) (by simp [tm, ib, cells_mk]) (by simp) (by simp [tm, ib, AV.keys2]) fun _ => ?_
  simp [tm, ib]
  refine ⟨fun he => ?_, fun he => ?_⟩
  · refine GCall.fn (fun _ => fn50) (by simp) (by simp) rfl fun _ => ?_
    have h6 : ((T.mk k n ts).shift b c).2 = 6 := by
      have := shift_bad hc (b := b) (fr := c) b1 (by omega) i1 (by omega) hck
      omega
    simp [bb, h6]
  · obtain ⟨_, o1, m1⟩ := shift_ok hc b1 (by omega) i1 (by omega) he
    have hf := ((check_iff _).1 hck).2.2
    rw [T.formed, Bool.and_eq_true] at hf
    have hk1 : k ≠ 1 := fun h => by
      have := head_leaf hf.1 (.inl h)
      exact hne this
    have hmv : (T.mk k n ts).mv b c = .mk k n (T.mvL k b c 0 ts) := by simp [T.mv, hk1]
    rw [T.ov, if_neg hk1] at o1
    rw [hmv] at m1
    simp [m1, cells_mk, mvL_len]
    refine W_loop (fun m σ => ∃ i : Nat, i + m = ts.length ∧ σ.sl 1 = .c (.v (.int .i64 b)) ∧ σ.sl 2 = .c (.v (.int .i64 c)) ∧ σ.sl 3 = .c (.ref 9003 (σ.tg 9003) 0) ∧ σ.ob 9003 = some (.box 24 (T.mk k n ts).cells) ∧
      σ.sl 7 = .c (.ref 9007 (σ.tg 9007) 0) ∧ σ.ob 9007 = some (.box 24 (T.mk k n (T.mvL k b c 0 ts)).cells) ∧ σ.sl 9 = .c (.v (.int .i64 i))) ts.length ?_ ?_
    · exact ⟨0, by simp [cells_mk]⟩
    · rintro m σ ⟨i, hm, q1, q2, q3, o3, q7, o7, q9⟩
      unfold c9b0
      simp only [cells_mk] at o3 o7
      by_cases hi : i < ts.length
      · obtain ⟨t, ht⟩ := at_of hi
        obtain ⟨_, ht'⟩ := getE ht
        have w1 := wrap_succ (i := i) (by omega)
        have hbd := binds01 k i
        have w2 : IntKind.wrap .i64 (c + bindsOf k i) = c + bindsOf k i := wrap_id (by omega) (by omega)
        obtain ⟨kc, kn⟩ := kid_right hc hck (List.mem_of_getElem? ht)
        have ho := ovL_get o1 ht
        rw [Int.zero_add] at ho
        have hs := shift_run kn (b := b) (fr := c + bindsOf k i) b1 (by omega) (by omega) (by omega) kc ho
        have hg := mvL_get k b c ts 0 i t ht
        rw [Int.zero_add] at hg
        obtain ⟨hgl, hg'⟩ := getE hg
        have c49 := fn49 t b (c + bindsOf k i)
        rw [hs] at c49
        have c45 := fn45 (t.mv b (c + bindsOf k i)) (t.mv b (c + bindsOf k i))
        rw [eqb_self] at c45
        simp [q1, q2, q3, o3, q7, o7, q9, hi, ht']
        refine W_dregD w9_0 f9_0 (by decide) ?_
        unfold w9_0 f9_0
        simp [q1, q2, q3, o3, q7, o7, q9, hi, ht']
        refine CallD.fn (fn51 k i) (by simp [ib]) (by simp) rfl (by simp) ?_
        simp [ib, w2]
        refine CallD.fn c49 (by simp [tm, ib]) (by simp) (by simp [tm, ib, AV.keys2]) (by simp) ?_
        simp [tm, ib, AV.keys2]
        refine realC_n ?_
        simp
        refine W_dregA ?_
        have hil : (i : Int) < (T.mvL k b c 0 ts).length := by omega
        simp [q3, o3, q7, o7, q9, hi, hil, hgl, hg']
        refine GCallA.fn (fun _ => c45) (by simp [tm]) (by simp) rfl ?_
        simp [bb]
        refine realC_n ?_
        simp [q9]
        refine ⟨m - 1, by omega, i + 1, by omega, ?_⟩
        simp [q1, q2, q3, o3, q7, o7, cells_mk, w1]
      · simp [q1, q2, q3, o3, q7, o7, q9, hi]
        refine W_loop (fun m σ => ∃ (i : Nat) (a : Int), i + m = ts.length ∧ T.cntL k c 0 i a (ts.drop i) = T.cntL k c 0 0 0 ts ∧ σ.sl 2 = .c (.v (.int .i64 c)) ∧ σ.sl 3 = .c (.ref 9003 (σ.tg 9003) 0) ∧ σ.ob 9003 = some (.box 24 (T.mk k n ts).cells) ∧
          σ.sl 12 = .c (.v (.int .i64 a)) ∧ σ.sl 13 = .c (.v (.int .i64 i))) ts.length ?_ ?_
        · exact ⟨0, 0, by simp [cells_mk, q2, q3, o3]⟩
        · clear q1 q2 q3 o3 q7 o7 q9
          rintro m σ ⟨i, a, hm, hp, q2, q3, o3, q12, q13⟩
          unfold c9b1
          simp only [cells_mk] at o3
          by_cases hi : i < ts.length
          · obtain ⟨t, ht⟩ := at_of hi
            obtain ⟨_, ht'⟩ := getE ht
            have w1 := wrap_succ (i := i) (by omega)
            have hbd := binds01 k i
            have w2 : IntKind.wrap .i64 (c + bindsOf k i) = c + bindsOf k i := wrap_id (by omega) (by omega)
            have w3 : IntKind.wrap .i64 (0 + bindsOf k i) = bindsOf k i := by rw [Int.zero_add]; exact wrap_id (by omega) (by omega)
            obtain ⟨kc, kn⟩ := kid_right hc hck (List.mem_of_getElem? ht)
            have hcnt : (if 0 ≤ c + bindsOf k i ∧ c + bindsOf k i ≤ 65535 then t.cnt (c + bindsOf k i) 0 else 0) = t.cnt c (bindsOf k i) := by
              rw [if_pos (by omega), cnt_occ t _ 0 (by omega) (by omega) (by omega), cnt_occ t c _ (by omega) (by omega) (by omega), Int.add_zero]
            have c52 := fn52 t (c + bindsOf k i)
            rw [hcnt] at c52
            rw [drop_at ht, T.cntL] at hp
            rw [w3] at hp
            simp [q2, q3, o3, q12, q13, hi, ht']
            refine W_dregA ?_
            simp [q2, q3, o3, q12, q13, hi, ht']
            refine CallA.fn (fn51 k i) (by simp [ib]) (by simp) rfl ?_
            simp [ib, w2]
            refine CallA.fn c52 (by simp [tm, ib]) (by simp) rfl ?_
            simp [ib]
            refine realC_n ?_
            simp [q13]
            refine ⟨m - 1, by omega, i + 1, by omega, _, hp, ?_⟩
            simp [q2, q3, o3, cells_mk, w1]
          · rw [List.drop_eq_nil_of_le (by omega), T.cntL] at hp
            have c52 := fn52 (.mk k n ts) c
            have hcnt : (if 0 ≤ c ∧ c ≤ 65535 then (T.mk k n ts).cnt c 0 else 0) = a := by
              rw [if_pos (by omega), hp, T.cnt, if_neg (by omega)]
            rw [hcnt] at c52
            simp [q2, q3, o3, q12, q13, hi]
            refine ECall.fn c52 (by simp [tm, ib, cells_mk]) (by simp) rfl fun _ => ?_
            simp [ib]
            refine GCall.fn (fun _ => fn50) (by simp) (by simp) rfl fun _ => ?_
            simp [bb]
end Go.Abs

namespace Go.Abs
open Go.Proofs

theorem fn59 (l r : List Int) : Fn Try.prog 59 [is l, is r] (bb (decide (l = r))) := by
  refine fn_of (base := 59000) ok59 rfl fun σ h0 hr => ?_
  have s0 := h0 0
  have s1 := h0 1
  rw [slots0] at s0
  rw [slots1] at s1
  have hlen := real_is (hr (is l) (by simp))
  simp only [is] at s0 s1
  clear h0 hr
  unfold c59
  by_cases hl : l.length = r.length
  case neg =>
    have hl' : ¬ ((l.length : Int) = (r.length : Int)) := by omega
    have hne : ¬ l = r := fun h => hl (by rw [h])
    simp [s0, s1, hl', r59, bb, hne]
  case pos =>
    simp [s0, s1, hl]
    refine W_loop (fun m σ => ∃ i : Nat, i + m = l.length ∧ (l.drop i = r.drop i ↔ l = r) ∧ σ.sl 0 = is l ∧ σ.sl 1 = is r ∧ σ.sl 5 = ib i) l.length ?_ ?_
    · exact ⟨0, by simp [s0, s1, is, ib]⟩
    · rintro m σ ⟨i, hm, hp, q0, q1, q5⟩
      unfold c59b0
      simp only [is, ib] at q0 q1 q5
      by_cases hi : i < l.length
      · obtain ⟨x, hx⟩ := at_of hi
        obtain ⟨y, hy⟩ := at_of (show i < r.length by omega)
        obtain ⟨_, hx'⟩ := getE hx
        obtain ⟨hi2, hy'⟩ := getE hy
        have w1 := wrap_succ (i := i) (by omega)
        rw [drop_at hx, drop_at hy, List.cons.injEq] at hp
        simp [q0, q1, q5, hi, hi2, hx', hy']
        refine W_dregA ?_
        simp [q0, q1, q5, hi, hi2, hx', hy']
        refine realC_n ?_
        simp
        constructor
        · intro hne
          have : ¬ l = r := fun h => hne (hp.2 h).1
          simp [r59, bb, this]
        · intro he
          simp [q5]
          refine ⟨m - 1, by omega, i + 1, by omega, ?_, ?_⟩
          · rw [← hp]; simp [he]
          · simp [q0, q1, w1, is, ib]
      · have h1 : l = r := by
          rw [← hp, List.drop_eq_nil_of_le (by omega), List.drop_eq_nil_of_le (by omega)]
        have hi' : ¬ i < r.length := by omega
        simp [q0, q1, q5, hi, hi', r59, bb, h1]

mutual
def T.rcnt : T → Int → Int
  | .mk k n ts, v => T.rcntL k v 0 (if k = 1 ∧ n = v then 1 else 0) ts
def T.rcntL (k v : Int) : Int → Int → List T → Int
  | _, a, [] => a
  | i, a, t :: ts => T.rcntL k v (i + 1) (IntKind.wrap .i64 (a + T.rcnt t (IntKind.wrap .i64 (v + bindsOf k i)))) ts
end
theorem fn105 (t : T) : ∀ v, Fn Try.prog 105 [tm t, ib v] (ib (t.rcnt v)) := by
  induction t using T.ind with
  | h k n ts ih =>
  intro v
  refine fn_of (base := 105000) ok105 rfl fun σ h0 hr => ?_
  have s0 := h0 0
  have s1 := h0 1
  rw [slots0] at s0
  rw [slots1] at s1
  have hlen := real_kids (hr (tm (.mk k n ts)) (by simp))
  rw [kids_mk] at hlen
  simp only [tm, cells_mk, ib] at s0 s1
  clear h0 hr
  have loop : ∀ (a0 : Int) (σ : St), σ.sl 5 = .c (.v (.int .i64 a0)) → σ.sl 1 = .c (.v (.int .i64 v)) → σ.sl 2 = .c (.ref 105002 (σ.tg 105002) 0) → σ.ob 105002 = some (.box 24 (T.mk k n ts).cells) → σ.sl 6 = .c (.v (.int .i64 0)) →
      T.rcntL k v 0 a0 ts = (T.mk k n ts).rcnt v → W Try.prog 105000 (.loop c105b0) σ (onBlock 0 (seqC Try.prog 105000 (.seq (.reg
       [⟨some 37, none, .mv (.t 5)⟩,
        ⟨some 4, none, .mv (.t 37)⟩])
  (.ret)) (onEnd [] r105 (ib ((T.mk k n ts).rcnt v)) []))) := by
    intro a0 σ q5 q1 q2 qo q6 hres
    simp only [cells_mk] at qo
    refine W_loop (fun m σ => ∃ (i : Nat) (a : Int), i + m = ts.length ∧ T.rcntL k v i a (ts.drop i) = T.rcntL k v 0 a0 ts ∧ σ.sl 5 = .c (.v (.int .i64 a)) ∧ σ.sl 1 = .c (.v (.int .i64 v)) ∧ σ.sl 2 = .c (.ref 105002 (σ.tg 105002) 0) ∧ σ.ob 105002 = some (.box 24 (T.mk k n ts).cells) ∧ σ.sl 6 = .c (.v (.int .i64 i))) ts.length ?_ ?_
    · exact ⟨0, a0, by simp [q5, q1, q2, qo, q6, cells_mk]⟩
    · clear q5 q1 q2 qo q6
      rintro m σ ⟨i, a, hm, hp, q5, q1, q2, qo, q6⟩
      unfold c105b0
      simp only [cells_mk] at qo
      by_cases hi : i < ts.length
      · obtain ⟨t, ht⟩ := at_of hi
        obtain ⟨_, ht'⟩ := getE ht
        have w1 := wrap_succ (i := i) (by omega)
        rw [drop_at ht, T.rcntL] at hp
        simp [q5, q1, q2, qo, q6, hi, ht']
        refine W_dregA ?_
        simp [q5, q1, q2, qo, q6, hi, ht']
        refine CallA.fn (fn51 k i) (by simp [ib]) (by simp) rfl ?_
        simp [ib]
        refine CallA.fn (ih t (List.mem_of_getElem? ht) (IntKind.wrap .i64 (v + bindsOf k i))) (by simp [tm, ib]) (by simp) rfl ?_
        simp [ib]
        refine realC_n ?_
        simp [q6]
        refine ⟨m - 1, by omega, i + 1, by omega, _, hp, ?_⟩
        simp [q1, q2, qo, cells_mk, w1]
      · rw [List.drop_eq_nil_of_le (by omega), T.rcntL] at hp
        simp [q5, q1, q2, qo, q6, hi, r105, ib, ← hres, hp]
  unfold c105
  by_cases hk : k = 1
  · subst hk
    by_cases hn : n = v
    · subst hn
      simp [s0, s1]
      exact loop 1 _ (by simp) (by simp [s1]) (by simp) (by simp [cells_mk]) (by simp) (by simp [T.rcnt])
    · simp [s0, s1, hn]
      exact loop 0 _ (by simp) (by simp [s1]) (by simp) (by simp [cells_mk]) (by simp) (by simp [T.rcnt, hn])
  · simp [s0, s1, hk]
    exact loop 0 _ (by simp) (by simp [s1]) (by simp) (by simp [cells_mk]) (by simp) (by simp [T.rcnt, hk])

def T.rcount (t : T) (v : Int) : Int := if mayB v = true then t.rcnt v else 0
theorem fn56 (t : T) (v : Int) : Fn Try.prog 56 [tm t, ib v] (ib (t.rcount v)) := by
  refine fn_of (base := 56000) ok56 rfl fun σ h0 hr => ?_
  have s0 := h0 0
  have s1 := h0 1
  rw [slots0] at s0
  rw [slots1] at s1
  simp only [tm, ib] at s0 s1
  clear h0 hr
  unfold c56
  simp [s0, s1]
  refine ECall.fn (fn101 v 0 65535) (by simp [ib]) (by simp) rfl fun _ => ?_
  by_cases hb : mayB v = true
  · have hb' : (decide (0 ≤ v) && decide (v ≤ 65535)) = true := hb
    simp [bb, hb', s1]
    refine ECall.fn (fn105 t v) (by simp [ib, tm]) (by simp) rfl fun _ => ?_
    simp [ib, r56, T.rcount, hb]
  · have hb' : (decide (0 ≤ v) && decide (v ≤ 65535)) = false := by simpa [mayB] using hb
    simp [bb, hb', r56, ib, T.rcount, hb]

theorem fn106 (t : T) : ∀ a b : Int, Fn Try.prog 106 [tm t, ib a, ib b] (bb (t.within a b)) := by
  induction t using T.ind with
  | h k n ts ih =>
  intro a b
  refine fn_of (base := 106000) ok106 rfl fun σ h0 hr => ?_
  have s0 := h0 0
  have s1 := h0 1
  have s2 := h0 2
  rw [slots0] at s0
  rw [slots1] at s1
  rw [slots2] at s2
  have hlen := real_kids (hr (tm (.mk k n ts)) (by simp))
  rw [kids_mk] at hlen
  simp only [tm, cells_mk, ib] at s0 s1 s2
  clear h0 hr
  unfold c106
  by_cases h1 : k = 1
  · subst h1; simp [s0, s1, s2, r106, bb, T.within]
  by_cases h2 : k = 2
  · subst h2; simp [s0, s1, s2, r106, bb, T.within]
  by_cases h3 : k = 3
  · subst h3; simp [s0, s1, s2, r106, bb, T.within]
  simp [s0, s1, s2, h1, h2, h3]
  refine W_loop (fun m σ => ∃ (i : Nat), i + m = ts.length ∧ T.withinL k a b i (ts.drop i) = T.withinL k a b 0 ts ∧ σ.sl 1 = ib a ∧ σ.sl 2 = ib b ∧ σ.sl 3 = .c (.ref 106003 (σ.tg 106003) 0) ∧ σ.ob 106003 = some (.box 24 (T.mk k n ts).cells) ∧ σ.sl 7 = ib i) ts.length ?_ ?_
  · exact ⟨0, by simp [ib, cells_mk, s1, s2]⟩
  · rintro m σ ⟨i, hm, hp, q1, q2, q3, qo, q7⟩
    unfold c106b0
    simp only [ib, cells_mk] at q1 q2 q3 qo q7
    by_cases hi : i < ts.length
    · obtain ⟨t, ht⟩ := at_of hi
      obtain ⟨_, ht'⟩ := getE ht
      have w1 := wrap_succ (i := i) (by omega)
      rw [drop_at ht, T.withinL] at hp
      simp [q1, q2, q3, qo, q7, hi, ht']
      refine W_dregA ?_
      simp [q1, q2, q3, qo, q7, hi, ht']
      refine CallA.fn (fn51 k i) (by simp [ib]) (by simp) rfl ?_
      simp [ib, q1, q2]
      refine CallA.fn (ih t (List.mem_of_getElem? ht) (IntKind.wrap .i64 (a + bindsOf k i)) b) (by simp [ib, tm]) (by simp) rfl ?_
      simp [bb]
      refine realC_n ?_
      simp
      constructor
      · intro hd
        simp [r106, ← hp, hd, T.within, h1, h2, h3]
      · intro hd
        rw [hd, Bool.true_and] at hp
        simp [q7]
        refine ⟨m - 1, by omega, i + 1, by omega, by simpa using hp, ?_⟩
        simp [q1, q2, q3, qo, ib, w1, cells_mk]
    · simp [q1, q2, q3, qo, q7, hi, r106, bb, T.within, h1, h2, h3]
      rw [← hp, List.drop_eq_nil_of_le (by omega), T.withinL]

def T.rscope (t : T) (a b : Int) : Bool := decide (0 ≤ a) && decide (0 ≤ b) && decide (t.check = 0) && T.within t (best2 false a 1048576) b
theorem fn58 (t : T) (a b : Int) : Fn Try.prog 58 [tm t, ib a, ib b] (bb (t.rscope a b)) := by
  refine fn_of (base := 58000) ok58 rfl fun σ h0 hr => ?_
  have s0 := h0 0
  have s1 := h0 1
  have s2 := h0 2
  rw [slots0] at s0
  rw [slots1] at s1
  rw [slots2] at s2
  simp only [tm, ib] at s0 s1 s2
  clear h0 hr
  unfold c58
  simp [s0, s1, s2]
  refine GCall.fn (fun _ => fn27 t) (by simp [tm]) (by simp) rfl fun _ => ?_
  simp [ib, s1, s2]
  refine GCall.fn (fun _ => fn106 t (best2 false a 1048576) b) (by simp [tm, ib]) (by simp) rfl fun _ => ?_
  simp [bb, r58, T.rscope]
end Go.Abs

namespace Go.Abs
open Go.Proofs

theorem fn60 (t : T) (hc : t.count ≤ 1048576) (hw : t.wf = true) : Fn Try.prog 60 [tm t] (is t.consts) := by
  refine fn_of (base := 60000) ok60 rfl fun σ h0 hr => ?_
  have s0 := h0 0
  rw [slots0] at s0
  simp only [tm] at s0
  clear h0 hr
  obtain ⟨f1, f2, f3⟩ := cons_facts t []
  unfold c60
  simp [s0]
  refine ECall.obj (rs := []) (args := [tm t, .c (.mp 60004 (σ.tg 60004 + 1))]) (by simpa [refs] using sp107 t 60004 (σ.tg 60004 + 1) [] (by omega)) (by simp [tm]) (by simp) (by simp [AV.keys2]) ?_ (mpO_kin _ _ _ _) fun _ => ?_
  · intro k' t' q h
    obtain ⟨rfl, rfl, rfl⟩ := mpO_get h
    simp [encK]
  · simp
    refine ECall.keys (k := 60004) (one := true) (es := encK (t.cons [])) (by simp [puts_some (mpO_self 60004 (σ.tg 60004 + 1) (t.cons []))]) (by simp) ?_
    simp
    refine ECall.sorted 60010 (k := 60004) (one := true) (es := encK (t.cons [])) (by simp [puts_some (mpO_self 60004 (σ.tg 60004 + 1) (t.cons []))]) (by simp) (by omega) ?_ ?_ ?_
    · intro p hp
      obtain ⟨n, hn, rfl⟩ := List.mem_map.1 hp
      exact f3 hw (by simp) n hn
    · simp [encK]
      simp at f1
      omega
    · simp [r60, is, isL, encK_keys, T.consts]

/-! ### the constants, sorted -/
abbrev Srt (l : List Int) : Prop := l.Pairwise (· < ·)
theorem srt_ext : ∀ {l r : List Int}, Srt l → Srt r → (∀ n, n ∈ l ↔ n ∈ r) → l = r
  | [], [], _, _, _ => rfl
  | [], b :: r, _, _, h => by have := (h b).2 (by simp); simp at this
  | a :: l, [], _, _, h => by have := (h a).1 (by simp); simp at this
  | a :: l, b :: r, hl, hr, h => by
    have hl' := List.pairwise_cons.1 hl
    have hr' := List.pairwise_cons.1 hr
    have hab : a = b := by
      rcases List.mem_cons.1 ((h a).1 (by simp)) with h1 | h1
      · exact h1
      · rcases List.mem_cons.1 ((h b).2 (by simp)) with h2 | h2
        · exact h2.symm
        · have := hr'.1 a h1
          have := hl'.1 b h2
          omega
    subst hab
    congr 1
    refine srt_ext hl'.2 hr'.2 fun n => ⟨fun hn => ?_, fun hn => ?_⟩
    · have h1 := hl'.1 n hn
      rcases List.mem_cons.1 ((h n).1 (by simp [hn])) with h2 | h2
      · omega
      · exact h2
    · have h1 := hr'.1 n hn
      rcases List.mem_cons.1 ((h n).2 (by simp [hn])) with h2 | h2
      · omega
      · exact h2
theorem sortI_srt {l : List Int} (h : l.Nodup) : Srt (sortI l) := by
  have h1 : (sortI l).Pairwise fun a b => decide (a ≤ b) = true := List.pairwise_mergeSort (fun a b c h1 h2 => by simp at *; omega) (fun a b => by simp; omega) l
  have h2 : (sortI l).Nodup := (List.mergeSort_perm l _).nodup_iff.2 h
  refine (h1.and h2).imp ?_
  intro a b ⟨h1, h2⟩
  simp at h1
  omega
theorem sortI_mem {l : List Int} {n : Int} : n ∈ sortI l ↔ n ∈ l := (List.mergeSort_perm l _).mem_iff
theorem join_cons (a : Int) (l : List Int) (n : Int) : joinI (a :: l) n = if a < n then a :: joinI l n else if a = n then a :: l else n :: a :: l := by
  by_cases h : a < n
  · have hc : cutI (a :: l) n = cutI l n + 1 := by simp [cutI, List.takeWhile_cons, h]
    simp only [joinI, hc, h, if_true, List.getElem?_cons_succ, List.take_succ_cons, List.drop_succ_cons]
    split <;> simp
  · have hc : cutI (a :: l) n = 0 := by simp [cutI, List.takeWhile_cons, h]
    simp only [joinI, hc, h, if_false]
    by_cases h2 : a = n <;> simp [h2]
theorem join_srt : ∀ {l : List Int} (n : Int), Srt l → Srt (joinI l n) ∧ ∀ m, m ∈ joinI l n ↔ m ∈ l ∨ m = n
  | [], n, _ => by simp [joinI, cutI]
  | a :: l, n, h => by
    have h' := List.pairwise_cons.1 h
    obtain ⟨i1, i2⟩ := join_srt n h'.2
    rw [join_cons]
    by_cases h1 : a < n
    · rw [if_pos h1]
      refine ⟨List.pairwise_cons.2 ⟨fun m hm => ?_, i1⟩, fun m => ?_⟩
      · rcases (i2 m).1 hm with h2 | h2
        · exact h'.1 m h2
        · omega
      · simp only [List.mem_cons, i2, or_assoc]
    · by_cases h2 : a = n
      · rw [if_neg h1, if_pos h2]
        refine ⟨h, fun m => ⟨.inl, ?_⟩⟩
        rintro (h3 | rfl)
        · exact h3
        · simp [h2]
      · rw [if_neg h1, if_neg h2]
        refine ⟨List.pairwise_cons.2 ⟨fun m hm => ?_, h⟩, fun m => ?_⟩
        · rcases List.mem_cons.1 hm with rfl | hm
          · omega
          · have := h'.1 m hm; omega
        · simp only [List.mem_cons]; constructor
          · rintro (h | h)
            · exact .inr h
            · exact .inl h
          · rintro (h | h)
            · exact .inr h
            · exact .inl h
theorem fold_srt : ∀ (ms : List Int) {out : List Int}, Srt out → Srt (ms.foldl joinI out) ∧ ∀ m, m ∈ ms.foldl joinI out ↔ m ∈ out ∨ m ∈ ms
  | [], out, h => ⟨h, by simp⟩
  | a :: ms, out, h => by
    obtain ⟨h1, h2⟩ := join_srt a h
    obtain ⟨h3, h4⟩ := fold_srt ms h1
    refine ⟨h3, fun m => ?_⟩
    rw [List.foldl_cons, h4, h2]
    simp only [List.mem_cons, or_assoc]

/-! a constant of a term -/
mutual
def T.hasC : T → Int → Bool
  | .mk k m ts, n => (decide (k = 3) && decide (m = n)) || T.hasCL ts n
def T.hasCL : List T → Int → Bool
  | [], _ => false
  | t :: ts, n => T.hasC t n || T.hasCL ts n
end
theorem hasCL_any (ts : List T) (n : Int) : T.hasCL ts n = ts.any fun t => t.hasC n := by
  induction ts with
  | nil => simp [T.hasCL]
  | cons t ts ih => simp [T.hasCL, ih]
theorem cons_mem (t : T) : ∀ (ks : List Int) (m : Int), m ∈ t.cons ks ↔ m ∈ ks ∨ t.hasC m = true := by
  induction t using T.ind with
  | h k n ts ih =>
  intro ks m
  have key : ∀ (ts : List T) (ks : List Int), (∀ t, t ∈ ts → ∀ (ks : List Int) (m : Int), m ∈ t.cons ks ↔ m ∈ ks ∨ t.hasC m = true) → (m ∈ T.consL ts ks ↔ m ∈ ks ∨ T.hasCL ts m = true) := by
    intro ts
    induction ts with
    | nil => intro ks _; simp [T.consL, T.hasCL]
    | cons t ts ih2 =>
      intro ks h
      simp only [T.consL, T.hasCL, Bool.or_eq_true]
      rw [ih2 _ fun u hu => h u (by simp [hu]), h t (by simp), or_assoc]
  simp only [T.cons, T.hasC, Bool.or_eq_true, Bool.and_eq_true, decide_eq_true_eq]
  rw [key ts _ ih]
  by_cases h3 : k = 3
  · simp only [h3, if_true, addK_mem, true_and]
    rw [or_assoc, eq_comm (a := n)]
  · simp [h3]
theorem rcons_facts (t : T) : Srt t.rcons ∧ ∀ m, m ∈ t.rcons ↔ t.hasC m = true := by
  induction t using T.ind with
  | h k n ts ih =>
  have key : ∀ (ts : List T) (out : List Int), (∀ t, t ∈ ts → Srt t.rcons ∧ ∀ m, m ∈ t.rcons ↔ t.hasC m = true) → Srt out → Srt (T.rconsL ts out) ∧ ∀ m, m ∈ T.rconsL ts out ↔ m ∈ out ∨ T.hasCL ts m = true := by
    intro ts
    induction ts with
    | nil => intro out _ h; exact ⟨h, by simp [T.rconsL, T.hasCL]⟩
    | cons t ts ih2 =>
      intro out h ho
      obtain ⟨h1, h2⟩ := fold_srt t.rcons ho
      obtain ⟨h3, h4⟩ := ih2 (t.rcons.foldl joinI out) (fun u hu => h u (by simp [hu])) h1
      refine ⟨h3, fun m => ?_⟩
      simp only [T.rconsL, T.hasCL, Bool.or_eq_true]
      rw [h4, h2, (h t (by simp)).2, or_assoc]
  have hs : Srt (if k = 3 then joinI [] n else []) ∧ ∀ m, m ∈ (if k = 3 then joinI [] n else []) ↔ (k = 3 ∧ n = m) := by
    by_cases h3 : k = 3
    · simp only [h3, if_true, true_and]
      have := join_srt (l := []) n List.Pairwise.nil
      exact ⟨this.1, fun m => by rw [this.2]; simp [eq_comm]⟩
    · simp [h3]
  obtain ⟨h1, h2⟩ := key ts _ ih hs.1
  refine ⟨h1, fun m => ?_⟩
  simp only [T.rcons, T.hasC, Bool.or_eq_true, Bool.and_eq_true, decide_eq_true_eq]
  rw [h2, hs.2]
theorem consts_facts (t : T) : Srt t.consts ∧ ∀ m, m ∈ t.consts ↔ t.hasC m = true :=
  ⟨sortI_srt ((cons_facts t []).2.1 List.nodup_nil), fun m => by rw [T.consts, sortI_mem, cons_mem]; simp⟩
theorem consts_rcons (t : T) : t.consts = t.rcons := srt_ext (consts_facts t).1 (rcons_facts t).1 fun n => by rw [(consts_facts t).2, (rcons_facts t).2]

/-! ### what is in scope -/
theorem inS_mono (t : T) : ∀ a b a' b' : Int, a ≤ a' → b ≤ b' → t.inS a b = true → t.inS a' b' = true := by
  induction t using T.ind with
  | h k n ts ih =>
  intro a b a' b' ha hb h
  have key : ∀ (ts : List T) (i : Int), (∀ t, t ∈ ts → ∀ a b a' b' : Int, a ≤ a' → b ≤ b' → t.inS a b = true → t.inS a' b' = true) → T.inSL k a b i ts = true → T.inSL k a' b' i ts = true := by
    intro ts
    induction ts with
    | nil => intro i _ _; simp [T.inSL]
    | cons t ts ih2 =>
      intro i h hh
      simp only [T.inSL, Bool.and_eq_true] at hh ⊢
      exact ⟨h t (by simp) _ b _ b' (by omega) hb hh.1, ih2 (i + 1) (fun u hu => h u (by simp [hu])) hh.2⟩
  simp only [T.inS] at h ⊢
  by_cases h1 : k = 1
  · simp only [h1, if_true, decide_eq_true_eq] at h ⊢; omega
  · by_cases h2 : k = 2
    · simpa [h1, h2] using h
    · by_cases h3 : k = 3
      · simp [h3] at h ⊢; omega
      · simp only [h1, h2, h3, if_false] at h ⊢
        exact key ts 0 ih h
theorem inS_consts (t : T) : t.formed = true → ∀ a b b' : Int, t.inS a b = true → ((∀ n, t.hasC n = true → n < b') ↔ t.inS a b' = true) := by
  induction t using T.ind with
  | h k n ts ih =>
  intro hf a b b' h
  rw [T.formed, Bool.and_eq_true, formedL_all, List.all_eq_true] at hf
  by_cases hl : k = 1 ∨ k = 2 ∨ k = 3
  · have := head_leaf hf.1 hl
    subst this
    simp only [T.inS] at h ⊢
    simp only [T.hasC, T.hasCL, Bool.or_false, Bool.and_eq_true, decide_eq_true_eq]
    rcases hl with rfl | rfl | rfl
    · simp at h ⊢; exact h
    · simp at h ⊢; exact h
    · simp
  · have h1 : k ≠ 1 := fun h => hl (.inl h)
    have h2 : k ≠ 2 := fun h => hl (.inr (.inl h))
    have h3 : k ≠ 3 := fun h => hl (.inr (.inr h))
    have key : ∀ (ts : List T) (i : Int), (∀ t, t ∈ ts → ∀ a b b' : Int, t.inS a b = true → ((∀ n, t.hasC n = true → n < b') ↔ t.inS a b' = true)) → T.inSL k a b i ts = true → ((∀ n, T.hasCL ts n = true → n < b') ↔ T.inSL k a b' i ts = true) := by
      intro ts
      induction ts with
      | nil => intro i _ _; simp [T.inSL, T.hasCL]
      | cons t ts ih2 =>
        intro i h hh
        simp only [T.inSL, T.hasCL, Bool.and_eq_true, Bool.or_eq_true] at hh ⊢
        rw [← h t (by simp) _ b b' hh.1, ← ih2 (i + 1) (fun u hu => h u (by simp [hu])) hh.2]
        constructor
        · exact fun h => ⟨fun n hn => h n (.inl hn), fun n hn => h n (.inr hn)⟩
        · rintro ⟨p, q⟩ n (hn | hn)
          · exact p n hn
          · exact q n hn
    simp only [T.inS, h1, h2, h3, if_false] at h ⊢
    rw [← key ts 0 (fun t ht => ih t ht (hf.2 t ht)) h]
    simp [T.hasC, h3]
theorem inS_occ (t : T) : t.formed = true → ∀ v b : Int, t.inS (v + 1) b = true → (t.inS v b = true ↔ t.occ v = 0) := by
  induction t using T.ind with
  | h k n ts ih =>
  intro hf v b h
  rw [T.formed, Bool.and_eq_true, formedL_all, List.all_eq_true] at hf
  by_cases hl : k = 1 ∨ k = 2 ∨ k = 3
  · have := head_leaf hf.1 hl
    subst this
    simp only [T.inS] at h ⊢
    simp only [T.occ, T.occL]
    rcases hl with rfl | rfl | rfl
    · simp at h ⊢; omega
    · simp at h ⊢; exact h
    · simp at h ⊢; exact h
  · have h1 : k ≠ 1 := fun h => hl (.inl h)
    have h2 : k ≠ 2 := fun h => hl (.inr (.inl h))
    have h3 : k ≠ 3 := fun h => hl (.inr (.inr h))
    have key : ∀ (ts : List T) (i : Int), (∀ t, t ∈ ts → ∀ v b : Int, t.inS (v + 1) b = true → (t.inS v b = true ↔ t.occ v = 0)) → T.inSL k (v + 1) b i ts = true → (T.inSL k v b i ts = true ↔ T.occL k v i ts = 0) := by
      intro ts
      induction ts with
      | nil => intro i _ _; simp [T.inSL, T.occL]
      | cons t ts ih2 =>
        intro i h hh
        simp only [T.inSL, T.occL, Bool.and_eq_true] at hh ⊢
        have e : v + 1 + bindsOf k i = v + bindsOf k i + 1 := by omega
        rw [e] at hh
        rw [h t (by simp) _ b hh.1, ih2 (i + 1) (fun u hu => h u (by simp [hu])) hh.2]
        omega
    simp only [T.inS, h1, h2, h3, if_false] at h ⊢
    rw [key ts 0 (fun t ht => ih t ht (hf.2 t ht)) h]
    simp [T.occ, h1]
theorem rcnt_occ (t : T) : ∀ v : Int, 0 ≤ v → v + t.count ≤ 4611686018427387 → t.rcnt v = (t.occ v : Nat) := by
  induction t using T.ind with
  | h k n ts ih =>
  intro v hv hc
  simp only [T.count] at hc
  have key : ∀ (ts : List T) (i a : Int), (∀ t, t ∈ ts → ∀ v : Int, 0 ≤ v → v + t.count ≤ 4611686018427387 → t.rcnt v = (t.occ v : Nat)) → 0 ≤ a → a + T.countL ts ≤ 4611686018427388 → v + 1 + T.countL ts ≤ 4611686018427387 →
      T.rcntL k v i a ts = a + (T.occL k v i ts : Nat) := by
    intro ts
    induction ts with
    | nil => intro i a _ _ _ _; simp [T.rcntL, T.occL]
    | cons t ts ih2 =>
      intro i a h ha hc2 hc
      simp only [T.countL] at hc hc2
      have hbd := binds01 k i
      have h1 := h t (by simp) (v + bindsOf k i) (by omega) (by omega)
      have h2 := occ_le t (v + bindsOf k i)
      have w1 : IntKind.wrap .i64 (a + (t.occ (v + bindsOf k i) : Nat)) = a + (t.occ (v + bindsOf k i) : Nat) := wrap_id (by omega) (by omega)
      simp only [T.rcntL, wrap_dp (k := k) (i := i) hv (by omega), h1, w1]
      rw [ih2 (i + 1) _ (fun u hu => h u (by simp [hu])) (by omega) (by omega) (by omega)]
      simp only [T.occL]; omega
  simp only [T.rcnt, T.occ]
  by_cases h : k = 1 ∧ n = v
  · rw [if_pos h, if_pos h, key ts 0 1 ih (by omega) (by omega) (by omega)]; omega
  · rw [if_neg h, if_neg h, key ts 0 0 ih (by omega) (by omega) (by omega)]; omega
/-- In scope of very many variables is in scope of any number. -/
theorem inS_big (t : T) : t.formed = true → ∀ a a' b : Int, 65536 ≤ a → 65536 ≤ a' → t.inS a b = t.inS a' b := by
  induction t using T.ind with
  | h k n ts ih =>
  intro hf a a' b ha ha'
  rw [T.formed, Bool.and_eq_true, formedL_all, List.all_eq_true] at hf
  by_cases hl : k = 1 ∨ k = 2 ∨ k = 3
  · have := head_leaf hf.1 hl
    subst this
    simp only [T.inS]
    rcases hl with rfl | rfl | rfl
    · have hh := hf.1
      simp [badHead, kidsOf] at hh
      have e1 : n < a := by omega
      have e2 : n < a' := by omega
      simp [e1, e2]
    · simp
    · simp
  · have h1 : k ≠ 1 := fun h => hl (.inl h)
    have h2 : k ≠ 2 := fun h => hl (.inr (.inl h))
    have h3 : k ≠ 3 := fun h => hl (.inr (.inr h))
    have key : ∀ (ts : List T) (i : Int), (∀ t, t ∈ ts → ∀ a a' b : Int, 65536 ≤ a → 65536 ≤ a' → t.inS a b = t.inS a' b) → T.inSL k a b i ts = T.inSL k a' b i ts := by
      intro ts
      induction ts with
      | nil => intro i _; simp [T.inSL]
      | cons t ts ih2 =>
        intro i h
        have hbd := binds01 k i
        simp only [T.inSL]
        rw [h t (by simp) (a + bindsOf k i) (a' + bindsOf k i) b (by omega) (by omega), ih2 (i + 1) fun u hu => h u (by simp [hu])]
    simp only [T.inS, h1, h2, h3, if_false]
    exact key ts 0 fun t ht => ih t ht (hf.2 t ht)
theorem scope_rscope {t : T} (hc : t.count ≤ 1048576) (a b : Int) : t.scope a b = t.rscope a b := by
  by_cases h0 : 0 ≤ a
  · by_cases h1 : t.check = 0
    · have hf := ((check_iff t).1 h1).2.2
      simp only [T.scope, T.rscope, best2]
      simp only [Bool.false_eq_true, if_false]
      by_cases h2 : a ≤ 65536
      · have e1 : (if 65536 < a then 65536 else a) = a := by split <;> omega
        have e2 : (if 1048576 < a then 1048576 else a) = a := by split <;> omega
        rw [e1, e2]
      · have e1 : (if 65536 < a then 65536 else a) = 65536 := by split <;> omega
        rw [e1, within_inS t _ b (by omega) (by omega), within_inS t _ b (by split <;> omega) (by split <;> omega), inS_big t hf 65536 (if 1048576 < a then 1048576 else a) b (by omega) (by split <;> omega)]
    · simp [T.scope, T.rscope, h1]
  · simp [T.scope, T.rscope, h0]
end Go.Abs
