/- THIS TEXT TELLS SOME FUNCTIONS OF THE PROGRAM IN THE CALCULUS, PROVES BY THE KERNEL THAT WHAT IS TOLD IS THE LOADED CODE, AND PROVES WHAT THEY COMPUTE: for every argument that is told; the conditions stand in each theorem. -/
import Derived.KernelRfl
import Derived.Test.YtfgjannlepahgaaGreatProg
import Derived.Shelf.SlIterI.Sorted
import Derived.Shelf.SlIterI.Keys
import Derived.Shelf.SlIterI.Collect
import Derived.Shelf.SortM.Plain
import Derived.Shelf.SortM.SortNone
import Derived.Test.YtfgjannlepahgaaGreatDdM0
set_option linter.unusedVariables false
set_option linter.unusedSimpArgs false
namespace Go.Abs

/- porism/kind.is -/
def c111 : SCode :=
  .seq (.reg
       [⟨some 2, none, .mv (.k (.bool false))⟩])
  (.seq (.reg
       [⟨some 3, none, .mv (.t 0)⟩,
        ⟨some 4, none, .bin .geq (.t 3) (.k (.int .i64 1))⟩,
        ⟨some 5, none, .mv (.t 4)⟩,
        ⟨some 6, some (5, true), .mv (.t 0)⟩,
        ⟨some 7, some (5, true), .bin .leq (.t 6) (.k (.int .i64 13))⟩,
        ⟨some 8, none, .pick (.t 5) (.t 7) (.k (.bool false))⟩,
        ⟨some 2, none, .mv (.t 8)⟩])
  (.ret))
def r111 : List RR := [.t 2]
theorem ok111 : okFn Go.Proofs.Tryz.prog 187 9 c111 r111 1 = true := by kernel_rfl

/- porism/kind.Kids -/
def c62 : SCode :=
  .seq (.reg
       [⟨some 2, none, .mv (.k (.int .i64 0))⟩])
  (.seq (.seq (.reg
         [⟨some 3, none, .mv (.t 0)⟩])
    (.block 0 (.seq (.seq (.reg
             [⟨some 5, none, .bin .eql (.t 3) (.k (.int .i64 1))⟩,
              ⟨some 4, none, .mv (.t 5)⟩])
        (.cond (.t 4)
          (.skip)
          (.seq (.reg
               [⟨some 6, none, .bin .eql (.t 3) (.k (.int .i64 2))⟩,
                ⟨some 4, none, .mv (.t 6)⟩])
          (.cond (.t 4)
            (.skip)
            (.reg
               [⟨some 7, none, .bin .eql (.t 3) (.k (.int .i64 3))⟩,
                ⟨some 4, none, .mv (.t 7)⟩])))))
      (.cond (.t 4)
        (.seq (.reg
             [⟨some 2, none, .mv (.k (.int .i64 0))⟩])
        (.ret))
        (.seq (.seq (.reg
               [⟨some 9, none, .bin .eql (.t 3) (.k (.int .i64 9))⟩,
                ⟨some 8, none, .mv (.t 9)⟩])
          (.cond (.t 8)
            (.skip)
            (.reg
               [⟨some 10, none, .bin .eql (.t 3) (.k (.int .i64 10))⟩,
                ⟨some 8, none, .mv (.t 10)⟩])))
        (.cond (.t 8)
          (.seq (.reg
               [⟨some 2, none, .mv (.k (.int .i64 1))⟩])
          (.ret))
          (.seq (.seq (.reg
                 [⟨some 12, none, .bin .eql (.t 3) (.k (.int .i64 8))⟩,
                  ⟨some 11, none, .mv (.t 12)⟩])
            (.cond (.t 11)
              (.skip)
              (.seq (.reg
                   [⟨some 13, none, .bin .eql (.t 3) (.k (.int .i64 11))⟩,
                    ⟨some 11, none, .mv (.t 13)⟩])
              (.cond (.t 11)
                (.skip)
                (.reg
                   [⟨some 14, none, .bin .eql (.t 3) (.k (.int .i64 13))⟩,
                    ⟨some 11, none, .mv (.t 14)⟩])))))
          (.cond (.t 11)
            (.seq (.reg
                 [⟨some 2, none, .mv (.k (.int .i64 3))⟩])
            (.ret))
            (.skip)))))))))
  (.seq (.seq (.reg
         [⟨some 15, none, .mv (.t 0)⟩,
          ⟨some 16, none, .call (.f 187) [.t 15]⟩])
    (.cond (.t 16)
      (.seq (.reg
           [⟨some 2, none, .mv (.k (.int .i64 2))⟩])
      (.ret))
      (.skip)))
  (.seq (.reg
       [⟨some 2, none, .mv (.k (.int .i64 (-1)))⟩])
  (.ret))))
def r62 : List RR := [.t 2]
theorem ok62 : okFn Go.Proofs.Tryz.prog 174 17 c62 r62 1 = true := by kernel_rfl

/- slices.ContainsFunc[[]porism/api.Term,porism/api.Term] -/
def c112 : SCode :=
  .seq (.reg
       [⟨some 4, none, .mv (.k (.bool false))⟩])
  (.seq (.reg
       [⟨some 5, none, .mv (.t 0)⟩,
        ⟨some 6, none, .mv (.t 1)⟩,
        ⟨some 7, none, .call (.f 188) [.t 5, .t 6]⟩,
        ⟨some 8, none, .bin .geq (.t 7) (.k (.int .i64 0))⟩,
        ⟨some 4, none, .mv (.t 8)⟩])
  (.ret))
def r112 : List RR := [.t 4]
theorem ok112 : okFn Go.Proofs.Tryz.prog 175 9 c112 r112 2 = true := by kernel_rfl

/- slices.IndexFunc[[]porism/api.Term,porism/api.Term] -/
def c124b0 : SCode :=
  .seq (.reg
       [⟨some 9, none, .bin .lss (.t 8) (.t 7)⟩])
  (.seq (.cond (.t 9)
      (.skip)
      (.exit 0))
  (.seq (.block 1 (.seq (.reg
           [⟨some 10, none, .mv (.t 8)⟩,
            ⟨some 5, none, .mv (.t 10)⟩])
      (.seq (.reg
           [⟨some 11, none, .mv (.t 1)⟩,
            ⟨some 12, none, .mv (.t 0)⟩,
            ⟨some 13, none, .mv (.t 5)⟩,
            ⟨some 14, none, .iad 63 3 (.t 12) (.t 13)⟩,
            ⟨some 15, none, .ldn 63 3 (.t 14)⟩,
            ⟨some 16, none, .call (.t 11) [.t 15]⟩])
      (.cond (.t 16)
        (.seq (.reg
             [⟨some 17, none, .mv (.t 5)⟩,
              ⟨some 4, none, .mv (.t 17)⟩])
        (.ret))
        (.skip)))))
  (.reg
     [⟨some 18, none, .bin .add (.t 8) (.k (.int .i64 1))⟩,
      ⟨some 8, none, .mv (.t 18)⟩])))
def c124 : SCode :=
  .seq (.reg
       [⟨some 4, none, .mv (.k (.int .i64 0))⟩])
  (.seq (.seq (.reg
         [⟨some 6, none, .mv (.t 0)⟩,
          ⟨some 7, none, .len 61 (.t 6)⟩,
          ⟨some 8, none, .mv (.k (.int .i64 0))⟩])
    (.block 0 (.loop c124b0)))
  (.seq (.reg
       [⟨some 4, none, .mv (.k (.int .i64 (-1)))⟩])
  (.ret)))
def r124 : List RR := [.t 4]
theorem ok124 : okFn Go.Proofs.Tryz.prog 188 19 c124 r124 2 = true := by kernel_rfl

end Go.Abs

namespace Go.Abs
open Go.Proofs

theorem fn20 (t : T) : Fn Tryz.prog 151 [tm t] (ib t.size) := by
  induction t using T.ind with
  | h k n ts ih =>
  refine fn_of (base := 20000) ok20 rfl fun σ h0 hr => ?_
  have s0 := h0 0
  rw [slots0] at s0
  have hlen := real_kids (hr (tm (.mk k n ts)) (by simp))
  rw [kids_mk] at hlen
  simp only [tm, cells_mk] at s0
  clear h0 hr
  unfold c20
  simp [s0]
  refine W_loop (fun m σ => ∃ (i : Nat) (a : Int), i + m = ts.length ∧ T.sizeL a (ts.drop i) = T.sizeL 1 ts ∧ σ.sl 3 = ib a ∧ σ.sl 7 = tms ts ∧ σ.sl 8 = ib ts.length ∧ σ.sl 9 = ib i) ts.length ?_ ?_
  · exact ⟨0, 1, by simp [ib, tms]⟩
  · rintro m σ ⟨i, a, hm, hp, q3, q7, q8, q9⟩
    unfold c20b0
    simp only [tms, ib] at q3 q7 q8 q9
    by_cases hi : i < ts.length
    · obtain ⟨t, ht⟩ := at_of hi
      obtain ⟨_, ht'⟩ := getE ht
      have w1 := wrap_succ (i := i) (by omega)
      simp [q3, q7, q8, q9, hi, ht']
      refine ECall.fn (ih t (List.mem_of_getElem? ht)) (by simp [tm]) (by simp) rfl fun _ => ?_
      simp [ib, q3, q9]
      rw [drop_at ht, T.sizeL] at hp
      refine ⟨m - 1, by omega, i + 1, by omega, _, hp, ?_⟩
      simp [q7, q8, tms, w1]
    · simp [q3, q7, q8, q9, hi, r20, ib, T.size]
      rw [← hp, List.drop_eq_nil_of_le (by omega), T.sizeL]

theorem fn21 (t : T) : Fn Tryz.prog 152 [tm t] (ib t.depth) := by
  induction t using T.ind with
  | h k n ts ih =>
  refine fn_of (base := 21000) ok21 rfl fun σ h0 hr => ?_
  have s0 := h0 0
  rw [slots0] at s0
  have hlen := real_kids (hr (tm (.mk k n ts)) (by simp))
  rw [kids_mk] at hlen
  simp only [tm, cells_mk] at s0
  clear h0 hr
  unfold c21
  simp [s0]
  refine W_loop (fun m σ => ∃ (i : Nat) (a : Int), i + m = ts.length ∧ T.depthL a (ts.drop i) = T.depthL 0 ts ∧ σ.sl 3 = ib a ∧ σ.sl 7 = tms ts ∧ σ.sl 8 = ib ts.length ∧ σ.sl 9 = ib i) ts.length ?_ ?_
  · exact ⟨0, 0, by simp [ib, tms]⟩
  · rintro m σ ⟨i, a, hm, hp, q3, q7, q8, q9⟩
    unfold c21b0
    simp only [tms, ib] at q3 q7 q8 q9
    by_cases hi : i < ts.length
    · obtain ⟨t, ht⟩ := at_of hi
      obtain ⟨_, ht'⟩ := getE ht
      have w1 := wrap_succ (i := i) (by omega)
      simp [q3, q7, q8, q9, hi, ht']
      refine ECall.fn (ih t (List.mem_of_getElem? ht)) (by simp [tm]) (by simp) rfl fun _ => ?_
      simp [ib, q3, q9]
      rw [drop_at ht, T.depthL] at hp
      refine ⟨m - 1, by omega, i + 1, by omega, _, hp, ?_⟩
      simp [q7, q8, tms, w1]
    · simp [q3, q7, q8, q9, hi, r21, ib, T.depth]
      rw [← hp, List.drop_eq_nil_of_le (by omega), T.depthL]

theorem fn28 (t : T) : Fn Tryz.prog 37 [tm t] (ib t.size) := by
  induction t using T.ind with
  | h k n ts ih =>
  refine fn_of (base := 28000) ok28 rfl fun σ h0 hr => ?_
  have s0 := h0 0
  rw [slots0] at s0
  have hlen := real_kids (hr (tm (.mk k n ts)) (by simp))
  rw [kids_mk] at hlen
  simp only [tm, cells_mk] at s0
  clear h0 hr
  unfold c28
  simp [s0]
  refine W_loop (fun m σ => ∃ (i : Nat) (a : Int), i + m = ts.length ∧ T.sizeL a (ts.drop i) = T.sizeL 1 ts ∧ σ.sl 3 = ib a ∧ σ.sl 1 = .c (.ref 28001 (σ.tg 28001) 0) ∧ σ.ob 28001 = some (.box 63 (T.mk k n ts).cells) ∧ σ.sl 4 = ib i) ts.length ?_ ?_
  · exact ⟨0, 1, by simp [ib, cells_mk]⟩
  · rintro m σ ⟨i, a, hm, hp, q3, q1, qo, q4⟩
    unfold c28b0
    simp only [cells_mk, ib] at q3 q1 qo q4
    by_cases hi : i < ts.length
    · obtain ⟨t, ht⟩ := at_of hi
      obtain ⟨_, ht'⟩ := getE ht
      have w1 := wrap_succ (i := i) (by omega)
      simp [q3, q1, qo, q4, hi, ht']
      refine ECall.fn (ih t (List.mem_of_getElem? ht)) (by simp [tm]) (by simp) rfl fun _ => ?_
      simp [ib, q3, q4]
      rw [drop_at ht, T.sizeL] at hp
      refine ⟨m - 1, by omega, i + 1, by omega, _, hp, ?_⟩
      simp [q1, qo, w1, cells_mk]
    · simp [q3, q1, qo, q4, hi, r28, ib, T.size]
      rw [← hp, List.drop_eq_nil_of_le (by omega), T.sizeL]

theorem fn29 (t : T) : Fn Tryz.prog 58 [tm t] (ib t.depth) := by
  induction t using T.ind with
  | h k n ts ih =>
  refine fn_of (base := 29000) ok29 rfl fun σ h0 hr => ?_
  have s0 := h0 0
  rw [slots0] at s0
  have hlen := real_kids (hr (tm (.mk k n ts)) (by simp))
  rw [kids_mk] at hlen
  simp only [tm, cells_mk] at s0
  clear h0 hr
  unfold c29
  simp [s0]
  refine W_loop (fun m σ => ∃ (i : Nat) (a : Int), i + m = ts.length ∧ T.depthL a (ts.drop i) = T.depthL 0 ts ∧ σ.sl 3 = ib a ∧ σ.sl 1 = .c (.ref 29001 (σ.tg 29001) 0) ∧ σ.ob 29001 = some (.box 63 (T.mk k n ts).cells) ∧ σ.sl 4 = ib i) ts.length ?_ ?_
  · exact ⟨0, 0, by simp [ib, cells_mk]⟩
  · rintro m σ ⟨i, a, hm, hp, q3, q1, qo, q4⟩
    unfold c29b0
    simp only [cells_mk, ib] at q3 q1 qo q4
    by_cases hi : i < ts.length
    · obtain ⟨t, ht⟩ := at_of hi
      obtain ⟨_, ht'⟩ := getE ht
      have w1 := wrap_succ (i := i) (by omega)
      simp [q3, q1, qo, q4, hi, ht']
      refine ECall.fn (ih t (List.mem_of_getElem? ht)) (by simp [tm]) (by simp) rfl fun _ => ?_
      simp [ib, q3, q4]
      rw [drop_at ht, T.depthL] at hp
      refine ⟨m - 1, by omega, i + 1, by omega, _, hp, ?_⟩
      simp [q1, qo, w1, cells_mk]
    · simp [q3, q1, qo, q4, hi, r29, ib, T.depth]
      rw [← hp, List.drop_eq_nil_of_le (by omega), T.depthL]
end Go.Abs

namespace Go.Abs
open Go.Proofs

theorem fn111 (k : Int) : Fn Tryz.prog 187 [ib k] (bb (decide (1 ≤ k) && decide (k ≤ 13))) := by
  refine fn_of (base := 111000) ok111 rfl fun σ h0 hr => ?_
  have s0 := h0 0
  rw [slots0] at s0
  simp only [ib] at s0
  clear h0 hr
  unfold c111
  simp [s0, r111, bb]

set_option maxHeartbeats 2000000 in
theorem fn62 (k : Int) : Fn Tryz.prog 174 [ib k] (ib (kidsOf k)) := by
  refine fn_of (base := 62000) ok62 rfl fun σ h0 hr => ?_
  have s0 := h0 0
  rw [slots0] at s0
  simp only [ib] at s0
  clear h0 hr
  unfold c62
  by_cases h1 : k = 1
  · subst h1; simp [s0, r62, ib, kidsOf]
  by_cases h2 : k = 2
  · subst h2; simp [s0, r62, ib, kidsOf]
  by_cases h3 : k = 3
  · subst h3; simp [s0, r62, ib, kidsOf]
  by_cases h9 : k = 9
  · subst h9; simp [s0, r62, ib, kidsOf]
  by_cases h10 : k = 10
  · subst h10; simp [s0, r62, ib, kidsOf]
  by_cases h8 : k = 8
  · subst h8; simp [s0, r62, ib, kidsOf]
  by_cases h11 : k = 11
  · subst h11; simp [s0, r62, ib, kidsOf]
  by_cases h13 : k = 13
  · subst h13; simp [s0, r62, ib, kidsOf]
  simp [s0, h1, h2, h3, h9, h10, h8, h11, h13]
  refine ECall.fn (fn111 k) (by simp [ib]) (by simp) rfl fun _ => ?_
  simp [bb, r62, ib, kidsOf, h1, h2, h3, h9, h10, h8, h11, h13]

def idx {α : Type} (p : α → Bool) : Int → List α → Int
  | _, [] => -1
  | i, t :: ts => if p t then i else idx p (i + 1) ts
theorem idx_any {α : Type} {p : α → Bool} : ∀ {ts : List α} {i : Int}, 0 ≤ i → decide (0 ≤ idx p i ts) = ts.any p
  | [], i, h => by simp [idx]
  | t :: ts, i, h => by
    simp only [idx, List.any_cons]
    by_cases hp : p t
    · simp [hp, h]
    · simp [hp]
      have := idx_any (p := p) (ts := ts) (i := i + 1) (by omega)
      simpa using this

theorem fn124 {f : Nat} {p : T → Bool} {ts : List T} (hf : ∀ t, t ∈ ts → Fn Tryz.prog f [tm t] (bb (p t))) : Fn Tryz.prog 188 [tms ts, .c (.clo f [] [])] (ib (idx p 0 ts)) := by
  refine fn_of (base := 124000) ok124 rfl fun σ h0 hr => ?_
  have s0 := h0 0
  have s1 := h0 1
  rw [slots0] at s0
  rw [slots1] at s1
  have hlen := real_tms (hr (tms ts) (by simp))
  simp only [tms] at s0
  clear h0 hr
  unfold c124
  simp [s0, s1]
  refine W_loop (fun m σ => ∃ (i : Nat), i + m = ts.length ∧ idx p i (ts.drop i) = idx p 0 ts ∧ σ.sl 0 = tms ts ∧ σ.sl 1 = .c (.clo f [] []) ∧ σ.sl 7 = ib ts.length ∧ σ.sl 8 = ib i) ts.length ?_ ?_
  · exact ⟨0, by simp [ib, tms, s0, s1]⟩
  · rintro m σ ⟨i, hm, hp, q0, q1, q7, q8⟩
    unfold c124b0
    simp only [tms, ib] at q0 q1 q7 q8
    by_cases hi : i < ts.length
    · obtain ⟨t, ht⟩ := at_of hi
      obtain ⟨_, ht'⟩ := getE ht
      have w1 := wrap_succ (i := i) (by omega)
      rw [drop_at ht, idx] at hp
      simp [q0, q1, q7, q8, hi, ht']
      refine ECall.fn (hf t (List.mem_of_getElem? ht)) (by simp [tm]) (by simp) rfl fun _ => ?_
      simp [bb, q8]
      constructor
      · intro hd
        rw [if_pos hd] at hp
        simp [r124, ib, ← hp]
      · intro hd
        rw [if_neg (by simp [hd])] at hp
        refine ⟨m - 1, by omega, i + 1, by omega, by simpa using hp, ?_⟩
        simp [q0, q1, q7, tms, ib, w1]
    · simp [q0, q1, q7, q8, hi, r124, ib]
      rw [← hp, List.drop_eq_nil_of_le (by omega), idx]

theorem fn112 {f : Nat} {p : T → Bool} {ts : List T} (hf : ∀ t, t ∈ ts → Fn Tryz.prog f [tm t] (bb (p t))) : Fn Tryz.prog 175 [tms ts, .c (.clo f [] [])] (bb (ts.any p)) := by
  refine fn_of (base := 112000) ok112 rfl fun σ h0 hr => ?_
  have s0 := h0 0
  have s1 := h0 1
  rw [slots0] at s0
  rw [slots1] at s1
  simp only [tms] at s0
  clear h0 hr
  unfold c112
  simp [s0, s1]
  refine ECall.fn (fn124 hf) (by simp [tms]) (by simp) rfl fun _ => ?_
  simp [r112, bb, ib, ← idx_any (p := p) (ts := ts) (i := 0)]

theorem fn113 {t : T} (h65 : Fn Tryz.prog 153 [tm t] (bb t.formed)) : Fn Tryz.prog 176 [tm t] (bb (!t.formed)) := by
  refine fn_of (base := 113000) ok113 rfl fun σ h0 hr => ?_
  have s0 := h0 0
  rw [slots0] at s0
  simp only [tm] at s0
  clear h0 hr
  unfold c113
  simp [s0]
  refine ECall.fn h65 (by simp [tm]) (by simp) rfl fun _ => ?_
  simp [r113, bb]

theorem fn65 (t : T) : Fn Tryz.prog 153 [tm t] (bb t.formed) := by
  induction t using T.ind with
  | h k n ts ih =>
  have h112 := fn112 (ts := ts) (p := fun t => !t.formed) fun t ht => fn113 (ih t ht)
  refine fn_of (base := 65000) ok65 rfl fun σ h0 hr => ?_
  have s0 := h0 0
  rw [slots0] at s0
  simp only [tm, cells_mk] at s0
  clear h0 hr
  unfold c65
  simp [s0]
  refine ECall.fn (fn62 k) (by simp [ib]) (by simp) rfl fun _ => ?_
  simp [ib, r65, bb]
  refine ⟨fun hb => ?_, fun h1 h2 h3 h4 h5 => ?_⟩
  · have hb' : badHead k n ts.length = true := by simp [badHead]; exact hb
    simp [T.formed, hb']
  · have hb' : badHead k n ts.length = false := by simp [badHead]; exact ⟨⟨⟨⟨h1, h2⟩, h3⟩, h4⟩, h5⟩
    refine ECall.fn h112 (by simp [tms]) (by simp) rfl fun _ => ?_
    simp [bb, T.formed, hb', formedL_all]
    exact (List.not_all_eq_any_not ..).symm

theorem fn22 (t : T) : Fn Tryz.prog 112 [tm t] (ib t.check) := by
  refine fn_of (base := 22000) ok22 rfl fun σ h0 hr => ?_
  have s0 := h0 0
  rw [slots0] at s0
  simp only [tm] at s0
  clear h0 hr
  unfold c22
  simp [s0]
  refine ECall.fn (fn20 t) (by simp [tm]) (by simp) rfl fun _ => ?_
  simp [ib]
  refine ⟨fun h1 => by simp [r22, h1, T.check], fun h1 => ?_⟩
  simp [show ¬ 6000 < t.size by omega]
  refine ECall.fn (fn21 t) (by simp [tm]) (by simp) rfl fun _ => ?_
  simp [ib]
  refine ⟨fun h2 => by simp [r22, h2, T.check, show ¬ 6000 < t.size by omega], fun h2 => ?_⟩
  simp [show ¬ 200 < t.depth by omega]
  refine ECall.fn (fn65 t) (by simp [tm]) (by simp) rfl fun _ => ?_
  simp [bb]
  refine ⟨fun h3 => by simp [r22, h3, T.check, show ¬ 6000 < t.size by omega, show ¬ 200 < t.depth by omega], fun h3 => by simp [r22, h3, T.check, show ¬ 6000 < t.size by omega, show ¬ 200 < t.depth by omega]⟩
end Go.Abs

namespace Go.Abs
open Go.Proofs

theorem fn24 (n : Int) : Fn Tryz.prog 33 [ib n] (tm (.mk 2 n [])) := by
  refine fn_of (base := 24000) ok24 rfl fun σ h0 hr => ?_
  have s0 := h0 0
  rw [slots0] at s0
  simp only [ib] at s0
  clear h0 hr
  unfold c24
  simp [s0, r24, tm, cells_mk]

def idxI (x : Int) : Int → List Int → Int
  | _, [] => -1
  | i, n :: ns => if x = n then i else idxI x (i + 1) ns
theorem idxI_any {x : Int} : ∀ {ns : List Int} {i : Int}, 0 ≤ i → decide (0 ≤ idxI x i ns) = decide (x ∈ ns)
  | [], i, h => by simp [idxI]
  | n :: ns, i, h => by
    simp only [idxI]
    by_cases hp : x = n
    · simp [hp, h]
    · simp [hp]
      have := idxI_any (x := x) (ns := ns) (i := i + 1) (by omega)
      simpa using this

theorem fn115 (ns : List Int) (x : Int) : Fn Tryz.prog 189 [is ns, ib x] (ib (idxI x 0 ns)) := by
  refine fn_of (base := 115000) ok115 rfl fun σ h0 hr => ?_
  have s0 := h0 0
  have s1 := h0 1
  rw [slots0] at s0
  rw [slots1] at s1
  have hlen := real_is (hr (is ns) (by simp))
  simp only [ib, is] at s0 s1
  clear h0 hr
  unfold c115
  simp [s0, s1]
  refine W_loop (fun m σ => ∃ (i : Nat), i + m = ns.length ∧ idxI x i (ns.drop i) = idxI x 0 ns ∧ σ.sl 0 = is ns ∧ σ.sl 1 = ib x ∧ σ.sl 7 = ib ns.length ∧ σ.sl 8 = ib i) ns.length ?_ ?_
  · exact ⟨0, by simp [ib, is, s0, s1]⟩
  · rintro m σ ⟨i, hm, hp, q0, q1, q7, q8⟩
    unfold c115b0
    simp only [is, ib] at q0 q1 q7 q8
    by_cases hi : i < ns.length
    · obtain ⟨t, ht⟩ := at_of hi
      obtain ⟨_, ht'⟩ := getE ht
      have w1 := wrap_succ (i := i) (by omega)
      rw [drop_at ht, idxI] at hp
      by_cases hx : x = t
      · rw [if_pos hx] at hp
        subst hx
        simp [q0, q1, q7, q8, hi, ht', r115, ib, ← hp]
      · rw [if_neg hx] at hp
        simp [q0, q1, q7, q8, hi, ht', hx]
        refine ⟨m - 1, by omega, i + 1, by omega, by simpa using hp, ?_⟩
        simp [is, ib, w1]
    · simp [q0, q1, q7, q8, hi, r115, ib]
      rw [← hp, List.drop_eq_nil_of_le (by omega), idxI]

theorem fn69 (ns : List Int) (x : Int) : Fn Tryz.prog 177 [is ns, ib x] (bb (decide (x ∈ ns))) := by
  refine fn_of (base := 69000) ok69 rfl fun σ h0 hr => ?_
  have s0 := h0 0
  have s1 := h0 1
  rw [slots0] at s0
  rw [slots1] at s1
  simp only [ib, is] at s0 s1
  clear h0 hr
  unfold c69
  simp [s0, s1]
  refine ECall.fn (fn115 ns x) (by simp [is, ib]) (by simp) rfl fun _ => ?_
  simp [r69, bb, ib, ← idxI_any (x := x) (ns := ns) (i := 0)]

theorem fn31 (k i : Int) : Fn Tryz.prog 154 [ib k, ib i] (ib (bindsOf k i)) := by
  refine fn_of (base := 31000) ok31 rfl fun σ h0 hr => ?_
  have s0 := h0 0
  have s1 := h0 1
  rw [slots0] at s0
  rw [slots1] at s1
  simp only [ib] at s0 s1
  clear h0 hr
  unfold c31
  simp [s0, s1, room]
  refine GCall.fn (fun _ => fn69 [4, 5, 7] k) (by simp [is, ib]) (by simp) rfl fun _ => ?_
  simp [bb, r31, ib, bindsOf]
  intro h1 h2
  exact ⟨h1, by omega⟩

theorem fn68 (t : T) (a b : Int) : Fn Tryz.prog 113 [tm t, ib a, ib b] (bb (t.within a b)) := by
  induction t using T.ind generalizing a b with
  | h k n ts ih =>
  refine fn_of (base := 68000) ok68 rfl fun σ h0 hr => ?_
  have s0 := h0 0
  have s1 := h0 1
  have s2 := h0 2
  rw [slots0] at s0
  rw [slots1] at s1
  rw [slots2] at s2
  have hlen := real_kids (hr (tm (.mk k n ts)) (by simp))
  rw [kids_mk] at hlen
  simp only [tm, cells_mk, ib] at s0 s1 s2
  clear h0 hr
  unfold c68
  by_cases h1 : k = 1
  · subst h1; simp [s0, s1, s2, r68, bb, T.within]
  by_cases h2 : k = 2
  · subst h2; simp [s0, s1, s2, r68, bb, T.within]
  by_cases h3 : k = 3
  · subst h3; simp [s0, s1, s2, r68, bb, T.within]
  simp [s0, s1, s2, h1, h2, h3]
  refine W_loop (fun m σ => ∃ (i : Nat), i + m = ts.length ∧ T.withinL k a b i (ts.drop i) = T.withinL k a b 0 ts ∧ σ.sl 1 = ib a ∧ σ.sl 2 = ib b ∧ σ.sl 3 = .c (.ref 68003 (σ.tg 68003) 0) ∧ σ.ob 68003 = some (.box 63 (T.mk k n ts).cells) ∧ σ.sl 29 = tms ts ∧ σ.sl 30 = ib ts.length ∧ σ.sl 31 = ib i) ts.length ?_ ?_
  · exact ⟨0, by simp [ib, tms, cells_mk, s1, s2]⟩
  · rintro m σ ⟨i, hm, hp, q1, q2, q3, qo, q29, q30, q31⟩
    unfold c68b0
    simp only [tms, ib, cells_mk] at q1 q2 q3 qo q29 q30 q31
    by_cases hi : i < ts.length
    · obtain ⟨t, ht⟩ := at_of hi
      obtain ⟨_, ht'⟩ := getE ht
      have w1 := wrap_succ (i := i) (by omega)
      rw [drop_at ht, T.withinL] at hp
      simp [q1, q2, q3, qo, q29, q30, q31, hi, ht']
      refine W_dregA ?_
      simp [q1, q2, q3, qo, q29, q30, q31, hi, ht']
      refine CallA.fn (fn31 k i) (by simp [ib]) (by simp) rfl ?_
      simp [ib, q1, q2]
      refine CallA.fn (ih t (List.mem_of_getElem? ht) (IntKind.wrap .i64 (a + bindsOf k i)) b) (by simp [ib, tm]) (by simp) rfl ?_
      simp [bb]
      refine realC_n ?_
      simp
      constructor
      · intro hd
        simp [r68, ← hp, hd, T.within, h1, h2, h3]
      · intro hd
        rw [hd, Bool.true_and] at hp
        simp [q31]
        refine ⟨m - 1, by omega, i + 1, by omega, by simpa using hp, ?_⟩
        simp [q1, q2, q3, qo, q29, q30, tms, ib, w1, cells_mk]
    · simp [q1, q2, q3, qo, q29, q30, q31, hi, r68, bb, T.within, h1, h2, h3]
      rw [← hp, List.drop_eq_nil_of_le (by omega), T.withinL]

theorem fn30 (t : T) (a b : Int) : Fn Tryz.prog 81 [tm t, ib a, ib b] (bb (t.scope a b)) := by
  refine fn_of (base := 30000) ok30 rfl fun σ h0 hr => ?_
  have s0 := h0 0
  have s1 := h0 1
  have s2 := h0 2
  rw [slots0] at s0
  rw [slots1] at s1
  rw [slots2] at s2
  simp only [tm, ib] at s0 s1 s2
  clear h0 hr
  unfold c30
  simp [s0, s1, s2]
  refine GCall.fn (fun _ => fn22 t) (by simp [tm]) (by simp) rfl fun _ => ?_
  simp [ib, s1, s2]
  refine GCall.fn (fun _ => fn68 t (best2 false a 65536) b) (by simp [tm, ib]) (by simp) rfl fun _ => ?_
  simp [bb, r30, T.scope]
end Go.Abs

namespace Go.Abs
open Go.Proofs

mutual
def T.cnt : T → Int → Int → Int
  | .mk k n ts, b, d => T.cntL k b d 0 (if k = 1 ∧ n = IntKind.wrap .i64 (b + d) then 1 else 0) ts
def T.cntL (k b d : Int) : Int → Int → List T → Int
  | _, a, [] => a
  | i, a, t :: ts => T.cntL k b d (i + 1) (IntKind.wrap .i64 (a + T.cnt t b (IntKind.wrap .i64 (d + bindsOf k i)))) ts
end

end Go.Abs

namespace Go.Abs


end Go.Abs

namespace Go.Abs
open Go.Proofs

/-- The boxes that Shift's closure holds: from, by, e. -/
def shO (fr by_ e : Int) (tf tb te : Nat) : Objs := [(49005, tf, .box 3 [.v (.int .i64 fr)]), (49004, tb, .box 3 [.v (.int .i64 by_)]), (49008, te, .box 25 [.v (.int .i64 e)])]
theorem shO_get {fr b e : Int} {tf tb te k t : Nat} {q : Obj} (h : (shO fr b e tf tb te).lookup k = some (t, q)) : (k = 49005 ∧ t = tf ∧ q = .box 3 [.v (.int .i64 fr)]) ∨ (k = 49004 ∧ t = tb ∧ q = .box 3 [.v (.int .i64 b)]) ∨ (k = 49008 ∧ t = te ∧ q = .box 25 [.v (.int .i64 e)]) := by
  simp only [shO, List.lookup_cons, List.lookup_nil] at h
  split at h
  · rename_i hk; cases h; exact .inl ⟨by simpa using hk, rfl, rfl⟩
  · split at h
    · rename_i hk; cases h; exact .inr (.inl ⟨by simpa using hk, rfl, rfl⟩)
    · split at h
      · rename_i hk; cases h; exact .inr (.inr ⟨by simpa using hk, rfl, rfl⟩)
      · cases h

/-- One variable, shifted; whether it falls out of range. -/
def shV (fr b n d : Int) : T := if n < IntKind.wrap .i64 (fr + d) then .mk 1 n [] else .mk 1 (IntKind.wrap .i64 (n + b)) []
def shE (fr b n d e : Int) : Int := if n < IntKind.wrap .i64 (fr + d) then e else if 65535 < IntKind.wrap .i64 (n + b) then 6 else e

end Go.Abs

namespace Go.Abs
open Go.Proofs

section
variable {S : Type} (V : S → Int → Int → T) (N : S → Int → Int → S)
mutual
def T.mapS : T → S → Int → T × S
  | .mk k n ts, s, d => if k = 1 then (V s n d, N s n d) else (.mk k n (T.mapSL k d 0 ts s).1, (T.mapSL k d 0 ts s).2)
def T.mapSL (k d : Int) : Int → List T → S → List T × S
  | _, [], s => ([], s)
  | i, t :: ts, s => ((T.mapS t s (IntKind.wrap .i64 (d + bindsOf k i))).1 :: (T.mapSL k d (i + 1) ts (T.mapS t s (IntKind.wrap .i64 (d + bindsOf k i))).2).1, (T.mapSL k d (i + 1) ts (T.mapS t s (IntKind.wrap .i64 (d + bindsOf k i))).2).2)
end
end

theorem Holds.puts {σ : St} {l : Objs} (h : ∀ k t q, l.lookup k = some (t, q) → σ.tg k = t) : Holds (σ.puts l) l := fun k t q hk => ⟨puts_some hk, h k t q hk⟩

end Go.Abs

namespace Go.Abs
open Go.Proofs

theorem shO_kin (fr b e fr' b' e' : Int) (tf tb te : Nat) : Kin (shO fr b e tf tb te) (shO fr' b' e' tf tb te) where
  there k t q h := by
    rcases shO_get h with ⟨rfl, rfl, rfl⟩ | ⟨rfl, rfl, rfl⟩ | ⟨rfl, rfl, rfl⟩ <;> exact ⟨_, rfl⟩
  back k t q h := by
    rcases shO_get h with ⟨rfl, rfl, rfl⟩ | ⟨rfl, rfl, rfl⟩ | ⟨rfl, rfl, rfl⟩ <;> exact ⟨_, rfl⟩
  data k t q h := by
    rcases shO_get h with ⟨rfl, rfl, rfl⟩ | ⟨rfl, rfl, rfl⟩ | ⟨rfl, rfl, rfl⟩ <;> rfl

end Go.Abs

namespace Go.Abs
open Go.Proofs

def heavyL : Int → List T → Bool
  | n, [] => decide (9000 < n)
  | n, t :: ts => if 300 < t.depth then true else heavyL (IntKind.wrap .i64 (n + t.size)) ts
def heavy (ts : List T) : Bool := if 60 < ts.length then true else heavyL 0 ts

theorem fn17 (ts : List T) : Fn Tryz.prog 35 [tms ts] (bb (heavy ts)) := by
  refine fn_of (base := 17000) ok17 rfl fun σ h0 hr => ?_
  have s0 := h0 0
  rw [slots0] at s0
  have hlen := real_tms (hr (tms ts) (by simp))
  simp only [tms] at s0
  clear h0 hr
  unfold c17
  by_cases h60 : 60 < ts.length
  · have h60' : (60 : Int) < ts.length := by omega
    simp [s0, h60', r17, bb, heavy, h60]
  · have h60' : ¬ (60 : Int) < ts.length := by omega
    simp [s0, h60']
    refine W_loop (fun m σ => ∃ (i : Nat) (a : Int), i + m = ts.length ∧ heavyL a (ts.drop i) = heavyL 0 ts ∧ σ.sl 3 = ib a ∧ σ.sl 0 = tms ts ∧ σ.sl 4 = ib i) ts.length ?_ ?_
    · exact ⟨0, 0, by simp [ib, tms, s0]⟩
    · rintro m σ ⟨i, a, hm, hp, q3, q0, q4⟩
      unfold c17b0
      simp only [tms, ib] at q3 q0 q4
      by_cases hi : i < ts.length
      · obtain ⟨t, ht⟩ := at_of hi
        obtain ⟨_, ht'⟩ := getE ht
        have w1 := wrap_succ (i := i) (by omega)
        rw [drop_at ht, heavyL] at hp
        simp [q3, q0, q4, hi, ht']
        refine ECall.fn (fn29 t) (by simp [tm]) (by simp) rfl fun _ => ?_
        simp [ib, q3, q4]
        constructor
        · intro hd
          rw [if_pos hd] at hp
          simp [r17, bb, heavy, h60, ← hp]
        · intro hd
          have hd' : ¬ 300 < t.depth := by omega
          rw [if_neg hd'] at hp
          simp [q3, q0, q4, hi, ht']
          refine ECall.fn (fn28 t) (by simp [tm]) (by simp) rfl fun _ => ?_
          simp [ib, q3, q4]
          refine ⟨m - 1, by omega, i + 1, by omega, _, hp, ?_⟩
          simp [q0, tms, w1]
      · simp [q3, q0, q4, hi, r17, bb, heavy, h60]
        rw [← hp, List.drop_eq_nil_of_le (by omega), heavyL]

theorem fn64 {ts : List T} (h19 : ∀ t, t ∈ ts → Fn Tryz.prog 44 [tm t] (tm t)) : Fn Tryz.prog 65 [tms ts] (tms ts) := by
  refine fn_of (base := 64000) ok64 rfl fun σ h0 hr => ?_
  have s0 := h0 0
  rw [slots0] at s0
  have hlen := real_tms (hr (tms ts) (by simp))
  simp only [tms] at s0
  clear h0 hr
  unfold c64
  simp [s0]
  refine W_loop (fun m σ => ∃ (i : Nat), i + m = ts.length ∧ ((i = 0 ∧ σ.sl 3 = .c (.cap 3 40 [])) ∨ (0 < i ∧ σ.sl 3 = .c (.own 64018 (σ.tg 64018)) ∧ σ.ob 64018 = some (.row 63 3 40 ((ts.take i).map T.cells)))) ∧ σ.sl 0 = tms ts ∧ σ.sl 4 = ib i) ts.length ?_ ?_
  · exact ⟨0, by simp [ib, tms, s0]⟩
  · rintro m σ ⟨i, hm, hp, q0, q4⟩
    unfold c64b0
    simp only [tms, ib] at q0 q4
    by_cases hi : i < ts.length
    · obtain ⟨t, ht⟩ := at_of hi
      obtain ⟨_, ht'⟩ := getE ht
      have w1 := wrap_succ (i := i) (by omega)
      have htake : (ts.map T.cells).take i ++ [t.cells] = (ts.map T.cells).take (i + 1) := by
        rw [List.take_add_one, List.getElem?_map, ht]; simp
      have hroom : (i + 1) * 40 ≤ room := by simp only [room]; omega
      have hmin : min i ts.length = i := by omega
      rcases hp with ⟨h1, q3⟩ | ⟨h1, q3, qo⟩
      · subst h1
        simp [q3, q0, q4, hi, ht']
        refine ECall.fn (h19 t (List.mem_of_getElem? ht)) (by simp [tm]) (by simp [tm]) (by simp [tm, AV.keys2, AV.keys1]) fun _ => ?_
        simp [tm, q3, q4, room, AV.keys1, keysCs]
        refine ⟨fun x hx => cells_isD' t x hx, m - 1, by omega, 1, by omega, ⟨by omega, by simpa using htake⟩, ?_⟩
        simp at w1
        simp [q0, w1, ib, tms]
      · simp [q3, q0, q4, hi, ht']
        refine ECall.fn (h19 t (List.mem_of_getElem? ht)) (by simp [tm]) (by simp [tm]) (by simp [tm, AV.keys2, AV.keys1]) fun _ => ?_
        simp [tm, q3, q4, qo, hmin, hroom]
        refine ⟨⟨fun x hx => cells_isD' t x hx, by simp [room]⟩, m - 1, by omega, i + 1, by omega, ⟨by omega, htake⟩, ?_⟩
        simp [q0, w1, ib, tms]
    · simp [q0, q4, hi, r64]
      rcases hp with ⟨h1, q3⟩ | ⟨h1, q3, qo⟩
      · have : ts = [] := List.length_eq_zero_iff.1 (by omega)
        simp [q3, this, tms]
      · have : ts.take i = ts := List.take_of_length_le (by omega)
        simp [q3, qo, tms, this]
theorem fn19 (t : T) : Fn Tryz.prog 44 [tm t] (tm t) := by
  induction t using T.ind with
  | h k n ts ih =>
  have h64 := fn64 ih
  refine fn_of (base := 19000) ok19 rfl fun σ h0 hr => ?_
  have s0 := h0 0
  rw [slots0] at s0
  simp only [tm, cells_mk] at s0
  clear h0 hr
  unfold c19
  simp [s0]
  refine W_dregA ?_
  simp
  refine CallA.fn h64 (by simp [tms]) (by simp) rfl ?_
  simp [tms]
  refine ⟨rfl, realC_n ?_⟩
  simp [r19, tm, cells_mk]
end Go.Abs

namespace Go.Abs


end Go.Abs

namespace Go.Abs
open Go.Proofs

theorem eqb_eq (t u : T) : T.eqb t u = true ↔ t = u := by
  induction t using T.ind generalizing u with
  | h k n ts ih =>
  obtain ⟨k', n', us⟩ := u
  have key : ∀ (ts us : List T), (∀ t, t ∈ ts → ∀ u, T.eqb t u = true ↔ t = u) → (T.eqbL ts us = true ↔ ts = us) := by
    intro ts
    induction ts with
    | nil => intro us _; cases us <;> simp [T.eqbL]
    | cons t ts ih2 =>
      intro us h
      cases us with
      | nil => simp [T.eqbL]
      | cons u us =>
        simp only [T.eqbL, Bool.and_eq_true, List.cons.injEq]
        rw [h t (by simp) u, ih2 us fun t ht => h t (by simp [ht])]
  simp only [T.eqb, Bool.and_eq_true, decide_eq_true_eq, T.mk.injEq]
  rw [key ts us ih]
  exact ⟨fun h => ⟨h.1.1, h.1.2, h.2⟩, fun h => ⟨⟨h.1, h.2.1⟩, h.2.2⟩⟩
theorem eqb_self (t : T) : T.eqb t t = true := (eqb_eq t t).2 rfl

def wk : T := .mk 5 0 [.mk 2 0 [], .mk 1 0 []]

theorem wk_size : wk.size = 3 := by simp [wk, T.size, T.sizeL, IntKind.wrap, IntKind.bits, IntKind.signed]
theorem wk_depth : wk.depth = 2 := by simp [wk, T.depth, T.depthL, best2, IntKind.wrap, IntKind.bits, IntKind.signed]
theorem wk_check : wk.check = 0 := by
  have h : wk.formed = true := by simp [wk, T.formed, T.formedL, badHead, kidsOf]
  simp [T.check, wk_size, wk_depth, h]
theorem v_check : (T.mk 1 0 []).check = 0 := by
  simp [T.check, T.size, T.sizeL, T.depth, T.depthL, best2, T.formed, T.formedL, badHead, kidsOf, IntKind.wrap, IntKind.bits, IntKind.signed]
theorem wk_scope : wk.scope 0 0 = true := by
  simp [T.scope, wk_check]
  simp [wk, T.within, T.withinL, best2, bindsOf, IntKind.wrap, IntKind.bits, IntKind.signed]
theorem v_scope : (T.mk 1 0 []).scope 0 0 = false := by
  simp [T.scope, v_check, T.within, best2]

theorem wrap_ne (n : Int) : IntKind.wrap .i64 (n + 1) ≠ n := by
  simp only [IntKind.wrap, IntKind.bits, IntKind.signed, Bool.true_and]
  intro h
  have h1 := Int.emod_nonneg (n + 1) (b := 2 ^ 64) (by omega)
  have h2 := Int.emod_lt_of_pos (n + 1) (b := 2 ^ 64) (by omega)
  have h3 := Int.mul_ediv_add_emod (n + 1) (2 ^ 64)
  split at h <;> omega

end Go.Abs

namespace Go.Abs
open Go.Proofs

def T.zero : T := .mk 0 0 []
def T.shiftM (t : T) (b fr : Int) : T × Int := t.mapS (S := Int) (fun _ n d => shV fr b n d) (fun e n d => shE fr b n d e) 0 0
def mayB (x : Int) : Bool := decide (0 ≤ x) && decide (x ≤ 65535)
def T.shift (t : T) (b fr : Int) : T × Int :=
  if t.check ≠ 0 then (.zero, t.check) else if !(mayB b && mayB fr) then (.zero, 1) else if (t.shiftM b fr).2 ≠ 0 then (.zero, (t.shiftM b fr).2) else ((t.shiftM b fr).1, 0)

end Go.Abs

namespace Go.Abs

/- porism/porismkeep.Arg -/
def c126 : SCode :=
  .seq (.reg
       [⟨some 2, none, .box 126 (.t 0)⟩,
        ⟨some 3, none, .box 126 (.t 1)⟩,
        ⟨some 4, none, .mv (.k (.bool false))⟩])
  (.seq (.reg
       [⟨some 5, none, .fad 126 0 0 (.t 2)⟩,
        ⟨some 6, none, .ld1 4 (.t 5)⟩,
        ⟨some 7, none, .fad 126 0 0 (.t 3)⟩,
        ⟨some 8, none, .ld1 4 (.t 7)⟩,
        ⟨some 9, none, .beq false 4 (.t 6) (.t 8)⟩,
        ⟨some 10, none, .mv (.t 9)⟩,
        ⟨some 11, some (10, true), .fad 126 1 1 (.t 2)⟩,
        ⟨some 12, some (10, true), .ldn 63 3 (.t 11)⟩,
        ⟨some 13, some (10, true), .fad 126 1 1 (.t 3)⟩,
        ⟨some 14, some (10, true), .ldn 63 3 (.t 13)⟩,
        ⟨some 15, some (10, true), .call (.f 49) [.t 12, .t 14]⟩,
        ⟨some 16, none, .pick (.t 10) (.t 15) (.k (.bool false))⟩,
        ⟨some 17, none, .mv (.t 16)⟩,
        ⟨some 18, some (17, true), .fad 126 2 4 (.t 2)⟩,
        ⟨some 19, some (17, true), .ld1 61 (.t 18)⟩,
        ⟨some 20, some (17, true), .fad 126 2 4 (.t 3)⟩,
        ⟨some 21, some (17, true), .ld1 61 (.t 20)⟩,
        ⟨some 22, some (17, true), .call (.f 80) [.t 19, .t 21]⟩,
        ⟨some 23, none, .pick (.t 17) (.t 22) (.k (.bool false))⟩,
        ⟨some 24, none, .mv (.t 23)⟩,
        ⟨some 25, some (24, true), .fad 126 3 5 (.t 2)⟩,
        ⟨some 26, some (24, true), .ld1 3 (.t 25)⟩,
        ⟨some 27, some (24, true), .fad 126 3 5 (.t 3)⟩,
        ⟨some 28, some (24, true), .ld1 3 (.t 27)⟩,
        ⟨some 29, some (24, true), .bin .eql (.t 26) (.t 28)⟩,
        ⟨some 30, none, .pick (.t 24) (.t 29) (.k (.bool false))⟩,
        ⟨some 31, none, .mv (.t 30)⟩,
        ⟨some 32, some (31, true), .fad 126 4 6 (.t 2)⟩,
        ⟨some 33, some (31, true), .ld1 61 (.t 32)⟩,
        ⟨some 34, some (31, true), .fad 126 4 6 (.t 3)⟩,
        ⟨some 35, some (31, true), .ld1 61 (.t 34)⟩,
        ⟨some 36, some (31, true), .call (.f 80) [.t 33, .t 35]⟩,
        ⟨some 37, none, .pick (.t 31) (.t 36) (.k (.bool false))⟩,
        ⟨some 4, none, .mv (.t 37)⟩])
  (.ret))
def r126 : List RR := [.t 4]
theorem ok126 : okFn Go.Proofs.Tryz.prog 111 38 c126 r126 2 = true := by kernel_rfl

/- porism/porismkeep.Args -/
def c118b0 : SCode :=
  .seq (.seq (.reg
         [⟨some 11, none, .mv (.t 5)⟩,
          ⟨some 12, none, .mv (.t 0)⟩,
          ⟨some 13, none, .len 102 (.t 12)⟩,
          ⟨some 14, none, .bin .lss (.t 11) (.t 13)⟩])
    (.cond (.t 14)
      (.skip)
      (.exit 0)))
  (.seq (.block 1 (.seq (.dreg [0, 0, 3, 7, 0, 0, 48, 112, 255, 511]
           [⟨some 17, none, .mv (.t 0)⟩,
            ⟨some 18, none, .mv (.t 5)⟩,
            ⟨some 19, none, .iad 126 7 (.t 17) (.t 18)⟩,
            ⟨some 20, none, .ldn 126 7 (.t 19)⟩,
            ⟨some 21, none, .mv (.t 1)⟩,
            ⟨some 22, none, .mv (.t 5)⟩,
            ⟨some 23, none, .iad 126 7 (.t 21) (.t 22)⟩,
            ⟨some 24, none, .ldn 126 7 (.t 23)⟩,
            ⟨some 25, none, .call (.f 111) [.t 20, .t 24]⟩,
            ⟨some 26, none, .not (.t 25)⟩])
      (.cond (.t 26)
        (.seq (.reg
             [⟨some 4, none, .mv (.k (.bool false))⟩])
        (.ret))
        (.skip))))
  (.reg
     [⟨some 15, none, .mv (.t 5)⟩,
      ⟨some 16, none, .bin .add (.t 15) (.k (.int .i64 1))⟩,
      ⟨some 5, none, .mv (.t 16)⟩]))
def c118 : SCode :=
  .seq (.reg
       [⟨some 4, none, .mv (.k (.bool false))⟩])
  (.seq (.seq (.reg
         [⟨some 6, none, .mv (.t 0)⟩,
          ⟨some 7, none, .len 102 (.t 6)⟩,
          ⟨some 8, none, .mv (.t 1)⟩,
          ⟨some 9, none, .len 102 (.t 8)⟩,
          ⟨some 10, none, .bin .neq (.t 7) (.t 9)⟩])
    (.cond (.t 10)
      (.seq (.reg
           [⟨some 4, none, .mv (.k (.bool false))⟩])
      (.ret))
      (.skip)))
  (.seq (.seq (.reg
         [⟨some 5, none, .mv (.k (.int .i64 0))⟩])
    (.block 0 (.loop c118b0)))
  (.seq (.reg
       [⟨some 4, none, .mv (.k (.bool true))⟩])
  (.ret))))
def r118 : List RR := [.t 4]
theorem ok118 : okFn Go.Proofs.Tryz.prog 78 27 c118 r118 2 = true := by kernel_rfl

/- porism/porismkeep.Con -/
def c119 : SCode :=
  .seq (.reg
       [⟨some 2, none, .box 106 (.t 0)⟩,
        ⟨some 3, none, .box 106 (.t 1)⟩,
        ⟨some 4, none, .mv (.k (.bool false))⟩])
  (.seq (.reg
       [⟨some 5, none, .fad 106 0 0 (.t 2)⟩,
        ⟨some 6, none, .ld1 3 (.t 5)⟩,
        ⟨some 7, none, .fad 106 0 0 (.t 3)⟩,
        ⟨some 8, none, .ld1 3 (.t 7)⟩,
        ⟨some 9, none, .bin .eql (.t 6) (.t 8)⟩,
        ⟨some 10, none, .mv (.t 9)⟩,
        ⟨some 11, some (10, true), .fad 106 1 1 (.t 2)⟩,
        ⟨some 12, some (10, true), .ld1 102 (.t 11)⟩,
        ⟨some 13, some (10, true), .fad 106 1 1 (.t 3)⟩,
        ⟨some 14, some (10, true), .ld1 102 (.t 13)⟩,
        ⟨some 15, some (10, true), .call (.f 78) [.t 12, .t 14]⟩,
        ⟨some 16, none, .pick (.t 10) (.t 15) (.k (.bool false))⟩,
        ⟨some 17, none, .mv (.t 16)⟩,
        ⟨some 18, some (17, true), .fad 106 2 2 (.t 2)⟩,
        ⟨some 19, some (17, true), .ld1 61 (.t 18)⟩,
        ⟨some 20, some (17, true), .fad 106 2 2 (.t 3)⟩,
        ⟨some 21, some (17, true), .ld1 61 (.t 20)⟩,
        ⟨some 22, some (17, true), .call (.f 80) [.t 19, .t 21]⟩,
        ⟨some 23, none, .pick (.t 17) (.t 22) (.k (.bool false))⟩,
        ⟨some 24, none, .mv (.t 23)⟩,
        ⟨some 25, some (24, true), .fad 106 3 3 (.t 2)⟩,
        ⟨some 26, some (24, true), .ldn 63 3 (.t 25)⟩,
        ⟨some 27, some (24, true), .fad 106 3 3 (.t 3)⟩,
        ⟨some 28, some (24, true), .ldn 63 3 (.t 27)⟩,
        ⟨some 29, some (24, true), .call (.f 49) [.t 26, .t 28]⟩,
        ⟨some 30, none, .pick (.t 24) (.t 29) (.k (.bool false))⟩,
        ⟨some 4, none, .mv (.t 30)⟩])
  (.ret))
def r119 : List RR := [.t 4]
theorem ok119 : okFn Go.Proofs.Tryz.prog 79 31 c119 r119 2 = true := by kernel_rfl

/- porism/porismkeep.Block -/
def w86_0 : List (List Nat) := [[], [], [], [], [], [], [], [], [], [], [86006], [86007], [86006], [86007]]
def f86_0 : List (List Nat) := [[86006, 86007], [86006, 86007], [86006, 86007], [86006, 86007], [86006, 86007], [86006, 86007], [86006, 86007], [86006, 86007], [86006, 86007], [86006, 86007], [86007], [86006], [], []]
def c86b0 : SCode :=
  .seq (.seq (.reg
         [⟨some 32, none, .mv (.t 5)⟩,
          ⟨some 33, none, .fad 68 0 0 (.t 2)⟩,
          ⟨some 34, none, .ld1 65 (.t 33)⟩,
          ⟨some 35, none, .len 65 (.t 34)⟩,
          ⟨some 36, none, .bin .lss (.t 32) (.t 35)⟩])
    (.cond (.t 36)
      (.skip)
      (.exit 0)))
  (.seq (.block 1 (.seq (.dreg [0, 1, 0, 7, 15, 0, 32, 0, 224, 480, 0, 0, 3103, 8191]
           [⟨some 39, none, .fad 68 0 0 (.t 2)⟩,
            ⟨some 40, none, .ld1 65 (.t 39)⟩,
            ⟨some 41, none, .mv (.t 5)⟩,
            ⟨some 42, none, .iad 104 6 (.t 40) (.t 41)⟩,
            ⟨some 43, none, .ldn 104 6 (.t 42)⟩,
            ⟨some 44, none, .fad 68 0 0 (.t 3)⟩,
            ⟨some 45, none, .ld1 65 (.t 44)⟩,
            ⟨some 46, none, .mv (.t 5)⟩,
            ⟨some 47, none, .iad 104 6 (.t 45) (.t 46)⟩,
            ⟨some 48, none, .ldn 104 6 (.t 47)⟩,
            ⟨some 6, none, .alloc 104 [.cap 7 104 [], .v (.int .i64 0), .v (.bool false), .v (.int .i64 0), .v (.int .i64 0), .cap 3 40 []]⟩,
            ⟨some 7, none, .alloc 104 [.cap 7 104 [], .v (.int .i64 0), .v (.bool false), .v (.int .i64 0), .v (.int .i64 0), .cap 3 40 []]⟩,
            ⟨none, none, .stn 104 6 (.t 6) (.t 43)⟩,
            ⟨none, none, .stn 104 6 (.t 7) (.t 48)⟩])
      (.seq (.reg
           [⟨some 49, none, .fad 104 0 0 (.t 6)⟩,
            ⟨some 50, none, .ld1 102 (.t 49)⟩,
            ⟨some 51, none, .fad 104 0 0 (.t 7)⟩,
            ⟨some 52, none, .ld1 102 (.t 51)⟩,
            ⟨some 53, none, .call (.f 78) [.t 50, .t 52]⟩,
            ⟨some 54, none, .not (.t 53)⟩,
            ⟨some 55, none, .mv (.t 54)⟩,
            ⟨some 56, some (55, false), .fad 104 1 1 (.t 6)⟩,
            ⟨some 57, some (55, false), .ld1 3 (.t 56)⟩,
            ⟨some 58, some (55, false), .fad 104 1 1 (.t 7)⟩,
            ⟨some 59, some (55, false), .ld1 3 (.t 58)⟩,
            ⟨some 60, some (55, false), .bin .neq (.t 57) (.t 59)⟩,
            ⟨some 61, none, .pick (.t 55) (.k (.bool true)) (.t 60)⟩,
            ⟨some 62, none, .mv (.t 61)⟩,
            ⟨some 63, some (62, false), .fad 104 2 2 (.t 6)⟩,
            ⟨some 64, some (62, false), .ld1 4 (.t 63)⟩,
            ⟨some 65, some (62, false), .fad 104 2 2 (.t 7)⟩,
            ⟨some 66, some (62, false), .ld1 4 (.t 65)⟩,
            ⟨some 67, some (62, false), .beq true 4 (.t 64) (.t 66)⟩,
            ⟨some 68, none, .pick (.t 62) (.k (.bool true)) (.t 67)⟩,
            ⟨some 69, none, .mv (.t 68)⟩,
            ⟨some 70, some (69, false), .fad 104 3 3 (.t 6)⟩,
            ⟨some 71, some (69, false), .ldn 63 3 (.t 70)⟩,
            ⟨some 72, some (69, false), .fad 104 3 3 (.t 7)⟩,
            ⟨some 73, some (69, false), .ldn 63 3 (.t 72)⟩,
            ⟨some 74, some (69, false), .call (.f 49) [.t 71, .t 73]⟩,
            ⟨some 75, some (69, false), .not (.t 74)⟩,
            ⟨some 76, none, .pick (.t 69) (.k (.bool true)) (.t 75)⟩])
      (.cond (.t 76)
        (.seq (.reg
             [⟨some 4, none, .mv (.k (.bool false))⟩])
        (.ret))
        (.skip)))))
  (.reg
     [⟨some 37, none, .mv (.t 5)⟩,
      ⟨some 38, none, .bin .add (.t 37) (.k (.int .i64 1))⟩,
      ⟨some 5, none, .mv (.t 38)⟩]))
def c86b1 : SCode :=
  .seq (.seq (.reg
         [⟨some 77, none, .mv (.t 8)⟩,
          ⟨some 78, none, .fad 68 1 1 (.t 2)⟩,
          ⟨some 79, none, .ld1 66 (.t 78)⟩,
          ⟨some 80, none, .len 66 (.t 79)⟩,
          ⟨some 81, none, .bin .lss (.t 77) (.t 80)⟩])
    (.cond (.t 81)
      (.skip)
      (.exit 2)))
  (.seq (.block 3 (.seq (.dreg [0, 1, 0, 7, 15, 0, 32, 0, 224, 480, 1023, 2047]
           [⟨some 84, none, .fad 68 1 1 (.t 2)⟩,
            ⟨some 85, none, .ld1 66 (.t 84)⟩,
            ⟨some 86, none, .mv (.t 8)⟩,
            ⟨some 87, none, .iad 106 6 (.t 85) (.t 86)⟩,
            ⟨some 88, none, .ldn 106 6 (.t 87)⟩,
            ⟨some 89, none, .fad 68 1 1 (.t 3)⟩,
            ⟨some 90, none, .ld1 66 (.t 89)⟩,
            ⟨some 91, none, .mv (.t 8)⟩,
            ⟨some 92, none, .iad 106 6 (.t 90) (.t 91)⟩,
            ⟨some 93, none, .ldn 106 6 (.t 92)⟩,
            ⟨some 94, none, .call (.f 79) [.t 88, .t 93]⟩,
            ⟨some 95, none, .not (.t 94)⟩])
      (.cond (.t 95)
        (.seq (.reg
             [⟨some 4, none, .mv (.k (.bool false))⟩])
        (.ret))
        (.skip))))
  (.reg
     [⟨some 82, none, .mv (.t 8)⟩,
      ⟨some 83, none, .bin .add (.t 82) (.k (.int .i64 1))⟩,
      ⟨some 8, none, .mv (.t 83)⟩]))
def c86 : SCode :=
  .seq (.reg
       [⟨some 2, none, .box 68 (.t 0)⟩,
        ⟨some 3, none, .box 68 (.t 1)⟩,
        ⟨some 4, none, .mv (.k (.bool false))⟩])
  (.seq (.seq (.reg
         [⟨some 9, none, .fad 68 0 0 (.t 2)⟩,
          ⟨some 10, none, .ld1 65 (.t 9)⟩,
          ⟨some 11, none, .len 65 (.t 10)⟩,
          ⟨some 12, none, .fad 68 0 0 (.t 3)⟩,
          ⟨some 13, none, .ld1 65 (.t 12)⟩,
          ⟨some 14, none, .len 65 (.t 13)⟩,
          ⟨some 15, none, .bin .neq (.t 11) (.t 14)⟩,
          ⟨some 16, none, .mv (.t 15)⟩,
          ⟨some 17, some (16, false), .fad 68 1 1 (.t 2)⟩,
          ⟨some 18, some (16, false), .ld1 66 (.t 17)⟩,
          ⟨some 19, some (16, false), .len 66 (.t 18)⟩,
          ⟨some 20, some (16, false), .fad 68 1 1 (.t 3)⟩,
          ⟨some 21, some (16, false), .ld1 66 (.t 20)⟩,
          ⟨some 22, some (16, false), .len 66 (.t 21)⟩,
          ⟨some 23, some (16, false), .bin .neq (.t 19) (.t 22)⟩,
          ⟨some 24, none, .pick (.t 16) (.k (.bool true)) (.t 23)⟩,
          ⟨some 25, none, .mv (.t 24)⟩,
          ⟨some 26, some (25, false), .fad 68 2 2 (.t 2)⟩,
          ⟨some 27, some (25, false), .ld1 3 (.t 26)⟩,
          ⟨some 28, some (25, false), .fad 68 2 2 (.t 3)⟩,
          ⟨some 29, some (25, false), .ld1 3 (.t 28)⟩,
          ⟨some 30, some (25, false), .bin .neq (.t 27) (.t 29)⟩,
          ⟨some 31, none, .pick (.t 25) (.k (.bool true)) (.t 30)⟩])
    (.cond (.t 31)
      (.seq (.reg
           [⟨some 4, none, .mv (.k (.bool false))⟩])
      (.ret))
      (.skip)))
  (.seq (.seq (.reg
         [⟨some 5, none, .mv (.k (.int .i64 0))⟩])
    (.block 0 (.loop c86b0)))
  (.seq (.seq (.reg
         [⟨some 8, none, .mv (.k (.int .i64 0))⟩])
    (.block 2 (.loop c86b1)))
  (.seq (.reg
       [⟨some 4, none, .mv (.k (.bool true))⟩])
  (.ret)))))
def r86 : List RR := [.t 4]
theorem ok86 : okFn Go.Proofs.Tryz.prog 48 96 c86 r86 2 = true := by kernel_rfl

end Go.Abs

namespace Go.Abs
open Go.Proofs

/-! ### arguments, sorts, constructors, blocks, declarations -/
structure A where
  rc : Bool
  typ : T
  dom : List T
  sort : Int
  idx : List T
def A.cells (a : A) : List Cell := [.v (.bool a.rc), .v (.int .i64 a.typ.kind), .v (.int .i64 a.typ.val), .sl 3 40 (a.typ.kids.map T.cells), .sl 3 40 (a.dom.map T.cells), .v (.int .i64 a.sort), .sl 3 40 (a.idx.map T.cells)]
def am (a : A) : AV := .agg a.cells
def ams (l : List A) : AV := .c (.sl 7 104 (l.map A.cells))
structure S where
  idx : List A
  level : Int
  dec : Bool
  decType : T
def S.cells (s : S) : List Cell := [.sl 7 104 (s.idx.map A.cells), .v (.int .i64 s.level), .v (.bool s.dec), .v (.int .i64 s.decType.kind), .v (.int .i64 s.decType.val), .sl 3 40 (s.decType.kids.map T.cells)]
def sms (l : List S) : AV := .c (.sl 6 80 (l.map S.cells))
structure K where
  sort : Int
  args : List A
  idx : List T
  dec : T
def K.cells (s : K) : List Cell := [.v (.int .i64 s.sort), .sl 7 104 (s.args.map A.cells), .sl 3 40 (s.idx.map T.cells), .v (.int .i64 s.dec.kind), .v (.int .i64 s.dec.val), .sl 3 40 (s.dec.kids.map T.cells)]
def km (k : K) : AV := .agg k.cells
def kms (l : List K) : AV := .c (.sl 6 96 (l.map K.cells))
structure B where
  sorts : List S
  cons : List K
  elim : Int
def B.cells (b : B) : List Cell := [.sl 6 80 (b.sorts.map S.cells), .sl 6 96 (b.cons.map K.cells), .v (.int .i64 b.elim)]
def bm (b : B) : AV := .agg b.cells
structure D where
  kind : Int
  typ : T
  body : T
  block : B
def D.cells (d : D) : List Cell := [.v (.int .i64 d.kind), .v (.int .i64 d.typ.kind), .v (.int .i64 d.typ.val), .sl 3 40 (d.typ.kids.map T.cells), .v (.int .i64 d.body.kind), .v (.int .i64 d.body.val), .sl 3 40 (d.body.kids.map T.cells),
  .sl 6 80 (d.block.sorts.map S.cells), .sl 6 96 (d.block.cons.map K.cells), .v (.int .i64 d.block.elim)]
def dm (d : D) : AV := .agg d.cells

/-! ### are they the same? -/
def A.eqb (a b : A) : Bool := (a.rc == b.rc) && T.eqb a.typ b.typ && T.eqbL a.dom b.dom && decide (a.sort = b.sort) && T.eqbL a.idx b.idx
def K.eqb (a b : K) : Bool := decide (a.sort = b.sort) && all2 A.eqb a.args b.args && T.eqbL a.idx b.idx && T.eqb a.dec b.dec
def S.eqb (a b : S) : Bool := all2 A.eqb a.idx b.idx && decide (a.level = b.level) && (a.dec == b.dec) && T.eqb a.decType b.decType
def B.eqb (a b : B) : Bool := decide (a.elim = b.elim) && all2 S.eqb a.sorts b.sorts && all2 K.eqb a.cons b.cons
def D.eqb (a b : D) : Bool := decide (a.kind = b.kind) && T.eqb a.typ b.typ && T.eqb a.body b.body && B.eqb a.block b.block

theorem fn96' (ts us : List T) : Fn Tryz.prog 80 [tms ts, tms us] (bb (T.eqbL ts us)) := fn96 fun t _ u => fn45 t u
theorem fn126 (a b : A) : Fn Tryz.prog 111 [am a, am b] (bb (a.eqb b)) := by
  refine fn_of (base := 126000) ok126 rfl fun σ h0 hr => ?_
  have s0 := h0 0
  have s1 := h0 1
  rw [slots0] at s0
  rw [slots1] at s1
  simp only [am, A.cells] at s0 s1
  clear h0 hr
  unfold c126
  simp [s0, s1]
  refine GCall.fn (fun _ => fn45 a.typ b.typ) (by simp [tm, cells_eq]) (by simp) rfl fun _ => ?_
  simp [bb]
  refine GCall.fn (fun _ => fn96' a.dom b.dom) (by simp [tms]) (by simp) rfl fun _ => ?_
  simp [bb]
  refine GCall.fn (fun _ => fn96' a.idx b.idx) (by simp [tms]) (by simp) rfl fun _ => ?_
  simp [bb, r126, A.eqb]
theorem real_ams {l : List A} (h : Real (ams l)) : l.length * 104 ≤ 140737488355328 := by simpa [room] using real_sl h
theorem real_sms {l : List S} (h : Real (sms l)) : l.length * 80 ≤ 140737488355328 := by simpa [room] using real_sl h
theorem real_kms {l : List K} (h : Real (kms l)) : l.length * 96 ≤ 140737488355328 := by simpa [room] using real_sl h
theorem fn118 (ts us : List A) : Fn Tryz.prog 78 [ams ts, ams us] (bb (all2 A.eqb ts us)) := by
  refine fn_of (base := 118000) ok118 rfl fun σ h0 hr => ?_
  have s0 := h0 0
  have s1 := h0 1
  rw [slots0] at s0
  rw [slots1] at s1
  have hlen := real_ams (hr (ams ts) (by simp))
  simp only [ams] at s0 s1
  clear h0 hr
  unfold c118
  by_cases hl : ts.length = us.length
  case neg =>
    have hl' : ¬ ((ts.length : Int) = (us.length : Int)) := by omega
    simp [s0, s1, hl', r118, bb, all2_len hl]
  case pos =>
    simp [s0, s1, hl]
    refine W_loop (fun k σ => ∃ i : Nat, i + k = ts.length ∧ all2 A.eqb (ts.drop i) (us.drop i) = all2 A.eqb ts us ∧ σ.sl 0 = ams ts ∧ σ.sl 1 = ams us ∧ σ.sl 5 = .c (.v (.int .i64 i))) ts.length ?_ ?_
    · exact ⟨0, by simp [s0, s1, ams]⟩
    · rintro k σ ⟨i, hk, hp, q0, q1, q5⟩
      simp only [ams] at q0 q1
      unfold c118b0
      by_cases hi : i < ts.length
      · obtain ⟨t, ht⟩ := at_of hi
        obtain ⟨u, hu⟩ := at_of (show i < us.length by omega)
        obtain ⟨_, ht'⟩ := getE ht
        obtain ⟨hi2, hu'⟩ := getE hu
        have w1 := wrap_succ (i := i) (by omega)
        rw [all2_at hl ht hu] at hp
        simp [q0, q1, q5, hi, hi2]
        refine W_dregA ?_
        simp [q0, q1, q5, hi, hi2, ht', hu', A.cells]
        refine CallA.fn (fn126 t u) (by simp [am, A.cells]) (by simp) rfl ?_
        simp [bb]
        refine realC_n ?_
        simp
        constructor
        · intro hpf
          simp [r118, ← hp, hpf]
        · intro hpt
          rw [hpt, Bool.true_and] at hp
          simp [q5]
          refine ⟨k - 1, by omega, i + 1, by omega, hp, ?_⟩
          simp [q0, q1, w1, ams]
      · simp [q0, q1, q5, hi, r118, bb]
        have : ts.length ≤ i := by omega
        rw [← hp, List.drop_eq_nil_of_le this, List.drop_eq_nil_of_le (by omega)]; rfl
theorem fn119 (a b : K) : Fn Tryz.prog 79 [km a, km b] (bb (a.eqb b)) := by
  refine fn_of (base := 119000) ok119 rfl fun σ h0 hr => ?_
  have s0 := h0 0
  have s1 := h0 1
  rw [slots0] at s0
  rw [slots1] at s1
  simp only [km, K.cells] at s0 s1
  clear h0 hr
  unfold c119
  simp [s0, s1]
  refine GCall.fn (fun _ => fn118 a.args b.args) (by simp [ams]) (by simp) rfl fun _ => ?_
  simp [bb]
  refine GCall.fn (fun _ => fn96' a.idx b.idx) (by simp [tms]) (by simp) rfl fun _ => ?_
  simp [bb]
  refine GCall.fn (fun _ => fn45 a.dec b.dec) (by simp [tm, cells_eq]) (by simp) rfl fun _ => ?_
  simp [bb, r119, K.eqb]
theorem real_cell {cs : List Cell} {sz bs : Nat} {es : List (List Cell)} (h : Real (.agg cs)) (hm : .sl sz bs es ∈ cs) : es.length * bs ≤ room := by
  obtain ⟨g, w, v, vs, rfl, hvs⟩ := h
  obtain ⟨i, hi⟩ := List.mem_iff_getElem?.1 hm
  obtain ⟨x, _, hx⟩ := hvs.get i _ hi
  exact real_sl ⟨g, w, x, fun _ => hx⟩
theorem fn86 (a b : B) : Fn Tryz.prog 48 [bm a, bm b] (bb (a.eqb b)) := by
  refine fn_of (base := 86000) ok86 rfl fun σ h0 hr => ?_
  have s0 := h0 0
  have s1 := h0 1
  rw [slots0] at s0
  rw [slots1] at s1
  have hl1 := real_cell (hr (bm a) (by simp)) (show .sl 6 80 (a.sorts.map S.cells) ∈ a.cells by simp [B.cells])
  have hl2 := real_cell (hr (bm a) (by simp)) (show .sl 6 96 (a.cons.map K.cells) ∈ a.cells by simp [B.cells])
  simp only [room, List.length_map] at hl1 hl2
  simp only [bm, B.cells] at s0 s1
  clear h0 hr
  unfold c86
  simp [s0, s1]
  refine ⟨fun h => ?_, fun h1 h2 h3 => ?_⟩
  · have he : a.eqb b = false := by
      rcases h with (h | h) | h
      · have : a.sorts.length ≠ b.sorts.length := by omega
        simp [B.eqb, all2_len this]
      · have : a.cons.length ≠ b.cons.length := by omega
        simp [B.eqb, all2_len this]
      · simp [B.eqb, h]
    simp [r86, he, bb]
  · have l1 : a.sorts.length = b.sorts.length := by omega
    have l2 : a.cons.length = b.cons.length := by omega
    refine W_loop (fun k σ => ∃ i : Nat, i + k = a.sorts.length ∧ all2 S.eqb (a.sorts.drop i) (b.sorts.drop i) = all2 S.eqb a.sorts b.sorts ∧ σ.sl 2 = .c (.ref 86002 (σ.tg 86002) 0) ∧ σ.ob 86002 = some (.box 68 a.cells) ∧ σ.sl 3 = .c (.ref 86003 (σ.tg 86003) 0) ∧ σ.ob 86003 = some (.box 68 b.cells) ∧ σ.sl 5 = .c (.v (.int .i64 i))) a.sorts.length ?_ ?_
    · exact ⟨0, by simp [B.cells]⟩
    · rintro k σ ⟨i, hk, hp, q2, o2, q3, o3, q5⟩
      simp only [B.cells] at o2 o3
      unfold c86b0
      by_cases hi : i < a.sorts.length
      · obtain ⟨t, ht⟩ := at_of hi
        obtain ⟨u, hu⟩ := at_of (show i < b.sorts.length by omega)
        obtain ⟨_, ht'⟩ := getE ht
        obtain ⟨hi2, hu'⟩ := getE hu
        have w1 := wrap_succ (i := i) (by omega)
        rw [all2_at l1 ht hu] at hp
        simp [q2, o2, q3, o3, q5, hi, hi2]
        refine W_dregD w86_0 f86_0 (by decide) ?_
        unfold w86_0 f86_0
        simp [q2, o2, q3, o3, q5, hi, hi2, ht', hu', S.cells]
        refine realC_n ?_
        simp [S.cells]
        refine ECall.fn (fn118 t.idx u.idx) (by simp [ams]) (by simp) rfl fun _ => ?_
        simp [bb]
        refine GCall.fn (fun _ => fn45 t.decType u.decType) (by simp [tm, cells_eq]) (by simp) rfl fun _ => ?_
        simp [bb]
        constructor
        · intro h
          have ht : t.eqb u = false := by
            rcases h with ((h | h) | h) | h <;> simp [S.eqb, h]
          have : a.eqb b = false := by simp [B.eqb, ← hp, ht]
          simp [r86, this, bb]
        · intro e1 e2 e3 e4
          have ht : t.eqb u = true := by simp [S.eqb, e1, e2, e3, e4]
          rw [ht, Bool.true_and] at hp
          simp [q5]
          refine ⟨k - 1, by omega, i + 1, by omega, hp, ?_⟩
          simp [q2, o2, q3, o3, w1, B.cells]
      · have hS : all2 S.eqb a.sorts b.sorts = true := by
          rw [← hp, List.drop_eq_nil_of_le (by omega), List.drop_eq_nil_of_le (by omega)]; rfl
        simp [q2, o2, q3, o3, q5, hi]
        refine W_loop (fun k σ => ∃ i : Nat, i + k = a.cons.length ∧ all2 K.eqb (a.cons.drop i) (b.cons.drop i) = all2 K.eqb a.cons b.cons ∧ σ.sl 2 = .c (.ref 86002 (σ.tg 86002) 0) ∧ σ.ob 86002 = some (.box 68 a.cells) ∧ σ.sl 3 = .c (.ref 86003 (σ.tg 86003) 0) ∧ σ.ob 86003 = some (.box 68 b.cells) ∧ σ.sl 8 = .c (.v (.int .i64 i))) a.cons.length ?_ ?_
        · exact ⟨0, by simp [B.cells, q2, o2, q3, o3]⟩
        · rintro k σ ⟨i, hk, hp, q2, o2, q3, o3, q5⟩
          simp only [B.cells] at o2 o3
          unfold c86b1
          by_cases hi : i < a.cons.length
          · obtain ⟨t, ht⟩ := at_of hi
            obtain ⟨u, hu⟩ := at_of (show i < b.cons.length by omega)
            obtain ⟨_, ht'⟩ := getE ht
            obtain ⟨hi2, hu'⟩ := getE hu
            have w1 := wrap_succ (i := i) (by omega)
            rw [all2_at l2 ht hu] at hp
            simp [q2, o2, q3, o3, q5, hi, hi2]
            refine W_dregA ?_
            simp [q2, o2, q3, o3, q5, hi, hi2, ht', hu', K.cells]
            refine CallA.fn (fn119 t u) (by simp [km, K.cells]) (by simp) rfl ?_
            simp [bb]
            refine realC_n ?_
            simp
            constructor
            · intro hpf
              have : a.eqb b = false := by simp [B.eqb, ← hp, hpf]
              simp [r86, this, bb]
            · intro hpt
              rw [hpt, Bool.true_and] at hp
              simp [q5]
              refine ⟨k - 1, by omega, i + 1, by omega, hp, ?_⟩
              simp [q2, o2, q3, o3, w1, B.cells]
          · have hK : all2 K.eqb a.cons b.cons = true := by
              rw [← hp, List.drop_eq_nil_of_le (by omega), List.drop_eq_nil_of_le (by omega)]; rfl
            simp [q2, o2, q3, o3, q5, hi, r86, bb, B.eqb, hS, hK, h3]
theorem eqbL_self (ts : List T) : T.eqbL ts ts = true := by
  rw [eqbL_all2]
  induction ts with
  | nil => rfl
  | cons t ts ih => simp [all2, eqb_self, ih]
theorem all2_self {α : Type} {p : α → α → Bool} (h : ∀ a, p a a = true) (l : List α) : all2 p l l = true := by
  induction l with
  | nil => rfl
  | cons t ts ih => simp [all2, h, ih]
theorem A.eqb_self (a : A) : a.eqb a = true := by simp [A.eqb, Go.Abs.eqb_self, eqbL_self]
theorem K.eqb_self (a : K) : a.eqb a = true := by simp [K.eqb, Go.Abs.eqb_self, eqbL_self, all2_self A.eqb_self]
theorem S.eqb_self (a : S) : a.eqb a = true := by simp [S.eqb, Go.Abs.eqb_self, all2_self A.eqb_self]
theorem B.eqb_self (a : B) : a.eqb a = true := by simp [B.eqb, all2_self S.eqb_self, all2_self K.eqb_self]
theorem D.eqb_self (a : D) : a.eqb a = true := by simp [D.eqb, Go.Abs.eqb_self, B.eqb_self]
end Go.Abs

namespace Go.Abs

/-! ### the shift, plainly -/
mutual
def T.mv : T → Int → Int → T
  | .mk k n ts, b, c => if k = 1 then .mk 1 (if n < c then n else n + b) [] else .mk k n (T.mvL k b c 0 ts)
def T.mvL (k b c : Int) : Int → List T → List T
  | _, [] => []
  | i, t :: ts => T.mv t b (c + bindsOf k i) :: T.mvL k b c (i + 1) ts
end
mutual
def T.ov : T → Int → Int → Bool
  | .mk k n ts, b, c => if k = 1 then decide (c ≤ n) && decide (65535 < n + b) else T.ovL k b c 0 ts
def T.ovL (k b c : Int) : Int → List T → Bool
  | _, [] => false
  | i, t :: ts => T.ov t b (c + bindsOf k i) || T.ovL k b c (i + 1) ts
end

theorem binds01 (k i : Int) : bindsOf k i = 0 ∨ bindsOf k i = 1 := by simp only [bindsOf]; split <;> simp
theorem wrap_dp {k i d : Int} (h0 : 0 ≤ d) (h1 : d ≤ 4611686018427387904) : IntKind.wrap .i64 (d + bindsOf k i) = d + bindsOf k i := by
  rcases binds01 k i with h | h <;> rw [h] <;> exact wrap_id (by omega) (by omega)

theorem mv_count (t : T) : t.formed = true → ∀ b c, (t.mv b c).count = t.count := by
  induction t using T.ind with
  | h k n ts ih =>
  intro hf b c
  rw [T.formed, Bool.and_eq_true, formedL_all, List.all_eq_true] at hf
  by_cases hk : k = 1
  · subst hk
    have hl : ts = [] := by
      have := hf.1
      simp [badHead, kidsOf] at this
      exact this.1.1
    subst hl
    simp [T.mv, T.count, T.countL]
  · have key : ∀ (ts : List T) (i : Int), (∀ t, t ∈ ts → ∀ b c, (t.mv b c).count = t.count) → T.countL (T.mvL k b c i ts) = T.countL ts := by
      intro ts
      induction ts with
      | nil => intro i _; simp [T.mvL]
      | cons t ts ih2 =>
        intro i h
        simp only [T.mvL, T.countL]
        rw [h t (by simp), ih2 (i + 1) fun u hu => h u (by simp [hu])]
    simp only [T.mv, hk, if_false, T.count]
    rw [key ts 0 fun t ht b c => ih t ht (hf.2 t ht) b c]

theorem mvL_len (k b c : Int) : ∀ (ts : List T) (i : Int), (T.mvL k b c i ts).length = ts.length
  | [], i => by simp [T.mvL]
  | t :: ts, i => by simp [T.mvL, mvL_len k b c ts (i + 1)]

theorem mv_depth (t : T) : t.formed = true → ∀ b c, (t.mv b c).depth = t.depth := by
  induction t using T.ind with
  | h k n ts ih =>
  intro hf b c
  rw [T.formed, Bool.and_eq_true, formedL_all, List.all_eq_true] at hf
  by_cases hk : k = 1
  · subst hk
    have hl : ts = [] := by
      have := hf.1
      simp [badHead, kidsOf] at this
      exact this.1.1
    subst hl
    simp [T.mv, T.depth, T.depthL]
  · have key : ∀ (ts : List T) (i a : Int), (∀ t, t ∈ ts → ∀ b c, (t.mv b c).depth = t.depth) → T.depthL a (T.mvL k b c i ts) = T.depthL a ts := by
      intro ts
      induction ts with
      | nil => intro i a _; simp [T.mvL]
      | cons t ts ih2 =>
        intro i a h
        simp only [T.mvL, T.depthL]
        rw [h t (by simp), ih2 (i + 1) _ fun u hu => h u (by simp [hu])]
    simp only [T.mv, hk, if_false, T.depth]
    rw [key ts 0 0 fun t ht b c => ih t ht (hf.2 t ht) b c]

theorem mv_formed (t : T) : t.formed = true → ∀ b c, 0 ≤ b → t.ov b c = false → (t.mv b c).formed = true := by
  induction t using T.ind with
  | h k n ts ih =>
  intro hf b c hb ho
  rw [T.formed, Bool.and_eq_true, formedL_all, List.all_eq_true] at hf
  by_cases hk : k = 1
  · subst hk
    have h1 := hf.1
    simp [badHead, kidsOf] at h1
    simp [T.ov] at ho
    simp [T.mv, T.formed, T.formedL, badHead, kidsOf]
    split <;> omega
  · have key : ∀ (ts : List T) (i : Int), (∀ t, t ∈ ts → ∀ b c, 0 ≤ b → t.ov b c = false → (t.mv b c).formed = true) → T.ovL k b c i ts = false → T.formedL (T.mvL k b c i ts) = true := by
      intro ts
      induction ts with
      | nil => intro i _ _; simp [T.mvL, T.formedL]
      | cons t ts ih2 =>
        intro i h h2
        simp only [T.ovL, Bool.or_eq_false_iff] at h2
        simp only [T.mvL, T.formedL, Bool.and_eq_true]
        exact ⟨h t (by simp) b _ hb h2.1, ih2 (i + 1) (fun u hu => h u (by simp [hu])) h2.2⟩
    simp only [T.ov, hk, if_false] at ho
    simp only [T.mv, hk, if_false, T.formed, mvL_len, Bool.and_eq_true]
    exact ⟨hf.1, key ts 0 (fun t ht => ih t ht (hf.2 t ht)) ho⟩

theorem check_iff (t : T) : t.check = 0 ↔ t.size ≤ 6000 ∧ t.depth ≤ 200 ∧ t.formed = true := by
  simp only [T.check]
  by_cases h1 : 6000 < t.size
  · simp [h1]; intro h; omega
  · by_cases h2 : 200 < t.depth
    · simp [h1, h2]; intro _ h; omega
    · by_cases h3 : t.formed = true
      · simp [h1, h2, h3]; omega
      · simp [h1, h2, h3]
theorem check_cases (t : T) : t.check = 0 ∨ t.check = 4 ∨ t.check = 5 ∨ t.check = 1 := by
  simp only [T.check]
  split
  · simp
  · split
    · simp
    · split <;> simp

theorem mv_check {t : T} (hc : t.count ≤ 1048576) (h : t.check = 0) {b c : Int} (hb : 0 ≤ b) (ho : t.ov b c = false) : (t.mv b c).check = 0 := by
  rw [check_iff] at h ⊢
  have h1 := mv_count t h.2.2 b c
  have h2 := size_count t (by omega)
  have h3 := size_count (t.mv b c) (by omega)
  rw [mv_depth t h.2.2 b c]
  exact ⟨by omega, h.2.1, mv_formed t h.2.2 b c hb ho⟩
theorem count_6000 {t : T} (hc : t.count ≤ 1048576) (h : t.check = 0) : t.count ≤ 6000 := by
  have h2 := size_count t (by omega)
  have := ((check_iff t).1 h).1
  omega

/-- What Map computes with Shift's closure is the plain shift. -/
theorem mapS_mv (fr b : Int) (hfr : 0 ≤ fr) (hfr2 : fr ≤ 65535) (hb : 0 ≤ b) (hb2 : b ≤ 65535) (t : T) : t.formed = true → ∀ e d : Int, 0 ≤ d → d + t.count ≤ 4611686018427387 →
    t.mapS (S := Int) (fun _ n d => shV fr b n d) (fun e n d => shE fr b n d e) e d = (t.mv b (fr + d), if t.ov b (fr + d) then 6 else e) := by
  induction t using T.ind with
  | h k n ts ih =>
  intro hf e d h0 h1
  rw [T.formed, Bool.and_eq_true, formedL_all, List.all_eq_true] at hf
  by_cases hk : k = 1
  · subst hk
    have hh := hf.1
    simp [badHead, kidsOf] at hh
    have hn : 0 ≤ n ∧ n ≤ 65535 := by omega
    have w1 : IntKind.wrap .i64 (fr + d) = fr + d := wrap_id (by omega) (by omega)
    have w2 : IntKind.wrap .i64 (n + b) = n + b := wrap_id (by omega) (by omega)
    simp only [T.mapS, if_true, shV, shE, w1, w2, T.mv, T.ov]
    by_cases hlt : n < fr + d
    · have hlt2 : ¬ (fr + d ≤ n) := by omega
      simp [hlt, hlt2]
    · have hle : fr + d ≤ n := by omega
      by_cases h3 : 65535 < n + b <;> simp [hlt, hle, h3]
  · have key : ∀ (ts : List T) (i e : Int), (∀ t, t ∈ ts → ∀ e d : Int, 0 ≤ d → d + t.count ≤ 4611686018427387 → t.mapS (S := Int) (fun _ n d => shV fr b n d) (fun e n d => shE fr b n d e) e d = (t.mv b (fr + d), if t.ov b (fr + d) then 6 else e)) →
        d + 1 + T.countL ts ≤ 4611686018427387 → T.mapSL (S := Int) (fun _ n d => shV fr b n d) (fun e n d => shE fr b n d e) k d i ts e = (T.mvL k b (fr + d) i ts, if T.ovL k b (fr + d) i ts then 6 else e) := by
      intro ts
      induction ts with
      | nil => intro i e _ _; simp [T.mapSL, T.mvL, T.ovL]
      | cons t ts ih2 =>
        intro i e h hc
        simp only [T.countL] at hc
        have hw := wrap_dp (k := k) (i := i) h0 (by omega)
        have hbd := binds01 k i
        have ht := h t (by simp) e (d + bindsOf k i) (by omega) (by omega)
        simp only [T.mapSL, hw, ht, T.mvL, T.ovL]
        rw [ih2 (i + 1) _ (fun u hu => h u (by simp [hu])) (by omega)]
        have ea : fr + (d + bindsOf k i) = fr + d + bindsOf k i := by omega
        rw [ea]
        by_cases q1 : T.ov t b (fr + d + bindsOf k i) = true <;> by_cases q2 : T.ovL k b (fr + d) (i + 1) ts = true <;> simp [q1, q2]
    simp only [T.count] at h1
    simp only [T.mapS, hk, if_false, T.mv, T.ov]
    rw [key ts 0 e (fun t ht => ih t ht (hf.2 t ht)) (by omega)]

/-! ### laws of the plain shift -/
theorem mv_swap (t : T) : ∀ a b i k : Int, 0 ≤ a → 0 ≤ b → 0 ≤ k → (t.mv a i).mv b (i + k + a) = (t.mv b (i + k)).mv a i := by
  induction t using T.ind with
  | h k n ts ih =>
  intro a b i kk ha hb hkk
  by_cases hk : k = 1
  · subst hk
    simp only [T.mv, if_true]
    congr 1
    split <;> split <;> (try split) <;> omega
  · have key : ∀ (ts : List T) (j : Int), (∀ t, t ∈ ts → ∀ a b i k : Int, 0 ≤ a → 0 ≤ b → 0 ≤ k → (t.mv a i).mv b (i + k + a) = (t.mv b (i + k)).mv a i) →
        T.mvL k b (i + kk + a) j (T.mvL k a i j ts) = T.mvL k a i j (T.mvL k b (i + kk) j ts) := by
      intro ts
      induction ts with
      | nil => intro j _; simp [T.mvL]
      | cons t ts ih2 =>
        intro j h
        simp only [T.mvL]
        rw [ih2 (j + 1) fun u hu => h u (by simp [hu])]
        have h1 := h t (by simp) a b (i + bindsOf k j) kk ha hb hkk
        have e1 : i + bindsOf k j + kk + a = i + kk + a + bindsOf k j := by omega
        have e2 : i + bindsOf k j + kk = i + kk + bindsOf k j := by omega
        rw [e1, e2] at h1
        rw [h1]
    simp only [T.mv, hk, if_false]
    rw [key ts 0 ih]

theorem mv_mv (t : T) : ∀ a b c : Int, 0 ≤ a → 0 ≤ b → (t.mv a c).mv b c = t.mv (a + b) c := by
  induction t using T.ind with
  | h k n ts ih =>
  intro a b c ha hb
  by_cases hk : k = 1
  · subst hk
    simp only [T.mv, if_true]
    congr 1
    split <;> (try split) <;> omega
  · have key : ∀ (ts : List T) (j : Int), (∀ t, t ∈ ts → ∀ a b c : Int, 0 ≤ a → 0 ≤ b → (t.mv a c).mv b c = t.mv (a + b) c) → T.mvL k b c j (T.mvL k a c j ts) = T.mvL k (a + b) c j ts := by
      intro ts
      induction ts with
      | nil => intro j _; simp [T.mvL]
      | cons t ts ih2 =>
        intro j h
        simp only [T.mvL]
        rw [ih2 (j + 1) fun u hu => h u (by simp [hu]), h t (by simp) a b _ ha hb]
    simp only [T.mv, hk, if_false]
    rw [key ts 0 ih]
theorem ov_mv (t : T) : ∀ a b c : Int, 0 ≤ a → 0 ≤ b → t.ov (a + b) c = false → t.ov a c = false ∧ (t.mv a c).ov b c = false := by
  induction t using T.ind with
  | h k n ts ih =>
  intro a b c ha hb
  by_cases hk : k = 1
  · subst hk
    simp only [T.mv, T.ov, if_true, Bool.and_eq_false_iff, decide_eq_false_iff_not]
    intro h
    split <;> omega
  · have key : ∀ (ts : List T) (j : Int), (∀ t, t ∈ ts → ∀ a b c : Int, 0 ≤ a → 0 ≤ b → t.ov (a + b) c = false → t.ov a c = false ∧ (t.mv a c).ov b c = false) → T.ovL k (a + b) c j ts = false → T.ovL k a c j ts = false ∧ T.ovL k b c j (T.mvL k a c j ts) = false := by
      intro ts
      induction ts with
      | nil => intro j _ _; simp [T.mvL, T.ovL]
      | cons t ts ih2 =>
        intro j h h2
        simp only [T.ovL, Bool.or_eq_false_iff] at h2
        simp only [T.mvL, T.ovL, Bool.or_eq_false_iff]
        have h3 := h t (by simp) a b _ ha hb h2.1
        have h4 := ih2 (j + 1) (fun u hu => h u (by simp [hu])) h2.2
        exact ⟨⟨h3.1, h4.1⟩, h3.2, h4.2⟩
    simp only [T.mv, T.ov, hk, if_false]
    exact key ts 0 ih
theorem mv_zero (t : T) : t.formed = true → ∀ c : Int, t.mv 0 c = t ∧ t.ov 0 c = false := by
  induction t using T.ind with
  | h k n ts ih =>
  intro hf c
  rw [T.formed, Bool.and_eq_true, formedL_all, List.all_eq_true] at hf
  by_cases hk : k = 1
  · subst hk
    have hh := hf.1
    simp [badHead, kidsOf] at hh
    have hts : ts = [] := hh.1.1
    subst hts
    simp [T.mv, T.ov]
    omega
  · have key : ∀ (ts : List T) (j : Int), (∀ t, t ∈ ts → ∀ c : Int, t.mv 0 c = t ∧ t.ov 0 c = false) → T.mvL k 0 c j ts = ts ∧ T.ovL k 0 c j ts = false := by
      intro ts
      induction ts with
      | nil => intro j _; simp [T.mvL, T.ovL]
      | cons t ts ih2 =>
        intro j h
        have h3 := h t (by simp) (c + bindsOf k j)
        have h4 := ih2 (j + 1) (fun u hu => h u (by simp [hu]))
        simp [T.mvL, T.ovL, h3, h4]
    simp only [T.mv, T.ov, hk, if_false]
    have := key ts 0 fun t ht => ih t ht (hf.2 t ht)
    rw [this.1, this.2]
    exact ⟨rfl, rfl⟩
theorem ov_mono (t : T) : ∀ a b c : Int, a ≤ b → t.ov b c = false → t.ov a c = false := by
  induction t using T.ind with
  | h k n ts ih =>
  intro a b c hab
  by_cases hk : k = 1
  · subst hk
    simp only [T.ov, if_true, Bool.and_eq_false_iff, decide_eq_false_iff_not]
    omega
  · have key : ∀ (ts : List T) (j : Int), (∀ t, t ∈ ts → ∀ a b c : Int, a ≤ b → t.ov b c = false → t.ov a c = false) → T.ovL k b c j ts = false → T.ovL k a c j ts = false := by
      intro ts
      induction ts with
      | nil => intro j _ _; simp [T.ovL]
      | cons t ts ih2 =>
        intro j h h2
        simp only [T.ovL, Bool.or_eq_false_iff] at h2 ⊢
        exact ⟨h t (by simp) a b _ hab h2.1, ih2 (j + 1) (fun u hu => h u (by simp [hu])) h2.2⟩
    simp only [T.ov, hk, if_false]
    exact key ts 0 ih
end Go.Abs

namespace Go.Abs
open Go.Proofs

def wk4 : T := .mk 5 0 [.mk 1 0 [], .mk 1 1 []]
def wk4s : T := .mk 5 0 [.mk 1 2 [], .mk 1 3 []]
theorem wk4_check : wk4.check = 0 := by rfl
theorem wk4_shift : wk4.shift 2 0 = (wk4s, 0) := by rfl
theorem wk4_cnt : (if (0 : Int) ≤ 0 ∧ (0 : Int) ≤ 65535 then wk4.cnt 0 0 else 0) = 2 := by rfl

end Go.Abs

namespace Go.Abs

/- porism/porismref01.Check -/
def c27 : SCode :=
  .seq (.reg
       [⟨some 1, none, .box 63 (.t 0)⟩,
        ⟨some 2, none, .mv (.k (.int .i64 0))⟩])
  (.seq (.seq (.reg
         [⟨some 3, none, .ldn 63 3 (.t 1)⟩,
          ⟨some 4, none, .call (.f 37) [.t 3]⟩,
          ⟨some 5, none, .bin .gtr (.t 4) (.k (.int .i64 6000))⟩])
    (.cond (.t 5)
      (.seq (.reg
           [⟨some 2, none, .mv (.k (.int .i64 4))⟩])
      (.ret))
      (.skip)))
  (.seq (.seq (.reg
         [⟨some 6, none, .ldn 63 3 (.t 1)⟩,
          ⟨some 7, none, .call (.f 58) [.t 6]⟩,
          ⟨some 8, none, .bin .gtr (.t 7) (.k (.int .i64 200))⟩])
    (.cond (.t 8)
      (.seq (.reg
           [⟨some 2, none, .mv (.k (.int .i64 5))⟩])
      (.ret))
      (.skip)))
  (.seq (.seq (.reg
         [⟨some 9, none, .ldn 63 3 (.t 1)⟩,
          ⟨some 10, none, .call (.f 139) [.t 9]⟩,
          ⟨some 11, none, .not (.t 10)⟩])
    (.cond (.t 11)
      (.seq (.reg
           [⟨some 2, none, .mv (.k (.int .i64 1))⟩])
      (.ret))
      (.skip)))
  (.seq (.reg
       [⟨some 2, none, .mv (.k (.int .i64 0))⟩])
  (.ret)))))
def r27 : List RR := [.t 2]
theorem ok27 : okFn Go.Proofs.Tryz.prog 99 12 c27 r27 1 = true := by kernel_rfl

/- porism/porismref01.formed -/
def c67b0 : SCode :=
  .seq (.seq (.reg
         [⟨some 32, none, .mv (.t 3)⟩,
          ⟨some 33, none, .fad 63 2 2 (.t 1)⟩,
          ⟨some 34, none, .ld1 61 (.t 33)⟩,
          ⟨some 35, none, .len 61 (.t 34)⟩,
          ⟨some 36, none, .bin .lss (.t 32) (.t 35)⟩])
    (.cond (.t 36)
      (.skip)
      (.exit 0)))
  (.seq (.block 1 (.seq (.reg
           [⟨some 39, none, .fad 63 2 2 (.t 1)⟩,
            ⟨some 40, none, .ld1 61 (.t 39)⟩,
            ⟨some 41, none, .mv (.t 3)⟩,
            ⟨some 42, none, .iad 63 3 (.t 40) (.t 41)⟩,
            ⟨some 43, none, .ldn 63 3 (.t 42)⟩,
            ⟨some 44, none, .call (.f 139) [.t 43]⟩,
            ⟨some 45, none, .not (.t 44)⟩])
      (.cond (.t 45)
        (.seq (.reg
             [⟨some 2, none, .mv (.k (.bool false))⟩])
        (.ret))
        (.skip))))
  (.reg
     [⟨some 37, none, .mv (.t 3)⟩,
      ⟨some 38, none, .bin .add (.t 37) (.k (.int .i64 1))⟩,
      ⟨some 3, none, .mv (.t 38)⟩]))
def c67 : SCode :=
  .seq (.reg
       [⟨some 1, none, .box 63 (.t 0)⟩,
        ⟨some 2, none, .mv (.k (.bool false))⟩])
  (.seq (.seq (.dreg [0, 1, 3, 0, 8, 24, 63]
         [⟨some 4, none, .fad 63 2 2 (.t 1)⟩,
          ⟨some 5, none, .ld1 61 (.t 4)⟩,
          ⟨some 6, none, .len 61 (.t 5)⟩,
          ⟨some 7, none, .fad 63 0 0 (.t 1)⟩,
          ⟨some 8, none, .ld1 3 (.t 7)⟩,
          ⟨some 9, none, .call (.f 172) [.t 8]⟩,
          ⟨some 10, none, .bin .neq (.t 6) (.t 9)⟩])
    (.cond (.t 10)
      (.seq (.reg
           [⟨some 2, none, .mv (.k (.bool false))⟩])
      (.ret))
      (.skip)))
  (.seq (.seq (.reg
         [⟨some 11, none, .fad 63 2 2 (.t 1)⟩,
          ⟨some 12, none, .ld1 61 (.t 11)⟩,
          ⟨some 13, none, .len 61 (.t 12)⟩,
          ⟨some 14, none, .bin .eql (.t 13) (.k (.int .i64 0))⟩,
          ⟨some 15, none, .mv (.t 14)⟩,
          ⟨some 16, some (15, true), .fad 63 1 1 (.t 1)⟩,
          ⟨some 17, some (15, true), .ld1 3 (.t 16)⟩,
          ⟨some 18, some (15, true), .call (.f 173) [.t 17, .k (.int .i64 0), .k (.int .i64 65535)]⟩,
          ⟨some 19, some (15, true), .not (.t 18)⟩,
          ⟨some 20, none, .pick (.t 15) (.t 19) (.k (.bool false))⟩,
          ⟨some 21, none, .mv (.t 20)⟩,
          ⟨some 22, some (21, false), .fad 63 2 2 (.t 1)⟩,
          ⟨some 23, some (21, false), .ld1 61 (.t 22)⟩,
          ⟨some 24, some (21, false), .len 61 (.t 23)⟩,
          ⟨some 25, some (21, false), .bin .gtr (.t 24) (.k (.int .i64 0))⟩,
          ⟨some 26, some (21, false), .mv (.t 25)⟩,
          ⟨some 27, some (26, true), .fad 63 1 1 (.t 1)⟩,
          ⟨some 28, some (26, true), .ld1 3 (.t 27)⟩,
          ⟨some 29, some (26, true), .bin .neq (.t 28) (.k (.int .i64 0))⟩,
          ⟨some 30, some (21, false), .pick (.t 26) (.t 29) (.k (.bool false))⟩,
          ⟨some 31, none, .pick (.t 21) (.k (.bool true)) (.t 30)⟩])
    (.cond (.t 31)
      (.seq (.reg
           [⟨some 2, none, .mv (.k (.bool false))⟩])
      (.ret))
      (.skip)))
  (.seq (.seq (.reg
         [⟨some 3, none, .mv (.k (.int .i64 0))⟩])
    (.block 0 (.loop c67b0)))
  (.seq (.reg
       [⟨some 2, none, .mv (.k (.bool true))⟩])
  (.ret)))))
def r67 : List RR := [.t 2]
theorem ok67 : okFn Go.Proofs.Tryz.prog 139 46 c67 r67 1 = true := by kernel_rfl

/- porism/porismref01.in -/
def c101 : SCode :=
  .seq (.reg
       [⟨some 6, none, .mv (.k (.bool false))⟩])
  (.seq (.reg
       [⟨some 7, none, .mv (.t 0)⟩,
        ⟨some 8, none, .mv (.t 1)⟩,
        ⟨some 9, none, .bin .geq (.t 7) (.t 8)⟩,
        ⟨some 10, none, .mv (.t 9)⟩,
        ⟨some 11, some (10, true), .mv (.t 0)⟩,
        ⟨some 12, some (10, true), .mv (.t 2)⟩,
        ⟨some 13, some (10, true), .bin .leq (.t 11) (.t 12)⟩,
        ⟨some 14, none, .pick (.t 10) (.t 13) (.k (.bool false))⟩,
        ⟨some 6, none, .mv (.t 14)⟩])
  (.ret))
def r101 : List RR := [.t 6]
theorem ok101 : okFn Go.Proofs.Tryz.prog 173 15 c101 r101 3 = true := by kernel_rfl

/- porism/porismref01.Kids -/
def c114 : SCode :=
  .seq (.reg
       [⟨some 2, none, .mv (.k (.int .i64 0))⟩])
  (.seq (.seq (.reg
         [⟨some 3, none, .mv (.t 0)⟩])
    (.block 0 (.seq (.seq (.reg
             [⟨some 5, none, .bin .eql (.t 3) (.k (.int .i64 1))⟩,
              ⟨some 4, none, .mv (.t 5)⟩])
        (.cond (.t 4)
          (.skip)
          (.seq (.reg
               [⟨some 6, none, .bin .eql (.t 3) (.k (.int .i64 2))⟩,
                ⟨some 4, none, .mv (.t 6)⟩])
          (.cond (.t 4)
            (.skip)
            (.reg
               [⟨some 7, none, .bin .eql (.t 3) (.k (.int .i64 3))⟩,
                ⟨some 4, none, .mv (.t 7)⟩])))))
      (.cond (.t 4)
        (.seq (.reg
             [⟨some 2, none, .mv (.k (.int .i64 0))⟩])
        (.ret))
        (.seq (.seq (.reg
               [⟨some 9, none, .bin .eql (.t 3) (.k (.int .i64 9))⟩,
                ⟨some 8, none, .mv (.t 9)⟩])
          (.cond (.t 8)
            (.skip)
            (.reg
               [⟨some 10, none, .bin .eql (.t 3) (.k (.int .i64 10))⟩,
                ⟨some 8, none, .mv (.t 10)⟩])))
        (.cond (.t 8)
          (.seq (.reg
               [⟨some 2, none, .mv (.k (.int .i64 1))⟩])
          (.ret))
          (.seq (.seq (.reg
                 [⟨some 12, none, .bin .eql (.t 3) (.k (.int .i64 4))⟩,
                  ⟨some 11, none, .mv (.t 12)⟩])
            (.cond (.t 11)
              (.skip)
              (.seq (.reg
                   [⟨some 13, none, .bin .eql (.t 3) (.k (.int .i64 5))⟩,
                    ⟨some 11, none, .mv (.t 13)⟩])
              (.cond (.t 11)
                (.skip)
                (.seq (.reg
                     [⟨some 14, none, .bin .eql (.t 3) (.k (.int .i64 6))⟩,
                      ⟨some 11, none, .mv (.t 14)⟩])
                (.cond (.t 11)
                  (.skip)
                  (.seq (.reg
                       [⟨some 15, none, .bin .eql (.t 3) (.k (.int .i64 7))⟩,
                        ⟨some 11, none, .mv (.t 15)⟩])
                  (.cond (.t 11)
                    (.skip)
                    (.reg
                       [⟨some 16, none, .bin .eql (.t 3) (.k (.int .i64 12))⟩,
                        ⟨some 11, none, .mv (.t 16)⟩])))))))))
          (.cond (.t 11)
            (.seq (.reg
                 [⟨some 2, none, .mv (.k (.int .i64 2))⟩])
            (.ret))
            (.seq (.seq (.reg
                   [⟨some 18, none, .bin .eql (.t 3) (.k (.int .i64 8))⟩,
                    ⟨some 17, none, .mv (.t 18)⟩])
              (.cond (.t 17)
                (.skip)
                (.seq (.reg
                     [⟨some 19, none, .bin .eql (.t 3) (.k (.int .i64 11))⟩,
                      ⟨some 17, none, .mv (.t 19)⟩])
                (.cond (.t 17)
                  (.skip)
                  (.reg
                     [⟨some 20, none, .bin .eql (.t 3) (.k (.int .i64 13))⟩,
                      ⟨some 17, none, .mv (.t 20)⟩])))))
            (.cond (.t 17)
              (.seq (.reg
                   [⟨some 2, none, .mv (.k (.int .i64 3))⟩])
              (.ret))
              (.skip)))))))))))
  (.seq (.reg
       [⟨some 2, none, .mv (.k (.int .i64 (-1)))⟩])
  (.ret)))
def r114 : List RR := [.t 2]
theorem ok114 : okFn Go.Proofs.Tryz.prog 172 21 c114 r114 1 = true := by kernel_rfl

end Go.Abs

namespace Go.Abs
open Go.Proofs

set_option maxHeartbeats 4000000 in
theorem fn114 (k : Int) : Fn Tryz.prog 172 [ib k] (ib (kidsOf k)) := by
  refine fn_of (base := 114000) ok114 rfl fun σ h0 hr => ?_
  have s0 := h0 0
  rw [slots0] at s0
  simp only [ib] at s0
  clear h0 hr
  unfold c114
  by_cases h1 : k = 1
  · subst h1; simp [s0, r114, ib, kidsOf]
  by_cases h2 : k = 2
  · subst h2; simp [s0, r114, ib, kidsOf]
  by_cases h3 : k = 3
  · subst h3; simp [s0, r114, ib, kidsOf]
  by_cases h9 : k = 9
  · subst h9; simp [s0, r114, ib, kidsOf]
  by_cases h10 : k = 10
  · subst h10; simp [s0, r114, ib, kidsOf]
  by_cases h8 : k = 8
  · subst h8; simp [s0, r114, ib, kidsOf]
  by_cases h11 : k = 11
  · subst h11; simp [s0, r114, ib, kidsOf]
  by_cases h13 : k = 13
  · subst h13; simp [s0, r114, ib, kidsOf]
  by_cases h4 : k = 4
  · subst h4; simp [s0, r114, ib, kidsOf]
  by_cases h5 : k = 5
  · subst h5; simp [s0, r114, ib, kidsOf]
  by_cases h6 : k = 6
  · subst h6; simp [s0, r114, ib, kidsOf]
  by_cases h7 : k = 7
  · subst h7; simp [s0, r114, ib, kidsOf]
  by_cases h12 : k = 12
  · subst h12; simp [s0, r114, ib, kidsOf]
  have hk : kidsOf k = -1 := by
    have : ¬ (1 ≤ k ∧ k ≤ 13) := by omega
    simp [kidsOf, h1, h2, h3, h9, h10, h8, h11, h13, this]
  simp [s0, h1, h2, h3, h9, h10, h8, h11, h13, h4, h5, h6, h7, h12, r114, ib, hk]

theorem fn101 (x a b : Int) : Fn Tryz.prog 173 [ib x, ib a, ib b] (bb (decide (a ≤ x) && decide (x ≤ b))) := by
  refine fn_of (base := 101000) ok101 rfl fun σ h0 hr => ?_
  have s0 := h0 0
  have s1 := h0 1
  have s2 := h0 2
  rw [slots0] at s0
  rw [slots1] at s1
  rw [slots2] at s2
  simp only [ib] at s0 s1 s2
  clear h0 hr
  unfold c101
  simp [s0, s1, s2, r101, bb]

theorem bad_iff {k n : Int} {len : Nat} : badHead k n len = true ↔ ¬ ((len : Int) = kidsOf k ∧ 0 ≤ n ∧ n ≤ 65535 ∧ (0 < len → n = 0)) := by
  simp only [badHead, Bool.or_eq_true, Bool.and_eq_true, decide_eq_true_eq, Bool.not_eq_true', decide_eq_false_iff_not]
  omega

theorem fn67 (t : T) : Fn Tryz.prog 139 [tm t] (bb t.formed) := by
  induction t using T.ind with
  | h k n ts ih =>
  refine fn_of (base := 67000) ok67 rfl fun σ h0 hr => ?_
  have s0 := h0 0
  rw [slots0] at s0
  have hlen := real_kids (hr (tm (.mk k n ts)) (by simp))
  rw [kids_mk] at hlen
  simp only [tm, cells_mk] at s0
  clear h0 hr
  unfold c67
  by_cases hk : (ts.length : Int) = kidsOf k
  case neg =>
    have hb : badHead k n ts.length = true := bad_iff.2 fun h => hk h.1
    simp [s0]
    refine W_dregA ?_
    simp
    refine CallA.fn (fn114 k) (by simp [ib]) (by simp) rfl ?_
    simp [ib]
    refine realC_n ?_
    simp [hk, r67, bb, T.formed, hb]
  case pos =>
    have c114 := fn114 k
    rw [← hk] at c114
    simp [s0]
    refine W_dregA ?_
    simp
    refine CallA.fn c114 (by simp [ib]) (by simp) rfl ?_
    simp [ib]
    refine realC_n ?_
    simp
    refine GCall.fn (fun _ => fn101 n 0 65535) (by simp [ib]) (by simp) rfl fun _ => ?_
    simp [bb, r67]
    constructor
    · intro hb
      have hb' : badHead k n ts.length = true := bad_iff.2 fun h => by
        rcases hb with ⟨h1, h2⟩ | ⟨h1, h2⟩
        · have := h.2.1; have := h.2.2.1; omega
        · exact h2 (h.2.2.2 h1)
      simp [T.formed, hb']
    · intro hb1 hb2
      have hb' : badHead k n ts.length = false := by
        cases h : badHead k n ts.length with
        | false => rfl
        | true =>
          exfalso
          refine bad_iff.1 h ⟨hk, ?_⟩
          by_cases h0 : ts = []
          · have := hb1 h0
            subst h0
            exact ⟨by omega, by omega, fun h => by simp at h⟩
          · have := hb2 (List.length_pos_iff.2 h0)
            exact ⟨by omega, by omega, fun _ => this⟩
      refine W_loop (fun m σ => ∃ i : Nat, i + m = ts.length ∧ T.formedL (ts.drop i) = T.formedL ts ∧ σ.sl 1 = .c (.ref 67001 (σ.tg 67001) 0) ∧ σ.ob 67001 = some (.box 63 (T.mk k n ts).cells) ∧ σ.sl 3 = .c (.v (.int .i64 i))) ts.length ?_ ?_
      · exact ⟨0, by simp [cells_mk]⟩
      · rintro m σ ⟨i, hm, hp, q1, qo, q3⟩
        unfold c67b0
        simp only [cells_mk] at qo
        by_cases hi : i < ts.length
        · obtain ⟨t, ht⟩ := at_of hi
          obtain ⟨_, ht'⟩ := getE ht
          have w1 := wrap_succ (i := i) (by omega)
          rw [drop_at ht, T.formedL] at hp
          simp [q1, qo, q3, hi, ht']
          refine ECall.fn (ih t (List.mem_of_getElem? ht)) (by simp [tm]) (by simp) rfl fun _ => ?_
          simp [bb]
          constructor
          · intro hd
            simp [T.formed, hb', ← hp, hd]
          · intro hd
            rw [hd, Bool.true_and] at hp
            simp [q3]
            refine ⟨m - 1, by omega, i + 1, by omega, hp, ?_⟩
            simp [q1, qo, cells_mk, w1]
        · simp [q1, qo, q3, hi, T.formed, hb']
          rw [← hp, List.drop_eq_nil_of_le (by omega), T.formedL]

theorem fn27 (t : T) : Fn Tryz.prog 99 [tm t] (ib t.check) := by
  refine fn_of (base := 27000) ok27 rfl fun σ h0 hr => ?_
  have s0 := h0 0
  rw [slots0] at s0
  simp only [tm] at s0
  clear h0 hr
  unfold c27
  simp [s0]
  refine ECall.fn (fn28 t) (by simp [tm]) (by simp) rfl fun _ => ?_
  simp [ib]
  refine ⟨fun h1 => by simp [r27, h1, T.check], fun h1 => ?_⟩
  simp [show ¬ 6000 < t.size by omega]
  refine ECall.fn (fn29 t) (by simp [tm]) (by simp) rfl fun _ => ?_
  simp [ib]
  refine ⟨fun h2 => by simp [r27, h2, T.check, show ¬ 6000 < t.size by omega], fun h2 => ?_⟩
  simp [show ¬ 200 < t.depth by omega]
  refine ECall.fn (fn67 t) (by simp [tm]) (by simp) rfl fun _ => ?_
  simp [bb]
  refine ⟨fun h3 => by simp [r27, h3, T.check, show ¬ 6000 < t.size by omega, show ¬ 200 < t.depth by omega], fun h3 => by simp [r27, h3, T.check, show ¬ 6000 < t.size by omega, show ¬ 200 < t.depth by omega]⟩
end Go.Abs

namespace Go.Abs
open Go.Proofs

abbrev uw (n : Int) : Int := IntKind.wrap .u64 n
theorem uw_pos (n : Int) : 0 ≤ uw n := by
  simp only [uw, IntKind.wrap, IntKind.bits, IntKind.signed, Bool.false_and]
  exact Int.emod_nonneg _ (by decide)
theorem umod (n : Int) {m : Int} (hm : 0 < m) (hm2 : m ≤ 1000) : 0 ≤ (uw n).tmod m ∧ (uw n).tmod m < m ∧ IntKind.wrap .i64 ((uw n).tmod m) = (uw n).tmod m := by
  have h1 := Int.tmod_nonneg m (uw_pos n)
  have h2 := Int.tmod_lt_of_pos (uw n) hm
  exact ⟨h1, h2, wrap_id (by omega) (by omega)⟩

end Go.Abs

namespace Go.Abs

/- porism/porismref01.Binds -/
def c51 : SCode :=
  .seq (.reg
       [⟨some 4, none, .mv (.k (.int .i64 0))⟩])
  (.seq (.seq (.reg
         [⟨some 5, none, .mv (.t 1)⟩,
          ⟨some 6, none, .bin .eql (.t 5) (.k (.int .i64 1))⟩,
          ⟨some 7, none, .mv (.t 6)⟩,
          ⟨some 8, some (7, true), .mv (.t 0)⟩,
          ⟨some 9, some (7, true), .bin .eql (.t 8) (.k (.int .i64 4))⟩,
          ⟨some 10, some (7, true), .mv (.t 9)⟩,
          ⟨some 11, some (10, false), .mv (.t 0)⟩,
          ⟨some 12, some (10, false), .bin .eql (.t 11) (.k (.int .i64 5))⟩,
          ⟨some 13, some (7, true), .pick (.t 10) (.k (.bool true)) (.t 12)⟩,
          ⟨some 14, some (7, true), .mv (.t 13)⟩,
          ⟨some 15, some (14, false), .mv (.t 0)⟩,
          ⟨some 16, some (14, false), .bin .eql (.t 15) (.k (.int .i64 7))⟩,
          ⟨some 17, some (7, true), .pick (.t 14) (.k (.bool true)) (.t 16)⟩,
          ⟨some 18, none, .pick (.t 7) (.t 17) (.k (.bool false))⟩])
    (.cond (.t 18)
      (.seq (.reg
           [⟨some 4, none, .mv (.k (.int .i64 1))⟩])
      (.ret))
      (.skip)))
  (.seq (.reg
       [⟨some 4, none, .mv (.k (.int .i64 0))⟩])
  (.ret)))
def r51 : List RR := [.t 4]
theorem ok51 : okFn Go.Proofs.Tryz.prog 140 19 c51 r51 2 = true := by kernel_rfl

end Go.Abs

namespace Go.Abs
open Go.Proofs

theorem may_ok {x : Int} (h0 : 0 ≤ x) (h1 : x ≤ 65535) : mayB x = true := by simp [mayB, h0, h1]
theorem shift_eq {t : T} (hc : t.count ≤ 1048576) {b fr : Int} (hb : 0 ≤ b) (hb2 : b ≤ 65535) (hfr : 0 ≤ fr) (hfr2 : fr ≤ 65535) :
    t.shift b fr = if t.check = 0 then (if t.ov b fr then (.zero, 6) else (t.mv b fr, 0)) else (.zero, t.check) := by
  by_cases h : t.check = 0
  · have hm := mapS_mv fr b hfr hfr2 hb hb2 t ((check_iff t).1 h).2.2 0 0 (by omega) (by omega)
    simp only [Int.add_zero] at hm
    simp only [T.shift, T.shiftM, h, may_ok hb hb2, may_ok hfr hfr2, hm]
    by_cases ho : t.ov b fr = true <;> simp [ho]
  · simp [T.shift, h]
theorem shift_ok {t : T} (hc : t.count ≤ 1048576) {b fr : Int} (hb : 0 ≤ b) (hb2 : b ≤ 65535) (hfr : 0 ≤ fr) (hfr2 : fr ≤ 65535) (h : (t.shift b fr).2 = 0) : t.check = 0 ∧ t.ov b fr = false ∧ (t.shift b fr).1 = t.mv b fr := by
  rw [shift_eq hc hb hb2 hfr hfr2] at h ⊢
  by_cases h1 : t.check = 0
  · by_cases h2 : t.ov b fr = true
    · simp [h1, h2] at h
    · simp only [h1, if_true, h2]; simp
  · simp only [h1, if_false] at h
theorem shift_bad {t : T} (hc : t.count ≤ 1048576) {b fr : Int} (hb : 0 ≤ b) (hb2 : b ≤ 65535) (hfr : 0 ≤ fr) (hfr2 : fr ≤ 65535) (h : t.check = 0) : (t.shift b fr).2 = 0 ∨ (t.shift b fr).2 = 6 := by
  rw [shift_eq hc hb hb2 hfr hfr2]
  by_cases h2 : t.ov b fr = true <;> simp [h, h2]
theorem shift_run {t : T} (hc : t.count ≤ 1048576) {b fr : Int} (hb : 0 ≤ b) (hb2 : b ≤ 65535) (hfr : 0 ≤ fr) (hfr2 : fr ≤ 65535) (h : t.check = 0) (ho : t.ov b fr = false) : t.shift b fr = (t.mv b fr, 0) := by
  rw [shift_eq hc hb hb2 hfr hfr2]
  simp [h, ho]
theorem mv_count' {t : T} (h : t.check = 0) (b c : Int) : (t.mv b c).count = t.count := mv_count t ((check_iff t).1 h).2.2 b c

end Go.Abs

namespace Go.Abs
open Go.Proofs

def lwO (n : Int) (tn : Nat) : Objs := [(54003, tn, .box 3 [.v (.int .i64 n)])]
theorem lwO_get {n : Int} {tn k t : Nat} {q : Obj} (h : (lwO n tn).lookup k = some (t, q)) : k = 54003 ∧ t = tn ∧ q = .box 3 [.v (.int .i64 n)] := by
  simp only [lwO, List.lookup_cons, List.lookup_nil] at h
  split at h
  · rename_i hk; cases h; exact ⟨by simpa using hk, rfl, rfl⟩
  · cases h
theorem lwO_kin (n n' : Int) (tn : Nat) : Kin (lwO n tn) (lwO n' tn) where
  there k t q h := by obtain ⟨rfl, rfl, rfl⟩ := lwO_get h; exact ⟨_, rfl⟩
  back k t q h := by obtain ⟨rfl, rfl, rfl⟩ := lwO_get h; exact ⟨_, rfl⟩
  data k t q h := by obtain ⟨rfl, rfl, rfl⟩ := lwO_get h; rfl

def lwV (m v d : Int) : T := .mk 1 (if IntKind.wrap .i64 (m + d) < v then IntKind.wrap .i64 (v - 1) else v) []

def T.lowM (t : T) (m : Int) : T := (t.mapS (S := Unit) (fun _ v d => lwV m v d) (fun _ _ _ => ()) () 0).1
def T.lower (t : T) (m : Int) : T × Bool := if t.check ≠ 0 then (.zero, false) else if mayB m = false then (.zero, false) else if 0 < t.cnt m 0 then (.zero, false) else (t.lowM m, true)

/-! ### plainly -/
mutual
def T.occ : T → Int → Nat
  | .mk k n ts, v => (if k = 1 ∧ n = v then 1 else 0) + T.occL k v 0 ts
def T.occL (k v : Int) : Int → List T → Nat
  | _, [] => 0
  | i, t :: ts => T.occ t (v + bindsOf k i) + T.occL k v (i + 1) ts
end
theorem occ_le (t : T) : ∀ v, t.occ v ≤ t.count := by
  induction t using T.ind with
  | h k n ts ih =>
  intro v
  have key : ∀ (ts : List T) (i : Int), (∀ t, t ∈ ts → ∀ v, t.occ v ≤ t.count) → T.occL k v i ts ≤ T.countL ts := by
    intro ts
    induction ts with
    | nil => intro i _; simp [T.occL, T.countL]
    | cons t ts ih2 =>
      intro i h
      have h1 := h t (by simp) (v + bindsOf k i)
      have h2 := ih2 (i + 1) fun u hu => h u (by simp [hu])
      simp only [T.occL, T.countL]; omega
  have := key ts 0 ih
  simp only [T.occ, T.count]
  split <;> omega
theorem cnt_occ (t : T) : ∀ b d : Int, 0 ≤ b → 0 ≤ d → b + d + t.count ≤ 4611686018427387 → t.cnt b d = (t.occ (b + d) : Nat) := by
  induction t using T.ind with
  | h k n ts ih =>
  intro b d hb hd hc
  simp only [T.count] at hc
  have w : IntKind.wrap .i64 (b + d) = b + d := wrap_id (by omega) (by omega)
  have key : ∀ (ts : List T) (i a : Int), (∀ t, t ∈ ts → ∀ b d : Int, 0 ≤ b → 0 ≤ d → b + d + t.count ≤ 4611686018427387 → t.cnt b d = (t.occ (b + d) : Nat)) → 0 ≤ a → a + T.countL ts ≤ 4611686018427388 → b + d + 1 + T.countL ts ≤ 4611686018427387 →
      T.cntL k b d i a ts = a + (T.occL k (b + d) i ts : Nat) := by
    intro ts
    induction ts with
    | nil => intro i a _ _ _ _; simp [T.cntL, T.occL]
    | cons t ts ih2 =>
      intro i a h ha hc2 hc
      simp only [T.countL] at hc hc2
      have hbd := binds01 k i
      have h1 := h t (by simp) b (d + bindsOf k i) hb (by omega) (by omega)
      have h2 := occ_le t (b + (d + bindsOf k i))
      have w1 : IntKind.wrap .i64 (a + (t.occ (b + (d + bindsOf k i)) : Nat)) = a + (t.occ (b + (d + bindsOf k i)) : Nat) := wrap_id (by omega) (by omega)
      simp only [T.cntL, wrap_dp (k := k) (i := i) hd (by omega), h1, w1]
      rw [ih2 (i + 1) _ (fun u hu => h u (by simp [hu])) (by omega) (by omega) (by omega)]
      have e : b + (d + bindsOf k i) = b + d + bindsOf k i := by omega
      rw [e]
      simp only [T.occL]; omega
  simp only [T.cnt, T.occ, w]
  by_cases h : k = 1 ∧ n = b + d
  · rw [if_pos h, if_pos h, key ts 0 1 ih (by omega) (by omega) (by omega)]; omega
  · rw [if_neg h, if_neg h, key ts 0 0 ih (by omega) (by omega) (by omega)]; omega
theorem occ_gap (t : T) : ∀ y c v : Int, c ≤ v → v < c + y → (t.mv y c).occ v = 0 := by
  induction t using T.ind with
  | h k n ts ih =>
  intro y c v h1 h2
  by_cases hk : k = 1
  · subst hk
    simp only [T.mv, if_true, T.occ, T.occL]
    split <;> simp <;> omega
  · have key : ∀ (ts : List T) (i : Int), (∀ t, t ∈ ts → ∀ y c v : Int, c ≤ v → v < c + y → (t.mv y c).occ v = 0) → T.occL k v i (T.mvL k y c i ts) = 0 := by
      intro ts
      induction ts with
      | nil => intro i _; simp [T.mvL, T.occL]
      | cons t ts ih2 =>
        intro i h
        simp only [T.mvL, T.occL]
        rw [h t (by simp) y _ _ (by omega) (by omega), ih2 (i + 1) fun u hu => h u (by simp [hu])]
    simp only [T.mv, hk, if_false, T.occ]
    rw [key ts 0 ih]
    simp
mutual
def T.lw : T → Int → T
  | .mk k n ts, c => if k = 1 then .mk 1 (if c < n then n - 1 else n) [] else .mk k n (T.lwL k c 0 ts)
def T.lwL (k c : Int) : Int → List T → List T
  | _, [] => []
  | i, t :: ts => T.lw t (c + bindsOf k i) :: T.lwL k c (i + 1) ts
end
theorem mapS_lw (m : Int) (hm : 0 ≤ m) (hm2 : m ≤ 65535) (t : T) : t.formed = true → ∀ d : Int, 0 ≤ d → d + t.count ≤ 4611686018427387 →
    (t.mapS (S := Unit) (fun _ v d => lwV m v d) (fun _ _ _ => ()) () d).1 = t.lw (m + d) := by
  induction t using T.ind with
  | h k n ts ih =>
  intro hf d h0 h1
  rw [T.formed, Bool.and_eq_true, formedL_all, List.all_eq_true] at hf
  by_cases hk : k = 1
  · subst hk
    have hh := hf.1
    simp [badHead, kidsOf] at hh
    have hn : 0 ≤ n ∧ n ≤ 65535 := by omega
    have w1 : IntKind.wrap .i64 (m + d) = m + d := wrap_id (by omega) (by omega)
    have w2 : IntKind.wrap .i64 (n - 1) = n - 1 := wrap_id (by omega) (by omega)
    simp only [T.mapS, if_true, lwV, w1, w2, T.lw]
  · have key : ∀ (ts : List T) (i : Int), (∀ t, t ∈ ts → ∀ d : Int, 0 ≤ d → d + t.count ≤ 4611686018427387 → (t.mapS (S := Unit) (fun _ v d => lwV m v d) (fun _ _ _ => ()) () d).1 = t.lw (m + d)) →
        d + 1 + T.countL ts ≤ 4611686018427387 → (T.mapSL (S := Unit) (fun _ v d => lwV m v d) (fun _ _ _ => ()) k d i ts ()).1 = T.lwL k (m + d) i ts := by
      intro ts
      induction ts with
      | nil => intro i _ _; simp [T.mapSL, T.lwL]
      | cons t ts ih2 =>
        intro i h hc
        simp only [T.countL] at hc
        have hbd := binds01 k i
        have ht := h t (by simp) (d + bindsOf k i) (by omega) (by omega)
        simp only [T.mapSL, wrap_dp (k := k) (i := i) h0 (by omega), ht, T.lwL]
        rw [ih2 (i + 1) (fun u hu => h u (by simp [hu])) (by omega)]
        have e : m + (d + bindsOf k i) = m + d + bindsOf k i := by omega
        rw [e]
    simp only [T.count] at h1
    simp only [T.mapS, hk, if_false, T.lw]
    rw [key ts 0 (fun t ht => ih t ht (hf.2 t ht)) (by omega)]
theorem lw_mv (t : T) : t.formed = true → ∀ c : Int, (t.mv 1 c).lw c = t := by
  induction t using T.ind with
  | h k n ts ih =>
  intro hf c
  rw [T.formed, Bool.and_eq_true, formedL_all, List.all_eq_true] at hf
  by_cases hk : k = 1
  · subst hk
    have hh := hf.1
    simp [badHead, kidsOf] at hh
    have hts : ts = [] := hh.1.1
    subst hts
    simp only [T.mv, T.lw, if_true]
    congr 1
    split <;> split <;> omega
  · have key : ∀ (ts : List T) (i : Int), (∀ t, t ∈ ts → ∀ c : Int, (t.mv 1 c).lw c = t) → T.lwL k c i (T.mvL k 1 c i ts) = ts := by
      intro ts
      induction ts with
      | nil => intro i _; simp [T.mvL, T.lwL]
      | cons t ts ih2 =>
        intro i h
        simp only [T.mvL, T.lwL]
        rw [h t (by simp), ih2 (i + 1) fun u hu => h u (by simp [hu])]
    simp only [T.mv, T.lw, hk, if_false]
    rw [key ts 0 fun t ht => ih t ht (hf.2 t ht)]
theorem lower_mv {t : T} (hc : t.count ≤ 1048576) (h : t.check = 0) {c : Int} (h0 : 0 ≤ c) (h1 : c ≤ 65535) (ho : t.ov 1 c = false) : (t.mv 1 c).lower c = (t, true) := by
  have hf := ((check_iff t).1 h).2.2
  have k1 := mv_check hc h (by omega) ho
  have hc1 := mv_count' h 1 c
  have hf2 := ((check_iff _).1 k1).2.2
  have h2 := cnt_occ (t.mv 1 c) c 0 h0 (by omega) (by omega)
  rw [Int.add_zero, occ_gap t 1 c c (by omega) (by omega)] at h2
  have h3 := mapS_lw c h0 h1 (t.mv 1 c) hf2 0 (by omega) (by omega)
  rw [Int.add_zero, lw_mv t hf] at h3
  simp [T.lower, k1, may_ok h0 h1, h2, T.lowM, h3]
end Go.Abs

namespace Go.Abs
open Go.Proofs

/-! In scope: no variable wraps. -/
mutual
def T.inS : T → Int → Int → Bool
  | .mk k n ts, a, b => if k = 1 then decide (n < a) else if k = 2 then decide (n ≤ 6) else if k = 3 then decide (n < b) else T.inSL k a b 0 ts
def T.inSL (k a b : Int) : Int → List T → Bool
  | _, [] => true
  | i, t :: ts => T.inS t (a + bindsOf k i) b && T.inSL k a b (i + 1) ts
end
theorem within_inS (t : T) : ∀ a b : Int, 0 ≤ a → a + t.count ≤ 4611686018427387 → t.within a b = t.inS a b := by
  induction t using T.ind with
  | h k n ts ih =>
  intro a b ha hc
  simp only [T.count] at hc
  have key : ∀ (ts : List T) (i : Int), (∀ t, t ∈ ts → ∀ a b : Int, 0 ≤ a → a + t.count ≤ 4611686018427387 → t.within a b = t.inS a b) → a + 1 + T.countL ts ≤ 4611686018427387 → T.withinL k a b i ts = T.inSL k a b i ts := by
    intro ts
    induction ts with
    | nil => intro i _ _; simp [T.withinL, T.inSL]
    | cons t ts ih2 =>
      intro i h hc
      simp only [T.countL] at hc
      have hbd := binds01 k i
      simp only [T.withinL, T.inSL, wrap_dp (k := k) (i := i) ha (by omega)]
      rw [ih2 (i + 1) (fun u hu => h u (by simp [hu])) (by omega), h t (by simp) _ b (by omega) (by omega)]
  simp only [T.within, T.inS]
  rw [key ts 0 ih (by omega)]

theorem scope_iff {t : T} (hc : t.count ≤ 1048576) {a b : Int} (ha : a ≤ 60000) : t.scope a b = true ↔ 0 ≤ a ∧ 0 ≤ b ∧ t.check = 0 ∧ t.inS a b = true := by
  simp only [T.scope, Bool.and_eq_true, decide_eq_true_eq]
  have hm : best2 false a 65536 = a := by simp only [best2]; simp; omega
  rw [hm]
  constructor
  · rintro ⟨⟨⟨h1, h2⟩, h3⟩, h4⟩
    rw [within_inS t a b h1 (by omega)] at h4
    exact ⟨h1, h2, h3, h4⟩
  · rintro ⟨h1, h2, h3, h4⟩
    rw [within_inS t a b h1 (by omega)]
    exact ⟨⟨⟨h1, h2⟩, h3⟩, h4⟩

theorem head_leaf {k n : Int} {ts : List T} (h : (!badHead k n ts.length) = true) (hk : k = 1 ∨ k = 2 ∨ k = 3) : ts = [] := by
  have : badHead k n ts.length = false := by simpa using h
  have h2 : ¬ badHead k n ts.length = true := by simp [this]
  rw [bad_iff] at h2
  have h3 : (ts.length : Int) = kidsOf k := by omega
  have h4 : kidsOf k = 0 := by rcases hk with rfl | rfl | rfl <;> rfl
  exact List.length_eq_zero_iff.1 (by omega)

theorem inS_ov (t : T) : t.formed = true → ∀ a b c y : Int, t.inS a b = true → a + t.count + y ≤ 65535 → t.ov y c = false := by
  induction t using T.ind with
  | h k n ts ih =>
  intro hf a b c y h hc
  simp only [T.count] at hc
  rw [T.formed, Bool.and_eq_true, formedL_all, List.all_eq_true] at hf
  by_cases hk : k = 1
  · subst hk
    simp only [T.inS, if_true, decide_eq_true_eq] at h
    simp only [T.ov, if_true, Bool.and_eq_false_iff, decide_eq_false_iff_not]
    omega
  · by_cases hl : k = 1 ∨ k = 2 ∨ k = 3
    · have := head_leaf hf.1 hl
      subst this
      simp [T.ov, hk, T.ovL]
    · have h2 : k ≠ 2 := fun h => hl (.inr (.inl h))
      have h3 : k ≠ 3 := fun h => hl (.inr (.inr h))
      simp only [T.inS, hk, h2, h3, if_false] at h
      have key : ∀ (ts : List T) (i : Int), (∀ t, t ∈ ts → ∀ a b c y : Int, t.inS a b = true → a + t.count + y ≤ 65535 → t.ov y c = false) → a + 1 + T.countL ts + y ≤ 65535 → T.inSL k a b i ts = true → T.ovL k y c i ts = false := by
        intro ts
        induction ts with
        | nil => intro i _ _ _; simp [T.ovL]
        | cons t ts ih2 =>
          intro i h hc hh
          simp only [T.countL] at hc
          have hbd := binds01 k i
          simp only [T.inSL, Bool.and_eq_true] at hh
          simp only [T.ovL, Bool.or_eq_false_iff]
          exact ⟨h t (by simp) _ b _ y hh.1 (by omega), ih2 (i + 1) (fun u hu => h u (by simp [hu])) (by omega) hh.2⟩
      simp only [T.ov, hk, if_false]
      exact key ts 0 (fun t ht => ih t ht (hf.2 t ht)) (by omega) h
theorem inS_mv (t : T) : ∀ a b c y : Int, 0 ≤ y → t.inS a b = true → (t.mv y c).inS (a + y) b = true := by
  induction t using T.ind with
  | h k n ts ih =>
  intro a b c y hy h
  by_cases hk : k = 1
  · subst hk
    simp only [T.inS, if_true, decide_eq_true_eq] at h
    simp only [T.mv, T.inS, if_true, decide_eq_true_eq]
    split <;> omega
  · simp only [T.mv, hk, if_false]
    simp only [T.inS, hk, if_false] at h ⊢
    by_cases h2 : k = 2
    · simpa [h2] using h
    · by_cases h3 : k = 3
      · simpa [h2, h3] using h
      · simp only [h2, h3, if_false] at h ⊢
        have key : ∀ (ts : List T) (i : Int), (∀ t, t ∈ ts → ∀ a b c y : Int, 0 ≤ y → t.inS a b = true → (t.mv y c).inS (a + y) b = true) → T.inSL k a b i ts = true → T.inSL k (a + y) b i (T.mvL k y c i ts) = true := by
          intro ts
          induction ts with
          | nil => intro i _ _; simp [T.mvL, T.inSL]
          | cons t ts ih2 =>
            intro i h hh
            simp only [T.inSL, Bool.and_eq_true] at hh
            simp only [T.mvL, T.inSL, Bool.and_eq_true]
            have h1 := h t (by simp) (a + bindsOf k i) b (c + bindsOf k i) y hy hh.1
            have e : a + bindsOf k i + y = a + y + bindsOf k i := by omega
            rw [e] at h1
            exact ⟨h1, ih2 (i + 1) (fun u hu => h u (by simp [hu])) hh.2⟩
        exact key ts 0 ih h
theorem inS_same (t : T) : t.formed = true → ∀ a b c y : Int, a ≤ c → t.inS a b = true → t.mv y c = t := by
  induction t using T.ind with
  | h k n ts ih =>
  intro hf a b c y hac h
  rw [T.formed, Bool.and_eq_true, formedL_all, List.all_eq_true] at hf
  by_cases hk : k = 1
  · subst hk
    have := head_leaf hf.1 (.inl rfl)
    subst this
    simp only [T.inS, if_true, decide_eq_true_eq] at h
    have : n < c := by omega
    simp [T.mv, this]
  · by_cases hl : k = 1 ∨ k = 2 ∨ k = 3
    · have := head_leaf hf.1 hl
      subst this
      simp [T.mv, hk, T.mvL]
    · have h2 : k ≠ 2 := fun h => hl (.inr (.inl h))
      have h3 : k ≠ 3 := fun h => hl (.inr (.inr h))
      simp only [T.inS, hk, h2, h3, if_false] at h
      have key : ∀ (ts : List T) (i : Int), (∀ t, t ∈ ts → ∀ a b c y : Int, a ≤ c → t.inS a b = true → t.mv y c = t) → T.inSL k a b i ts = true → T.mvL k y c i ts = ts := by
        intro ts
        induction ts with
        | nil => intro i _ _; simp [T.mvL]
        | cons t ts ih2 =>
          intro i h hh
          simp only [T.inSL, Bool.and_eq_true] at hh
          simp only [T.mvL]
          rw [h t (by simp) _ b _ y (by omega) hh.1, ih2 (i + 1) (fun u hu => h u (by simp [hu])) hh.2]
      simp only [T.mv, hk, if_false]
      rw [key ts 0 (fun t ht => ih t ht (hf.2 t ht)) h]

end Go.Abs

namespace Go.Abs

/- porism/term.Consts -/
def c60 : SCode :=
  .seq (.reg
       [⟨some 1, none, .box 63 (.t 0)⟩,
        ⟨some 2, none, .mv (.nil 1 8)⟩])
  (.seq (.reg
       [⟨some 4, none, .mkmap true⟩,
        ⟨some 3, none, .mv (.t 4)⟩])
  (.seq (.reg
       [⟨some 5, none, .ldn 63 3 (.t 1)⟩,
        ⟨some 6, none, .mv (.t 3)⟩,
        ⟨some 7, none, .call (.f 95) [.t 5, .t 6]⟩])
  (.seq (.reg
       [⟨some 8, none, .mv (.t 3)⟩,
        ⟨some 9, none, .call (.f 43) [.t 8]⟩,
        ⟨some 10, none, .call (.f 42) [.t 9]⟩,
        ⟨some 2, none, .mv (.t 10)⟩])
  (.ret))))
def r60 : List RR := [.t 2]
theorem ok60 : okFn Go.Proofs.Tryz.prog 61 11 c60 r60 1 = true := by kernel_rfl

/- porism/term.consts -/
def c107b0 : SCode :=
  .seq (.reg
       [⟨some 16, none, .bin .lss (.t 15) (.t 14)⟩])
  (.seq (.cond (.t 16)
      (.skip)
      (.exit 0))
  (.seq (.block 1 (.seq (.reg
           [⟨some 17, none, .iad 63 3 (.t 13) (.t 15)⟩,
            ⟨some 18, none, .ldn 63 3 (.t 17)⟩,
            ⟨some 5, none, .alloc 63 [.v (.int .i64 0), .v (.int .i64 0), .cap 3 40 []]⟩,
            ⟨none, none, .stn 63 3 (.t 5) (.t 18)⟩])
      (.reg
         [⟨some 19, none, .ldn 63 3 (.t 5)⟩,
          ⟨some 20, none, .mv (.t 1)⟩,
          ⟨some 21, none, .call (.f 95) [.t 19, .t 20]⟩])))
  (.reg
     [⟨some 22, none, .bin .add (.t 15) (.k (.int .i64 1))⟩,
      ⟨some 15, none, .mv (.t 22)⟩])))
def c107 : SCode :=
  .seq (.reg
       [⟨some 2, none, .box 63 (.t 0)⟩])
  (.seq (.seq (.reg
         [⟨some 6, none, .fad 63 0 0 (.t 2)⟩,
          ⟨some 7, none, .ld1 3 (.t 6)⟩,
          ⟨some 8, none, .bin .eql (.t 7) (.k (.int .i64 3))⟩])
    (.cond (.t 8)
      (.reg
         [⟨some 9, none, .mv (.t 1)⟩,
          ⟨some 10, none, .fad 63 1 1 (.t 2)⟩,
          ⟨some 11, none, .ld1 3 (.t 10)⟩,
          ⟨none, none, .mset true (.t 9) (.t 11) (.k (.bool true))⟩])
      (.skip)))
  (.seq (.reg
       [⟨some 12, none, .fad 63 2 2 (.t 2)⟩,
        ⟨some 13, none, .ld1 61 (.t 12)⟩,
        ⟨some 14, none, .len 61 (.t 13)⟩,
        ⟨some 15, none, .mv (.k (.int .i64 0))⟩])
  (.block 0 (.loop c107b0))))
def r107 : List RR := []
theorem ok107 : okFn Go.Proofs.Tryz.prog 95 23 c107 r107 2 = true := by kernel_rfl

/- maps.Keys[map[int]bool,int,bool] -/
def c109 : SCode :=
  .seq (.reg
       [⟨some 1, none, .box 76 (.t 0)⟩,
        ⟨some 2, none, .mv (.k (.nilFunc))⟩])
  (.seq (.reg
       [⟨some 3, none, .mkfn 64 [] [.t 1]⟩,
        ⟨some 2, none, .mv (.t 3)⟩])
  (.ret))
def r109 : List RR := [.t 2]
theorem ok109 : okFn Go.Proofs.Tryz.prog 43 4 c109 r109 1 = true := by kernel_rfl

end Go.Abs

namespace Go.Abs
open Go.Proofs

/-! ### the constants of a term, noted in a map -/
def addK (ks : List Int) (n : Int) : List Int := if n ∈ ks then ks else ks ++ [n]
def encK (ks : List Int) : List (Int × List Cell) := ks.map fun n => (n, [.v (.bool true)])
theorem mset_encK (ks : List Int) (n : Int) : msetL (encK ks) n [.v (.bool true)] = encK (addK ks n) := by
  unfold msetL
  cases hf : (encK ks).findIdx? (fun p => p.1 == n) with
  | none =>
    have h : n ∉ ks := fun h => by
      have := List.findIdx?_eq_none_iff.1 hf (n, [.v (.bool true)]) (List.mem_map.2 ⟨n, h, rfl⟩)
      simp at this
    simp [addK, h, encK]
  | some j =>
    obtain ⟨hj, hm, _⟩ := List.findIdx?_eq_some_iff_getElem.1 hf
    have hj2 : j < ks.length := by simpa [encK] using hj
    have e1 : (encK ks)[j] = (ks[j], [.v (.bool true)]) := by simp [encK]
    rw [e1] at hm
    have hm : ks[j] = n := by simpa using hm
    have h : n ∈ ks := by rw [← hm]; exact List.getElem_mem hj2
    simp only [addK, h, if_true]
    apply List.ext_getElem?
    intro i
    rw [List.getElem?_set]
    split
    · rename_i hi; subst hi
      rw [List.getElem?_eq_getElem hj, e1, hm]
    · rfl
mutual
def T.cons : T → List Int → List Int
  | .mk k n ts, ks => T.consL ts (if k = 3 then addK ks n else ks)
def T.consL : List T → List Int → List Int
  | [], ks => ks
  | t :: ts, ks => T.consL ts (T.cons t ks)
end

def mpO (k tg : Nat) (ks : List Int) : Objs := [(k, tg, .mob true (encK ks))]
theorem mpO_get {k tg k' t : Nat} {ks : List Int} {q : Obj} (h : (mpO k tg ks).lookup k' = some (t, q)) : k' = k ∧ t = tg ∧ q = .mob true (encK ks) := by
  simp only [mpO, List.lookup_cons, List.lookup_nil] at h
  split at h
  · rename_i hk; cases h; exact ⟨by simpa using hk, rfl, rfl⟩
  · cases h
theorem mpO_self (k tg : Nat) (ks : List Int) : (mpO k tg ks).lookup k = some (tg, .mob true (encK ks)) := by simp [mpO]
theorem mpO_kin (k tg : Nat) (ks ks' : List Int) : Kin (mpO k tg ks) (mpO k tg ks') where
  there k' t q h := by obtain ⟨rfl, rfl, rfl⟩ := mpO_get h; exact ⟨_, mpO_self _ _ _⟩
  back k' t q h := by obtain ⟨rfl, rfl, rfl⟩ := mpO_get h; exact ⟨_, mpO_self _ _ _⟩
  data k' t q h := by obtain ⟨rfl, rfl, rfl⟩ := mpO_get h; rfl

theorem sp107 (t : T) : ∀ (k tg : Nat) (ks : List Int), ¬ (107000 ≤ k ∧ k < 108000) → Spec Tryz.prog 95 [tm t, .c (.mp k tg)] (mpO k tg ks) (.tup []) (mpO k tg (t.cons ks)) := by
  induction t using T.ind with
  | h kd n ts ih =>
  intro k tg ks hk
  refine spec_of (base := 107000) ok107 rfl fun T0 hT hr => ?_
  have hlen := real_kids (hr (tm (.mk kd n ts)) (by simp))
  rw [kids_mk] at hlen
  have t1 := hT k tg _ (mpO_self _ _ _)
  clear hr hT
  generalize hσ : (⟨slotsOf [tm (.mk kd n ts), .c (.mp k tg)], obsOf (mpO k tg ks), T0⟩ : St) = σ
  have s0 : σ.sl 0 = tm (.mk kd n ts) := by rw [← hσ]; rfl
  have s1 : σ.sl 1 = .c (.mp k tg) := by rw [← hσ]; rfl
  have o1 : σ.ob k = some (.mob true (encK ks)) := by rw [← hσ]; simp [obsOf, mpO_self]
  have g1 : σ.tg k = tg := by rw [← hσ]; exact t1
  clear hσ
  simp only [tm, cells_mk] at s0
  have n2 : k ≠ 107002 := by omega
  have n5 : k ≠ 107005 := by omega
  have fin : ∀ (σ' : St), σ'.ob k = some (.mob true (encK ((T.mk kd n ts).cons ks))) → σ'.tg k = tg → EndOK (mpO k tg ks) r107 (.tup []) (mpO k tg ((T.mk kd n ts).cons ks)) σ' := fun σ' h1 h2 => by
    refine ⟨by simp [r107], by simp [r107], fun k' t q h => ?_⟩
    obtain ⟨rfl, rfl, rfl⟩ := mpO_get h
    exact ⟨h1, h2, _, mpO_self _ _ _⟩
  have loop : ∀ (ks0 : List Int) (σ : St), σ.sl 1 = .c (.mp k tg) → σ.ob k = some (.mob true (encK ks0)) → σ.tg k = tg → σ.sl 13 = .c (.sl 3 40 (ts.map T.cells)) → σ.sl 14 = .c (.v (.int .i64 ts.length)) → σ.sl 15 = .c (.v (.int .i64 0)) →
      T.consL ts ks0 = (T.mk kd n ts).cons ks → W Tryz.prog 107000 (.loop c107b0) σ (onBlock 0 (onEnd (mpO k tg ks) r107 (.tup []) (mpO k tg ((T.mk kd n ts).cons ks)))) := by
    intro ks0 σ q1 qo qg q13 q14 q15 hres
    refine W_loop (fun m σ => ∃ (i : Nat) (ks1 : List Int), i + m = ts.length ∧ T.consL (ts.drop i) ks1 = T.consL ts ks0 ∧ σ.sl 1 = .c (.mp k tg) ∧ σ.ob k = some (.mob true (encK ks1)) ∧ σ.tg k = tg ∧ σ.sl 13 = .c (.sl 3 40 (ts.map T.cells)) ∧ σ.sl 14 = .c (.v (.int .i64 ts.length)) ∧ σ.sl 15 = .c (.v (.int .i64 i))) ts.length ?_ ?_
    · exact ⟨0, ks0, by simp [q1, qo, qg, q13, q14, q15]⟩
    · rintro m σ ⟨i, ks1, hm, hp, q1, qo, qg, q13, q14, q15⟩
      unfold c107b0
      by_cases hi : i < ts.length
      · obtain ⟨t, ht⟩ := at_of hi
        obtain ⟨_, ht'⟩ := getE ht
        have w1 := wrap_succ (i := i) (by omega)
        rw [drop_at ht, T.consL] at hp
        simp [q1, qo, qg, q13, q14, q15, hi, ht']
        refine ECall.obj (rs := []) (args := [tm t, .c (.mp k tg)]) (by simpa [refs] using ih t (List.mem_of_getElem? ht) k tg ks1 hk) (by simp [tm]) (by simp) (by simp [AV.keys2]) ?_ (mpO_kin _ _ _ _) fun _ => ?_
        · intro k' t' q h
          obtain ⟨rfl, rfl, rfl⟩ := mpO_get h
          simp [n5, qo, qg]
        · simp [q15]
          refine ⟨m - 1, by omega, i + 1, by omega, _, hp, ?_⟩
          simp [q1, qg, q13, q14, w1, n5, puts_some (mpO_self k tg (t.cons ks1))]
      · rw [List.drop_eq_nil_of_le (by omega), T.consL] at hp
        simp [q1, qo, qg, q13, q14, q15, hi]
        refine fin _ ?_ ?_
        · simp [qo, hp, hres]
        · simp [qg]
  unfold c107
  by_cases h3 : kd = 3
  · subst h3
    simp [s0, s1, n2, n5, n2.symm, n5.symm, o1, g1, mset_encK]
    refine loop (addK ks n) _ (by simp [s1]) (by simp) (by simp [g1, n2]) (by simp) (by simp) (by simp) (by simp [T.cons])
  · simp [s0, s1, n2, n5, o1, g1, h3]
    refine loop ks _ (by simp [s1]) (by simp [o1, n2]) (by simp [g1, n2]) (by simp) (by simp) (by simp) (by simp [T.cons, h3])
end Go.Abs

namespace Go.Abs
open Go.Proofs Go.Shelf Go.RowKit Go.Maps Go.Sort

def keysA_ren : Go.Shelf.Ren := ⟨fun | 7 => 43 | 10 => 64 | n => n, fun | 23 => 76 | 26 => 3 | 3 => 4 | 28 => 79 | 0 => 0 | 27 => 78 | 33 => 75 | 4 => 4 | n => n, fun | n => n⟩
theorem keysA : Go.Proofs.SlLaysZI.n7 Tryz.prog keysA_ren := {
  mixed := by kernel_rfl,
  f7 := ⟨Tryz.f43.name, by decide, Tryz.func43.trans (congrArg some (by kernel_rfl))⟩,
  f10 := ⟨Tryz.f64.name, by decide, Tryz.func64.trans (congrArg some (by kernel_rfl))⟩,
  t0 := Tryz.underlying0,
  a0 := Tryz.isAgg0,
  z0 := Tryz.sizeOf0,
  v0 := Tryz.zeroValue0,
  t4 := Tryz.underlying4,
  a4 := Tryz.isAgg4,
  z4 := Tryz.sizeOf4,
  v4 := Tryz.zeroValue4,
  t23 := Tryz.underlying76,
  a23 := Tryz.isAgg76,
  z23 := Tryz.sizeOf76,
  v23 := Tryz.zeroValue76,
  t26 := Tryz.underlying3,
  a26 := Tryz.isAgg3,
  z26 := Tryz.sizeOf3,
  v26 := Tryz.zeroValue3,
  t27 := Tryz.underlying78,
  a27 := Tryz.isAgg78,
  z27 := Tryz.sizeOf78,
  v27 := Tryz.zeroValue78,
  t28 := Tryz.underlying79,
  a28 := Tryz.isAgg79,
  z28 := Tryz.sizeOf79,
  v28 := Tryz.zeroValue79,
  t33 := Tryz.underlying75,
  a33 := Tryz.isAgg75,
  z33 := Tryz.sizeOf75,
  v33 := Tryz.zeroValue75 }
def sortedA_ren : Go.Shelf.Ren := ⟨fun | 6 => 42 | 8 => 62 | 9 => 63 | 11 => 96 | 13 => 98 | 12 => 97 | 23 => 137 | 24 => 138 | 14 => 128 | 15 => 129 | 16 => 130 | 17 => 131 | 18 => 132 | 19 => 133 | 20 => 134 | 21 => 135 | 22 => 136 | 25 => 166 | 26 => 167 | 27 => 168 | 28 => 169 | 29 => 170 | 30 => 171 | 31 => 186 | n => n, fun | 26 => 3 | 28 => 79 | 24 => 24 | 0 => 0 | 3 => 3 | 37 => 23 | 48 => 156 | 50 => 158 | 4 => 4 | 40 => 150 | 39 => 149 | 45 => 59 | 5 => 5 | 9 => 9 | 51 => 175 | 55 => 179 | 57 => 191 | 58 => 165 | 33 => 75 | n => n, fun | n => n⟩
theorem sortedA : Go.Proofs.SlLaysZI.n6 Tryz.prog sortedA_ren := {
  mixed := by kernel_rfl,
  f6 := ⟨Tryz.f42.name, by decide, Tryz.func42.trans (congrArg some (by kernel_rfl))⟩,
  f8 := ⟨Tryz.f62.name, by decide, Tryz.func62.trans (congrArg some (by kernel_rfl))⟩,
  f11 := ⟨Tryz.f96.name, by decide, Tryz.func96.trans (congrArg some (by kernel_rfl))⟩,
  t0 := Tryz.underlying0,
  a0 := Tryz.isAgg0,
  z0 := Tryz.sizeOf0,
  v0 := Tryz.zeroValue0,
  t24 := Tryz.underlying24,
  a24 := Tryz.isAgg24,
  z24 := Tryz.sizeOf24,
  v24 := Tryz.zeroValue24,
  t26 := Tryz.underlying3,
  a26 := Tryz.isAgg3,
  z26 := Tryz.sizeOf3,
  v26 := Tryz.zeroValue3,
  t28 := Tryz.underlying79,
  a28 := Tryz.isAgg79,
  z28 := Tryz.sizeOf79,
  v28 := Tryz.zeroValue79,
  i26 := by kernel_rfl }
def sortA_ren : Go.Shelf.Ren := ⟨fun | 5 => 63 | 8 => 98 | 7 => 97 | 19 => 137 | 20 => 138 | 10 => 128 | 11 => 129 | 12 => 130 | 13 => 131 | 14 => 132 | 15 => 133 | 16 => 134 | 17 => 135 | 18 => 136 | 30 => 166 | 31 => 167 | 32 => 168 | 33 => 169 | 34 => 170 | 35 => 171 | 40 => 186 | n => n, fun | 23 => 24 | 25 => 3 | 3 => 3 | 32 => 23 | 22 => 24 | 0 => 0 | 44 => 156 | 46 => 158 | 4 => 4 | 36 => 150 | 35 => 149 | 41 => 59 | 5 => 5 | 9 => 9 | 53 => 175 | 57 => 179 | 63 => 191 | 64 => 165 | n => n, fun | n => n⟩
theorem sortA : Go.Proofs.SlLaysM.n5 Tryz.prog sortA_ren := {
  mixed := by kernel_rfl,
  f5 := ⟨Tryz.f63.name, by decide, Tryz.func63.trans (congrArg some (by kernel_rfl))⟩,
  f7 := ⟨Tryz.f97.name, by decide, Tryz.func97.trans (congrArg some (by kernel_rfl))⟩,
  f8 := Tryz.func98.trans (congrArg some (by kernel_rfl)),
  f10 := ⟨Tryz.f128.name, by decide, Tryz.func128.trans (congrArg some (by kernel_rfl))⟩,
  f11 := ⟨Tryz.f129.name, by decide, Tryz.func129.trans (congrArg some (by kernel_rfl))⟩,
  f12 := ⟨Tryz.f130.name, by decide, Tryz.func130.trans (congrArg some (by kernel_rfl))⟩,
  f13 := ⟨Tryz.f131.name, by decide, Tryz.func131.trans (congrArg some (by kernel_rfl))⟩,
  f14 := ⟨Tryz.f132.name, by decide, Tryz.func132.trans (congrArg some (by kernel_rfl))⟩,
  f15 := ⟨Tryz.f133.name, by decide, Tryz.func133.trans (congrArg some (by kernel_rfl))⟩,
  f16 := ⟨Tryz.f134.name, by decide, Tryz.func134.trans (congrArg some (by kernel_rfl))⟩,
  f17 := ⟨Tryz.f135.name, by decide, Tryz.func135.trans (congrArg some (by kernel_rfl))⟩,
  f18 := ⟨Tryz.f136.name, by decide, Tryz.func136.trans (congrArg some (by kernel_rfl))⟩,
  f19 := Tryz.func137.trans (congrArg some (by kernel_rfl)),
  f20 := Tryz.func138.trans (congrArg some (by kernel_rfl)),
  f30 := ⟨Tryz.f166.name, by decide, Tryz.func166.trans (congrArg some (by kernel_rfl))⟩,
  f31 := Tryz.func167.trans (congrArg some (by kernel_rfl)),
  f32 := Tryz.func168.trans (congrArg some (by kernel_rfl)),
  f33 := ⟨Tryz.f169.name, by decide, Tryz.func169.trans (congrArg some (by kernel_rfl))⟩,
  f34 := ⟨Tryz.f170.name, by decide, Tryz.func170.trans (congrArg some (by kernel_rfl))⟩,
  f35 := ⟨Tryz.f171.name, by decide, Tryz.func171.trans (congrArg some (by kernel_rfl))⟩,
  f40 := ⟨Tryz.f186.name, by decide, Tryz.func186.trans (congrArg some (by kernel_rfl))⟩,
  t0 := Tryz.underlying0,
  a0 := Tryz.isAgg0,
  z0 := Tryz.sizeOf0,
  v0 := Tryz.zeroValue0,
  t3 := Tryz.underlying3,
  a3 := Tryz.isAgg3,
  z3 := Tryz.sizeOf3,
  v3 := Tryz.zeroValue3,
  t4 := Tryz.underlying4,
  a4 := Tryz.isAgg4,
  z4 := Tryz.sizeOf4,
  v4 := Tryz.zeroValue4,
  t5 := Tryz.underlying5,
  a5 := Tryz.isAgg5,
  z5 := Tryz.sizeOf5,
  v5 := Tryz.zeroValue5,
  t9 := Tryz.underlying9,
  a9 := Tryz.isAgg9,
  z9 := Tryz.sizeOf9,
  v9 := Tryz.zeroValue9,
  t22 := Tryz.underlying24,
  a22 := Tryz.isAgg24,
  z22 := Tryz.sizeOf24,
  v22 := Tryz.zeroValue24,
  t23 := Tryz.underlying24,
  a23 := Tryz.isAgg24,
  z23 := Tryz.sizeOf24,
  v23 := Tryz.zeroValue24,
  t25 := Tryz.underlying3,
  a25 := Tryz.isAgg3,
  z25 := Tryz.sizeOf3,
  v25 := Tryz.zeroValue3,
  t32 := Tryz.underlying23,
  a32 := Tryz.isAgg23,
  z32 := Tryz.sizeOf23,
  v32 := Tryz.zeroValue23,
  t35 := Tryz.underlying149,
  a35 := Tryz.isAgg149,
  z35 := Tryz.sizeOf149,
  v35 := Tryz.zeroValue149,
  t36 := Tryz.underlying150,
  a36 := Tryz.isAgg150,
  z36 := Tryz.sizeOf150,
  v36 := Tryz.zeroValue150,
  t41 := Tryz.underlying59,
  a41 := Tryz.isAgg59,
  z41 := Tryz.sizeOf59,
  v41 := Tryz.zeroValue59,
  t44 := Tryz.underlying156,
  a44 := Tryz.isAgg156,
  z44 := Tryz.sizeOf156,
  v44 := Tryz.zeroValue156,
  t46 := Tryz.underlying158,
  a46 := Tryz.isAgg158,
  z46 := Tryz.sizeOf158,
  v46 := Tryz.zeroValue158,
  t53 := Tryz.underlying175,
  a53 := Tryz.isAgg175,
  z53 := Tryz.sizeOf175,
  v53 := Tryz.zeroValue175,
  t57 := Tryz.underlying179,
  a57 := Tryz.isAgg179,
  z57 := Tryz.sizeOf179,
  v57 := Tryz.zeroValue179,
  t63 := Tryz.underlying191,
  a63 := Tryz.isAgg191,
  z63 := Tryz.sizeOf191,
  v63 := Tryz.zeroValue191,
  t64 := Tryz.underlying165,
  a64 := Tryz.isAgg165,
  z64 := Tryz.sizeOf165,
  v64 := Tryz.zeroValue165 }

theorem sortsA (m : Nat) : AnyZI.SortsIn Tryz.prog sortedA_ren Fence.wide m :=
  ⟨fun blk off cap ss W hH hblk hsz => callsIn_wide.2 (AnyM.slices_Sort_int sortA blk off cap ss W hH hblk hsz),
   fun p cap W => callsIn_wide.2 (AnyM.slices_Sort_int_none sortA p cap W)⟩

/-- maps.Keys at a map: a function value over one new block that holds the map. -/
theorem keys_call (mb : Option Nat) (W : World) : Calls Tryz.prog 43 #[.map mb] W fun e w' => e = .returned (.func (.func 64) #[] #[.pointer (some ⟨W.heap.size, 0, none⟩)]) ∧ w' = W.alloc (.cells #[.map mb] 76) := by
  have h : CallsIn Fence.wide 5 Tryz.prog 43 #[.map mb] W fun e w' => e = .returned (.func (.func 64) #[] #[.pointer (some ⟨W.heap.size, 0, none⟩)]) ∧ w' = W.alloc (.cells #[.map mb] 76) := AnyZI.keys_in keysA Fence.wide 5 trivial rfl mb W
  exact callsIn_wide.1 h

/-- slices.Sorted at what maps.Keys hands back: a new slice that holds the keys, sorted. -/
theorem sorted_call {H : Type} (B b nn : Nat) (D0 : DataW H) (R : Value → Option (DataW H × List MemPlace)) (w : World) (hB : B < w.heap.size) (hm : w.cell? ⟨B, 0, none⟩ = some (.map (some b))) (hown : w.ownsMap Tryz.prog 3 R b nn D0) (hmax : Maps.size D0 ≤ maxLen) (hbytes : Maps.size D0 * 8 ≤ 140737488355328) :
    Calls Tryz.prog 42 #[.func (.func 64) #[] #[.pointer (some ⟨B, 0, none⟩)]] w fun e w' => ∃ (v : Value) (ss : List Int), e = .returned v ∧ ss.Perm (intKeys D0) ∧
      w'.ownsRow w.heap.size 3 1 v ss.length ((ss.mergeSort (fun x y => decide (x ≤ y))).map encZ) ∧ (v = .slice none 0 0 ↔ ss = []) ∧ Below w.heap.size w w' := by
  have hseq : SeqGives Fence.wide 2 Tryz.prog 64 #[.pointer (some ⟨B, 0, none⟩)] encZ (fun ss => ss.Perm (intKeys D0)) (Maps.size D0) w :=
    AnyZI.keys_gives (ρ := keysA_ren) { keysA with } Fence.wide _ trivial rfl (by omega) B b nn D0 _ hB hm hown
  have cS := AnyZI.sorted_in sortedA Fence.wide 5 trivial trivial trivial trivial rfl (by omega) (sortsA _) (enters_of Tryz.func63 (by kernel_rfl) rfl) 64 #[.pointer (some ⟨B, 0, none⟩)] trivial (enters_of Tryz.func64 (by kernel_rfl) rfl) _ _ hmax hbytes _ hseq
  change CallsIn _ _ Tryz.prog 42 _ _ _ at cS
  exact callsIn_wide.1 cS
end Go.Abs

namespace Go.Abs
open Go.Proofs Go.Shelf Go.RowKit Go.Maps Go.Sort

def okI (n : Int) : Prop := -9223372036854775808 ≤ n ∧ n < 9223372036854775808
theorem okI_wf {n : Int} (h : okI n) : (Lit.int .i64 n).wf = true := by
  obtain ⟨h1, h2⟩ := h
  simp [Lit.wf, IntKind.min, IntKind.max, IntKind.bits, IntKind.signed]
  omega
theorem keyOf_int {n : Int} (h : okI n) : keyOf Tryz.prog 3 (.int .i64 n) = some (.int .i64 n) := by
  have u : Tryz.prog.underlying 3 = some (.int .i64) := Tryz.underlying3
  simp [keyOf, u, mapKey, okI_wf h]

def sortI (ks : List Int) : List Int := ks.mergeSort fun x y => decide (x ≤ y)
def isL (ks : List Int) : List (List Cell) := ks.map fun n => [.v (.int .i64 n)]

theorem enters109 : EntersF Tryz.prog 43 := fun args w => (enters_of Tryz.func43 (by kernel_rfl) rfl) args w
theorem enters108 : EntersF Tryz.prog 42 := fun args w => (enters_of Tryz.func42 (by kernel_rfl) rfl) args w

theorem one_ins {k tg k' t : Nat} {q q' : Obj} (h : List.lookup k' [(k, tg, q)] = some (t, q')) : k' = k ∧ t = tg ∧ q' = q := by
  simp only [List.lookup_cons, List.lookup_nil] at h
  split at h
  · rename_i hk; cases h; exact ⟨by simpa using hk, rfl, rfl⟩
  · cases h

/-- maps.Keys: the iterator of a map. -/
theorem sp109 (k tg : Nat) (one : Bool) (es : List (Int × List Cell)) : Spec Tryz.prog 43 [.c (.mp k tg)] [(k, tg, .mob one es)] (.c (.itr 64 k tg)) [(k, tg, .mob one es)] := by
  refine ⟨enters109, fun g w vs hwok hargs hins => ?_⟩
  obtain ⟨hgk, hob⟩ := hins.ok k tg (.mob one es) (by simp)
  obtain ⟨v, hvs, hv⟩ := hargs.get 0 _ rfl
  have hsz : vs.size = 1 := by simpa using hargs.length.symm
  have hv2 : v = .map (some (g.blk k)) := (hv (by simp)).2.2 hgk.symm
  have hvs' : vs = #[.map (some (g.blk k))] := by
    apply Array.ext
    · simpa using hsz
    · intro i h1 h2
      have : i = 0 := by simp at h2; exact h2
      subst this
      have h3 : vs[0]? = some v := by simpa using hvs
      rw [Array.getElem?_eq_getElem h1] at h3
      simp at h3
      simp [h3, hv2]
  subst hvs'
  refine (keys_call (some (g.blk k)) w).mono ?_
  rintro e w' ⟨rfl, rfl⟩
  obtain ⟨arr, clock, f1, f2, f3, f4, f5, f6⟩ := hob
  have hlt : g.blk k < w.heap.size := (Array.getElem?_eq_some_iff.1 f1).1
  let g' : Gh := ⟨fun b x => g.st b x ∨ (b = w.heap.size ∧ x = 0), g.blk, g.rv, g.tg⟩
  have hkp : Kp g w g' (w.alloc (.cells #[.map (some (g.blk k))] 76)) := Kp_alloc _ hwok fun _ _ h => .inl h
  refine ⟨_, g', rfl,
    { res := fun _ => ⟨rfl, Nat.le_of_eq hgk.symm, fun _ => ⟨_, rfl, .inr ⟨rfl, rfl⟩, by simp [g']⟩⟩
      obs := ⟨fun k' t q h => ?_, fun k' k'' t t' q q' h h' _ _ _ => (one_ins h).1.trans (one_ins h').1.symm⟩
      kp := hkp
      wok := fun b x h => ?_
      os := rfl, tape := rfl, out := rfl, grow := by rw [size_alloc]; omega
      frame := fun b hb _ => ⟨heap_old _ hb, fun x => ⟨fun h => ?_, .inl⟩⟩
      loc := fun k' t q h ha => ?_
      box := fun _ _ _ _ _ => ⟨rfl, rfl⟩ }⟩
  · obtain ⟨rfl, rfl, rfl⟩ := one_ins h
    refine ⟨hgk, arr, clock, by rw [show g'.blk k' = g.blk k' from rfl, heap_old _ hlt]; exact f1, f2, f3, f4.imp fun p _ x hx => ⟨hx.1, MV.mono hkp hx.2⟩, f5, fun x hx => ?_⟩
    rcases hx with hx | ⟨hx, _⟩
    · exact f6 x hx
    · have : g.blk k' = w.heap.size := hx
      omega
  · rw [size_alloc]
    rcases h with h | ⟨h, _⟩
    · have := hwok b x h; omega
    · omega
  · rcases h with h | ⟨h, _⟩
    · exact h
    · omega
  · obtain ⟨rfl, rfl, rfl⟩ := one_ins h
    exact .inl ⟨k', t, .mob one es, by simp, trivial, rfl⟩

/-- slices.Sorted at a map's keys. -/
theorem sp108 (k tg : Nat) (one : Bool) (es : List (Int × List Cell)) (hes : ∀ p, p ∈ es → okI p.1) (hlen : es.length ≤ 1000000000) (kn tn : Nat) (hkn : kn ≠ k) :
    Spec Tryz.prog 42 [.c (.itr 64 k tg)] [(k, tg, .mob one es)] (.c (.own kn tn)) [(kn, tn, .row 3 1 8 (isL (sortI (es.map (·.1))))), (k, tg, .mob one es)] := by
  refine ⟨enters108, fun g w vs hwok hargs hins => ?_⟩
  obtain ⟨hgk, hob⟩ := hins.ok k tg (.mob one es) (by simp)
  obtain ⟨v, hvs, hv⟩ := hargs.get 0 _ rfl
  have hsz : vs.size = 1 := by simpa using hargs.length.symm
  obtain ⟨B, hv2, hst, hcell⟩ := (hv (by simp)).2.2 hgk.symm
  have hvs' : vs = #[.func (.func 64) #[] #[.pointer (some ⟨B, 0, none⟩)]] := by
    apply Array.ext
    · simpa using hsz
    · intro i h1 h2
      have : i = 0 := by simp at h2; exact h2
      subst this
      have h3 : vs[0]? = some v := by simpa using hvs
      rw [Array.getElem?_eq_getElem h1] at h3
      simp at h3
      simp [h3, hv2]
  subst hvs'
  have hBlt : B < w.heap.size := hwok B 0 hst
  obtain ⟨arr, clock, f1, f2, f3, f4, f5, f6⟩ := hob
  have f4 : All2 (ME g w one) es arr.toList := f4
  have hlt : g.blk k < w.heap.size := (Array.getElem?_eq_some_iff.1 f1).1
  have hl := f4.length
  let R : Value → Option (DataW Unit × List MemPlace) := fun _ => some (.nil, [])
  have hkey : ∀ (i : Nat) x, arr.toList[i]? = some x → ∃ p, es[i]? = some p ∧ x.key = .int .i64 p.1 := fun i x hx => by
    have hi : i < es.length := by rw [hl]; exact (List.getElem?_eq_some_iff.1 hx).1
    obtain ⟨y, e1, e2⟩ := f4.get i es[i] (List.getElem?_eq_getElem hi)
    rw [hx] at e1; cases e1
    exact ⟨es[i], List.getElem?_eq_getElem hi, e2.1⟩
  have hkeys : arr.toList.map (·.key) = es.map fun p => .int .i64 p.1 := by
    apply List.ext_getElem?
    intro i
    rw [List.getElem?_map, List.getElem?_map]
    cases hx : arr.toList[i]? with
    | none =>
      have : es[i]? = none := by rw [List.getElem?_eq_none_iff] at hx ⊢; omega
      simp [this]
    | some x =>
      obtain ⟨p, h1, h2⟩ := hkey i x hx
      simp [h1, h2]
  have hrd : ∀ (i : Nat) x, arr.toList[i]? = some x → ∃ p, es[i]? = some p ∧ Go.WideElems.rd Tryz.prog 3 R x = some (.int .i64 p.1, .nil) := fun i x hx => by
    obtain ⟨p, h1, h2⟩ := hkey i x hx
    refine ⟨p, h1, ?_⟩
    simp [Go.WideElems.rd, h2, keyOf_int (hes p (List.mem_of_getElem? h1)), R]
  have hfit : Go.WideElems.Fit Tryz.prog 3 R arr clock :=
    { size := by have : arr.size = es.length := by simpa using hl.symm
                 rw [this]; simp only [maxLen]; omega
      stamped := ⟨f2, f3, by
        rw [hkeys]
        have : (es.map fun p => Value.int .i64 p.1) = (es.map (·.1)).map (Value.int .i64) := by simp
        rw [this]
        exact List.Pairwise.map _ (fun a b hab h => hab (by cases h; rfl)) f5⟩
      reads := fun x hx => by
        obtain ⟨i, hi⟩ := List.getElem?_of_mem hx
        obtain ⟨p, _, h⟩ := hrd i x hi
        exact ⟨_, h⟩ }
  let E : List (Lit × DataW Unit) := arr.toList.map (Go.WideElems.rg Tryz.prog 3 R)
  have hE : E = es.map fun p => (.int .i64 p.1, .nil) := by
    apply List.ext_getElem?
    intro i
    simp only [E]
    rw [List.getElem?_map, List.getElem?_map]
    cases hx : arr.toList[i]? with
    | none =>
      have : es[i]? = none := by rw [List.getElem?_eq_none_iff] at hx ⊢; omega
      simp [this]
    | some x =>
      obtain ⟨p, h1, h2⟩ := hrd i x hx
      simp [h1, Go.WideElems.rg, h2]
  have hown : w.ownsMap Tryz.prog 3 R (g.blk k) arr.size (.map (E.foldr DataW.insert [])) := ⟨arr, clock, f1, hfit, Nat.le_refl _, rfl⟩
  have hperm := Go.WideShapes.sorted_perm E
  have hsize : Maps.size (DataW.map (E.foldr DataW.insert [])) = es.length := by
    rw [Maps.size_eq, hperm.length_eq, hE]; simp
  have hik : (intKeys (DataW.map (E.foldr DataW.insert []))).Perm (es.map (·.1)) := by
    show ((E.foldr DataW.insert []).map fun p => intOf p.1).Perm _
    refine (hperm.map _).trans ?_
    rw [hE, List.map_map]
    exact List.Perm.of_eq (List.map_congr_left fun p _ => rfl)
  refine (sorted_call (H := Unit) B (g.blk k) arr.size _ R w hBlt hcell hown (by rw [hsize]; simp only [maxLen]; omega) (by rw [hsize]; omega)).mono ?_
  rintro e w' ⟨v, ss, rfl, hp, hrow, hnil, hbel⟩
  have hss : ss.mergeSort (fun x y => decide (x ≤ y)) = sortI (es.map (·.1)) := mergeSort_of_perm_i (hp.trans hik)
  rw [hss] at hrow
  have hn : ss.length = (sortI (es.map (·.1))).length := by
    have := hrow.1
    simp at this
    omega
  have hn2 : (sortI (es.map (·.1))).length = es.length := by simp [sortI, (List.mergeSort_perm _ _).length_eq]
  have hK : Kp g w g w' := ⟨fun ad h => ⟨h, World.cell?_of_block (hbel.block _ (hwok _ _ h))⟩⟩
  -- the row's block
  obtain ⟨gb, hgb⟩ : ∃ gb : Nat, w.heap.size ≤ gb ∧ ((v = .slice none 0 0 ∧ ss.length = 0) ∨ ∃ cap cur, v = .slice (some ⟨gb, 0, none⟩) ss.length cap ∧ w'.heap[gb]? = some (.cells cur 3 (0, 0)) ∧ ss.length ≤ cap ∧ cur.size = cap ∧ cur.toList.take ss.length = (sortI (es.map (·.1))).map encZ) := by
    rcases hrow.2 with h | ⟨gb, cap, cur, h1, h2, h3, h4, h5, h6, h7⟩
    · exact ⟨w.heap.size, Nat.le_refl _, .inl h⟩
    · exact ⟨gb, h2, .inr ⟨cap, cur, h1, h3, h4, by omega, by simpa using h7⟩⟩
  obtain ⟨hge, hcase⟩ := hgb
  let N := ss.length
  let g' : Gh := ⟨fun b x => g.st b x ∨ (b = gb ∧ x < N ∧ N ≠ 0), fun q => if q = kn then gb else g.blk q, fun q => if q = kn then v else g.rv q, fun q => if q = kn then tn else g.tg q⟩
  have hKp : Kp g w g' w' := ⟨fun ad h => ⟨.inl h, (hK.keep ad h).2⟩⟩
  have hgkn : g'.rv kn = v ∧ g'.blk kn = gb ∧ g'.tg kn = tn := by simp [g']
  have hgo : ∀ q, q ≠ kn → g'.rv q = g.rv q ∧ g'.blk q = g.blk q ∧ g'.tg q = g.tg q := fun q hq => by simp [g', hq]
  have two : ∀ {k' t : Nat} {q : Obj}, List.lookup k' [(kn, tn, Obj.row 3 1 8 (isL (sortI (es.map (·.1))))), (k, tg, .mob one es)] = some (t, q) → (k' = kn ∧ t = tn ∧ q = .row 3 1 8 (isL (sortI (es.map (·.1))))) ∨ (k' = k ∧ t = tg ∧ q = .mob one es) := by
    intro k' t q h
    simp only [List.lookup_cons, List.lookup_nil] at h
    split at h
    · rename_i hk; cases h; exact .inl ⟨by simpa using hk, rfl, rfl⟩
    · split at h
      · rename_i hk; cases h; exact .inr ⟨by simpa using hk, rfl, rfl⟩
      · cases h
  have hvf : ∃ a c, v = .slice a N c := by
    rcases hcase with ⟨h1, h2⟩ | ⟨cap, cur, h1, _⟩
    · exact ⟨none, 0, by rw [h1]; simp [N, h2]⟩
    · exact ⟨_, _, h1⟩
  have hRD : RD g' w' (.sl 1 8 (isL (sortI (es.map (·.1))))) v := by
    have hll : (isL (sortI (es.map (·.1)))).length = N := by simp [isL, N, hn]
    rcases hcase with ⟨h1, h2⟩ | ⟨cap, cur, h1, h3, h4, h5, h6⟩
    · have : isL (sortI (es.map (·.1))) = [] := List.length_eq_zero_iff.1 (by rw [hll]; exact h2)
      rw [this, h1]
      exact .sl 1 8 [] none 0 (fun _ _ => undef) (Nat.le_refl _) (by simp [room]) (by simp) (by simp) (by simp)
    · rw [h1, show ss.length = N from rfl, ← hll]
      have hget : ∀ i l, (isL (sortI (es.map (·.1))))[i]? = some l → ∃ n, l = [.v (.int .i64 n)] ∧ i < N ∧ cur[i]? = some (.int .i64 n) := fun i l hi => by
        simp only [isL, List.getElem?_map] at hi
        cases hx : (sortI (es.map (·.1)))[i]? with
        | none => rw [hx] at hi; cases hi
        | some n =>
          rw [hx] at hi; cases hi
          have hiN : i < N := by
            have := (List.getElem?_eq_some_iff.1 hx).1
            simp only [N]; omega
          refine ⟨n, rfl, hiN, ?_⟩
          have h7 : (cur.toList.take ss.length)[i]? = some (encZ n) := by rw [h6, List.getElem?_map, hx]; rfl
          rw [List.getElem?_take_of_lt hiN] at h7
          simpa [encZ] using h7
      refine .sl 1 8 _ (some ⟨gb, 0, none⟩) cap (fun i _ => (cur[i]?).getD undef) (by rw [hll]; exact h4) (by rw [hll]; simp only [room, N]; omega) (fun l hl => ?_) (fun i j l d e1 e2 => ?_) (fun i j l d e1 e2 => ?_)
      · simp only [isL, List.mem_map] at hl
        obtain ⟨n, _, rfl⟩ := hl; rfl
      · obtain ⟨n, rfl, hi, hc⟩ := hget i l e1
        have hj : j = 0 := by have := (List.getElem?_eq_some_iff.1 e2).1; simp at this; exact this
        subst hj
        refine ⟨_, rfl, ?_, ?_⟩
        · rw [add_blk]
          refine .inr ⟨rfl, ?_, by omega⟩
          show 0 + (i * 1 + 0) < N
          omega
        · rw [add_blk, cell_blk h3]
          simp [hc]
      · obtain ⟨n, rfl, hi, hc⟩ := hget i l e1
        have hj : j = 0 := by have := (List.getElem?_eq_some_iff.1 e2).1; simp at this; exact this
        subst hj
        simp at e2; subst e2
        rw [hc]
        exact .v _ rfl
  refine ⟨v, g', rfl,
    { res := fun _ => ⟨?_, Nat.le_of_eq hgkn.2.2.symm, fun _ => ⟨hgkn.1.symm, ?_⟩⟩
      obs := ⟨fun k' t q h => ?_, fun k' k'' t t' q q' h h' ha ha' hb => ?_⟩
      kp := hKp
      wok := fun b x h => ?_
      os := hbel.os, tape := hbel.tape, out := hbel.output, grow := hbel.size
      frame := fun b hb _ => ⟨hbel.block b hb, fun x => ⟨fun h => ?_, .inl⟩⟩
      loc := fun k' t q h ha => ?_
      box := fun k' t _ ⟨q, h⟩ _ => ?_ }⟩
  · obtain ⟨a, c, h⟩ := hvf; rw [h]; rfl
  · obtain ⟨a, c, h⟩ := hvf; exact ⟨a, N, c, h⟩
  · rcases two h with ⟨rfl, rfl, rfl⟩ | ⟨rfl, rfl, rfl⟩
    · refine ⟨hgkn.2.2, by rw [hgkn.1]; exact hRD, fun a n c h1 h2 => ?_⟩
      rw [hgkn.1] at h1
      rcases hcase with ⟨h3, h4⟩ | ⟨cap, cur, h3, h4, h5, h6, h7⟩
      · rw [h3] at h1; cases h1; omega
      · rw [h3] at h1; cases h1
        refine ⟨by rw [hgkn.2.1], ⟨cur, by rw [hgkn.2.1]; exact h4, by omega⟩, fun x hx => ?_⟩
        rw [hgkn.2.1] at hx
        rcases hx with hx | hx
        · have := hwok _ _ hx; omega
        · have := hx.2.1; simp only [N] at this; omega
    · obtain ⟨e1, e2, e3⟩ := hgo k' (fun e => hkn e.symm)
      refine ⟨by rw [e3]; exact hgk, arr, clock, by rw [e2, hbel.block _ hlt]; exact f1, f2, f3, f4.imp fun p _ x hx => ⟨hx.1, MV.mono hKp hx.2⟩, f5, fun x hx => ?_⟩
      rw [e2] at hx
      rcases hx with hx | hx
      · exact f6 x hx
      · have := hx.1; omega
  · rcases two h with ⟨rfl, rfl, rfl⟩ | ⟨rfl, rfl, rfl⟩ <;> rcases two h' with ⟨rfl, rfl, rfl⟩ | ⟨rfl, rfl, rfl⟩
    · rfl
    · rw [hgkn.2.1, (hgo k'' (fun e => hkn e.symm)).2.1] at hb; omega
    · rw [hgkn.2.1, (hgo k' (fun e => hkn e.symm)).2.1] at hb; omega
    · rfl
  · rcases h with h | ⟨rfl, h1, h2⟩
    · exact Nat.lt_of_lt_of_le (hwok b x h) hbel.size
    · rcases hcase with ⟨h3, h4⟩ | ⟨cap, cur, h3, h4, _⟩
      · exact absurd h4 h2
      · exact (Array.getElem?_eq_some_iff.1 h4).1
  · rcases h with h | ⟨h, _⟩
    · exact h
    · omega
  · rcases two h with ⟨rfl, rfl, rfl⟩ | ⟨rfl, rfl, rfl⟩
    · rw [hgkn.2.1]; exact .inr hge
    · rw [(hgo k' (fun e => hkn e.symm)).2.1]
      exact .inl ⟨k', t, .mob one es, by simp, trivial, rfl⟩
  · obtain ⟨rfl, rfl, rfl⟩ := one_ins h
    exact ⟨(hgo k' (fun e => hkn e.symm)).2.1, (hgo k' (fun e => hkn e.symm)).1⟩
end Go.Abs

namespace Go.Abs
open Go.Proofs

theorem puts_same {σ : St} {k t : Nat} {q : Obj} (h : σ.ob k = some q) : σ.puts [(k, t, q)] = σ := by
  refine st_ext (fun s => rfl) (fun k' => ?_) fun k' => rfl
  simp only [St.puts]
  cases e : List.lookup k' [(k, t, q)] with
  | none => rfl
  | some x =>
    obtain ⟨t', q'⟩ := x
    obtain ⟨rfl, rfl, rfl⟩ := one_ins e
    exact h.symm
theorem ECall.keys {σ : St} {d k tg : Nat} {one : Bool} {es : List (Int × List Cell)} {K : St → Prop} (ho : σ.ob k = some (.mob one es)) (ht : σ.tg k = tg) (hK : K (σ.set d (.c (.itr 64 k tg)))) :
    ECall Tryz.prog σ (.c (.clo 43 [] [])) [.c (.mp k tg)] (some d) K := by
  refine ⟨43, [], [], [(k, tg, .mob one es)], [(k, tg, .mob one es)], .c (.itr 64 k tg), [], _, ?_, .inl rfl, fun _ => ?_⟩
  · exact
      { c0 := rfl, gf := trivial, gx := by simp
        cs := fun _ => by simpa [refs, toD2, toD1] using sp109 k tg one es
        ci := fun k' t q h => by obtain ⟨rfl, rfl, rfl⟩ := one_ins h; exact ⟨ho, ht, by simp⟩
        co := fun k' t q h => by obtain ⟨rfl, rfl, rfl⟩ := one_ins h; exact .inr ⟨by simp, ht.symm, _, h⟩
        cp := fun k h => by simp at h
        kres := fun k' h => by simp at h; subst h; simp
        kobs := fun k' t q h => by obtain ⟨rfl, rfl, rfl⟩ := one_ins h; intro k h; simp [Obj.keys] at h }
  · rw [ap_puts, puts_same ho]; exact hK
theorem ECall.sorted {σ : St} {d k tg : Nat} {one : Bool} {es : List (Int × List Cell)} {K : St → Prop} (kn : Nat) (ho : σ.ob k = some (.mob one es)) (ht : σ.tg k = tg) (hne : kn ≠ k) (hes : ∀ p, p ∈ es → okI p.1) (hlen : es.length ≤ 1000000000)
    (hK : K ((σ.new kn (.row 3 1 8 (isL (sortI (es.map (·.1)))))).set d (.c (.own kn (σ.tg kn + 1))))) :
    ECall Tryz.prog σ (.c (.clo 42 [] [])) [.c (.itr 64 k tg)] (some d) K := by
  have two : ∀ {k' t : Nat} {q : Obj}, List.lookup k' [(kn, σ.tg kn + 1, Obj.row 3 1 8 (isL (sortI (es.map (·.1))))), (k, tg, .mob one es)] = some (t, q) → (k' = kn ∧ t = σ.tg kn + 1 ∧ q = .row 3 1 8 (isL (sortI (es.map (·.1))))) ∨ (k' = k ∧ t = tg ∧ q = .mob one es) := by
    intro k' t q h
    simp only [List.lookup_cons, List.lookup_nil] at h
    split at h
    · rename_i hk; cases h; exact .inl ⟨by simpa using hk, rfl, rfl⟩
    · split at h
      · rename_i hk; cases h; exact .inr ⟨by simpa using hk, rfl, rfl⟩
      · cases h
  have hkb : (k == kn) = false := by simpa using fun h : k = kn => hne h.symm
  refine ⟨42, [], [], [(k, tg, .mob one es)], [(kn, σ.tg kn + 1, .row 3 1 8 (isL (sortI (es.map (·.1))))), (k, tg, .mob one es)], .c (.own kn (σ.tg kn + 1)), [kn], _, ?_, .inl rfl, fun _ => ?_⟩
  · exact
      { c0 := rfl, gf := trivial, gx := by simp
        cs := fun _ => by simpa [refs, toD2, toD1] using sp108 k tg one es hes hlen kn (σ.tg kn + 1) hne
        ci := fun k' t q h => by obtain ⟨rfl, rfl, rfl⟩ := one_ins h; exact ⟨ho, ht, by simp [List.lookup_cons, hkb]⟩
        co := fun k' t q h => by
          rcases two h with ⟨rfl, rfl, rfl⟩ | ⟨rfl, rfl, rfl⟩
          · exact .inl ⟨by simp, rfl⟩
          · exact .inr ⟨by simpa using fun h : k' = kn => hne h.symm, ht.symm, .mob one es, by simp⟩
        cp := fun k h => by simp at h; subst h; simp
        kres := fun k' h => by simp at h; subst h; simp
        kobs := fun k' t q h => by
          intro k2 hk2
          rcases two h with ⟨rfl, rfl, rfl⟩ | ⟨rfl, rfl, rfl⟩ <;> simp [Obj.keys] at hk2 }
  · have e : σ.ap (some d) ⟨.c (.own kn (σ.tg kn + 1)), [kn], objsOf [(kn, σ.tg kn + 1, .row 3 1 8 (isL (sortI (es.map (·.1))))), (k, tg, .mob one es)], [(k, tg, Obj.mob one es)].map (·.1)⟩ = (σ.new kn (.row 3 1 8 (isL (sortI (es.map (·.1)))))).set d (.c (.own kn (σ.tg kn + 1))) := by
      refine st_ext (fun s => rfl) (fun k' => ?_) fun k' => ?_
      · simp only [St.ap, obAfter, objsOf, List.map_cons, List.map_nil, List.lookup_cons, List.lookup_nil, set_ob, new_ob]
        by_cases h1 : k' = kn
        · simp [h1]
        · have h1' : (k' == kn) = false := by simpa using h1
          simp only [h1', h1, if_false]
          by_cases h2 : k' = k
          · subst h2; simp [ho]
          · have h2' : (k' == k) = false := by simpa using h2
            simp [h2', h1]
      · simp only [St.ap, set_tg, new_tg]
        by_cases h1 : k' = kn <;> simp [h1]
    rw [e]; exact hK

/-! ### term.Consts -/
theorem addK_len (ks : List Int) (n : Int) : (addK ks n).length ≤ ks.length + 1 := by simp only [addK]; split <;> simp
theorem addK_mem {ks : List Int} {n m : Int} : m ∈ addK ks n ↔ m ∈ ks ∨ m = n := by
  simp only [addK]; split
  · rename_i h; constructor
    · exact .inl
    · rintro (h2 | rfl)
      · exact h2
      · exact h
  · simp
theorem addK_nodup {ks : List Int} {n : Int} (h : ks.Nodup) : (addK ks n).Nodup := by
  simp only [addK]; split
  · exact h
  · rename_i hn
    rw [List.nodup_append]
    refine ⟨h, by simp, fun a ha b hb => ?_⟩
    simp at hb; subst hb
    exact fun e => hn (e ▸ ha)
theorem cons_facts (t : T) : ∀ ks : List Int, (t.cons ks).length ≤ ks.length + t.count ∧ (ks.Nodup → (t.cons ks).Nodup) ∧ (t.wf = true → (∀ n, n ∈ ks → okI n) → ∀ n, n ∈ t.cons ks → okI n) := by
  induction t using T.ind with
  | h k n ts ih =>
  intro ks
  have key : ∀ (ts : List T) (ks : List Int), (∀ t, t ∈ ts → ∀ ks : List Int, (t.cons ks).length ≤ ks.length + t.count ∧ (ks.Nodup → (t.cons ks).Nodup) ∧ (t.wf = true → (∀ n, n ∈ ks → okI n) → ∀ n, n ∈ t.cons ks → okI n)) →
      (T.consL ts ks).length ≤ ks.length + T.countL ts ∧ (ks.Nodup → (T.consL ts ks).Nodup) ∧ (T.wfL ts = true → (∀ n, n ∈ ks → okI n) → ∀ n, n ∈ T.consL ts ks → okI n) := by
    intro ts
    induction ts with
    | nil => intro ks _; simp [T.consL, T.countL]
    | cons t ts ih2 =>
      intro ks h
      obtain ⟨a1, a2, a3⟩ := h t (by simp) ks
      obtain ⟨b1, b2, b3⟩ := ih2 (t.cons ks) fun u hu => h u (by simp [hu])
      simp only [T.consL, T.countL, T.wfL, Bool.and_eq_true]
      exact ⟨by omega, fun h => b2 (a2 h), fun h h2 => b3 h.2 (a3 h.1 h2)⟩
  obtain ⟨b1, b2, b3⟩ := key ts (if k = 3 then addK ks n else ks) ih
  have hl := addK_len ks n
  simp only [T.cons, T.count, T.wf, Bool.and_eq_true, decide_eq_true_eq]
  refine ⟨?_, fun h => b2 ?_, fun h h2 => b3 h.2 ?_⟩
  · refine Nat.le_trans b1 ?_
    split <;> omega
  · split
    · exact addK_nodup h
    · exact h
  · intro m hm
    split at hm
    · rcases addK_mem.1 hm with hm | rfl
      · exact h2 m hm
      · exact h.1
    · exact h2 m hm
def T.consts (t : T) : List Int := sortI (t.cons [])
theorem encK_keys (ks : List Int) : (encK ks).map (·.1) = ks := by simp [encK, Function.comp_def]

theorem sp60 (t : T) (hc : t.count ≤ 1048576) (hw : t.wf = true) : SpecNew Tryz.prog 61 [tm t] (.c (.own 0 0)) (.row 3 1 8 (isL t.consts)) := by
  refine new_of (base := 60000) 60010 ok60 rfl rfl rfl fun σ h0 hr => ?_
  have s0 := h0 0
  rw [slots0] at s0
  simp only [tm] at s0
  clear h0 hr
  obtain ⟨f1, f2, f3⟩ := cons_facts t []
  unfold c60
  simp [s0]
  refine ECall.obj (rs := []) (args := [tm t, .c (.mp 60004 (σ.tg 60004 + 1))]) (by simpa [refs] using sp107 t 60004 (σ.tg 60004 + 1) [] (by omega)) (by simp [tm]) (by simp) (by simp [AV.keys2]) ?_ (mpO_kin _ _ _ _) fun _ => ?_
  · intro k' t' q h
    obtain ⟨rfl, rfl, rfl⟩ := mpO_get h
    simp [encK]
  · simp
    refine ECall.keys (k := 60004) (one := true) (es := encK (t.cons [])) (by simp [puts_some (mpO_self 60004 (σ.tg 60004 + 1) (t.cons []))]) (by simp) ?_
    simp
    refine ECall.sorted 60010 (k := 60004) (one := true) (es := encK (t.cons [])) (by simp [puts_some (mpO_self 60004 (σ.tg 60004 + 1) (t.cons []))]) (by simp) (by omega) ?_ ?_ ?_
    · intro p hp
      obtain ⟨n, hn, rfl⟩ := List.mem_map.1 hp
      exact f3 hw (by simp) n hn
    · simp [encK]
      simp at f1
      omega
    · simp
      refine ⟨_, .refl _, ?_, ?_, ?_⟩
      · simp [r60]
      · simp [resN, resLN, rrEvN, r60]
      · simp [encK_keys, T.consts]
end Go.Abs

namespace Go.Abs

/- porism/porismref01.Scope -/
def c58 : SCode :=
  .seq (.reg
       [⟨some 3, none, .box 63 (.t 0)⟩,
        ⟨some 6, none, .mv (.k (.bool false))⟩])
  (.seq (.reg
       [⟨some 7, none, .mv (.t 1)⟩,
        ⟨some 8, none, .bin .geq (.t 7) (.k (.int .i64 0))⟩,
        ⟨some 9, none, .mv (.t 8)⟩,
        ⟨some 10, some (9, true), .mv (.t 2)⟩,
        ⟨some 11, some (9, true), .bin .geq (.t 10) (.k (.int .i64 0))⟩,
        ⟨some 12, none, .pick (.t 9) (.t 11) (.k (.bool false))⟩,
        ⟨some 13, none, .mv (.t 12)⟩,
        ⟨some 14, some (13, true), .ldn 63 3 (.t 3)⟩,
        ⟨some 15, some (13, true), .call (.f 99) [.t 14]⟩,
        ⟨some 16, some (13, true), .bin .eql (.t 15) (.k (.int .i64 0))⟩,
        ⟨some 17, none, .pick (.t 13) (.t 16) (.k (.bool false))⟩,
        ⟨some 18, none, .mv (.t 17)⟩,
        ⟨some 19, some (18, true), .ldn 63 3 (.t 3)⟩,
        ⟨some 20, some (18, true), .mv (.t 1)⟩,
        ⟨some 21, some (18, true), .best false [.t 20, .k (.int .i64 1048576)]⟩,
        ⟨some 22, some (18, true), .mv (.t 2)⟩,
        ⟨some 23, some (18, true), .call (.f 100) [.t 19, .t 21, .t 22]⟩,
        ⟨some 24, none, .pick (.t 18) (.t 23) (.k (.bool false))⟩,
        ⟨some 6, none, .mv (.t 24)⟩])
  (.ret))
def r58 : List RR := [.t 6]
theorem ok58 : okFn Go.Proofs.Tryz.prog 69 25 c58 r58 3 = true := by kernel_rfl

/- porism/porismkeep.Ints -/
def c59b0 : SCode :=
  .seq (.seq (.reg
         [⟨some 11, none, .mv (.t 5)⟩,
          ⟨some 12, none, .mv (.t 0)⟩,
          ⟨some 13, none, .len 24 (.t 12)⟩,
          ⟨some 14, none, .bin .lss (.t 11) (.t 13)⟩])
    (.cond (.t 14)
      (.skip)
      (.exit 0)))
  (.seq (.block 1 (.seq (.dreg [0, 0, 3, 7, 0, 0, 48, 112, 255]
           [⟨some 17, none, .mv (.t 0)⟩,
            ⟨some 18, none, .mv (.t 5)⟩,
            ⟨some 19, none, .iad 3 1 (.t 17) (.t 18)⟩,
            ⟨some 20, none, .ld1 3 (.t 19)⟩,
            ⟨some 21, none, .mv (.t 1)⟩,
            ⟨some 22, none, .mv (.t 5)⟩,
            ⟨some 23, none, .iad 3 1 (.t 21) (.t 22)⟩,
            ⟨some 24, none, .ld1 3 (.t 23)⟩,
            ⟨some 25, none, .bin .neq (.t 20) (.t 24)⟩])
      (.cond (.t 25)
        (.seq (.reg
             [⟨some 4, none, .mv (.k (.bool false))⟩])
        (.ret))
        (.skip))))
  (.reg
     [⟨some 15, none, .mv (.t 5)⟩,
      ⟨some 16, none, .bin .add (.t 15) (.k (.int .i64 1))⟩,
      ⟨some 5, none, .mv (.t 16)⟩]))
def c59 : SCode :=
  .seq (.reg
       [⟨some 4, none, .mv (.k (.bool false))⟩])
  (.seq (.seq (.reg
         [⟨some 6, none, .mv (.t 0)⟩,
          ⟨some 7, none, .len 24 (.t 6)⟩,
          ⟨some 8, none, .mv (.t 1)⟩,
          ⟨some 9, none, .len 24 (.t 8)⟩,
          ⟨some 10, none, .bin .neq (.t 7) (.t 9)⟩])
    (.cond (.t 10)
      (.seq (.reg
           [⟨some 4, none, .mv (.k (.bool false))⟩])
      (.ret))
      (.skip)))
  (.seq (.seq (.reg
         [⟨some 5, none, .mv (.k (.int .i64 0))⟩])
    (.block 0 (.loop c59b0)))
  (.seq (.reg
       [⟨some 4, none, .mv (.k (.bool true))⟩])
  (.ret))))
def r59 : List RR := [.t 4]
theorem ok59 : okFn Go.Proofs.Tryz.prog 15 26 c59 r59 2 = true := by kernel_rfl

/- porism/porismref01.Consts -/
def c61b0 : SCode :=
  .seq (.seq (.reg
         [⟨some 27, none, .mv (.t 6)⟩,
          ⟨some 28, none, .mv (.t 5)⟩,
          ⟨some 29, none, .len 24 (.t 28)⟩,
          ⟨some 30, none, .bin .lss (.t 27) (.t 29)⟩])
    (.cond (.t 30)
      (.skip)
      (.exit 2)))
  (.seq (.block 3 (.reg
         [⟨some 33, none, .mv (.t 3)⟩,
          ⟨some 34, none, .mv (.t 5)⟩,
          ⟨some 35, none, .mv (.t 6)⟩,
          ⟨some 36, none, .iad 3 1 (.t 34) (.t 35)⟩,
          ⟨some 37, none, .ld1 3 (.t 36)⟩,
          ⟨some 38, none, .call (.f 51) [.t 33, .t 37]⟩,
          ⟨some 3, none, .mv (.t 38)⟩]))
  (.reg
     [⟨some 31, none, .mv (.t 6)⟩,
      ⟨some 32, none, .bin .add (.t 31) (.k (.int .i64 1))⟩,
      ⟨some 6, none, .mv (.t 32)⟩]))
def c61b1 : SCode :=
  .seq (.seq (.reg
         [⟨some 14, none, .mv (.t 4)⟩,
          ⟨some 15, none, .fad 63 2 2 (.t 1)⟩,
          ⟨some 16, none, .ld1 61 (.t 15)⟩,
          ⟨some 17, none, .len 61 (.t 16)⟩,
          ⟨some 18, none, .bin .lss (.t 14) (.t 17)⟩])
    (.cond (.t 18)
      (.skip)
      (.exit 0)))
  (.seq (.block 1 (.seq (.reg
           [⟨some 21, none, .fad 63 2 2 (.t 1)⟩,
            ⟨some 22, none, .ld1 61 (.t 21)⟩,
            ⟨some 23, none, .mv (.t 4)⟩,
            ⟨some 24, none, .iad 63 3 (.t 22) (.t 23)⟩,
            ⟨some 25, none, .ldn 63 3 (.t 24)⟩,
            ⟨some 26, none, .call (.f 50) [.t 25]⟩,
            ⟨some 5, none, .mv (.t 26)⟩])
      (.seq (.reg
           [⟨some 6, none, .mv (.k (.int .i64 0))⟩])
      (.block 2 (.loop c61b0)))))
  (.reg
     [⟨some 19, none, .mv (.t 4)⟩,
      ⟨some 20, none, .bin .add (.t 19) (.k (.int .i64 1))⟩,
      ⟨some 4, none, .mv (.t 20)⟩]))
def c61 : SCode :=
  .seq (.reg
       [⟨some 1, none, .box 63 (.t 0)⟩,
        ⟨some 2, none, .mv (.nil 1 8)⟩])
  (.seq (.reg
       [⟨some 3, none, .mv (.nil 1 8)⟩])
  (.seq (.seq (.reg
         [⟨some 7, none, .fad 63 0 0 (.t 1)⟩,
          ⟨some 8, none, .ld1 3 (.t 7)⟩,
          ⟨some 9, none, .bin .eql (.t 8) (.k (.int .i64 3))⟩])
    (.cond (.t 9)
      (.reg
         [⟨some 10, none, .mv (.t 3)⟩,
          ⟨some 11, none, .fad 63 1 1 (.t 1)⟩,
          ⟨some 12, none, .ld1 3 (.t 11)⟩,
          ⟨some 13, none, .call (.f 51) [.t 10, .t 12]⟩,
          ⟨some 3, none, .mv (.t 13)⟩])
      (.skip)))
  (.seq (.seq (.reg
         [⟨some 4, none, .mv (.k (.int .i64 0))⟩])
    (.block 0 (.loop c61b1)))
  (.seq (.reg
       [⟨some 39, none, .mv (.t 3)⟩,
        ⟨some 2, none, .mv (.t 39)⟩])
  (.ret)))))
def r61 : List RR := [.t 2]
theorem ok61 : okFn Go.Proofs.Tryz.prog 50 40 c61 r61 1 = true := by kernel_rfl

/- porism/porismref01.scoped -/
def c106b0 : SCode :=
  .seq (.seq (.reg
         [⟨some 27, none, .mv (.t 7)⟩,
          ⟨some 28, none, .fad 63 2 2 (.t 3)⟩,
          ⟨some 29, none, .ld1 61 (.t 28)⟩,
          ⟨some 30, none, .len 61 (.t 29)⟩,
          ⟨some 31, none, .bin .lss (.t 27) (.t 30)⟩])
    (.cond (.t 31)
      (.skip)
      (.exit 1)))
  (.seq (.block 2 (.seq (.dreg [0, 1, 0, 7, 15, 0, 0, 64, 0, 448, 992, 0, 4095, 8191]
           [⟨some 34, none, .fad 63 2 2 (.t 3)⟩,
            ⟨some 35, none, .ld1 61 (.t 34)⟩,
            ⟨some 36, none, .mv (.t 7)⟩,
            ⟨some 37, none, .iad 63 3 (.t 35) (.t 36)⟩,
            ⟨some 38, none, .ldn 63 3 (.t 37)⟩,
            ⟨some 39, none, .mv (.t 1)⟩,
            ⟨some 40, none, .fad 63 0 0 (.t 3)⟩,
            ⟨some 41, none, .ld1 3 (.t 40)⟩,
            ⟨some 42, none, .mv (.t 7)⟩,
            ⟨some 43, none, .call (.f 140) [.t 41, .t 42]⟩,
            ⟨some 44, none, .bin .add (.t 39) (.t 43)⟩,
            ⟨some 45, none, .mv (.t 2)⟩,
            ⟨some 46, none, .call (.f 100) [.t 38, .t 44, .t 45]⟩,
            ⟨some 47, none, .not (.t 46)⟩])
      (.cond (.t 47)
        (.seq (.reg
             [⟨some 6, none, .mv (.k (.bool false))⟩])
        (.ret))
        (.skip))))
  (.reg
     [⟨some 32, none, .mv (.t 7)⟩,
      ⟨some 33, none, .bin .add (.t 32) (.k (.int .i64 1))⟩,
      ⟨some 7, none, .mv (.t 33)⟩]))
def c106 : SCode :=
  .seq (.reg
       [⟨some 3, none, .box 63 (.t 0)⟩,
        ⟨some 6, none, .mv (.k (.bool false))⟩])
  (.seq (.seq (.reg
         [⟨some 8, none, .fad 63 0 0 (.t 3)⟩,
          ⟨some 9, none, .ld1 3 (.t 8)⟩])
    (.block 0 (.seq (.reg
           [⟨some 11, none, .bin .eql (.t 9) (.k (.int .i64 1))⟩,
            ⟨some 10, none, .mv (.t 11)⟩])
      (.cond (.t 10)
        (.seq (.reg
             [⟨some 12, none, .fad 63 1 1 (.t 3)⟩,
              ⟨some 13, none, .ld1 3 (.t 12)⟩,
              ⟨some 14, none, .mv (.t 1)⟩,
              ⟨some 15, none, .bin .lss (.t 13) (.t 14)⟩,
              ⟨some 6, none, .mv (.t 15)⟩])
        (.ret))
        (.seq (.reg
             [⟨some 17, none, .bin .eql (.t 9) (.k (.int .i64 2))⟩,
              ⟨some 16, none, .mv (.t 17)⟩])
        (.cond (.t 16)
          (.seq (.reg
               [⟨some 18, none, .fad 63 1 1 (.t 3)⟩,
                ⟨some 19, none, .ld1 3 (.t 18)⟩,
                ⟨some 20, none, .bin .leq (.t 19) (.k (.int .i64 6))⟩,
                ⟨some 6, none, .mv (.t 20)⟩])
          (.ret))
          (.seq (.reg
               [⟨some 22, none, .bin .eql (.t 9) (.k (.int .i64 3))⟩,
                ⟨some 21, none, .mv (.t 22)⟩])
          (.cond (.t 21)
            (.seq (.reg
                 [⟨some 23, none, .fad 63 1 1 (.t 3)⟩,
                  ⟨some 24, none, .ld1 3 (.t 23)⟩,
                  ⟨some 25, none, .mv (.t 2)⟩,
                  ⟨some 26, none, .bin .lss (.t 24) (.t 25)⟩,
                  ⟨some 6, none, .mv (.t 26)⟩])
            (.ret))
            (.skip)))))))))
  (.seq (.seq (.reg
         [⟨some 7, none, .mv (.k (.int .i64 0))⟩])
    (.block 1 (.loop c106b0)))
  (.seq (.reg
       [⟨some 6, none, .mv (.k (.bool true))⟩])
  (.ret))))
def r106 : List RR := [.t 6]
theorem ok106 : okFn Go.Proofs.Tryz.prog 100 48 c106 r106 3 = true := by kernel_rfl

/- porism/porismref01.Join -/
def c110b0 : SCode :=
  .seq (.seq (.reg
         [⟨some 7, none, .mv (.t 5)⟩,
          ⟨some 8, none, .mv (.t 0)⟩,
          ⟨some 9, none, .len 24 (.t 8)⟩,
          ⟨some 10, none, .bin .lss (.t 7) (.t 9)⟩,
          ⟨some 11, none, .mv (.t 10)⟩,
          ⟨some 12, some (11, true), .mv (.t 0)⟩,
          ⟨some 13, some (11, true), .mv (.t 5)⟩,
          ⟨some 14, some (11, true), .iad 3 1 (.t 12) (.t 13)⟩,
          ⟨some 15, some (11, true), .ld1 3 (.t 14)⟩,
          ⟨some 16, some (11, true), .mv (.t 1)⟩,
          ⟨some 17, some (11, true), .bin .lss (.t 15) (.t 16)⟩,
          ⟨some 18, none, .pick (.t 11) (.t 17) (.k (.bool false))⟩])
    (.cond (.t 18)
      (.skip)
      (.exit 0)))
  (.block 1 (.reg
       [⟨some 19, none, .mv (.t 5)⟩,
        ⟨some 20, none, .bin .add (.t 19) (.k (.int .i64 1))⟩,
        ⟨some 5, none, .mv (.t 20)⟩]))
def c110 : SCode :=
  .seq (.reg
       [⟨some 4, none, .mv (.nil 1 8)⟩])
  (.seq (.reg
       [⟨some 5, none, .mv (.k (.int .i64 0))⟩])
  (.seq (.block 0 (.loop c110b0))
  (.seq (.seq (.reg
         [⟨some 21, none, .mv (.t 5)⟩,
          ⟨some 22, none, .mv (.t 0)⟩,
          ⟨some 23, none, .len 24 (.t 22)⟩,
          ⟨some 24, none, .bin .lss (.t 21) (.t 23)⟩,
          ⟨some 25, none, .mv (.t 24)⟩,
          ⟨some 26, some (25, true), .mv (.t 0)⟩,
          ⟨some 27, some (25, true), .mv (.t 5)⟩,
          ⟨some 28, some (25, true), .iad 3 1 (.t 26) (.t 27)⟩,
          ⟨some 29, some (25, true), .ld1 3 (.t 28)⟩,
          ⟨some 30, some (25, true), .mv (.t 1)⟩,
          ⟨some 31, some (25, true), .bin .eql (.t 29) (.t 30)⟩,
          ⟨some 32, none, .pick (.t 25) (.t 31) (.k (.bool false))⟩])
    (.cond (.t 32)
      (.seq (.reg
           [⟨some 33, none, .mv (.t 0)⟩,
            ⟨some 4, none, .mv (.t 33)⟩])
      (.ret))
      (.skip)))
  (.seq (.reg
       [⟨some 6, none, .mv (.nil 1 8)⟩])
  (.seq (.reg
       [⟨some 34, none, .mv (.t 6)⟩,
        ⟨some 35, none, .mv (.t 0)⟩,
        ⟨some 36, none, .mv (.t 5)⟩,
        ⟨some 37, none, .slc 3 1 8 (.t 35) none (some (.t 36)) none⟩,
        ⟨some 38, none, .app 3 1 8 (.t 34) (.t 37)⟩,
        ⟨some 39, none, .mv (.t 1)⟩,
        ⟨some 40, none, .lit 3 1 8 [.t 39]⟩,
        ⟨some 41, none, .app 3 1 8 (.t 38) (.t 40)⟩,
        ⟨some 6, none, .mv (.t 41)⟩])
  (.seq (.reg
       [⟨some 42, none, .mv (.t 6)⟩,
        ⟨some 43, none, .mv (.t 0)⟩,
        ⟨some 44, none, .mv (.t 5)⟩,
        ⟨some 45, none, .slc 3 1 8 (.t 43) (some (.t 44)) none none⟩,
        ⟨some 46, none, .app 3 1 8 (.t 42) (.t 45)⟩,
        ⟨some 4, none, .mv (.t 46)⟩])
  (.ret)))))))
def r110 : List RR := [.t 4]
theorem ok110 : okFn Go.Proofs.Tryz.prog 51 47 c110 r110 2 = true := by kernel_rfl

end Go.Abs

namespace Go.Abs
open Go.Proofs

def cutI (l : List Int) (n : Int) : Nat := (l.takeWhile fun m => decide (m < n)).length
def joinI (l : List Int) (n : Int) : List Int := if l[cutI l n]? = some n then l else l.take (cutI l n) ++ [n] ++ l.drop (cutI l n)

theorem cut_le (l : List Int) (n : Int) : cutI l n ≤ l.length := by
  simp only [cutI]
  exact (List.takeWhile_sublist _).length_le
theorem cut_lt {l : List Int} {n : Int} : ∀ {i : Nat}, i < cutI l n → ∃ m, l[i]? = some m ∧ m < n := by
  induction l with
  | nil => intro i h; simp [cutI] at h
  | cons a l ih =>
    intro i h
    by_cases ha : a < n
    · have : cutI (a :: l) n = cutI l n + 1 := by simp [cutI, List.takeWhile_cons, ha]
      cases i with
      | zero => exact ⟨a, rfl, ha⟩
      | succ i => exact ih (by omega)
    · have : cutI (a :: l) n = 0 := by simp [cutI, List.takeWhile_cons, ha]
      omega
theorem cut_ge {l : List Int} {n m : Int} (h : l[cutI l n]? = some m) : ¬ m < n := by
  induction l with
  | nil => simp at h
  | cons a l ih =>
    by_cases ha : a < n
    · have : cutI (a :: l) n = cutI l n + 1 := by simp [cutI, List.takeWhile_cons, ha]
      rw [this] at h
      exact ih (by simpa using h)
    · have : cutI (a :: l) n = 0 := by simp [cutI, List.takeWhile_cons, ha]
      rw [this] at h
      simp at h; subst h; exact ha

theorem at_is {l : List Int} {i : Nat} {m : Int} (h : l[i]? = some m) : ∃ hi : i < (l.map fun n => [Cell.v (.int .i64 n)]).length, (l.map fun n => [Cell.v (.int .i64 n)])[i] = [.v (.int .i64 m)] := by
  obtain ⟨hi, e⟩ := getE h
  exact ⟨by simpa using hi, by simp [e]⟩

theorem fn110 (l : List Int) (n : Int) (hl : l.length ≤ 1000000000) : Fn Tryz.prog 51 [is l, ib n] (is (joinI l n)) := by
  refine fn_of (base := 110000) ok110 rfl fun σ h0 hr => ?_
  have s0 := h0 0
  have s1 := h0 1
  rw [slots0] at s0
  rw [slots1] at s1
  simp only [is, ib] at s0 s1
  clear h0 hr
  unfold c110
  simp [-W_block]
  have hcl := cut_le l n
  refine W_cut (fun σ => σ.sl 0 = is l ∧ σ.sl 1 = ib n ∧ σ.sl 5 = ib (cutI l n)) ?_ fun σ' hA => ?_
  · simp
    refine W_loop (fun m σ => ∃ i : Nat, i + m = cutI l n ∧ σ.sl 0 = is l ∧ σ.sl 1 = ib n ∧ σ.sl 5 = ib i) (cutI l n) ?_ ?_
    · exact ⟨0, by simp [s0, s1, is, ib]⟩
    · rintro m σ ⟨i, hm, q0, q1, q5⟩
      unfold c110b0
      simp only [is, ib] at q0 q1 q5
      by_cases hi : i < cutI l n
      · obtain ⟨x, hx, hxn⟩ := cut_lt hi
        obtain ⟨hi2, hx'⟩ := getE hx
        have w1 := wrap_succ (i := i) (by omega)
        have hlt : (i : Int) < (l.length : Int) := by omega
        simp [q0, q1, q5, hi2, hx', hxn]
        refine ⟨m - 1, by omega, i + 1, by omega, ?_⟩
        simp [q0, q1, w1, is, ib]
      · have hie : cutI l n = i := by omega
        by_cases hi2 : i < l.length
        · obtain ⟨x, hx⟩ := at_of hi2
          have hge := cut_ge (by rw [hie]; exact hx)
          obtain ⟨_, hx'⟩ := getE hx
          simp [q0, q1, q5, hi2, hx', hge, is, ib, hie]
        · simp [q0, q1, q5, hi2, is, ib, hie]
  · obtain ⟨q0, q1, q5⟩ := hA
    simp only [is, ib] at q0 q1 q5
    have hroom : (l.length + 1) * 8 ≤ room := by simp only [room]; omega
    by_cases hi : cutI l n < l.length
    · obtain ⟨x, hx⟩ := at_of hi
      obtain ⟨_, hx'⟩ := getE hx
      by_cases hxn : x = n
      · subst hxn
        have hj : joinI l x = l := by simp [joinI, hx]
        simp [q0, q1, q5, hi, hx', r110, is, hj]
      · have hj : joinI l n = l.take (cutI l n) ++ [n] ++ l.drop (cutI l n) := by simp [joinI, hx, hxn]
        have hm : min (cutI l n) l.length = cutI l n := by omega
        simp [q0, q1, q5, hi, hx', hxn, room, r110, is, hj, hm]
        refine ⟨⟨by omega, hcl⟩, by omega, by omega, ⟨by omega, hcl⟩, by omega, ?_⟩
        rw [List.take_of_length_le (by simp)]
    · have hle : l.length ≤ cutI l n := by omega
      have hj : joinI l n = l ++ [n] := by
        have h1 : l[cutI l n]? = none := List.getElem?_eq_none hle
        simp [joinI, h1, List.take_of_length_le hle, List.drop_eq_nil_of_le hle]
      have hce : cutI l n = l.length := by omega
      simp [q0, q1, q5, hce, room, r110, is, hj]
      refine ⟨by omega, by omega, by omega, by omega, ?_⟩
      rw [List.take_of_length_le (by simp)]

theorem countL_app6 (ts us : List T) : T.countL (ts ++ us) = T.countL ts + T.countL us := by
  induction ts with
  | nil => simp [T.countL]
  | cons t ts ih => simp only [List.cons_append, T.countL, ih]; omega
theorem countL_take6 (ts : List T) (i : Nat) : T.countL (ts.take i) ≤ T.countL ts := by
  have h := countL_app6 (ts.take i) (ts.drop i)
  rw [List.take_append_drop] at h
  omega
mutual
def T.rcons : T → List Int
  | .mk k n ts => T.rconsL ts (if k = 3 then joinI [] n else [])
def T.rconsL : List T → List Int → List Int
  | [], out => out
  | t :: ts, out => T.rconsL ts ((T.rcons t).foldl joinI out)
end
theorem join_len (l : List Int) (n : Int) : (joinI l n).length ≤ l.length + 1 := by
  have := cut_le l n
  simp only [joinI]; split <;> simp <;> omega
theorem fold_len : ∀ (ms out : List Int), (ms.foldl joinI out).length ≤ out.length + ms.length
  | [], out => by simp
  | m :: ms, out => by
    have h1 := fold_len ms (joinI out m)
    have h2 := join_len out m
    simp only [List.foldl_cons, List.length_cons]; omega
theorem rcons_len (t : T) : t.rcons.length ≤ t.count := by
  induction t using T.ind with
  | h k n ts ih =>
  have key : ∀ (ts : List T) (out : List Int), (∀ t, t ∈ ts → t.rcons.length ≤ t.count) → (T.rconsL ts out).length ≤ out.length + T.countL ts := by
    intro ts
    induction ts with
    | nil => intro out _; simp [T.rconsL, T.countL]
    | cons t ts ih2 =>
      intro out h
      have h1 := ih2 (t.rcons.foldl joinI out) fun u hu => h u (by simp [hu])
      have h2 := fold_len t.rcons out
      have h3 := h t (by simp)
      simp only [T.rconsL, T.countL]; omega
  have h1 := key ts (if k = 3 then joinI [] n else []) ih
  have h2 : (if k = 3 then joinI [] n else []).length ≤ 1 := by
    split
    · exact join_len [] n
    · simp
  simp only [T.rcons, T.count]; omega
theorem rconsL_len (ts : List T) (out : List Int) : (T.rconsL ts out).length ≤ out.length + T.countL ts := by
  induction ts generalizing out with
  | nil => simp [T.rconsL, T.countL]
  | cons t ts ih2 =>
    have h1 := ih2 (t.rcons.foldl joinI out)
    have h2 := fold_len t.rcons out
    have h3 := rcons_len t
    simp only [T.rconsL, T.countL]; omega

def isC (l : List Int) : AV → Prop := fun x => x = is l ∨ x = .c (.cap 1 8 (l.map fun n => [.v (.int .i64 n)]))

theorem fn61 (t : T) : t.count ≤ 1048576 → Fn Tryz.prog 50 [tm t] (is t.rcons) := by
  induction t using T.ind with
  | h k n ts ih =>
  intro hc
  simp only [T.count] at hc
  refine fn_of (base := 61000) ok61 rfl fun σ h0 hr => ?_
  have s0 := h0 0
  rw [slots0] at s0
  have hlen := real_kids (hr (tm (.mk k n ts)) (by simp))
  rw [kids_mk] at hlen
  simp only [tm, cells_mk] at s0
  clear h0 hr
  have loop : ∀ (out0 : List Int) (σ : St), out0.length ≤ 1 → isC out0 (σ.sl 3) → σ.sl 1 = .c (.ref 61001 (σ.tg 61001) 0) → σ.ob 61001 = some (.box 63 (T.mk k n ts).cells) → σ.sl 4 = ib 0 →
      T.rconsL ts out0 = (T.mk k n ts).rcons → W Tryz.prog 61000 (.loop c61b1) σ (onBlock 0 (seqC Tryz.prog 61000 (.seq (.reg
       [⟨some 39, none, .mv (.t 3)⟩,
        ⟨some 2, none, .mv (.t 39)⟩])
  (.ret)) (onEnd [] r61 (is (T.mk k n ts).rcons) []))) := by
    intro out0 σ hol q3 q1 qo q4 hres
    simp only [cells_mk] at qo
    refine W_loop (fun m σ => ∃ (i : Nat) (out : List Int), i + m = ts.length ∧ T.rconsL (ts.drop i) out = T.rconsL ts out0 ∧ out.length ≤ out0.length + T.countL (ts.take i) ∧ isC out (σ.sl 3) ∧ σ.sl 1 = .c (.ref 61001 (σ.tg 61001) 0) ∧ σ.ob 61001 = some (.box 63 (T.mk k n ts).cells) ∧ σ.sl 4 = ib i) ts.length ?_ ?_
    · exact ⟨0, out0, by simp [q3, q1, qo, q4, cells_mk]⟩
    · clear q3 q1 qo q4
      rintro m σ ⟨i, out, hm, hp, ho, q3, q1, qo, q4⟩
      unfold c61b1
      simp only [cells_mk, ib] at qo q4
      by_cases hi : i < ts.length
      · obtain ⟨t, ht⟩ := at_of hi
        obtain ⟨_, ht'⟩ := getE ht
        have w1 := wrap_succ (i := i) (by omega)
        rw [drop_at ht, T.rconsL] at hp
        have hmem := List.mem_of_getElem? ht
        have hcm := count_mem hmem
        have hrl := rcons_len t
        have htk : T.countL (ts.take (i + 1)) = T.countL (ts.take i) + t.count := by
          rw [List.take_add_one, ht]
          simp [countL_app6, T.countL]
        have htl : T.countL (ts.take (i + 1)) ≤ T.countL ts := countL_take6 ts (i + 1)
        simp [q1, qo, q4, hi, ht']
        refine ECall.fn (ih t hmem (by omega)) (by simp [tm]) (by simp) (by simp [is]) fun _ => ?_
        simp [is, -W_block]
        refine W_cut (fun σ => isC (t.rcons.foldl joinI out) (σ.sl 3) ∧ σ.sl 1 = .c (.ref 61001 (σ.tg 61001) 0) ∧ σ.ob 61001 = some (.box 63 (T.mk k n ts).cells) ∧ σ.sl 4 = ib i) ?_ fun σ' hA => ?_
        · simp
          refine W_loop (fun m σ => ∃ (j : Nat) (o2 : List Int), j + m = t.rcons.length ∧ (t.rcons.drop j).foldl joinI o2 = t.rcons.foldl joinI out ∧ o2.length ≤ out.length + j ∧ isC o2 (σ.sl 3) ∧ σ.sl 5 = is t.rcons ∧ σ.sl 6 = ib j ∧ σ.sl 1 = .c (.ref 61001 (σ.tg 61001) 0) ∧ σ.ob 61001 = some (.box 63 (T.mk k n ts).cells) ∧ σ.sl 4 = ib i) t.rcons.length ?_ ?_
          · exact ⟨0, out, by simp [q3, q1, qo, q4, cells_mk, is, ib]⟩
          · clear q3 q1 qo q4
            rintro m σ ⟨j, o2, hm, hp, ho2, q3, q5, q6, q1, qo, q4⟩
            unfold c61b0
            simp only [is, ib] at q5 q6
            by_cases hj : j < t.rcons.length
            · obtain ⟨x, hx⟩ := at_of hj
              obtain ⟨_, hx'⟩ := getE hx
              have w2 := wrap_succ (i := j) (by omega)
              rw [drop_at hx, List.foldl_cons] at hp
              have hjl := join_len o2 x
              rcases q3 with q3 | q3
              all_goals
                try simp only [is] at q3
                simp [q3, q5, q6, hj, hx']
                refine ECall.fn (fn110 o2 x (by omega)) (by simp [is, ib]) (by simp) (by simp [is]) fun _ => ?_
                simp [is, q6]
                refine ⟨m - 1, by omega, j + 1, by omega, _, hp, by omega, ?_⟩
                simp [q5, q1, qo, q4, w2, is, ib, isC]
            · rw [List.drop_eq_nil_of_le (by omega), List.foldl_nil] at hp
              simp [q5, q6, hj, q3, q1, qo, q4, ← hp]
        · obtain ⟨q3, q1, qo, q4⟩ := hA
          simp only [ib] at q4
          simp [q4]
          have hfl := fold_len t.rcons out
          refine ⟨m - 1, by omega, i + 1, by omega, _, hp, by omega, ?_⟩
          simp [q3, q1, qo, w1, ib]
      · rw [List.drop_eq_nil_of_le (by omega), T.rconsL] at hp
        have hoo : out = (T.mk k n ts).rcons := hp.trans hres
        rcases q3 with q3 | q3
        all_goals
          try simp only [is] at q3
          simp [q3, q1, qo, q4, hi, r61, is, ← hoo]
  unfold c61
  by_cases h3 : k = 3
  · subst h3
    simp [s0]
    refine ECall.fn (fn110 [] n (by simp)) (by simp [is, ib]) (by simp) (by simp [is]) fun _ => ?_
    simp [is]
    exact loop (joinI [] n) _ (join_len [] n) (.inl (by simp [is])) (by simp) (by simp [cells_mk]) (by simp [ib]) (by simp [T.rcons])
  · simp [s0, h3]
    exact loop [] _ (by simp) (.inr (by simp)) (by simp) (by simp [cells_mk]) (by simp [ib]) (by simp [T.rcons, h3])
end Go.Abs

namespace Go.Abs
open Go.Proofs

theorem fn51 (k i : Int) : Fn Tryz.prog 140 [ib k, ib i] (ib (bindsOf k i)) := by
  refine fn_of (base := 51000) ok51 rfl fun σ h0 hr => ?_
  have s0 := h0 0
  have s1 := h0 1
  rw [slots0] at s0
  rw [slots1] at s1
  simp only [ib] at s0 s1
  clear h0 hr
  unfold c51
  simp [s0, s1, r51, ib]
  refine ⟨fun h1 h2 => ?_, fun h => ?_⟩
  · simp only [bindsOf]; rw [if_pos (by omega)]
  · simp only [bindsOf]; rw [if_neg (by omega)]

theorem kid_right {k n : Int} {ts : List T} (hc : (T.mk k n ts).count ≤ 1048576) (h : (T.mk k n ts).check = 0) {t : T} (ht : t ∈ ts) : t.check = 0 ∧ t.count ≤ 1048576 := by
  have h1 := (check_iff _).1 h
  have h2 := size_count (T.mk k n ts) (by omega)
  have h3 := count_mem ht
  have h6 := hc
  simp only [T.count] at h2 h6
  have h4 := size_count t (by omega)
  have h5 := depth_kid (k := k) (n := n) ht (by simp only [T.count]; omega)
  have hf := h1.2.2
  rw [T.formed, Bool.and_eq_true, formedL_all, List.all_eq_true] at hf
  exact ⟨(check_iff t).2 ⟨by omega, by omega, hf.2 t ht⟩, by omega⟩

theorem mvL_get (k b c : Int) : ∀ (ts : List T) (i : Int) (j : Nat) (t : T), ts[j]? = some t → (T.mvL k b c i ts)[j]? = some (t.mv b (c + bindsOf k (i + j)))
  | u :: ts, i, 0, t, h => by simp at h; subst h; simp [T.mvL]
  | u :: ts, i, j + 1, t, h => by
    have h1 := mvL_get k b c ts (i + 1) j t (by simpa using h)
    have e : i + ((j + 1 : Nat) : Int) = i + 1 + (j : Int) := by omega
    rw [e]
    simpa [T.mvL] using h1
  | [], i, j, t, h => by simp at h
theorem ovL_get {k b c : Int} : ∀ {ts : List T} {i : Int}, T.ovL k b c i ts = false → ∀ {j : Nat} {t : T}, ts[j]? = some t → t.ov b (c + bindsOf k (i + j)) = false
  | u :: ts, i, h0, 0, t, h => by simp only [T.ovL, Bool.or_eq_false_iff] at h0; simp at h; subst h; simpa using h0.1
  | u :: ts, i, h0, j + 1, t, h => by
    simp only [T.ovL, Bool.or_eq_false_iff] at h0
    have h1 := ovL_get h0.2 (j := j) (t := t) (by simpa using h)
    have e : i + ((j + 1 : Nat) : Int) = i + 1 + (j : Int) := by omega
    rw [e]
    exact h1
  | [], i, h0, j, t, h => by simp at h

end Go.Abs

namespace Go.Abs
open Go.Proofs

theorem fn59 (l r : List Int) : Fn Tryz.prog 15 [is l, is r] (bb (decide (l = r))) := by
  refine fn_of (base := 59000) ok59 rfl fun σ h0 hr => ?_
  have s0 := h0 0
  have s1 := h0 1
  rw [slots0] at s0
  rw [slots1] at s1
  have hlen := real_is (hr (is l) (by simp))
  simp only [is] at s0 s1
  clear h0 hr
  unfold c59
  by_cases hl : l.length = r.length
  case neg =>
    have hl' : ¬ ((l.length : Int) = (r.length : Int)) := by omega
    have hne : ¬ l = r := fun h => hl (by rw [h])
    simp [s0, s1, hl', r59, bb, hne]
  case pos =>
    simp [s0, s1, hl]
    refine W_loop (fun m σ => ∃ i : Nat, i + m = l.length ∧ (l.drop i = r.drop i ↔ l = r) ∧ σ.sl 0 = is l ∧ σ.sl 1 = is r ∧ σ.sl 5 = ib i) l.length ?_ ?_
    · exact ⟨0, by simp [s0, s1, is, ib]⟩
    · rintro m σ ⟨i, hm, hp, q0, q1, q5⟩
      unfold c59b0
      simp only [is, ib] at q0 q1 q5
      by_cases hi : i < l.length
      · obtain ⟨x, hx⟩ := at_of hi
        obtain ⟨y, hy⟩ := at_of (show i < r.length by omega)
        obtain ⟨_, hx'⟩ := getE hx
        obtain ⟨hi2, hy'⟩ := getE hy
        have w1 := wrap_succ (i := i) (by omega)
        rw [drop_at hx, drop_at hy, List.cons.injEq] at hp
        simp [q0, q1, q5, hi, hi2, hx', hy']
        refine W_dregA ?_
        simp [q0, q1, q5, hi, hi2, hx', hy']
        refine realC_n ?_
        simp
        constructor
        · intro hne
          have : ¬ l = r := fun h => hne (hp.2 h).1
          simp [r59, bb, this]
        · intro he
          simp [q5]
          refine ⟨m - 1, by omega, i + 1, by omega, ?_, ?_⟩
          · rw [← hp]; simp [he]
          · simp [q0, q1, w1, is, ib]
      · have h1 : l = r := by
          rw [← hp, List.drop_eq_nil_of_le (by omega), List.drop_eq_nil_of_le (by omega)]
        have hi' : ¬ i < r.length := by omega
        simp [q0, q1, q5, hi, hi', r59, bb, h1]

mutual
def T.rcnt : T → Int → Int
  | .mk k n ts, v => T.rcntL k v 0 (if k = 1 ∧ n = v then 1 else 0) ts
def T.rcntL (k v : Int) : Int → Int → List T → Int
  | _, a, [] => a
  | i, a, t :: ts => T.rcntL k v (i + 1) (IntKind.wrap .i64 (a + T.rcnt t (IntKind.wrap .i64 (v + bindsOf k i)))) ts
end
def T.rcount (t : T) (v : Int) : Int := if mayB v = true then t.rcnt v else 0
theorem fn106 (t : T) : ∀ a b : Int, Fn Tryz.prog 100 [tm t, ib a, ib b] (bb (t.within a b)) := by
  induction t using T.ind with
  | h k n ts ih =>
  intro a b
  refine fn_of (base := 106000) ok106 rfl fun σ h0 hr => ?_
  have s0 := h0 0
  have s1 := h0 1
  have s2 := h0 2
  rw [slots0] at s0
  rw [slots1] at s1
  rw [slots2] at s2
  have hlen := real_kids (hr (tm (.mk k n ts)) (by simp))
  rw [kids_mk] at hlen
  simp only [tm, cells_mk, ib] at s0 s1 s2
  clear h0 hr
  unfold c106
  by_cases h1 : k = 1
  · subst h1; simp [s0, s1, s2, r106, bb, T.within]
  by_cases h2 : k = 2
  · subst h2; simp [s0, s1, s2, r106, bb, T.within]
  by_cases h3 : k = 3
  · subst h3; simp [s0, s1, s2, r106, bb, T.within]
  simp [s0, s1, s2, h1, h2, h3]
  refine W_loop (fun m σ => ∃ (i : Nat), i + m = ts.length ∧ T.withinL k a b i (ts.drop i) = T.withinL k a b 0 ts ∧ σ.sl 1 = ib a ∧ σ.sl 2 = ib b ∧ σ.sl 3 = .c (.ref 106003 (σ.tg 106003) 0) ∧ σ.ob 106003 = some (.box 63 (T.mk k n ts).cells) ∧ σ.sl 7 = ib i) ts.length ?_ ?_
  · exact ⟨0, by simp [ib, cells_mk, s1, s2]⟩
  · rintro m σ ⟨i, hm, hp, q1, q2, q3, qo, q7⟩
    unfold c106b0
    simp only [ib, cells_mk] at q1 q2 q3 qo q7
    by_cases hi : i < ts.length
    · obtain ⟨t, ht⟩ := at_of hi
      obtain ⟨_, ht'⟩ := getE ht
      have w1 := wrap_succ (i := i) (by omega)
      rw [drop_at ht, T.withinL] at hp
      simp [q1, q2, q3, qo, q7, hi, ht']
      refine W_dregA ?_
      simp [q1, q2, q3, qo, q7, hi, ht']
      refine CallA.fn (fn51 k i) (by simp [ib]) (by simp) rfl ?_
      simp [ib, q1, q2]
      refine CallA.fn (ih t (List.mem_of_getElem? ht) (IntKind.wrap .i64 (a + bindsOf k i)) b) (by simp [ib, tm]) (by simp) rfl ?_
      simp [bb]
      refine realC_n ?_
      simp
      constructor
      · intro hd
        simp [r106, ← hp, hd, T.within, h1, h2, h3]
      · intro hd
        rw [hd, Bool.true_and] at hp
        simp [q7]
        refine ⟨m - 1, by omega, i + 1, by omega, by simpa using hp, ?_⟩
        simp [q1, q2, q3, qo, ib, w1, cells_mk]
    · simp [q1, q2, q3, qo, q7, hi, r106, bb, T.within, h1, h2, h3]
      rw [← hp, List.drop_eq_nil_of_le (by omega), T.withinL]

def T.rscope (t : T) (a b : Int) : Bool := decide (0 ≤ a) && decide (0 ≤ b) && decide (t.check = 0) && T.within t (best2 false a 1048576) b
theorem fn58 (t : T) (a b : Int) : Fn Tryz.prog 69 [tm t, ib a, ib b] (bb (t.rscope a b)) := by
  refine fn_of (base := 58000) ok58 rfl fun σ h0 hr => ?_
  have s0 := h0 0
  have s1 := h0 1
  have s2 := h0 2
  rw [slots0] at s0
  rw [slots1] at s1
  rw [slots2] at s2
  simp only [tm, ib] at s0 s1 s2
  clear h0 hr
  unfold c58
  simp [s0, s1, s2]
  refine GCall.fn (fun _ => fn27 t) (by simp [tm]) (by simp) rfl fun _ => ?_
  simp [ib, s1, s2]
  refine GCall.fn (fun _ => fn106 t (best2 false a 1048576) b) (by simp [tm, ib]) (by simp) rfl fun _ => ?_
  simp [bb, r58, T.rscope]
end Go.Abs
