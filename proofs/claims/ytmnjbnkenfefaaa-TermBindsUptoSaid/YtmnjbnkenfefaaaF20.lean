/- THIS TEXT PROVES WHAT SOME FUNCTIONS OF THE PROGRAM COMPUTE, IN THE CALCULUS: for every argument that is told. -/
import Derived.Test.YtmnjbnkenfefaaaT1
import Derived.Test.YtmnjbnkenfefaaaSC1
set_option linter.unusedVariables false
set_option linter.unusedSimpArgs false
namespace Go.Abs
open Go.Proofs

theorem fn20 (t : T) : Fn Try.prog 20 [tm t] (ib t.size) := by
  induction t using T.ind with
  | h k n ts ih =>
  refine fn_of (base := 20000) ok20 rfl fun σ h0 hr => ?_
  have s0 := h0 0
  rw [slots0] at s0
  have hlen := real_kids (hr (tm (.mk k n ts)) (by simp))
  rw [kids_mk] at hlen
  simp only [tm, cells_mk] at s0
  clear h0 hr
  unfold c20
  simp [s0]
  refine W_loop (fun m σ => ∃ (i : Nat) (a : Int), i + m = ts.length ∧ T.sizeL a (ts.drop i) = T.sizeL 1 ts ∧ σ.sl 3 = ib a ∧ σ.sl 7 = tms ts ∧ σ.sl 8 = ib ts.length ∧ σ.sl 9 = ib i) ts.length ?_ ?_
  · exact ⟨0, 1, by simp [ib, tms]⟩
  · rintro m σ ⟨i, a, hm, hp, q3, q7, q8, q9⟩
    unfold c20b0
    simp only [tms, ib] at q3 q7 q8 q9
    by_cases hi : i < ts.length
    · obtain ⟨t, ht⟩ := at_of hi
      obtain ⟨_, ht'⟩ := getE ht
      have w1 := wrap_succ (i := i) (by omega)
      simp [q3, q7, q8, q9, hi, ht']
      refine ECall.fn (ih t (List.mem_of_getElem? ht)) (by simp [tm]) (by simp) rfl fun _ => ?_
      simp [ib, q3, q9]
      rw [drop_at ht, T.sizeL] at hp
      refine ⟨m - 1, by omega, i + 1, by omega, _, hp, ?_⟩
      simp [q7, q8, tms, w1]
    · simp [q3, q7, q8, q9, hi, r20, ib, T.size]
      rw [← hp, List.drop_eq_nil_of_le (by omega), T.sizeL]

theorem fn21 (t : T) : Fn Try.prog 21 [tm t] (ib t.depth) := by
  induction t using T.ind with
  | h k n ts ih =>
  refine fn_of (base := 21000) ok21 rfl fun σ h0 hr => ?_
  have s0 := h0 0
  rw [slots0] at s0
  have hlen := real_kids (hr (tm (.mk k n ts)) (by simp))
  rw [kids_mk] at hlen
  simp only [tm, cells_mk] at s0
  clear h0 hr
  unfold c21
  simp [s0]
  refine W_loop (fun m σ => ∃ (i : Nat) (a : Int), i + m = ts.length ∧ T.depthL a (ts.drop i) = T.depthL 0 ts ∧ σ.sl 3 = ib a ∧ σ.sl 7 = tms ts ∧ σ.sl 8 = ib ts.length ∧ σ.sl 9 = ib i) ts.length ?_ ?_
  · exact ⟨0, 0, by simp [ib, tms]⟩
  · rintro m σ ⟨i, a, hm, hp, q3, q7, q8, q9⟩
    unfold c21b0
    simp only [tms, ib] at q3 q7 q8 q9
    by_cases hi : i < ts.length
    · obtain ⟨t, ht⟩ := at_of hi
      obtain ⟨_, ht'⟩ := getE ht
      have w1 := wrap_succ (i := i) (by omega)
      simp [q3, q7, q8, q9, hi, ht']
      refine ECall.fn (ih t (List.mem_of_getElem? ht)) (by simp [tm]) (by simp) rfl fun _ => ?_
      simp [ib, q3, q9]
      rw [drop_at ht, T.depthL] at hp
      refine ⟨m - 1, by omega, i + 1, by omega, _, hp, ?_⟩
      simp [q7, q8, tms, w1]
    · simp [q3, q7, q8, q9, hi, r21, ib, T.depth]
      rw [← hp, List.drop_eq_nil_of_le (by omega), T.depthL]

theorem fn28 (t : T) : Fn Try.prog 28 [tm t] (ib t.size) := by
  induction t using T.ind with
  | h k n ts ih =>
  refine fn_of (base := 28000) ok28 rfl fun σ h0 hr => ?_
  have s0 := h0 0
  rw [slots0] at s0
  have hlen := real_kids (hr (tm (.mk k n ts)) (by simp))
  rw [kids_mk] at hlen
  simp only [tm, cells_mk] at s0
  clear h0 hr
  unfold c28
  simp [s0]
  refine W_loop (fun m σ => ∃ (i : Nat) (a : Int), i + m = ts.length ∧ T.sizeL a (ts.drop i) = T.sizeL 1 ts ∧ σ.sl 3 = ib a ∧ σ.sl 1 = .c (.ref 28001 (σ.tg 28001) 0) ∧ σ.ob 28001 = some (.box 24 (T.mk k n ts).cells) ∧ σ.sl 4 = ib i) ts.length ?_ ?_
  · exact ⟨0, 1, by simp [ib, cells_mk]⟩
  · rintro m σ ⟨i, a, hm, hp, q3, q1, qo, q4⟩
    unfold c28b0
    simp only [cells_mk, ib] at q3 q1 qo q4
    by_cases hi : i < ts.length
    · obtain ⟨t, ht⟩ := at_of hi
      obtain ⟨_, ht'⟩ := getE ht
      have w1 := wrap_succ (i := i) (by omega)
      simp [q3, q1, qo, q4, hi, ht']
      refine ECall.fn (ih t (List.mem_of_getElem? ht)) (by simp [tm]) (by simp) rfl fun _ => ?_
      simp [ib, q3, q4]
      rw [drop_at ht, T.sizeL] at hp
      refine ⟨m - 1, by omega, i + 1, by omega, _, hp, ?_⟩
      simp [q1, qo, w1, cells_mk]
    · simp [q3, q1, qo, q4, hi, r28, ib, T.size]
      rw [← hp, List.drop_eq_nil_of_le (by omega), T.sizeL]

theorem fn29 (t : T) : Fn Try.prog 29 [tm t] (ib t.depth) := by
  induction t using T.ind with
  | h k n ts ih =>
  refine fn_of (base := 29000) ok29 rfl fun σ h0 hr => ?_
  have s0 := h0 0
  rw [slots0] at s0
  have hlen := real_kids (hr (tm (.mk k n ts)) (by simp))
  rw [kids_mk] at hlen
  simp only [tm, cells_mk] at s0
  clear h0 hr
  unfold c29
  simp [s0]
  refine W_loop (fun m σ => ∃ (i : Nat) (a : Int), i + m = ts.length ∧ T.depthL a (ts.drop i) = T.depthL 0 ts ∧ σ.sl 3 = ib a ∧ σ.sl 1 = .c (.ref 29001 (σ.tg 29001) 0) ∧ σ.ob 29001 = some (.box 24 (T.mk k n ts).cells) ∧ σ.sl 4 = ib i) ts.length ?_ ?_
  · exact ⟨0, 0, by simp [ib, cells_mk]⟩
  · rintro m σ ⟨i, a, hm, hp, q3, q1, qo, q4⟩
    unfold c29b0
    simp only [cells_mk, ib] at q3 q1 qo q4
    by_cases hi : i < ts.length
    · obtain ⟨t, ht⟩ := at_of hi
      obtain ⟨_, ht'⟩ := getE ht
      have w1 := wrap_succ (i := i) (by omega)
      simp [q3, q1, qo, q4, hi, ht']
      refine ECall.fn (ih t (List.mem_of_getElem? ht)) (by simp [tm]) (by simp) rfl fun _ => ?_
      simp [ib, q3, q4]
      rw [drop_at ht, T.depthL] at hp
      refine ⟨m - 1, by omega, i + 1, by omega, _, hp, ?_⟩
      simp [q1, qo, w1, cells_mk]
    · simp [q3, q1, qo, q4, hi, r29, ib, T.depth]
      rw [← hp, List.drop_eq_nil_of_le (by omega), T.depthL]
end Go.Abs
