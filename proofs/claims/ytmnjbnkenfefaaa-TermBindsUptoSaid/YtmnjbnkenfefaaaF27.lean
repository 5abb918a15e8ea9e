/- THIS TEXT PROVES WHAT SOME FUNCTIONS OF THE PROGRAM COMPUTE, IN THE CALCULUS: for every argument that is told. -/
import Derived.Test.YtmnjbnkenfefaaaF30
import Derived.Test.YtmnjbnkenfefaaaSC5
set_option linter.unusedVariables false
set_option linter.unusedSimpArgs false
namespace Go.Abs
open Go.Proofs

set_option maxHeartbeats 4000000 in
theorem fn114 (k : Int) : Fn Try.prog 114 [ib k] (ib (kidsOf k)) := by
  refine fn_of (base := 114000) ok114 rfl fun σ h0 hr => ?_
  have s0 := h0 0
  rw [slots0] at s0
  simp only [ib] at s0
  clear h0 hr
  unfold c114
  by_cases h1 : k = 1
  · subst h1; simp [s0, r114, ib, kidsOf]
  by_cases h2 : k = 2
  · subst h2; simp [s0, r114, ib, kidsOf]
  by_cases h3 : k = 3
  · subst h3; simp [s0, r114, ib, kidsOf]
  by_cases h9 : k = 9
  · subst h9; simp [s0, r114, ib, kidsOf]
  by_cases h10 : k = 10
  · subst h10; simp [s0, r114, ib, kidsOf]
  by_cases h8 : k = 8
  · subst h8; simp [s0, r114, ib, kidsOf]
  by_cases h11 : k = 11
  · subst h11; simp [s0, r114, ib, kidsOf]
  by_cases h13 : k = 13
  · subst h13; simp [s0, r114, ib, kidsOf]
  by_cases h4 : k = 4
  · subst h4; simp [s0, r114, ib, kidsOf]
  by_cases h5 : k = 5
  · subst h5; simp [s0, r114, ib, kidsOf]
  by_cases h6 : k = 6
  · subst h6; simp [s0, r114, ib, kidsOf]
  by_cases h7 : k = 7
  · subst h7; simp [s0, r114, ib, kidsOf]
  by_cases h12 : k = 12
  · subst h12; simp [s0, r114, ib, kidsOf]
  have hk : kidsOf k = -1 := by
    have : ¬ (1 ≤ k ∧ k ≤ 13) := by omega
    simp [kidsOf, h1, h2, h3, h9, h10, h8, h11, h13, this]
  simp [s0, h1, h2, h3, h9, h10, h8, h11, h13, h4, h5, h6, h7, h12, r114, ib, hk]

theorem fn101 (x a b : Int) : Fn Try.prog 101 [ib x, ib a, ib b] (bb (decide (a ≤ x) && decide (x ≤ b))) := by
  refine fn_of (base := 101000) ok101 rfl fun σ h0 hr => ?_
  have s0 := h0 0
  have s1 := h0 1
  have s2 := h0 2
  rw [slots0] at s0
  rw [slots1] at s1
  rw [slots2] at s2
  simp only [ib] at s0 s1 s2
  clear h0 hr
  unfold c101
  simp [s0, s1, s2, r101, bb]

theorem bad_iff {k n : Int} {len : Nat} : badHead k n len = true ↔ ¬ ((len : Int) = kidsOf k ∧ 0 ≤ n ∧ n ≤ 65535 ∧ (0 < len → n = 0)) := by
  simp only [badHead, Bool.or_eq_true, Bool.and_eq_true, decide_eq_true_eq, Bool.not_eq_true', decide_eq_false_iff_not]
  omega

theorem fn67 (t : T) : Fn Try.prog 67 [tm t] (bb t.formed) := by
  induction t using T.ind with
  | h k n ts ih =>
  refine fn_of (base := 67000) ok67 rfl fun σ h0 hr => ?_
  have s0 := h0 0
  rw [slots0] at s0
  have hlen := real_kids (hr (tm (.mk k n ts)) (by simp))
  rw [kids_mk] at hlen
  simp only [tm, cells_mk] at s0
  clear h0 hr
  unfold c67
  by_cases hk : (ts.length : Int) = kidsOf k
  case neg =>
    have hb : badHead k n ts.length = true := bad_iff.2 fun h => hk h.1
    simp [s0]
    refine W_dregA ?_
    simp
    refine CallA.fn (fn114 k) (by simp [ib]) (by simp) rfl ?_
    simp [ib]
    refine realC_n ?_
    simp [hk, r67, bb, T.formed, hb]
  case pos =>
    have c114 := fn114 k
    rw [← hk] at c114
    simp [s0]
    refine W_dregA ?_
    simp
    refine CallA.fn c114 (by simp [ib]) (by simp) rfl ?_
    simp [ib]
    refine realC_n ?_
    simp
    refine GCall.fn (fun _ => fn101 n 0 65535) (by simp [ib]) (by simp) rfl fun _ => ?_
    simp [bb, r67]
    constructor
    · intro hb
      have hb' : badHead k n ts.length = true := bad_iff.2 fun h => by
        rcases hb with ⟨h1, h2⟩ | ⟨h1, h2⟩
        · have := h.2.1; have := h.2.2.1; omega
        · exact h2 (h.2.2.2 h1)
      simp [T.formed, hb']
    · intro hb1 hb2
      have hb' : badHead k n ts.length = false := by
        cases h : badHead k n ts.length with
        | false => rfl
        | true =>
          exfalso
          refine bad_iff.1 h ⟨hk, ?_⟩
          by_cases h0 : ts = []
          · have := hb1 h0
            subst h0
            exact ⟨by omega, by omega, fun h => by simp at h⟩
          · have := hb2 (List.length_pos_iff.2 h0)
            exact ⟨by omega, by omega, fun _ => this⟩
      refine W_loop (fun m σ => ∃ i : Nat, i + m = ts.length ∧ T.formedL (ts.drop i) = T.formedL ts ∧ σ.sl 1 = .c (.ref 67001 (σ.tg 67001) 0) ∧ σ.ob 67001 = some (.box 24 (T.mk k n ts).cells) ∧ σ.sl 3 = .c (.v (.int .i64 i))) ts.length ?_ ?_
      · exact ⟨0, by simp [cells_mk]⟩
      · rintro m σ ⟨i, hm, hp, q1, qo, q3⟩
        unfold c67b0
        simp only [cells_mk] at qo
        by_cases hi : i < ts.length
        · obtain ⟨t, ht⟩ := at_of hi
          obtain ⟨_, ht'⟩ := getE ht
          have w1 := wrap_succ (i := i) (by omega)
          rw [drop_at ht, T.formedL] at hp
          simp [q1, qo, q3, hi, ht']
          refine ECall.fn (ih t (List.mem_of_getElem? ht)) (by simp [tm]) (by simp) rfl fun _ => ?_
          simp [bb]
          constructor
          · intro hd
            simp [T.formed, hb', ← hp, hd]
          · intro hd
            rw [hd, Bool.true_and] at hp
            simp [q3]
            refine ⟨m - 1, by omega, i + 1, by omega, hp, ?_⟩
            simp [q1, qo, cells_mk, w1]
        · simp [q1, qo, q3, hi, T.formed, hb']
          rw [← hp, List.drop_eq_nil_of_le (by omega), T.formedL]

theorem fn27 (t : T) : Fn Try.prog 27 [tm t] (ib t.check) := by
  refine fn_of (base := 27000) ok27 rfl fun σ h0 hr => ?_
  have s0 := h0 0
  rw [slots0] at s0
  simp only [tm] at s0
  clear h0 hr
  unfold c27
  simp [s0]
  refine ECall.fn (fn28 t) (by simp [tm]) (by simp) rfl fun _ => ?_
  simp [ib]
  refine ⟨fun h1 => by simp [r27, h1, T.check], fun h1 => ?_⟩
  simp [show ¬ 6000 < t.size by omega]
  refine ECall.fn (fn29 t) (by simp [tm]) (by simp) rfl fun _ => ?_
  simp [ib]
  refine ⟨fun h2 => by simp [r27, h2, T.check, show ¬ 6000 < t.size by omega], fun h2 => ?_⟩
  simp [show ¬ 200 < t.depth by omega]
  refine ECall.fn (fn67 t) (by simp [tm]) (by simp) rfl fun _ => ?_
  simp [bb]
  refine ⟨fun h3 => by simp [r27, h3, T.check, show ¬ 6000 < t.size by omega, show ¬ 200 < t.depth by omega], fun h3 => by simp [r27, h3, T.check, show ¬ 6000 < t.size by omega, show ¬ 200 < t.depth by omega]⟩
end Go.Abs
