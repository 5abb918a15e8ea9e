/- THIS TEXT PROVES WHAT SOME FUNCTIONS OF THE PROGRAM COMPUTE, IN THE CALCULUS: for every argument that is told. -/
import Derived.Test.YtmnjbnkenfefaaaT1
import Derived.Test.YtmnjbnkenfefaaaSC1
import Derived.Test.YtmnjbnkenfefaaaSC2
import Derived.Test.YtmnjbnkenfefaaaSC3
import Derived.Test.YtmnjbnkenfefaaaF20
set_option linter.unusedVariables false
set_option linter.unusedSimpArgs false
namespace Go.Abs
open Go.Proofs

theorem fn111 (k : Int) : Fn Try.prog 111 [ib k] (bb (decide (1 ≤ k) && decide (k ≤ 13))) := by
  refine fn_of (base := 111000) ok111 rfl fun σ h0 hr => ?_
  have s0 := h0 0
  rw [slots0] at s0
  simp only [ib] at s0
  clear h0 hr
  unfold c111
  simp [s0, r111, bb]

set_option maxHeartbeats 2000000 in
theorem fn62 (k : Int) : Fn Try.prog 62 [ib k] (ib (kidsOf k)) := by
  refine fn_of (base := 62000) ok62 rfl fun σ h0 hr => ?_
  have s0 := h0 0
  rw [slots0] at s0
  simp only [ib] at s0
  clear h0 hr
  unfold c62
  by_cases h1 : k = 1
  · subst h1; simp [s0, r62, ib, kidsOf]
  by_cases h2 : k = 2
  · subst h2; simp [s0, r62, ib, kidsOf]
  by_cases h3 : k = 3
  · subst h3; simp [s0, r62, ib, kidsOf]
  by_cases h9 : k = 9
  · subst h9; simp [s0, r62, ib, kidsOf]
  by_cases h10 : k = 10
  · subst h10; simp [s0, r62, ib, kidsOf]
  by_cases h8 : k = 8
  · subst h8; simp [s0, r62, ib, kidsOf]
  by_cases h11 : k = 11
  · subst h11; simp [s0, r62, ib, kidsOf]
  by_cases h13 : k = 13
  · subst h13; simp [s0, r62, ib, kidsOf]
  simp [s0, h1, h2, h3, h9, h10, h8, h11, h13]
  refine ECall.fn (fn111 k) (by simp [ib]) (by simp) rfl fun _ => ?_
  simp [bb, r62, ib, kidsOf, h1, h2, h3, h9, h10, h8, h11, h13]

def idx {α : Type} (p : α → Bool) : Int → List α → Int
  | _, [] => -1
  | i, t :: ts => if p t then i else idx p (i + 1) ts
theorem idx_any {α : Type} {p : α → Bool} : ∀ {ts : List α} {i : Int}, 0 ≤ i → decide (0 ≤ idx p i ts) = ts.any p
  | [], i, h => by simp [idx]
  | t :: ts, i, h => by
    simp only [idx, List.any_cons]
    by_cases hp : p t
    · simp [hp, h]
    · simp [hp]
      have := idx_any (p := p) (ts := ts) (i := i + 1) (by omega)
      simpa using this

theorem fn124 {f : Nat} {p : T → Bool} {ts : List T} (hf : ∀ t, t ∈ ts → Fn Try.prog f [tm t] (bb (p t))) : Fn Try.prog 124 [tms ts, .c (.clo f [] [])] (ib (idx p 0 ts)) := by
  refine fn_of (base := 124000) ok124 rfl fun σ h0 hr => ?_
  have s0 := h0 0
  have s1 := h0 1
  rw [slots0] at s0
  rw [slots1] at s1
  have hlen := real_tms (hr (tms ts) (by simp))
  simp only [tms] at s0
  clear h0 hr
  unfold c124
  simp [s0, s1]
  refine W_loop (fun m σ => ∃ (i : Nat), i + m = ts.length ∧ idx p i (ts.drop i) = idx p 0 ts ∧ σ.sl 0 = tms ts ∧ σ.sl 1 = .c (.clo f [] []) ∧ σ.sl 7 = ib ts.length ∧ σ.sl 8 = ib i) ts.length ?_ ?_
  · exact ⟨0, by simp [ib, tms, s0, s1]⟩
  · rintro m σ ⟨i, hm, hp, q0, q1, q7, q8⟩
    unfold c124b0
    simp only [tms, ib] at q0 q1 q7 q8
    by_cases hi : i < ts.length
    · obtain ⟨t, ht⟩ := at_of hi
      obtain ⟨_, ht'⟩ := getE ht
      have w1 := wrap_succ (i := i) (by omega)
      rw [drop_at ht, idx] at hp
      simp [q0, q1, q7, q8, hi, ht']
      refine ECall.fn (hf t (List.mem_of_getElem? ht)) (by simp [tm]) (by simp) rfl fun _ => ?_
      simp [bb, q8]
      constructor
      · intro hd
        rw [if_pos hd] at hp
        simp [r124, ib, ← hp]
      · intro hd
        rw [if_neg (by simp [hd])] at hp
        refine ⟨m - 1, by omega, i + 1, by omega, by simpa using hp, ?_⟩
        simp [q0, q1, q7, tms, ib, w1]
    · simp [q0, q1, q7, q8, hi, r124, ib]
      rw [← hp, List.drop_eq_nil_of_le (by omega), idx]

theorem fn112 {f : Nat} {p : T → Bool} {ts : List T} (hf : ∀ t, t ∈ ts → Fn Try.prog f [tm t] (bb (p t))) : Fn Try.prog 112 [tms ts, .c (.clo f [] [])] (bb (ts.any p)) := by
  refine fn_of (base := 112000) ok112 rfl fun σ h0 hr => ?_
  have s0 := h0 0
  have s1 := h0 1
  rw [slots0] at s0
  rw [slots1] at s1
  simp only [tms] at s0
  clear h0 hr
  unfold c112
  simp [s0, s1]
  refine ECall.fn (fn124 hf) (by simp [tms]) (by simp) rfl fun _ => ?_
  simp [r112, bb, ib, ← idx_any (p := p) (ts := ts) (i := 0)]

theorem fn113 {t : T} (h65 : Fn Try.prog 65 [tm t] (bb t.formed)) : Fn Try.prog 113 [tm t] (bb (!t.formed)) := by
  refine fn_of (base := 113000) ok113 rfl fun σ h0 hr => ?_
  have s0 := h0 0
  rw [slots0] at s0
  simp only [tm] at s0
  clear h0 hr
  unfold c113
  simp [s0]
  refine ECall.fn h65 (by simp [tm]) (by simp) rfl fun _ => ?_
  simp [r113, bb]

theorem fn65 (t : T) : Fn Try.prog 65 [tm t] (bb t.formed) := by
  induction t using T.ind with
  | h k n ts ih =>
  have h112 := fn112 (ts := ts) (p := fun t => !t.formed) fun t ht => fn113 (ih t ht)
  refine fn_of (base := 65000) ok65 rfl fun σ h0 hr => ?_
  have s0 := h0 0
  rw [slots0] at s0
  simp only [tm, cells_mk] at s0
  clear h0 hr
  unfold c65
  simp [s0]
  refine ECall.fn (fn62 k) (by simp [ib]) (by simp) rfl fun _ => ?_
  simp [ib, r65, bb]
  refine ⟨fun hb => ?_, fun h1 h2 h3 h4 h5 => ?_⟩
  · have hb' : badHead k n ts.length = true := by simp [badHead]; exact hb
    simp [T.formed, hb']
  · have hb' : badHead k n ts.length = false := by simp [badHead]; exact ⟨⟨⟨⟨h1, h2⟩, h3⟩, h4⟩, h5⟩
    refine ECall.fn h112 (by simp [tms]) (by simp) rfl fun _ => ?_
    simp [bb, T.formed, hb', formedL_all]
    exact (List.not_all_eq_any_not ..).symm

theorem fn22 (t : T) : Fn Try.prog 22 [tm t] (ib t.check) := by
  refine fn_of (base := 22000) ok22 rfl fun σ h0 hr => ?_
  have s0 := h0 0
  rw [slots0] at s0
  simp only [tm] at s0
  clear h0 hr
  unfold c22
  simp [s0]
  refine ECall.fn (fn20 t) (by simp [tm]) (by simp) rfl fun _ => ?_
  simp [ib]
  refine ⟨fun h1 => by simp [r22, h1, T.check], fun h1 => ?_⟩
  simp [show ¬ 6000 < t.size by omega]
  refine ECall.fn (fn21 t) (by simp [tm]) (by simp) rfl fun _ => ?_
  simp [ib]
  refine ⟨fun h2 => by simp [r22, h2, T.check, show ¬ 6000 < t.size by omega], fun h2 => ?_⟩
  simp [show ¬ 200 < t.depth by omega]
  refine ECall.fn (fn65 t) (by simp [tm]) (by simp) rfl fun _ => ?_
  simp [bb]
  refine ⟨fun h3 => by simp [r22, h3, T.check, show ¬ 6000 < t.size by omega, show ¬ 200 < t.depth by omega], fun h3 => by simp [r22, h3, T.check, show ¬ 6000 < t.size by omega, show ¬ 200 < t.depth by omega]⟩
end Go.Abs
