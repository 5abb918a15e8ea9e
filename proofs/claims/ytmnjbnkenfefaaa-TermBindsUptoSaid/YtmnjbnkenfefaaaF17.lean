/- THIS TEXT PROVES WHAT SOME FUNCTIONS OF THE PROGRAM COMPUTE, IN THE CALCULUS: for every argument that is told. -/
import Derived.Test.YtmnjbnkenfefaaaT1
import Derived.Test.YtmnjbnkenfefaaaSC1
import Derived.Test.YtmnjbnkenfefaaaF20
set_option linter.unusedVariables false
set_option linter.unusedSimpArgs false
namespace Go.Abs
open Go.Proofs

def heavyL : Int → List T → Bool
  | n, [] => decide (9000 < n)
  | n, t :: ts => if 300 < t.depth then true else heavyL (IntKind.wrap .i64 (n + t.size)) ts
def heavy (ts : List T) : Bool := if 60 < ts.length then true else heavyL 0 ts

theorem fn17 (ts : List T) : Fn Try.prog 17 [tms ts] (bb (heavy ts)) := by
  refine fn_of (base := 17000) ok17 rfl fun σ h0 hr => ?_
  have s0 := h0 0
  rw [slots0] at s0
  have hlen := real_tms (hr (tms ts) (by simp))
  simp only [tms] at s0
  clear h0 hr
  unfold c17
  by_cases h60 : 60 < ts.length
  · have h60' : (60 : Int) < ts.length := by omega
    simp [s0, h60', r17, bb, heavy, h60]
  · have h60' : ¬ (60 : Int) < ts.length := by omega
    simp [s0, h60']
    refine W_loop (fun m σ => ∃ (i : Nat) (a : Int), i + m = ts.length ∧ heavyL a (ts.drop i) = heavyL 0 ts ∧ σ.sl 3 = ib a ∧ σ.sl 0 = tms ts ∧ σ.sl 4 = ib i) ts.length ?_ ?_
    · exact ⟨0, 0, by simp [ib, tms, s0]⟩
    · rintro m σ ⟨i, a, hm, hp, q3, q0, q4⟩
      unfold c17b0
      simp only [tms, ib] at q3 q0 q4
      by_cases hi : i < ts.length
      · obtain ⟨t, ht⟩ := at_of hi
        obtain ⟨_, ht'⟩ := getE ht
        have w1 := wrap_succ (i := i) (by omega)
        rw [drop_at ht, heavyL] at hp
        simp [q3, q0, q4, hi, ht']
        refine ECall.fn (fn29 t) (by simp [tm]) (by simp) rfl fun _ => ?_
        simp [ib, q3, q4]
        constructor
        · intro hd
          rw [if_pos hd] at hp
          simp [r17, bb, heavy, h60, ← hp]
        · intro hd
          have hd' : ¬ 300 < t.depth := by omega
          rw [if_neg hd'] at hp
          simp [q3, q0, q4, hi, ht']
          refine ECall.fn (fn28 t) (by simp [tm]) (by simp) rfl fun _ => ?_
          simp [ib, q3, q4]
          refine ⟨m - 1, by omega, i + 1, by omega, _, hp, ?_⟩
          simp [q0, tms, w1]
      · simp [q3, q0, q4, hi, r17, bb, heavy, h60]
        rw [← hp, List.drop_eq_nil_of_le (by omega), heavyL]

theorem fn64 {ts : List T} (h19 : ∀ t, t ∈ ts → Fn Try.prog 19 [tm t] (tm t)) : Fn Try.prog 64 [tms ts] (tms ts) := by
  refine fn_of (base := 64000) ok64 rfl fun σ h0 hr => ?_
  have s0 := h0 0
  rw [slots0] at s0
  have hlen := real_tms (hr (tms ts) (by simp))
  simp only [tms] at s0
  clear h0 hr
  unfold c64
  simp [s0]
  refine W_loop (fun m σ => ∃ (i : Nat), i + m = ts.length ∧ ((i = 0 ∧ σ.sl 3 = .c (.cap 3 40 [])) ∨ (0 < i ∧ σ.sl 3 = .c (.own 64018 (σ.tg 64018)) ∧ σ.ob 64018 = some (.row 24 3 40 ((ts.take i).map T.cells)))) ∧ σ.sl 0 = tms ts ∧ σ.sl 4 = ib i) ts.length ?_ ?_
  · exact ⟨0, by simp [ib, tms, s0]⟩
  · rintro m σ ⟨i, hm, hp, q0, q4⟩
    unfold c64b0
    simp only [tms, ib] at q0 q4
    by_cases hi : i < ts.length
    · obtain ⟨t, ht⟩ := at_of hi
      obtain ⟨_, ht'⟩ := getE ht
      have w1 := wrap_succ (i := i) (by omega)
      have htake : (ts.map T.cells).take i ++ [t.cells] = (ts.map T.cells).take (i + 1) := by
        rw [List.take_add_one, List.getElem?_map, ht]; simp
      have hroom : (i + 1) * 40 ≤ room := by simp only [room]; omega
      have hmin : min i ts.length = i := by omega
      rcases hp with ⟨h1, q3⟩ | ⟨h1, q3, qo⟩
      · subst h1
        simp [q3, q0, q4, hi, ht']
        refine ECall.fn (h19 t (List.mem_of_getElem? ht)) (by simp [tm]) (by simp [tm]) (by simp [tm, AV.keys2, AV.keys1]) fun _ => ?_
        simp [tm, q3, q4, room, AV.keys1, keysCs]
        refine ⟨fun x hx => cells_isD' t x hx, m - 1, by omega, 1, by omega, ⟨by omega, by simpa using htake⟩, ?_⟩
        simp at w1
        simp [q0, w1, ib, tms]
      · simp [q3, q0, q4, hi, ht']
        refine ECall.fn (h19 t (List.mem_of_getElem? ht)) (by simp [tm]) (by simp [tm]) (by simp [tm, AV.keys2, AV.keys1]) fun _ => ?_
        simp [tm, q3, q4, qo, hmin, hroom]
        refine ⟨⟨fun x hx => cells_isD' t x hx, by simp [room]⟩, m - 1, by omega, i + 1, by omega, ⟨by omega, htake⟩, ?_⟩
        simp [q0, w1, ib, tms]
    · simp [q0, q4, hi, r64]
      rcases hp with ⟨h1, q3⟩ | ⟨h1, q3, qo⟩
      · have : ts = [] := List.length_eq_zero_iff.1 (by omega)
        simp [q3, this, tms]
      · have : ts.take i = ts := List.take_of_length_le (by omega)
        simp [q3, qo, tms, this]
theorem fn19 (t : T) : Fn Try.prog 19 [tm t] (tm t) := by
  induction t using T.ind with
  | h k n ts ih =>
  have h64 := fn64 ih
  refine fn_of (base := 19000) ok19 rfl fun σ h0 hr => ?_
  have s0 := h0 0
  rw [slots0] at s0
  simp only [tm, cells_mk] at s0
  clear h0 hr
  unfold c19
  simp [s0]
  refine W_dregA ?_
  simp
  refine CallA.fn h64 (by simp [tms]) (by simp) rfl ?_
  simp [tms]
  refine ⟨rfl, realC_n ?_⟩
  simp [r19, tm, cells_mk]
end Go.Abs
