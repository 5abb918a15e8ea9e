/- THIS TEXT PROVES WHAT SOME FUNCTIONS OF THE PROGRAM COMPUTE, IN THE CALCULUS: for every argument that is told. -/
import Derived.Test.YtmnjbnkenfefaaaF22
set_option linter.unusedVariables false
set_option linter.unusedSimpArgs false
namespace Go.Abs
open Go.Proofs

theorem fn24 (n : Int) : Fn Try.prog 24 [ib n] (tm (.mk 2 n [])) := by
  refine fn_of (base := 24000) ok24 rfl fun σ h0 hr => ?_
  have s0 := h0 0
  rw [slots0] at s0
  simp only [ib] at s0
  clear h0 hr
  unfold c24
  simp [s0, r24, tm, cells_mk]

theorem fn66 (n : Int) : Fn Try.prog 66 [ib n] (tm (.mk 1 n [])) := by
  refine fn_of (base := 66000) ok66 rfl fun σ h0 hr => ?_
  have s0 := h0 0
  rw [slots0] at s0
  simp only [ib] at s0
  clear h0 hr
  unfold c66
  simp [s0, r66, tm, cells_mk]

theorem fn25 (k : Int) (ts : List T) : Fn Try.prog 25 [ib k, tms ts] (tm (.mk k 0 ts)) := by
  refine fn_of (base := 25000) ok25 rfl fun σ h0 hr => ?_
  have s0 := h0 0
  have s1 := h0 1
  rw [slots0] at s0
  rw [slots1] at s1
  have hlen := real_tms (hr (tms ts) (by simp))
  simp only [ib, tms] at s0 s1
  clear h0 hr
  unfold c25
  simp [s0, s1, r25, tm, cells_mk, room, hlen]

def idxI (x : Int) : Int → List Int → Int
  | _, [] => -1
  | i, n :: ns => if x = n then i else idxI x (i + 1) ns
theorem idxI_any {x : Int} : ∀ {ns : List Int} {i : Int}, 0 ≤ i → decide (0 ≤ idxI x i ns) = decide (x ∈ ns)
  | [], i, h => by simp [idxI]
  | n :: ns, i, h => by
    simp only [idxI]
    by_cases hp : x = n
    · simp [hp, h]
    · simp [hp]
      have := idxI_any (x := x) (ns := ns) (i := i + 1) (by omega)
      simpa using this

theorem fn115 (ns : List Int) (x : Int) : Fn Try.prog 115 [is ns, ib x] (ib (idxI x 0 ns)) := by
  refine fn_of (base := 115000) ok115 rfl fun σ h0 hr => ?_
  have s0 := h0 0
  have s1 := h0 1
  rw [slots0] at s0
  rw [slots1] at s1
  have hlen := real_is (hr (is ns) (by simp))
  simp only [ib, is] at s0 s1
  clear h0 hr
  unfold c115
  simp [s0, s1]
  refine W_loop (fun m σ => ∃ (i : Nat), i + m = ns.length ∧ idxI x i (ns.drop i) = idxI x 0 ns ∧ σ.sl 0 = is ns ∧ σ.sl 1 = ib x ∧ σ.sl 7 = ib ns.length ∧ σ.sl 8 = ib i) ns.length ?_ ?_
  · exact ⟨0, by simp [ib, is, s0, s1]⟩
  · rintro m σ ⟨i, hm, hp, q0, q1, q7, q8⟩
    unfold c115b0
    simp only [is, ib] at q0 q1 q7 q8
    by_cases hi : i < ns.length
    · obtain ⟨t, ht⟩ := at_of hi
      obtain ⟨_, ht'⟩ := getE ht
      have w1 := wrap_succ (i := i) (by omega)
      rw [drop_at ht, idxI] at hp
      by_cases hx : x = t
      · rw [if_pos hx] at hp
        subst hx
        simp [q0, q1, q7, q8, hi, ht', r115, ib, ← hp]
      · rw [if_neg hx] at hp
        simp [q0, q1, q7, q8, hi, ht', hx]
        refine ⟨m - 1, by omega, i + 1, by omega, by simpa using hp, ?_⟩
        simp [is, ib, w1]
    · simp [q0, q1, q7, q8, hi, r115, ib]
      rw [← hp, List.drop_eq_nil_of_le (by omega), idxI]

theorem fn69 (ns : List Int) (x : Int) : Fn Try.prog 69 [is ns, ib x] (bb (decide (x ∈ ns))) := by
  refine fn_of (base := 69000) ok69 rfl fun σ h0 hr => ?_
  have s0 := h0 0
  have s1 := h0 1
  rw [slots0] at s0
  rw [slots1] at s1
  simp only [ib, is] at s0 s1
  clear h0 hr
  unfold c69
  simp [s0, s1]
  refine ECall.fn (fn115 ns x) (by simp [is, ib]) (by simp) rfl fun _ => ?_
  simp [r69, bb, ib, ← idxI_any (x := x) (ns := ns) (i := 0)]

theorem fn31 (k i : Int) : Fn Try.prog 31 [ib k, ib i] (ib (bindsOf k i)) := by
  refine fn_of (base := 31000) ok31 rfl fun σ h0 hr => ?_
  have s0 := h0 0
  have s1 := h0 1
  rw [slots0] at s0
  rw [slots1] at s1
  simp only [ib] at s0 s1
  clear h0 hr
  unfold c31
  simp [s0, s1, room]
  refine GCall.fn (fun _ => fn69 [4, 5, 7] k) (by simp [is, ib]) (by simp) rfl fun _ => ?_
  simp [bb, r31, ib, bindsOf]
  intro h1 h2
  exact ⟨h1, by omega⟩

theorem fn68 (t : T) (a b : Int) : Fn Try.prog 68 [tm t, ib a, ib b] (bb (t.within a b)) := by
  induction t using T.ind generalizing a b with
  | h k n ts ih =>
  refine fn_of (base := 68000) ok68 rfl fun σ h0 hr => ?_
  have s0 := h0 0
  have s1 := h0 1
  have s2 := h0 2
  rw [slots0] at s0
  rw [slots1] at s1
  rw [slots2] at s2
  have hlen := real_kids (hr (tm (.mk k n ts)) (by simp))
  rw [kids_mk] at hlen
  simp only [tm, cells_mk, ib] at s0 s1 s2
  clear h0 hr
  unfold c68
  by_cases h1 : k = 1
  · subst h1; simp [s0, s1, s2, r68, bb, T.within]
  by_cases h2 : k = 2
  · subst h2; simp [s0, s1, s2, r68, bb, T.within]
  by_cases h3 : k = 3
  · subst h3; simp [s0, s1, s2, r68, bb, T.within]
  simp [s0, s1, s2, h1, h2, h3]
  refine W_loop (fun m σ => ∃ (i : Nat), i + m = ts.length ∧ T.withinL k a b i (ts.drop i) = T.withinL k a b 0 ts ∧ σ.sl 1 = ib a ∧ σ.sl 2 = ib b ∧ σ.sl 3 = .c (.ref 68003 (σ.tg 68003) 0) ∧ σ.ob 68003 = some (.box 24 (T.mk k n ts).cells) ∧ σ.sl 29 = tms ts ∧ σ.sl 30 = ib ts.length ∧ σ.sl 31 = ib i) ts.length ?_ ?_
  · exact ⟨0, by simp [ib, tms, cells_mk, s1, s2]⟩
  · rintro m σ ⟨i, hm, hp, q1, q2, q3, qo, q29, q30, q31⟩
    unfold c68b0
    simp only [tms, ib, cells_mk] at q1 q2 q3 qo q29 q30 q31
    by_cases hi : i < ts.length
    · obtain ⟨t, ht⟩ := at_of hi
      obtain ⟨_, ht'⟩ := getE ht
      have w1 := wrap_succ (i := i) (by omega)
      rw [drop_at ht, T.withinL] at hp
      simp [q1, q2, q3, qo, q29, q30, q31, hi, ht']
      refine W_dregA ?_
      simp [q1, q2, q3, qo, q29, q30, q31, hi, ht']
      refine CallA.fn (fn31 k i) (by simp [ib]) (by simp) rfl ?_
      simp [ib, q1, q2]
      refine CallA.fn (ih t (List.mem_of_getElem? ht) (IntKind.wrap .i64 (a + bindsOf k i)) b) (by simp [ib, tm]) (by simp) rfl ?_
      simp [bb]
      refine realC_n ?_
      simp
      constructor
      · intro hd
        simp [r68, ← hp, hd, T.within, h1, h2, h3]
      · intro hd
        rw [hd, Bool.true_and] at hp
        simp [q31]
        refine ⟨m - 1, by omega, i + 1, by omega, by simpa using hp, ?_⟩
        simp [q1, q2, q3, qo, q29, q30, tms, ib, w1, cells_mk]
    · simp [q1, q2, q3, qo, q29, q30, q31, hi, r68, bb, T.within, h1, h2, h3]
      rw [← hp, List.drop_eq_nil_of_le (by omega), T.withinL]

theorem fn30 (t : T) (a b : Int) : Fn Try.prog 30 [tm t, ib a, ib b] (bb (t.scope a b)) := by
  refine fn_of (base := 30000) ok30 rfl fun σ h0 hr => ?_
  have s0 := h0 0
  have s1 := h0 1
  have s2 := h0 2
  rw [slots0] at s0
  rw [slots1] at s1
  rw [slots2] at s2
  simp only [tm, ib] at s0 s1 s2
  clear h0 hr
  unfold c30
  simp [s0, s1, s2]
  refine GCall.fn (fun _ => fn22 t) (by simp [tm]) (by simp) rfl fun _ => ?_
  simp [ib, s1, s2]
  refine GCall.fn (fun _ => fn68 t (best2 false a 65536) b) (by simp [tm, ib]) (by simp) rfl fun _ => ?_
  simp [bb, r30, T.scope]
end Go.Abs
