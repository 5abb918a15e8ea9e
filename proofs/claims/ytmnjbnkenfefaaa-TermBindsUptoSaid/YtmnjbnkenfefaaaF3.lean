/- THIS TEXT PROVES WHAT SOME FUNCTIONS OF THE PROGRAM COMPUTE, IN THE CALCULUS: for every argument that is told. -/
import Derived.Test.YtmnjbnkenfefaaaF63
import Derived.Test.YtmnjbnkenfefaaaF17
import Derived.Test.YtmnjbnkenfefaaaF30
import Derived.Test.YtmnjbnkenfefaaaSC4
set_option linter.unusedVariables false
set_option linter.unusedSimpArgs false
namespace Go.Abs
open Go.Proofs

theorem eqb_eq (t u : T) : T.eqb t u = true ↔ t = u := by
  induction t using T.ind generalizing u with
  | h k n ts ih =>
  obtain ⟨k', n', us⟩ := u
  have key : ∀ (ts us : List T), (∀ t, t ∈ ts → ∀ u, T.eqb t u = true ↔ t = u) → (T.eqbL ts us = true ↔ ts = us) := by
    intro ts
    induction ts with
    | nil => intro us _; cases us <;> simp [T.eqbL]
    | cons t ts ih2 =>
      intro us h
      cases us with
      | nil => simp [T.eqbL]
      | cons u us =>
        simp only [T.eqbL, Bool.and_eq_true, List.cons.injEq]
        rw [h t (by simp) u, ih2 us fun t ht => h t (by simp [ht])]
  simp only [T.eqb, Bool.and_eq_true, decide_eq_true_eq, T.mk.injEq]
  rw [key ts us ih]
  exact ⟨fun h => ⟨h.1.1, h.1.2, h.2⟩, fun h => ⟨⟨h.1, h.2.1⟩, h.2.2⟩⟩
theorem eqb_self (t : T) : T.eqb t t = true := (eqb_eq t t).2 rfl

def wk : T := .mk 5 0 [.mk 2 0 [], .mk 1 0 []]

theorem wk_size : wk.size = 3 := by simp [wk, T.size, T.sizeL, IntKind.wrap, IntKind.bits, IntKind.signed]
theorem wk_depth : wk.depth = 2 := by simp [wk, T.depth, T.depthL, best2, IntKind.wrap, IntKind.bits, IntKind.signed]
theorem wk_check : wk.check = 0 := by
  have h : wk.formed = true := by simp [wk, T.formed, T.formedL, badHead, kidsOf]
  simp [T.check, wk_size, wk_depth, h]
theorem v_check : (T.mk 1 0 []).check = 0 := by
  simp [T.check, T.size, T.sizeL, T.depth, T.depthL, best2, T.formed, T.formedL, badHead, kidsOf, IntKind.wrap, IntKind.bits, IntKind.signed]
theorem wk_scope : wk.scope 0 0 = true := by
  simp [T.scope, wk_check]
  simp [wk, T.within, T.withinL, best2, bindsOf, IntKind.wrap, IntKind.bits, IntKind.signed]
theorem v_scope : (T.mk 1 0 []).scope 0 0 = false := by
  simp [T.scope, v_check, T.within, best2]

theorem fn23 : Fn Try.prog 23 [] (bb true) := by
  refine fn_of (base := 23000) ok23 rfl fun σ h0 hr => ?_
  clear h0 hr
  have c22 := fn22 wk
  rw [wk_check] at c22
  have c20 := fn20 wk
  rw [wk_size] at c20
  have c21 := fn21 wk
  rw [wk_depth] at c21
  have c30 := fn30 wk 0 0
  rw [wk_scope] at c30
  have c30v := fn30 (.mk 1 0 []) 0 0
  rw [v_scope] at c30v
  have c18 := fn18 wk wk
  rw [eqb_self] at c18
  unfold c23
  simp
  refine ECall.fn (fn24 0) (by simp [ib]) (by simp) (by simp [tm, AV.keys2, AV.keys1]) fun _ => ?_
  simp
  refine ECall.fn (fn66 0) (by simp [ib]) (by simp) (by simp [tm, AV.keys2, AV.keys1]) fun _ => ?_
  simp [tm, room]
  refine ⟨⟨fun x hx => cells_isD' _ x hx, fun x hx => cells_isD' _ x hx⟩, ?_⟩
  refine ECall.fn (fn25 5 [.mk 2 0 [], .mk 1 0 []]) (by simp [ib, tms]) (by simp) (by simp [tm, AV.keys2, AV.keys1]) fun _ => ?_
  simp [tm]
  refine ECall.fn c22 (by simp [tm, wk]) (by simp) rfl fun _ => ?_
  simp [ib]
  refine GCall.fn (fun _ => c20) (by simp [tm, wk]) (by simp) rfl fun _ => ?_
  simp [ib]
  refine GCall.fn (fun _ => c21) (by simp [tm, wk]) (by simp) rfl fun _ => ?_
  simp [ib]
  refine GCall.fn (fun _ => c30) (by simp [tm, wk, ib]) (by simp) rfl fun _ => ?_
  simp [bb]
  refine GCall.fn (fun _ => fn66 0) (by simp [ib]) (by simp) (by simp [tm, AV.keys2, AV.keys1]) fun _ => ?_
  simp [tm]
  refine GCall.fn (fun _ => c30v) (by simp [tm, ib]) (by simp) rfl fun _ => ?_
  simp [bb]
  refine GCall.fn (fun _ => c18) (by simp [tm, wk]) (by simp) rfl fun _ => ?_
  simp [bb, r23]

theorem wrap_ne (n : Int) : IntKind.wrap .i64 (n + 1) ≠ n := by
  simp only [IntKind.wrap, IntKind.bits, IntKind.signed, Bool.true_and]
  intro h
  have h1 := Int.emod_nonneg (n + 1) (b := 2 ^ 64) (by omega)
  have h2 := Int.emod_lt_of_pos (n + 1) (b := 2 ^ 64) (by omega)
  have h3 := Int.mul_ediv_add_emod (n + 1) (2 ^ 64)
  split at h <;> omega

theorem fn3 (t u : T) : Fn Try.prog 3 [tm t, tm u] (bb true) := by
  refine fn_of (base := 3000) ok3 rfl fun σ h0 hr => ?_
  have s0 := h0 0
  have s1 := h0 1
  rw [slots0] at s0
  rw [slots1] at s1
  simp only [tm] at s0 s1
  clear h0 hr
  have c1 := fn18 t t
  rw [eqb_self] at c1
  unfold c3
  simp [s0, s1, room]
  refine ⟨⟨fun x hx => cells_isD' _ x hx, fun x hx => cells_isD' _ x hx⟩, ?_⟩
  refine ECall.fn (fn17 [t, u]) (by simp [tms]) (by simp) rfl fun _ => ?_
  simp [bb]
  refine ⟨fun hh => by simp [r3, hh], fun hh => ?_⟩
  simp [hh]
  refine W_dregA ?_
  simp
  refine CallA.fn (fn19 t) (by simp [tm]) (by simp) (by simp [tm, AV.keys2, AV.keys1]) ?_
  simp [tm]
  refine CallA.fn c1 (by simp [tm]) (by simp) rfl ?_
  simp [bb]
  refine GCallA.fn (fun _ => fn18 t u) (by simp [tm]) (by simp) rfl ?_
  simp [bb]
  refine GCallA.fn (fun _ => fn18 u t) (by simp [tm]) (by simp) rfl ?_
  simp [bb]
  refine realC_n ?_
  have hsym : T.eqb u t = T.eqb t u := by
    cases h1 : T.eqb t u with
    | true => rw [(eqb_eq t u).1 h1]; exact eqb_self u
    | false =>
      cases h2 : T.eqb u t with
      | false => rfl
      | true => rw [(eqb_eq u t).1 h2, eqb_self] at h1; cases h1
  have c4 := fn18 t u
  simp [hsym]
  refine W_dregA ?_
  simp
  refine CallA.fn c4 (by simp [tm]) (by simp) rfl ?_
  simp [bb]
  refine GCallA.fn (fun _ => fn20 t) (by simp [tm]) (by simp) rfl ?_
  simp [ib]
  refine GCallA.fn (fun _ => fn20 u) (by simp [tm]) (by simp) rfl ?_
  simp [ib]
  refine GCallA.fn (fun _ => fn21 t) (by simp [tm]) (by simp) rfl ?_
  simp [ib]
  refine GCallA.fn (fun _ => fn21 u) (by simp [tm]) (by simp) rfl ?_
  simp [ib]
  refine GCallA.fn (fun _ => fn22 t) (by simp [tm]) (by simp) rfl ?_
  simp [ib]
  refine GCallA.fn (fun _ => fn22 u) (by simp [tm]) (by simp) rfl ?_
  simp [ib]
  refine realC_n ?_
  have hall : (T.eqb t u && (!decide (t.size = u.size) || !decide (t.depth = u.depth) || !decide (t.check = u.check))) = false := by
    cases h1 : T.eqb t u with
    | true => rw [(eqb_eq t u).1 h1]; simp
    | false => rfl
  simp [hall]
  refine ECall.fn (fn19 t) (by simp [tm]) (by simp) (by simp [tm, AV.keys2, AV.keys1]) fun _ => ?_
  have hne : T.eqb t (.mk t.kind (IntKind.wrap .i64 (t.val + 1)) t.kids) = false := by
    cases h : T.eqb t (.mk t.kind (IntKind.wrap .i64 (t.val + 1)) t.kids) with
    | false => rfl
    | true =>
      have := congrArg T.val ((eqb_eq _ _).1 h)
      exact absurd this.symm (wrap_ne _)
  have c5 := fn18 t (.mk t.kind (IntKind.wrap .i64 (t.val + 1)) t.kids)
  rw [hne] at c5
  simp only [tm]
  rw [cells_eq t]
  simp
  refine ECall.fn c5 (by simp [tm, cells_eq]) (by simp) rfl fun _ => ?_
  simp [bb]
  refine GCall.fn (fun _ => fn23) (by simp) (by simp) rfl fun _ => ?_
  simp [bb, r3]
end Go.Abs
