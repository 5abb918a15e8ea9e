/- THIS TEXT PROVES WHAT SOME FUNCTIONS OF THE PROGRAM COMPUTE, IN THE CALCULUS: for every argument that is told. -/
import Derived.Test.YtmnjbnkenfefaaaT1
import Derived.Test.YtmnjbnkenfefaaaSC1
set_option linter.unusedVariables false
set_option linter.unusedSimpArgs false
namespace Go.Abs
open Go.Proofs

def all2 {α : Type} (p : α → α → Bool) : List α → List α → Bool
  | [], [] => true
  | t :: ts, u :: us => p t u && all2 p ts us
  | _, _ => false

theorem all2_len {α : Type} {p : α → α → Bool} : ∀ {ts us : List α}, ts.length ≠ us.length → all2 p ts us = false
  | [], [], h => absurd rfl h
  | t :: ts, u :: us, h => by simp [all2, all2_len (p := p) (ts := ts) (us := us) (by simpa using h)]
  | [], _ :: _, _ => rfl
  | _ :: _, [], _ => rfl
theorem all2_at {α : Type} {p : α → α → Bool} : ∀ {ts us : List α} {i : Nat} {t u : α}, ts.length = us.length → ts[i]? = some t → us[i]? = some u → (all2 p (ts.drop i) (us.drop i) = (p t u && all2 p (ts.drop (i + 1)) (us.drop (i + 1))))
  | t :: ts, u :: us, 0, t', u', _, h1, h2 => by simp at h1 h2; subst h1; subst h2; simp [all2]
  | t :: ts, u :: us, i + 1, t', u', hl, h1, h2 => by simpa using all2_at (p := p) (by simpa using hl) (by simpa using h1) (by simpa using h2)
  | [], _, _, _, _, _, h1, _ => by simp at h1
  | _ :: _, [], _, _, _, _, _, h2 => by simp at h2

theorem fn63 {f : Nat} {p : T → T → Bool} {ts us : List T} (hf : ∀ t, t ∈ ts → ∀ u, Fn Try.prog f [tm t, tm u] (bb (p t u))) : Fn Try.prog 63 [tms ts, tms us, .c (.clo f [] [])] (bb (all2 p ts us)) := by
  refine fn_of (base := 63000) ok63 rfl fun σ h0 hr => ?_
  have s0 := h0 0
  have s1 := h0 1
  have s2 := h0 2
  rw [slots0] at s0
  rw [slots1] at s1
  rw [slots2] at s2
  have hlen := real_tms (hr (tms ts) (by simp))
  clear h0 hr
  unfold c63
  by_cases hl : ts.length = us.length
  case neg =>
    have hl' : ¬ ((ts.length : Int) = (us.length : Int)) := by omega
    simp [s0, s1, s2, tms, hl', r63, bb, all2_len hl]
  case pos =>
    simp [s0, s1, s2, tms, hl]
    refine W_loop (fun k σ => ∃ i : Nat, i + k = ts.length ∧ all2 p (ts.drop i) (us.drop i) = all2 p ts us ∧ σ.sl 0 = tms ts ∧ σ.sl 1 = tms us ∧ σ.sl 2 = .c (.clo f [] []) ∧ σ.sl 15 = tms ts ∧ σ.sl 16 = ib ts.length ∧ σ.sl 17 = ib i) ts.length ?_ ?_
    · exact ⟨0, by simp [s0, s1, s2, tms, ib, hl]⟩
    · rintro k σ ⟨i, hk, hp, q0, q1, q2, q15, q16, q17⟩
      unfold c63b0
      simp only [tms, ib] at q0 q1 q2 q15 q16 q17
      by_cases hi : i < ts.length
      · obtain ⟨t, ht⟩ : ∃ t, ts[i]? = some t := ⟨ts[i], by simp [hi]⟩
        obtain ⟨u, hu⟩ : ∃ u, us[i]? = some u := ⟨us[i]'(by omega), by simp [show i < us.length by omega]⟩
        have hi2 : i < us.length := by omega
        have w1 : IntKind.wrap .i64 ((i : Int) + 1) = ((i + 1 : Nat) : Int) := by rw [wrap_id (by omega) (by omega)]; rfl
        simp [q0, q1, q2, q15, q16, q17, hi, hi2, ht, hu]
        refine ECall.fn (hf t (List.mem_of_getElem? ht) u) (by simp [tm, (List.getElem?_eq_some_iff.1 ht).2, (List.getElem?_eq_some_iff.1 hu).2]) (by simp) rfl fun _ => ?_
        simp [bb]
        rw [all2_at hl ht hu] at hp
        constructor
        · intro hpf
          simp [r63, ← hp, hpf]
        · intro hpt
          simp [q17, w1]
          refine ⟨k - 1, by omega, i + 1, by omega, ?_, ?_⟩
          · rw [← hp, hpt]; simp
          · simp [q0, q1, q2, q15, q16, tms, ib, w1]
      · simp [q0, q1, q2, q15, q16, q17, hi, r63, bb]
        have : ts.length ≤ i := by omega
        rw [← hp, List.drop_eq_nil_of_le this, List.drop_eq_nil_of_le (by omega)]; rfl

mutual
def T.eqb : T → T → Bool
  | .mk k n ts, .mk k' n' us => decide (k = k') && decide (n = n') && T.eqbL ts us
def T.eqbL : List T → List T → Bool
  | [], [] => true
  | t :: ts, u :: us => T.eqb t u && T.eqbL ts us
  | _, _ => false
end
theorem eqbL_all2 : ∀ {ts us : List T}, T.eqbL ts us = all2 T.eqb ts us
  | [], [] => by simp [T.eqbL, all2]
  | t :: ts, u :: us => by simp [T.eqbL, all2, eqbL_all2 (ts := ts)]
  | [], _ :: _ => by simp [T.eqbL, all2]
  | _ :: _, [] => by simp [T.eqbL, all2]

theorem fn18 (t u : T) : Fn Try.prog 18 [tm t, tm u] (bb (T.eqb t u)) := by
  induction t using T.ind generalizing u with
  | h k n ts ih =>
  obtain ⟨k', n', us⟩ := u
  have h63 : Fn Try.prog 63 [tms ts, tms us, .c (.clo 18 [] [])] (bb (all2 T.eqb ts us)) := fn63 fun t ht u => ih t ht u
  refine fn_of (base := 18000) ok18 rfl fun σ h0 hr => ?_
  have s0 := h0 0
  have s1 := h0 1
  rw [slots0] at s0
  rw [slots1] at s1
  simp only [tm, cells_mk] at s0 s1
  clear h0 hr
  unfold c18
  simp [s0, s1]
  refine GCall.fn (fun _ => h63) (by simp [tms]) (by simp) rfl fun _ => ?_
  simp [r18, bb, T.eqb, eqbL_all2]
end Go.Abs
