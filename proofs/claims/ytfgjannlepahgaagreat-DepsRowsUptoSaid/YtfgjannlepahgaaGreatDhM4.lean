/- THIS TEXT TELLS SOME FUNCTIONS OF THE PROGRAM IN THE CALCULUS, PROVES BY THE KERNEL THAT WHAT IS TOLD IS THE LOADED CODE, AND PROVES WHAT THEY COMPUTE: for every argument that is told; the conditions stand in each theorem. -/
import Derived.Test.YtfgjannlepahgaaGreatDhM3
set_option linter.unusedVariables false
set_option linter.unusedSimpArgs false
namespace Go.Abs
/-! ### what a least-first order is -/
theorem pre_zero {E : List Edge2} {out : List Int} {k : Int} : pre E out k = 0 ↔ ∀ p, p ∈ E → p.2 = k → p.1 ∈ out := by
  unfold pre
  rw [List.countP_eq_zero]
  constructor
  · intro h p hp hk
    have := h p hp
    simp [hk] at this
    exact this
  · intro h p hp
    by_cases hk : p.2 = k
    · simp [hk, h p hp hk]
    · simp [hk]
theorem nextG_is {n : Nat} {E : List Edge2} {out : List Int} {k : Int} (h : nextG n E out = some k) : 0 ≤ k ∧ k < n ∧ k ∉ out ∧ pre E out k = 0 ∧ ∀ j : Int, 0 ≤ j → j < k → j ∉ out → pre E out j ≠ 0 := by
  have h1 := List.find?_some h
  have h2 := mem_nums.1 (List.mem_of_find?_eq_some h)
  simp only [Bool.and_eq_true, Bool.not_eq_true', beq_iff_eq] at h1
  have hk : k ∉ out := by simpa using h1.1
  refine ⟨h2.1, h2.2, hk, h1.2, fun j j0 jk jo jp => ?_⟩
  -- a lesser one would have been found
  by_cases hex : ∃ j : Nat, (j : Int) < k ∧ (j : Int) ∉ out ∧ pre E out (j : Int) = 0
  · obtain ⟨m, hm, hmin⟩ : ∃ m : Nat, ((m : Int) < k ∧ (m : Int) ∉ out ∧ pre E out (m : Int) = 0) ∧ ∀ i : Nat, i < m → ¬ ((i : Int) < k ∧ (i : Int) ∉ out ∧ pre E out (i : Int) = 0) := by
      obtain ⟨j, hj⟩ := hex
      induction j using Nat.strongRecOn with
      | ind j ih =>
        by_cases h : ∃ i : Nat, i < j ∧ ((i : Int) < k ∧ (i : Int) ∉ out ∧ pre E out (i : Int) = 0)
        · obtain ⟨i, hi, hi2⟩ := h
          exact ih i hi hi2
        · exact ⟨j, hj, fun i hi h2 => h ⟨i, hi, h2⟩⟩
    have := nextG_some (n := n) (E := E) (out := out) (k := (m : Int)) (by omega) (by omega) hm.2.1 hm.2.2 fun i i0 im io ip => by
      obtain ⟨i', rfl⟩ := Int.eq_ofNat_of_zero_le i0
      exact hmin i' (by omega) ⟨by omega, io, ip⟩
    rw [h] at this
    cases this
    omega
  · obtain ⟨j', rfl⟩ := Int.eq_ofNat_of_zero_le j0
    exact hex ⟨j', jk, jo, jp⟩
inductive Run (n : Nat) (E : List Edge2) : List Int → Prop where
  | nil : Run n E []
  | snoc {out : List Int} {k : Int} (h : Run n E out) (hk : nextG n E out = some k) : Run n E (out ++ [k])
theorem Run.nodup {n : Nat} {E : List Edge2} {out : List Int} (h : Run n E out) : out.Nodup := by
  induction h with
  | nil => simp
  | snoc h hk ih =>
    rw [List.nodup_append]
    exact ⟨ih, by simp, fun a ha b hb => by simp at hb; subst hb; intro e; subst e; exact (nextG_is hk).2.2.1 ha⟩
theorem Run.range {n : Nat} {E : List Edge2} {out : List Int} (h : Run n E out) : ∀ x, x ∈ out → 0 ≤ x ∧ x < n := by
  induction h with
  | nil => simp
  | snoc h hk ih =>
    intro x hx
    rcases List.mem_append.1 hx with hx | hx
    · exact ih x hx
    · simp at hx; subst hx; have := nextG_is hk; exact ⟨this.1, this.2.1⟩
/-- At each place: what stood ahead, and that the next one follows from it. -/
theorem Run.at {n : Nat} {E : List Edge2} {out : List Int} (h : Run n E out) : ∀ (i : Nat) k, out[i]? = some k → nextG n E (out.take i) = some k := by
  induction h with
  | nil => simp
  | snoc h hk ih =>
    rename_i out k0
    intro i k hi
    by_cases hl : i < out.length
    · rw [List.getElem?_append_left hl] at hi
      rw [List.take_append_of_le_length (by omega)]
      exact ih i k hi
    · have hi' : i = out.length := by
        have := (List.getElem?_eq_some_iff.1 hi).1
        simp at this; omega
      subst hi'
      simp at hi
      subst hi
      simpa using hk
theorem greedy_run {n : Nat} {E : List Edge2} : ∀ (f : Nat) (out : List Int), Run n E out → Run n E (greedy n E f out) ∧ (n ≤ f + out.length → nextG n E (greedy n E f out) = none)
  | 0, out, h => ⟨h, fun hf => by
    cases hx : nextG n E out with
    | none => exact hx
    | some k =>
      have h2 := (Run.snoc h hx)
      have := nodup_le h2.nodup h2.range
      simp at this
      simp at hf
      omega⟩
  | f + 1, out, h => by
    rw [greedy]
    cases hx : nextG n E out with
    | none => exact ⟨h, fun _ => hx⟩
    | some k =>
      obtain ⟨h1, h2⟩ := greedy_run f (out ++ [k]) (h.snoc hx)
      exact ⟨h1, fun hf => h2 (by simp; omega)⟩
def gr (n : Nat) (E : List Edge2) : List Int := greedy n E n []
theorem gr_run (n : Nat) (E : List Edge2) : Run n E (gr n E) := (greedy_run n [] .nil).1
theorem gr_stop (n : Nat) (E : List Edge2) : nextG n E (gr n E) = none := (greedy_run n [] .nil).2 (by simp)
/-- Two runs of one length are one. -/
theorem Run.eq_of {n : Nat} {E : List Edge2} {a b : List Int} (ha : Run n E a) (hb : Run n E b) (h : a.length = b.length) : a = b := by
  refine List.ext_getElem? fun i => ?_
  induction i using Nat.strongRecOn with
  | ind i ih =>
    by_cases hi : i < a.length
    · have e : a.take i = b.take i := by
        refine List.ext_getElem? fun j => ?_
        rw [List.getElem?_take, List.getElem?_take]
        split
        · rename_i hj; exact ih j hj
        · rfl
      have h1 := ha.at i a[i] (by simp [hi])
      have h2 := hb.at i b[i] (by simp [h ▸ hi])
      rw [e, h2] at h1
      rw [List.getElem?_eq_getElem hi, List.getElem?_eq_getElem (h ▸ hi)]
      exact h1.symm
    · rw [List.getElem?_eq_none (by omega), List.getElem?_eq_none (by omega)]
/-- A run that goes no further is the order. -/
theorem Run.gr {n : Nat} {E : List Edge2} {a : List Int} (ha : Run n E a) (h : nextG n E a = none) : gr n E = a := by
  have key : ∀ {a b : List Int}, Run n E a → nextG n E a = none → Run n E b → b.length ≤ a.length := fun {a b} ha h hb => by
    by_cases hl : b.length ≤ a.length
    · exact hl
    · exfalso
      have hl : a.length < b.length := by omega
      -- b's beginning is a
      have e : b.take a.length = a := by
        refine List.ext_getElem? fun i => ?_
        rw [List.getElem?_take]
        induction i using Nat.strongRecOn with
        | ind i ih =>
          by_cases hi : i < a.length
          · rw [if_pos hi]
            have e : b.take i = a.take i := by
              refine List.ext_getElem? fun j => ?_
              rw [List.getElem?_take, List.getElem?_take]
              split
              · rename_i hj
                have := ih j hj
                rw [if_pos (by omega)] at this
                exact this
              · rfl
            have h1 := ha.at i a[i] (by simp [hi])
            have h2 := hb.at i (b[i]'(by omega)) (by simp)
            rw [e, h1] at h2
            rw [List.getElem?_eq_getElem hi, List.getElem?_eq_getElem (by omega)]
            exact h2.symm
          · rw [if_neg hi, List.getElem?_eq_none (by omega)]
      have h2 := hb.at a.length (b[a.length]'hl) (by simp)
      rw [e, h] at h2
      cases h2
  exact Run.eq_of (gr_run n E) ha (Nat.le_antisymm (key ha h (gr_run n E)) (key (gr_run n E) (gr_stop n E) ha))
/-! ### where a number stands -/
theorem nums_length (n : Nat) : (nums n).length = n := by simp [nums]
end Go.Abs

namespace Go.Abs
open Go.Proofs
theorem ord_eq {n : Int} {E : List Edge2} (h : wrongE n E = false) : ord n E = if (gr n.toNat E).length < n.toNat then ([], 12) else (gr n.toNat E, 0) := by simp [ord, h, gr]
end Go.Abs

namespace Go.Abs
open Go.Proofs
/-! ### numbers cut down to a range -/
/-- Edges that are put one behind the other. -/
def LS (σ : St) (s : Nat) (l : List Edge2) (Ks : List Nat) : Prop := (σ.sl s = .c (.cap 2 16 []) ∧ l = []) ∨ ∃ K, K ∈ Ks ∧ σ.sl s = .c (.own K (σ.tg K)) ∧ σ.ob K = some (.row 28 2 16 (ecs l))
end Go.Abs

namespace Go.Abs
open Go.Proofs
/-! ### where a number stands -/
def plcF : List Int → Int → Nat → Int
  | [], _, _ => -1
  | y :: r, x, i => if y = x then (i : Int) else plcF r x (i + 1)
def plc (l : List Int) (x : Int) : Int := plcF l x 0
/-- What is kept while the order without edges is looked at. -/
structure F5 (n : Nat) (A : List Edge2) (a b : Int) (σ : St) : Prop where
  s0 : σ.sl 0 = .c (.v (.int .i64 n))
  s2 : σ.sl 2 = .c (.v (.int .i64 a))
  s3 : σ.sl 3 = .c (.v (.int .i64 b))
  s11 : σ.sl 11 = .c (.sl 1 8 (ic (ord n A).1))
  s12 : σ.sl 12 = .c (.v (.int .i64 (ord n A).2))
  s13 : σ.sl 13 = .c (.sl 1 8 (ic (ord n (A ++ [(a, b)])).1))
  s14 : σ.sl 14 = .c (.v (.int .i64 (ord n (A ++ [(a, b)])).2))
def KP5 (σ σ' : St) : Prop := ∀ s, s = 0 ∨ s = 2 ∨ s = 3 ∨ s = 11 ∨ s = 12 ∨ s = 13 ∨ s = 14 → σ'.sl s = σ.sl s
theorem F5.kp {n : Nat} {A : List Edge2} {a b : Int} {σ σ' : St} (h : F5 n A a b σ) (k : KP5 σ σ') : F5 n A a b σ' :=
  ⟨by rw [k 0 (by simp)]; exact h.s0, by rw [k 2 (by simp)]; exact h.s2, by rw [k 3 (by simp)]; exact h.s3, by rw [k 11 (by simp)]; exact h.s11, by rw [k 12 (by simp)]; exact h.s12, by rw [k 13 (by simp)]; exact h.s13, by rw [k 14 (by simp)]; exact h.s14⟩
end Go.Abs

namespace Go.Abs
open Go.Proofs
/-! ### the edges that name what is not there -/
structure F3 (n : Nat) (E : List Edge2) (σ : St) : Prop where
  s0 : σ.sl 0 = .c (.v (.int .i64 n))
  s1 : σ.sl 1 = .c (.sl 2 16 (ecs E))
  s5 : σ.sl 5 = .c (.sl 1 8 (ic (ord n E).1))
  s6 : σ.sl 6 = .c (.v (.int .i64 (ord n E).2))
def KP3 (σ σ' : St) : Prop := ∀ s, s = 0 ∨ s = 1 ∨ s = 5 ∨ s = 6 → σ'.sl s = σ.sl s
theorem F3.kp {n : Nat} {E : List Edge2} {σ σ' : St} (h : F3 n E σ) (k : KP3 σ σ') : F3 n E σ' :=
  ⟨by rw [k 0 (by simp)]; exact h.s0, by rw [k 1 (by simp)]; exact h.s1, by rw [k 5 (by simp)]; exact h.s5, by rw [k 6 (by simp)]; exact h.s6⟩
/-! ### where each one stands -/
def atL (n : Nat) (l : List Int) (i : Nat) : List Int := (List.range n).map fun (k : Nat) => if (k : Int) ∈ l.take i then plc l k else 0
def snL (n : Nat) (l : List Int) (i : Nat) : List Bool := (List.range n).map fun (k : Nat) => decide ((k : Int) ∈ l.take i)
def bc (l : List Bool) : List (List Cell) := l.map fun b => [Cell.v (.bool b)]
@[simp] theorem atL_length (n : Nat) (l : List Int) (i : Nat) : (atL n l i).length = n := by simp [atL]
@[simp] theorem snL_length (n : Nat) (l : List Int) (i : Nat) : (snL n l i).length = n := by simp [snL]
@[simp] theorem atL_at (n : Nat) (l : List Int) (i k : Nat) (h : k < (atL n l i).length) : (atL n l i)[k] = if (k : Int) ∈ l.take i then plc l k else 0 := by simp [atL]
@[simp] theorem snL_at (n : Nat) (l : List Int) (i k : Nat) (h : k < (snL n l i).length) : (snL n l i)[k] = decide ((k : Int) ∈ l.take i) := by simp [snL]
@[simp] theorem bc_length (l : List Bool) : (bc l).length = l.length := by simp [bc]
@[simp] theorem bc_at (l : List Bool) (k : Nat) (h : k < (bc l).length) : (bc l)[k] = [Cell.v (.bool (l[k]'(by simpa using h)))] := by simp [bc]
def plL (n : Nat) (l : List Int) : List Int := (List.range n).map fun (k : Nat) => plc l k
@[simp] theorem plL_length (n : Nat) (l : List Int) : (plL n l).length = n := by simp [plL]
@[simp] theorem plL_at (n : Nat) (l : List Int) (k : Nat) (h : k < (plL n l).length) : (plL n l)[k] = plc l k := by simp [plL]
structure H3 (n : Nat) (E : List Edge2) (l : List Int) (σ : St) : Prop where
  s0 : σ.sl 0 = .c (.v (.int .i64 n))
  s1 : σ.sl 1 = .c (.sl 2 16 (ecs E))
  s5 : σ.sl 5 = .c (.sl 1 8 (ic l))
  s8 : σ.sl 8 = .c (.own 1003090 (σ.tg 1003090))
  o8 : σ.ob 1003090 = some (.mrow 3 1 8 (ic (plL n l)))
end Go.Abs

namespace Go.Abs
open Go.Proofs
/-! ### what is within what -/
def isIn (x : Int) : List Int → Bool
  | [] => false
  | y :: l => decide (x = y) || isIn x l
def wthn : List Int → List Int → Bool
  | [], _ => true
  | x :: l, k => isIn x k && wthn l k
theorem isIn_mem {x : Int} : ∀ {l : List Int}, isIn x l = true ↔ x ∈ l
  | [] => by simp [isIn]
  | y :: l => by simp [isIn, isIn_mem (l := l)]
theorem wthn_sub : ∀ {l k : List Int}, wthn l k = true ↔ ∀ x, x ∈ l → x ∈ k
  | [], k => by simp [wthn]
  | x :: l, k => by simp [wthn, isIn_mem, wthn_sub (l := l)]
def WJ (l k : List Int) (i : Nat) (x : Int) (m : Nat) (σ : St) : Prop := ∃ (j : Nat) (b : Bool), j + m = k.length ∧ (b || isIn x (k.drop j)) = isIn x k ∧ σ.sl 0 = .c (.sl 1 8 (ic l)) ∧ σ.sl 1 = .c (.sl 1 8 (ic k)) ∧ σ.sl 5 = .c (.v (.int .i64 i)) ∧ σ.sl 6 = .c (.v (.bool b)) ∧ σ.sl 7 = .c (.v (.int .i64 j))
theorem loop1018 {σ : St} {Q : SEx → St → Prop} (l k : List Int) (hk : k.length ≤ 1000000000000000) (i : Nat) (x : Int) (hx : l[i]? = some x) (s0 : σ.sl 0 = .c (.sl 1 8 (ic l))) (s1 : σ.sl 1 = .c (.sl 1 8 (ic k))) (s5 : σ.sl 5 = .c (.v (.int .i64 i))) (s6 : σ.sl 6 = .c (.v (.bool false))) (s7 : σ.sl 7 = .c (.v (.int .i64 (0 : Nat))))
    (hQ : ∀ σ', σ'.sl 0 = .c (.sl 1 8 (ic l)) → σ'.sl 1 = .c (.sl 1 8 (ic k)) → σ'.sl 5 = .c (.v (.int .i64 i)) → σ'.sl 6 = .c (.v (.bool (isIn x k))) → Q .normal σ') : W Tryz.prog 1018000 (.loop c1018b0) σ (onBlock 2 Q) := by
  refine W_loop (WJ l k i x) k.length ⟨0, false, by simp, by simp, s0, s1, s5, s6, s7⟩ ?_
  clear s0 s1 s5 s6 s7 σ
  rintro m σ ⟨j, b, hm, hp, s0, s1, s5, s6, s7⟩
  obtain ⟨hil, hx2⟩ := getE hx
  unfold c1018b0
  by_cases hj : j < k.length
  · have w1 := wrap_succ (i := j) (by omega)
    obtain ⟨y, hy⟩ := at_of hj
    obtain ⟨_, hy2⟩ := getE hy
    rw [drop_at hy, isIn] at hp
    simp [s0, s1, s5, s6, s7, hj]
    refine W_dregA ?_
    cases b with
    | true =>
      simp at hp
      simp [s0, s1, s5, s6, s7, hj, hil, hx2, hy2]
      refine realC_n ?_
      simp [s7, w1]
      exact ⟨m - 1, by omega, j + 1, true, by omega, by simpa using hp, by simp [s0], by simp [s1], by simp [s5], by simp, by simp⟩
    | false =>
      by_cases hxy : x = y
      · simp [hxy] at hp
        simp [s0, s1, s5, s6, s7, hj, hil, hx2, hy2, hxy]
        refine realC_n ?_
        simp [s7, w1]
        exact ⟨m - 1, by omega, j + 1, true, by omega, by simpa [hxy] using hp, by simp [s0], by simp [s1], by simp [s5], by simp, by simp⟩
      · simp [hxy] at hp
        simp [s0, s1, s5, s6, s7, hj, hil, hx2, hy2, hxy]
        refine realC_n ?_
        simp [s7, w1]
        exact ⟨m - 1, by omega, j + 1, false, by omega, by simpa using hp, by simp [s0], by simp [s1], by simp [s5], by simp, by simp⟩
  · have : j = k.length := by omega
    subst this
    simp [isIn] at hp
    simp [s0, s1, s7]
    exact hQ _ (by simp [s0]) (by simp [s1]) (by simp [s5]) (by simp [s6, hp])
theorem fn1018 (l k : List Int) : Fn Tryz.prog 18 [is l, is k] (bb (wthn l k)) := by
  refine fn_of (base := 1018000) ok1018 rfl fun σ h0 hr => ?_
  have hll := real_is (hr (is l) (by simp))
  have hlk := real_is (hr (is k) (by simp))
  have s0 : σ.sl 0 = .c (.sl 1 8 (ic l)) := h0 0
  have s1 : σ.sl 1 = .c (.sl 1 8 (ic k)) := h0 1
  clear h0 hr
  unfold c1018
  simp [s0, s1, -W_block]
  rw [W_block]
  refine W_loop (fun m σ => ∃ i : Nat, i + m = l.length ∧ wthn (l.drop i) k = wthn l k ∧ σ.sl 0 = .c (.sl 1 8 (ic l)) ∧ σ.sl 1 = .c (.sl 1 8 (ic k)) ∧ σ.sl 5 = .c (.v (.int .i64 i))) l.length ?_ ?_
  · exact ⟨0, by simp, by simp, by simp [s0], by simp [s1], by simp⟩
  clear s0 s1 σ
  rintro m σ ⟨i, hm, hp, s0, s1, s5⟩
  unfold c1018b1
  by_cases hi : i < l.length
  · have w1 := wrap_succ (i := i) (by omega)
    obtain ⟨x, hx⟩ := at_of hi
    rw [drop_at hx, wthn] at hp
    simp [s0, s1, s5, hi]
    refine loop1018 l k (by omega) i x hx (by simp [s0]) (by simp [s1]) (by simp [s5]) (by simp) (by simp) fun σ' q0 q1 q5 q6 => ?_
    cases hin : isIn x k with
    | false =>
      rw [hin] at q6 hp
      simp at hp
      simp [q6, r1018, bb, hp]
    | true =>
      rw [hin] at q6 hp
      simp at hp
      simp [q0, q1, q5, q6, w1]
      exact ⟨m - 1, by omega, i + 1, by omega, hp, rfl⟩
  · have : i = l.length := by omega
    subst this
    simp [wthn] at hp
    simp [s0, s1, s5, r1018, bb, hp]
end Go.Abs

namespace Go.Abs
open Go.Proofs
/-! ### the edges of a right row -/
def toE (i : Nat) (us : List Int) : List Edge2 := us.map fun x => (x, (i : Int))
def rE : List En → Nat → List Edge2
  | [], _ => []
  | e :: r, i => toE i (usesE i e) ++ rE r (i + 1)
theorem rE_mem : ∀ {l : List En} {i : Nat} {p : Edge2}, p ∈ rE l i → ∃ j e, l[j]? = some e ∧ p.1 ∈ usesE (i + j) e ∧ p.2 = ((i + j : Nat) : Int)
  | [], _, _, h => by cases h
  | e :: r, i, p, h => by
    rw [rE] at h
    rcases List.mem_append.1 h with h | h
    · obtain ⟨x, hx, rfl⟩ := List.mem_map.1 h
      exact ⟨0, e, rfl, hx, rfl⟩
    · obtain ⟨j, e', h1, h2, h3⟩ := rE_mem h
      have e1 : i + 1 + j = i + (j + 1) := by omega
      rw [e1] at h2 h3
      exact ⟨j + 1, e', by simpa using h1, h2, h3⟩
theorem uses_len {l : List En} (hR : RowOK l) {i : Nat} {e : En} (he : l[i]? = some e) : (usesE i e).length ≤ i := nodup_le (usesE_nodup i e) (uses_range (hR.right i e he))
theorem rE_len {l : List En} (hR : RowOK l) (hl : l.length ≤ 60) : ∀ (m i : Nat), i + m = l.length → (rE (l.drop i) i).length ≤ 60 * m
  | 0, i, h => by rw [List.drop_eq_nil_of_le (by omega)]; simp [rE]
  | m + 1, i, h => by
    obtain ⟨e, he⟩ := at_of (ts := l) (i := i) (by omega)
    rw [drop_at he, rE, List.length_append]
    have := rE_len hR hl m (i + 1) (by omega)
    have h2 := uses_len hR he
    simp only [toE, List.length_map]
    omega
theorem gr_up {n : Nat} {E : List Edge2} (hE : ∀ p, p ∈ E → 0 ≤ p.1 ∧ p.1 < p.2) : gr n E = nums n := by
  have hr : ∀ m, m ≤ n → Run n E (nums m) := by
    intro m
    induction m with
    | zero => intro _; exact .nil
    | succ m ih =>
      intro hm
      have e : nums (m + 1) = nums m ++ [(m : Int)] := by simp [nums, List.range_succ]
      rw [e]
      refine (ih (by omega)).snoc (nextG_some (by omega) (by omega) (fun h => by have := mem_nums.1 h; omega) (pre_zero.2 fun p hp hp2 => ?_) fun j j0 jm jn => absurd (mem_nums.2 ⟨j0, jm⟩) jn)
      have := hE p hp
      exact mem_nums.2 ⟨this.1, by omega⟩
  refine (hr n (Nat.le_refl n)).gr (nextG_none fun j j0 j1 jn => absurd (mem_nums.2 ⟨j0, j1⟩) jn)
structure FV (l : List En) (i : Nat) (σ : St) : Prop where
  s0 : σ.sl 0 = .c (.sl 12 160 (l.map En.cells))
  s4 : σ.sl 4 = .c (.v (.int .i64 i))
theorem loop1010a {σ : St} {Q : SEx → St → Prop} (l : List En) (i : Nat) (us : List Int) (acc : List Edge2) (hu : us.length ≤ 60) (ha : acc.length ≤ 3600) (hr : ∀ x, x ∈ us → x < i) (H : FV l i σ) (s5 : σ.sl 5 = .c (.sl 1 8 (ic us))) (s7 : σ.sl 7 = .c (.v (.int .i64 (0 : Nat)))) (L : LS σ 3 acc [1010057])
    (hQ : ∀ σ', FV l i σ' → LS σ' 3 (acc ++ toE i us) [1010057] → Q .normal σ') : W Tryz.prog 1010000 (.loop c1010b0) σ (onBlock 2 Q) := by
  refine W_loop (fun m σ => ∃ j : Nat, j + m = us.length ∧ FV l i σ ∧ σ.sl 5 = .c (.sl 1 8 (ic us)) ∧ σ.sl 7 = .c (.v (.int .i64 j)) ∧ LS σ 3 (acc ++ toE i (us.take j)) [1010057]) us.length ⟨0, by simp, H, s5, s7, by simpa [toE] using L⟩ ?_
  clear H s5 s7 L σ
  rintro m σ ⟨j, hm, ⟨s0, s4⟩, s5, s7, L⟩
  unfold c1010b0
  by_cases hj : j < us.length
  · have w1 := wrap_succ (i := j) (by omega)
    obtain ⟨x, hx⟩ := at_of hj
    obtain ⟨_, hx2⟩ := getE hx
    have hxi : ¬ (i : Int) ≤ x := by have := hr x (List.mem_of_getElem? hx); omega
    have htk : acc ++ toE i (us.take (j + 1)) = (acc ++ toE i (us.take j)) ++ [(x, (i : Int))] := by rw [take_succ' hx]; simp [toE]
    have hal : (acc ++ toE i (us.take j)).length ≤ 3660 := by simp [toE]; omega
    generalize acc ++ toE i (us.take j) = ac at *
    rcases L with ⟨q1, q2⟩ | ⟨K, hK, q1, q2⟩
    · simp [s0, s4, s5, s7, hj, hx2, hxi, q1, fillC, putC]
      refine ⟨by simp [room], ?_⟩
      simp [s7, w1]
      refine ⟨m - 1, by omega, j + 1, by omega, ⟨by simp [s0], by simp [s4]⟩, by simp [s5], ?_⟩
      rw [htk, q2]
      exact .inr ⟨1010057, by simp, by simp, by simp [ecs, ec]⟩
    · simp at hK
      subst hK
      simp [s0, s4, s5, s7, hj, hx2, hxi, q1, q2, fillC, putC]
      refine ⟨by simp [room], by simp [room]; omega, ?_⟩
      simp [s7, w1]
      refine ⟨m - 1, by omega, j + 1, by omega, ⟨by simp [s0], by simp [s4]⟩, by simp [s5], ?_⟩
      rw [htk]
      exact .inr ⟨1010057, by simp, by simp, by simp [ecs, ec]⟩
  · have : j = us.length := by omega
    subst this
    rw [List.take_of_length_le (Nat.le_refl _)] at L
    simp [s5, s7]
    refine hQ _ ⟨by simp [s0], by simp [s4]⟩ ?_
    rcases L with ⟨q1, q2⟩ | ⟨K, hK, q1, q2⟩
    · exact .inl ⟨by simp [q1], q2⟩
    · exact .inr ⟨K, hK, by simp [q1], by simp [q2]⟩
theorem loop1010b {σ : St} {Q : SEx → St → Prop} (l : List En) (hO : ∀ e, e ∈ l → e.Ok) (hc : chkR l = 0) (hl : l.length ≤ 60) (s0 : σ.sl 0 = .c (.sl 12 160 (l.map En.cells))) (s4 : σ.sl 4 = .c (.v (.int .i64 (0 : Nat)))) (s3 : σ.sl 3 = .c (.cap 2 16 []))
    (hQ : ∀ σ', σ'.sl 0 = .c (.sl 12 160 (l.map En.cells)) → LS σ' 3 (rE l 0) [1010057] → Q .normal σ') : W Tryz.prog 1010000 (.loop c1010b1) σ (onBlock 0 Q) := by
  have hR := chkR_ok hO hc
  refine W_loop (fun m σ => ∃ (i : Nat) (acc : List Edge2), i + m = l.length ∧ acc ++ rE (l.drop i) i = rE l 0 ∧ acc.length ≤ 60 * i ∧ σ.sl 0 = .c (.sl 12 160 (l.map En.cells)) ∧ σ.sl 4 = .c (.v (.int .i64 i)) ∧ LS σ 3 acc [1010057]) l.length ⟨0, [], by simp, by simp, by simp, s0, s4, .inl ⟨s3, rfl⟩⟩ ?_
  clear s0 s4 s3 σ
  rintro m σ ⟨i, acc, hm, hp, hal, s0, s4, L⟩
  unfold c1010b1
  by_cases hi : i < l.length
  · have w1 := wrap_succ (i := i) (by omega)
    obtain ⟨e, he⟩ := at_of hi
    rw [drop_at he, rE, ← List.append_assoc] at hp
    have hu : usesR l i = (usesE i e, 0) := by
      unfold usesR
      rw [if_neg (by simp [hc]), if_neg (by omega)]
      simp [he]
    have hcall := fn1021 l hO i
    rw [hu] at hcall
    have hul := uses_len hR he
    have hr := uses_range (hR.right i e he)
    simp [s0, s4, hi]
    refine ECall.fn hcall (by simp [ens, ib]) (by simp) rfl fun hx => ?_
    clear hx
    simp [ib, is]
    refine loop1010a l i (usesE i e) acc (by omega) (by omega) (fun x hx => (hr x hx).2) ⟨by simp [s0], by simp [s4]⟩ (by simp [ic]) (by simp) ?_ fun σ' H L' => ?_
    · rcases L with ⟨q1, q2⟩ | ⟨K, hK, q1, q2⟩
      · exact .inl ⟨by simp [q1], q2⟩
      · exact .inr ⟨K, hK, by simp [q1], by simp [q2]⟩
    obtain ⟨q0, q4⟩ := H
    simp [q4, w1]
    refine ⟨m - 1, by omega, i + 1, by omega, acc ++ toE i (usesE i e), hp, by simp [toE]; omega, by simp [q0], by simp, ?_⟩
    rcases L' with ⟨q1, q2⟩ | ⟨K, hK, q1, q2⟩
    · exact .inl ⟨by simp [q1], q2⟩
    · exact .inr ⟨K, hK, by simp [q1], by simp [q2]⟩
  · have : i = l.length := by omega
    subst this
    simp [rE] at hp
    subst hp
    simp [s0, s4]
    refine hQ _ (by simp [s0]) ?_
    rcases L with ⟨q1, q2⟩ | ⟨K, hK, q1, q2⟩
    · exact .inl ⟨by simp [q1], q2⟩
    · exact .inr ⟨K, hK, by simp [q1], by simp [q2]⟩
theorem loop1010c {σ : St} {Q : SEx → St → Prop} (n : Nat) (hn : n ≤ 60) (s8 : σ.sl 8 = .c (.sl 1 8 (ic (nums n)))) (s10 : σ.sl 10 = .c (.v (.int .i64 (0 : Nat))))
    (hQ : ∀ σ', Q .normal σ') : W Tryz.prog 1010000 (.loop c1010b2) σ (onBlock 4 Q) := by
  refine W_loop (fun m σ => ∃ i : Nat, i + m = n ∧ σ.sl 8 = .c (.sl 1 8 (ic (nums n))) ∧ σ.sl 10 = .c (.v (.int .i64 i))) n ⟨0, by simp, s8, s10⟩ ?_
  clear s8 s10 σ
  rintro m σ ⟨i, hm, s8, s10⟩
  unfold c1010b2
  by_cases hi : i < n
  · have w1 := wrap_succ (i := i) (by omega)
    have hil : i < (nums n).length := by rw [nums_length]; exact hi
    have hat : (nums n)[i]'hil = (i : Int) := by simp [nums]
    simp [s8, s10, hi, hil, hat, w1, nums_length]
    exact ⟨m - 1, by omega, i + 1, by omega, rfl⟩
  · have : i = n := by omega
    subst this
    simp [s8, s10, nums_length]
    exact hQ _
theorem fn1010 (l : List En) (hO : ∀ e, e ∈ l → e.Ok) : Fn Tryz.prog 10 [ens l] (bb true) := by
  refine fn_of (base := 1010000) ok1010 rfl fun σ h0 hr => ?_
  have s0 : σ.sl 0 = .c (.sl 12 160 (l.map En.cells)) := h0 0
  clear h0 hr
  unfold c1010
  simp [s0]
  refine ECall.fn (fn1016 l) (by simp [ens]) (by simp) rfl fun hx => ?_
  clear hx
  have hck := fn1027g l hO
  cases hh : heavyEnv l with
  | true =>
    simp [bb, s0]
    refine GCall.fn (fun _ => hck) (by simp [ens]) (by simp) rfl fun hx => ?_
    simp [ib, r1010]
  | false =>
    by_cases c1 : 60 < l.length
    · have c1' : (60 : Int) < l.length := by omega
      simp [bb, s0, c1, c1']
      refine GCall.fn (fun _ => hck) (by simp [ens]) (by simp) rfl fun hx => ?_
      simp [ib, r1010]
    · have c1' : ¬ (60 : Int) < l.length := by omega
      simp [bb, s0, c1, c1']
      refine GCall.fn (fun _ => hck) (by simp [ens]) (by simp) rfl fun hx => ?_
      clear hx
      by_cases hc : chkR l = 0
      · have hR := chkR_ok hO hc
        simp [ib, hc]
        refine loop1010b l hO hc (by omega) (by simp [s0]) (by simp) (by simp) fun σ1 q0 L => ?_
        clear s0 σ
        have hE : ∀ p, p ∈ rE l 0 → 0 ≤ p.1 ∧ p.1 < p.2 ∧ p.2 < l.length := fun p hp => by
          obtain ⟨j, e, h1, h2, h3⟩ := rE_mem hp
          rw [Nat.zero_add] at h2 h3
          have := uses_range (hR.right j e h1) p.1 h2
          have hj := (List.getElem?_eq_some_iff.1 h1).1
          omega
        have hlen := rE_len hR (by omega) l.length 0 (by omega)
        rw [List.drop_zero] at hlen
        have hw : wrongE l.length (rE l 0) = false := by
          have h1 : (rE l 0).any (badE l.length) = false := by
            rw [List.any_eq_false]
            intro p hp
            have := hE p hp
            simp [badE]; omega
          simp only [wrongE, h1, Bool.or_false]
          simp; omega
        have ho := ord_eq hw
        simp only [Int.toNat_natCast] at ho
        rw [gr_up fun p hp => ⟨(hE p hp).1, (hE p hp).2.1⟩, nums_length, if_neg (by omega)] at ho
        have hcall := zn12 l.length (rE l 0)
        have hoA : ordAV l.length (rE l 0) = .tup [is (nums l.length), ib 0] := by rw [ordAV, ho]
        rw [hoA] at hcall
        rcases L with ⟨q1, q2⟩ | ⟨K, hK, q1, q2⟩
        · rw [q2] at hcall
          simp [q0, q1]
          refine ECall.fn hcall (by simp [toD2, toD1, toD, eds, ecs, ib]) (by simp) rfl fun hx => ?_
          clear hx
          simp [is, ib, nums_length, q0]
          refine loop1010c l.length (by omega) (by simp [ic]) (by simp) fun σ2 => ?_
          simp
          refine ECall.fn fn1013 (by simp) (by simp) rfl fun hx => ?_
          simp [bb, r1010]
        · simp at hK
          subst hK
          simp [q0, q1, q2]
          refine ECall.fn hcall (by simp [toD2, toD1, toD, eds, ib, q2]) (by simp) rfl fun hx => ?_
          clear hx
          simp [is, ib, nums_length, q0]
          refine loop1010c l.length (by omega) (by simp [ic]) (by simp) fun σ2 => ?_
          simp
          refine ECall.fn fn1013 (by simp) (by simp) rfl fun hx => ?_
          simp [bb, r1010]
      · simp [ib, hc, r1010]
end Go.Abs

namespace Go.Abs
open Go.Proofs
/-! ### what is needed, once more -/
theorem needsR_yes {l : List En} {xs : List Int} (hc : chkR l = 0) (ha : xs.any (outE l.length) = false) : needsR l xs = (needsL l xs, 0) := by
  rw [needsR, if_neg (by simp [hc]), if_neg (by simp [ha])]
theorem needsR_split (l : List En) (xs : List Int) : (needsR l xs = (needsL l xs, 0) ∧ chkR l = 0 ∧ xs.any (outE l.length) = false) ∨ ((needsR l xs).1 = [] ∧ (needsR l xs).2 ≠ 0) := by
  by_cases hc : chkR l = 0
  · cases ha : xs.any (outE l.length) with
    | false => exact .inl ⟨needsR_yes hc ha, hc, rfl⟩
    | true =>
      refine .inr ?_
      rw [needsR, if_neg (by simp [hc]), if_pos ha]
      simp
  · refine .inr ?_
    rw [needsR, if_pos hc]
    simp [hc]
theorem Rch.mono {l : List En} {xs ys : List Int} (h : ∀ x, x ∈ xs → Rch l ys x) {z : Int} (hz : Rch l xs z) : Rch l ys z := by
  induction hz with
  | base hx => exact h _ hx
  | step _ h' ih => exact .step ih h'
theorem needsL_in {l : List En} {xs : List Int} : (needsL l xs).any (outE l.length) = false := by
  rw [List.any_eq_false]
  intro x hx
  have := (needsL_mem.1 hx).1
  simp [outE]; omega
theorem any_in {l : List En} {xs : List Int} (ha : xs.any (outE l.length) = false) {x : Int} (hx : x ∈ xs) : 0 ≤ x ∧ x < l.length := by
  have := List.any_eq_false.1 ha x hx
  simp [outE] at this
  omega
theorem needsL_sub {l : List En} {xs ys : List Int} (h : ∀ x, x ∈ xs → Rch l ys x) : ∀ x, x ∈ needsL l xs → x ∈ needsL l ys := fun x hx => by
  rw [needsL_mem] at hx ⊢
  exact ⟨hx.1, hx.2.mono h⟩
theorem needsL_twice (l : List En) (xs : List Int) : needsL l (needsL l xs) = needsL l xs := by
  refine srt_ext (needsL_srt _ _) (needsL_srt _ _) fun n => ⟨needsL_sub (fun x hx => (needsL_mem.1 hx).2) n, fun h => ?_⟩
  rw [needsL_mem]
  exact ⟨(needsL_mem.1 h).1, .base h⟩
theorem needsL_uses {l : List En} (hR : RowOK l) {xs : List Int} {y : Int} (hy : y ∈ needsL l xs) : ∀ x, x ∈ usesAt l y → x ∈ needsL l xs := fun x hx => by
  have h := needsL_mem.1 hy
  obtain ⟨e, he⟩ := at_of (ts := l) (i := y.toNat) (by omega)
  have hu : usesAt l y = usesE y.toNat e := by simp [usesAt, he]
  have := uses_range (hR.right y.toNat e he) x (hu ▸ hx)
  exact needsL_mem.2 ⟨by omega, .step h.2 hx⟩
theorem needsL_len (l : List En) (xs : List Int) : (needsL l xs).length ≤ l.length :=
  nodup_le ((needsL_srt l xs).imp fun h => by omega) fun x hx => (needsL_mem.1 hx).1
theorem srt_at {l : List Int} (h : Srt l) {i : Nat} {x y : Int} (hx : l[i]? = some x) (hy : l[i + 1]? = some y) : x < y := by
  obtain ⟨h1, rfl⟩ := getE hx
  obtain ⟨h2, rfl⟩ := getE hy
  exact (List.pairwise_iff_getElem.1 h) i (i + 1) h1 h2 (by omega)
structure F9 (l : List En) (xs ys a : List Int) (σ : St) : Prop where
  s0 : σ.sl 0 = .c (.sl 12 160 (l.map En.cells))
  s1 : σ.sl 1 = .c (.sl 1 8 (ic xs))
  s2 : σ.sl 2 = .c (.sl 1 8 (ic ys))
  s7 : σ.sl 7 = .c (.sl 1 8 (ic a))
theorem loop1009a {σ : St} {Q : SEx → St → Prop} (l : List En) (xs ys a us : List Int) (i : Nat) (n : Int) (hn : a[i]? = some n) (hr : ∀ x, x ∈ us → x < n) (hu : us.length ≤ 1000000) (H : F9 l xs ys a σ) (s11 : σ.sl 11 = .c (.v (.int .i64 i))) (s12 : σ.sl 12 = .c (.sl 1 8 (ic us))) (s14 : σ.sl 14 = .c (.v (.int .i64 (0 : Nat))))
    (hQ : ∀ σ', F9 l xs ys a σ' → σ'.sl 11 = .c (.v (.int .i64 i)) → Q .normal σ') : W Tryz.prog 1009000 (.loop c1009b0) σ (onBlock 2 Q) := by
  refine W_loop (fun m σ => ∃ j : Nat, j + m = us.length ∧ F9 l xs ys a σ ∧ σ.sl 11 = .c (.v (.int .i64 i)) ∧ σ.sl 12 = .c (.sl 1 8 (ic us)) ∧ σ.sl 14 = .c (.v (.int .i64 j))) us.length ⟨0, by simp, H, s11, s12, s14⟩ ?_
  clear H s11 s12 s14 σ
  rintro m σ ⟨j, hm, ⟨s0, s1, s2, s7⟩, s11, s12, s14⟩
  unfold c1009b0
  obtain ⟨hil, hn2⟩ := getE hn
  by_cases hj : j < us.length
  · have w1 := wrap_succ (i := j) (by omega)
    obtain ⟨x, hx⟩ := at_of hj
    obtain ⟨_, hx2⟩ := getE hx
    have hlt := hr x (List.mem_of_getElem? hx)
    have hge : ¬ n ≤ x := by omega
    simp [s7, s11, s12, s14, hj]
    refine W_dregA ?_
    simp [s7, s11, s12, s14, hj, hil, hn2, hx2, hge]
    refine realC_n ?_
    simp [s14, w1]
    exact ⟨m - 1, by omega, j + 1, by omega, ⟨by simp [s0], by simp [s1], by simp [s2], by simp [s7]⟩, by simp [s11], by simp [s12], rfl⟩
  · have : j = us.length := by omega
    subst this
    simp [s12, s14]
    exact hQ _ ⟨by simp [s0], by simp [s1], by simp [s2], by simp [s7]⟩ (by simp [s11])
theorem loop1009b {σ : St} {Q : SEx → St → Prop} (l : List En) (hO : ∀ e, e ∈ l → e.Ok) (hc : chkR l = 0) (xs ys : List Int) (H : F9 l xs ys (needsL l xs) σ) (s11 : σ.sl 11 = .c (.v (.int .i64 (0 : Nat))))
    (hQ : ∀ σ', F9 l xs ys (needsL l xs) σ' → Q .normal σ') : W Tryz.prog 1009000 (.loop c1009b1) σ (onBlock 0 Q) := by
  have hR := chkR_ok hO hc
  have hlen := needsL_len l xs
  have hl := hR.len
  refine W_loop (fun m σ => ∃ i : Nat, i + m = (needsL l xs).length ∧ F9 l xs ys (needsL l xs) σ ∧ σ.sl 11 = .c (.v (.int .i64 i))) (needsL l xs).length ⟨0, by simp, H, s11⟩ ?_
  clear H s11 σ
  rintro m σ ⟨i, hm, ⟨s0, s1, s2, s7⟩, s11⟩
  unfold c1009b1
  by_cases hi : i < (needsL l xs).length
  · have w1 := wrap_succ (i := i) (by omega)
    obtain ⟨n, hn⟩ := at_of hi
    obtain ⟨_, hn2⟩ := getE hn
    have hmem := List.mem_of_getElem? hn
    have hnr := (needsL_mem.1 hmem).1
    obtain ⟨e, he⟩ := at_of (ts := l) (i := n.toNat) (by omega)
    have hu : usesAt l n = usesE n.toNat e := by simp [usesAt, he]
    have hsub := needsL_uses hR hmem
    rw [hu] at hsub
    have hw : wthn (usesE n.toNat e) (needsL l xs) = true := wthn_sub.2 hsub
    have hcall := fn1021 l hO n
    have huR : usesR l n = (usesE n.toNat e, 0) := by
      unfold usesR
      rw [if_neg (by simp [hc]), if_neg (by omega)]
      simp [he]
    rw [huR] at hcall
    have hr := uses_range (hR.right n.toNat e he)
    have hul := uses_len hR he
    have hn0 : ((n.toNat : Nat) : Int) = n := by omega
    have hsrt := needsL_srt l xs
    generalize needsL l xs = a at *
    simp [s0, s7, s11, hi, hn2]
    refine ECall.fn hcall (by simp [ens, ib]) (by simp) rfl fun hx => ?_
    clear hx
    simp [ib, is, s7, s11]
    refine W_dregA ?_
    cases i with
    | zero =>
      have w0 : IntKind.wrap .i64 (0 - 1 : Int) = -1 := by decide
      have w00 : IntKind.wrap .i64 (-1 : Int) = -1 := by decide
      have hn3 : (ic a)[0]?.getD [] = [.v (.int .i64 n)] := by simp [ic, hn]
      have hn4 : (ic a)[0]? = some [.v (.int .i64 n)] := by simp [ic, hn]
      simp [s7, s11, hn2, hn3, hn4, w0, w00]
      refine GCallA.fn (fun _ => fn1018 (usesE n.toNat e) a) (by simp [is, ic]) (by simp) rfl ?_
      rw [hw]
      simp [bb]
      refine realC_n ?_
      simp
      refine loop1009a l xs ys a (usesE n.toNat e) 0 n hn (fun x hx => by have := hr x hx; omega) (by omega) ⟨by simp [s0], by simp [s1], by simp [s2], by simp [s7]⟩ (by simp [s11]) (by simp [ic]) (by simp) fun σ' H q11 => ?_
      obtain ⟨q0, q1, q2, q7⟩ := H
      simp [q11]
      exact ⟨m - 1, by omega, 1, by omega, ⟨by simp [q0], by simp [q1], by simp [q2], by simp [q7]⟩, rfl⟩
    | succ i =>
      obtain ⟨p, hp⟩ := at_of (ts := a) (i := i) (by omega)
      obtain ⟨hip, hp2⟩ := getE hp
      have hlt := srt_at hsrt hp hn
      have hle : ¬ n ≤ p := by omega
      have w0 : IntKind.wrap .i64 (((i + 1 : Nat) : Int) - 1) = (i : Int) := by rw [wrap_id (by omega) (by omega)]; omega
      have w0' : IntKind.wrap .i64 ((i : Int) + 1 - 1) = (i : Int) := by rw [wrap_id (by omega) (by omega)]; omega
      have w0'' : IntKind.wrap .i64 (i : Int) = (i : Int) := wrap_id (by omega) (by omega)
      have hn4 : (ic a)[i + 1]? = some [.v (.int .i64 n)] := by simp [ic, hn]
      have hp4 : (ic a)[i]? = some [.v (.int .i64 p)] := by simp [ic, hp]
      have i0 : (0 : Int) < i + 1 := by omega
      simp [s7, s11, hi, hn2, hn4, hp4, w0, w0', w0'', hip, hp2, hle, i0]
      refine ⟨by omega, ?_⟩
      refine GCallA.fn (fun _ => fn1018 (usesE n.toNat e) a) (by simp [is, ic]) (by simp) rfl ?_
      rw [hw]
      simp [bb]
      refine realC_n ?_
      simp
      refine loop1009a l xs ys a (usesE n.toNat e) (i + 1) n hn (fun x hx => by have := hr x hx; omega) (by omega) ⟨by simp [s0], by simp [s1], by simp [s2], by simp [s7]⟩ (by simp [s11]) (by simp [ic]) (by simp) fun σ' H q11 => ?_
      obtain ⟨q0, q1, q2, q7⟩ := H
      simp [q11] at w1 ⊢
      simp [w1]
      exact ⟨m - 1, by omega, i + 1 + 1, by omega, ⟨by simp [q0], by simp [q1], by simp [q2], by simp [q7]⟩, rfl⟩
  · have : i = (needsL l xs).length := by omega
    simp [s7, s11, this]
    exact hQ _ ⟨by simp [s0], by simp [s1], by simp [s2], by simp [s7]⟩
theorem fn1009 (l : List En) (xs ys : List Int) (hO : ∀ e, e ∈ l → e.Ok) (hxs : xs.length ≤ 1048576) (hys : ys.length ≤ 1048576) : Fn Tryz.prog 9 [ens l, is xs, is ys] (bb true) := by
  refine fn_of (base := 1009000) ok1009 rfl fun σ h0 hr => ?_
  have s0 : σ.sl 0 = .c (.sl 12 160 (l.map En.cells)) := h0 0
  have s1 : σ.sl 1 = .c (.sl 1 8 (ic xs)) := h0 1
  have s2 : σ.sl 2 = .c (.sl 1 8 (ic ys)) := h0 2
  clear h0 hr
  unfold c1009
  simp [s0, s1, s2]
  refine ECall.fn (fn1016 l) (by simp [ens]) (by simp) rfl fun hx => ?_
  clear hx
  cases hh : heavyEnv l with
  | true => simp [bb, s0, s1, s2, r1009]
  | false =>
    by_cases c1 : 30 < xs.length
    · have c1' : (30 : Int) < xs.length := by omega
      simp [bb, s0, s1, s2, c1, c1', r1009]
    have c1' : ¬ (30 : Int) < xs.length := by omega
    by_cases c2 : 30 < ys.length
    · have c2' : (30 : Int) < ys.length := by omega
      simp [bb, s0, s1, s2, c1, c1', c2, c2', r1009]
    have c2' : ¬ (30 : Int) < ys.length := by omega
    simp [bb, s0, s1, s2, c1, c1', c2, c2']
    refine ECall.fn (fn1017g l hO xs (by omega)) (by simp [ens, is, ic]) (by simp) rfl fun hx => ?_
    clear hx
    rcases needsR_split l xs with ⟨hn, hc, ha⟩ | ⟨h1, h2⟩
    case inr =>
      rw [h1]
      simp [is, ib, h2]
      refine GCall.fn (fun _ => fn1013) (by simp) (by simp) rfl fun hx => ?_
      simp [bb, r1009]
    case inl =>
      rw [hn]
      have hR := chkR_ok hO hc
      have hl := hR.len
      have hlen := needsL_len l xs
      simp [is, ib, s0, s1, s2]
      refine ECall.fn (fn1017g l hO (needsL l xs) (by omega)) (by simp [ens, is]) (by simp) rfl fun hx => ?_
      clear hx
      rw [needsR_yes hc needsL_in, needsL_twice]
      simp [is, ib, s0, s1, s2]
      refine GCall.fn (fun _ => fn59 (needsL l xs) (needsL l xs)) (by simp [is]) (by simp) rfl fun hx => ?_
      clear hx
      simp [bb]
      refine loop1009b l hO hc xs ys ⟨by simp [s0], by simp [s1], by simp [s2], by simp [ic]⟩ (by simp) fun σ1 H => ?_
      obtain ⟨q0, q1, q2, q7⟩ := H
      clear s0 s1 s2 σ
      have hwx : wthn xs (needsL l xs) = true := wthn_sub.2 fun x hx => needsL_mem.2 ⟨any_in ha hx, .base hx⟩
      have hcall := fn1017g l hO (xs ++ ys) (by simp; omega)
      have hfin : (needsR l (xs ++ ys)).2 = 0 → wthn (needsL l xs) (needsR l (xs ++ ys)).1 = true := by
        intro h
        rcases needsR_split l (xs ++ ys) with ⟨e, _, _⟩ | ⟨_, e⟩
        · rw [e]
          exact wthn_sub.2 (needsL_sub fun x hx => .base (List.mem_append.2 (.inl hx)))
        · exact absurd h e
      have h1013 := fn1013
      generalize needsR l (xs ++ ys) = r at *
      obtain ⟨c, g⟩ := r
      simp only at hcall hfin
      simp [q0, q1, q2, q7, room]
      refine ⟨by omega, by omega, ?_⟩
      refine ECall.fn hcall (by simp [toD2, toD1, toD, ens, is, ic]) (by simp) rfl fun hx => ?_
      clear hx
      simp [is, ib, q1, q7]
      refine ECall.fn (fn1018 xs (needsL l xs)) (by simp [is, ic]) (by simp) rfl fun hx => ?_
      clear hx
      rw [hwx]
      by_cases hg : g = 0
      · have hw2 := hfin hg
        simp [bb, hg, q7]
        refine GCall.fn (fun _ => fn1018 (needsL l xs) c) (by simp [is, ic]) (by simp) rfl fun hx => ?_
        clear hx
        rw [hw2]
        simp [bb]
        refine GCall.fn (fun _ => h1013) (by simp) (by simp) rfl fun hx => ?_
        simp [bb, r1009]
      · simp [bb, hg, q7]
        refine GCall.fn (res := bb true) (fun h => by cases h) rfl (by simp) rfl fun hx => ?_
        clear hx
        simp [bb]
        refine GCall.fn (fun _ => h1013) (by simp) (by simp) rfl fun hx => ?_
        simp [bb, r1009]
end Go.Abs

namespace Go.Abs
open Go.Proofs
/-! ### what some need together -/
theorem Rch.split {l : List En} {xs ys : List Int} {z : Int} (h : Rch l (xs ++ ys) z) : Rch l xs z ∨ Rch l ys z := by
  induction h with
  | base h => exact (List.mem_append.1 h).imp .base .base
  | step _ h' ih => exact ih.imp (fun h => .step h h') (fun h => .step h h')
theorem needsL_append (l : List En) (xs ys : List Int) : ∀ x, x ∈ needsL l (xs ++ ys) → x ∈ needsL l xs ++ needsL l ys := fun x hx => by
  rw [needsL_mem] at hx
  rw [List.mem_append, needsL_mem, needsL_mem]
  exact hx.2.split.imp (fun h => ⟨hx.1, h⟩) fun h => ⟨hx.1, h⟩
theorem fn1007 (l : List En) (xs ys : List Int) (hO : ∀ e, e ∈ l → e.Ok) (hxs : xs.length ≤ 1048576) (hys : ys.length ≤ 1048576) : Fn Tryz.prog 7 [ens l, is xs, is ys] (bb true) := by
  refine fn_of (base := 1007000) ok1007 rfl fun σ h0 hr => ?_
  have s0 : σ.sl 0 = .c (.sl 12 160 (l.map En.cells)) := h0 0
  have s1 : σ.sl 1 = .c (.sl 1 8 (ic xs)) := h0 1
  have s2 : σ.sl 2 = .c (.sl 1 8 (ic ys)) := h0 2
  clear h0 hr
  unfold c1007
  simp [s0, s1, s2]
  refine ECall.fn (fn1016 l) (by simp [ens]) (by simp) rfl fun hx => ?_
  clear hx
  cases hh : heavyEnv l with
  | true => simp [bb, s0, s1, s2, r1007]
  | false =>
    by_cases c1 : 30 < xs.length
    · have c1' : (30 : Int) < xs.length := by omega
      simp [bb, s0, s1, s2, c1, c1', r1007]
    have c1' : ¬ (30 : Int) < xs.length := by omega
    by_cases c2 : 30 < ys.length
    · have c2' : (30 : Int) < ys.length := by omega
      simp [bb, s0, s1, s2, c1, c1', c2, c2', r1007]
    have c2' : ¬ (30 : Int) < ys.length := by omega
    have hcx := fn1017g l hO xs (by omega)
    have hcy := fn1017g l hO ys (by omega)
    have hcz := fn1017g l hO (xs ++ ys) (by simp; omega)
    have h1013 := fn1013
    have hbad : (needsR l xs).2 ≠ 0 ∨ (needsR l ys).2 ≠ 0 → (needsR l (xs ++ ys)).1 = [] ∧ (needsR l (xs ++ ys)).2 ≠ 0 := by
      intro h
      rcases needsR_split l (xs ++ ys) with ⟨_, hc, ha⟩ | h2
      · exfalso
        rw [List.any_append, Bool.or_eq_false_iff] at ha
        rw [needsR_yes hc ha.1, needsR_yes hc ha.2] at h
        simp at h
      · exact h2
    have hok : (needsR l xs).2 = 0 → (needsR l ys).2 = 0 → (needsR l (xs ++ ys)).2 = 0 ∧ wthn (needsR l xs).1 (needsR l (xs ++ ys)).1 = true ∧ wthn (needsR l ys).1 (needsR l (xs ++ ys)).1 = true ∧ wthn (needsR l (xs ++ ys)).1 ((needsR l xs).1 ++ (needsR l ys).1) = true ∧ (needsR l xs).1.length ≤ 200 ∧ (needsR l ys).1.length ≤ 200 := by
      intro h1 h2
      rcases needsR_split l xs with ⟨e1, hc, ha⟩ | ⟨_, h⟩
      case inr => exact absurd h1 h
      rcases needsR_split l ys with ⟨e2, _, hb⟩ | ⟨_, h⟩
      case inr => exact absurd h2 h
      have hab : (xs ++ ys).any (outE l.length) = false := by rw [List.any_append, ha, hb]; rfl
      have hl := (chkR_ok hO hc).len
      have g1 := needsL_len l xs
      have g2 := needsL_len l ys
      rw [e1, e2, needsR_yes hc hab]
      exact ⟨rfl, wthn_sub.2 (needsL_sub fun x hx => .base (List.mem_append.2 (.inl hx))), wthn_sub.2 (needsL_sub fun x hx => .base (List.mem_append.2 (.inr hx))), wthn_sub.2 (needsL_append l xs ys), by simp only; omega, by simp only; omega⟩
    generalize needsR l xs = rx at *
    generalize needsR l ys = ry at *
    generalize needsR l (xs ++ ys) = rz at *
    obtain ⟨a, e⟩ := rx
    obtain ⟨b, f⟩ := ry
    obtain ⟨c, g⟩ := rz
    simp only at hcx hcy hcz hbad hok
    simp [bb, s0, s1, s2, c1, c1', c2, c2']
    refine ECall.fn hcx (by simp [ens, is, ic]) (by simp) rfl fun hx => ?_
    clear hx
    simp [is, ib, s0, s1, s2]
    refine ECall.fn hcy (by simp [ens, is, ic]) (by simp) rfl fun hx => ?_
    clear hx
    simp [is, ib, s0, s1, s2, room]
    refine ⟨by omega, by omega, ?_⟩
    refine ECall.fn hcz (by simp [toD2, toD1, toD, ens, is, ic]) (by simp) rfl fun hx => ?_
    clear hx
    simp [is, ib]
    by_cases he : e = 0
    · by_cases hf : f = 0
      · obtain ⟨hg, w1, w2, w3, l1, l2⟩ := hok he hf
        simp [he, hf, hg]
        refine GCall.fn (fun _ => fn1018 a c) (by simp [is]) (by simp) rfl fun hx => ?_
        clear hx
        rw [w1]
        simp [bb]
        refine GCall.fn (fun _ => fn1018 b c) (by simp [is]) (by simp) rfl fun hx => ?_
        clear hx
        rw [w2]
        simp [bb]
        refine ⟨by simp [room]; omega, by simp [room]; omega, ?_⟩
        refine GCall.fn (fun _ => fn1018 c (a ++ b)) (by simp [toD2, toD1, toD, is, ic]) (by simp) rfl fun hx => ?_
        clear hx
        rw [w3]
        simp [bb]
        refine GCall.fn (fun _ => h1013) (by simp) (by simp) rfl fun hx => ?_
        simp [bb, r1007]
      · obtain ⟨hc, hg⟩ := hbad (.inr hf)
        simp [he, hf, hg, hc]
        refine GCall.fn (fun _ => h1013) (by simp) (by simp) rfl fun hx => ?_
        simp [bb, r1007]
    · obtain ⟨hc, hg⟩ := hbad (.inl he)
      simp [he, hg, hc]
      refine GCall.fn (fun _ => h1013) (by simp) (by simp) rfl fun hx => ?_
      simp [bb, r1007]
end Go.Abs
