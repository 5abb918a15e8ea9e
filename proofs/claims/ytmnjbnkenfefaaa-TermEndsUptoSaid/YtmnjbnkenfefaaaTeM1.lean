/- THIS TEXT TELLS SOME FUNCTIONS OF THE PROGRAM IN THE CALCULUS, PROVES BY THE KERNEL THAT WHAT IS TOLD IS THE LOADED CODE, AND PROVES WHAT THEY COMPUTE: for every argument that is told; the conditions stand in each theorem. -/
import Derived.Test.YtmnjbnkenfefaaaTeM0
set_option linter.unusedVariables false
set_option linter.unusedSimpArgs false
namespace Go.Abs

/-! ### the shift, plainly -/
mutual
def T.mv : T → Int → Int → T
  | .mk k n ts, b, c => if k = 1 then .mk 1 (if n < c then n else n + b) [] else .mk k n (T.mvL k b c 0 ts)
def T.mvL (k b c : Int) : Int → List T → List T
  | _, [] => []
  | i, t :: ts => T.mv t b (c + bindsOf k i) :: T.mvL k b c (i + 1) ts
end
mutual
def T.ov : T → Int → Int → Bool
  | .mk k n ts, b, c => if k = 1 then decide (c ≤ n) && decide (65535 < n + b) else T.ovL k b c 0 ts
def T.ovL (k b c : Int) : Int → List T → Bool
  | _, [] => false
  | i, t :: ts => T.ov t b (c + bindsOf k i) || T.ovL k b c (i + 1) ts
end

theorem binds01 (k i : Int) : bindsOf k i = 0 ∨ bindsOf k i = 1 := by simp only [bindsOf]; split <;> simp
theorem wrap_dp {k i d : Int} (h0 : 0 ≤ d) (h1 : d ≤ 4611686018427387904) : IntKind.wrap .i64 (d + bindsOf k i) = d + bindsOf k i := by
  rcases binds01 k i with h | h <;> rw [h] <;> exact wrap_id (by omega) (by omega)

theorem mv_count (t : T) : t.formed = true → ∀ b c, (t.mv b c).count = t.count := by
  induction t using T.ind with
  | h k n ts ih =>
  intro hf b c
  rw [T.formed, Bool.and_eq_true, formedL_all, List.all_eq_true] at hf
  by_cases hk : k = 1
  · subst hk
    have hl : ts = [] := by
      have := hf.1
      simp [badHead, kidsOf] at this
      exact this.1.1
    subst hl
    simp [T.mv, T.count, T.countL]
  · have key : ∀ (ts : List T) (i : Int), (∀ t, t ∈ ts → ∀ b c, (t.mv b c).count = t.count) → T.countL (T.mvL k b c i ts) = T.countL ts := by
      intro ts
      induction ts with
      | nil => intro i _; simp [T.mvL]
      | cons t ts ih2 =>
        intro i h
        simp only [T.mvL, T.countL]
        rw [h t (by simp), ih2 (i + 1) fun u hu => h u (by simp [hu])]
    simp only [T.mv, hk, if_false, T.count]
    rw [key ts 0 fun t ht b c => ih t ht (hf.2 t ht) b c]

theorem mvL_len (k b c : Int) : ∀ (ts : List T) (i : Int), (T.mvL k b c i ts).length = ts.length
  | [], i => by simp [T.mvL]
  | t :: ts, i => by simp [T.mvL, mvL_len k b c ts (i + 1)]

theorem mv_depth (t : T) : t.formed = true → ∀ b c, (t.mv b c).depth = t.depth := by
  induction t using T.ind with
  | h k n ts ih =>
  intro hf b c
  rw [T.formed, Bool.and_eq_true, formedL_all, List.all_eq_true] at hf
  by_cases hk : k = 1
  · subst hk
    have hl : ts = [] := by
      have := hf.1
      simp [badHead, kidsOf] at this
      exact this.1.1
    subst hl
    simp [T.mv, T.depth, T.depthL]
  · have key : ∀ (ts : List T) (i a : Int), (∀ t, t ∈ ts → ∀ b c, (t.mv b c).depth = t.depth) → T.depthL a (T.mvL k b c i ts) = T.depthL a ts := by
      intro ts
      induction ts with
      | nil => intro i a _; simp [T.mvL]
      | cons t ts ih2 =>
        intro i a h
        simp only [T.mvL, T.depthL]
        rw [h t (by simp), ih2 (i + 1) _ fun u hu => h u (by simp [hu])]
    simp only [T.mv, hk, if_false, T.depth]
    rw [key ts 0 0 fun t ht b c => ih t ht (hf.2 t ht) b c]

theorem mv_formed (t : T) : t.formed = true → ∀ b c, 0 ≤ b → t.ov b c = false → (t.mv b c).formed = true := by
  induction t using T.ind with
  | h k n ts ih =>
  intro hf b c hb ho
  rw [T.formed, Bool.and_eq_true, formedL_all, List.all_eq_true] at hf
  by_cases hk : k = 1
  · subst hk
    have h1 := hf.1
    simp [badHead, kidsOf] at h1
    simp [T.ov] at ho
    simp [T.mv, T.formed, T.formedL, badHead, kidsOf]
    split <;> omega
  · have key : ∀ (ts : List T) (i : Int), (∀ t, t ∈ ts → ∀ b c, 0 ≤ b → t.ov b c = false → (t.mv b c).formed = true) → T.ovL k b c i ts = false → T.formedL (T.mvL k b c i ts) = true := by
      intro ts
      induction ts with
      | nil => intro i _ _; simp [T.mvL, T.formedL]
      | cons t ts ih2 =>
        intro i h h2
        simp only [T.ovL, Bool.or_eq_false_iff] at h2
        simp only [T.mvL, T.formedL, Bool.and_eq_true]
        exact ⟨h t (by simp) b _ hb h2.1, ih2 (i + 1) (fun u hu => h u (by simp [hu])) h2.2⟩
    simp only [T.ov, hk, if_false] at ho
    simp only [T.mv, hk, if_false, T.formed, mvL_len, Bool.and_eq_true]
    exact ⟨hf.1, key ts 0 (fun t ht => ih t ht (hf.2 t ht)) ho⟩

theorem check_iff (t : T) : t.check = 0 ↔ t.size ≤ 6000 ∧ t.depth ≤ 200 ∧ t.formed = true := by
  simp only [T.check]
  by_cases h1 : 6000 < t.size
  · simp [h1]; intro h; omega
  · by_cases h2 : 200 < t.depth
    · simp [h1, h2]; intro _ h; omega
    · by_cases h3 : t.formed = true
      · simp [h1, h2, h3]; omega
      · simp [h1, h2, h3]
theorem check_cases (t : T) : t.check = 0 ∨ t.check = 4 ∨ t.check = 5 ∨ t.check = 1 := by
  simp only [T.check]
  split
  · simp
  · split
    · simp
    · split <;> simp

theorem mv_check {t : T} (hc : t.count ≤ 1048576) (h : t.check = 0) {b c : Int} (hb : 0 ≤ b) (ho : t.ov b c = false) : (t.mv b c).check = 0 := by
  rw [check_iff] at h ⊢
  have h1 := mv_count t h.2.2 b c
  have h2 := size_count t (by omega)
  have h3 := size_count (t.mv b c) (by omega)
  rw [mv_depth t h.2.2 b c]
  exact ⟨by omega, h.2.1, mv_formed t h.2.2 b c hb ho⟩
theorem count_6000 {t : T} (hc : t.count ≤ 1048576) (h : t.check = 0) : t.count ≤ 6000 := by
  have h2 := size_count t (by omega)
  have := ((check_iff t).1 h).1
  omega

/-- What Map computes with Shift's closure is the plain shift. -/
theorem mapS_mv (fr b : Int) (hfr : 0 ≤ fr) (hfr2 : fr ≤ 65535) (hb : 0 ≤ b) (hb2 : b ≤ 65535) (t : T) : t.formed = true → ∀ e d : Int, 0 ≤ d → d + t.count ≤ 4611686018427387 →
    t.mapS (S := Int) (fun _ n d => shV fr b n d) (fun e n d => shE fr b n d e) e d = (t.mv b (fr + d), if t.ov b (fr + d) then 6 else e) := by
  induction t using T.ind with
  | h k n ts ih =>
  intro hf e d h0 h1
  rw [T.formed, Bool.and_eq_true, formedL_all, List.all_eq_true] at hf
  by_cases hk : k = 1
  · subst hk
    have hh := hf.1
    simp [badHead, kidsOf] at hh
    have hn : 0 ≤ n ∧ n ≤ 65535 := by omega
    have w1 : IntKind.wrap .i64 (fr + d) = fr + d := wrap_id (by omega) (by omega)
    have w2 : IntKind.wrap .i64 (n + b) = n + b := wrap_id (by omega) (by omega)
    simp only [T.mapS, if_true, shV, shE, w1, w2, T.mv, T.ov]
    by_cases hlt : n < fr + d
    · have hlt2 : ¬ (fr + d ≤ n) := by omega
      simp [hlt, hlt2]
    · have hle : fr + d ≤ n := by omega
      by_cases h3 : 65535 < n + b <;> simp [hlt, hle, h3]
  · have key : ∀ (ts : List T) (i e : Int), (∀ t, t ∈ ts → ∀ e d : Int, 0 ≤ d → d + t.count ≤ 4611686018427387 → t.mapS (S := Int) (fun _ n d => shV fr b n d) (fun e n d => shE fr b n d e) e d = (t.mv b (fr + d), if t.ov b (fr + d) then 6 else e)) →
        d + 1 + T.countL ts ≤ 4611686018427387 → T.mapSL (S := Int) (fun _ n d => shV fr b n d) (fun e n d => shE fr b n d e) k d i ts e = (T.mvL k b (fr + d) i ts, if T.ovL k b (fr + d) i ts then 6 else e) := by
      intro ts
      induction ts with
      | nil => intro i e _ _; simp [T.mapSL, T.mvL, T.ovL]
      | cons t ts ih2 =>
        intro i e h hc
        simp only [T.countL] at hc
        have hw := wrap_dp (k := k) (i := i) h0 (by omega)
        have hbd := binds01 k i
        have ht := h t (by simp) e (d + bindsOf k i) (by omega) (by omega)
        simp only [T.mapSL, hw, ht, T.mvL, T.ovL]
        rw [ih2 (i + 1) _ (fun u hu => h u (by simp [hu])) (by omega)]
        have ea : fr + (d + bindsOf k i) = fr + d + bindsOf k i := by omega
        rw [ea]
        by_cases q1 : T.ov t b (fr + d + bindsOf k i) = true <;> by_cases q2 : T.ovL k b (fr + d) (i + 1) ts = true <;> simp [q1, q2]
    simp only [T.count] at h1
    simp only [T.mapS, hk, if_false, T.mv, T.ov]
    rw [key ts 0 e (fun t ht => ih t ht (hf.2 t ht)) (by omega)]

/-! ### laws of the plain shift -/
theorem mv_swap (t : T) : ∀ a b i k : Int, 0 ≤ a → 0 ≤ b → 0 ≤ k → (t.mv a i).mv b (i + k + a) = (t.mv b (i + k)).mv a i := by
  induction t using T.ind with
  | h k n ts ih =>
  intro a b i kk ha hb hkk
  by_cases hk : k = 1
  · subst hk
    simp only [T.mv, if_true]
    congr 1
    split <;> split <;> (try split) <;> omega
  · have key : ∀ (ts : List T) (j : Int), (∀ t, t ∈ ts → ∀ a b i k : Int, 0 ≤ a → 0 ≤ b → 0 ≤ k → (t.mv a i).mv b (i + k + a) = (t.mv b (i + k)).mv a i) →
        T.mvL k b (i + kk + a) j (T.mvL k a i j ts) = T.mvL k a i j (T.mvL k b (i + kk) j ts) := by
      intro ts
      induction ts with
      | nil => intro j _; simp [T.mvL]
      | cons t ts ih2 =>
        intro j h
        simp only [T.mvL]
        rw [ih2 (j + 1) fun u hu => h u (by simp [hu])]
        have h1 := h t (by simp) a b (i + bindsOf k j) kk ha hb hkk
        have e1 : i + bindsOf k j + kk + a = i + kk + a + bindsOf k j := by omega
        have e2 : i + bindsOf k j + kk = i + kk + bindsOf k j := by omega
        rw [e1, e2] at h1
        rw [h1]
    simp only [T.mv, hk, if_false]
    rw [key ts 0 ih]

theorem mv_mv (t : T) : ∀ a b c : Int, 0 ≤ a → 0 ≤ b → (t.mv a c).mv b c = t.mv (a + b) c := by
  induction t using T.ind with
  | h k n ts ih =>
  intro a b c ha hb
  by_cases hk : k = 1
  · subst hk
    simp only [T.mv, if_true]
    congr 1
    split <;> (try split) <;> omega
  · have key : ∀ (ts : List T) (j : Int), (∀ t, t ∈ ts → ∀ a b c : Int, 0 ≤ a → 0 ≤ b → (t.mv a c).mv b c = t.mv (a + b) c) → T.mvL k b c j (T.mvL k a c j ts) = T.mvL k (a + b) c j ts := by
      intro ts
      induction ts with
      | nil => intro j _; simp [T.mvL]
      | cons t ts ih2 =>
        intro j h
        simp only [T.mvL]
        rw [ih2 (j + 1) fun u hu => h u (by simp [hu]), h t (by simp) a b _ ha hb]
    simp only [T.mv, hk, if_false]
    rw [key ts 0 ih]
theorem ov_mv (t : T) : ∀ a b c : Int, 0 ≤ a → 0 ≤ b → t.ov (a + b) c = false → t.ov a c = false ∧ (t.mv a c).ov b c = false := by
  induction t using T.ind with
  | h k n ts ih =>
  intro a b c ha hb
  by_cases hk : k = 1
  · subst hk
    simp only [T.mv, T.ov, if_true, Bool.and_eq_false_iff, decide_eq_false_iff_not]
    intro h
    split <;> omega
  · have key : ∀ (ts : List T) (j : Int), (∀ t, t ∈ ts → ∀ a b c : Int, 0 ≤ a → 0 ≤ b → t.ov (a + b) c = false → t.ov a c = false ∧ (t.mv a c).ov b c = false) → T.ovL k (a + b) c j ts = false → T.ovL k a c j ts = false ∧ T.ovL k b c j (T.mvL k a c j ts) = false := by
      intro ts
      induction ts with
      | nil => intro j _ _; simp [T.mvL, T.ovL]
      | cons t ts ih2 =>
        intro j h h2
        simp only [T.ovL, Bool.or_eq_false_iff] at h2
        simp only [T.mvL, T.ovL, Bool.or_eq_false_iff]
        have h3 := h t (by simp) a b _ ha hb h2.1
        have h4 := ih2 (j + 1) (fun u hu => h u (by simp [hu])) h2.2
        exact ⟨⟨h3.1, h4.1⟩, h3.2, h4.2⟩
    simp only [T.mv, T.ov, hk, if_false]
    exact key ts 0 ih
theorem mv_zero (t : T) : t.formed = true → ∀ c : Int, t.mv 0 c = t ∧ t.ov 0 c = false := by
  induction t using T.ind with
  | h k n ts ih =>
  intro hf c
  rw [T.formed, Bool.and_eq_true, formedL_all, List.all_eq_true] at hf
  by_cases hk : k = 1
  · subst hk
    have hh := hf.1
    simp [badHead, kidsOf] at hh
    have hts : ts = [] := hh.1.1
    subst hts
    simp [T.mv, T.ov]
    omega
  · have key : ∀ (ts : List T) (j : Int), (∀ t, t ∈ ts → ∀ c : Int, t.mv 0 c = t ∧ t.ov 0 c = false) → T.mvL k 0 c j ts = ts ∧ T.ovL k 0 c j ts = false := by
      intro ts
      induction ts with
      | nil => intro j _; simp [T.mvL, T.ovL]
      | cons t ts ih2 =>
        intro j h
        have h3 := h t (by simp) (c + bindsOf k j)
        have h4 := ih2 (j + 1) (fun u hu => h u (by simp [hu]))
        simp [T.mvL, T.ovL, h3, h4]
    simp only [T.mv, T.ov, hk, if_false]
    have := key ts 0 fun t ht => ih t ht (hf.2 t ht)
    rw [this.1, this.2]
    exact ⟨rfl, rfl⟩
theorem ov_mono (t : T) : ∀ a b c : Int, a ≤ b → t.ov b c = false → t.ov a c = false := by
  induction t using T.ind with
  | h k n ts ih =>
  intro a b c hab
  by_cases hk : k = 1
  · subst hk
    simp only [T.ov, if_true, Bool.and_eq_false_iff, decide_eq_false_iff_not]
    omega
  · have key : ∀ (ts : List T) (j : Int), (∀ t, t ∈ ts → ∀ a b c : Int, a ≤ b → t.ov b c = false → t.ov a c = false) → T.ovL k b c j ts = false → T.ovL k a c j ts = false := by
      intro ts
      induction ts with
      | nil => intro j _ _; simp [T.ovL]
      | cons t ts ih2 =>
        intro j h h2
        simp only [T.ovL, Bool.or_eq_false_iff] at h2 ⊢
        exact ⟨h t (by simp) a b _ hab h2.1, ih2 (j + 1) (fun u hu => h u (by simp [hu])) h2.2⟩
    simp only [T.ov, hk, if_false]
    exact key ts 0 ih
end Go.Abs

namespace Go.Abs
open Go.Proofs

def fullT (n : Nat) : T := if h : n < 2 then .mk 2 0 [] else if n = 2 then .mk 9 0 [.mk 2 0 []] else .mk 6 0 [fullT ((n - 1) / 2), fullT (n - 1 - (n - 1) / 2)]
termination_by n
decreasing_by all_goals omega

theorem full_1 {n : Nat} (h : n < 2) : fullT n = .mk 2 0 [] := by rw [fullT]; simp [h]
theorem full_2 : fullT 2 = .mk 9 0 [.mk 2 0 []] := by rw [fullT]; simp
theorem full_3 {n : Nat} (h : 2 < n) : fullT n = .mk 6 0 [fullT ((n - 1) / 2), fullT (n - 1 - (n - 1) / 2)] := by
  rw [fullT]; rw [dif_neg (by omega), if_neg (by omega)]

theorem full_count (n : Nat) : 1 ≤ n → (fullT n).count = n := by
  induction n using Nat.strongRecOn with
  | ind n ih =>
  intro h1
  by_cases h : n < 2
  · rw [full_1 h]; simp [T.count, T.countL]; omega
  · by_cases h2 : n = 2
    · subst h2; rw [full_2]; simp [T.count, T.countL]
    · rw [full_3 (by omega)]
      simp only [T.count, T.countL]
      rw [ih _ (by omega) (by omega), ih _ (by omega) (by omega)]
      omega
theorem full_formed (n : Nat) : (fullT n).formed = true := by
  induction n using Nat.strongRecOn with
  | ind n ih =>
  by_cases h : n < 2
  · rw [full_1 h]; rfl
  · by_cases h2 : n = 2
    · subst h2; rw [full_2]; rfl
    · rw [full_3 (by omega)]
      simp only [T.formed, T.formedL]
      rw [ih _ (by omega), ih _ (by omega)]
      rfl
theorem best_max (a b : Int) : best2 true a b = max a b := by simp only [best2, if_true]; split <;> omega
theorem full_depth (m : Nat) : ∀ n : Nat, n < 2 ^ (m + 1) → m ≤ 1000 → 1 ≤ (fullT n).depth ∧ (fullT n).depth ≤ m + 1 := by
  induction m with
  | zero => intro n h _; rw [full_1 (by omega)]; decide
  | succ m ih =>
    intro n h hm
    by_cases h1 : n < 2
    · have e : (T.mk 2 0 []).depth = 1 := by rfl
      rw [full_1 h1, e]; omega
    · by_cases h2 : n = 2
      · subst h2
        have e : (T.mk 9 0 [.mk 2 0 []]).depth = 2 := by rfl
        rw [full_2, e]; omega
      · rw [full_3 (by omega)]
        have h3 : 2 ^ (m + 1 + 1) = 2 * 2 ^ (m + 1) := by rw [Nat.pow_succ]; omega
        have a := ih ((n - 1) / 2) (by omega) (by omega)
        have b := ih (n - 1 - (n - 1) / 2) (by omega) (by omega)
        simp only [T.depth, T.depthL, best_max]
        rw [wrap_id (by omega) (by omega)]
        omega

theorem fn26 (n : Nat) : n ≤ 1000000 → Fn Try.prog 26 [ib n] (tm (fullT n)) := by
  induction n using Nat.strongRecOn with
  | ind n ih =>
  intro hn
  refine fn_of (base := 26000) ok26 rfl fun σ h0 hr => ?_
  have s0 := h0 0
  rw [slots0] at s0
  simp only [ib] at s0
  clear h0 hr
  unfold c26
  by_cases h : n < 2
  · have h' : (n : Int) < 2 := by omega
    simp [s0, h']
    refine ECall.fn (fn24 0) (by simp [ib]) (by simp) (by simp [tm]) fun _ => ?_
    simp [tm, r26, full_1 h]
  · have h' : ¬ (n : Int) < 2 := by omega
    by_cases h2 : n = 2
    · subst h2
      simp [s0]
      refine ECall.fn (fn24 0) (by simp [ib]) (by simp) (by simp [tm]) fun _ => ?_
      simp [tm, room]
      refine ⟨fun x hx => cells_isD' _ x hx, ?_⟩
      refine ECall.fn (fn25 9 [.mk 2 0 []]) (by simp [ib, tms]) (by simp) (by simp [tm]) fun _ => ?_
      simp [tm, r26, full_2]
    · have h2' : ¬ (n : Int) = 2 := by omega
      have c1 := ih ((n - 1) / 2) (by omega) (by omega)
      have c2 := ih (n - 1 - (n - 1) / 2) (by omega) (by omega)
      have w1 : IntKind.wrap .i64 ((n : Int) - 1) = ((n - 1 : Nat) : Int) := by rw [wrap_id (by omega) (by omega)]; omega
      have w2 : IntKind.wrap .i64 (((n - 1 : Nat) : Int) / 2) = (((n - 1) / 2 : Nat) : Int) := by
        rw [wrap_id (by omega) (by omega)]; omega
      have w3 : IntKind.wrap .i64 (((n - 1 : Nat) : Int) - ((n - 1 : Nat) : Int) / 2) = ((n - 1 - (n - 1) / 2 : Nat) : Int) := by rw [wrap_id (by omega) (by omega)]; omega
      simp [s0, h', h2', w1, w2]
      refine ECall.fn c1 (by simp [ib]) (by simp) (by simp [tm]) fun _ => ?_
      simp [s0, w1, w3]
      refine ECall.fn c2 (by simp [ib]) (by simp) (by simp [tm]) fun _ => ?_
      simp [tm, room]
      refine ⟨⟨fun x hx => cells_isD' _ x hx, fun x hx => cells_isD' _ x hx⟩, ?_⟩
      refine ECall.fn (fn25 6 [fullT ((n - 1) / 2), fullT (n - 1 - (n - 1) / 2)]) (by simp [ib, tms]) (by simp) (by simp [tm]) fun _ => ?_
      simp [tm, r26, full_3 (show 2 < n by omega)]

def chainT : Nat → T
  | 0 => .mk 2 0 []
  | i + 1 => .mk 9 0 [chainT i]
theorem chain_facts (i : Nat) : (chainT i).count = i + 1 ∧ (chainT i).formed = true ∧ (i ≤ 1000000 → (chainT i).depth = i + 1) := by
  induction i with
  | zero => exact ⟨rfl, rfl, fun _ => rfl⟩
  | succ i ih =>
    refine ⟨?_, ?_, fun h => ?_⟩
    · simp [chainT, T.count, T.countL, ih.1]
    · simp [chainT, T.formed, T.formedL, ih.2.1, badHead, kidsOf]
    · simp only [chainT, T.depth, T.depthL, best_max, ih.2.2 (by omega)]
      rw [wrap_id (by omega) (by omega)]; omega

theorem fn4 (v : Int) (deep : Bool) : Fn Try.prog 4 [ib v, bb deep] (bb true) := by
  refine fn_of (base := 4000) ok4 rfl fun σ h0 hr => ?_
  have s0 := h0 0
  have s1 := h0 1
  rw [slots0] at s0
  rw [slots1] at s1
  simp only [ib, bb] at s0 s1
  clear h0 hr
  obtain ⟨v1, v2, v3⟩ := umod v (m := 3) (by omega) (by omega)
  unfold c4
  simp [s0, v3]
  obtain ⟨o, ho⟩ : ∃ o : Nat, (uw v).tmod 3 = o := ⟨((uw v).tmod 3).toNat, by omega⟩
  rw [ho] at v1 v2 v3 ⊢
  refine ECall.fn (fn24 0) (by simp [ib]) (by simp) (by simp [tm]) fun _ => ?_
  simp [tm, s1]
  have wo (k : Nat) (hk : k ≤ 1000000) : IntKind.wrap .i64 ((k : Int) + (o : Int)) = ((k + o : Nat) : Int) := by rw [wrap_id (by omega) (by omega)]; omega
  have w198 := wo 198 (by omega)
  have w199 := wo 199 (by omega)
  have w5999 := wo 5999 (by omega)
  simp at w198 w199 w5999
  have ho3 : o < 3 := by omega
  cases deep with
  | true =>
    simp
    refine W_loop (fun m σ => ∃ i : Nat, i + m = 198 + o ∧ σ.sl 0 = .c (.v (.int .i64 o)) ∧ σ.sl 5 = .c (.ref 4005 (σ.tg 4005) 0) ∧ σ.ob 4005 = some (.box 24 (chainT i).cells) ∧ σ.sl 6 = .c (.v (.int .i64 0)) ∧ σ.sl 7 = .c (.v (.int .i64 i))) (198 + o) ?_ ?_
    · exact ⟨0, by simp [chainT]⟩
    · rintro m σ ⟨i, hm, q0, q5, o5, q6, q7⟩
      unfold c4b0
      by_cases hi : i < 198 + o
      · have hi' : (i : Int) < 198 + (o : Int) := by omega
        have w1 := wrap_succ (i := i) (by omega)
        simp [q0, q5, o5, q6, q7, w198, hi', room]
        refine ⟨fun x hx => cells_isD' _ x hx, ?_⟩
        refine ECall.fn (fn25 9 [chainT i]) (by simp [ib, tms]) (by simp) (by simp [tm]) fun _ => ?_
        simp [tm, q5, o5, q7]
        refine ⟨m - 1, by omega, i + 1, by omega, ?_⟩
        simp [q0, q5, q6, w1, chainT]
      · have hi' : ¬ (i : Int) < 198 + (o : Int) := by omega
        have hio : i = 198 + o := by omega
        obtain ⟨h1, h2, h3⟩ := chain_facts i
        have h3 := h3 (by omega)
        have hs := size_count (chainT i) (by omega)
        have hck : (chainT i).check = if 1 < o then 5 else 0 := by
          by_cases h : 1 < o
          · rw [if_pos h, T.check, if_neg (by omega), if_pos (by omega)]
          · rw [if_neg h, check_iff]; exact ⟨by omega, by omega, h2⟩
        have hd : (chainT i).depth = 199 + (o : Int) := by omega
        have c22 := fn22 (chainT i)
        rw [hck] at c22
        have c21 := fn21 (chainT i)
        rw [hd] at c21
        simp [q0, q5, o5, q6, q7, w198, hi']
        refine ⟨fun h => ?_, fun h => ?_⟩
        · rw [if_pos (by omega)] at c22
          refine ECall.fn c21 (by simp [tm]) (by simp) rfl fun _ => ?_
          simp [ib, w199, q0, q5, o5]
          refine GCall.fn (fun _ => c22) (by simp [tm]) (by simp) rfl fun _ => ?_
          simp [ib]
          refine GCall.fn (fun _ => fn23) (by simp) (by simp) rfl fun _ => ?_
          simp [bb, r4]
        · rw [if_neg (by omega)] at c22
          refine ECall.fn c21 (by simp [tm]) (by simp) rfl fun _ => ?_
          simp [ib, w199, q0, q5, o5, q6]
          refine GCall.fn (fun _ => c22) (by simp [tm]) (by simp) rfl fun _ => ?_
          simp [ib, q6]
          refine GCall.fn (fun _ => fn23) (by simp) (by simp) rfl fun _ => ?_
          simp [bb, r4]
  | false =>
    have e1 : ((5999 + o : Nat) : Int) = 5999 + (o : Int) := by omega
    have c26 := fn26 (5999 + o) (by omega)
    rw [e1] at c26
    generalize hT : fullT (5999 + o) = F at c26
    have h1 : F.count = 5999 + o := by rw [← hT]; exact full_count _ (by omega)
    have h2 : F.formed = true := by rw [← hT]; exact full_formed _
    have h3 : F.depth ≤ 200 := by
      have := (full_depth 12 (5999 + o) (by omega) (by omega)).2
      rw [← hT]; omega
    have hs : F.size = 5999 + (o : Int) := by rw [size_count F (by omega)]; omega
    have hck : F.check = if 1 < o then 4 else 0 := by
      by_cases h : 1 < o
      · rw [if_pos h, T.check, if_pos (by omega)]
      · rw [if_neg h, check_iff]; exact ⟨by omega, by omega, h2⟩
    have c22 := fn22 F
    rw [hck] at c22
    have c20 := fn20 F
    rw [hs] at c20
    simp [w5999]
    refine ECall.fn c26 (by simp [ib]) (by simp) (by simp [tm]) fun _ => ?_
    simp [tm]
    refine ⟨fun h => ?_, fun h => ?_⟩
    · rw [if_pos (by omega)] at c22
      refine ECall.fn c20 (by simp [tm]) (by simp) rfl fun _ => ?_
      simp [ib, w5999]
      refine GCall.fn (fun _ => c22) (by simp [tm]) (by simp) rfl fun _ => ?_
      simp [ib]
      refine GCall.fn (fun _ => fn23) (by simp) (by simp) rfl fun _ => ?_
      simp [bb, r4]
    · rw [if_neg (by omega)] at c22
      refine ECall.fn c20 (by simp [tm]) (by simp) rfl fun _ => ?_
      simp [ib, w5999]
      refine GCall.fn (fun _ => c22) (by simp [tm]) (by simp) rfl fun _ => ?_
      simp [ib]
      refine GCall.fn (fun _ => fn23) (by simp) (by simp) rfl fun _ => ?_
      simp [bb, r4]
end Go.Abs
