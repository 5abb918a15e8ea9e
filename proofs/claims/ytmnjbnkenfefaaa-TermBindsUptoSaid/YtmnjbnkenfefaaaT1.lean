/- THIS TEXT SAYS WHAT A TERM IS, HOW IT LIES IN MEMORY, AND WHAT THE PROGRAM RECKONS OF IT: plain definitions and small laws. -/
import Derived.Test.YtmnjbnkenfefaaaAbs25
set_option linter.unusedVariables false
set_option linter.unusedSimpArgs false
namespace Go.Abs

/-- A term, as it is meant. -/
inductive T where
  | mk (k n : Int) (kids : List T)
  deriving Inhabited

mutual
def T.cells : T → List Cell
  | .mk k n ts => [.v (.int .i64 k), .v (.int .i64 n), .sl 3 40 (T.cellsL ts)]
def T.cellsL : List T → List (List Cell)
  | [] => []
  | t :: ts => T.cells t :: T.cellsL ts
end
theorem cellsL_map : ∀ ts : List T, T.cellsL ts = ts.map T.cells
  | [] => by simp [T.cellsL]
  | t :: ts => by simp [T.cellsL, cellsL_map ts]
theorem cells_mk (k n : Int) (ts : List T) : T.cells (.mk k n ts) = [.v (.int .i64 k), .v (.int .i64 n), .sl 3 40 (ts.map T.cells)] := by rw [T.cells, cellsL_map]
def T.kind : T → Int | .mk k _ _ => k
def T.val : T → Int | .mk _ n _ => n
def T.kids : T → List T | .mk _ _ ts => ts
@[simp] theorem kind_mk (k n : Int) (ts : List T) : (T.mk k n ts).kind = k := rfl
@[simp] theorem val_mk (k n : Int) (ts : List T) : (T.mk k n ts).val = n := rfl
@[simp] theorem kids_mk (k n : Int) (ts : List T) : (T.mk k n ts).kids = ts := rfl
theorem cells_eq (t : T) : t.cells = [.v (.int .i64 t.kind), .v (.int .i64 t.val), .sl 3 40 (t.kids.map T.cells)] := by cases t; exact cells_mk _ _ _
@[simp] theorem cells_len (t : T) : t.cells.length = 3 := by rw [cells_eq]; rfl
@[simp] theorem cells_take (t : T) : t.cells.take 3 = t.cells := by rw [cells_eq]; rfl
@[simp] theorem cells_toD (σ : St) (t : T) : t.cells.map (toD σ) = t.cells := by rw [cells_eq]; rfl
@[simp] theorem cells_keys (t : T) : keysCs t.cells = [] := by rw [cells_eq]; rfl
theorem cells_isD (t : T) : t.cells.all Cell.isD = true := by rw [cells_eq]; rfl
@[simp] theorem cells_isD' (t : T) (c : Cell) (h : c ∈ t.cells) : c.isD = true := List.all_eq_true.1 (cells_isD t) c h
@[simp] theorem putC_all (t : T) (a b c : Cell) : putC [a, b, c] 0 t.cells = t.cells := by rw [cells_eq]; rfl
def tm (t : T) : AV := .agg t.cells
def tms (ts : List T) : AV := .c (.sl 3 40 (ts.map T.cells))
def ib (n : Int) : AV := .c (.v (.int .i64 n))
def bb (b : Bool) : AV := .c (.v (.bool b))
@[simp] theorem tm_un (t : T) : un (tm t) = tm t := rfl
@[simp] theorem tms_un (t : List T) : un (tms t) = tms t := rfl

theorem real_sl {sz bs : Nat} {es : List (List Cell)} (h : Real (.c (.sl sz bs es))) : es.length * bs ≤ room := by
  obtain ⟨g, w, v, h⟩ := h
  have h := h (by simp)
  cases h with
  | sl _ _ _ a c vs h1 h2 h3 h4 h5 => exact h2
theorem real_tms {ts : List T} (h : Real (tms ts)) : ts.length * 40 ≤ 140737488355328 := by simpa [room] using real_sl h
theorem real_kids {t : T} (h : Real (tm t)) : t.kids.length * 40 ≤ 140737488355328 := by
  obtain ⟨g, w, v, h⟩ := h
  obtain ⟨vs, _, h⟩ := h
  rw [cells_eq] at h
  obtain ⟨v2, _, h2⟩ := h.get 2 _ rfl
  have h2 : RD g w _ v2 := h2
  cases h2 with
  | sl _ _ _ a c vs h1 h6 h3 h4 h5 => simpa [room] using h6

theorem wrap_id {a : Int} (h1 : -9223372036854775808 ≤ a) (h2 : a < 9223372036854775808) : IntKind.wrap .i64 a = a := by
  simp only [IntKind.wrap, IntKind.bits, IntKind.signed, Bool.true_and]
  by_cases h0 : 0 ≤ a
  · have h3 : a % (2 ^ 64 : Int) = a := Int.emod_eq_of_lt h0 (by omega)
    simp only [h3]
    split
    · rename_i h; simp at h; omega
    · rfl
  · have h3 : a % (2 ^ 64 : Int) = a + 2 ^ 64 := by
      rw [← Int.add_emod_right a (2 ^ 64)]
      exact Int.emod_eq_of_lt (by omega) (by omega)
    simp only [h3]
    split
    · omega
    · rename_i h; simp at h; omega

theorem slots0 (x : AV) (l : List AV) : slotsOf (x :: l) 0 = x := rfl
theorem slots1 (x y : AV) (l : List AV) : slotsOf (x :: y :: l) 1 = y := rfl
theorem slots2 (x y z : AV) (l : List AV) : slotsOf (x :: y :: z :: l) 2 = z := rfl

attribute [simp] rrGok resOf resL rrEv isV1

theorem T.ind {p : T → Prop} (h : ∀ k n ts, (∀ t, t ∈ ts → p t) → p (.mk k n ts)) (t : T) : p t := by
  have key : ∀ (m : Nat) (t : T), SizeOf.sizeOf t < m → p t := by
    intro m
    induction m with
    | zero => intro t ht; omega
    | succ m ih =>
      intro t ht
      obtain ⟨k, n, ts⟩ := t
      refine h k n ts fun u hu => ih u ?_
      have := List.sizeOf_lt_of_mem hu
      simp at ht
      omega
  exact key _ t (Nat.lt_succ_self _)

theorem drop_at {α : Type} : ∀ {ts : List α} {i : Nat} {t : α}, ts[i]? = some t → ts.drop i = t :: ts.drop (i + 1)
  | t :: ts, 0, _, h => by simp at h; simp [h]
  | t :: ts, i + 1, t', h => by simpa using drop_at (ts := ts) (by simpa using h)
  | [], _, _, h => by simp at h
theorem getE {α : Type} {ts : List α} {i : Nat} {t : α} (h : ts[i]? = some t) : ∃ hi : i < ts.length, ts[i] = t := List.getElem?_eq_some_iff.1 h
theorem at_of {α : Type} {ts : List α} {i : Nat} (h : i < ts.length) : ∃ t, ts[i]? = some t := ⟨ts[i], by simp [h]⟩
theorem wrap_succ {i : Nat} (h : i < 9223372036854775807) : IntKind.wrap .i64 ((i : Int) + 1) = ((i + 1 : Nat) : Int) := by rw [wrap_id (by omega) (by omega)]; rfl

def kidsOf (k : Int) : Int := if k = 1 then 0 else if k = 2 then 0 else if k = 3 then 0 else if k = 9 then 1 else if k = 10 then 1 else if k = 8 then 3 else if k = 11 then 3 else if k = 13 then 3 else if 1 ≤ k ∧ k ≤ 13 then 2 else -1
def badHead (k n : Int) (len : Nat) : Bool := ((((decide (kidsOf k < 0) || !decide ((len : Int) = kidsOf k)) || decide (n < 0)) || decide (65535 < n)) || (decide (0 < kidsOf k) && !decide (n = 0)))
mutual
def T.formed : T → Bool
  | .mk k n ts => !badHead k n ts.length && T.formedL ts
def T.formedL : List T → Bool
  | [] => true
  | t :: ts => T.formed t && T.formedL ts
end
theorem formedL_all : ∀ ts : List T, T.formedL ts = ts.all T.formed
  | [] => by simp [T.formedL]
  | t :: ts => by simp [T.formedL, formedL_all ts]

def is (ns : List Int) : AV := .c (.sl 1 8 (ns.map fun n => [.v (.int .i64 n)]))
theorem real_is {ns : List Int} (h : Real (is ns)) : ns.length * 8 ≤ 140737488355328 := by simpa [room] using real_sl h
def bindsOf (k i : Int) : Int := if i = 1 ∧ (k = 4 ∨ k = 5 ∨ k = 7) then 1 else 0
mutual
def T.within : T → Int → Int → Bool
  | .mk k n ts, a, b => if k = 1 then decide (n < a) else if k = 2 then decide (n ≤ 6) else if k = 3 then decide (n < b) else T.withinL k a b 0 ts
def T.withinL (k a b : Int) : Int → List T → Bool
  | _, [] => true
  | i, t :: ts => T.within t (IntKind.wrap .i64 (a + bindsOf k i)) b && T.withinL k a b (i + 1) ts
end

mutual
def T.size : T → Int
  | .mk _ _ ts => T.sizeL 1 ts
def T.sizeL : Int → List T → Int
  | a, [] => a
  | a, t :: ts => T.sizeL (IntKind.wrap .i64 (a + T.size t)) ts
end
mutual
def T.depth : T → Int
  | .mk _ _ ts => IntKind.wrap .i64 (T.depthL 0 ts + 1)
def T.depthL : Int → List T → Int
  | a, [] => a
  | a, t :: ts => T.depthL (best2 true a (T.depth t)) ts
end

def T.check (t : T) : Int := if 6000 < t.size then 4 else if 200 < t.depth then 5 else if t.formed then 0 else 1
def T.scope (t : T) (a b : Int) : Bool := decide (0 ≤ a) && decide (0 ≤ b) && decide (t.check = 0) && T.within t (best2 false a 65536) b

mutual
def T.count : T → Nat
  | .mk _ _ ts => T.countL ts + 1
def T.countL : List T → Nat
  | [] => 0
  | t :: ts => T.count t + T.countL ts
end
theorem count_mem {t : T} : ∀ {ts : List T}, t ∈ ts → t.count ≤ T.countL ts
  | u :: ts, h => by
    rcases List.mem_cons.1 h with rfl | h
    · simp [T.countL]
    · have := count_mem h; simp [T.countL]; omega
theorem count_pos (t : T) : 1 ≤ t.count := by cases t; simp [T.count]
theorem size_count (t : T) : t.count < 4611686018427387904 → t.size = t.count := by
  induction t using T.ind with
  | h k n ts ih =>
    intro h
    have key : ∀ (ts : List T) (a : Nat), (∀ t, t ∈ ts → t.count < 4611686018427387904 → t.size = t.count) → a + T.countL ts < 4611686018427387904 → T.sizeL (a : Int) ts = ((a + T.countL ts : Nat) : Int) := by
      intro ts
      induction ts with
      | nil => intro a _ _; simp [T.sizeL, T.countL]
      | cons t ts ih2 =>
        intro a h1 h2
        simp only [T.countL] at h2
        have ht := h1 t (by simp) (by omega)
        have hw : IntKind.wrap .i64 ((a : Int) + t.size) = ((a + t.count : Nat) : Int) := by
          rw [ht, wrap_id (by omega) (by omega)]; simp
        rw [T.sizeL, hw, ih2 (a + t.count) (fun u hu => h1 u (by simp [hu])) (by omega)]
        simp [T.countL]; omega
    simp only [T.count] at h ⊢
    have := key ts 1 ih (by omega)
    rw [T.size]
    have e : ((1 : Nat) : Int) = 1 := rfl
    rw [e] at this
    rw [this]
    simp; omega
theorem depth_le (t : T) : t.count < 4611686018427387904 → 1 ≤ t.depth ∧ t.depth ≤ t.count := by
  induction t using T.ind with
  | h k n ts ih =>
    intro h
    have key : ∀ (ts : List T) (a : Int), (∀ t, t ∈ ts → 1 ≤ t.depth ∧ t.depth ≤ t.count) → 0 ≤ a → a ≤ T.depthL a ts ∧ T.depthL a ts ≤ max a (T.countL ts) ∧ ∀ t, t ∈ ts → t.depth ≤ T.depthL a ts := by
      intro ts
      induction ts with
      | nil => intro a _ h0; simp [T.depthL, T.countL]; omega
      | cons t ts ih2 =>
        intro a h1 h0
        have ht := h1 t (by simp)
        have h2 := ih2 (best2 true a t.depth) (fun u hu => h1 u (by simp [hu])) (by simp only [best2, if_true]; split <;> omega)
        have hb : best2 true a t.depth = max a t.depth := by simp only [best2, if_true]; split <;> omega
        rw [hb] at h2
        simp only [T.depthL, T.countL, hb]
        refine ⟨by omega, by omega, fun u hu => ?_⟩
        rcases List.mem_cons.1 hu with rfl | hu
        · omega
        · exact h2.2.2 u hu
    simp only [T.count] at h ⊢
    have := key ts 0 (fun t ht => ih t ht (by have := count_mem ht; omega)) (by omega)
    rw [T.depth, wrap_id (by omega) (by omega)]
    omega
theorem depth_kid {k n : Int} {ts : List T} {t : T} (ht : t ∈ ts) (h : (T.mk k n ts).count < 4611686018427387904) : t.depth + 1 ≤ (T.mk k n ts).depth := by
  have key : ∀ (ts : List T) (a : Int), (∀ t, t ∈ ts → 1 ≤ t.depth ∧ t.depth ≤ t.count) → 0 ≤ a → a ≤ T.depthL a ts ∧ T.depthL a ts ≤ max a (T.countL ts) ∧ ∀ t, t ∈ ts → t.depth ≤ T.depthL a ts := by
    intro ts
    induction ts with
    | nil => intro a _ h0; simp [T.depthL, T.countL]; omega
    | cons t ts ih2 =>
      intro a h1 h0
      have ht := h1 t (by simp)
      have h2 := ih2 (best2 true a t.depth) (fun u hu => h1 u (by simp [hu])) (by simp only [best2, if_true]; split <;> omega)
      have hb : best2 true a t.depth = max a t.depth := by simp only [best2, if_true]; split <;> omega
      rw [hb] at h2
      simp only [T.depthL, T.countL, hb]
      refine ⟨by omega, by omega, fun u hu => ?_⟩
      rcases List.mem_cons.1 hu with rfl | hu
      · omega
      · exact h2.2.2 u hu
  simp only [T.count] at h
  have h2 := key ts 0 (fun t ht => depth_le t (by have := count_mem ht; omega)) (by omega)
  have h3 := h2.2.2 t ht
  rw [T.depth, wrap_id (by omega) (by omega)]
  omega

@[simp] theorem bestL_2 (mx : Bool) (k : IntKind) (a b : Int) : bestL mx k a [.c (.v (.int k b))] = some (best2 mx a b) := by simp [bestL]
@[simp] theorem bestL_gd (mx : Bool) (k : IntKind) (a b : Int) (β : Bool) : bestL mx k a [.gd β (.c (.v (.int k b)))] = some (best2 mx a b) := by simp [bestL]

end Go.Abs
