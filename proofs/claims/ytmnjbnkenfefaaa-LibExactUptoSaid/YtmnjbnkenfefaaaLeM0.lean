/- THIS TEXT TELLS SOME FUNCTIONS OF THE PROGRAM IN THE CALCULUS, PROVES BY THE KERNEL THAT WHAT IS TOLD IS THE LOADED CODE, AND PROVES WHAT THEY COMPUTE: for every argument that is told; the conditions stand in each theorem. -/
import Derived.Test.YtmnjbnkenfefaaaRows
import Derived.WalkKit
import Derived.ProofKit
import Derived.OpenShut
import Derived.JoinedCond
import Derived.Deep.Strs
import Derived.Deep.Slices
import Derived.Below
import Derived.Carry
import Derived.WideShapes
import Derived.KernelRfl
import Derived.Test.YtmnjbnkenfefaaaProg
import Derived.Test.YtmnjbnkenfefaaaLeAM3
set_option linter.unusedVariables false
set_option linter.unusedSimpArgs false
namespace Go.Abs

/-- A term, as it is meant. -/
inductive T where
  | mk (k n : Int) (kids : List T)
  deriving Inhabited

mutual
def T.cells : T → List Cell
  | .mk k n ts => [.v (.int .i64 k), .v (.int .i64 n), .sl 3 40 (T.cellsL ts)]
def T.cellsL : List T → List (List Cell)
  | [] => []
  | t :: ts => T.cells t :: T.cellsL ts
end
theorem cellsL_map : ∀ ts : List T, T.cellsL ts = ts.map T.cells
  | [] => by simp [T.cellsL]
  | t :: ts => by simp [T.cellsL, cellsL_map ts]
theorem cells_mk (k n : Int) (ts : List T) : T.cells (.mk k n ts) = [.v (.int .i64 k), .v (.int .i64 n), .sl 3 40 (ts.map T.cells)] := by rw [T.cells, cellsL_map]
def T.kind : T → Int | .mk k _ _ => k
def T.val : T → Int | .mk _ n _ => n
def T.kids : T → List T | .mk _ _ ts => ts
@[simp] theorem kind_mk (k n : Int) (ts : List T) : (T.mk k n ts).kind = k := rfl
@[simp] theorem val_mk (k n : Int) (ts : List T) : (T.mk k n ts).val = n := rfl
@[simp] theorem kids_mk (k n : Int) (ts : List T) : (T.mk k n ts).kids = ts := rfl
theorem cells_eq (t : T) : t.cells = [.v (.int .i64 t.kind), .v (.int .i64 t.val), .sl 3 40 (t.kids.map T.cells)] := by cases t; exact cells_mk _ _ _
@[simp] theorem cells_len (t : T) : t.cells.length = 3 := by rw [cells_eq]; rfl
@[simp] theorem cells_take (t : T) : t.cells.take 3 = t.cells := by rw [cells_eq]; rfl
@[simp] theorem cells_toD (σ : St) (t : T) : t.cells.map (toD σ) = t.cells := by rw [cells_eq]; rfl
@[simp] theorem cells_keys (t : T) : keysCs t.cells = [] := by rw [cells_eq]; rfl
theorem cells_isD (t : T) : t.cells.all Cell.isD = true := by rw [cells_eq]; rfl
@[simp] theorem cells_isD' (t : T) (c : Cell) (h : c ∈ t.cells) : c.isD = true := List.all_eq_true.1 (cells_isD t) c h
@[simp] theorem putC_all (t : T) (a b c : Cell) : putC [a, b, c] 0 t.cells = t.cells := by rw [cells_eq]; rfl
def tm (t : T) : AV := .agg t.cells
def tms (ts : List T) : AV := .c (.sl 3 40 (ts.map T.cells))
def ib (n : Int) : AV := .c (.v (.int .i64 n))
def bb (b : Bool) : AV := .c (.v (.bool b))
@[simp] theorem tm_un (t : T) : un (tm t) = tm t := rfl
@[simp] theorem tms_un (t : List T) : un (tms t) = tms t := rfl

theorem real_sl {sz bs : Nat} {es : List (List Cell)} (h : Real (.c (.sl sz bs es))) : es.length * bs ≤ room := by
  obtain ⟨g, w, v, h⟩ := h
  have h := h (by simp)
  cases h with
  | sl _ _ _ a c vs h1 h2 h3 h4 h5 => exact h2
theorem real_tms {ts : List T} (h : Real (tms ts)) : ts.length * 40 ≤ 140737488355328 := by simpa [room] using real_sl h
theorem real_kids {t : T} (h : Real (tm t)) : t.kids.length * 40 ≤ 140737488355328 := by
  obtain ⟨g, w, v, h⟩ := h
  obtain ⟨vs, _, h⟩ := h
  rw [cells_eq] at h
  obtain ⟨v2, _, h2⟩ := h.get 2 _ rfl
  have h2 : RD g w _ v2 := h2
  cases h2 with
  | sl _ _ _ a c vs h1 h6 h3 h4 h5 => simpa [room] using h6

theorem wrap_id {a : Int} (h1 : -9223372036854775808 ≤ a) (h2 : a < 9223372036854775808) : IntKind.wrap .i64 a = a := by
  simp only [IntKind.wrap, IntKind.bits, IntKind.signed, Bool.true_and]
  by_cases h0 : 0 ≤ a
  · have h3 : a % (2 ^ 64 : Int) = a := Int.emod_eq_of_lt h0 (by omega)
    simp only [h3]
    split
    · rename_i h; simp at h; omega
    · rfl
  · have h3 : a % (2 ^ 64 : Int) = a + 2 ^ 64 := by
      rw [← Int.add_emod_right a (2 ^ 64)]
      exact Int.emod_eq_of_lt (by omega) (by omega)
    simp only [h3]
    split
    · omega
    · rename_i h; simp at h; omega

theorem slots0 (x : AV) (l : List AV) : slotsOf (x :: l) 0 = x := rfl
theorem slots1 (x y : AV) (l : List AV) : slotsOf (x :: y :: l) 1 = y := rfl
theorem slots2 (x y z : AV) (l : List AV) : slotsOf (x :: y :: z :: l) 2 = z := rfl

attribute [simp] rrGok resOf resL rrEv isV1

theorem T.ind {p : T → Prop} (h : ∀ k n ts, (∀ t, t ∈ ts → p t) → p (.mk k n ts)) (t : T) : p t := by
  have key : ∀ (m : Nat) (t : T), SizeOf.sizeOf t < m → p t := by
    intro m
    induction m with
    | zero => intro t ht; omega
    | succ m ih =>
      intro t ht
      obtain ⟨k, n, ts⟩ := t
      refine h k n ts fun u hu => ih u ?_
      have := List.sizeOf_lt_of_mem hu
      simp at ht
      omega
  exact key _ t (Nat.lt_succ_self _)

theorem drop_at {α : Type} : ∀ {ts : List α} {i : Nat} {t : α}, ts[i]? = some t → ts.drop i = t :: ts.drop (i + 1)
  | t :: ts, 0, _, h => by simp at h; simp [h]
  | t :: ts, i + 1, t', h => by simpa using drop_at (ts := ts) (by simpa using h)
  | [], _, _, h => by simp at h
theorem getE {α : Type} {ts : List α} {i : Nat} {t : α} (h : ts[i]? = some t) : ∃ hi : i < ts.length, ts[i] = t := List.getElem?_eq_some_iff.1 h
theorem at_of {α : Type} {ts : List α} {i : Nat} (h : i < ts.length) : ∃ t, ts[i]? = some t := ⟨ts[i], by simp [h]⟩
theorem wrap_succ {i : Nat} (h : i < 9223372036854775807) : IntKind.wrap .i64 ((i : Int) + 1) = ((i + 1 : Nat) : Int) := by rw [wrap_id (by omega) (by omega)]; rfl

def kidsOf (k : Int) : Int := if k = 1 then 0 else if k = 2 then 0 else if k = 3 then 0 else if k = 9 then 1 else if k = 10 then 1 else if k = 8 then 3 else if k = 11 then 3 else if k = 13 then 3 else if 1 ≤ k ∧ k ≤ 13 then 2 else -1
def badHead (k n : Int) (len : Nat) : Bool := ((((decide (kidsOf k < 0) || !decide ((len : Int) = kidsOf k)) || decide (n < 0)) || decide (65535 < n)) || (decide (0 < kidsOf k) && !decide (n = 0)))
mutual
def T.formed : T → Bool
  | .mk k n ts => !badHead k n ts.length && T.formedL ts
def T.formedL : List T → Bool
  | [] => true
  | t :: ts => T.formed t && T.formedL ts
end
theorem formedL_all : ∀ ts : List T, T.formedL ts = ts.all T.formed
  | [] => by simp [T.formedL]
  | t :: ts => by simp [T.formedL, formedL_all ts]

def is (ns : List Int) : AV := .c (.sl 1 8 (ns.map fun n => [.v (.int .i64 n)]))
theorem real_is {ns : List Int} (h : Real (is ns)) : ns.length * 8 ≤ 140737488355328 := by simpa [room] using real_sl h
def bindsOf (k i : Int) : Int := if i = 1 ∧ (k = 4 ∨ k = 5 ∨ k = 7) then 1 else 0
mutual
def T.within : T → Int → Int → Bool
  | .mk k n ts, a, b => if k = 1 then decide (n < a) else if k = 2 then decide (n ≤ 6) else if k = 3 then decide (n < b) else T.withinL k a b 0 ts
def T.withinL (k a b : Int) : Int → List T → Bool
  | _, [] => true
  | i, t :: ts => T.within t (IntKind.wrap .i64 (a + bindsOf k i)) b && T.withinL k a b (i + 1) ts
end

mutual
def T.size : T → Int
  | .mk _ _ ts => T.sizeL 1 ts
def T.sizeL : Int → List T → Int
  | a, [] => a
  | a, t :: ts => T.sizeL (IntKind.wrap .i64 (a + T.size t)) ts
end
mutual
def T.depth : T → Int
  | .mk _ _ ts => IntKind.wrap .i64 (T.depthL 0 ts + 1)
def T.depthL : Int → List T → Int
  | a, [] => a
  | a, t :: ts => T.depthL (best2 true a (T.depth t)) ts
end

def T.check (t : T) : Int := if 6000 < t.size then 4 else if 200 < t.depth then 5 else if t.formed then 0 else 1
def T.scope (t : T) (a b : Int) : Bool := decide (0 ≤ a) && decide (0 ≤ b) && decide (t.check = 0) && T.within t (best2 false a 65536) b

mutual
def T.count : T → Nat
  | .mk _ _ ts => T.countL ts + 1
def T.countL : List T → Nat
  | [] => 0
  | t :: ts => T.count t + T.countL ts
end
theorem count_mem {t : T} : ∀ {ts : List T}, t ∈ ts → t.count ≤ T.countL ts
  | u :: ts, h => by
    rcases List.mem_cons.1 h with rfl | h
    · simp [T.countL]
    · have := count_mem h; simp [T.countL]; omega
theorem count_pos (t : T) : 1 ≤ t.count := by cases t; simp [T.count]
theorem size_count (t : T) : t.count < 4611686018427387904 → t.size = t.count := by
  induction t using T.ind with
  | h k n ts ih =>
    intro h
    have key : ∀ (ts : List T) (a : Nat), (∀ t, t ∈ ts → t.count < 4611686018427387904 → t.size = t.count) → a + T.countL ts < 4611686018427387904 → T.sizeL (a : Int) ts = ((a + T.countL ts : Nat) : Int) := by
      intro ts
      induction ts with
      | nil => intro a _ _; simp [T.sizeL, T.countL]
      | cons t ts ih2 =>
        intro a h1 h2
        simp only [T.countL] at h2
        have ht := h1 t (by simp) (by omega)
        have hw : IntKind.wrap .i64 ((a : Int) + t.size) = ((a + t.count : Nat) : Int) := by
          rw [ht, wrap_id (by omega) (by omega)]; simp
        rw [T.sizeL, hw, ih2 (a + t.count) (fun u hu => h1 u (by simp [hu])) (by omega)]
        simp [T.countL]; omega
    simp only [T.count] at h ⊢
    have := key ts 1 ih (by omega)
    rw [T.size]
    have e : ((1 : Nat) : Int) = 1 := rfl
    rw [e] at this
    rw [this]
    simp; omega
theorem depth_le (t : T) : t.count < 4611686018427387904 → 1 ≤ t.depth ∧ t.depth ≤ t.count := by
  induction t using T.ind with
  | h k n ts ih =>
    intro h
    have key : ∀ (ts : List T) (a : Int), (∀ t, t ∈ ts → 1 ≤ t.depth ∧ t.depth ≤ t.count) → 0 ≤ a → a ≤ T.depthL a ts ∧ T.depthL a ts ≤ max a (T.countL ts) ∧ ∀ t, t ∈ ts → t.depth ≤ T.depthL a ts := by
      intro ts
      induction ts with
      | nil => intro a _ h0; simp [T.depthL, T.countL]; omega
      | cons t ts ih2 =>
        intro a h1 h0
        have ht := h1 t (by simp)
        have h2 := ih2 (best2 true a t.depth) (fun u hu => h1 u (by simp [hu])) (by simp only [best2, if_true]; split <;> omega)
        have hb : best2 true a t.depth = max a t.depth := by simp only [best2, if_true]; split <;> omega
        rw [hb] at h2
        simp only [T.depthL, T.countL, hb]
        refine ⟨by omega, by omega, fun u hu => ?_⟩
        rcases List.mem_cons.1 hu with rfl | hu
        · omega
        · exact h2.2.2 u hu
    simp only [T.count] at h ⊢
    have := key ts 0 (fun t ht => ih t ht (by have := count_mem ht; omega)) (by omega)
    rw [T.depth, wrap_id (by omega) (by omega)]
    omega
theorem depth_kid {k n : Int} {ts : List T} {t : T} (ht : t ∈ ts) (h : (T.mk k n ts).count < 4611686018427387904) : t.depth + 1 ≤ (T.mk k n ts).depth := by
  have key : ∀ (ts : List T) (a : Int), (∀ t, t ∈ ts → 1 ≤ t.depth ∧ t.depth ≤ t.count) → 0 ≤ a → a ≤ T.depthL a ts ∧ T.depthL a ts ≤ max a (T.countL ts) ∧ ∀ t, t ∈ ts → t.depth ≤ T.depthL a ts := by
    intro ts
    induction ts with
    | nil => intro a _ h0; simp [T.depthL, T.countL]; omega
    | cons t ts ih2 =>
      intro a h1 h0
      have ht := h1 t (by simp)
      have h2 := ih2 (best2 true a t.depth) (fun u hu => h1 u (by simp [hu])) (by simp only [best2, if_true]; split <;> omega)
      have hb : best2 true a t.depth = max a t.depth := by simp only [best2, if_true]; split <;> omega
      rw [hb] at h2
      simp only [T.depthL, T.countL, hb]
      refine ⟨by omega, by omega, fun u hu => ?_⟩
      rcases List.mem_cons.1 hu with rfl | hu
      · omega
      · exact h2.2.2 u hu
  simp only [T.count] at h
  have h2 := key ts 0 (fun t ht => depth_le t (by have := count_mem ht; omega)) (by omega)
  have h3 := h2.2.2 t ht
  rw [T.depth, wrap_id (by omega) (by omega)]
  omega

@[simp] theorem bestL_2 (mx : Bool) (k : IntKind) (a b : Int) : bestL mx k a [.c (.v (.int k b))] = some (best2 mx a b) := by simp [bestL]
@[simp] theorem bestL_gd (mx : Bool) (k : IntKind) (a b : Int) (β : Bool) : bestL mx k a [.gd β (.c (.v (.int k b)))] = some (best2 mx a b) := by simp [bestL]

mutual
def T.wf : T → Bool
  | .mk k n ts => decide (-9223372036854775808 ≤ n ∧ n < 9223372036854775808) && T.wfL ts
def T.wfL : List T → Bool
  | [] => true
  | t :: ts => T.wf t && T.wfL ts
end
theorem wfL_all : ∀ ts : List T, T.wfL ts = ts.all T.wf
  | [] => by simp [T.wfL]
  | t :: ts => by simp [T.wfL, wfL_all ts]
end Go.Abs

namespace Go.Abs
open Go.Proofs Go.Proofs.Ytmnjbnkenfefaaa Go.RowKit

/-- All that lies in memory stays. -/
def gOf (w : World) : Gh := ⟨fun b _ => b < w.heap.size, fun _ => 0, fun _ => .nilFunc, fun _ => 0⟩

theorem cell_lt {w : World} {a : Addr} {x : Value} (h : w.cell? a = some x) : a.block < w.heap.size := by
  unfold World.cell? at h
  by_cases hb : a.block < w.heap.size
  · exact hb
  · rw [Array.getElem?_eq_none (by omega)] at h; cases h

theorem bulk_one {H : Type} (d : DataW H) : 1 ≤ Rows.uptoBulk d := by
  cases d with
  | lit l => cases l <;> simp [Rows.uptoBulk]
  | _ => simp [Rows.uptoBulk]
theorem bulk_all_len {H : Type} : ∀ (l : List (DataW H)), l.length ≤ Rows.uptoBulkAll l
  | [] => by simp [Rows.uptoBulkAll]
  | d :: l => by
    have := bulk_all_len l
    have h1 := bulk_one d
    simp [Rows.uptoBulkAll]; omega
theorem bulk_mem {H : Type} {d : DataW H} : ∀ {l : List (DataW H)}, d ∈ l → Rows.uptoBulk d ≤ Rows.uptoBulkAll l
  | e :: l, h => by
    rcases List.mem_cons.1 h with rfl | h
    · simp [Rows.uptoBulkAll]
    · have := bulk_mem h; simp [Rows.uptoBulkAll]; omega

theorem cell24 : Try.prog.cellsOf 24 = 3 := by kernel_rfl
theorem cell22 : Try.prog.cellsOf 22 = 1 := by kernel_rfl
theorem cell3 : Try.prog.cellsOf 3 = 1 := by kernel_rfl

theorem countL_append : ∀ (l r : List T), T.countL (l ++ r) = T.countL l + T.countL r
  | [], r => by simp [T.countL]
  | t :: l, r => by simp [T.countL, countL_append l r]; omega
theorem bulkAll_append {H : Type} : ∀ (l r : List (DataW H)), Rows.uptoBulkAll (l ++ r) = Rows.uptoBulkAll l + Rows.uptoBulkAll r
  | [], r => by simp [Rows.uptoBulkAll]
  | t :: l, r => by simp [Rows.uptoBulkAll, bulkAll_append l r]; omega
theorem three {α : Type} : ∀ {l : List α}, l.length = 3 → ∃ a b c, l = [a, b, c]
  | [a, b, c], _ => ⟨a, b, c, rfl⟩

theorem wf_int {m : Int} (h : (Lit.int .i64 m).wf = true) : -9223372036854775808 ≤ m ∧ m < 9223372036854775808 := by
  simp [Lit.wf, IntKind.min, IntKind.max, IntKind.bits, IntKind.signed] at h
  omega
theorem term_reads {H : Type} {enc : TypeId × Value → H} {w : World} {B : Nat} (hroom : B * 40 ≤ room) : ∀ (N : Nat) {fuel : Nat} {cs : List Value} {x : DataW H × List MemPlace}, DataW.trod enc Try.prog w 0 (fun _ => true) true fuel 24 cs = some x →
    Rows.uptoBulk x.1 ≤ N → Rows.uptoBulk x.1 ≤ B → ∃ t : T, All2 (RC (gOf w) w) t.cells cs ∧ t.count ≤ Rows.uptoBulk x.1 ∧ t.wf = true := by
  intro N
  induction N with
  | zero => intro fuel cs x h hb _; have := bulk_one x.1; omega
  | succ N ih =>
    intro fuel cs x h hb hB
    obtain ⟨y0, y1, y2, n, rfl, hlen, h0, h1, h2⟩ := Go.Deep.trod_struct3 Try.underlying24 h
    rw [cell24] at hlen
    obtain ⟨v0, v1, v2, rfl⟩ := three hlen
    simp only [cell3, cell22, List.drop_zero, List.drop_succ_cons, List.take_succ_cons, List.take_zero] at h0 h1 h2
    obtain ⟨k, e0, rfl, _⟩ := DataW.trod_int Try.underlying3 h0
    obtain ⟨m, e1, rfl, hw1⟩ := DataW.trod_int Try.underlying3 h1
    cases e0; cases e1
    have hwm := wf_int hw1
    simp only [Rows.uptoBulk, Rows.uptoBulkAll] at hb hB
    rcases Go.Deep.open_slice Try.underlying22 h2 with ⟨e2, rfl⟩ | ⟨a, len, cap, mm, nn, D, Pl, e2, _, hl, _, hm, rfl, hel⟩
    · cases e2
      refine ⟨.mk k m [], ?_⟩
      rw [cells_mk]
      exact ⟨⟨.v _ rfl, .v _ rfl, (nil_spec (gOf w) w 3 40).1, trivial⟩, by simp [T.count, T.countL, Rows.uptoBulk, Rows.uptoBulkAll], by simp [T.wf, T.wfL, hwm]⟩
    · cases e2
      simp only [if_true] at hm
      subst hm
      simp only [Rows.uptoBulk] at hb hB
      have hlen2 : len ≤ B := by
        have := bulk_all_len ((List.range len).map D)
        simp at this
        omega
      have hk : ∀ i, ∃ (t : T) (us : List Value), i < len → w.cells? 0 (a.add (i * 3)) 3 = some us ∧ All2 (RC (gOf w) w) t.cells us ∧ t.count ≤ Rows.uptoBulk (D i) ∧ t.wf = true := fun i => by
        by_cases hi : i < len
        · obtain ⟨us, hu1, hu2⟩ := hel i (by omega)
          rw [cell24] at hu1
          have hD : D i ∈ (List.range len).map D := List.mem_map.2 ⟨i, by simpa using hi, rfl⟩
          have hle := bulk_mem hD
          obtain ⟨t, ht, hc, hw⟩ := ih hu2 (by simp only; omega) (by simp only; omega)
          exact ⟨t, us, fun _ => ⟨hu1, ht, hc, hw⟩⟩
        · exact ⟨default, [], fun h => absurd h hi⟩
      refine ⟨.mk k m ((List.range len).map fun i => Classical.choose (hk i)), ?_⟩
      rw [cells_mk]
      refine ⟨⟨.v _ rfl, .v _ rfl, ?_, trivial⟩, ?_, ?_⟩
      rotate_left
      · have hsum : ∀ m, m ≤ len → T.countL ((List.range m).map fun i => Classical.choose (hk i)) ≤ Rows.uptoBulkAll ((List.range m).map D) := by
          intro m
          induction m with
          | zero => intro _; simp [T.countL]
          | succ m ihm =>
            intro hm
            have h1 := ihm (by omega)
            obtain ⟨us, h2⟩ := Classical.choose_spec (hk m)
            have h3 := (h2 (by omega)).2.2.1
            rw [List.range_succ, List.map_append, List.map_append, countL_append, bulkAll_append]
            simp [T.countL, Rows.uptoBulkAll]
            omega
        have := hsum len (Nat.le_refl _)
        simp only [T.count, Rows.uptoBulk, Rows.uptoBulkAll]
        omega
      · simp only [T.wf, wfL_all, Bool.and_eq_true, List.all_eq_true]
        refine ⟨by simpa using hwm, fun t ht => ?_⟩
        obtain ⟨i, hi, rfl⟩ := List.mem_map.1 ht
        obtain ⟨us, h2⟩ := Classical.choose_spec (hk i)
        exact (h2 (by simpa using hi)).2.2.2
      have hspec : ∀ i, i < len → ∃ us, w.cells? 0 (a.add (i * 3)) 3 = some us ∧ All2 (RC (gOf w) w) (Classical.choose (hk i)).cells us := fun i hi => by
        obtain ⟨us, h⟩ := Classical.choose_spec (hk i)
        exact ⟨us, (h hi).1, (h hi).2.1⟩
      have hat : ∀ i j, ∃ v, i < len → j < 3 → ∀ d, (Classical.choose (hk i)).cells[j]? = some d → w.cell? (a.add (i * 3 + j)) = some v ∧ RC (gOf w) w d v := fun i j => by
        by_cases hi : i < len
        · obtain ⟨us, hu, hall⟩ := hspec i hi
          by_cases hj : j < 3
          · have hul : us.length = 3 := by have := hall.length; simpa using this.symm
            refine ⟨us[j]'(by omega), fun _ _ d hd => ?_⟩
            unfold World.cells? at hu
            rw [if_pos (Nat.zero_le _)] at hu
            have hg := mapM_some_get hu j j (by simp [hj])
            rw [List.getElem?_eq_getElem (by omega)] at hg
            rw [Addr.add_add] at hg
            obtain ⟨b, hb1, hb2⟩ := hall.get j d hd
            rw [List.getElem?_eq_getElem (by omega)] at hb1
            cases hb1
            exact ⟨hg, hb2⟩
          · exact ⟨undef, fun _ h => absurd h hj⟩
        · exact ⟨undef, fun h => absurd h hi⟩
      have hes : ∀ (i j : Nat) l d, (((List.range len).map fun i => Classical.choose (hk i)).map T.cells)[i]? = some l → l[j]? = some d → i < len ∧ j < 3 ∧ (Classical.choose (hk i)).cells[j]? = some d := fun i j l d e1 e2 => by
        simp only [List.getElem?_map, Option.map_eq_some_iff, List.getElem?_eq_some_iff] at e1
        obtain ⟨t, ⟨i', ⟨hi', e3⟩, rfl⟩, rfl⟩ := e1
        simp at e3 hi'
        subst e3
        have hj := (List.getElem?_eq_some_iff.1 e2).1
        rw [cells_len] at hj
        exact ⟨hi', hj, e2⟩
      have key : RD (gOf w) w (.sl 3 40 (((List.range len).map fun i => Classical.choose (hk i)).map T.cells)) (.slice (some a) (((List.range len).map fun i => Classical.choose (hk i)).map T.cells).length mm) := by
        refine .sl 3 40 _ (some a) mm (fun i j => Classical.choose (hat i j)) (by simpa using hl) (by simp; omega) (fun l hl => ?_) (fun i j l d e1 e2 => ?_) (fun i j l d e1 e2 => ?_)
        · obtain ⟨t, _, rfl⟩ := List.mem_map.1 hl
          exact cells_len t
        · obtain ⟨hi, hj, hd⟩ := hes i j l d e1 e2
          have := (Classical.choose_spec (hat i j) hi hj d hd).1
          exact ⟨_, rfl, cell_lt this, this⟩
        · obtain ⟨hi, hj, hd⟩ := hes i j l d e1 e2
          have := (Classical.choose_spec (hat i j) hi hj d hd).2
          exact isD_spec this (cells_isD' _ d (List.mem_of_getElem? hd))
      have key2 : RC (gOf w) w (.sl 3 40 (((List.range len).map fun i => Classical.choose (hk i)).map T.cells)) (.slice (some a) (((List.range len).map fun i => Classical.choose (hk i)).map T.cells).length mm) := key
      simpa using key2

theorem arg_term {H : Type} {enc : TypeId × Value → H} {w : World} {v : Value} {d : DataW H} {ps : List MemPlace} (h : DataW.Trod enc Try.prog w 0 (fun _ => true) true 24 v d ps) (hv : ∃ cs, v = .agg cs) (hb : Rows.uptoBulk d ≤ 1048576) :
    ∃ t : T, RV2 (gOf w) w (tm t) v ∧ t.count ≤ 1048576 := by
  obtain ⟨fuel, h⟩ := h
  obtain ⟨cs, rfl⟩ := hv
  obtain ⟨t, ht, hc, _⟩ := term_reads (B := 1048576) (by simp [room]) _ h (Nat.le_refl _) hb
  exact ⟨t, ⟨cs, rfl, ht⟩, Nat.le_trans hc hb⟩

theorem arg_termW {H : Type} {enc : TypeId × Value → H} {w : World} {v : Value} {d : DataW H} {ps : List MemPlace} (h : DataW.Trod enc Try.prog w 0 (fun _ => true) true 24 v d ps) (hv : ∃ cs, v = .agg cs) (hb : Rows.uptoBulk d ≤ 1048576) :
    ∃ t : T, RV2 (gOf w) w (tm t) v ∧ t.count ≤ 1048576 ∧ t.wf = true := by
  obtain ⟨fuel, h⟩ := h
  obtain ⟨cs, rfl⟩ := hv
  obtain ⟨t, ht, hc, hw⟩ := term_reads (B := 1048576) (by simp [room]) _ h (Nat.le_refl _) hb
  exact ⟨t, ⟨cs, rfl, ht⟩, Nat.le_trans hc hb, hw⟩

/-- What a function is said to compute, it computes; and nothing that lay in memory is touched. -/
theorem calls_of_fn {P : Program} {f : Nat} {args : List AV} {res : AV} (h : Fn P f args res) {w : World} {vs : Array Value} (ha : All2 (RV2 (gOf w) w) args vs.toList) :
    Calls P f vs w fun e w' => ∃ v, e = .returned v ∧ Below w.heap.size w w' ∧ ∃ g', RV2 g' w' res v := by
  refine (h.2 (gOf w) w vs (fun b _ hb => hb) ha ⟨fun k t q hq => by simp at hq, fun k k' t t' q q' hq => by simp at hq⟩).mono ?_
  rintro e w' ⟨v, g', rfl, hp⟩
  refine ⟨v, rfl, ⟨hp.os, hp.tape, hp.out, hp.grow, fun b hb => (hp.frame b hb ?_).1⟩, g', hp.res⟩
  rintro ⟨k, t, q, hq, _⟩
  simp at hq

theorem calls_bool {P : Program} {f : Nat} {args : List AV} {b : Bool} (h : Fn P f args (bb b)) {w : World} {vs : Array Value} (ha : All2 (RV2 (gOf w) w) args vs.toList) :
    Calls P f vs w fun e w' => e = .returned (.bool b) ∧ Below w.heap.size w w' := by
  refine (calls_of_fn h ha).mono ?_
  rintro e w' ⟨v, rfl, hb, g', hv⟩
  exact ⟨by rw [RV2_v hv], hb⟩
end Go.Abs

namespace Go.Abs
open Go.Proofs Go.Proofs.Ytmnjbnkenfefaaa Go.RowKit

theorem und38 : Try.prog.underlying 38 = some (.slice 3) := by kernel_rfl

set_option maxRecDepth 100000 in
theorem slice_ok {w : World} {base : Nat} {v : Value} (h : Value.okWide Try.prog w .any base 38 v) : ∃ a n c, v = .slice a n c := Go.WideShapes.okWide_slice und38 h
theorem arg_ints {H : Type} {enc : TypeId × Value → H} {w : World} {v : Value} {d : DataW H} {ps : List MemPlace} (h : DataW.Trod enc Try.prog w 0 (fun _ => true) true 38 v d ps) (hv : ∃ a n c, v = .slice a n c) (hb : Rows.uptoBulk d ≤ 1048576) :
    ∃ l : List Int, RV2 (gOf w) w (is l) v ∧ l.length ≤ 1048576 := by
  obtain ⟨fuel, h⟩ := h
  obtain ⟨a0, n0, c0, rfl⟩ := hv
  rcases Go.Deep.open_slice und38 h with ⟨e, _⟩ | ⟨a, len, cap, mm, nn, D, Pl, e, _, hl, _, hm, hd, hel⟩
  · have e' : [Value.slice a0 n0 c0] = [.slice none 0 0] := e
    cases e'
    exact ⟨[], fun _ => (nil_spec (gOf w) w 1 8).1, by simp⟩
  · have e' : [Value.slice a0 n0 c0] = [.slice (some a) len cap] := e
    cases e'
    simp only [if_true] at hm
    subst hm
    cases hd
    simp only [Rows.uptoBulk] at hb
    have hlen2 : n0 ≤ 1048576 := by
      have := bulk_all_len ((List.range n0).map D)
      simp at this
      omega
    have hk : ∀ i, ∃ m : Int, i < n0 → w.cell? (a.add i) = some (.int .i64 m) := fun i => by
      by_cases hi : i < n0
      · obtain ⟨us, hu1, hu2⟩ := hel i (by omega)
        obtain ⟨m, e0, _, _⟩ := DataW.trod_int Try.underlying3 hu2
        subst e0
        rw [cell3] at hu1
        unfold World.cells? at hu1
        rw [if_pos (Nat.zero_le _)] at hu1
        have hg := mapM_some_get hu1 0 0 (by simp)
        rw [Addr.add_add] at hg
        exact ⟨m, fun _ => by simpa using hg⟩
      · exact ⟨0, fun h => absurd h hi⟩
    refine ⟨(List.range n0).map fun i => Classical.choose (hk i), ?_, by simpa using hlen2⟩
    intro _
    have key : RD (gOf w) w (.sl 1 8 (((List.range n0).map fun i => Classical.choose (hk i)).map fun n => [.v (.int .i64 n)])) (.slice (some a) (((List.range n0).map fun i => Classical.choose (hk i)).map fun n => [Cell.v (.int .i64 n)]).length mm) := by
      have hes : ∀ (i j : Nat) l d, (((List.range n0).map fun i => Classical.choose (hk i)).map fun n => [Cell.v (.int .i64 n)])[i]? = some l → l[j]? = some d → i < n0 ∧ j = 0 ∧ d = .v (.int .i64 (Classical.choose (hk i))) := fun i j l d e1 e2 => by
        simp only [List.getElem?_map, Option.map_eq_some_iff, List.getElem?_eq_some_iff] at e1
        obtain ⟨t, ⟨i', ⟨hi', e3⟩, rfl⟩, rfl⟩ := e1
        simp at e3 hi'
        subst e3
        cases j with
        | zero => simp at e2; exact ⟨hi', rfl, e2.symm⟩
        | succ j => simp at e2
      refine .sl 1 8 _ (some a) mm (fun i j => .int .i64 (Classical.choose (hk i))) (by simpa using hl) (by simp [room]; omega) (fun l hl => ?_) (fun i j l d e1 e2 => ?_) (fun i j l d e1 e2 => ?_)
      · obtain ⟨t, _, rfl⟩ := List.mem_map.1 hl; rfl
      · obtain ⟨hi, rfl, rfl⟩ := hes i j l d e1 e2
        have := Classical.choose_spec (hk i) hi
        have hlt := cell_lt this
        exact ⟨_, rfl, by simpa [gOf] using hlt, by simpa using this⟩
      · obtain ⟨hi, rfl, rfl⟩ := hes i j l d e1 e2
        exact .v _ rfl
    have key2 : RC (gOf w) w (.sl 1 8 (((List.range n0).map fun i => Classical.choose (hk i)).map fun n => [.v (.int .i64 n)])) (.slice (some a) (((List.range n0).map fun i => Classical.choose (hk i)).map fun n => [Cell.v (.int .i64 n)]).length mm) := key
    simpa using key2
end Go.Abs

namespace Go.Abs


def c17b0 : SCode :=
  .seq (.seq (.reg
         [⟨some 8, none, .mv (.t 4)⟩,
          ⟨some 9, none, .mv (.t 0)⟩,
          ⟨some 10, none, .len 22 (.t 9)⟩,
          ⟨some 11, none, .bin .lss (.t 8) (.t 10)⟩])
    (.cond (.t 11)
      (.skip)
      (.exit 0)))
  (.seq (.block 1 (.seq (.seq (.reg
             [⟨some 14, none, .mv (.t 0)⟩,
              ⟨some 15, none, .mv (.t 4)⟩,
              ⟨some 16, none, .iad 24 3 (.t 14) (.t 15)⟩,
              ⟨some 17, none, .ldn 24 3 (.t 16)⟩,
              ⟨some 18, none, .call (.f 29) [.t 17]⟩,
              ⟨some 19, none, .bin .gtr (.t 18) (.k (.int .i64 300))⟩])
        (.cond (.t 19)
          (.seq (.reg
               [⟨some 2, none, .mv (.k (.bool true))⟩])
          (.ret))
          (.skip)))
      (.reg
         [⟨some 20, none, .mv (.t 3)⟩,
          ⟨some 21, none, .mv (.t 0)⟩,
          ⟨some 22, none, .mv (.t 4)⟩,
          ⟨some 23, none, .iad 24 3 (.t 21) (.t 22)⟩,
          ⟨some 24, none, .ldn 24 3 (.t 23)⟩,
          ⟨some 25, none, .call (.f 28) [.t 24]⟩,
          ⟨some 26, none, .bin .add (.t 20) (.t 25)⟩,
          ⟨some 3, none, .mv (.t 26)⟩])))
  (.reg
     [⟨some 12, none, .mv (.t 4)⟩,
      ⟨some 13, none, .bin .add (.t 12) (.k (.int .i64 1))⟩,
      ⟨some 4, none, .mv (.t 13)⟩]))
def c17 : SCode :=
  .seq (.reg
       [⟨some 2, none, .mv (.k (.bool false))⟩])
  (.seq (.seq (.reg
         [⟨some 5, none, .mv (.t 0)⟩,
          ⟨some 6, none, .len 22 (.t 5)⟩,
          ⟨some 7, none, .bin .gtr (.t 6) (.k (.int .i64 60))⟩])
    (.cond (.t 7)
      (.seq (.reg
           [⟨some 2, none, .mv (.k (.bool true))⟩])
      (.ret))
      (.skip)))
  (.seq (.reg
       [⟨some 3, none, .mv (.k (.int .i64 0))⟩])
  (.seq (.seq (.reg
         [⟨some 4, none, .mv (.k (.int .i64 0))⟩])
    (.block 0 (.loop c17b0)))
  (.seq (.reg
       [⟨some 27, none, .mv (.t 3)⟩,
        ⟨some 28, none, .bin .gtr (.t 27) (.k (.int .i64 9000))⟩,
        ⟨some 2, none, .mv (.t 28)⟩])
  (.ret)))))
def r17 : List RR := [.t 2]
theorem ok17 : okFn Go.Proofs.Try.prog 17 29 c17 r17 1 = true := by kernel_rfl


def c18 : SCode :=
  .seq (.reg
       [⟨some 2, none, .box 24 (.t 0)⟩,
        ⟨some 3, none, .box 24 (.t 1)⟩,
        ⟨some 4, none, .mv (.k (.bool false))⟩])
  (.seq (.reg
       [⟨some 5, none, .fad 24 0 0 (.t 2)⟩,
        ⟨some 6, none, .ld1 3 (.t 5)⟩,
        ⟨some 7, none, .fad 24 0 0 (.t 3)⟩,
        ⟨some 8, none, .ld1 3 (.t 7)⟩,
        ⟨some 9, none, .bin .eql (.t 6) (.t 8)⟩,
        ⟨some 10, none, .mv (.t 9)⟩,
        ⟨some 11, some (10, true), .fad 24 1 1 (.t 2)⟩,
        ⟨some 12, some (10, true), .ld1 3 (.t 11)⟩,
        ⟨some 13, some (10, true), .fad 24 1 1 (.t 3)⟩,
        ⟨some 14, some (10, true), .ld1 3 (.t 13)⟩,
        ⟨some 15, some (10, true), .bin .eql (.t 12) (.t 14)⟩,
        ⟨some 16, none, .pick (.t 10) (.t 15) (.k (.bool false))⟩,
        ⟨some 17, none, .mv (.t 16)⟩,
        ⟨some 18, some (17, true), .fad 24 2 2 (.t 2)⟩,
        ⟨some 19, some (17, true), .ld1 22 (.t 18)⟩,
        ⟨some 20, some (17, true), .fad 24 2 2 (.t 3)⟩,
        ⟨some 21, some (17, true), .ld1 22 (.t 20)⟩,
        ⟨some 22, some (17, true), .call (.f 63) [.t 19, .t 21, .f 18]⟩,
        ⟨some 23, none, .pick (.t 17) (.t 22) (.k (.bool false))⟩,
        ⟨some 4, none, .mv (.t 23)⟩])
  (.ret))
def r18 : List RR := [.t 4]
theorem ok18 : okFn Go.Proofs.Try.prog 18 24 c18 r18 2 = true := by kernel_rfl


def c19 : SCode :=
  .seq (.reg
       [⟨some 1, none, .box 24 (.t 0)⟩,
        ⟨some 2, none, .alloc 24 [.v (.int .i64 0), .v (.int .i64 0), .cap 3 40 []]⟩])
  (.seq (.dreg [0, 1, 0, 4, 0, 16, 48, 127, 255]
       [⟨some 3, none, .fad 24 0 0 (.t 1)⟩,
        ⟨some 4, none, .ld1 3 (.t 3)⟩,
        ⟨some 5, none, .fad 24 1 1 (.t 1)⟩,
        ⟨some 6, none, .ld1 3 (.t 5)⟩,
        ⟨some 7, none, .fad 24 2 2 (.t 1)⟩,
        ⟨some 8, none, .ld1 22 (.t 7)⟩,
        ⟨some 9, none, .call (.f 64) [.t 8]⟩,
        ⟨some 10, none, .build 24 [.v (.int .i64 0), .v (.int .i64 0), .cap 3 40 []] [(0, 0, 1, .t 4), (1, 1, 1, .t 6), (2, 2, 1, .t 9)]⟩,
        ⟨none, none, .stn 24 3 (.t 2) (.t 10)⟩])
  (.ret))
def r19 : List RR := [.cn 2 3]
theorem ok19 : okFn Go.Proofs.Try.prog 19 11 c19 r19 1 = true := by kernel_rfl


def c20b0 : SCode :=
  .seq (.reg
       [⟨some 10, none, .bin .lss (.t 9) (.t 8)⟩])
  (.seq (.cond (.t 10)
      (.skip)
      (.exit 0))
  (.seq (.block 1 (.seq (.reg
           [⟨some 11, none, .iad 24 3 (.t 7) (.t 9)⟩,
            ⟨some 12, none, .ldn 24 3 (.t 11)⟩,
            ⟨some 5, none, .alloc 24 [.v (.int .i64 0), .v (.int .i64 0), .cap 3 40 []]⟩,
            ⟨none, none, .stn 24 3 (.t 5) (.t 12)⟩])
      (.reg
         [⟨some 13, none, .mv (.t 3)⟩,
          ⟨some 14, none, .ldn 24 3 (.t 5)⟩,
          ⟨some 15, none, .call (.f 20) [.t 14]⟩,
          ⟨some 16, none, .bin .add (.t 13) (.t 15)⟩,
          ⟨some 3, none, .mv (.t 16)⟩])))
  (.reg
     [⟨some 17, none, .bin .add (.t 9) (.k (.int .i64 1))⟩,
      ⟨some 9, none, .mv (.t 17)⟩])))
def c20 : SCode :=
  .seq (.reg
       [⟨some 1, none, .box 24 (.t 0)⟩,
        ⟨some 2, none, .mv (.k (.int .i64 0))⟩])
  (.seq (.reg
       [⟨some 3, none, .mv (.k (.int .i64 1))⟩])
  (.seq (.seq (.reg
         [⟨some 6, none, .fad 24 2 2 (.t 1)⟩,
          ⟨some 7, none, .ld1 22 (.t 6)⟩,
          ⟨some 8, none, .len 22 (.t 7)⟩,
          ⟨some 9, none, .mv (.k (.int .i64 0))⟩])
    (.block 0 (.loop c20b0)))
  (.seq (.reg
       [⟨some 18, none, .mv (.t 3)⟩,
        ⟨some 2, none, .mv (.t 18)⟩])
  (.ret))))
def r20 : List RR := [.t 2]
theorem ok20 : okFn Go.Proofs.Try.prog 20 19 c20 r20 1 = true := by kernel_rfl


def c21b0 : SCode :=
  .seq (.reg
       [⟨some 10, none, .bin .lss (.t 9) (.t 8)⟩])
  (.seq (.cond (.t 10)
      (.skip)
      (.exit 0))
  (.seq (.block 1 (.seq (.reg
           [⟨some 11, none, .iad 24 3 (.t 7) (.t 9)⟩,
            ⟨some 12, none, .ldn 24 3 (.t 11)⟩,
            ⟨some 5, none, .alloc 24 [.v (.int .i64 0), .v (.int .i64 0), .cap 3 40 []]⟩,
            ⟨none, none, .stn 24 3 (.t 5) (.t 12)⟩])
      (.reg
         [⟨some 13, none, .mv (.t 3)⟩,
          ⟨some 14, none, .ldn 24 3 (.t 5)⟩,
          ⟨some 15, none, .call (.f 21) [.t 14]⟩,
          ⟨some 16, none, .best true [.t 13, .t 15]⟩,
          ⟨some 3, none, .mv (.t 16)⟩])))
  (.reg
     [⟨some 17, none, .bin .add (.t 9) (.k (.int .i64 1))⟩,
      ⟨some 9, none, .mv (.t 17)⟩])))
def c21 : SCode :=
  .seq (.reg
       [⟨some 1, none, .box 24 (.t 0)⟩,
        ⟨some 2, none, .mv (.k (.int .i64 0))⟩])
  (.seq (.reg
       [⟨some 3, none, .mv (.k (.int .i64 0))⟩])
  (.seq (.seq (.reg
         [⟨some 6, none, .fad 24 2 2 (.t 1)⟩,
          ⟨some 7, none, .ld1 22 (.t 6)⟩,
          ⟨some 8, none, .len 22 (.t 7)⟩,
          ⟨some 9, none, .mv (.k (.int .i64 0))⟩])
    (.block 0 (.loop c21b0)))
  (.seq (.reg
       [⟨some 18, none, .mv (.t 3)⟩,
        ⟨some 19, none, .bin .add (.t 18) (.k (.int .i64 1))⟩,
        ⟨some 2, none, .mv (.t 19)⟩])
  (.ret))))
def r21 : List RR := [.t 2]
theorem ok21 : okFn Go.Proofs.Try.prog 21 20 c21 r21 1 = true := by kernel_rfl


def c28b0 : SCode :=
  .seq (.seq (.reg
         [⟨some 5, none, .mv (.t 4)⟩,
          ⟨some 6, none, .fad 24 2 2 (.t 1)⟩,
          ⟨some 7, none, .ld1 22 (.t 6)⟩,
          ⟨some 8, none, .len 22 (.t 7)⟩,
          ⟨some 9, none, .bin .lss (.t 5) (.t 8)⟩])
    (.cond (.t 9)
      (.skip)
      (.exit 0)))
  (.seq (.block 1 (.reg
         [⟨some 12, none, .mv (.t 3)⟩,
          ⟨some 13, none, .fad 24 2 2 (.t 1)⟩,
          ⟨some 14, none, .ld1 22 (.t 13)⟩,
          ⟨some 15, none, .mv (.t 4)⟩,
          ⟨some 16, none, .iad 24 3 (.t 14) (.t 15)⟩,
          ⟨some 17, none, .ldn 24 3 (.t 16)⟩,
          ⟨some 18, none, .call (.f 28) [.t 17]⟩,
          ⟨some 19, none, .bin .add (.t 12) (.t 18)⟩,
          ⟨some 3, none, .mv (.t 19)⟩]))
  (.reg
     [⟨some 10, none, .mv (.t 4)⟩,
      ⟨some 11, none, .bin .add (.t 10) (.k (.int .i64 1))⟩,
      ⟨some 4, none, .mv (.t 11)⟩]))
def c28 : SCode :=
  .seq (.reg
       [⟨some 1, none, .box 24 (.t 0)⟩,
        ⟨some 2, none, .mv (.k (.int .i64 0))⟩])
  (.seq (.reg
       [⟨some 3, none, .mv (.k (.int .i64 1))⟩])
  (.seq (.seq (.reg
         [⟨some 4, none, .mv (.k (.int .i64 0))⟩])
    (.block 0 (.loop c28b0)))
  (.seq (.reg
       [⟨some 20, none, .mv (.t 3)⟩,
        ⟨some 2, none, .mv (.t 20)⟩])
  (.ret))))
def r28 : List RR := [.t 2]
theorem ok28 : okFn Go.Proofs.Try.prog 28 21 c28 r28 1 = true := by kernel_rfl


def c29b0 : SCode :=
  .seq (.seq (.reg
         [⟨some 5, none, .mv (.t 4)⟩,
          ⟨some 6, none, .fad 24 2 2 (.t 1)⟩,
          ⟨some 7, none, .ld1 22 (.t 6)⟩,
          ⟨some 8, none, .len 22 (.t 7)⟩,
          ⟨some 9, none, .bin .lss (.t 5) (.t 8)⟩])
    (.cond (.t 9)
      (.skip)
      (.exit 0)))
  (.seq (.block 1 (.reg
         [⟨some 12, none, .mv (.t 3)⟩,
          ⟨some 13, none, .fad 24 2 2 (.t 1)⟩,
          ⟨some 14, none, .ld1 22 (.t 13)⟩,
          ⟨some 15, none, .mv (.t 4)⟩,
          ⟨some 16, none, .iad 24 3 (.t 14) (.t 15)⟩,
          ⟨some 17, none, .ldn 24 3 (.t 16)⟩,
          ⟨some 18, none, .call (.f 29) [.t 17]⟩,
          ⟨some 19, none, .best true [.t 12, .t 18]⟩,
          ⟨some 3, none, .mv (.t 19)⟩]))
  (.reg
     [⟨some 10, none, .mv (.t 4)⟩,
      ⟨some 11, none, .bin .add (.t 10) (.k (.int .i64 1))⟩,
      ⟨some 4, none, .mv (.t 11)⟩]))
def c29 : SCode :=
  .seq (.reg
       [⟨some 1, none, .box 24 (.t 0)⟩,
        ⟨some 2, none, .mv (.k (.int .i64 0))⟩])
  (.seq (.reg
       [⟨some 3, none, .mv (.k (.int .i64 0))⟩])
  (.seq (.seq (.reg
         [⟨some 4, none, .mv (.k (.int .i64 0))⟩])
    (.block 0 (.loop c29b0)))
  (.seq (.reg
       [⟨some 20, none, .mv (.t 3)⟩,
        ⟨some 21, none, .bin .add (.t 20) (.k (.int .i64 1))⟩,
        ⟨some 2, none, .mv (.t 21)⟩])
  (.ret))))
def r29 : List RR := [.t 2]
theorem ok29 : okFn Go.Proofs.Try.prog 29 22 c29 r29 1 = true := by kernel_rfl


def c63b0 : SCode :=
  .seq (.reg
       [⟨some 18, none, .bin .lss (.t 17) (.t 16)⟩])
  (.seq (.cond (.t 18)
      (.skip)
      (.exit 0))
  (.seq (.block 1 (.seq (.reg
           [⟨some 19, none, .mv (.t 17)⟩,
            ⟨some 20, none, .iad 24 3 (.t 15) (.t 17)⟩,
            ⟨some 21, none, .ldn 24 3 (.t 20)⟩,
            ⟨some 8, none, .alloc 24 [.v (.int .i64 0), .v (.int .i64 0), .cap 3 40 []]⟩,
            ⟨some 7, none, .mv (.t 19)⟩,
            ⟨none, none, .stn 24 3 (.t 8) (.t 21)⟩])
      (.seq (.reg
           [⟨some 22, none, .mv (.t 1)⟩,
            ⟨some 23, none, .mv (.t 7)⟩,
            ⟨some 24, none, .iad 24 3 (.t 22) (.t 23)⟩,
            ⟨some 25, none, .ldn 24 3 (.t 24)⟩,
            ⟨some 9, none, .alloc 24 [.v (.int .i64 0), .v (.int .i64 0), .cap 3 40 []]⟩,
            ⟨none, none, .stn 24 3 (.t 9) (.t 25)⟩])
      (.seq (.reg
           [⟨some 26, none, .mv (.t 2)⟩,
            ⟨some 27, none, .ldn 24 3 (.t 8)⟩,
            ⟨some 28, none, .ldn 24 3 (.t 9)⟩,
            ⟨some 29, none, .call (.t 26) [.t 27, .t 28]⟩,
            ⟨some 30, none, .not (.t 29)⟩])
      (.cond (.t 30)
        (.seq (.reg
             [⟨some 6, none, .mv (.k (.bool false))⟩])
        (.ret))
        (.skip))))))
  (.reg
     [⟨some 31, none, .bin .add (.t 17) (.k (.int .i64 1))⟩,
      ⟨some 17, none, .mv (.t 31)⟩])))
def c63 : SCode :=
  .seq (.reg
       [⟨some 6, none, .mv (.k (.bool false))⟩])
  (.seq (.seq (.reg
         [⟨some 10, none, .mv (.t 0)⟩,
          ⟨some 11, none, .len 22 (.t 10)⟩,
          ⟨some 12, none, .mv (.t 1)⟩,
          ⟨some 13, none, .len 22 (.t 12)⟩,
          ⟨some 14, none, .bin .neq (.t 11) (.t 13)⟩])
    (.cond (.t 14)
      (.seq (.reg
           [⟨some 6, none, .mv (.k (.bool false))⟩])
      (.ret))
      (.skip)))
  (.seq (.seq (.reg
         [⟨some 15, none, .mv (.t 0)⟩,
          ⟨some 16, none, .len 22 (.t 15)⟩,
          ⟨some 17, none, .mv (.k (.int .i64 0))⟩])
    (.block 0 (.loop c63b0)))
  (.seq (.reg
       [⟨some 6, none, .mv (.k (.bool true))⟩])
  (.ret))))
def r63 : List RR := [.t 6]
theorem ok63 : okFn Go.Proofs.Try.prog 63 32 c63 r63 3 = true := by kernel_rfl


def c64b0 : SCode :=
  .seq (.seq (.reg
         [⟨some 5, none, .mv (.t 4)⟩,
          ⟨some 6, none, .mv (.t 0)⟩,
          ⟨some 7, none, .len 22 (.t 6)⟩,
          ⟨some 8, none, .bin .lss (.t 5) (.t 7)⟩])
    (.cond (.t 8)
      (.skip)
      (.exit 0)))
  (.seq (.block 1 (.reg
         [⟨some 11, none, .mv (.t 3)⟩,
          ⟨some 12, none, .mv (.t 0)⟩,
          ⟨some 13, none, .mv (.t 4)⟩,
          ⟨some 14, none, .iad 24 3 (.t 12) (.t 13)⟩,
          ⟨some 15, none, .ldn 24 3 (.t 14)⟩,
          ⟨some 16, none, .call (.f 19) [.t 15]⟩,
          ⟨some 17, none, .lit 24 3 40 [.t 16]⟩,
          ⟨some 18, none, .app 24 3 40 (.t 11) (.t 17)⟩,
          ⟨some 3, none, .mv (.t 18)⟩]))
  (.reg
     [⟨some 9, none, .mv (.t 4)⟩,
      ⟨some 10, none, .bin .add (.t 9) (.k (.int .i64 1))⟩,
      ⟨some 4, none, .mv (.t 10)⟩]))
def c64 : SCode :=
  .seq (.reg
       [⟨some 2, none, .mv (.nil 3 40)⟩])
  (.seq (.reg
       [⟨some 3, none, .mv (.nil 3 40)⟩])
  (.seq (.seq (.reg
         [⟨some 4, none, .mv (.k (.int .i64 0))⟩])
    (.block 0 (.loop c64b0)))
  (.seq (.reg
       [⟨some 19, none, .mv (.t 3)⟩,
        ⟨some 2, none, .mv (.t 19)⟩])
  (.ret))))
def r64 : List RR := [.t 2]
theorem ok64 : okFn Go.Proofs.Try.prog 64 20 c64 r64 1 = true := by kernel_rfl

end Go.Abs

namespace Go.Abs
open Go.Proofs

def all2 {α : Type} (p : α → α → Bool) : List α → List α → Bool
  | [], [] => true
  | t :: ts, u :: us => p t u && all2 p ts us
  | _, _ => false

theorem all2_len {α : Type} {p : α → α → Bool} : ∀ {ts us : List α}, ts.length ≠ us.length → all2 p ts us = false
  | [], [], h => absurd rfl h
  | t :: ts, u :: us, h => by simp [all2, all2_len (p := p) (ts := ts) (us := us) (by simpa using h)]
  | [], _ :: _, _ => rfl
  | _ :: _, [], _ => rfl
theorem all2_at {α : Type} {p : α → α → Bool} : ∀ {ts us : List α} {i : Nat} {t u : α}, ts.length = us.length → ts[i]? = some t → us[i]? = some u → (all2 p (ts.drop i) (us.drop i) = (p t u && all2 p (ts.drop (i + 1)) (us.drop (i + 1))))
  | t :: ts, u :: us, 0, t', u', _, h1, h2 => by simp at h1 h2; subst h1; subst h2; simp [all2]
  | t :: ts, u :: us, i + 1, t', u', hl, h1, h2 => by simpa using all2_at (p := p) (by simpa using hl) (by simpa using h1) (by simpa using h2)
  | [], _, _, _, _, _, h1, _ => by simp at h1
  | _ :: _, [], _, _, _, _, _, h2 => by simp at h2

theorem fn63 {f : Nat} {p : T → T → Bool} {ts us : List T} (hf : ∀ t, t ∈ ts → ∀ u, Fn Try.prog f [tm t, tm u] (bb (p t u))) : Fn Try.prog 63 [tms ts, tms us, .c (.clo f [] [])] (bb (all2 p ts us)) := by
  refine fn_of (base := 63000) ok63 rfl fun σ h0 hr => ?_
  have s0 := h0 0
  have s1 := h0 1
  have s2 := h0 2
  rw [slots0] at s0
  rw [slots1] at s1
  rw [slots2] at s2
  have hlen := real_tms (hr (tms ts) (by simp))
  clear h0 hr
  unfold c63
  by_cases hl : ts.length = us.length
  case neg =>
    have hl' : ¬ ((ts.length : Int) = (us.length : Int)) := by omega
    simp [s0, s1, s2, tms, hl', r63, bb, all2_len hl]
  case pos =>
    simp [s0, s1, s2, tms, hl]
    refine W_loop (fun k σ => ∃ i : Nat, i + k = ts.length ∧ all2 p (ts.drop i) (us.drop i) = all2 p ts us ∧ σ.sl 0 = tms ts ∧ σ.sl 1 = tms us ∧ σ.sl 2 = .c (.clo f [] []) ∧ σ.sl 15 = tms ts ∧ σ.sl 16 = ib ts.length ∧ σ.sl 17 = ib i) ts.length ?_ ?_
    · exact ⟨0, by simp [s0, s1, s2, tms, ib, hl]⟩
    · rintro k σ ⟨i, hk, hp, q0, q1, q2, q15, q16, q17⟩
      unfold c63b0
      simp only [tms, ib] at q0 q1 q2 q15 q16 q17
      by_cases hi : i < ts.length
      · obtain ⟨t, ht⟩ : ∃ t, ts[i]? = some t := ⟨ts[i], by simp [hi]⟩
        obtain ⟨u, hu⟩ : ∃ u, us[i]? = some u := ⟨us[i]'(by omega), by simp [show i < us.length by omega]⟩
        have hi2 : i < us.length := by omega
        have w1 : IntKind.wrap .i64 ((i : Int) + 1) = ((i + 1 : Nat) : Int) := by rw [wrap_id (by omega) (by omega)]; rfl
        simp [q0, q1, q2, q15, q16, q17, hi, hi2, ht, hu]
        refine ECall.fn (hf t (List.mem_of_getElem? ht) u) (by simp [tm, (List.getElem?_eq_some_iff.1 ht).2, (List.getElem?_eq_some_iff.1 hu).2]) (by simp) rfl fun _ => ?_
        simp [bb]
        rw [all2_at hl ht hu] at hp
        constructor
        · intro hpf
          simp [r63, ← hp, hpf]
        · intro hpt
          simp [q17, w1]
          refine ⟨k - 1, by omega, i + 1, by omega, ?_, ?_⟩
          · rw [← hp, hpt]; simp
          · simp [q0, q1, q2, q15, q16, tms, ib, w1]
      · simp [q0, q1, q2, q15, q16, q17, hi, r63, bb]
        have : ts.length ≤ i := by omega
        rw [← hp, List.drop_eq_nil_of_le this, List.drop_eq_nil_of_le (by omega)]; rfl

mutual
def T.eqb : T → T → Bool
  | .mk k n ts, .mk k' n' us => decide (k = k') && decide (n = n') && T.eqbL ts us
def T.eqbL : List T → List T → Bool
  | [], [] => true
  | t :: ts, u :: us => T.eqb t u && T.eqbL ts us
  | _, _ => false
end
theorem eqbL_all2 : ∀ {ts us : List T}, T.eqbL ts us = all2 T.eqb ts us
  | [], [] => by simp [T.eqbL, all2]
  | t :: ts, u :: us => by simp [T.eqbL, all2, eqbL_all2 (ts := ts)]
  | [], _ :: _ => by simp [T.eqbL, all2]
  | _ :: _, [] => by simp [T.eqbL, all2]

theorem fn18 (t u : T) : Fn Try.prog 18 [tm t, tm u] (bb (T.eqb t u)) := by
  induction t using T.ind generalizing u with
  | h k n ts ih =>
  obtain ⟨k', n', us⟩ := u
  have h63 : Fn Try.prog 63 [tms ts, tms us, .c (.clo 18 [] [])] (bb (all2 T.eqb ts us)) := fn63 fun t ht u => ih t ht u
  refine fn_of (base := 18000) ok18 rfl fun σ h0 hr => ?_
  have s0 := h0 0
  have s1 := h0 1
  rw [slots0] at s0
  rw [slots1] at s1
  simp only [tm, cells_mk] at s0 s1
  clear h0 hr
  unfold c18
  simp [s0, s1]
  refine GCall.fn (fun _ => h63) (by simp [tms]) (by simp) rfl fun _ => ?_
  simp [r18, bb, T.eqb, eqbL_all2]
end Go.Abs

namespace Go.Abs


def c45 : SCode :=
  .seq (.reg
       [⟨some 2, none, .box 24 (.t 0)⟩,
        ⟨some 3, none, .box 24 (.t 1)⟩,
        ⟨some 4, none, .mv (.k (.bool false))⟩])
  (.seq (.reg
       [⟨some 5, none, .fad 24 0 0 (.t 2)⟩,
        ⟨some 6, none, .ld1 3 (.t 5)⟩,
        ⟨some 7, none, .fad 24 0 0 (.t 3)⟩,
        ⟨some 8, none, .ld1 3 (.t 7)⟩,
        ⟨some 9, none, .bin .eql (.t 6) (.t 8)⟩,
        ⟨some 10, none, .mv (.t 9)⟩,
        ⟨some 11, some (10, true), .fad 24 1 1 (.t 2)⟩,
        ⟨some 12, some (10, true), .ld1 3 (.t 11)⟩,
        ⟨some 13, some (10, true), .fad 24 1 1 (.t 3)⟩,
        ⟨some 14, some (10, true), .ld1 3 (.t 13)⟩,
        ⟨some 15, some (10, true), .bin .eql (.t 12) (.t 14)⟩,
        ⟨some 16, none, .pick (.t 10) (.t 15) (.k (.bool false))⟩,
        ⟨some 17, none, .mv (.t 16)⟩,
        ⟨some 18, some (17, true), .fad 24 2 2 (.t 2)⟩,
        ⟨some 19, some (17, true), .ld1 22 (.t 18)⟩,
        ⟨some 20, some (17, true), .fad 24 2 2 (.t 3)⟩,
        ⟨some 21, some (17, true), .ld1 22 (.t 20)⟩,
        ⟨some 22, some (17, true), .call (.f 96) [.t 19, .t 21]⟩,
        ⟨some 23, none, .pick (.t 17) (.t 22) (.k (.bool false))⟩,
        ⟨some 4, none, .mv (.t 23)⟩])
  (.ret))
def r45 : List RR := [.t 4]
theorem ok45 : okFn Go.Proofs.Try.prog 45 24 c45 r45 2 = true := by kernel_rfl


def c96b0 : SCode :=
  .seq (.seq (.reg
         [⟨some 11, none, .mv (.t 5)⟩,
          ⟨some 12, none, .mv (.t 0)⟩,
          ⟨some 13, none, .len 22 (.t 12)⟩,
          ⟨some 14, none, .bin .lss (.t 11) (.t 13)⟩])
    (.cond (.t 14)
      (.skip)
      (.exit 0)))
  (.seq (.block 1 (.seq (.dreg [0, 0, 3, 7, 0, 0, 48, 112, 255, 511]
           [⟨some 17, none, .mv (.t 0)⟩,
            ⟨some 18, none, .mv (.t 5)⟩,
            ⟨some 19, none, .iad 24 3 (.t 17) (.t 18)⟩,
            ⟨some 20, none, .ldn 24 3 (.t 19)⟩,
            ⟨some 21, none, .mv (.t 1)⟩,
            ⟨some 22, none, .mv (.t 5)⟩,
            ⟨some 23, none, .iad 24 3 (.t 21) (.t 22)⟩,
            ⟨some 24, none, .ldn 24 3 (.t 23)⟩,
            ⟨some 25, none, .call (.f 45) [.t 20, .t 24]⟩,
            ⟨some 26, none, .not (.t 25)⟩])
      (.cond (.t 26)
        (.seq (.reg
             [⟨some 4, none, .mv (.k (.bool false))⟩])
        (.ret))
        (.skip))))
  (.reg
     [⟨some 15, none, .mv (.t 5)⟩,
      ⟨some 16, none, .bin .add (.t 15) (.k (.int .i64 1))⟩,
      ⟨some 5, none, .mv (.t 16)⟩]))
def c96 : SCode :=
  .seq (.reg
       [⟨some 4, none, .mv (.k (.bool false))⟩])
  (.seq (.seq (.reg
         [⟨some 6, none, .mv (.t 0)⟩,
          ⟨some 7, none, .len 22 (.t 6)⟩,
          ⟨some 8, none, .mv (.t 1)⟩,
          ⟨some 9, none, .len 22 (.t 8)⟩,
          ⟨some 10, none, .bin .neq (.t 7) (.t 9)⟩])
    (.cond (.t 10)
      (.seq (.reg
           [⟨some 4, none, .mv (.k (.bool false))⟩])
      (.ret))
      (.skip)))
  (.seq (.seq (.reg
         [⟨some 5, none, .mv (.k (.int .i64 0))⟩])
    (.block 0 (.loop c96b0)))
  (.seq (.reg
       [⟨some 4, none, .mv (.k (.bool true))⟩])
  (.ret))))
def r96 : List RR := [.t 4]
theorem ok96 : okFn Go.Proofs.Try.prog 96 27 c96 r96 2 = true := by kernel_rfl


def c97 : SCode :=
  .seq (.reg
       [⟨some 2, none, .mv (.k (.bool false))⟩])
  (.seq (.reg
       [⟨some 3, none, .mv (.t 0)⟩,
        ⟨some 4, none, .bin .geq (.t 3) (.k (.int .i64 0))⟩,
        ⟨some 5, none, .mv (.t 4)⟩,
        ⟨some 6, some (5, true), .mv (.t 0)⟩,
        ⟨some 7, some (5, true), .bin .leq (.t 6) (.k (.int .i64 65535))⟩,
        ⟨some 8, none, .pick (.t 5) (.t 7) (.k (.bool false))⟩,
        ⟨some 2, none, .mv (.t 8)⟩])
  (.ret))
def r97 : List RR := [.t 2]
theorem ok97 : okFn Go.Proofs.Try.prog 97 9 c97 r97 1 = true := by kernel_rfl


def c98b0 : SCode :=
  .seq (.reg
       [⟨some 32, none, .bin .lss (.t 31) (.t 30)⟩])
  (.seq (.cond (.t 32)
      (.skip)
      (.exit 0))
  (.seq (.block 1 (.seq (.reg
           [⟨some 33, none, .mv (.t 31)⟩,
            ⟨some 34, none, .iad 24 3 (.t 29) (.t 31)⟩,
            ⟨some 35, none, .ldn 24 3 (.t 34)⟩,
            ⟨some 9, none, .alloc 24 [.v (.int .i64 0), .v (.int .i64 0), .cap 3 40 []]⟩,
            ⟨some 8, none, .mv (.t 33)⟩,
            ⟨none, none, .stn 24 3 (.t 9) (.t 35)⟩])
      (.dreg [0, 0, 0, 0, 0, 16, 0, 112, 248, 0, 1020, 2047, 4095]
         [⟨some 36, none, .mv (.t 7)⟩,
          ⟨some 37, none, .mv (.t 8)⟩,
          ⟨some 38, none, .ldn 24 3 (.t 9)⟩,
          ⟨some 39, none, .mv (.t 1)⟩,
          ⟨some 40, none, .fad 24 0 0 (.t 3)⟩,
          ⟨some 41, none, .ld1 3 (.t 40)⟩,
          ⟨some 42, none, .mv (.t 8)⟩,
          ⟨some 43, none, .call (.f 31) [.t 41, .t 42]⟩,
          ⟨some 44, none, .bin .add (.t 39) (.t 43)⟩,
          ⟨some 45, none, .mv (.t 2)⟩,
          ⟨some 46, none, .call (.f 98) [.t 38, .t 44, .t 45]⟩,
          ⟨some 47, none, .iad 24 3 (.t 36) (.t 37)⟩,
          ⟨none, none, .stn 24 3 (.t 47) (.t 46)⟩])))
  (.reg
     [⟨some 48, none, .bin .add (.t 31) (.k (.int .i64 1))⟩,
      ⟨some 31, none, .mv (.t 48)⟩])))
def c98 : SCode :=
  .seq (.reg
       [⟨some 3, none, .box 24 (.t 0)⟩,
        ⟨some 6, none, .alloc 24 [.v (.int .i64 0), .v (.int .i64 0), .cap 3 40 []]⟩])
  (.seq (.seq (.reg
         [⟨some 10, none, .fad 24 0 0 (.t 3)⟩,
          ⟨some 11, none, .ld1 3 (.t 10)⟩,
          ⟨some 12, none, .bin .eql (.t 11) (.k (.int .i64 1))⟩])
    (.cond (.t 12)
      (.seq (.reg
           [⟨some 13, none, .mv (.t 2)⟩,
            ⟨some 14, none, .fad 24 1 1 (.t 3)⟩,
            ⟨some 15, none, .ld1 3 (.t 14)⟩,
            ⟨some 16, none, .mv (.t 1)⟩,
            ⟨some 17, none, .call (.t 13) [.t 15, .t 16]⟩,
            ⟨none, none, .stn 24 3 (.t 6) (.t 17)⟩])
      (.ret))
      (.skip)))
  (.seq (.seq (.reg
         [⟨some 18, none, .fad 24 2 2 (.t 3)⟩,
          ⟨some 19, none, .ld1 22 (.t 18)⟩,
          ⟨some 20, none, .len 22 (.t 19)⟩,
          ⟨some 21, none, .bin .eql (.t 20) (.k (.int .i64 0))⟩])
    (.cond (.t 21)
      (.seq (.reg
           [⟨some 22, none, .fad 24 2 2 (.t 3)⟩,
            ⟨none, none, .st1 22 (.t 22) (.nil 3 40)⟩])
      (.seq (.reg
           [⟨some 23, none, .ldn 24 3 (.t 3)⟩,
            ⟨none, none, .stn 24 3 (.t 6) (.t 23)⟩])
      (.ret)))
      (.skip)))
  (.seq (.reg
       [⟨some 24, none, .fad 24 2 2 (.t 3)⟩,
        ⟨some 25, none, .ld1 22 (.t 24)⟩,
        ⟨some 26, none, .len 22 (.t 25)⟩,
        ⟨some 27, none, .mk 24 3 40 [.v (.int .i64 0), .v (.int .i64 0), .cap 3 40 []] (.t 26)⟩,
        ⟨some 7, none, .mv (.t 27)⟩])
  (.seq (.seq (.reg
         [⟨some 28, none, .fad 24 2 2 (.t 3)⟩,
          ⟨some 29, none, .ld1 22 (.t 28)⟩,
          ⟨some 30, none, .len 22 (.t 29)⟩,
          ⟨some 31, none, .mv (.k (.int .i64 0))⟩])
    (.block 0 (.loop c98b0)))
  (.seq (.frz 98027)
  (.seq (.reg
       [⟨some 49, none, .mv (.t 7)⟩,
        ⟨some 50, none, .fad 24 2 2 (.t 3)⟩,
        ⟨none, none, .st1 22 (.t 50) (.t 49)⟩])
  (.seq (.reg
       [⟨some 51, none, .ldn 24 3 (.t 3)⟩,
        ⟨none, none, .stn 24 3 (.t 6) (.t 51)⟩])
  (.ret))))))))
def r98 : List RR := [.cn 6 3]
theorem ok98 : okFn Go.Proofs.Try.prog 98 52 c98 r98 3 = true := by kernel_rfl


def c99 : SCode :=
  .seq (.reg
       [⟨some 7, none, .alloc 24 [.v (.int .i64 0), .v (.int .i64 0), .cap 3 40 []]⟩])
  (.seq (.seq (.reg
         [⟨some 8, none, .mv (.t 0)⟩,
          ⟨some 9, none, .ld1 3 (.t 2)⟩,
          ⟨some 10, none, .mv (.t 1)⟩,
          ⟨some 11, none, .bin .add (.t 9) (.t 10)⟩,
          ⟨some 12, none, .bin .lss (.t 8) (.t 11)⟩])
    (.cond (.t 12)
      (.seq (.reg
           [⟨some 13, none, .mv (.t 0)⟩,
            ⟨some 14, none, .call (.f 76) [.t 13]⟩,
            ⟨none, none, .stn 24 3 (.t 7) (.t 14)⟩])
      (.ret))
      (.skip)))
  (.seq (.seq (.reg
         [⟨some 15, none, .mv (.t 0)⟩,
          ⟨some 16, none, .ld1 3 (.t 3)⟩,
          ⟨some 17, none, .bin .add (.t 15) (.t 16)⟩,
          ⟨some 18, none, .bin .gtr (.t 17) (.k (.int .i64 65535))⟩])
    (.cond (.t 18)
      (.reg
         [⟨none, none, .st1 29 (.t 4) (.k (.int .i64 6))⟩])
      (.skip)))
  (.seq (.reg
       [⟨some 19, none, .mv (.t 0)⟩,
        ⟨some 20, none, .ld1 3 (.t 3)⟩,
        ⟨some 21, none, .bin .add (.t 19) (.t 20)⟩,
        ⟨some 22, none, .call (.f 76) [.t 21]⟩,
        ⟨none, none, .stn 24 3 (.t 7) (.t 22)⟩])
  (.ret))))
def r99 : List RR := [.cn 7 3]
theorem ok99 : okFn Go.Proofs.Try.prog 99 23 c99 r99 5 = true := by kernel_rfl


def c50 : SCode :=
  .seq (.reg
       [⟨some 0, none, .mv (.k (.bool false))⟩])
  (.seq (.reg
       [⟨some 4, none, .call (.f 66) [.k (.int .i64 0)]⟩,
        ⟨some 5, none, .call (.f 66) [.k (.int .i64 1)]⟩,
        ⟨some 6, none, .lit 24 3 40 [.t 4, .t 5]⟩,
        ⟨some 7, none, .call (.f 25) [.k (.int .i64 5), .t 6]⟩,
        ⟨some 1, none, .alloc 24 [.v (.int .i64 0), .v (.int .i64 0), .cap 3 40 []]⟩,
        ⟨none, none, .stn 24 3 (.t 1) (.t 7)⟩])
  (.seq (.reg
       [⟨some 9, none, .ldn 24 3 (.t 1)⟩,
        ⟨some 10, none, .call (.f 49) [.t 9, .k (.int .i64 2), .k (.int .i64 0)]⟩,
        ⟨some 8, none, .mv (.t 10)⟩,
        ⟨some 11, none, .ext (.t 8) 0⟩,
        ⟨some 12, none, .ext (.t 8) 1⟩,
        ⟨some 2, none, .alloc 24 [.v (.int .i64 0), .v (.int .i64 0), .cap 3 40 []]⟩,
        ⟨none, none, .stn 24 3 (.t 2) (.t 11)⟩,
        ⟨some 3, none, .mv (.t 12)⟩])
  (.seq (.dreg [0, 1, 3, 7, 7, 23, 55, 119, 255, 511, 1023, 2047, 4095, 8191, 16383, 32767]
       [⟨some 13, none, .mv (.t 3)⟩,
        ⟨some 14, none, .bin .eql (.t 13) (.k (.int .i64 0))⟩,
        ⟨some 15, none, .mv (.t 14)⟩,
        ⟨some 16, some (15, true), .ldn 24 3 (.t 2)⟩,
        ⟨some 17, some (15, true), .call (.f 66) [.k (.int .i64 2)]⟩,
        ⟨some 18, some (15, true), .call (.f 66) [.k (.int .i64 3)]⟩,
        ⟨some 19, some (15, true), .lit 24 3 40 [.t 17, .t 18]⟩,
        ⟨some 20, some (15, true), .call (.f 25) [.k (.int .i64 5), .t 19]⟩,
        ⟨some 21, some (15, true), .call (.f 45) [.t 16, .t 20]⟩,
        ⟨some 22, none, .pick (.t 15) (.t 21) (.k (.bool false))⟩,
        ⟨some 23, none, .mv (.t 22)⟩,
        ⟨some 24, some (23, true), .ldn 24 3 (.t 1)⟩,
        ⟨some 25, some (23, true), .call (.f 52) [.t 24, .k (.int .i64 0)]⟩,
        ⟨some 26, some (23, true), .bin .eql (.t 25) (.k (.int .i64 2))⟩,
        ⟨some 27, none, .pick (.t 23) (.t 26) (.k (.bool false))⟩,
        ⟨some 0, none, .mv (.t 27)⟩])
  (.ret))))
def r50 : List RR := [.t 0]
theorem ok50 : okFn Go.Proofs.Try.prog 50 28 c50 r50 0 = true := by kernel_rfl


def c52 : SCode :=
  .seq (.reg
       [⟨some 2, none, .box 24 (.t 0)⟩,
        ⟨some 4, none, .mv (.k (.int .i64 0))⟩])
  (.seq (.seq (.reg
         [⟨some 5, none, .mv (.t 1)⟩,
          ⟨some 6, none, .call (.f 97) [.t 5]⟩,
          ⟨some 7, none, .not (.t 6)⟩])
    (.cond (.t 7)
      (.seq (.reg
           [⟨some 4, none, .mv (.k (.int .i64 0))⟩])
      (.ret))
      (.skip)))
  (.seq (.reg
       [⟨some 8, none, .ldn 24 3 (.t 2)⟩,
        ⟨some 9, none, .mv (.t 1)⟩,
        ⟨some 10, none, .call (.f 100) [.t 8, .t 9, .k (.int .i64 0)]⟩,
        ⟨some 4, none, .mv (.t 10)⟩])
  (.ret)))
def r52 : List RR := [.t 4]
theorem ok52 : okFn Go.Proofs.Try.prog 52 11 c52 r52 2 = true := by kernel_rfl


def c100b0 : SCode :=
  .seq (.reg
       [⟨some 27, none, .bin .lss (.t 26) (.t 25)⟩])
  (.seq (.cond (.t 27)
      (.skip)
      (.exit 0))
  (.seq (.block 1 (.seq (.reg
           [⟨some 28, none, .mv (.t 26)⟩,
            ⟨some 29, none, .iad 24 3 (.t 24) (.t 26)⟩,
            ⟨some 30, none, .ldn 24 3 (.t 29)⟩,
            ⟨some 9, none, .alloc 24 [.v (.int .i64 0), .v (.int .i64 0), .cap 3 40 []]⟩,
            ⟨some 8, none, .mv (.t 28)⟩,
            ⟨none, none, .stn 24 3 (.t 9) (.t 30)⟩])
      (.dreg [0, 0, 0, 0, 0, 16, 0, 112, 248, 510, 1023, 2047]
         [⟨some 31, none, .mv (.t 7)⟩,
          ⟨some 32, none, .ldn 24 3 (.t 9)⟩,
          ⟨some 33, none, .mv (.t 1)⟩,
          ⟨some 34, none, .mv (.t 2)⟩,
          ⟨some 35, none, .fad 24 0 0 (.t 3)⟩,
          ⟨some 36, none, .ld1 3 (.t 35)⟩,
          ⟨some 37, none, .mv (.t 8)⟩,
          ⟨some 38, none, .call (.f 31) [.t 36, .t 37]⟩,
          ⟨some 39, none, .bin .add (.t 34) (.t 38)⟩,
          ⟨some 40, none, .call (.f 100) [.t 32, .t 33, .t 39]⟩,
          ⟨some 41, none, .bin .add (.t 31) (.t 40)⟩,
          ⟨some 7, none, .mv (.t 41)⟩])))
  (.reg
     [⟨some 42, none, .bin .add (.t 26) (.k (.int .i64 1))⟩,
      ⟨some 26, none, .mv (.t 42)⟩])))
def c100 : SCode :=
  .seq (.reg
       [⟨some 3, none, .box 24 (.t 0)⟩,
        ⟨some 6, none, .mv (.k (.int .i64 0))⟩])
  (.seq (.reg
       [⟨some 7, none, .mv (.k (.int .i64 0))⟩])
  (.seq (.seq (.reg
         [⟨some 10, none, .fad 24 0 0 (.t 3)⟩,
          ⟨some 11, none, .ld1 3 (.t 10)⟩,
          ⟨some 12, none, .bin .eql (.t 11) (.k (.int .i64 1))⟩,
          ⟨some 13, none, .mv (.t 12)⟩,
          ⟨some 14, some (13, true), .fad 24 1 1 (.t 3)⟩,
          ⟨some 15, some (13, true), .ld1 3 (.t 14)⟩,
          ⟨some 16, some (13, true), .mv (.t 1)⟩,
          ⟨some 17, some (13, true), .mv (.t 2)⟩,
          ⟨some 18, some (13, true), .bin .add (.t 16) (.t 17)⟩,
          ⟨some 19, some (13, true), .bin .eql (.t 15) (.t 18)⟩,
          ⟨some 20, none, .pick (.t 13) (.t 19) (.k (.bool false))⟩])
    (.cond (.t 20)
      (.reg
         [⟨some 21, none, .mv (.t 7)⟩,
          ⟨some 22, none, .bin .add (.t 21) (.k (.int .i64 1))⟩,
          ⟨some 7, none, .mv (.t 22)⟩])
      (.skip)))
  (.seq (.seq (.reg
         [⟨some 23, none, .fad 24 2 2 (.t 3)⟩,
          ⟨some 24, none, .ld1 22 (.t 23)⟩,
          ⟨some 25, none, .len 22 (.t 24)⟩,
          ⟨some 26, none, .mv (.k (.int .i64 0))⟩])
    (.block 0 (.loop c100b0)))
  (.seq (.reg
       [⟨some 43, none, .mv (.t 7)⟩,
        ⟨some 6, none, .mv (.t 43)⟩])
  (.ret)))))
def r100 : List RR := [.t 6]
theorem ok100 : okFn Go.Proofs.Try.prog 100 44 c100 r100 3 = true := by kernel_rfl


def c49 : SCode :=
  .seq (.reg
       [⟨some 3, none, .box 24 (.t 0)⟩,
        ⟨some 4, none, .box 3 (.t 1)⟩,
        ⟨some 5, none, .box 3 (.t 2)⟩,
        ⟨some 6, none, .alloc 24 [.v (.int .i64 0), .v (.int .i64 0), .cap 3 40 []]⟩,
        ⟨some 7, none, .mv (.k (.int .i64 0))⟩])
  (.seq (.reg
       [⟨some 10, none, .ldn 24 3 (.t 3)⟩,
        ⟨some 11, none, .call (.f 22) [.t 10]⟩,
        ⟨some 8, none, .alloc 29 [.v (.int .i64 0)]⟩,
        ⟨none, none, .st1 29 (.t 8) (.t 11)⟩])
  (.seq (.block 0 (.seq (.reg
           [⟨some 13, none, .ld1 29 (.t 8)⟩,
            ⟨some 14, none, .bin .neq (.t 13) (.k (.int .i64 0))⟩,
            ⟨some 12, none, .mv (.t 14)⟩])
      (.cond (.t 12)
        (.seq (.dreg [0, 0, 1, 7]
             [⟨some 15, none, .build 24 [.v (.int .i64 0), .v (.int .i64 0), .cap 3 40 []] []⟩,
              ⟨some 16, none, .ld1 29 (.t 8)⟩,
              ⟨none, none, .stn 24 3 (.t 6) (.t 15)⟩,
              ⟨some 7, none, .mv (.t 16)⟩])
        (.ret))
        (.seq (.reg
             [⟨some 18, none, .ld1 3 (.t 4)⟩,
              ⟨some 19, none, .call (.f 97) [.t 18]⟩,
              ⟨some 20, none, .not (.t 19)⟩,
              ⟨some 21, none, .mv (.t 20)⟩,
              ⟨some 22, some (21, false), .ld1 3 (.t 5)⟩,
              ⟨some 23, some (21, false), .call (.f 97) [.t 22]⟩,
              ⟨some 24, some (21, false), .not (.t 23)⟩,
              ⟨some 25, none, .pick (.t 21) (.k (.bool true)) (.t 24)⟩,
              ⟨some 17, none, .mv (.t 25)⟩])
        (.cond (.t 17)
          (.seq (.reg
               [⟨some 26, none, .build 24 [.v (.int .i64 0), .v (.int .i64 0), .cap 3 40 []] []⟩,
                ⟨none, none, .stn 24 3 (.t 6) (.t 26)⟩,
                ⟨some 7, none, .mv (.k (.int .i64 1))⟩])
          (.ret))
          (.skip))))))
  (.seq (.reg
       [⟨some 27, none, .ldn 24 3 (.t 3)⟩,
        ⟨some 28, none, .mkfn 99 [] [.t 5, .t 4, .t 8]⟩,
        ⟨some 29, none, .call (.f 98) [.t 27, .k (.int .i64 0), .t 28]⟩,
        ⟨some 9, none, .alloc 24 [.v (.int .i64 0), .v (.int .i64 0), .cap 3 40 []]⟩,
        ⟨none, none, .stn 24 3 (.t 9) (.t 29)⟩])
  (.seq (.seq (.reg
         [⟨some 30, none, .ld1 29 (.t 8)⟩,
          ⟨some 31, none, .bin .neq (.t 30) (.k (.int .i64 0))⟩])
    (.cond (.t 31)
      (.seq (.dreg [0, 0, 1, 7]
           [⟨some 32, none, .build 24 [.v (.int .i64 0), .v (.int .i64 0), .cap 3 40 []] []⟩,
            ⟨some 33, none, .ld1 29 (.t 8)⟩,
            ⟨none, none, .stn 24 3 (.t 6) (.t 32)⟩,
            ⟨some 7, none, .mv (.t 33)⟩])
      (.ret))
      (.skip)))
  (.seq (.reg
       [⟨some 34, none, .ldn 24 3 (.t 9)⟩,
        ⟨none, none, .stn 24 3 (.t 6) (.t 34)⟩,
        ⟨some 7, none, .mv (.k (.int .i64 0))⟩])
  (.ret))))))
def r49 : List RR := [.cn 6 3, .t 7]
theorem ok49 : okFn Go.Proofs.Try.prog 49 35 c49 r49 3 = true := by kernel_rfl

end Go.Abs

namespace Go.Abs
open Go.Proofs

theorem fn96 {ts us : List T} (hf : ∀ t, t ∈ ts → ∀ u, Fn Try.prog 45 [tm t, tm u] (bb (T.eqb t u))) : Fn Try.prog 96 [tms ts, tms us] (bb (T.eqbL ts us)) := by
  rw [eqbL_all2]
  refine fn_of (base := 96000) ok96 rfl fun σ h0 hr => ?_
  have s0 := h0 0
  have s1 := h0 1
  rw [slots0] at s0
  rw [slots1] at s1
  have hlen := real_tms (hr (tms ts) (by simp))
  simp only [tms] at s0 s1
  clear h0 hr
  unfold c96
  by_cases hl : ts.length = us.length
  case neg =>
    have hl' : ¬ ((ts.length : Int) = (us.length : Int)) := by omega
    simp [s0, s1, hl', r96, bb, all2_len hl]
  case pos =>
    simp [s0, s1, hl]
    refine W_loop (fun k σ => ∃ i : Nat, i + k = ts.length ∧ all2 T.eqb (ts.drop i) (us.drop i) = all2 T.eqb ts us ∧ σ.sl 0 = .c (.sl 3 40 (ts.map T.cells)) ∧ σ.sl 1 = .c (.sl 3 40 (us.map T.cells)) ∧ σ.sl 5 = .c (.v (.int .i64 i))) ts.length ?_ ?_
    · exact ⟨0, by simp [s0, s1]⟩
    · rintro k σ ⟨i, hk, hp, q0, q1, q5⟩
      unfold c96b0
      by_cases hi : i < ts.length
      · obtain ⟨t, ht⟩ := at_of hi
        obtain ⟨u, hu⟩ := at_of (show i < us.length by omega)
        obtain ⟨_, ht'⟩ := getE ht
        obtain ⟨hi2, hu'⟩ := getE hu
        have w1 := wrap_succ (i := i) (by omega)
        rw [all2_at hl ht hu] at hp
        simp [q0, q1, q5, hi, hi2]
        refine W_dregA ?_
        simp [q0, q1, q5, hi, hi2, ht', hu']
        refine CallA.fn (hf t (List.mem_of_getElem? ht) u) (by simp [tm]) (by simp) rfl ?_
        simp [bb]
        refine realC_n ?_
        simp
        constructor
        · intro hpf
          simp [r96, ← hp, hpf]
        · intro hpt
          rw [hpt, Bool.true_and] at hp
          simp [q5]
          refine ⟨k - 1, by omega, i + 1, by omega, hp, ?_⟩
          simp [q0, q1, w1]
      · simp [q0, q1, q5, hi, r96, bb]
        have : ts.length ≤ i := by omega
        rw [← hp, List.drop_eq_nil_of_le this, List.drop_eq_nil_of_le (by omega)]; rfl

theorem fn45 (t u : T) : Fn Try.prog 45 [tm t, tm u] (bb (T.eqb t u)) := by
  induction t using T.ind generalizing u with
  | h k n ts ih =>
  obtain ⟨k', n', us⟩ := u
  have h96 : Fn Try.prog 96 [tms ts, tms us] (bb (T.eqbL ts us)) := fn96 fun t ht u => ih t ht u
  refine fn_of (base := 45000) ok45 rfl fun σ h0 hr => ?_
  have s0 := h0 0
  have s1 := h0 1
  rw [slots0] at s0
  rw [slots1] at s1
  simp only [tm, cells_mk] at s0 s1
  clear h0 hr
  unfold c45
  simp [s0, s1]
  refine GCall.fn (fun _ => h96) (by simp [tms]) (by simp) rfl fun _ => ?_
  simp [r45, bb, T.eqb]
end Go.Abs

namespace Go.Abs


def c65 : SCode :=
  .seq (.reg
       [⟨some 1, none, .box 24 (.t 0)⟩,
        ⟨some 2, none, .mv (.k (.bool false))⟩])
  (.seq (.reg
       [⟨some 4, none, .fad 24 0 0 (.t 1)⟩,
        ⟨some 5, none, .ld1 3 (.t 4)⟩,
        ⟨some 6, none, .call (.f 62) [.t 5]⟩,
        ⟨some 3, none, .mv (.t 6)⟩])
  (.seq (.seq (.reg
         [⟨some 7, none, .mv (.t 3)⟩,
          ⟨some 8, none, .bin .lss (.t 7) (.k (.int .i64 0))⟩,
          ⟨some 9, none, .mv (.t 8)⟩,
          ⟨some 10, some (9, false), .fad 24 2 2 (.t 1)⟩,
          ⟨some 11, some (9, false), .ld1 22 (.t 10)⟩,
          ⟨some 12, some (9, false), .len 22 (.t 11)⟩,
          ⟨some 13, some (9, false), .mv (.t 3)⟩,
          ⟨some 14, some (9, false), .bin .neq (.t 12) (.t 13)⟩,
          ⟨some 15, none, .pick (.t 9) (.k (.bool true)) (.t 14)⟩,
          ⟨some 16, none, .mv (.t 15)⟩,
          ⟨some 17, some (16, false), .fad 24 1 1 (.t 1)⟩,
          ⟨some 18, some (16, false), .ld1 3 (.t 17)⟩,
          ⟨some 19, some (16, false), .bin .lss (.t 18) (.k (.int .i64 0))⟩,
          ⟨some 20, none, .pick (.t 16) (.k (.bool true)) (.t 19)⟩,
          ⟨some 21, none, .mv (.t 20)⟩,
          ⟨some 22, some (21, false), .fad 24 1 1 (.t 1)⟩,
          ⟨some 23, some (21, false), .ld1 3 (.t 22)⟩,
          ⟨some 24, some (21, false), .bin .gtr (.t 23) (.k (.int .i64 65535))⟩,
          ⟨some 25, none, .pick (.t 21) (.k (.bool true)) (.t 24)⟩,
          ⟨some 26, none, .mv (.t 25)⟩,
          ⟨some 27, some (26, false), .mv (.t 3)⟩,
          ⟨some 28, some (26, false), .bin .gtr (.t 27) (.k (.int .i64 0))⟩,
          ⟨some 29, some (26, false), .mv (.t 28)⟩,
          ⟨some 30, some (29, true), .fad 24 1 1 (.t 1)⟩,
          ⟨some 31, some (29, true), .ld1 3 (.t 30)⟩,
          ⟨some 32, some (29, true), .bin .neq (.t 31) (.k (.int .i64 0))⟩,
          ⟨some 33, some (26, false), .pick (.t 29) (.t 32) (.k (.bool false))⟩,
          ⟨some 34, none, .pick (.t 26) (.k (.bool true)) (.t 33)⟩])
    (.cond (.t 34)
      (.seq (.reg
           [⟨some 2, none, .mv (.k (.bool false))⟩])
      (.ret))
      (.skip)))
  (.seq (.reg
       [⟨some 35, none, .fad 24 2 2 (.t 1)⟩,
        ⟨some 36, none, .ld1 22 (.t 35)⟩,
        ⟨some 37, none, .call (.f 112) [.t 36, .f 113]⟩,
        ⟨some 38, none, .not (.t 37)⟩,
        ⟨some 2, none, .mv (.t 38)⟩])
  (.ret))))
def r65 : List RR := [.t 2]
theorem ok65 : okFn Go.Proofs.Try.prog 65 39 c65 r65 1 = true := by kernel_rfl


def c113 : SCode :=
  .seq (.reg
       [⟨some 1, none, .box 24 (.t 0)⟩,
        ⟨some 2, none, .mv (.k (.bool false))⟩])
  (.seq (.reg
       [⟨some 3, none, .ldn 24 3 (.t 1)⟩,
        ⟨some 4, none, .call (.f 65) [.t 3]⟩,
        ⟨some 5, none, .not (.t 4)⟩,
        ⟨some 2, none, .mv (.t 5)⟩])
  (.ret))
def r113 : List RR := [.t 2]
theorem ok113 : okFn Go.Proofs.Try.prog 113 6 c113 r113 1 = true := by kernel_rfl


def c22 : SCode :=
  .seq (.reg
       [⟨some 1, none, .box 24 (.t 0)⟩,
        ⟨some 2, none, .mv (.k (.int .i64 0))⟩])
  (.seq (.block 0 (.seq (.reg
           [⟨some 4, none, .ldn 24 3 (.t 1)⟩,
            ⟨some 5, none, .call (.f 20) [.t 4]⟩,
            ⟨some 6, none, .bin .gtr (.t 5) (.k (.int .i64 6000))⟩,
            ⟨some 3, none, .mv (.t 6)⟩])
      (.cond (.t 3)
        (.seq (.reg
             [⟨some 2, none, .mv (.k (.int .i64 4))⟩])
        (.ret))
        (.seq (.reg
             [⟨some 8, none, .ldn 24 3 (.t 1)⟩,
              ⟨some 9, none, .call (.f 21) [.t 8]⟩,
              ⟨some 10, none, .bin .gtr (.t 9) (.k (.int .i64 200))⟩,
              ⟨some 7, none, .mv (.t 10)⟩])
        (.cond (.t 7)
          (.seq (.reg
               [⟨some 2, none, .mv (.k (.int .i64 5))⟩])
          (.ret))
          (.seq (.reg
               [⟨some 12, none, .ldn 24 3 (.t 1)⟩,
                ⟨some 13, none, .call (.f 65) [.t 12]⟩,
                ⟨some 14, none, .not (.t 13)⟩,
                ⟨some 11, none, .mv (.t 14)⟩])
          (.cond (.t 11)
            (.seq (.reg
                 [⟨some 2, none, .mv (.k (.int .i64 1))⟩])
            (.ret))
            (.skip))))))))
  (.seq (.reg
       [⟨some 2, none, .mv (.k (.int .i64 0))⟩])
  (.ret)))
def r22 : List RR := [.t 2]
theorem ok22 : okFn Go.Proofs.Try.prog 22 15 c22 r22 1 = true := by kernel_rfl


def c24 : SCode :=
  .seq (.reg
       [⟨some 2, none, .alloc 24 [.v (.int .i64 0), .v (.int .i64 0), .cap 3 40 []]⟩])
  (.seq (.reg
       [⟨some 3, none, .mv (.t 0)⟩,
        ⟨some 4, none, .build 24 [.v (.int .i64 0), .v (.int .i64 0), .cap 3 40 []] [(0, 0, 1, .k (.int .i64 2)), (1, 1, 1, .t 3)]⟩,
        ⟨none, none, .stn 24 3 (.t 2) (.t 4)⟩])
  (.ret))
def r24 : List RR := [.cn 2 3]
theorem ok24 : okFn Go.Proofs.Try.prog 24 5 c24 r24 1 = true := by kernel_rfl


def c25 : SCode :=
  .seq (.reg
       [⟨some 4, none, .alloc 24 [.v (.int .i64 0), .v (.int .i64 0), .cap 3 40 []]⟩])
  (.seq (.reg
       [⟨some 5, none, .mv (.nil 3 40)⟩])
  (.seq (.reg
       [⟨some 6, none, .mv (.t 0)⟩,
        ⟨some 7, none, .mv (.t 5)⟩,
        ⟨some 8, none, .mv (.t 1)⟩,
        ⟨some 9, none, .app 24 3 40 (.t 7) (.t 8)⟩,
        ⟨some 10, none, .build 24 [.v (.int .i64 0), .v (.int .i64 0), .cap 3 40 []] [(0, 0, 1, .t 6), (2, 2, 1, .t 9)]⟩,
        ⟨none, none, .stn 24 3 (.t 4) (.t 10)⟩])
  (.ret)))
def r25 : List RR := [.cn 4 3]
theorem ok25 : okFn Go.Proofs.Try.prog 25 11 c25 r25 2 = true := by kernel_rfl


def c66 : SCode :=
  .seq (.reg
       [⟨some 2, none, .alloc 24 [.v (.int .i64 0), .v (.int .i64 0), .cap 3 40 []]⟩])
  (.seq (.reg
       [⟨some 3, none, .mv (.t 0)⟩,
        ⟨some 4, none, .build 24 [.v (.int .i64 0), .v (.int .i64 0), .cap 3 40 []] [(0, 0, 1, .k (.int .i64 1)), (1, 1, 1, .t 3)]⟩,
        ⟨none, none, .stn 24 3 (.t 2) (.t 4)⟩])
  (.ret))
def r66 : List RR := [.cn 2 3]
theorem ok66 : okFn Go.Proofs.Try.prog 66 5 c66 r66 1 = true := by kernel_rfl


def c31 : SCode :=
  .seq (.reg
       [⟨some 4, none, .mv (.k (.int .i64 0))⟩])
  (.seq (.seq (.reg
         [⟨some 5, none, .mv (.t 1)⟩,
          ⟨some 6, none, .bin .eql (.t 5) (.k (.int .i64 1))⟩,
          ⟨some 7, none, .mv (.t 6)⟩,
          ⟨some 8, some (7, true), .lit 3 1 8 [.k (.int .i64 4), .k (.int .i64 5), .k (.int .i64 7)]⟩,
          ⟨some 9, some (7, true), .mv (.t 0)⟩,
          ⟨some 10, some (7, true), .call (.f 69) [.t 8, .t 9]⟩,
          ⟨some 11, none, .pick (.t 7) (.t 10) (.k (.bool false))⟩])
    (.cond (.t 11)
      (.seq (.reg
           [⟨some 4, none, .mv (.k (.int .i64 1))⟩])
      (.ret))
      (.skip)))
  (.seq (.reg
       [⟨some 4, none, .mv (.k (.int .i64 0))⟩])
  (.ret)))
def r31 : List RR := [.t 4]
theorem ok31 : okFn Go.Proofs.Try.prog 31 12 c31 r31 2 = true := by kernel_rfl


def c69 : SCode :=
  .seq (.reg
       [⟨some 4, none, .mv (.k (.bool false))⟩])
  (.seq (.reg
       [⟨some 5, none, .mv (.t 0)⟩,
        ⟨some 6, none, .mv (.t 1)⟩,
        ⟨some 7, none, .call (.f 115) [.t 5, .t 6]⟩,
        ⟨some 8, none, .bin .geq (.t 7) (.k (.int .i64 0))⟩,
        ⟨some 4, none, .mv (.t 8)⟩])
  (.ret))
def r69 : List RR := [.t 4]
theorem ok69 : okFn Go.Proofs.Try.prog 69 9 c69 r69 2 = true := by kernel_rfl


def c115b0 : SCode :=
  .seq (.reg
       [⟨some 9, none, .bin .lss (.t 8) (.t 7)⟩])
  (.seq (.cond (.t 9)
      (.skip)
      (.exit 0))
  (.seq (.block 1 (.seq (.reg
           [⟨some 10, none, .mv (.t 8)⟩,
            ⟨some 5, none, .mv (.t 10)⟩])
      (.seq (.reg
           [⟨some 11, none, .mv (.t 1)⟩,
            ⟨some 12, none, .mv (.t 0)⟩,
            ⟨some 13, none, .mv (.t 5)⟩,
            ⟨some 14, none, .iad 3 1 (.t 12) (.t 13)⟩,
            ⟨some 15, none, .ld1 3 (.t 14)⟩,
            ⟨some 16, none, .bin .eql (.t 11) (.t 15)⟩])
      (.cond (.t 16)
        (.seq (.reg
             [⟨some 17, none, .mv (.t 5)⟩,
              ⟨some 4, none, .mv (.t 17)⟩])
        (.ret))
        (.skip)))))
  (.reg
     [⟨some 18, none, .bin .add (.t 8) (.k (.int .i64 1))⟩,
      ⟨some 8, none, .mv (.t 18)⟩])))
def c115 : SCode :=
  .seq (.reg
       [⟨some 4, none, .mv (.k (.int .i64 0))⟩])
  (.seq (.seq (.reg
         [⟨some 6, none, .mv (.t 0)⟩,
          ⟨some 7, none, .len 38 (.t 6)⟩,
          ⟨some 8, none, .mv (.k (.int .i64 0))⟩])
    (.block 0 (.loop c115b0)))
  (.seq (.reg
       [⟨some 4, none, .mv (.k (.int .i64 (-1)))⟩])
  (.ret)))
def r115 : List RR := [.t 4]
theorem ok115 : okFn Go.Proofs.Try.prog 115 19 c115 r115 2 = true := by kernel_rfl


def c30 : SCode :=
  .seq (.reg
       [⟨some 3, none, .box 24 (.t 0)⟩,
        ⟨some 6, none, .mv (.k (.bool false))⟩])
  (.seq (.reg
       [⟨some 7, none, .mv (.t 1)⟩,
        ⟨some 8, none, .bin .geq (.t 7) (.k (.int .i64 0))⟩,
        ⟨some 9, none, .mv (.t 8)⟩,
        ⟨some 10, some (9, true), .mv (.t 2)⟩,
        ⟨some 11, some (9, true), .bin .geq (.t 10) (.k (.int .i64 0))⟩,
        ⟨some 12, none, .pick (.t 9) (.t 11) (.k (.bool false))⟩,
        ⟨some 13, none, .mv (.t 12)⟩,
        ⟨some 14, some (13, true), .ldn 24 3 (.t 3)⟩,
        ⟨some 15, some (13, true), .call (.f 22) [.t 14]⟩,
        ⟨some 16, some (13, true), .bin .eql (.t 15) (.k (.int .i64 0))⟩,
        ⟨some 17, none, .pick (.t 13) (.t 16) (.k (.bool false))⟩,
        ⟨some 18, none, .mv (.t 17)⟩,
        ⟨some 19, some (18, true), .ldn 24 3 (.t 3)⟩,
        ⟨some 20, some (18, true), .mv (.t 1)⟩,
        ⟨some 21, some (18, true), .best false [.t 20, .k (.int .i64 65536)]⟩,
        ⟨some 22, some (18, true), .mv (.t 2)⟩,
        ⟨some 23, some (18, true), .call (.f 68) [.t 19, .t 21, .t 22]⟩,
        ⟨some 24, none, .pick (.t 18) (.t 23) (.k (.bool false))⟩,
        ⟨some 6, none, .mv (.t 24)⟩])
  (.ret))
def r30 : List RR := [.t 6]
theorem ok30 : okFn Go.Proofs.Try.prog 30 25 c30 r30 3 = true := by kernel_rfl


def c68b0 : SCode :=
  .seq (.reg
       [⟨some 32, none, .bin .lss (.t 31) (.t 30)⟩])
  (.seq (.cond (.t 32)
      (.skip)
      (.exit 1))
  (.seq (.block 2 (.seq (.reg
           [⟨some 33, none, .mv (.t 31)⟩,
            ⟨some 34, none, .iad 24 3 (.t 29) (.t 31)⟩,
            ⟨some 35, none, .ldn 24 3 (.t 34)⟩,
            ⟨some 8, none, .alloc 24 [.v (.int .i64 0), .v (.int .i64 0), .cap 3 40 []]⟩,
            ⟨some 7, none, .mv (.t 33)⟩,
            ⟨none, none, .stn 24 3 (.t 8) (.t 35)⟩])
      (.seq (.dreg [0, 0, 0, 4, 0, 28, 62, 0, 255, 511]
           [⟨some 36, none, .ldn 24 3 (.t 8)⟩,
            ⟨some 37, none, .mv (.t 1)⟩,
            ⟨some 38, none, .fad 24 0 0 (.t 3)⟩,
            ⟨some 39, none, .ld1 3 (.t 38)⟩,
            ⟨some 40, none, .mv (.t 7)⟩,
            ⟨some 41, none, .call (.f 31) [.t 39, .t 40]⟩,
            ⟨some 42, none, .bin .add (.t 37) (.t 41)⟩,
            ⟨some 43, none, .mv (.t 2)⟩,
            ⟨some 44, none, .call (.f 68) [.t 36, .t 42, .t 43]⟩,
            ⟨some 45, none, .not (.t 44)⟩])
      (.cond (.t 45)
        (.seq (.reg
             [⟨some 6, none, .mv (.k (.bool false))⟩])
        (.ret))
        (.skip)))))
  (.reg
     [⟨some 46, none, .bin .add (.t 31) (.k (.int .i64 1))⟩,
      ⟨some 31, none, .mv (.t 46)⟩])))
def c68 : SCode :=
  .seq (.reg
       [⟨some 3, none, .box 24 (.t 0)⟩,
        ⟨some 6, none, .mv (.k (.bool false))⟩])
  (.seq (.seq (.reg
         [⟨some 9, none, .fad 24 0 0 (.t 3)⟩,
          ⟨some 10, none, .ld1 3 (.t 9)⟩])
    (.block 0 (.seq (.reg
           [⟨some 12, none, .bin .eql (.t 10) (.k (.int .i64 1))⟩,
            ⟨some 11, none, .mv (.t 12)⟩])
      (.cond (.t 11)
        (.seq (.reg
             [⟨some 13, none, .fad 24 1 1 (.t 3)⟩,
              ⟨some 14, none, .ld1 3 (.t 13)⟩,
              ⟨some 15, none, .mv (.t 1)⟩,
              ⟨some 16, none, .bin .lss (.t 14) (.t 15)⟩,
              ⟨some 6, none, .mv (.t 16)⟩])
        (.ret))
        (.seq (.reg
             [⟨some 18, none, .bin .eql (.t 10) (.k (.int .i64 2))⟩,
              ⟨some 17, none, .mv (.t 18)⟩])
        (.cond (.t 17)
          (.seq (.reg
               [⟨some 19, none, .fad 24 1 1 (.t 3)⟩,
                ⟨some 20, none, .ld1 3 (.t 19)⟩,
                ⟨some 21, none, .bin .leq (.t 20) (.k (.int .i64 6))⟩,
                ⟨some 6, none, .mv (.t 21)⟩])
          (.ret))
          (.seq (.reg
               [⟨some 23, none, .bin .eql (.t 10) (.k (.int .i64 3))⟩,
                ⟨some 22, none, .mv (.t 23)⟩])
          (.cond (.t 22)
            (.seq (.reg
                 [⟨some 24, none, .fad 24 1 1 (.t 3)⟩,
                  ⟨some 25, none, .ld1 3 (.t 24)⟩,
                  ⟨some 26, none, .mv (.t 2)⟩,
                  ⟨some 27, none, .bin .lss (.t 25) (.t 26)⟩,
                  ⟨some 6, none, .mv (.t 27)⟩])
            (.ret))
            (.skip)))))))))
  (.seq (.seq (.reg
         [⟨some 28, none, .fad 24 2 2 (.t 3)⟩,
          ⟨some 29, none, .ld1 22 (.t 28)⟩,
          ⟨some 30, none, .len 22 (.t 29)⟩,
          ⟨some 31, none, .mv (.k (.int .i64 0))⟩])
    (.block 1 (.loop c68b0)))
  (.seq (.reg
       [⟨some 6, none, .mv (.k (.bool true))⟩])
  (.ret))))
def r68 : List RR := [.t 6]
theorem ok68 : okFn Go.Proofs.Try.prog 68 47 c68 r68 3 = true := by kernel_rfl

end Go.Abs

namespace Go.Abs


def c111 : SCode :=
  .seq (.reg
       [⟨some 2, none, .mv (.k (.bool false))⟩])
  (.seq (.reg
       [⟨some 3, none, .mv (.t 0)⟩,
        ⟨some 4, none, .bin .geq (.t 3) (.k (.int .i64 1))⟩,
        ⟨some 5, none, .mv (.t 4)⟩,
        ⟨some 6, some (5, true), .mv (.t 0)⟩,
        ⟨some 7, some (5, true), .bin .leq (.t 6) (.k (.int .i64 13))⟩,
        ⟨some 8, none, .pick (.t 5) (.t 7) (.k (.bool false))⟩,
        ⟨some 2, none, .mv (.t 8)⟩])
  (.ret))
def r111 : List RR := [.t 2]
theorem ok111 : okFn Go.Proofs.Try.prog 111 9 c111 r111 1 = true := by kernel_rfl


def c62 : SCode :=
  .seq (.reg
       [⟨some 2, none, .mv (.k (.int .i64 0))⟩])
  (.seq (.seq (.reg
         [⟨some 3, none, .mv (.t 0)⟩])
    (.block 0 (.seq (.seq (.reg
             [⟨some 5, none, .bin .eql (.t 3) (.k (.int .i64 1))⟩,
              ⟨some 4, none, .mv (.t 5)⟩])
        (.cond (.t 4)
          (.skip)
          (.seq (.reg
               [⟨some 6, none, .bin .eql (.t 3) (.k (.int .i64 2))⟩,
                ⟨some 4, none, .mv (.t 6)⟩])
          (.cond (.t 4)
            (.skip)
            (.reg
               [⟨some 7, none, .bin .eql (.t 3) (.k (.int .i64 3))⟩,
                ⟨some 4, none, .mv (.t 7)⟩])))))
      (.cond (.t 4)
        (.seq (.reg
             [⟨some 2, none, .mv (.k (.int .i64 0))⟩])
        (.ret))
        (.seq (.seq (.reg
               [⟨some 9, none, .bin .eql (.t 3) (.k (.int .i64 9))⟩,
                ⟨some 8, none, .mv (.t 9)⟩])
          (.cond (.t 8)
            (.skip)
            (.reg
               [⟨some 10, none, .bin .eql (.t 3) (.k (.int .i64 10))⟩,
                ⟨some 8, none, .mv (.t 10)⟩])))
        (.cond (.t 8)
          (.seq (.reg
               [⟨some 2, none, .mv (.k (.int .i64 1))⟩])
          (.ret))
          (.seq (.seq (.reg
                 [⟨some 12, none, .bin .eql (.t 3) (.k (.int .i64 8))⟩,
                  ⟨some 11, none, .mv (.t 12)⟩])
            (.cond (.t 11)
              (.skip)
              (.seq (.reg
                   [⟨some 13, none, .bin .eql (.t 3) (.k (.int .i64 11))⟩,
                    ⟨some 11, none, .mv (.t 13)⟩])
              (.cond (.t 11)
                (.skip)
                (.reg
                   [⟨some 14, none, .bin .eql (.t 3) (.k (.int .i64 13))⟩,
                    ⟨some 11, none, .mv (.t 14)⟩])))))
          (.cond (.t 11)
            (.seq (.reg
                 [⟨some 2, none, .mv (.k (.int .i64 3))⟩])
            (.ret))
            (.skip)))))))))
  (.seq (.seq (.reg
         [⟨some 15, none, .mv (.t 0)⟩,
          ⟨some 16, none, .call (.f 111) [.t 15]⟩])
    (.cond (.t 16)
      (.seq (.reg
           [⟨some 2, none, .mv (.k (.int .i64 2))⟩])
      (.ret))
      (.skip)))
  (.seq (.reg
       [⟨some 2, none, .mv (.k (.int .i64 (-1)))⟩])
  (.ret))))
def r62 : List RR := [.t 2]
theorem ok62 : okFn Go.Proofs.Try.prog 62 17 c62 r62 1 = true := by kernel_rfl


def c112 : SCode :=
  .seq (.reg
       [⟨some 4, none, .mv (.k (.bool false))⟩])
  (.seq (.reg
       [⟨some 5, none, .mv (.t 0)⟩,
        ⟨some 6, none, .mv (.t 1)⟩,
        ⟨some 7, none, .call (.f 124) [.t 5, .t 6]⟩,
        ⟨some 8, none, .bin .geq (.t 7) (.k (.int .i64 0))⟩,
        ⟨some 4, none, .mv (.t 8)⟩])
  (.ret))
def r112 : List RR := [.t 4]
theorem ok112 : okFn Go.Proofs.Try.prog 112 9 c112 r112 2 = true := by kernel_rfl


def c124b0 : SCode :=
  .seq (.reg
       [⟨some 9, none, .bin .lss (.t 8) (.t 7)⟩])
  (.seq (.cond (.t 9)
      (.skip)
      (.exit 0))
  (.seq (.block 1 (.seq (.reg
           [⟨some 10, none, .mv (.t 8)⟩,
            ⟨some 5, none, .mv (.t 10)⟩])
      (.seq (.reg
           [⟨some 11, none, .mv (.t 1)⟩,
            ⟨some 12, none, .mv (.t 0)⟩,
            ⟨some 13, none, .mv (.t 5)⟩,
            ⟨some 14, none, .iad 24 3 (.t 12) (.t 13)⟩,
            ⟨some 15, none, .ldn 24 3 (.t 14)⟩,
            ⟨some 16, none, .call (.t 11) [.t 15]⟩])
      (.cond (.t 16)
        (.seq (.reg
             [⟨some 17, none, .mv (.t 5)⟩,
              ⟨some 4, none, .mv (.t 17)⟩])
        (.ret))
        (.skip)))))
  (.reg
     [⟨some 18, none, .bin .add (.t 8) (.k (.int .i64 1))⟩,
      ⟨some 8, none, .mv (.t 18)⟩])))
def c124 : SCode :=
  .seq (.reg
       [⟨some 4, none, .mv (.k (.int .i64 0))⟩])
  (.seq (.seq (.reg
         [⟨some 6, none, .mv (.t 0)⟩,
          ⟨some 7, none, .len 22 (.t 6)⟩,
          ⟨some 8, none, .mv (.k (.int .i64 0))⟩])
    (.block 0 (.loop c124b0)))
  (.seq (.reg
       [⟨some 4, none, .mv (.k (.int .i64 (-1)))⟩])
  (.ret)))
def r124 : List RR := [.t 4]
theorem ok124 : okFn Go.Proofs.Try.prog 124 19 c124 r124 2 = true := by kernel_rfl

end Go.Abs

namespace Go.Abs
open Go.Proofs

theorem fn20 (t : T) : Fn Try.prog 20 [tm t] (ib t.size) := by
  induction t using T.ind with
  | h k n ts ih =>
  refine fn_of (base := 20000) ok20 rfl fun σ h0 hr => ?_
  have s0 := h0 0
  rw [slots0] at s0
  have hlen := real_kids (hr (tm (.mk k n ts)) (by simp))
  rw [kids_mk] at hlen
  simp only [tm, cells_mk] at s0
  clear h0 hr
  unfold c20
  simp [s0]
  refine W_loop (fun m σ => ∃ (i : Nat) (a : Int), i + m = ts.length ∧ T.sizeL a (ts.drop i) = T.sizeL 1 ts ∧ σ.sl 3 = ib a ∧ σ.sl 7 = tms ts ∧ σ.sl 8 = ib ts.length ∧ σ.sl 9 = ib i) ts.length ?_ ?_
  · exact ⟨0, 1, by simp [ib, tms]⟩
  · rintro m σ ⟨i, a, hm, hp, q3, q7, q8, q9⟩
    unfold c20b0
    simp only [tms, ib] at q3 q7 q8 q9
    by_cases hi : i < ts.length
    · obtain ⟨t, ht⟩ := at_of hi
      obtain ⟨_, ht'⟩ := getE ht
      have w1 := wrap_succ (i := i) (by omega)
      simp [q3, q7, q8, q9, hi, ht']
      refine ECall.fn (ih t (List.mem_of_getElem? ht)) (by simp [tm]) (by simp) rfl fun _ => ?_
      simp [ib, q3, q9]
      rw [drop_at ht, T.sizeL] at hp
      refine ⟨m - 1, by omega, i + 1, by omega, _, hp, ?_⟩
      simp [q7, q8, tms, w1]
    · simp [q3, q7, q8, q9, hi, r20, ib, T.size]
      rw [← hp, List.drop_eq_nil_of_le (by omega), T.sizeL]

theorem fn21 (t : T) : Fn Try.prog 21 [tm t] (ib t.depth) := by
  induction t using T.ind with
  | h k n ts ih =>
  refine fn_of (base := 21000) ok21 rfl fun σ h0 hr => ?_
  have s0 := h0 0
  rw [slots0] at s0
  have hlen := real_kids (hr (tm (.mk k n ts)) (by simp))
  rw [kids_mk] at hlen
  simp only [tm, cells_mk] at s0
  clear h0 hr
  unfold c21
  simp [s0]
  refine W_loop (fun m σ => ∃ (i : Nat) (a : Int), i + m = ts.length ∧ T.depthL a (ts.drop i) = T.depthL 0 ts ∧ σ.sl 3 = ib a ∧ σ.sl 7 = tms ts ∧ σ.sl 8 = ib ts.length ∧ σ.sl 9 = ib i) ts.length ?_ ?_
  · exact ⟨0, 0, by simp [ib, tms]⟩
  · rintro m σ ⟨i, a, hm, hp, q3, q7, q8, q9⟩
    unfold c21b0
    simp only [tms, ib] at q3 q7 q8 q9
    by_cases hi : i < ts.length
    · obtain ⟨t, ht⟩ := at_of hi
      obtain ⟨_, ht'⟩ := getE ht
      have w1 := wrap_succ (i := i) (by omega)
      simp [q3, q7, q8, q9, hi, ht']
      refine ECall.fn (ih t (List.mem_of_getElem? ht)) (by simp [tm]) (by simp) rfl fun _ => ?_
      simp [ib, q3, q9]
      rw [drop_at ht, T.depthL] at hp
      refine ⟨m - 1, by omega, i + 1, by omega, _, hp, ?_⟩
      simp [q7, q8, tms, w1]
    · simp [q3, q7, q8, q9, hi, r21, ib, T.depth]
      rw [← hp, List.drop_eq_nil_of_le (by omega), T.depthL]

theorem fn28 (t : T) : Fn Try.prog 28 [tm t] (ib t.size) := by
  induction t using T.ind with
  | h k n ts ih =>
  refine fn_of (base := 28000) ok28 rfl fun σ h0 hr => ?_
  have s0 := h0 0
  rw [slots0] at s0
  have hlen := real_kids (hr (tm (.mk k n ts)) (by simp))
  rw [kids_mk] at hlen
  simp only [tm, cells_mk] at s0
  clear h0 hr
  unfold c28
  simp [s0]
  refine W_loop (fun m σ => ∃ (i : Nat) (a : Int), i + m = ts.length ∧ T.sizeL a (ts.drop i) = T.sizeL 1 ts ∧ σ.sl 3 = ib a ∧ σ.sl 1 = .c (.ref 28001 (σ.tg 28001) 0) ∧ σ.ob 28001 = some (.box 24 (T.mk k n ts).cells) ∧ σ.sl 4 = ib i) ts.length ?_ ?_
  · exact ⟨0, 1, by simp [ib, cells_mk]⟩
  · rintro m σ ⟨i, a, hm, hp, q3, q1, qo, q4⟩
    unfold c28b0
    simp only [cells_mk, ib] at q3 q1 qo q4
    by_cases hi : i < ts.length
    · obtain ⟨t, ht⟩ := at_of hi
      obtain ⟨_, ht'⟩ := getE ht
      have w1 := wrap_succ (i := i) (by omega)
      simp [q3, q1, qo, q4, hi, ht']
      refine ECall.fn (ih t (List.mem_of_getElem? ht)) (by simp [tm]) (by simp) rfl fun _ => ?_
      simp [ib, q3, q4]
      rw [drop_at ht, T.sizeL] at hp
      refine ⟨m - 1, by omega, i + 1, by omega, _, hp, ?_⟩
      simp [q1, qo, w1, cells_mk]
    · simp [q3, q1, qo, q4, hi, r28, ib, T.size]
      rw [← hp, List.drop_eq_nil_of_le (by omega), T.sizeL]

theorem fn29 (t : T) : Fn Try.prog 29 [tm t] (ib t.depth) := by
  induction t using T.ind with
  | h k n ts ih =>
  refine fn_of (base := 29000) ok29 rfl fun σ h0 hr => ?_
  have s0 := h0 0
  rw [slots0] at s0
  have hlen := real_kids (hr (tm (.mk k n ts)) (by simp))
  rw [kids_mk] at hlen
  simp only [tm, cells_mk] at s0
  clear h0 hr
  unfold c29
  simp [s0]
  refine W_loop (fun m σ => ∃ (i : Nat) (a : Int), i + m = ts.length ∧ T.depthL a (ts.drop i) = T.depthL 0 ts ∧ σ.sl 3 = ib a ∧ σ.sl 1 = .c (.ref 29001 (σ.tg 29001) 0) ∧ σ.ob 29001 = some (.box 24 (T.mk k n ts).cells) ∧ σ.sl 4 = ib i) ts.length ?_ ?_
  · exact ⟨0, 0, by simp [ib, cells_mk]⟩
  · rintro m σ ⟨i, a, hm, hp, q3, q1, qo, q4⟩
    unfold c29b0
    simp only [cells_mk, ib] at q3 q1 qo q4
    by_cases hi : i < ts.length
    · obtain ⟨t, ht⟩ := at_of hi
      obtain ⟨_, ht'⟩ := getE ht
      have w1 := wrap_succ (i := i) (by omega)
      simp [q3, q1, qo, q4, hi, ht']
      refine ECall.fn (ih t (List.mem_of_getElem? ht)) (by simp [tm]) (by simp) rfl fun _ => ?_
      simp [ib, q3, q4]
      rw [drop_at ht, T.depthL] at hp
      refine ⟨m - 1, by omega, i + 1, by omega, _, hp, ?_⟩
      simp [q1, qo, w1, cells_mk]
    · simp [q3, q1, qo, q4, hi, r29, ib, T.depth]
      rw [← hp, List.drop_eq_nil_of_le (by omega), T.depthL]
end Go.Abs

namespace Go.Abs
open Go.Proofs

theorem fn111 (k : Int) : Fn Try.prog 111 [ib k] (bb (decide (1 ≤ k) && decide (k ≤ 13))) := by
  refine fn_of (base := 111000) ok111 rfl fun σ h0 hr => ?_
  have s0 := h0 0
  rw [slots0] at s0
  simp only [ib] at s0
  clear h0 hr
  unfold c111
  simp [s0, r111, bb]

set_option maxHeartbeats 2000000 in
theorem fn62 (k : Int) : Fn Try.prog 62 [ib k] (ib (kidsOf k)) := by
  refine fn_of (base := 62000) ok62 rfl fun σ h0 hr => ?_
  have s0 := h0 0
  rw [slots0] at s0
  simp only [ib] at s0
  clear h0 hr
  unfold c62
  by_cases h1 : k = 1
  · subst h1; simp [s0, r62, ib, kidsOf]
  by_cases h2 : k = 2
  · subst h2; simp [s0, r62, ib, kidsOf]
  by_cases h3 : k = 3
  · subst h3; simp [s0, r62, ib, kidsOf]
  by_cases h9 : k = 9
  · subst h9; simp [s0, r62, ib, kidsOf]
  by_cases h10 : k = 10
  · subst h10; simp [s0, r62, ib, kidsOf]
  by_cases h8 : k = 8
  · subst h8; simp [s0, r62, ib, kidsOf]
  by_cases h11 : k = 11
  · subst h11; simp [s0, r62, ib, kidsOf]
  by_cases h13 : k = 13
  · subst h13; simp [s0, r62, ib, kidsOf]
  simp [s0, h1, h2, h3, h9, h10, h8, h11, h13]
  refine ECall.fn (fn111 k) (by simp [ib]) (by simp) rfl fun _ => ?_
  simp [bb, r62, ib, kidsOf, h1, h2, h3, h9, h10, h8, h11, h13]

def idx {α : Type} (p : α → Bool) : Int → List α → Int
  | _, [] => -1
  | i, t :: ts => if p t then i else idx p (i + 1) ts
theorem idx_any {α : Type} {p : α → Bool} : ∀ {ts : List α} {i : Int}, 0 ≤ i → decide (0 ≤ idx p i ts) = ts.any p
  | [], i, h => by simp [idx]
  | t :: ts, i, h => by
    simp only [idx, List.any_cons]
    by_cases hp : p t
    · simp [hp, h]
    · simp [hp]
      have := idx_any (p := p) (ts := ts) (i := i + 1) (by omega)
      simpa using this

theorem fn124 {f : Nat} {p : T → Bool} {ts : List T} (hf : ∀ t, t ∈ ts → Fn Try.prog f [tm t] (bb (p t))) : Fn Try.prog 124 [tms ts, .c (.clo f [] [])] (ib (idx p 0 ts)) := by
  refine fn_of (base := 124000) ok124 rfl fun σ h0 hr => ?_
  have s0 := h0 0
  have s1 := h0 1
  rw [slots0] at s0
  rw [slots1] at s1
  have hlen := real_tms (hr (tms ts) (by simp))
  simp only [tms] at s0
  clear h0 hr
  unfold c124
  simp [s0, s1]
  refine W_loop (fun m σ => ∃ (i : Nat), i + m = ts.length ∧ idx p i (ts.drop i) = idx p 0 ts ∧ σ.sl 0 = tms ts ∧ σ.sl 1 = .c (.clo f [] []) ∧ σ.sl 7 = ib ts.length ∧ σ.sl 8 = ib i) ts.length ?_ ?_
  · exact ⟨0, by simp [ib, tms, s0, s1]⟩
  · rintro m σ ⟨i, hm, hp, q0, q1, q7, q8⟩
    unfold c124b0
    simp only [tms, ib] at q0 q1 q7 q8
    by_cases hi : i < ts.length
    · obtain ⟨t, ht⟩ := at_of hi
      obtain ⟨_, ht'⟩ := getE ht
      have w1 := wrap_succ (i := i) (by omega)
      rw [drop_at ht, idx] at hp
      simp [q0, q1, q7, q8, hi, ht']
      refine ECall.fn (hf t (List.mem_of_getElem? ht)) (by simp [tm]) (by simp) rfl fun _ => ?_
      simp [bb, q8]
      constructor
      · intro hd
        rw [if_pos hd] at hp
        simp [r124, ib, ← hp]
      · intro hd
        rw [if_neg (by simp [hd])] at hp
        refine ⟨m - 1, by omega, i + 1, by omega, by simpa using hp, ?_⟩
        simp [q0, q1, q7, tms, ib, w1]
    · simp [q0, q1, q7, q8, hi, r124, ib]
      rw [← hp, List.drop_eq_nil_of_le (by omega), idx]

theorem fn112 {f : Nat} {p : T → Bool} {ts : List T} (hf : ∀ t, t ∈ ts → Fn Try.prog f [tm t] (bb (p t))) : Fn Try.prog 112 [tms ts, .c (.clo f [] [])] (bb (ts.any p)) := by
  refine fn_of (base := 112000) ok112 rfl fun σ h0 hr => ?_
  have s0 := h0 0
  have s1 := h0 1
  rw [slots0] at s0
  rw [slots1] at s1
  simp only [tms] at s0
  clear h0 hr
  unfold c112
  simp [s0, s1]
  refine ECall.fn (fn124 hf) (by simp [tms]) (by simp) rfl fun _ => ?_
  simp [r112, bb, ib, ← idx_any (p := p) (ts := ts) (i := 0)]

theorem fn113 {t : T} (h65 : Fn Try.prog 65 [tm t] (bb t.formed)) : Fn Try.prog 113 [tm t] (bb (!t.formed)) := by
  refine fn_of (base := 113000) ok113 rfl fun σ h0 hr => ?_
  have s0 := h0 0
  rw [slots0] at s0
  simp only [tm] at s0
  clear h0 hr
  unfold c113
  simp [s0]
  refine ECall.fn h65 (by simp [tm]) (by simp) rfl fun _ => ?_
  simp [r113, bb]

theorem fn65 (t : T) : Fn Try.prog 65 [tm t] (bb t.formed) := by
  induction t using T.ind with
  | h k n ts ih =>
  have h112 := fn112 (ts := ts) (p := fun t => !t.formed) fun t ht => fn113 (ih t ht)
  refine fn_of (base := 65000) ok65 rfl fun σ h0 hr => ?_
  have s0 := h0 0
  rw [slots0] at s0
  simp only [tm, cells_mk] at s0
  clear h0 hr
  unfold c65
  simp [s0]
  refine ECall.fn (fn62 k) (by simp [ib]) (by simp) rfl fun _ => ?_
  simp [ib, r65, bb]
  refine ⟨fun hb => ?_, fun h1 h2 h3 h4 h5 => ?_⟩
  · have hb' : badHead k n ts.length = true := by simp [badHead]; exact hb
    simp [T.formed, hb']
  · have hb' : badHead k n ts.length = false := by simp [badHead]; exact ⟨⟨⟨⟨h1, h2⟩, h3⟩, h4⟩, h5⟩
    refine ECall.fn h112 (by simp [tms]) (by simp) rfl fun _ => ?_
    simp [bb, T.formed, hb', formedL_all]
    exact (List.not_all_eq_any_not ..).symm

theorem fn22 (t : T) : Fn Try.prog 22 [tm t] (ib t.check) := by
  refine fn_of (base := 22000) ok22 rfl fun σ h0 hr => ?_
  have s0 := h0 0
  rw [slots0] at s0
  simp only [tm] at s0
  clear h0 hr
  unfold c22
  simp [s0]
  refine ECall.fn (fn20 t) (by simp [tm]) (by simp) rfl fun _ => ?_
  simp [ib]
  refine ⟨fun h1 => by simp [r22, h1, T.check], fun h1 => ?_⟩
  simp [show ¬ 6000 < t.size by omega]
  refine ECall.fn (fn21 t) (by simp [tm]) (by simp) rfl fun _ => ?_
  simp [ib]
  refine ⟨fun h2 => by simp [r22, h2, T.check, show ¬ 6000 < t.size by omega], fun h2 => ?_⟩
  simp [show ¬ 200 < t.depth by omega]
  refine ECall.fn (fn65 t) (by simp [tm]) (by simp) rfl fun _ => ?_
  simp [bb]
  refine ⟨fun h3 => by simp [r22, h3, T.check, show ¬ 6000 < t.size by omega, show ¬ 200 < t.depth by omega], fun h3 => by simp [r22, h3, T.check, show ¬ 6000 < t.size by omega, show ¬ 200 < t.depth by omega]⟩
end Go.Abs

namespace Go.Abs
open Go.Proofs

theorem fn24 (n : Int) : Fn Try.prog 24 [ib n] (tm (.mk 2 n [])) := by
  refine fn_of (base := 24000) ok24 rfl fun σ h0 hr => ?_
  have s0 := h0 0
  rw [slots0] at s0
  simp only [ib] at s0
  clear h0 hr
  unfold c24
  simp [s0, r24, tm, cells_mk]

theorem fn66 (n : Int) : Fn Try.prog 66 [ib n] (tm (.mk 1 n [])) := by
  refine fn_of (base := 66000) ok66 rfl fun σ h0 hr => ?_
  have s0 := h0 0
  rw [slots0] at s0
  simp only [ib] at s0
  clear h0 hr
  unfold c66
  simp [s0, r66, tm, cells_mk]

theorem fn25 (k : Int) (ts : List T) : Fn Try.prog 25 [ib k, tms ts] (tm (.mk k 0 ts)) := by
  refine fn_of (base := 25000) ok25 rfl fun σ h0 hr => ?_
  have s0 := h0 0
  have s1 := h0 1
  rw [slots0] at s0
  rw [slots1] at s1
  have hlen := real_tms (hr (tms ts) (by simp))
  simp only [ib, tms] at s0 s1
  clear h0 hr
  unfold c25
  simp [s0, s1, r25, tm, cells_mk, room, hlen]

def idxI (x : Int) : Int → List Int → Int
  | _, [] => -1
  | i, n :: ns => if x = n then i else idxI x (i + 1) ns
theorem idxI_any {x : Int} : ∀ {ns : List Int} {i : Int}, 0 ≤ i → decide (0 ≤ idxI x i ns) = decide (x ∈ ns)
  | [], i, h => by simp [idxI]
  | n :: ns, i, h => by
    simp only [idxI]
    by_cases hp : x = n
    · simp [hp, h]
    · simp [hp]
      have := idxI_any (x := x) (ns := ns) (i := i + 1) (by omega)
      simpa using this

theorem fn115 (ns : List Int) (x : Int) : Fn Try.prog 115 [is ns, ib x] (ib (idxI x 0 ns)) := by
  refine fn_of (base := 115000) ok115 rfl fun σ h0 hr => ?_
  have s0 := h0 0
  have s1 := h0 1
  rw [slots0] at s0
  rw [slots1] at s1
  have hlen := real_is (hr (is ns) (by simp))
  simp only [ib, is] at s0 s1
  clear h0 hr
  unfold c115
  simp [s0, s1]
  refine W_loop (fun m σ => ∃ (i : Nat), i + m = ns.length ∧ idxI x i (ns.drop i) = idxI x 0 ns ∧ σ.sl 0 = is ns ∧ σ.sl 1 = ib x ∧ σ.sl 7 = ib ns.length ∧ σ.sl 8 = ib i) ns.length ?_ ?_
  · exact ⟨0, by simp [ib, is, s0, s1]⟩
  · rintro m σ ⟨i, hm, hp, q0, q1, q7, q8⟩
    unfold c115b0
    simp only [is, ib] at q0 q1 q7 q8
    by_cases hi : i < ns.length
    · obtain ⟨t, ht⟩ := at_of hi
      obtain ⟨_, ht'⟩ := getE ht
      have w1 := wrap_succ (i := i) (by omega)
      rw [drop_at ht, idxI] at hp
      by_cases hx : x = t
      · rw [if_pos hx] at hp
        subst hx
        simp [q0, q1, q7, q8, hi, ht', r115, ib, ← hp]
      · rw [if_neg hx] at hp
        simp [q0, q1, q7, q8, hi, ht', hx]
        refine ⟨m - 1, by omega, i + 1, by omega, by simpa using hp, ?_⟩
        simp [is, ib, w1]
    · simp [q0, q1, q7, q8, hi, r115, ib]
      rw [← hp, List.drop_eq_nil_of_le (by omega), idxI]

theorem fn69 (ns : List Int) (x : Int) : Fn Try.prog 69 [is ns, ib x] (bb (decide (x ∈ ns))) := by
  refine fn_of (base := 69000) ok69 rfl fun σ h0 hr => ?_
  have s0 := h0 0
  have s1 := h0 1
  rw [slots0] at s0
  rw [slots1] at s1
  simp only [ib, is] at s0 s1
  clear h0 hr
  unfold c69
  simp [s0, s1]
  refine ECall.fn (fn115 ns x) (by simp [is, ib]) (by simp) rfl fun _ => ?_
  simp [r69, bb, ib, ← idxI_any (x := x) (ns := ns) (i := 0)]

theorem fn31 (k i : Int) : Fn Try.prog 31 [ib k, ib i] (ib (bindsOf k i)) := by
  refine fn_of (base := 31000) ok31 rfl fun σ h0 hr => ?_
  have s0 := h0 0
  have s1 := h0 1
  rw [slots0] at s0
  rw [slots1] at s1
  simp only [ib] at s0 s1
  clear h0 hr
  unfold c31
  simp [s0, s1, room]
  refine GCall.fn (fun _ => fn69 [4, 5, 7] k) (by simp [is, ib]) (by simp) rfl fun _ => ?_
  simp [bb, r31, ib, bindsOf]
  intro h1 h2
  exact ⟨h1, by omega⟩

theorem fn68 (t : T) (a b : Int) : Fn Try.prog 68 [tm t, ib a, ib b] (bb (t.within a b)) := by
  induction t using T.ind generalizing a b with
  | h k n ts ih =>
  refine fn_of (base := 68000) ok68 rfl fun σ h0 hr => ?_
  have s0 := h0 0
  have s1 := h0 1
  have s2 := h0 2
  rw [slots0] at s0
  rw [slots1] at s1
  rw [slots2] at s2
  have hlen := real_kids (hr (tm (.mk k n ts)) (by simp))
  rw [kids_mk] at hlen
  simp only [tm, cells_mk, ib] at s0 s1 s2
  clear h0 hr
  unfold c68
  by_cases h1 : k = 1
  · subst h1; simp [s0, s1, s2, r68, bb, T.within]
  by_cases h2 : k = 2
  · subst h2; simp [s0, s1, s2, r68, bb, T.within]
  by_cases h3 : k = 3
  · subst h3; simp [s0, s1, s2, r68, bb, T.within]
  simp [s0, s1, s2, h1, h2, h3]
  refine W_loop (fun m σ => ∃ (i : Nat), i + m = ts.length ∧ T.withinL k a b i (ts.drop i) = T.withinL k a b 0 ts ∧ σ.sl 1 = ib a ∧ σ.sl 2 = ib b ∧ σ.sl 3 = .c (.ref 68003 (σ.tg 68003) 0) ∧ σ.ob 68003 = some (.box 24 (T.mk k n ts).cells) ∧ σ.sl 29 = tms ts ∧ σ.sl 30 = ib ts.length ∧ σ.sl 31 = ib i) ts.length ?_ ?_
  · exact ⟨0, by simp [ib, tms, cells_mk, s1, s2]⟩
  · rintro m σ ⟨i, hm, hp, q1, q2, q3, qo, q29, q30, q31⟩
    unfold c68b0
    simp only [tms, ib, cells_mk] at q1 q2 q3 qo q29 q30 q31
    by_cases hi : i < ts.length
    · obtain ⟨t, ht⟩ := at_of hi
      obtain ⟨_, ht'⟩ := getE ht
      have w1 := wrap_succ (i := i) (by omega)
      rw [drop_at ht, T.withinL] at hp
      simp [q1, q2, q3, qo, q29, q30, q31, hi, ht']
      refine W_dregA ?_
      simp [q1, q2, q3, qo, q29, q30, q31, hi, ht']
      refine CallA.fn (fn31 k i) (by simp [ib]) (by simp) rfl ?_
      simp [ib, q1, q2]
      refine CallA.fn (ih t (List.mem_of_getElem? ht) (IntKind.wrap .i64 (a + bindsOf k i)) b) (by simp [ib, tm]) (by simp) rfl ?_
      simp [bb]
      refine realC_n ?_
      simp
      constructor
      · intro hd
        simp [r68, ← hp, hd, T.within, h1, h2, h3]
      · intro hd
        rw [hd, Bool.true_and] at hp
        simp [q31]
        refine ⟨m - 1, by omega, i + 1, by omega, by simpa using hp, ?_⟩
        simp [q1, q2, q3, qo, q29, q30, tms, ib, w1, cells_mk]
    · simp [q1, q2, q3, qo, q29, q30, q31, hi, r68, bb, T.within, h1, h2, h3]
      rw [← hp, List.drop_eq_nil_of_le (by omega), T.withinL]

theorem fn30 (t : T) (a b : Int) : Fn Try.prog 30 [tm t, ib a, ib b] (bb (t.scope a b)) := by
  refine fn_of (base := 30000) ok30 rfl fun σ h0 hr => ?_
  have s0 := h0 0
  have s1 := h0 1
  have s2 := h0 2
  rw [slots0] at s0
  rw [slots1] at s1
  rw [slots2] at s2
  simp only [tm, ib] at s0 s1 s2
  clear h0 hr
  unfold c30
  simp [s0, s1, s2]
  refine GCall.fn (fun _ => fn22 t) (by simp [tm]) (by simp) rfl fun _ => ?_
  simp [ib, s1, s2]
  refine GCall.fn (fun _ => fn68 t (best2 false a 65536) b) (by simp [tm, ib]) (by simp) rfl fun _ => ?_
  simp [bb, r30, T.scope]
end Go.Abs

namespace Go.Abs
open Go.Proofs

mutual
def T.cnt : T → Int → Int → Int
  | .mk k n ts, b, d => T.cntL k b d 0 (if k = 1 ∧ n = IntKind.wrap .i64 (b + d) then 1 else 0) ts
def T.cntL (k b d : Int) : Int → Int → List T → Int
  | _, a, [] => a
  | i, a, t :: ts => T.cntL k b d (i + 1) (IntKind.wrap .i64 (a + T.cnt t b (IntKind.wrap .i64 (d + bindsOf k i)))) ts
end

theorem fn97 (x : Int) : Fn Try.prog 97 [ib x] (bb (decide (0 ≤ x) && decide (x ≤ 65535))) := by
  refine fn_of (base := 97000) ok97 rfl fun σ h0 hr => ?_
  have s0 := h0 0
  rw [slots0] at s0
  simp only [ib] at s0
  clear h0 hr
  unfold c97
  simp [s0, r97, bb]

theorem fn100 (t : T) (b d : Int) : Fn Try.prog 100 [tm t, ib b, ib d] (ib (t.cnt b d)) := by
  induction t using T.ind generalizing d with
  | h k n ts ih =>
  refine fn_of (base := 100000) ok100 rfl fun σ h0 hr => ?_
  have s0 := h0 0
  have s1 := h0 1
  have s2 := h0 2
  rw [slots0] at s0
  rw [slots1] at s1
  rw [slots2] at s2
  have hlen := real_kids (hr (tm (.mk k n ts)) (by simp))
  rw [kids_mk] at hlen
  simp only [tm, cells_mk, ib] at s0 s1 s2
  clear h0 hr
  have loop : ∀ (a0 : Int) (σ : St), σ.sl 7 = .c (.v (.int .i64 a0)) → σ.sl 1 = .c (.v (.int .i64 b)) → σ.sl 2 = .c (.v (.int .i64 d)) → σ.sl 3 = .c (.ref 100003 (σ.tg 100003) 0) → σ.ob 100003 = some (.box 24 (T.mk k n ts).cells) →
      σ.sl 24 = .c (.sl 3 40 (ts.map T.cells)) → σ.sl 25 = .c (.v (.int .i64 ts.length)) → σ.sl 26 = .c (.v (.int .i64 0)) →
      T.cntL k b d 0 a0 ts = (T.mk k n ts).cnt b d → W Try.prog 100000 (.loop c100b0) σ (onBlock 0 (seqC Try.prog 100000 (.seq (.reg
       [⟨some 43, none, .mv (.t 7)⟩,
        ⟨some 6, none, .mv (.t 43)⟩])
  (.ret)) (onEnd [] r100 (ib ((T.mk k n ts).cnt b d)) []))) := by
    intro a0 σ q7 q1 q2 q3 qo q24 q25 q26 hres
    simp only [cells_mk] at qo
    refine W_loop (fun m σ => ∃ (i : Nat) (a : Int), i + m = ts.length ∧ T.cntL k b d i a (ts.drop i) = T.cntL k b d 0 a0 ts ∧ σ.sl 7 = .c (.v (.int .i64 a)) ∧ σ.sl 1 = .c (.v (.int .i64 b)) ∧ σ.sl 2 = .c (.v (.int .i64 d)) ∧ σ.sl 3 = .c (.ref 100003 (σ.tg 100003) 0) ∧ σ.ob 100003 = some (.box 24 (T.mk k n ts).cells) ∧ σ.sl 24 = .c (.sl 3 40 (ts.map T.cells)) ∧ σ.sl 25 = .c (.v (.int .i64 ts.length)) ∧ σ.sl 26 = .c (.v (.int .i64 i))) ts.length ?_ ?_
    · exact ⟨0, a0, by simp [q7, q1, q2, q3, qo, q24, q25, q26, cells_mk]⟩
    · rintro m σ ⟨i, a, hm, hp, q7, q1, q2, q3, qo, q24, q25, q26⟩
      unfold c100b0
      simp only [cells_mk] at qo
      by_cases hi : i < ts.length
      · obtain ⟨t, ht⟩ := at_of hi
        obtain ⟨_, ht'⟩ := getE ht
        have w1 := wrap_succ (i := i) (by omega)
        rw [drop_at ht, T.cntL] at hp
        simp [q7, q1, q2, q3, qo, q24, q25, q26, hi, ht']
        refine W_dregA ?_
        simp [q7, q1, q2, q3, qo, q24, q25, q26, hi, ht']
        refine CallA.fn (fn31 k i) (by simp [ib]) (by simp) rfl ?_
        simp [ib]
        refine CallA.fn (ih t (List.mem_of_getElem? ht) (IntKind.wrap .i64 (d + bindsOf k i))) (by simp [tm, ib]) (by simp) rfl ?_
        simp [ib]
        refine realC_n ?_
        simp [q26]
        refine ⟨m - 1, by omega, i + 1, by omega, _, hp, ?_⟩
        simp [q1, q2, q3, qo, q24, q25, cells_mk, w1]
      · simp [q7, q1, q2, q3, qo, q24, q25, q26, hi, r100, ib, ← hres]
        rw [← hp, List.drop_eq_nil_of_le (by omega), T.cntL]
  unfold c100
  by_cases hc : k = 1
  · subst hc
    by_cases hn : n = IntKind.wrap .i64 (b + d)
    · subst hn
      simp [s0, s1, s2]
      have w1 : IntKind.wrap .i64 1 = 1 := wrap_id (by omega) (by omega)
      exact loop 1 _ (by simp [w1]) (by simp [s1]) (by simp [s2]) (by simp) (by simp [cells_mk]) (by simp) (by simp) (by simp) (by simp [T.cnt])
    · simp [s0, s1, s2, hn]
      exact loop 0 _ (by simp) (by simp [s1]) (by simp [s2]) (by simp) (by simp [cells_mk]) (by simp) (by simp) (by simp) (by simp [T.cnt, hn])
  · simp [s0, s1, s2, hc]
    exact loop 0 _ (by simp) (by simp [s1]) (by simp [s2]) (by simp) (by simp [cells_mk]) (by simp) (by simp) (by simp) (by simp [T.cnt, hc])

theorem fn52 (t : T) (b : Int) : Fn Try.prog 52 [tm t, ib b] (ib (if 0 ≤ b ∧ b ≤ 65535 then t.cnt b 0 else 0)) := by
  refine fn_of (base := 52000) ok52 rfl fun σ h0 hr => ?_
  have s0 := h0 0
  have s1 := h0 1
  rw [slots0] at s0
  rw [slots1] at s1
  simp only [tm, ib] at s0 s1
  clear h0 hr
  unfold c52
  simp [s0, s1]
  refine ECall.fn (fn97 b) (by simp [ib]) (by simp) rfl fun _ => ?_
  by_cases hb : 0 ≤ b ∧ b ≤ 65535
  · simp [bb, hb, s1]
    refine ECall.fn (fn100 t b 0) (by simp [ib, tm]) (by simp) rfl fun _ => ?_
    simp [ib, r52]
  · have : (decide (0 ≤ b) && decide (b ≤ 65535)) = false := by simpa using hb
    rw [if_neg hb]
    simp [bb, this, r52, ib]
end Go.Abs

namespace Go.Abs


def c76 : SCode :=
  .seq (.reg
       [⟨some 2, none, .alloc 24 [.v (.int .i64 0), .v (.int .i64 0), .cap 3 40 []]⟩])
  (.seq (.reg
       [⟨some 3, none, .mv (.t 0)⟩,
        ⟨some 4, none, .build 24 [.v (.int .i64 0), .v (.int .i64 0), .cap 3 40 []] [(0, 0, 1, .k (.int .i64 1)), (1, 1, 1, .t 3)]⟩,
        ⟨none, none, .stn 24 3 (.t 2) (.t 4)⟩])
  (.ret))
def r76 : List RR := [.cn 2 3]
theorem ok76 : okFn Go.Proofs.Try.prog 76 5 c76 r76 1 = true := by kernel_rfl

end Go.Abs

namespace Go.Abs
open Go.Proofs

theorem fn76 (n : Int) : Fn Try.prog 76 [ib n] (tm (.mk 1 n [])) := by
  refine fn_of (base := 76000) ok76 rfl fun σ h0 hr => ?_
  have s0 := h0 0
  rw [slots0] at s0
  simp only [ib] at s0
  clear h0 hr
  unfold c76
  simp [s0, r76, tm, cells_mk]

/-- The boxes that Shift's closure holds: from, by, e. -/
def shO (fr by_ e : Int) (tf tb te : Nat) : Objs := [(49005, tf, .box 3 [.v (.int .i64 fr)]), (49004, tb, .box 3 [.v (.int .i64 by_)]), (49008, te, .box 29 [.v (.int .i64 e)])]
theorem shO_get {fr b e : Int} {tf tb te k t : Nat} {q : Obj} (h : (shO fr b e tf tb te).lookup k = some (t, q)) : (k = 49005 ∧ t = tf ∧ q = .box 3 [.v (.int .i64 fr)]) ∨ (k = 49004 ∧ t = tb ∧ q = .box 3 [.v (.int .i64 b)]) ∨ (k = 49008 ∧ t = te ∧ q = .box 29 [.v (.int .i64 e)]) := by
  simp only [shO, List.lookup_cons, List.lookup_nil] at h
  split at h
  · rename_i hk; cases h; exact .inl ⟨by simpa using hk, rfl, rfl⟩
  · split at h
    · rename_i hk; cases h; exact .inr (.inl ⟨by simpa using hk, rfl, rfl⟩)
    · split at h
      · rename_i hk; cases h; exact .inr (.inr ⟨by simpa using hk, rfl, rfl⟩)
      · cases h

/-- One variable, shifted; whether it falls out of range. -/
def shV (fr b n d : Int) : T := if n < IntKind.wrap .i64 (fr + d) then .mk 1 n [] else .mk 1 (IntKind.wrap .i64 (n + b)) []
def shE (fr b n d e : Int) : Int := if n < IntKind.wrap .i64 (fr + d) then e else if 65535 < IntKind.wrap .i64 (n + b) then 6 else e

theorem sp99 (fr b e n d : Int) (tf tb te : Nat) : Spec Try.prog 99 [ib n, ib d, .c (.ref 49005 tf 0), .c (.ref 49004 tb 0), .c (.ref 49008 te 0)] (shO fr b e tf tb te) (tm (shV fr b n d)) (shO fr b (shE fr b n d e) tf tb te) := by
  refine spec_of (base := 99000) ok99 rfl fun T hT hr => ?_
  have t1 := hT 49005 tf _ rfl
  have t2 := hT 49004 tb _ rfl
  have t3 := hT 49008 te _ rfl
  clear hT hr
  generalize hσ : (⟨slotsOf [ib n, ib d, .c (.ref 49005 tf 0), .c (.ref 49004 tb 0), .c (.ref 49008 te 0)], obsOf (shO fr b e tf tb te), T⟩ : St) = σ
  have s0 : σ.sl 0 = .c (.v (.int .i64 n)) := by rw [← hσ]; rfl
  have s1 : σ.sl 1 = .c (.v (.int .i64 d)) := by rw [← hσ]; rfl
  have s2 : σ.sl 2 = .c (.ref 49005 tf 0) := by rw [← hσ]; rfl
  have s3 : σ.sl 3 = .c (.ref 49004 tb 0) := by rw [← hσ]; rfl
  have s4 : σ.sl 4 = .c (.ref 49008 te 0) := by rw [← hσ]; rfl
  have o1 : σ.ob 49005 = some (.box 3 [.v (.int .i64 fr)]) := by rw [← hσ]; rfl
  have o2 : σ.ob 49004 = some (.box 3 [.v (.int .i64 b)]) := by rw [← hσ]; rfl
  have o3 : σ.ob 49008 = some (.box 29 [.v (.int .i64 e)]) := by rw [← hσ]; rfl
  have g1 : σ.tg 49005 = tf := by rw [← hσ]; exact t1
  have g2 : σ.tg 49004 = tb := by rw [← hσ]; exact t2
  have g3 : σ.tg 49008 = te := by rw [← hσ]; exact t3
  clear hσ
  have fin : ∀ σ' : St, σ'.ob 49005 = some (.box 3 [.v (.int .i64 fr)]) → σ'.ob 49004 = some (.box 3 [.v (.int .i64 b)]) → σ'.ob 49008 = some (.box 29 [.v (.int .i64 (shE fr b n d e))]) → σ'.tg 49005 = tf → σ'.tg 49004 = tb → σ'.tg 49008 = te →
      (∀ r, r ∈ r99 → rrGok σ' r) → resOf σ' r99 = some (tm (shV fr b n d)) → EndOK (shO fr b e tf tb te) r99 (tm (shV fr b n d)) (shO fr b (shE fr b n d e) tf tb te) σ' := fun σ' a1 a2 a3 b1 b2 b3 hg hres => by
    refine ⟨hg, hres, fun k t q h => ?_⟩
    rcases shO_get h with ⟨rfl, rfl, rfl⟩ | ⟨rfl, rfl, rfl⟩ | ⟨rfl, rfl, rfl⟩
    · exact ⟨a1, b1, _, rfl⟩
    · exact ⟨a2, b2, _, rfl⟩
    · exact ⟨a3, b3, _, rfl⟩
  unfold c99
  by_cases h1 : n < IntKind.wrap .i64 (fr + d)
  · simp [s0, s1, s2, o1, g1, h1]
    refine ECall.fn (fn76 n) (by simp [ib]) (by simp) (by simp [tm]) fun _ => ?_
    simp [tm]
    refine fin _ (by simp [o1]) (by simp [o2]) (by simp [o3, shE, h1]) (by simp [g1]) (by simp [g2]) (by simp [g3]) (by simp [r99]) (by simp [r99, tm, shV, h1])
  · by_cases h2 : 65535 < IntKind.wrap .i64 (n + b)
    · simp [s0, s1, s2, s3, s4, o1, o2, o3, g1, g2, g3, h1, h2]
      refine ECall.fn (fn76 (IntKind.wrap .i64 (n + b))) (by simp [ib]) (by simp) (by simp [tm]) fun _ => ?_
      simp [tm]
      refine fin _ (by simp [o1]) (by simp [o2]) (by simp [o3, shE, h1, h2]) (by simp [g1]) (by simp [g2]) (by simp [g3]) (by simp [r99]) (by simp [r99, tm, shV, h1])
    · simp [s0, s1, s2, s3, s4, o1, o2, o3, g1, g2, g3, h1, h2]
      refine ECall.fn (fn76 (IntKind.wrap .i64 (n + b))) (by simp [ib]) (by simp) (by simp [tm]) fun _ => ?_
      simp [tm]
      refine fin _ (by simp [o1]) (by simp [o2]) (by simp [o3, shE, h1, h2]) (by simp [g1]) (by simp [g2]) (by simp [g3]) (by simp [r99]) (by simp [r99, tm, shV, h1])
end Go.Abs

namespace Go.Abs
open Go.Proofs

section
variable {S : Type} (V : S → Int → Int → T) (N : S → Int → Int → S)
mutual
def T.mapS : T → S → Int → T × S
  | .mk k n ts, s, d => if k = 1 then (V s n d, N s n d) else (.mk k n (T.mapSL k d 0 ts s).1, (T.mapSL k d 0 ts s).2)
def T.mapSL (k d : Int) : Int → List T → S → List T × S
  | _, [], s => ([], s)
  | i, t :: ts, s => ((T.mapS t s (IntKind.wrap .i64 (d + bindsOf k i))).1 :: (T.mapSL k d (i + 1) ts (T.mapS t s (IntKind.wrap .i64 (d + bindsOf k i))).2).1, (T.mapSL k d (i + 1) ts (T.mapS t s (IntKind.wrap .i64 (d + bindsOf k i))).2).2)
end
end

theorem Holds.puts {σ : St} {l : Objs} (h : ∀ k t q, l.lookup k = some (t, q) → σ.tg k = t) : Holds (σ.puts l) l := fun k t q hk => ⟨puts_some hk, h k t q hk⟩

theorem sp98 {S : Type} {V : S → Int → Int → T} {N : S → Int → Int → S} {f : Nat} {rs : List (Nat × Nat)} {O : S → Objs} (H : ∀ s n d, Spec Try.prog f ([ib n, ib d] ++ refs rs) (O s) (tm (V s n d)) (O (N s n d)))
    (hkin : ∀ s s', Kin (O s) (O s')) (hloc : ∀ s k, 98000 ≤ k → k < 99000 → (O s).lookup k = none) (t : T) : ∀ (s : S) (d : Int), Spec Try.prog 98 [tm t, ib d, .c (.clo f [] rs)] (O s) (tm (t.mapS V N s d).1) (O (t.mapS V N s d).2) := by
  induction t using T.ind with
  | h k n ts ih =>
  intro s d
  refine spec_of (base := 98000) ok98 rfl fun T0 hT hr => ?_
  have hlen := real_kids (hr (tm (.mk k n ts)) (by simp))
  rw [kids_mk] at hlen
  clear hr
  generalize hσ : (⟨slotsOf [tm (.mk k n ts), ib d, .c (.clo f [] rs)], obsOf (O s), T0⟩ : St) = σ
  have s0 : σ.sl 0 = tm (.mk k n ts) := by rw [← hσ]; rfl
  have s1 : σ.sl 1 = .c (.v (.int .i64 d)) := by rw [← hσ]; rfl
  have s2 : σ.sl 2 = .c (.clo f [] rs) := by rw [← hσ]; rfl
  have hold : Holds σ (O s) := fun k t q h => by
    rw [← hσ]
    exact ⟨by simp only [obsOf, h]; rfl, hT k t q h⟩
  clear hσ hT
  simp only [tm, cells_mk] at s0
  have stay : ∀ (s' : S) (σ' : St), (∀ k, ¬ (98000 ≤ k ∧ k < 99000) → σ'.tg k = σ.tg k) → ∀ k t q, (O s').lookup k = some (t, q) → σ'.tg k = t := fun s' σ' h k t q hk => by
    obtain ⟨q', hq⟩ := (hkin s s').back k t q hk
    rw [h k fun hc => by rw [hloc s' k hc.1 hc.2] at hk; cases hk]
    exact (hold k t q' hq).2
  have pn : ∀ (k : Nat), 98000 ≤ k → k < 99000 → ∀ (τ : St) (s' : S), (τ.puts (O s')).ob k = τ.ob k := fun k h1 h2 τ s' => puts_none (hloc s' k h1 h2)
  have fin : ∀ (s' : S) (r : T) (σ' : St), (T.mapS V N (.mk k n ts) s d) = (r, s') → (∀ k t q, (O s').lookup k = some (t, q) → σ'.ob k = some q) → (∀ k, ¬ (98000 ≤ k ∧ k < 99000) → σ'.tg k = σ.tg k) →
      (∀ r, r ∈ r98 → rrGok σ' r) → resOf σ' r98 = some (tm r) → EndOK (O s) r98 (tm (T.mapS V N (.mk k n ts) s d).1) (O (T.mapS V N (.mk k n ts) s d).2) σ' := fun s' r σ' he ho ht hg hres => by
    rw [he]
    refine ⟨hg, hres, fun k t q h => ⟨ho k t q h, stay s' σ' ht k t q h, ?_⟩⟩
    exact (hkin s s').back k t q h
  unfold c98
  by_cases hk : k = 1
  · subst hk
    simp [s0, s1, s2]
    refine ECall.obj (H s n d) (by simp [ib]) (by simp) (by simp [tm]) ?_ (hkin _ _) fun _ => ?_
    · intro k t q h
      obtain ⟨a, b⟩ := hold k t q h
      have : ¬ (98000 ≤ k ∧ k < 99000) := fun hc => by rw [hloc s k hc.1 hc.2] at h; cases h
      have n1 : k ≠ 98003 := by omega
      have n2 : k ≠ 98006 := by omega
      simp [a, b, n1, n2]
    · simp [tm, pn 98006 (by omega) (by omega), cells_len]
      refine fin _ _ _ rfl ?_ ?_ (by simp [r98]) (by simp [r98, T.mapS, tm])
      · intro k t q h
        have : ¬ (98000 ≤ k ∧ k < 99000) := fun hc => by rw [hloc _ k hc.1 hc.2] at h; cases h
        have n2 : k ≠ 98006 := by omega
        simp [puts_some h, n2]
      · intro k hk
        have n1 : k ≠ 98003 := by omega
        have n2 : k ≠ 98006 := by omega
        simp [n1, n2]
  · by_cases h0 : ts = []
    · subst h0
      simp [s0, s1, s2, hk]
      refine fin s (.mk k n []) _ (by simp [T.mapS, T.mapSL, hk]) ?_ ?_ (by simp [r98]) (by simp [r98, tm, cells_mk])
      · intro k' t q h
        have : ¬ (98000 ≤ k' ∧ k' < 99000) := fun hc => by rw [hloc _ k' hc.1 hc.2] at h; cases h
        have n1 : k' ≠ 98003 := by omega
        have n2 : k' ≠ 98006 := by omega
        simp [n1, n2, (hold k' t q h).1]
      · intro k' hk'
        have n1 : k' ≠ 98003 := by omega
        have n2 : k' ≠ 98006 := by omega
        simp [n1, n2]
    · have hl0 : ¬ (ts.length = 0) := fun h => h0 (List.length_eq_zero_iff.1 h)
      simp [s0, s1, s2, hk, h0, room]
      refine ⟨by omega, ?_⟩
      refine W_loop (fun m σ' => ∃ (i : Nat) (s' : S) (done : List T), i + m = ts.length ∧ done.length = i ∧ (done ++ (T.mapSL V N k d i (ts.drop i) s').1, (T.mapSL V N k d i (ts.drop i) s').2) = T.mapSL V N k d 0 ts s ∧
        (∀ k t q, (O s').lookup k = some (t, q) → σ'.ob k = some q) ∧ (∀ k, ¬ (98000 ≤ k ∧ k < 99000) → σ'.tg k = σ.tg k) ∧
        σ'.sl 1 = .c (.v (.int .i64 d)) ∧ σ'.sl 2 = .c (.clo f [] rs) ∧ σ'.sl 3 = .c (.ref 98003 (σ'.tg 98003) 0) ∧ σ'.ob 98003 = some (.box 24 (T.mk k n ts).cells) ∧
        σ'.sl 6 = .c (.ref 98006 (σ'.tg 98006) 0) ∧ σ'.ob 98006 = some (.box 24 [.v (.int .i64 0), .v (.int .i64 0), .cap 3 40 []]) ∧
        σ'.sl 7 = .c (.own 98027 (σ'.tg 98027)) ∧ σ'.ob 98027 = some (.mrow 24 3 40 (done.map T.cells ++ List.replicate (ts.length - i) [.v (.int .i64 0), .v (.int .i64 0), .sl 3 40 []])) ∧
        σ'.sl 29 = .c (.sl 3 40 (ts.map T.cells)) ∧ σ'.sl 30 = .c (.v (.int .i64 ts.length)) ∧ σ'.sl 31 = .c (.v (.int .i64 i))) ts.length ?_ ?_
      · refine ⟨0, s, [], by simp, rfl, by simp, ?_, ?_, ?_⟩
        · intro k' t q h
          have : ¬ (98000 ≤ k' ∧ k' < 99000) := fun hc => by rw [hloc _ k' hc.1 hc.2] at h; cases h
          have n1 : k' ≠ 98003 := by omega
          have n2 : k' ≠ 98006 := by omega
          have n3 : k' ≠ 98027 := by omega
          simp [n1, n2, n3, (hold k' t q h).1]
        · intro k' hk'
          have n1 : k' ≠ 98003 := by omega
          have n2 : k' ≠ 98006 := by omega
          have n3 : k' ≠ 98027 := by omega
          simp [n1, n2, n3]
        · simp [s1, s2, cells_mk]
      · rintro m σ' ⟨i, s', done, hm, hd, hp, ho, ht, q1, q2, q3, o3, q6, o6, q7, o7, q29, q30, q31⟩
        unfold c98b0
        simp only [cells_mk] at o3
        by_cases hi : i < ts.length
        · obtain ⟨t, ht0⟩ := at_of hi
          obtain ⟨_, ht'⟩ := getE ht0
          have w1 := wrap_succ (i := i) (by omega)
          rw [drop_at ht0, T.mapSL] at hp
          simp [q1, q2, q3, o3, q6, o6, q7, o7, q29, q30, q31, hi, ht']
          refine W_dregE 10 ((O (T.mapS V N t s' (IntKind.wrap .i64 (d + bindsOf k i))).2).map (·.1)) ?_
          generalize hkf : (O (T.mapS V N t s' (IntKind.wrap .i64 (d + bindsOf k i))).2).map (·.1) = kf
          have nk : ∀ k2, 98000 ≤ k2 → k2 < 99000 → (k2 ∈ kf) = False := fun k2 h1 h2 => by
            have := hloc (T.mapS V N t s' (IntKind.wrap .i64 (d + bindsOf k i))).2 k2 h1 h2
            simp only [eq_iff_iff, iff_false]
            rw [← hkf]
            intro hm
            obtain ⟨p, hp2, rfl⟩ := List.mem_map.1 hm
            have h3 := List.lookup_eq_none_iff.1 this p hp2
            simp at h3
          simp [q1, q2, q3, o3, q6, o6, q7, o7, q29, q30, q31, hi, ht', SOp.args, nk]
          refine FCall.fn (fn31 k i) (by simp [ib]) (by simp) rfl (by simp [nk]) (by simp) ?_
          simp [ib, q1, q2, q3, o3, q6, o6, q7, o7, q29, q30, q31, hi, ht', SOp.args, nk]
          refine ⟨.inr (.inl (by first | rfl | decide | (simp [FX.rel]; done) | (simp [FX.rel]; decide))), ?_⟩
          refine FCall.obj (rs := []) (args := [tm t, ib (IntKind.wrap .i64 (d + bindsOf k i)), .c (.clo f [] rs)]) rfl (by simpa [refs] using ih t (List.mem_of_getElem? ht0) s' (IntKind.wrap .i64 (d + bindsOf k i))) (by simp [tm, ib]) (by simp) (by simp [tm]) ?_ (hkin _ _) (by rw [← hkf]; exact fun k hk => hk) ?_
          · intro k' t' q h
            have hr : ¬ (98000 ≤ k' ∧ k' < 99000) := fun hc => by rw [hloc _ k' hc.1 hc.2] at h; cases h
            have n4 : k' ≠ 98009 := by omega
            have a1 := ho k' t' q h
            have a2 := stay s' σ' ht k' t' q h
            simp [n4, a1, a2]
          · have hz : (List.map T.cells done ++ List.replicate (ts.length - i) [Cell.v (Value.int .i64 0), Cell.v (Value.int .i64 0), Cell.sl 3 40 []])[i]? = some [Cell.v (Value.int .i64 0), Cell.v (Value.int .i64 0), Cell.sl 3 40 []] := by
              have h1 : i - (List.map T.cells done).length < ts.length - i := by rw [List.length_map, hd]; omega
              rw [List.getElem?_append_right (by rw [List.length_map, hd]; exact Nat.le_refl _), List.getElem?_replicate, if_pos h1]
            have hD : ∀ (u : T), (∀ x, x ∈ u.cells → x.isD = true) = True := fun u => eq_true fun x hx => cells_isD' u x hx
            have hlt : (i : Int) < (done.length : Int) + ((ts.length - i : Nat) : Int) := by omega
            simp [q1, q2, q3, o3, q6, o6, q7, o7, q29, q30, q31, hi, SOp.args, nk, pn 98027 (by omega) (by omega), pn 98003 (by omega) (by omega), tm, hz, hD, hlt]
            refine ⟨rfl, ?_⟩
            simp [realC_ap, q31]
            intro _
            refine ⟨m - 1, by omega, i + 1, by omega, (T.mapS V N t s' (IntKind.wrap .i64 (d + bindsOf k i))).2, done ++ [(T.mapS V N t s' (IntKind.wrap .i64 (d + bindsOf k i))).1], ?_⟩
            have hset : ∀ c : List Cell, (List.map T.cells done ++ List.replicate (ts.length - i) [Cell.v (Value.int .i64 0), Cell.v (Value.int .i64 0), Cell.sl 3 40 []]).set i c = List.map T.cells done ++ c :: List.replicate (ts.length - (i + 1)) [Cell.v (Value.int .i64 0), Cell.v (Value.int .i64 0), Cell.sl 3 40 []] := fun c => by
              have e1 : ts.length - i = (ts.length - (i + 1)) + 1 := by omega
              rw [e1, List.replicate_succ, List.set_append, if_neg (by rw [List.length_map, hd]; exact Nat.lt_irrefl _)]
              simp [hd]
            refine ⟨by simp [hd], by simpa using hp, ?_, ?_, ?_⟩
            · intro k' t' q h
              have hr : ¬ (98000 ≤ k' ∧ k' < 99000) := fun hc => by rw [hloc _ k' hc.1 hc.2] at h; cases h
              have n1 : k' ≠ 98027 := by omega
              simp [n1, puts_some h]
            · intro k' hk'
              have n4 : k' ≠ 98009 := by omega
              simp [n4, ht k' (by omega)]
            · simp [q1, q2, q3, o3, q6, o6, q7, o7, q29, q30, pn 98027 (by omega) (by omega), pn 98003 (by omega) (by omega), pn 98006 (by omega) (by omega), cells_mk, w1, hset]
        · simp [q1, q2, q3, o3, q6, o6, q7, o7, q29, q30, q31, hi]
          have hil : i = ts.length := by omega
          rw [List.drop_eq_nil_of_le (by omega), T.mapSL] at hp
          simp only [List.append_nil] at hp
          refine fin s' (.mk k n done) _ (by simp [T.mapS, hk, ← hp]) ?_ ?_ (by simp [r98, q6]) (by simp [r98, tm, cells_mk, hil, q6, o6])
          · intro k' t q h
            have : ¬ (98000 ≤ k' ∧ k' < 99000) := fun hc => by rw [hloc _ k' hc.1 hc.2] at h; cases h
            have n1 : k' ≠ 98003 := by omega
            have n2 : k' ≠ 98006 := by omega
            have n3 : k' ≠ 98027 := by omega
            simp [n1, n2, n3, ho k' t q h]
          · intro k' hk'
            simp [ht k' hk']
end Go.Abs

namespace Go.Abs
open Go.Proofs

theorem shO_kin (fr b e fr' b' e' : Int) (tf tb te : Nat) : Kin (shO fr b e tf tb te) (shO fr' b' e' tf tb te) where
  there k t q h := by
    rcases shO_get h with ⟨rfl, rfl, rfl⟩ | ⟨rfl, rfl, rfl⟩ | ⟨rfl, rfl, rfl⟩ <;> exact ⟨_, rfl⟩
  back k t q h := by
    rcases shO_get h with ⟨rfl, rfl, rfl⟩ | ⟨rfl, rfl, rfl⟩ | ⟨rfl, rfl, rfl⟩ <;> exact ⟨_, rfl⟩
  data k t q h := by
    rcases shO_get h with ⟨rfl, rfl, rfl⟩ | ⟨rfl, rfl, rfl⟩ | ⟨rfl, rfl, rfl⟩ <;> rfl

theorem spMap (fr b : Int) (tf tb te : Nat) (t : T) (e d : Int) : Spec Try.prog 98 [tm t, ib d, .c (.clo 99 [] [(49005, tf), (49004, tb), (49008, te)])] (shO fr b e tf tb te) (tm (t.mapS (S := Int) (fun _ n d => shV fr b n d) (fun e n d => shE fr b n d e) e d).1)
    (shO fr b (t.mapS (S := Int) (fun _ n d => shV fr b n d) (fun e n d => shE fr b n d e) e d).2 tf tb te) :=
  sp98 (O := fun e => shO fr b e tf tb te) (fun e n d => sp99 fr b e n d tf tb te) (fun e e' => shO_kin fr b e fr b e' tf tb te) (fun e k h1 h2 => by
    cases h : (shO fr b e tf tb te).lookup k with
    | none => rfl
    | some x =>
      obtain ⟨t, q⟩ := x
      rcases shO_get h with ⟨rfl, _⟩ | ⟨rfl, _⟩ | ⟨rfl, _⟩ <;> omega) t e d
end Go.Abs

namespace Go.Abs
open Go.Proofs

def heavyL : Int → List T → Bool
  | n, [] => decide (9000 < n)
  | n, t :: ts => if 300 < t.depth then true else heavyL (IntKind.wrap .i64 (n + t.size)) ts
def heavy (ts : List T) : Bool := if 60 < ts.length then true else heavyL 0 ts

theorem fn17 (ts : List T) : Fn Try.prog 17 [tms ts] (bb (heavy ts)) := by
  refine fn_of (base := 17000) ok17 rfl fun σ h0 hr => ?_
  have s0 := h0 0
  rw [slots0] at s0
  have hlen := real_tms (hr (tms ts) (by simp))
  simp only [tms] at s0
  clear h0 hr
  unfold c17
  by_cases h60 : 60 < ts.length
  · have h60' : (60 : Int) < ts.length := by omega
    simp [s0, h60', r17, bb, heavy, h60]
  · have h60' : ¬ (60 : Int) < ts.length := by omega
    simp [s0, h60']
    refine W_loop (fun m σ => ∃ (i : Nat) (a : Int), i + m = ts.length ∧ heavyL a (ts.drop i) = heavyL 0 ts ∧ σ.sl 3 = ib a ∧ σ.sl 0 = tms ts ∧ σ.sl 4 = ib i) ts.length ?_ ?_
    · exact ⟨0, 0, by simp [ib, tms, s0]⟩
    · rintro m σ ⟨i, a, hm, hp, q3, q0, q4⟩
      unfold c17b0
      simp only [tms, ib] at q3 q0 q4
      by_cases hi : i < ts.length
      · obtain ⟨t, ht⟩ := at_of hi
        obtain ⟨_, ht'⟩ := getE ht
        have w1 := wrap_succ (i := i) (by omega)
        rw [drop_at ht, heavyL] at hp
        simp [q3, q0, q4, hi, ht']
        refine ECall.fn (fn29 t) (by simp [tm]) (by simp) rfl fun _ => ?_
        simp [ib, q3, q4]
        constructor
        · intro hd
          rw [if_pos hd] at hp
          simp [r17, bb, heavy, h60, ← hp]
        · intro hd
          have hd' : ¬ 300 < t.depth := by omega
          rw [if_neg hd'] at hp
          simp [q3, q0, q4, hi, ht']
          refine ECall.fn (fn28 t) (by simp [tm]) (by simp) rfl fun _ => ?_
          simp [ib, q3, q4]
          refine ⟨m - 1, by omega, i + 1, by omega, _, hp, ?_⟩
          simp [q0, tms, w1]
      · simp [q3, q0, q4, hi, r17, bb, heavy, h60]
        rw [← hp, List.drop_eq_nil_of_le (by omega), heavyL]

theorem fn64 {ts : List T} (h19 : ∀ t, t ∈ ts → Fn Try.prog 19 [tm t] (tm t)) : Fn Try.prog 64 [tms ts] (tms ts) := by
  refine fn_of (base := 64000) ok64 rfl fun σ h0 hr => ?_
  have s0 := h0 0
  rw [slots0] at s0
  have hlen := real_tms (hr (tms ts) (by simp))
  simp only [tms] at s0
  clear h0 hr
  unfold c64
  simp [s0]
  refine W_loop (fun m σ => ∃ (i : Nat), i + m = ts.length ∧ ((i = 0 ∧ σ.sl 3 = .c (.cap 3 40 [])) ∨ (0 < i ∧ σ.sl 3 = .c (.own 64018 (σ.tg 64018)) ∧ σ.ob 64018 = some (.row 24 3 40 ((ts.take i).map T.cells)))) ∧ σ.sl 0 = tms ts ∧ σ.sl 4 = ib i) ts.length ?_ ?_
  · exact ⟨0, by simp [ib, tms, s0]⟩
  · rintro m σ ⟨i, hm, hp, q0, q4⟩
    unfold c64b0
    simp only [tms, ib] at q0 q4
    by_cases hi : i < ts.length
    · obtain ⟨t, ht⟩ := at_of hi
      obtain ⟨_, ht'⟩ := getE ht
      have w1 := wrap_succ (i := i) (by omega)
      have htake : (ts.map T.cells).take i ++ [t.cells] = (ts.map T.cells).take (i + 1) := by
        rw [List.take_add_one, List.getElem?_map, ht]; simp
      have hroom : (i + 1) * 40 ≤ room := by simp only [room]; omega
      have hmin : min i ts.length = i := by omega
      rcases hp with ⟨h1, q3⟩ | ⟨h1, q3, qo⟩
      · subst h1
        simp [q3, q0, q4, hi, ht']
        refine ECall.fn (h19 t (List.mem_of_getElem? ht)) (by simp [tm]) (by simp [tm]) (by simp [tm, AV.keys2, AV.keys1]) fun _ => ?_
        simp [tm, q3, q4, room, AV.keys1, keysCs]
        refine ⟨fun x hx => cells_isD' t x hx, m - 1, by omega, 1, by omega, ⟨by omega, by simpa using htake⟩, ?_⟩
        simp at w1
        simp [q0, w1, ib, tms]
      · simp [q3, q0, q4, hi, ht']
        refine ECall.fn (h19 t (List.mem_of_getElem? ht)) (by simp [tm]) (by simp [tm]) (by simp [tm, AV.keys2, AV.keys1]) fun _ => ?_
        simp [tm, q3, q4, qo, hmin, hroom]
        refine ⟨⟨fun x hx => cells_isD' t x hx, by simp [room]⟩, m - 1, by omega, i + 1, by omega, ⟨by omega, htake⟩, ?_⟩
        simp [q0, w1, ib, tms]
    · simp [q0, q4, hi, r64]
      rcases hp with ⟨h1, q3⟩ | ⟨h1, q3, qo⟩
      · have : ts = [] := List.length_eq_zero_iff.1 (by omega)
        simp [q3, this, tms]
      · have : ts.take i = ts := List.take_of_length_le (by omega)
        simp [q3, qo, tms, this]
theorem fn19 (t : T) : Fn Try.prog 19 [tm t] (tm t) := by
  induction t using T.ind with
  | h k n ts ih =>
  have h64 := fn64 ih
  refine fn_of (base := 19000) ok19 rfl fun σ h0 hr => ?_
  have s0 := h0 0
  rw [slots0] at s0
  simp only [tm, cells_mk] at s0
  clear h0 hr
  unfold c19
  simp [s0]
  refine W_dregA ?_
  simp
  refine CallA.fn h64 (by simp [tms]) (by simp) rfl ?_
  simp [tms]
  refine ⟨rfl, realC_n ?_⟩
  simp [r19, tm, cells_mk]
end Go.Abs

namespace Go.Abs


def c23 : SCode :=
  .seq (.reg
       [⟨some 0, none, .mv (.k (.bool false))⟩])
  (.seq (.reg
       [⟨some 2, none, .call (.f 24) [.k (.int .i64 0)]⟩,
        ⟨some 3, none, .call (.f 66) [.k (.int .i64 0)]⟩,
        ⟨some 4, none, .lit 24 3 40 [.t 2, .t 3]⟩,
        ⟨some 5, none, .call (.f 25) [.k (.int .i64 5), .t 4]⟩,
        ⟨some 1, none, .alloc 24 [.v (.int .i64 0), .v (.int .i64 0), .cap 3 40 []]⟩,
        ⟨none, none, .stn 24 3 (.t 1) (.t 5)⟩])
  (.seq (.reg
       [⟨some 6, none, .ldn 24 3 (.t 1)⟩,
        ⟨some 7, none, .call (.f 22) [.t 6]⟩,
        ⟨some 8, none, .bin .eql (.t 7) (.k (.int .i64 0))⟩,
        ⟨some 9, none, .mv (.t 8)⟩,
        ⟨some 10, some (9, true), .ldn 24 3 (.t 1)⟩,
        ⟨some 11, some (9, true), .call (.f 20) [.t 10]⟩,
        ⟨some 12, some (9, true), .bin .eql (.t 11) (.k (.int .i64 3))⟩,
        ⟨some 13, none, .pick (.t 9) (.t 12) (.k (.bool false))⟩,
        ⟨some 14, none, .mv (.t 13)⟩,
        ⟨some 15, some (14, true), .ldn 24 3 (.t 1)⟩,
        ⟨some 16, some (14, true), .call (.f 21) [.t 15]⟩,
        ⟨some 17, some (14, true), .bin .eql (.t 16) (.k (.int .i64 2))⟩,
        ⟨some 18, none, .pick (.t 14) (.t 17) (.k (.bool false))⟩,
        ⟨some 19, none, .mv (.t 18)⟩,
        ⟨some 20, some (19, true), .ldn 24 3 (.t 1)⟩,
        ⟨some 21, some (19, true), .call (.f 30) [.t 20, .k (.int .i64 0), .k (.int .i64 0)]⟩,
        ⟨some 22, none, .pick (.t 19) (.t 21) (.k (.bool false))⟩,
        ⟨some 23, none, .mv (.t 22)⟩,
        ⟨some 24, some (23, true), .call (.f 66) [.k (.int .i64 0)]⟩,
        ⟨some 25, some (23, true), .call (.f 30) [.t 24, .k (.int .i64 0), .k (.int .i64 0)]⟩,
        ⟨some 26, some (23, true), .not (.t 25)⟩,
        ⟨some 27, none, .pick (.t 23) (.t 26) (.k (.bool false))⟩,
        ⟨some 28, none, .mv (.t 27)⟩,
        ⟨some 29, some (28, true), .ldn 24 3 (.t 1)⟩,
        ⟨some 30, some (28, true), .ldn 24 3 (.t 1)⟩,
        ⟨some 31, some (28, true), .call (.f 18) [.t 29, .t 30]⟩,
        ⟨some 32, none, .pick (.t 28) (.t 31) (.k (.bool false))⟩,
        ⟨some 0, none, .mv (.t 32)⟩])
  (.ret)))
def r23 : List RR := [.t 0]
theorem ok23 : okFn Go.Proofs.Try.prog 23 33 c23 r23 0 = true := by kernel_rfl


def c3 : SCode :=
  .seq (.reg
       [⟨some 2, none, .box 24 (.t 0)⟩,
        ⟨some 3, none, .box 24 (.t 1)⟩,
        ⟨some 4, none, .mv (.k (.bool false))⟩])
  (.seq (.seq (.reg
         [⟨some 6, none, .ldn 24 3 (.t 2)⟩,
          ⟨some 7, none, .ldn 24 3 (.t 3)⟩,
          ⟨some 8, none, .lit 24 3 40 [.t 6, .t 7]⟩,
          ⟨some 9, none, .call (.f 17) [.t 8]⟩])
    (.cond (.t 9)
      (.seq (.reg
           [⟨some 4, none, .mv (.k (.bool true))⟩])
      (.ret))
      (.skip)))
  (.seq (.seq (.dreg [0, 0, 2, 7, 15, 31, 63, 63, 255, 63, 63, 2047, 4095, 8191]
         [⟨some 10, none, .ldn 24 3 (.t 2)⟩,
          ⟨some 11, none, .ldn 24 3 (.t 2)⟩,
          ⟨some 12, none, .call (.f 19) [.t 11]⟩,
          ⟨some 13, none, .call (.f 18) [.t 10, .t 12]⟩,
          ⟨some 14, none, .not (.t 13)⟩,
          ⟨some 15, none, .mv (.t 14)⟩,
          ⟨some 16, some (15, false), .ldn 24 3 (.t 2)⟩,
          ⟨some 17, some (15, false), .ldn 24 3 (.t 3)⟩,
          ⟨some 18, some (15, false), .call (.f 18) [.t 16, .t 17]⟩,
          ⟨some 19, some (15, false), .ldn 24 3 (.t 3)⟩,
          ⟨some 20, some (15, false), .ldn 24 3 (.t 2)⟩,
          ⟨some 21, some (15, false), .call (.f 18) [.t 19, .t 20]⟩,
          ⟨some 22, some (15, false), .beq true 4 (.t 18) (.t 21)⟩,
          ⟨some 23, none, .pick (.t 15) (.k (.bool true)) (.t 22)⟩])
    (.cond (.t 23)
      (.seq (.reg
           [⟨some 4, none, .mv (.k (.bool false))⟩])
      (.ret))
      (.skip)))
  (.seq (.seq (.dreg [0, 0, 3, 7, 15, 31, 15, 127, 255, 511, 1023, 2047, 1023, 8191, 16383, 32767, 65535, 131071, 262143, 131071, 1048575, 2097151, 4194303, 8388607]
         [⟨some 24, none, .ldn 24 3 (.t 2)⟩,
          ⟨some 25, none, .ldn 24 3 (.t 3)⟩,
          ⟨some 26, none, .call (.f 18) [.t 24, .t 25]⟩,
          ⟨some 27, none, .mv (.t 26)⟩,
          ⟨some 28, some (27, true), .ldn 24 3 (.t 2)⟩,
          ⟨some 29, some (27, true), .call (.f 20) [.t 28]⟩,
          ⟨some 30, some (27, true), .ldn 24 3 (.t 3)⟩,
          ⟨some 31, some (27, true), .call (.f 20) [.t 30]⟩,
          ⟨some 32, some (27, true), .bin .neq (.t 29) (.t 31)⟩,
          ⟨some 33, some (27, true), .mv (.t 32)⟩,
          ⟨some 34, some (33, false), .ldn 24 3 (.t 2)⟩,
          ⟨some 35, some (33, false), .call (.f 21) [.t 34]⟩,
          ⟨some 36, some (33, false), .ldn 24 3 (.t 3)⟩,
          ⟨some 37, some (33, false), .call (.f 21) [.t 36]⟩,
          ⟨some 38, some (33, false), .bin .neq (.t 35) (.t 37)⟩,
          ⟨some 39, some (27, true), .pick (.t 33) (.k (.bool true)) (.t 38)⟩,
          ⟨some 40, some (27, true), .mv (.t 39)⟩,
          ⟨some 41, some (40, false), .ldn 24 3 (.t 2)⟩,
          ⟨some 42, some (40, false), .call (.f 22) [.t 41]⟩,
          ⟨some 43, some (40, false), .ldn 24 3 (.t 3)⟩,
          ⟨some 44, some (40, false), .call (.f 22) [.t 43]⟩,
          ⟨some 45, some (40, false), .bin .neq (.t 42) (.t 44)⟩,
          ⟨some 46, some (27, true), .pick (.t 40) (.k (.bool true)) (.t 45)⟩,
          ⟨some 47, none, .pick (.t 27) (.t 46) (.k (.bool false))⟩])
    (.cond (.t 47)
      (.seq (.reg
           [⟨some 4, none, .mv (.k (.bool false))⟩])
      (.ret))
      (.skip)))
  (.seq (.reg
       [⟨some 48, none, .ldn 24 3 (.t 2)⟩,
        ⟨some 49, none, .call (.f 19) [.t 48]⟩,
        ⟨some 5, none, .alloc 24 [.v (.int .i64 0), .v (.int .i64 0), .cap 3 40 []]⟩,
        ⟨none, none, .stn 24 3 (.t 5) (.t 49)⟩])
  (.seq (.reg
       [⟨some 50, none, .fad 24 1 1 (.t 5)⟩,
        ⟨some 51, none, .ld1 3 (.t 50)⟩,
        ⟨some 52, none, .bin .add (.t 51) (.k (.int .i64 1))⟩,
        ⟨some 53, none, .fad 24 1 1 (.t 5)⟩,
        ⟨none, none, .st1 3 (.t 53) (.t 52)⟩])
  (.seq (.reg
       [⟨some 54, none, .ldn 24 3 (.t 2)⟩,
        ⟨some 55, none, .ldn 24 3 (.t 5)⟩,
        ⟨some 56, none, .call (.f 18) [.t 54, .t 55]⟩,
        ⟨some 57, none, .not (.t 56)⟩,
        ⟨some 58, none, .mv (.t 57)⟩,
        ⟨some 59, some (58, true), .call (.f 23) []⟩,
        ⟨some 60, none, .pick (.t 58) (.t 59) (.k (.bool false))⟩,
        ⟨some 4, none, .mv (.t 60)⟩])
  (.ret)))))))
def r3 : List RR := [.t 4]
theorem ok3 : okFn Go.Proofs.Try.prog 3 61 c3 r3 2 = true := by kernel_rfl

end Go.Abs

namespace Go.Abs
open Go.Proofs

theorem eqb_eq (t u : T) : T.eqb t u = true ↔ t = u := by
  induction t using T.ind generalizing u with
  | h k n ts ih =>
  obtain ⟨k', n', us⟩ := u
  have key : ∀ (ts us : List T), (∀ t, t ∈ ts → ∀ u, T.eqb t u = true ↔ t = u) → (T.eqbL ts us = true ↔ ts = us) := by
    intro ts
    induction ts with
    | nil => intro us _; cases us <;> simp [T.eqbL]
    | cons t ts ih2 =>
      intro us h
      cases us with
      | nil => simp [T.eqbL]
      | cons u us =>
        simp only [T.eqbL, Bool.and_eq_true, List.cons.injEq]
        rw [h t (by simp) u, ih2 us fun t ht => h t (by simp [ht])]
  simp only [T.eqb, Bool.and_eq_true, decide_eq_true_eq, T.mk.injEq]
  rw [key ts us ih]
  exact ⟨fun h => ⟨h.1.1, h.1.2, h.2⟩, fun h => ⟨⟨h.1, h.2.1⟩, h.2.2⟩⟩
theorem eqb_self (t : T) : T.eqb t t = true := (eqb_eq t t).2 rfl

def wk : T := .mk 5 0 [.mk 2 0 [], .mk 1 0 []]

theorem wk_size : wk.size = 3 := by simp [wk, T.size, T.sizeL, IntKind.wrap, IntKind.bits, IntKind.signed]
theorem wk_depth : wk.depth = 2 := by simp [wk, T.depth, T.depthL, best2, IntKind.wrap, IntKind.bits, IntKind.signed]
theorem wk_check : wk.check = 0 := by
  have h : wk.formed = true := by simp [wk, T.formed, T.formedL, badHead, kidsOf]
  simp [T.check, wk_size, wk_depth, h]
theorem v_check : (T.mk 1 0 []).check = 0 := by
  simp [T.check, T.size, T.sizeL, T.depth, T.depthL, best2, T.formed, T.formedL, badHead, kidsOf, IntKind.wrap, IntKind.bits, IntKind.signed]
theorem wk_scope : wk.scope 0 0 = true := by
  simp [T.scope, wk_check]
  simp [wk, T.within, T.withinL, best2, bindsOf, IntKind.wrap, IntKind.bits, IntKind.signed]
theorem v_scope : (T.mk 1 0 []).scope 0 0 = false := by
  simp [T.scope, v_check, T.within, best2]

theorem fn23 : Fn Try.prog 23 [] (bb true) := by
  refine fn_of (base := 23000) ok23 rfl fun σ h0 hr => ?_
  clear h0 hr
  have c22 := fn22 wk
  rw [wk_check] at c22
  have c20 := fn20 wk
  rw [wk_size] at c20
  have c21 := fn21 wk
  rw [wk_depth] at c21
  have c30 := fn30 wk 0 0
  rw [wk_scope] at c30
  have c30v := fn30 (.mk 1 0 []) 0 0
  rw [v_scope] at c30v
  have c18 := fn18 wk wk
  rw [eqb_self] at c18
  unfold c23
  simp
  refine ECall.fn (fn24 0) (by simp [ib]) (by simp) (by simp [tm, AV.keys2, AV.keys1]) fun _ => ?_
  simp
  refine ECall.fn (fn66 0) (by simp [ib]) (by simp) (by simp [tm, AV.keys2, AV.keys1]) fun _ => ?_
  simp [tm, room]
  refine ⟨⟨fun x hx => cells_isD' _ x hx, fun x hx => cells_isD' _ x hx⟩, ?_⟩
  refine ECall.fn (fn25 5 [.mk 2 0 [], .mk 1 0 []]) (by simp [ib, tms]) (by simp) (by simp [tm, AV.keys2, AV.keys1]) fun _ => ?_
  simp [tm]
  refine ECall.fn c22 (by simp [tm, wk]) (by simp) rfl fun _ => ?_
  simp [ib]
  refine GCall.fn (fun _ => c20) (by simp [tm, wk]) (by simp) rfl fun _ => ?_
  simp [ib]
  refine GCall.fn (fun _ => c21) (by simp [tm, wk]) (by simp) rfl fun _ => ?_
  simp [ib]
  refine GCall.fn (fun _ => c30) (by simp [tm, wk, ib]) (by simp) rfl fun _ => ?_
  simp [bb]
  refine GCall.fn (fun _ => fn66 0) (by simp [ib]) (by simp) (by simp [tm, AV.keys2, AV.keys1]) fun _ => ?_
  simp [tm]
  refine GCall.fn (fun _ => c30v) (by simp [tm, ib]) (by simp) rfl fun _ => ?_
  simp [bb]
  refine GCall.fn (fun _ => c18) (by simp [tm, wk]) (by simp) rfl fun _ => ?_
  simp [bb, r23]

theorem wrap_ne (n : Int) : IntKind.wrap .i64 (n + 1) ≠ n := by
  simp only [IntKind.wrap, IntKind.bits, IntKind.signed, Bool.true_and]
  intro h
  have h1 := Int.emod_nonneg (n + 1) (b := 2 ^ 64) (by omega)
  have h2 := Int.emod_lt_of_pos (n + 1) (b := 2 ^ 64) (by omega)
  have h3 := Int.mul_ediv_add_emod (n + 1) (2 ^ 64)
  split at h <;> omega

theorem fn3 (t u : T) : Fn Try.prog 3 [tm t, tm u] (bb true) := by
  refine fn_of (base := 3000) ok3 rfl fun σ h0 hr => ?_
  have s0 := h0 0
  have s1 := h0 1
  rw [slots0] at s0
  rw [slots1] at s1
  simp only [tm] at s0 s1
  clear h0 hr
  have c1 := fn18 t t
  rw [eqb_self] at c1
  unfold c3
  simp [s0, s1, room]
  refine ⟨⟨fun x hx => cells_isD' _ x hx, fun x hx => cells_isD' _ x hx⟩, ?_⟩
  refine ECall.fn (fn17 [t, u]) (by simp [tms]) (by simp) rfl fun _ => ?_
  simp [bb]
  refine ⟨fun hh => by simp [r3, hh], fun hh => ?_⟩
  simp [hh]
  refine W_dregA ?_
  simp
  refine CallA.fn (fn19 t) (by simp [tm]) (by simp) (by simp [tm, AV.keys2, AV.keys1]) ?_
  simp [tm]
  refine CallA.fn c1 (by simp [tm]) (by simp) rfl ?_
  simp [bb]
  refine GCallA.fn (fun _ => fn18 t u) (by simp [tm]) (by simp) rfl ?_
  simp [bb]
  refine GCallA.fn (fun _ => fn18 u t) (by simp [tm]) (by simp) rfl ?_
  simp [bb]
  refine realC_n ?_
  have hsym : T.eqb u t = T.eqb t u := by
    cases h1 : T.eqb t u with
    | true => rw [(eqb_eq t u).1 h1]; exact eqb_self u
    | false =>
      cases h2 : T.eqb u t with
      | false => rfl
      | true => rw [(eqb_eq u t).1 h2, eqb_self] at h1; cases h1
  have c4 := fn18 t u
  simp [hsym]
  refine W_dregA ?_
  simp
  refine CallA.fn c4 (by simp [tm]) (by simp) rfl ?_
  simp [bb]
  refine GCallA.fn (fun _ => fn20 t) (by simp [tm]) (by simp) rfl ?_
  simp [ib]
  refine GCallA.fn (fun _ => fn20 u) (by simp [tm]) (by simp) rfl ?_
  simp [ib]
  refine GCallA.fn (fun _ => fn21 t) (by simp [tm]) (by simp) rfl ?_
  simp [ib]
  refine GCallA.fn (fun _ => fn21 u) (by simp [tm]) (by simp) rfl ?_
  simp [ib]
  refine GCallA.fn (fun _ => fn22 t) (by simp [tm]) (by simp) rfl ?_
  simp [ib]
  refine GCallA.fn (fun _ => fn22 u) (by simp [tm]) (by simp) rfl ?_
  simp [ib]
  refine realC_n ?_
  have hall : (T.eqb t u && (!decide (t.size = u.size) || !decide (t.depth = u.depth) || !decide (t.check = u.check))) = false := by
    cases h1 : T.eqb t u with
    | true => rw [(eqb_eq t u).1 h1]; simp
    | false => rfl
  simp [hall]
  refine ECall.fn (fn19 t) (by simp [tm]) (by simp) (by simp [tm, AV.keys2, AV.keys1]) fun _ => ?_
  have hne : T.eqb t (.mk t.kind (IntKind.wrap .i64 (t.val + 1)) t.kids) = false := by
    cases h : T.eqb t (.mk t.kind (IntKind.wrap .i64 (t.val + 1)) t.kids) with
    | false => rfl
    | true =>
      have := congrArg T.val ((eqb_eq _ _).1 h)
      exact absurd this.symm (wrap_ne _)
  have c5 := fn18 t (.mk t.kind (IntKind.wrap .i64 (t.val + 1)) t.kids)
  rw [hne] at c5
  simp only [tm]
  rw [cells_eq t]
  simp
  refine ECall.fn c5 (by simp [tm, cells_eq]) (by simp) rfl fun _ => ?_
  simp [bb]
  refine GCall.fn (fun _ => fn23) (by simp) (by simp) rfl fun _ => ?_
  simp [bb, r3]
end Go.Abs

namespace Go.Abs
open Go.Proofs

def T.zero : T := .mk 0 0 []
def T.shiftM (t : T) (b fr : Int) : T × Int := t.mapS (S := Int) (fun _ n d => shV fr b n d) (fun e n d => shE fr b n d e) 0 0
def mayB (x : Int) : Bool := decide (0 ≤ x) && decide (x ≤ 65535)
def T.shift (t : T) (b fr : Int) : T × Int :=
  if t.check ≠ 0 then (.zero, t.check) else if !(mayB b && mayB fr) then (.zero, 1) else if (t.shiftM b fr).2 ≠ 0 then (.zero, (t.shiftM b fr).2) else ((t.shiftM b fr).1, 0)

theorem fn49 (t : T) (b fr : Int) : Fn Try.prog 49 [tm t, ib b, ib fr] (.tup [tm (t.shift b fr).1, ib (t.shift b fr).2]) := by
  refine fn_of (base := 49000) ok49 rfl fun σ h0 hr => ?_
  have s0 := h0 0
  have s1 := h0 1
  have s2 := h0 2
  rw [slots0] at s0
  rw [slots1] at s1
  rw [slots2] at s2
  simp only [tm, ib] at s0 s1 s2
  clear h0 hr
  unfold c49
  simp [s0, s1, s2]
  refine ECall.fn (fn22 t) (by simp [tm]) (by simp) (by simp [ib]) fun _ => ?_
  simp [ib]
  refine ⟨fun hc => ?_, fun hc => ?_⟩
  · refine W_dregE 2 [49006] ?_
    simp [SOp.args, s0, s1, s2]
    refine realC_n ?_
    simp [r49, T.shift, hc, tm, cells_mk, T.zero]
  · simp [hc, s0, s1, s2]
    refine ECall.fn (fn97 b) (by simp [ib]) (by simp) (by simp [bb]) fun _ => ?_
    simp [bb, s0, s1, s2]
    refine GCall.fn (fun _ => fn97 fr) (by simp [ib]) (by simp) (by simp [bb]) fun _ => ?_
    simp [bb, r49]
    refine ⟨fun hm => ?_, fun m1 m2 m3 m4 => ?_⟩
    · have hm' : (mayB b && mayB fr) = false := by
        simp only [mayB, Bool.and_eq_false_iff, decide_eq_false_iff_not]; omega
      simp [T.shift, hc, hm', tm, cells_mk, T.zero]
    · have hm' : (mayB b && mayB fr) = true := by
        simp only [mayB, Bool.and_eq_true, decide_eq_true_eq]; omega
      refine ECall.obj (rs := []) (args := [tm t, ib 0, .c (.clo 99 [] [(49005, σ.tg 49005 + 1), (49004, σ.tg 49004 + 1), (49008, σ.tg 49008 + 1)])])
        (by simpa [refs] using spMap fr b (σ.tg 49005 + 1) (σ.tg 49004 + 1) (σ.tg 49008 + 1) t 0 0) (by simp [tm, ib]) (by simp) (by simp [tm]) ?_ (shO_kin _ _ _ _ _ _ _ _ _) fun _ => ?_
      · intro k t' q h
        rcases shO_get h with ⟨rfl, rfl, rfl⟩ | ⟨rfl, rfl, rfl⟩ | ⟨rfl, rfl, rfl⟩ <;> simp [hc]
      · have e8 : ∀ τ : St, (τ.puts (shO fr b (t.shiftM b fr).2 (σ.tg 49005 + 1) (σ.tg 49004 + 1) (σ.tg 49008 + 1))).ob 49008 = some (.box 29 [.v (.int .i64 (t.shiftM b fr).2)]) := fun τ => puts_some rfl
        have n6 : ∀ (τ : St), (τ.puts (shO fr b (t.shiftM b fr).2 (σ.tg 49005 + 1) (σ.tg 49004 + 1) (σ.tg 49008 + 1))).ob 49006 = τ.ob 49006 := fun τ => puts_none rfl
        simp only [T.shiftM] at e8 n6
        simp [tm, e8, n6]
        have hsh : t.shift b fr = if (t.shiftM b fr).2 ≠ 0 then (.zero, (t.shiftM b fr).2) else ((t.shiftM b fr).1, 0) := by simp [T.shift, hc, hm']
        simp only [T.shiftM] at hsh
        refine ⟨fun he => ?_, fun he => ?_⟩
        · refine W_dregE 2 [49006] ?_
          simp [SOp.args, e8, n6]
          refine realC_n ?_
          simp [he, hsh, tm, cells_mk, T.zero]
        · simp [n6, he, hsh, tm, cells_mk, T.zero]
end Go.Abs

namespace Go.Abs

/- porism/porismkeep.Arg -/
def c126 : SCode :=
  .seq (.reg
       [⟨some 2, none, .box 77 (.t 0)⟩,
        ⟨some 3, none, .box 77 (.t 1)⟩,
        ⟨some 4, none, .mv (.k (.bool false))⟩])
  (.seq (.reg
       [⟨some 5, none, .fad 77 0 0 (.t 2)⟩,
        ⟨some 6, none, .ld1 4 (.t 5)⟩,
        ⟨some 7, none, .fad 77 0 0 (.t 3)⟩,
        ⟨some 8, none, .ld1 4 (.t 7)⟩,
        ⟨some 9, none, .beq false 4 (.t 6) (.t 8)⟩,
        ⟨some 10, none, .mv (.t 9)⟩,
        ⟨some 11, some (10, true), .fad 77 1 1 (.t 2)⟩,
        ⟨some 12, some (10, true), .ldn 24 3 (.t 11)⟩,
        ⟨some 13, some (10, true), .fad 77 1 1 (.t 3)⟩,
        ⟨some 14, some (10, true), .ldn 24 3 (.t 13)⟩,
        ⟨some 15, some (10, true), .call (.f 45) [.t 12, .t 14]⟩,
        ⟨some 16, none, .pick (.t 10) (.t 15) (.k (.bool false))⟩,
        ⟨some 17, none, .mv (.t 16)⟩,
        ⟨some 18, some (17, true), .fad 77 2 4 (.t 2)⟩,
        ⟨some 19, some (17, true), .ld1 22 (.t 18)⟩,
        ⟨some 20, some (17, true), .fad 77 2 4 (.t 3)⟩,
        ⟨some 21, some (17, true), .ld1 22 (.t 20)⟩,
        ⟨some 22, some (17, true), .call (.f 96) [.t 19, .t 21]⟩,
        ⟨some 23, none, .pick (.t 17) (.t 22) (.k (.bool false))⟩,
        ⟨some 24, none, .mv (.t 23)⟩,
        ⟨some 25, some (24, true), .fad 77 3 5 (.t 2)⟩,
        ⟨some 26, some (24, true), .ld1 3 (.t 25)⟩,
        ⟨some 27, some (24, true), .fad 77 3 5 (.t 3)⟩,
        ⟨some 28, some (24, true), .ld1 3 (.t 27)⟩,
        ⟨some 29, some (24, true), .bin .eql (.t 26) (.t 28)⟩,
        ⟨some 30, none, .pick (.t 24) (.t 29) (.k (.bool false))⟩,
        ⟨some 31, none, .mv (.t 30)⟩,
        ⟨some 32, some (31, true), .fad 77 4 6 (.t 2)⟩,
        ⟨some 33, some (31, true), .ld1 22 (.t 32)⟩,
        ⟨some 34, some (31, true), .fad 77 4 6 (.t 3)⟩,
        ⟨some 35, some (31, true), .ld1 22 (.t 34)⟩,
        ⟨some 36, some (31, true), .call (.f 96) [.t 33, .t 35]⟩,
        ⟨some 37, none, .pick (.t 31) (.t 36) (.k (.bool false))⟩,
        ⟨some 4, none, .mv (.t 37)⟩])
  (.ret))
def r126 : List RR := [.t 4]
theorem ok126 : okFn Go.Proofs.Try.prog 126 38 c126 r126 2 = true := by kernel_rfl

/- porism/porismkeep.Args -/
def c118b0 : SCode :=
  .seq (.seq (.reg
         [⟨some 11, none, .mv (.t 5)⟩,
          ⟨some 12, none, .mv (.t 0)⟩,
          ⟨some 13, none, .len 72 (.t 12)⟩,
          ⟨some 14, none, .bin .lss (.t 11) (.t 13)⟩])
    (.cond (.t 14)
      (.skip)
      (.exit 0)))
  (.seq (.block 1 (.seq (.dreg [0, 0, 3, 7, 0, 0, 48, 112, 255, 511]
           [⟨some 17, none, .mv (.t 0)⟩,
            ⟨some 18, none, .mv (.t 5)⟩,
            ⟨some 19, none, .iad 77 7 (.t 17) (.t 18)⟩,
            ⟨some 20, none, .ldn 77 7 (.t 19)⟩,
            ⟨some 21, none, .mv (.t 1)⟩,
            ⟨some 22, none, .mv (.t 5)⟩,
            ⟨some 23, none, .iad 77 7 (.t 21) (.t 22)⟩,
            ⟨some 24, none, .ldn 77 7 (.t 23)⟩,
            ⟨some 25, none, .call (.f 126) [.t 20, .t 24]⟩,
            ⟨some 26, none, .not (.t 25)⟩])
      (.cond (.t 26)
        (.seq (.reg
             [⟨some 4, none, .mv (.k (.bool false))⟩])
        (.ret))
        (.skip))))
  (.reg
     [⟨some 15, none, .mv (.t 5)⟩,
      ⟨some 16, none, .bin .add (.t 15) (.k (.int .i64 1))⟩,
      ⟨some 5, none, .mv (.t 16)⟩]))
def c118 : SCode :=
  .seq (.reg
       [⟨some 4, none, .mv (.k (.bool false))⟩])
  (.seq (.seq (.reg
         [⟨some 6, none, .mv (.t 0)⟩,
          ⟨some 7, none, .len 72 (.t 6)⟩,
          ⟨some 8, none, .mv (.t 1)⟩,
          ⟨some 9, none, .len 72 (.t 8)⟩,
          ⟨some 10, none, .bin .neq (.t 7) (.t 9)⟩])
    (.cond (.t 10)
      (.seq (.reg
           [⟨some 4, none, .mv (.k (.bool false))⟩])
      (.ret))
      (.skip)))
  (.seq (.seq (.reg
         [⟨some 5, none, .mv (.k (.int .i64 0))⟩])
    (.block 0 (.loop c118b0)))
  (.seq (.reg
       [⟨some 4, none, .mv (.k (.bool true))⟩])
  (.ret))))
def r118 : List RR := [.t 4]
theorem ok118 : okFn Go.Proofs.Try.prog 118 27 c118 r118 2 = true := by kernel_rfl

/- porism/porismkeep.Con -/
def c119 : SCode :=
  .seq (.reg
       [⟨some 2, none, .box 74 (.t 0)⟩,
        ⟨some 3, none, .box 74 (.t 1)⟩,
        ⟨some 4, none, .mv (.k (.bool false))⟩])
  (.seq (.reg
       [⟨some 5, none, .fad 74 0 0 (.t 2)⟩,
        ⟨some 6, none, .ld1 3 (.t 5)⟩,
        ⟨some 7, none, .fad 74 0 0 (.t 3)⟩,
        ⟨some 8, none, .ld1 3 (.t 7)⟩,
        ⟨some 9, none, .bin .eql (.t 6) (.t 8)⟩,
        ⟨some 10, none, .mv (.t 9)⟩,
        ⟨some 11, some (10, true), .fad 74 1 1 (.t 2)⟩,
        ⟨some 12, some (10, true), .ld1 72 (.t 11)⟩,
        ⟨some 13, some (10, true), .fad 74 1 1 (.t 3)⟩,
        ⟨some 14, some (10, true), .ld1 72 (.t 13)⟩,
        ⟨some 15, some (10, true), .call (.f 118) [.t 12, .t 14]⟩,
        ⟨some 16, none, .pick (.t 10) (.t 15) (.k (.bool false))⟩,
        ⟨some 17, none, .mv (.t 16)⟩,
        ⟨some 18, some (17, true), .fad 74 2 2 (.t 2)⟩,
        ⟨some 19, some (17, true), .ld1 22 (.t 18)⟩,
        ⟨some 20, some (17, true), .fad 74 2 2 (.t 3)⟩,
        ⟨some 21, some (17, true), .ld1 22 (.t 20)⟩,
        ⟨some 22, some (17, true), .call (.f 96) [.t 19, .t 21]⟩,
        ⟨some 23, none, .pick (.t 17) (.t 22) (.k (.bool false))⟩,
        ⟨some 24, none, .mv (.t 23)⟩,
        ⟨some 25, some (24, true), .fad 74 3 3 (.t 2)⟩,
        ⟨some 26, some (24, true), .ldn 24 3 (.t 25)⟩,
        ⟨some 27, some (24, true), .fad 74 3 3 (.t 3)⟩,
        ⟨some 28, some (24, true), .ldn 24 3 (.t 27)⟩,
        ⟨some 29, some (24, true), .call (.f 45) [.t 26, .t 28]⟩,
        ⟨some 30, none, .pick (.t 24) (.t 29) (.k (.bool false))⟩,
        ⟨some 4, none, .mv (.t 30)⟩])
  (.ret))
def r119 : List RR := [.t 4]
theorem ok119 : okFn Go.Proofs.Try.prog 119 31 c119 r119 2 = true := by kernel_rfl

/- porism/porismkeep.Block -/
def w86_0 : List (List Nat) := [[], [], [], [], [], [], [], [], [], [], [86006], [86007], [86006], [86007]]
def f86_0 : List (List Nat) := [[86006, 86007], [86006, 86007], [86006, 86007], [86006, 86007], [86006, 86007], [86006, 86007], [86006, 86007], [86006, 86007], [86006, 86007], [86006, 86007], [86007], [86006], [], []]
def c86b0 : SCode :=
  .seq (.seq (.reg
         [⟨some 32, none, .mv (.t 5)⟩,
          ⟨some 33, none, .fad 44 0 0 (.t 2)⟩,
          ⟨some 34, none, .ld1 41 (.t 33)⟩,
          ⟨some 35, none, .len 41 (.t 34)⟩,
          ⟨some 36, none, .bin .lss (.t 32) (.t 35)⟩])
    (.cond (.t 36)
      (.skip)
      (.exit 0)))
  (.seq (.block 1 (.seq (.dreg [0, 1, 0, 7, 15, 0, 32, 0, 224, 480, 0, 0, 3103, 8191]
           [⟨some 39, none, .fad 44 0 0 (.t 2)⟩,
            ⟨some 40, none, .ld1 41 (.t 39)⟩,
            ⟨some 41, none, .mv (.t 5)⟩,
            ⟨some 42, none, .iad 82 6 (.t 40) (.t 41)⟩,
            ⟨some 43, none, .ldn 82 6 (.t 42)⟩,
            ⟨some 44, none, .fad 44 0 0 (.t 3)⟩,
            ⟨some 45, none, .ld1 41 (.t 44)⟩,
            ⟨some 46, none, .mv (.t 5)⟩,
            ⟨some 47, none, .iad 82 6 (.t 45) (.t 46)⟩,
            ⟨some 48, none, .ldn 82 6 (.t 47)⟩,
            ⟨some 6, none, .alloc 82 [.cap 7 104 [], .v (.int .i64 0), .v (.bool false), .v (.int .i64 0), .v (.int .i64 0), .cap 3 40 []]⟩,
            ⟨some 7, none, .alloc 82 [.cap 7 104 [], .v (.int .i64 0), .v (.bool false), .v (.int .i64 0), .v (.int .i64 0), .cap 3 40 []]⟩,
            ⟨none, none, .stn 82 6 (.t 6) (.t 43)⟩,
            ⟨none, none, .stn 82 6 (.t 7) (.t 48)⟩])
      (.seq (.reg
           [⟨some 49, none, .fad 82 0 0 (.t 6)⟩,
            ⟨some 50, none, .ld1 72 (.t 49)⟩,
            ⟨some 51, none, .fad 82 0 0 (.t 7)⟩,
            ⟨some 52, none, .ld1 72 (.t 51)⟩,
            ⟨some 53, none, .call (.f 118) [.t 50, .t 52]⟩,
            ⟨some 54, none, .not (.t 53)⟩,
            ⟨some 55, none, .mv (.t 54)⟩,
            ⟨some 56, some (55, false), .fad 82 1 1 (.t 6)⟩,
            ⟨some 57, some (55, false), .ld1 3 (.t 56)⟩,
            ⟨some 58, some (55, false), .fad 82 1 1 (.t 7)⟩,
            ⟨some 59, some (55, false), .ld1 3 (.t 58)⟩,
            ⟨some 60, some (55, false), .bin .neq (.t 57) (.t 59)⟩,
            ⟨some 61, none, .pick (.t 55) (.k (.bool true)) (.t 60)⟩,
            ⟨some 62, none, .mv (.t 61)⟩,
            ⟨some 63, some (62, false), .fad 82 2 2 (.t 6)⟩,
            ⟨some 64, some (62, false), .ld1 4 (.t 63)⟩,
            ⟨some 65, some (62, false), .fad 82 2 2 (.t 7)⟩,
            ⟨some 66, some (62, false), .ld1 4 (.t 65)⟩,
            ⟨some 67, some (62, false), .beq true 4 (.t 64) (.t 66)⟩,
            ⟨some 68, none, .pick (.t 62) (.k (.bool true)) (.t 67)⟩,
            ⟨some 69, none, .mv (.t 68)⟩,
            ⟨some 70, some (69, false), .fad 82 3 3 (.t 6)⟩,
            ⟨some 71, some (69, false), .ldn 24 3 (.t 70)⟩,
            ⟨some 72, some (69, false), .fad 82 3 3 (.t 7)⟩,
            ⟨some 73, some (69, false), .ldn 24 3 (.t 72)⟩,
            ⟨some 74, some (69, false), .call (.f 45) [.t 71, .t 73]⟩,
            ⟨some 75, some (69, false), .not (.t 74)⟩,
            ⟨some 76, none, .pick (.t 69) (.k (.bool true)) (.t 75)⟩])
      (.cond (.t 76)
        (.seq (.reg
             [⟨some 4, none, .mv (.k (.bool false))⟩])
        (.ret))
        (.skip)))))
  (.reg
     [⟨some 37, none, .mv (.t 5)⟩,
      ⟨some 38, none, .bin .add (.t 37) (.k (.int .i64 1))⟩,
      ⟨some 5, none, .mv (.t 38)⟩]))
def c86b1 : SCode :=
  .seq (.seq (.reg
         [⟨some 77, none, .mv (.t 8)⟩,
          ⟨some 78, none, .fad 44 1 1 (.t 2)⟩,
          ⟨some 79, none, .ld1 42 (.t 78)⟩,
          ⟨some 80, none, .len 42 (.t 79)⟩,
          ⟨some 81, none, .bin .lss (.t 77) (.t 80)⟩])
    (.cond (.t 81)
      (.skip)
      (.exit 2)))
  (.seq (.block 3 (.seq (.dreg [0, 1, 0, 7, 15, 0, 32, 0, 224, 480, 1023, 2047]
           [⟨some 84, none, .fad 44 1 1 (.t 2)⟩,
            ⟨some 85, none, .ld1 42 (.t 84)⟩,
            ⟨some 86, none, .mv (.t 8)⟩,
            ⟨some 87, none, .iad 74 6 (.t 85) (.t 86)⟩,
            ⟨some 88, none, .ldn 74 6 (.t 87)⟩,
            ⟨some 89, none, .fad 44 1 1 (.t 3)⟩,
            ⟨some 90, none, .ld1 42 (.t 89)⟩,
            ⟨some 91, none, .mv (.t 8)⟩,
            ⟨some 92, none, .iad 74 6 (.t 90) (.t 91)⟩,
            ⟨some 93, none, .ldn 74 6 (.t 92)⟩,
            ⟨some 94, none, .call (.f 119) [.t 88, .t 93]⟩,
            ⟨some 95, none, .not (.t 94)⟩])
      (.cond (.t 95)
        (.seq (.reg
             [⟨some 4, none, .mv (.k (.bool false))⟩])
        (.ret))
        (.skip))))
  (.reg
     [⟨some 82, none, .mv (.t 8)⟩,
      ⟨some 83, none, .bin .add (.t 82) (.k (.int .i64 1))⟩,
      ⟨some 8, none, .mv (.t 83)⟩]))
def c86 : SCode :=
  .seq (.reg
       [⟨some 2, none, .box 44 (.t 0)⟩,
        ⟨some 3, none, .box 44 (.t 1)⟩,
        ⟨some 4, none, .mv (.k (.bool false))⟩])
  (.seq (.seq (.reg
         [⟨some 9, none, .fad 44 0 0 (.t 2)⟩,
          ⟨some 10, none, .ld1 41 (.t 9)⟩,
          ⟨some 11, none, .len 41 (.t 10)⟩,
          ⟨some 12, none, .fad 44 0 0 (.t 3)⟩,
          ⟨some 13, none, .ld1 41 (.t 12)⟩,
          ⟨some 14, none, .len 41 (.t 13)⟩,
          ⟨some 15, none, .bin .neq (.t 11) (.t 14)⟩,
          ⟨some 16, none, .mv (.t 15)⟩,
          ⟨some 17, some (16, false), .fad 44 1 1 (.t 2)⟩,
          ⟨some 18, some (16, false), .ld1 42 (.t 17)⟩,
          ⟨some 19, some (16, false), .len 42 (.t 18)⟩,
          ⟨some 20, some (16, false), .fad 44 1 1 (.t 3)⟩,
          ⟨some 21, some (16, false), .ld1 42 (.t 20)⟩,
          ⟨some 22, some (16, false), .len 42 (.t 21)⟩,
          ⟨some 23, some (16, false), .bin .neq (.t 19) (.t 22)⟩,
          ⟨some 24, none, .pick (.t 16) (.k (.bool true)) (.t 23)⟩,
          ⟨some 25, none, .mv (.t 24)⟩,
          ⟨some 26, some (25, false), .fad 44 2 2 (.t 2)⟩,
          ⟨some 27, some (25, false), .ld1 3 (.t 26)⟩,
          ⟨some 28, some (25, false), .fad 44 2 2 (.t 3)⟩,
          ⟨some 29, some (25, false), .ld1 3 (.t 28)⟩,
          ⟨some 30, some (25, false), .bin .neq (.t 27) (.t 29)⟩,
          ⟨some 31, none, .pick (.t 25) (.k (.bool true)) (.t 30)⟩])
    (.cond (.t 31)
      (.seq (.reg
           [⟨some 4, none, .mv (.k (.bool false))⟩])
      (.ret))
      (.skip)))
  (.seq (.seq (.reg
         [⟨some 5, none, .mv (.k (.int .i64 0))⟩])
    (.block 0 (.loop c86b0)))
  (.seq (.seq (.reg
         [⟨some 8, none, .mv (.k (.int .i64 0))⟩])
    (.block 2 (.loop c86b1)))
  (.seq (.reg
       [⟨some 4, none, .mv (.k (.bool true))⟩])
  (.ret)))))
def r86 : List RR := [.t 4]
theorem ok86 : okFn Go.Proofs.Try.prog 86 96 c86 r86 2 = true := by kernel_rfl

/- porism/porismkeep.Decl -/
def c34 : SCode :=
  .seq (.reg
       [⟨some 2, none, .box 46 (.t 0)⟩,
        ⟨some 3, none, .box 46 (.t 1)⟩,
        ⟨some 4, none, .mv (.k (.bool false))⟩])
  (.seq (.reg
       [⟨some 5, none, .fad 46 0 0 (.t 2)⟩,
        ⟨some 6, none, .ld1 3 (.t 5)⟩,
        ⟨some 7, none, .fad 46 0 0 (.t 3)⟩,
        ⟨some 8, none, .ld1 3 (.t 7)⟩,
        ⟨some 9, none, .bin .eql (.t 6) (.t 8)⟩,
        ⟨some 10, none, .mv (.t 9)⟩,
        ⟨some 11, some (10, true), .fad 46 1 1 (.t 2)⟩,
        ⟨some 12, some (10, true), .ldn 24 3 (.t 11)⟩,
        ⟨some 13, some (10, true), .fad 46 1 1 (.t 3)⟩,
        ⟨some 14, some (10, true), .ldn 24 3 (.t 13)⟩,
        ⟨some 15, some (10, true), .call (.f 45) [.t 12, .t 14]⟩,
        ⟨some 16, none, .pick (.t 10) (.t 15) (.k (.bool false))⟩,
        ⟨some 17, none, .mv (.t 16)⟩,
        ⟨some 18, some (17, true), .fad 46 2 4 (.t 2)⟩,
        ⟨some 19, some (17, true), .ldn 24 3 (.t 18)⟩,
        ⟨some 20, some (17, true), .fad 46 2 4 (.t 3)⟩,
        ⟨some 21, some (17, true), .ldn 24 3 (.t 20)⟩,
        ⟨some 22, some (17, true), .call (.f 45) [.t 19, .t 21]⟩,
        ⟨some 23, none, .pick (.t 17) (.t 22) (.k (.bool false))⟩,
        ⟨some 24, none, .mv (.t 23)⟩,
        ⟨some 25, some (24, true), .fad 46 3 7 (.t 2)⟩,
        ⟨some 26, some (24, true), .ldn 44 3 (.t 25)⟩,
        ⟨some 27, some (24, true), .fad 46 3 7 (.t 3)⟩,
        ⟨some 28, some (24, true), .ldn 44 3 (.t 27)⟩,
        ⟨some 29, some (24, true), .call (.f 86) [.t 26, .t 28]⟩,
        ⟨some 30, none, .pick (.t 24) (.t 29) (.k (.bool false))⟩,
        ⟨some 4, none, .mv (.t 30)⟩])
  (.ret))
def r34 : List RR := [.t 4]
theorem ok34 : okFn Go.Proofs.Try.prog 34 31 c34 r34 2 = true := by kernel_rfl

end Go.Abs

namespace Go.Abs
open Go.Proofs

/-! ### arguments, sorts, constructors, blocks, declarations -/
structure A where
  rc : Bool
  typ : T
  dom : List T
  sort : Int
  idx : List T
def A.cells (a : A) : List Cell := [.v (.bool a.rc), .v (.int .i64 a.typ.kind), .v (.int .i64 a.typ.val), .sl 3 40 (a.typ.kids.map T.cells), .sl 3 40 (a.dom.map T.cells), .v (.int .i64 a.sort), .sl 3 40 (a.idx.map T.cells)]
def am (a : A) : AV := .agg a.cells
def ams (l : List A) : AV := .c (.sl 7 104 (l.map A.cells))
structure S where
  idx : List A
  level : Int
  dec : Bool
  decType : T
def S.cells (s : S) : List Cell := [.sl 7 104 (s.idx.map A.cells), .v (.int .i64 s.level), .v (.bool s.dec), .v (.int .i64 s.decType.kind), .v (.int .i64 s.decType.val), .sl 3 40 (s.decType.kids.map T.cells)]
def sms (l : List S) : AV := .c (.sl 6 80 (l.map S.cells))
structure K where
  sort : Int
  args : List A
  idx : List T
  dec : T
def K.cells (s : K) : List Cell := [.v (.int .i64 s.sort), .sl 7 104 (s.args.map A.cells), .sl 3 40 (s.idx.map T.cells), .v (.int .i64 s.dec.kind), .v (.int .i64 s.dec.val), .sl 3 40 (s.dec.kids.map T.cells)]
def km (k : K) : AV := .agg k.cells
def kms (l : List K) : AV := .c (.sl 6 96 (l.map K.cells))
structure B where
  sorts : List S
  cons : List K
  elim : Int
def B.cells (b : B) : List Cell := [.sl 6 80 (b.sorts.map S.cells), .sl 6 96 (b.cons.map K.cells), .v (.int .i64 b.elim)]
def bm (b : B) : AV := .agg b.cells
structure D where
  kind : Int
  typ : T
  body : T
  block : B
def D.cells (d : D) : List Cell := [.v (.int .i64 d.kind), .v (.int .i64 d.typ.kind), .v (.int .i64 d.typ.val), .sl 3 40 (d.typ.kids.map T.cells), .v (.int .i64 d.body.kind), .v (.int .i64 d.body.val), .sl 3 40 (d.body.kids.map T.cells),
  .sl 6 80 (d.block.sorts.map S.cells), .sl 6 96 (d.block.cons.map K.cells), .v (.int .i64 d.block.elim)]
def dm (d : D) : AV := .agg d.cells

/-! ### are they the same? -/
def A.eqb (a b : A) : Bool := (a.rc == b.rc) && T.eqb a.typ b.typ && T.eqbL a.dom b.dom && decide (a.sort = b.sort) && T.eqbL a.idx b.idx
def K.eqb (a b : K) : Bool := decide (a.sort = b.sort) && all2 A.eqb a.args b.args && T.eqbL a.idx b.idx && T.eqb a.dec b.dec
def S.eqb (a b : S) : Bool := all2 A.eqb a.idx b.idx && decide (a.level = b.level) && (a.dec == b.dec) && T.eqb a.decType b.decType
def B.eqb (a b : B) : Bool := decide (a.elim = b.elim) && all2 S.eqb a.sorts b.sorts && all2 K.eqb a.cons b.cons
def D.eqb (a b : D) : Bool := decide (a.kind = b.kind) && T.eqb a.typ b.typ && T.eqb a.body b.body && B.eqb a.block b.block

theorem fn96' (ts us : List T) : Fn Try.prog 96 [tms ts, tms us] (bb (T.eqbL ts us)) := fn96 fun t _ u => fn45 t u
theorem fn126 (a b : A) : Fn Try.prog 126 [am a, am b] (bb (a.eqb b)) := by
  refine fn_of (base := 126000) ok126 rfl fun σ h0 hr => ?_
  have s0 := h0 0
  have s1 := h0 1
  rw [slots0] at s0
  rw [slots1] at s1
  simp only [am, A.cells] at s0 s1
  clear h0 hr
  unfold c126
  simp [s0, s1]
  refine GCall.fn (fun _ => fn45 a.typ b.typ) (by simp [tm, cells_eq]) (by simp) rfl fun _ => ?_
  simp [bb]
  refine GCall.fn (fun _ => fn96' a.dom b.dom) (by simp [tms]) (by simp) rfl fun _ => ?_
  simp [bb]
  refine GCall.fn (fun _ => fn96' a.idx b.idx) (by simp [tms]) (by simp) rfl fun _ => ?_
  simp [bb, r126, A.eqb]
theorem real_ams {l : List A} (h : Real (ams l)) : l.length * 104 ≤ 140737488355328 := by simpa [room] using real_sl h
theorem real_sms {l : List S} (h : Real (sms l)) : l.length * 80 ≤ 140737488355328 := by simpa [room] using real_sl h
theorem real_kms {l : List K} (h : Real (kms l)) : l.length * 96 ≤ 140737488355328 := by simpa [room] using real_sl h
theorem fn118 (ts us : List A) : Fn Try.prog 118 [ams ts, ams us] (bb (all2 A.eqb ts us)) := by
  refine fn_of (base := 118000) ok118 rfl fun σ h0 hr => ?_
  have s0 := h0 0
  have s1 := h0 1
  rw [slots0] at s0
  rw [slots1] at s1
  have hlen := real_ams (hr (ams ts) (by simp))
  simp only [ams] at s0 s1
  clear h0 hr
  unfold c118
  by_cases hl : ts.length = us.length
  case neg =>
    have hl' : ¬ ((ts.length : Int) = (us.length : Int)) := by omega
    simp [s0, s1, hl', r118, bb, all2_len hl]
  case pos =>
    simp [s0, s1, hl]
    refine W_loop (fun k σ => ∃ i : Nat, i + k = ts.length ∧ all2 A.eqb (ts.drop i) (us.drop i) = all2 A.eqb ts us ∧ σ.sl 0 = ams ts ∧ σ.sl 1 = ams us ∧ σ.sl 5 = .c (.v (.int .i64 i))) ts.length ?_ ?_
    · exact ⟨0, by simp [s0, s1, ams]⟩
    · rintro k σ ⟨i, hk, hp, q0, q1, q5⟩
      simp only [ams] at q0 q1
      unfold c118b0
      by_cases hi : i < ts.length
      · obtain ⟨t, ht⟩ := at_of hi
        obtain ⟨u, hu⟩ := at_of (show i < us.length by omega)
        obtain ⟨_, ht'⟩ := getE ht
        obtain ⟨hi2, hu'⟩ := getE hu
        have w1 := wrap_succ (i := i) (by omega)
        rw [all2_at hl ht hu] at hp
        simp [q0, q1, q5, hi, hi2]
        refine W_dregA ?_
        simp [q0, q1, q5, hi, hi2, ht', hu', A.cells]
        refine CallA.fn (fn126 t u) (by simp [am, A.cells]) (by simp) rfl ?_
        simp [bb]
        refine realC_n ?_
        simp
        constructor
        · intro hpf
          simp [r118, ← hp, hpf]
        · intro hpt
          rw [hpt, Bool.true_and] at hp
          simp [q5]
          refine ⟨k - 1, by omega, i + 1, by omega, hp, ?_⟩
          simp [q0, q1, w1, ams]
      · simp [q0, q1, q5, hi, r118, bb]
        have : ts.length ≤ i := by omega
        rw [← hp, List.drop_eq_nil_of_le this, List.drop_eq_nil_of_le (by omega)]; rfl
theorem fn119 (a b : K) : Fn Try.prog 119 [km a, km b] (bb (a.eqb b)) := by
  refine fn_of (base := 119000) ok119 rfl fun σ h0 hr => ?_
  have s0 := h0 0
  have s1 := h0 1
  rw [slots0] at s0
  rw [slots1] at s1
  simp only [km, K.cells] at s0 s1
  clear h0 hr
  unfold c119
  simp [s0, s1]
  refine GCall.fn (fun _ => fn118 a.args b.args) (by simp [ams]) (by simp) rfl fun _ => ?_
  simp [bb]
  refine GCall.fn (fun _ => fn96' a.idx b.idx) (by simp [tms]) (by simp) rfl fun _ => ?_
  simp [bb]
  refine GCall.fn (fun _ => fn45 a.dec b.dec) (by simp [tm, cells_eq]) (by simp) rfl fun _ => ?_
  simp [bb, r119, K.eqb]
theorem real_cell {cs : List Cell} {sz bs : Nat} {es : List (List Cell)} (h : Real (.agg cs)) (hm : .sl sz bs es ∈ cs) : es.length * bs ≤ room := by
  obtain ⟨g, w, v, vs, rfl, hvs⟩ := h
  obtain ⟨i, hi⟩ := List.mem_iff_getElem?.1 hm
  obtain ⟨x, _, hx⟩ := hvs.get i _ hi
  exact real_sl ⟨g, w, x, fun _ => hx⟩
theorem fn86 (a b : B) : Fn Try.prog 86 [bm a, bm b] (bb (a.eqb b)) := by
  refine fn_of (base := 86000) ok86 rfl fun σ h0 hr => ?_
  have s0 := h0 0
  have s1 := h0 1
  rw [slots0] at s0
  rw [slots1] at s1
  have hl1 := real_cell (hr (bm a) (by simp)) (show .sl 6 80 (a.sorts.map S.cells) ∈ a.cells by simp [B.cells])
  have hl2 := real_cell (hr (bm a) (by simp)) (show .sl 6 96 (a.cons.map K.cells) ∈ a.cells by simp [B.cells])
  simp only [room, List.length_map] at hl1 hl2
  simp only [bm, B.cells] at s0 s1
  clear h0 hr
  unfold c86
  simp [s0, s1]
  refine ⟨fun h => ?_, fun h1 h2 h3 => ?_⟩
  · have he : a.eqb b = false := by
      rcases h with (h | h) | h
      · have : a.sorts.length ≠ b.sorts.length := by omega
        simp [B.eqb, all2_len this]
      · have : a.cons.length ≠ b.cons.length := by omega
        simp [B.eqb, all2_len this]
      · simp [B.eqb, h]
    simp [r86, he, bb]
  · have l1 : a.sorts.length = b.sorts.length := by omega
    have l2 : a.cons.length = b.cons.length := by omega
    refine W_loop (fun k σ => ∃ i : Nat, i + k = a.sorts.length ∧ all2 S.eqb (a.sorts.drop i) (b.sorts.drop i) = all2 S.eqb a.sorts b.sorts ∧ σ.sl 2 = .c (.ref 86002 (σ.tg 86002) 0) ∧ σ.ob 86002 = some (.box 44 a.cells) ∧ σ.sl 3 = .c (.ref 86003 (σ.tg 86003) 0) ∧ σ.ob 86003 = some (.box 44 b.cells) ∧ σ.sl 5 = .c (.v (.int .i64 i))) a.sorts.length ?_ ?_
    · exact ⟨0, by simp [B.cells]⟩
    · rintro k σ ⟨i, hk, hp, q2, o2, q3, o3, q5⟩
      simp only [B.cells] at o2 o3
      unfold c86b0
      by_cases hi : i < a.sorts.length
      · obtain ⟨t, ht⟩ := at_of hi
        obtain ⟨u, hu⟩ := at_of (show i < b.sorts.length by omega)
        obtain ⟨_, ht'⟩ := getE ht
        obtain ⟨hi2, hu'⟩ := getE hu
        have w1 := wrap_succ (i := i) (by omega)
        rw [all2_at l1 ht hu] at hp
        simp [q2, o2, q3, o3, q5, hi, hi2]
        refine W_dregD w86_0 f86_0 (by decide) ?_
        unfold w86_0 f86_0
        simp [q2, o2, q3, o3, q5, hi, hi2, ht', hu', S.cells]
        refine realC_n ?_
        simp [S.cells]
        refine ECall.fn (fn118 t.idx u.idx) (by simp [ams]) (by simp) rfl fun _ => ?_
        simp [bb]
        refine GCall.fn (fun _ => fn45 t.decType u.decType) (by simp [tm, cells_eq]) (by simp) rfl fun _ => ?_
        simp [bb]
        constructor
        · intro h
          have ht : t.eqb u = false := by
            rcases h with ((h | h) | h) | h <;> simp [S.eqb, h]
          have : a.eqb b = false := by simp [B.eqb, ← hp, ht]
          simp [r86, this, bb]
        · intro e1 e2 e3 e4
          have ht : t.eqb u = true := by simp [S.eqb, e1, e2, e3, e4]
          rw [ht, Bool.true_and] at hp
          simp [q5]
          refine ⟨k - 1, by omega, i + 1, by omega, hp, ?_⟩
          simp [q2, o2, q3, o3, w1, B.cells]
      · have hS : all2 S.eqb a.sorts b.sorts = true := by
          rw [← hp, List.drop_eq_nil_of_le (by omega), List.drop_eq_nil_of_le (by omega)]; rfl
        simp [q2, o2, q3, o3, q5, hi]
        refine W_loop (fun k σ => ∃ i : Nat, i + k = a.cons.length ∧ all2 K.eqb (a.cons.drop i) (b.cons.drop i) = all2 K.eqb a.cons b.cons ∧ σ.sl 2 = .c (.ref 86002 (σ.tg 86002) 0) ∧ σ.ob 86002 = some (.box 44 a.cells) ∧ σ.sl 3 = .c (.ref 86003 (σ.tg 86003) 0) ∧ σ.ob 86003 = some (.box 44 b.cells) ∧ σ.sl 8 = .c (.v (.int .i64 i))) a.cons.length ?_ ?_
        · exact ⟨0, by simp [B.cells, q2, o2, q3, o3]⟩
        · rintro k σ ⟨i, hk, hp, q2, o2, q3, o3, q5⟩
          simp only [B.cells] at o2 o3
          unfold c86b1
          by_cases hi : i < a.cons.length
          · obtain ⟨t, ht⟩ := at_of hi
            obtain ⟨u, hu⟩ := at_of (show i < b.cons.length by omega)
            obtain ⟨_, ht'⟩ := getE ht
            obtain ⟨hi2, hu'⟩ := getE hu
            have w1 := wrap_succ (i := i) (by omega)
            rw [all2_at l2 ht hu] at hp
            simp [q2, o2, q3, o3, q5, hi, hi2]
            refine W_dregA ?_
            simp [q2, o2, q3, o3, q5, hi, hi2, ht', hu', K.cells]
            refine CallA.fn (fn119 t u) (by simp [km, K.cells]) (by simp) rfl ?_
            simp [bb]
            refine realC_n ?_
            simp
            constructor
            · intro hpf
              have : a.eqb b = false := by simp [B.eqb, ← hp, hpf]
              simp [r86, this, bb]
            · intro hpt
              rw [hpt, Bool.true_and] at hp
              simp [q5]
              refine ⟨k - 1, by omega, i + 1, by omega, hp, ?_⟩
              simp [q2, o2, q3, o3, w1, B.cells]
          · have hK : all2 K.eqb a.cons b.cons = true := by
              rw [← hp, List.drop_eq_nil_of_le (by omega), List.drop_eq_nil_of_le (by omega)]; rfl
            simp [q2, o2, q3, o3, q5, hi, r86, bb, B.eqb, hS, hK, h3]
theorem fn34 (a b : D) : Fn Try.prog 34 [dm a, dm b] (bb (a.eqb b)) := by
  refine fn_of (base := 34000) ok34 rfl fun σ h0 hr => ?_
  have s0 := h0 0
  have s1 := h0 1
  rw [slots0] at s0
  rw [slots1] at s1
  simp only [dm, D.cells] at s0 s1
  clear h0 hr
  unfold c34
  simp [s0, s1]
  refine GCall.fn (fun _ => fn45 a.typ b.typ) (by simp [tm, cells_eq]) (by simp) rfl fun _ => ?_
  simp [bb]
  refine GCall.fn (fun _ => fn45 a.body b.body) (by simp [tm, cells_eq]) (by simp) rfl fun _ => ?_
  simp [bb]
  refine GCall.fn (fun _ => fn86 a.block b.block) (by simp [bm, B.cells]) (by simp) rfl fun _ => ?_
  simp [bb, r34, D.eqb]
theorem eqbL_self (ts : List T) : T.eqbL ts ts = true := by
  rw [eqbL_all2]
  induction ts with
  | nil => rfl
  | cons t ts ih => simp [all2, eqb_self, ih]
theorem all2_self {α : Type} {p : α → α → Bool} (h : ∀ a, p a a = true) (l : List α) : all2 p l l = true := by
  induction l with
  | nil => rfl
  | cons t ts ih => simp [all2, h, ih]
theorem A.eqb_self (a : A) : a.eqb a = true := by simp [A.eqb, Go.Abs.eqb_self, eqbL_self]
theorem K.eqb_self (a : K) : a.eqb a = true := by simp [K.eqb, Go.Abs.eqb_self, eqbL_self, all2_self A.eqb_self]
theorem S.eqb_self (a : S) : a.eqb a = true := by simp [S.eqb, Go.Abs.eqb_self, all2_self A.eqb_self]
theorem B.eqb_self (a : B) : a.eqb a = true := by simp [B.eqb, all2_self S.eqb_self, all2_self K.eqb_self]
theorem D.eqb_self (a : D) : a.eqb a = true := by simp [D.eqb, Go.Abs.eqb_self, B.eqb_self]
end Go.Abs
