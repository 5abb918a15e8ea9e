/- THIS TEXT TELLS SOME FUNCTIONS OF THE PROGRAM IN THE CALCULUS, PROVES BY THE KERNEL THAT WHAT IS TOLD IS THE LOADED CODE, AND PROVES WHAT THEY COMPUTE: for every argument that is told; the conditions stand in each theorem. -/
import Derived.Test.YtfgjannlepahgaaGreatRows
import Derived.WalkKit
import Derived.ProofKit
import Derived.OpenShut
import Derived.JoinedCond
import Derived.Deep.Strs
import Derived.Deep.Slices
import Derived.Below
import Derived.Carry
import Derived.WideShapes
import Derived.KernelRfl
import Derived.Test.YtfgjannlepahgaaGreatProg
import Derived.Test.YtfgjannlepahgaaGreatDdAM3
set_option linter.unusedVariables false
set_option linter.unusedSimpArgs false
namespace Go.Abs

/-- A term, as it is meant. -/
inductive T where
  | mk (k n : Int) (kids : List T)
  deriving Inhabited

mutual
def T.cells : T → List Cell
  | .mk k n ts => [.v (.int .i64 k), .v (.int .i64 n), .sl 3 40 (T.cellsL ts)]
def T.cellsL : List T → List (List Cell)
  | [] => []
  | t :: ts => T.cells t :: T.cellsL ts
end
theorem cellsL_map : ∀ ts : List T, T.cellsL ts = ts.map T.cells
  | [] => by simp [T.cellsL]
  | t :: ts => by simp [T.cellsL, cellsL_map ts]
theorem cells_mk (k n : Int) (ts : List T) : T.cells (.mk k n ts) = [.v (.int .i64 k), .v (.int .i64 n), .sl 3 40 (ts.map T.cells)] := by rw [T.cells, cellsL_map]
def T.kind : T → Int | .mk k _ _ => k
def T.val : T → Int | .mk _ n _ => n
def T.kids : T → List T | .mk _ _ ts => ts
@[simp] theorem kind_mk (k n : Int) (ts : List T) : (T.mk k n ts).kind = k := rfl
@[simp] theorem val_mk (k n : Int) (ts : List T) : (T.mk k n ts).val = n := rfl
@[simp] theorem kids_mk (k n : Int) (ts : List T) : (T.mk k n ts).kids = ts := rfl
theorem cells_eq (t : T) : t.cells = [.v (.int .i64 t.kind), .v (.int .i64 t.val), .sl 3 40 (t.kids.map T.cells)] := by cases t; exact cells_mk _ _ _
@[simp] theorem cells_len (t : T) : t.cells.length = 3 := by rw [cells_eq]; rfl
@[simp] theorem cells_take (t : T) : t.cells.take 3 = t.cells := by rw [cells_eq]; rfl
@[simp] theorem cells_toD (σ : St) (t : T) : t.cells.map (toD σ) = t.cells := by rw [cells_eq]; rfl
@[simp] theorem cells_keys (t : T) : keysCs t.cells = [] := by rw [cells_eq]; rfl
theorem cells_isD (t : T) : t.cells.all Cell.isD = true := by rw [cells_eq]; rfl
@[simp] theorem cells_isD' (t : T) (c : Cell) (h : c ∈ t.cells) : c.isD = true := List.all_eq_true.1 (cells_isD t) c h
@[simp] theorem putC_all (t : T) (a b c : Cell) : putC [a, b, c] 0 t.cells = t.cells := by rw [cells_eq]; rfl
def tm (t : T) : AV := .agg t.cells
def tms (ts : List T) : AV := .c (.sl 3 40 (ts.map T.cells))
def ib (n : Int) : AV := .c (.v (.int .i64 n))
def bb (b : Bool) : AV := .c (.v (.bool b))
@[simp] theorem tm_un (t : T) : un (tm t) = tm t := rfl
@[simp] theorem tms_un (t : List T) : un (tms t) = tms t := rfl

theorem real_sl {sz bs : Nat} {es : List (List Cell)} (h : Real (.c (.sl sz bs es))) : es.length * bs ≤ room := by
  obtain ⟨g, w, v, h⟩ := h
  have h := h (by simp)
  cases h with
  | sl _ _ _ a c vs h1 h2 h3 h4 h5 => exact h2
theorem real_tms {ts : List T} (h : Real (tms ts)) : ts.length * 40 ≤ 140737488355328 := by simpa [room] using real_sl h
theorem real_kids {t : T} (h : Real (tm t)) : t.kids.length * 40 ≤ 140737488355328 := by
  obtain ⟨g, w, v, h⟩ := h
  obtain ⟨vs, _, h⟩ := h
  rw [cells_eq] at h
  obtain ⟨v2, _, h2⟩ := h.get 2 _ rfl
  have h2 : RD g w _ v2 := h2
  cases h2 with
  | sl _ _ _ a c vs h1 h6 h3 h4 h5 => simpa [room] using h6

theorem wrap_id {a : Int} (h1 : -9223372036854775808 ≤ a) (h2 : a < 9223372036854775808) : IntKind.wrap .i64 a = a := by
  simp only [IntKind.wrap, IntKind.bits, IntKind.signed, Bool.true_and]
  by_cases h0 : 0 ≤ a
  · have h3 : a % (2 ^ 64 : Int) = a := Int.emod_eq_of_lt h0 (by omega)
    simp only [h3]
    split
    · rename_i h; simp at h; omega
    · rfl
  · have h3 : a % (2 ^ 64 : Int) = a + 2 ^ 64 := by
      rw [← Int.add_emod_right a (2 ^ 64)]
      exact Int.emod_eq_of_lt (by omega) (by omega)
    simp only [h3]
    split
    · omega
    · rename_i h; simp at h; omega

theorem slots0 (x : AV) (l : List AV) : slotsOf (x :: l) 0 = x := rfl
theorem slots1 (x y : AV) (l : List AV) : slotsOf (x :: y :: l) 1 = y := rfl
theorem slots2 (x y z : AV) (l : List AV) : slotsOf (x :: y :: z :: l) 2 = z := rfl

attribute [simp] rrGok resOf resL rrEv isV1

theorem T.ind {p : T → Prop} (h : ∀ k n ts, (∀ t, t ∈ ts → p t) → p (.mk k n ts)) (t : T) : p t := by
  have key : ∀ (m : Nat) (t : T), SizeOf.sizeOf t < m → p t := by
    intro m
    induction m with
    | zero => intro t ht; omega
    | succ m ih =>
      intro t ht
      obtain ⟨k, n, ts⟩ := t
      refine h k n ts fun u hu => ih u ?_
      have := List.sizeOf_lt_of_mem hu
      simp at ht
      omega
  exact key _ t (Nat.lt_succ_self _)

theorem drop_at {α : Type} : ∀ {ts : List α} {i : Nat} {t : α}, ts[i]? = some t → ts.drop i = t :: ts.drop (i + 1)
  | t :: ts, 0, _, h => by simp at h; simp [h]
  | t :: ts, i + 1, t', h => by simpa using drop_at (ts := ts) (by simpa using h)
  | [], _, _, h => by simp at h
theorem getE {α : Type} {ts : List α} {i : Nat} {t : α} (h : ts[i]? = some t) : ∃ hi : i < ts.length, ts[i] = t := List.getElem?_eq_some_iff.1 h
theorem at_of {α : Type} {ts : List α} {i : Nat} (h : i < ts.length) : ∃ t, ts[i]? = some t := ⟨ts[i], by simp [h]⟩
theorem wrap_succ {i : Nat} (h : i < 9223372036854775807) : IntKind.wrap .i64 ((i : Int) + 1) = ((i + 1 : Nat) : Int) := by rw [wrap_id (by omega) (by omega)]; rfl

def kidsOf (k : Int) : Int := if k = 1 then 0 else if k = 2 then 0 else if k = 3 then 0 else if k = 9 then 1 else if k = 10 then 1 else if k = 8 then 3 else if k = 11 then 3 else if k = 13 then 3 else if 1 ≤ k ∧ k ≤ 13 then 2 else -1
def badHead (k n : Int) (len : Nat) : Bool := ((((decide (kidsOf k < 0) || !decide ((len : Int) = kidsOf k)) || decide (n < 0)) || decide (65535 < n)) || (decide (0 < kidsOf k) && !decide (n = 0)))
mutual
def T.formed : T → Bool
  | .mk k n ts => !badHead k n ts.length && T.formedL ts
def T.formedL : List T → Bool
  | [] => true
  | t :: ts => T.formed t && T.formedL ts
end
theorem formedL_all : ∀ ts : List T, T.formedL ts = ts.all T.formed
  | [] => by simp [T.formedL]
  | t :: ts => by simp [T.formedL, formedL_all ts]

def is (ns : List Int) : AV := .c (.sl 1 8 (ns.map fun n => [.v (.int .i64 n)]))
theorem real_is {ns : List Int} (h : Real (is ns)) : ns.length * 8 ≤ 140737488355328 := by simpa [room] using real_sl h
def bindsOf (k i : Int) : Int := if i = 1 ∧ (k = 4 ∨ k = 5 ∨ k = 7) then 1 else 0
mutual
def T.within : T → Int → Int → Bool
  | .mk k n ts, a, b => if k = 1 then decide (n < a) else if k = 2 then decide (n ≤ 6) else if k = 3 then decide (n < b) else T.withinL k a b 0 ts
def T.withinL (k a b : Int) : Int → List T → Bool
  | _, [] => true
  | i, t :: ts => T.within t (IntKind.wrap .i64 (a + bindsOf k i)) b && T.withinL k a b (i + 1) ts
end

mutual
def T.size : T → Int
  | .mk _ _ ts => T.sizeL 1 ts
def T.sizeL : Int → List T → Int
  | a, [] => a
  | a, t :: ts => T.sizeL (IntKind.wrap .i64 (a + T.size t)) ts
end
mutual
def T.depth : T → Int
  | .mk _ _ ts => IntKind.wrap .i64 (T.depthL 0 ts + 1)
def T.depthL : Int → List T → Int
  | a, [] => a
  | a, t :: ts => T.depthL (best2 true a (T.depth t)) ts
end

def T.check (t : T) : Int := if 6000 < t.size then 4 else if 200 < t.depth then 5 else if t.formed then 0 else 1
def T.scope (t : T) (a b : Int) : Bool := decide (0 ≤ a) && decide (0 ≤ b) && decide (t.check = 0) && T.within t (best2 false a 65536) b

mutual
def T.count : T → Nat
  | .mk _ _ ts => T.countL ts + 1
def T.countL : List T → Nat
  | [] => 0
  | t :: ts => T.count t + T.countL ts
end
theorem count_mem {t : T} : ∀ {ts : List T}, t ∈ ts → t.count ≤ T.countL ts
  | u :: ts, h => by
    rcases List.mem_cons.1 h with rfl | h
    · simp [T.countL]
    · have := count_mem h; simp [T.countL]; omega
theorem count_pos (t : T) : 1 ≤ t.count := by cases t; simp [T.count]
theorem size_count (t : T) : t.count < 4611686018427387904 → t.size = t.count := by
  induction t using T.ind with
  | h k n ts ih =>
    intro h
    have key : ∀ (ts : List T) (a : Nat), (∀ t, t ∈ ts → t.count < 4611686018427387904 → t.size = t.count) → a + T.countL ts < 4611686018427387904 → T.sizeL (a : Int) ts = ((a + T.countL ts : Nat) : Int) := by
      intro ts
      induction ts with
      | nil => intro a _ _; simp [T.sizeL, T.countL]
      | cons t ts ih2 =>
        intro a h1 h2
        simp only [T.countL] at h2
        have ht := h1 t (by simp) (by omega)
        have hw : IntKind.wrap .i64 ((a : Int) + t.size) = ((a + t.count : Nat) : Int) := by
          rw [ht, wrap_id (by omega) (by omega)]; simp
        rw [T.sizeL, hw, ih2 (a + t.count) (fun u hu => h1 u (by simp [hu])) (by omega)]
        simp [T.countL]; omega
    simp only [T.count] at h ⊢
    have := key ts 1 ih (by omega)
    rw [T.size]
    have e : ((1 : Nat) : Int) = 1 := rfl
    rw [e] at this
    rw [this]
    simp; omega
theorem depth_le (t : T) : t.count < 4611686018427387904 → 1 ≤ t.depth ∧ t.depth ≤ t.count := by
  induction t using T.ind with
  | h k n ts ih =>
    intro h
    have key : ∀ (ts : List T) (a : Int), (∀ t, t ∈ ts → 1 ≤ t.depth ∧ t.depth ≤ t.count) → 0 ≤ a → a ≤ T.depthL a ts ∧ T.depthL a ts ≤ max a (T.countL ts) ∧ ∀ t, t ∈ ts → t.depth ≤ T.depthL a ts := by
      intro ts
      induction ts with
      | nil => intro a _ h0; simp [T.depthL, T.countL]; omega
      | cons t ts ih2 =>
        intro a h1 h0
        have ht := h1 t (by simp)
        have h2 := ih2 (best2 true a t.depth) (fun u hu => h1 u (by simp [hu])) (by simp only [best2, if_true]; split <;> omega)
        have hb : best2 true a t.depth = max a t.depth := by simp only [best2, if_true]; split <;> omega
        rw [hb] at h2
        simp only [T.depthL, T.countL, hb]
        refine ⟨by omega, by omega, fun u hu => ?_⟩
        rcases List.mem_cons.1 hu with rfl | hu
        · omega
        · exact h2.2.2 u hu
    simp only [T.count] at h ⊢
    have := key ts 0 (fun t ht => ih t ht (by have := count_mem ht; omega)) (by omega)
    rw [T.depth, wrap_id (by omega) (by omega)]
    omega
theorem depth_kid {k n : Int} {ts : List T} {t : T} (ht : t ∈ ts) (h : (T.mk k n ts).count < 4611686018427387904) : t.depth + 1 ≤ (T.mk k n ts).depth := by
  have key : ∀ (ts : List T) (a : Int), (∀ t, t ∈ ts → 1 ≤ t.depth ∧ t.depth ≤ t.count) → 0 ≤ a → a ≤ T.depthL a ts ∧ T.depthL a ts ≤ max a (T.countL ts) ∧ ∀ t, t ∈ ts → t.depth ≤ T.depthL a ts := by
    intro ts
    induction ts with
    | nil => intro a _ h0; simp [T.depthL, T.countL]; omega
    | cons t ts ih2 =>
      intro a h1 h0
      have ht := h1 t (by simp)
      have h2 := ih2 (best2 true a t.depth) (fun u hu => h1 u (by simp [hu])) (by simp only [best2, if_true]; split <;> omega)
      have hb : best2 true a t.depth = max a t.depth := by simp only [best2, if_true]; split <;> omega
      rw [hb] at h2
      simp only [T.depthL, T.countL, hb]
      refine ⟨by omega, by omega, fun u hu => ?_⟩
      rcases List.mem_cons.1 hu with rfl | hu
      · omega
      · exact h2.2.2 u hu
  simp only [T.count] at h
  have h2 := key ts 0 (fun t ht => depth_le t (by have := count_mem ht; omega)) (by omega)
  have h3 := h2.2.2 t ht
  rw [T.depth, wrap_id (by omega) (by omega)]
  omega

@[simp] theorem bestL_2 (mx : Bool) (k : IntKind) (a b : Int) : bestL mx k a [.c (.v (.int k b))] = some (best2 mx a b) := by simp [bestL]
@[simp] theorem bestL_gd (mx : Bool) (k : IntKind) (a b : Int) (β : Bool) : bestL mx k a [.gd β (.c (.v (.int k b)))] = some (best2 mx a b) := by simp [bestL]

mutual
def T.wf : T → Bool
  | .mk k n ts => decide (-9223372036854775808 ≤ n ∧ n < 9223372036854775808) && T.wfL ts
def T.wfL : List T → Bool
  | [] => true
  | t :: ts => T.wf t && T.wfL ts
end
theorem wfL_all : ∀ ts : List T, T.wfL ts = ts.all T.wf
  | [] => by simp [T.wfL]
  | t :: ts => by simp [T.wfL, wfL_all ts]
end Go.Abs

namespace Go.Abs
open Go.Proofs Go.Proofs.YtfgjannlepahgaaGreat Go.RowKit

/-- All that lies in memory stays. -/
def gOf (w : World) : Gh := ⟨fun b _ => b < w.heap.size, fun _ => 0, fun _ => .nilFunc, fun _ => 0⟩

theorem cell_lt {w : World} {a : Addr} {x : Value} (h : w.cell? a = some x) : a.block < w.heap.size := by
  unfold World.cell? at h
  by_cases hb : a.block < w.heap.size
  · exact hb
  · rw [Array.getElem?_eq_none (by omega)] at h; cases h

theorem bulk_one {H : Type} (d : DataW H) : 1 ≤ Rows.uptoBulk d := by
  cases d with
  | lit l => cases l <;> simp [Rows.uptoBulk]
  | _ => simp [Rows.uptoBulk]
theorem bulk_all_len {H : Type} : ∀ (l : List (DataW H)), l.length ≤ Rows.uptoBulkAll l
  | [] => by simp [Rows.uptoBulkAll]
  | d :: l => by
    have := bulk_all_len l
    have h1 := bulk_one d
    simp [Rows.uptoBulkAll]; omega
theorem bulk_mem {H : Type} {d : DataW H} : ∀ {l : List (DataW H)}, d ∈ l → Rows.uptoBulk d ≤ Rows.uptoBulkAll l
  | e :: l, h => by
    rcases List.mem_cons.1 h with rfl | h
    · simp [Rows.uptoBulkAll]
    · have := bulk_mem h; simp [Rows.uptoBulkAll]; omega

theorem cell24 : Tryz.prog.cellsOf 63 = 3 := by kernel_rfl
theorem cell22 : Tryz.prog.cellsOf 61 = 1 := by kernel_rfl
theorem cell3 : Tryz.prog.cellsOf 3 = 1 := by kernel_rfl

theorem countL_append : ∀ (l r : List T), T.countL (l ++ r) = T.countL l + T.countL r
  | [], r => by simp [T.countL]
  | t :: l, r => by simp [T.countL, countL_append l r]; omega
theorem bulkAll_append {H : Type} : ∀ (l r : List (DataW H)), Rows.uptoBulkAll (l ++ r) = Rows.uptoBulkAll l + Rows.uptoBulkAll r
  | [], r => by simp [Rows.uptoBulkAll]
  | t :: l, r => by simp [Rows.uptoBulkAll, bulkAll_append l r]; omega
theorem three {α : Type} : ∀ {l : List α}, l.length = 3 → ∃ a b c, l = [a, b, c]
  | [a, b, c], _ => ⟨a, b, c, rfl⟩

theorem wf_int {m : Int} (h : (Lit.int .i64 m).wf = true) : -9223372036854775808 ≤ m ∧ m < 9223372036854775808 := by
  simp [Lit.wf, IntKind.min, IntKind.max, IntKind.bits, IntKind.signed] at h
  omega
theorem term_reads {H : Type} {enc : TypeId × Value → H} {w : World} {B : Nat} (hroom : B * 40 ≤ room) : ∀ (N : Nat) {fuel : Nat} {cs : List Value} {x : DataW H × List MemPlace}, DataW.trod enc Tryz.prog w 0 (fun _ => true) true fuel 63 cs = some x →
    Rows.uptoBulk x.1 ≤ N → Rows.uptoBulk x.1 ≤ B → ∃ t : T, All2 (RC (gOf w) w) t.cells cs ∧ t.count ≤ Rows.uptoBulk x.1 ∧ t.wf = true := by
  intro N
  induction N with
  | zero => intro fuel cs x h hb _; have := bulk_one x.1; omega
  | succ N ih =>
    intro fuel cs x h hb hB
    obtain ⟨y0, y1, y2, n, rfl, hlen, h0, h1, h2⟩ := Go.Deep.trod_struct3 Tryz.underlying63 h
    rw [cell24] at hlen
    obtain ⟨v0, v1, v2, rfl⟩ := three hlen
    simp only [cell3, cell22, List.drop_zero, List.drop_succ_cons, List.take_succ_cons, List.take_zero] at h0 h1 h2
    obtain ⟨k, e0, rfl, _⟩ := DataW.trod_int Tryz.underlying3 h0
    obtain ⟨m, e1, rfl, hw1⟩ := DataW.trod_int Tryz.underlying3 h1
    cases e0; cases e1
    have hwm := wf_int hw1
    simp only [Rows.uptoBulk, Rows.uptoBulkAll] at hb hB
    rcases Go.Deep.open_slice Tryz.underlying61 h2 with ⟨e2, rfl⟩ | ⟨a, len, cap, mm, nn, D, Pl, e2, _, hl, _, hm, rfl, hel⟩
    · cases e2
      refine ⟨.mk k m [], ?_⟩
      rw [cells_mk]
      exact ⟨⟨.v _ rfl, .v _ rfl, (nil_spec (gOf w) w 3 40).1, trivial⟩, by simp [T.count, T.countL, Rows.uptoBulk, Rows.uptoBulkAll], by simp [T.wf, T.wfL, hwm]⟩
    · cases e2
      simp only [if_true] at hm
      subst hm
      simp only [Rows.uptoBulk] at hb hB
      have hlen2 : len ≤ B := by
        have := bulk_all_len ((List.range len).map D)
        simp at this
        omega
      have hk : ∀ i, ∃ (t : T) (us : List Value), i < len → w.cells? 0 (a.add (i * 3)) 3 = some us ∧ All2 (RC (gOf w) w) t.cells us ∧ t.count ≤ Rows.uptoBulk (D i) ∧ t.wf = true := fun i => by
        by_cases hi : i < len
        · obtain ⟨us, hu1, hu2⟩ := hel i (by omega)
          rw [cell24] at hu1
          have hD : D i ∈ (List.range len).map D := List.mem_map.2 ⟨i, by simpa using hi, rfl⟩
          have hle := bulk_mem hD
          obtain ⟨t, ht, hc, hw⟩ := ih hu2 (by simp only; omega) (by simp only; omega)
          exact ⟨t, us, fun _ => ⟨hu1, ht, hc, hw⟩⟩
        · exact ⟨default, [], fun h => absurd h hi⟩
      refine ⟨.mk k m ((List.range len).map fun i => Classical.choose (hk i)), ?_⟩
      rw [cells_mk]
      refine ⟨⟨.v _ rfl, .v _ rfl, ?_, trivial⟩, ?_, ?_⟩
      rotate_left
      · have hsum : ∀ m, m ≤ len → T.countL ((List.range m).map fun i => Classical.choose (hk i)) ≤ Rows.uptoBulkAll ((List.range m).map D) := by
          intro m
          induction m with
          | zero => intro _; simp [T.countL]
          | succ m ihm =>
            intro hm
            have h1 := ihm (by omega)
            obtain ⟨us, h2⟩ := Classical.choose_spec (hk m)
            have h3 := (h2 (by omega)).2.2.1
            rw [List.range_succ, List.map_append, List.map_append, countL_append, bulkAll_append]
            simp [T.countL, Rows.uptoBulkAll]
            omega
        have := hsum len (Nat.le_refl _)
        simp only [T.count, Rows.uptoBulk, Rows.uptoBulkAll]
        omega
      · simp only [T.wf, wfL_all, Bool.and_eq_true, List.all_eq_true]
        refine ⟨by simpa using hwm, fun t ht => ?_⟩
        obtain ⟨i, hi, rfl⟩ := List.mem_map.1 ht
        obtain ⟨us, h2⟩ := Classical.choose_spec (hk i)
        exact (h2 (by simpa using hi)).2.2.2
      have hspec : ∀ i, i < len → ∃ us, w.cells? 0 (a.add (i * 3)) 3 = some us ∧ All2 (RC (gOf w) w) (Classical.choose (hk i)).cells us := fun i hi => by
        obtain ⟨us, h⟩ := Classical.choose_spec (hk i)
        exact ⟨us, (h hi).1, (h hi).2.1⟩
      have hat : ∀ i j, ∃ v, i < len → j < 3 → ∀ d, (Classical.choose (hk i)).cells[j]? = some d → w.cell? (a.add (i * 3 + j)) = some v ∧ RC (gOf w) w d v := fun i j => by
        by_cases hi : i < len
        · obtain ⟨us, hu, hall⟩ := hspec i hi
          by_cases hj : j < 3
          · have hul : us.length = 3 := by have := hall.length; simpa using this.symm
            refine ⟨us[j]'(by omega), fun _ _ d hd => ?_⟩
            unfold World.cells? at hu
            rw [if_pos (Nat.zero_le _)] at hu
            have hg := mapM_some_get hu j j (by simp [hj])
            rw [List.getElem?_eq_getElem (by omega)] at hg
            rw [Addr.add_add] at hg
            obtain ⟨b, hb1, hb2⟩ := hall.get j d hd
            rw [List.getElem?_eq_getElem (by omega)] at hb1
            cases hb1
            exact ⟨hg, hb2⟩
          · exact ⟨undef, fun _ h => absurd h hj⟩
        · exact ⟨undef, fun h => absurd h hi⟩
      have hes : ∀ (i j : Nat) l d, (((List.range len).map fun i => Classical.choose (hk i)).map T.cells)[i]? = some l → l[j]? = some d → i < len ∧ j < 3 ∧ (Classical.choose (hk i)).cells[j]? = some d := fun i j l d e1 e2 => by
        simp only [List.getElem?_map, Option.map_eq_some_iff, List.getElem?_eq_some_iff] at e1
        obtain ⟨t, ⟨i', ⟨hi', e3⟩, rfl⟩, rfl⟩ := e1
        simp at e3 hi'
        subst e3
        have hj := (List.getElem?_eq_some_iff.1 e2).1
        rw [cells_len] at hj
        exact ⟨hi', hj, e2⟩
      have key : RD (gOf w) w (.sl 3 40 (((List.range len).map fun i => Classical.choose (hk i)).map T.cells)) (.slice (some a) (((List.range len).map fun i => Classical.choose (hk i)).map T.cells).length mm) := by
        refine .sl 3 40 _ (some a) mm (fun i j => Classical.choose (hat i j)) (by simpa using hl) (by simp; omega) (fun l hl => ?_) (fun i j l d e1 e2 => ?_) (fun i j l d e1 e2 => ?_)
        · obtain ⟨t, _, rfl⟩ := List.mem_map.1 hl
          exact cells_len t
        · obtain ⟨hi, hj, hd⟩ := hes i j l d e1 e2
          have := (Classical.choose_spec (hat i j) hi hj d hd).1
          exact ⟨_, rfl, cell_lt this, this⟩
        · obtain ⟨hi, hj, hd⟩ := hes i j l d e1 e2
          have := (Classical.choose_spec (hat i j) hi hj d hd).2
          exact isD_spec this (cells_isD' _ d (List.mem_of_getElem? hd))
      have key2 : RC (gOf w) w (.sl 3 40 (((List.range len).map fun i => Classical.choose (hk i)).map T.cells)) (.slice (some a) (((List.range len).map fun i => Classical.choose (hk i)).map T.cells).length mm) := key
      simpa using key2

theorem arg_term {H : Type} {enc : TypeId × Value → H} {w : World} {v : Value} {d : DataW H} {ps : List MemPlace} (h : DataW.Trod enc Tryz.prog w 0 (fun _ => true) true 63 v d ps) (hv : ∃ cs, v = .agg cs) (hb : Rows.uptoBulk d ≤ 1048576) :
    ∃ t : T, RV2 (gOf w) w (tm t) v ∧ t.count ≤ 1048576 := by
  obtain ⟨fuel, h⟩ := h
  obtain ⟨cs, rfl⟩ := hv
  obtain ⟨t, ht, hc, _⟩ := term_reads (B := 1048576) (by simp [room]) _ h (Nat.le_refl _) hb
  exact ⟨t, ⟨cs, rfl, ht⟩, Nat.le_trans hc hb⟩

theorem arg_termW {H : Type} {enc : TypeId × Value → H} {w : World} {v : Value} {d : DataW H} {ps : List MemPlace} (h : DataW.Trod enc Tryz.prog w 0 (fun _ => true) true 63 v d ps) (hv : ∃ cs, v = .agg cs) (hb : Rows.uptoBulk d ≤ 1048576) :
    ∃ t : T, RV2 (gOf w) w (tm t) v ∧ t.count ≤ 1048576 ∧ t.wf = true := by
  obtain ⟨fuel, h⟩ := h
  obtain ⟨cs, rfl⟩ := hv
  obtain ⟨t, ht, hc, hw⟩ := term_reads (B := 1048576) (by simp [room]) _ h (Nat.le_refl _) hb
  exact ⟨t, ⟨cs, rfl, ht⟩, Nat.le_trans hc hb, hw⟩

/-- What a function is said to compute, it computes; and nothing that lay in memory is touched. -/
theorem calls_of_fn {P : Program} {f : Nat} {args : List AV} {res : AV} (h : Fn P f args res) {w : World} {vs : Array Value} (ha : All2 (RV2 (gOf w) w) args vs.toList) :
    Calls P f vs w fun e w' => ∃ v, e = .returned v ∧ Below w.heap.size w w' ∧ ∃ g', RV2 g' w' res v := by
  refine (h.2 (gOf w) w vs (fun b _ hb => hb) ha ⟨fun k t q hq => by simp at hq, fun k k' t t' q q' hq => by simp at hq⟩).mono ?_
  rintro e w' ⟨v, g', rfl, hp⟩
  refine ⟨v, rfl, ⟨hp.os, hp.tape, hp.out, hp.grow, fun b hb => (hp.frame b hb ?_).1⟩, g', hp.res⟩
  rintro ⟨k, t, q, hq, _⟩
  simp at hq

theorem calls_bool {P : Program} {f : Nat} {args : List AV} {b : Bool} (h : Fn P f args (bb b)) {w : World} {vs : Array Value} (ha : All2 (RV2 (gOf w) w) args vs.toList) :
    Calls P f vs w fun e w' => e = .returned (.bool b) ∧ Below w.heap.size w w' := by
  refine (calls_of_fn h ha).mono ?_
  rintro e w' ⟨v, rfl, hb, g', hv⟩
  exact ⟨by rw [RV2_v hv], hb⟩
end Go.Abs

namespace Go.Abs
open Go.Proofs Go.Proofs.YtfgjannlepahgaaGreat Go.RowKit

theorem und38 : Tryz.prog.underlying 24 = some (.slice 3) := by kernel_rfl

set_option maxRecDepth 100000 in
theorem slice_ok {w : World} {base : Nat} {v : Value} (h : Value.okWide Tryz.prog w .any base 24 v) : ∃ a n c, v = .slice a n c := Go.WideShapes.okWide_slice und38 h
theorem arg_ints {H : Type} {enc : TypeId × Value → H} {w : World} {v : Value} {d : DataW H} {ps : List MemPlace} (h : DataW.Trod enc Tryz.prog w 0 (fun _ => true) true 24 v d ps) (hv : ∃ a n c, v = .slice a n c) (hb : Rows.uptoBulk d ≤ 1048576) :
    ∃ l : List Int, RV2 (gOf w) w (is l) v ∧ l.length ≤ 1048576 := by
  obtain ⟨fuel, h⟩ := h
  obtain ⟨a0, n0, c0, rfl⟩ := hv
  rcases Go.Deep.open_slice und38 h with ⟨e, _⟩ | ⟨a, len, cap, mm, nn, D, Pl, e, _, hl, _, hm, hd, hel⟩
  · have e' : [Value.slice a0 n0 c0] = [.slice none 0 0] := e
    cases e'
    exact ⟨[], fun _ => (nil_spec (gOf w) w 1 8).1, by simp⟩
  · have e' : [Value.slice a0 n0 c0] = [.slice (some a) len cap] := e
    cases e'
    simp only [if_true] at hm
    subst hm
    cases hd
    simp only [Rows.uptoBulk] at hb
    have hlen2 : n0 ≤ 1048576 := by
      have := bulk_all_len ((List.range n0).map D)
      simp at this
      omega
    have hk : ∀ i, ∃ m : Int, i < n0 → w.cell? (a.add i) = some (.int .i64 m) := fun i => by
      by_cases hi : i < n0
      · obtain ⟨us, hu1, hu2⟩ := hel i (by omega)
        obtain ⟨m, e0, _, _⟩ := DataW.trod_int Tryz.underlying3 hu2
        subst e0
        rw [cell3] at hu1
        unfold World.cells? at hu1
        rw [if_pos (Nat.zero_le _)] at hu1
        have hg := mapM_some_get hu1 0 0 (by simp)
        rw [Addr.add_add] at hg
        exact ⟨m, fun _ => by simpa using hg⟩
      · exact ⟨0, fun h => absurd h hi⟩
    refine ⟨(List.range n0).map fun i => Classical.choose (hk i), ?_, by simpa using hlen2⟩
    intro _
    have key : RD (gOf w) w (.sl 1 8 (((List.range n0).map fun i => Classical.choose (hk i)).map fun n => [.v (.int .i64 n)])) (.slice (some a) (((List.range n0).map fun i => Classical.choose (hk i)).map fun n => [Cell.v (.int .i64 n)]).length mm) := by
      have hes : ∀ (i j : Nat) l d, (((List.range n0).map fun i => Classical.choose (hk i)).map fun n => [Cell.v (.int .i64 n)])[i]? = some l → l[j]? = some d → i < n0 ∧ j = 0 ∧ d = .v (.int .i64 (Classical.choose (hk i))) := fun i j l d e1 e2 => by
        simp only [List.getElem?_map, Option.map_eq_some_iff, List.getElem?_eq_some_iff] at e1
        obtain ⟨t, ⟨i', ⟨hi', e3⟩, rfl⟩, rfl⟩ := e1
        simp at e3 hi'
        subst e3
        cases j with
        | zero => simp at e2; exact ⟨hi', rfl, e2.symm⟩
        | succ j => simp at e2
      refine .sl 1 8 _ (some a) mm (fun i j => .int .i64 (Classical.choose (hk i))) (by simpa using hl) (by simp [room]; omega) (fun l hl => ?_) (fun i j l d e1 e2 => ?_) (fun i j l d e1 e2 => ?_)
      · obtain ⟨t, _, rfl⟩ := List.mem_map.1 hl; rfl
      · obtain ⟨hi, rfl, rfl⟩ := hes i j l d e1 e2
        have := Classical.choose_spec (hk i) hi
        have hlt := cell_lt this
        exact ⟨_, rfl, by simpa [gOf] using hlt, by simpa using this⟩
      · obtain ⟨hi, rfl, rfl⟩ := hes i j l d e1 e2
        exact .v _ rfl
    have key2 : RC (gOf w) w (.sl 1 8 (((List.range n0).map fun i => Classical.choose (hk i)).map fun n => [.v (.int .i64 n)])) (.slice (some a) (((List.range n0).map fun i => Classical.choose (hk i)).map fun n => [Cell.v (.int .i64 n)]).length mm) := key
    simpa using key2
end Go.Abs

namespace Go.Abs

/- porism/deps.Order -/
def w1012_0 : List (List Nat) := [[], [1012036], [], [1012038], [], []]
def f1012_0 : List (List Nat) := [[1012038], [1012038], [1012036], [1012036], [1012038], []]
def w1012_1 : List (List Nat) := [[], [], [], [], [], [], [], [], [], [], [], [1012063], [], [1012038]]
def f1012_1 : List (List Nat) := [[1012063], [1012063], [1012063], [], [], [], [], [], [], [], [], [], [], []]
def c1012b0 : SCode :=
  .seq (.reg
       [⟨some 42, none, .bin .lss (.t 41) (.t 40)⟩])
  (.seq (.cond (.t 42)
      (.skip)
      (.exit 0))
  (.seq (.block 1 (.seq (.reg
           [⟨some 43, none, .iad 28 2 (.t 39) (.t 41)⟩,
            ⟨some 44, none, .ldn 28 2 (.t 43)⟩,
            ⟨some 10, none, .alloc 28 [.v (.int .i64 0), .v (.int .i64 0)]⟩,
            ⟨none, none, .stn 28 2 (.t 10) (.t 44)⟩])
      (.seq (.reg
           [⟨some 45, none, .mv (.t 7)⟩,
            ⟨some 46, none, .iaa 3 1 2 (.t 10) (.k (.int .i64 1))⟩,
            ⟨some 47, none, .ld1 3 (.t 46)⟩,
            ⟨some 48, none, .iad 3 1 (.t 45) (.t 47)⟩,
            ⟨some 49, none, .ld1 3 (.t 48)⟩,
            ⟨some 50, none, .bin .add (.t 49) (.k (.int .i64 1))⟩,
            ⟨some 51, none, .iad 3 1 (.t 45) (.t 47)⟩,
            ⟨none, none, .st1 3 (.t 51) (.t 50)⟩])
      (.seq (.gh)
      (.seq (.dreg [0, 0, 2, 0, 0, 16, 56, 120, 0, 256, 768, 2040, 4095, 8191]
           [⟨some 52, none, .mv (.t 8)⟩,
            ⟨some 53, none, .iaa 3 1 2 (.t 10) (.k (.int .i64 0))⟩,
            ⟨some 54, none, .ld1 3 (.t 53)⟩,
            ⟨some 55, none, .mv (.t 8)⟩,
            ⟨some 56, none, .iaa 3 1 2 (.t 10) (.k (.int .i64 0))⟩,
            ⟨some 57, none, .ld1 3 (.t 56)⟩,
            ⟨some 58, none, .iad 24 1 (.t 55) (.t 57)⟩,
            ⟨some 59, none, .ld1 24 (.t 58)⟩,
            ⟨some 60, none, .iaa 3 1 2 (.t 10) (.k (.int .i64 1))⟩,
            ⟨some 61, none, .ld1 3 (.t 60)⟩,
            ⟨some 62, none, .lit 3 1 8 [.t 61]⟩,
            ⟨some 63, none, .app 3 1 8 (.t 59) (.t 62)⟩,
            ⟨some 64, none, .iad 24 1 (.t 52) (.t 54)⟩,
            ⟨none, none, .st1 24 (.t 64) (.t 63)⟩])
      (.gh))))))
  (.reg
     [⟨some 65, none, .bin .add (.t 41) (.k (.int .i64 1))⟩,
      ⟨some 41, none, .mv (.t 65)⟩])))
def c1012b1 : SCode :=
  .seq (.reg
       [⟨some 70, none, .bin .lss (.t 69) (.t 68)⟩])
  (.seq (.cond (.t 70)
      (.skip)
      (.exit 2))
  (.seq (.block 3 (.seq (.reg
           [⟨some 71, none, .mv (.t 69)⟩,
            ⟨some 12, none, .mv (.t 71)⟩])
      (.seq (.reg
           [⟨some 72, none, .mv (.t 7)⟩,
            ⟨some 73, none, .mv (.t 12)⟩,
            ⟨some 74, none, .iad 3 1 (.t 72) (.t 73)⟩,
            ⟨some 75, none, .ld1 3 (.t 74)⟩,
            ⟨some 76, none, .bin .eql (.t 75) (.k (.int .i64 0))⟩])
      (.cond (.t 76)
        (.reg
           [⟨some 77, none, .mv (.t 11)⟩,
            ⟨some 78, none, .mki 55 (.t 77)⟩,
            ⟨some 79, none, .mv (.t 12)⟩,
            ⟨some 80, none, .mki 3 (.t 79)⟩,
            ⟨some 81, none, .call (.f 30) [.t 78, .t 80]⟩])
        (.skip)))))
  (.reg
     [⟨some 82, none, .bin .add (.t 69) (.k (.int .i64 1))⟩,
      ⟨some 69, none, .mv (.t 82)⟩])))
def c1012b2 : SCode :=
  .seq (.reg
       [⟨some 107, none, .bin .lss (.t 106) (.t 105)⟩])
  (.seq (.cond (.t 107)
      (.skip)
      (.exit 6))
  (.seq (.block 7 (.seq (.reg
           [⟨some 108, none, .iad 3 1 (.t 104) (.t 106)⟩,
            ⟨some 109, none, .ld1 3 (.t 108)⟩,
            ⟨some 17, none, .mv (.t 109)⟩])
      (.seq (.reg
           [⟨some 110, none, .mv (.t 7)⟩,
            ⟨some 111, none, .mv (.t 17)⟩,
            ⟨some 112, none, .iad 3 1 (.t 110) (.t 111)⟩,
            ⟨some 113, none, .ld1 3 (.t 112)⟩,
            ⟨some 114, none, .bin .sub (.t 113) (.k (.int .i64 1))⟩,
            ⟨some 115, none, .iad 3 1 (.t 110) (.t 111)⟩,
            ⟨none, none, .st1 3 (.t 115) (.t 114)⟩])
      (.seq (.reg
           [⟨some 116, none, .mv (.t 7)⟩,
            ⟨some 117, none, .mv (.t 17)⟩,
            ⟨some 118, none, .iad 3 1 (.t 116) (.t 117)⟩,
            ⟨some 119, none, .ld1 3 (.t 118)⟩,
            ⟨some 120, none, .bin .eql (.t 119) (.k (.int .i64 0))⟩])
      (.cond (.t 120)
        (.reg
           [⟨some 121, none, .mv (.t 11)⟩,
            ⟨some 122, none, .mki 55 (.t 121)⟩,
            ⟨some 123, none, .mv (.t 17)⟩,
            ⟨some 124, none, .mki 3 (.t 123)⟩,
            ⟨some 125, none, .call (.f 30) [.t 122, .t 124]⟩])
        (.skip))))))
  (.reg
     [⟨some 126, none, .bin .add (.t 106) (.k (.int .i64 1))⟩,
      ⟨some 106, none, .mv (.t 126)⟩])))
def c1012b3 : SCode :=
  .seq (.seq (.reg
         [⟨some 83, none, .mv (.t 11)⟩,
          ⟨some 84, none, .nilc (.t 83)⟩,
          ⟨some 85, none, .ld1 56 (.t 84)⟩,
          ⟨some 86, none, .call (.f 31) [.t 85]⟩,
          ⟨some 87, none, .bin .gtr (.t 86) (.k (.int .i64 0))⟩])
    (.cond (.t 87)
      (.skip)
      (.exit 4)))
  (.block 5 (.seq (.reg
         [⟨some 89, none, .mv (.t 11)⟩,
          ⟨some 90, none, .mki 55 (.t 89)⟩,
          ⟨some 91, none, .call (.f 32) [.t 90]⟩,
          ⟨some 92, none, .tas 3 (.t 91)⟩,
          ⟨some 88, none, .mv (.t 92)⟩,
          ⟨some 93, none, .ext (.t 88) 0⟩,
          ⟨some 94, none, .ext (.t 88) 1⟩,
          ⟨some 14, none, .mv (.t 93)⟩,
          ⟨some 15, none, .mv (.t 94)⟩])
    (.seq (.seq (.reg
           [⟨some 95, none, .mv (.t 15)⟩,
            ⟨some 96, none, .not (.t 95)⟩])
      (.cond (.t 96)
        (.exit 4)
        (.skip)))
    (.seq (.reg
         [⟨some 97, none, .mv (.t 13)⟩,
          ⟨some 98, none, .mv (.t 14)⟩,
          ⟨some 99, none, .lit 3 1 8 [.t 98]⟩,
          ⟨some 100, none, .app 3 1 8 (.t 97) (.t 99)⟩,
          ⟨some 13, none, .mv (.t 100)⟩])
    (.seq (.seq (.gh)
      (.reg
         [⟨some 101, none, .mv (.t 8)⟩,
          ⟨some 102, none, .mv (.t 14)⟩,
          ⟨some 103, none, .iad 24 1 (.t 101) (.t 102)⟩,
          ⟨some 104, none, .ld1 24 (.t 103)⟩,
          ⟨some 105, none, .len 24 (.t 104)⟩,
          ⟨some 106, none, .mv (.k (.int .i64 0))⟩]))
    (.block 6 (.loop c1012b2)))))))
def c1012 : SCode :=
  .seq (.reg
       [⟨some 2, none, .box 3 (.t 0)⟩,
        ⟨some 4, none, .mv (.nil 1 8)⟩,
        ⟨some 5, none, .mv (.k (.int .i64 0))⟩])
  (.seq (.reg
       [⟨some 18, none, .mkfn 28 [] [.t 2]⟩,
        ⟨some 6, none, .mv (.t 18)⟩])
  (.seq (.seq (.reg
         [⟨some 19, none, .ld1 3 (.t 2)⟩,
          ⟨some 20, none, .bin .lss (.t 19) (.k (.int .i64 0))⟩,
          ⟨some 21, none, .mv (.t 20)⟩,
          ⟨some 22, some (21, false), .ld1 3 (.t 2)⟩,
          ⟨some 23, some (21, false), .bin .gtr (.t 22) (.k (.int .i64 200))⟩,
          ⟨some 24, none, .pick (.t 21) (.k (.bool true)) (.t 23)⟩,
          ⟨some 25, none, .mv (.t 24)⟩,
          ⟨some 26, some (25, false), .mv (.t 1)⟩,
          ⟨some 27, some (25, false), .len 22 (.t 26)⟩,
          ⟨some 28, some (25, false), .bin .gtr (.t 27) (.k (.int .i64 4000))⟩,
          ⟨some 29, none, .pick (.t 25) (.k (.bool true)) (.t 28)⟩,
          ⟨some 30, none, .mv (.t 29)⟩,
          ⟨some 31, some (30, false), .mv (.t 1)⟩,
          ⟨some 32, some (30, false), .mv (.t 6)⟩,
          ⟨some 33, some (30, false), .call (.f 29) [.t 31, .t 32]⟩,
          ⟨some 34, none, .pick (.t 30) (.k (.bool true)) (.t 33)⟩])
    (.cond (.t 34)
      (.seq (.reg
           [⟨some 4, none, .mv (.nil 1 8)⟩,
            ⟨some 5, none, .mv (.k (.int .i64 1))⟩])
      (.ret))
      (.skip)))
  (.seq (.dreg [0, 1, 0, 4, 3, 31]
       [⟨some 35, none, .ld1 3 (.t 2)⟩,
        ⟨some 36, none, .mk 3 1 8 [.v (.int .i64 0)] (.t 35)⟩,
        ⟨some 37, none, .ld1 3 (.t 2)⟩,
        ⟨some 38, none, .mkb 24 24 (.cap 1 8 []) (.t 37)⟩,
        ⟨some 7, none, .mv (.t 36)⟩,
        ⟨some 8, none, .mv (.t 38)⟩])
  (.seq (.seq (.reg
         [⟨some 39, none, .mv (.t 1)⟩,
          ⟨some 40, none, .len 22 (.t 39)⟩,
          ⟨some 41, none, .mv (.k (.int .i64 0))⟩])
    (.block 0 (.loop c1012b0)))
  (.seq (.seq (.reg
         [⟨some 66, none, .lit 3 1 8 []⟩,
          ⟨some 67, none, .box 56 (.t 66)⟩,
          ⟨some 11, none, .mv (.t 67)⟩])
    (.gh))
  (.seq (.seq (.reg
         [⟨some 68, none, .ld1 3 (.t 2)⟩,
          ⟨some 69, none, .mv (.k (.int .i64 0))⟩])
    (.block 2 (.loop c1012b1)))
  (.seq (.reg
       [⟨some 13, none, .mv (.nil 1 8)⟩])
  (.seq (.block 4 (.loop c1012b3))
  (.seq (.seq (.reg
         [⟨some 127, none, .mv (.t 13)⟩,
          ⟨some 128, none, .len 24 (.t 127)⟩,
          ⟨some 129, none, .ld1 3 (.t 2)⟩,
          ⟨some 130, none, .bin .lss (.t 128) (.t 129)⟩])
    (.cond (.t 130)
      (.seq (.reg
           [⟨some 4, none, .mv (.nil 1 8)⟩,
            ⟨some 5, none, .mv (.k (.int .i64 12))⟩])
      (.ret))
      (.skip)))
  (.seq (.reg
       [⟨some 131, none, .mv (.t 13)⟩,
        ⟨some 4, none, .mv (.t 131)⟩,
        ⟨some 5, none, .mv (.k (.int .i64 0))⟩])
  (.ret)))))))))))
def r1012 : List RR := [.t 4, .t 5]
theorem ok1012 : okFn Go.Proofs.Tryz.prog 12 132 c1012 r1012 2 = true := by kernel_rfl

/- porism/deps.Order$1 -/
def c1028 : SCode :=
  .seq (.reg
       [⟨some 2, none, .box 28 (.t 0)⟩,
        ⟨some 3, none, .mv (.k (.bool false))⟩])
  (.seq (.reg
       [⟨some 4, none, .iaa 3 1 2 (.t 2) (.k (.int .i64 0))⟩,
        ⟨some 5, none, .ld1 3 (.t 4)⟩,
        ⟨some 6, none, .bin .lss (.t 5) (.k (.int .i64 0))⟩,
        ⟨some 7, none, .mv (.t 6)⟩,
        ⟨some 8, some (7, false), .iaa 3 1 2 (.t 2) (.k (.int .i64 0))⟩,
        ⟨some 9, some (7, false), .ld1 3 (.t 8)⟩,
        ⟨some 10, some (7, false), .ld1 3 (.t 1)⟩,
        ⟨some 11, some (7, false), .bin .geq (.t 9) (.t 10)⟩,
        ⟨some 12, none, .pick (.t 7) (.k (.bool true)) (.t 11)⟩,
        ⟨some 13, none, .mv (.t 12)⟩,
        ⟨some 14, some (13, false), .iaa 3 1 2 (.t 2) (.k (.int .i64 1))⟩,
        ⟨some 15, some (13, false), .ld1 3 (.t 14)⟩,
        ⟨some 16, some (13, false), .bin .lss (.t 15) (.k (.int .i64 0))⟩,
        ⟨some 17, none, .pick (.t 13) (.k (.bool true)) (.t 16)⟩,
        ⟨some 18, none, .mv (.t 17)⟩,
        ⟨some 19, some (18, false), .iaa 3 1 2 (.t 2) (.k (.int .i64 1))⟩,
        ⟨some 20, some (18, false), .ld1 3 (.t 19)⟩,
        ⟨some 21, some (18, false), .ld1 3 (.t 1)⟩,
        ⟨some 22, some (18, false), .bin .geq (.t 20) (.t 21)⟩,
        ⟨some 23, none, .pick (.t 18) (.k (.bool true)) (.t 22)⟩,
        ⟨some 3, none, .mv (.t 23)⟩])
  (.ret))
def r1028 : List RR := [.t 3]
theorem ok1028 : okFn Go.Proofs.Tryz.prog 28 24 c1028 r1028 2 = true := by kernel_rfl

/- slices.ContainsFunc[[][2]int,[2]int] -/
def c1029 : SCode :=
  .seq (.reg
       [⟨some 4, none, .mv (.k (.bool false))⟩])
  (.seq (.reg
       [⟨some 5, none, .mv (.t 0)⟩,
        ⟨some 6, none, .mv (.t 1)⟩,
        ⟨some 7, none, .call (.f 55) [.t 5, .t 6]⟩,
        ⟨some 8, none, .bin .geq (.t 7) (.k (.int .i64 0))⟩,
        ⟨some 4, none, .mv (.t 8)⟩])
  (.ret))
def r1029 : List RR := [.t 4]
theorem ok1029 : okFn Go.Proofs.Tryz.prog 29 9 c1029 r1029 2 = true := by kernel_rfl

/- slices.IndexFunc[[][2]int,[2]int] -/
def c1055b0 : SCode :=
  .seq (.reg
       [⟨some 9, none, .bin .lss (.t 8) (.t 7)⟩])
  (.seq (.cond (.t 9)
      (.skip)
      (.exit 0))
  (.seq (.block 1 (.seq (.reg
           [⟨some 10, none, .mv (.t 8)⟩,
            ⟨some 5, none, .mv (.t 10)⟩])
      (.seq (.reg
           [⟨some 11, none, .mv (.t 1)⟩,
            ⟨some 12, none, .mv (.t 0)⟩,
            ⟨some 13, none, .mv (.t 5)⟩,
            ⟨some 14, none, .iad 28 2 (.t 12) (.t 13)⟩,
            ⟨some 15, none, .ldn 28 2 (.t 14)⟩,
            ⟨some 16, none, .call (.t 11) [.t 15]⟩])
      (.cond (.t 16)
        (.seq (.reg
             [⟨some 17, none, .mv (.t 5)⟩,
              ⟨some 4, none, .mv (.t 17)⟩])
        (.ret))
        (.skip)))))
  (.reg
     [⟨some 18, none, .bin .add (.t 8) (.k (.int .i64 1))⟩,
      ⟨some 8, none, .mv (.t 18)⟩])))
def c1055 : SCode :=
  .seq (.reg
       [⟨some 4, none, .mv (.k (.int .i64 0))⟩])
  (.seq (.seq (.reg
         [⟨some 6, none, .mv (.t 0)⟩,
          ⟨some 7, none, .len 22 (.t 6)⟩,
          ⟨some 8, none, .mv (.k (.int .i64 0))⟩])
    (.block 0 (.loop c1055b0)))
  (.seq (.reg
       [⟨some 4, none, .mv (.k (.int .i64 (-1)))⟩])
  (.ret)))
def r1055 : List RR := [.t 4]
theorem ok1055 : okFn Go.Proofs.Tryz.prog 55 19 c1055 r1055 2 = true := by kernel_rfl

/- container/heap.Push -/
def c1030 : SCode :=
  .seq (.reg
       [⟨some 4, none, .mv (.t 0)⟩,
        ⟨some 5, none, .mv (.t 1)⟩,
        ⟨some 6, none, .inv 216 true 55 4 [.t 5]⟩])
  (.reg
     [⟨some 7, none, .mv (.t 0)⟩,
      ⟨some 8, none, .mv (.t 0)⟩,
      ⟨some 9, none, .inv 31 false 55 8 []⟩,
      ⟨some 10, none, .bin .sub (.t 9) (.k (.int .i64 1))⟩,
      ⟨some 11, none, .call (.f 56) [.t 7, .t 10]⟩])
def r1030 : List RR := []
theorem ok1030 : okFn Go.Proofs.Tryz.prog 30 12 c1030 r1030 2 = true := by kernel_rfl

/- container/heap.Pop -/
def c1032 : SCode :=
  .seq (.reg
       [⟨some 2, none, .mv (.k (.nilIface))⟩])
  (.seq (.reg
       [⟨some 4, none, .mv (.t 0)⟩,
        ⟨some 5, none, .inv 31 false 55 4 []⟩,
        ⟨some 6, none, .bin .sub (.t 5) (.k (.int .i64 1))⟩,
        ⟨some 3, none, .mv (.t 6)⟩])
  (.seq (.reg
       [⟨some 7, none, .mv (.t 0)⟩,
        ⟨some 8, none, .mv (.t 3)⟩,
        ⟨some 9, none, .inv 217 false 55 7 [.k (.int .i64 0), .t 8]⟩])
  (.seq (.reg
       [⟨some 10, none, .mv (.t 0)⟩,
        ⟨some 11, none, .mv (.t 3)⟩,
        ⟨some 12, none, .call (.f 57) [.t 10, .k (.int .i64 0), .t 11]⟩])
  (.seq (.reg
       [⟨some 13, none, .mv (.t 0)⟩,
        ⟨some 14, none, .inv 215 true 55 13 []⟩,
        ⟨some 2, none, .mv (.t 14)⟩])
  (.ret)))))
def r1032 : List RR := [.t 2]
theorem ok1032 : okFn Go.Proofs.Tryz.prog 32 15 c1032 r1032 1 = true := by kernel_rfl

/- container/heap.up -/
def c1056b0 : SCode :=
  .block 1 (.seq (.reg
         [⟨some 5, none, .mv (.t 1)⟩,
          ⟨some 6, none, .bin .sub (.t 5) (.k (.int .i64 1))⟩,
          ⟨some 7, none, .bin .quo (.t 6) (.k (.int .i64 2))⟩,
          ⟨some 4, none, .mv (.t 7)⟩])
    (.seq (.seq (.reg
           [⟨some 8, none, .mv (.t 4)⟩,
            ⟨some 9, none, .mv (.t 1)⟩,
            ⟨some 10, none, .bin .eql (.t 8) (.t 9)⟩,
            ⟨some 11, none, .mv (.t 10)⟩,
            ⟨some 12, some (11, false), .mv (.t 0)⟩,
            ⟨some 13, some (11, false), .mv (.t 1)⟩,
            ⟨some 14, some (11, false), .mv (.t 4)⟩,
            ⟨some 15, some (11, false), .inv 214 false 55 12 [.t 13, .t 14]⟩,
            ⟨some 16, some (11, false), .not (.t 15)⟩,
            ⟨some 17, none, .pick (.t 11) (.k (.bool true)) (.t 16)⟩])
      (.cond (.t 17)
        (.exit 0)
        (.skip)))
    (.seq (.reg
         [⟨some 18, none, .mv (.t 0)⟩,
          ⟨some 19, none, .mv (.t 4)⟩,
          ⟨some 20, none, .mv (.t 1)⟩,
          ⟨some 21, none, .inv 217 false 55 18 [.t 19, .t 20]⟩])
    (.reg
       [⟨some 22, none, .mv (.t 4)⟩,
        ⟨some 1, none, .mv (.t 22)⟩]))))
def c1056 : SCode :=
  .block 0 (.loop c1056b0)
def r1056 : List RR := []
theorem ok1056 : okFn Go.Proofs.Tryz.prog 56 23 c1056 r1056 2 = true := by kernel_rfl

/- container/heap.down -/
def c1057b0 : SCode :=
  .block 1 (.seq (.reg
         [⟨some 12, none, .mv (.t 7)⟩,
          ⟨some 13, none, .bin .mul (.k (.int .i64 2)) (.t 12)⟩,
          ⟨some 14, none, .bin .add (.t 13) (.k (.int .i64 1))⟩,
          ⟨some 8, none, .mv (.t 14)⟩])
    (.seq (.seq (.reg
           [⟨some 15, none, .mv (.t 8)⟩,
            ⟨some 16, none, .mv (.t 2)⟩,
            ⟨some 17, none, .bin .geq (.t 15) (.t 16)⟩,
            ⟨some 18, none, .mv (.t 17)⟩,
            ⟨some 19, some (18, false), .mv (.t 8)⟩,
            ⟨some 20, some (18, false), .bin .lss (.t 19) (.k (.int .i64 0))⟩,
            ⟨some 21, none, .pick (.t 18) (.k (.bool true)) (.t 20)⟩])
      (.cond (.t 21)
        (.exit 0)
        (.skip)))
    (.seq (.reg
         [⟨some 22, none, .mv (.t 8)⟩,
          ⟨some 9, none, .mv (.t 22)⟩])
    (.seq (.seq (.reg
           [⟨some 23, none, .mv (.t 8)⟩,
            ⟨some 24, none, .bin .add (.t 23) (.k (.int .i64 1))⟩,
            ⟨some 10, none, .mv (.t 24)⟩])
      (.seq (.reg
           [⟨some 25, none, .mv (.t 10)⟩,
            ⟨some 26, none, .mv (.t 2)⟩,
            ⟨some 27, none, .bin .lss (.t 25) (.t 26)⟩,
            ⟨some 28, none, .mv (.t 27)⟩,
            ⟨some 29, some (28, true), .mv (.t 0)⟩,
            ⟨some 30, some (28, true), .mv (.t 10)⟩,
            ⟨some 31, some (28, true), .mv (.t 8)⟩,
            ⟨some 32, some (28, true), .inv 214 false 55 29 [.t 30, .t 31]⟩,
            ⟨some 33, none, .pick (.t 28) (.t 32) (.k (.bool false))⟩])
      (.cond (.t 33)
        (.reg
           [⟨some 34, none, .mv (.t 10)⟩,
            ⟨some 9, none, .mv (.t 34)⟩])
        (.skip))))
    (.seq (.seq (.reg
           [⟨some 35, none, .mv (.t 0)⟩,
            ⟨some 36, none, .mv (.t 9)⟩,
            ⟨some 37, none, .mv (.t 7)⟩,
            ⟨some 38, none, .inv 214 false 55 35 [.t 36, .t 37]⟩,
            ⟨some 39, none, .not (.t 38)⟩])
      (.cond (.t 39)
        (.exit 0)
        (.skip)))
    (.seq (.reg
         [⟨some 40, none, .mv (.t 0)⟩,
          ⟨some 41, none, .mv (.t 7)⟩,
          ⟨some 42, none, .mv (.t 9)⟩,
          ⟨some 43, none, .inv 217 false 55 40 [.t 41, .t 42]⟩])
    (.reg
       [⟨some 44, none, .mv (.t 9)⟩,
        ⟨some 7, none, .mv (.t 44)⟩])))))))
def c1057 : SCode :=
  .seq (.reg
       [⟨some 6, none, .mv (.k (.bool false))⟩])
  (.seq (.reg
       [⟨some 11, none, .mv (.t 1)⟩,
        ⟨some 7, none, .mv (.t 11)⟩])
  (.seq (.block 0 (.loop c1057b0))
  (.seq (.reg
       [⟨some 45, none, .mv (.t 7)⟩,
        ⟨some 46, none, .mv (.t 1)⟩,
        ⟨some 47, none, .bin .gtr (.t 45) (.t 46)⟩,
        ⟨some 6, none, .mv (.t 47)⟩])
  (.ret))))
def r1057 : List RR := [.t 6]
theorem ok1057 : okFn Go.Proofs.Tryz.prog 57 48 c1057 r1057 3 = true := by kernel_rfl

/- (porism/deps.free).Len -/
def c1031 : SCode :=
  .seq (.reg
       [⟨some 2, none, .mv (.k (.int .i64 0))⟩])
  (.seq (.reg
       [⟨some 3, none, .mv (.t 0)⟩,
        ⟨some 4, none, .len 56 (.t 3)⟩,
        ⟨some 2, none, .mv (.t 4)⟩])
  (.ret))
def r1031 : List RR := [.t 2]
theorem ok1031 : okFn Go.Proofs.Tryz.prog 31 5 c1031 r1031 1 = true := by kernel_rfl

/- (porism/deps.free).Less -/
def c1214 : SCode :=
  .seq (.reg
       [⟨some 6, none, .mv (.k (.bool false))⟩])
  (.seq (.dreg [0, 0, 3, 7, 0, 0, 48, 112, 255, 511]
       [⟨some 7, none, .mv (.t 0)⟩,
        ⟨some 8, none, .mv (.t 1)⟩,
        ⟨some 9, none, .iad 3 1 (.t 7) (.t 8)⟩,
        ⟨some 10, none, .ld1 3 (.t 9)⟩,
        ⟨some 11, none, .mv (.t 0)⟩,
        ⟨some 12, none, .mv (.t 2)⟩,
        ⟨some 13, none, .iad 3 1 (.t 11) (.t 12)⟩,
        ⟨some 14, none, .ld1 3 (.t 13)⟩,
        ⟨some 15, none, .bin .lss (.t 10) (.t 14)⟩,
        ⟨some 6, none, .mv (.t 15)⟩])
  (.ret))
def r1214 : List RR := [.t 6]
theorem ok1214 : okFn Go.Proofs.Tryz.prog 214 16 c1214 r1214 3 = true := by kernel_rfl

/- (*porism/deps.free).Pop -/
def c1215 : SCode :=
  .seq (.reg
       [⟨some 2, none, .mv (.k (.nilIface))⟩])
  (.seq (.dreg [0, 1, 3, 0, 8, 24, 56, 120, 255, 511, 1023]
       [⟨some 4, none, .mv (.t 0)⟩,
        ⟨some 5, none, .nilc (.t 4)⟩,
        ⟨some 6, none, .ld1 56 (.t 5)⟩,
        ⟨some 7, none, .mv (.t 0)⟩,
        ⟨some 8, none, .nilc (.t 7)⟩,
        ⟨some 9, none, .ld1 56 (.t 8)⟩,
        ⟨some 10, none, .len 56 (.t 9)⟩,
        ⟨some 11, none, .bin .sub (.t 10) (.k (.int .i64 1))⟩,
        ⟨some 12, none, .iad 3 1 (.t 6) (.t 11)⟩,
        ⟨some 13, none, .ld1 3 (.t 12)⟩,
        ⟨some 3, none, .mv (.t 13)⟩])
  (.seq (.seq (.gh)
    (.seq (.dreg [0, 0, 2, 6, 0, 16, 48, 112, 240, 510, 1023, 2047]
         [⟨some 14, none, .mv (.t 0)⟩,
          ⟨some 15, none, .mv (.t 0)⟩,
          ⟨some 16, none, .nilc (.t 15)⟩,
          ⟨some 17, none, .ld1 56 (.t 16)⟩,
          ⟨some 18, none, .mv (.t 0)⟩,
          ⟨some 19, none, .nilc (.t 18)⟩,
          ⟨some 20, none, .ld1 56 (.t 19)⟩,
          ⟨some 21, none, .len 56 (.t 20)⟩,
          ⟨some 22, none, .bin .sub (.t 21) (.k (.int .i64 1))⟩,
          ⟨some 23, none, .shr 3 1 8 (.t 17) (.t 22)⟩,
          ⟨some 24, none, .nilc (.t 14)⟩,
          ⟨none, none, .st1 56 (.t 24) (.t 23)⟩])
    (.gh)))
  (.seq (.reg
       [⟨some 25, none, .mv (.t 3)⟩,
        ⟨some 26, none, .mki 3 (.t 25)⟩,
        ⟨some 2, none, .mv (.t 26)⟩])
  (.ret))))
def r1215 : List RR := [.t 2]
theorem ok1215 : okFn Go.Proofs.Tryz.prog 215 27 c1215 r1215 1 = true := by kernel_rfl

/- (*porism/deps.free).Push -/
def c1216 : SCode :=
  .seq (.reg
       [⟨some 7, none, .mv (.t 1)⟩,
        ⟨some 8, none, .tas 3 (.t 7)⟩,
        ⟨some 6, none, .mv (.t 8)⟩,
        ⟨some 9, none, .ext (.t 6) 0⟩,
        ⟨some 10, none, .ext (.t 6) 1⟩,
        ⟨some 4, none, .mv (.t 9)⟩,
        ⟨some 5, none, .mv (.t 10)⟩])
  (.seq (.reg
       [⟨some 11, none, .mv (.t 5)⟩])
  (.cond (.t 11)
    (.seq (.gh)
    (.seq (.reg
         [⟨some 12, none, .mv (.t 0)⟩,
          ⟨some 13, none, .mv (.t 0)⟩,
          ⟨some 14, none, .nilc (.t 13)⟩,
          ⟨some 15, none, .ld1 56 (.t 14)⟩,
          ⟨some 16, none, .mv (.t 4)⟩,
          ⟨some 17, none, .lit 3 1 8 [.t 16]⟩,
          ⟨some 18, none, .appm 3 1 8 (.t 15) (.t 17)⟩,
          ⟨some 19, none, .nilc (.t 12)⟩,
          ⟨none, none, .st1 56 (.t 19) (.t 18)⟩])
    (.gh)))
    (.skip)))
def r1216 : List RR := []
theorem ok1216 : okFn Go.Proofs.Tryz.prog 216 20 c1216 r1216 2 = true := by kernel_rfl

/- (porism/deps.free).Swap -/
def c1217 : SCode :=
  .dreg [0, 0, 0, 0, 0, 0, 48, 112, 0, 0, 768, 1792, 4083, 8179, 16383, 32767]
     [⟨some 6, none, .mv (.t 0)⟩,
      ⟨some 7, none, .mv (.t 1)⟩,
      ⟨some 8, none, .mv (.t 0)⟩,
      ⟨some 9, none, .mv (.t 2)⟩,
      ⟨some 10, none, .mv (.t 0)⟩,
      ⟨some 11, none, .mv (.t 2)⟩,
      ⟨some 12, none, .iad 3 1 (.t 10) (.t 11)⟩,
      ⟨some 13, none, .ld1 3 (.t 12)⟩,
      ⟨some 14, none, .mv (.t 0)⟩,
      ⟨some 15, none, .mv (.t 1)⟩,
      ⟨some 16, none, .iad 3 1 (.t 14) (.t 15)⟩,
      ⟨some 17, none, .ld1 3 (.t 16)⟩,
      ⟨some 18, none, .iad 3 1 (.t 6) (.t 7)⟩,
      ⟨none, none, .st1 3 (.t 18) (.t 13)⟩,
      ⟨some 19, none, .iad 3 1 (.t 8) (.t 9)⟩,
      ⟨none, none, .st1 3 (.t 19) (.t 17)⟩]
def r1217 : List RR := []
theorem ok1217 : okFn Go.Proofs.Tryz.prog 217 20 c1217 r1217 3 = true := by kernel_rfl

end Go.Abs

namespace Go.Abs
open Go.Proofs

def ic (l : List Int) : List (List Cell) := l.map fun n => [.v (.int .i64 n)]
@[simp] theorem ic_length (l : List Int) : (ic l).length = l.length := by simp [ic]
@[simp] theorem ic_at (l : List Int) (i : Nat) (h : i < (ic l).length) : (ic l)[i] = [.v (.int .i64 (l[i]'(by simpa using h)))] := by simp [ic]
theorem ic_get {l : List Int} {i : Nat} (h : i < l.length) : (ic l)[i]? = some [.v (.int .i64 l[i])] := by simp [ic, h]
@[simp] theorem ic_set (l : List Int) (i : Nat) (x : Int) : (ic l).set i [.v (.int .i64 x)] = ic (l.set i x) := by simp [ic, List.map_set]
@[simp] theorem ic_append (l m : List Int) : ic l ++ ic m = ic (l ++ m) := by simp [ic]
theorem ic_one (x : Int) : [[Cell.v (.int .i64 x)]] = ic [x] := rfl
def hrow (l : List Int) : Obj := .mrow 3 1 8 (ic l)
def hbox (t : Nat) : Obj := .box 56 [.own 1012200 t]

theorem zp31 (t : Nat) (l : List Int) : Spec Tryz.prog 31 [.c (.own 1012200 t)] [(1012200, t, hrow l)] (ib l.length) [(1012200, t, hrow l)] := by
  refine spec_one (base := 1031000) ok1031 rfl fun σ h0 oK gK hr => ?_
  have s0 : σ.sl 0 = .c (.own 1012200 t) := h0 0
  clear h0 hr
  unfold c1031
  simp [s0, oK, gK, hrow]
  exact EndU_one (by simp [r1031]) (by simp [r1031, ib]) (by simp [oK, hrow]) (by simp [gK])

theorem zn31 (l : List Int) : Fn Tryz.prog 31 [is l] (ib l.length) := by
  refine fn_of (base := 1031000) ok1031 rfl fun σ h0 hr => ?_
  have s0 : σ.sl 0 = is l := h0 0
  clear h0 hr
  unfold c1031
  simp [s0, is, r1031, ib]

theorem zp214 (t : Nat) (l : List Int) (i j : Nat) (hi : i < l.length) (hj : j < l.length) : Spec Tryz.prog 214 [.c (.own 1012200 t), ib i, ib j] [(1012200, t, hrow l)] (bb (decide (l[i] < l[j]))) [(1012200, t, hrow l)] := by
  refine spec_one (base := 1214000) ok1214 rfl fun σ h0 oK gK hr => ?_
  have s0 : σ.sl 0 = .c (.own 1012200 t) := h0 0
  have s1 : σ.sl 1 = .c (.v (.int .i64 i)) := h0 1
  have s2 : σ.sl 2 = .c (.v (.int .i64 j)) := h0 2
  clear h0 hr
  unfold c1214
  simp
  refine W_dregA ?_
  simp [s0, s1, s2, oK, gK, hrow, hi, hj, ic_get hi, ic_get hj]
  refine realC_n ?_
  simp
  exact EndU_one (by simp [r1214]) (by simp [r1214, bb]) (by simp [oK, hrow]) (by simp [gK])

def swp (l : List Int) (i j : Nat) : List Int := (l.set i l[j]!).set j l[i]!

def w1217 : List (List Nat) := [[], [], [], [], [], [], [], [], [], [], [], [], [], [1012200], [], [1012200]]
def f1217 : List (List Nat) := [[], [], [1012200], [1012200], [], [], [], [], [], [], [], [], [], [], [], []]
theorem zp217 (t : Nat) (l : List Int) (i j : Nat) (hi : i < l.length) (hj : j < l.length) : Spec Tryz.prog 217 [.c (.own 1012200 t), ib i, ib j] [(1012200, t, hrow l)] (.tup []) [(1012200, t, hrow (swp l i j))] := by
  refine spec_one (base := 1217000) ok1217 rfl fun σ h0 oK gK hr => ?_
  have s0 : σ.sl 0 = .c (.own 1012200 t) := h0 0
  have s1 : σ.sl 1 = .c (.v (.int .i64 i)) := h0 1
  have s2 : σ.sl 2 = .c (.v (.int .i64 j)) := h0 2
  clear h0 hr
  unfold c1217
  refine W_dregD w1217 f1217 (by decide) ?_
  unfold w1217 f1217
  simp [s0, s1, s2, oK, gK, hrow, hi, hj, ic_get hi, ic_get hj]
  refine realC_n ?_
  simp
  exact EndU_one (by simp [r1217]) (by simp [r1217]) (by simp [oK, hrow, swp, hi, hj]) (by simp [gK])

/-- A number in an interface. -/
def ifI (n : Int) : AV := .c (.v (.iface 3 (.int .i64 n)))

theorem zp216 (tB t : Nat) (l : List Int) (n : Int) (hl : (l.length + 1) * 8 ≤ 140737488355328) : Spec Tryz.prog 216 [.c (.ref 1012067 tB 0), ifI n] [(1012067, tB, hbox t), (1012200, t, hrow l)] (.tup []) [(1012067, tB, hbox (t + 1)), (1012200, t + 1, hrow (l ++ [n]))] := by
  refine spec_two (base := 1216000) ok1216 rfl (by decide) fun σ h0 oB gB oK gK hr => ?_
  have s0 : σ.sl 0 = .c (.ref 1012067 tB 0) := h0 0
  have s1 : σ.sl 1 = .c (.v (.iface 3 (.int .i64 n))) := h0 1
  clear h0 hr
  unfold c1216
  simp [s0, s1]
  refine W_stl (B := 1012067) (tb := 56) (cs := [.own 1012200 t]) (i := 0) (k := 1012200) (t := t) (K := 1012201) (q := hrow l) (by simp [oB, hbox]) rfl (by simp [gK]) (by simp [oK]) rfl (by decide) ?_
  simp [s0, s1, oB, gB, oK, gK, hbox, hrow]
  refine ⟨by simp [room], by simpa [room] using hl, W_stl (B := 1012067) (tb := 56) (cs := [.own 1216018 (σ.tg 1216018 + 1)]) (i := 0) (k := 1216018) (t := σ.tg 1216018 + 1) (K := 1012200) (q := hrow (l ++ [n])) (by simp) rfl (by simp) (by simp [hrow, ic]) rfl (by decide) ?_⟩
  rw [onEndU_n]
  refine EndU_two ?_ ?_ ?_ ?_ ?_ ?_ <;> simp [r1216, gK, gB, ic, hrow]

theorem zp216n (tB t : Nat) (n : Int) : Spec Tryz.prog 216 [.c (.ref 1012067 tB 0), ifI n] [(1012067, tB, hbox t), (1012200, t, .row 3 1 8 [])] (.tup []) [(1012067, tB, hbox (t + 1)), (1012200, t + 1, hrow [n])] := by
  refine spec_two (base := 1216000) ok1216 rfl (by decide) fun σ h0 oB gB oK gK hr => ?_
  have s0 : σ.sl 0 = .c (.ref 1012067 tB 0) := h0 0
  have s1 : σ.sl 1 = .c (.v (.iface 3 (.int .i64 n))) := h0 1
  clear h0 hr
  unfold c1216
  simp [s0, s1]
  refine W_stl (B := 1012067) (tb := 56) (cs := [.own 1012200 t]) (i := 0) (k := 1012200) (t := t) (K := 1012201) (q := .row 3 1 8 []) (by simp [oB, hbox]) rfl (by simp [gK]) (by simp [oK]) rfl (by decide) ?_
  simp [s0, s1, oB, gB, oK, gK, hbox, hrow]
  refine ⟨by simp [room], W_stl (B := 1012067) (tb := 56) (cs := [.own 1216018 (σ.tg 1216018 + 1)]) (i := 0) (k := 1216018) (t := σ.tg 1216018 + 1) (K := 1012200) (q := hrow [n]) (by simp) rfl (by simp) (by simp [hrow, ic]) rfl (by decide) ?_⟩
  rw [onEndU_n]
  refine EndU_two ?_ ?_ ?_ ?_ ?_ ?_ <;> simp [r1216, gK, gB, ic, hrow]

theorem ic_take (l : List Int) (n : Int) : (ic (l ++ [n])).take l.length = ic l := by rw [← ic_append, List.take_append_of_le_length (by simp), List.take_of_length_le (by simp)]

def w1215 : List (List Nat) := [[], [], [], [], [], [], [], [], [], [1215023, 1012201], [], [1012067]]
def f1215 : List (List Nat) := [[1215023, 1012201], [], [], [], [], [], [], [], [], [], [1215023, 1012201], []]
theorem zp215 (tB t : Nat) (l : List Int) (n : Int) (hl : (l.length + 1) * 8 ≤ 140737488355328) : Spec Tryz.prog 215 [.c (.ref 1012067 tB 0)] [(1012067, tB, hbox t), (1012200, t, hrow (l ++ [n]))] (ifI n) [(1012067, tB, hbox (t + 1)), (1012200, t + 1, hrow l)] := by
  refine spec_two (base := 1215000) ok1215 rfl (by decide) fun σ h0 oB gB oK gK hr => ?_
  have s0 : σ.sl 0 = .c (.ref 1012067 tB 0) := h0 0
  clear h0 hr
  unfold c1215
  simp
  refine W_dregA ?_
  have w1 : IntKind.wrap .i64 (l.length : Int) = l.length := wrap_id (by omega) (by omega)
  simp [s0, oB, gB, oK, gK, hbox, hrow, w1]
  refine ⟨by omega, realC_n ?_⟩
  simp
  refine W_stl (B := 1012067) (tb := 56) (cs := [.own 1012200 t]) (i := 0) (k := 1012200) (t := t) (K := 1012201) (q := hrow (l ++ [n])) (by simp [oB, hbox]) rfl (by simp [gK]) (by simp [oK]) rfl (by decide) ?_
  simp
  refine W_dregD w1215 f1215 (by decide) ?_
  unfold w1215 f1215
  simp [s0, oB, gB, oK, gK, hbox, hrow, w1]
  refine ⟨⟨by omega, by simpa [room] using hl⟩, realC_n ?_⟩
  simp
  refine W_stl (B := 1012067) (tb := 56) (cs := [.own 1215023 (σ.tg 1215023 + 1)]) (i := 0) (k := 1215023) (t := σ.tg 1215023 + 1) (K := 1012200) (q := hrow l) (by simp) rfl (by simp) (by simp [hrow, ic_take]) rfl (by decide) ?_
  simp
  refine EndU_two ?_ ?_ ?_ ?_ ?_ ?_ <;> simp [r1215, gK, gB, hrow, ifI]

end Go.Abs

namespace Go.Abs
open Go.Proofs

@[simp] theorem swp_length (l : List Int) (i j : Nat) : (swp l i j).length = l.length := by simp [swp]

def upL (l : List Int) (j : Nat) : List Int :=
  if h : j = 0 then l else if l[j]! < l[(j - 1) / 2]! then upL (swp l ((j - 1) / 2) j) ((j - 1) / 2) else l
termination_by j
decreasing_by omega

theorem upL_length (l : List Int) (j : Nat) : (upL l j).length = l.length := by
  induction j using Nat.strongRecOn generalizing l with
  | ind j ih =>
    rw [upL]
    split
    · rfl
    · split
      · rw [ih _ (by omega)]; simp
      · rfl

theorem half {j : Nat} (h : j ≠ 0) : ((j : Int) - 1).tdiv 2 = (((j - 1) / 2 : Nat) : Int) := by
  rw [Int.tdiv_eq_ediv_of_nonneg (by omega)]; omega

def ifB (tB : Nat) : AV := .c (.ifc 55 1012067 tB)

theorem zp56 (tB t : Nat) (l : List Int) (j : Nat) (hj : j < l.length) (hl : l.length < 1000000) : Spec Tryz.prog 56 [ifB tB, ib j] [(1012067, tB, hbox t), (1012200, t, hrow l)] (.tup []) [(1012067, tB, hbox t), (1012200, t, hrow (upL l j))] := by
  refine spec_two (base := 1056000) ok1056 rfl (by decide) fun σ h0 oB gB oK gK hr => ?_
  have s0 : σ.sl 0 = .c (.ifc 55 1012067 tB) := h0 0
  have s1 : σ.sl 1 = .c (.v (.int .i64 j)) := h0 1
  clear h0 hr
  unfold c1056
  rw [W_block]
  refine W_loop (fun m σ => ∃ l' : List Int, upL l' m = upL l j ∧ l'.length = l.length ∧ m < l.length ∧ σ.sl 0 = .c (.ifc 55 1012067 tB) ∧ σ.sl 1 = .c (.v (.int .i64 m)) ∧ σ.ob 1012067 = some (hbox t) ∧ σ.tg 1012067 = tB ∧ σ.ob 1012200 = some (hrow l') ∧ σ.tg 1012200 = t) j ⟨l, rfl, rfl, hj, s0, s1, oB, gB, oK, gK⟩ ?_
  clear s0 s1 oB gB oK gK σ
  rintro m σ ⟨l', h1, h2, h3, s0, s1, oB, gB, oK, gK⟩
  unfold c1056b0
  by_cases hm : m = 0
  · subst hm
    have w1 : IntKind.wrap .i64 (-1 : Int) = -1 := by decide
    have w0 : IntKind.wrap .i64 (0 : Int) = 0 := by decide
    simp [s0, s1, oB, gB, oK, gK, w1, w0, hbox]
    refine GCall.fn (res := bb false) (fun h => by cases h) rfl (by simp) rfl fun _ => ?_
    simp [bb]
    have e : l' = upL l j := by rw [← h1, upL]; simp
    refine EndU_two ?_ ?_ ?_ ?_ ?_ ?_ <;> simp [r1056, gK, gB, hrow, oB, oK, hbox, e]
  · obtain ⟨i, hi⟩ : ∃ i, i = (m - 1) / 2 := ⟨_, rfl⟩
    have w1 : IntKind.wrap .i64 ((m : Int) - 1) = (m : Int) - 1 := wrap_id (by omega) (by omega)
    have w2 : IntKind.wrap .i64 (((m : Int) - 1).tdiv 2) = (i : Int) := by rw [half hm, hi]; exact wrap_id (by omega) (by omega)
    have hne : ¬ ((i : Int) = (m : Int)) := by omega
    have him : i < m := by omega
    rw [upL, dif_neg hm, ← hi] at h1
    simp [s0, s1, oB, gB, oK, gK, w1, w2, hne, hbox]
    refine GCall.ro (rs := []) (args := [.c (.own 1012200 t), ib m, ib i]) [(1012200, t, hrow l')] (fun _ => by simpa [refs] using zp214 t l' m i (by omega) (by omega)) (by simp [ib, toD2, toD1, toD, oK, gK, hrow]) (by simp) rfl (Ro.one (by simp [oK]) (by simp [gK]) rfl) fun _ => ?_
    have e1 : l'[m]! = l'[m]'(by omega) := getElem!_pos l' m (by omega)
    have e2 : l'[i]! = l'[i]'(by omega) := getElem!_pos l' i (by omega)
    rw [e1, e2] at h1
    by_cases hlt : l'[m]'(by omega) < l'[i]'(by omega)
    · rw [if_pos hlt] at h1
      simp [bb, hlt, s0, s1, oB, gB, oK, gK, hbox]
      refine ECall.one (q := hrow l') (q' := hrow (swp l' i m)) (t := t) (K := 1012200) (args := [.c (.own 1012200 t), ib i, ib m]) (zp217 t l' i m (by omega) (by omega)) (by simp [ib, toD2, toD1, toD, oK, gK, hrow]) (by simp) rfl rfl (by simp [oK]) (by simp [gK]) fun _ => ?_
      simp
      refine ⟨i, him, swp l' i m, h1, by simp [h2], by omega, ?_⟩
      simp [s0, s1, oB, gB, oK, gK, hbox]
    · rw [if_neg hlt] at h1
      simp [bb, hlt]
      refine EndU_two ?_ ?_ ?_ ?_ ?_ ?_ <;> simp [r1056, gK, gB, hrow, oB, oK, hbox, h1]

def downL (n : Nat) (l : List Int) (i : Nat) : List Int × Nat :=
  if h : 2 * i + 1 < n then
    let j := if 2 * i + 2 < n ∧ l[2 * i + 2]! < l[2 * i + 1]! then 2 * i + 2 else 2 * i + 1
    if l[j]! < l[i]! then downL n (swp l i j) j else (l, i)
  else (l, i)
termination_by n - i
decreasing_by all_goals (split <;> omega)

theorem zp57 (tB t : Nat) (l : List Int) (i0 n : Nat) (hn : n ≤ l.length) (hi0 : i0 ≤ n) (hl : l.length < 1000000) :
    Spec Tryz.prog 57 [ifB tB, ib i0, ib n] [(1012067, tB, hbox t), (1012200, t, hrow l)] (bb (decide (i0 < (downL n l i0).2))) [(1012067, tB, hbox t), (1012200, t, hrow (downL n l i0).1)] := by
  refine spec_two (base := 1057000) ok1057 rfl (by decide) fun σ h0 oB gB oK gK hr => ?_
  have s0 : σ.sl 0 = .c (.ifc 55 1012067 tB) := h0 0
  have s1 : σ.sl 1 = .c (.v (.int .i64 i0)) := h0 1
  have s2 : σ.sl 2 = .c (.v (.int .i64 n)) := h0 2
  clear h0 hr
  unfold c1057
  simp [s0, s1, s2, -W_block]
  rw [W_block]
  refine W_loop (fun m σ => ∃ (l' : List Int) (i : Nat), downL n l' i = downL n l i0 ∧ l'.length = l.length ∧ m = n - i ∧ i ≤ n ∧ σ.sl 0 = .c (.ifc 55 1012067 tB) ∧ σ.sl 1 = .c (.v (.int .i64 i0)) ∧ σ.sl 2 = .c (.v (.int .i64 n)) ∧ σ.sl 7 = .c (.v (.int .i64 i)) ∧ σ.ob 1012067 = some (hbox t) ∧ σ.tg 1012067 = tB ∧ σ.ob 1012200 = some (hrow l') ∧ σ.tg 1012200 = t) (n - i0) ⟨l, i0, rfl, rfl, rfl, hi0, by simp [s0], by simp [s1], by simp [s2], by simp, by simp [oB], by simp [gB], by simp [oK], by simp [gK]⟩ ?_
  clear s0 s1 s2 oB gB oK gK σ
  rintro m σ ⟨l', i, h1, h2, hm, h3, s0, s1, s2, s7, oB, gB, oK, gK⟩
  unfold c1057b0
  have w1 : IntKind.wrap .i64 (2 * (i : Int)) = 2 * (i : Int) := wrap_id (by omega) (by omega)
  have w2 : IntKind.wrap .i64 (2 * (i : Int) + 1) = 2 * (i : Int) + 1 := wrap_id (by omega) (by omega)
  have w3 : IntKind.wrap .i64 (2 * (i : Int) + 1 + 1) = 2 * (i : Int) + 1 + 1 := wrap_id (by omega) (by omega)
  by_cases hj : 2 * i + 1 < n
  · rw [downL, dif_pos hj] at h1
    have n1 : ¬ ((n : Int) ≤ 2 * (i : Int) + 1) := by omega
    have n2 : ¬ (2 * (i : Int) + 1 < 0) := by omega
    rw [W_block, W_seq]
    simp [s0, s1, s2, s7, oB, gB, oK, gK, w1, w2, w3, n1, n2, -W_seq]
    rw [W_seq, W_seq]
    simp [s0, s1, s2, s7, oB, gB, oK, gK, w1, w2, w3, n1, n2, -W_seq]
    rw [W_seq]
    simp [s0, s1, s2, s7, oB, gB, oK, gK, w1, w2, w3, n1, n2, -W_seq]
    rw [W_seq]
    obtain ⟨j, ej⟩ : ∃ j, j = if 2 * i + 2 < n ∧ l'[2 * i + 2]! < l'[2 * i + 1]! then 2 * i + 2 else 2 * i + 1 := ⟨_, rfl⟩
    simp only [← ej] at h1
    have hjn : j < n ∧ i < j := by rw [ej]; split <;> omega
    refine W_cut (fun σ => σ.sl 0 = .c (.ifc 55 1012067 tB) ∧ σ.sl 1 = .c (.v (.int .i64 i0)) ∧ σ.sl 2 = .c (.v (.int .i64 n)) ∧ σ.sl 7 = .c (.v (.int .i64 i)) ∧ σ.sl 9 = .c (.v (.int .i64 j)) ∧ σ.ob 1012067 = some (hbox t) ∧ σ.tg 1012067 = tB ∧ σ.ob 1012200 = some (hrow l') ∧ σ.tg 1012200 = t) ?_ ?_
    · by_cases hk : 2 * i + 2 < n
      · have hk' : 2 * (i : Int) + 1 + 1 < n := by omega
        simp [s0, s1, s2, s7, oB, gB, oK, gK, w1, w2, w3, n1, n2, hk', hbox]
        have e1 : l'[2 * i + 2]! = l'[2 * i + 2]'(by omega) := getElem!_pos l' _ (by omega)
        have e2 : l'[2 * i + 1]! = l'[2 * i + 1]'(by omega) := getElem!_pos l' _ (by omega)
        rw [e1, e2] at ej
        have sp := zp214 t l' (2 * i + 2) (2 * i + 1) (by omega) (by omega)
        refine GCall.ro (rs := []) (args := [.c (.own 1012200 t), ib (2 * i + 2 : Nat), ib (2 * i + 1 : Nat)]) [(1012200, t, hrow l')] (fun _ => by simpa [refs] using sp) (by simp [ib, toD2, toD1, toD, oK, gK, hrow]; omega) (by simp) rfl (Ro.one (by simp [oK]) (by simp [gK]) rfl) fun _ => ?_
        by_cases hlt : l'[2 * i + 2]'(by omega) < l'[2 * i + 1]'(by omega)
        · rw [if_pos ⟨hk, hlt⟩] at ej
          simp [bb, hlt, s0, s1, s2, s7, oB, gB, oK, gK, hbox, ej]
          omega
        · rw [if_neg (fun h => hlt h.2)] at ej
          simp [bb, hlt, s0, s1, s2, s7, oB, gB, oK, gK, hbox, ej]
      · have hk' : ¬ (2 * (i : Int) + 1 + 1 < n) := by omega
        rw [if_neg (fun h => hk h.1)] at ej
        simp [s0, s1, s2, s7, oB, gB, oK, gK, w1, w2, w3, n1, n2, hk', hbox]
        refine GCall.fn (res := bb false) (fun h => by cases h) rfl (by simp) rfl fun _ => ?_
        simp [bb, s0, s1, s2, s7, oB, gB, oK, gK, hbox, ej]
        try omega
    · clear s0 s1 s2 s7 oB gB oK gK σ
      rintro σ ⟨s0, s1, s2, s7, s9, oB, gB, oK, gK⟩
      simp [s0, s1, s2, s7, s9, oB, gB, oK, gK, hbox]
      refine ECall.ro (rs := []) (args := [.c (.own 1012200 t), ib j, ib i]) [(1012200, t, hrow l')] (by simpa [refs] using zp214 t l' j i (by omega) (by omega)) (by simp [ib, toD2, toD1, toD, oK, gK, hrow]) (by simp) rfl (Ro.one (by simp [oK]) (by simp [gK]) rfl) fun _ => ?_
      have e1 : l'[j]! = l'[j]'(by omega) := getElem!_pos l' _ (by omega)
      have e2 : l'[i]! = l'[i]'(by omega) := getElem!_pos l' _ (by omega)
      rw [e1, e2] at h1
      by_cases hlt : l'[j]'(by omega) < l'[i]'(by omega)
      · rw [if_pos hlt] at h1
        simp [bb, hlt, s0, s1, s2, s7, s9, oB, gB, oK, gK, hbox]
        refine ECall.one (q := hrow l') (q' := hrow (swp l' i j)) (t := t) (K := 1012200) (args := [.c (.own 1012200 t), ib i, ib j]) (zp217 t l' i j (by omega) (by omega)) (by simp [ib, toD2, toD1, toD, oK, gK, hrow]) (by simp) rfl rfl (by simp [oK]) (by simp [gK]) fun _ => ?_
        simp [s0, s1, s2, s7, s9, oB, gB, oK, gK, hbox]
        exact ⟨n - j, by omega, swp l' i j, j, h1, by simp [h2], rfl, by omega, rfl, rfl⟩
      · rw [if_neg hlt] at h1
        simp [bb, hlt, s0, s1, s2, s7, s9, oB, gB, oK, gK, hbox]
        refine EndU_two ?_ ?_ ?_ ?_ ?_ ?_ <;> simp [r1057, gK, gB, oB, oK, bb, ← h1, hbox]
  · rw [downL, dif_neg hj] at h1
    have n1 : (n : Int) ≤ 2 * (i : Int) + 1 := by omega
    simp [s0, s1, s2, s7, oB, gB, oK, gK, w1, w2, w3, n1, ← h1]
    refine EndU_two ?_ ?_ ?_ ?_ ?_ ?_ <;> simp [r1057, gK, gB, oB, oK, bb]

theorem downL_length (n : Nat) (l : List Int) (i : Nat) : (downL n l i).1.length = l.length := by
  induction h : n - i using Nat.strongRecOn generalizing l i with
  | ind m ih =>
    rw [downL]
    split
    · simp only
      obtain ⟨j, ej⟩ : ∃ j, j = if 2 * i + 2 < n ∧ l[2 * i + 2]! < l[2 * i + 1]! then 2 * i + 2 else 2 * i + 1 := ⟨_, rfl⟩
      rw [← ej]
      have hj : i < j ∧ j < n := by rw [ej]; split <;> omega
      split
      · rw [ih (n - j) (by omega) _ _ rfl]; simp
      · rfl
    · rfl

def pushL (l : List Int) (n : Int) : List Int := upL (l ++ [n]) l.length

theorem zp30 (tB t : Nat) (l : List Int) (n : Int) (hl : l.length < 999999) :
    Spec Tryz.prog 30 [ifB tB, ifI n] [(1012067, tB, hbox t), (1012200, t, hrow l)] (.tup []) [(1012067, tB, hbox (t + 1)), (1012200, t + 1, hrow (pushL l n))] := by
  refine spec_two (base := 1030000) ok1030 rfl (by decide) fun σ h0 oB gB oK gK hr => ?_
  have s0 : σ.sl 0 = .c (.ifc 55 1012067 tB) := h0 0
  have s1 : σ.sl 1 = .c (.v (.iface 3 (.int .i64 n))) := h0 1
  clear h0 hr
  unfold c1030
  simp [s0, s1, oB, gB, oK, gK, hbox]
  refine ECall.hp (r := 1) (args := [.c (.ref 1012067 tB 0), ifI n]) (zp216 tB t l n (by omega)) (by simp [toD2, toD1, toD, ifI]) (by simp) rfl (.inr rfl) (by decide) rfl (by simp [oB, hbox]) (by simp [gB]) (by simp [oK]) (by simp [gK]) fun _ => ?_
  simp [s0, s1, oB, gB, oK, gK, hbox]
  refine ECall.ro (rs := []) (args := [.c (.own 1012200 (t + 1))]) [(1012200, t + 1, hrow (l ++ [n]))] (by simpa [refs] using zp31 (t + 1) (l ++ [n])) (by simp [toD2, toD1, toD, gK, hrow]) (by simp) rfl (Ro.one (by simp) (by simp [gK]) rfl) fun _ => ?_
  have w1 : IntKind.wrap .i64 (l.length : Int) = l.length := wrap_id (by omega) (by omega)
  simp [s0, s1, oB, gB, oK, gK, hbox, ib, w1]
  refine ECall.hp (r := 0) (t := t + 1) (args := [ifB tB, ib l.length]) (zp56 tB (t + 1) (l ++ [n]) l.length (by simp) (by simp; try omega)) (by simp [toD2, toD1, toD, ifB, ib]) (by simp) rfl (.inl rfl) (by decide) rfl (by simp [gK, hbox]) (by simp [gB]) (by simp) (by simp [gK]) fun _ => ?_
  simp
  refine EndU_two ?_ ?_ ?_ ?_ ?_ ?_ <;> simp [r1030, gK, gB, hbox, pushL]

theorem zp30n (tB t : Nat) (n : Int) :
    Spec Tryz.prog 30 [ifB tB, ifI n] [(1012067, tB, hbox t), (1012200, t, .row 3 1 8 [])] (.tup []) [(1012067, tB, hbox (t + 1)), (1012200, t + 1, hrow (pushL [] n))] := by
  refine spec_two (base := 1030000) ok1030 rfl (by decide) fun σ h0 oB gB oK gK hr => ?_
  have s0 : σ.sl 0 = .c (.ifc 55 1012067 tB) := h0 0
  have s1 : σ.sl 1 = .c (.v (.iface 3 (.int .i64 n))) := h0 1
  clear h0 hr
  unfold c1030
  simp [s0, s1, oB, gB, oK, gK, hbox]
  refine ECall.hp (r := 1) (args := [.c (.ref 1012067 tB 0), ifI n]) (zp216n tB t n) (by simp [toD2, toD1, toD, ifI]) (by simp) rfl (.inr rfl) (by decide) rfl (by simp [oB, hbox]) (by simp [gB]) (by simp [oK]) (by simp [gK]) fun _ => ?_
  simp [s0, s1, oB, gB, oK, gK, hbox]
  refine ECall.ro (rs := []) (args := [.c (.own 1012200 (t + 1))]) [(1012200, t + 1, hrow [n])] (by simpa [refs] using zp31 (t + 1) [n]) (by simp [toD2, toD1, toD, gK, hrow]) (by simp) rfl (Ro.one (by simp) (by simp [gK]) rfl) fun _ => ?_
  have w1 : IntKind.wrap .i64 (0 : Int) = 0 := wrap_id (by omega) (by omega)
  simp [s0, s1, oB, gB, oK, gK, hbox, ib, w1]
  refine ECall.hp (r := 0) (t := t + 1) (args := [ifB tB, ib 0]) (zp56 tB (t + 1) [n] 0 (by simp) (by simp; try omega)) (by simp [toD2, toD1, toD, ifB, ib]) (by simp) rfl (.inl rfl) (by decide) rfl (by simp [gK, hbox]) (by simp [gB]) (by simp) (by simp [gK]) fun _ => ?_
  simp
  refine EndU_two ?_ ?_ ?_ ?_ ?_ ?_ <;> simp [r1030, gK, gB, hbox, pushL]

/-- What the heap's head comes to be taken off. -/
def popL (l : List Int) : List Int := (downL (l.length - 1) (swp l 0 (l.length - 1)) 0).1

theorem last_of {l : List Int} (h : 0 < l.length) : l = l.dropLast ++ [l[l.length - 1]!] := by
  have h1 : l ≠ [] := by intro e; rw [e] at h; simp at h
  rw [getElem!_pos l _ (by omega), ← List.getLast_eq_getElem h1, List.dropLast_concat_getLast h1]

theorem popL_length (l : List Int) : (popL l).length = l.length := by simp [popL, downL_length]

theorem zp32 (tB t : Nat) (l : List Int) (h0 : 0 < l.length) (hl : l.length < 999999) :
    Spec Tryz.prog 32 [ifB tB] [(1012067, tB, hbox t), (1012200, t, hrow l)] (ifI (popL l)[l.length - 1]!) [(1012067, tB, hbox (t + 1)), (1012200, t + 1, hrow (popL l).dropLast)] := by
  refine spec_two (base := 1032000) ok1032 rfl (by decide) fun σ hs0 oB gB oK gK hr => ?_
  have s0 : σ.sl 0 = .c (.ifc 55 1012067 tB) := hs0 0
  clear hs0 hr
  unfold c1032
  simp [s0, oB, gB, oK, gK, hbox]
  refine ECall.ro (rs := []) (args := [.c (.own 1012200 t)]) [(1012200, t, hrow l)] (by simpa [refs] using zp31 t l) (by simp [toD2, toD1, toD, gK, oK, hrow]) (by simp) rfl (Ro.one (by simp [oK]) (by simp [gK]) rfl) fun _ => ?_
  obtain ⟨m, hm⟩ : ∃ m, m = l.length - 1 := ⟨_, rfl⟩
  have w1 : IntKind.wrap .i64 ((l.length : Int) - 1) = m := by rw [wrap_id (by omega) (by omega)]; omega
  simp [s0, oB, gB, oK, gK, hbox, ib, w1]
  refine ECall.one (q := hrow l) (q' := hrow (swp l 0 m)) (t := t) (K := 1012200) (args := [.c (.own 1012200 t), ib (0 : Nat), ib m]) (zp217 t l 0 m (by omega) (by omega)) (by simp [ib, toD2, toD1, toD, oK, gK, hrow]) (by simp) rfl rfl (by simp [oK]) (by simp [gK]) fun _ => ?_
  simp [s0, oB, gB, oK, gK, hbox, ib, w1]
  refine ECall.hp (r := 0) (t := t) (args := [ifB tB, ib (0 : Nat), ib m]) (zp57 tB t (swp l 0 m) 0 m (by simp; omega) (by omega) (by simp; omega)) (by simp [toD2, toD1, toD, ifB, ib]) (by simp) rfl (.inl rfl) (by decide) rfl (by simp [oB, hbox]) (by simp [gB]) (by simp) (by simp [gK]) fun _ => ?_
  simp [s0, oB, gB, oK, gK, hbox, ib, w1]
  have hp : (downL m (swp l 0 m) 0).1 = popL l := by rw [popL, ← hm]
  rw [hp]
  have hpl := last_of (l := popL l) (by rw [popL_length]; exact h0)
  rw [popL_length] at hpl
  refine ECall.hp (r := 1) (t := t) (q := hrow (popL l)) (q' := hrow (popL l).dropLast) (args := [.c (.ref 1012067 tB 0)]) (by
    have := zp215 tB t (popL l).dropLast (popL l)[l.length - 1]! (by simp [popL_length]; omega)
    rw [← hpl] at this
    exact this) (by simp [toD2, toD1, toD]) (by simp) rfl (.inr rfl) (by decide) rfl (by simp [gK]) (by simp [gB]) (by simp) (by simp [gK]) fun _ => ?_
  simp [ifI]
  refine EndU_two ?_ ?_ ?_ ?_ ?_ ?_ <;> simp [r1032, gK, gB, hbox]

end Go.Abs

namespace Go.Abs
open Go.Proofs

abbrev Edge2 := Int × Int
def ec (p : Edge2) : List Cell := [.v (.int .i64 p.1), .v (.int .i64 p.2)]
@[simp] theorem ec_len (p : Edge2) : (ec p).length = 2 := rfl
@[simp] theorem ec_take (p : Edge2) : (ec p).take 2 = ec p := rfl
@[simp] theorem ec_toD (σ : St) (p : Edge2) : (ec p).map (toD σ) = ec p := rfl
@[simp] theorem ec_keys (p : Edge2) : keysCs (ec p) = [] := rfl
@[simp] theorem ec_put (p : Edge2) (a b : Cell) : putC [a, b] 0 (ec p) = ec p := rfl
def ecs (l : List Edge2) : List (List Cell) := l.map ec
def eds (l : List Edge2) : AV := .c (.sl 2 16 (ecs l))
@[simp] theorem ecs_length (l : List Edge2) : (ecs l).length = l.length := by simp [ecs]
@[simp] theorem ecs_at (l : List Edge2) (i : Nat) (h : i < (ecs l).length) : (ecs l)[i] = ec (l[i]'(by simpa using h)) := by simp [ecs]
theorem real_eds {l : List Edge2} (h : Real (eds l)) : l.length * 16 ≤ 140737488355328 := by simpa [room] using real_sl h
def badE (n : Int) (p : Edge2) : Bool := ((decide (p.1 < 0) || decide (n ≤ p.1)) || decide (p.2 < 0)) || decide (n ≤ p.2)
def fstBad (n : Int) : List Edge2 → Nat → Int
  | [], _ => -1
  | p :: r, i => if badE n p then i else fstBad n r (i + 1)
theorem fstBad_any (n : Int) : ∀ (l : List Edge2) (i : Nat), decide (0 ≤ fstBad n l i) = l.any (badE n)
  | [], i => by simp [fstBad]
  | p :: r, i => by
    simp only [fstBad, List.any_cons]
    by_cases h : badE n p = true
    · simp [h]
    · simp only [h]; simpa using fstBad_any n r (i + 1)
def nbox (n : Int) : Obj := .box 3 [.v (.int .i64 n)]

theorem zp28 (tn : Nat) (n : Int) (p : Edge2) : Spec Tryz.prog 28 [.agg (ec p), .c (.ref 1012002 tn 0)] [(1012002, tn, nbox n)] (bb (badE n p)) [(1012002, tn, nbox n)] := by
  refine spec_one (base := 1028000) ok1028 rfl fun σ h0 oK gK hr => ?_
  have s0 : σ.sl 0 = .agg (ec p) := h0 0
  have s1 : σ.sl 1 = .c (.ref 1012002 tn 0) := h0 1
  clear h0 hr
  obtain ⟨a, b⟩ := p
  unfold c1028
  by_cases c1 : a < 0
  · simp [s0, s1, oK, gK, nbox, ec, c1]
    refine EndU_one ?_ ?_ ?_ ?_ <;> simp [r1028, badE, bb, c1, oK, gK, nbox]
  · by_cases c2 : n ≤ a
    · simp [s0, s1, oK, gK, nbox, ec, c1, c2]
      refine EndU_one ?_ ?_ ?_ ?_ <;> simp [r1028, badE, bb, c1, c2, oK, gK, nbox]
    · by_cases c3 : b < 0
      · simp [s0, s1, oK, gK, nbox, ec, c1, c2, c3]
        refine EndU_one ?_ ?_ ?_ ?_ <;> simp [r1028, badE, bb, c1, c2, c3, oK, gK, nbox]
      · simp [s0, s1, oK, gK, nbox, ec, c1, c2, c3]
        refine EndU_one ?_ ?_ ?_ ?_ <;> simp [r1028, badE, bb, c1, c2, c3, oK, gK, nbox]

theorem zp55 (tn : Nat) (n : Int) (l : List Edge2) : Spec Tryz.prog 55 [eds l, .c (.clo 28 [] [(1012002, tn)])] [(1012002, tn, nbox n)] (ib (fstBad n l 0)) [(1012002, tn, nbox n)] := by
  refine spec_one (base := 1055000) ok1055 rfl fun σ h0 oK gK hr => ?_
  have hl := real_eds (hr (eds l) (by simp))
  have s0 : σ.sl 0 = .c (.sl 2 16 (ecs l)) := h0 0
  have s1 : σ.sl 1 = .c (.clo 28 [] [(1012002, tn)]) := h0 1
  clear h0 hr
  unfold c1055
  simp [s0, s1, -W_block]
  rw [W_block]
  refine W_loop (fun m σ => ∃ i : Nat, i + m = l.length ∧ fstBad n (l.drop i) i = fstBad n l 0 ∧ σ.sl 0 = .c (.sl 2 16 (ecs l)) ∧ σ.sl 1 = .c (.clo 28 [] [(1012002, tn)]) ∧ σ.sl 7 = .c (.v (.int .i64 l.length)) ∧ σ.sl 8 = .c (.v (.int .i64 i)) ∧ σ.ob 1012002 = some (nbox n) ∧ σ.tg 1012002 = tn) l.length ⟨0, by simp [s0, s1, oK, gK]⟩ ?_
  clear s0 s1 oK gK σ
  rintro m σ ⟨i, hm, hp, s0, s1, s7, s8, oK, gK⟩
  unfold c1055b0
  by_cases hi : i < l.length
  · have w1 := wrap_succ (i := i) (by omega)
    obtain ⟨p, hp1⟩ := at_of hi
    obtain ⟨_, hp2⟩ := getE hp1
    rw [drop_at hp1, fstBad] at hp
    simp [s0, s1, s7, s8, oK, gK, hi, hp2]
    refine ECall.ro (args := [.agg (ec p)]) [(1012002, tn, nbox n)] (by simpa [refs] using zp28 tn n p) (by simp [toD2, toD1]) (by simp) rfl (Ro.one (by simp [oK]) (by simp [gK]) rfl) fun _ => ?_
    cases hb : badE n p with
    | true =>
      rw [hb] at hp
      simp [bb]
      refine EndU_one ?_ ?_ ?_ ?_ <;> simp [r1055, oK, gK, ib, ← hp]
    | false =>
      rw [hb] at hp
      simp [bb, w1, s0, s1, s7, s8, oK, gK]
      exact ⟨m - 1, by omega, i + 1, by omega, by simpa using hp, rfl⟩
  · have : i = l.length := by omega
    subst this
    simp [fstBad] at hp
    simp [s0, s1, s7, s8, oK, gK]
    refine EndU_one ?_ ?_ ?_ ?_ <;> simp [r1055, oK, gK, ib, ← hp]

theorem zp29 (tn : Nat) (n : Int) (l : List Edge2) : Spec Tryz.prog 29 [eds l, .c (.clo 28 [] [(1012002, tn)])] [(1012002, tn, nbox n)] (bb (l.any (badE n))) [(1012002, tn, nbox n)] := by
  refine spec_one (base := 1029000) ok1029 rfl fun σ h0 oK gK hr => ?_
  have s0 : σ.sl 0 = eds l := h0 0
  have s1 : σ.sl 1 = .c (.clo 28 [] [(1012002, tn)]) := h0 1
  clear h0 hr
  unfold c1029
  simp [s0, s1, eds]
  refine ECall.ro (rs := []) (args := [eds l, .c (.clo 28 [] [(1012002, tn)])]) [(1012002, tn, nbox n)] (by simpa [refs] using zp55 tn n l) (by simp [toD2, toD1, eds, toD]) (by simp) rfl (Ro.one (by simp [oK]) (by simp [gK]) rfl) fun _ => ?_
  simp [ib]
  refine EndU_one ?_ ?_ ?_ ?_ <;> simp [r1029, oK, gK, bb, ← fstBad_any n l 0]

end Go.Abs

namespace Go.Abs
open Go.Proofs Go.Proofs.YtfgjannlepahgaaGreat Go.RowKit

theorem und22 : Tryz.prog.underlying 22 = some (.slice 28) := by kernel_rfl
theorem und28 : Tryz.prog.underlying 28 = some (.array 2 3) := by kernel_rfl
theorem cell28 : Tryz.prog.cellsOf 28 = 2 := by kernel_rfl
theorem two_l {α : Type} : ∀ {l : List α}, l.length = 2 → ∃ a b, l = [a, b]
  | [a, b], _ => ⟨a, b, rfl⟩

set_option maxRecDepth 100000 in
theorem slice_ok22 {w : World} {base : Nat} {v : Value} (h : Value.okWide Tryz.prog w .any base 22 v) : ∃ a n c, v = .slice a n c := Go.WideShapes.okWide_slice und22 h
theorem arg_edges {H : Type} {enc : TypeId × Value → H} {w : World} {v : Value} {d : DataW H} {ps : List MemPlace} (h : DataW.Trod enc Tryz.prog w 0 (fun _ => true) true 22 v d ps) (hv : ∃ a n c, v = .slice a n c) (hb : Rows.uptoBulk d ≤ 1048576) :
    ∃ l : List Edge2, RV2 (gOf w) w (eds l) v ∧ l.length ≤ 1048576 := by
  obtain ⟨fuel, h⟩ := h
  obtain ⟨a0, n0, c0, rfl⟩ := hv
  rcases Go.Deep.open_slice und22 h with ⟨e, _⟩ | ⟨a, len, cap, mm, nn, D, Pl, e, _, hl, _, hm, hd, hel⟩
  · have e' : [Value.slice a0 n0 c0] = [.slice none 0 0] := e
    cases e'
    exact ⟨[], fun _ => (nil_spec (gOf w) w 2 16).1, by simp⟩
  · have e' : [Value.slice a0 n0 c0] = [.slice (some a) len cap] := e
    cases e'
    simp only [if_true] at hm
    subst hm
    cases hd
    simp only [Rows.uptoBulk] at hb
    have hlen2 : n0 ≤ 1048576 := by
      have := bulk_all_len ((List.range n0).map D)
      simp at this
      omega
    have hk : ∀ i, ∃ m : Edge2, i < n0 → w.cell? (a.add (i * 2)) = some (.int .i64 m.1) ∧ w.cell? (a.add (i * 2 + 1)) = some (.int .i64 m.2) := fun i => by
      by_cases hi : i < n0
      · obtain ⟨us, hu1, hu2⟩ := hel i (by omega)
        rw [cell28] at hu1
        obtain ⟨xs, m', _, _, hul, hxl, hx⟩ := DataW.trod_array und28 hu2
        rw [cell28] at hul
        obtain ⟨v0, v1, rfl⟩ := two_l hul
        obtain ⟨x0, x1, rfl⟩ := two_l hxl
        have g0 := hx 0 (by omega)
        have g1 := hx 1 (by omega)
        simp only [cell3] at g0 g1
        have g0 : DataW.trod enc Tryz.prog w 0 (fun _ => true) true m' 3 [v0] = some x0 := g0
        have g1 : DataW.trod enc Tryz.prog w 0 (fun _ => true) true m' 3 [v1] = some x1 := g1
        obtain ⟨y0, e0, _, _⟩ := DataW.trod_int Tryz.underlying3 g0
        obtain ⟨y1, e1, _, _⟩ := DataW.trod_int Tryz.underlying3 g1
        cases e0; cases e1
        unfold World.cells? at hu1
        rw [if_pos (Nat.zero_le _)] at hu1
        have h0 := mapM_some_get hu1 0 0 (by simp)
        have h1 := mapM_some_get hu1 1 1 (by simp)
        rw [Addr.add_add] at h0 h1
        exact ⟨(y0, y1), fun _ => ⟨by simpa using h0, by simpa using h1⟩⟩
      · exact ⟨(0, 0), fun h => absurd h hi⟩
    refine ⟨(List.range n0).map fun i => Classical.choose (hk i), ?_, by simpa using hlen2⟩
    intro _
    have key : RD (gOf w) w (.sl 2 16 (((List.range n0).map fun i => Classical.choose (hk i)).map ec)) (.slice (some a) (((List.range n0).map fun i => Classical.choose (hk i)).map ec).length mm) := by
      have hes : ∀ (i j : Nat) l d, (((List.range n0).map fun i => Classical.choose (hk i)).map ec)[i]? = some l → l[j]? = some d → i < n0 ∧ ((j = 0 ∧ d = .v (.int .i64 (Classical.choose (hk i)).1)) ∨ (j = 1 ∧ d = .v (.int .i64 (Classical.choose (hk i)).2))) := fun i j l d e1 e2 => by
        simp only [List.getElem?_map, Option.map_eq_some_iff, List.getElem?_eq_some_iff] at e1
        obtain ⟨t, ⟨i', ⟨hi', e3⟩, rfl⟩, rfl⟩ := e1
        simp at e3 hi'
        subst e3
        match j, e2 with
        | 0, e2 => simp [ec] at e2; exact ⟨hi', .inl ⟨rfl, e2.symm⟩⟩
        | 1, e2 => simp [ec] at e2; exact ⟨hi', .inr ⟨rfl, e2.symm⟩⟩
        | j + 2, e2 => simp [ec] at e2
      refine .sl 2 16 _ (some a) mm (fun i j => if j = 0 then .int .i64 (Classical.choose (hk i)).1 else .int .i64 (Classical.choose (hk i)).2) (by simpa using hl) (by simp [room]; omega) (fun l hl => ?_) (fun i j l d e1 e2 => ?_) (fun i j l d e1 e2 => ?_)
      · obtain ⟨t, _, rfl⟩ := List.mem_map.1 hl; rfl
      · obtain ⟨hi, ⟨rfl, rfl⟩ | ⟨rfl, rfl⟩⟩ := hes i j l d e1 e2
        · have := (Classical.choose_spec (hk i) hi).1
          have hlt := cell_lt this
          exact ⟨_, rfl, by simpa [gOf] using hlt, by simpa using this⟩
        · have := (Classical.choose_spec (hk i) hi).2
          have hlt := cell_lt this
          exact ⟨_, rfl, by simpa [gOf] using hlt, by simpa using this⟩
      · obtain ⟨hi, ⟨rfl, rfl⟩ | ⟨rfl, rfl⟩⟩ := hes i j l d e1 e2
        · exact .v _ rfl
        · exact .v _ rfl
    have key2 : RC (gOf w) w (.sl 2 16 (((List.range n0).map fun i => Classical.choose (hk i)).map ec)) (.slice (some a) (((List.range n0).map fun i => Classical.choose (hk i)).map ec).length mm) := key
    simpa [ecs] using key2

end Go.Abs

namespace Go.Abs

/-! ### heaps, in plain lists -/
def IsHeapN (n : Nat) (l : List Int) : Prop := ∀ k, 0 < k → k < n → l[(k - 1) / 2]! ≤ l[k]!

theorem swp_get (l : List Int) {i j : Nat} (hi : i < l.length) (hj : j < l.length) (k : Nat) : (swp l i j)[k]! = if k = j then l[i]! else if k = i then l[j]! else l[k]! := by
  simp only [swp, List.getElem!_eq_getElem?_getD, List.getElem?_set, List.length_set]
  by_cases h1 : k = j
  · subst h1; simp [hj]
  · by_cases h2 : k = i
    · subst h2; simp [hi, h1, Ne.symm h1]
    · simp [h1, h2, Ne.symm h1, Ne.symm h2]

theorem swp_perm (l : List Int) {i j : Nat} (hi : i < l.length) (hj : j < l.length) : (swp l i j).Perm l := by
  have : ((l.set i l[j]).set j l[i]).Perm l := List.set_set_perm hi hj
  simpa [swp, hi, hj] using this

theorem upL_perm (l : List Int) (j : Nat) (hj : j < l.length) : (upL l j).Perm l := by
  induction j using Nat.strongRecOn generalizing l with
  | ind j ih =>
    rw [upL]
    split
    · exact .refl _
    · split
      · exact (ih _ (by omega) _ (by simp; omega)).trans (swp_perm l (by omega) hj)
      · exact .refl _

theorem upL_heap (l : List Int) (j : Nat) (hj : j < l.length) (h1 : ∀ k, 0 < k → k < l.length → k ≠ j → l[(k - 1) / 2]! ≤ l[k]!)
    (h2 : 0 < j → ∀ k, 0 < k → k < l.length → (k - 1) / 2 = j → l[(j - 1) / 2]! ≤ l[k]!) : IsHeapN l.length (upL l j) := by
  induction j using Nat.strongRecOn generalizing l with
  | ind j ih =>
    rw [upL]
    split
    · intro k h0 hk
      exact h1 k h0 hk (by omega)
    · rename_i hj0
      obtain ⟨i, hi⟩ : ∃ i, i = (j - 1) / 2 := ⟨_, rfl⟩
      rw [← hi]
      split
      · rename_i hlt
        have hij : i < j := by omega
        have g := swp_get l (i := i) (j := j) (by omega) hj
        have := ih i hij (swp l i j) (by simp; omega) (fun k hk0 hk hki => ?_) (fun hi0 k hk0 hk hki => ?_)
        · simpa using this
        · simp only [swp_length] at hk
          rw [g, g]
          have hp : (k - 1) / 2 < k := by omega
          by_cases hkj : k = j
          · subst hkj
            rw [← hi]
            rw [if_neg (by omega), if_pos rfl, if_pos rfl]
            omega
          · rw [if_neg hkj, if_neg hki]
            by_cases hpj : (k - 1) / 2 = j
            · rw [if_pos hpj]
              have := h2 (by omega) k hk0 hk hpj
              rw [hi]; exact this
            · rw [if_neg hpj]
              by_cases hpi : (k - 1) / 2 = i
              · rw [if_pos hpi]
                have := h1 k hk0 hk hkj
                rw [hpi] at this
                omega
              · rw [if_neg hpi]
                exact h1 k hk0 hk hkj
        · simp only [swp_length] at hk
          have hii := h1 i hi0 (by omega) (by omega)
          rw [g, g]
          rw [if_neg (by omega), if_neg (by omega)]
          by_cases hkj : k = j
          · subst hkj
            rw [if_pos rfl]; exact hii
          · rw [if_neg hkj, if_neg (by omega)]
            have := h1 k hk0 hk hkj
            rw [hki] at this
            omega
      · rename_i hge
        intro k hk0 hk
        by_cases hkj : k = j
        · subst hkj; rw [← hi]; omega
        · exact h1 k hk0 hk hkj

theorem push_perm (l : List Int) (n : Int) : (pushL l n).Perm (l ++ [n]) := upL_perm _ _ (by simp)
theorem push_heap {l : List Int} (n : Int) (h : IsHeapN l.length l) : IsHeapN (pushL l n).length (pushL l n) := by
  have hg : ∀ k, k < l.length → (l ++ [n])[k]! = l[k]! := fun k hk => by
    simp only [List.getElem!_eq_getElem?_getD, List.getElem?_append_left hk]
  have := upL_heap (l ++ [n]) l.length (by simp) (fun k hk0 hk hkl => ?_) (fun h0 k hk0 hk hkl => ?_)
  · rw [show (pushL l n).length = (l ++ [n]).length from upL_length _ _]; exact this
  · simp at hk
    rw [hg _ (by omega), hg _ (by omega)]
    exact h k hk0 (by omega)
  · simp at hk; omega

theorem downL_perm (n : Nat) (l : List Int) (i : Nat) (hn : n ≤ l.length) : (downL n l i).1.Perm l := by
  induction h : n - i using Nat.strongRecOn generalizing l i with
  | ind m ih =>
    rw [downL]
    split
    · simp only
      obtain ⟨j, ej⟩ : ∃ j, j = if 2 * i + 2 < n ∧ l[2 * i + 2]! < l[2 * i + 1]! then 2 * i + 2 else 2 * i + 1 := ⟨_, rfl⟩
      rw [← ej]
      have hj : i < j ∧ j < n := by rw [ej]; split <;> omega
      split
      · exact (ih (n - j) (by omega) _ _ (by simpa using hn) rfl).trans (swp_perm l (by omega) (by omega))
      · exact .refl _
    · exact .refl _

theorem downL_keep (n : Nat) (l : List Int) (i : Nat) (hn : n ≤ l.length) (k : Nat) (hk : n ≤ k) : (downL n l i).1[k]! = l[k]! := by
  induction h : n - i using Nat.strongRecOn generalizing l i with
  | ind m ih =>
    rw [downL]
    split
    · simp only
      obtain ⟨j, ej⟩ : ∃ j, j = if 2 * i + 2 < n ∧ l[2 * i + 2]! < l[2 * i + 1]! then 2 * i + 2 else 2 * i + 1 := ⟨_, rfl⟩
      rw [← ej]
      have hj : i < j ∧ j < n := by rw [ej]; split <;> omega
      split
      · rw [ih (n - j) (by omega) _ _ (by simpa using hn) rfl, swp_get l (by omega) (by omega), if_neg (by omega), if_neg (by omega)]
      · rfl
    · rfl

theorem downL_heap (n : Nat) (l : List Int) (i : Nat) (hn : n ≤ l.length) (h1 : ∀ k, 0 < k → k < n → (k - 1) / 2 ≠ i → l[(k - 1) / 2]! ≤ l[k]!)
    (h2 : 0 < i → ∀ k, 0 < k → k < n → (k - 1) / 2 = i → l[(i - 1) / 2]! ≤ l[k]!) : IsHeapN n (downL n l i).1 := by
  induction h : n - i using Nat.strongRecOn generalizing l i with
  | ind m ih =>
    rw [downL]
    split
    · rename_i hc
      simp only
      obtain ⟨j, ej⟩ : ∃ j, j = if 2 * i + 2 < n ∧ l[2 * i + 2]! < l[2 * i + 1]! then 2 * i + 2 else 2 * i + 1 := ⟨_, rfl⟩
      rw [← ej]
      have hj : i < j ∧ j < n ∧ (j - 1) / 2 = i := by rw [ej]; split <;> omega
      -- the lesser child
      have hmin : ∀ k, 0 < k → k < n → (k - 1) / 2 = i → l[j]! ≤ l[k]! := fun k hk0 hk hki => by
        have : k = 2 * i + 1 ∨ k = 2 * i + 2 := by omega
        rw [ej]
        split
        · rename_i hh
          rcases this with rfl | rfl
          · omega
          · omega
        · rename_i hh
          rcases this with rfl | rfl
          · omega
          · have := fun h => hh ⟨hk, h⟩
            omega
      split
      · rename_i hlt
        have g := swp_get l (i := i) (j := j) (by omega) (by omega)
        refine ih (n - j) (by omega) _ _ (by simpa using hn) (fun k hk0 hk hkj => ?_) (fun hj0 k hk0 hk hkj => ?_) rfl
        · rw [g, g, if_neg hkj]
          by_cases hki : (k - 1) / 2 = i
          · rw [if_pos hki]
            by_cases e : k = j
            · rw [if_pos e]; omega
            · rw [if_neg e, if_neg (by omega)]; exact hmin k hk0 hk hki
          · rw [if_neg hki]
            by_cases e : k = j
            · exfalso; subst e; exact hki hj.2.2
            · rw [if_neg e]
              by_cases e2 : k = i
              · subst e2
                rw [if_pos rfl]
                exact h2 hk0 j (by omega) hj.2.1 hj.2.2
              · rw [if_neg e2]; exact h1 k hk0 hk hki
        · rw [hj.2.2]
          rw [g, g, if_neg (by omega), if_pos rfl, if_neg (by omega), if_neg (by omega)]
          have := h1 k hk0 hk (by omega)
          rw [hkj] at this
          exact this
      · rename_i hge
        intro k hk0 hk
        by_cases hki : (k - 1) / 2 = i
        · have := hmin k hk0 hk hki
          show l[(k - 1) / 2]! ≤ l[k]!
          rw [hki]
          omega
        · exact h1 k hk0 hk hki
    · rename_i hc
      intro k hk0 hk
      exact h1 k hk0 hk (by omega)

theorem heap_min {n : Nat} {l : List Int} (h : IsHeapN n l) : ∀ k, k < n → l[0]! ≤ l[k]! := by
  intro k
  induction k using Nat.strongRecOn with
  | ind k ih =>
    intro hk
    by_cases h0 : k = 0
    · subst h0; omega
    · have := h k (by omega) hk
      have := ih ((k - 1) / 2) (by omega) (by omega)
      omega

theorem get_dropLast {l : List Int} {k : Nat} (h : k < l.length - 1) : l.dropLast[k]! = l[k]! := by
  simp only [List.getElem!_eq_getElem?_getD]
  rw [List.getElem?_dropLast, if_pos h]

/-- The head is taken off: it is the least; what stays is a heap of the others. -/
theorem pop_spec {l : List Int} (h0 : 0 < l.length) (h : IsHeapN l.length l) :
    (popL l)[l.length - 1]! = l[0]! ∧ (∀ x, x ∈ l → l[0]! ≤ x) ∧ l.Perm (l[0]! :: (popL l).dropLast) ∧ IsHeapN (popL l).dropLast.length (popL l).dropLast := by
  have e1 : (popL l)[l.length - 1]! = l[0]! := by
    rw [popL, downL_keep _ _ _ (by simp) _ (Nat.le_refl _), swp_get l h0 (by omega), if_pos rfl]
  refine ⟨e1, fun x hx => ?_, ?_, ?_⟩
  · obtain ⟨k, hk, rfl⟩ := List.getElem_of_mem hx
    have := heap_min h k hk
    rwa [getElem!_pos l k hk] at this
  · have hp : (popL l).Perm l := (downL_perm _ _ _ (by simp)).trans (swp_perm l h0 (by omega))
    have hs := last_of (l := popL l) (by rw [popL_length]; exact h0)
    rw [popL_length, e1] at hs
    have : ((popL l).dropLast ++ [l[0]!]).Perm l := by rw [← hs]; exact hp
    exact this.symm.trans List.perm_append_comm
  · have hd : IsHeapN (l.length - 1) (popL l) := by
      refine downL_heap _ _ _ (by simp) (fun k hk0 hk hk2 => ?_) (fun h => absurd h (by omega))
      rw [swp_get l h0 (by omega), swp_get l h0 (by omega), if_neg (by omega), if_neg (by omega), if_neg (by omega), if_neg (by omega)]
      exact h k hk0 (by omega)
    intro k hk0 hk
    simp [popL_length] at hk
    rw [get_dropLast (by rw [popL_length]; omega), get_dropLast (by rw [popL_length]; omega)]
    exact hd k hk0 hk

end Go.Abs

namespace Go.Abs

/-! ### the least that may stand next, in plain lists -/
def nums (n : Nat) : List Int := (List.range n).map fun (i : Nat) => (i : Int)
theorem mem_nums {n : Nat} {k : Int} : k ∈ nums n ↔ 0 ≤ k ∧ k < n := by
  simp only [nums, List.mem_map, List.mem_range]
  constructor
  · rintro ⟨i, hi, rfl⟩; omega
  · rintro ⟨h1, h2⟩; exact ⟨k.toNat, by omega, by omega⟩
def pre (E : List Edge2) (out : List Int) (k : Int) : Nat := E.countP fun p => p.2 == k && !out.contains p.1
def rows (E : List Edge2) (k : Int) : List Int := (E.filter fun p => p.1 == k).map (·.2)
def nextG (n : Nat) (E : List Edge2) (out : List Int) : Option Int := (nums n).find? fun k => !out.contains k && pre E out k == 0
def greedy (n : Nat) (E : List Edge2) : Nat → List Int → List Int
  | 0, out => out
  | f + 1, out => match nextG n E out with
    | none => out
    | some k => greedy n E f (out ++ [k])
/-- Whether an edge names what is not there. -/
def wrongE (n : Int) (E : List Edge2) : Bool := decide (n < 0) || decide (200 < n) || decide (4000 < E.length) || E.any (badE n)
def ord (n : Int) (E : List Edge2) : List Int × Int :=
  if wrongE n E then ([], 1) else
    if (greedy n.toNat E n.toNat []).length < n.toNat then ([], 12) else (greedy n.toNat E n.toNat [], 0)

theorem nodup_le : ∀ {n : Nat} {l : List Int}, l.Nodup → (∀ x, x ∈ l → 0 ≤ x ∧ x < n) → l.length ≤ n
  | 0, l, _, h => by
    cases l with
    | nil => simp
    | cons x l => have := h x (by simp); omega
  | n + 1, l, hn, h => by
    have h1 := nodup_le (n := n) (l := l.erase (n : Int)) (hn.erase _) fun x hx => by
      have := (hn.mem_erase_iff).1 hx
      have := h x this.2
      have : x ≠ n := ‹x ≠ _ ∧ _›.1
      omega
    have h2 := List.length_erase_le (l := l) (a := (n : Int))
    by_cases hm : (n : Int) ∈ l
    · rw [List.length_erase_of_mem hm] at h1; omega
    · rw [List.erase_of_not_mem hm] at h1; omega

theorem pre_step (E : List Edge2) (out : List Int) (i k : Int) (hi : i ∉ out) : pre E out k = pre E (out ++ [i]) k + (rows E i).count k := by
  induction E with
  | nil => simp [pre, rows]
  | cons p E ih =>
    obtain ⟨a, b⟩ := p
    simp only [pre, rows, List.countP_cons, List.filter_cons] at ih ⊢
    by_cases ha : a = i
    · subst ha
      by_cases hb : b = k
      · subst hb; simp [hi] at ih ⊢; omega
      · have hb' : (b == k) = false := by simpa using hb
        simp [hi, hb'] at ih ⊢; rw [ih, List.count_cons_of_ne (by simpa using hb)]
    · have ha' : (a == i) = false := by simpa using ha
      simp [ha', ha] at ih ⊢
      omega

theorem nextG_some {n : Nat} {E : List Edge2} {out : List Int} {k : Int} (h0 : 0 ≤ k) (hn : k < n) (hk : k ∉ out) (hp : pre E out k = 0) (hl : ∀ j : Int, 0 ≤ j → j < k → j ∉ out → pre E out j ≠ 0) : nextG n E out = some k := by
  obtain ⟨m, rfl⟩ := Int.eq_ofNat_of_zero_le h0
  unfold nextG
  rw [List.find?_eq_some_iff_append]
  refine ⟨by simp [hk, hp], nums m, (List.range' (m + 1) (n - m - 1)).map fun (i : Nat) => (i : Int), ?_, fun j hj => ?_⟩
  · have : List.range n = List.range m ++ m :: List.range' (m + 1) (n - m - 1) := by
      have h1 : n = m + (1 + (n - m - 1)) := by omega
      conv => lhs; rw [h1]
      rw [List.range_eq_range', ← List.range'_append_1, List.range_eq_range', Nat.zero_add, Nat.add_comm 1, List.range'_succ]
    rw [nums, this]; simp [nums]
  · obtain ⟨j0, j1⟩ := mem_nums.1 hj
    by_cases hjo : j ∈ out
    · simp [hjo]
    · have := hl j j0 j1 hjo
      simp [hjo, this]
theorem nextG_none {n : Nat} {E : List Edge2} {out : List Int} (hl : ∀ j : Int, 0 ≤ j → j < n → j ∉ out → pre E out j ≠ 0) : nextG n E out = none := by
  unfold nextG
  rw [List.find?_eq_none]
  intro j hj
  obtain ⟨j0, j1⟩ := mem_nums.1 hj
  by_cases hjo : j ∈ out
  · simp [hjo]
  · have := hl j j0 j1 hjo
    simp [hjo, this]

/-- What the heap is, while edges are still to be taken off. -/
structure HI (n : Nat) (out : List Int) (cnt : Int → Nat) (h : List Int) : Prop where
  heap : IsHeapN h.length h
  nodup : h.Nodup
  mem : ∀ k, k ∈ h ↔ 0 ≤ k ∧ k < n ∧ k ∉ out ∧ cnt k = 0
theorem HI.len {n : Nat} {out : List Int} {cnt : Int → Nat} {h : List Int} (H : HI n out cnt h) : h.length ≤ n := nodup_le H.nodup fun x hx => by have := (H.mem x).1 hx; omega

theorem HI.push {n : Nat} {out : List Int} {cnt cnt' : Int → Nat} {h : List Int} (H : HI n out cnt h) {k : Int} (k0 : 0 ≤ k) (k1 : k < n) (ko : k ∉ out) (kc : cnt k ≠ 0) (kc' : cnt' k = 0) (ho : ∀ j, j ≠ k → cnt' j = cnt j) : HI n out cnt' (pushL h k) := by
  have hp := push_perm h k
  refine ⟨push_heap k H.heap, ?_, fun j => ?_⟩
  · rw [hp.nodup_iff, List.nodup_append]
    refine ⟨H.nodup, by simp, fun a ha b hb => ?_⟩
    simp at hb; subst hb
    intro e; subst e
    exact kc ((H.mem a).1 ha).2.2.2
  · rw [hp.mem_iff, List.mem_append, List.mem_singleton, H.mem]
    by_cases e : j = k
    · subst e; simp [k0, k1, ko, kc']
    · simp [e, ho j e]
theorem HI.less {n : Nat} {out : List Int} {cnt cnt' : Int → Nat} {h : List Int} (H : HI n out cnt h) {k : Int} (kc : cnt k ≠ 0) (kc' : cnt' k ≠ 0) (ho : ∀ j, j ≠ k → cnt' j = cnt j) : HI n out cnt' h :=
  ⟨H.heap, H.nodup, fun j => by
    rw [H.mem]
    by_cases e : j = k
    · subst e; simp [kc, kc']
    · rw [ho j e]⟩
/-- The head stands next. -/
theorem HI.pop {n : Nat} {out : List Int} {E : List Edge2} {h : List Int} (H : HI n out (pre E out) h) (h0 : 0 < h.length) (hz : ∀ x, x ∈ out → pre E out x = 0) :
    nextG n E out = some (popL h)[h.length - 1]! ∧ 0 ≤ (popL h)[h.length - 1]! ∧ (popL h)[h.length - 1]! < n ∧ (popL h)[h.length - 1]! ∉ out ∧
    HI n (out ++ [(popL h)[h.length - 1]!]) (fun k => pre E (out ++ [(popL h)[h.length - 1]!]) k + (rows E (popL h)[h.length - 1]!).count k) (popL h).dropLast ∧
    (∀ x, x ∈ out ++ [(popL h)[h.length - 1]!] → pre E (out ++ [(popL h)[h.length - 1]!]) x + (rows E (popL h)[h.length - 1]!).count x = 0) := by
  obtain ⟨p1, p2, p3, p4⟩ := pop_spec h0 H.heap
  rw [p1]
  generalize h[0]! = i at *
  have hi := (H.mem i).1 (p3.mem_iff.2 (by simp))
  have hnd := p3.nodup_iff.1 H.nodup
  refine ⟨nextG_some hi.1 hi.2.1 hi.2.2.1 hi.2.2.2 fun j j0 j1 jo jp => ?_, hi.1, hi.2.1, hi.2.2.1, ⟨p4, (List.nodup_cons.1 hnd).2, fun k => ?_⟩, fun x hx => ?_⟩
  · have := p2 j ((H.mem j).2 ⟨j0, by omega, jo, jp⟩); omega
  · rw [← pre_step E out i k hi.2.2.1]
    have hm : k ∈ h ↔ k = i ∨ k ∈ (popL h).dropLast := by rw [p3.mem_iff, List.mem_cons]
    by_cases e : k = i
    · subst e; simp [(List.nodup_cons.1 hnd).1]
    · have : k ∈ (popL h).dropLast ↔ k ∈ h := by rw [hm]; simp [e]
      rw [this, H.mem]; simp [e]
  · rw [← pre_step E out i x hi.2.2.1]
    rcases List.mem_append.1 hx with h | h
    · exact hz x h
    · simp at h; subst h; exact hi.2.2.2

/-- The counts, as a row. -/
def aL (n : Nat) (cnt : Int → Nat) : List Int := (List.range n).map fun (i : Nat) => ((cnt (i : Int) : Nat) : Int)
@[simp] theorem aL_length (n : Nat) (cnt : Int → Nat) : (aL n cnt).length = n := by simp [aL]
@[simp] theorem aL_at (n : Nat) (cnt : Int → Nat) (i : Nat) (h : i < (aL n cnt).length) : (aL n cnt)[i] = ((cnt (i : Int) : Nat) : Int) := by simp [aL]
theorem aL_set {n : Nat} {cnt cnt' : Int → Nat} {i : Nat} {v : Int} (hv : v = ((cnt' (i : Int) : Nat) : Int)) (ho : ∀ j : Nat, j ≠ i → cnt' (j : Int) = cnt (j : Int)) : (aL n cnt).set i v = aL n cnt' := by
  refine List.ext_getElem (by simp) fun j h1 h2 => ?_
  rw [List.getElem_set]
  split
  · rename_i e; subst e; simp [hv]
  · rename_i e; simp [ho j (Ne.symm e)]
theorem aL_congr {n : Nat} {cnt cnt' : Int → Nat} (h : ∀ j : Nat, j < n → cnt' (j : Int) = cnt (j : Int)) : aL n cnt = aL n cnt' := by
  refine List.ext_getElem (by simp) fun j h1 h2 => ?_
  simp only [aL_at]
  rw [h j (by simpa using h1)]

end Go.Abs

namespace Go.Abs

/-! ### what a least-first order is -/
theorem pre_zero {E : List Edge2} {out : List Int} {k : Int} : pre E out k = 0 ↔ ∀ p, p ∈ E → p.2 = k → p.1 ∈ out := by
  unfold pre
  rw [List.countP_eq_zero]
  constructor
  · intro h p hp hk
    have := h p hp
    simp [hk] at this
    exact this
  · intro h p hp
    by_cases hk : p.2 = k
    · simp [hk, h p hp hk]
    · simp [hk]
theorem nextG_is {n : Nat} {E : List Edge2} {out : List Int} {k : Int} (h : nextG n E out = some k) : 0 ≤ k ∧ k < n ∧ k ∉ out ∧ pre E out k = 0 ∧ ∀ j : Int, 0 ≤ j → j < k → j ∉ out → pre E out j ≠ 0 := by
  have h1 := List.find?_some h
  have h2 := mem_nums.1 (List.mem_of_find?_eq_some h)
  simp only [Bool.and_eq_true, Bool.not_eq_true', beq_iff_eq] at h1
  have hk : k ∉ out := by simpa using h1.1
  refine ⟨h2.1, h2.2, hk, h1.2, fun j j0 jk jo jp => ?_⟩
  -- a lesser one would have been found
  by_cases hex : ∃ j : Nat, (j : Int) < k ∧ (j : Int) ∉ out ∧ pre E out (j : Int) = 0
  · obtain ⟨m, hm, hmin⟩ : ∃ m : Nat, ((m : Int) < k ∧ (m : Int) ∉ out ∧ pre E out (m : Int) = 0) ∧ ∀ i : Nat, i < m → ¬ ((i : Int) < k ∧ (i : Int) ∉ out ∧ pre E out (i : Int) = 0) := by
      obtain ⟨j, hj⟩ := hex
      induction j using Nat.strongRecOn with
      | ind j ih =>
        by_cases h : ∃ i : Nat, i < j ∧ ((i : Int) < k ∧ (i : Int) ∉ out ∧ pre E out (i : Int) = 0)
        · obtain ⟨i, hi, hi2⟩ := h
          exact ih i hi hi2
        · exact ⟨j, hj, fun i hi h2 => h ⟨i, hi, h2⟩⟩
    have := nextG_some (n := n) (E := E) (out := out) (k := (m : Int)) (by omega) (by omega) hm.2.1 hm.2.2 fun i i0 im io ip => by
      obtain ⟨i', rfl⟩ := Int.eq_ofNat_of_zero_le i0
      exact hmin i' (by omega) ⟨by omega, io, ip⟩
    rw [h] at this
    cases this
    omega
  · obtain ⟨j', rfl⟩ := Int.eq_ofNat_of_zero_le j0
    exact hex ⟨j', jk, jo, jp⟩
theorem nextG_no {n : Nat} {E : List Edge2} {out : List Int} (h : nextG n E out = none) : ∀ j : Int, 0 ≤ j → j < n → j ∉ out → pre E out j ≠ 0 := by
  intro j j0 j1 jo jp
  unfold nextG at h
  rw [List.find?_eq_none] at h
  have := h j (mem_nums.2 ⟨j0, j1⟩)
  simp [jo, jp] at this

inductive Run (n : Nat) (E : List Edge2) : List Int → Prop where
  | nil : Run n E []
  | snoc {out : List Int} {k : Int} (h : Run n E out) (hk : nextG n E out = some k) : Run n E (out ++ [k])

theorem Run.nodup {n : Nat} {E : List Edge2} {out : List Int} (h : Run n E out) : out.Nodup := by
  induction h with
  | nil => simp
  | snoc h hk ih =>
    rw [List.nodup_append]
    exact ⟨ih, by simp, fun a ha b hb => by simp at hb; subst hb; intro e; subst e; exact (nextG_is hk).2.2.1 ha⟩
theorem Run.range {n : Nat} {E : List Edge2} {out : List Int} (h : Run n E out) : ∀ x, x ∈ out → 0 ≤ x ∧ x < n := by
  induction h with
  | nil => simp
  | snoc h hk ih =>
    intro x hx
    rcases List.mem_append.1 hx with hx | hx
    · exact ih x hx
    · simp at hx; subst hx; have := nextG_is hk; exact ⟨this.1, this.2.1⟩
/-- At each place: what stood ahead, and that the next one follows from it. -/
theorem Run.at {n : Nat} {E : List Edge2} {out : List Int} (h : Run n E out) : ∀ (i : Nat) k, out[i]? = some k → nextG n E (out.take i) = some k := by
  induction h with
  | nil => simp
  | snoc h hk ih =>
    rename_i out k0
    intro i k hi
    by_cases hl : i < out.length
    · rw [List.getElem?_append_left hl] at hi
      rw [List.take_append_of_le_length (by omega)]
      exact ih i k hi
    · have hi' : i = out.length := by
        have := (List.getElem?_eq_some_iff.1 hi).1
        simp at this; omega
      subst hi'
      simp at hi
      subst hi
      simpa using hk
theorem greedy_run {n : Nat} {E : List Edge2} : ∀ (f : Nat) (out : List Int), Run n E out → Run n E (greedy n E f out) ∧ (n ≤ f + out.length → nextG n E (greedy n E f out) = none)
  | 0, out, h => ⟨h, fun hf => by
    cases hx : nextG n E out with
    | none => exact hx
    | some k =>
      have h2 := (Run.snoc h hx)
      have := nodup_le h2.nodup h2.range
      simp at this
      simp at hf
      omega⟩
  | f + 1, out, h => by
    rw [greedy]
    cases hx : nextG n E out with
    | none => exact ⟨h, fun _ => hx⟩
    | some k =>
      obtain ⟨h1, h2⟩ := greedy_run f (out ++ [k]) (h.snoc hx)
      exact ⟨h1, fun hf => h2 (by simp; omega)⟩
def gr (n : Nat) (E : List Edge2) : List Int := greedy n E n []
theorem gr_run (n : Nat) (E : List Edge2) : Run n E (gr n E) := (greedy_run n [] .nil).1
theorem gr_stop (n : Nat) (E : List Edge2) : nextG n E (gr n E) = none := (greedy_run n [] .nil).2 (by simp)
theorem gr_le (n : Nat) (E : List Edge2) : (gr n E).length ≤ n := nodup_le (gr_run n E).nodup (gr_run n E).range
theorem full_mem {n : Nat} {l : List Int} (hn : l.Nodup) (hr : ∀ x, x ∈ l → 0 ≤ x ∧ x < n) (hl : l.length = n) {k : Int} (k0 : 0 ≤ k) (k1 : k < n) : k ∈ l := by
  by_cases h : k ∈ l
  · exact h
  · have := nodup_le (n := n) (l := k :: l) (List.nodup_cons.2 ⟨h, hn⟩) fun x hx => by
      rcases List.mem_cons.1 hx with rfl | hx
      · exact ⟨k0, k1⟩
      · exact hr x hx
    simp at this; omega
/-- Two runs of one length are one. -/
theorem Run.eq_of {n : Nat} {E : List Edge2} {a b : List Int} (ha : Run n E a) (hb : Run n E b) (h : a.length = b.length) : a = b := by
  refine List.ext_getElem? fun i => ?_
  induction i using Nat.strongRecOn with
  | ind i ih =>
    by_cases hi : i < a.length
    · have e : a.take i = b.take i := by
        refine List.ext_getElem? fun j => ?_
        rw [List.getElem?_take, List.getElem?_take]
        split
        · rename_i hj; exact ih j hj
        · rfl
      have h1 := ha.at i a[i] (by simp [hi])
      have h2 := hb.at i b[i] (by simp [h ▸ hi])
      rw [e, h2] at h1
      rw [List.getElem?_eq_getElem hi, List.getElem?_eq_getElem (h ▸ hi)]
      exact h1.symm
    · rw [List.getElem?_eq_none (by omega), List.getElem?_eq_none (by omega)]
/-- A run that goes no further is the order. -/
theorem Run.gr {n : Nat} {E : List Edge2} {a : List Int} (ha : Run n E a) (h : nextG n E a = none) : gr n E = a := by
  have key : ∀ {a b : List Int}, Run n E a → nextG n E a = none → Run n E b → b.length ≤ a.length := fun {a b} ha h hb => by
    by_cases hl : b.length ≤ a.length
    · exact hl
    · exfalso
      have hl : a.length < b.length := by omega
      -- b's beginning is a
      have e : b.take a.length = a := by
        refine List.ext_getElem? fun i => ?_
        rw [List.getElem?_take]
        induction i using Nat.strongRecOn with
        | ind i ih =>
          by_cases hi : i < a.length
          · rw [if_pos hi]
            have e : b.take i = a.take i := by
              refine List.ext_getElem? fun j => ?_
              rw [List.getElem?_take, List.getElem?_take]
              split
              · rename_i hj
                have := ih j hj
                rw [if_pos (by omega)] at this
                exact this
              · rfl
            have h1 := ha.at i a[i] (by simp [hi])
            have h2 := hb.at i (b[i]'(by omega)) (by simp)
            rw [e, h1] at h2
            rw [List.getElem?_eq_getElem hi, List.getElem?_eq_getElem (by omega)]
            exact h2.symm
          · rw [if_neg hi, List.getElem?_eq_none (by omega)]
      have h2 := hb.at a.length (b[a.length]'hl) (by simp)
      rw [e, h] at h2
      cases h2
  exact Run.eq_of (gr_run n E) ha (Nat.le_antisymm (key ha h (gr_run n E)) (key (gr_run n E) (gr_stop n E) ha))

/-- An order by the edges, of all numbers: then the least-first one has them all too. -/
theorem gr_full {n : Nat} {E : List Edge2} {l : List Int} (hn : l.Nodup) (hr : ∀ x, x ∈ l → 0 ≤ x ∧ x < n) (hl : l.length = n) (hE : ∀ (i : Nat) k, l[i]? = some k → ∀ p, p ∈ E → p.2 = k → p.1 ∈ l.take i) : (gr n E).length = n := by
  have all : ∀ (i : Nat) (k : Int), l[i]? = some k → k ∈ gr n E := by
    intro i
    induction i using Nat.strongRecOn with
    | ind i ih =>
      intro k hk
      by_cases h : k ∈ gr n E
      · exact h
      · have hkr := hr k (List.mem_of_getElem? hk)
        have := nextG_no (gr_stop n E) k hkr.1 hkr.2 h
        exfalso
        refine this (pre_zero.2 fun p hp hp2 => ?_)
        obtain ⟨j, hj⟩ := List.mem_iff_getElem?.1 (hE i k hk p hp hp2)
        rw [List.getElem?_take] at hj
        split at hj
        · rename_i hji; exact ih j hji _ hj
        · cases hj
  have h1 : n ≤ (gr n E).length := by
    have : ∀ {a b : List Int}, a.Nodup → (∀ x, x ∈ a → x ∈ b) → a.length ≤ b.length := fun {a} => by
      induction a with
      | nil => intro b _ _; simp
      | cons x a ih =>
        intro b hn hs
        have hx := hs x (by simp)
        have := ih (b := b.erase x) (List.nodup_cons.1 hn).2 fun y hy => (List.mem_erase_of_ne (by intro e; subst e; exact (List.nodup_cons.1 hn).1 hy)).2 (hs y (by simp [hy]))
        rw [List.length_erase_of_mem hx] at this
        have : 0 < b.length := List.length_pos_of_mem hx
        simp; omega
    have := this hn (b := gr n E) fun x hx => by obtain ⟨i, hi⟩ := List.mem_iff_getElem?.1 hx; exact all i x hi
    omega
  have := gr_le n E
  omega


/-! ### where a number stands -/
theorem take_succ'' {α : Type} {l : List α} {i : Nat} {x : α} (h : l[i]? = some x) : l.take (i + 1) = l.take i ++ [x] := by rw [List.take_add_one, h]; rfl
def posOf (l : List Int) (k : Int) : Option Nat := l.findIdx? fun x => x == k
theorem pre_app (E F : List Edge2) (out : List Int) (k : Int) : pre (E ++ F) out k = pre E out k + pre F out k := by simp [pre, List.countP_append]
theorem gr_nil (n : Nat) : gr n [] = nums n := by
  have hr : ∀ m, m ≤ n → Run n [] (nums m) := by
    intro m
    induction m with
    | zero => intro _; exact .nil
    | succ m ih =>
      intro hm
      have e : nums (m + 1) = nums m ++ [(m : Int)] := by simp [nums, List.range_succ]
      rw [e]
      refine (ih (by omega)).snoc (nextG_some (by omega) (by omega) (fun h => by have := mem_nums.1 h; omega) rfl fun j j0 jm jn => absurd (mem_nums.2 ⟨j0, jm⟩) jn)
  refine (hr n (Nat.le_refl n)).gr (nextG_none fun j j0 j1 jn => absurd (mem_nums.2 ⟨j0, j1⟩) jn)
theorem nums_length (n : Nat) : (nums n).length = n := by simp [nums]

/-- Each edge's first end stands ahead of its other one. -/
theorem gr_ahead {n : Nat} {E : List Edge2} {i : Nat} {k : Int} (hk : (gr n E)[i]? = some k) : ∀ p, p ∈ E → p.2 = k → p.1 ∈ (gr n E).take i := pre_zero.1 (nextG_is ((gr_run n E).at i k hk)).2.2.2.1
/-- A ring has no place. -/
theorem gr_ring {n : Nat} {E : List Edge2} {S : Int → Prop} (hS : ∀ k, S k → ∃ p, p ∈ E ∧ p.2 = k ∧ S p.1) : ∀ k, S k → k ∉ gr n E := by
  intro k hk hm
  obtain ⟨i, hi⟩ := List.mem_iff_getElem?.1 hm
  induction i using Nat.strongRecOn generalizing k with
  | ind i ih =>
    obtain ⟨p, hp, hp2, hp1⟩ := hS k hk
    have := gr_ahead hi p hp hp2
    obtain ⟨j, hj⟩ := List.mem_iff_getElem?.1 this
    rw [List.getElem?_take] at hj
    split at hj
    · rename_i hji; exact ih j hji p.1 hp1 (List.mem_of_getElem? hj) hj
    · cases hj
/-- One edge more that the order keeps. -/
theorem gr_more {n : Nat} {E : List Edge2} {a b : Int} (hab : ∀ i, (gr n E)[i]? = some b → a ∈ (gr n E).take i) (hf : (gr n E).length = n) : gr n (E ++ [(a, b)]) = gr n E := by
  have hr : ∀ m, m ≤ (gr n E).length → Run n (E ++ [(a, b)]) ((gr n E).take m) := by
    intro m
    induction m with
    | zero => intro _; exact .nil
    | succ m ih =>
      intro hm
      obtain ⟨k, hk⟩ := at_of (ts := gr n E) (i := m) (by omega)
      rw [take_succ'' hk]
      refine (ih (by omega)).snoc ?_
      obtain ⟨k0, k1, k2, k3, k4⟩ := nextG_is ((gr_run n E).at m k hk)
      refine nextG_some k0 k1 k2 ?_ fun j j0 jk jo => ?_
      · rw [pre_app, k3]
        rw [show pre [(a, b)] ((gr n E).take m) k = 0 from pre_zero.2 fun p hp hp2 => by simp at hp; subst hp; simp at hp2; subst hp2; exact hab m hk]
      · have := k4 j j0 jk jo
        rw [pre_app]; omega
  have h1 := hr _ (Nat.le_refl _)
  rw [List.take_of_length_le (Nat.le_refl _)] at h1
  exact h1.gr (nextG_none fun j j0 j1 jn => absurd (full_mem (gr_run n E).nodup (gr_run n E).range hf j0 j1) jn)
/-- Where there is no order, there is none with more edges. -/
theorem gr_less {n : Nat} {E F : List Edge2} (h : (gr n (E ++ F)).length = n) : (gr n E).length = n :=
  gr_full (gr_run n (E ++ F)).nodup (gr_run n (E ++ F)).range h fun i k hk p hp hp2 => gr_ahead hk p (by simp [hp]) hp2

end Go.Abs

namespace Go.Abs

/- porism/deps.Needs -/
def c1017b0 : SCode :=
  .seq (.seq (.reg
         [⟨some 23, none, .mv (.t 8)⟩,
          ⟨some 24, none, .len 24 (.t 23)⟩,
          ⟨some 25, none, .bin .gtr (.t 24) (.k (.int .i64 0))⟩])
    (.cond (.t 25)
      (.skip)
      (.exit 1)))
  (.block 2 (.seq (.reg
         [⟨some 26, none, .mv (.t 8)⟩,
          ⟨some 27, none, .mv (.t 8)⟩,
          ⟨some 28, none, .len 24 (.t 27)⟩,
          ⟨some 29, none, .bin .sub (.t 28) (.k (.int .i64 1))⟩,
          ⟨some 30, none, .iad 3 1 (.t 26) (.t 29)⟩,
          ⟨some 31, none, .ld1 3 (.t 30)⟩,
          ⟨some 9, none, .mv (.t 31)⟩])
    (.seq (.reg
         [⟨some 32, none, .mv (.t 8)⟩,
          ⟨some 33, none, .mv (.t 8)⟩,
          ⟨some 34, none, .len 24 (.t 33)⟩,
          ⟨some 35, none, .bin .sub (.t 34) (.k (.int .i64 1))⟩,
          ⟨some 36, none, .shr 3 1 8 (.t 32) (.t 35)⟩,
          ⟨some 8, none, .mv (.t 36)⟩])
    (.seq (.seq (.reg
           [⟨some 37, none, .mv (.t 7)⟩,
            ⟨some 38, none, .mv (.t 9)⟩,
            ⟨some 39, none, .mget true false [.v (.bool false)] (.t 37) (.t 38)⟩])
      (.cond (.t 39)
        (.exit 2)
        (.skip)))
    (.seq (.reg
         [⟨some 40, none, .mv (.t 7)⟩,
          ⟨some 41, none, .mv (.t 9)⟩,
          ⟨none, none, .mset true (.t 40) (.t 41) (.k (.bool true))⟩])
    (.reg
       [⟨some 42, none, .mv (.t 8)⟩,
        ⟨some 43, none, .ld1 37 (.t 2)⟩,
        ⟨some 44, none, .mv (.t 9)⟩,
        ⟨some 45, none, .call (.f 41) [.t 43, .t 44]⟩,
        ⟨some 46, none, .appm 3 1 8 (.t 42) (.t 45)⟩,
        ⟨some 8, none, .mv (.t 46)⟩]))))))
def c1017 : SCode :=
  .seq (.reg
       [⟨some 2, none, .box 37 (.t 0)⟩,
        ⟨some 4, none, .mv (.nil 1 8)⟩,
        ⟨some 5, none, .mv (.k (.int .i64 0))⟩])
  (.seq (.reg
       [⟨some 10, none, .ld1 37 (.t 2)⟩,
        ⟨some 11, none, .call (.f 27) [.t 10]⟩,
        ⟨some 6, none, .mv (.t 11)⟩])
  (.seq (.block 0 (.seq (.reg
           [⟨some 13, none, .mv (.t 6)⟩,
            ⟨some 14, none, .bin .neq (.t 13) (.k (.int .i64 0))⟩,
            ⟨some 12, none, .mv (.t 14)⟩])
      (.cond (.t 12)
        (.seq (.reg
             [⟨some 15, none, .mv (.t 6)⟩,
              ⟨some 4, none, .mv (.nil 1 8)⟩,
              ⟨some 5, none, .mv (.t 15)⟩])
        (.ret))
        (.seq (.reg
             [⟨some 17, none, .mv (.t 1)⟩,
              ⟨some 18, none, .mkfn 39 [] [.t 2]⟩,
              ⟨some 19, none, .call (.f 38) [.t 17, .t 18]⟩,
              ⟨some 16, none, .mv (.t 19)⟩])
        (.cond (.t 16)
          (.seq (.reg
               [⟨some 4, none, .mv (.nil 1 8)⟩,
                ⟨some 5, none, .mv (.k (.int .i64 14))⟩])
          (.ret))
          (.skip))))))
  (.seq (.reg
       [⟨some 20, none, .mkmap true⟩,
        ⟨some 7, none, .mv (.t 20)⟩])
  (.seq (.seq (.reg
         [⟨some 21, none, .mv (.t 1)⟩,
          ⟨some 22, none, .call (.f 40) [.t 21]⟩,
          ⟨some 8, none, .mv (.t 22)⟩])
    (.block 1 (.loop c1017b0)))
  (.seq (.reg
       [⟨some 47, none, .mv (.t 7)⟩,
        ⟨some 48, none, .call (.f 43) [.t 47]⟩,
        ⟨some 49, none, .call (.f 42) [.t 48]⟩,
        ⟨some 4, none, .mv (.t 49)⟩,
        ⟨some 5, none, .mv (.k (.int .i64 0))⟩])
  (.ret))))))
def r1017 : List RR := [.t 4, .t 5]
theorem ok1017 : okFn Go.Proofs.Tryz.prog 17 50 c1017 r1017 2 = true := by kernel_rfl

/- porism/rule.Check -/
def c1027b0 : SCode :=
  .seq (.reg
       [⟨some 15, none, .bin .lss (.t 14) (.t 13)⟩])
  (.seq (.cond (.t 15)
      (.skip)
      (.exit 0))
  (.seq (.block 1 (.seq (.reg
           [⟨some 16, none, .mv (.t 14)⟩,
            ⟨some 17, none, .iad 70 12 (.t 12) (.t 14)⟩,
            ⟨some 18, none, .ldn 70 12 (.t 17)⟩,
            ⟨some 5, none, .alloc 70 [.v (.int .i64 0), .v (.int .i64 0), .v (.int .i64 0), .cap 3 40 [], .v (.int .i64 0), .v (.int .i64 0), .cap 3 40 [], .v (.int .i64 0), .v (.int .i64 0), .cap 6 80 [], .cap 6 96 [], .v (.int .i64 0)]⟩,
            ⟨some 4, none, .mv (.t 16)⟩,
            ⟨none, none, .stn 70 12 (.t 5) (.t 18)⟩])
      (.seq (.seq (.reg
             [⟨some 19, none, .ldn 70 12 (.t 5)⟩,
              ⟨some 20, none, .mv (.t 4)⟩,
              ⟨some 21, none, .call (.f 52) [.t 19, .t 20]⟩,
              ⟨some 22, none, .not (.t 21)⟩])
        (.cond (.t 22)
          (.seq (.reg
               [⟨some 2, none, .mv (.k (.int .i64 12))⟩])
          (.ret))
          (.skip)))
      (.seq (.seq (.reg
             [⟨some 23, none, .fad 70 0 0 (.t 5)⟩,
              ⟨some 24, none, .ld1 3 (.t 23)⟩,
              ⟨some 25, none, .bin .lss (.t 24) (.k (.int .i64 3))⟩])
        (.cond (.t 25)
          (.exit 1)
          (.skip)))
      (.seq (.reg
           [⟨some 27, none, .mv (.t 3)⟩,
            ⟨some 28, none, .fad 70 3 7 (.t 5)⟩,
            ⟨some 29, none, .ld1 3 (.t 28)⟩,
            ⟨some 30, none, .mget false true [.cap 6 80 [], .cap 6 96 [], .v (.int .i64 0)] (.t 27) (.t 29)⟩,
            ⟨some 26, none, .mv (.t 30)⟩,
            ⟨some 31, none, .ext (.t 26) 0⟩,
            ⟨some 32, none, .ext (.t 26) 1⟩,
            ⟨some 6, none, .alloc 68 [.cap 6 80 [], .cap 6 96 [], .v (.int .i64 0)]⟩,
            ⟨none, none, .stn 68 3 (.t 6) (.t 31)⟩,
            ⟨some 7, none, .mv (.t 32)⟩])
      (.seq (.seq (.reg
             [⟨some 33, none, .mv (.t 7)⟩,
              ⟨some 34, none, .mv (.t 33)⟩,
              ⟨some 35, some (34, true), .ldn 68 3 (.t 6)⟩,
              ⟨some 36, some (34, true), .fad 70 5 9 (.t 5)⟩,
              ⟨some 37, some (34, true), .ldn 68 3 (.t 36)⟩,
              ⟨some 38, some (34, true), .call (.f 53) [.t 35, .t 37]⟩,
              ⟨some 39, some (34, true), .not (.t 38)⟩,
              ⟨some 40, none, .pick (.t 34) (.t 39) (.k (.bool false))⟩,
              ⟨some 41, none, .mv (.t 40)⟩,
              ⟨some 42, some (41, false), .mv (.t 7)⟩,
              ⟨some 43, some (41, false), .not (.t 42)⟩,
              ⟨some 44, some (41, false), .mv (.t 43)⟩,
              ⟨some 45, some (44, true), .fad 70 5 9 (.t 5)⟩,
              ⟨some 46, some (44, true), .ldn 68 3 (.t 45)⟩,
              ⟨some 47, some (44, true), .fad 70 3 7 (.t 5)⟩,
              ⟨some 48, some (44, true), .ld1 3 (.t 47)⟩,
              ⟨some 49, some (44, true), .call (.f 54) [.t 46, .t 48]⟩,
              ⟨some 50, some (44, true), .not (.t 49)⟩,
              ⟨some 51, some (41, false), .pick (.t 44) (.t 50) (.k (.bool false))⟩,
              ⟨some 52, none, .pick (.t 41) (.k (.bool true)) (.t 51)⟩])
        (.cond (.t 52)
          (.seq (.reg
               [⟨some 2, none, .mv (.k (.int .i64 12))⟩])
          (.ret))
          (.skip)))
      (.reg
         [⟨some 53, none, .mv (.t 3)⟩,
          ⟨some 54, none, .fad 70 3 7 (.t 5)⟩,
          ⟨some 55, none, .ld1 3 (.t 54)⟩,
          ⟨some 56, none, .fad 70 5 9 (.t 5)⟩,
          ⟨some 57, none, .ldn 68 3 (.t 56)⟩,
          ⟨none, none, .mset false (.t 53) (.t 55) (.t 57)⟩])))))))
  (.reg
     [⟨some 58, none, .bin .add (.t 14) (.k (.int .i64 1))⟩,
      ⟨some 14, none, .mv (.t 58)⟩])))
def c1027 : SCode :=
  .seq (.reg
       [⟨some 2, none, .mv (.k (.int .i64 0))⟩])
  (.seq (.seq (.reg
         [⟨some 8, none, .mv (.t 0)⟩,
          ⟨some 9, none, .len 37 (.t 8)⟩,
          ⟨some 10, none, .bin .gtr (.t 9) (.k (.int .i64 200))⟩])
    (.cond (.t 10)
      (.seq (.reg
           [⟨some 2, none, .mv (.k (.int .i64 13))⟩])
      (.ret))
      (.skip)))
  (.seq (.reg
       [⟨some 11, none, .mkmap false⟩,
        ⟨some 3, none, .mv (.t 11)⟩])
  (.seq (.seq (.reg
         [⟨some 12, none, .mv (.t 0)⟩,
          ⟨some 13, none, .len 37 (.t 12)⟩,
          ⟨some 14, none, .mv (.k (.int .i64 0))⟩])
    (.block 0 (.loop c1027b0)))
  (.seq (.reg
       [⟨some 2, none, .mv (.k (.int .i64 0))⟩])
  (.ret)))))
def r1027 : List RR := [.t 2]
theorem ok1027 : okFn Go.Proofs.Tryz.prog 27 59 c1027 r1027 1 = true := by kernel_rfl

/- porism/porismref01.C -/
def c1034 : SCode :=
  .seq (.reg
       [⟨some 2, none, .alloc 63 [.v (.int .i64 0), .v (.int .i64 0), .cap 3 40 []]⟩])
  (.seq (.reg
       [⟨some 3, none, .mv (.t 0)⟩,
        ⟨some 4, none, .build 63 [.v (.int .i64 0), .v (.int .i64 0), .cap 3 40 []] [(0, 0, 1, .k (.int .i64 3)), (1, 1, 1, .t 3)]⟩,
        ⟨none, none, .stn 63 3 (.t 2) (.t 4)⟩])
  (.ret))
def r1034 : List RR := [.cn 2 3]
theorem ok1034 : okFn Go.Proofs.Tryz.prog 34 5 c1034 r1034 1 = true := by kernel_rfl

/- slices.ContainsFunc[[]int,int] -/
def c1038 : SCode :=
  .seq (.reg
       [⟨some 4, none, .mv (.k (.bool false))⟩])
  (.seq (.reg
       [⟨some 5, none, .mv (.t 0)⟩,
        ⟨some 6, none, .mv (.t 1)⟩,
        ⟨some 7, none, .call (.f 60) [.t 5, .t 6]⟩,
        ⟨some 8, none, .bin .geq (.t 7) (.k (.int .i64 0))⟩,
        ⟨some 4, none, .mv (.t 8)⟩])
  (.ret))
def r1038 : List RR := [.t 4]
theorem ok1038 : okFn Go.Proofs.Tryz.prog 38 9 c1038 r1038 2 = true := by kernel_rfl

/- porism/deps.Needs$1 -/
def c1039 : SCode :=
  .seq (.reg
       [⟨some 3, none, .mv (.k (.bool false))⟩])
  (.seq (.reg
       [⟨some 4, none, .mv (.t 0)⟩,
        ⟨some 5, none, .bin .lss (.t 4) (.k (.int .i64 0))⟩,
        ⟨some 6, none, .mv (.t 5)⟩,
        ⟨some 7, some (6, false), .mv (.t 0)⟩,
        ⟨some 8, some (6, false), .ld1 37 (.t 1)⟩,
        ⟨some 9, some (6, false), .len 37 (.t 8)⟩,
        ⟨some 10, some (6, false), .bin .geq (.t 7) (.t 9)⟩,
        ⟨some 11, none, .pick (.t 6) (.k (.bool true)) (.t 10)⟩,
        ⟨some 3, none, .mv (.t 11)⟩])
  (.ret))
def r1039 : List RR := [.t 3]
theorem ok1039 : okFn Go.Proofs.Tryz.prog 39 12 c1039 r1039 2 = true := by kernel_rfl

/- slices.Clone[[]int,int] -/
def c1040 : SCode :=
  .seq (.reg
       [⟨some 2, none, .mv (.nil 1 8)⟩])
  (.seq (.seq (.reg
         [⟨some 3, none, .mv (.t 0)⟩,
          ⟨some 4, none, .nileq false (.t 3)⟩])
    (.cond (.t 4)
      (.seq (.reg
           [⟨some 2, none, .mv (.nil 1 8)⟩])
      (.ret))
      (.skip)))
  (.seq (.reg
       [⟨some 5, none, .lit 3 1 8 []⟩,
        ⟨some 6, none, .mv (.t 0)⟩,
        ⟨some 7, none, .appn 3 1 8 (.t 5) (.t 6)⟩,
        ⟨some 2, none, .mv (.t 7)⟩])
  (.ret)))
def r1040 : List RR := [.t 2]
theorem ok1040 : okFn Go.Proofs.Tryz.prog 40 8 c1040 r1040 1 = true := by kernel_rfl

/- porism/deps.uses -/
def c1041b0 : SCode :=
  .seq (.reg
       [⟨some 32, none, .bin .lss (.t 31) (.t 30)⟩])
  (.seq (.cond (.t 32)
      (.skip)
      (.exit 2))
  (.seq (.block 3 (.seq (.reg
           [⟨some 33, none, .iad 3 1 (.t 29) (.t 31)⟩,
            ⟨some 34, none, .ld1 3 (.t 33)⟩,
            ⟨some 9, none, .mv (.t 34)⟩])
      (.reg
         [⟨some 35, none, .mv (.t 5)⟩,
          ⟨some 36, none, .mv (.t 9)⟩,
          ⟨none, none, .mset true (.t 35) (.t 36) (.k (.bool true))⟩])))
  (.reg
     [⟨some 37, none, .bin .add (.t 31) (.k (.int .i64 1))⟩,
      ⟨some 31, none, .mv (.t 37)⟩])))
def c1041b1 : SCode :=
  .seq (.reg
       [⟨some 25, none, .bin .lss (.t 24) (.t 23)⟩])
  (.seq (.cond (.t 25)
      (.skip)
      (.exit 0))
  (.seq (.block 1 (.seq (.reg
           [⟨some 26, none, .iad 63 3 (.t 22) (.t 24)⟩,
            ⟨some 27, none, .ldn 63 3 (.t 26)⟩,
            ⟨some 7, none, .alloc 63 [.v (.int .i64 0), .v (.int .i64 0), .cap 3 40 []]⟩,
            ⟨none, none, .stn 63 3 (.t 7) (.t 27)⟩])
      (.seq (.reg
           [⟨some 28, none, .ldn 63 3 (.t 7)⟩,
            ⟨some 29, none, .call (.f 61) [.t 28]⟩,
            ⟨some 30, none, .len 24 (.t 29)⟩,
            ⟨some 31, none, .mv (.k (.int .i64 0))⟩])
      (.block 2 (.loop c1041b0)))))
  (.reg
     [⟨some 38, none, .bin .add (.t 24) (.k (.int .i64 1))⟩,
      ⟨some 24, none, .mv (.t 38)⟩])))
def c1041b2 : SCode :=
  .seq (.seq (.reg
         [⟨some 50, none, .mv (.t 10)⟩,
          ⟨some 51, none, .mv (.t 1)⟩,
          ⟨some 52, none, .bin .lss (.t 50) (.t 51)⟩])
    (.cond (.t 52)
      (.skip)
      (.exit 4)))
  (.seq (.block 5 (.reg
         [⟨some 55, none, .mv (.t 5)⟩,
          ⟨some 56, none, .mv (.t 10)⟩,
          ⟨none, none, .mset true (.t 55) (.t 56) (.k (.bool true))⟩]))
  (.reg
     [⟨some 53, none, .mv (.t 10)⟩,
      ⟨some 54, none, .bin .add (.t 53) (.k (.int .i64 1))⟩,
      ⟨some 10, none, .mv (.t 54)⟩]))
def c1041 : SCode :=
  .seq (.reg
       [⟨some 4, none, .mv (.nil 1 8)⟩])
  (.seq (.reg
       [⟨some 11, none, .mkmap true⟩,
        ⟨some 5, none, .mv (.t 11)⟩])
  (.seq (.seq (.dreg [0, 0, 3, 7, 15, 0, 0, 96, 224, 480, 1023, 2047, 0]
         [⟨some 12, none, .mv (.t 0)⟩,
          ⟨some 13, none, .mv (.t 1)⟩,
          ⟨some 14, none, .iad 70 12 (.t 12) (.t 13)⟩,
          ⟨some 15, none, .fad 70 1 1 (.t 14)⟩,
          ⟨some 16, none, .ldn 63 3 (.t 15)⟩,
          ⟨some 17, none, .mv (.t 0)⟩,
          ⟨some 18, none, .mv (.t 1)⟩,
          ⟨some 19, none, .iad 70 12 (.t 17) (.t 18)⟩,
          ⟨some 20, none, .fad 70 2 4 (.t 19)⟩,
          ⟨some 21, none, .ldn 63 3 (.t 20)⟩,
          ⟨some 22, none, .lit 63 3 40 [.t 16, .t 21]⟩,
          ⟨some 23, none, .len 61 (.t 22)⟩,
          ⟨some 24, none, .mv (.k (.int .i64 0))⟩])
    (.block 0 (.loop c1041b1)))
  (.seq (.seq (.reg
         [⟨some 39, none, .mv (.t 0)⟩,
          ⟨some 40, none, .mv (.t 1)⟩,
          ⟨some 41, none, .iad 70 12 (.t 39) (.t 40)⟩,
          ⟨some 42, none, .fad 70 0 0 (.t 41)⟩,
          ⟨some 43, none, .ld1 3 (.t 42)⟩,
          ⟨some 44, none, .bin .geq (.t 43) (.k (.int .i64 3))⟩])
    (.cond (.t 44)
      (.seq (.reg
           [⟨some 45, none, .mv (.t 0)⟩,
            ⟨some 46, none, .mv (.t 1)⟩,
            ⟨some 47, none, .iad 70 12 (.t 45) (.t 46)⟩,
            ⟨some 48, none, .fad 70 3 7 (.t 47)⟩,
            ⟨some 49, none, .ld1 3 (.t 48)⟩,
            ⟨some 10, none, .mv (.t 49)⟩])
      (.block 4 (.loop c1041b2)))
      (.skip)))
  (.seq (.reg
       [⟨some 57, none, .mv (.t 5)⟩,
        ⟨some 58, none, .call (.f 43) [.t 57]⟩,
        ⟨some 59, none, .call (.f 42) [.t 58]⟩,
        ⟨some 4, none, .mv (.t 59)⟩])
  (.ret)))))
def r1041 : List RR := [.t 4]
theorem ok1041 : okFn Go.Proofs.Tryz.prog 41 60 c1041 r1041 2 = true := by kernel_rfl

/- porism/rule.right -/
def c1052 : SCode :=
  .seq (.reg
       [⟨some 2, none, .box 70 (.t 0)⟩,
        ⟨some 4, none, .mv (.k (.bool false))⟩])
  (.seq (.seq (.reg
         [⟨some 5, none, .fad 70 1 1 (.t 2)⟩,
          ⟨some 6, none, .ldn 63 3 (.t 5)⟩,
          ⟨some 7, none, .mv (.t 1)⟩,
          ⟨some 8, none, .call (.f 81) [.t 6, .k (.int .i64 0), .t 7]⟩,
          ⟨some 9, none, .not (.t 8)⟩])
    (.cond (.t 9)
      (.seq (.reg
           [⟨some 4, none, .mv (.k (.bool false))⟩])
      (.ret))
      (.skip)))
  (.seq (.seq (.reg
         [⟨some 10, none, .fad 70 0 0 (.t 2)⟩,
          ⟨some 11, none, .ld1 3 (.t 10)⟩])
    (.block 0 (.seq (.reg
           [⟨some 13, none, .bin .eql (.t 11) (.k (.int .i64 1))⟩,
            ⟨some 12, none, .mv (.t 13)⟩])
      (.cond (.t 12)
        (.seq (.reg
             [⟨some 14, none, .fad 70 3 7 (.t 2)⟩,
              ⟨some 15, none, .ld1 3 (.t 14)⟩,
              ⟨some 16, none, .bin .eql (.t 15) (.k (.int .i64 0))⟩,
              ⟨some 17, none, .mv (.t 16)⟩,
              ⟨some 18, some (17, true), .fad 70 4 8 (.t 2)⟩,
              ⟨some 19, some (17, true), .ld1 3 (.t 18)⟩,
              ⟨some 20, some (17, true), .bin .eql (.t 19) (.k (.int .i64 0))⟩,
              ⟨some 21, none, .pick (.t 17) (.t 20) (.k (.bool false))⟩,
              ⟨some 22, none, .mv (.t 21)⟩,
              ⟨some 23, some (22, true), .fad 70 5 9 (.t 2)⟩,
              ⟨some 24, some (22, true), .ldn 68 3 (.t 23)⟩,
              ⟨some 25, some (22, true), .call (.f 82) [.t 24]⟩,
              ⟨some 26, none, .pick (.t 22) (.t 25) (.k (.bool false))⟩,
              ⟨some 27, none, .mv (.t 26)⟩,
              ⟨some 28, some (27, true), .fad 70 2 4 (.t 2)⟩,
              ⟨some 29, some (27, true), .ldn 63 3 (.t 28)⟩,
              ⟨some 30, some (27, true), .call (.f 83) [.t 29]⟩,
              ⟨some 31, none, .pick (.t 27) (.t 30) (.k (.bool false))⟩,
              ⟨some 4, none, .mv (.t 31)⟩])
        (.ret))
        (.seq (.reg
             [⟨some 33, none, .bin .eql (.t 11) (.k (.int .i64 2))⟩,
              ⟨some 32, none, .mv (.t 33)⟩])
        (.cond (.t 32)
          (.seq (.reg
               [⟨some 34, none, .fad 70 3 7 (.t 2)⟩,
                ⟨some 35, none, .ld1 3 (.t 34)⟩,
                ⟨some 36, none, .bin .eql (.t 35) (.k (.int .i64 0))⟩,
                ⟨some 37, none, .mv (.t 36)⟩,
                ⟨some 38, some (37, true), .fad 70 4 8 (.t 2)⟩,
                ⟨some 39, some (37, true), .ld1 3 (.t 38)⟩,
                ⟨some 40, some (37, true), .bin .eql (.t 39) (.k (.int .i64 0))⟩,
                ⟨some 41, none, .pick (.t 37) (.t 40) (.k (.bool false))⟩,
                ⟨some 42, none, .mv (.t 41)⟩,
                ⟨some 43, some (42, true), .fad 70 5 9 (.t 2)⟩,
                ⟨some 44, some (42, true), .ldn 68 3 (.t 43)⟩,
                ⟨some 45, some (42, true), .call (.f 82) [.t 44]⟩,
                ⟨some 46, none, .pick (.t 42) (.t 45) (.k (.bool false))⟩,
                ⟨some 47, none, .mv (.t 46)⟩,
                ⟨some 48, some (47, true), .fad 70 2 4 (.t 2)⟩,
                ⟨some 49, some (47, true), .ldn 63 3 (.t 48)⟩,
                ⟨some 50, some (47, true), .mv (.t 1)⟩,
                ⟨some 51, some (47, true), .call (.f 81) [.t 49, .k (.int .i64 0), .t 50]⟩,
                ⟨some 52, none, .pick (.t 47) (.t 51) (.k (.bool false))⟩,
                ⟨some 4, none, .mv (.t 52)⟩])
          (.ret))
          (.seq (.seq (.reg
                 [⟨some 54, none, .bin .eql (.t 11) (.k (.int .i64 3))⟩,
                  ⟨some 53, none, .mv (.t 54)⟩])
            (.cond (.t 53)
              (.skip)
              (.seq (.reg
                   [⟨some 55, none, .bin .eql (.t 11) (.k (.int .i64 4))⟩,
                    ⟨some 53, none, .mv (.t 55)⟩])
              (.cond (.t 53)
                (.skip)
                (.seq (.reg
                     [⟨some 56, none, .bin .eql (.t 11) (.k (.int .i64 5))⟩,
                      ⟨some 53, none, .mv (.t 56)⟩])
                (.cond (.t 53)
                  (.skip)
                  (.reg
                     [⟨some 57, none, .bin .eql (.t 11) (.k (.int .i64 6))⟩,
                      ⟨some 53, none, .mv (.t 57)⟩])))))))
          (.cond (.t 53)
            (.seq (.reg
                 [⟨some 58, none, .fad 70 2 4 (.t 2)⟩,
                  ⟨some 59, none, .ldn 63 3 (.t 58)⟩,
                  ⟨some 60, none, .call (.f 83) [.t 59]⟩,
                  ⟨some 61, none, .mv (.t 60)⟩,
                  ⟨some 62, some (61, true), .fad 70 3 7 (.t 2)⟩,
                  ⟨some 63, some (61, true), .ld1 3 (.t 62)⟩,
                  ⟨some 64, some (61, true), .bin .geq (.t 63) (.k (.int .i64 0))⟩,
                  ⟨some 65, none, .pick (.t 61) (.t 64) (.k (.bool false))⟩,
                  ⟨some 66, none, .mv (.t 65)⟩,
                  ⟨some 67, some (66, true), .ldn 70 12 (.t 2)⟩,
                  ⟨some 68, some (66, true), .call (.f 84) [.t 67]⟩,
                  ⟨some 69, some (66, true), .mv (.t 1)⟩,
                  ⟨some 70, some (66, true), .bin .eql (.t 68) (.t 69)⟩,
                  ⟨some 71, none, .pick (.t 66) (.t 70) (.k (.bool false))⟩,
                  ⟨some 4, none, .mv (.t 71)⟩])
            (.ret))
            (.skip)))))))))
  (.seq (.reg
       [⟨some 4, none, .mv (.k (.bool false))⟩])
  (.ret))))
def r1052 : List RR := [.t 4]
theorem ok1052 : okFn Go.Proofs.Tryz.prog 52 72 c1052 r1052 2 = true := by kernel_rfl

/- slices.IndexFunc[[]int,int] -/
def c1060b0 : SCode :=
  .seq (.reg
       [⟨some 9, none, .bin .lss (.t 8) (.t 7)⟩])
  (.seq (.cond (.t 9)
      (.skip)
      (.exit 0))
  (.seq (.block 1 (.seq (.reg
           [⟨some 10, none, .mv (.t 8)⟩,
            ⟨some 5, none, .mv (.t 10)⟩])
      (.seq (.reg
           [⟨some 11, none, .mv (.t 1)⟩,
            ⟨some 12, none, .mv (.t 0)⟩,
            ⟨some 13, none, .mv (.t 5)⟩,
            ⟨some 14, none, .iad 3 1 (.t 12) (.t 13)⟩,
            ⟨some 15, none, .ld1 3 (.t 14)⟩,
            ⟨some 16, none, .call (.t 11) [.t 15]⟩])
      (.cond (.t 16)
        (.seq (.reg
             [⟨some 17, none, .mv (.t 5)⟩,
              ⟨some 4, none, .mv (.t 17)⟩])
        (.ret))
        (.skip)))))
  (.reg
     [⟨some 18, none, .bin .add (.t 8) (.k (.int .i64 1))⟩,
      ⟨some 8, none, .mv (.t 18)⟩])))
def c1060 : SCode :=
  .seq (.reg
       [⟨some 4, none, .mv (.k (.int .i64 0))⟩])
  (.seq (.seq (.reg
         [⟨some 6, none, .mv (.t 0)⟩,
          ⟨some 7, none, .len 24 (.t 6)⟩,
          ⟨some 8, none, .mv (.k (.int .i64 0))⟩])
    (.block 0 (.loop c1060b0)))
  (.seq (.reg
       [⟨some 4, none, .mv (.k (.int .i64 (-1)))⟩])
  (.ret)))
def r1060 : List RR := [.t 4]
theorem ok1060 : okFn Go.Proofs.Tryz.prog 60 19 c1060 r1060 2 = true := by kernel_rfl

/- porism/rule.bare -/
def c1082 : SCode :=
  .seq (.reg
       [⟨some 1, none, .box 68 (.t 0)⟩,
        ⟨some 2, none, .mv (.k (.bool false))⟩])
  (.seq (.reg
       [⟨some 3, none, .fad 68 0 0 (.t 1)⟩,
        ⟨some 4, none, .ld1 65 (.t 3)⟩,
        ⟨some 5, none, .len 65 (.t 4)⟩,
        ⟨some 6, none, .fad 68 1 1 (.t 1)⟩,
        ⟨some 7, none, .ld1 66 (.t 6)⟩,
        ⟨some 8, none, .len 66 (.t 7)⟩,
        ⟨some 9, none, .bin .add (.t 5) (.t 8)⟩,
        ⟨some 10, none, .bin .eql (.t 9) (.k (.int .i64 0))⟩,
        ⟨some 11, none, .mv (.t 10)⟩,
        ⟨some 12, some (11, true), .fad 68 2 2 (.t 1)⟩,
        ⟨some 13, some (11, true), .ld1 3 (.t 12)⟩,
        ⟨some 14, some (11, true), .bin .eql (.t 13) (.k (.int .i64 0))⟩,
        ⟨some 15, none, .pick (.t 11) (.t 14) (.k (.bool false))⟩,
        ⟨some 2, none, .mv (.t 15)⟩])
  (.ret))
def r1082 : List RR := [.t 2]
theorem ok1082 : okFn Go.Proofs.Tryz.prog 82 16 c1082 r1082 1 = true := by kernel_rfl

/- porism/term.None -/
def c1083 : SCode :=
  .seq (.reg
       [⟨some 1, none, .box 63 (.t 0)⟩,
        ⟨some 2, none, .mv (.k (.bool false))⟩])
  (.seq (.reg
       [⟨some 3, none, .fad 63 0 0 (.t 1)⟩,
        ⟨some 4, none, .ld1 3 (.t 3)⟩,
        ⟨some 5, none, .bin .eql (.t 4) (.k (.int .i64 0))⟩,
        ⟨some 6, none, .mv (.t 5)⟩,
        ⟨some 7, some (6, true), .fad 63 1 1 (.t 1)⟩,
        ⟨some 8, some (6, true), .ld1 3 (.t 7)⟩,
        ⟨some 9, some (6, true), .bin .eql (.t 8) (.k (.int .i64 0))⟩,
        ⟨some 10, none, .pick (.t 6) (.t 9) (.k (.bool false))⟩,
        ⟨some 11, none, .mv (.t 10)⟩,
        ⟨some 12, some (11, true), .fad 63 2 2 (.t 1)⟩,
        ⟨some 13, some (11, true), .ld1 61 (.t 12)⟩,
        ⟨some 14, some (11, true), .len 61 (.t 13)⟩,
        ⟨some 15, some (11, true), .bin .eql (.t 14) (.k (.int .i64 0))⟩,
        ⟨some 16, none, .pick (.t 11) (.t 15) (.k (.bool false))⟩,
        ⟨some 2, none, .mv (.t 16)⟩])
  (.ret))
def r1083 : List RR := [.t 2]
theorem ok1083 : okFn Go.Proofs.Tryz.prog 83 17 c1083 r1083 1 = true := by kernel_rfl

end Go.Abs

namespace Go.Abs

/- porism/porismlaw02.Heavy -/
def c17b0 : SCode :=
  .seq (.seq (.reg
         [⟨some 8, none, .mv (.t 4)⟩,
          ⟨some 9, none, .mv (.t 0)⟩,
          ⟨some 10, none, .len 61 (.t 9)⟩,
          ⟨some 11, none, .bin .lss (.t 8) (.t 10)⟩])
    (.cond (.t 11)
      (.skip)
      (.exit 0)))
  (.seq (.block 1 (.seq (.seq (.reg
             [⟨some 14, none, .mv (.t 0)⟩,
              ⟨some 15, none, .mv (.t 4)⟩,
              ⟨some 16, none, .iad 63 3 (.t 14) (.t 15)⟩,
              ⟨some 17, none, .ldn 63 3 (.t 16)⟩,
              ⟨some 18, none, .call (.f 58) [.t 17]⟩,
              ⟨some 19, none, .bin .gtr (.t 18) (.k (.int .i64 300))⟩])
        (.cond (.t 19)
          (.seq (.reg
               [⟨some 2, none, .mv (.k (.bool true))⟩])
          (.ret))
          (.skip)))
      (.reg
         [⟨some 20, none, .mv (.t 3)⟩,
          ⟨some 21, none, .mv (.t 0)⟩,
          ⟨some 22, none, .mv (.t 4)⟩,
          ⟨some 23, none, .iad 63 3 (.t 21) (.t 22)⟩,
          ⟨some 24, none, .ldn 63 3 (.t 23)⟩,
          ⟨some 25, none, .call (.f 37) [.t 24]⟩,
          ⟨some 26, none, .bin .add (.t 20) (.t 25)⟩,
          ⟨some 3, none, .mv (.t 26)⟩])))
  (.reg
     [⟨some 12, none, .mv (.t 4)⟩,
      ⟨some 13, none, .bin .add (.t 12) (.k (.int .i64 1))⟩,
      ⟨some 4, none, .mv (.t 13)⟩]))
def c17 : SCode :=
  .seq (.reg
       [⟨some 2, none, .mv (.k (.bool false))⟩])
  (.seq (.seq (.reg
         [⟨some 5, none, .mv (.t 0)⟩,
          ⟨some 6, none, .len 61 (.t 5)⟩,
          ⟨some 7, none, .bin .gtr (.t 6) (.k (.int .i64 60))⟩])
    (.cond (.t 7)
      (.seq (.reg
           [⟨some 2, none, .mv (.k (.bool true))⟩])
      (.ret))
      (.skip)))
  (.seq (.reg
       [⟨some 3, none, .mv (.k (.int .i64 0))⟩])
  (.seq (.seq (.reg
         [⟨some 4, none, .mv (.k (.int .i64 0))⟩])
    (.block 0 (.loop c17b0)))
  (.seq (.reg
       [⟨some 27, none, .mv (.t 3)⟩,
        ⟨some 28, none, .bin .gtr (.t 27) (.k (.int .i64 9000))⟩,
        ⟨some 2, none, .mv (.t 28)⟩])
  (.ret)))))
def r17 : List RR := [.t 2]
theorem ok17 : okFn Go.Proofs.Tryz.prog 35 29 c17 r17 1 = true := by kernel_rfl

/- porism/term.Equal -/
def c18 : SCode :=
  .seq (.reg
       [⟨some 2, none, .box 63 (.t 0)⟩,
        ⟨some 3, none, .box 63 (.t 1)⟩,
        ⟨some 4, none, .mv (.k (.bool false))⟩])
  (.seq (.reg
       [⟨some 5, none, .fad 63 0 0 (.t 2)⟩,
        ⟨some 6, none, .ld1 3 (.t 5)⟩,
        ⟨some 7, none, .fad 63 0 0 (.t 3)⟩,
        ⟨some 8, none, .ld1 3 (.t 7)⟩,
        ⟨some 9, none, .bin .eql (.t 6) (.t 8)⟩,
        ⟨some 10, none, .mv (.t 9)⟩,
        ⟨some 11, some (10, true), .fad 63 1 1 (.t 2)⟩,
        ⟨some 12, some (10, true), .ld1 3 (.t 11)⟩,
        ⟨some 13, some (10, true), .fad 63 1 1 (.t 3)⟩,
        ⟨some 14, some (10, true), .ld1 3 (.t 13)⟩,
        ⟨some 15, some (10, true), .bin .eql (.t 12) (.t 14)⟩,
        ⟨some 16, none, .pick (.t 10) (.t 15) (.k (.bool false))⟩,
        ⟨some 17, none, .mv (.t 16)⟩,
        ⟨some 18, some (17, true), .fad 63 2 2 (.t 2)⟩,
        ⟨some 19, some (17, true), .ld1 61 (.t 18)⟩,
        ⟨some 20, some (17, true), .fad 63 2 2 (.t 3)⟩,
        ⟨some 21, some (17, true), .ld1 61 (.t 20)⟩,
        ⟨some 22, some (17, true), .call (.f 120) [.t 19, .t 21, .f 88]⟩,
        ⟨some 23, none, .pick (.t 17) (.t 22) (.k (.bool false))⟩,
        ⟨some 4, none, .mv (.t 23)⟩])
  (.ret))
def r18 : List RR := [.t 4]
theorem ok18 : okFn Go.Proofs.Tryz.prog 88 24 c18 r18 2 = true := by kernel_rfl

/- porism/porismkeep.Twin -/
def c19 : SCode :=
  .seq (.reg
       [⟨some 1, none, .box 63 (.t 0)⟩,
        ⟨some 2, none, .alloc 63 [.v (.int .i64 0), .v (.int .i64 0), .cap 3 40 []]⟩])
  (.seq (.dreg [0, 1, 0, 4, 0, 16, 48, 127, 255]
       [⟨some 3, none, .fad 63 0 0 (.t 1)⟩,
        ⟨some 4, none, .ld1 3 (.t 3)⟩,
        ⟨some 5, none, .fad 63 1 1 (.t 1)⟩,
        ⟨some 6, none, .ld1 3 (.t 5)⟩,
        ⟨some 7, none, .fad 63 2 2 (.t 1)⟩,
        ⟨some 8, none, .ld1 61 (.t 7)⟩,
        ⟨some 9, none, .call (.f 65) [.t 8]⟩,
        ⟨some 10, none, .build 63 [.v (.int .i64 0), .v (.int .i64 0), .cap 3 40 []] [(0, 0, 1, .t 4), (1, 1, 1, .t 6), (2, 2, 1, .t 9)]⟩,
        ⟨none, none, .stn 63 3 (.t 2) (.t 10)⟩])
  (.ret))
def r19 : List RR := [.cn 2 3]
theorem ok19 : okFn Go.Proofs.Tryz.prog 44 11 c19 r19 1 = true := by kernel_rfl

/- porism/term.Size -/
def c20b0 : SCode :=
  .seq (.reg
       [⟨some 10, none, .bin .lss (.t 9) (.t 8)⟩])
  (.seq (.cond (.t 10)
      (.skip)
      (.exit 0))
  (.seq (.block 1 (.seq (.reg
           [⟨some 11, none, .iad 63 3 (.t 7) (.t 9)⟩,
            ⟨some 12, none, .ldn 63 3 (.t 11)⟩,
            ⟨some 5, none, .alloc 63 [.v (.int .i64 0), .v (.int .i64 0), .cap 3 40 []]⟩,
            ⟨none, none, .stn 63 3 (.t 5) (.t 12)⟩])
      (.reg
         [⟨some 13, none, .mv (.t 3)⟩,
          ⟨some 14, none, .ldn 63 3 (.t 5)⟩,
          ⟨some 15, none, .call (.f 151) [.t 14]⟩,
          ⟨some 16, none, .bin .add (.t 13) (.t 15)⟩,
          ⟨some 3, none, .mv (.t 16)⟩])))
  (.reg
     [⟨some 17, none, .bin .add (.t 9) (.k (.int .i64 1))⟩,
      ⟨some 9, none, .mv (.t 17)⟩])))
def c20 : SCode :=
  .seq (.reg
       [⟨some 1, none, .box 63 (.t 0)⟩,
        ⟨some 2, none, .mv (.k (.int .i64 0))⟩])
  (.seq (.reg
       [⟨some 3, none, .mv (.k (.int .i64 1))⟩])
  (.seq (.seq (.reg
         [⟨some 6, none, .fad 63 2 2 (.t 1)⟩,
          ⟨some 7, none, .ld1 61 (.t 6)⟩,
          ⟨some 8, none, .len 61 (.t 7)⟩,
          ⟨some 9, none, .mv (.k (.int .i64 0))⟩])
    (.block 0 (.loop c20b0)))
  (.seq (.reg
       [⟨some 18, none, .mv (.t 3)⟩,
        ⟨some 2, none, .mv (.t 18)⟩])
  (.ret))))
def r20 : List RR := [.t 2]
theorem ok20 : okFn Go.Proofs.Tryz.prog 151 19 c20 r20 1 = true := by kernel_rfl

/- porism/term.Depth -/
def c21b0 : SCode :=
  .seq (.reg
       [⟨some 10, none, .bin .lss (.t 9) (.t 8)⟩])
  (.seq (.cond (.t 10)
      (.skip)
      (.exit 0))
  (.seq (.block 1 (.seq (.reg
           [⟨some 11, none, .iad 63 3 (.t 7) (.t 9)⟩,
            ⟨some 12, none, .ldn 63 3 (.t 11)⟩,
            ⟨some 5, none, .alloc 63 [.v (.int .i64 0), .v (.int .i64 0), .cap 3 40 []]⟩,
            ⟨none, none, .stn 63 3 (.t 5) (.t 12)⟩])
      (.reg
         [⟨some 13, none, .mv (.t 3)⟩,
          ⟨some 14, none, .ldn 63 3 (.t 5)⟩,
          ⟨some 15, none, .call (.f 152) [.t 14]⟩,
          ⟨some 16, none, .best true [.t 13, .t 15]⟩,
          ⟨some 3, none, .mv (.t 16)⟩])))
  (.reg
     [⟨some 17, none, .bin .add (.t 9) (.k (.int .i64 1))⟩,
      ⟨some 9, none, .mv (.t 17)⟩])))
def c21 : SCode :=
  .seq (.reg
       [⟨some 1, none, .box 63 (.t 0)⟩,
        ⟨some 2, none, .mv (.k (.int .i64 0))⟩])
  (.seq (.reg
       [⟨some 3, none, .mv (.k (.int .i64 0))⟩])
  (.seq (.seq (.reg
         [⟨some 6, none, .fad 63 2 2 (.t 1)⟩,
          ⟨some 7, none, .ld1 61 (.t 6)⟩,
          ⟨some 8, none, .len 61 (.t 7)⟩,
          ⟨some 9, none, .mv (.k (.int .i64 0))⟩])
    (.block 0 (.loop c21b0)))
  (.seq (.reg
       [⟨some 18, none, .mv (.t 3)⟩,
        ⟨some 19, none, .bin .add (.t 18) (.k (.int .i64 1))⟩,
        ⟨some 2, none, .mv (.t 19)⟩])
  (.ret))))
def r21 : List RR := [.t 2]
theorem ok21 : okFn Go.Proofs.Tryz.prog 152 20 c21 r21 1 = true := by kernel_rfl

/- porism/porismref01.Size -/
def c28b0 : SCode :=
  .seq (.seq (.reg
         [⟨some 5, none, .mv (.t 4)⟩,
          ⟨some 6, none, .fad 63 2 2 (.t 1)⟩,
          ⟨some 7, none, .ld1 61 (.t 6)⟩,
          ⟨some 8, none, .len 61 (.t 7)⟩,
          ⟨some 9, none, .bin .lss (.t 5) (.t 8)⟩])
    (.cond (.t 9)
      (.skip)
      (.exit 0)))
  (.seq (.block 1 (.reg
         [⟨some 12, none, .mv (.t 3)⟩,
          ⟨some 13, none, .fad 63 2 2 (.t 1)⟩,
          ⟨some 14, none, .ld1 61 (.t 13)⟩,
          ⟨some 15, none, .mv (.t 4)⟩,
          ⟨some 16, none, .iad 63 3 (.t 14) (.t 15)⟩,
          ⟨some 17, none, .ldn 63 3 (.t 16)⟩,
          ⟨some 18, none, .call (.f 37) [.t 17]⟩,
          ⟨some 19, none, .bin .add (.t 12) (.t 18)⟩,
          ⟨some 3, none, .mv (.t 19)⟩]))
  (.reg
     [⟨some 10, none, .mv (.t 4)⟩,
      ⟨some 11, none, .bin .add (.t 10) (.k (.int .i64 1))⟩,
      ⟨some 4, none, .mv (.t 11)⟩]))
def c28 : SCode :=
  .seq (.reg
       [⟨some 1, none, .box 63 (.t 0)⟩,
        ⟨some 2, none, .mv (.k (.int .i64 0))⟩])
  (.seq (.reg
       [⟨some 3, none, .mv (.k (.int .i64 1))⟩])
  (.seq (.seq (.reg
         [⟨some 4, none, .mv (.k (.int .i64 0))⟩])
    (.block 0 (.loop c28b0)))
  (.seq (.reg
       [⟨some 20, none, .mv (.t 3)⟩,
        ⟨some 2, none, .mv (.t 20)⟩])
  (.ret))))
def r28 : List RR := [.t 2]
theorem ok28 : okFn Go.Proofs.Tryz.prog 37 21 c28 r28 1 = true := by kernel_rfl

/- porism/porismref01.Depth -/
def c29b0 : SCode :=
  .seq (.seq (.reg
         [⟨some 5, none, .mv (.t 4)⟩,
          ⟨some 6, none, .fad 63 2 2 (.t 1)⟩,
          ⟨some 7, none, .ld1 61 (.t 6)⟩,
          ⟨some 8, none, .len 61 (.t 7)⟩,
          ⟨some 9, none, .bin .lss (.t 5) (.t 8)⟩])
    (.cond (.t 9)
      (.skip)
      (.exit 0)))
  (.seq (.block 1 (.reg
         [⟨some 12, none, .mv (.t 3)⟩,
          ⟨some 13, none, .fad 63 2 2 (.t 1)⟩,
          ⟨some 14, none, .ld1 61 (.t 13)⟩,
          ⟨some 15, none, .mv (.t 4)⟩,
          ⟨some 16, none, .iad 63 3 (.t 14) (.t 15)⟩,
          ⟨some 17, none, .ldn 63 3 (.t 16)⟩,
          ⟨some 18, none, .call (.f 58) [.t 17]⟩,
          ⟨some 19, none, .best true [.t 12, .t 18]⟩,
          ⟨some 3, none, .mv (.t 19)⟩]))
  (.reg
     [⟨some 10, none, .mv (.t 4)⟩,
      ⟨some 11, none, .bin .add (.t 10) (.k (.int .i64 1))⟩,
      ⟨some 4, none, .mv (.t 11)⟩]))
def c29 : SCode :=
  .seq (.reg
       [⟨some 1, none, .box 63 (.t 0)⟩,
        ⟨some 2, none, .mv (.k (.int .i64 0))⟩])
  (.seq (.reg
       [⟨some 3, none, .mv (.k (.int .i64 0))⟩])
  (.seq (.seq (.reg
         [⟨some 4, none, .mv (.k (.int .i64 0))⟩])
    (.block 0 (.loop c29b0)))
  (.seq (.reg
       [⟨some 20, none, .mv (.t 3)⟩,
        ⟨some 21, none, .bin .add (.t 20) (.k (.int .i64 1))⟩,
        ⟨some 2, none, .mv (.t 21)⟩])
  (.ret))))
def r29 : List RR := [.t 2]
theorem ok29 : okFn Go.Proofs.Tryz.prog 58 22 c29 r29 1 = true := by kernel_rfl

/- slices.EqualFunc[[]porism/api.Term,[]porism/api.Term,porism/api.Term,porism/api.Term] -/
def c63b0 : SCode :=
  .seq (.reg
       [⟨some 18, none, .bin .lss (.t 17) (.t 16)⟩])
  (.seq (.cond (.t 18)
      (.skip)
      (.exit 0))
  (.seq (.block 1 (.seq (.reg
           [⟨some 19, none, .mv (.t 17)⟩,
            ⟨some 20, none, .iad 63 3 (.t 15) (.t 17)⟩,
            ⟨some 21, none, .ldn 63 3 (.t 20)⟩,
            ⟨some 8, none, .alloc 63 [.v (.int .i64 0), .v (.int .i64 0), .cap 3 40 []]⟩,
            ⟨some 7, none, .mv (.t 19)⟩,
            ⟨none, none, .stn 63 3 (.t 8) (.t 21)⟩])
      (.seq (.reg
           [⟨some 22, none, .mv (.t 1)⟩,
            ⟨some 23, none, .mv (.t 7)⟩,
            ⟨some 24, none, .iad 63 3 (.t 22) (.t 23)⟩,
            ⟨some 25, none, .ldn 63 3 (.t 24)⟩,
            ⟨some 9, none, .alloc 63 [.v (.int .i64 0), .v (.int .i64 0), .cap 3 40 []]⟩,
            ⟨none, none, .stn 63 3 (.t 9) (.t 25)⟩])
      (.seq (.reg
           [⟨some 26, none, .mv (.t 2)⟩,
            ⟨some 27, none, .ldn 63 3 (.t 8)⟩,
            ⟨some 28, none, .ldn 63 3 (.t 9)⟩,
            ⟨some 29, none, .call (.t 26) [.t 27, .t 28]⟩,
            ⟨some 30, none, .not (.t 29)⟩])
      (.cond (.t 30)
        (.seq (.reg
             [⟨some 6, none, .mv (.k (.bool false))⟩])
        (.ret))
        (.skip))))))
  (.reg
     [⟨some 31, none, .bin .add (.t 17) (.k (.int .i64 1))⟩,
      ⟨some 17, none, .mv (.t 31)⟩])))
def c63 : SCode :=
  .seq (.reg
       [⟨some 6, none, .mv (.k (.bool false))⟩])
  (.seq (.seq (.reg
         [⟨some 10, none, .mv (.t 0)⟩,
          ⟨some 11, none, .len 61 (.t 10)⟩,
          ⟨some 12, none, .mv (.t 1)⟩,
          ⟨some 13, none, .len 61 (.t 12)⟩,
          ⟨some 14, none, .bin .neq (.t 11) (.t 13)⟩])
    (.cond (.t 14)
      (.seq (.reg
           [⟨some 6, none, .mv (.k (.bool false))⟩])
      (.ret))
      (.skip)))
  (.seq (.seq (.reg
         [⟨some 15, none, .mv (.t 0)⟩,
          ⟨some 16, none, .len 61 (.t 15)⟩,
          ⟨some 17, none, .mv (.k (.int .i64 0))⟩])
    (.block 0 (.loop c63b0)))
  (.seq (.reg
       [⟨some 6, none, .mv (.k (.bool true))⟩])
  (.ret))))
def r63 : List RR := [.t 6]
theorem ok63 : okFn Go.Proofs.Tryz.prog 120 32 c63 r63 3 = true := by kernel_rfl

/- porism/porismkeep.Twins -/
def c64b0 : SCode :=
  .seq (.seq (.reg
         [⟨some 5, none, .mv (.t 4)⟩,
          ⟨some 6, none, .mv (.t 0)⟩,
          ⟨some 7, none, .len 61 (.t 6)⟩,
          ⟨some 8, none, .bin .lss (.t 5) (.t 7)⟩])
    (.cond (.t 8)
      (.skip)
      (.exit 0)))
  (.seq (.block 1 (.reg
         [⟨some 11, none, .mv (.t 3)⟩,
          ⟨some 12, none, .mv (.t 0)⟩,
          ⟨some 13, none, .mv (.t 4)⟩,
          ⟨some 14, none, .iad 63 3 (.t 12) (.t 13)⟩,
          ⟨some 15, none, .ldn 63 3 (.t 14)⟩,
          ⟨some 16, none, .call (.f 44) [.t 15]⟩,
          ⟨some 17, none, .lit 63 3 40 [.t 16]⟩,
          ⟨some 18, none, .app 63 3 40 (.t 11) (.t 17)⟩,
          ⟨some 3, none, .mv (.t 18)⟩]))
  (.reg
     [⟨some 9, none, .mv (.t 4)⟩,
      ⟨some 10, none, .bin .add (.t 9) (.k (.int .i64 1))⟩,
      ⟨some 4, none, .mv (.t 10)⟩]))
def c64 : SCode :=
  .seq (.reg
       [⟨some 2, none, .mv (.nil 3 40)⟩])
  (.seq (.reg
       [⟨some 3, none, .mv (.nil 3 40)⟩])
  (.seq (.seq (.reg
         [⟨some 4, none, .mv (.k (.int .i64 0))⟩])
    (.block 0 (.loop c64b0)))
  (.seq (.reg
       [⟨some 19, none, .mv (.t 3)⟩,
        ⟨some 2, none, .mv (.t 19)⟩])
  (.ret))))
def r64 : List RR := [.t 2]
theorem ok64 : okFn Go.Proofs.Tryz.prog 65 20 c64 r64 1 = true := by kernel_rfl

end Go.Abs

namespace Go.Abs
open Go.Proofs

def all2 {α : Type} (p : α → α → Bool) : List α → List α → Bool
  | [], [] => true
  | t :: ts, u :: us => p t u && all2 p ts us
  | _, _ => false

theorem all2_len {α : Type} {p : α → α → Bool} : ∀ {ts us : List α}, ts.length ≠ us.length → all2 p ts us = false
  | [], [], h => absurd rfl h
  | t :: ts, u :: us, h => by simp [all2, all2_len (p := p) (ts := ts) (us := us) (by simpa using h)]
  | [], _ :: _, _ => rfl
  | _ :: _, [], _ => rfl
theorem all2_at {α : Type} {p : α → α → Bool} : ∀ {ts us : List α} {i : Nat} {t u : α}, ts.length = us.length → ts[i]? = some t → us[i]? = some u → (all2 p (ts.drop i) (us.drop i) = (p t u && all2 p (ts.drop (i + 1)) (us.drop (i + 1))))
  | t :: ts, u :: us, 0, t', u', _, h1, h2 => by simp at h1 h2; subst h1; subst h2; simp [all2]
  | t :: ts, u :: us, i + 1, t', u', hl, h1, h2 => by simpa using all2_at (p := p) (by simpa using hl) (by simpa using h1) (by simpa using h2)
  | [], _, _, _, _, _, h1, _ => by simp at h1
  | _ :: _, [], _, _, _, _, _, h2 => by simp at h2

theorem fn63 {f : Nat} {p : T → T → Bool} {ts us : List T} (hf : ∀ t, t ∈ ts → ∀ u, Fn Tryz.prog f [tm t, tm u] (bb (p t u))) : Fn Tryz.prog 120 [tms ts, tms us, .c (.clo f [] [])] (bb (all2 p ts us)) := by
  refine fn_of (base := 63000) ok63 rfl fun σ h0 hr => ?_
  have s0 := h0 0
  have s1 := h0 1
  have s2 := h0 2
  rw [slots0] at s0
  rw [slots1] at s1
  rw [slots2] at s2
  have hlen := real_tms (hr (tms ts) (by simp))
  clear h0 hr
  unfold c63
  by_cases hl : ts.length = us.length
  case neg =>
    have hl' : ¬ ((ts.length : Int) = (us.length : Int)) := by omega
    simp [s0, s1, s2, tms, hl', r63, bb, all2_len hl]
  case pos =>
    simp [s0, s1, s2, tms, hl]
    refine W_loop (fun k σ => ∃ i : Nat, i + k = ts.length ∧ all2 p (ts.drop i) (us.drop i) = all2 p ts us ∧ σ.sl 0 = tms ts ∧ σ.sl 1 = tms us ∧ σ.sl 2 = .c (.clo f [] []) ∧ σ.sl 15 = tms ts ∧ σ.sl 16 = ib ts.length ∧ σ.sl 17 = ib i) ts.length ?_ ?_
    · exact ⟨0, by simp [s0, s1, s2, tms, ib, hl]⟩
    · rintro k σ ⟨i, hk, hp, q0, q1, q2, q15, q16, q17⟩
      unfold c63b0
      simp only [tms, ib] at q0 q1 q2 q15 q16 q17
      by_cases hi : i < ts.length
      · obtain ⟨t, ht⟩ : ∃ t, ts[i]? = some t := ⟨ts[i], by simp [hi]⟩
        obtain ⟨u, hu⟩ : ∃ u, us[i]? = some u := ⟨us[i]'(by omega), by simp [show i < us.length by omega]⟩
        have hi2 : i < us.length := by omega
        have w1 : IntKind.wrap .i64 ((i : Int) + 1) = ((i + 1 : Nat) : Int) := by rw [wrap_id (by omega) (by omega)]; rfl
        simp [q0, q1, q2, q15, q16, q17, hi, hi2, ht, hu]
        refine ECall.fn (hf t (List.mem_of_getElem? ht) u) (by simp [tm, (List.getElem?_eq_some_iff.1 ht).2, (List.getElem?_eq_some_iff.1 hu).2]) (by simp) rfl fun _ => ?_
        simp [bb]
        rw [all2_at hl ht hu] at hp
        constructor
        · intro hpf
          simp [r63, ← hp, hpf]
        · intro hpt
          simp [q17, w1]
          refine ⟨k - 1, by omega, i + 1, by omega, ?_, ?_⟩
          · rw [← hp, hpt]; simp
          · simp [q0, q1, q2, q15, q16, tms, ib, w1]
      · simp [q0, q1, q2, q15, q16, q17, hi, r63, bb]
        have : ts.length ≤ i := by omega
        rw [← hp, List.drop_eq_nil_of_le this, List.drop_eq_nil_of_le (by omega)]; rfl

mutual
def T.eqb : T → T → Bool
  | .mk k n ts, .mk k' n' us => decide (k = k') && decide (n = n') && T.eqbL ts us
def T.eqbL : List T → List T → Bool
  | [], [] => true
  | t :: ts, u :: us => T.eqb t u && T.eqbL ts us
  | _, _ => false
end
theorem eqbL_all2 : ∀ {ts us : List T}, T.eqbL ts us = all2 T.eqb ts us
  | [], [] => by simp [T.eqbL, all2]
  | t :: ts, u :: us => by simp [T.eqbL, all2, eqbL_all2 (ts := ts)]
  | [], _ :: _ => by simp [T.eqbL, all2]
  | _ :: _, [] => by simp [T.eqbL, all2]

theorem fn18 (t u : T) : Fn Tryz.prog 88 [tm t, tm u] (bb (T.eqb t u)) := by
  induction t using T.ind generalizing u with
  | h k n ts ih =>
  obtain ⟨k', n', us⟩ := u
  have h63 : Fn Tryz.prog 120 [tms ts, tms us, .c (.clo 88 [] [])] (bb (all2 T.eqb ts us)) := fn63 fun t ht u => ih t ht u
  refine fn_of (base := 18000) ok18 rfl fun σ h0 hr => ?_
  have s0 := h0 0
  have s1 := h0 1
  rw [slots0] at s0
  rw [slots1] at s1
  simp only [tm, cells_mk] at s0 s1
  clear h0 hr
  unfold c18
  simp [s0, s1]
  refine GCall.fn (fun _ => h63) (by simp [tms]) (by simp) rfl fun _ => ?_
  simp [r18, bb, T.eqb, eqbL_all2]
end Go.Abs

namespace Go.Abs

/- porism/porismkeep.Term -/
def c45 : SCode :=
  .seq (.reg
       [⟨some 2, none, .box 63 (.t 0)⟩,
        ⟨some 3, none, .box 63 (.t 1)⟩,
        ⟨some 4, none, .mv (.k (.bool false))⟩])
  (.seq (.reg
       [⟨some 5, none, .fad 63 0 0 (.t 2)⟩,
        ⟨some 6, none, .ld1 3 (.t 5)⟩,
        ⟨some 7, none, .fad 63 0 0 (.t 3)⟩,
        ⟨some 8, none, .ld1 3 (.t 7)⟩,
        ⟨some 9, none, .bin .eql (.t 6) (.t 8)⟩,
        ⟨some 10, none, .mv (.t 9)⟩,
        ⟨some 11, some (10, true), .fad 63 1 1 (.t 2)⟩,
        ⟨some 12, some (10, true), .ld1 3 (.t 11)⟩,
        ⟨some 13, some (10, true), .fad 63 1 1 (.t 3)⟩,
        ⟨some 14, some (10, true), .ld1 3 (.t 13)⟩,
        ⟨some 15, some (10, true), .bin .eql (.t 12) (.t 14)⟩,
        ⟨some 16, none, .pick (.t 10) (.t 15) (.k (.bool false))⟩,
        ⟨some 17, none, .mv (.t 16)⟩,
        ⟨some 18, some (17, true), .fad 63 2 2 (.t 2)⟩,
        ⟨some 19, some (17, true), .ld1 61 (.t 18)⟩,
        ⟨some 20, some (17, true), .fad 63 2 2 (.t 3)⟩,
        ⟨some 21, some (17, true), .ld1 61 (.t 20)⟩,
        ⟨some 22, some (17, true), .call (.f 80) [.t 19, .t 21]⟩,
        ⟨some 23, none, .pick (.t 17) (.t 22) (.k (.bool false))⟩,
        ⟨some 4, none, .mv (.t 23)⟩])
  (.ret))
def r45 : List RR := [.t 4]
theorem ok45 : okFn Go.Proofs.Tryz.prog 49 24 c45 r45 2 = true := by kernel_rfl

/- porism/porismkeep.Terms -/
def c96b0 : SCode :=
  .seq (.seq (.reg
         [⟨some 11, none, .mv (.t 5)⟩,
          ⟨some 12, none, .mv (.t 0)⟩,
          ⟨some 13, none, .len 61 (.t 12)⟩,
          ⟨some 14, none, .bin .lss (.t 11) (.t 13)⟩])
    (.cond (.t 14)
      (.skip)
      (.exit 0)))
  (.seq (.block 1 (.seq (.dreg [0, 0, 3, 7, 0, 0, 48, 112, 255, 511]
           [⟨some 17, none, .mv (.t 0)⟩,
            ⟨some 18, none, .mv (.t 5)⟩,
            ⟨some 19, none, .iad 63 3 (.t 17) (.t 18)⟩,
            ⟨some 20, none, .ldn 63 3 (.t 19)⟩,
            ⟨some 21, none, .mv (.t 1)⟩,
            ⟨some 22, none, .mv (.t 5)⟩,
            ⟨some 23, none, .iad 63 3 (.t 21) (.t 22)⟩,
            ⟨some 24, none, .ldn 63 3 (.t 23)⟩,
            ⟨some 25, none, .call (.f 49) [.t 20, .t 24]⟩,
            ⟨some 26, none, .not (.t 25)⟩])
      (.cond (.t 26)
        (.seq (.reg
             [⟨some 4, none, .mv (.k (.bool false))⟩])
        (.ret))
        (.skip))))
  (.reg
     [⟨some 15, none, .mv (.t 5)⟩,
      ⟨some 16, none, .bin .add (.t 15) (.k (.int .i64 1))⟩,
      ⟨some 5, none, .mv (.t 16)⟩]))
def c96 : SCode :=
  .seq (.reg
       [⟨some 4, none, .mv (.k (.bool false))⟩])
  (.seq (.seq (.reg
         [⟨some 6, none, .mv (.t 0)⟩,
          ⟨some 7, none, .len 61 (.t 6)⟩,
          ⟨some 8, none, .mv (.t 1)⟩,
          ⟨some 9, none, .len 61 (.t 8)⟩,
          ⟨some 10, none, .bin .neq (.t 7) (.t 9)⟩])
    (.cond (.t 10)
      (.seq (.reg
           [⟨some 4, none, .mv (.k (.bool false))⟩])
      (.ret))
      (.skip)))
  (.seq (.seq (.reg
         [⟨some 5, none, .mv (.k (.int .i64 0))⟩])
    (.block 0 (.loop c96b0)))
  (.seq (.reg
       [⟨some 4, none, .mv (.k (.bool true))⟩])
  (.ret))))
def r96 : List RR := [.t 4]
theorem ok96 : okFn Go.Proofs.Tryz.prog 80 27 c96 r96 2 = true := by kernel_rfl

end Go.Abs

namespace Go.Abs
open Go.Proofs

theorem fn96 {ts us : List T} (hf : ∀ t, t ∈ ts → ∀ u, Fn Tryz.prog 49 [tm t, tm u] (bb (T.eqb t u))) : Fn Tryz.prog 80 [tms ts, tms us] (bb (T.eqbL ts us)) := by
  rw [eqbL_all2]
  refine fn_of (base := 96000) ok96 rfl fun σ h0 hr => ?_
  have s0 := h0 0
  have s1 := h0 1
  rw [slots0] at s0
  rw [slots1] at s1
  have hlen := real_tms (hr (tms ts) (by simp))
  simp only [tms] at s0 s1
  clear h0 hr
  unfold c96
  by_cases hl : ts.length = us.length
  case neg =>
    have hl' : ¬ ((ts.length : Int) = (us.length : Int)) := by omega
    simp [s0, s1, hl', r96, bb, all2_len hl]
  case pos =>
    simp [s0, s1, hl]
    refine W_loop (fun k σ => ∃ i : Nat, i + k = ts.length ∧ all2 T.eqb (ts.drop i) (us.drop i) = all2 T.eqb ts us ∧ σ.sl 0 = .c (.sl 3 40 (ts.map T.cells)) ∧ σ.sl 1 = .c (.sl 3 40 (us.map T.cells)) ∧ σ.sl 5 = .c (.v (.int .i64 i))) ts.length ?_ ?_
    · exact ⟨0, by simp [s0, s1]⟩
    · rintro k σ ⟨i, hk, hp, q0, q1, q5⟩
      unfold c96b0
      by_cases hi : i < ts.length
      · obtain ⟨t, ht⟩ := at_of hi
        obtain ⟨u, hu⟩ := at_of (show i < us.length by omega)
        obtain ⟨_, ht'⟩ := getE ht
        obtain ⟨hi2, hu'⟩ := getE hu
        have w1 := wrap_succ (i := i) (by omega)
        rw [all2_at hl ht hu] at hp
        simp [q0, q1, q5, hi, hi2]
        refine W_dregA ?_
        simp [q0, q1, q5, hi, hi2, ht', hu']
        refine CallA.fn (hf t (List.mem_of_getElem? ht) u) (by simp [tm]) (by simp) rfl ?_
        simp [bb]
        refine realC_n ?_
        simp
        constructor
        · intro hpf
          simp [r96, ← hp, hpf]
        · intro hpt
          rw [hpt, Bool.true_and] at hp
          simp [q5]
          refine ⟨k - 1, by omega, i + 1, by omega, hp, ?_⟩
          simp [q0, q1, w1]
      · simp [q0, q1, q5, hi, r96, bb]
        have : ts.length ≤ i := by omega
        rw [← hp, List.drop_eq_nil_of_le this, List.drop_eq_nil_of_le (by omega)]; rfl

theorem fn45 (t u : T) : Fn Tryz.prog 49 [tm t, tm u] (bb (T.eqb t u)) := by
  induction t using T.ind generalizing u with
  | h k n ts ih =>
  obtain ⟨k', n', us⟩ := u
  have h96 : Fn Tryz.prog 80 [tms ts, tms us] (bb (T.eqbL ts us)) := fn96 fun t ht u => ih t ht u
  refine fn_of (base := 45000) ok45 rfl fun σ h0 hr => ?_
  have s0 := h0 0
  have s1 := h0 1
  rw [slots0] at s0
  rw [slots1] at s1
  simp only [tm, cells_mk] at s0 s1
  clear h0 hr
  unfold c45
  simp [s0, s1]
  refine GCall.fn (fun _ => h96) (by simp [tms]) (by simp) rfl fun _ => ?_
  simp [r45, bb, T.eqb]
end Go.Abs

namespace Go.Abs

/- porism/term.formed -/
def c65 : SCode :=
  .seq (.reg
       [⟨some 1, none, .box 63 (.t 0)⟩,
        ⟨some 2, none, .mv (.k (.bool false))⟩])
  (.seq (.reg
       [⟨some 4, none, .fad 63 0 0 (.t 1)⟩,
        ⟨some 5, none, .ld1 3 (.t 4)⟩,
        ⟨some 6, none, .call (.f 174) [.t 5]⟩,
        ⟨some 3, none, .mv (.t 6)⟩])
  (.seq (.seq (.reg
         [⟨some 7, none, .mv (.t 3)⟩,
          ⟨some 8, none, .bin .lss (.t 7) (.k (.int .i64 0))⟩,
          ⟨some 9, none, .mv (.t 8)⟩,
          ⟨some 10, some (9, false), .fad 63 2 2 (.t 1)⟩,
          ⟨some 11, some (9, false), .ld1 61 (.t 10)⟩,
          ⟨some 12, some (9, false), .len 61 (.t 11)⟩,
          ⟨some 13, some (9, false), .mv (.t 3)⟩,
          ⟨some 14, some (9, false), .bin .neq (.t 12) (.t 13)⟩,
          ⟨some 15, none, .pick (.t 9) (.k (.bool true)) (.t 14)⟩,
          ⟨some 16, none, .mv (.t 15)⟩,
          ⟨some 17, some (16, false), .fad 63 1 1 (.t 1)⟩,
          ⟨some 18, some (16, false), .ld1 3 (.t 17)⟩,
          ⟨some 19, some (16, false), .bin .lss (.t 18) (.k (.int .i64 0))⟩,
          ⟨some 20, none, .pick (.t 16) (.k (.bool true)) (.t 19)⟩,
          ⟨some 21, none, .mv (.t 20)⟩,
          ⟨some 22, some (21, false), .fad 63 1 1 (.t 1)⟩,
          ⟨some 23, some (21, false), .ld1 3 (.t 22)⟩,
          ⟨some 24, some (21, false), .bin .gtr (.t 23) (.k (.int .i64 65535))⟩,
          ⟨some 25, none, .pick (.t 21) (.k (.bool true)) (.t 24)⟩,
          ⟨some 26, none, .mv (.t 25)⟩,
          ⟨some 27, some (26, false), .mv (.t 3)⟩,
          ⟨some 28, some (26, false), .bin .gtr (.t 27) (.k (.int .i64 0))⟩,
          ⟨some 29, some (26, false), .mv (.t 28)⟩,
          ⟨some 30, some (29, true), .fad 63 1 1 (.t 1)⟩,
          ⟨some 31, some (29, true), .ld1 3 (.t 30)⟩,
          ⟨some 32, some (29, true), .bin .neq (.t 31) (.k (.int .i64 0))⟩,
          ⟨some 33, some (26, false), .pick (.t 29) (.t 32) (.k (.bool false))⟩,
          ⟨some 34, none, .pick (.t 26) (.k (.bool true)) (.t 33)⟩])
    (.cond (.t 34)
      (.seq (.reg
           [⟨some 2, none, .mv (.k (.bool false))⟩])
      (.ret))
      (.skip)))
  (.seq (.reg
       [⟨some 35, none, .fad 63 2 2 (.t 1)⟩,
        ⟨some 36, none, .ld1 61 (.t 35)⟩,
        ⟨some 37, none, .call (.f 175) [.t 36, .f 176]⟩,
        ⟨some 38, none, .not (.t 37)⟩,
        ⟨some 2, none, .mv (.t 38)⟩])
  (.ret))))
def r65 : List RR := [.t 2]
theorem ok65 : okFn Go.Proofs.Tryz.prog 153 39 c65 r65 1 = true := by kernel_rfl

/- porism/term.formed$1 -/
def c113 : SCode :=
  .seq (.reg
       [⟨some 1, none, .box 63 (.t 0)⟩,
        ⟨some 2, none, .mv (.k (.bool false))⟩])
  (.seq (.reg
       [⟨some 3, none, .ldn 63 3 (.t 1)⟩,
        ⟨some 4, none, .call (.f 153) [.t 3]⟩,
        ⟨some 5, none, .not (.t 4)⟩,
        ⟨some 2, none, .mv (.t 5)⟩])
  (.ret))
def r113 : List RR := [.t 2]
theorem ok113 : okFn Go.Proofs.Tryz.prog 176 6 c113 r113 1 = true := by kernel_rfl

/- porism/term.Check -/
def c22 : SCode :=
  .seq (.reg
       [⟨some 1, none, .box 63 (.t 0)⟩,
        ⟨some 2, none, .mv (.k (.int .i64 0))⟩])
  (.seq (.block 0 (.seq (.reg
           [⟨some 4, none, .ldn 63 3 (.t 1)⟩,
            ⟨some 5, none, .call (.f 151) [.t 4]⟩,
            ⟨some 6, none, .bin .gtr (.t 5) (.k (.int .i64 6000))⟩,
            ⟨some 3, none, .mv (.t 6)⟩])
      (.cond (.t 3)
        (.seq (.reg
             [⟨some 2, none, .mv (.k (.int .i64 4))⟩])
        (.ret))
        (.seq (.reg
             [⟨some 8, none, .ldn 63 3 (.t 1)⟩,
              ⟨some 9, none, .call (.f 152) [.t 8]⟩,
              ⟨some 10, none, .bin .gtr (.t 9) (.k (.int .i64 200))⟩,
              ⟨some 7, none, .mv (.t 10)⟩])
        (.cond (.t 7)
          (.seq (.reg
               [⟨some 2, none, .mv (.k (.int .i64 5))⟩])
          (.ret))
          (.seq (.reg
               [⟨some 12, none, .ldn 63 3 (.t 1)⟩,
                ⟨some 13, none, .call (.f 153) [.t 12]⟩,
                ⟨some 14, none, .not (.t 13)⟩,
                ⟨some 11, none, .mv (.t 14)⟩])
          (.cond (.t 11)
            (.seq (.reg
                 [⟨some 2, none, .mv (.k (.int .i64 1))⟩])
            (.ret))
            (.skip))))))))
  (.seq (.reg
       [⟨some 2, none, .mv (.k (.int .i64 0))⟩])
  (.ret)))
def r22 : List RR := [.t 2]
theorem ok22 : okFn Go.Proofs.Tryz.prog 112 15 c22 r22 1 = true := by kernel_rfl

/- porism/porismref01.U -/
def c24 : SCode :=
  .seq (.reg
       [⟨some 2, none, .alloc 63 [.v (.int .i64 0), .v (.int .i64 0), .cap 3 40 []]⟩])
  (.seq (.reg
       [⟨some 3, none, .mv (.t 0)⟩,
        ⟨some 4, none, .build 63 [.v (.int .i64 0), .v (.int .i64 0), .cap 3 40 []] [(0, 0, 1, .k (.int .i64 2)), (1, 1, 1, .t 3)]⟩,
        ⟨none, none, .stn 63 3 (.t 2) (.t 4)⟩])
  (.ret))
def r24 : List RR := [.cn 2 3]
theorem ok24 : okFn Go.Proofs.Tryz.prog 33 5 c24 r24 1 = true := by kernel_rfl

/- porism/kind.Binds -/
def c31 : SCode :=
  .seq (.reg
       [⟨some 4, none, .mv (.k (.int .i64 0))⟩])
  (.seq (.seq (.reg
         [⟨some 5, none, .mv (.t 1)⟩,
          ⟨some 6, none, .bin .eql (.t 5) (.k (.int .i64 1))⟩,
          ⟨some 7, none, .mv (.t 6)⟩,
          ⟨some 8, some (7, true), .lit 3 1 8 [.k (.int .i64 4), .k (.int .i64 5), .k (.int .i64 7)]⟩,
          ⟨some 9, some (7, true), .mv (.t 0)⟩,
          ⟨some 10, some (7, true), .call (.f 177) [.t 8, .t 9]⟩,
          ⟨some 11, none, .pick (.t 7) (.t 10) (.k (.bool false))⟩])
    (.cond (.t 11)
      (.seq (.reg
           [⟨some 4, none, .mv (.k (.int .i64 1))⟩])
      (.ret))
      (.skip)))
  (.seq (.reg
       [⟨some 4, none, .mv (.k (.int .i64 0))⟩])
  (.ret)))
def r31 : List RR := [.t 4]
theorem ok31 : okFn Go.Proofs.Tryz.prog 154 12 c31 r31 2 = true := by kernel_rfl

/- slices.Contains[[]int,int] -/
def c69 : SCode :=
  .seq (.reg
       [⟨some 4, none, .mv (.k (.bool false))⟩])
  (.seq (.reg
       [⟨some 5, none, .mv (.t 0)⟩,
        ⟨some 6, none, .mv (.t 1)⟩,
        ⟨some 7, none, .call (.f 189) [.t 5, .t 6]⟩,
        ⟨some 8, none, .bin .geq (.t 7) (.k (.int .i64 0))⟩,
        ⟨some 4, none, .mv (.t 8)⟩])
  (.ret))
def r69 : List RR := [.t 4]
theorem ok69 : okFn Go.Proofs.Tryz.prog 177 9 c69 r69 2 = true := by kernel_rfl

/- slices.Index[[]int,int] -/
def c115b0 : SCode :=
  .seq (.reg
       [⟨some 9, none, .bin .lss (.t 8) (.t 7)⟩])
  (.seq (.cond (.t 9)
      (.skip)
      (.exit 0))
  (.seq (.block 1 (.seq (.reg
           [⟨some 10, none, .mv (.t 8)⟩,
            ⟨some 5, none, .mv (.t 10)⟩])
      (.seq (.reg
           [⟨some 11, none, .mv (.t 1)⟩,
            ⟨some 12, none, .mv (.t 0)⟩,
            ⟨some 13, none, .mv (.t 5)⟩,
            ⟨some 14, none, .iad 3 1 (.t 12) (.t 13)⟩,
            ⟨some 15, none, .ld1 3 (.t 14)⟩,
            ⟨some 16, none, .bin .eql (.t 11) (.t 15)⟩])
      (.cond (.t 16)
        (.seq (.reg
             [⟨some 17, none, .mv (.t 5)⟩,
              ⟨some 4, none, .mv (.t 17)⟩])
        (.ret))
        (.skip)))))
  (.reg
     [⟨some 18, none, .bin .add (.t 8) (.k (.int .i64 1))⟩,
      ⟨some 8, none, .mv (.t 18)⟩])))
def c115 : SCode :=
  .seq (.reg
       [⟨some 4, none, .mv (.k (.int .i64 0))⟩])
  (.seq (.seq (.reg
         [⟨some 6, none, .mv (.t 0)⟩,
          ⟨some 7, none, .len 24 (.t 6)⟩,
          ⟨some 8, none, .mv (.k (.int .i64 0))⟩])
    (.block 0 (.loop c115b0)))
  (.seq (.reg
       [⟨some 4, none, .mv (.k (.int .i64 (-1)))⟩])
  (.ret)))
def r115 : List RR := [.t 4]
theorem ok115 : okFn Go.Proofs.Tryz.prog 189 19 c115 r115 2 = true := by kernel_rfl

/- porism/term.Scope -/
def c30 : SCode :=
  .seq (.reg
       [⟨some 3, none, .box 63 (.t 0)⟩,
        ⟨some 6, none, .mv (.k (.bool false))⟩])
  (.seq (.reg
       [⟨some 7, none, .mv (.t 1)⟩,
        ⟨some 8, none, .bin .geq (.t 7) (.k (.int .i64 0))⟩,
        ⟨some 9, none, .mv (.t 8)⟩,
        ⟨some 10, some (9, true), .mv (.t 2)⟩,
        ⟨some 11, some (9, true), .bin .geq (.t 10) (.k (.int .i64 0))⟩,
        ⟨some 12, none, .pick (.t 9) (.t 11) (.k (.bool false))⟩,
        ⟨some 13, none, .mv (.t 12)⟩,
        ⟨some 14, some (13, true), .ldn 63 3 (.t 3)⟩,
        ⟨some 15, some (13, true), .call (.f 112) [.t 14]⟩,
        ⟨some 16, some (13, true), .bin .eql (.t 15) (.k (.int .i64 0))⟩,
        ⟨some 17, none, .pick (.t 13) (.t 16) (.k (.bool false))⟩,
        ⟨some 18, none, .mv (.t 17)⟩,
        ⟨some 19, some (18, true), .ldn 63 3 (.t 3)⟩,
        ⟨some 20, some (18, true), .mv (.t 1)⟩,
        ⟨some 21, some (18, true), .best false [.t 20, .k (.int .i64 65536)]⟩,
        ⟨some 22, some (18, true), .mv (.t 2)⟩,
        ⟨some 23, some (18, true), .call (.f 113) [.t 19, .t 21, .t 22]⟩,
        ⟨some 24, none, .pick (.t 18) (.t 23) (.k (.bool false))⟩,
        ⟨some 6, none, .mv (.t 24)⟩])
  (.ret))
def r30 : List RR := [.t 6]
theorem ok30 : okFn Go.Proofs.Tryz.prog 81 25 c30 r30 3 = true := by kernel_rfl

/- porism/term.within -/
def c68b0 : SCode :=
  .seq (.reg
       [⟨some 32, none, .bin .lss (.t 31) (.t 30)⟩])
  (.seq (.cond (.t 32)
      (.skip)
      (.exit 1))
  (.seq (.block 2 (.seq (.reg
           [⟨some 33, none, .mv (.t 31)⟩,
            ⟨some 34, none, .iad 63 3 (.t 29) (.t 31)⟩,
            ⟨some 35, none, .ldn 63 3 (.t 34)⟩,
            ⟨some 8, none, .alloc 63 [.v (.int .i64 0), .v (.int .i64 0), .cap 3 40 []]⟩,
            ⟨some 7, none, .mv (.t 33)⟩,
            ⟨none, none, .stn 63 3 (.t 8) (.t 35)⟩])
      (.seq (.dreg [0, 0, 0, 4, 0, 28, 62, 0, 255, 511]
           [⟨some 36, none, .ldn 63 3 (.t 8)⟩,
            ⟨some 37, none, .mv (.t 1)⟩,
            ⟨some 38, none, .fad 63 0 0 (.t 3)⟩,
            ⟨some 39, none, .ld1 3 (.t 38)⟩,
            ⟨some 40, none, .mv (.t 7)⟩,
            ⟨some 41, none, .call (.f 154) [.t 39, .t 40]⟩,
            ⟨some 42, none, .bin .add (.t 37) (.t 41)⟩,
            ⟨some 43, none, .mv (.t 2)⟩,
            ⟨some 44, none, .call (.f 113) [.t 36, .t 42, .t 43]⟩,
            ⟨some 45, none, .not (.t 44)⟩])
      (.cond (.t 45)
        (.seq (.reg
             [⟨some 6, none, .mv (.k (.bool false))⟩])
        (.ret))
        (.skip)))))
  (.reg
     [⟨some 46, none, .bin .add (.t 31) (.k (.int .i64 1))⟩,
      ⟨some 31, none, .mv (.t 46)⟩])))
def c68 : SCode :=
  .seq (.reg
       [⟨some 3, none, .box 63 (.t 0)⟩,
        ⟨some 6, none, .mv (.k (.bool false))⟩])
  (.seq (.seq (.reg
         [⟨some 9, none, .fad 63 0 0 (.t 3)⟩,
          ⟨some 10, none, .ld1 3 (.t 9)⟩])
    (.block 0 (.seq (.reg
           [⟨some 12, none, .bin .eql (.t 10) (.k (.int .i64 1))⟩,
            ⟨some 11, none, .mv (.t 12)⟩])
      (.cond (.t 11)
        (.seq (.reg
             [⟨some 13, none, .fad 63 1 1 (.t 3)⟩,
              ⟨some 14, none, .ld1 3 (.t 13)⟩,
              ⟨some 15, none, .mv (.t 1)⟩,
              ⟨some 16, none, .bin .lss (.t 14) (.t 15)⟩,
              ⟨some 6, none, .mv (.t 16)⟩])
        (.ret))
        (.seq (.reg
             [⟨some 18, none, .bin .eql (.t 10) (.k (.int .i64 2))⟩,
              ⟨some 17, none, .mv (.t 18)⟩])
        (.cond (.t 17)
          (.seq (.reg
               [⟨some 19, none, .fad 63 1 1 (.t 3)⟩,
                ⟨some 20, none, .ld1 3 (.t 19)⟩,
                ⟨some 21, none, .bin .leq (.t 20) (.k (.int .i64 6))⟩,
                ⟨some 6, none, .mv (.t 21)⟩])
          (.ret))
          (.seq (.reg
               [⟨some 23, none, .bin .eql (.t 10) (.k (.int .i64 3))⟩,
                ⟨some 22, none, .mv (.t 23)⟩])
          (.cond (.t 22)
            (.seq (.reg
                 [⟨some 24, none, .fad 63 1 1 (.t 3)⟩,
                  ⟨some 25, none, .ld1 3 (.t 24)⟩,
                  ⟨some 26, none, .mv (.t 2)⟩,
                  ⟨some 27, none, .bin .lss (.t 25) (.t 26)⟩,
                  ⟨some 6, none, .mv (.t 27)⟩])
            (.ret))
            (.skip)))))))))
  (.seq (.seq (.reg
         [⟨some 28, none, .fad 63 2 2 (.t 3)⟩,
          ⟨some 29, none, .ld1 61 (.t 28)⟩,
          ⟨some 30, none, .len 61 (.t 29)⟩,
          ⟨some 31, none, .mv (.k (.int .i64 0))⟩])
    (.block 1 (.loop c68b0)))
  (.seq (.reg
       [⟨some 6, none, .mv (.k (.bool true))⟩])
  (.ret))))
def r68 : List RR := [.t 6]
theorem ok68 : okFn Go.Proofs.Tryz.prog 113 47 c68 r68 3 = true := by kernel_rfl

end Go.Abs
