/- THIS TEXT PROVES THAT AN ARGUMENT WHICH READS AS A TERM, AND IS OF BOUNDED BULK, IS TOLD AS A TERM: the bound is the row's own. -/
import Derived.Test.YtmnjbnkenfefaaaT1
import Derived.Test.YtmnjbnkenfefaaaRows
import Derived.WalkKit
import Derived.ProofKit
import Derived.OpenShut
import Derived.JoinedCond
import Derived.Deep.Strs
import Derived.Deep.Slices
import Derived.Below
import Derived.Carry
set_option linter.unusedVariables false
set_option linter.unusedSimpArgs false
namespace Go.Abs
open Go.Proofs Go.Proofs.Ytmnjbnkenfefaaa Go.RowKit

/-- All that lies in memory stays. -/
def gOf (w : World) : Gh := ⟨fun b _ => b < w.heap.size, fun _ => 0, fun _ => .nilFunc, fun _ => 0⟩

theorem cell_lt {w : World} {a : Addr} {x : Value} (h : w.cell? a = some x) : a.block < w.heap.size := by
  unfold World.cell? at h
  by_cases hb : a.block < w.heap.size
  · exact hb
  · rw [Array.getElem?_eq_none (by omega)] at h; cases h

theorem bulk_one {H : Type} (d : DataW H) : 1 ≤ Rows.uptoBulk d := by
  cases d with
  | lit l => cases l <;> simp [Rows.uptoBulk]
  | _ => simp [Rows.uptoBulk]
theorem bulk_all_len {H : Type} : ∀ (l : List (DataW H)), l.length ≤ Rows.uptoBulkAll l
  | [] => by simp [Rows.uptoBulkAll]
  | d :: l => by
    have := bulk_all_len l
    have h1 := bulk_one d
    simp [Rows.uptoBulkAll]; omega
theorem bulk_mem {H : Type} {d : DataW H} : ∀ {l : List (DataW H)}, d ∈ l → Rows.uptoBulk d ≤ Rows.uptoBulkAll l
  | e :: l, h => by
    rcases List.mem_cons.1 h with rfl | h
    · simp [Rows.uptoBulkAll]
    · have := bulk_mem h; simp [Rows.uptoBulkAll]; omega

theorem cell24 : Try.prog.cellsOf 24 = 3 := by kernel_rfl
theorem cell22 : Try.prog.cellsOf 22 = 1 := by kernel_rfl
theorem cell3 : Try.prog.cellsOf 3 = 1 := by kernel_rfl

theorem countL_append : ∀ (l r : List T), T.countL (l ++ r) = T.countL l + T.countL r
  | [], r => by simp [T.countL]
  | t :: l, r => by simp [T.countL, countL_append l r]; omega
theorem bulkAll_append {H : Type} : ∀ (l r : List (DataW H)), Rows.uptoBulkAll (l ++ r) = Rows.uptoBulkAll l + Rows.uptoBulkAll r
  | [], r => by simp [Rows.uptoBulkAll]
  | t :: l, r => by simp [Rows.uptoBulkAll, bulkAll_append l r]; omega
theorem three {α : Type} : ∀ {l : List α}, l.length = 3 → ∃ a b c, l = [a, b, c]
  | [a, b, c], _ => ⟨a, b, c, rfl⟩

theorem term_reads {H : Type} {enc : TypeId × Value → H} {w : World} {B : Nat} (hroom : B * 40 ≤ room) : ∀ (N : Nat) {fuel : Nat} {cs : List Value} {x : DataW H × List MemPlace}, DataW.trod enc Try.prog w 0 (fun _ => true) true fuel 24 cs = some x →
    Rows.uptoBulk x.1 ≤ N → Rows.uptoBulk x.1 ≤ B → ∃ t : T, All2 (RC (gOf w) w) t.cells cs ∧ t.count ≤ Rows.uptoBulk x.1 := by
  intro N
  induction N with
  | zero => intro fuel cs x h hb _; have := bulk_one x.1; omega
  | succ N ih =>
    intro fuel cs x h hb hB
    obtain ⟨y0, y1, y2, n, rfl, hlen, h0, h1, h2⟩ := Go.Deep.trod_struct3 Try.underlying24 h
    rw [cell24] at hlen
    obtain ⟨v0, v1, v2, rfl⟩ := three hlen
    simp only [cell3, cell22, List.drop_zero, List.drop_succ_cons, List.take_succ_cons, List.take_zero] at h0 h1 h2
    obtain ⟨k, e0, rfl, _⟩ := DataW.trod_int Try.underlying3 h0
    obtain ⟨m, e1, rfl, _⟩ := DataW.trod_int Try.underlying3 h1
    cases e0; cases e1
    simp only [Rows.uptoBulk, Rows.uptoBulkAll] at hb hB
    rcases Go.Deep.open_slice Try.underlying22 h2 with ⟨e2, rfl⟩ | ⟨a, len, cap, mm, nn, D, Pl, e2, _, hl, _, hm, rfl, hel⟩
    · cases e2
      refine ⟨.mk k m [], ?_⟩
      rw [cells_mk]
      exact ⟨⟨.v _ rfl, .v _ rfl, (nil_spec (gOf w) w 3 40).1, trivial⟩, by simp [T.count, T.countL, Rows.uptoBulk, Rows.uptoBulkAll]⟩
    · cases e2
      simp only [if_true] at hm
      subst hm
      simp only [Rows.uptoBulk] at hb hB
      have hlen2 : len ≤ B := by
        have := bulk_all_len ((List.range len).map D)
        simp at this
        omega
      have hk : ∀ i, ∃ (t : T) (us : List Value), i < len → w.cells? 0 (a.add (i * 3)) 3 = some us ∧ All2 (RC (gOf w) w) t.cells us ∧ t.count ≤ Rows.uptoBulk (D i) := fun i => by
        by_cases hi : i < len
        · obtain ⟨us, hu1, hu2⟩ := hel i (by omega)
          rw [cell24] at hu1
          have hD : D i ∈ (List.range len).map D := List.mem_map.2 ⟨i, by simpa using hi, rfl⟩
          have hle := bulk_mem hD
          obtain ⟨t, ht, hc⟩ := ih hu2 (by simp only; omega) (by simp only; omega)
          exact ⟨t, us, fun _ => ⟨hu1, ht, hc⟩⟩
        · exact ⟨default, [], fun h => absurd h hi⟩
      refine ⟨.mk k m ((List.range len).map fun i => Classical.choose (hk i)), ?_⟩
      rw [cells_mk]
      refine ⟨⟨.v _ rfl, .v _ rfl, ?_, trivial⟩, ?_⟩
      rotate_left
      · have hsum : ∀ m, m ≤ len → T.countL ((List.range m).map fun i => Classical.choose (hk i)) ≤ Rows.uptoBulkAll ((List.range m).map D) := by
          intro m
          induction m with
          | zero => intro _; simp [T.countL]
          | succ m ihm =>
            intro hm
            have h1 := ihm (by omega)
            obtain ⟨us, h2⟩ := Classical.choose_spec (hk m)
            have h3 := (h2 (by omega)).2.2
            rw [List.range_succ, List.map_append, List.map_append, countL_append, bulkAll_append]
            simp [T.countL, Rows.uptoBulkAll]
            omega
        have := hsum len (Nat.le_refl _)
        simp only [T.count, Rows.uptoBulk, Rows.uptoBulkAll]
        omega
      have hspec : ∀ i, i < len → ∃ us, w.cells? 0 (a.add (i * 3)) 3 = some us ∧ All2 (RC (gOf w) w) (Classical.choose (hk i)).cells us := fun i hi => by
        obtain ⟨us, h⟩ := Classical.choose_spec (hk i)
        exact ⟨us, (h hi).1, (h hi).2.1⟩
      have hat : ∀ i j, ∃ v, i < len → j < 3 → ∀ d, (Classical.choose (hk i)).cells[j]? = some d → w.cell? (a.add (i * 3 + j)) = some v ∧ RC (gOf w) w d v := fun i j => by
        by_cases hi : i < len
        · obtain ⟨us, hu, hall⟩ := hspec i hi
          by_cases hj : j < 3
          · have hul : us.length = 3 := by have := hall.length; simpa using this.symm
            refine ⟨us[j]'(by omega), fun _ _ d hd => ?_⟩
            unfold World.cells? at hu
            rw [if_pos (Nat.zero_le _)] at hu
            have hg := mapM_some_get hu j j (by simp [hj])
            rw [List.getElem?_eq_getElem (by omega)] at hg
            rw [Addr.add_add] at hg
            obtain ⟨b, hb1, hb2⟩ := hall.get j d hd
            rw [List.getElem?_eq_getElem (by omega)] at hb1
            cases hb1
            exact ⟨hg, hb2⟩
          · exact ⟨undef, fun _ h => absurd h hj⟩
        · exact ⟨undef, fun h => absurd h hi⟩
      have hes : ∀ (i j : Nat) l d, (((List.range len).map fun i => Classical.choose (hk i)).map T.cells)[i]? = some l → l[j]? = some d → i < len ∧ j < 3 ∧ (Classical.choose (hk i)).cells[j]? = some d := fun i j l d e1 e2 => by
        simp only [List.getElem?_map, Option.map_eq_some_iff, List.getElem?_eq_some_iff] at e1
        obtain ⟨t, ⟨i', ⟨hi', e3⟩, rfl⟩, rfl⟩ := e1
        simp at e3 hi'
        subst e3
        have hj := (List.getElem?_eq_some_iff.1 e2).1
        rw [cells_len] at hj
        exact ⟨hi', hj, e2⟩
      have key : RD (gOf w) w (.sl 3 40 (((List.range len).map fun i => Classical.choose (hk i)).map T.cells)) (.slice (some a) (((List.range len).map fun i => Classical.choose (hk i)).map T.cells).length mm) := by
        refine .sl 3 40 _ (some a) mm (fun i j => Classical.choose (hat i j)) (by simpa using hl) (by simp; omega) (fun l hl => ?_) (fun i j l d e1 e2 => ?_) (fun i j l d e1 e2 => ?_)
        · obtain ⟨t, _, rfl⟩ := List.mem_map.1 hl
          exact cells_len t
        · obtain ⟨hi, hj, hd⟩ := hes i j l d e1 e2
          have := (Classical.choose_spec (hat i j) hi hj d hd).1
          exact ⟨_, rfl, cell_lt this, this⟩
        · obtain ⟨hi, hj, hd⟩ := hes i j l d e1 e2
          have := (Classical.choose_spec (hat i j) hi hj d hd).2
          exact isD_spec this (cells_isD' _ d (List.mem_of_getElem? hd))
      have key2 : RC (gOf w) w (.sl 3 40 (((List.range len).map fun i => Classical.choose (hk i)).map T.cells)) (.slice (some a) (((List.range len).map fun i => Classical.choose (hk i)).map T.cells).length mm) := key
      simpa using key2

theorem arg_term {H : Type} {enc : TypeId × Value → H} {w : World} {v : Value} {d : DataW H} {ps : List MemPlace} (h : DataW.Trod enc Try.prog w 0 (fun _ => true) true 24 v d ps) (hv : ∃ cs, v = .agg cs) (hb : Rows.uptoBulk d ≤ 1048576) :
    ∃ t : T, RV2 (gOf w) w (tm t) v ∧ t.count ≤ 1048576 := by
  obtain ⟨fuel, h⟩ := h
  obtain ⟨cs, rfl⟩ := hv
  obtain ⟨t, ht, hc⟩ := term_reads (B := 1048576) (by simp [room]) _ h (Nat.le_refl _) hb
  exact ⟨t, ⟨cs, rfl, ht⟩, Nat.le_trans hc hb⟩

/-- What a function is said to compute, it computes; and nothing that lay in memory is touched. -/
theorem calls_of_fn {P : Program} {f : Nat} {args : List AV} {res : AV} (h : Fn P f args res) {w : World} {vs : Array Value} (ha : All2 (RV2 (gOf w) w) args vs.toList) :
    Calls P f vs w fun e w' => ∃ v, e = .returned v ∧ Below w.heap.size w w' ∧ ∃ g', RV2 g' w' res v := by
  refine (h.2 (gOf w) w vs (fun b _ hb => hb) ha ⟨fun k t q hq => by simp at hq, fun k k' t t' q q' hq => by simp at hq⟩).mono ?_
  rintro e w' ⟨v, g', rfl, hp⟩
  refine ⟨v, rfl, ⟨hp.os, hp.tape, hp.out, hp.grow, fun b hb => (hp.frame b hb ?_).1⟩, g', hp.res⟩
  rintro ⟨k, t, q, hq, _⟩
  simp at hq

theorem calls_bool {P : Program} {f : Nat} {args : List AV} {b : Bool} (h : Fn P f args (bb b)) {w : World} {vs : Array Value} (ha : All2 (RV2 (gOf w) w) args vs.toList) :
    Calls P f vs w fun e w' => e = .returned (.bool b) ∧ Below w.heap.size w w' := by
  refine (calls_of_fn h ha).mono ?_
  rintro e w' ⟨v, rfl, hb, g', hv⟩
  exact ⟨by rw [RV2_v hv], hb⟩
end Go.Abs
