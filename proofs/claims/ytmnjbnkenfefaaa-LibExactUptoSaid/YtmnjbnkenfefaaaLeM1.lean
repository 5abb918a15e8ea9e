/- THIS TEXT TELLS SOME FUNCTIONS OF THE PROGRAM IN THE CALCULUS, PROVES BY THE KERNEL THAT WHAT IS TOLD IS THE LOADED CODE, AND PROVES WHAT THEY COMPUTE: for every argument that is told; the conditions stand in each theorem. -/
import Derived.KernelRfl
import Derived.Test.YtmnjbnkenfefaaaProg
import Derived.Test.YtmnjbnkenfefaaaLeM0
set_option linter.unusedVariables false
set_option linter.unusedSimpArgs false
namespace Go.Abs

/- porism/tele.Spine -/
def c117b0 : SCode :=
  .seq (.reg
       [⟨some 13, none, .bin .lss (.t 12) (.t 11)⟩])
  (.seq (.cond (.t 13)
      (.skip)
      (.exit 0))
  (.seq (.block 1 (.seq (.reg
           [⟨some 14, none, .iad 24 3 (.t 10) (.t 12)⟩,
            ⟨some 15, none, .ldn 24 3 (.t 14)⟩,
            ⟨some 7, none, .alloc 24 [.v (.int .i64 0), .v (.int .i64 0), .cap 3 40 []]⟩,
            ⟨none, none, .stn 24 3 (.t 7) (.t 15)⟩])
      (.dreg [0, 0, 2, 7, 15, 31]
         [⟨some 16, none, .ldn 24 3 (.t 5)⟩,
          ⟨some 17, none, .ldn 24 3 (.t 7)⟩,
          ⟨some 18, none, .call (.f 125) [.t 17]⟩,
          ⟨some 19, none, .lit 24 3 40 [.t 16, .t 18]⟩,
          ⟨some 20, none, .call (.f 74) [.k (.int .i64 6), .t 19]⟩,
          ⟨none, none, .stn 24 3 (.t 5) (.t 20)⟩])))
  (.reg
     [⟨some 21, none, .bin .add (.t 12) (.k (.int .i64 1))⟩,
      ⟨some 12, none, .mv (.t 21)⟩])))
def c117 : SCode :=
  .seq (.reg
       [⟨some 2, none, .box 24 (.t 0)⟩,
        ⟨some 4, none, .alloc 24 [.v (.int .i64 0), .v (.int .i64 0), .cap 3 40 []]⟩])
  (.seq (.reg
       [⟨some 8, none, .ldn 24 3 (.t 2)⟩,
        ⟨some 9, none, .call (.f 125) [.t 8]⟩,
        ⟨some 5, none, .alloc 24 [.v (.int .i64 0), .v (.int .i64 0), .cap 3 40 []]⟩,
        ⟨none, none, .stn 24 3 (.t 5) (.t 9)⟩])
  (.seq (.seq (.reg
         [⟨some 10, none, .mv (.t 1)⟩,
          ⟨some 11, none, .len 22 (.t 10)⟩,
          ⟨some 12, none, .mv (.k (.int .i64 0))⟩])
    (.block 0 (.loop c117b0)))
  (.seq (.reg
       [⟨some 22, none, .ldn 24 3 (.t 5)⟩,
        ⟨none, none, .stn 24 3 (.t 4) (.t 22)⟩])
  (.ret))))
def r117 : List RR := [.cn 4 3]
theorem ok117 : okFn Go.Proofs.Try.prog 117 23 c117 r117 2 = true := by kernel_rfl

/- slices.Backward[[]porism/api.Term,porism/api.Term] -/
def c127 : SCode :=
  .seq (.reg
       [⟨some 1, none, .box 22 (.t 0)⟩,
        ⟨some 2, none, .mv (.k (.nilFunc))⟩])
  (.seq (.reg
       [⟨some 3, none, .mkfn 132 [] [.t 1]⟩,
        ⟨some 2, none, .mv (.t 3)⟩])
  (.ret))
def r127 : List RR := [.t 2]
theorem ok127 : okFn Go.Proofs.Try.prog 127 4 c127 r127 1 = true := by kernel_rfl

/- slices.Backward[[]porism/api.Term,porism/api.Term]$1 -/
def c132b0 : SCode :=
  .seq (.seq (.reg
         [⟨some 7, none, .mv (.t 3)⟩,
          ⟨some 8, none, .bin .geq (.t 7) (.k (.int .i64 0))⟩])
    (.cond (.t 8)
      (.skip)
      (.exit 0)))
  (.seq (.block 1 (.seq (.reg
           [⟨some 11, none, .mv (.t 0)⟩,
            ⟨some 12, none, .mv (.t 3)⟩,
            ⟨some 13, none, .ld1 22 (.t 1)⟩,
            ⟨some 14, none, .mv (.t 3)⟩,
            ⟨some 15, none, .iad 24 3 (.t 13) (.t 14)⟩,
            ⟨some 16, none, .ldn 24 3 (.t 15)⟩,
            ⟨some 17, none, .call (.t 11) [.t 12, .t 16]⟩,
            ⟨some 18, none, .not (.t 17)⟩])
      (.cond (.t 18)
        (.ret)
        (.skip))))
  (.reg
     [⟨some 9, none, .mv (.t 3)⟩,
      ⟨some 10, none, .bin .sub (.t 9) (.k (.int .i64 1))⟩,
      ⟨some 3, none, .mv (.t 10)⟩]))
def c132 : SCode :=
  .seq (.reg
       [⟨some 4, none, .ld1 22 (.t 1)⟩,
        ⟨some 5, none, .len 22 (.t 4)⟩,
        ⟨some 6, none, .bin .sub (.t 5) (.k (.int .i64 1))⟩,
        ⟨some 3, none, .mv (.t 6)⟩])
  (.block 0 (.loop c132b0))
def r132 : List RR := []
theorem ok132 : okFn Go.Proofs.Try.prog 132 19 c132 r132 2 = true := by kernel_rfl

/- porism/term.Twin -/
def c125 : SCode :=
  .seq (.reg
       [⟨some 1, none, .box 24 (.t 0)⟩,
        ⟨some 2, none, .alloc 24 [.v (.int .i64 0), .v (.int .i64 0), .cap 3 40 []]⟩])
  (.seq (.reg
       [⟨some 3, none, .fad 24 2 2 (.t 1)⟩,
        ⟨some 4, none, .ld1 22 (.t 3)⟩,
        ⟨some 5, none, .call (.f 131) [.t 4]⟩,
        ⟨some 6, none, .fad 24 2 2 (.t 1)⟩,
        ⟨none, none, .st1 22 (.t 6) (.t 5)⟩])
  (.seq (.reg
       [⟨some 7, none, .ldn 24 3 (.t 1)⟩,
        ⟨none, none, .stn 24 3 (.t 2) (.t 7)⟩])
  (.ret)))
def r125 : List RR := [.cn 2 3]
theorem ok125 : okFn Go.Proofs.Try.prog 125 8 c125 r125 1 = true := by kernel_rfl

/- porism/term.Twins -/
def c131b0 : SCode :=
  .seq (.reg
       [⟨some 14, none, .bin .lss (.t 13) (.t 12)⟩])
  (.seq (.cond (.t 14)
      (.skip)
      (.exit 0))
  (.seq (.block 1 (.seq (.reg
           [⟨some 15, none, .mv (.t 13)⟩,
            ⟨some 4, none, .mv (.t 15)⟩])
      (.reg
         [⟨some 16, none, .mv (.t 3)⟩,
          ⟨some 17, none, .mv (.t 4)⟩,
          ⟨some 18, none, .mv (.t 0)⟩,
          ⟨some 19, none, .mv (.t 4)⟩,
          ⟨some 20, none, .iad 24 3 (.t 18) (.t 19)⟩,
          ⟨some 21, none, .ldn 24 3 (.t 20)⟩,
          ⟨some 22, none, .call (.f 125) [.t 21]⟩,
          ⟨some 23, none, .iad 24 3 (.t 16) (.t 17)⟩,
          ⟨none, none, .stn 24 3 (.t 23) (.t 22)⟩])))
  (.reg
     [⟨some 24, none, .bin .add (.t 13) (.k (.int .i64 1))⟩,
      ⟨some 13, none, .mv (.t 24)⟩])))
def c131 : SCode :=
  .seq (.reg
       [⟨some 2, none, .mv (.nil 3 40)⟩])
  (.seq (.seq (.reg
         [⟨some 5, none, .mv (.t 0)⟩,
          ⟨some 6, none, .len 22 (.t 5)⟩,
          ⟨some 7, none, .bin .eql (.t 6) (.k (.int .i64 0))⟩])
    (.cond (.t 7)
      (.seq (.reg
           [⟨some 2, none, .mv (.nil 3 40)⟩])
      (.ret))
      (.skip)))
  (.seq (.reg
       [⟨some 8, none, .mv (.t 0)⟩,
        ⟨some 9, none, .len 22 (.t 8)⟩,
        ⟨some 10, none, .mk 24 3 40 [.v (.int .i64 0), .v (.int .i64 0), .cap 3 40 []] (.t 9)⟩,
        ⟨some 3, none, .mv (.t 10)⟩])
  (.seq (.seq (.reg
         [⟨some 11, none, .mv (.t 0)⟩,
          ⟨some 12, none, .len 22 (.t 11)⟩,
          ⟨some 13, none, .mv (.k (.int .i64 0))⟩])
    (.block 0 (.loop c131b0)))
  (.seq (.frz 131010)
  (.seq (.reg
       [⟨some 25, none, .mv (.t 3)⟩,
        ⟨some 2, none, .mv (.t 25)⟩])
  (.ret))))))
def r131 : List RR := [.t 2]
theorem ok131 : okFn Go.Proofs.Try.prog 131 26 c131 r131 1 = true := by kernel_rfl

/- porism/tele.nest -/
def c120r0 : SCode :=
  .reg
     [⟨some 3, none, .box 3 (.t 0)⟩,
      ⟨some 5, none, .box 24 (.t 2)⟩,
      ⟨some 6, none, .alloc 24 [.v (.int .i64 0), .v (.int .i64 0), .cap 3 40 []]⟩]
def c120r1 : SCode :=
  .reg
     [⟨some 10, none, .ldn 24 3 (.t 5)⟩,
      ⟨some 11, none, .call (.f 125) [.t 10]⟩,
      ⟨some 7, none, .alloc 24 [.v (.int .i64 0), .v (.int .i64 0), .cap 3 40 []]⟩,
      ⟨none, none, .stn 24 3 (.t 7) (.t 11)⟩]
def c120r2 : SCode :=
  .reg
     [⟨some 12, none, .mv (.t 1)⟩,
      ⟨some 13, none, .call (.f 127) [.t 12]⟩]
def c120as : SCode :=
  .reg
     [⟨some 9, none, .alloc 24 [.v (.int .i64 0), .v (.int .i64 0), .cap 3 40 []]⟩,
      ⟨none, none, .stn 24 3 (.t 9) (.t 15)⟩]
def c120bo : SCode :=
  .block 1 (.dreg [0, 0, 2, 0, 14, 31, 63]
       [⟨some 16, none, .ld1 3 (.t 3)⟩,
        ⟨some 17, none, .ldn 24 3 (.t 9)⟩,
        ⟨some 18, none, .call (.f 125) [.t 17]⟩,
        ⟨some 19, none, .ldn 24 3 (.t 7)⟩,
        ⟨some 20, none, .lit 24 3 40 [.t 18, .t 19]⟩,
        ⟨some 21, none, .call (.f 74) [.t 16, .t 20]⟩,
        ⟨none, none, .stn 24 3 (.t 7) (.t 21)⟩])
def c120y : SCode :=
  .seq (.reg
       [⟨some 22, none, .ldn 24 3 (.t 7)⟩,
        ⟨none, none, .stn 24 3 (.t 6) (.t 22)⟩])
  (.ret)
def r120 : List RR := [.cn 6 3]
theorem ok120 : okBack Go.Proofs.Try.prog 120 23 c120r0 c120r1 c120r2 13 14 15 c120as c120bo c120y r120 3 = true := by kernel_rfl

end Go.Abs

namespace Go.Abs
open Go.Proofs

theorem fn131 {ts : List T} (h125 : ∀ t, t ∈ ts → Fn Try.prog 125 [tm t] (tm t)) : Fn Try.prog 131 [tms ts] (tms ts) := by
  refine fn_of (base := 131000) ok131 rfl fun σ h0 hr => ?_
  have s0 := h0 0
  have hlen := real_tms (hr (tms ts) (by simp))
  rw [slots0] at s0
  simp only [tms] at s0
  clear h0 hr
  unfold c131
  by_cases hts : ts = []
  · subst hts
    simp [s0, r131, tms]
  · have hl : ¬ (ts.length = 0) := fun h => hts (List.length_eq_zero_iff.1 h)
    simp [s0, hl, room, hts]
    refine ⟨by omega, ?_⟩
    refine W_loop (fun m σ => ∃ i : Nat, i + m = ts.length ∧ σ.sl 0 = tms ts ∧ σ.sl 3 = .c (.own 131010 (σ.tg 131010)) ∧ σ.ob 131010 = some (.mrow 24 3 40 ((ts.map T.cells).take i ++ List.replicate (ts.length - i) [.v (.int .i64 0), .v (.int .i64 0), .sl 3 40 []])) ∧ σ.sl 12 = ib ts.length ∧ σ.sl 13 = ib i) ts.length ?_ ?_
    · exact ⟨0, by simp [tms, ib, s0]⟩
    · rintro m σ ⟨i, hm, q0, q3, o3, q12, q13⟩
      unfold c131b0
      simp only [tms, ib] at q0 q12 q13
      by_cases hi : i < ts.length
      · obtain ⟨t, ht⟩ := at_of hi
        obtain ⟨_, ht'⟩ := getE ht
        have w1 := wrap_succ (i := i) (by omega)
        simp [q0, q3, o3, q12, q13, hi, ht']
        refine ECall.fn (h125 t (List.mem_of_getElem? ht)) (by simp [tm]) (by simp) (by simp [tm]) fun _ => ?_
        have hmin : min i ts.length = i := by omega
        have hlt : (i : Int) < (i : Int) + ((ts.length - i : Nat) : Int) := by omega
        have hz : (List.take i (List.map T.cells ts) ++ List.replicate (ts.length - i) [Cell.v (Value.int .i64 0), Cell.v (Value.int .i64 0), Cell.sl 3 40 []])[i]? = some [Cell.v (Value.int .i64 0), Cell.v (Value.int .i64 0), Cell.sl 3 40 []] := by
          have h2 : (List.take i (List.map T.cells ts)).length = i := by simp [hmin]
          have h1 : i - (List.take i (List.map T.cells ts)).length < ts.length - i := by omega
          rw [List.getElem?_append_right (by omega), List.getElem?_replicate, if_pos h1]
        have hset : ∀ c : List Cell, (List.take i (List.map T.cells ts) ++ List.replicate (ts.length - i) [Cell.v (Value.int .i64 0), Cell.v (Value.int .i64 0), Cell.sl 3 40 []]).set i c = List.take i (List.map T.cells ts) ++ c :: List.replicate (ts.length - (i + 1)) [Cell.v (Value.int .i64 0), Cell.v (Value.int .i64 0), Cell.sl 3 40 []] := fun c => by
          have e1 : ts.length - i = (ts.length - (i + 1)) + 1 := by omega
          rw [e1, List.replicate_succ, List.set_append, if_neg (by simp [hmin])]
          simp [hmin]
        have hrep : ∀ (z c : List Cell), (List.replicate (ts.length - i) z).set 0 c = c :: List.replicate (ts.length - (i + 1)) z := fun z c => by
          have e1 : ts.length - i = (ts.length - (i + 1)) + 1 := by omega
          rw [e1, List.replicate_succ]; rfl
        have hD : ∀ (u : T), (∀ x, x ∈ u.cells → x.isD = true) = True := fun u => eq_true fun x hx => cells_isD' u x hx
        have htk : (ts.map T.cells).take (i + 1) = (ts.map T.cells).take i ++ [t.cells] := by rw [List.take_add_one, List.getElem?_map, ht]; rfl
        simp [q3, o3, q13, tm, hi, hlt, hmin, hz, hD]
        refine ⟨m - 1, by omega, i + 1, by omega, ?_⟩
        simp [q0, q3, o3, q12, w1, tms, ib, hset, htk, hrep]
      · have e1 : (ts.map T.cells).take i = ts.map T.cells := List.take_of_length_le (by simp; omega)
        have e2 : ts.length - i = 0 := by omega
        simp [q0, q3, o3, q12, q13, hi, e1, e2, r131, tms]
theorem fn125 (t : T) : Fn Try.prog 125 [tm t] (tm t) := by
  induction t using T.ind with
  | h k n ts ih =>
  have h131 := fn131 ih
  refine fn_of (base := 125000) ok125 rfl fun σ h0 hr => ?_
  have s0 := h0 0
  rw [slots0] at s0
  simp only [tm, cells_mk] at s0
  clear h0 hr
  unfold c125
  simp [s0]
  refine ECall.fn h131 (by simp [tms]) (by simp) (by simp [tms]) fun _ => ?_
  simp [tms, r125, tm, cells_mk]
theorem fn131' (ts : List T) : Fn Try.prog 131 [tms ts] (tms ts) := fn131 fun t _ => fn125 t
theorem fn127 (ts : List T) : Fn Try.prog 127 [tms ts] (.c (.bk 132 3 40 (ts.map T.cells))) := by
  refine fn_bk (base := 127000) ok127 rfl fun tg => ?_
  unfold c127
  simp [slotsOf, tms]
theorem it132 : BackIter Try.prog 132 3 40 := iter_of (n := 19) (ty := 22) (ety := 24) (by kernel_rfl)
end Go.Abs

namespace Go.Abs

/- porism/term.Node -/
def c74 : SCode :=
  .seq (.reg
       [⟨some 4, none, .alloc 24 [.v (.int .i64 0), .v (.int .i64 0), .cap 3 40 []]⟩])
  (.seq (.reg
       [⟨some 5, none, .mv (.t 0)⟩,
        ⟨some 6, none, .mv (.t 1)⟩,
        ⟨some 7, none, .build 24 [.v (.int .i64 0), .v (.int .i64 0), .cap 3 40 []] [(0, 0, 1, .t 5), (2, 2, 1, .t 6)]⟩,
        ⟨none, none, .stn 24 3 (.t 4) (.t 7)⟩])
  (.ret))
def r74 : List RR := [.cn 4 3]
theorem ok74 : okFn Go.Proofs.Try.prog 74 8 c74 r74 2 = true := by kernel_rfl

/- porism/term.C -/
def c73 : SCode :=
  .seq (.reg
       [⟨some 2, none, .alloc 24 [.v (.int .i64 0), .v (.int .i64 0), .cap 3 40 []]⟩])
  (.seq (.reg
       [⟨some 3, none, .mv (.t 0)⟩,
        ⟨some 4, none, .build 24 [.v (.int .i64 0), .v (.int .i64 0), .cap 3 40 []] [(0, 0, 1, .k (.int .i64 3)), (1, 1, 1, .t 3)]⟩,
        ⟨none, none, .stn 24 3 (.t 2) (.t 4)⟩])
  (.ret))
def r73 : List RR := [.cn 2 3]
theorem ok73 : okFn Go.Proofs.Try.prog 73 5 c73 r73 1 = true := by kernel_rfl

/- porism/term.U -/
def c80 : SCode :=
  .seq (.reg
       [⟨some 2, none, .alloc 24 [.v (.int .i64 0), .v (.int .i64 0), .cap 3 40 []]⟩])
  (.seq (.reg
       [⟨some 3, none, .mv (.t 0)⟩,
        ⟨some 4, none, .build 24 [.v (.int .i64 0), .v (.int .i64 0), .cap 3 40 []] [(0, 0, 1, .k (.int .i64 2)), (1, 1, 1, .t 3)]⟩,
        ⟨none, none, .stn 24 3 (.t 2) (.t 4)⟩])
  (.ret))
def r80 : List RR := [.cn 2 3]
theorem ok80 : okFn Go.Proofs.Try.prog 80 5 c80 r80 1 = true := by kernel_rfl

/- porism/lib.app -/
def c75 : SCode :=
  .seq (.reg
       [⟨some 2, none, .box 24 (.t 0)⟩,
        ⟨some 4, none, .alloc 24 [.v (.int .i64 0), .v (.int .i64 0), .cap 3 40 []]⟩])
  (.seq (.reg
       [⟨some 5, none, .ldn 24 3 (.t 2)⟩,
        ⟨some 6, none, .mv (.t 1)⟩,
        ⟨some 7, none, .call (.f 117) [.t 5, .t 6]⟩,
        ⟨none, none, .stn 24 3 (.t 4) (.t 7)⟩])
  (.ret))
def r75 : List RR := [.cn 4 3]
theorem ok75 : okFn Go.Proofs.Try.prog 75 8 c75 r75 2 = true := by kernel_rfl

/- porism/lib.rec -/
def c77 : SCode :=
  .seq (.reg
       [⟨some 4, none, .alloc 77 [.v (.bool false), .v (.int .i64 0), .v (.int .i64 0), .cap 3 40 [], .cap 3 40 [], .v (.int .i64 0), .cap 3 40 []]⟩])
  (.seq (.reg
       [⟨some 5, none, .mv (.t 0)⟩,
        ⟨some 6, none, .mv (.t 1)⟩,
        ⟨some 7, none, .build 77 [.v (.bool false), .v (.int .i64 0), .v (.int .i64 0), .cap 3 40 [], .cap 3 40 [], .v (.int .i64 0), .cap 3 40 []] [(0, 0, 1, .k (.bool true)), (3, 5, 1, .t 5), (4, 6, 1, .t 6)]⟩,
        ⟨none, none, .stn 77 7 (.t 4) (.t 7)⟩])
  (.ret))
def r77 : List RR := [.cn 4 7]
theorem ok77 : okFn Go.Proofs.Try.prog 77 8 c77 r77 2 = true := by kernel_rfl

/- porism/lib.fun -/
def c78 : SCode :=
  .seq (.reg
       [⟨some 1, none, .box 24 (.t 0)⟩,
        ⟨some 2, none, .alloc 77 [.v (.bool false), .v (.int .i64 0), .v (.int .i64 0), .cap 3 40 [], .cap 3 40 [], .v (.int .i64 0), .cap 3 40 []]⟩])
  (.seq (.reg
       [⟨some 3, none, .ldn 24 3 (.t 1)⟩,
        ⟨some 4, none, .lit 24 3 40 [.t 3]⟩,
        ⟨some 5, none, .build 77 [.v (.bool false), .v (.int .i64 0), .v (.int .i64 0), .cap 3 40 [], .cap 3 40 [], .v (.int .i64 0), .cap 3 40 []] [(0, 0, 1, .k (.bool true)), (2, 4, 1, .t 4)]⟩,
        ⟨none, none, .stn 77 7 (.t 2) (.t 5)⟩])
  (.ret))
def r78 : List RR := [.cn 2 7]
theorem ok78 : okFn Go.Proofs.Try.prog 78 6 c78 r78 1 = true := by kernel_rfl

/- porism/lib.decl -/
def c79 : SCode :=
  .seq (.reg
       [⟨some 4, none, .alloc 46 [.v (.int .i64 0), .v (.int .i64 0), .v (.int .i64 0), .cap 3 40 [], .v (.int .i64 0), .v (.int .i64 0), .cap 3 40 [], .cap 6 80 [], .cap 6 96 [], .v (.int .i64 0)]⟩])
  (.seq (.reg
       [⟨some 5, none, .mv (.t 0)⟩,
        ⟨some 6, none, .mv (.t 1)⟩,
        ⟨some 7, none, .build 44 [.cap 6 80 [], .cap 6 96 [], .v (.int .i64 0)] [(0, 0, 1, .t 5), (1, 1, 1, .t 6)]⟩,
        ⟨some 8, none, .build 46 [.v (.int .i64 0), .v (.int .i64 0), .v (.int .i64 0), .cap 3 40 [], .v (.int .i64 0), .v (.int .i64 0), .cap 3 40 [], .cap 6 80 [], .cap 6 96 [], .v (.int .i64 0)] [(0, 0, 1, .k (.int .i64 3)), (3, 7, 3, .t 7)]⟩,
        ⟨none, none, .stn 46 10 (.t 4) (.t 8)⟩])
  (.ret))
def r79 : List RR := [.cn 4 10]
theorem ok79 : okFn Go.Proofs.Try.prog 79 9 c79 r79 2 = true := by kernel_rfl

/- porism/lib.base -/
def c87 : SCode :=
  .seq (.reg
       [⟨some 2, none, .mv (.k (.int .i64 0))⟩])
  (.seq (.seq (.reg
         [⟨some 3, none, .mv (.t 0)⟩,
          ⟨some 4, none, .call (.f 70) [.t 3]⟩])
    (.cond (.t 4)
      (.seq (.reg
           [⟨some 5, none, .mv (.t 0)⟩,
            ⟨some 2, none, .mv (.t 5)⟩])
      (.ret))
      (.skip)))
  (.seq (.reg
       [⟨some 2, none, .mv (.k (.int .i64 0))⟩])
  (.ret)))
def r87 : List RR := [.t 2]
theorem ok87 : okFn Go.Proofs.Try.prog 87 6 c87 r87 1 = true := by kernel_rfl

/- porism/lib.of -/
def c88 : SCode :=
  .seq (.reg
       [⟨some 1, none, .box 24 (.t 0)⟩,
        ⟨some 2, none, .alloc 77 [.v (.bool false), .v (.int .i64 0), .v (.int .i64 0), .cap 3 40 [], .cap 3 40 [], .v (.int .i64 0), .cap 3 40 []]⟩])
  (.seq (.reg
       [⟨some 3, none, .ldn 24 3 (.t 1)⟩,
        ⟨some 4, none, .build 77 [.v (.bool false), .v (.int .i64 0), .v (.int .i64 0), .cap 3 40 [], .cap 3 40 [], .v (.int .i64 0), .cap 3 40 []] [(1, 1, 3, .t 3)]⟩,
        ⟨none, none, .stn 77 7 (.t 2) (.t 4)⟩])
  (.ret))
def r88 : List RR := [.cn 2 7]
theorem ok88 : okFn Go.Proofs.Try.prog 88 5 c88 r88 1 = true := by kernel_rfl

/- porism/lib.may -/
def c70 : SCode :=
  .seq (.reg
       [⟨some 2, none, .mv (.k (.bool false))⟩])
  (.seq (.reg
       [⟨some 3, none, .mv (.t 0)⟩,
        ⟨some 4, none, .bin .geq (.t 3) (.k (.int .i64 0))⟩,
        ⟨some 5, none, .mv (.t 4)⟩,
        ⟨some 6, some (5, true), .mv (.t 0)⟩,
        ⟨some 7, some (5, true), .bin .leq (.t 6) (.k (.int .i64 65000))⟩,
        ⟨some 8, none, .pick (.t 5) (.t 7) (.k (.bool false))⟩,
        ⟨some 2, none, .mv (.t 8)⟩])
  (.ret))
def r70 : List RR := [.t 2]
theorem ok70 : okFn Go.Proofs.Try.prog 70 9 c70 r70 1 = true := by kernel_rfl

/- porism/lib.Tarski$1 -/
def c72 : SCode :=
  .seq (.reg
       [⟨some 2, none, .mv (.k (.bool false))⟩])
  (.seq (.reg
       [⟨some 3, none, .mv (.t 0)⟩,
        ⟨some 4, none, .call (.f 70) [.t 3]⟩,
        ⟨some 5, none, .not (.t 4)⟩,
        ⟨some 2, none, .mv (.t 5)⟩])
  (.ret))
def r72 : List RR := [.t 2]
theorem ok72 : okFn Go.Proofs.Try.prog 72 6 c72 r72 1 = true := by kernel_rfl

/- slices.ContainsFunc[[]int,int] -/
def c71 : SCode :=
  .seq (.reg
       [⟨some 4, none, .mv (.k (.bool false))⟩])
  (.seq (.reg
       [⟨some 5, none, .mv (.t 0)⟩,
        ⟨some 6, none, .mv (.t 1)⟩,
        ⟨some 7, none, .call (.f 116) [.t 5, .t 6]⟩,
        ⟨some 8, none, .bin .geq (.t 7) (.k (.int .i64 0))⟩,
        ⟨some 4, none, .mv (.t 8)⟩])
  (.ret))
def r71 : List RR := [.t 4]
theorem ok71 : okFn Go.Proofs.Try.prog 71 9 c71 r71 2 = true := by kernel_rfl

end Go.Abs

namespace Go.Abs

/- porism/lib.Add$1 -/
def c91 : SCode :=
  .seq (.reg
       [⟨some 1, none, .alloc 24 [.v (.int .i64 0), .v (.int .i64 0), .cap 3 40 []]⟩])
  (.seq (.reg
       [⟨some 2, none, .ld1 3 (.t 0)⟩,
        ⟨some 3, none, .call (.f 73) [.t 2]⟩,
        ⟨none, none, .stn 24 3 (.t 1) (.t 3)⟩])
  (.ret))
def r91 : List RR := [.cn 1 3]
theorem ok91 : okFn Go.Proofs.Try.prog 91 4 c91 r91 1 = true := by kernel_rfl

/- porism/lib.Add$2 -/
def c92 : SCode :=
  .seq (.reg
       [⟨some 2, none, .box 24 (.t 0)⟩,
        ⟨some 3, none, .alloc 24 [.v (.int .i64 0), .v (.int .i64 0), .cap 3 40 []]⟩])
  (.seq (.dreg [0, 1, 0, 7, 15, 31]
       [⟨some 4, none, .ld1 87 (.t 1)⟩,
        ⟨some 5, none, .call (.t 4) []⟩,
        ⟨some 6, none, .ldn 24 3 (.t 2)⟩,
        ⟨some 7, none, .lit 24 3 40 [.t 5, .t 6]⟩,
        ⟨some 8, none, .call (.f 74) [.k (.int .i64 5), .t 7]⟩,
        ⟨none, none, .stn 24 3 (.t 3) (.t 8)⟩])
  (.ret))
def r92 : List RR := [.cn 3 3]
theorem ok92 : okFn Go.Proofs.Try.prog 92 9 c92 r92 2 = true := by kernel_rfl

/- porism/tele.Pis -/
def c93 : SCode :=
  .seq (.reg
       [⟨some 3, none, .box 24 (.t 1)⟩,
        ⟨some 4, none, .alloc 24 [.v (.int .i64 0), .v (.int .i64 0), .cap 3 40 []]⟩])
  (.seq (.reg
       [⟨some 5, none, .mv (.t 0)⟩,
        ⟨some 6, none, .ldn 24 3 (.t 3)⟩,
        ⟨some 7, none, .call (.f 120) [.k (.int .i64 4), .t 5, .t 6]⟩,
        ⟨none, none, .stn 24 3 (.t 4) (.t 7)⟩])
  (.ret))
def r93 : List RR := [.cn 4 3]
theorem ok93 : okFn Go.Proofs.Try.prog 93 8 c93 r93 2 = true := by kernel_rfl

/- porism/porismref20.two -/
def c94 : SCode :=
  .seq (.reg
       [⟨some 4, none, .box 24 (.t 1)⟩,
        ⟨some 5, none, .box 24 (.t 2)⟩,
        ⟨some 6, none, .alloc 24 [.v (.int .i64 0), .v (.int .i64 0), .cap 3 40 []]⟩])
  (.seq (.dreg [0, 0, 2, 0, 14, 30, 63, 127]
       [⟨some 7, none, .mv (.t 0)⟩,
        ⟨some 8, none, .ldn 24 3 (.t 4)⟩,
        ⟨some 9, none, .call (.f 19) [.t 8]⟩,
        ⟨some 10, none, .ldn 24 3 (.t 5)⟩,
        ⟨some 11, none, .call (.f 19) [.t 10]⟩,
        ⟨some 12, none, .lit 24 3 40 [.t 9, .t 11]⟩,
        ⟨some 13, none, .call (.f 25) [.t 7, .t 12]⟩,
        ⟨none, none, .stn 24 3 (.t 6) (.t 13)⟩])
  (.ret))
def r94 : List RR := [.cn 6 3]
theorem ok94 : okFn Go.Proofs.Try.prog 94 14 c94 r94 3 = true := by kernel_rfl

/- porism/porismref01.Spine -/
def c95b0 : SCode :=
  .seq (.seq (.reg
         [⟨some 9, none, .mv (.t 6)⟩,
          ⟨some 10, none, .mv (.t 1)⟩,
          ⟨some 11, none, .len 22 (.t 10)⟩,
          ⟨some 12, none, .bin .lss (.t 9) (.t 11)⟩])
    (.cond (.t 12)
      (.skip)
      (.exit 0)))
  (.seq (.block 1 (.dreg [0, 0, 0, 6, 14, 30, 63, 127, 255]
         [⟨some 15, none, .ldn 24 3 (.t 5)⟩,
          ⟨some 16, none, .mv (.t 1)⟩,
          ⟨some 17, none, .mv (.t 6)⟩,
          ⟨some 18, none, .iad 24 3 (.t 16) (.t 17)⟩,
          ⟨some 19, none, .ldn 24 3 (.t 18)⟩,
          ⟨some 20, none, .call (.f 19) [.t 19]⟩,
          ⟨some 21, none, .lit 24 3 40 [.t 15, .t 20]⟩,
          ⟨some 22, none, .call (.f 25) [.k (.int .i64 6), .t 21]⟩,
          ⟨none, none, .stn 24 3 (.t 5) (.t 22)⟩]))
  (.reg
     [⟨some 13, none, .mv (.t 6)⟩,
      ⟨some 14, none, .bin .add (.t 13) (.k (.int .i64 1))⟩,
      ⟨some 6, none, .mv (.t 14)⟩]))
def c95 : SCode :=
  .seq (.reg
       [⟨some 2, none, .box 24 (.t 0)⟩,
        ⟨some 4, none, .alloc 24 [.v (.int .i64 0), .v (.int .i64 0), .cap 3 40 []]⟩])
  (.seq (.reg
       [⟨some 7, none, .ldn 24 3 (.t 2)⟩,
        ⟨some 8, none, .call (.f 19) [.t 7]⟩,
        ⟨some 5, none, .alloc 24 [.v (.int .i64 0), .v (.int .i64 0), .cap 3 40 []]⟩,
        ⟨none, none, .stn 24 3 (.t 5) (.t 8)⟩])
  (.seq (.seq (.reg
         [⟨some 6, none, .mv (.k (.int .i64 0))⟩])
    (.block 0 (.loop c95b0)))
  (.seq (.reg
       [⟨some 23, none, .ldn 24 3 (.t 5)⟩,
        ⟨none, none, .stn 24 3 (.t 4) (.t 23)⟩])
  (.ret))))
def r95 : List RR := [.cn 4 3]
theorem ok95 : okFn Go.Proofs.Try.prog 95 24 c95 r95 2 = true := by kernel_rfl

/- porism/porismref01.C -/
def c82 : SCode :=
  .seq (.reg
       [⟨some 2, none, .alloc 24 [.v (.int .i64 0), .v (.int .i64 0), .cap 3 40 []]⟩])
  (.seq (.reg
       [⟨some 3, none, .mv (.t 0)⟩,
        ⟨some 4, none, .build 24 [.v (.int .i64 0), .v (.int .i64 0), .cap 3 40 []] [(0, 0, 1, .k (.int .i64 3)), (1, 1, 1, .t 3)]⟩,
        ⟨none, none, .stn 24 3 (.t 2) (.t 4)⟩])
  (.ret))
def r82 : List RR := [.cn 2 3]
theorem ok82 : okFn Go.Proofs.Try.prog 82 5 c82 r82 1 = true := by kernel_rfl

/- porism/porismref20.app -/
def c84 : SCode :=
  .seq (.reg
       [⟨some 2, none, .box 24 (.t 0)⟩,
        ⟨some 3, none, .box 24 (.t 1)⟩,
        ⟨some 4, none, .alloc 24 [.v (.int .i64 0), .v (.int .i64 0), .cap 3 40 []]⟩])
  (.seq (.reg
       [⟨some 5, none, .ldn 24 3 (.t 2)⟩,
        ⟨some 6, none, .ldn 24 3 (.t 3)⟩,
        ⟨some 7, none, .lit 24 3 40 [.t 5, .t 6]⟩,
        ⟨some 8, none, .call (.f 25) [.k (.int .i64 6), .t 7]⟩,
        ⟨none, none, .stn 24 3 (.t 4) (.t 8)⟩])
  (.ret))
def r84 : List RR := [.cn 4 3]
theorem ok84 : okFn Go.Proofs.Try.prog 84 9 c84 r84 2 = true := by kernel_rfl

/- porism/porismref20.in -/
def c81 : SCode :=
  .seq (.reg
       [⟨some 6, none, .mv (.k (.bool false))⟩])
  (.seq (.reg
       [⟨some 7, none, .mv (.t 0)⟩,
        ⟨some 8, none, .mv (.t 1)⟩,
        ⟨some 9, none, .bin .geq (.t 7) (.t 8)⟩,
        ⟨some 10, none, .mv (.t 9)⟩,
        ⟨some 11, some (10, true), .mv (.t 0)⟩,
        ⟨some 12, some (10, true), .mv (.t 2)⟩,
        ⟨some 13, some (10, true), .bin .leq (.t 11) (.t 12)⟩,
        ⟨some 14, none, .pick (.t 10) (.t 13) (.k (.bool false))⟩,
        ⟨some 6, none, .mv (.t 14)⟩])
  (.ret))
def r81 : List RR := [.t 6]
theorem ok81 : okFn Go.Proofs.Try.prog 81 15 c81 r81 3 = true := by kernel_rfl

/- porism/porismref20.rec -/
def c83 : SCode :=
  .seq (.reg
       [⟨some 4, none, .alloc 77 [.v (.bool false), .v (.int .i64 0), .v (.int .i64 0), .cap 3 40 [], .cap 3 40 [], .v (.int .i64 0), .cap 3 40 []]⟩])
  (.seq (.reg
       [⟨some 5, none, .mv (.nil 3 40)⟩])
  (.seq (.reg
       [⟨some 6, none, .mv (.t 0)⟩,
        ⟨some 7, none, .mv (.t 5)⟩,
        ⟨some 8, none, .mv (.t 1)⟩,
        ⟨some 9, none, .app 24 3 40 (.t 7) (.t 8)⟩,
        ⟨some 10, none, .build 77 [.v (.bool false), .v (.int .i64 0), .v (.int .i64 0), .cap 3 40 [], .cap 3 40 [], .v (.int .i64 0), .cap 3 40 []] [(0, 0, 1, .k (.bool true)), (3, 5, 1, .t 6), (4, 6, 1, .t 9)]⟩,
        ⟨none, none, .stn 77 7 (.t 4) (.t 10)⟩])
  (.ret)))
def r83 : List RR := [.cn 4 7]
theorem ok83 : okFn Go.Proofs.Try.prog 83 11 c83 r83 2 = true := by kernel_rfl

/- porism/porismref20.small -/
def c89 : SCode :=
  .seq (.reg
       [⟨some 2, none, .mv (.k (.int .i64 0))⟩])
  (.seq (.seq (.reg
         [⟨some 3, none, .mv (.t 0)⟩,
          ⟨some 4, none, .call (.f 81) [.t 3, .k (.int .i64 0), .k (.int .i64 65000)]⟩])
    (.cond (.t 4)
      (.seq (.reg
           [⟨some 5, none, .mv (.t 0)⟩,
            ⟨some 2, none, .mv (.t 5)⟩])
      (.ret))
      (.skip)))
  (.seq (.reg
       [⟨some 2, none, .mv (.k (.int .i64 0))⟩])
  (.ret)))
def r89 : List RR := [.t 2]
theorem ok89 : okFn Go.Proofs.Try.prog 89 6 c89 r89 1 = true := by kernel_rfl

/- porism/porismref20.ext -/
def c90 : SCode :=
  .seq (.reg
       [⟨some 1, none, .box 24 (.t 0)⟩,
        ⟨some 2, none, .alloc 77 [.v (.bool false), .v (.int .i64 0), .v (.int .i64 0), .cap 3 40 [], .cap 3 40 [], .v (.int .i64 0), .cap 3 40 []]⟩])
  (.seq (.reg
       [⟨some 3, none, .ldn 24 3 (.t 1)⟩,
        ⟨some 4, none, .build 77 [.v (.bool false), .v (.int .i64 0), .v (.int .i64 0), .cap 3 40 [], .cap 3 40 [], .v (.int .i64 0), .cap 3 40 []] [(1, 1, 3, .t 3)]⟩,
        ⟨none, none, .stn 77 7 (.t 2) (.t 4)⟩])
  (.ret))
def r90 : List RR := [.cn 2 7]
theorem ok90 : okFn Go.Proofs.Try.prog 90 5 c90 r90 1 = true := by kernel_rfl

/- porism/porismref20.decl -/
def c85 : SCode :=
  .seq (.reg
       [⟨some 1, none, .box 44 (.t 0)⟩,
        ⟨some 2, none, .alloc 46 [.v (.int .i64 0), .v (.int .i64 0), .v (.int .i64 0), .cap 3 40 [], .v (.int .i64 0), .v (.int .i64 0), .cap 3 40 [], .cap 6 80 [], .cap 6 96 [], .v (.int .i64 0)]⟩])
  (.seq (.reg
       [⟨some 3, none, .ldn 44 3 (.t 1)⟩,
        ⟨some 4, none, .build 46 [.v (.int .i64 0), .v (.int .i64 0), .v (.int .i64 0), .cap 3 40 [], .v (.int .i64 0), .v (.int .i64 0), .cap 3 40 [], .cap 6 80 [], .cap 6 96 [], .v (.int .i64 0)] [(0, 0, 1, .k (.int .i64 3)), (3, 7, 3, .t 3)]⟩,
        ⟨none, none, .stn 46 10 (.t 2) (.t 4)⟩])
  (.ret))
def r85 : List RR := [.cn 2 10]
theorem ok85 : okFn Go.Proofs.Try.prog 85 5 c85 r85 1 = true := by kernel_rfl

end Go.Abs

namespace Go.Abs
open Go.Proofs

@[simp] theorem cellsD (t : T) : (∀ x, x ∈ t.cells → x.isD = true) = True := eq_true fun x hx => cells_isD' t x hx
@[simp] theorem cellsDrop (t : T) : List.drop 3 t.cells = [] := List.drop_eq_nil_of_le (by rw [cells_len]; exact Nat.le_refl _)
def spineT (f : T) (l : List T) : T := l.foldl (fun out a => .mk 6 0 [out, a]) f
def nestT (k : Int) (l : List T) (b : T) : T := l.foldr (fun a out => .mk k 0 [a, out]) b

theorem fn74 (k : Int) (ts : List T) : Fn Try.prog 74 [ib k, tms ts] (tm (.mk k 0 ts)) := by
  refine fn_of (base := 74000) ok74 rfl fun σ h0 hr => ?_
  have s0 := h0 0
  have s1 := h0 1
  rw [slots0] at s0
  rw [slots1] at s1
  simp only [tms, ib] at s0 s1
  unfold c74
  simp [s0, s1, r74, tm, cells_mk]
theorem fn73 (n : Int) : Fn Try.prog 73 [ib n] (tm (.mk 3 n [])) := by
  refine fn_of (base := 73000) ok73 rfl fun σ h0 hr => ?_
  have s0 := h0 0
  rw [slots0] at s0
  simp only [ib] at s0
  unfold c73
  simp [s0, r73, tm, cells_mk]
theorem fn80 (n : Int) : Fn Try.prog 80 [ib n] (tm (.mk 2 n [])) := by
  refine fn_of (base := 80000) ok80 rfl fun σ h0 hr => ?_
  have s0 := h0 0
  rw [slots0] at s0
  simp only [ib] at s0
  unfold c80
  simp [s0, r80, tm, cells_mk]
theorem fn82 (n : Int) : Fn Try.prog 82 [ib n] (tm (.mk 3 n [])) := by
  refine fn_of (base := 82000) ok82 rfl fun σ h0 hr => ?_
  have s0 := h0 0
  rw [slots0] at s0
  simp only [ib] at s0
  unfold c82
  simp [s0, r82, tm, cells_mk]

theorem fn117 (f : T) (ts : List T) : Fn Try.prog 117 [tm f, tms ts] (tm (spineT f ts)) := by
  refine fn_of (base := 117000) ok117 rfl fun σ h0 hr => ?_
  have s0 := h0 0
  have s1 := h0 1
  have hlen := real_tms (hr (tms ts) (by simp))
  rw [slots0] at s0
  rw [slots1] at s1
  simp only [tms, tm] at s0 s1
  clear h0 hr
  unfold c117
  simp [s0, s1]
  refine ECall.fn (fn125 f) (by simp [tm]) (by simp) (by simp [tm]) fun _ => ?_
  simp [tm, s1]
  refine W_loop (fun m σ => ∃ (i : Nat) (o : T), i + m = ts.length ∧ spineT o (ts.drop i) = spineT f ts ∧ σ.sl 4 = .c (.ref 117004 (σ.tg 117004) 0) ∧ σ.ob 117004 = some (.box 24 [.v (.int .i64 0), .v (.int .i64 0), .cap 3 40 []]) ∧ σ.sl 5 = .c (.ref 117005 (σ.tg 117005) 0) ∧ σ.ob 117005 = some (.box 24 o.cells) ∧ σ.sl 10 = tms ts ∧ σ.sl 11 = ib ts.length ∧ σ.sl 12 = ib i) ts.length ?_ ?_
  · exact ⟨0, f, by simp [tms, ib, s1]⟩
  · rintro m σ ⟨i, o, hm, hp, q4, o4, q5, o5, q10, q11, q12⟩
    unfold c117b0
    simp only [tms, ib] at q10 q11 q12
    by_cases hi : i < ts.length
    · obtain ⟨t, ht⟩ := at_of hi
      obtain ⟨_, ht'⟩ := getE ht
      have w1 := wrap_succ (i := i) (by omega)
      rw [drop_at ht] at hp
      simp [q4, o4, q5, o5, q10, q11, q12, hi, ht']
      refine W_dregA ?_
      simp [q4, o4, q5, o5, q10, q11, q12, hi, ht']
      refine CallA.fn (fn125 t) (by simp [tm]) (by simp) (by simp [tm]) ?_
      simp [tm, q4, o4, q5, o5, room]
      refine CallA.fn (fn74 6 [o, t]) (by simp [tms, ib]) (by simp) (by simp [tm]) ?_
      simp [tm, q4, o4, q5, o5]
      refine ⟨rfl, realC_n ?_⟩
      simp [q12]
      refine ⟨m - 1, by omega, i + 1, by omega, .mk 6 0 [o, t], ?_⟩
      refine ⟨by simpa [spineT] using hp, ?_⟩
      simp [q4, o4, q5, q10, q11, w1, tms, ib]
    · rw [List.drop_eq_nil_of_le (by omega)] at hp
      simp only [spineT, List.foldl_nil] at hp
      subst hp
      simp [q4, o4, q5, o5, q10, q11, q12, hi, r117, spineT]
theorem fn75 (f : T) (ts : List T) : Fn Try.prog 75 [tm f, tms ts] (tm (spineT f ts)) := by
  refine fn_of (base := 75000) ok75 rfl fun σ h0 hr => ?_
  have s0 := h0 0
  have s1 := h0 1
  rw [slots0] at s0
  rw [slots1] at s1
  simp only [tms, tm] at s0 s1
  clear h0 hr
  unfold c75
  simp [s0, s1]
  refine ECall.fn (fn117 f ts) (by simp [tm, tms]) (by simp) (by simp [tm]) fun _ => ?_
  simp [tm, r75]

theorem nest_drop {k : Int} {l : List T} {b : T} {i : Nat} {t : T} (hi : i < l.length) (ht : l[l.length - 1 - i]? = some t) : nestT k (l.drop (l.length - (i + 1))) b = .mk k 0 [t, nestT k (l.drop (l.length - i)) b] := by
  have e : l.length - (i + 1) = l.length - 1 - i := by omega
  rw [e, drop_at ht]
  have e2 : l.length - 1 - i + 1 = l.length - i := by omega
  rw [e2]
  rfl
theorem fn120 (k : Int) (ts : List T) (b : T) : Fn Try.prog 120 [ib k, tms ts, tm b] (tm (nestT k ts b)) := by
  refine fn_back (base := 120000) ok120 rfl fun tg hr => ?_
  have hlen := real_tms (hr (tms ts) (by simp))
  clear hr
  generalize hσ : (⟨slotsOf [ib k, tms ts, tm b], fun _ => none, tg⟩ : St) = σ
  have s0 : σ.sl 0 = ib k := by rw [← hσ]; rfl
  have s1 : σ.sl 1 = tms ts := by rw [← hσ]; rfl
  have s2 : σ.sl 2 = tm b := by rw [← hσ]; rfl
  clear hσ
  simp only [ib, tms, tm] at s0 s1 s2
  unfold c120r0 c120r1 c120r2 c120as c120bo c120y
  simp [s0, s1, s2]
  refine ECall.fn (fn125 b) (by simp [tm]) (by simp) (by simp [tm]) fun _ => ?_
  simp [tm, s1]
  refine ECall.fn (fn127 ts) (by simp [tms]) (by simp) rfl fun _ => ?_
  simp [only]
  refine ⟨132, 3, 40, ts.map T.cells, fun i ob tg => ob 120003 = some (.box 3 [.v (.int .i64 k)]) ∧ tg 120003 = σ.tg 120003 + 1 ∧ ob 120006 = some (.box 24 [.v (.int .i64 0), .v (.int .i64 0), .cap 3 40 []]) ∧ tg 120006 = σ.tg 120006 + 1 ∧ ob 120007 = some (.box 24 (nestT k (ts.drop (ts.length - i)) b).cells) ∧ tg 120007 = σ.tg 120007 + 1, ?_, it132, ?_, ?_, ?_, ?_⟩
  · simp
  · simp; omega
  · simp [nestT, s0]
  · intro i ob tg l hi hl ⟨o3, t3, o6, t6, o7, t7⟩
    have hi' : i < ts.length := by simpa using hi
    have hl' : (ts.map T.cells)[ts.length - 1 - i]? = some l := by simpa using hl
    rw [List.getElem?_map] at hl'
    obtain ⟨t, ht, rfl⟩ := Option.map_eq_some_iff.1 hl'
    generalize hτ : (⟨upd (upd _ 14 _) 15 _, ob, tg⟩ : St) = τ
    have q3 : τ.sl 3 = .c (.ref 120003 (τ.tg 120003) 0) := by rw [← hτ]; simp [upd, t3]
    have q6 : τ.sl 6 = .c (.ref 120006 (τ.tg 120006) 0) := by rw [← hτ]; simp [upd, t6]
    have q7 : τ.sl 7 = .c (.ref 120007 (τ.tg 120007) 0) := by rw [← hτ]; simp [upd, t7]
    have q15 : τ.sl 15 = .agg t.cells := by rw [← hτ]; simp [upd]
    have eo : τ.ob = ob := by rw [← hτ]
    have et : τ.tg = tg := by rw [← hτ]
    rw [← eo] at o3 o6 o7
    rw [← et] at t3 t6 t7
    clear hτ
    simp [q3, q6, q7, q15, o3, o6, o7]
    refine W_dregA ?_
    simp [q3, q6, q7, q15, o3, o6, o7]
    refine CallA.fn (fn125 t) (by simp [tm]) (by simp) (by simp [tm]) ?_
    simp [tm, q3, q6, q7, q15, o3, o6, o7, room]
    refine CallA.fn (fn74 k [t, nestT k (ts.drop (ts.length - i)) b]) (by simp [tms, ib]) (by simp) (by simp [tm]) ?_
    simp [tm, q3, q6, q7, q15, o3, o6, o7]
    refine ⟨rfl, realC_n ?_⟩
    have hn := nest_drop (k := k) (b := b) hi' ht
    simp [only, o3, t3, o6, t6, t7, hn]
  · intro ob tg ⟨o3, t3, o6, t6, o7, t7⟩
    have hz : nestT k (ts.drop (ts.length - (ts.map T.cells).length)) b = nestT k ts b := by simp
    rw [hz] at o7
    simp [t3, t6, t7, o6, o7, r120]
theorem fn93 (ts : List T) (b : T) : Fn Try.prog 93 [tms ts, tm b] (tm (nestT 4 ts b)) := by
  refine fn_of (base := 93000) ok93 rfl fun σ h0 hr => ?_
  have s0 := h0 0
  have s1 := h0 1
  rw [slots0] at s0
  rw [slots1] at s1
  simp only [tms, tm] at s0 s1
  clear h0 hr
  unfold c93
  simp [s0, s1]
  refine ECall.fn (fn120 4 ts b) (by simp [tm, tms, ib]) (by simp) (by simp [tm]) fun _ => ?_
  simp [tm, r93]
theorem fn94 (k : Int) (a b : T) : Fn Try.prog 94 [ib k, tm a, tm b] (tm (.mk k 0 [a, b])) := by
  refine fn_of (base := 94000) ok94 rfl fun σ h0 hr => ?_
  have s0 := h0 0
  have s1 := h0 1
  have s2 : σ.sl 2 = tm b := h0 2
  rw [slots0] at s0
  rw [slots1] at s1
  simp only [ib, tm] at s0 s1 s2
  clear h0 hr
  unfold c94
  simp [s0, s1, s2]
  refine W_dregA ?_
  simp [s0, s1, s2]
  refine CallA.fn (fn19 a) (by simp [tm]) (by simp) (by simp [tm]) ?_
  simp [tm]
  refine CallA.fn (fn19 b) (by simp [tm]) (by simp) (by simp [tm]) ?_
  simp [tm, room]
  refine CallA.fn (fn25 k [a, b]) (by simp [tms, ib]) (by simp) (by simp [tm]) ?_
  simp [tm]
  refine ⟨rfl, realC_n ?_⟩
  simp [r94, cells_mk]
theorem fn84 (a b : T) : Fn Try.prog 84 [tm a, tm b] (tm (.mk 6 0 [a, b])) := by
  refine fn_of (base := 84000) ok84 rfl fun σ h0 hr => ?_
  have s0 := h0 0
  have s1 := h0 1
  rw [slots0] at s0
  rw [slots1] at s1
  simp only [tm] at s0 s1
  clear h0 hr
  unfold c84
  simp [s0, s1, room]
  refine ECall.fn (fn25 6 [a, b]) (by simp [tms, ib]) (by simp) (by simp [tm]) fun _ => ?_
  simp [tm, r84]
theorem fn95 (f : T) (ts : List T) : Fn Try.prog 95 [tm f, tms ts] (tm (spineT f ts)) := by
  refine fn_of (base := 95000) ok95 rfl fun σ h0 hr => ?_
  have s0 := h0 0
  have s1 := h0 1
  have hlen := real_tms (hr (tms ts) (by simp))
  rw [slots0] at s0
  rw [slots1] at s1
  simp only [tms, tm] at s0 s1
  clear h0 hr
  unfold c95
  simp [s0, s1]
  refine ECall.fn (fn19 f) (by simp [tm]) (by simp) (by simp [tm]) fun _ => ?_
  simp [tm, s1]
  refine W_loop (fun m σ => ∃ (i : Nat) (o : T), i + m = ts.length ∧ spineT o (ts.drop i) = spineT f ts ∧ σ.sl 1 = tms ts ∧ σ.sl 4 = .c (.ref 95004 (σ.tg 95004) 0) ∧ σ.ob 95004 = some (.box 24 [.v (.int .i64 0), .v (.int .i64 0), .cap 3 40 []]) ∧ σ.sl 5 = .c (.ref 95005 (σ.tg 95005) 0) ∧ σ.ob 95005 = some (.box 24 o.cells) ∧ σ.sl 6 = ib i) ts.length ?_ ?_
  · exact ⟨0, f, by simp [tms, ib, s1]⟩
  · rintro m σ ⟨i, o, hm, hp, q1, q4, o4, q5, o5, q6⟩
    unfold c95b0
    simp only [tms, ib] at q1 q6
    by_cases hi : i < ts.length
    · obtain ⟨t, ht⟩ := at_of hi
      obtain ⟨_, ht'⟩ := getE ht
      have w1 := wrap_succ (i := i) (by omega)
      rw [drop_at ht] at hp
      simp [q1, q4, o4, q5, o5, q6, hi, ht']
      refine W_dregA ?_
      simp [q1, q4, o4, q5, o5, q6, hi, ht']
      refine CallA.fn (fn19 t) (by simp [tm]) (by simp) (by simp [tm]) ?_
      simp [tm, q4, o4, q5, o5, room]
      refine CallA.fn (fn25 6 [o, t]) (by simp [tms, ib]) (by simp) (by simp [tm]) ?_
      simp [tm, q4, o4, q5, o5]
      refine ⟨rfl, realC_n ?_⟩
      simp [q6]
      refine ⟨m - 1, by omega, i + 1, by omega, .mk 6 0 [o, t], ?_⟩
      refine ⟨by simpa [spineT] using hp, ?_⟩
      simp [q1, q4, o4, q5, w1, tms, ib]
    · rw [List.drop_eq_nil_of_le (by omega)] at hp
      simp only [spineT, List.foldl_nil] at hp
      subst hp
      simp [q1, q4, o4, q5, o5, q6, hi, r95, spineT]
theorem fn70 (n : Int) : Fn Try.prog 70 [ib n] (bb (decide (0 ≤ n) && decide (n ≤ 65000))) := by
  refine fn_of (base := 70000) ok70 rfl fun σ h0 hr => ?_
  have s0 := h0 0
  rw [slots0] at s0
  simp only [ib] at s0
  clear h0 hr
  unfold c70
  simp [s0, r70, bb]
def baseI (n : Int) : Int := if 0 ≤ n ∧ n ≤ 65000 then n else 0
theorem fn87 (n : Int) : Fn Try.prog 87 [ib n] (ib (baseI n)) := by
  refine fn_of (base := 87000) ok87 rfl fun σ h0 hr => ?_
  have s0 := h0 0
  rw [slots0] at s0
  simp only [ib] at s0
  clear h0 hr
  unfold c87
  simp [s0]
  refine ECall.fn (fn70 n) (by simp [ib]) (by simp) rfl fun _ => ?_
  simp [bb, s0, r87, ib, baseI]
  exact ⟨fun h1 h2 h3 => by have := h3 h1; omega, fun h1 h2 h3 => by have := h1 h2; omega⟩
theorem fn81 (x a b : Int) : Fn Try.prog 81 [ib x, ib a, ib b] (bb (decide (a ≤ x) && decide (x ≤ b))) := by
  refine fn_of (base := 81000) ok81 rfl fun σ h0 hr => ?_
  have s0 := h0 0
  have s1 := h0 1
  have s2 : σ.sl 2 = ib b := h0 2
  rw [slots0] at s0
  rw [slots1] at s1
  simp only [ib] at s0 s1 s2
  clear h0 hr
  unfold c81
  simp [s0, s1, s2, r81, bb]
theorem fn89 (n : Int) : Fn Try.prog 89 [ib n] (ib (baseI n)) := by
  refine fn_of (base := 89000) ok89 rfl fun σ h0 hr => ?_
  have s0 := h0 0
  rw [slots0] at s0
  simp only [ib] at s0
  clear h0 hr
  unfold c89
  simp [s0]
  refine ECall.fn (fn81 n 0 65000) (by simp [ib]) (by simp) rfl fun _ => ?_
  simp [bb, s0, r89, ib, baseI]
  exact ⟨fun h1 h2 h3 => by have := h3 h1; omega, fun h1 h2 h3 => by have := h1 h2; omega⟩
end Go.Abs

namespace Go.Abs

/- porism/lib.Tarski -/
def w32_0 : List (List Nat) := [[], [], [], [], [], [], [], [], [], [], [], [], [], [32010], [32010]]
def f32_0 : List (List Nat) := [[32010], [32010], [32010], [32010], [32010], [32010], [32010], [32010], [32010], [32010], [32010], [32010], [32010], [], []]
def c32b0 : SCode :=
  .seq (.reg
       [⟨some 31, none, .bin .lss (.t 30) (.t 29)⟩])
  (.seq (.cond (.t 31)
      (.skip)
      (.exit 1))
  (.seq (.block 2 (.seq (.reg
           [⟨some 32, none, .iad 3 1 (.t 28) (.t 30)⟩,
            ⟨some 33, none, .ld1 3 (.t 32)⟩,
            ⟨some 9, none, .mv (.t 33)⟩])
      (.reg
         [⟨some 34, none, .mv (.t 7)⟩,
          ⟨some 35, none, .mv (.t 9)⟩,
          ⟨some 36, none, .call (.f 73) [.t 35]⟩,
          ⟨some 37, none, .build 74 [.v (.int .i64 0), .cap 7 104 [], .cap 3 40 [], .v (.int .i64 0), .v (.int .i64 0), .cap 3 40 []] [(3, 3, 3, .t 36)]⟩,
          ⟨some 38, none, .lit 74 6 96 [.t 37]⟩,
          ⟨some 39, none, .app 74 6 96 (.t 34) (.t 38)⟩,
          ⟨some 7, none, .mv (.t 39)⟩])))
  (.reg
     [⟨some 40, none, .bin .add (.t 30) (.k (.int .i64 1))⟩,
      ⟨some 30, none, .mv (.t 40)⟩])))
def c32 : SCode :=
  .seq (.reg
       [⟨some 4, none, .alloc 46 [.v (.int .i64 0), .v (.int .i64 0), .v (.int .i64 0), .cap 3 40 [], .v (.int .i64 0), .v (.int .i64 0), .cap 3 40 [], .cap 6 80 [], .cap 6 96 [], .v (.int .i64 0)]⟩,
        ⟨some 5, none, .mv (.k (.int .i64 0))⟩])
  (.seq (.block 0 (.seq (.reg
           [⟨some 12, none, .mv (.t 1)⟩,
            ⟨some 13, none, .len 38 (.t 12)⟩,
            ⟨some 14, none, .bin .gtr (.t 13) (.k (.int .i64 7))⟩,
            ⟨some 11, none, .mv (.t 14)⟩])
      (.cond (.t 11)
        (.seq (.reg
             [⟨some 15, none, .build 46 [.v (.int .i64 0), .v (.int .i64 0), .v (.int .i64 0), .cap 3 40 [], .v (.int .i64 0), .v (.int .i64 0), .cap 3 40 [], .cap 6 80 [], .cap 6 96 [], .v (.int .i64 0)] []⟩,
              ⟨none, none, .stn 46 10 (.t 4) (.t 15)⟩,
              ⟨some 5, none, .mv (.k (.int .i64 2))⟩])
        (.ret))
        (.seq (.reg
             [⟨some 17, none, .mv (.t 0)⟩,
              ⟨some 18, none, .call (.f 70) [.t 17]⟩,
              ⟨some 19, none, .not (.t 18)⟩,
              ⟨some 20, none, .mv (.t 19)⟩,
              ⟨some 21, some (20, false), .mv (.t 1)⟩,
              ⟨some 22, some (20, false), .call (.f 71) [.t 21, .f 72]⟩,
              ⟨some 23, none, .pick (.t 20) (.k (.bool true)) (.t 22)⟩,
              ⟨some 16, none, .mv (.t 23)⟩])
        (.cond (.t 16)
          (.seq (.reg
               [⟨some 24, none, .build 46 [.v (.int .i64 0), .v (.int .i64 0), .v (.int .i64 0), .cap 3 40 [], .v (.int .i64 0), .v (.int .i64 0), .cap 3 40 [], .cap 6 80 [], .cap 6 96 [], .v (.int .i64 0)] []⟩,
                ⟨none, none, .stn 46 10 (.t 4) (.t 24)⟩,
                ⟨some 5, none, .mv (.k (.int .i64 1))⟩])
          (.ret))
          (.skip))))))
  (.seq (.reg
       [⟨some 25, none, .mv (.t 0)⟩,
        ⟨some 26, none, .bin .add (.t 25) (.k (.int .i64 1))⟩,
        ⟨some 27, none, .call (.f 73) [.t 26]⟩,
        ⟨some 6, none, .alloc 24 [.v (.int .i64 0), .v (.int .i64 0), .cap 3 40 []]⟩,
        ⟨none, none, .stn 24 3 (.t 6) (.t 27)⟩])
  (.seq (.reg
       [⟨some 7, none, .mv (.nil 6 96)⟩])
  (.seq (.seq (.reg
         [⟨some 28, none, .mv (.t 1)⟩,
          ⟨some 29, none, .len 38 (.t 28)⟩,
          ⟨some 30, none, .mv (.k (.int .i64 0))⟩])
    (.block 1 (.loop c32b0)))
  (.seq (.dreg [0, 0, 2, 7, 0, 15, 47, 111, 239, 495, 1023, 2047, 4095, 0, 16383]
       [⟨some 41, none, .ldn 24 3 (.t 6)⟩,
        ⟨some 42, none, .call (.f 76) [.k (.int .i64 1)]⟩,
        ⟨some 43, none, .lit 24 3 40 [.t 42]⟩,
        ⟨some 44, none, .call (.f 75) [.t 41, .t 43]⟩,
        ⟨some 45, none, .ldn 24 3 (.t 6)⟩,
        ⟨some 46, none, .call (.f 76) [.k (.int .i64 1)]⟩,
        ⟨some 47, none, .call (.f 76) [.k (.int .i64 0)]⟩,
        ⟨some 48, none, .lit 24 3 40 [.t 47]⟩,
        ⟨some 49, none, .call (.f 75) [.t 46, .t 48]⟩,
        ⟨some 50, none, .lit 24 3 40 [.t 49]⟩,
        ⟨some 51, none, .call (.f 75) [.t 45, .t 50]⟩,
        ⟨some 52, none, .lit 24 3 40 [.t 44, .t 51]⟩,
        ⟨some 53, none, .call (.f 74) [.k (.int .i64 4), .t 52]⟩,
        ⟨some 10, none, .alloc 24 [.v (.int .i64 0), .v (.int .i64 0), .cap 3 40 []]⟩,
        ⟨none, none, .stn 24 3 (.t 10) (.t 53)⟩])
  (.seq (.dreg [0, 0, 0, 2, 10, 30, 62, 126, 0, 510, 1022, 2047, 4095]
       [⟨some 54, none, .mv (.t 7)⟩,
        ⟨some 55, none, .call (.f 77) [.k (.int .i64 0), .nil 3 40]⟩,
        ⟨some 56, none, .ldn 24 3 (.t 6)⟩,
        ⟨some 57, none, .call (.f 76) [.k (.int .i64 0)]⟩,
        ⟨some 58, none, .lit 24 3 40 [.t 57]⟩,
        ⟨some 59, none, .call (.f 75) [.t 56, .t 58]⟩,
        ⟨some 60, none, .call (.f 78) [.t 59]⟩,
        ⟨some 61, none, .lit 77 7 104 [.t 55, .t 60]⟩,
        ⟨some 62, none, .ldn 24 3 (.t 10)⟩,
        ⟨some 63, none, .build 74 [.v (.int .i64 0), .cap 7 104 [], .cap 3 40 [], .v (.int .i64 0), .v (.int .i64 0), .cap 3 40 []] [(1, 1, 1, .t 61), (3, 3, 3, .t 62)]⟩,
        ⟨some 64, none, .lit 74 6 96 [.t 63]⟩,
        ⟨some 65, none, .app 74 6 96 (.t 54) (.t 64)⟩,
        ⟨some 7, none, .mv (.t 65)⟩])
  (.seq (.reg
       [⟨some 66, none, .call (.f 80) [.k (.int .i64 0)]⟩,
        ⟨some 67, none, .build 82 [.cap 7 104 [], .v (.int .i64 0), .v (.bool false), .v (.int .i64 0), .v (.int .i64 0), .cap 3 40 []] [(1, 1, 1, .k (.int .i64 1)), (2, 2, 1, .k (.bool true)), (3, 3, 3, .t 66)]⟩,
        ⟨some 68, none, .lit 82 6 80 [.t 67]⟩,
        ⟨some 69, none, .mv (.t 7)⟩,
        ⟨some 70, none, .call (.f 79) [.t 68, .t 69]⟩,
        ⟨none, none, .stn 46 10 (.t 4) (.t 70)⟩,
        ⟨some 5, none, .mv (.k (.int .i64 0))⟩])
  (.ret))))))))
def r32 : List RR := [.cn 4 10, .t 5]
theorem ok32 : okFn Go.Proofs.Try.prog 32 71 c32 r32 2 = true := by kernel_rfl

/- porism/porismref20.Tarski -/
def c33b0 : SCode :=
  .seq (.seq (.reg
         [⟨some 17, none, .mv (.t 7)⟩,
          ⟨some 18, none, .mv (.t 1)⟩,
          ⟨some 19, none, .len 38 (.t 18)⟩,
          ⟨some 20, none, .bin .lss (.t 17) (.t 19)⟩])
    (.cond (.t 20)
      (.skip)
      (.exit 0)))
  (.seq (.block 1 (.reg
         [⟨some 23, none, .mv (.t 6)⟩,
          ⟨some 24, none, .mv (.t 23)⟩,
          ⟨some 25, some (24, true), .mv (.t 1)⟩,
          ⟨some 26, some (24, true), .mv (.t 7)⟩,
          ⟨some 27, some (24, true), .iad 3 1 (.t 25) (.t 26)⟩,
          ⟨some 28, some (24, true), .ld1 3 (.t 27)⟩,
          ⟨some 29, some (24, true), .call (.f 81) [.t 28, .k (.int .i64 0), .k (.int .i64 65000)]⟩,
          ⟨some 30, none, .pick (.t 24) (.t 29) (.k (.bool false))⟩,
          ⟨some 6, none, .mv (.t 30)⟩]))
  (.reg
     [⟨some 21, none, .mv (.t 7)⟩,
      ⟨some 22, none, .bin .add (.t 21) (.k (.int .i64 1))⟩,
      ⟨some 7, none, .mv (.t 22)⟩]))
def c33b1 : SCode :=
  .seq (.seq (.reg
         [⟨some 41, none, .mv (.t 10)⟩,
          ⟨some 42, none, .mv (.t 1)⟩,
          ⟨some 43, none, .len 38 (.t 42)⟩,
          ⟨some 44, none, .bin .lss (.t 41) (.t 43)⟩])
    (.cond (.t 44)
      (.skip)
      (.exit 2)))
  (.seq (.block 3 (.dreg [0, 1, 0, 0, 12, 28, 60, 124, 252, 511, 1023, 2047]
         [⟨some 47, none, .fad 44 1 1 (.t 9)⟩,
          ⟨some 48, none, .ld1 42 (.t 47)⟩,
          ⟨some 49, none, .mv (.t 1)⟩,
          ⟨some 50, none, .mv (.t 10)⟩,
          ⟨some 51, none, .iad 3 1 (.t 49) (.t 50)⟩,
          ⟨some 52, none, .ld1 3 (.t 51)⟩,
          ⟨some 53, none, .call (.f 82) [.t 52]⟩,
          ⟨some 54, none, .build 74 [.v (.int .i64 0), .cap 7 104 [], .cap 3 40 [], .v (.int .i64 0), .v (.int .i64 0), .cap 3 40 []] [(3, 3, 3, .t 53)]⟩,
          ⟨some 55, none, .lit 74 6 96 [.t 54]⟩,
          ⟨some 56, none, .app 74 6 96 (.t 48) (.t 55)⟩,
          ⟨some 57, none, .fad 44 1 1 (.t 9)⟩,
          ⟨none, none, .st1 42 (.t 57) (.t 56)⟩]))
  (.reg
     [⟨some 45, none, .mv (.t 10)⟩,
      ⟨some 46, none, .bin .add (.t 45) (.k (.int .i64 1))⟩,
      ⟨some 10, none, .mv (.t 46)⟩]))
def c33 : SCode :=
  .seq (.reg
       [⟨some 4, none, .alloc 46 [.v (.int .i64 0), .v (.int .i64 0), .v (.int .i64 0), .cap 3 40 [], .v (.int .i64 0), .v (.int .i64 0), .cap 3 40 [], .cap 6 80 [], .cap 6 96 [], .v (.int .i64 0)]⟩,
        ⟨some 5, none, .mv (.k (.int .i64 0))⟩])
  (.seq (.seq (.reg
         [⟨some 11, none, .mv (.t 1)⟩,
          ⟨some 12, none, .len 38 (.t 11)⟩,
          ⟨some 13, none, .bin .gtr (.t 12) (.k (.int .i64 7))⟩])
    (.cond (.t 13)
      (.seq (.reg
           [⟨some 14, none, .build 46 [.v (.int .i64 0), .v (.int .i64 0), .v (.int .i64 0), .cap 3 40 [], .v (.int .i64 0), .v (.int .i64 0), .cap 3 40 [], .cap 6 80 [], .cap 6 96 [], .v (.int .i64 0)] []⟩,
            ⟨none, none, .stn 46 10 (.t 4) (.t 14)⟩,
            ⟨some 5, none, .mv (.k (.int .i64 2))⟩])
      (.ret))
      (.skip)))
  (.seq (.reg
       [⟨some 15, none, .mv (.t 0)⟩,
        ⟨some 16, none, .call (.f 81) [.t 15, .k (.int .i64 0), .k (.int .i64 65000)]⟩,
        ⟨some 6, none, .mv (.t 16)⟩])
  (.seq (.seq (.reg
         [⟨some 7, none, .mv (.k (.int .i64 0))⟩])
    (.block 0 (.loop c33b0)))
  (.seq (.seq (.reg
         [⟨some 31, none, .mv (.t 6)⟩,
          ⟨some 32, none, .not (.t 31)⟩])
    (.cond (.t 32)
      (.seq (.reg
           [⟨some 33, none, .build 46 [.v (.int .i64 0), .v (.int .i64 0), .v (.int .i64 0), .cap 3 40 [], .v (.int .i64 0), .v (.int .i64 0), .cap 3 40 [], .cap 6 80 [], .cap 6 96 [], .v (.int .i64 0)] []⟩,
            ⟨none, none, .stn 46 10 (.t 4) (.t 33)⟩,
            ⟨some 5, none, .mv (.k (.int .i64 1))⟩])
      (.ret))
      (.skip)))
  (.seq (.reg
       [⟨some 34, none, .mv (.t 0)⟩,
        ⟨some 35, none, .bin .add (.t 34) (.k (.int .i64 1))⟩,
        ⟨some 36, none, .call (.f 82) [.t 35]⟩,
        ⟨some 8, none, .alloc 24 [.v (.int .i64 0), .v (.int .i64 0), .cap 3 40 []]⟩,
        ⟨none, none, .stn 24 3 (.t 8) (.t 36)⟩])
  (.seq (.reg
       [⟨some 37, none, .call (.f 24) [.k (.int .i64 0)]⟩,
        ⟨some 38, none, .build 82 [.cap 7 104 [], .v (.int .i64 0), .v (.bool false), .v (.int .i64 0), .v (.int .i64 0), .cap 3 40 []] [(1, 1, 1, .k (.int .i64 1)), (2, 2, 1, .k (.bool true)), (3, 3, 3, .t 37)]⟩,
        ⟨some 39, none, .lit 82 6 80 [.t 38]⟩,
        ⟨some 40, none, .build 44 [.cap 6 80 [], .cap 6 96 [], .v (.int .i64 0)] [(0, 0, 1, .t 39)]⟩,
        ⟨some 9, none, .alloc 44 [.cap 6 80 [], .cap 6 96 [], .v (.int .i64 0)]⟩,
        ⟨none, none, .stn 44 3 (.t 9) (.t 40)⟩])
  (.seq (.seq (.reg
         [⟨some 10, none, .mv (.k (.int .i64 0))⟩])
    (.block 2 (.loop c33b1)))
  (.seq (.dreg [0, 1, 0, 0, 4, 28, 60, 124, 252, 0, 60, 1596, 0, 3644, 11836, 28220, 65084, 130620, 261692, 524284, 1048572, 2097151, 4194303, 8388607]
       [⟨some 58, none, .fad 44 1 1 (.t 9)⟩,
        ⟨some 59, none, .ld1 42 (.t 58)⟩,
        ⟨some 60, none, .call (.f 83) [.k (.int .i64 0), .nil 3 40]⟩,
        ⟨some 61, none, .ldn 24 3 (.t 8)⟩,
        ⟨some 62, none, .call (.f 66) [.k (.int .i64 0)]⟩,
        ⟨some 63, none, .call (.f 84) [.t 61, .t 62]⟩,
        ⟨some 64, none, .lit 24 3 40 [.t 63]⟩,
        ⟨some 65, none, .build 77 [.v (.bool false), .v (.int .i64 0), .v (.int .i64 0), .cap 3 40 [], .cap 3 40 [], .v (.int .i64 0), .cap 3 40 []] [(0, 0, 1, .k (.bool true)), (2, 4, 1, .t 64)]⟩,
        ⟨some 66, none, .lit 77 7 104 [.t 60, .t 65]⟩,
        ⟨some 67, none, .ldn 24 3 (.t 8)⟩,
        ⟨some 68, none, .call (.f 66) [.k (.int .i64 1)]⟩,
        ⟨some 69, none, .call (.f 84) [.t 67, .t 68]⟩,
        ⟨some 70, none, .ldn 24 3 (.t 8)⟩,
        ⟨some 71, none, .call (.f 66) [.k (.int .i64 1)]⟩,
        ⟨some 72, none, .call (.f 66) [.k (.int .i64 0)]⟩,
        ⟨some 73, none, .call (.f 84) [.t 71, .t 72]⟩,
        ⟨some 74, none, .call (.f 84) [.t 70, .t 73]⟩,
        ⟨some 75, none, .lit 24 3 40 [.t 69, .t 74]⟩,
        ⟨some 76, none, .call (.f 25) [.k (.int .i64 4), .t 75]⟩,
        ⟨some 77, none, .build 74 [.v (.int .i64 0), .cap 7 104 [], .cap 3 40 [], .v (.int .i64 0), .v (.int .i64 0), .cap 3 40 []] [(1, 1, 1, .t 66), (3, 3, 3, .t 76)]⟩,
        ⟨some 78, none, .lit 74 6 96 [.t 77]⟩,
        ⟨some 79, none, .app 74 6 96 (.t 59) (.t 78)⟩,
        ⟨some 80, none, .fad 44 1 1 (.t 9)⟩,
        ⟨none, none, .st1 42 (.t 80) (.t 79)⟩])
  (.seq (.reg
       [⟨some 81, none, .ldn 44 3 (.t 9)⟩,
        ⟨some 82, none, .call (.f 85) [.t 81]⟩,
        ⟨none, none, .stn 46 10 (.t 4) (.t 82)⟩,
        ⟨some 5, none, .mv (.k (.int .i64 0))⟩])
  (.ret))))))))))
def r33 : List RR := [.cn 4 10, .t 5]
theorem ok33 : okFn Go.Proofs.Try.prog 33 83 c33 r33 2 = true := by kernel_rfl

/- porism/lib.Nat -/
def c35 : SCode :=
  .seq (.reg
       [⟨some 0, none, .alloc 46 [.v (.int .i64 0), .v (.int .i64 0), .v (.int .i64 0), .cap 3 40 [], .v (.int .i64 0), .v (.int .i64 0), .cap 3 40 [], .cap 6 80 [], .cap 6 96 [], .v (.int .i64 0)]⟩])
  (.seq (.reg
       [⟨some 1, none, .build 82 [.cap 7 104 [], .v (.int .i64 0), .v (.bool false), .v (.int .i64 0), .v (.int .i64 0), .cap 3 40 []] []⟩,
        ⟨some 2, none, .lit 82 6 80 [.t 1]⟩,
        ⟨some 3, none, .build 74 [.v (.int .i64 0), .cap 7 104 [], .cap 3 40 [], .v (.int .i64 0), .v (.int .i64 0), .cap 3 40 []] []⟩,
        ⟨some 4, none, .call (.f 77) [.k (.int .i64 0), .nil 3 40]⟩,
        ⟨some 5, none, .lit 77 7 104 [.t 4]⟩,
        ⟨some 6, none, .build 74 [.v (.int .i64 0), .cap 7 104 [], .cap 3 40 [], .v (.int .i64 0), .v (.int .i64 0), .cap 3 40 []] [(1, 1, 1, .t 5)]⟩,
        ⟨some 7, none, .lit 74 6 96 [.t 3, .t 6]⟩,
        ⟨some 8, none, .call (.f 79) [.t 2, .t 7]⟩,
        ⟨none, none, .stn 46 10 (.t 0) (.t 8)⟩])
  (.ret))
def r35 : List RR := [.cn 0 10]
theorem ok35 : okFn Go.Proofs.Try.prog 35 9 c35 r35 0 = true := by kernel_rfl

/- porism/porismref20.Nat -/
def c36 : SCode :=
  .seq (.reg
       [⟨some 0, none, .alloc 46 [.v (.int .i64 0), .v (.int .i64 0), .v (.int .i64 0), .cap 3 40 [], .v (.int .i64 0), .v (.int .i64 0), .cap 3 40 [], .cap 6 80 [], .cap 6 96 [], .v (.int .i64 0)]⟩])
  (.seq (.reg
       [⟨some 1, none, .build 82 [.cap 7 104 [], .v (.int .i64 0), .v (.bool false), .v (.int .i64 0), .v (.int .i64 0), .cap 3 40 []] []⟩,
        ⟨some 2, none, .lit 82 6 80 [.t 1]⟩,
        ⟨some 3, none, .build 74 [.v (.int .i64 0), .cap 7 104 [], .cap 3 40 [], .v (.int .i64 0), .v (.int .i64 0), .cap 3 40 []] []⟩,
        ⟨some 4, none, .call (.f 83) [.k (.int .i64 0), .nil 3 40]⟩,
        ⟨some 5, none, .lit 77 7 104 [.t 4]⟩,
        ⟨some 6, none, .build 74 [.v (.int .i64 0), .cap 7 104 [], .cap 3 40 [], .v (.int .i64 0), .v (.int .i64 0), .cap 3 40 []] [(1, 1, 1, .t 5)]⟩,
        ⟨some 7, none, .lit 74 6 96 [.t 3, .t 6]⟩,
        ⟨some 8, none, .build 44 [.cap 6 80 [], .cap 6 96 [], .v (.int .i64 0)] [(0, 0, 1, .t 2), (1, 1, 1, .t 7)]⟩,
        ⟨some 9, none, .call (.f 85) [.t 8]⟩,
        ⟨none, none, .stn 46 10 (.t 0) (.t 9)⟩])
  (.ret))
def r36 : List RR := [.cn 0 10]
theorem ok36 : okFn Go.Proofs.Try.prog 36 10 c36 r36 0 = true := by kernel_rfl

/- porism/lib.Vec -/
def c37 : SCode :=
  .seq (.reg
       [⟨some 2, none, .alloc 46 [.v (.int .i64 0), .v (.int .i64 0), .v (.int .i64 0), .cap 3 40 [], .v (.int .i64 0), .v (.int .i64 0), .cap 3 40 [], .cap 6 80 [], .cap 6 96 [], .v (.int .i64 0)]⟩])
  (.seq (.reg
       [⟨some 4, none, .mv (.t 0)⟩,
        ⟨some 5, none, .call (.f 87) [.t 4]⟩,
        ⟨some 0, none, .mv (.t 5)⟩])
  (.seq (.reg
       [⟨some 6, none, .mv (.t 0)⟩,
        ⟨some 7, none, .call (.f 73) [.t 6]⟩,
        ⟨some 8, none, .call (.f 88) [.t 7]⟩,
        ⟨some 9, none, .mv (.t 0)⟩,
        ⟨some 10, none, .call (.f 73) [.t 9]⟩,
        ⟨some 11, none, .call (.f 88) [.t 10]⟩,
        ⟨some 12, none, .call (.f 76) [.k (.int .i64 1)]⟩,
        ⟨some 13, none, .lit 24 3 40 [.t 12]⟩,
        ⟨some 14, none, .call (.f 77) [.k (.int .i64 0), .t 13]⟩,
        ⟨some 15, none, .lit 77 7 104 [.t 8, .t 11, .t 14]⟩,
        ⟨some 16, none, .mv (.t 0)⟩,
        ⟨some 17, none, .bin .add (.t 16) (.k (.int .i64 2))⟩,
        ⟨some 18, none, .call (.f 73) [.t 17]⟩,
        ⟨some 19, none, .call (.f 76) [.k (.int .i64 2)]⟩,
        ⟨some 20, none, .lit 24 3 40 [.t 19]⟩,
        ⟨some 21, none, .call (.f 75) [.t 18, .t 20]⟩,
        ⟨some 22, none, .lit 24 3 40 [.t 21]⟩,
        ⟨some 23, none, .build 74 [.v (.int .i64 0), .cap 7 104 [], .cap 3 40 [], .v (.int .i64 0), .v (.int .i64 0), .cap 3 40 []] [(1, 1, 1, .t 15), (2, 2, 1, .t 22)]⟩,
        ⟨some 3, none, .alloc 74 [.v (.int .i64 0), .cap 7 104 [], .cap 3 40 [], .v (.int .i64 0), .v (.int .i64 0), .cap 3 40 []]⟩,
        ⟨none, none, .stn 74 6 (.t 3) (.t 23)⟩])
  (.seq (.dreg [0, 1, 3, 7, 15, 31, 0, 64, 199, 455, 967, 0, 4039, 8191, 16383]
       [⟨some 24, none, .mv (.t 0)⟩,
        ⟨some 25, none, .call (.f 73) [.t 24]⟩,
        ⟨some 26, none, .call (.f 88) [.t 25]⟩,
        ⟨some 27, none, .lit 77 7 104 [.t 26]⟩,
        ⟨some 28, none, .build 82 [.cap 7 104 [], .v (.int .i64 0), .v (.bool false), .v (.int .i64 0), .v (.int .i64 0), .cap 3 40 []] [(0, 0, 1, .t 27)]⟩,
        ⟨some 29, none, .lit 82 6 80 [.t 28]⟩,
        ⟨some 30, none, .mv (.t 0)⟩,
        ⟨some 31, none, .bin .add (.t 30) (.k (.int .i64 1))⟩,
        ⟨some 32, none, .call (.f 73) [.t 31]⟩,
        ⟨some 33, none, .lit 24 3 40 [.t 32]⟩,
        ⟨some 34, none, .build 74 [.v (.int .i64 0), .cap 7 104 [], .cap 3 40 [], .v (.int .i64 0), .v (.int .i64 0), .cap 3 40 []] [(2, 2, 1, .t 33)]⟩,
        ⟨some 35, none, .ldn 74 6 (.t 3)⟩,
        ⟨some 36, none, .lit 74 6 96 [.t 34, .t 35]⟩,
        ⟨some 37, none, .call (.f 79) [.t 29, .t 36]⟩,
        ⟨none, none, .stn 46 10 (.t 2) (.t 37)⟩])
  (.ret))))
def r37 : List RR := [.cn 2 10]
theorem ok37 : okFn Go.Proofs.Try.prog 37 38 c37 r37 1 = true := by kernel_rfl

/- porism/porismref20.Vec -/
def c38 : SCode :=
  .seq (.reg
       [⟨some 2, none, .alloc 46 [.v (.int .i64 0), .v (.int .i64 0), .v (.int .i64 0), .cap 3 40 [], .v (.int .i64 0), .v (.int .i64 0), .cap 3 40 [], .cap 6 80 [], .cap 6 96 [], .v (.int .i64 0)]⟩])
  (.seq (.reg
       [⟨some 3, none, .mv (.t 0)⟩,
        ⟨some 4, none, .call (.f 89) [.t 3]⟩,
        ⟨some 0, none, .mv (.t 4)⟩])
  (.seq (.reg
       [⟨some 5, none, .mv (.t 0)⟩,
        ⟨some 6, none, .call (.f 82) [.t 5]⟩,
        ⟨some 7, none, .call (.f 90) [.t 6]⟩,
        ⟨some 8, none, .lit 77 7 104 [.t 7]⟩,
        ⟨some 9, none, .build 82 [.cap 7 104 [], .v (.int .i64 0), .v (.bool false), .v (.int .i64 0), .v (.int .i64 0), .cap 3 40 []] [(0, 0, 1, .t 8)]⟩,
        ⟨some 10, none, .lit 82 6 80 [.t 9]⟩,
        ⟨some 11, none, .mv (.t 0)⟩,
        ⟨some 12, none, .bin .add (.t 11) (.k (.int .i64 1))⟩,
        ⟨some 13, none, .call (.f 82) [.t 12]⟩,
        ⟨some 14, none, .lit 24 3 40 [.t 13]⟩,
        ⟨some 15, none, .build 74 [.v (.int .i64 0), .cap 7 104 [], .cap 3 40 [], .v (.int .i64 0), .v (.int .i64 0), .cap 3 40 []] [(2, 2, 1, .t 14)]⟩,
        ⟨some 16, none, .mv (.t 0)⟩,
        ⟨some 17, none, .call (.f 82) [.t 16]⟩,
        ⟨some 18, none, .call (.f 90) [.t 17]⟩,
        ⟨some 19, none, .mv (.t 0)⟩,
        ⟨some 20, none, .call (.f 82) [.t 19]⟩,
        ⟨some 21, none, .call (.f 90) [.t 20]⟩,
        ⟨some 22, none, .call (.f 66) [.k (.int .i64 1)]⟩,
        ⟨some 23, none, .lit 24 3 40 [.t 22]⟩,
        ⟨some 24, none, .call (.f 83) [.k (.int .i64 0), .t 23]⟩,
        ⟨some 25, none, .lit 77 7 104 [.t 18, .t 21, .t 24]⟩,
        ⟨some 26, none, .mv (.t 0)⟩,
        ⟨some 27, none, .bin .add (.t 26) (.k (.int .i64 2))⟩,
        ⟨some 28, none, .call (.f 82) [.t 27]⟩,
        ⟨some 29, none, .call (.f 66) [.k (.int .i64 2)]⟩,
        ⟨some 30, none, .call (.f 84) [.t 28, .t 29]⟩,
        ⟨some 31, none, .lit 24 3 40 [.t 30]⟩,
        ⟨some 32, none, .build 74 [.v (.int .i64 0), .cap 7 104 [], .cap 3 40 [], .v (.int .i64 0), .v (.int .i64 0), .cap 3 40 []] [(1, 1, 1, .t 25), (2, 2, 1, .t 31)]⟩,
        ⟨some 33, none, .lit 74 6 96 [.t 15, .t 32]⟩,
        ⟨some 34, none, .build 44 [.cap 6 80 [], .cap 6 96 [], .v (.int .i64 0)] [(0, 0, 1, .t 10), (1, 1, 1, .t 33)]⟩,
        ⟨some 35, none, .call (.f 85) [.t 34]⟩,
        ⟨none, none, .stn 46 10 (.t 2) (.t 35)⟩])
  (.ret)))
def r38 : List RR := [.cn 2 10]
theorem ok38 : okFn Go.Proofs.Try.prog 38 36 c38 r38 1 = true := by kernel_rfl

/- porism/lib.Tree -/
def c39 : SCode :=
  .seq (.reg
       [⟨some 4, none, .alloc 46 [.v (.int .i64 0), .v (.int .i64 0), .v (.int .i64 0), .cap 3 40 [], .v (.int .i64 0), .v (.int .i64 0), .cap 3 40 [], .cap 6 80 [], .cap 6 96 [], .v (.int .i64 0)]⟩])
  (.seq (.reg
       [⟨some 5, none, .build 82 [.cap 7 104 [], .v (.int .i64 0), .v (.bool false), .v (.int .i64 0), .v (.int .i64 0), .cap 3 40 []] []⟩,
        ⟨some 6, none, .lit 82 6 80 [.t 5]⟩,
        ⟨some 7, none, .mv (.t 0)⟩,
        ⟨some 8, none, .call (.f 87) [.t 7]⟩,
        ⟨some 9, none, .call (.f 73) [.t 8]⟩,
        ⟨some 10, none, .call (.f 88) [.t 9]⟩,
        ⟨some 11, none, .mv (.t 1)⟩,
        ⟨some 12, none, .call (.f 87) [.t 11]⟩,
        ⟨some 13, none, .call (.f 73) [.t 12]⟩,
        ⟨some 14, none, .call (.f 76) [.k (.int .i64 0)]⟩,
        ⟨some 15, none, .lit 24 3 40 [.t 14]⟩,
        ⟨some 16, none, .call (.f 75) [.t 13, .t 15]⟩,
        ⟨some 17, none, .call (.f 78) [.t 16]⟩,
        ⟨some 18, none, .lit 77 7 104 [.t 10, .t 17]⟩,
        ⟨some 19, none, .build 74 [.v (.int .i64 0), .cap 7 104 [], .cap 3 40 [], .v (.int .i64 0), .v (.int .i64 0), .cap 3 40 []] [(1, 1, 1, .t 18)]⟩,
        ⟨some 20, none, .lit 74 6 96 [.t 19]⟩,
        ⟨some 21, none, .call (.f 79) [.t 6, .t 20]⟩,
        ⟨none, none, .stn 46 10 (.t 4) (.t 21)⟩])
  (.ret))
def r39 : List RR := [.cn 4 10]
theorem ok39 : okFn Go.Proofs.Try.prog 39 22 c39 r39 2 = true := by kernel_rfl

/- porism/porismref20.Tree -/
def c40 : SCode :=
  .seq (.reg
       [⟨some 4, none, .alloc 46 [.v (.int .i64 0), .v (.int .i64 0), .v (.int .i64 0), .cap 3 40 [], .v (.int .i64 0), .v (.int .i64 0), .cap 3 40 [], .cap 6 80 [], .cap 6 96 [], .v (.int .i64 0)]⟩])
  (.seq (.reg
       [⟨some 5, none, .mv (.t 0)⟩,
        ⟨some 6, none, .call (.f 89) [.t 5]⟩,
        ⟨some 7, none, .mv (.t 1)⟩,
        ⟨some 8, none, .call (.f 89) [.t 7]⟩,
        ⟨some 0, none, .mv (.t 6)⟩,
        ⟨some 1, none, .mv (.t 8)⟩])
  (.seq (.reg
       [⟨some 9, none, .build 82 [.cap 7 104 [], .v (.int .i64 0), .v (.bool false), .v (.int .i64 0), .v (.int .i64 0), .cap 3 40 []] []⟩,
        ⟨some 10, none, .lit 82 6 80 [.t 9]⟩,
        ⟨some 11, none, .mv (.t 0)⟩,
        ⟨some 12, none, .call (.f 82) [.t 11]⟩,
        ⟨some 13, none, .call (.f 90) [.t 12]⟩,
        ⟨some 14, none, .mv (.t 1)⟩,
        ⟨some 15, none, .call (.f 82) [.t 14]⟩,
        ⟨some 16, none, .call (.f 66) [.k (.int .i64 0)]⟩,
        ⟨some 17, none, .call (.f 84) [.t 15, .t 16]⟩,
        ⟨some 18, none, .lit 24 3 40 [.t 17]⟩,
        ⟨some 19, none, .build 77 [.v (.bool false), .v (.int .i64 0), .v (.int .i64 0), .cap 3 40 [], .cap 3 40 [], .v (.int .i64 0), .cap 3 40 []] [(0, 0, 1, .k (.bool true)), (2, 4, 1, .t 18)]⟩,
        ⟨some 20, none, .lit 77 7 104 [.t 13, .t 19]⟩,
        ⟨some 21, none, .build 74 [.v (.int .i64 0), .cap 7 104 [], .cap 3 40 [], .v (.int .i64 0), .v (.int .i64 0), .cap 3 40 []] [(1, 1, 1, .t 20)]⟩,
        ⟨some 22, none, .lit 74 6 96 [.t 21]⟩,
        ⟨some 23, none, .build 44 [.cap 6 80 [], .cap 6 96 [], .v (.int .i64 0)] [(0, 0, 1, .t 10), (1, 1, 1, .t 22)]⟩,
        ⟨some 24, none, .call (.f 85) [.t 23]⟩,
        ⟨none, none, .stn 46 10 (.t 4) (.t 24)⟩])
  (.ret)))
def r40 : List RR := [.cn 4 10]
theorem ok40 : okFn Go.Proofs.Try.prog 40 25 c40 r40 2 = true := by kernel_rfl

/- porism/lib.Syntax -/
def c41 : SCode :=
  .seq (.reg
       [⟨some 2, none, .alloc 46 [.v (.int .i64 0), .v (.int .i64 0), .v (.int .i64 0), .cap 3 40 [], .v (.int .i64 0), .v (.int .i64 0), .cap 3 40 [], .cap 6 80 [], .cap 6 96 [], .v (.int .i64 0)]⟩])
  (.seq (.reg
       [⟨some 5, none, .mv (.t 0)⟩,
        ⟨some 6, none, .call (.f 87) [.t 5]⟩,
        ⟨some 7, none, .bin .add (.t 6) (.k (.int .i64 3))⟩,
        ⟨some 8, none, .call (.f 73) [.t 7]⟩,
        ⟨some 3, none, .alloc 24 [.v (.int .i64 0), .v (.int .i64 0), .cap 3 40 []]⟩,
        ⟨none, none, .stn 24 3 (.t 3) (.t 8)⟩])
  (.seq (.reg
       [⟨some 4, none, .mv (.f 76)⟩])
  (.seq (.dreg [0, 0, 2, 6, 15, 0, 2, 0, 194, 450, 962, 1986, 4034, 1986, 10178, 0, 42946, 108482, 255938, 108482, 0, 1681346, 3778498, 7972802, 0, 0, 49915842, 0, 251242434, 519677890, 1073326018, 2147067842, 4294551490, 8589518786, 0, 25769387970, 60129126338, 137438537666, 274877906914, 549755813887, 1099511627775]
       [⟨some 9, none, .build 82 [.cap 7 104 [], .v (.int .i64 0), .v (.bool false), .v (.int .i64 0), .v (.int .i64 0), .cap 3 40 []] []⟩,
        ⟨some 10, none, .call (.f 77) [.k (.int .i64 0), .nil 3 40]⟩,
        ⟨some 11, none, .lit 77 7 104 [.t 10]⟩,
        ⟨some 12, none, .build 82 [.cap 7 104 [], .v (.int .i64 0), .v (.bool false), .v (.int .i64 0), .v (.int .i64 0), .cap 3 40 []] [(0, 0, 1, .t 11)]⟩,
        ⟨some 13, none, .lit 82 6 80 [.t 9, .t 12]⟩,
        ⟨some 14, none, .build 74 [.v (.int .i64 0), .cap 7 104 [], .cap 3 40 [], .v (.int .i64 0), .v (.int .i64 0), .cap 3 40 []] []⟩,
        ⟨some 15, none, .call (.f 77) [.k (.int .i64 0), .nil 3 40]⟩,
        ⟨some 16, none, .mv (.t 4)⟩,
        ⟨some 17, none, .call (.t 16) [.k (.int .i64 0)]⟩,
        ⟨some 18, none, .lit 24 3 40 [.t 17]⟩,
        ⟨some 19, none, .call (.f 77) [.k (.int .i64 1), .t 18]⟩,
        ⟨some 20, none, .lit 77 7 104 [.t 15, .t 19]⟩,
        ⟨some 21, none, .build 74 [.v (.int .i64 0), .cap 7 104 [], .cap 3 40 [], .v (.int .i64 0), .v (.int .i64 0), .cap 3 40 []] [(1, 1, 1, .t 20)]⟩,
        ⟨some 22, none, .call (.f 77) [.k (.int .i64 0), .nil 3 40]⟩,
        ⟨some 23, none, .lit 77 7 104 [.t 22]⟩,
        ⟨some 24, none, .mv (.t 4)⟩,
        ⟨some 25, none, .call (.t 24) [.k (.int .i64 0)]⟩,
        ⟨some 26, none, .lit 24 3 40 [.t 25]⟩,
        ⟨some 27, none, .build 74 [.v (.int .i64 0), .cap 7 104 [], .cap 3 40 [], .v (.int .i64 0), .v (.int .i64 0), .cap 3 40 []] [(0, 0, 1, .k (.int .i64 1)), (1, 1, 1, .t 23), (2, 2, 1, .t 26)]⟩,
        ⟨some 28, none, .call (.f 77) [.k (.int .i64 0), .nil 3 40]⟩,
        ⟨some 29, none, .mv (.t 4)⟩,
        ⟨some 30, none, .call (.t 29) [.k (.int .i64 0)]⟩,
        ⟨some 31, none, .lit 24 3 40 [.t 30]⟩,
        ⟨some 32, none, .call (.f 77) [.k (.int .i64 1), .t 31]⟩,
        ⟨some 33, none, .ldn 24 3 (.t 3)⟩,
        ⟨some 34, none, .mv (.t 4)⟩,
        ⟨some 35, none, .call (.t 34) [.k (.int .i64 1)]⟩,
        ⟨some 36, none, .mv (.t 4)⟩,
        ⟨some 37, none, .call (.t 36) [.k (.int .i64 0)]⟩,
        ⟨some 38, none, .lit 24 3 40 [.t 35, .t 37]⟩,
        ⟨some 39, none, .call (.f 75) [.t 33, .t 38]⟩,
        ⟨some 40, none, .lit 24 3 40 [.t 39]⟩,
        ⟨some 41, none, .call (.f 77) [.k (.int .i64 1), .t 40]⟩,
        ⟨some 42, none, .lit 77 7 104 [.t 28, .t 32, .t 41]⟩,
        ⟨some 43, none, .mv (.t 4)⟩,
        ⟨some 44, none, .call (.t 43) [.k (.int .i64 2)]⟩,
        ⟨some 45, none, .lit 24 3 40 [.t 44]⟩,
        ⟨some 46, none, .build 74 [.v (.int .i64 0), .cap 7 104 [], .cap 3 40 [], .v (.int .i64 0), .v (.int .i64 0), .cap 3 40 []] [(0, 0, 1, .k (.int .i64 1)), (1, 1, 1, .t 42), (2, 2, 1, .t 45)]⟩,
        ⟨some 47, none, .lit 74 6 96 [.t 14, .t 21, .t 27, .t 46]⟩,
        ⟨some 48, none, .call (.f 79) [.t 13, .t 47]⟩,
        ⟨none, none, .stn 46 10 (.t 2) (.t 48)⟩])
  (.ret))))
def r41 : List RR := [.cn 2 10]
theorem ok41 : okFn Go.Proofs.Try.prog 41 49 c41 r41 1 = true := by kernel_rfl

/- porism/porismref20.Syntax -/
def c42 : SCode :=
  .seq (.reg
       [⟨some 2, none, .alloc 46 [.v (.int .i64 0), .v (.int .i64 0), .v (.int .i64 0), .cap 3 40 [], .v (.int .i64 0), .v (.int .i64 0), .cap 3 40 [], .cap 6 80 [], .cap 6 96 [], .v (.int .i64 0)]⟩])
  (.seq (.reg
       [⟨some 3, none, .mv (.t 0)⟩,
        ⟨some 4, none, .call (.f 89) [.t 3]⟩,
        ⟨some 0, none, .mv (.t 4)⟩])
  (.seq (.reg
       [⟨some 5, none, .build 82 [.cap 7 104 [], .v (.int .i64 0), .v (.bool false), .v (.int .i64 0), .v (.int .i64 0), .cap 3 40 []] []⟩,
        ⟨some 6, none, .call (.f 83) [.k (.int .i64 0), .nil 3 40]⟩,
        ⟨some 7, none, .lit 77 7 104 [.t 6]⟩,
        ⟨some 8, none, .build 82 [.cap 7 104 [], .v (.int .i64 0), .v (.bool false), .v (.int .i64 0), .v (.int .i64 0), .cap 3 40 []] [(0, 0, 1, .t 7)]⟩,
        ⟨some 9, none, .lit 82 6 80 [.t 5, .t 8]⟩,
        ⟨some 10, none, .build 74 [.v (.int .i64 0), .cap 7 104 [], .cap 3 40 [], .v (.int .i64 0), .v (.int .i64 0), .cap 3 40 []] []⟩,
        ⟨some 11, none, .call (.f 83) [.k (.int .i64 0), .nil 3 40]⟩,
        ⟨some 12, none, .call (.f 66) [.k (.int .i64 0)]⟩,
        ⟨some 13, none, .lit 24 3 40 [.t 12]⟩,
        ⟨some 14, none, .call (.f 83) [.k (.int .i64 1), .t 13]⟩,
        ⟨some 15, none, .lit 77 7 104 [.t 11, .t 14]⟩,
        ⟨some 16, none, .build 74 [.v (.int .i64 0), .cap 7 104 [], .cap 3 40 [], .v (.int .i64 0), .v (.int .i64 0), .cap 3 40 []] [(1, 1, 1, .t 15)]⟩,
        ⟨some 17, none, .call (.f 83) [.k (.int .i64 0), .nil 3 40]⟩,
        ⟨some 18, none, .lit 77 7 104 [.t 17]⟩,
        ⟨some 19, none, .call (.f 66) [.k (.int .i64 0)]⟩,
        ⟨some 20, none, .lit 24 3 40 [.t 19]⟩,
        ⟨some 21, none, .build 74 [.v (.int .i64 0), .cap 7 104 [], .cap 3 40 [], .v (.int .i64 0), .v (.int .i64 0), .cap 3 40 []] [(0, 0, 1, .k (.int .i64 1)), (1, 1, 1, .t 18), (2, 2, 1, .t 20)]⟩,
        ⟨some 22, none, .call (.f 83) [.k (.int .i64 0), .nil 3 40]⟩,
        ⟨some 23, none, .call (.f 66) [.k (.int .i64 0)]⟩,
        ⟨some 24, none, .lit 24 3 40 [.t 23]⟩,
        ⟨some 25, none, .call (.f 83) [.k (.int .i64 1), .t 24]⟩,
        ⟨some 26, none, .mv (.t 0)⟩,
        ⟨some 27, none, .bin .add (.t 26) (.k (.int .i64 3))⟩,
        ⟨some 28, none, .call (.f 82) [.t 27]⟩,
        ⟨some 29, none, .call (.f 66) [.k (.int .i64 1)]⟩,
        ⟨some 30, none, .call (.f 84) [.t 28, .t 29]⟩,
        ⟨some 31, none, .call (.f 66) [.k (.int .i64 0)]⟩,
        ⟨some 32, none, .call (.f 84) [.t 30, .t 31]⟩,
        ⟨some 33, none, .lit 24 3 40 [.t 32]⟩,
        ⟨some 34, none, .call (.f 83) [.k (.int .i64 1), .t 33]⟩,
        ⟨some 35, none, .lit 77 7 104 [.t 22, .t 25, .t 34]⟩,
        ⟨some 36, none, .call (.f 66) [.k (.int .i64 2)]⟩,
        ⟨some 37, none, .lit 24 3 40 [.t 36]⟩,
        ⟨some 38, none, .build 74 [.v (.int .i64 0), .cap 7 104 [], .cap 3 40 [], .v (.int .i64 0), .v (.int .i64 0), .cap 3 40 []] [(0, 0, 1, .k (.int .i64 1)), (1, 1, 1, .t 35), (2, 2, 1, .t 37)]⟩,
        ⟨some 39, none, .lit 74 6 96 [.t 10, .t 16, .t 21, .t 38]⟩,
        ⟨some 40, none, .build 44 [.cap 6 80 [], .cap 6 96 [], .v (.int .i64 0)] [(0, 0, 1, .t 9), (1, 1, 1, .t 39)]⟩,
        ⟨some 41, none, .call (.f 85) [.t 40]⟩,
        ⟨none, none, .stn 46 10 (.t 2) (.t 41)⟩])
  (.ret)))
def r42 : List RR := [.cn 2 10]
theorem ok42 : okFn Go.Proofs.Try.prog 42 42 c42 r42 1 = true := by kernel_rfl

/- porism/lib.Add -/
def w43_0 : List (List Nat) := [[], [], [], [], [], [], [], [], [], [], [], [], [], [], [], [], [], [], [43007], [43007]]
def f43_0 : List (List Nat) := [[43007], [43007], [43007], [43007], [43007], [43007], [43007], [43007], [43007], [43007], [43007], [43007], [43007], [43007], [43007], [43007], [43007], [43007], [], []]
def c43 : SCode :=
  .seq (.reg
       [⟨some 1, none, .box 3 (.t 0)⟩,
        ⟨some 2, none, .alloc 46 [.v (.int .i64 0), .v (.int .i64 0), .v (.int .i64 0), .cap 3 40 [], .v (.int .i64 0), .v (.int .i64 0), .cap 3 40 [], .cap 6 80 [], .cap 6 96 [], .v (.int .i64 0)]⟩])
  (.seq (.reg
       [⟨some 8, none, .ld1 3 (.t 1)⟩,
        ⟨some 9, none, .call (.f 87) [.t 8]⟩,
        ⟨none, none, .st1 3 (.t 1) (.t 9)⟩])
  (.seq (.reg
       [⟨some 10, none, .mkfn 91 [] [.t 1]⟩,
        ⟨some 3, none, .alloc 87 [.v .nilFunc]⟩,
        ⟨none, none, .st1 87 (.t 3) (.t 10)⟩,
        ⟨some 4, none, .mv (.f 76)⟩])
  (.seq (.reg
       [⟨some 11, none, .mkfn 92 [] [.t 3]⟩,
        ⟨some 5, none, .mv (.t 11)⟩])
  (.seq (.reg
       [⟨some 12, none, .mv (.t 5)⟩,
        ⟨some 13, none, .mv (.t 5)⟩,
        ⟨some 14, none, .ld1 3 (.t 1)⟩,
        ⟨some 15, none, .bin .add (.t 14) (.k (.int .i64 2))⟩,
        ⟨some 16, none, .call (.f 73) [.t 15]⟩,
        ⟨some 17, none, .mv (.t 4)⟩,
        ⟨some 18, none, .call (.t 17) [.k (.int .i64 0)]⟩,
        ⟨some 19, none, .lit 24 3 40 [.t 18]⟩,
        ⟨some 20, none, .call (.f 75) [.t 16, .t 19]⟩,
        ⟨some 21, none, .call (.t 13) [.t 20]⟩,
        ⟨some 22, none, .call (.t 12) [.t 21]⟩,
        ⟨some 6, none, .alloc 24 [.v (.int .i64 0), .v (.int .i64 0), .cap 3 40 []]⟩,
        ⟨none, none, .stn 24 3 (.t 6) (.t 22)⟩])
  (.seq (.dreg [0, 0, 0, 4, 12, 0, 0, 92, 252, 0, 1020, 0, 0, 6140, 16380, 32764, 65534, 131071, 0, 524287]
       [⟨some 23, none, .mv (.t 5)⟩,
        ⟨some 24, none, .mv (.t 5)⟩,
        ⟨some 25, none, .ld1 3 (.t 1)⟩,
        ⟨some 26, none, .bin .add (.t 25) (.k (.int .i64 3))⟩,
        ⟨some 27, none, .call (.f 73) [.t 26]⟩,
        ⟨some 28, none, .mv (.t 5)⟩,
        ⟨some 29, none, .ld1 87 (.t 3)⟩,
        ⟨some 30, none, .call (.t 29) []⟩,
        ⟨some 31, none, .call (.t 28) [.t 30]⟩,
        ⟨some 32, none, .mv (.t 4)⟩,
        ⟨some 33, none, .call (.t 32) [.k (.int .i64 0)]⟩,
        ⟨some 34, none, .ldn 24 3 (.t 6)⟩,
        ⟨some 35, none, .mv (.t 4)⟩,
        ⟨some 36, none, .call (.t 35) [.k (.int .i64 1)]⟩,
        ⟨some 37, none, .lit 24 3 40 [.t 31, .t 33, .t 34, .t 36]⟩,
        ⟨some 38, none, .call (.f 75) [.t 27, .t 37]⟩,
        ⟨some 39, none, .call (.t 24) [.t 38]⟩,
        ⟨some 40, none, .call (.t 23) [.t 39]⟩,
        ⟨some 7, none, .alloc 24 [.v (.int .i64 0), .v (.int .i64 0), .cap 3 40 []]⟩,
        ⟨none, none, .stn 24 3 (.t 7) (.t 40)⟩])
  (.seq (.dreg [0, 1, 0, 7, 15, 0, 47, 127, 0, 511, 1023]
       [⟨some 41, none, .ld1 87 (.t 3)⟩,
        ⟨some 42, none, .call (.t 41) []⟩,
        ⟨some 43, none, .ld1 87 (.t 3)⟩,
        ⟨some 44, none, .call (.t 43) []⟩,
        ⟨some 45, none, .lit 24 3 40 [.t 42, .t 44]⟩,
        ⟨some 46, none, .ld1 87 (.t 3)⟩,
        ⟨some 47, none, .call (.t 46) []⟩,
        ⟨some 48, none, .call (.f 93) [.t 45, .t 47]⟩,
        ⟨some 49, none, .ldn 24 3 (.t 7)⟩,
        ⟨some 50, none, .build 46 [.v (.int .i64 0), .v (.int .i64 0), .v (.int .i64 0), .cap 3 40 [], .v (.int .i64 0), .v (.int .i64 0), .cap 3 40 [], .cap 6 80 [], .cap 6 96 [], .v (.int .i64 0)] [(0, 0, 1, .k (.int .i64 2)), (1, 1, 3, .t 48), (2, 4, 3, .t 49)]⟩,
        ⟨none, none, .stn 46 10 (.t 2) (.t 50)⟩])
  (.ret)))))))
def r43 : List RR := [.cn 2 10]
theorem ok43 : okFn Go.Proofs.Try.prog 43 51 c43 r43 1 = true := by kernel_rfl

/- porism/porismref20.Add -/
def w44_0 : List (List Nat) := [[], [], [], [], [], [44004], [44004]]
def f44_0 : List (List Nat) := [[44004], [44004], [44004], [44004], [44004], [], []]
def w44_1 : List (List Nat) := [[], [], [], [], [], [], [], [], [], [], [], [], [], [], [], [], [], [], [], [], [], [], [], [44005], [44005]]
def f44_1 : List (List Nat) := [[44005], [44005], [44005], [44005], [44005], [44005], [44005], [44005], [44005], [44005], [44005], [44005], [44005], [44005], [44005], [44005], [44005], [44005], [44005], [44005], [44005], [44005], [44005], [], []]
def c44 : SCode :=
  .seq (.reg
       [⟨some 2, none, .alloc 46 [.v (.int .i64 0), .v (.int .i64 0), .v (.int .i64 0), .cap 3 40 [], .v (.int .i64 0), .v (.int .i64 0), .cap 3 40 [], .cap 6 80 [], .cap 6 96 [], .v (.int .i64 0)]⟩])
  (.seq (.reg
       [⟨some 6, none, .mv (.t 0)⟩,
        ⟨some 7, none, .call (.f 89) [.t 6]⟩,
        ⟨some 0, none, .mv (.t 7)⟩])
  (.seq (.reg
       [⟨some 8, none, .mv (.t 0)⟩,
        ⟨some 9, none, .call (.f 82) [.t 8]⟩,
        ⟨some 3, none, .alloc 24 [.v (.int .i64 0), .v (.int .i64 0), .cap 3 40 []]⟩,
        ⟨none, none, .stn 24 3 (.t 3) (.t 9)⟩])
  (.seq (.dreg [0, 0, 0, 6, 15, 0, 63]
       [⟨some 10, none, .ldn 24 3 (.t 3)⟩,
        ⟨some 11, none, .ldn 24 3 (.t 3)⟩,
        ⟨some 12, none, .ldn 24 3 (.t 3)⟩,
        ⟨some 13, none, .call (.f 94) [.k (.int .i64 4), .t 11, .t 12]⟩,
        ⟨some 14, none, .call (.f 94) [.k (.int .i64 4), .t 10, .t 13]⟩,
        ⟨some 4, none, .alloc 24 [.v (.int .i64 0), .v (.int .i64 0), .cap 3 40 []]⟩,
        ⟨none, none, .stn 24 3 (.t 4) (.t 14)⟩])
  (.seq (.dreg [0, 0, 0, 4, 12, 0, 0, 124, 252, 0, 0, 0, 2048, 6652, 14844, 31228, 65020, 131068, 262140, 524284, 1048572, 2097150, 4194303, 0, 16777215]
       [⟨some 15, none, .ldn 24 3 (.t 3)⟩,
        ⟨some 16, none, .ldn 24 3 (.t 3)⟩,
        ⟨some 17, none, .mv (.t 0)⟩,
        ⟨some 18, none, .bin .add (.t 17) (.k (.int .i64 3))⟩,
        ⟨some 19, none, .call (.f 82) [.t 18]⟩,
        ⟨some 20, none, .ldn 24 3 (.t 3)⟩,
        ⟨some 21, none, .ldn 24 3 (.t 3)⟩,
        ⟨some 22, none, .call (.f 94) [.k (.int .i64 5), .t 20, .t 21]⟩,
        ⟨some 23, none, .call (.f 66) [.k (.int .i64 0)]⟩,
        ⟨some 24, none, .ldn 24 3 (.t 3)⟩,
        ⟨some 25, none, .ldn 24 3 (.t 3)⟩,
        ⟨some 26, none, .mv (.t 0)⟩,
        ⟨some 27, none, .bin .add (.t 26) (.k (.int .i64 2))⟩,
        ⟨some 28, none, .call (.f 82) [.t 27]⟩,
        ⟨some 29, none, .call (.f 66) [.k (.int .i64 0)]⟩,
        ⟨some 30, none, .call (.f 84) [.t 28, .t 29]⟩,
        ⟨some 31, none, .call (.f 94) [.k (.int .i64 5), .t 25, .t 30]⟩,
        ⟨some 32, none, .call (.f 94) [.k (.int .i64 5), .t 24, .t 31]⟩,
        ⟨some 33, none, .call (.f 66) [.k (.int .i64 1)]⟩,
        ⟨some 34, none, .lit 24 3 40 [.t 22, .t 23, .t 32, .t 33]⟩,
        ⟨some 35, none, .call (.f 95) [.t 19, .t 34]⟩,
        ⟨some 36, none, .call (.f 94) [.k (.int .i64 5), .t 16, .t 35]⟩,
        ⟨some 37, none, .call (.f 94) [.k (.int .i64 5), .t 15, .t 36]⟩,
        ⟨some 5, none, .alloc 24 [.v (.int .i64 0), .v (.int .i64 0), .cap 3 40 []]⟩,
        ⟨none, none, .stn 24 3 (.t 5) (.t 37)⟩])
  (.seq (.reg
       [⟨some 38, none, .ldn 24 3 (.t 4)⟩,
        ⟨some 39, none, .ldn 24 3 (.t 5)⟩,
        ⟨some 40, none, .build 46 [.v (.int .i64 0), .v (.int .i64 0), .v (.int .i64 0), .cap 3 40 [], .v (.int .i64 0), .v (.int .i64 0), .cap 3 40 [], .cap 6 80 [], .cap 6 96 [], .v (.int .i64 0)] [(0, 0, 1, .k (.int .i64 2)), (1, 1, 3, .t 38), (2, 4, 3, .t 39)]⟩,
        ⟨none, none, .stn 46 10 (.t 2) (.t 40)⟩])
  (.ret))))))
def r44 : List RR := [.cn 2 10]
theorem ok44 : okFn Go.Proofs.Try.prog 44 41 c44 r44 1 = true := by kernel_rfl

/- porism/lib.Num -/
def c46b0 : SCode :=
  .seq (.reg
       [⟨some 19, none, .bin .lss (.t 18) (.t 17)⟩])
  (.seq (.cond (.t 19)
      (.skip)
      (.exit 0))
  (.seq (.block 1 (.dreg [0, 1, 3, 0, 8, 31, 63]
         [⟨some 20, none, .mv (.t 0)⟩,
          ⟨some 21, none, .bin .add (.t 20) (.k (.int .i64 2))⟩,
          ⟨some 22, none, .call (.f 73) [.t 21]⟩,
          ⟨some 23, none, .ldn 24 3 (.t 5)⟩,
          ⟨some 24, none, .lit 24 3 40 [.t 23]⟩,
          ⟨some 25, none, .call (.f 75) [.t 22, .t 24]⟩,
          ⟨none, none, .stn 24 3 (.t 5) (.t 25)⟩]))
  (.reg
     [⟨some 26, none, .bin .add (.t 18) (.k (.int .i64 1))⟩,
      ⟨some 18, none, .mv (.t 26)⟩])))
def c46 : SCode :=
  .seq (.reg
       [⟨some 4, none, .alloc 24 [.v (.int .i64 0), .v (.int .i64 0), .cap 3 40 []]⟩])
  (.seq (.reg
       [⟨some 6, none, .mv (.t 0)⟩,
        ⟨some 7, none, .call (.f 87) [.t 6]⟩,
        ⟨some 0, none, .mv (.t 7)⟩])
  (.seq (.seq (.reg
         [⟨some 8, none, .mv (.t 1)⟩,
          ⟨some 9, none, .bin .lss (.t 8) (.k (.int .i64 0))⟩,
          ⟨some 10, none, .mv (.t 9)⟩,
          ⟨some 11, some (10, false), .mv (.t 1)⟩,
          ⟨some 12, some (10, false), .bin .gtr (.t 11) (.k (.int .i64 30))⟩,
          ⟨some 13, none, .pick (.t 10) (.k (.bool true)) (.t 12)⟩])
    (.cond (.t 13)
      (.reg
         [⟨some 1, none, .mv (.k (.int .i64 0))⟩])
      (.skip)))
  (.seq (.reg
       [⟨some 14, none, .mv (.t 0)⟩,
        ⟨some 15, none, .bin .add (.t 14) (.k (.int .i64 1))⟩,
        ⟨some 16, none, .call (.f 73) [.t 15]⟩,
        ⟨some 5, none, .alloc 24 [.v (.int .i64 0), .v (.int .i64 0), .cap 3 40 []]⟩,
        ⟨none, none, .stn 24 3 (.t 5) (.t 16)⟩])
  (.seq (.seq (.reg
         [⟨some 17, none, .mv (.t 1)⟩,
          ⟨some 18, none, .mv (.k (.int .i64 0))⟩])
    (.block 0 (.loop c46b0)))
  (.seq (.reg
       [⟨some 27, none, .ldn 24 3 (.t 5)⟩,
        ⟨none, none, .stn 24 3 (.t 4) (.t 27)⟩])
  (.ret))))))
def r46 : List RR := [.cn 4 3]
theorem ok46 : okFn Go.Proofs.Try.prog 46 28 c46 r46 2 = true := by kernel_rfl

/- porism/porismref20.Num -/
def c47b0 : SCode :=
  .seq (.seq (.reg
         [⟨some 15, none, .mv (.t 6)⟩,
          ⟨some 16, none, .mv (.t 1)⟩,
          ⟨some 17, none, .bin .lss (.t 15) (.t 16)⟩])
    (.cond (.t 17)
      (.skip)
      (.exit 0)))
  (.seq (.block 1 (.dreg [0, 1, 3, 0, 15, 31]
         [⟨some 20, none, .mv (.t 0)⟩,
          ⟨some 21, none, .bin .add (.t 20) (.k (.int .i64 2))⟩,
          ⟨some 22, none, .call (.f 82) [.t 21]⟩,
          ⟨some 23, none, .ldn 24 3 (.t 5)⟩,
          ⟨some 24, none, .call (.f 84) [.t 22, .t 23]⟩,
          ⟨none, none, .stn 24 3 (.t 5) (.t 24)⟩]))
  (.reg
     [⟨some 18, none, .mv (.t 6)⟩,
      ⟨some 19, none, .bin .add (.t 18) (.k (.int .i64 1))⟩,
      ⟨some 6, none, .mv (.t 19)⟩]))
def c47 : SCode :=
  .seq (.reg
       [⟨some 4, none, .alloc 24 [.v (.int .i64 0), .v (.int .i64 0), .cap 3 40 []]⟩])
  (.seq (.reg
       [⟨some 7, none, .mv (.t 0)⟩,
        ⟨some 8, none, .call (.f 89) [.t 7]⟩,
        ⟨some 0, none, .mv (.t 8)⟩])
  (.seq (.reg
       [⟨some 9, none, .mv (.t 0)⟩,
        ⟨some 10, none, .bin .add (.t 9) (.k (.int .i64 1))⟩,
        ⟨some 11, none, .call (.f 82) [.t 10]⟩,
        ⟨some 5, none, .alloc 24 [.v (.int .i64 0), .v (.int .i64 0), .cap 3 40 []]⟩,
        ⟨none, none, .stn 24 3 (.t 5) (.t 11)⟩])
  (.seq (.seq (.reg
         [⟨some 12, none, .mv (.t 1)⟩,
          ⟨some 13, none, .call (.f 81) [.t 12, .k (.int .i64 0), .k (.int .i64 30)]⟩,
          ⟨some 14, none, .not (.t 13)⟩])
    (.cond (.t 14)
      (.reg
         [⟨some 1, none, .mv (.k (.int .i64 0))⟩])
      (.skip)))
  (.seq (.seq (.reg
         [⟨some 6, none, .mv (.k (.int .i64 0))⟩])
    (.block 0 (.loop c47b0)))
  (.seq (.reg
       [⟨some 25, none, .ldn 24 3 (.t 5)⟩,
        ⟨none, none, .stn 24 3 (.t 4) (.t 25)⟩])
  (.ret))))))
def r47 : List RR := [.cn 4 3]
theorem ok47 : okFn Go.Proofs.Try.prog 47 26 c47 r47 2 = true := by kernel_rfl

/- porism/porismlaw25.wakes -/
def c48 : SCode :=
  .seq (.reg
       [⟨some 0, none, .mv (.k (.bool false))⟩])
  (.seq (.reg
       [⟨some 4, none, .call (.f 46) [.k (.int .i64 0), .k (.int .i64 1)]⟩,
        ⟨some 1, none, .alloc 24 [.v (.int .i64 0), .v (.int .i64 0), .cap 3 40 []]⟩,
        ⟨none, none, .stn 24 3 (.t 1) (.t 4)⟩])
  (.seq (.reg
       [⟨some 6, none, .call (.f 32) [.k (.int .i64 0), .nil 1 8]⟩,
        ⟨some 5, none, .mv (.t 6)⟩,
        ⟨some 7, none, .ext (.t 5) 0⟩,
        ⟨some 8, none, .ext (.t 5) 1⟩,
        ⟨some 2, none, .alloc 46 [.v (.int .i64 0), .v (.int .i64 0), .v (.int .i64 0), .cap 3 40 [], .v (.int .i64 0), .v (.int .i64 0), .cap 3 40 [], .cap 6 80 [], .cap 6 96 [], .v (.int .i64 0)]⟩,
        ⟨none, none, .stn 46 10 (.t 2) (.t 7)⟩,
        ⟨some 3, none, .mv (.t 8)⟩])
  (.seq (.dreg [0, 1, 3, 7, 15, 31, 63, 127, 255, 511, 1023, 1023, 3071, 7167, 15359, 32767, 65535, 131071, 262143, 524287, 1048575, 2097151, 4194303, 8388607, 16777215]
       [⟨some 9, none, .mv (.t 3)⟩,
        ⟨some 10, none, .bin .eql (.t 9) (.k (.int .i64 0))⟩,
        ⟨some 11, none, .mv (.t 10)⟩,
        ⟨some 12, some (11, true), .fad 46 3 7 (.t 2)⟩,
        ⟨some 13, some (11, true), .fad 44 1 1 (.t 12)⟩,
        ⟨some 14, some (11, true), .ld1 42 (.t 13)⟩,
        ⟨some 15, some (11, true), .len 42 (.t 14)⟩,
        ⟨some 16, some (11, true), .bin .eql (.t 15) (.k (.int .i64 1))⟩,
        ⟨some 17, none, .pick (.t 11) (.t 16) (.k (.bool false))⟩,
        ⟨some 18, none, .mv (.t 17)⟩,
        ⟨some 19, some (18, true), .ldn 24 3 (.t 1)⟩,
        ⟨some 20, some (18, true), .call (.f 82) [.k (.int .i64 2)]⟩,
        ⟨some 21, some (18, true), .call (.f 82) [.k (.int .i64 1)]⟩,
        ⟨some 22, some (18, true), .lit 24 3 40 [.t 20, .t 21]⟩,
        ⟨some 23, some (18, true), .call (.f 25) [.k (.int .i64 6), .t 22]⟩,
        ⟨some 24, some (18, true), .call (.f 45) [.t 19, .t 23]⟩,
        ⟨some 25, none, .pick (.t 18) (.t 24) (.k (.bool false))⟩,
        ⟨some 26, none, .mv (.t 25)⟩,
        ⟨some 27, some (26, true), .call (.f 35) []⟩,
        ⟨some 28, some (26, true), .fldn 46 3 7 3 (.t 27)⟩,
        ⟨some 29, some (26, true), .fld1 44 1 1 (.t 28)⟩,
        ⟨some 30, some (26, true), .len 42 (.t 29)⟩,
        ⟨some 31, some (26, true), .bin .eql (.t 30) (.k (.int .i64 2))⟩,
        ⟨some 32, none, .pick (.t 26) (.t 31) (.k (.bool false))⟩,
        ⟨some 0, none, .mv (.t 32)⟩])
  (.ret))))
def r48 : List RR := [.t 0]
theorem ok48 : okFn Go.Proofs.Try.prog 48 33 c48 r48 0 = true := by kernel_rfl

/- porism/porismlaw25.LibExact -/
def c7 : SCode :=
  .seq (.reg
       [⟨some 8, none, .mv (.k (.bool false))⟩])
  (.seq (.seq (.reg
         [⟨some 13, none, .mv (.t 3)⟩,
          ⟨some 14, none, .len 38 (.t 13)⟩,
          ⟨some 15, none, .bin .gtr (.t 14) (.k (.int .i64 30))⟩])
    (.cond (.t 15)
      (.seq (.reg
           [⟨some 8, none, .mv (.k (.bool true))⟩])
      (.ret))
      (.skip)))
  (.seq (.reg
       [⟨some 17, none, .mv (.t 0)⟩,
        ⟨some 18, none, .mv (.t 3)⟩,
        ⟨some 19, none, .call (.f 32) [.t 17, .t 18]⟩,
        ⟨some 16, none, .mv (.t 19)⟩,
        ⟨some 20, none, .ext (.t 16) 0⟩,
        ⟨some 21, none, .ext (.t 16) 1⟩,
        ⟨some 9, none, .alloc 46 [.v (.int .i64 0), .v (.int .i64 0), .v (.int .i64 0), .cap 3 40 [], .v (.int .i64 0), .v (.int .i64 0), .cap 3 40 [], .cap 6 80 [], .cap 6 96 [], .v (.int .i64 0)]⟩,
        ⟨none, none, .stn 46 10 (.t 9) (.t 20)⟩,
        ⟨some 10, none, .mv (.t 21)⟩])
  (.seq (.reg
       [⟨some 23, none, .mv (.t 0)⟩,
        ⟨some 24, none, .mv (.t 3)⟩,
        ⟨some 25, none, .call (.f 33) [.t 23, .t 24]⟩,
        ⟨some 22, none, .mv (.t 25)⟩,
        ⟨some 26, none, .ext (.t 22) 0⟩,
        ⟨some 27, none, .ext (.t 22) 1⟩,
        ⟨some 11, none, .alloc 46 [.v (.int .i64 0), .v (.int .i64 0), .v (.int .i64 0), .cap 3 40 [], .v (.int .i64 0), .v (.int .i64 0), .cap 3 40 [], .cap 6 80 [], .cap 6 96 [], .v (.int .i64 0)]⟩,
        ⟨none, none, .stn 46 10 (.t 11) (.t 26)⟩,
        ⟨some 12, none, .mv (.t 27)⟩])
  (.seq (.reg
       [⟨some 28, none, .call (.f 35) []⟩,
        ⟨some 29, none, .call (.f 36) []⟩,
        ⟨some 30, none, .call (.f 34) [.t 28, .t 29]⟩,
        ⟨some 31, none, .mv (.t 30)⟩,
        ⟨some 32, some (31, true), .mv (.t 0)⟩,
        ⟨some 33, some (31, true), .call (.f 37) [.t 32]⟩,
        ⟨some 34, some (31, true), .mv (.t 0)⟩,
        ⟨some 35, some (31, true), .call (.f 38) [.t 34]⟩,
        ⟨some 36, some (31, true), .call (.f 34) [.t 33, .t 35]⟩,
        ⟨some 37, none, .pick (.t 31) (.t 36) (.k (.bool false))⟩,
        ⟨some 38, none, .mv (.t 37)⟩,
        ⟨some 39, some (38, true), .mv (.t 0)⟩,
        ⟨some 40, some (38, true), .mv (.t 1)⟩,
        ⟨some 41, some (38, true), .call (.f 39) [.t 39, .t 40]⟩,
        ⟨some 42, some (38, true), .mv (.t 0)⟩,
        ⟨some 43, some (38, true), .mv (.t 1)⟩,
        ⟨some 44, some (38, true), .call (.f 40) [.t 42, .t 43]⟩,
        ⟨some 45, some (38, true), .call (.f 34) [.t 41, .t 44]⟩,
        ⟨some 46, none, .pick (.t 38) (.t 45) (.k (.bool false))⟩,
        ⟨some 47, none, .mv (.t 46)⟩,
        ⟨some 48, some (47, true), .mv (.t 10)⟩,
        ⟨some 49, some (47, true), .mv (.t 12)⟩,
        ⟨some 50, some (47, true), .bin .eql (.t 48) (.t 49)⟩,
        ⟨some 51, none, .pick (.t 47) (.t 50) (.k (.bool false))⟩,
        ⟨some 52, none, .mv (.t 51)⟩,
        ⟨some 53, some (52, true), .ldn 46 10 (.t 9)⟩,
        ⟨some 54, some (52, true), .ldn 46 10 (.t 11)⟩,
        ⟨some 55, some (52, true), .call (.f 34) [.t 53, .t 54]⟩,
        ⟨some 56, none, .pick (.t 52) (.t 55) (.k (.bool false))⟩,
        ⟨some 57, none, .mv (.t 56)⟩,
        ⟨some 58, some (57, true), .mv (.t 0)⟩,
        ⟨some 59, some (57, true), .call (.f 41) [.t 58]⟩,
        ⟨some 60, some (57, true), .mv (.t 0)⟩,
        ⟨some 61, some (57, true), .call (.f 42) [.t 60]⟩,
        ⟨some 62, some (57, true), .call (.f 34) [.t 59, .t 61]⟩,
        ⟨some 63, none, .pick (.t 57) (.t 62) (.k (.bool false))⟩,
        ⟨some 64, none, .mv (.t 63)⟩,
        ⟨some 65, some (64, true), .mv (.t 0)⟩,
        ⟨some 66, some (64, true), .call (.f 43) [.t 65]⟩,
        ⟨some 67, some (64, true), .mv (.t 0)⟩,
        ⟨some 68, some (64, true), .call (.f 44) [.t 67]⟩,
        ⟨some 69, some (64, true), .call (.f 34) [.t 66, .t 68]⟩,
        ⟨some 70, none, .pick (.t 64) (.t 69) (.k (.bool false))⟩,
        ⟨some 71, none, .mv (.t 70)⟩,
        ⟨some 72, some (71, true), .mv (.t 0)⟩,
        ⟨some 73, some (71, true), .mv (.t 2)⟩,
        ⟨some 74, some (71, true), .call (.f 46) [.t 72, .t 73]⟩,
        ⟨some 75, some (71, true), .mv (.t 0)⟩,
        ⟨some 76, some (71, true), .mv (.t 2)⟩,
        ⟨some 77, some (71, true), .call (.f 47) [.t 75, .t 76]⟩,
        ⟨some 78, some (71, true), .call (.f 45) [.t 74, .t 77]⟩,
        ⟨some 79, none, .pick (.t 71) (.t 78) (.k (.bool false))⟩,
        ⟨some 80, none, .mv (.t 79)⟩,
        ⟨some 81, some (80, true), .call (.f 48) []⟩,
        ⟨some 82, none, .pick (.t 80) (.t 81) (.k (.bool false))⟩,
        ⟨some 8, none, .mv (.t 82)⟩])
  (.ret)))))
def r7 : List RR := [.t 8]
theorem ok7 : okFn Go.Proofs.Try.prog 7 83 c7 r7 4 = true := by kernel_rfl

end Go.Abs

namespace Go.Abs
open Go.Proofs

theorem fn77 (n : Int) (ts : List T) : Fn Try.prog 77 [ib n, tms ts] (am ⟨true, .zero, [], n, ts⟩) := by
  refine fn_of (base := 77000) ok77 rfl fun σ h0 hr => ?_
  have s0 := h0 0
  have s1 := h0 1
  rw [slots0] at s0
  rw [slots1] at s1
  simp only [tms, ib] at s0 s1
  clear h0 hr
  unfold c77
  simp [s0, s1, r77, am, A.cells, T.zero, T.kind, T.val, T.kids]
theorem fn83 (n : Int) (ts : List T) : Fn Try.prog 83 [ib n, tms ts] (am ⟨true, .zero, [], n, ts⟩) := by
  refine fn_of (base := 83000) ok83 rfl fun σ h0 hr => ?_
  have s0 := h0 0
  have s1 := h0 1
  have hlen := real_tms (hr (tms ts) (by simp))
  rw [slots0] at s0
  rw [slots1] at s1
  simp only [tms, ib] at s0 s1
  clear h0 hr
  unfold c83
  simp [s0, s1, r83, am, A.cells, T.zero, T.kind, T.val, T.kids, room, hlen]
theorem fn78 (t : T) : Fn Try.prog 78 [tm t] (am ⟨true, .zero, [t], 0, []⟩) := by
  refine fn_of (base := 78000) ok78 rfl fun σ h0 hr => ?_
  have s0 := h0 0
  rw [slots0] at s0
  simp only [tm] at s0
  clear h0 hr
  unfold c78
  simp [s0, r78, am, A.cells, T.zero, T.kind, T.val, T.kids, room]
theorem fn88 (t : T) : Fn Try.prog 88 [tm t] (am ⟨false, t, [], 0, []⟩) := by
  refine fn_of (base := 88000) ok88 rfl fun σ h0 hr => ?_
  have s0 := h0 0
  rw [slots0] at s0
  simp only [tm, cells_eq] at s0
  clear h0 hr
  unfold c88
  simp [s0, r88, am, A.cells, room]
theorem fn90 (t : T) : Fn Try.prog 90 [tm t] (am ⟨false, t, [], 0, []⟩) := by
  refine fn_of (base := 90000) ok90 rfl fun σ h0 hr => ?_
  have s0 := h0 0
  rw [slots0] at s0
  simp only [tm, cells_eq] at s0
  clear h0 hr
  unfold c90
  simp [s0, r90, am, A.cells, room]
theorem fn79 (ss : List S) (ks : List K) : Fn Try.prog 79 [sms ss, kms ks] (dm ⟨3, .zero, .zero, ⟨ss, ks, 0⟩⟩) := by
  refine fn_of (base := 79000) ok79 rfl fun σ h0 hr => ?_
  have s0 := h0 0
  have s1 := h0 1
  rw [slots0] at s0
  rw [slots1] at s1
  simp only [sms, kms] at s0 s1
  clear h0 hr
  unfold c79
  simp [s0, s1, r79, dm, D.cells, T.zero, T.kind, T.val, T.kids]
theorem fn85 (b : B) : Fn Try.prog 85 [bm b] (dm ⟨3, .zero, .zero, b⟩) := by
  refine fn_of (base := 85000) ok85 rfl fun σ h0 hr => ?_
  have s0 := h0 0
  rw [slots0] at s0
  simp only [bm, B.cells] at s0
  clear h0 hr
  unfold c85
  simp [s0, r85, dm, D.cells, T.zero, T.kind, T.val, T.kids]
end Go.Abs

namespace Go.Abs
open Go.Proofs

theorem baseI_le (n : Int) : 0 ≤ baseI n ∧ baseI n ≤ 65000 := by unfold baseI; split <;> omega
theorem keys_tm (t : T) : (tm t).keys2 = [] := by simp [tm]
theorem keys_am (a : A) : (am a).keys2 = [] := by simp [am, A.cells, AV.keys2, AV.keys1, keysCs, Cell.keys]
theorem keys_dm (a : D) : (dm a).keys2 = [] := by simp [dm, D.cells, AV.keys2, AV.keys1, keysCs, Cell.keys]
def d35 : D := (D.mk 3 .zero .zero (B.mk [(S.mk [] 0 false .zero)] [(K.mk 0 [] [] .zero), (K.mk 0 [(A.mk true .zero [] (0) [])] [] .zero)] 0))
theorem fn35 : Fn Try.prog 35 [] (dm (d35 )) := by
  refine fn_of (base := 35000) ok35 rfl fun σ h0 hr => ?_
  clear h0 hr
  unfold c35
  simp [tm, tms, ib, am, ams, sms, kms, bm, dm, cells_mk, A.cells, S.cells, K.cells, B.cells, D.cells, T.zero, T.kind, T.val, T.kids, spineT, room, keysCs, Cell.keys]
  refine ECall.fn (fn77 (0) []) (by simp [tm, tms, ib, am, ams, sms, kms, bm, dm, cells_mk, A.cells, S.cells, K.cells, B.cells, D.cells, T.zero, T.kind, T.val, T.kids, spineT, room, keysCs, Cell.keys]) (by simp [tm, tms, ib, am, ams, sms, kms, bm, dm, cells_mk, A.cells, S.cells, K.cells, B.cells, D.cells, T.zero, T.kind, T.val, T.kids, spineT, room, keysCs, Cell.keys]) (by first | exact keys_tm _ | exact keys_am _ | exact keys_dm _ | rfl) fun _ => ?_
  simp [tm, tms, ib, am, ams, sms, kms, bm, dm, cells_mk, A.cells, S.cells, K.cells, B.cells, D.cells, T.zero, T.kind, T.val, T.kids, spineT, room, keysCs, Cell.keys]
  refine ECall.fn (fn79 [(S.mk [] 0 false .zero)] [(K.mk 0 [] [] .zero), (K.mk 0 [(A.mk true .zero [] (0) [])] [] .zero)]) (by simp [tm, tms, ib, am, ams, sms, kms, bm, dm, cells_mk, A.cells, S.cells, K.cells, B.cells, D.cells, T.zero, T.kind, T.val, T.kids, spineT, room, keysCs, Cell.keys]) (by simp [tm, tms, ib, am, ams, sms, kms, bm, dm, cells_mk, A.cells, S.cells, K.cells, B.cells, D.cells, T.zero, T.kind, T.val, T.kids, spineT, room, keysCs, Cell.keys]) (by first | exact keys_tm _ | exact keys_am _ | exact keys_dm _ | rfl) fun _ => ?_
  simp [tm, tms, ib, am, ams, sms, kms, bm, dm, cells_mk, A.cells, S.cells, K.cells, B.cells, D.cells, T.zero, T.kind, T.val, T.kids, spineT, room, keysCs, Cell.keys]
  simp [tm, tms, ib, am, ams, sms, kms, bm, dm, cells_mk, A.cells, S.cells, K.cells, B.cells, D.cells, T.zero, T.kind, T.val, T.kids, spineT, room, keysCs, Cell.keys, r35, dm, D.cells, d35]
def d36 : D := (D.mk 3 .zero .zero (B.mk [(S.mk [] 0 false .zero)] [(K.mk 0 [] [] .zero), (K.mk 0 [(A.mk true .zero [] (0) [])] [] .zero)] 0))
theorem fn36 : Fn Try.prog 36 [] (dm (d36 )) := by
  refine fn_of (base := 36000) ok36 rfl fun σ h0 hr => ?_
  clear h0 hr
  unfold c36
  simp [tm, tms, ib, am, ams, sms, kms, bm, dm, cells_mk, A.cells, S.cells, K.cells, B.cells, D.cells, T.zero, T.kind, T.val, T.kids, spineT, room, keysCs, Cell.keys]
  refine ECall.fn (fn83 (0) []) (by simp [tm, tms, ib, am, ams, sms, kms, bm, dm, cells_mk, A.cells, S.cells, K.cells, B.cells, D.cells, T.zero, T.kind, T.val, T.kids, spineT, room, keysCs, Cell.keys]) (by simp [tm, tms, ib, am, ams, sms, kms, bm, dm, cells_mk, A.cells, S.cells, K.cells, B.cells, D.cells, T.zero, T.kind, T.val, T.kids, spineT, room, keysCs, Cell.keys]) (by first | exact keys_tm _ | exact keys_am _ | exact keys_dm _ | rfl) fun _ => ?_
  simp [tm, tms, ib, am, ams, sms, kms, bm, dm, cells_mk, A.cells, S.cells, K.cells, B.cells, D.cells, T.zero, T.kind, T.val, T.kids, spineT, room, keysCs, Cell.keys]
  refine ECall.fn (fn85 (B.mk [(S.mk [] 0 false .zero)] [(K.mk 0 [] [] .zero), (K.mk 0 [(A.mk true .zero [] (0) [])] [] .zero)] 0)) (by simp [tm, tms, ib, am, ams, sms, kms, bm, dm, cells_mk, A.cells, S.cells, K.cells, B.cells, D.cells, T.zero, T.kind, T.val, T.kids, spineT, room, keysCs, Cell.keys]) (by simp [tm, tms, ib, am, ams, sms, kms, bm, dm, cells_mk, A.cells, S.cells, K.cells, B.cells, D.cells, T.zero, T.kind, T.val, T.kids, spineT, room, keysCs, Cell.keys]) (by first | exact keys_tm _ | exact keys_am _ | exact keys_dm _ | rfl) fun _ => ?_
  simp [tm, tms, ib, am, ams, sms, kms, bm, dm, cells_mk, A.cells, S.cells, K.cells, B.cells, D.cells, T.zero, T.kind, T.val, T.kids, spineT, room, keysCs, Cell.keys]
  simp [tm, tms, ib, am, ams, sms, kms, bm, dm, cells_mk, A.cells, S.cells, K.cells, B.cells, D.cells, T.zero, T.kind, T.val, T.kids, spineT, room, keysCs, Cell.keys, r36, dm, D.cells, d36]
def d37 (n : Int) : D := (D.mk 3 .zero .zero (B.mk [(S.mk [(A.mk false (.mk 3 (baseI n) []) [] 0 [])] 0 false .zero)] [(K.mk 0 [] [(.mk 3 (baseI n + 1) [])] .zero), (K.mk 0 [(A.mk false (.mk 3 (baseI n) []) [] 0 []), (A.mk false (.mk 3 (baseI n) []) [] 0 []), (A.mk true .zero [] (0) [(.mk 1 (1) [])])] [(.mk 6 0 [(.mk 3 (baseI n + 2) []), (.mk 1 (2) [])])] .zero)] 0))
theorem fn37 (n : Int) : Fn Try.prog 37 [ib n] (dm (d37 n)) := by
  refine fn_of (base := 37000) ok37 rfl fun σ h0 hr => ?_
  have s0 : σ.sl 0 = ib n := h0 0
  simp only [ib] at s0
  clear h0 hr
  have hb_n := baseI_le n
  have w_n_1 : IntKind.wrap .i64 (baseI n + 1) = baseI n + 1 := wrap_id (by omega) (by omega)
  have w_n_2 : IntKind.wrap .i64 (baseI n + 2) = baseI n + 2 := wrap_id (by omega) (by omega)
  unfold c37
  simp [tm, tms, ib, am, ams, sms, kms, bm, dm, cells_mk, A.cells, S.cells, K.cells, B.cells, D.cells, T.zero, T.kind, T.val, T.kids, spineT, room, keysCs, Cell.keys, s0, w_n_1, w_n_2]
  refine ECall.fn (fn87 (n)) (by simp [tm, tms, ib, am, ams, sms, kms, bm, dm, cells_mk, A.cells, S.cells, K.cells, B.cells, D.cells, T.zero, T.kind, T.val, T.kids, spineT, room, keysCs, Cell.keys]) (by simp [tm, tms, ib, am, ams, sms, kms, bm, dm, cells_mk, A.cells, S.cells, K.cells, B.cells, D.cells, T.zero, T.kind, T.val, T.kids, spineT, room, keysCs, Cell.keys]) (by first | exact keys_tm _ | exact keys_am _ | exact keys_dm _ | rfl) fun _ => ?_
  simp [tm, tms, ib, am, ams, sms, kms, bm, dm, cells_mk, A.cells, S.cells, K.cells, B.cells, D.cells, T.zero, T.kind, T.val, T.kids, spineT, room, keysCs, Cell.keys, s0, w_n_1, w_n_2]
  refine ECall.fn (fn73 (baseI n)) (by simp [tm, tms, ib, am, ams, sms, kms, bm, dm, cells_mk, A.cells, S.cells, K.cells, B.cells, D.cells, T.zero, T.kind, T.val, T.kids, spineT, room, keysCs, Cell.keys]) (by simp [tm, tms, ib, am, ams, sms, kms, bm, dm, cells_mk, A.cells, S.cells, K.cells, B.cells, D.cells, T.zero, T.kind, T.val, T.kids, spineT, room, keysCs, Cell.keys]) (by first | exact keys_tm _ | exact keys_am _ | exact keys_dm _ | rfl) fun _ => ?_
  simp [tm, tms, ib, am, ams, sms, kms, bm, dm, cells_mk, A.cells, S.cells, K.cells, B.cells, D.cells, T.zero, T.kind, T.val, T.kids, spineT, room, keysCs, Cell.keys, s0, w_n_1, w_n_2]
  refine ECall.fn (fn88 (.mk 3 (baseI n) [])) (by simp [tm, tms, ib, am, ams, sms, kms, bm, dm, cells_mk, A.cells, S.cells, K.cells, B.cells, D.cells, T.zero, T.kind, T.val, T.kids, spineT, room, keysCs, Cell.keys]) (by simp [tm, tms, ib, am, ams, sms, kms, bm, dm, cells_mk, A.cells, S.cells, K.cells, B.cells, D.cells, T.zero, T.kind, T.val, T.kids, spineT, room, keysCs, Cell.keys]) (by first | exact keys_tm _ | exact keys_am _ | exact keys_dm _ | rfl) fun _ => ?_
  simp [tm, tms, ib, am, ams, sms, kms, bm, dm, cells_mk, A.cells, S.cells, K.cells, B.cells, D.cells, T.zero, T.kind, T.val, T.kids, spineT, room, keysCs, Cell.keys, s0, w_n_1, w_n_2]
  refine ECall.fn (fn73 (baseI n)) (by simp [tm, tms, ib, am, ams, sms, kms, bm, dm, cells_mk, A.cells, S.cells, K.cells, B.cells, D.cells, T.zero, T.kind, T.val, T.kids, spineT, room, keysCs, Cell.keys]) (by simp [tm, tms, ib, am, ams, sms, kms, bm, dm, cells_mk, A.cells, S.cells, K.cells, B.cells, D.cells, T.zero, T.kind, T.val, T.kids, spineT, room, keysCs, Cell.keys]) (by first | exact keys_tm _ | exact keys_am _ | exact keys_dm _ | rfl) fun _ => ?_
  simp [tm, tms, ib, am, ams, sms, kms, bm, dm, cells_mk, A.cells, S.cells, K.cells, B.cells, D.cells, T.zero, T.kind, T.val, T.kids, spineT, room, keysCs, Cell.keys, s0, w_n_1, w_n_2]
  refine ECall.fn (fn88 (.mk 3 (baseI n) [])) (by simp [tm, tms, ib, am, ams, sms, kms, bm, dm, cells_mk, A.cells, S.cells, K.cells, B.cells, D.cells, T.zero, T.kind, T.val, T.kids, spineT, room, keysCs, Cell.keys]) (by simp [tm, tms, ib, am, ams, sms, kms, bm, dm, cells_mk, A.cells, S.cells, K.cells, B.cells, D.cells, T.zero, T.kind, T.val, T.kids, spineT, room, keysCs, Cell.keys]) (by first | exact keys_tm _ | exact keys_am _ | exact keys_dm _ | rfl) fun _ => ?_
  simp [tm, tms, ib, am, ams, sms, kms, bm, dm, cells_mk, A.cells, S.cells, K.cells, B.cells, D.cells, T.zero, T.kind, T.val, T.kids, spineT, room, keysCs, Cell.keys, s0, w_n_1, w_n_2]
  refine ECall.fn (fn76 (1)) (by simp [tm, tms, ib, am, ams, sms, kms, bm, dm, cells_mk, A.cells, S.cells, K.cells, B.cells, D.cells, T.zero, T.kind, T.val, T.kids, spineT, room, keysCs, Cell.keys]) (by simp [tm, tms, ib, am, ams, sms, kms, bm, dm, cells_mk, A.cells, S.cells, K.cells, B.cells, D.cells, T.zero, T.kind, T.val, T.kids, spineT, room, keysCs, Cell.keys]) (by first | exact keys_tm _ | exact keys_am _ | exact keys_dm _ | rfl) fun _ => ?_
  simp [tm, tms, ib, am, ams, sms, kms, bm, dm, cells_mk, A.cells, S.cells, K.cells, B.cells, D.cells, T.zero, T.kind, T.val, T.kids, spineT, room, keysCs, Cell.keys, s0, w_n_1, w_n_2]
  refine ECall.fn (fn77 (0) [(.mk 1 (1) [])]) (by simp [tm, tms, ib, am, ams, sms, kms, bm, dm, cells_mk, A.cells, S.cells, K.cells, B.cells, D.cells, T.zero, T.kind, T.val, T.kids, spineT, room, keysCs, Cell.keys]) (by simp [tm, tms, ib, am, ams, sms, kms, bm, dm, cells_mk, A.cells, S.cells, K.cells, B.cells, D.cells, T.zero, T.kind, T.val, T.kids, spineT, room, keysCs, Cell.keys]) (by first | exact keys_tm _ | exact keys_am _ | exact keys_dm _ | rfl) fun _ => ?_
  simp [tm, tms, ib, am, ams, sms, kms, bm, dm, cells_mk, A.cells, S.cells, K.cells, B.cells, D.cells, T.zero, T.kind, T.val, T.kids, spineT, room, keysCs, Cell.keys, s0, w_n_1, w_n_2]
  refine ECall.fn (fn73 (baseI n + 2)) (by simp [tm, tms, ib, am, ams, sms, kms, bm, dm, cells_mk, A.cells, S.cells, K.cells, B.cells, D.cells, T.zero, T.kind, T.val, T.kids, spineT, room, keysCs, Cell.keys]) (by simp [tm, tms, ib, am, ams, sms, kms, bm, dm, cells_mk, A.cells, S.cells, K.cells, B.cells, D.cells, T.zero, T.kind, T.val, T.kids, spineT, room, keysCs, Cell.keys]) (by first | exact keys_tm _ | exact keys_am _ | exact keys_dm _ | rfl) fun _ => ?_
  simp [tm, tms, ib, am, ams, sms, kms, bm, dm, cells_mk, A.cells, S.cells, K.cells, B.cells, D.cells, T.zero, T.kind, T.val, T.kids, spineT, room, keysCs, Cell.keys, s0, w_n_1, w_n_2]
  refine ECall.fn (fn76 (2)) (by simp [tm, tms, ib, am, ams, sms, kms, bm, dm, cells_mk, A.cells, S.cells, K.cells, B.cells, D.cells, T.zero, T.kind, T.val, T.kids, spineT, room, keysCs, Cell.keys]) (by simp [tm, tms, ib, am, ams, sms, kms, bm, dm, cells_mk, A.cells, S.cells, K.cells, B.cells, D.cells, T.zero, T.kind, T.val, T.kids, spineT, room, keysCs, Cell.keys]) (by first | exact keys_tm _ | exact keys_am _ | exact keys_dm _ | rfl) fun _ => ?_
  simp [tm, tms, ib, am, ams, sms, kms, bm, dm, cells_mk, A.cells, S.cells, K.cells, B.cells, D.cells, T.zero, T.kind, T.val, T.kids, spineT, room, keysCs, Cell.keys, s0, w_n_1, w_n_2]
  refine ECall.fn (fn75 (.mk 3 (baseI n + 2) []) [(.mk 1 (2) [])]) (by simp [tm, tms, ib, am, ams, sms, kms, bm, dm, cells_mk, A.cells, S.cells, K.cells, B.cells, D.cells, T.zero, T.kind, T.val, T.kids, spineT, room, keysCs, Cell.keys]) (by simp [tm, tms, ib, am, ams, sms, kms, bm, dm, cells_mk, A.cells, S.cells, K.cells, B.cells, D.cells, T.zero, T.kind, T.val, T.kids, spineT, room, keysCs, Cell.keys]) (by first | exact keys_tm _ | exact keys_am _ | exact keys_dm _ | rfl) fun _ => ?_
  simp [tm, tms, ib, am, ams, sms, kms, bm, dm, cells_mk, A.cells, S.cells, K.cells, B.cells, D.cells, T.zero, T.kind, T.val, T.kids, spineT, room, keysCs, Cell.keys, s0, w_n_1, w_n_2]
  refine W_dregA ?_
  simp [tm, tms, ib, am, ams, sms, kms, bm, dm, cells_mk, A.cells, S.cells, K.cells, B.cells, D.cells, T.zero, T.kind, T.val, T.kids, spineT, room, keysCs, Cell.keys, s0, w_n_1, w_n_2]
  refine CallA.fn (fn73 (baseI n)) (by simp [tm, tms, ib, am, ams, sms, kms, bm, dm, cells_mk, A.cells, S.cells, K.cells, B.cells, D.cells, T.zero, T.kind, T.val, T.kids, spineT, room, keysCs, Cell.keys]) (by simp [tm, tms, ib, am, ams, sms, kms, bm, dm, cells_mk, A.cells, S.cells, K.cells, B.cells, D.cells, T.zero, T.kind, T.val, T.kids, spineT, room, keysCs, Cell.keys]) (by first | exact keys_tm _ | exact keys_am _ | exact keys_dm _ | rfl) ?_
  simp [tm, tms, ib, am, ams, sms, kms, bm, dm, cells_mk, A.cells, S.cells, K.cells, B.cells, D.cells, T.zero, T.kind, T.val, T.kids, spineT, room, keysCs, Cell.keys, s0, w_n_1, w_n_2]
  refine CallA.fn (fn88 (.mk 3 (baseI n) [])) (by simp [tm, tms, ib, am, ams, sms, kms, bm, dm, cells_mk, A.cells, S.cells, K.cells, B.cells, D.cells, T.zero, T.kind, T.val, T.kids, spineT, room, keysCs, Cell.keys]) (by simp [tm, tms, ib, am, ams, sms, kms, bm, dm, cells_mk, A.cells, S.cells, K.cells, B.cells, D.cells, T.zero, T.kind, T.val, T.kids, spineT, room, keysCs, Cell.keys]) (by first | exact keys_tm _ | exact keys_am _ | exact keys_dm _ | rfl) ?_
  simp [tm, tms, ib, am, ams, sms, kms, bm, dm, cells_mk, A.cells, S.cells, K.cells, B.cells, D.cells, T.zero, T.kind, T.val, T.kids, spineT, room, keysCs, Cell.keys, s0, w_n_1, w_n_2]
  refine CallA.fn (fn73 (baseI n + 1)) (by simp [tm, tms, ib, am, ams, sms, kms, bm, dm, cells_mk, A.cells, S.cells, K.cells, B.cells, D.cells, T.zero, T.kind, T.val, T.kids, spineT, room, keysCs, Cell.keys]) (by simp [tm, tms, ib, am, ams, sms, kms, bm, dm, cells_mk, A.cells, S.cells, K.cells, B.cells, D.cells, T.zero, T.kind, T.val, T.kids, spineT, room, keysCs, Cell.keys]) (by first | exact keys_tm _ | exact keys_am _ | exact keys_dm _ | rfl) ?_
  simp [tm, tms, ib, am, ams, sms, kms, bm, dm, cells_mk, A.cells, S.cells, K.cells, B.cells, D.cells, T.zero, T.kind, T.val, T.kids, spineT, room, keysCs, Cell.keys, s0, w_n_1, w_n_2]
  refine CallA.fn (fn79 [(S.mk [(A.mk false (.mk 3 (baseI n) []) [] 0 [])] 0 false .zero)] [(K.mk 0 [] [(.mk 3 (baseI n + 1) [])] .zero), (K.mk 0 [(A.mk false (.mk 3 (baseI n) []) [] 0 []), (A.mk false (.mk 3 (baseI n) []) [] 0 []), (A.mk true .zero [] (0) [(.mk 1 (1) [])])] [(.mk 6 0 [(.mk 3 (baseI n + 2) []), (.mk 1 (2) [])])] .zero)]) (by simp [tm, tms, ib, am, ams, sms, kms, bm, dm, cells_mk, A.cells, S.cells, K.cells, B.cells, D.cells, T.zero, T.kind, T.val, T.kids, spineT, room, keysCs, Cell.keys]) (by simp [tm, tms, ib, am, ams, sms, kms, bm, dm, cells_mk, A.cells, S.cells, K.cells, B.cells, D.cells, T.zero, T.kind, T.val, T.kids, spineT, room, keysCs, Cell.keys]) (by first | exact keys_tm _ | exact keys_am _ | exact keys_dm _ | rfl) ?_
  simp [tm, tms, ib, am, ams, sms, kms, bm, dm, cells_mk, A.cells, S.cells, K.cells, B.cells, D.cells, T.zero, T.kind, T.val, T.kids, spineT, room, keysCs, Cell.keys, s0, w_n_1, w_n_2]
  first | refine realC_n ?_ | refine ⟨rfl, realC_n ?_⟩
  simp [tm, tms, ib, am, ams, sms, kms, bm, dm, cells_mk, A.cells, S.cells, K.cells, B.cells, D.cells, T.zero, T.kind, T.val, T.kids, spineT, room, keysCs, Cell.keys, r37, dm, D.cells, d37]
def d38 (n : Int) : D := (D.mk 3 .zero .zero (B.mk [(S.mk [(A.mk false (.mk 3 (baseI n) []) [] 0 [])] 0 false .zero)] [(K.mk 0 [] [(.mk 3 (baseI n + 1) [])] .zero), (K.mk 0 [(A.mk false (.mk 3 (baseI n) []) [] 0 []), (A.mk false (.mk 3 (baseI n) []) [] 0 []), (A.mk true .zero [] (0) [(.mk 1 (1) [])])] [(.mk 6 0 [(.mk 3 (baseI n + 2) []), (.mk 1 (2) [])])] .zero)] 0))
theorem fn38 (n : Int) : Fn Try.prog 38 [ib n] (dm (d38 n)) := by
  refine fn_of (base := 38000) ok38 rfl fun σ h0 hr => ?_
  have s0 : σ.sl 0 = ib n := h0 0
  simp only [ib] at s0
  clear h0 hr
  have hb_n := baseI_le n
  have w_n_1 : IntKind.wrap .i64 (baseI n + 1) = baseI n + 1 := wrap_id (by omega) (by omega)
  have w_n_2 : IntKind.wrap .i64 (baseI n + 2) = baseI n + 2 := wrap_id (by omega) (by omega)
  unfold c38
  simp [tm, tms, ib, am, ams, sms, kms, bm, dm, cells_mk, A.cells, S.cells, K.cells, B.cells, D.cells, T.zero, T.kind, T.val, T.kids, spineT, room, keysCs, Cell.keys, s0, w_n_1, w_n_2]
  refine ECall.fn (fn89 (n)) (by simp [tm, tms, ib, am, ams, sms, kms, bm, dm, cells_mk, A.cells, S.cells, K.cells, B.cells, D.cells, T.zero, T.kind, T.val, T.kids, spineT, room, keysCs, Cell.keys]) (by simp [tm, tms, ib, am, ams, sms, kms, bm, dm, cells_mk, A.cells, S.cells, K.cells, B.cells, D.cells, T.zero, T.kind, T.val, T.kids, spineT, room, keysCs, Cell.keys]) (by first | exact keys_tm _ | exact keys_am _ | exact keys_dm _ | rfl) fun _ => ?_
  simp [tm, tms, ib, am, ams, sms, kms, bm, dm, cells_mk, A.cells, S.cells, K.cells, B.cells, D.cells, T.zero, T.kind, T.val, T.kids, spineT, room, keysCs, Cell.keys, s0, w_n_1, w_n_2]
  refine ECall.fn (fn82 (baseI n)) (by simp [tm, tms, ib, am, ams, sms, kms, bm, dm, cells_mk, A.cells, S.cells, K.cells, B.cells, D.cells, T.zero, T.kind, T.val, T.kids, spineT, room, keysCs, Cell.keys]) (by simp [tm, tms, ib, am, ams, sms, kms, bm, dm, cells_mk, A.cells, S.cells, K.cells, B.cells, D.cells, T.zero, T.kind, T.val, T.kids, spineT, room, keysCs, Cell.keys]) (by first | exact keys_tm _ | exact keys_am _ | exact keys_dm _ | rfl) fun _ => ?_
  simp [tm, tms, ib, am, ams, sms, kms, bm, dm, cells_mk, A.cells, S.cells, K.cells, B.cells, D.cells, T.zero, T.kind, T.val, T.kids, spineT, room, keysCs, Cell.keys, s0, w_n_1, w_n_2]
  refine ECall.fn (fn90 (.mk 3 (baseI n) [])) (by simp [tm, tms, ib, am, ams, sms, kms, bm, dm, cells_mk, A.cells, S.cells, K.cells, B.cells, D.cells, T.zero, T.kind, T.val, T.kids, spineT, room, keysCs, Cell.keys]) (by simp [tm, tms, ib, am, ams, sms, kms, bm, dm, cells_mk, A.cells, S.cells, K.cells, B.cells, D.cells, T.zero, T.kind, T.val, T.kids, spineT, room, keysCs, Cell.keys]) (by first | exact keys_tm _ | exact keys_am _ | exact keys_dm _ | rfl) fun _ => ?_
  simp [tm, tms, ib, am, ams, sms, kms, bm, dm, cells_mk, A.cells, S.cells, K.cells, B.cells, D.cells, T.zero, T.kind, T.val, T.kids, spineT, room, keysCs, Cell.keys, s0, w_n_1, w_n_2]
  refine ECall.fn (fn82 (baseI n + 1)) (by simp [tm, tms, ib, am, ams, sms, kms, bm, dm, cells_mk, A.cells, S.cells, K.cells, B.cells, D.cells, T.zero, T.kind, T.val, T.kids, spineT, room, keysCs, Cell.keys]) (by simp [tm, tms, ib, am, ams, sms, kms, bm, dm, cells_mk, A.cells, S.cells, K.cells, B.cells, D.cells, T.zero, T.kind, T.val, T.kids, spineT, room, keysCs, Cell.keys]) (by first | exact keys_tm _ | exact keys_am _ | exact keys_dm _ | rfl) fun _ => ?_
  simp [tm, tms, ib, am, ams, sms, kms, bm, dm, cells_mk, A.cells, S.cells, K.cells, B.cells, D.cells, T.zero, T.kind, T.val, T.kids, spineT, room, keysCs, Cell.keys, s0, w_n_1, w_n_2]
  refine ECall.fn (fn82 (baseI n)) (by simp [tm, tms, ib, am, ams, sms, kms, bm, dm, cells_mk, A.cells, S.cells, K.cells, B.cells, D.cells, T.zero, T.kind, T.val, T.kids, spineT, room, keysCs, Cell.keys]) (by simp [tm, tms, ib, am, ams, sms, kms, bm, dm, cells_mk, A.cells, S.cells, K.cells, B.cells, D.cells, T.zero, T.kind, T.val, T.kids, spineT, room, keysCs, Cell.keys]) (by first | exact keys_tm _ | exact keys_am _ | exact keys_dm _ | rfl) fun _ => ?_
  simp [tm, tms, ib, am, ams, sms, kms, bm, dm, cells_mk, A.cells, S.cells, K.cells, B.cells, D.cells, T.zero, T.kind, T.val, T.kids, spineT, room, keysCs, Cell.keys, s0, w_n_1, w_n_2]
  refine ECall.fn (fn90 (.mk 3 (baseI n) [])) (by simp [tm, tms, ib, am, ams, sms, kms, bm, dm, cells_mk, A.cells, S.cells, K.cells, B.cells, D.cells, T.zero, T.kind, T.val, T.kids, spineT, room, keysCs, Cell.keys]) (by simp [tm, tms, ib, am, ams, sms, kms, bm, dm, cells_mk, A.cells, S.cells, K.cells, B.cells, D.cells, T.zero, T.kind, T.val, T.kids, spineT, room, keysCs, Cell.keys]) (by first | exact keys_tm _ | exact keys_am _ | exact keys_dm _ | rfl) fun _ => ?_
  simp [tm, tms, ib, am, ams, sms, kms, bm, dm, cells_mk, A.cells, S.cells, K.cells, B.cells, D.cells, T.zero, T.kind, T.val, T.kids, spineT, room, keysCs, Cell.keys, s0, w_n_1, w_n_2]
  refine ECall.fn (fn82 (baseI n)) (by simp [tm, tms, ib, am, ams, sms, kms, bm, dm, cells_mk, A.cells, S.cells, K.cells, B.cells, D.cells, T.zero, T.kind, T.val, T.kids, spineT, room, keysCs, Cell.keys]) (by simp [tm, tms, ib, am, ams, sms, kms, bm, dm, cells_mk, A.cells, S.cells, K.cells, B.cells, D.cells, T.zero, T.kind, T.val, T.kids, spineT, room, keysCs, Cell.keys]) (by first | exact keys_tm _ | exact keys_am _ | exact keys_dm _ | rfl) fun _ => ?_
  simp [tm, tms, ib, am, ams, sms, kms, bm, dm, cells_mk, A.cells, S.cells, K.cells, B.cells, D.cells, T.zero, T.kind, T.val, T.kids, spineT, room, keysCs, Cell.keys, s0, w_n_1, w_n_2]
  refine ECall.fn (fn90 (.mk 3 (baseI n) [])) (by simp [tm, tms, ib, am, ams, sms, kms, bm, dm, cells_mk, A.cells, S.cells, K.cells, B.cells, D.cells, T.zero, T.kind, T.val, T.kids, spineT, room, keysCs, Cell.keys]) (by simp [tm, tms, ib, am, ams, sms, kms, bm, dm, cells_mk, A.cells, S.cells, K.cells, B.cells, D.cells, T.zero, T.kind, T.val, T.kids, spineT, room, keysCs, Cell.keys]) (by first | exact keys_tm _ | exact keys_am _ | exact keys_dm _ | rfl) fun _ => ?_
  simp [tm, tms, ib, am, ams, sms, kms, bm, dm, cells_mk, A.cells, S.cells, K.cells, B.cells, D.cells, T.zero, T.kind, T.val, T.kids, spineT, room, keysCs, Cell.keys, s0, w_n_1, w_n_2]
  refine ECall.fn (fn66 (1)) (by simp [tm, tms, ib, am, ams, sms, kms, bm, dm, cells_mk, A.cells, S.cells, K.cells, B.cells, D.cells, T.zero, T.kind, T.val, T.kids, spineT, room, keysCs, Cell.keys]) (by simp [tm, tms, ib, am, ams, sms, kms, bm, dm, cells_mk, A.cells, S.cells, K.cells, B.cells, D.cells, T.zero, T.kind, T.val, T.kids, spineT, room, keysCs, Cell.keys]) (by first | exact keys_tm _ | exact keys_am _ | exact keys_dm _ | rfl) fun _ => ?_
  simp [tm, tms, ib, am, ams, sms, kms, bm, dm, cells_mk, A.cells, S.cells, K.cells, B.cells, D.cells, T.zero, T.kind, T.val, T.kids, spineT, room, keysCs, Cell.keys, s0, w_n_1, w_n_2]
  refine ECall.fn (fn83 (0) [(.mk 1 (1) [])]) (by simp [tm, tms, ib, am, ams, sms, kms, bm, dm, cells_mk, A.cells, S.cells, K.cells, B.cells, D.cells, T.zero, T.kind, T.val, T.kids, spineT, room, keysCs, Cell.keys]) (by simp [tm, tms, ib, am, ams, sms, kms, bm, dm, cells_mk, A.cells, S.cells, K.cells, B.cells, D.cells, T.zero, T.kind, T.val, T.kids, spineT, room, keysCs, Cell.keys]) (by first | exact keys_tm _ | exact keys_am _ | exact keys_dm _ | rfl) fun _ => ?_
  simp [tm, tms, ib, am, ams, sms, kms, bm, dm, cells_mk, A.cells, S.cells, K.cells, B.cells, D.cells, T.zero, T.kind, T.val, T.kids, spineT, room, keysCs, Cell.keys, s0, w_n_1, w_n_2]
  refine ECall.fn (fn82 (baseI n + 2)) (by simp [tm, tms, ib, am, ams, sms, kms, bm, dm, cells_mk, A.cells, S.cells, K.cells, B.cells, D.cells, T.zero, T.kind, T.val, T.kids, spineT, room, keysCs, Cell.keys]) (by simp [tm, tms, ib, am, ams, sms, kms, bm, dm, cells_mk, A.cells, S.cells, K.cells, B.cells, D.cells, T.zero, T.kind, T.val, T.kids, spineT, room, keysCs, Cell.keys]) (by first | exact keys_tm _ | exact keys_am _ | exact keys_dm _ | rfl) fun _ => ?_
  simp [tm, tms, ib, am, ams, sms, kms, bm, dm, cells_mk, A.cells, S.cells, K.cells, B.cells, D.cells, T.zero, T.kind, T.val, T.kids, spineT, room, keysCs, Cell.keys, s0, w_n_1, w_n_2]
  refine ECall.fn (fn66 (2)) (by simp [tm, tms, ib, am, ams, sms, kms, bm, dm, cells_mk, A.cells, S.cells, K.cells, B.cells, D.cells, T.zero, T.kind, T.val, T.kids, spineT, room, keysCs, Cell.keys]) (by simp [tm, tms, ib, am, ams, sms, kms, bm, dm, cells_mk, A.cells, S.cells, K.cells, B.cells, D.cells, T.zero, T.kind, T.val, T.kids, spineT, room, keysCs, Cell.keys]) (by first | exact keys_tm _ | exact keys_am _ | exact keys_dm _ | rfl) fun _ => ?_
  simp [tm, tms, ib, am, ams, sms, kms, bm, dm, cells_mk, A.cells, S.cells, K.cells, B.cells, D.cells, T.zero, T.kind, T.val, T.kids, spineT, room, keysCs, Cell.keys, s0, w_n_1, w_n_2]
  refine ECall.fn (fn84 (.mk 3 (baseI n + 2) []) (.mk 1 (2) [])) (by simp [tm, tms, ib, am, ams, sms, kms, bm, dm, cells_mk, A.cells, S.cells, K.cells, B.cells, D.cells, T.zero, T.kind, T.val, T.kids, spineT, room, keysCs, Cell.keys]) (by simp [tm, tms, ib, am, ams, sms, kms, bm, dm, cells_mk, A.cells, S.cells, K.cells, B.cells, D.cells, T.zero, T.kind, T.val, T.kids, spineT, room, keysCs, Cell.keys]) (by first | exact keys_tm _ | exact keys_am _ | exact keys_dm _ | rfl) fun _ => ?_
  simp [tm, tms, ib, am, ams, sms, kms, bm, dm, cells_mk, A.cells, S.cells, K.cells, B.cells, D.cells, T.zero, T.kind, T.val, T.kids, spineT, room, keysCs, Cell.keys, s0, w_n_1, w_n_2]
  refine ECall.fn (fn85 (B.mk [(S.mk [(A.mk false (.mk 3 (baseI n) []) [] 0 [])] 0 false .zero)] [(K.mk 0 [] [(.mk 3 (baseI n + 1) [])] .zero), (K.mk 0 [(A.mk false (.mk 3 (baseI n) []) [] 0 []), (A.mk false (.mk 3 (baseI n) []) [] 0 []), (A.mk true .zero [] (0) [(.mk 1 (1) [])])] [(.mk 6 0 [(.mk 3 (baseI n + 2) []), (.mk 1 (2) [])])] .zero)] 0)) (by simp [tm, tms, ib, am, ams, sms, kms, bm, dm, cells_mk, A.cells, S.cells, K.cells, B.cells, D.cells, T.zero, T.kind, T.val, T.kids, spineT, room, keysCs, Cell.keys]) (by simp [tm, tms, ib, am, ams, sms, kms, bm, dm, cells_mk, A.cells, S.cells, K.cells, B.cells, D.cells, T.zero, T.kind, T.val, T.kids, spineT, room, keysCs, Cell.keys]) (by first | exact keys_tm _ | exact keys_am _ | exact keys_dm _ | rfl) fun _ => ?_
  simp [tm, tms, ib, am, ams, sms, kms, bm, dm, cells_mk, A.cells, S.cells, K.cells, B.cells, D.cells, T.zero, T.kind, T.val, T.kids, spineT, room, keysCs, Cell.keys, s0, w_n_1, w_n_2]
  simp [tm, tms, ib, am, ams, sms, kms, bm, dm, cells_mk, A.cells, S.cells, K.cells, B.cells, D.cells, T.zero, T.kind, T.val, T.kids, spineT, room, keysCs, Cell.keys, r38, dm, D.cells, d38]
def d39 (n k : Int) : D := (D.mk 3 .zero .zero (B.mk [(S.mk [] 0 false .zero)] [(K.mk 0 [(A.mk false (.mk 3 (baseI n) []) [] 0 []), (A.mk true .zero [(.mk 6 0 [(.mk 3 (baseI k) []), (.mk 1 (0) [])])] 0 [])] [] .zero)] 0))
theorem fn39 (n k : Int) : Fn Try.prog 39 [ib n, ib k] (dm (d39 n k)) := by
  refine fn_of (base := 39000) ok39 rfl fun σ h0 hr => ?_
  have s0 : σ.sl 0 = ib n := h0 0
  have s1 : σ.sl 1 = ib k := h0 1
  simp only [ib] at s0 s1
  clear h0 hr
  unfold c39
  simp [tm, tms, ib, am, ams, sms, kms, bm, dm, cells_mk, A.cells, S.cells, K.cells, B.cells, D.cells, T.zero, T.kind, T.val, T.kids, spineT, room, keysCs, Cell.keys, s0, s1]
  refine ECall.fn (fn87 (n)) (by simp [tm, tms, ib, am, ams, sms, kms, bm, dm, cells_mk, A.cells, S.cells, K.cells, B.cells, D.cells, T.zero, T.kind, T.val, T.kids, spineT, room, keysCs, Cell.keys]) (by simp [tm, tms, ib, am, ams, sms, kms, bm, dm, cells_mk, A.cells, S.cells, K.cells, B.cells, D.cells, T.zero, T.kind, T.val, T.kids, spineT, room, keysCs, Cell.keys]) (by first | exact keys_tm _ | exact keys_am _ | exact keys_dm _ | rfl) fun _ => ?_
  simp [tm, tms, ib, am, ams, sms, kms, bm, dm, cells_mk, A.cells, S.cells, K.cells, B.cells, D.cells, T.zero, T.kind, T.val, T.kids, spineT, room, keysCs, Cell.keys, s0, s1]
  refine ECall.fn (fn73 (baseI n)) (by simp [tm, tms, ib, am, ams, sms, kms, bm, dm, cells_mk, A.cells, S.cells, K.cells, B.cells, D.cells, T.zero, T.kind, T.val, T.kids, spineT, room, keysCs, Cell.keys]) (by simp [tm, tms, ib, am, ams, sms, kms, bm, dm, cells_mk, A.cells, S.cells, K.cells, B.cells, D.cells, T.zero, T.kind, T.val, T.kids, spineT, room, keysCs, Cell.keys]) (by first | exact keys_tm _ | exact keys_am _ | exact keys_dm _ | rfl) fun _ => ?_
  simp [tm, tms, ib, am, ams, sms, kms, bm, dm, cells_mk, A.cells, S.cells, K.cells, B.cells, D.cells, T.zero, T.kind, T.val, T.kids, spineT, room, keysCs, Cell.keys, s0, s1]
  refine ECall.fn (fn88 (.mk 3 (baseI n) [])) (by simp [tm, tms, ib, am, ams, sms, kms, bm, dm, cells_mk, A.cells, S.cells, K.cells, B.cells, D.cells, T.zero, T.kind, T.val, T.kids, spineT, room, keysCs, Cell.keys]) (by simp [tm, tms, ib, am, ams, sms, kms, bm, dm, cells_mk, A.cells, S.cells, K.cells, B.cells, D.cells, T.zero, T.kind, T.val, T.kids, spineT, room, keysCs, Cell.keys]) (by first | exact keys_tm _ | exact keys_am _ | exact keys_dm _ | rfl) fun _ => ?_
  simp [tm, tms, ib, am, ams, sms, kms, bm, dm, cells_mk, A.cells, S.cells, K.cells, B.cells, D.cells, T.zero, T.kind, T.val, T.kids, spineT, room, keysCs, Cell.keys, s0, s1]
  refine ECall.fn (fn87 (k)) (by simp [tm, tms, ib, am, ams, sms, kms, bm, dm, cells_mk, A.cells, S.cells, K.cells, B.cells, D.cells, T.zero, T.kind, T.val, T.kids, spineT, room, keysCs, Cell.keys]) (by simp [tm, tms, ib, am, ams, sms, kms, bm, dm, cells_mk, A.cells, S.cells, K.cells, B.cells, D.cells, T.zero, T.kind, T.val, T.kids, spineT, room, keysCs, Cell.keys]) (by first | exact keys_tm _ | exact keys_am _ | exact keys_dm _ | rfl) fun _ => ?_
  simp [tm, tms, ib, am, ams, sms, kms, bm, dm, cells_mk, A.cells, S.cells, K.cells, B.cells, D.cells, T.zero, T.kind, T.val, T.kids, spineT, room, keysCs, Cell.keys, s0, s1]
  refine ECall.fn (fn73 (baseI k)) (by simp [tm, tms, ib, am, ams, sms, kms, bm, dm, cells_mk, A.cells, S.cells, K.cells, B.cells, D.cells, T.zero, T.kind, T.val, T.kids, spineT, room, keysCs, Cell.keys]) (by simp [tm, tms, ib, am, ams, sms, kms, bm, dm, cells_mk, A.cells, S.cells, K.cells, B.cells, D.cells, T.zero, T.kind, T.val, T.kids, spineT, room, keysCs, Cell.keys]) (by first | exact keys_tm _ | exact keys_am _ | exact keys_dm _ | rfl) fun _ => ?_
  simp [tm, tms, ib, am, ams, sms, kms, bm, dm, cells_mk, A.cells, S.cells, K.cells, B.cells, D.cells, T.zero, T.kind, T.val, T.kids, spineT, room, keysCs, Cell.keys, s0, s1]
  refine ECall.fn (fn76 (0)) (by simp [tm, tms, ib, am, ams, sms, kms, bm, dm, cells_mk, A.cells, S.cells, K.cells, B.cells, D.cells, T.zero, T.kind, T.val, T.kids, spineT, room, keysCs, Cell.keys]) (by simp [tm, tms, ib, am, ams, sms, kms, bm, dm, cells_mk, A.cells, S.cells, K.cells, B.cells, D.cells, T.zero, T.kind, T.val, T.kids, spineT, room, keysCs, Cell.keys]) (by first | exact keys_tm _ | exact keys_am _ | exact keys_dm _ | rfl) fun _ => ?_
  simp [tm, tms, ib, am, ams, sms, kms, bm, dm, cells_mk, A.cells, S.cells, K.cells, B.cells, D.cells, T.zero, T.kind, T.val, T.kids, spineT, room, keysCs, Cell.keys, s0, s1]
  refine ECall.fn (fn75 (.mk 3 (baseI k) []) [(.mk 1 (0) [])]) (by simp [tm, tms, ib, am, ams, sms, kms, bm, dm, cells_mk, A.cells, S.cells, K.cells, B.cells, D.cells, T.zero, T.kind, T.val, T.kids, spineT, room, keysCs, Cell.keys]) (by simp [tm, tms, ib, am, ams, sms, kms, bm, dm, cells_mk, A.cells, S.cells, K.cells, B.cells, D.cells, T.zero, T.kind, T.val, T.kids, spineT, room, keysCs, Cell.keys]) (by first | exact keys_tm _ | exact keys_am _ | exact keys_dm _ | rfl) fun _ => ?_
  simp [tm, tms, ib, am, ams, sms, kms, bm, dm, cells_mk, A.cells, S.cells, K.cells, B.cells, D.cells, T.zero, T.kind, T.val, T.kids, spineT, room, keysCs, Cell.keys, s0, s1]
  refine ECall.fn (fn78 (.mk 6 0 [(.mk 3 (baseI k) []), (.mk 1 (0) [])])) (by simp [tm, tms, ib, am, ams, sms, kms, bm, dm, cells_mk, A.cells, S.cells, K.cells, B.cells, D.cells, T.zero, T.kind, T.val, T.kids, spineT, room, keysCs, Cell.keys]) (by simp [tm, tms, ib, am, ams, sms, kms, bm, dm, cells_mk, A.cells, S.cells, K.cells, B.cells, D.cells, T.zero, T.kind, T.val, T.kids, spineT, room, keysCs, Cell.keys]) (by first | exact keys_tm _ | exact keys_am _ | exact keys_dm _ | rfl) fun _ => ?_
  simp [tm, tms, ib, am, ams, sms, kms, bm, dm, cells_mk, A.cells, S.cells, K.cells, B.cells, D.cells, T.zero, T.kind, T.val, T.kids, spineT, room, keysCs, Cell.keys, s0, s1]
  refine ECall.fn (fn79 [(S.mk [] 0 false .zero)] [(K.mk 0 [(A.mk false (.mk 3 (baseI n) []) [] 0 []), (A.mk true .zero [(.mk 6 0 [(.mk 3 (baseI k) []), (.mk 1 (0) [])])] 0 [])] [] .zero)]) (by simp [tm, tms, ib, am, ams, sms, kms, bm, dm, cells_mk, A.cells, S.cells, K.cells, B.cells, D.cells, T.zero, T.kind, T.val, T.kids, spineT, room, keysCs, Cell.keys]) (by simp [tm, tms, ib, am, ams, sms, kms, bm, dm, cells_mk, A.cells, S.cells, K.cells, B.cells, D.cells, T.zero, T.kind, T.val, T.kids, spineT, room, keysCs, Cell.keys]) (by first | exact keys_tm _ | exact keys_am _ | exact keys_dm _ | rfl) fun _ => ?_
  simp [tm, tms, ib, am, ams, sms, kms, bm, dm, cells_mk, A.cells, S.cells, K.cells, B.cells, D.cells, T.zero, T.kind, T.val, T.kids, spineT, room, keysCs, Cell.keys, s0, s1]
  simp [tm, tms, ib, am, ams, sms, kms, bm, dm, cells_mk, A.cells, S.cells, K.cells, B.cells, D.cells, T.zero, T.kind, T.val, T.kids, spineT, room, keysCs, Cell.keys, r39, dm, D.cells, d39]
def d40 (n k : Int) : D := (D.mk 3 .zero .zero (B.mk [(S.mk [] 0 false .zero)] [(K.mk 0 [(A.mk false (.mk 3 (baseI n) []) [] 0 []), (A.mk true .zero [(.mk 6 0 [(.mk 3 (baseI k) []), (.mk 1 (0) [])])] 0 [])] [] .zero)] 0))
theorem fn40 (n k : Int) : Fn Try.prog 40 [ib n, ib k] (dm (d40 n k)) := by
  refine fn_of (base := 40000) ok40 rfl fun σ h0 hr => ?_
  have s0 : σ.sl 0 = ib n := h0 0
  have s1 : σ.sl 1 = ib k := h0 1
  simp only [ib] at s0 s1
  clear h0 hr
  unfold c40
  simp [tm, tms, ib, am, ams, sms, kms, bm, dm, cells_mk, A.cells, S.cells, K.cells, B.cells, D.cells, T.zero, T.kind, T.val, T.kids, spineT, room, keysCs, Cell.keys, s0, s1]
  refine ECall.fn (fn89 (n)) (by simp [tm, tms, ib, am, ams, sms, kms, bm, dm, cells_mk, A.cells, S.cells, K.cells, B.cells, D.cells, T.zero, T.kind, T.val, T.kids, spineT, room, keysCs, Cell.keys]) (by simp [tm, tms, ib, am, ams, sms, kms, bm, dm, cells_mk, A.cells, S.cells, K.cells, B.cells, D.cells, T.zero, T.kind, T.val, T.kids, spineT, room, keysCs, Cell.keys]) (by first | exact keys_tm _ | exact keys_am _ | exact keys_dm _ | rfl) fun _ => ?_
  simp [tm, tms, ib, am, ams, sms, kms, bm, dm, cells_mk, A.cells, S.cells, K.cells, B.cells, D.cells, T.zero, T.kind, T.val, T.kids, spineT, room, keysCs, Cell.keys, s0, s1]
  refine ECall.fn (fn89 (k)) (by simp [tm, tms, ib, am, ams, sms, kms, bm, dm, cells_mk, A.cells, S.cells, K.cells, B.cells, D.cells, T.zero, T.kind, T.val, T.kids, spineT, room, keysCs, Cell.keys]) (by simp [tm, tms, ib, am, ams, sms, kms, bm, dm, cells_mk, A.cells, S.cells, K.cells, B.cells, D.cells, T.zero, T.kind, T.val, T.kids, spineT, room, keysCs, Cell.keys]) (by first | exact keys_tm _ | exact keys_am _ | exact keys_dm _ | rfl) fun _ => ?_
  simp [tm, tms, ib, am, ams, sms, kms, bm, dm, cells_mk, A.cells, S.cells, K.cells, B.cells, D.cells, T.zero, T.kind, T.val, T.kids, spineT, room, keysCs, Cell.keys, s0, s1]
  refine ECall.fn (fn82 (baseI n)) (by simp [tm, tms, ib, am, ams, sms, kms, bm, dm, cells_mk, A.cells, S.cells, K.cells, B.cells, D.cells, T.zero, T.kind, T.val, T.kids, spineT, room, keysCs, Cell.keys]) (by simp [tm, tms, ib, am, ams, sms, kms, bm, dm, cells_mk, A.cells, S.cells, K.cells, B.cells, D.cells, T.zero, T.kind, T.val, T.kids, spineT, room, keysCs, Cell.keys]) (by first | exact keys_tm _ | exact keys_am _ | exact keys_dm _ | rfl) fun _ => ?_
  simp [tm, tms, ib, am, ams, sms, kms, bm, dm, cells_mk, A.cells, S.cells, K.cells, B.cells, D.cells, T.zero, T.kind, T.val, T.kids, spineT, room, keysCs, Cell.keys, s0, s1]
  refine ECall.fn (fn90 (.mk 3 (baseI n) [])) (by simp [tm, tms, ib, am, ams, sms, kms, bm, dm, cells_mk, A.cells, S.cells, K.cells, B.cells, D.cells, T.zero, T.kind, T.val, T.kids, spineT, room, keysCs, Cell.keys]) (by simp [tm, tms, ib, am, ams, sms, kms, bm, dm, cells_mk, A.cells, S.cells, K.cells, B.cells, D.cells, T.zero, T.kind, T.val, T.kids, spineT, room, keysCs, Cell.keys]) (by first | exact keys_tm _ | exact keys_am _ | exact keys_dm _ | rfl) fun _ => ?_
  simp [tm, tms, ib, am, ams, sms, kms, bm, dm, cells_mk, A.cells, S.cells, K.cells, B.cells, D.cells, T.zero, T.kind, T.val, T.kids, spineT, room, keysCs, Cell.keys, s0, s1]
  refine ECall.fn (fn82 (baseI k)) (by simp [tm, tms, ib, am, ams, sms, kms, bm, dm, cells_mk, A.cells, S.cells, K.cells, B.cells, D.cells, T.zero, T.kind, T.val, T.kids, spineT, room, keysCs, Cell.keys]) (by simp [tm, tms, ib, am, ams, sms, kms, bm, dm, cells_mk, A.cells, S.cells, K.cells, B.cells, D.cells, T.zero, T.kind, T.val, T.kids, spineT, room, keysCs, Cell.keys]) (by first | exact keys_tm _ | exact keys_am _ | exact keys_dm _ | rfl) fun _ => ?_
  simp [tm, tms, ib, am, ams, sms, kms, bm, dm, cells_mk, A.cells, S.cells, K.cells, B.cells, D.cells, T.zero, T.kind, T.val, T.kids, spineT, room, keysCs, Cell.keys, s0, s1]
  refine ECall.fn (fn66 (0)) (by simp [tm, tms, ib, am, ams, sms, kms, bm, dm, cells_mk, A.cells, S.cells, K.cells, B.cells, D.cells, T.zero, T.kind, T.val, T.kids, spineT, room, keysCs, Cell.keys]) (by simp [tm, tms, ib, am, ams, sms, kms, bm, dm, cells_mk, A.cells, S.cells, K.cells, B.cells, D.cells, T.zero, T.kind, T.val, T.kids, spineT, room, keysCs, Cell.keys]) (by first | exact keys_tm _ | exact keys_am _ | exact keys_dm _ | rfl) fun _ => ?_
  simp [tm, tms, ib, am, ams, sms, kms, bm, dm, cells_mk, A.cells, S.cells, K.cells, B.cells, D.cells, T.zero, T.kind, T.val, T.kids, spineT, room, keysCs, Cell.keys, s0, s1]
  refine ECall.fn (fn84 (.mk 3 (baseI k) []) (.mk 1 (0) [])) (by simp [tm, tms, ib, am, ams, sms, kms, bm, dm, cells_mk, A.cells, S.cells, K.cells, B.cells, D.cells, T.zero, T.kind, T.val, T.kids, spineT, room, keysCs, Cell.keys]) (by simp [tm, tms, ib, am, ams, sms, kms, bm, dm, cells_mk, A.cells, S.cells, K.cells, B.cells, D.cells, T.zero, T.kind, T.val, T.kids, spineT, room, keysCs, Cell.keys]) (by first | exact keys_tm _ | exact keys_am _ | exact keys_dm _ | rfl) fun _ => ?_
  simp [tm, tms, ib, am, ams, sms, kms, bm, dm, cells_mk, A.cells, S.cells, K.cells, B.cells, D.cells, T.zero, T.kind, T.val, T.kids, spineT, room, keysCs, Cell.keys, s0, s1]
  refine ECall.fn (fn85 (B.mk [(S.mk [] 0 false .zero)] [(K.mk 0 [(A.mk false (.mk 3 (baseI n) []) [] 0 []), (A.mk true .zero [(.mk 6 0 [(.mk 3 (baseI k) []), (.mk 1 (0) [])])] 0 [])] [] .zero)] 0)) (by simp [tm, tms, ib, am, ams, sms, kms, bm, dm, cells_mk, A.cells, S.cells, K.cells, B.cells, D.cells, T.zero, T.kind, T.val, T.kids, spineT, room, keysCs, Cell.keys]) (by simp [tm, tms, ib, am, ams, sms, kms, bm, dm, cells_mk, A.cells, S.cells, K.cells, B.cells, D.cells, T.zero, T.kind, T.val, T.kids, spineT, room, keysCs, Cell.keys]) (by first | exact keys_tm _ | exact keys_am _ | exact keys_dm _ | rfl) fun _ => ?_
  simp [tm, tms, ib, am, ams, sms, kms, bm, dm, cells_mk, A.cells, S.cells, K.cells, B.cells, D.cells, T.zero, T.kind, T.val, T.kids, spineT, room, keysCs, Cell.keys, s0, s1]
  simp [tm, tms, ib, am, ams, sms, kms, bm, dm, cells_mk, A.cells, S.cells, K.cells, B.cells, D.cells, T.zero, T.kind, T.val, T.kids, spineT, room, keysCs, Cell.keys, r40, dm, D.cells, d40]
def d41 (n : Int) : D := (D.mk 3 .zero .zero (B.mk [(S.mk [] 0 false .zero), (S.mk [(A.mk true .zero [] (0) [])] 0 false .zero)] [(K.mk 0 [] [] .zero), (K.mk 0 [(A.mk true .zero [] (0) []), (A.mk true .zero [] (1) [(.mk 1 (0) [])])] [] .zero), (K.mk 1 [(A.mk true .zero [] (0) [])] [(.mk 1 (0) [])] .zero), (K.mk 1 [(A.mk true .zero [] (0) []), (A.mk true .zero [] (1) [(.mk 1 (0) [])]), (A.mk true .zero [] (1) [(.mk 6 0 [(.mk 6 0 [(.mk 3 (baseI n + 3) []), (.mk 1 (1) [])]), (.mk 1 (0) [])])])] [(.mk 1 (2) [])] .zero)] 0))
theorem fn41 (n : Int) : Fn Try.prog 41 [ib n] (dm (d41 n)) := by
  refine fn_of (base := 41000) ok41 rfl fun σ h0 hr => ?_
  have s0 : σ.sl 0 = ib n := h0 0
  simp only [ib] at s0
  clear h0 hr
  have hb_n := baseI_le n
  have w_n_3 : IntKind.wrap .i64 (baseI n + 3) = baseI n + 3 := wrap_id (by omega) (by omega)
  unfold c41
  simp [tm, tms, ib, am, ams, sms, kms, bm, dm, cells_mk, A.cells, S.cells, K.cells, B.cells, D.cells, T.zero, T.kind, T.val, T.kids, spineT, room, keysCs, Cell.keys, s0, w_n_3]
  refine ECall.fn (fn87 (n)) (by simp [tm, tms, ib, am, ams, sms, kms, bm, dm, cells_mk, A.cells, S.cells, K.cells, B.cells, D.cells, T.zero, T.kind, T.val, T.kids, spineT, room, keysCs, Cell.keys]) (by simp [tm, tms, ib, am, ams, sms, kms, bm, dm, cells_mk, A.cells, S.cells, K.cells, B.cells, D.cells, T.zero, T.kind, T.val, T.kids, spineT, room, keysCs, Cell.keys]) (by first | exact keys_tm _ | exact keys_am _ | exact keys_dm _ | rfl) fun _ => ?_
  simp [tm, tms, ib, am, ams, sms, kms, bm, dm, cells_mk, A.cells, S.cells, K.cells, B.cells, D.cells, T.zero, T.kind, T.val, T.kids, spineT, room, keysCs, Cell.keys, s0, w_n_3]
  refine ECall.fn (fn73 (baseI n + 3)) (by simp [tm, tms, ib, am, ams, sms, kms, bm, dm, cells_mk, A.cells, S.cells, K.cells, B.cells, D.cells, T.zero, T.kind, T.val, T.kids, spineT, room, keysCs, Cell.keys]) (by simp [tm, tms, ib, am, ams, sms, kms, bm, dm, cells_mk, A.cells, S.cells, K.cells, B.cells, D.cells, T.zero, T.kind, T.val, T.kids, spineT, room, keysCs, Cell.keys]) (by first | exact keys_tm _ | exact keys_am _ | exact keys_dm _ | rfl) fun _ => ?_
  simp [tm, tms, ib, am, ams, sms, kms, bm, dm, cells_mk, A.cells, S.cells, K.cells, B.cells, D.cells, T.zero, T.kind, T.val, T.kids, spineT, room, keysCs, Cell.keys, s0, w_n_3]
  refine W_dregA ?_
  simp [tm, tms, ib, am, ams, sms, kms, bm, dm, cells_mk, A.cells, S.cells, K.cells, B.cells, D.cells, T.zero, T.kind, T.val, T.kids, spineT, room, keysCs, Cell.keys, s0, w_n_3]
  refine CallA.fn (fn77 (0) []) (by simp [tm, tms, ib, am, ams, sms, kms, bm, dm, cells_mk, A.cells, S.cells, K.cells, B.cells, D.cells, T.zero, T.kind, T.val, T.kids, spineT, room, keysCs, Cell.keys]) (by simp [tm, tms, ib, am, ams, sms, kms, bm, dm, cells_mk, A.cells, S.cells, K.cells, B.cells, D.cells, T.zero, T.kind, T.val, T.kids, spineT, room, keysCs, Cell.keys]) (by first | exact keys_tm _ | exact keys_am _ | exact keys_dm _ | rfl) ?_
  simp [tm, tms, ib, am, ams, sms, kms, bm, dm, cells_mk, A.cells, S.cells, K.cells, B.cells, D.cells, T.zero, T.kind, T.val, T.kids, spineT, room, keysCs, Cell.keys, s0, w_n_3]
  refine CallA.fn (fn77 (0) []) (by simp [tm, tms, ib, am, ams, sms, kms, bm, dm, cells_mk, A.cells, S.cells, K.cells, B.cells, D.cells, T.zero, T.kind, T.val, T.kids, spineT, room, keysCs, Cell.keys]) (by simp [tm, tms, ib, am, ams, sms, kms, bm, dm, cells_mk, A.cells, S.cells, K.cells, B.cells, D.cells, T.zero, T.kind, T.val, T.kids, spineT, room, keysCs, Cell.keys]) (by first | exact keys_tm _ | exact keys_am _ | exact keys_dm _ | rfl) ?_
  simp [tm, tms, ib, am, ams, sms, kms, bm, dm, cells_mk, A.cells, S.cells, K.cells, B.cells, D.cells, T.zero, T.kind, T.val, T.kids, spineT, room, keysCs, Cell.keys, s0, w_n_3]
  refine CallA.fn (fn76 (0)) (by simp [tm, tms, ib, am, ams, sms, kms, bm, dm, cells_mk, A.cells, S.cells, K.cells, B.cells, D.cells, T.zero, T.kind, T.val, T.kids, spineT, room, keysCs, Cell.keys]) (by simp [tm, tms, ib, am, ams, sms, kms, bm, dm, cells_mk, A.cells, S.cells, K.cells, B.cells, D.cells, T.zero, T.kind, T.val, T.kids, spineT, room, keysCs, Cell.keys]) (by first | exact keys_tm _ | exact keys_am _ | exact keys_dm _ | rfl) ?_
  simp [tm, tms, ib, am, ams, sms, kms, bm, dm, cells_mk, A.cells, S.cells, K.cells, B.cells, D.cells, T.zero, T.kind, T.val, T.kids, spineT, room, keysCs, Cell.keys, s0, w_n_3]
  refine CallA.fn (fn77 (1) [(.mk 1 (0) [])]) (by simp [tm, tms, ib, am, ams, sms, kms, bm, dm, cells_mk, A.cells, S.cells, K.cells, B.cells, D.cells, T.zero, T.kind, T.val, T.kids, spineT, room, keysCs, Cell.keys]) (by simp [tm, tms, ib, am, ams, sms, kms, bm, dm, cells_mk, A.cells, S.cells, K.cells, B.cells, D.cells, T.zero, T.kind, T.val, T.kids, spineT, room, keysCs, Cell.keys]) (by first | exact keys_tm _ | exact keys_am _ | exact keys_dm _ | rfl) ?_
  simp [tm, tms, ib, am, ams, sms, kms, bm, dm, cells_mk, A.cells, S.cells, K.cells, B.cells, D.cells, T.zero, T.kind, T.val, T.kids, spineT, room, keysCs, Cell.keys, s0, w_n_3]
  refine CallA.fn (fn77 (0) []) (by simp [tm, tms, ib, am, ams, sms, kms, bm, dm, cells_mk, A.cells, S.cells, K.cells, B.cells, D.cells, T.zero, T.kind, T.val, T.kids, spineT, room, keysCs, Cell.keys]) (by simp [tm, tms, ib, am, ams, sms, kms, bm, dm, cells_mk, A.cells, S.cells, K.cells, B.cells, D.cells, T.zero, T.kind, T.val, T.kids, spineT, room, keysCs, Cell.keys]) (by first | exact keys_tm _ | exact keys_am _ | exact keys_dm _ | rfl) ?_
  simp [tm, tms, ib, am, ams, sms, kms, bm, dm, cells_mk, A.cells, S.cells, K.cells, B.cells, D.cells, T.zero, T.kind, T.val, T.kids, spineT, room, keysCs, Cell.keys, s0, w_n_3]
  refine CallA.fn (fn76 (0)) (by simp [tm, tms, ib, am, ams, sms, kms, bm, dm, cells_mk, A.cells, S.cells, K.cells, B.cells, D.cells, T.zero, T.kind, T.val, T.kids, spineT, room, keysCs, Cell.keys]) (by simp [tm, tms, ib, am, ams, sms, kms, bm, dm, cells_mk, A.cells, S.cells, K.cells, B.cells, D.cells, T.zero, T.kind, T.val, T.kids, spineT, room, keysCs, Cell.keys]) (by first | exact keys_tm _ | exact keys_am _ | exact keys_dm _ | rfl) ?_
  simp [tm, tms, ib, am, ams, sms, kms, bm, dm, cells_mk, A.cells, S.cells, K.cells, B.cells, D.cells, T.zero, T.kind, T.val, T.kids, spineT, room, keysCs, Cell.keys, s0, w_n_3]
  refine CallA.fn (fn77 (0) []) (by simp [tm, tms, ib, am, ams, sms, kms, bm, dm, cells_mk, A.cells, S.cells, K.cells, B.cells, D.cells, T.zero, T.kind, T.val, T.kids, spineT, room, keysCs, Cell.keys]) (by simp [tm, tms, ib, am, ams, sms, kms, bm, dm, cells_mk, A.cells, S.cells, K.cells, B.cells, D.cells, T.zero, T.kind, T.val, T.kids, spineT, room, keysCs, Cell.keys]) (by first | exact keys_tm _ | exact keys_am _ | exact keys_dm _ | rfl) ?_
  simp [tm, tms, ib, am, ams, sms, kms, bm, dm, cells_mk, A.cells, S.cells, K.cells, B.cells, D.cells, T.zero, T.kind, T.val, T.kids, spineT, room, keysCs, Cell.keys, s0, w_n_3]
  refine CallA.fn (fn76 (0)) (by simp [tm, tms, ib, am, ams, sms, kms, bm, dm, cells_mk, A.cells, S.cells, K.cells, B.cells, D.cells, T.zero, T.kind, T.val, T.kids, spineT, room, keysCs, Cell.keys]) (by simp [tm, tms, ib, am, ams, sms, kms, bm, dm, cells_mk, A.cells, S.cells, K.cells, B.cells, D.cells, T.zero, T.kind, T.val, T.kids, spineT, room, keysCs, Cell.keys]) (by first | exact keys_tm _ | exact keys_am _ | exact keys_dm _ | rfl) ?_
  simp [tm, tms, ib, am, ams, sms, kms, bm, dm, cells_mk, A.cells, S.cells, K.cells, B.cells, D.cells, T.zero, T.kind, T.val, T.kids, spineT, room, keysCs, Cell.keys, s0, w_n_3]
  refine CallA.fn (fn77 (1) [(.mk 1 (0) [])]) (by simp [tm, tms, ib, am, ams, sms, kms, bm, dm, cells_mk, A.cells, S.cells, K.cells, B.cells, D.cells, T.zero, T.kind, T.val, T.kids, spineT, room, keysCs, Cell.keys]) (by simp [tm, tms, ib, am, ams, sms, kms, bm, dm, cells_mk, A.cells, S.cells, K.cells, B.cells, D.cells, T.zero, T.kind, T.val, T.kids, spineT, room, keysCs, Cell.keys]) (by first | exact keys_tm _ | exact keys_am _ | exact keys_dm _ | rfl) ?_
  simp [tm, tms, ib, am, ams, sms, kms, bm, dm, cells_mk, A.cells, S.cells, K.cells, B.cells, D.cells, T.zero, T.kind, T.val, T.kids, spineT, room, keysCs, Cell.keys, s0, w_n_3]
  refine CallA.fn (fn76 (1)) (by simp [tm, tms, ib, am, ams, sms, kms, bm, dm, cells_mk, A.cells, S.cells, K.cells, B.cells, D.cells, T.zero, T.kind, T.val, T.kids, spineT, room, keysCs, Cell.keys]) (by simp [tm, tms, ib, am, ams, sms, kms, bm, dm, cells_mk, A.cells, S.cells, K.cells, B.cells, D.cells, T.zero, T.kind, T.val, T.kids, spineT, room, keysCs, Cell.keys]) (by first | exact keys_tm _ | exact keys_am _ | exact keys_dm _ | rfl) ?_
  simp [tm, tms, ib, am, ams, sms, kms, bm, dm, cells_mk, A.cells, S.cells, K.cells, B.cells, D.cells, T.zero, T.kind, T.val, T.kids, spineT, room, keysCs, Cell.keys, s0, w_n_3]
  refine CallA.fn (fn76 (0)) (by simp [tm, tms, ib, am, ams, sms, kms, bm, dm, cells_mk, A.cells, S.cells, K.cells, B.cells, D.cells, T.zero, T.kind, T.val, T.kids, spineT, room, keysCs, Cell.keys]) (by simp [tm, tms, ib, am, ams, sms, kms, bm, dm, cells_mk, A.cells, S.cells, K.cells, B.cells, D.cells, T.zero, T.kind, T.val, T.kids, spineT, room, keysCs, Cell.keys]) (by first | exact keys_tm _ | exact keys_am _ | exact keys_dm _ | rfl) ?_
  simp [tm, tms, ib, am, ams, sms, kms, bm, dm, cells_mk, A.cells, S.cells, K.cells, B.cells, D.cells, T.zero, T.kind, T.val, T.kids, spineT, room, keysCs, Cell.keys, s0, w_n_3]
  refine CallA.fn (fn75 (.mk 3 (baseI n + 3) []) [(.mk 1 (1) []), (.mk 1 (0) [])]) (by simp [tm, tms, ib, am, ams, sms, kms, bm, dm, cells_mk, A.cells, S.cells, K.cells, B.cells, D.cells, T.zero, T.kind, T.val, T.kids, spineT, room, keysCs, Cell.keys]) (by simp [tm, tms, ib, am, ams, sms, kms, bm, dm, cells_mk, A.cells, S.cells, K.cells, B.cells, D.cells, T.zero, T.kind, T.val, T.kids, spineT, room, keysCs, Cell.keys]) (by first | exact keys_tm _ | exact keys_am _ | exact keys_dm _ | rfl) ?_
  simp [tm, tms, ib, am, ams, sms, kms, bm, dm, cells_mk, A.cells, S.cells, K.cells, B.cells, D.cells, T.zero, T.kind, T.val, T.kids, spineT, room, keysCs, Cell.keys, s0, w_n_3]
  refine CallA.fn (fn77 (1) [(.mk 6 0 [(.mk 6 0 [(.mk 3 (baseI n + 3) []), (.mk 1 (1) [])]), (.mk 1 (0) [])])]) (by simp [tm, tms, ib, am, ams, sms, kms, bm, dm, cells_mk, A.cells, S.cells, K.cells, B.cells, D.cells, T.zero, T.kind, T.val, T.kids, spineT, room, keysCs, Cell.keys]) (by simp [tm, tms, ib, am, ams, sms, kms, bm, dm, cells_mk, A.cells, S.cells, K.cells, B.cells, D.cells, T.zero, T.kind, T.val, T.kids, spineT, room, keysCs, Cell.keys]) (by first | exact keys_tm _ | exact keys_am _ | exact keys_dm _ | rfl) ?_
  simp [tm, tms, ib, am, ams, sms, kms, bm, dm, cells_mk, A.cells, S.cells, K.cells, B.cells, D.cells, T.zero, T.kind, T.val, T.kids, spineT, room, keysCs, Cell.keys, s0, w_n_3]
  refine CallA.fn (fn76 (2)) (by simp [tm, tms, ib, am, ams, sms, kms, bm, dm, cells_mk, A.cells, S.cells, K.cells, B.cells, D.cells, T.zero, T.kind, T.val, T.kids, spineT, room, keysCs, Cell.keys]) (by simp [tm, tms, ib, am, ams, sms, kms, bm, dm, cells_mk, A.cells, S.cells, K.cells, B.cells, D.cells, T.zero, T.kind, T.val, T.kids, spineT, room, keysCs, Cell.keys]) (by first | exact keys_tm _ | exact keys_am _ | exact keys_dm _ | rfl) ?_
  simp [tm, tms, ib, am, ams, sms, kms, bm, dm, cells_mk, A.cells, S.cells, K.cells, B.cells, D.cells, T.zero, T.kind, T.val, T.kids, spineT, room, keysCs, Cell.keys, s0, w_n_3]
  refine CallA.fn (fn79 [(S.mk [] 0 false .zero), (S.mk [(A.mk true .zero [] (0) [])] 0 false .zero)] [(K.mk 0 [] [] .zero), (K.mk 0 [(A.mk true .zero [] (0) []), (A.mk true .zero [] (1) [(.mk 1 (0) [])])] [] .zero), (K.mk 1 [(A.mk true .zero [] (0) [])] [(.mk 1 (0) [])] .zero), (K.mk 1 [(A.mk true .zero [] (0) []), (A.mk true .zero [] (1) [(.mk 1 (0) [])]), (A.mk true .zero [] (1) [(.mk 6 0 [(.mk 6 0 [(.mk 3 (baseI n + 3) []), (.mk 1 (1) [])]), (.mk 1 (0) [])])])] [(.mk 1 (2) [])] .zero)]) (by simp [tm, tms, ib, am, ams, sms, kms, bm, dm, cells_mk, A.cells, S.cells, K.cells, B.cells, D.cells, T.zero, T.kind, T.val, T.kids, spineT, room, keysCs, Cell.keys]) (by simp [tm, tms, ib, am, ams, sms, kms, bm, dm, cells_mk, A.cells, S.cells, K.cells, B.cells, D.cells, T.zero, T.kind, T.val, T.kids, spineT, room, keysCs, Cell.keys]) (by first | exact keys_tm _ | exact keys_am _ | exact keys_dm _ | rfl) ?_
  simp [tm, tms, ib, am, ams, sms, kms, bm, dm, cells_mk, A.cells, S.cells, K.cells, B.cells, D.cells, T.zero, T.kind, T.val, T.kids, spineT, room, keysCs, Cell.keys, s0, w_n_3]
  first | refine realC_n ?_ | refine ⟨rfl, realC_n ?_⟩
  simp [tm, tms, ib, am, ams, sms, kms, bm, dm, cells_mk, A.cells, S.cells, K.cells, B.cells, D.cells, T.zero, T.kind, T.val, T.kids, spineT, room, keysCs, Cell.keys, r41, dm, D.cells, d41]
def d42 (n : Int) : D := (D.mk 3 .zero .zero (B.mk [(S.mk [] 0 false .zero), (S.mk [(A.mk true .zero [] (0) [])] 0 false .zero)] [(K.mk 0 [] [] .zero), (K.mk 0 [(A.mk true .zero [] (0) []), (A.mk true .zero [] (1) [(.mk 1 (0) [])])] [] .zero), (K.mk 1 [(A.mk true .zero [] (0) [])] [(.mk 1 (0) [])] .zero), (K.mk 1 [(A.mk true .zero [] (0) []), (A.mk true .zero [] (1) [(.mk 1 (0) [])]), (A.mk true .zero [] (1) [(.mk 6 0 [(.mk 6 0 [(.mk 3 (baseI n + 3) []), (.mk 1 (1) [])]), (.mk 1 (0) [])])])] [(.mk 1 (2) [])] .zero)] 0))
theorem fn42 (n : Int) : Fn Try.prog 42 [ib n] (dm (d42 n)) := by
  refine fn_of (base := 42000) ok42 rfl fun σ h0 hr => ?_
  have s0 : σ.sl 0 = ib n := h0 0
  simp only [ib] at s0
  clear h0 hr
  have hb_n := baseI_le n
  have w_n_3 : IntKind.wrap .i64 (baseI n + 3) = baseI n + 3 := wrap_id (by omega) (by omega)
  unfold c42
  simp [tm, tms, ib, am, ams, sms, kms, bm, dm, cells_mk, A.cells, S.cells, K.cells, B.cells, D.cells, T.zero, T.kind, T.val, T.kids, spineT, room, keysCs, Cell.keys, s0, w_n_3]
  refine ECall.fn (fn89 (n)) (by simp [tm, tms, ib, am, ams, sms, kms, bm, dm, cells_mk, A.cells, S.cells, K.cells, B.cells, D.cells, T.zero, T.kind, T.val, T.kids, spineT, room, keysCs, Cell.keys]) (by simp [tm, tms, ib, am, ams, sms, kms, bm, dm, cells_mk, A.cells, S.cells, K.cells, B.cells, D.cells, T.zero, T.kind, T.val, T.kids, spineT, room, keysCs, Cell.keys]) (by first | exact keys_tm _ | exact keys_am _ | exact keys_dm _ | rfl) fun _ => ?_
  simp [tm, tms, ib, am, ams, sms, kms, bm, dm, cells_mk, A.cells, S.cells, K.cells, B.cells, D.cells, T.zero, T.kind, T.val, T.kids, spineT, room, keysCs, Cell.keys, s0, w_n_3]
  refine ECall.fn (fn83 (0) []) (by simp [tm, tms, ib, am, ams, sms, kms, bm, dm, cells_mk, A.cells, S.cells, K.cells, B.cells, D.cells, T.zero, T.kind, T.val, T.kids, spineT, room, keysCs, Cell.keys]) (by simp [tm, tms, ib, am, ams, sms, kms, bm, dm, cells_mk, A.cells, S.cells, K.cells, B.cells, D.cells, T.zero, T.kind, T.val, T.kids, spineT, room, keysCs, Cell.keys]) (by first | exact keys_tm _ | exact keys_am _ | exact keys_dm _ | rfl) fun _ => ?_
  simp [tm, tms, ib, am, ams, sms, kms, bm, dm, cells_mk, A.cells, S.cells, K.cells, B.cells, D.cells, T.zero, T.kind, T.val, T.kids, spineT, room, keysCs, Cell.keys, s0, w_n_3]
  refine ECall.fn (fn83 (0) []) (by simp [tm, tms, ib, am, ams, sms, kms, bm, dm, cells_mk, A.cells, S.cells, K.cells, B.cells, D.cells, T.zero, T.kind, T.val, T.kids, spineT, room, keysCs, Cell.keys]) (by simp [tm, tms, ib, am, ams, sms, kms, bm, dm, cells_mk, A.cells, S.cells, K.cells, B.cells, D.cells, T.zero, T.kind, T.val, T.kids, spineT, room, keysCs, Cell.keys]) (by first | exact keys_tm _ | exact keys_am _ | exact keys_dm _ | rfl) fun _ => ?_
  simp [tm, tms, ib, am, ams, sms, kms, bm, dm, cells_mk, A.cells, S.cells, K.cells, B.cells, D.cells, T.zero, T.kind, T.val, T.kids, spineT, room, keysCs, Cell.keys, s0, w_n_3]
  refine ECall.fn (fn66 (0)) (by simp [tm, tms, ib, am, ams, sms, kms, bm, dm, cells_mk, A.cells, S.cells, K.cells, B.cells, D.cells, T.zero, T.kind, T.val, T.kids, spineT, room, keysCs, Cell.keys]) (by simp [tm, tms, ib, am, ams, sms, kms, bm, dm, cells_mk, A.cells, S.cells, K.cells, B.cells, D.cells, T.zero, T.kind, T.val, T.kids, spineT, room, keysCs, Cell.keys]) (by first | exact keys_tm _ | exact keys_am _ | exact keys_dm _ | rfl) fun _ => ?_
  simp [tm, tms, ib, am, ams, sms, kms, bm, dm, cells_mk, A.cells, S.cells, K.cells, B.cells, D.cells, T.zero, T.kind, T.val, T.kids, spineT, room, keysCs, Cell.keys, s0, w_n_3]
  refine ECall.fn (fn83 (1) [(.mk 1 (0) [])]) (by simp [tm, tms, ib, am, ams, sms, kms, bm, dm, cells_mk, A.cells, S.cells, K.cells, B.cells, D.cells, T.zero, T.kind, T.val, T.kids, spineT, room, keysCs, Cell.keys]) (by simp [tm, tms, ib, am, ams, sms, kms, bm, dm, cells_mk, A.cells, S.cells, K.cells, B.cells, D.cells, T.zero, T.kind, T.val, T.kids, spineT, room, keysCs, Cell.keys]) (by first | exact keys_tm _ | exact keys_am _ | exact keys_dm _ | rfl) fun _ => ?_
  simp [tm, tms, ib, am, ams, sms, kms, bm, dm, cells_mk, A.cells, S.cells, K.cells, B.cells, D.cells, T.zero, T.kind, T.val, T.kids, spineT, room, keysCs, Cell.keys, s0, w_n_3]
  refine ECall.fn (fn83 (0) []) (by simp [tm, tms, ib, am, ams, sms, kms, bm, dm, cells_mk, A.cells, S.cells, K.cells, B.cells, D.cells, T.zero, T.kind, T.val, T.kids, spineT, room, keysCs, Cell.keys]) (by simp [tm, tms, ib, am, ams, sms, kms, bm, dm, cells_mk, A.cells, S.cells, K.cells, B.cells, D.cells, T.zero, T.kind, T.val, T.kids, spineT, room, keysCs, Cell.keys]) (by first | exact keys_tm _ | exact keys_am _ | exact keys_dm _ | rfl) fun _ => ?_
  simp [tm, tms, ib, am, ams, sms, kms, bm, dm, cells_mk, A.cells, S.cells, K.cells, B.cells, D.cells, T.zero, T.kind, T.val, T.kids, spineT, room, keysCs, Cell.keys, s0, w_n_3]
  refine ECall.fn (fn66 (0)) (by simp [tm, tms, ib, am, ams, sms, kms, bm, dm, cells_mk, A.cells, S.cells, K.cells, B.cells, D.cells, T.zero, T.kind, T.val, T.kids, spineT, room, keysCs, Cell.keys]) (by simp [tm, tms, ib, am, ams, sms, kms, bm, dm, cells_mk, A.cells, S.cells, K.cells, B.cells, D.cells, T.zero, T.kind, T.val, T.kids, spineT, room, keysCs, Cell.keys]) (by first | exact keys_tm _ | exact keys_am _ | exact keys_dm _ | rfl) fun _ => ?_
  simp [tm, tms, ib, am, ams, sms, kms, bm, dm, cells_mk, A.cells, S.cells, K.cells, B.cells, D.cells, T.zero, T.kind, T.val, T.kids, spineT, room, keysCs, Cell.keys, s0, w_n_3]
  refine ECall.fn (fn83 (0) []) (by simp [tm, tms, ib, am, ams, sms, kms, bm, dm, cells_mk, A.cells, S.cells, K.cells, B.cells, D.cells, T.zero, T.kind, T.val, T.kids, spineT, room, keysCs, Cell.keys]) (by simp [tm, tms, ib, am, ams, sms, kms, bm, dm, cells_mk, A.cells, S.cells, K.cells, B.cells, D.cells, T.zero, T.kind, T.val, T.kids, spineT, room, keysCs, Cell.keys]) (by first | exact keys_tm _ | exact keys_am _ | exact keys_dm _ | rfl) fun _ => ?_
  simp [tm, tms, ib, am, ams, sms, kms, bm, dm, cells_mk, A.cells, S.cells, K.cells, B.cells, D.cells, T.zero, T.kind, T.val, T.kids, spineT, room, keysCs, Cell.keys, s0, w_n_3]
  refine ECall.fn (fn66 (0)) (by simp [tm, tms, ib, am, ams, sms, kms, bm, dm, cells_mk, A.cells, S.cells, K.cells, B.cells, D.cells, T.zero, T.kind, T.val, T.kids, spineT, room, keysCs, Cell.keys]) (by simp [tm, tms, ib, am, ams, sms, kms, bm, dm, cells_mk, A.cells, S.cells, K.cells, B.cells, D.cells, T.zero, T.kind, T.val, T.kids, spineT, room, keysCs, Cell.keys]) (by first | exact keys_tm _ | exact keys_am _ | exact keys_dm _ | rfl) fun _ => ?_
  simp [tm, tms, ib, am, ams, sms, kms, bm, dm, cells_mk, A.cells, S.cells, K.cells, B.cells, D.cells, T.zero, T.kind, T.val, T.kids, spineT, room, keysCs, Cell.keys, s0, w_n_3]
  refine ECall.fn (fn83 (1) [(.mk 1 (0) [])]) (by simp [tm, tms, ib, am, ams, sms, kms, bm, dm, cells_mk, A.cells, S.cells, K.cells, B.cells, D.cells, T.zero, T.kind, T.val, T.kids, spineT, room, keysCs, Cell.keys]) (by simp [tm, tms, ib, am, ams, sms, kms, bm, dm, cells_mk, A.cells, S.cells, K.cells, B.cells, D.cells, T.zero, T.kind, T.val, T.kids, spineT, room, keysCs, Cell.keys]) (by first | exact keys_tm _ | exact keys_am _ | exact keys_dm _ | rfl) fun _ => ?_
  simp [tm, tms, ib, am, ams, sms, kms, bm, dm, cells_mk, A.cells, S.cells, K.cells, B.cells, D.cells, T.zero, T.kind, T.val, T.kids, spineT, room, keysCs, Cell.keys, s0, w_n_3]
  refine ECall.fn (fn82 (baseI n + 3)) (by simp [tm, tms, ib, am, ams, sms, kms, bm, dm, cells_mk, A.cells, S.cells, K.cells, B.cells, D.cells, T.zero, T.kind, T.val, T.kids, spineT, room, keysCs, Cell.keys]) (by simp [tm, tms, ib, am, ams, sms, kms, bm, dm, cells_mk, A.cells, S.cells, K.cells, B.cells, D.cells, T.zero, T.kind, T.val, T.kids, spineT, room, keysCs, Cell.keys]) (by first | exact keys_tm _ | exact keys_am _ | exact keys_dm _ | rfl) fun _ => ?_
  simp [tm, tms, ib, am, ams, sms, kms, bm, dm, cells_mk, A.cells, S.cells, K.cells, B.cells, D.cells, T.zero, T.kind, T.val, T.kids, spineT, room, keysCs, Cell.keys, s0, w_n_3]
  refine ECall.fn (fn66 (1)) (by simp [tm, tms, ib, am, ams, sms, kms, bm, dm, cells_mk, A.cells, S.cells, K.cells, B.cells, D.cells, T.zero, T.kind, T.val, T.kids, spineT, room, keysCs, Cell.keys]) (by simp [tm, tms, ib, am, ams, sms, kms, bm, dm, cells_mk, A.cells, S.cells, K.cells, B.cells, D.cells, T.zero, T.kind, T.val, T.kids, spineT, room, keysCs, Cell.keys]) (by first | exact keys_tm _ | exact keys_am _ | exact keys_dm _ | rfl) fun _ => ?_
  simp [tm, tms, ib, am, ams, sms, kms, bm, dm, cells_mk, A.cells, S.cells, K.cells, B.cells, D.cells, T.zero, T.kind, T.val, T.kids, spineT, room, keysCs, Cell.keys, s0, w_n_3]
  refine ECall.fn (fn84 (.mk 3 (baseI n + 3) []) (.mk 1 (1) [])) (by simp [tm, tms, ib, am, ams, sms, kms, bm, dm, cells_mk, A.cells, S.cells, K.cells, B.cells, D.cells, T.zero, T.kind, T.val, T.kids, spineT, room, keysCs, Cell.keys]) (by simp [tm, tms, ib, am, ams, sms, kms, bm, dm, cells_mk, A.cells, S.cells, K.cells, B.cells, D.cells, T.zero, T.kind, T.val, T.kids, spineT, room, keysCs, Cell.keys]) (by first | exact keys_tm _ | exact keys_am _ | exact keys_dm _ | rfl) fun _ => ?_
  simp [tm, tms, ib, am, ams, sms, kms, bm, dm, cells_mk, A.cells, S.cells, K.cells, B.cells, D.cells, T.zero, T.kind, T.val, T.kids, spineT, room, keysCs, Cell.keys, s0, w_n_3]
  refine ECall.fn (fn66 (0)) (by simp [tm, tms, ib, am, ams, sms, kms, bm, dm, cells_mk, A.cells, S.cells, K.cells, B.cells, D.cells, T.zero, T.kind, T.val, T.kids, spineT, room, keysCs, Cell.keys]) (by simp [tm, tms, ib, am, ams, sms, kms, bm, dm, cells_mk, A.cells, S.cells, K.cells, B.cells, D.cells, T.zero, T.kind, T.val, T.kids, spineT, room, keysCs, Cell.keys]) (by first | exact keys_tm _ | exact keys_am _ | exact keys_dm _ | rfl) fun _ => ?_
  simp [tm, tms, ib, am, ams, sms, kms, bm, dm, cells_mk, A.cells, S.cells, K.cells, B.cells, D.cells, T.zero, T.kind, T.val, T.kids, spineT, room, keysCs, Cell.keys, s0, w_n_3]
  refine ECall.fn (fn84 (.mk 6 0 [(.mk 3 (baseI n + 3) []), (.mk 1 (1) [])]) (.mk 1 (0) [])) (by simp [tm, tms, ib, am, ams, sms, kms, bm, dm, cells_mk, A.cells, S.cells, K.cells, B.cells, D.cells, T.zero, T.kind, T.val, T.kids, spineT, room, keysCs, Cell.keys]) (by simp [tm, tms, ib, am, ams, sms, kms, bm, dm, cells_mk, A.cells, S.cells, K.cells, B.cells, D.cells, T.zero, T.kind, T.val, T.kids, spineT, room, keysCs, Cell.keys]) (by first | exact keys_tm _ | exact keys_am _ | exact keys_dm _ | rfl) fun _ => ?_
  simp [tm, tms, ib, am, ams, sms, kms, bm, dm, cells_mk, A.cells, S.cells, K.cells, B.cells, D.cells, T.zero, T.kind, T.val, T.kids, spineT, room, keysCs, Cell.keys, s0, w_n_3]
  refine ECall.fn (fn83 (1) [(.mk 6 0 [(.mk 6 0 [(.mk 3 (baseI n + 3) []), (.mk 1 (1) [])]), (.mk 1 (0) [])])]) (by simp [tm, tms, ib, am, ams, sms, kms, bm, dm, cells_mk, A.cells, S.cells, K.cells, B.cells, D.cells, T.zero, T.kind, T.val, T.kids, spineT, room, keysCs, Cell.keys]) (by simp [tm, tms, ib, am, ams, sms, kms, bm, dm, cells_mk, A.cells, S.cells, K.cells, B.cells, D.cells, T.zero, T.kind, T.val, T.kids, spineT, room, keysCs, Cell.keys]) (by first | exact keys_tm _ | exact keys_am _ | exact keys_dm _ | rfl) fun _ => ?_
  simp [tm, tms, ib, am, ams, sms, kms, bm, dm, cells_mk, A.cells, S.cells, K.cells, B.cells, D.cells, T.zero, T.kind, T.val, T.kids, spineT, room, keysCs, Cell.keys, s0, w_n_3]
  refine ECall.fn (fn66 (2)) (by simp [tm, tms, ib, am, ams, sms, kms, bm, dm, cells_mk, A.cells, S.cells, K.cells, B.cells, D.cells, T.zero, T.kind, T.val, T.kids, spineT, room, keysCs, Cell.keys]) (by simp [tm, tms, ib, am, ams, sms, kms, bm, dm, cells_mk, A.cells, S.cells, K.cells, B.cells, D.cells, T.zero, T.kind, T.val, T.kids, spineT, room, keysCs, Cell.keys]) (by first | exact keys_tm _ | exact keys_am _ | exact keys_dm _ | rfl) fun _ => ?_
  simp [tm, tms, ib, am, ams, sms, kms, bm, dm, cells_mk, A.cells, S.cells, K.cells, B.cells, D.cells, T.zero, T.kind, T.val, T.kids, spineT, room, keysCs, Cell.keys, s0, w_n_3]
  refine ECall.fn (fn85 (B.mk [(S.mk [] 0 false .zero), (S.mk [(A.mk true .zero [] (0) [])] 0 false .zero)] [(K.mk 0 [] [] .zero), (K.mk 0 [(A.mk true .zero [] (0) []), (A.mk true .zero [] (1) [(.mk 1 (0) [])])] [] .zero), (K.mk 1 [(A.mk true .zero [] (0) [])] [(.mk 1 (0) [])] .zero), (K.mk 1 [(A.mk true .zero [] (0) []), (A.mk true .zero [] (1) [(.mk 1 (0) [])]), (A.mk true .zero [] (1) [(.mk 6 0 [(.mk 6 0 [(.mk 3 (baseI n + 3) []), (.mk 1 (1) [])]), (.mk 1 (0) [])])])] [(.mk 1 (2) [])] .zero)] 0)) (by simp [tm, tms, ib, am, ams, sms, kms, bm, dm, cells_mk, A.cells, S.cells, K.cells, B.cells, D.cells, T.zero, T.kind, T.val, T.kids, spineT, room, keysCs, Cell.keys]) (by simp [tm, tms, ib, am, ams, sms, kms, bm, dm, cells_mk, A.cells, S.cells, K.cells, B.cells, D.cells, T.zero, T.kind, T.val, T.kids, spineT, room, keysCs, Cell.keys]) (by first | exact keys_tm _ | exact keys_am _ | exact keys_dm _ | rfl) fun _ => ?_
  simp [tm, tms, ib, am, ams, sms, kms, bm, dm, cells_mk, A.cells, S.cells, K.cells, B.cells, D.cells, T.zero, T.kind, T.val, T.kids, spineT, room, keysCs, Cell.keys, s0, w_n_3]
  simp [tm, tms, ib, am, ams, sms, kms, bm, dm, cells_mk, A.cells, S.cells, K.cells, B.cells, D.cells, T.zero, T.kind, T.val, T.kids, spineT, room, keysCs, Cell.keys, r42, dm, D.cells, d42]
def d44 (n : Int) : D := (D.mk 2 (.mk (4) 0 [(.mk 3 (baseI n) []), (.mk (4) 0 [(.mk 3 (baseI n) []), (.mk 3 (baseI n) [])])]) (.mk (5) 0 [(.mk 3 (baseI n) []), (.mk (5) 0 [(.mk 3 (baseI n) []), (.mk 6 0 [(.mk 6 0 [(.mk 6 0 [(.mk 6 0 [(.mk 3 (baseI n + 3) []), (.mk (5) 0 [(.mk 3 (baseI n) []), (.mk 3 (baseI n) [])])]), (.mk 1 (0) [])]), (.mk (5) 0 [(.mk 3 (baseI n) []), (.mk (5) 0 [(.mk 3 (baseI n) []), (.mk 6 0 [(.mk 3 (baseI n + 2) []), (.mk 1 (0) [])])])])]), (.mk 1 (1) [])])])]) (B.mk [] [] 0))
theorem fn44 (n : Int) : Fn Try.prog 44 [ib n] (dm (d44 n)) := by
  refine fn_of (base := 44000) ok44 rfl fun σ h0 hr => ?_
  have s0 : σ.sl 0 = ib n := h0 0
  simp only [ib] at s0
  clear h0 hr
  have hb_n := baseI_le n
  have w_n_2 : IntKind.wrap .i64 (baseI n + 2) = baseI n + 2 := wrap_id (by omega) (by omega)
  have w_n_3 : IntKind.wrap .i64 (baseI n + 3) = baseI n + 3 := wrap_id (by omega) (by omega)
  unfold c44
  simp [tm, tms, ib, am, ams, sms, kms, bm, dm, cells_mk, A.cells, S.cells, K.cells, B.cells, D.cells, T.zero, T.kind, T.val, T.kids, spineT, room, keysCs, Cell.keys, s0, w_n_2, w_n_3]
  refine ECall.fn (fn89 (n)) (by simp [tm, tms, ib, am, ams, sms, kms, bm, dm, cells_mk, A.cells, S.cells, K.cells, B.cells, D.cells, T.zero, T.kind, T.val, T.kids, spineT, room, keysCs, Cell.keys]) (by simp [tm, tms, ib, am, ams, sms, kms, bm, dm, cells_mk, A.cells, S.cells, K.cells, B.cells, D.cells, T.zero, T.kind, T.val, T.kids, spineT, room, keysCs, Cell.keys]) (by first | exact keys_tm _ | exact keys_am _ | exact keys_dm _ | rfl) fun _ => ?_
  simp [tm, tms, ib, am, ams, sms, kms, bm, dm, cells_mk, A.cells, S.cells, K.cells, B.cells, D.cells, T.zero, T.kind, T.val, T.kids, spineT, room, keysCs, Cell.keys, s0, w_n_2, w_n_3]
  refine ECall.fn (fn82 (baseI n)) (by simp [tm, tms, ib, am, ams, sms, kms, bm, dm, cells_mk, A.cells, S.cells, K.cells, B.cells, D.cells, T.zero, T.kind, T.val, T.kids, spineT, room, keysCs, Cell.keys]) (by simp [tm, tms, ib, am, ams, sms, kms, bm, dm, cells_mk, A.cells, S.cells, K.cells, B.cells, D.cells, T.zero, T.kind, T.val, T.kids, spineT, room, keysCs, Cell.keys]) (by first | exact keys_tm _ | exact keys_am _ | exact keys_dm _ | rfl) fun _ => ?_
  simp [tm, tms, ib, am, ams, sms, kms, bm, dm, cells_mk, A.cells, S.cells, K.cells, B.cells, D.cells, T.zero, T.kind, T.val, T.kids, spineT, room, keysCs, Cell.keys, s0, w_n_2, w_n_3]
  refine W_dregD w44_0 f44_0 (by decide) ?_
  unfold w44_0 f44_0
  simp [tm, tms, ib, am, ams, sms, kms, bm, dm, cells_mk, A.cells, S.cells, K.cells, B.cells, D.cells, T.zero, T.kind, T.val, T.kids, spineT, room, keysCs, Cell.keys, s0, w_n_2, w_n_3]
  refine CallD.fn (fn94 (4) (.mk 3 (baseI n) []) (.mk 3 (baseI n) [])) (by simp [tm, tms, ib, am, ams, sms, kms, bm, dm, cells_mk, A.cells, S.cells, K.cells, B.cells, D.cells, T.zero, T.kind, T.val, T.kids, spineT, room, keysCs, Cell.keys]) (by simp [tm, tms, ib, am, ams, sms, kms, bm, dm, cells_mk, A.cells, S.cells, K.cells, B.cells, D.cells, T.zero, T.kind, T.val, T.kids, spineT, room, keysCs, Cell.keys]) (by first | exact keys_tm _ | exact keys_am _ | exact keys_dm _ | rfl) (by simp [tm, tms, ib, am, ams, sms, kms, bm, dm, cells_mk, A.cells, S.cells, K.cells, B.cells, D.cells, T.zero, T.kind, T.val, T.kids, spineT, room, keysCs, Cell.keys]) ?_
  simp [tm, tms, ib, am, ams, sms, kms, bm, dm, cells_mk, A.cells, S.cells, K.cells, B.cells, D.cells, T.zero, T.kind, T.val, T.kids, spineT, room, keysCs, Cell.keys, s0, w_n_2, w_n_3]
  refine CallD.fn (fn94 (4) (.mk 3 (baseI n) []) (.mk (4) 0 [(.mk 3 (baseI n) []), (.mk 3 (baseI n) [])])) (by simp [tm, tms, ib, am, ams, sms, kms, bm, dm, cells_mk, A.cells, S.cells, K.cells, B.cells, D.cells, T.zero, T.kind, T.val, T.kids, spineT, room, keysCs, Cell.keys]) (by simp [tm, tms, ib, am, ams, sms, kms, bm, dm, cells_mk, A.cells, S.cells, K.cells, B.cells, D.cells, T.zero, T.kind, T.val, T.kids, spineT, room, keysCs, Cell.keys]) (by first | exact keys_tm _ | exact keys_am _ | exact keys_dm _ | rfl) (by simp [tm, tms, ib, am, ams, sms, kms, bm, dm, cells_mk, A.cells, S.cells, K.cells, B.cells, D.cells, T.zero, T.kind, T.val, T.kids, spineT, room, keysCs, Cell.keys]) ?_
  simp [tm, tms, ib, am, ams, sms, kms, bm, dm, cells_mk, A.cells, S.cells, K.cells, B.cells, D.cells, T.zero, T.kind, T.val, T.kids, spineT, room, keysCs, Cell.keys, s0, w_n_2, w_n_3]
  first | refine realC_n ?_ | refine ⟨rfl, realC_n ?_⟩
  simp [tm, tms, ib, am, ams, sms, kms, bm, dm, cells_mk, A.cells, S.cells, K.cells, B.cells, D.cells, T.zero, T.kind, T.val, T.kids, spineT, room, keysCs, Cell.keys]
  refine W_dregD w44_1 f44_1 (by decide) ?_
  unfold w44_1 f44_1
  simp [tm, tms, ib, am, ams, sms, kms, bm, dm, cells_mk, A.cells, S.cells, K.cells, B.cells, D.cells, T.zero, T.kind, T.val, T.kids, spineT, room, keysCs, Cell.keys, s0, w_n_2, w_n_3]
  refine CallD.fn (fn82 (baseI n + 3)) (by simp [tm, tms, ib, am, ams, sms, kms, bm, dm, cells_mk, A.cells, S.cells, K.cells, B.cells, D.cells, T.zero, T.kind, T.val, T.kids, spineT, room, keysCs, Cell.keys]) (by simp [tm, tms, ib, am, ams, sms, kms, bm, dm, cells_mk, A.cells, S.cells, K.cells, B.cells, D.cells, T.zero, T.kind, T.val, T.kids, spineT, room, keysCs, Cell.keys]) (by first | exact keys_tm _ | exact keys_am _ | exact keys_dm _ | rfl) (by simp [tm, tms, ib, am, ams, sms, kms, bm, dm, cells_mk, A.cells, S.cells, K.cells, B.cells, D.cells, T.zero, T.kind, T.val, T.kids, spineT, room, keysCs, Cell.keys]) ?_
  simp [tm, tms, ib, am, ams, sms, kms, bm, dm, cells_mk, A.cells, S.cells, K.cells, B.cells, D.cells, T.zero, T.kind, T.val, T.kids, spineT, room, keysCs, Cell.keys, s0, w_n_2, w_n_3]
  refine CallD.fn (fn94 (5) (.mk 3 (baseI n) []) (.mk 3 (baseI n) [])) (by simp [tm, tms, ib, am, ams, sms, kms, bm, dm, cells_mk, A.cells, S.cells, K.cells, B.cells, D.cells, T.zero, T.kind, T.val, T.kids, spineT, room, keysCs, Cell.keys]) (by simp [tm, tms, ib, am, ams, sms, kms, bm, dm, cells_mk, A.cells, S.cells, K.cells, B.cells, D.cells, T.zero, T.kind, T.val, T.kids, spineT, room, keysCs, Cell.keys]) (by first | exact keys_tm _ | exact keys_am _ | exact keys_dm _ | rfl) (by simp [tm, tms, ib, am, ams, sms, kms, bm, dm, cells_mk, A.cells, S.cells, K.cells, B.cells, D.cells, T.zero, T.kind, T.val, T.kids, spineT, room, keysCs, Cell.keys]) ?_
  simp [tm, tms, ib, am, ams, sms, kms, bm, dm, cells_mk, A.cells, S.cells, K.cells, B.cells, D.cells, T.zero, T.kind, T.val, T.kids, spineT, room, keysCs, Cell.keys, s0, w_n_2, w_n_3]
  refine CallD.fn (fn66 (0)) (by simp [tm, tms, ib, am, ams, sms, kms, bm, dm, cells_mk, A.cells, S.cells, K.cells, B.cells, D.cells, T.zero, T.kind, T.val, T.kids, spineT, room, keysCs, Cell.keys]) (by simp [tm, tms, ib, am, ams, sms, kms, bm, dm, cells_mk, A.cells, S.cells, K.cells, B.cells, D.cells, T.zero, T.kind, T.val, T.kids, spineT, room, keysCs, Cell.keys]) (by first | exact keys_tm _ | exact keys_am _ | exact keys_dm _ | rfl) (by simp [tm, tms, ib, am, ams, sms, kms, bm, dm, cells_mk, A.cells, S.cells, K.cells, B.cells, D.cells, T.zero, T.kind, T.val, T.kids, spineT, room, keysCs, Cell.keys]) ?_
  simp [tm, tms, ib, am, ams, sms, kms, bm, dm, cells_mk, A.cells, S.cells, K.cells, B.cells, D.cells, T.zero, T.kind, T.val, T.kids, spineT, room, keysCs, Cell.keys, s0, w_n_2, w_n_3]
  refine CallD.fn (fn82 (baseI n + 2)) (by simp [tm, tms, ib, am, ams, sms, kms, bm, dm, cells_mk, A.cells, S.cells, K.cells, B.cells, D.cells, T.zero, T.kind, T.val, T.kids, spineT, room, keysCs, Cell.keys]) (by simp [tm, tms, ib, am, ams, sms, kms, bm, dm, cells_mk, A.cells, S.cells, K.cells, B.cells, D.cells, T.zero, T.kind, T.val, T.kids, spineT, room, keysCs, Cell.keys]) (by first | exact keys_tm _ | exact keys_am _ | exact keys_dm _ | rfl) (by simp [tm, tms, ib, am, ams, sms, kms, bm, dm, cells_mk, A.cells, S.cells, K.cells, B.cells, D.cells, T.zero, T.kind, T.val, T.kids, spineT, room, keysCs, Cell.keys]) ?_
  simp [tm, tms, ib, am, ams, sms, kms, bm, dm, cells_mk, A.cells, S.cells, K.cells, B.cells, D.cells, T.zero, T.kind, T.val, T.kids, spineT, room, keysCs, Cell.keys, s0, w_n_2, w_n_3]
  refine CallD.fn (fn66 (0)) (by simp [tm, tms, ib, am, ams, sms, kms, bm, dm, cells_mk, A.cells, S.cells, K.cells, B.cells, D.cells, T.zero, T.kind, T.val, T.kids, spineT, room, keysCs, Cell.keys]) (by simp [tm, tms, ib, am, ams, sms, kms, bm, dm, cells_mk, A.cells, S.cells, K.cells, B.cells, D.cells, T.zero, T.kind, T.val, T.kids, spineT, room, keysCs, Cell.keys]) (by first | exact keys_tm _ | exact keys_am _ | exact keys_dm _ | rfl) (by simp [tm, tms, ib, am, ams, sms, kms, bm, dm, cells_mk, A.cells, S.cells, K.cells, B.cells, D.cells, T.zero, T.kind, T.val, T.kids, spineT, room, keysCs, Cell.keys]) ?_
  simp [tm, tms, ib, am, ams, sms, kms, bm, dm, cells_mk, A.cells, S.cells, K.cells, B.cells, D.cells, T.zero, T.kind, T.val, T.kids, spineT, room, keysCs, Cell.keys, s0, w_n_2, w_n_3]
  refine CallD.fn (fn84 (.mk 3 (baseI n + 2) []) (.mk 1 (0) [])) (by simp [tm, tms, ib, am, ams, sms, kms, bm, dm, cells_mk, A.cells, S.cells, K.cells, B.cells, D.cells, T.zero, T.kind, T.val, T.kids, spineT, room, keysCs, Cell.keys]) (by simp [tm, tms, ib, am, ams, sms, kms, bm, dm, cells_mk, A.cells, S.cells, K.cells, B.cells, D.cells, T.zero, T.kind, T.val, T.kids, spineT, room, keysCs, Cell.keys]) (by first | exact keys_tm _ | exact keys_am _ | exact keys_dm _ | rfl) (by simp [tm, tms, ib, am, ams, sms, kms, bm, dm, cells_mk, A.cells, S.cells, K.cells, B.cells, D.cells, T.zero, T.kind, T.val, T.kids, spineT, room, keysCs, Cell.keys]) ?_
  simp [tm, tms, ib, am, ams, sms, kms, bm, dm, cells_mk, A.cells, S.cells, K.cells, B.cells, D.cells, T.zero, T.kind, T.val, T.kids, spineT, room, keysCs, Cell.keys, s0, w_n_2, w_n_3]
  refine CallD.fn (fn94 (5) (.mk 3 (baseI n) []) (.mk 6 0 [(.mk 3 (baseI n + 2) []), (.mk 1 (0) [])])) (by simp [tm, tms, ib, am, ams, sms, kms, bm, dm, cells_mk, A.cells, S.cells, K.cells, B.cells, D.cells, T.zero, T.kind, T.val, T.kids, spineT, room, keysCs, Cell.keys]) (by simp [tm, tms, ib, am, ams, sms, kms, bm, dm, cells_mk, A.cells, S.cells, K.cells, B.cells, D.cells, T.zero, T.kind, T.val, T.kids, spineT, room, keysCs, Cell.keys]) (by first | exact keys_tm _ | exact keys_am _ | exact keys_dm _ | rfl) (by simp [tm, tms, ib, am, ams, sms, kms, bm, dm, cells_mk, A.cells, S.cells, K.cells, B.cells, D.cells, T.zero, T.kind, T.val, T.kids, spineT, room, keysCs, Cell.keys]) ?_
  simp [tm, tms, ib, am, ams, sms, kms, bm, dm, cells_mk, A.cells, S.cells, K.cells, B.cells, D.cells, T.zero, T.kind, T.val, T.kids, spineT, room, keysCs, Cell.keys, s0, w_n_2, w_n_3]
  refine CallD.fn (fn94 (5) (.mk 3 (baseI n) []) (.mk (5) 0 [(.mk 3 (baseI n) []), (.mk 6 0 [(.mk 3 (baseI n + 2) []), (.mk 1 (0) [])])])) (by simp [tm, tms, ib, am, ams, sms, kms, bm, dm, cells_mk, A.cells, S.cells, K.cells, B.cells, D.cells, T.zero, T.kind, T.val, T.kids, spineT, room, keysCs, Cell.keys]) (by simp [tm, tms, ib, am, ams, sms, kms, bm, dm, cells_mk, A.cells, S.cells, K.cells, B.cells, D.cells, T.zero, T.kind, T.val, T.kids, spineT, room, keysCs, Cell.keys]) (by first | exact keys_tm _ | exact keys_am _ | exact keys_dm _ | rfl) (by simp [tm, tms, ib, am, ams, sms, kms, bm, dm, cells_mk, A.cells, S.cells, K.cells, B.cells, D.cells, T.zero, T.kind, T.val, T.kids, spineT, room, keysCs, Cell.keys]) ?_
  simp [tm, tms, ib, am, ams, sms, kms, bm, dm, cells_mk, A.cells, S.cells, K.cells, B.cells, D.cells, T.zero, T.kind, T.val, T.kids, spineT, room, keysCs, Cell.keys, s0, w_n_2, w_n_3]
  refine CallD.fn (fn66 (1)) (by simp [tm, tms, ib, am, ams, sms, kms, bm, dm, cells_mk, A.cells, S.cells, K.cells, B.cells, D.cells, T.zero, T.kind, T.val, T.kids, spineT, room, keysCs, Cell.keys]) (by simp [tm, tms, ib, am, ams, sms, kms, bm, dm, cells_mk, A.cells, S.cells, K.cells, B.cells, D.cells, T.zero, T.kind, T.val, T.kids, spineT, room, keysCs, Cell.keys]) (by first | exact keys_tm _ | exact keys_am _ | exact keys_dm _ | rfl) (by simp [tm, tms, ib, am, ams, sms, kms, bm, dm, cells_mk, A.cells, S.cells, K.cells, B.cells, D.cells, T.zero, T.kind, T.val, T.kids, spineT, room, keysCs, Cell.keys]) ?_
  simp [tm, tms, ib, am, ams, sms, kms, bm, dm, cells_mk, A.cells, S.cells, K.cells, B.cells, D.cells, T.zero, T.kind, T.val, T.kids, spineT, room, keysCs, Cell.keys, s0, w_n_2, w_n_3]
  refine CallD.fn (fn95 (.mk 3 (baseI n + 3) []) [(.mk (5) 0 [(.mk 3 (baseI n) []), (.mk 3 (baseI n) [])]), (.mk 1 (0) []), (.mk (5) 0 [(.mk 3 (baseI n) []), (.mk (5) 0 [(.mk 3 (baseI n) []), (.mk 6 0 [(.mk 3 (baseI n + 2) []), (.mk 1 (0) [])])])]), (.mk 1 (1) [])]) (by simp [tm, tms, ib, am, ams, sms, kms, bm, dm, cells_mk, A.cells, S.cells, K.cells, B.cells, D.cells, T.zero, T.kind, T.val, T.kids, spineT, room, keysCs, Cell.keys]) (by simp [tm, tms, ib, am, ams, sms, kms, bm, dm, cells_mk, A.cells, S.cells, K.cells, B.cells, D.cells, T.zero, T.kind, T.val, T.kids, spineT, room, keysCs, Cell.keys]) (by first | exact keys_tm _ | exact keys_am _ | exact keys_dm _ | rfl) (by simp [tm, tms, ib, am, ams, sms, kms, bm, dm, cells_mk, A.cells, S.cells, K.cells, B.cells, D.cells, T.zero, T.kind, T.val, T.kids, spineT, room, keysCs, Cell.keys]) ?_
  simp [tm, tms, ib, am, ams, sms, kms, bm, dm, cells_mk, A.cells, S.cells, K.cells, B.cells, D.cells, T.zero, T.kind, T.val, T.kids, spineT, room, keysCs, Cell.keys, s0, w_n_2, w_n_3]
  refine CallD.fn (fn94 (5) (.mk 3 (baseI n) []) (.mk 6 0 [(.mk 6 0 [(.mk 6 0 [(.mk 6 0 [(.mk 3 (baseI n + 3) []), (.mk (5) 0 [(.mk 3 (baseI n) []), (.mk 3 (baseI n) [])])]), (.mk 1 (0) [])]), (.mk (5) 0 [(.mk 3 (baseI n) []), (.mk (5) 0 [(.mk 3 (baseI n) []), (.mk 6 0 [(.mk 3 (baseI n + 2) []), (.mk 1 (0) [])])])])]), (.mk 1 (1) [])])) (by simp [tm, tms, ib, am, ams, sms, kms, bm, dm, cells_mk, A.cells, S.cells, K.cells, B.cells, D.cells, T.zero, T.kind, T.val, T.kids, spineT, room, keysCs, Cell.keys]) (by simp [tm, tms, ib, am, ams, sms, kms, bm, dm, cells_mk, A.cells, S.cells, K.cells, B.cells, D.cells, T.zero, T.kind, T.val, T.kids, spineT, room, keysCs, Cell.keys]) (by first | exact keys_tm _ | exact keys_am _ | exact keys_dm _ | rfl) (by simp [tm, tms, ib, am, ams, sms, kms, bm, dm, cells_mk, A.cells, S.cells, K.cells, B.cells, D.cells, T.zero, T.kind, T.val, T.kids, spineT, room, keysCs, Cell.keys]) ?_
  simp [tm, tms, ib, am, ams, sms, kms, bm, dm, cells_mk, A.cells, S.cells, K.cells, B.cells, D.cells, T.zero, T.kind, T.val, T.kids, spineT, room, keysCs, Cell.keys, s0, w_n_2, w_n_3]
  refine CallD.fn (fn94 (5) (.mk 3 (baseI n) []) (.mk (5) 0 [(.mk 3 (baseI n) []), (.mk 6 0 [(.mk 6 0 [(.mk 6 0 [(.mk 6 0 [(.mk 3 (baseI n + 3) []), (.mk (5) 0 [(.mk 3 (baseI n) []), (.mk 3 (baseI n) [])])]), (.mk 1 (0) [])]), (.mk (5) 0 [(.mk 3 (baseI n) []), (.mk (5) 0 [(.mk 3 (baseI n) []), (.mk 6 0 [(.mk 3 (baseI n + 2) []), (.mk 1 (0) [])])])])]), (.mk 1 (1) [])])])) (by simp [tm, tms, ib, am, ams, sms, kms, bm, dm, cells_mk, A.cells, S.cells, K.cells, B.cells, D.cells, T.zero, T.kind, T.val, T.kids, spineT, room, keysCs, Cell.keys]) (by simp [tm, tms, ib, am, ams, sms, kms, bm, dm, cells_mk, A.cells, S.cells, K.cells, B.cells, D.cells, T.zero, T.kind, T.val, T.kids, spineT, room, keysCs, Cell.keys]) (by first | exact keys_tm _ | exact keys_am _ | exact keys_dm _ | rfl) (by simp [tm, tms, ib, am, ams, sms, kms, bm, dm, cells_mk, A.cells, S.cells, K.cells, B.cells, D.cells, T.zero, T.kind, T.val, T.kids, spineT, room, keysCs, Cell.keys]) ?_
  simp [tm, tms, ib, am, ams, sms, kms, bm, dm, cells_mk, A.cells, S.cells, K.cells, B.cells, D.cells, T.zero, T.kind, T.val, T.kids, spineT, room, keysCs, Cell.keys, s0, w_n_2, w_n_3]
  first | refine realC_n ?_ | refine ⟨rfl, realC_n ?_⟩
  simp [tm, tms, ib, am, ams, sms, kms, bm, dm, cells_mk, A.cells, S.cells, K.cells, B.cells, D.cells, T.zero, T.kind, T.val, T.kids, spineT, room, keysCs, Cell.keys]
  simp [tm, tms, ib, am, ams, sms, kms, bm, dm, cells_mk, A.cells, S.cells, K.cells, B.cells, D.cells, T.zero, T.kind, T.val, T.kids, spineT, room, keysCs, Cell.keys, r44, dm, D.cells, d44]
end Go.Abs
