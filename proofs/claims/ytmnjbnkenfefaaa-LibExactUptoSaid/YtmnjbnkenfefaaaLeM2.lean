/- THIS TEXT TELLS SOME FUNCTIONS OF THE PROGRAM IN THE CALCULUS, PROVES BY THE KERNEL THAT WHAT IS TOLD IS THE LOADED CODE, AND PROVES WHAT THEY COMPUTE: for every argument that is told; the conditions stand in each theorem. -/
import Derived.KernelRfl
import Derived.Test.YtmnjbnkenfefaaaProg
import Derived.Test.YtmnjbnkenfefaaaLeM1
set_option linter.unusedVariables false
set_option linter.unusedSimpArgs false
namespace Go.Abs
open Go.Proofs

theorem k2_clo (f : Nat) (a b : List (Nat × Nat)) : AV.keys2 (.c (.clo f a b)) = a.map (·.1) ++ b.map (·.1) := rfl

/-- The boxes of lib.Add's closures. -/
def l91 (n : Int) (t1 : Nat) : Objs := [(43001, t1, .box 3 [.v (.int .i64 n)])]
def l92 (n : Int) (t1 t3 : Nat) : Objs := [(43003, t3, .box 87 [.clo 91 [] [(43001, t1)]]), (43001, t1, .box 3 [.v (.int .i64 n)])]
theorem l91_get {n : Int} {t1 k t : Nat} {q : Obj} (h : (l91 n t1).lookup k = some (t, q)) : k = 43001 ∧ t = t1 ∧ q = .box 3 [.v (.int .i64 n)] := by
  simp only [l91, List.lookup_cons, List.lookup_nil] at h
  split at h
  · rename_i hk; cases h; exact ⟨by simpa using hk, rfl, rfl⟩
  · cases h
theorem l92_get {n : Int} {t1 t3 k t : Nat} {q : Obj} (h : (l92 n t1 t3).lookup k = some (t, q)) : (k = 43003 ∧ t = t3 ∧ q = .box 87 [.clo 91 [] [(43001, t1)]]) ∨ (k = 43001 ∧ t = t1 ∧ q = .box 3 [.v (.int .i64 n)]) := by
  simp only [l92, List.lookup_cons, List.lookup_nil] at h
  split at h
  · rename_i hk; cases h; exact .inl ⟨by simpa using hk, rfl, rfl⟩
  · split at h
    · rename_i hk; cases h; exact .inr ⟨by simpa using hk, rfl, rfl⟩
    · cases h

theorem ro91 {σ : St} {n : Int} {t1 : Nat} (o1 : σ.ob 43001 = some (.box 3 [.v (.int .i64 n)])) (g1 : σ.tg 43001 = t1) : Ro σ (l91 n t1) :=
  ⟨fun k t q h => by obtain ⟨rfl, rfl, rfl⟩ := l91_get h; exact ⟨o1, g1⟩, fun k t q h => by obtain ⟨rfl, rfl, rfl⟩ := l91_get h; intro k hk; simp [tm, tms, ib, am, ams, sms, kms, bm, dm, cells_mk, A.cells, S.cells, K.cells, B.cells, D.cells, T.zero, T.kind, T.val, T.kids, spineT, room, keysCs, Cell.keys, k2_clo, Obj.keys] at hk⟩
theorem ro92 {σ : St} {n : Int} {t1 t3 : Nat} (o1 : σ.ob 43001 = some (.box 3 [.v (.int .i64 n)])) (g1 : σ.tg 43001 = t1) (o3 : σ.ob 43003 = some (.box 87 [.clo 91 [] [(43001, t1)]])) (g3 : σ.tg 43003 = t3) : Ro σ (l92 n t1 t3) :=
  ⟨fun k t q h => by rcases l92_get h with ⟨rfl, rfl, rfl⟩ | ⟨rfl, rfl, rfl⟩; exact ⟨o3, g3⟩; exact ⟨o1, g1⟩,
   fun k t q h => by
    rcases l92_get h with ⟨rfl, rfl, rfl⟩ | ⟨rfl, rfl, rfl⟩
    · intro k hk; simp [tm, tms, ib, am, ams, sms, kms, bm, dm, cells_mk, A.cells, S.cells, K.cells, B.cells, D.cells, T.zero, T.kind, T.val, T.kids, spineT, room, keysCs, Cell.keys, k2_clo, Obj.keys, keysCs, Cell.keys] at hk; subst hk; rfl
    · intro k hk; simp [tm, tms, ib, am, ams, sms, kms, bm, dm, cells_mk, A.cells, S.cells, K.cells, B.cells, D.cells, T.zero, T.kind, T.val, T.kids, spineT, room, keysCs, Cell.keys, k2_clo, Obj.keys] at hk⟩

theorem sp91 (n : Int) (t1 : Nat) : Spec Try.prog 91 (refs [(43001, t1)]) (l91 n t1) (tm (.mk 3 n [])) (l91 n t1) := by
  refine spec_of (base := 91000) ok91 rfl fun T0 hT hr => ?_
  have t1' := hT 43001 t1 _ rfl
  clear hr hT
  generalize hσ : (⟨slotsOf (refs [(43001, t1)]), obsOf (l91 n t1), T0⟩ : St) = σ
  have s0 : σ.sl 0 = .c (.ref 43001 t1 0) := by rw [← hσ]; rfl
  have o1 : σ.ob 43001 = some (.box 3 [.v (.int .i64 n)]) := by rw [← hσ]; rfl
  have g1 : σ.tg 43001 = t1 := by rw [← hσ]; exact t1'
  clear hσ
  unfold c91
  simp [tm, tms, ib, am, ams, sms, kms, bm, dm, cells_mk, A.cells, S.cells, K.cells, B.cells, D.cells, T.zero, T.kind, T.val, T.kids, spineT, room, keysCs, Cell.keys, k2_clo, s0, o1, g1]
  refine ECall.fn (fn73 n) (by simp [tm, tms, ib, am, ams, sms, kms, bm, dm, cells_mk, A.cells, S.cells, K.cells, B.cells, D.cells, T.zero, T.kind, T.val, T.kids, spineT, room, keysCs, Cell.keys, k2_clo]) (by simp [tm, tms, ib, am, ams, sms, kms, bm, dm, cells_mk, A.cells, S.cells, K.cells, B.cells, D.cells, T.zero, T.kind, T.val, T.kids, spineT, room, keysCs, Cell.keys, k2_clo]) (by first | exact keys_tm _ | exact keys_am _ | exact keys_dm _ | rfl) fun _ => ?_
  simp [tm, tms, ib, am, ams, sms, kms, bm, dm, cells_mk, A.cells, S.cells, K.cells, B.cells, D.cells, T.zero, T.kind, T.val, T.kids, spineT, room, keysCs, Cell.keys, k2_clo]
  refine ⟨by simp [tm, tms, ib, am, ams, sms, kms, bm, dm, cells_mk, A.cells, S.cells, K.cells, B.cells, D.cells, T.zero, T.kind, T.val, T.kids, spineT, room, keysCs, Cell.keys, k2_clo, r91], by simp [tm, tms, ib, am, ams, sms, kms, bm, dm, cells_mk, A.cells, S.cells, K.cells, B.cells, D.cells, T.zero, T.kind, T.val, T.kids, spineT, room, keysCs, Cell.keys, k2_clo, r91], fun k t q h => ?_⟩
  obtain ⟨rfl, rfl, rfl⟩ := l91_get h
  simp [tm, tms, ib, am, ams, sms, kms, bm, dm, cells_mk, A.cells, S.cells, K.cells, B.cells, D.cells, T.zero, T.kind, T.val, T.kids, spineT, room, keysCs, Cell.keys, k2_clo, o1, g1, h]
theorem sp92 (n : Int) (b : T) (t1 t3 : Nat) : Spec Try.prog 92 ([tm b] ++ refs [(43003, t3)]) (l92 n t1 t3) (tm (.mk 5 0 [.mk 3 n [], b])) (l92 n t1 t3) := by
  refine spec_of (base := 92000) ok92 rfl fun T0 hT hr => ?_
  have t1' := hT 43001 t1 _ rfl
  have t3' := hT 43003 t3 _ rfl
  clear hr hT
  generalize hσ : (⟨slotsOf ([tm b] ++ refs [(43003, t3)]), obsOf (l92 n t1 t3), T0⟩ : St) = σ
  have s0 : σ.sl 0 = tm b := by rw [← hσ]; rfl
  have s1 : σ.sl 1 = .c (.ref 43003 t3 0) := by rw [← hσ]; rfl
  have o1 : σ.ob 43001 = some (.box 3 [.v (.int .i64 n)]) := by rw [← hσ]; rfl
  have o3 : σ.ob 43003 = some (.box 87 [.clo 91 [] [(43001, t1)]]) := by rw [← hσ]; rfl
  have g1 : σ.tg 43001 = t1 := by rw [← hσ]; exact t1'
  have g3 : σ.tg 43003 = t3 := by rw [← hσ]; exact t3'
  clear hσ
  simp only [tm] at s0
  unfold c92
  simp [tm, tms, ib, am, ams, sms, kms, bm, dm, cells_mk, A.cells, S.cells, K.cells, B.cells, D.cells, T.zero, T.kind, T.val, T.kids, spineT, room, keysCs, Cell.keys, k2_clo, s0, s1, o1, o3, g1, g3]
  refine W_dregA ?_
  simp [tm, tms, ib, am, ams, sms, kms, bm, dm, cells_mk, A.cells, S.cells, K.cells, B.cells, D.cells, T.zero, T.kind, T.val, T.kids, spineT, room, keysCs, Cell.keys, k2_clo, s0, s1, o1, o3, g1, g3]
  refine CallA.ro (l91 n t1) (args := []) (by simpa using sp91 n t1) (by simp [tm, tms, ib, am, ams, sms, kms, bm, dm, cells_mk, A.cells, S.cells, K.cells, B.cells, D.cells, T.zero, T.kind, T.val, T.kids, spineT, room, keysCs, Cell.keys, k2_clo]) (by simp [tm, tms, ib, am, ams, sms, kms, bm, dm, cells_mk, A.cells, S.cells, K.cells, B.cells, D.cells, T.zero, T.kind, T.val, T.kids, spineT, room, keysCs, Cell.keys, k2_clo]) (by first | exact keys_tm _ | exact keys_am _ | exact keys_dm _ | rfl) (ro91 (by simp [tm, tms, ib, am, ams, sms, kms, bm, dm, cells_mk, A.cells, S.cells, K.cells, B.cells, D.cells, T.zero, T.kind, T.val, T.kids, spineT, room, keysCs, Cell.keys, k2_clo, o1]) (by simp [tm, tms, ib, am, ams, sms, kms, bm, dm, cells_mk, A.cells, S.cells, K.cells, B.cells, D.cells, T.zero, T.kind, T.val, T.kids, spineT, room, keysCs, Cell.keys, k2_clo, g1])) ?_
  simp [tm, tms, ib, am, ams, sms, kms, bm, dm, cells_mk, A.cells, S.cells, K.cells, B.cells, D.cells, T.zero, T.kind, T.val, T.kids, spineT, room, keysCs, Cell.keys, k2_clo]
  refine CallA.fn (fn74 5 [.mk 3 n [], b]) (by simp [tm, tms, ib, am, ams, sms, kms, bm, dm, cells_mk, A.cells, S.cells, K.cells, B.cells, D.cells, T.zero, T.kind, T.val, T.kids, spineT, room, keysCs, Cell.keys, k2_clo]) (by simp [tm, tms, ib, am, ams, sms, kms, bm, dm, cells_mk, A.cells, S.cells, K.cells, B.cells, D.cells, T.zero, T.kind, T.val, T.kids, spineT, room, keysCs, Cell.keys, k2_clo]) (by first | exact keys_tm _ | exact keys_am _ | exact keys_dm _ | rfl) ?_
  simp [tm, tms, ib, am, ams, sms, kms, bm, dm, cells_mk, A.cells, S.cells, K.cells, B.cells, D.cells, T.zero, T.kind, T.val, T.kids, spineT, room, keysCs, Cell.keys, k2_clo]
  refine ⟨rfl, realC_n ?_⟩
  refine ⟨by simp [tm, tms, ib, am, ams, sms, kms, bm, dm, cells_mk, A.cells, S.cells, K.cells, B.cells, D.cells, T.zero, T.kind, T.val, T.kids, spineT, room, keysCs, Cell.keys, k2_clo, r92], by simp [tm, tms, ib, am, ams, sms, kms, bm, dm, cells_mk, A.cells, S.cells, K.cells, B.cells, D.cells, T.zero, T.kind, T.val, T.kids, spineT, room, keysCs, Cell.keys, k2_clo, r92], fun k t q h => ?_⟩
  rcases l92_get h with ⟨rfl, rfl, rfl⟩ | ⟨rfl, rfl, rfl⟩
  · simp [tm, tms, ib, am, ams, sms, kms, bm, dm, cells_mk, A.cells, S.cells, K.cells, B.cells, D.cells, T.zero, T.kind, T.val, T.kids, spineT, room, keysCs, Cell.keys, k2_clo, o1, o3, g1, g3, h]
  · simp [tm, tms, ib, am, ams, sms, kms, bm, dm, cells_mk, A.cells, S.cells, K.cells, B.cells, D.cells, T.zero, T.kind, T.val, T.kids, spineT, room, keysCs, Cell.keys, k2_clo, o1, o3, g1, g3, h]
def d43 (n : Int) : D := ⟨2, nestT 4 [.mk 3 (baseI n) [], .mk 3 (baseI n) []] (.mk 3 (baseI n) []), .mk 5 0 [.mk 3 (baseI n) [], .mk 5 0 [.mk 3 (baseI n) [], spineT (.mk 3 (baseI n + 3) []) [.mk 5 0 [.mk 3 (baseI n) [], .mk 3 (baseI n) []], .mk 1 0 [], .mk 5 0 [.mk 3 (baseI n) [], .mk 5 0 [.mk 3 (baseI n) [], .mk 6 0 [.mk 3 (baseI n + 2) [], .mk 1 0 []]]], .mk 1 1 []]]], ⟨[], [], 0⟩⟩
theorem fn43 (n : Int) : Fn Try.prog 43 [ib n] (dm (d43 n)) := by
  unfold d43
  refine fn_of (base := 43000) ok43 rfl fun σ h0 hr => ?_
  have s0 : σ.sl 0 = ib n := h0 0
  simp only [ib] at s0
  clear h0 hr
  have hb_n := baseI_le n
  have w2 : IntKind.wrap .i64 (baseI n + 2) = baseI n + 2 := wrap_id (by omega) (by omega)
  have w3 : IntKind.wrap .i64 (baseI n + 3) = baseI n + 3 := wrap_id (by omega) (by omega)
  unfold c43
  simp [tm, tms, ib, am, ams, sms, kms, bm, dm, cells_mk, A.cells, S.cells, K.cells, B.cells, D.cells, T.zero, T.kind, T.val, T.kids, spineT, room, keysCs, Cell.keys, k2_clo, s0]
  refine ECall.fn (fn87 n) (by simp [tm, tms, ib, am, ams, sms, kms, bm, dm, cells_mk, A.cells, S.cells, K.cells, B.cells, D.cells, T.zero, T.kind, T.val, T.kids, spineT, room, keysCs, Cell.keys, k2_clo]) (by simp [tm, tms, ib, am, ams, sms, kms, bm, dm, cells_mk, A.cells, S.cells, K.cells, B.cells, D.cells, T.zero, T.kind, T.val, T.kids, spineT, room, keysCs, Cell.keys, k2_clo]) (by first | exact keys_tm _ | exact keys_am _ | exact keys_dm _ | rfl) fun _ => ?_
  simp [tm, tms, ib, am, ams, sms, kms, bm, dm, cells_mk, A.cells, S.cells, K.cells, B.cells, D.cells, T.zero, T.kind, T.val, T.kids, spineT, room, keysCs, Cell.keys, k2_clo, w2]
  generalize baseI n = b at *
  refine ECall.fn (fn73 (b + 2)) (by simp [tm, tms, ib, am, ams, sms, kms, bm, dm, cells_mk, A.cells, S.cells, K.cells, B.cells, D.cells, T.zero, T.kind, T.val, T.kids, spineT, room, keysCs, Cell.keys, k2_clo]) (by simp [tm, tms, ib, am, ams, sms, kms, bm, dm, cells_mk, A.cells, S.cells, K.cells, B.cells, D.cells, T.zero, T.kind, T.val, T.kids, spineT, room, keysCs, Cell.keys, k2_clo]) (by first | exact keys_tm _ | exact keys_am _ | exact keys_dm _ | rfl) fun _ => ?_
  simp [tm, tms, ib, am, ams, sms, kms, bm, dm, cells_mk, A.cells, S.cells, K.cells, B.cells, D.cells, T.zero, T.kind, T.val, T.kids, spineT, room, keysCs, Cell.keys, k2_clo]
  refine ECall.fn (fn76 0) (by simp [tm, tms, ib, am, ams, sms, kms, bm, dm, cells_mk, A.cells, S.cells, K.cells, B.cells, D.cells, T.zero, T.kind, T.val, T.kids, spineT, room, keysCs, Cell.keys, k2_clo]) (by simp [tm, tms, ib, am, ams, sms, kms, bm, dm, cells_mk, A.cells, S.cells, K.cells, B.cells, D.cells, T.zero, T.kind, T.val, T.kids, spineT, room, keysCs, Cell.keys, k2_clo]) (by first | exact keys_tm _ | exact keys_am _ | exact keys_dm _ | rfl) fun _ => ?_
  simp [tm, tms, ib, am, ams, sms, kms, bm, dm, cells_mk, A.cells, S.cells, K.cells, B.cells, D.cells, T.zero, T.kind, T.val, T.kids, spineT, room, keysCs, Cell.keys, k2_clo]
  refine ECall.fn (fn75 (.mk 3 (b + 2) []) [.mk 1 0 []]) (by simp [tm, tms, ib, am, ams, sms, kms, bm, dm, cells_mk, A.cells, S.cells, K.cells, B.cells, D.cells, T.zero, T.kind, T.val, T.kids, spineT, room, keysCs, Cell.keys, k2_clo]) (by simp [tm, tms, ib, am, ams, sms, kms, bm, dm, cells_mk, A.cells, S.cells, K.cells, B.cells, D.cells, T.zero, T.kind, T.val, T.kids, spineT, room, keysCs, Cell.keys, k2_clo]) (by first | exact keys_tm _ | exact keys_am _ | exact keys_dm _ | rfl) fun _ => ?_
  simp [tm, tms, ib, am, ams, sms, kms, bm, dm, cells_mk, A.cells, S.cells, K.cells, B.cells, D.cells, T.zero, T.kind, T.val, T.kids, spineT, room, keysCs, Cell.keys, k2_clo]
  refine ECall.ro (l92 b (σ.tg 43001 + 1) (σ.tg 43003 + 1)) (sp92 b (.mk 6 0 [.mk 3 (b + 2) [], .mk 1 0 []]) _ _) (by simp [tm, tms, ib, am, ams, sms, kms, bm, dm, cells_mk, A.cells, S.cells, K.cells, B.cells, D.cells, T.zero, T.kind, T.val, T.kids, spineT, room, keysCs, Cell.keys, k2_clo]) (by simp [tm, tms, ib, am, ams, sms, kms, bm, dm, cells_mk, A.cells, S.cells, K.cells, B.cells, D.cells, T.zero, T.kind, T.val, T.kids, spineT, room, keysCs, Cell.keys, k2_clo]) (by first | exact keys_tm _ | exact keys_am _ | exact keys_dm _ | rfl) (ro92 (by simp [tm, tms, ib, am, ams, sms, kms, bm, dm, cells_mk, A.cells, S.cells, K.cells, B.cells, D.cells, T.zero, T.kind, T.val, T.kids, spineT, room, keysCs, Cell.keys, k2_clo]) (by simp [tm, tms, ib, am, ams, sms, kms, bm, dm, cells_mk, A.cells, S.cells, K.cells, B.cells, D.cells, T.zero, T.kind, T.val, T.kids, spineT, room, keysCs, Cell.keys, k2_clo]) (by simp [tm, tms, ib, am, ams, sms, kms, bm, dm, cells_mk, A.cells, S.cells, K.cells, B.cells, D.cells, T.zero, T.kind, T.val, T.kids, spineT, room, keysCs, Cell.keys, k2_clo]) (by simp [tm, tms, ib, am, ams, sms, kms, bm, dm, cells_mk, A.cells, S.cells, K.cells, B.cells, D.cells, T.zero, T.kind, T.val, T.kids, spineT, room, keysCs, Cell.keys, k2_clo])) fun _ => ?_
  simp [tm, tms, ib, am, ams, sms, kms, bm, dm, cells_mk, A.cells, S.cells, K.cells, B.cells, D.cells, T.zero, T.kind, T.val, T.kids, spineT, room, keysCs, Cell.keys, k2_clo]
  refine ECall.ro (l92 b (σ.tg 43001 + 1) (σ.tg 43003 + 1)) (sp92 b (.mk 5 0 [.mk 3 b [], .mk 6 0 [.mk 3 (b + 2) [], .mk 1 0 []]]) _ _) (by simp [tm, tms, ib, am, ams, sms, kms, bm, dm, cells_mk, A.cells, S.cells, K.cells, B.cells, D.cells, T.zero, T.kind, T.val, T.kids, spineT, room, keysCs, Cell.keys, k2_clo]) (by simp [tm, tms, ib, am, ams, sms, kms, bm, dm, cells_mk, A.cells, S.cells, K.cells, B.cells, D.cells, T.zero, T.kind, T.val, T.kids, spineT, room, keysCs, Cell.keys, k2_clo]) (by first | exact keys_tm _ | exact keys_am _ | exact keys_dm _ | rfl) (ro92 (by simp [tm, tms, ib, am, ams, sms, kms, bm, dm, cells_mk, A.cells, S.cells, K.cells, B.cells, D.cells, T.zero, T.kind, T.val, T.kids, spineT, room, keysCs, Cell.keys, k2_clo]) (by simp [tm, tms, ib, am, ams, sms, kms, bm, dm, cells_mk, A.cells, S.cells, K.cells, B.cells, D.cells, T.zero, T.kind, T.val, T.kids, spineT, room, keysCs, Cell.keys, k2_clo]) (by simp [tm, tms, ib, am, ams, sms, kms, bm, dm, cells_mk, A.cells, S.cells, K.cells, B.cells, D.cells, T.zero, T.kind, T.val, T.kids, spineT, room, keysCs, Cell.keys, k2_clo]) (by simp [tm, tms, ib, am, ams, sms, kms, bm, dm, cells_mk, A.cells, S.cells, K.cells, B.cells, D.cells, T.zero, T.kind, T.val, T.kids, spineT, room, keysCs, Cell.keys, k2_clo])) fun _ => ?_
  simp [tm, tms, ib, am, ams, sms, kms, bm, dm, cells_mk, A.cells, S.cells, K.cells, B.cells, D.cells, T.zero, T.kind, T.val, T.kids, spineT, room, keysCs, Cell.keys, k2_clo]
  refine W_dregD w43_0 f43_0 (by decide) ?_
  unfold w43_0 f43_0
  simp [tm, tms, ib, am, ams, sms, kms, bm, dm, cells_mk, A.cells, S.cells, K.cells, B.cells, D.cells, T.zero, T.kind, T.val, T.kids, spineT, room, keysCs, Cell.keys, k2_clo, w3]
  refine CallD.fn (fn73 (b + 3)) (by simp [tm, tms, ib, am, ams, sms, kms, bm, dm, cells_mk, A.cells, S.cells, K.cells, B.cells, D.cells, T.zero, T.kind, T.val, T.kids, spineT, room, keysCs, Cell.keys, k2_clo]) (by simp [tm, tms, ib, am, ams, sms, kms, bm, dm, cells_mk, A.cells, S.cells, K.cells, B.cells, D.cells, T.zero, T.kind, T.val, T.kids, spineT, room, keysCs, Cell.keys, k2_clo]) (by first | exact keys_tm _ | exact keys_am _ | exact keys_dm _ | rfl) (by simp [tm, tms, ib, am, ams, sms, kms, bm, dm, cells_mk, A.cells, S.cells, K.cells, B.cells, D.cells, T.zero, T.kind, T.val, T.kids, spineT, room, keysCs, Cell.keys, k2_clo]) ?_
  simp [tm, tms, ib, am, ams, sms, kms, bm, dm, cells_mk, A.cells, S.cells, K.cells, B.cells, D.cells, T.zero, T.kind, T.val, T.kids, spineT, room, keysCs, Cell.keys, k2_clo]
  refine CallD.ro (l91 b (σ.tg 43001 + 1)) (args := []) (by simpa using sp91 b (σ.tg 43001 + 1)) (by simp [tm, tms, ib, am, ams, sms, kms, bm, dm, cells_mk, A.cells, S.cells, K.cells, B.cells, D.cells, T.zero, T.kind, T.val, T.kids, spineT, room, keysCs, Cell.keys, k2_clo]) (by simp [tm, tms, ib, am, ams, sms, kms, bm, dm, cells_mk, A.cells, S.cells, K.cells, B.cells, D.cells, T.zero, T.kind, T.val, T.kids, spineT, room, keysCs, Cell.keys, k2_clo]) (by first | exact keys_tm _ | exact keys_am _ | exact keys_dm _ | rfl) (ro91 (by simp [tm, tms, ib, am, ams, sms, kms, bm, dm, cells_mk, A.cells, S.cells, K.cells, B.cells, D.cells, T.zero, T.kind, T.val, T.kids, spineT, room, keysCs, Cell.keys, k2_clo]) (by simp [tm, tms, ib, am, ams, sms, kms, bm, dm, cells_mk, A.cells, S.cells, K.cells, B.cells, D.cells, T.zero, T.kind, T.val, T.kids, spineT, room, keysCs, Cell.keys, k2_clo])) (by simp [tm, tms, ib, am, ams, sms, kms, bm, dm, cells_mk, A.cells, S.cells, K.cells, B.cells, D.cells, T.zero, T.kind, T.val, T.kids, spineT, room, keysCs, Cell.keys, k2_clo, l91]) ?_
  simp [tm, tms, ib, am, ams, sms, kms, bm, dm, cells_mk, A.cells, S.cells, K.cells, B.cells, D.cells, T.zero, T.kind, T.val, T.kids, spineT, room, keysCs, Cell.keys, k2_clo]
  refine CallD.ro (l92 b (σ.tg 43001 + 1) (σ.tg 43003 + 1)) (sp92 b (.mk 3 b []) _ _) (by simp [tm, tms, ib, am, ams, sms, kms, bm, dm, cells_mk, A.cells, S.cells, K.cells, B.cells, D.cells, T.zero, T.kind, T.val, T.kids, spineT, room, keysCs, Cell.keys, k2_clo]) (by simp [tm, tms, ib, am, ams, sms, kms, bm, dm, cells_mk, A.cells, S.cells, K.cells, B.cells, D.cells, T.zero, T.kind, T.val, T.kids, spineT, room, keysCs, Cell.keys, k2_clo]) (by first | exact keys_tm _ | exact keys_am _ | exact keys_dm _ | rfl) (ro92 (by simp [tm, tms, ib, am, ams, sms, kms, bm, dm, cells_mk, A.cells, S.cells, K.cells, B.cells, D.cells, T.zero, T.kind, T.val, T.kids, spineT, room, keysCs, Cell.keys, k2_clo]) (by simp [tm, tms, ib, am, ams, sms, kms, bm, dm, cells_mk, A.cells, S.cells, K.cells, B.cells, D.cells, T.zero, T.kind, T.val, T.kids, spineT, room, keysCs, Cell.keys, k2_clo]) (by simp [tm, tms, ib, am, ams, sms, kms, bm, dm, cells_mk, A.cells, S.cells, K.cells, B.cells, D.cells, T.zero, T.kind, T.val, T.kids, spineT, room, keysCs, Cell.keys, k2_clo]) (by simp [tm, tms, ib, am, ams, sms, kms, bm, dm, cells_mk, A.cells, S.cells, K.cells, B.cells, D.cells, T.zero, T.kind, T.val, T.kids, spineT, room, keysCs, Cell.keys, k2_clo])) (by simp [tm, tms, ib, am, ams, sms, kms, bm, dm, cells_mk, A.cells, S.cells, K.cells, B.cells, D.cells, T.zero, T.kind, T.val, T.kids, spineT, room, keysCs, Cell.keys, k2_clo, l92]) ?_
  simp [tm, tms, ib, am, ams, sms, kms, bm, dm, cells_mk, A.cells, S.cells, K.cells, B.cells, D.cells, T.zero, T.kind, T.val, T.kids, spineT, room, keysCs, Cell.keys, k2_clo]
  refine CallD.fn (fn76 0) (by simp [tm, tms, ib, am, ams, sms, kms, bm, dm, cells_mk, A.cells, S.cells, K.cells, B.cells, D.cells, T.zero, T.kind, T.val, T.kids, spineT, room, keysCs, Cell.keys, k2_clo]) (by simp [tm, tms, ib, am, ams, sms, kms, bm, dm, cells_mk, A.cells, S.cells, K.cells, B.cells, D.cells, T.zero, T.kind, T.val, T.kids, spineT, room, keysCs, Cell.keys, k2_clo]) (by first | exact keys_tm _ | exact keys_am _ | exact keys_dm _ | rfl) (by simp [tm, tms, ib, am, ams, sms, kms, bm, dm, cells_mk, A.cells, S.cells, K.cells, B.cells, D.cells, T.zero, T.kind, T.val, T.kids, spineT, room, keysCs, Cell.keys, k2_clo]) ?_
  simp [tm, tms, ib, am, ams, sms, kms, bm, dm, cells_mk, A.cells, S.cells, K.cells, B.cells, D.cells, T.zero, T.kind, T.val, T.kids, spineT, room, keysCs, Cell.keys, k2_clo]
  refine CallD.fn (fn76 1) (by simp [tm, tms, ib, am, ams, sms, kms, bm, dm, cells_mk, A.cells, S.cells, K.cells, B.cells, D.cells, T.zero, T.kind, T.val, T.kids, spineT, room, keysCs, Cell.keys, k2_clo]) (by simp [tm, tms, ib, am, ams, sms, kms, bm, dm, cells_mk, A.cells, S.cells, K.cells, B.cells, D.cells, T.zero, T.kind, T.val, T.kids, spineT, room, keysCs, Cell.keys, k2_clo]) (by first | exact keys_tm _ | exact keys_am _ | exact keys_dm _ | rfl) (by simp [tm, tms, ib, am, ams, sms, kms, bm, dm, cells_mk, A.cells, S.cells, K.cells, B.cells, D.cells, T.zero, T.kind, T.val, T.kids, spineT, room, keysCs, Cell.keys, k2_clo]) ?_
  simp [tm, tms, ib, am, ams, sms, kms, bm, dm, cells_mk, A.cells, S.cells, K.cells, B.cells, D.cells, T.zero, T.kind, T.val, T.kids, spineT, room, keysCs, Cell.keys, k2_clo]
  refine CallD.fn (fn75 (.mk 3 (b + 3) []) [(.mk 5 0 [.mk 3 b [], .mk 3 b []]), .mk 1 0 [], (.mk 5 0 [.mk 3 b [], .mk 5 0 [.mk 3 b [], .mk 6 0 [.mk 3 (b + 2) [], .mk 1 0 []]]]), .mk 1 1 []]) (by simp [tm, tms, ib, am, ams, sms, kms, bm, dm, cells_mk, A.cells, S.cells, K.cells, B.cells, D.cells, T.zero, T.kind, T.val, T.kids, spineT, room, keysCs, Cell.keys, k2_clo]) (by simp [tm, tms, ib, am, ams, sms, kms, bm, dm, cells_mk, A.cells, S.cells, K.cells, B.cells, D.cells, T.zero, T.kind, T.val, T.kids, spineT, room, keysCs, Cell.keys, k2_clo]) (by first | exact keys_tm _ | exact keys_am _ | exact keys_dm _ | rfl) (by simp [tm, tms, ib, am, ams, sms, kms, bm, dm, cells_mk, A.cells, S.cells, K.cells, B.cells, D.cells, T.zero, T.kind, T.val, T.kids, spineT, room, keysCs, Cell.keys, k2_clo]) ?_
  simp [tm, tms, ib, am, ams, sms, kms, bm, dm, cells_mk, A.cells, S.cells, K.cells, B.cells, D.cells, T.zero, T.kind, T.val, T.kids, spineT, room, keysCs, Cell.keys, k2_clo]
  refine CallD.ro (l92 b (σ.tg 43001 + 1) (σ.tg 43003 + 1)) (sp92 b (.mk 6 0 [.mk 6 0 [.mk 6 0 [.mk 6 0 [.mk 3 (b + 3) [], (.mk 5 0 [.mk 3 b [], .mk 3 b []])], .mk 1 0 []], (.mk 5 0 [.mk 3 b [], .mk 5 0 [.mk 3 b [], .mk 6 0 [.mk 3 (b + 2) [], .mk 1 0 []]]])], .mk 1 1 []]) _ _) (by simp [tm, tms, ib, am, ams, sms, kms, bm, dm, cells_mk, A.cells, S.cells, K.cells, B.cells, D.cells, T.zero, T.kind, T.val, T.kids, spineT, room, keysCs, Cell.keys, k2_clo]) (by simp [tm, tms, ib, am, ams, sms, kms, bm, dm, cells_mk, A.cells, S.cells, K.cells, B.cells, D.cells, T.zero, T.kind, T.val, T.kids, spineT, room, keysCs, Cell.keys, k2_clo]) (by first | exact keys_tm _ | exact keys_am _ | exact keys_dm _ | rfl) (ro92 (by simp [tm, tms, ib, am, ams, sms, kms, bm, dm, cells_mk, A.cells, S.cells, K.cells, B.cells, D.cells, T.zero, T.kind, T.val, T.kids, spineT, room, keysCs, Cell.keys, k2_clo]) (by simp [tm, tms, ib, am, ams, sms, kms, bm, dm, cells_mk, A.cells, S.cells, K.cells, B.cells, D.cells, T.zero, T.kind, T.val, T.kids, spineT, room, keysCs, Cell.keys, k2_clo]) (by simp [tm, tms, ib, am, ams, sms, kms, bm, dm, cells_mk, A.cells, S.cells, K.cells, B.cells, D.cells, T.zero, T.kind, T.val, T.kids, spineT, room, keysCs, Cell.keys, k2_clo]) (by simp [tm, tms, ib, am, ams, sms, kms, bm, dm, cells_mk, A.cells, S.cells, K.cells, B.cells, D.cells, T.zero, T.kind, T.val, T.kids, spineT, room, keysCs, Cell.keys, k2_clo])) (by simp [tm, tms, ib, am, ams, sms, kms, bm, dm, cells_mk, A.cells, S.cells, K.cells, B.cells, D.cells, T.zero, T.kind, T.val, T.kids, spineT, room, keysCs, Cell.keys, k2_clo, l92]) ?_
  simp [tm, tms, ib, am, ams, sms, kms, bm, dm, cells_mk, A.cells, S.cells, K.cells, B.cells, D.cells, T.zero, T.kind, T.val, T.kids, spineT, room, keysCs, Cell.keys, k2_clo]
  refine CallD.ro (l92 b (σ.tg 43001 + 1) (σ.tg 43003 + 1)) (sp92 b (.mk 5 0 [.mk 3 b [], (.mk 6 0 [.mk 6 0 [.mk 6 0 [.mk 6 0 [.mk 3 (b + 3) [], (.mk 5 0 [.mk 3 b [], .mk 3 b []])], .mk 1 0 []], (.mk 5 0 [.mk 3 b [], .mk 5 0 [.mk 3 b [], .mk 6 0 [.mk 3 (b + 2) [], .mk 1 0 []]]])], .mk 1 1 []])]) _ _) (by simp [tm, tms, ib, am, ams, sms, kms, bm, dm, cells_mk, A.cells, S.cells, K.cells, B.cells, D.cells, T.zero, T.kind, T.val, T.kids, spineT, room, keysCs, Cell.keys, k2_clo]) (by simp [tm, tms, ib, am, ams, sms, kms, bm, dm, cells_mk, A.cells, S.cells, K.cells, B.cells, D.cells, T.zero, T.kind, T.val, T.kids, spineT, room, keysCs, Cell.keys, k2_clo]) (by first | exact keys_tm _ | exact keys_am _ | exact keys_dm _ | rfl) (ro92 (by simp [tm, tms, ib, am, ams, sms, kms, bm, dm, cells_mk, A.cells, S.cells, K.cells, B.cells, D.cells, T.zero, T.kind, T.val, T.kids, spineT, room, keysCs, Cell.keys, k2_clo]) (by simp [tm, tms, ib, am, ams, sms, kms, bm, dm, cells_mk, A.cells, S.cells, K.cells, B.cells, D.cells, T.zero, T.kind, T.val, T.kids, spineT, room, keysCs, Cell.keys, k2_clo]) (by simp [tm, tms, ib, am, ams, sms, kms, bm, dm, cells_mk, A.cells, S.cells, K.cells, B.cells, D.cells, T.zero, T.kind, T.val, T.kids, spineT, room, keysCs, Cell.keys, k2_clo]) (by simp [tm, tms, ib, am, ams, sms, kms, bm, dm, cells_mk, A.cells, S.cells, K.cells, B.cells, D.cells, T.zero, T.kind, T.val, T.kids, spineT, room, keysCs, Cell.keys, k2_clo])) (by simp [tm, tms, ib, am, ams, sms, kms, bm, dm, cells_mk, A.cells, S.cells, K.cells, B.cells, D.cells, T.zero, T.kind, T.val, T.kids, spineT, room, keysCs, Cell.keys, k2_clo, l92]) ?_
  simp [tm, tms, ib, am, ams, sms, kms, bm, dm, cells_mk, A.cells, S.cells, K.cells, B.cells, D.cells, T.zero, T.kind, T.val, T.kids, spineT, room, keysCs, Cell.keys, k2_clo]
  refine realC_n ?_
  simp [tm, tms, ib, am, ams, sms, kms, bm, dm, cells_mk, A.cells, S.cells, K.cells, B.cells, D.cells, T.zero, T.kind, T.val, T.kids, spineT, room, keysCs, Cell.keys, k2_clo]
  refine W_dregA ?_
  simp [tm, tms, ib, am, ams, sms, kms, bm, dm, cells_mk, A.cells, S.cells, K.cells, B.cells, D.cells, T.zero, T.kind, T.val, T.kids, spineT, room, keysCs, Cell.keys, k2_clo]
  refine CallA.ro (l91 b (σ.tg 43001 + 1)) (args := []) (by simpa using sp91 b (σ.tg 43001 + 1)) (by simp [tm, tms, ib, am, ams, sms, kms, bm, dm, cells_mk, A.cells, S.cells, K.cells, B.cells, D.cells, T.zero, T.kind, T.val, T.kids, spineT, room, keysCs, Cell.keys, k2_clo]) (by simp [tm, tms, ib, am, ams, sms, kms, bm, dm, cells_mk, A.cells, S.cells, K.cells, B.cells, D.cells, T.zero, T.kind, T.val, T.kids, spineT, room, keysCs, Cell.keys, k2_clo]) (by first | exact keys_tm _ | exact keys_am _ | exact keys_dm _ | rfl) (ro91 (by simp [tm, tms, ib, am, ams, sms, kms, bm, dm, cells_mk, A.cells, S.cells, K.cells, B.cells, D.cells, T.zero, T.kind, T.val, T.kids, spineT, room, keysCs, Cell.keys, k2_clo]) (by simp [tm, tms, ib, am, ams, sms, kms, bm, dm, cells_mk, A.cells, S.cells, K.cells, B.cells, D.cells, T.zero, T.kind, T.val, T.kids, spineT, room, keysCs, Cell.keys, k2_clo])) ?_
  simp [tm, tms, ib, am, ams, sms, kms, bm, dm, cells_mk, A.cells, S.cells, K.cells, B.cells, D.cells, T.zero, T.kind, T.val, T.kids, spineT, room, keysCs, Cell.keys, k2_clo]
  refine CallA.ro (l91 b (σ.tg 43001 + 1)) (args := []) (by simpa using sp91 b (σ.tg 43001 + 1)) (by simp [tm, tms, ib, am, ams, sms, kms, bm, dm, cells_mk, A.cells, S.cells, K.cells, B.cells, D.cells, T.zero, T.kind, T.val, T.kids, spineT, room, keysCs, Cell.keys, k2_clo]) (by simp [tm, tms, ib, am, ams, sms, kms, bm, dm, cells_mk, A.cells, S.cells, K.cells, B.cells, D.cells, T.zero, T.kind, T.val, T.kids, spineT, room, keysCs, Cell.keys, k2_clo]) (by first | exact keys_tm _ | exact keys_am _ | exact keys_dm _ | rfl) (ro91 (by simp [tm, tms, ib, am, ams, sms, kms, bm, dm, cells_mk, A.cells, S.cells, K.cells, B.cells, D.cells, T.zero, T.kind, T.val, T.kids, spineT, room, keysCs, Cell.keys, k2_clo]) (by simp [tm, tms, ib, am, ams, sms, kms, bm, dm, cells_mk, A.cells, S.cells, K.cells, B.cells, D.cells, T.zero, T.kind, T.val, T.kids, spineT, room, keysCs, Cell.keys, k2_clo])) ?_
  simp [tm, tms, ib, am, ams, sms, kms, bm, dm, cells_mk, A.cells, S.cells, K.cells, B.cells, D.cells, T.zero, T.kind, T.val, T.kids, spineT, room, keysCs, Cell.keys, k2_clo]
  refine CallA.ro (l91 b (σ.tg 43001 + 1)) (args := []) (by simpa using sp91 b (σ.tg 43001 + 1)) (by simp [tm, tms, ib, am, ams, sms, kms, bm, dm, cells_mk, A.cells, S.cells, K.cells, B.cells, D.cells, T.zero, T.kind, T.val, T.kids, spineT, room, keysCs, Cell.keys, k2_clo]) (by simp [tm, tms, ib, am, ams, sms, kms, bm, dm, cells_mk, A.cells, S.cells, K.cells, B.cells, D.cells, T.zero, T.kind, T.val, T.kids, spineT, room, keysCs, Cell.keys, k2_clo]) (by first | exact keys_tm _ | exact keys_am _ | exact keys_dm _ | rfl) (ro91 (by simp [tm, tms, ib, am, ams, sms, kms, bm, dm, cells_mk, A.cells, S.cells, K.cells, B.cells, D.cells, T.zero, T.kind, T.val, T.kids, spineT, room, keysCs, Cell.keys, k2_clo]) (by simp [tm, tms, ib, am, ams, sms, kms, bm, dm, cells_mk, A.cells, S.cells, K.cells, B.cells, D.cells, T.zero, T.kind, T.val, T.kids, spineT, room, keysCs, Cell.keys, k2_clo])) ?_
  simp [tm, tms, ib, am, ams, sms, kms, bm, dm, cells_mk, A.cells, S.cells, K.cells, B.cells, D.cells, T.zero, T.kind, T.val, T.kids, spineT, room, keysCs, Cell.keys, k2_clo]
  refine CallA.fn (fn93 [.mk 3 b [], .mk 3 b []] (.mk 3 b [])) (by simp [tm, tms, ib, am, ams, sms, kms, bm, dm, cells_mk, A.cells, S.cells, K.cells, B.cells, D.cells, T.zero, T.kind, T.val, T.kids, spineT, room, keysCs, Cell.keys, k2_clo]) (by simp [tm, tms, ib, am, ams, sms, kms, bm, dm, cells_mk, A.cells, S.cells, K.cells, B.cells, D.cells, T.zero, T.kind, T.val, T.kids, spineT, room, keysCs, Cell.keys, k2_clo]) (by first | exact keys_tm _ | exact keys_am _ | exact keys_dm _ | rfl) ?_
  simp [tm, tms, ib, am, ams, sms, kms, bm, dm, cells_mk, A.cells, S.cells, K.cells, B.cells, D.cells, T.zero, T.kind, T.val, T.kids, spineT, room, keysCs, Cell.keys, k2_clo, nestT]
  refine ⟨rfl, realC_n ?_⟩
  simp [tm, tms, ib, am, ams, sms, kms, bm, dm, cells_mk, A.cells, S.cells, K.cells, B.cells, D.cells, T.zero, T.kind, T.val, T.kids, spineT, room, keysCs, Cell.keys, k2_clo, r43, nestT]
end Go.Abs

namespace Go.Abs
open Go.Proofs

def numT (b : Int) : Nat → T
  | 0 => .mk 3 (b + 1) []
  | m + 1 => .mk 6 0 [.mk 3 (b + 2) [], numT b m]
def numI (n : Int) : Nat := if 0 ≤ n ∧ n ≤ 30 then n.toNat else 0

theorem fn46 (a n : Int) : Fn Try.prog 46 [ib a, ib n] (tm (numT (baseI a) (numI n))) := by
  refine fn_of (base := 46000) ok46 rfl fun σ h0 hr => ?_
  have s0 : σ.sl 0 = ib a := h0 0
  have s1 : σ.sl 1 = ib n := h0 1
  simp only [ib] at s0 s1
  clear h0 hr
  have hb := baseI_le a
  unfold c46
  simp [tm, tms, ib, am, ams, sms, kms, bm, dm, cells_mk, A.cells, S.cells, K.cells, B.cells, D.cells, T.zero, T.kind, T.val, T.kids, spineT, room, keysCs, Cell.keys, s0, s1]
  refine ECall.fn (fn87 a) (by simp [tm, tms, ib, am, ams, sms, kms, bm, dm, cells_mk, A.cells, S.cells, K.cells, B.cells, D.cells, T.zero, T.kind, T.val, T.kids, spineT, room, keysCs, Cell.keys]) (by simp [tm, tms, ib, am, ams, sms, kms, bm, dm, cells_mk, A.cells, S.cells, K.cells, B.cells, D.cells, T.zero, T.kind, T.val, T.kids, spineT, room, keysCs, Cell.keys]) (by first | exact keys_tm _ | exact keys_am _ | exact keys_dm _ | rfl) fun _ => ?_
  simp [tm, tms, ib, am, ams, sms, kms, bm, dm, cells_mk, A.cells, S.cells, K.cells, B.cells, D.cells, T.zero, T.kind, T.val, T.kids, spineT, room, keysCs, Cell.keys, s1, -W_cond]
  generalize baseI a = b at *
  have w1 : IntKind.wrap .i64 (b + 1) = b + 1 := wrap_id (by omega) (by omega)
  have w2 : IntKind.wrap .i64 (b + 2) = b + 2 := wrap_id (by omega) (by omega)
  refine W_cut (fun σ => σ.sl 0 = ib b ∧ σ.sl 1 = ib (numI n) ∧ σ.sl 4 = .c (.ref 46004 (σ.tg 46004) 0) ∧ σ.ob 46004 = some (.box 24 [.v (.int .i64 0), .v (.int .i64 0), .cap 3 40 []])) ?_ fun σ' hA => ?_
  · have hn : numI n = if n < 0 ∨ 30 < n then 0 else n := by unfold numI; split <;> split <;> omega
    by_cases h : n < 0 ∨ 30 < n
    · have h' : (decide (n < 0) || decide (30 < n)) = true := by simpa using h
      simp [tm, tms, ib, am, ams, sms, kms, bm, dm, cells_mk, A.cells, S.cells, K.cells, B.cells, D.cells, T.zero, T.kind, T.val, T.kids, spineT, room, keysCs, Cell.keys, only, s1, hn, h, h']
    · have h1 : ¬ n < 0 := fun h' => h (.inl h')
      have h2 : ¬ 30 < n := fun h' => h (.inr h')
      simp [tm, tms, ib, am, ams, sms, kms, bm, dm, cells_mk, A.cells, S.cells, K.cells, B.cells, D.cells, T.zero, T.kind, T.val, T.kids, spineT, room, keysCs, Cell.keys, only, s1, hn, h1, h2]
  · obtain ⟨q0, q1, q4, o4⟩ := hA
    simp only [ib] at q0 q1
    simp [tm, tms, ib, am, ams, sms, kms, bm, dm, cells_mk, A.cells, S.cells, K.cells, B.cells, D.cells, T.zero, T.kind, T.val, T.kids, spineT, room, keysCs, Cell.keys, q0, q1, q4, o4, w1]
    refine ECall.fn (fn73 (b + 1)) (by simp [tm, tms, ib, am, ams, sms, kms, bm, dm, cells_mk, A.cells, S.cells, K.cells, B.cells, D.cells, T.zero, T.kind, T.val, T.kids, spineT, room, keysCs, Cell.keys]) (by simp [tm, tms, ib, am, ams, sms, kms, bm, dm, cells_mk, A.cells, S.cells, K.cells, B.cells, D.cells, T.zero, T.kind, T.val, T.kids, spineT, room, keysCs, Cell.keys]) (by first | exact keys_tm _ | exact keys_am _ | exact keys_dm _ | rfl) fun _ => ?_
    simp [tm, tms, ib, am, ams, sms, kms, bm, dm, cells_mk, A.cells, S.cells, K.cells, B.cells, D.cells, T.zero, T.kind, T.val, T.kids, spineT, room, keysCs, Cell.keys, q1]
    refine W_loop (fun m σ => ∃ i : Nat, i + m = numI n ∧ σ.sl 0 = ib b ∧ σ.sl 4 = .c (.ref 46004 (σ.tg 46004) 0) ∧ σ.ob 46004 = some (.box 24 [.v (.int .i64 0), .v (.int .i64 0), .cap 3 40 []]) ∧ σ.sl 5 = .c (.ref 46005 (σ.tg 46005) 0) ∧ σ.ob 46005 = some (.box 24 (numT b i).cells) ∧ σ.sl 17 = ib (numI n) ∧ σ.sl 18 = ib i) (numI n) ?_ ?_
    · exact ⟨0, by simp [tm, tms, ib, am, ams, sms, kms, bm, dm, cells_mk, A.cells, S.cells, K.cells, B.cells, D.cells, T.zero, T.kind, T.val, T.kids, spineT, room, keysCs, Cell.keys, q0, q4, o4, numT]⟩
    · rintro m σ ⟨i, hm, q0, q4, o4, q5, o5, q17, q18⟩
      unfold c46b0
      simp only [ib] at q0 q17 q18
      by_cases hi : i < numI n
      · have hni : numI n ≤ 30 := by unfold numI; split <;> omega
        have w3 := wrap_succ (i := i) (by omega)
        simp [tm, tms, ib, am, ams, sms, kms, bm, dm, cells_mk, A.cells, S.cells, K.cells, B.cells, D.cells, T.zero, T.kind, T.val, T.kids, spineT, room, keysCs, Cell.keys, q0, q4, o4, q5, o5, q17, q18, hi]
        refine W_dregA ?_
        simp [tm, tms, ib, am, ams, sms, kms, bm, dm, cells_mk, A.cells, S.cells, K.cells, B.cells, D.cells, T.zero, T.kind, T.val, T.kids, spineT, room, keysCs, Cell.keys, q0, q4, o4, q5, o5, q17, q18, w2]
        refine CallA.fn (fn73 (b + 2)) (by simp [tm, tms, ib, am, ams, sms, kms, bm, dm, cells_mk, A.cells, S.cells, K.cells, B.cells, D.cells, T.zero, T.kind, T.val, T.kids, spineT, room, keysCs, Cell.keys]) (by simp [tm, tms, ib, am, ams, sms, kms, bm, dm, cells_mk, A.cells, S.cells, K.cells, B.cells, D.cells, T.zero, T.kind, T.val, T.kids, spineT, room, keysCs, Cell.keys]) (by first | exact keys_tm _ | exact keys_am _ | exact keys_dm _ | rfl) ?_
        simp [tm, tms, ib, am, ams, sms, kms, bm, dm, cells_mk, A.cells, S.cells, K.cells, B.cells, D.cells, T.zero, T.kind, T.val, T.kids, spineT, room, keysCs, Cell.keys, q5, o5]
        refine CallA.fn (fn75 (.mk 3 (b + 2) []) [numT b i]) (by simp [tm, tms, ib, am, ams, sms, kms, bm, dm, cells_mk, A.cells, S.cells, K.cells, B.cells, D.cells, T.zero, T.kind, T.val, T.kids, spineT, room, keysCs, Cell.keys]) (by simp [tm, tms, ib, am, ams, sms, kms, bm, dm, cells_mk, A.cells, S.cells, K.cells, B.cells, D.cells, T.zero, T.kind, T.val, T.kids, spineT, room, keysCs, Cell.keys]) (by first | exact keys_tm _ | exact keys_am _ | exact keys_dm _ | rfl) ?_
        simp [tm, tms, ib, am, ams, sms, kms, bm, dm, cells_mk, A.cells, S.cells, K.cells, B.cells, D.cells, T.zero, T.kind, T.val, T.kids, spineT, room, keysCs, Cell.keys, q5, o5]
        refine ⟨rfl, realC_n ?_⟩
        simp [tm, tms, ib, am, ams, sms, kms, bm, dm, cells_mk, A.cells, S.cells, K.cells, B.cells, D.cells, T.zero, T.kind, T.val, T.kids, spineT, room, keysCs, Cell.keys, q18]
        refine ⟨m - 1, by omega, i + 1, by omega, ?_⟩
        simp [tm, tms, ib, am, ams, sms, kms, bm, dm, cells_mk, A.cells, S.cells, K.cells, B.cells, D.cells, T.zero, T.kind, T.val, T.kids, spineT, room, keysCs, Cell.keys, q0, q4, o4, q5, q17, w3, numT]
      · have : i = numI n := by omega
        subst this
        simp [tm, tms, ib, am, ams, sms, kms, bm, dm, cells_mk, A.cells, S.cells, K.cells, B.cells, D.cells, T.zero, T.kind, T.val, T.kids, spineT, room, keysCs, Cell.keys, q0, q4, o4, q5, o5, q17, q18, r46]
theorem fn47 (a n : Int) : Fn Try.prog 47 [ib a, ib n] (tm (numT (baseI a) (numI n))) := by
  refine fn_of (base := 47000) ok47 rfl fun σ h0 hr => ?_
  have s0 : σ.sl 0 = ib a := h0 0
  have s1 : σ.sl 1 = ib n := h0 1
  simp only [ib] at s0 s1
  clear h0 hr
  have hb := baseI_le a
  unfold c47
  simp [tm, tms, ib, am, ams, sms, kms, bm, dm, cells_mk, A.cells, S.cells, K.cells, B.cells, D.cells, T.zero, T.kind, T.val, T.kids, spineT, room, keysCs, Cell.keys, s0, s1]
  refine ECall.fn (fn89 a) (by simp [tm, tms, ib, am, ams, sms, kms, bm, dm, cells_mk, A.cells, S.cells, K.cells, B.cells, D.cells, T.zero, T.kind, T.val, T.kids, spineT, room, keysCs, Cell.keys]) (by simp [tm, tms, ib, am, ams, sms, kms, bm, dm, cells_mk, A.cells, S.cells, K.cells, B.cells, D.cells, T.zero, T.kind, T.val, T.kids, spineT, room, keysCs, Cell.keys]) (by first | exact keys_tm _ | exact keys_am _ | exact keys_dm _ | rfl) fun _ => ?_
  have w1 : IntKind.wrap .i64 (baseI a + 1) = baseI a + 1 := wrap_id (by omega) (by omega)
  have w2 : IntKind.wrap .i64 (baseI a + 2) = baseI a + 2 := wrap_id (by omega) (by omega)
  simp [tm, tms, ib, am, ams, sms, kms, bm, dm, cells_mk, A.cells, S.cells, K.cells, B.cells, D.cells, T.zero, T.kind, T.val, T.kids, spineT, room, keysCs, Cell.keys, s1, w1]
  generalize baseI a = b at *
  refine ECall.fn (fn82 (b + 1)) (by simp [tm, tms, ib, am, ams, sms, kms, bm, dm, cells_mk, A.cells, S.cells, K.cells, B.cells, D.cells, T.zero, T.kind, T.val, T.kids, spineT, room, keysCs, Cell.keys]) (by simp [tm, tms, ib, am, ams, sms, kms, bm, dm, cells_mk, A.cells, S.cells, K.cells, B.cells, D.cells, T.zero, T.kind, T.val, T.kids, spineT, room, keysCs, Cell.keys]) (by first | exact keys_tm _ | exact keys_am _ | exact keys_dm _ | rfl) fun _ => ?_
  simp [tm, tms, ib, am, ams, sms, kms, bm, dm, cells_mk, A.cells, S.cells, K.cells, B.cells, D.cells, T.zero, T.kind, T.val, T.kids, spineT, room, keysCs, Cell.keys, s1]
  refine ECall.fn (fn81 n 0 30) (by simp [tm, tms, ib, am, ams, sms, kms, bm, dm, cells_mk, A.cells, S.cells, K.cells, B.cells, D.cells, T.zero, T.kind, T.val, T.kids, spineT, room, keysCs, Cell.keys]) (by simp [tm, tms, ib, am, ams, sms, kms, bm, dm, cells_mk, A.cells, S.cells, K.cells, B.cells, D.cells, T.zero, T.kind, T.val, T.kids, spineT, room, keysCs, Cell.keys]) rfl fun _ => ?_
  simp [tm, tms, ib, am, ams, sms, kms, bm, dm, cells_mk, A.cells, S.cells, K.cells, B.cells, D.cells, T.zero, T.kind, T.val, T.kids, spineT, room, keysCs, Cell.keys, bb, -W_cond]
  refine W_cut (fun σ => σ.sl 0 = ib b ∧ σ.sl 1 = ib (numI n) ∧ σ.sl 4 = .c (.ref 47004 (σ.tg 47004) 0) ∧ σ.ob 47004 = some (.box 24 [.v (.int .i64 0), .v (.int .i64 0), .cap 3 40 []]) ∧ σ.sl 5 = .c (.ref 47005 (σ.tg 47005) 0) ∧ σ.ob 47005 = some (.box 24 (numT b 0).cells)) ?_ fun σ' hA => ?_
  · have hn : numI n = if 0 ≤ n ∧ n ≤ 30 then n else 0 := by unfold numI; split <;> omega
    by_cases h : 0 ≤ n ∧ n ≤ 30
    · have h1 := h.1
      have h2 := h.2
      simp [tm, tms, ib, am, ams, sms, kms, bm, dm, cells_mk, A.cells, S.cells, K.cells, B.cells, D.cells, T.zero, T.kind, T.val, T.kids, spineT, room, keysCs, Cell.keys, only, bb, s1, hn, h1, h2, numT]
    · have h' : (decide (0 ≤ n) && decide (n ≤ 30)) = false := by simpa using h
      rw [if_neg h] at hn
      simp [tm, tms, ib, am, ams, sms, kms, bm, dm, cells_mk, A.cells, S.cells, K.cells, B.cells, D.cells, T.zero, T.kind, T.val, T.kids, spineT, room, keysCs, Cell.keys, only, bb, s1, hn, h', numT]
      exact fun h1 h2 => absurd ⟨h1, h2⟩ h
  · obtain ⟨q0, q1, q4, o4, q5, o5⟩ := hA
    simp only [ib] at q0 q1
    simp [tm, tms, ib, am, ams, sms, kms, bm, dm, cells_mk, A.cells, S.cells, K.cells, B.cells, D.cells, T.zero, T.kind, T.val, T.kids, spineT, room, keysCs, Cell.keys, q0, q1, q4, o4, q5, o5]
    refine W_loop (fun m σ => ∃ i : Nat, i + m = numI n ∧ σ.sl 0 = ib b ∧ σ.sl 1 = ib (numI n) ∧ σ.sl 4 = .c (.ref 47004 (σ.tg 47004) 0) ∧ σ.ob 47004 = some (.box 24 [.v (.int .i64 0), .v (.int .i64 0), .cap 3 40 []]) ∧ σ.sl 5 = .c (.ref 47005 (σ.tg 47005) 0) ∧ σ.ob 47005 = some (.box 24 (numT b i).cells) ∧ σ.sl 6 = ib i) (numI n) ?_ ?_
    · exact ⟨0, by simp [tm, tms, ib, am, ams, sms, kms, bm, dm, cells_mk, A.cells, S.cells, K.cells, B.cells, D.cells, T.zero, T.kind, T.val, T.kids, spineT, room, keysCs, Cell.keys, q0, q1, q4, o4, q5, o5]⟩
    · rintro m σ ⟨i, hm, q0, q1, q4, o4, q5, o5, q6⟩
      unfold c47b0
      simp only [ib] at q0 q1 q6
      by_cases hi : i < numI n
      · have hni : numI n ≤ 30 := by unfold numI; split <;> omega
        have w3 := wrap_succ (i := i) (by omega)
        simp [tm, tms, ib, am, ams, sms, kms, bm, dm, cells_mk, A.cells, S.cells, K.cells, B.cells, D.cells, T.zero, T.kind, T.val, T.kids, spineT, room, keysCs, Cell.keys, q0, q1, q4, o4, q5, o5, q6, hi]
        refine W_dregA ?_
        simp [tm, tms, ib, am, ams, sms, kms, bm, dm, cells_mk, A.cells, S.cells, K.cells, B.cells, D.cells, T.zero, T.kind, T.val, T.kids, spineT, room, keysCs, Cell.keys, q0, q1, q4, o4, q5, o5, q6, w2]
        refine CallA.fn (fn82 (b + 2)) (by simp [tm, tms, ib, am, ams, sms, kms, bm, dm, cells_mk, A.cells, S.cells, K.cells, B.cells, D.cells, T.zero, T.kind, T.val, T.kids, spineT, room, keysCs, Cell.keys]) (by simp [tm, tms, ib, am, ams, sms, kms, bm, dm, cells_mk, A.cells, S.cells, K.cells, B.cells, D.cells, T.zero, T.kind, T.val, T.kids, spineT, room, keysCs, Cell.keys]) (by first | exact keys_tm _ | exact keys_am _ | exact keys_dm _ | rfl) ?_
        simp [tm, tms, ib, am, ams, sms, kms, bm, dm, cells_mk, A.cells, S.cells, K.cells, B.cells, D.cells, T.zero, T.kind, T.val, T.kids, spineT, room, keysCs, Cell.keys, q5, o5]
        refine CallA.fn (fn84 (.mk 3 (b + 2) []) (numT b i)) (by simp [tm, tms, ib, am, ams, sms, kms, bm, dm, cells_mk, A.cells, S.cells, K.cells, B.cells, D.cells, T.zero, T.kind, T.val, T.kids, spineT, room, keysCs, Cell.keys]) (by simp [tm, tms, ib, am, ams, sms, kms, bm, dm, cells_mk, A.cells, S.cells, K.cells, B.cells, D.cells, T.zero, T.kind, T.val, T.kids, spineT, room, keysCs, Cell.keys]) (by first | exact keys_tm _ | exact keys_am _ | exact keys_dm _ | rfl) ?_
        simp [tm, tms, ib, am, ams, sms, kms, bm, dm, cells_mk, A.cells, S.cells, K.cells, B.cells, D.cells, T.zero, T.kind, T.val, T.kids, spineT, room, keysCs, Cell.keys, q5, o5]
        refine ⟨rfl, realC_n ?_⟩
        simp [tm, tms, ib, am, ams, sms, kms, bm, dm, cells_mk, A.cells, S.cells, K.cells, B.cells, D.cells, T.zero, T.kind, T.val, T.kids, spineT, room, keysCs, Cell.keys, q6]
        refine ⟨m - 1, by omega, i + 1, by omega, ?_⟩
        simp [tm, tms, ib, am, ams, sms, kms, bm, dm, cells_mk, A.cells, S.cells, K.cells, B.cells, D.cells, T.zero, T.kind, T.val, T.kids, spineT, room, keysCs, Cell.keys, q0, q1, q4, o4, q5, w3, numT]
      · have : i = numI n := by omega
        subst this
        simp [tm, tms, ib, am, ams, sms, kms, bm, dm, cells_mk, A.cells, S.cells, K.cells, B.cells, D.cells, T.zero, T.kind, T.val, T.kids, spineT, room, keysCs, Cell.keys, q0, q1, q4, o4, q5, o5, q6, r47]
end Go.Abs

namespace Go.Abs

/- slices.IndexFunc[[]int,int] -/
def c116b0 : SCode :=
  .seq (.reg
       [⟨some 9, none, .bin .lss (.t 8) (.t 7)⟩])
  (.seq (.cond (.t 9)
      (.skip)
      (.exit 0))
  (.seq (.block 1 (.seq (.reg
           [⟨some 10, none, .mv (.t 8)⟩,
            ⟨some 5, none, .mv (.t 10)⟩])
      (.seq (.reg
           [⟨some 11, none, .mv (.t 1)⟩,
            ⟨some 12, none, .mv (.t 0)⟩,
            ⟨some 13, none, .mv (.t 5)⟩,
            ⟨some 14, none, .iad 3 1 (.t 12) (.t 13)⟩,
            ⟨some 15, none, .ld1 3 (.t 14)⟩,
            ⟨some 16, none, .call (.t 11) [.t 15]⟩])
      (.cond (.t 16)
        (.seq (.reg
             [⟨some 17, none, .mv (.t 5)⟩,
              ⟨some 4, none, .mv (.t 17)⟩])
        (.ret))
        (.skip)))))
  (.reg
     [⟨some 18, none, .bin .add (.t 8) (.k (.int .i64 1))⟩,
      ⟨some 8, none, .mv (.t 18)⟩])))
def c116 : SCode :=
  .seq (.reg
       [⟨some 4, none, .mv (.k (.int .i64 0))⟩])
  (.seq (.seq (.reg
         [⟨some 6, none, .mv (.t 0)⟩,
          ⟨some 7, none, .len 38 (.t 6)⟩,
          ⟨some 8, none, .mv (.k (.int .i64 0))⟩])
    (.block 0 (.loop c116b0)))
  (.seq (.reg
       [⟨some 4, none, .mv (.k (.int .i64 (-1)))⟩])
  (.ret)))
def r116 : List RR := [.t 4]
theorem ok116 : okFn Go.Proofs.Try.prog 116 19 c116 r116 2 = true := by kernel_rfl

end Go.Abs

namespace Go.Abs
open Go.Proofs

theorem fn116 {f : Nat} {p : Int → Bool} {ns : List Int} (hf : ∀ n, n ∈ ns → Fn Try.prog f [ib n] (bb (p n))) : Fn Try.prog 116 [is ns, .c (.clo f [] [])] (ib (idx p 0 ns)) := by
  refine fn_of (base := 116000) ok116 rfl fun σ h0 hr => ?_
  have s0 := h0 0
  have s1 := h0 1
  rw [slots0] at s0
  rw [slots1] at s1
  have hlen := real_is (hr (is ns) (by simp [tm, tms, ib, am, ams, sms, kms, bm, dm, cells_mk, A.cells, S.cells, K.cells, B.cells, D.cells, T.zero, T.kind, T.val, T.kids, spineT, room, keysCs, Cell.keys]))
  simp only [is] at s0
  clear h0 hr
  unfold c116
  simp [tm, tms, ib, am, ams, sms, kms, bm, dm, cells_mk, A.cells, S.cells, K.cells, B.cells, D.cells, T.zero, T.kind, T.val, T.kids, spineT, room, keysCs, Cell.keys, s0, s1]
  refine W_loop (fun m σ => ∃ (i : Nat), i + m = ns.length ∧ idx p i (ns.drop i) = idx p 0 ns ∧ σ.sl 0 = is ns ∧ σ.sl 1 = .c (.clo f [] []) ∧ σ.sl 7 = ib ns.length ∧ σ.sl 8 = ib i) ns.length ?_ ?_
  · exact ⟨0, by simp [tm, tms, ib, am, ams, sms, kms, bm, dm, cells_mk, A.cells, S.cells, K.cells, B.cells, D.cells, T.zero, T.kind, T.val, T.kids, spineT, room, keysCs, Cell.keys, is, s0, s1]⟩
  · rintro m σ ⟨i, hm, hp, q0, q1, q7, q8⟩
    unfold c116b0
    simp only [is, ib] at q0 q1 q7 q8
    by_cases hi : i < ns.length
    · obtain ⟨t, ht⟩ := at_of hi
      obtain ⟨_, ht'⟩ := getE ht
      have w1 := wrap_succ (i := i) (by omega)
      rw [drop_at ht, idx] at hp
      simp [tm, tms, ib, am, ams, sms, kms, bm, dm, cells_mk, A.cells, S.cells, K.cells, B.cells, D.cells, T.zero, T.kind, T.val, T.kids, spineT, room, keysCs, Cell.keys, q0, q1, q7, q8, hi, ht']
      refine ECall.fn (hf t (List.mem_of_getElem? ht)) (by simp [tm, tms, ib, am, ams, sms, kms, bm, dm, cells_mk, A.cells, S.cells, K.cells, B.cells, D.cells, T.zero, T.kind, T.val, T.kids, spineT, room, keysCs, Cell.keys]) (by simp [tm, tms, ib, am, ams, sms, kms, bm, dm, cells_mk, A.cells, S.cells, K.cells, B.cells, D.cells, T.zero, T.kind, T.val, T.kids, spineT, room, keysCs, Cell.keys]) rfl fun _ => ?_
      simp [tm, tms, ib, am, ams, sms, kms, bm, dm, cells_mk, A.cells, S.cells, K.cells, B.cells, D.cells, T.zero, T.kind, T.val, T.kids, spineT, room, keysCs, Cell.keys, bb, q8]
      constructor
      · intro hd
        rw [if_pos hd] at hp
        simp [tm, tms, ib, am, ams, sms, kms, bm, dm, cells_mk, A.cells, S.cells, K.cells, B.cells, D.cells, T.zero, T.kind, T.val, T.kids, spineT, room, keysCs, Cell.keys, r116, ← hp]
      · intro hd
        rw [if_neg (by simp [tm, tms, ib, am, ams, sms, kms, bm, dm, cells_mk, A.cells, S.cells, K.cells, B.cells, D.cells, T.zero, T.kind, T.val, T.kids, spineT, room, keysCs, Cell.keys, hd])] at hp
        refine ⟨m - 1, by omega, i + 1, by omega, by simpa using hp, ?_⟩
        simp [tm, tms, ib, am, ams, sms, kms, bm, dm, cells_mk, A.cells, S.cells, K.cells, B.cells, D.cells, T.zero, T.kind, T.val, T.kids, spineT, room, keysCs, Cell.keys, q0, q1, q7, is, w1]
    · simp [tm, tms, ib, am, ams, sms, kms, bm, dm, cells_mk, A.cells, S.cells, K.cells, B.cells, D.cells, T.zero, T.kind, T.val, T.kids, spineT, room, keysCs, Cell.keys, q0, q1, q7, q8, hi, r116]
      rw [← hp, List.drop_eq_nil_of_le (by omega), idx]
theorem fn71 {f : Nat} {p : Int → Bool} {ns : List Int} (hf : ∀ n, n ∈ ns → Fn Try.prog f [ib n] (bb (p n))) : Fn Try.prog 71 [is ns, .c (.clo f [] [])] (bb (ns.any p)) := by
  refine fn_of (base := 71000) ok71 rfl fun σ h0 hr => ?_
  have s0 := h0 0
  have s1 := h0 1
  rw [slots0] at s0
  rw [slots1] at s1
  simp only [is] at s0
  clear h0 hr
  unfold c71
  simp [tm, tms, ib, am, ams, sms, kms, bm, dm, cells_mk, A.cells, S.cells, K.cells, B.cells, D.cells, T.zero, T.kind, T.val, T.kids, spineT, room, keysCs, Cell.keys, s0, s1]
  refine ECall.fn (fn116 hf) (by simp [tm, tms, ib, am, ams, sms, kms, bm, dm, cells_mk, A.cells, S.cells, K.cells, B.cells, D.cells, T.zero, T.kind, T.val, T.kids, spineT, room, keysCs, Cell.keys, is]) (by simp [tm, tms, ib, am, ams, sms, kms, bm, dm, cells_mk, A.cells, S.cells, K.cells, B.cells, D.cells, T.zero, T.kind, T.val, T.kids, spineT, room, keysCs, Cell.keys]) rfl fun _ => ?_
  simp [tm, tms, ib, am, ams, sms, kms, bm, dm, cells_mk, A.cells, S.cells, K.cells, B.cells, D.cells, T.zero, T.kind, T.val, T.kids, spineT, room, keysCs, Cell.keys, r71, bb, ← idx_any (p := p) (ts := ns) (i := 0)]
def mayC (n : Int) : Bool := decide (0 ≤ n) && decide (n ≤ 65000)
theorem fn72 (n : Int) : Fn Try.prog 72 [ib n] (bb (!mayC n)) := by
  refine fn_of (base := 72000) ok72 rfl fun σ h0 hr => ?_
  have s0 : σ.sl 0 = ib n := h0 0
  simp only [ib] at s0
  clear h0 hr
  unfold c72
  simp [tm, tms, ib, am, ams, sms, kms, bm, dm, cells_mk, A.cells, S.cells, K.cells, B.cells, D.cells, T.zero, T.kind, T.val, T.kids, spineT, room, keysCs, Cell.keys, s0]
  refine ECall.fn (fn70 n) (by simp [tm, tms, ib, am, ams, sms, kms, bm, dm, cells_mk, A.cells, S.cells, K.cells, B.cells, D.cells, T.zero, T.kind, T.val, T.kids, spineT, room, keysCs, Cell.keys]) (by simp [tm, tms, ib, am, ams, sms, kms, bm, dm, cells_mk, A.cells, S.cells, K.cells, B.cells, D.cells, T.zero, T.kind, T.val, T.kids, spineT, room, keysCs, Cell.keys]) rfl fun _ => ?_
  simp [tm, tms, ib, am, ams, sms, kms, bm, dm, cells_mk, A.cells, S.cells, K.cells, B.cells, D.cells, T.zero, T.kind, T.val, T.kids, spineT, room, keysCs, Cell.keys, bb, r72, mayC]

def D0 : D := ⟨0, .zero, .zero, ⟨[], [], 0⟩⟩
def elT (a : Int) : T := .mk 3 (a + 1) []
def kC (n : Int) : K := ⟨0, [], [], .mk 3 n []⟩
def kL (a : Int) : K := ⟨0, [⟨true, .zero, [], 0, []⟩, ⟨true, .zero, [.mk 6 0 [elT a, .mk 1 0 []]], 0, []⟩], [], .mk 4 0 [.mk 6 0 [elT a, .mk 1 1 []], .mk 6 0 [elT a, .mk 6 0 [.mk 1 1 [], .mk 1 0 []]]]⟩
def rowK (n : Int) : List Cell := [.v (.int .i64 0), .sl 7 104 [], .sl 3 40 [], .v (.int .i64 3), .v (.int .i64 n), .sl 3 40 []]
def tarD (a : Int) (l : List Int) : D := ⟨3, .zero, .zero, ⟨[⟨[], 1, true, .mk 2 0 []⟩], l.map kC ++ [kL a], 0⟩⟩
def tarski (a : Int) (l : List Int) : D × Int := if 7 < l.length then (D0, 2) else if (!mayC a || l.any fun n => !mayC n) = true then (D0, 1) else (tarD a l, 0)

theorem fn32 (a : Int) (l : List Int) : Fn Try.prog 32 [ib a, is l] (.tup [dm (tarski a l).1, ib (tarski a l).2]) := by
  refine fn_of (base := 32000) ok32 rfl fun σ h0 hr => ?_
  have s0 : σ.sl 0 = ib a := h0 0
  have s1 : σ.sl 1 = is l := h0 1
  have hlen := real_is (hr (is l) (by simp [tm, tms, ib, am, ams, sms, kms, bm, dm, cells_mk, A.cells, S.cells, K.cells, B.cells, D.cells, T.zero, T.kind, T.val, T.kids, spineT, room, keysCs, Cell.keys]))
  simp only [ib, is] at s0 s1
  clear h0 hr
  unfold c32
  by_cases h7 : 7 < l.length
  · have h7' : (7 : Int) < (l.length : Int) := by omega
    simp [tm, tms, ib, am, ams, sms, kms, bm, dm, cells_mk, A.cells, S.cells, K.cells, B.cells, D.cells, T.zero, T.kind, T.val, T.kids, spineT, room, keysCs, Cell.keys, s0, s1, h7', r32, tarski, h7, D0]
  · have h7' : ¬ (7 : Int) < (l.length : Int) := by omega
    simp [tm, tms, ib, am, ams, sms, kms, bm, dm, cells_mk, A.cells, S.cells, K.cells, B.cells, D.cells, T.zero, T.kind, T.val, T.kids, spineT, room, keysCs, Cell.keys, s0, s1, h7']
    refine ECall.fn (fn70 a) (by simp [tm, tms, ib, am, ams, sms, kms, bm, dm, cells_mk, A.cells, S.cells, K.cells, B.cells, D.cells, T.zero, T.kind, T.val, T.kids, spineT, room, keysCs, Cell.keys]) (by simp [tm, tms, ib, am, ams, sms, kms, bm, dm, cells_mk, A.cells, S.cells, K.cells, B.cells, D.cells, T.zero, T.kind, T.val, T.kids, spineT, room, keysCs, Cell.keys]) rfl fun _ => ?_
    simp [tm, tms, ib, am, ams, sms, kms, bm, dm, cells_mk, A.cells, S.cells, K.cells, B.cells, D.cells, T.zero, T.kind, T.val, T.kids, spineT, room, keysCs, Cell.keys, bb, s1]
    refine GCall.fn (fun _ => fn71 (p := fun n => !mayC n) (ns := l) fun n _ => fn72 n) (by simp [tm, tms, ib, am, ams, sms, kms, bm, dm, cells_mk, A.cells, S.cells, K.cells, B.cells, D.cells, T.zero, T.kind, T.val, T.kids, spineT, room, keysCs, Cell.keys, is]) (by simp [tm, tms, ib, am, ams, sms, kms, bm, dm, cells_mk, A.cells, S.cells, K.cells, B.cells, D.cells, T.zero, T.kind, T.val, T.kids, spineT, room, keysCs, Cell.keys]) rfl fun _ => ?_
    simp [tm, tms, ib, am, ams, sms, kms, bm, dm, cells_mk, A.cells, S.cells, K.cells, B.cells, D.cells, T.zero, T.kind, T.val, T.kids, spineT, room, keysCs, Cell.keys, bb]
    refine ⟨fun h => ?_, fun e1 e2 e3 => ?_⟩
    · have hT : tarski a l = (D0, 1) := by
        have hc : (!mayC a || l.any fun n => !mayC n) = true := by
          simp only [mayC, Bool.or_eq_true, Bool.not_eq_true', Bool.and_eq_false_iff, decide_eq_false_iff_not, List.any_eq_true]
          rcases h with (h | h) | ⟨x, h, h2⟩
          · exact .inl (.inl (by omega))
          · exact .inl (.inr (by omega))
          · refine .inr ⟨x, h, ?_⟩
            simp only [mayC, Bool.and_eq_false_iff, decide_eq_false_iff_not] at h2
            exact h2
        simp only [tarski, if_neg h7, if_pos hc]
      simp [tm, tms, ib, am, ams, sms, kms, bm, dm, cells_mk, A.cells, S.cells, K.cells, B.cells, D.cells, T.zero, T.kind, T.val, T.kids, spineT, room, keysCs, Cell.keys, r32, hT, D0]
    · have hT : tarski a l = (tarD a l, 0) := by
        have hc : ¬ (!mayC a || l.any fun n => !mayC n) = true := by
          simp only [Bool.or_eq_true, not_or, List.any_eq_true, not_exists, not_and]
          refine ⟨by simp [tm, tms, ib, am, ams, sms, kms, bm, dm, cells_mk, A.cells, S.cells, K.cells, B.cells, D.cells, T.zero, T.kind, T.val, T.kids, spineT, room, keysCs, Cell.keys, mayC, e1, e2], fun x hx => by simp [tm, tms, ib, am, ams, sms, kms, bm, dm, cells_mk, A.cells, S.cells, K.cells, B.cells, D.cells, T.zero, T.kind, T.val, T.kids, spineT, room, keysCs, Cell.keys, e3 x hx]⟩
        simp only [tarski, if_neg h7, if_neg hc]
      have w1 : IntKind.wrap .i64 (a + 1) = a + 1 := wrap_id (by omega) (by omega)
      simp [tm, tms, ib, am, ams, sms, kms, bm, dm, cells_mk, A.cells, S.cells, K.cells, B.cells, D.cells, T.zero, T.kind, T.val, T.kids, spineT, room, keysCs, Cell.keys, s0, s1, w1, hT]
      refine ECall.fn (fn73 (a + 1)) (by simp [tm, tms, ib, am, ams, sms, kms, bm, dm, cells_mk, A.cells, S.cells, K.cells, B.cells, D.cells, T.zero, T.kind, T.val, T.kids, spineT, room, keysCs, Cell.keys]) (by simp [tm, tms, ib, am, ams, sms, kms, bm, dm, cells_mk, A.cells, S.cells, K.cells, B.cells, D.cells, T.zero, T.kind, T.val, T.kids, spineT, room, keysCs, Cell.keys]) (by first | exact keys_tm _ | exact keys_am _ | exact keys_dm _ | rfl) fun _ => ?_
      simp [tm, tms, ib, am, ams, sms, kms, bm, dm, cells_mk, A.cells, S.cells, K.cells, B.cells, D.cells, T.zero, T.kind, T.val, T.kids, spineT, room, keysCs, Cell.keys, s1, -W_block]
      refine W_cutb (fun σ => σ.sl 4 = .c (.ref 32004 (σ.tg 32004) 0) ∧ σ.ob 32004 = some (.box 46 [.v (.int .i64 0), .v (.int .i64 0), .v (.int .i64 0), .cap 3 40 [], .v (.int .i64 0), .v (.int .i64 0), .cap 3 40 [], .cap 6 80 [], .cap 6 96 [], .v (.int .i64 0)]) ∧ σ.sl 6 = .c (.ref 32006 (σ.tg 32006) 0) ∧ σ.ob 32006 = some (.box 24 (elT a).cells) ∧
        ((l = [] ∧ σ.sl 7 = .c (.cap 6 96 [])) ∨ (l ≠ [] ∧ σ.sl 7 = .c (.own 32039 (σ.tg 32039)) ∧ σ.ob 32039 = some (.row 74 6 96 (l.map rowK))))) ?_ fun σ' hA => ?_
      · refine W_loop (fun m σ => ∃ i : Nat, i + m = l.length ∧ σ.sl 4 = .c (.ref 32004 (σ.tg 32004) 0) ∧ σ.ob 32004 = some (.box 46 [.v (.int .i64 0), .v (.int .i64 0), .v (.int .i64 0), .cap 3 40 [], .v (.int .i64 0), .v (.int .i64 0), .cap 3 40 [], .cap 6 80 [], .cap 6 96 [], .v (.int .i64 0)]) ∧ σ.sl 6 = .c (.ref 32006 (σ.tg 32006) 0) ∧ σ.ob 32006 = some (.box 24 (elT a).cells) ∧
          ((i = 0 ∧ σ.sl 7 = .c (.cap 6 96 [])) ∨ (0 < i ∧ σ.sl 7 = .c (.own 32039 (σ.tg 32039)) ∧ σ.ob 32039 = some (.row 74 6 96 ((l.map rowK).take i)))) ∧ σ.sl 28 = is l ∧ σ.sl 29 = ib l.length ∧ σ.sl 30 = ib i) l.length ?_ ?_
        · exact ⟨0, by simp [tm, tms, ib, am, ams, sms, kms, bm, dm, cells_mk, A.cells, S.cells, K.cells, B.cells, D.cells, T.zero, T.kind, T.val, T.kids, spineT, room, keysCs, Cell.keys, elT, is]⟩
        · rintro m σ ⟨i, hm, q4, o4, q6, o6, hp, q28, q29, q30⟩
          unfold c32b0
          simp only [is, ib] at q28 q29 q30
          by_cases hi : i < l.length
          · obtain ⟨t, ht⟩ := at_of hi
            obtain ⟨_, ht'⟩ := getE ht
            have w2 := wrap_succ (i := i) (by omega)
            have htake : (l.map rowK).take i ++ [[.v (.int .i64 0), .sl 7 104 [], .sl 3 40 [], .v (.int .i64 3), .v (.int .i64 t), .sl 3 40 []]] = (l.map rowK).take (i + 1) := by
              rw [List.take_add_one, List.getElem?_map, ht]; rfl
            simp [tm, tms, ib, am, ams, sms, kms, bm, dm, cells_mk, A.cells, S.cells, K.cells, B.cells, D.cells, T.zero, T.kind, T.val, T.kids, spineT, room, keysCs, Cell.keys, q28, q29, q30, hi, ht']
            rcases hp with ⟨h1, q7⟩ | ⟨h1, q7, o7⟩
            · subst h1
              simp [tm, tms, ib, am, ams, sms, kms, bm, dm, cells_mk, A.cells, S.cells, K.cells, B.cells, D.cells, T.zero, T.kind, T.val, T.kids, spineT, room, keysCs, Cell.keys, q7]
              refine ECall.fn (fn73 t) (by simp [tm, tms, ib, am, ams, sms, kms, bm, dm, cells_mk, A.cells, S.cells, K.cells, B.cells, D.cells, T.zero, T.kind, T.val, T.kids, spineT, room, keysCs, Cell.keys]) (by simp [tm, tms, ib, am, ams, sms, kms, bm, dm, cells_mk, A.cells, S.cells, K.cells, B.cells, D.cells, T.zero, T.kind, T.val, T.kids, spineT, room, keysCs, Cell.keys]) (by first | exact keys_tm _ | exact keys_am _ | exact keys_dm _ | rfl) fun _ => ?_
              simp [tm, tms, ib, am, ams, sms, kms, bm, dm, cells_mk, A.cells, S.cells, K.cells, B.cells, D.cells, T.zero, T.kind, T.val, T.kids, spineT, room, keysCs, Cell.keys, q30]
              refine ⟨m - 1, by omega, 1, by omega, ?_⟩
              simp at w2
              rw [Nat.zero_add] at htake
              simp only [List.take_zero, List.nil_append] at htake
              simp [tm, tms, ib, am, ams, sms, kms, bm, dm, cells_mk, A.cells, S.cells, K.cells, B.cells, D.cells, T.zero, T.kind, T.val, T.kids, spineT, room, keysCs, Cell.keys, q4, o4, q6, o6, q28, q29, w2, is, htake]
            · simp [tm, tms, ib, am, ams, sms, kms, bm, dm, cells_mk, A.cells, S.cells, K.cells, B.cells, D.cells, T.zero, T.kind, T.val, T.kids, spineT, room, keysCs, Cell.keys, q7]
              refine ECall.fn (fn73 t) (by simp [tm, tms, ib, am, ams, sms, kms, bm, dm, cells_mk, A.cells, S.cells, K.cells, B.cells, D.cells, T.zero, T.kind, T.val, T.kids, spineT, room, keysCs, Cell.keys]) (by simp [tm, tms, ib, am, ams, sms, kms, bm, dm, cells_mk, A.cells, S.cells, K.cells, B.cells, D.cells, T.zero, T.kind, T.val, T.kids, spineT, room, keysCs, Cell.keys]) (by first | exact keys_tm _ | exact keys_am _ | exact keys_dm _ | rfl) fun _ => ?_
              have hmin : min i l.length = i := by omega
              simp [tm, tms, ib, am, ams, sms, kms, bm, dm, cells_mk, A.cells, S.cells, K.cells, B.cells, D.cells, T.zero, T.kind, T.val, T.kids, spineT, room, keysCs, Cell.keys, o7, q30, hmin]
              refine ⟨by omega, m - 1, by omega, i + 1, by omega, ?_⟩
              simp [tm, tms, ib, am, ams, sms, kms, bm, dm, cells_mk, A.cells, S.cells, K.cells, B.cells, D.cells, T.zero, T.kind, T.val, T.kids, spineT, room, keysCs, Cell.keys, q4, o4, q6, o6, q28, q29, w2, is, htake]
          · have hil : i = l.length := by omega
            subst hil
            simp [tm, tms, ib, am, ams, sms, kms, bm, dm, cells_mk, A.cells, S.cells, K.cells, B.cells, D.cells, T.zero, T.kind, T.val, T.kids, spineT, room, keysCs, Cell.keys, q4, o4, q6, o6, q28, q29, q30, only]
            rcases hp with ⟨h1, q7⟩ | ⟨h1, q7, o7⟩
            · exact .inl ⟨List.length_eq_zero_iff.1 h1, q7⟩
            · refine .inr ⟨fun h => by simp [tm, tms, ib, am, ams, sms, kms, bm, dm, cells_mk, A.cells, S.cells, K.cells, B.cells, D.cells, T.zero, T.kind, T.val, T.kids, spineT, room, keysCs, Cell.keys, h] at h1, q7, ?_⟩
              rw [List.take_of_length_le (by simp [tm, tms, ib, am, ams, sms, kms, bm, dm, cells_mk, A.cells, S.cells, K.cells, B.cells, D.cells, T.zero, T.kind, T.val, T.kids, spineT, room, keysCs, Cell.keys])] at o7
              exact o7
      · obtain ⟨q4, o4, q6, o6, hp⟩ := hA
        simp only [elT] at o6
        simp [tm, tms, ib, am, ams, sms, kms, bm, dm, cells_mk, A.cells, S.cells, K.cells, B.cells, D.cells, T.zero, T.kind, T.val, T.kids, spineT, room, keysCs, Cell.keys]
        refine W_dregD w32_0 f32_0 (by decide) ?_
        unfold w32_0 f32_0
        simp [tm, tms, ib, am, ams, sms, kms, bm, dm, cells_mk, A.cells, S.cells, K.cells, B.cells, D.cells, T.zero, T.kind, T.val, T.kids, spineT, room, keysCs, Cell.keys, q6, o6]
        refine CallD.fn (fn76 1) (by simp [tm, tms, ib, am, ams, sms, kms, bm, dm, cells_mk, A.cells, S.cells, K.cells, B.cells, D.cells, T.zero, T.kind, T.val, T.kids, spineT, room, keysCs, Cell.keys]) (by simp [tm, tms, ib, am, ams, sms, kms, bm, dm, cells_mk, A.cells, S.cells, K.cells, B.cells, D.cells, T.zero, T.kind, T.val, T.kids, spineT, room, keysCs, Cell.keys]) (by first | exact keys_tm _ | exact keys_am _ | exact keys_dm _ | rfl) (by simp [tm, tms, ib, am, ams, sms, kms, bm, dm, cells_mk, A.cells, S.cells, K.cells, B.cells, D.cells, T.zero, T.kind, T.val, T.kids, spineT, room, keysCs, Cell.keys]) ?_
        simp [tm, tms, ib, am, ams, sms, kms, bm, dm, cells_mk, A.cells, S.cells, K.cells, B.cells, D.cells, T.zero, T.kind, T.val, T.kids, spineT, room, keysCs, Cell.keys]
        refine CallD.fn (fn75 (elT a) [.mk 1 1 []]) (by simp [tm, tms, ib, am, ams, sms, kms, bm, dm, cells_mk, A.cells, S.cells, K.cells, B.cells, D.cells, T.zero, T.kind, T.val, T.kids, spineT, room, keysCs, Cell.keys, elT]) (by simp [tm, tms, ib, am, ams, sms, kms, bm, dm, cells_mk, A.cells, S.cells, K.cells, B.cells, D.cells, T.zero, T.kind, T.val, T.kids, spineT, room, keysCs, Cell.keys]) (by first | exact keys_tm _ | exact keys_am _ | exact keys_dm _ | rfl) (by simp [tm, tms, ib, am, ams, sms, kms, bm, dm, cells_mk, A.cells, S.cells, K.cells, B.cells, D.cells, T.zero, T.kind, T.val, T.kids, spineT, room, keysCs, Cell.keys]) ?_
        simp [tm, tms, ib, am, ams, sms, kms, bm, dm, cells_mk, A.cells, S.cells, K.cells, B.cells, D.cells, T.zero, T.kind, T.val, T.kids, spineT, room, keysCs, Cell.keys, q6, o6, elT]
        refine CallD.fn (fn76 1) (by simp [tm, tms, ib, am, ams, sms, kms, bm, dm, cells_mk, A.cells, S.cells, K.cells, B.cells, D.cells, T.zero, T.kind, T.val, T.kids, spineT, room, keysCs, Cell.keys]) (by simp [tm, tms, ib, am, ams, sms, kms, bm, dm, cells_mk, A.cells, S.cells, K.cells, B.cells, D.cells, T.zero, T.kind, T.val, T.kids, spineT, room, keysCs, Cell.keys]) (by first | exact keys_tm _ | exact keys_am _ | exact keys_dm _ | rfl) (by simp [tm, tms, ib, am, ams, sms, kms, bm, dm, cells_mk, A.cells, S.cells, K.cells, B.cells, D.cells, T.zero, T.kind, T.val, T.kids, spineT, room, keysCs, Cell.keys]) ?_
        simp [tm, tms, ib, am, ams, sms, kms, bm, dm, cells_mk, A.cells, S.cells, K.cells, B.cells, D.cells, T.zero, T.kind, T.val, T.kids, spineT, room, keysCs, Cell.keys]
        refine CallD.fn (fn76 0) (by simp [tm, tms, ib, am, ams, sms, kms, bm, dm, cells_mk, A.cells, S.cells, K.cells, B.cells, D.cells, T.zero, T.kind, T.val, T.kids, spineT, room, keysCs, Cell.keys]) (by simp [tm, tms, ib, am, ams, sms, kms, bm, dm, cells_mk, A.cells, S.cells, K.cells, B.cells, D.cells, T.zero, T.kind, T.val, T.kids, spineT, room, keysCs, Cell.keys]) (by first | exact keys_tm _ | exact keys_am _ | exact keys_dm _ | rfl) (by simp [tm, tms, ib, am, ams, sms, kms, bm, dm, cells_mk, A.cells, S.cells, K.cells, B.cells, D.cells, T.zero, T.kind, T.val, T.kids, spineT, room, keysCs, Cell.keys]) ?_
        simp [tm, tms, ib, am, ams, sms, kms, bm, dm, cells_mk, A.cells, S.cells, K.cells, B.cells, D.cells, T.zero, T.kind, T.val, T.kids, spineT, room, keysCs, Cell.keys]
        refine CallD.fn (fn75 (.mk 1 1 []) [.mk 1 0 []]) (by simp [tm, tms, ib, am, ams, sms, kms, bm, dm, cells_mk, A.cells, S.cells, K.cells, B.cells, D.cells, T.zero, T.kind, T.val, T.kids, spineT, room, keysCs, Cell.keys]) (by simp [tm, tms, ib, am, ams, sms, kms, bm, dm, cells_mk, A.cells, S.cells, K.cells, B.cells, D.cells, T.zero, T.kind, T.val, T.kids, spineT, room, keysCs, Cell.keys]) (by first | exact keys_tm _ | exact keys_am _ | exact keys_dm _ | rfl) (by simp [tm, tms, ib, am, ams, sms, kms, bm, dm, cells_mk, A.cells, S.cells, K.cells, B.cells, D.cells, T.zero, T.kind, T.val, T.kids, spineT, room, keysCs, Cell.keys]) ?_
        simp [tm, tms, ib, am, ams, sms, kms, bm, dm, cells_mk, A.cells, S.cells, K.cells, B.cells, D.cells, T.zero, T.kind, T.val, T.kids, spineT, room, keysCs, Cell.keys]
        refine CallD.fn (fn75 (elT a) [.mk 6 0 [.mk 1 1 [], .mk 1 0 []]]) (by simp [tm, tms, ib, am, ams, sms, kms, bm, dm, cells_mk, A.cells, S.cells, K.cells, B.cells, D.cells, T.zero, T.kind, T.val, T.kids, spineT, room, keysCs, Cell.keys, elT]) (by simp [tm, tms, ib, am, ams, sms, kms, bm, dm, cells_mk, A.cells, S.cells, K.cells, B.cells, D.cells, T.zero, T.kind, T.val, T.kids, spineT, room, keysCs, Cell.keys]) (by first | exact keys_tm _ | exact keys_am _ | exact keys_dm _ | rfl) (by simp [tm, tms, ib, am, ams, sms, kms, bm, dm, cells_mk, A.cells, S.cells, K.cells, B.cells, D.cells, T.zero, T.kind, T.val, T.kids, spineT, room, keysCs, Cell.keys]) ?_
        simp [tm, tms, ib, am, ams, sms, kms, bm, dm, cells_mk, A.cells, S.cells, K.cells, B.cells, D.cells, T.zero, T.kind, T.val, T.kids, spineT, room, keysCs, Cell.keys, elT]
        refine CallD.fn (fn74 4 [.mk 6 0 [elT a, .mk 1 1 []], .mk 6 0 [elT a, .mk 6 0 [.mk 1 1 [], .mk 1 0 []]]]) (by simp [tm, tms, ib, am, ams, sms, kms, bm, dm, cells_mk, A.cells, S.cells, K.cells, B.cells, D.cells, T.zero, T.kind, T.val, T.kids, spineT, room, keysCs, Cell.keys, elT]) (by simp [tm, tms, ib, am, ams, sms, kms, bm, dm, cells_mk, A.cells, S.cells, K.cells, B.cells, D.cells, T.zero, T.kind, T.val, T.kids, spineT, room, keysCs, Cell.keys]) (by first | exact keys_tm _ | exact keys_am _ | exact keys_dm _ | rfl) (by simp [tm, tms, ib, am, ams, sms, kms, bm, dm, cells_mk, A.cells, S.cells, K.cells, B.cells, D.cells, T.zero, T.kind, T.val, T.kids, spineT, room, keysCs, Cell.keys]) ?_
        simp [tm, tms, ib, am, ams, sms, kms, bm, dm, cells_mk, A.cells, S.cells, K.cells, B.cells, D.cells, T.zero, T.kind, T.val, T.kids, spineT, room, keysCs, Cell.keys, elT]
        refine realC_n ?_
        simp [tm, tms, ib, am, ams, sms, kms, bm, dm, cells_mk, A.cells, S.cells, K.cells, B.cells, D.cells, T.zero, T.kind, T.val, T.kids, spineT, room, keysCs, Cell.keys]
        rcases hp with ⟨h1, q7⟩ | ⟨h1, q7, o7⟩
        · subst h1
          refine W_dregA ?_
          simp [tm, tms, ib, am, ams, sms, kms, bm, dm, cells_mk, A.cells, S.cells, K.cells, B.cells, D.cells, T.zero, T.kind, T.val, T.kids, spineT, room, keysCs, Cell.keys, q7, q6, o6]
          refine CallA.fn (fn77 0 []) (by simp [tm, tms, ib, am, ams, sms, kms, bm, dm, cells_mk, A.cells, S.cells, K.cells, B.cells, D.cells, T.zero, T.kind, T.val, T.kids, spineT, room, keysCs, Cell.keys]) (by simp [tm, tms, ib, am, ams, sms, kms, bm, dm, cells_mk, A.cells, S.cells, K.cells, B.cells, D.cells, T.zero, T.kind, T.val, T.kids, spineT, room, keysCs, Cell.keys]) (by first | exact keys_tm _ | exact keys_am _ | exact keys_dm _ | rfl) ?_
          simp [tm, tms, ib, am, ams, sms, kms, bm, dm, cells_mk, A.cells, S.cells, K.cells, B.cells, D.cells, T.zero, T.kind, T.val, T.kids, spineT, room, keysCs, Cell.keys, q6, o6]
          refine CallA.fn (fn76 0) (by simp [tm, tms, ib, am, ams, sms, kms, bm, dm, cells_mk, A.cells, S.cells, K.cells, B.cells, D.cells, T.zero, T.kind, T.val, T.kids, spineT, room, keysCs, Cell.keys]) (by simp [tm, tms, ib, am, ams, sms, kms, bm, dm, cells_mk, A.cells, S.cells, K.cells, B.cells, D.cells, T.zero, T.kind, T.val, T.kids, spineT, room, keysCs, Cell.keys]) (by first | exact keys_tm _ | exact keys_am _ | exact keys_dm _ | rfl) ?_
          simp [tm, tms, ib, am, ams, sms, kms, bm, dm, cells_mk, A.cells, S.cells, K.cells, B.cells, D.cells, T.zero, T.kind, T.val, T.kids, spineT, room, keysCs, Cell.keys]
          refine CallA.fn (fn75 (elT a) [.mk 1 0 []]) (by simp [tm, tms, ib, am, ams, sms, kms, bm, dm, cells_mk, A.cells, S.cells, K.cells, B.cells, D.cells, T.zero, T.kind, T.val, T.kids, spineT, room, keysCs, Cell.keys, elT]) (by simp [tm, tms, ib, am, ams, sms, kms, bm, dm, cells_mk, A.cells, S.cells, K.cells, B.cells, D.cells, T.zero, T.kind, T.val, T.kids, spineT, room, keysCs, Cell.keys]) (by first | exact keys_tm _ | exact keys_am _ | exact keys_dm _ | rfl) ?_
          simp [tm, tms, ib, am, ams, sms, kms, bm, dm, cells_mk, A.cells, S.cells, K.cells, B.cells, D.cells, T.zero, T.kind, T.val, T.kids, spineT, room, keysCs, Cell.keys, elT]
          refine CallA.fn (fn78 (.mk 6 0 [elT a, .mk 1 0 []])) (by simp [tm, tms, ib, am, ams, sms, kms, bm, dm, cells_mk, A.cells, S.cells, K.cells, B.cells, D.cells, T.zero, T.kind, T.val, T.kids, spineT, room, keysCs, Cell.keys, elT]) (by simp [tm, tms, ib, am, ams, sms, kms, bm, dm, cells_mk, A.cells, S.cells, K.cells, B.cells, D.cells, T.zero, T.kind, T.val, T.kids, spineT, room, keysCs, Cell.keys]) (by first | exact keys_tm _ | exact keys_am _ | exact keys_dm _ | rfl) ?_
          simp [tm, tms, ib, am, ams, sms, kms, bm, dm, cells_mk, A.cells, S.cells, K.cells, B.cells, D.cells, T.zero, T.kind, T.val, T.kids, spineT, room, keysCs, Cell.keys, elT]
          refine ⟨rfl, realC_n ?_⟩
          simp [tm, tms, ib, am, ams, sms, kms, bm, dm, cells_mk, A.cells, S.cells, K.cells, B.cells, D.cells, T.zero, T.kind, T.val, T.kids, spineT, room, keysCs, Cell.keys]
          refine ECall.fn (fn80 0) (by simp [tm, tms, ib, am, ams, sms, kms, bm, dm, cells_mk, A.cells, S.cells, K.cells, B.cells, D.cells, T.zero, T.kind, T.val, T.kids, spineT, room, keysCs, Cell.keys]) (by simp [tm, tms, ib, am, ams, sms, kms, bm, dm, cells_mk, A.cells, S.cells, K.cells, B.cells, D.cells, T.zero, T.kind, T.val, T.kids, spineT, room, keysCs, Cell.keys]) (by first | exact keys_tm _ | exact keys_am _ | exact keys_dm _ | rfl) fun _ => ?_
          simp [tm, tms, ib, am, ams, sms, kms, bm, dm, cells_mk, A.cells, S.cells, K.cells, B.cells, D.cells, T.zero, T.kind, T.val, T.kids, spineT, room, keysCs, Cell.keys]
          refine ECall.fn (fn79 [⟨[], 1, true, .mk 2 0 []⟩] [kL a]) (by simp [tm, tms, ib, am, ams, sms, kms, bm, dm, cells_mk, A.cells, S.cells, K.cells, B.cells, D.cells, T.zero, T.kind, T.val, T.kids, spineT, room, keysCs, Cell.keys, kL, elT]) (by simp [tm, tms, ib, am, ams, sms, kms, bm, dm, cells_mk, A.cells, S.cells, K.cells, B.cells, D.cells, T.zero, T.kind, T.val, T.kids, spineT, room, keysCs, Cell.keys]) (by first | exact keys_tm _ | exact keys_am _ | exact keys_dm _ | rfl) fun _ => ?_
          simp [tm, tms, ib, am, ams, sms, kms, bm, dm, cells_mk, A.cells, S.cells, K.cells, B.cells, D.cells, T.zero, T.kind, T.val, T.kids, spineT, room, keysCs, Cell.keys, q4, o4, r32, tarD, kL, elT]
        · refine W_dregA ?_
          simp [tm, tms, ib, am, ams, sms, kms, bm, dm, cells_mk, A.cells, S.cells, K.cells, B.cells, D.cells, T.zero, T.kind, T.val, T.kids, spineT, room, keysCs, Cell.keys, q7, q6, o6]
          refine CallA.fn (fn77 0 []) (by simp [tm, tms, ib, am, ams, sms, kms, bm, dm, cells_mk, A.cells, S.cells, K.cells, B.cells, D.cells, T.zero, T.kind, T.val, T.kids, spineT, room, keysCs, Cell.keys]) (by simp [tm, tms, ib, am, ams, sms, kms, bm, dm, cells_mk, A.cells, S.cells, K.cells, B.cells, D.cells, T.zero, T.kind, T.val, T.kids, spineT, room, keysCs, Cell.keys]) (by first | exact keys_tm _ | exact keys_am _ | exact keys_dm _ | rfl) ?_
          simp [tm, tms, ib, am, ams, sms, kms, bm, dm, cells_mk, A.cells, S.cells, K.cells, B.cells, D.cells, T.zero, T.kind, T.val, T.kids, spineT, room, keysCs, Cell.keys, q6, o6]
          refine CallA.fn (fn76 0) (by simp [tm, tms, ib, am, ams, sms, kms, bm, dm, cells_mk, A.cells, S.cells, K.cells, B.cells, D.cells, T.zero, T.kind, T.val, T.kids, spineT, room, keysCs, Cell.keys]) (by simp [tm, tms, ib, am, ams, sms, kms, bm, dm, cells_mk, A.cells, S.cells, K.cells, B.cells, D.cells, T.zero, T.kind, T.val, T.kids, spineT, room, keysCs, Cell.keys]) (by first | exact keys_tm _ | exact keys_am _ | exact keys_dm _ | rfl) ?_
          simp [tm, tms, ib, am, ams, sms, kms, bm, dm, cells_mk, A.cells, S.cells, K.cells, B.cells, D.cells, T.zero, T.kind, T.val, T.kids, spineT, room, keysCs, Cell.keys]
          refine CallA.fn (fn75 (elT a) [.mk 1 0 []]) (by simp [tm, tms, ib, am, ams, sms, kms, bm, dm, cells_mk, A.cells, S.cells, K.cells, B.cells, D.cells, T.zero, T.kind, T.val, T.kids, spineT, room, keysCs, Cell.keys, elT]) (by simp [tm, tms, ib, am, ams, sms, kms, bm, dm, cells_mk, A.cells, S.cells, K.cells, B.cells, D.cells, T.zero, T.kind, T.val, T.kids, spineT, room, keysCs, Cell.keys]) (by first | exact keys_tm _ | exact keys_am _ | exact keys_dm _ | rfl) ?_
          simp [tm, tms, ib, am, ams, sms, kms, bm, dm, cells_mk, A.cells, S.cells, K.cells, B.cells, D.cells, T.zero, T.kind, T.val, T.kids, spineT, room, keysCs, Cell.keys, elT]
          refine CallA.fn (fn78 (.mk 6 0 [elT a, .mk 1 0 []])) (by simp [tm, tms, ib, am, ams, sms, kms, bm, dm, cells_mk, A.cells, S.cells, K.cells, B.cells, D.cells, T.zero, T.kind, T.val, T.kids, spineT, room, keysCs, Cell.keys, elT]) (by simp [tm, tms, ib, am, ams, sms, kms, bm, dm, cells_mk, A.cells, S.cells, K.cells, B.cells, D.cells, T.zero, T.kind, T.val, T.kids, spineT, room, keysCs, Cell.keys]) (by first | exact keys_tm _ | exact keys_am _ | exact keys_dm _ | rfl) ?_
          have hroom : (l.length + 1) * 96 ≤ 140737488355328 := by omega
          simp [tm, tms, ib, am, ams, sms, kms, bm, dm, cells_mk, A.cells, S.cells, K.cells, B.cells, D.cells, T.zero, T.kind, T.val, T.kids, spineT, room, keysCs, Cell.keys, elT, o7, hroom]
          refine ⟨rfl, realC_n ?_⟩
          simp [tm, tms, ib, am, ams, sms, kms, bm, dm, cells_mk, A.cells, S.cells, K.cells, B.cells, D.cells, T.zero, T.kind, T.val, T.kids, spineT, room, keysCs, Cell.keys]
          refine ECall.fn (fn80 0) (by simp [tm, tms, ib, am, ams, sms, kms, bm, dm, cells_mk, A.cells, S.cells, K.cells, B.cells, D.cells, T.zero, T.kind, T.val, T.kids, spineT, room, keysCs, Cell.keys]) (by simp [tm, tms, ib, am, ams, sms, kms, bm, dm, cells_mk, A.cells, S.cells, K.cells, B.cells, D.cells, T.zero, T.kind, T.val, T.kids, spineT, room, keysCs, Cell.keys]) (by first | exact keys_tm _ | exact keys_am _ | exact keys_dm _ | rfl) fun _ => ?_
          simp [tm, tms, ib, am, ams, sms, kms, bm, dm, cells_mk, A.cells, S.cells, K.cells, B.cells, D.cells, T.zero, T.kind, T.val, T.kids, spineT, room, keysCs, Cell.keys]
          have hrow : K.cells ∘ kC = rowK := rfl
          refine ECall.fn (fn79 [⟨[], 1, true, .mk 2 0 []⟩] (l.map kC ++ [kL a])) (by simp [tm, tms, ib, am, ams, sms, kms, bm, dm, cells_mk, A.cells, S.cells, K.cells, B.cells, D.cells, T.zero, T.kind, T.val, T.kids, spineT, room, keysCs, Cell.keys, kL, elT, hrow]) (by simp [tm, tms, ib, am, ams, sms, kms, bm, dm, cells_mk, A.cells, S.cells, K.cells, B.cells, D.cells, T.zero, T.kind, T.val, T.kids, spineT, room, keysCs, Cell.keys]) (by first | exact keys_tm _ | exact keys_am _ | exact keys_dm _ | rfl) fun _ => ?_
          simp [tm, tms, ib, am, ams, sms, kms, bm, dm, cells_mk, A.cells, S.cells, K.cells, B.cells, D.cells, T.zero, T.kind, T.val, T.kids, spineT, room, keysCs, Cell.keys, q4, o4, r32, tarD, kL, elT]
theorem fn33 (a : Int) (l : List Int) : Fn Try.prog 33 [ib a, is l] (.tup [dm (tarski a l).1, ib (tarski a l).2]) := by
  refine fn_of (base := 33000) ok33 rfl fun σ h0 hr => ?_
  have s0 : σ.sl 0 = ib a := h0 0
  have s1 : σ.sl 1 = is l := h0 1
  have hlen := real_is (hr (is l) (by simp [tm, tms, ib, am, ams, sms, kms, bm, dm, cells_mk, A.cells, S.cells, K.cells, B.cells, D.cells, T.zero, T.kind, T.val, T.kids, spineT, room, keysCs, Cell.keys]))
  simp only [ib, is] at s0 s1
  clear h0 hr
  unfold c33
  by_cases h7 : 7 < l.length
  · have h7' : (7 : Int) < (l.length : Int) := by omega
    simp [tm, tms, ib, am, ams, sms, kms, bm, dm, cells_mk, A.cells, S.cells, K.cells, B.cells, D.cells, T.zero, T.kind, T.val, T.kids, spineT, room, keysCs, Cell.keys, s0, s1, h7', r33, tarski, h7, D0]
  · have h7' : ¬ (7 : Int) < (l.length : Int) := by omega
    simp [tm, tms, ib, am, ams, sms, kms, bm, dm, cells_mk, A.cells, S.cells, K.cells, B.cells, D.cells, T.zero, T.kind, T.val, T.kids, spineT, room, keysCs, Cell.keys, s0, s1, h7']
    refine ECall.fn (fn81 a 0 65000) (by simp [tm, tms, ib, am, ams, sms, kms, bm, dm, cells_mk, A.cells, S.cells, K.cells, B.cells, D.cells, T.zero, T.kind, T.val, T.kids, spineT, room, keysCs, Cell.keys]) (by simp [tm, tms, ib, am, ams, sms, kms, bm, dm, cells_mk, A.cells, S.cells, K.cells, B.cells, D.cells, T.zero, T.kind, T.val, T.kids, spineT, room, keysCs, Cell.keys]) rfl fun _ => ?_
    simp [tm, tms, ib, am, ams, sms, kms, bm, dm, cells_mk, A.cells, S.cells, K.cells, B.cells, D.cells, T.zero, T.kind, T.val, T.kids, spineT, room, keysCs, Cell.keys, bb, s1, -W_block]
    refine W_cutb (fun σ => σ.sl 0 = ib a ∧ σ.sl 1 = is l ∧ σ.sl 4 = .c (.ref 33004 (σ.tg 33004) 0) ∧ σ.ob 33004 = some (.box 46 [.v (.int .i64 0), .v (.int .i64 0), .v (.int .i64 0), .cap 3 40 [], .v (.int .i64 0), .v (.int .i64 0), .cap 3 40 [], .cap 6 80 [], .cap 6 96 [], .v (.int .i64 0)]) ∧ σ.sl 6 = bb (mayC a && l.all mayC)) ?_ fun σ' hA => ?_
    · refine W_loop (fun m σ => ∃ i : Nat, i + m = l.length ∧ σ.sl 0 = ib a ∧ σ.sl 1 = is l ∧ σ.sl 4 = .c (.ref 33004 (σ.tg 33004) 0) ∧ σ.ob 33004 = some (.box 46 [.v (.int .i64 0), .v (.int .i64 0), .v (.int .i64 0), .cap 3 40 [], .v (.int .i64 0), .v (.int .i64 0), .cap 3 40 [], .cap 6 80 [], .cap 6 96 [], .v (.int .i64 0)]) ∧ σ.sl 6 = bb (mayC a && (l.take i).all mayC) ∧ σ.sl 7 = ib i) l.length ?_ ?_
      · exact ⟨0, by simp [tm, tms, ib, am, ams, sms, kms, bm, dm, cells_mk, A.cells, S.cells, K.cells, B.cells, D.cells, T.zero, T.kind, T.val, T.kids, spineT, room, keysCs, Cell.keys, s0, s1, is, bb, mayC]⟩
      · rintro m σ ⟨i, hm, q0, q1, q4, o4, q6, q7⟩
        unfold c33b0
        simp only [is, ib, bb] at q0 q1 q6 q7
        by_cases hi : i < l.length
        · obtain ⟨t, ht⟩ := at_of hi
          obtain ⟨_, ht'⟩ := getE ht
          have w2 := wrap_succ (i := i) (by omega)
          have htk : (l.take (i + 1)).all mayC = ((l.take i).all mayC && mayC t) := by rw [List.take_add_one, ht]; simp [tm, tms, ib, am, ams, sms, kms, bm, dm, cells_mk, A.cells, S.cells, K.cells, B.cells, D.cells, T.zero, T.kind, T.val, T.kids, spineT, room, keysCs, Cell.keys]
          simp [tm, tms, ib, am, ams, sms, kms, bm, dm, cells_mk, A.cells, S.cells, K.cells, B.cells, D.cells, T.zero, T.kind, T.val, T.kids, spineT, room, keysCs, Cell.keys, q0, q1, q4, o4, q6, q7, hi, ht']
          refine GCall.fn (fun _ => fn81 t 0 65000) (by simp [tm, tms, ib, am, ams, sms, kms, bm, dm, cells_mk, A.cells, S.cells, K.cells, B.cells, D.cells, T.zero, T.kind, T.val, T.kids, spineT, room, keysCs, Cell.keys]) (by simp [tm, tms, ib, am, ams, sms, kms, bm, dm, cells_mk, A.cells, S.cells, K.cells, B.cells, D.cells, T.zero, T.kind, T.val, T.kids, spineT, room, keysCs, Cell.keys]) rfl fun _ => ?_
          simp [tm, tms, ib, am, ams, sms, kms, bm, dm, cells_mk, A.cells, S.cells, K.cells, B.cells, D.cells, T.zero, T.kind, T.val, T.kids, spineT, room, keysCs, Cell.keys, bb, q7]
          refine ⟨m - 1, by omega, i + 1, by omega, ?_⟩
          rw [htk]
          simp [tm, tms, ib, am, ams, sms, kms, bm, dm, cells_mk, A.cells, S.cells, K.cells, B.cells, D.cells, T.zero, T.kind, T.val, T.kids, spineT, room, keysCs, Cell.keys, q0, q1, q4, o4, w2, is, mayC, Bool.and_assoc]
        · have : l.take i = l := List.take_of_length_le (by omega)
          simp [tm, tms, ib, am, ams, sms, kms, bm, dm, cells_mk, A.cells, S.cells, K.cells, B.cells, D.cells, T.zero, T.kind, T.val, T.kids, spineT, room, keysCs, Cell.keys, q0, q1, q4, o4, q6, q7, hi, only, is, bb, this]
    · obtain ⟨q0, q1, q4, o4, q6⟩ := hA
      simp only [is, ib, bb] at q0 q1 q6
      have hany : (!mayC a || l.any fun n => !mayC n) = !(mayC a && l.all mayC) := by
        simp [tm, tms, ib, am, ams, sms, kms, bm, dm, cells_mk, A.cells, S.cells, K.cells, B.cells, D.cells, T.zero, T.kind, T.val, T.kids, spineT, room, keysCs, Cell.keys, List.any_eq_not_all_not]
      by_cases hc : (mayC a && l.all mayC) = true
      · have hT : tarski a l = (tarD a l, 0) := by
          simp only [tarski, if_neg h7, hany, hc]; rfl
        rw [hc] at q6
        have ha : 0 ≤ a ∧ a ≤ 65000 := by
          simp only [mayC, Bool.and_eq_true, decide_eq_true_eq] at hc; exact hc.1
        have w1 : IntKind.wrap .i64 (a + 1) = a + 1 := wrap_id (by omega) (by omega)
        simp [tm, tms, ib, am, ams, sms, kms, bm, dm, cells_mk, A.cells, S.cells, K.cells, B.cells, D.cells, T.zero, T.kind, T.val, T.kids, spineT, room, keysCs, Cell.keys, q0, q1, q4, o4, q6, w1, hT]
        refine ECall.fn (fn82 (a + 1)) (by simp [tm, tms, ib, am, ams, sms, kms, bm, dm, cells_mk, A.cells, S.cells, K.cells, B.cells, D.cells, T.zero, T.kind, T.val, T.kids, spineT, room, keysCs, Cell.keys]) (by simp [tm, tms, ib, am, ams, sms, kms, bm, dm, cells_mk, A.cells, S.cells, K.cells, B.cells, D.cells, T.zero, T.kind, T.val, T.kids, spineT, room, keysCs, Cell.keys]) (by first | exact keys_tm _ | exact keys_am _ | exact keys_dm _ | rfl) fun _ => ?_
        simp [tm, tms, ib, am, ams, sms, kms, bm, dm, cells_mk, A.cells, S.cells, K.cells, B.cells, D.cells, T.zero, T.kind, T.val, T.kids, spineT, room, keysCs, Cell.keys]
        refine ECall.fn (fn24 0) (by simp [tm, tms, ib, am, ams, sms, kms, bm, dm, cells_mk, A.cells, S.cells, K.cells, B.cells, D.cells, T.zero, T.kind, T.val, T.kids, spineT, room, keysCs, Cell.keys]) (by simp [tm, tms, ib, am, ams, sms, kms, bm, dm, cells_mk, A.cells, S.cells, K.cells, B.cells, D.cells, T.zero, T.kind, T.val, T.kids, spineT, room, keysCs, Cell.keys]) (by first | exact keys_tm _ | exact keys_am _ | exact keys_dm _ | rfl) fun _ => ?_
        simp [tm, tms, ib, am, ams, sms, kms, bm, dm, cells_mk, A.cells, S.cells, K.cells, B.cells, D.cells, T.zero, T.kind, T.val, T.kids, spineT, room, keysCs, Cell.keys, -W_block]
        refine W_cutb (fun σ => σ.sl 4 = .c (.ref 33004 (σ.tg 33004) 0) ∧ σ.ob 33004 = some (.box 46 [.v (.int .i64 0), .v (.int .i64 0), .v (.int .i64 0), .cap 3 40 [], .v (.int .i64 0), .v (.int .i64 0), .cap 3 40 [], .cap 6 80 [], .cap 6 96 [], .v (.int .i64 0)]) ∧ σ.sl 8 = .c (.ref 33008 (σ.tg 33008) 0) ∧ σ.ob 33008 = some (.box 24 (elT a).cells) ∧ σ.sl 9 = .c (.ref 33009 (σ.tg 33009) 0) ∧
          ((l = [] ∧ σ.ob 33009 = some (.box 44 [.cap 6 80 [[.sl 7 104 [], .v (.int .i64 1), .v (.bool true), .v (.int .i64 2), .v (.int .i64 0), .sl 3 40 []]], .cap 6 96 [], .v (.int .i64 0)])) ∨ (l ≠ [] ∧ σ.ob 33009 = some (.box 44 [.cap 6 80 [[.sl 7 104 [], .v (.int .i64 1), .v (.bool true), .v (.int .i64 2), .v (.int .i64 0), .sl 3 40 []]], .own 33056 (σ.tg 33056), .v (.int .i64 0)]) ∧ σ.ob 33056 = some (.row 74 6 96 (l.map rowK))))) ?_ fun σ' hA => ?_
        · refine W_loop (fun m σ => ∃ i : Nat, i + m = l.length ∧ σ.sl 1 = is l ∧ σ.sl 4 = .c (.ref 33004 (σ.tg 33004) 0) ∧ σ.ob 33004 = some (.box 46 [.v (.int .i64 0), .v (.int .i64 0), .v (.int .i64 0), .cap 3 40 [], .v (.int .i64 0), .v (.int .i64 0), .cap 3 40 [], .cap 6 80 [], .cap 6 96 [], .v (.int .i64 0)]) ∧ σ.sl 8 = .c (.ref 33008 (σ.tg 33008) 0) ∧ σ.ob 33008 = some (.box 24 (elT a).cells) ∧ σ.sl 9 = .c (.ref 33009 (σ.tg 33009) 0) ∧
            ((i = 0 ∧ σ.ob 33009 = some (.box 44 [.cap 6 80 [[.sl 7 104 [], .v (.int .i64 1), .v (.bool true), .v (.int .i64 2), .v (.int .i64 0), .sl 3 40 []]], .cap 6 96 [], .v (.int .i64 0)])) ∨ (0 < i ∧ σ.ob 33009 = some (.box 44 [.cap 6 80 [[.sl 7 104 [], .v (.int .i64 1), .v (.bool true), .v (.int .i64 2), .v (.int .i64 0), .sl 3 40 []]], .own 33056 (σ.tg 33056), .v (.int .i64 0)]) ∧ σ.ob 33056 = some (.row 74 6 96 ((l.map rowK).take i)))) ∧ σ.sl 10 = ib i) l.length ?_ ?_
          · exact ⟨0, by simp [tm, tms, ib, am, ams, sms, kms, bm, dm, cells_mk, A.cells, S.cells, K.cells, B.cells, D.cells, T.zero, T.kind, T.val, T.kids, spineT, room, keysCs, Cell.keys, elT, is, q1, q4, o4]⟩
          · rintro m σ ⟨i, hm, q1, q4, o4, q8, o8, q9, hp, q10⟩
            unfold c33b1
            simp only [is, ib] at q1 q10
            by_cases hi : i < l.length
            · obtain ⟨t, ht⟩ := at_of hi
              obtain ⟨_, ht'⟩ := getE ht
              have w2 := wrap_succ (i := i) (by omega)
              have htake : (l.map rowK).take i ++ [[.v (.int .i64 0), .sl 7 104 [], .sl 3 40 [], .v (.int .i64 3), .v (.int .i64 t), .sl 3 40 []]] = (l.map rowK).take (i + 1) := by
                rw [List.take_add_one, List.getElem?_map, ht]; rfl
              have hmin : min i l.length = i := by omega
              simp [tm, tms, ib, am, ams, sms, kms, bm, dm, cells_mk, A.cells, S.cells, K.cells, B.cells, D.cells, T.zero, T.kind, T.val, T.kids, spineT, room, keysCs, Cell.keys, q1, q10, hi]
              refine W_dregA ?_
              rcases hp with ⟨h1, o9⟩ | ⟨h1, o9, o5⟩
              · subst h1
                simp [tm, tms, ib, am, ams, sms, kms, bm, dm, cells_mk, A.cells, S.cells, K.cells, B.cells, D.cells, T.zero, T.kind, T.val, T.kids, spineT, room, keysCs, Cell.keys, q1, q9, o9, q10, hi, ht']
                refine CallA.fn (fn82 t) (by simp [tm, tms, ib, am, ams, sms, kms, bm, dm, cells_mk, A.cells, S.cells, K.cells, B.cells, D.cells, T.zero, T.kind, T.val, T.kids, spineT, room, keysCs, Cell.keys]) (by simp [tm, tms, ib, am, ams, sms, kms, bm, dm, cells_mk, A.cells, S.cells, K.cells, B.cells, D.cells, T.zero, T.kind, T.val, T.kids, spineT, room, keysCs, Cell.keys]) (by first | exact keys_tm _ | exact keys_am _ | exact keys_dm _ | rfl) ?_
                simp [tm, tms, ib, am, ams, sms, kms, bm, dm, cells_mk, A.cells, S.cells, K.cells, B.cells, D.cells, T.zero, T.kind, T.val, T.kids, spineT, room, keysCs, Cell.keys, q9, o9]
                refine ⟨rfl, rfl, realC_n ?_⟩
                simp [tm, tms, ib, am, ams, sms, kms, bm, dm, cells_mk, A.cells, S.cells, K.cells, B.cells, D.cells, T.zero, T.kind, T.val, T.kids, spineT, room, keysCs, Cell.keys, q10]
                refine ⟨m - 1, by omega, 1, by omega, ?_⟩
                simp at w2
                rw [Nat.zero_add] at htake
                simp only [List.take_zero, List.nil_append] at htake
                simp [tm, tms, ib, am, ams, sms, kms, bm, dm, cells_mk, A.cells, S.cells, K.cells, B.cells, D.cells, T.zero, T.kind, T.val, T.kids, spineT, room, keysCs, Cell.keys, q1, q4, o4, q8, o8, q9, w2, is, htake]
              · simp [tm, tms, ib, am, ams, sms, kms, bm, dm, cells_mk, A.cells, S.cells, K.cells, B.cells, D.cells, T.zero, T.kind, T.val, T.kids, spineT, room, keysCs, Cell.keys, q1, q9, o9, q10, hi, ht']
                refine CallA.fn (fn82 t) (by simp [tm, tms, ib, am, ams, sms, kms, bm, dm, cells_mk, A.cells, S.cells, K.cells, B.cells, D.cells, T.zero, T.kind, T.val, T.kids, spineT, room, keysCs, Cell.keys]) (by simp [tm, tms, ib, am, ams, sms, kms, bm, dm, cells_mk, A.cells, S.cells, K.cells, B.cells, D.cells, T.zero, T.kind, T.val, T.kids, spineT, room, keysCs, Cell.keys]) (by first | exact keys_tm _ | exact keys_am _ | exact keys_dm _ | rfl) ?_
                simp [tm, tms, ib, am, ams, sms, kms, bm, dm, cells_mk, A.cells, S.cells, K.cells, B.cells, D.cells, T.zero, T.kind, T.val, T.kids, spineT, room, keysCs, Cell.keys, q9, o9, o5, hmin]
                refine ⟨rfl, by omega, rfl, realC_n ?_⟩
                simp [tm, tms, ib, am, ams, sms, kms, bm, dm, cells_mk, A.cells, S.cells, K.cells, B.cells, D.cells, T.zero, T.kind, T.val, T.kids, spineT, room, keysCs, Cell.keys, q10]
                refine ⟨m - 1, by omega, i + 1, by omega, ?_⟩
                simp [tm, tms, ib, am, ams, sms, kms, bm, dm, cells_mk, A.cells, S.cells, K.cells, B.cells, D.cells, T.zero, T.kind, T.val, T.kids, spineT, room, keysCs, Cell.keys, q1, q4, o4, q8, o8, q9, w2, is, htake]
            · have hil : i = l.length := by omega
              subst hil
              simp [tm, tms, ib, am, ams, sms, kms, bm, dm, cells_mk, A.cells, S.cells, K.cells, B.cells, D.cells, T.zero, T.kind, T.val, T.kids, spineT, room, keysCs, Cell.keys, q1, q4, o4, q8, o8, q9, q10, only]
              rcases hp with ⟨h1, q7⟩ | ⟨h1, q7, o7⟩
              · exact .inl ⟨List.length_eq_zero_iff.1 h1, q7⟩
              · refine .inr ⟨fun h => by simp [tm, tms, ib, am, ams, sms, kms, bm, dm, cells_mk, A.cells, S.cells, K.cells, B.cells, D.cells, T.zero, T.kind, T.val, T.kids, spineT, room, keysCs, Cell.keys, h] at h1, q7, ?_⟩
                rw [List.take_of_length_le (by simp [tm, tms, ib, am, ams, sms, kms, bm, dm, cells_mk, A.cells, S.cells, K.cells, B.cells, D.cells, T.zero, T.kind, T.val, T.kids, spineT, room, keysCs, Cell.keys])] at o7
                exact o7
        · obtain ⟨q4, o4, q8, o8, q9, hp⟩ := hA
          have hrow : K.cells ∘ kC = rowK := rfl
          simp only [elT, cells_mk] at o8
          simp [tm, tms, ib, am, ams, sms, kms, bm, dm, cells_mk, A.cells, S.cells, K.cells, B.cells, D.cells, T.zero, T.kind, T.val, T.kids, spineT, room, keysCs, Cell.keys]
          rcases hp with ⟨h1, o9⟩ | ⟨h1, o9, o5⟩
          · subst h1
            refine W_dregA ?_
            simp [tm, tms, ib, am, ams, sms, kms, bm, dm, cells_mk, A.cells, S.cells, K.cells, B.cells, D.cells, T.zero, T.kind, T.val, T.kids, spineT, room, keysCs, Cell.keys, q9, o9]
            refine CallA.fn (fn83 0 []) (by simp [tm, tms, ib, am, ams, sms, kms, bm, dm, cells_mk, A.cells, S.cells, K.cells, B.cells, D.cells, T.zero, T.kind, T.val, T.kids, spineT, room, keysCs, Cell.keys]) (by simp [tm, tms, ib, am, ams, sms, kms, bm, dm, cells_mk, A.cells, S.cells, K.cells, B.cells, D.cells, T.zero, T.kind, T.val, T.kids, spineT, room, keysCs, Cell.keys]) (by first | exact keys_tm _ | exact keys_am _ | exact keys_dm _ | rfl) ?_
            simp [tm, tms, ib, am, ams, sms, kms, bm, dm, cells_mk, A.cells, S.cells, K.cells, B.cells, D.cells, T.zero, T.kind, T.val, T.kids, spineT, room, keysCs, Cell.keys, q8, o8]
            refine CallA.fn (fn66 0) (by simp [tm, tms, ib, am, ams, sms, kms, bm, dm, cells_mk, A.cells, S.cells, K.cells, B.cells, D.cells, T.zero, T.kind, T.val, T.kids, spineT, room, keysCs, Cell.keys]) (by simp [tm, tms, ib, am, ams, sms, kms, bm, dm, cells_mk, A.cells, S.cells, K.cells, B.cells, D.cells, T.zero, T.kind, T.val, T.kids, spineT, room, keysCs, Cell.keys]) (by first | exact keys_tm _ | exact keys_am _ | exact keys_dm _ | rfl) ?_
            simp [tm, tms, ib, am, ams, sms, kms, bm, dm, cells_mk, A.cells, S.cells, K.cells, B.cells, D.cells, T.zero, T.kind, T.val, T.kids, spineT, room, keysCs, Cell.keys]
            refine CallA.fn (fn84 (elT a) (.mk 1 0 [])) (by simp [tm, tms, ib, am, ams, sms, kms, bm, dm, cells_mk, A.cells, S.cells, K.cells, B.cells, D.cells, T.zero, T.kind, T.val, T.kids, spineT, room, keysCs, Cell.keys, elT]) (by simp [tm, tms, ib, am, ams, sms, kms, bm, dm, cells_mk, A.cells, S.cells, K.cells, B.cells, D.cells, T.zero, T.kind, T.val, T.kids, spineT, room, keysCs, Cell.keys]) (by first | exact keys_tm _ | exact keys_am _ | exact keys_dm _ | rfl) ?_
            simp [tm, tms, ib, am, ams, sms, kms, bm, dm, cells_mk, A.cells, S.cells, K.cells, B.cells, D.cells, T.zero, T.kind, T.val, T.kids, spineT, room, keysCs, Cell.keys, elT, q8, o8]
            refine CallA.fn (fn66 1) (by simp [tm, tms, ib, am, ams, sms, kms, bm, dm, cells_mk, A.cells, S.cells, K.cells, B.cells, D.cells, T.zero, T.kind, T.val, T.kids, spineT, room, keysCs, Cell.keys]) (by simp [tm, tms, ib, am, ams, sms, kms, bm, dm, cells_mk, A.cells, S.cells, K.cells, B.cells, D.cells, T.zero, T.kind, T.val, T.kids, spineT, room, keysCs, Cell.keys]) (by first | exact keys_tm _ | exact keys_am _ | exact keys_dm _ | rfl) ?_
            simp [tm, tms, ib, am, ams, sms, kms, bm, dm, cells_mk, A.cells, S.cells, K.cells, B.cells, D.cells, T.zero, T.kind, T.val, T.kids, spineT, room, keysCs, Cell.keys]
            refine CallA.fn (fn84 (elT a) (.mk 1 1 [])) (by simp [tm, tms, ib, am, ams, sms, kms, bm, dm, cells_mk, A.cells, S.cells, K.cells, B.cells, D.cells, T.zero, T.kind, T.val, T.kids, spineT, room, keysCs, Cell.keys, elT]) (by simp [tm, tms, ib, am, ams, sms, kms, bm, dm, cells_mk, A.cells, S.cells, K.cells, B.cells, D.cells, T.zero, T.kind, T.val, T.kids, spineT, room, keysCs, Cell.keys]) (by first | exact keys_tm _ | exact keys_am _ | exact keys_dm _ | rfl) ?_
            simp [tm, tms, ib, am, ams, sms, kms, bm, dm, cells_mk, A.cells, S.cells, K.cells, B.cells, D.cells, T.zero, T.kind, T.val, T.kids, spineT, room, keysCs, Cell.keys, elT, q8, o8]
            refine CallA.fn (fn66 1) (by simp [tm, tms, ib, am, ams, sms, kms, bm, dm, cells_mk, A.cells, S.cells, K.cells, B.cells, D.cells, T.zero, T.kind, T.val, T.kids, spineT, room, keysCs, Cell.keys]) (by simp [tm, tms, ib, am, ams, sms, kms, bm, dm, cells_mk, A.cells, S.cells, K.cells, B.cells, D.cells, T.zero, T.kind, T.val, T.kids, spineT, room, keysCs, Cell.keys]) (by first | exact keys_tm _ | exact keys_am _ | exact keys_dm _ | rfl) ?_
            simp [tm, tms, ib, am, ams, sms, kms, bm, dm, cells_mk, A.cells, S.cells, K.cells, B.cells, D.cells, T.zero, T.kind, T.val, T.kids, spineT, room, keysCs, Cell.keys]
            refine CallA.fn (fn66 0) (by simp [tm, tms, ib, am, ams, sms, kms, bm, dm, cells_mk, A.cells, S.cells, K.cells, B.cells, D.cells, T.zero, T.kind, T.val, T.kids, spineT, room, keysCs, Cell.keys]) (by simp [tm, tms, ib, am, ams, sms, kms, bm, dm, cells_mk, A.cells, S.cells, K.cells, B.cells, D.cells, T.zero, T.kind, T.val, T.kids, spineT, room, keysCs, Cell.keys]) (by first | exact keys_tm _ | exact keys_am _ | exact keys_dm _ | rfl) ?_
            simp [tm, tms, ib, am, ams, sms, kms, bm, dm, cells_mk, A.cells, S.cells, K.cells, B.cells, D.cells, T.zero, T.kind, T.val, T.kids, spineT, room, keysCs, Cell.keys]
            refine CallA.fn (fn84 (.mk 1 1 []) (.mk 1 0 [])) (by simp [tm, tms, ib, am, ams, sms, kms, bm, dm, cells_mk, A.cells, S.cells, K.cells, B.cells, D.cells, T.zero, T.kind, T.val, T.kids, spineT, room, keysCs, Cell.keys]) (by simp [tm, tms, ib, am, ams, sms, kms, bm, dm, cells_mk, A.cells, S.cells, K.cells, B.cells, D.cells, T.zero, T.kind, T.val, T.kids, spineT, room, keysCs, Cell.keys]) (by first | exact keys_tm _ | exact keys_am _ | exact keys_dm _ | rfl) ?_
            simp [tm, tms, ib, am, ams, sms, kms, bm, dm, cells_mk, A.cells, S.cells, K.cells, B.cells, D.cells, T.zero, T.kind, T.val, T.kids, spineT, room, keysCs, Cell.keys]
            refine CallA.fn (fn84 (elT a) (.mk 6 0 [.mk 1 1 [], .mk 1 0 []])) (by simp [tm, tms, ib, am, ams, sms, kms, bm, dm, cells_mk, A.cells, S.cells, K.cells, B.cells, D.cells, T.zero, T.kind, T.val, T.kids, spineT, room, keysCs, Cell.keys, elT]) (by simp [tm, tms, ib, am, ams, sms, kms, bm, dm, cells_mk, A.cells, S.cells, K.cells, B.cells, D.cells, T.zero, T.kind, T.val, T.kids, spineT, room, keysCs, Cell.keys]) (by first | exact keys_tm _ | exact keys_am _ | exact keys_dm _ | rfl) ?_
            simp [tm, tms, ib, am, ams, sms, kms, bm, dm, cells_mk, A.cells, S.cells, K.cells, B.cells, D.cells, T.zero, T.kind, T.val, T.kids, spineT, room, keysCs, Cell.keys, elT]
            refine CallA.fn (fn25 4 [.mk 6 0 [elT a, .mk 1 1 []], .mk 6 0 [elT a, .mk 6 0 [.mk 1 1 [], .mk 1 0 []]]]) (by simp [tm, tms, ib, am, ams, sms, kms, bm, dm, cells_mk, A.cells, S.cells, K.cells, B.cells, D.cells, T.zero, T.kind, T.val, T.kids, spineT, room, keysCs, Cell.keys, elT]) (by simp [tm, tms, ib, am, ams, sms, kms, bm, dm, cells_mk, A.cells, S.cells, K.cells, B.cells, D.cells, T.zero, T.kind, T.val, T.kids, spineT, room, keysCs, Cell.keys]) (by first | exact keys_tm _ | exact keys_am _ | exact keys_dm _ | rfl) ?_
            simp [tm, tms, ib, am, ams, sms, kms, bm, dm, cells_mk, A.cells, S.cells, K.cells, B.cells, D.cells, T.zero, T.kind, T.val, T.kids, spineT, room, keysCs, Cell.keys, elT, q9, o9]
            refine ⟨rfl, rfl, realC_n ?_⟩
            simp [tm, tms, ib, am, ams, sms, kms, bm, dm, cells_mk, A.cells, S.cells, K.cells, B.cells, D.cells, T.zero, T.kind, T.val, T.kids, spineT, room, keysCs, Cell.keys, q9]
            refine ECall.fn (fn85 ⟨[⟨[], 1, true, .mk 2 0 []⟩], [kL a], 0⟩) (by simp [tm, tms, ib, am, ams, sms, kms, bm, dm, cells_mk, A.cells, S.cells, K.cells, B.cells, D.cells, T.zero, T.kind, T.val, T.kids, spineT, room, keysCs, Cell.keys, kL, elT]) (by simp [tm, tms, ib, am, ams, sms, kms, bm, dm, cells_mk, A.cells, S.cells, K.cells, B.cells, D.cells, T.zero, T.kind, T.val, T.kids, spineT, room, keysCs, Cell.keys]) (by first | exact keys_tm _ | exact keys_am _ | exact keys_dm _ | rfl) fun _ => ?_
            simp [tm, tms, ib, am, ams, sms, kms, bm, dm, cells_mk, A.cells, S.cells, K.cells, B.cells, D.cells, T.zero, T.kind, T.val, T.kids, spineT, room, keysCs, Cell.keys, q4, o4, r33, tarD, kL, elT]
          · refine W_dregA ?_
            simp [tm, tms, ib, am, ams, sms, kms, bm, dm, cells_mk, A.cells, S.cells, K.cells, B.cells, D.cells, T.zero, T.kind, T.val, T.kids, spineT, room, keysCs, Cell.keys, q9, o9]
            refine CallA.fn (fn83 0 []) (by simp [tm, tms, ib, am, ams, sms, kms, bm, dm, cells_mk, A.cells, S.cells, K.cells, B.cells, D.cells, T.zero, T.kind, T.val, T.kids, spineT, room, keysCs, Cell.keys]) (by simp [tm, tms, ib, am, ams, sms, kms, bm, dm, cells_mk, A.cells, S.cells, K.cells, B.cells, D.cells, T.zero, T.kind, T.val, T.kids, spineT, room, keysCs, Cell.keys]) (by first | exact keys_tm _ | exact keys_am _ | exact keys_dm _ | rfl) ?_
            simp [tm, tms, ib, am, ams, sms, kms, bm, dm, cells_mk, A.cells, S.cells, K.cells, B.cells, D.cells, T.zero, T.kind, T.val, T.kids, spineT, room, keysCs, Cell.keys, q8, o8]
            refine CallA.fn (fn66 0) (by simp [tm, tms, ib, am, ams, sms, kms, bm, dm, cells_mk, A.cells, S.cells, K.cells, B.cells, D.cells, T.zero, T.kind, T.val, T.kids, spineT, room, keysCs, Cell.keys]) (by simp [tm, tms, ib, am, ams, sms, kms, bm, dm, cells_mk, A.cells, S.cells, K.cells, B.cells, D.cells, T.zero, T.kind, T.val, T.kids, spineT, room, keysCs, Cell.keys]) (by first | exact keys_tm _ | exact keys_am _ | exact keys_dm _ | rfl) ?_
            simp [tm, tms, ib, am, ams, sms, kms, bm, dm, cells_mk, A.cells, S.cells, K.cells, B.cells, D.cells, T.zero, T.kind, T.val, T.kids, spineT, room, keysCs, Cell.keys]
            refine CallA.fn (fn84 (elT a) (.mk 1 0 [])) (by simp [tm, tms, ib, am, ams, sms, kms, bm, dm, cells_mk, A.cells, S.cells, K.cells, B.cells, D.cells, T.zero, T.kind, T.val, T.kids, spineT, room, keysCs, Cell.keys, elT]) (by simp [tm, tms, ib, am, ams, sms, kms, bm, dm, cells_mk, A.cells, S.cells, K.cells, B.cells, D.cells, T.zero, T.kind, T.val, T.kids, spineT, room, keysCs, Cell.keys]) (by first | exact keys_tm _ | exact keys_am _ | exact keys_dm _ | rfl) ?_
            simp [tm, tms, ib, am, ams, sms, kms, bm, dm, cells_mk, A.cells, S.cells, K.cells, B.cells, D.cells, T.zero, T.kind, T.val, T.kids, spineT, room, keysCs, Cell.keys, elT, q8, o8]
            refine CallA.fn (fn66 1) (by simp [tm, tms, ib, am, ams, sms, kms, bm, dm, cells_mk, A.cells, S.cells, K.cells, B.cells, D.cells, T.zero, T.kind, T.val, T.kids, spineT, room, keysCs, Cell.keys]) (by simp [tm, tms, ib, am, ams, sms, kms, bm, dm, cells_mk, A.cells, S.cells, K.cells, B.cells, D.cells, T.zero, T.kind, T.val, T.kids, spineT, room, keysCs, Cell.keys]) (by first | exact keys_tm _ | exact keys_am _ | exact keys_dm _ | rfl) ?_
            simp [tm, tms, ib, am, ams, sms, kms, bm, dm, cells_mk, A.cells, S.cells, K.cells, B.cells, D.cells, T.zero, T.kind, T.val, T.kids, spineT, room, keysCs, Cell.keys]
            refine CallA.fn (fn84 (elT a) (.mk 1 1 [])) (by simp [tm, tms, ib, am, ams, sms, kms, bm, dm, cells_mk, A.cells, S.cells, K.cells, B.cells, D.cells, T.zero, T.kind, T.val, T.kids, spineT, room, keysCs, Cell.keys, elT]) (by simp [tm, tms, ib, am, ams, sms, kms, bm, dm, cells_mk, A.cells, S.cells, K.cells, B.cells, D.cells, T.zero, T.kind, T.val, T.kids, spineT, room, keysCs, Cell.keys]) (by first | exact keys_tm _ | exact keys_am _ | exact keys_dm _ | rfl) ?_
            simp [tm, tms, ib, am, ams, sms, kms, bm, dm, cells_mk, A.cells, S.cells, K.cells, B.cells, D.cells, T.zero, T.kind, T.val, T.kids, spineT, room, keysCs, Cell.keys, elT, q8, o8]
            refine CallA.fn (fn66 1) (by simp [tm, tms, ib, am, ams, sms, kms, bm, dm, cells_mk, A.cells, S.cells, K.cells, B.cells, D.cells, T.zero, T.kind, T.val, T.kids, spineT, room, keysCs, Cell.keys]) (by simp [tm, tms, ib, am, ams, sms, kms, bm, dm, cells_mk, A.cells, S.cells, K.cells, B.cells, D.cells, T.zero, T.kind, T.val, T.kids, spineT, room, keysCs, Cell.keys]) (by first | exact keys_tm _ | exact keys_am _ | exact keys_dm _ | rfl) ?_
            simp [tm, tms, ib, am, ams, sms, kms, bm, dm, cells_mk, A.cells, S.cells, K.cells, B.cells, D.cells, T.zero, T.kind, T.val, T.kids, spineT, room, keysCs, Cell.keys]
            refine CallA.fn (fn66 0) (by simp [tm, tms, ib, am, ams, sms, kms, bm, dm, cells_mk, A.cells, S.cells, K.cells, B.cells, D.cells, T.zero, T.kind, T.val, T.kids, spineT, room, keysCs, Cell.keys]) (by simp [tm, tms, ib, am, ams, sms, kms, bm, dm, cells_mk, A.cells, S.cells, K.cells, B.cells, D.cells, T.zero, T.kind, T.val, T.kids, spineT, room, keysCs, Cell.keys]) (by first | exact keys_tm _ | exact keys_am _ | exact keys_dm _ | rfl) ?_
            simp [tm, tms, ib, am, ams, sms, kms, bm, dm, cells_mk, A.cells, S.cells, K.cells, B.cells, D.cells, T.zero, T.kind, T.val, T.kids, spineT, room, keysCs, Cell.keys]
            refine CallA.fn (fn84 (.mk 1 1 []) (.mk 1 0 [])) (by simp [tm, tms, ib, am, ams, sms, kms, bm, dm, cells_mk, A.cells, S.cells, K.cells, B.cells, D.cells, T.zero, T.kind, T.val, T.kids, spineT, room, keysCs, Cell.keys]) (by simp [tm, tms, ib, am, ams, sms, kms, bm, dm, cells_mk, A.cells, S.cells, K.cells, B.cells, D.cells, T.zero, T.kind, T.val, T.kids, spineT, room, keysCs, Cell.keys]) (by first | exact keys_tm _ | exact keys_am _ | exact keys_dm _ | rfl) ?_
            simp [tm, tms, ib, am, ams, sms, kms, bm, dm, cells_mk, A.cells, S.cells, K.cells, B.cells, D.cells, T.zero, T.kind, T.val, T.kids, spineT, room, keysCs, Cell.keys]
            refine CallA.fn (fn84 (elT a) (.mk 6 0 [.mk 1 1 [], .mk 1 0 []])) (by simp [tm, tms, ib, am, ams, sms, kms, bm, dm, cells_mk, A.cells, S.cells, K.cells, B.cells, D.cells, T.zero, T.kind, T.val, T.kids, spineT, room, keysCs, Cell.keys, elT]) (by simp [tm, tms, ib, am, ams, sms, kms, bm, dm, cells_mk, A.cells, S.cells, K.cells, B.cells, D.cells, T.zero, T.kind, T.val, T.kids, spineT, room, keysCs, Cell.keys]) (by first | exact keys_tm _ | exact keys_am _ | exact keys_dm _ | rfl) ?_
            simp [tm, tms, ib, am, ams, sms, kms, bm, dm, cells_mk, A.cells, S.cells, K.cells, B.cells, D.cells, T.zero, T.kind, T.val, T.kids, spineT, room, keysCs, Cell.keys, elT]
            refine CallA.fn (fn25 4 [.mk 6 0 [elT a, .mk 1 1 []], .mk 6 0 [elT a, .mk 6 0 [.mk 1 1 [], .mk 1 0 []]]]) (by simp [tm, tms, ib, am, ams, sms, kms, bm, dm, cells_mk, A.cells, S.cells, K.cells, B.cells, D.cells, T.zero, T.kind, T.val, T.kids, spineT, room, keysCs, Cell.keys, elT]) (by simp [tm, tms, ib, am, ams, sms, kms, bm, dm, cells_mk, A.cells, S.cells, K.cells, B.cells, D.cells, T.zero, T.kind, T.val, T.kids, spineT, room, keysCs, Cell.keys]) (by first | exact keys_tm _ | exact keys_am _ | exact keys_dm _ | rfl) ?_
            have hroom : (l.length + 1) * 96 ≤ 140737488355328 := by omega
            simp [tm, tms, ib, am, ams, sms, kms, bm, dm, cells_mk, A.cells, S.cells, K.cells, B.cells, D.cells, T.zero, T.kind, T.val, T.kids, spineT, room, keysCs, Cell.keys, elT, q9, o9, o5, hroom]
            refine ⟨rfl, rfl, realC_n ?_⟩
            simp [tm, tms, ib, am, ams, sms, kms, bm, dm, cells_mk, A.cells, S.cells, K.cells, B.cells, D.cells, T.zero, T.kind, T.val, T.kids, spineT, room, keysCs, Cell.keys, q9]
            refine ECall.fn (fn85 ⟨[⟨[], 1, true, .mk 2 0 []⟩], l.map kC ++ [kL a], 0⟩) (by simp [tm, tms, ib, am, ams, sms, kms, bm, dm, cells_mk, A.cells, S.cells, K.cells, B.cells, D.cells, T.zero, T.kind, T.val, T.kids, spineT, room, keysCs, Cell.keys, kL, elT, hrow]) (by simp [tm, tms, ib, am, ams, sms, kms, bm, dm, cells_mk, A.cells, S.cells, K.cells, B.cells, D.cells, T.zero, T.kind, T.val, T.kids, spineT, room, keysCs, Cell.keys]) (by first | exact keys_tm _ | exact keys_am _ | exact keys_dm _ | rfl) fun _ => ?_
            simp [tm, tms, ib, am, ams, sms, kms, bm, dm, cells_mk, A.cells, S.cells, K.cells, B.cells, D.cells, T.zero, T.kind, T.val, T.kids, spineT, room, keysCs, Cell.keys, q4, o4, r33, tarD, kL, elT]
      · have hT : tarski a l = (D0, 1) := by
          have : (mayC a && l.all mayC) = false := by simpa using hc
          simp only [tarski, if_neg h7, hany, this]; rfl
        have : (mayC a && l.all mayC) = false := by simpa using hc
        rw [this] at q6
        simp [tm, tms, ib, am, ams, sms, kms, bm, dm, cells_mk, A.cells, S.cells, K.cells, B.cells, D.cells, T.zero, T.kind, T.val, T.kids, spineT, room, keysCs, Cell.keys, q6, q4, o4, r33, hT, D0]
end Go.Abs

namespace Go.Abs
open Go.Proofs

theorem fn48 : Fn Try.prog 48 [] (bb true) := by
  refine fn_of (base := 48000) ok48 rfl fun σ h0 hr => ?_
  clear h0 hr
  have e1 : numT (baseI 0) (numI 1) = .mk 6 0 [.mk 3 2 [], .mk 3 1 []] := rfl
  have c46 := fn46 0 1
  rw [e1] at c46
  have c32 := fn32 0 []
  have e2 : tarski 0 [] = (tarD 0 [], 0) := rfl
  rw [e2] at c32
  have c45 := fn45 (.mk 6 0 [.mk 3 2 [], .mk 3 1 []]) (.mk 6 0 [.mk 3 2 [], .mk 3 1 []])
  rw [eqb_self] at c45
  unfold c48
  simp [tm, tms, ib, am, ams, sms, kms, bm, dm, cells_mk, A.cells, S.cells, K.cells, B.cells, D.cells, T.zero, T.kind, T.val, T.kids, spineT, room, keysCs, Cell.keys]
  refine ECall.fn c46 (by simp [tm, tms, ib, am, ams, sms, kms, bm, dm, cells_mk, A.cells, S.cells, K.cells, B.cells, D.cells, T.zero, T.kind, T.val, T.kids, spineT, room, keysCs, Cell.keys]) (by simp [tm, tms, ib, am, ams, sms, kms, bm, dm, cells_mk, A.cells, S.cells, K.cells, B.cells, D.cells, T.zero, T.kind, T.val, T.kids, spineT, room, keysCs, Cell.keys]) (by first | exact keys_tm _ | exact keys_am _ | exact keys_dm _ | rfl) fun _ => ?_
  simp [tm, tms, ib, am, ams, sms, kms, bm, dm, cells_mk, A.cells, S.cells, K.cells, B.cells, D.cells, T.zero, T.kind, T.val, T.kids, spineT, room, keysCs, Cell.keys]
  refine ECall.fn c32 (by simp [tm, tms, ib, am, ams, sms, kms, bm, dm, cells_mk, A.cells, S.cells, K.cells, B.cells, D.cells, T.zero, T.kind, T.val, T.kids, spineT, room, keysCs, Cell.keys, is]) (by simp [tm, tms, ib, am, ams, sms, kms, bm, dm, cells_mk, A.cells, S.cells, K.cells, B.cells, D.cells, T.zero, T.kind, T.val, T.kids, spineT, room, keysCs, Cell.keys]) (by simp [tm, tms, ib, am, ams, sms, kms, bm, dm, cells_mk, A.cells, S.cells, K.cells, B.cells, D.cells, T.zero, T.kind, T.val, T.kids, spineT, room, keysCs, Cell.keys, AV.keys2, AV.keys1]) fun _ => ?_
  simp [tm, tms, ib, am, ams, sms, kms, bm, dm, cells_mk, A.cells, S.cells, K.cells, B.cells, D.cells, T.zero, T.kind, T.val, T.kids, spineT, room, keysCs, Cell.keys, tarD, kL, elT]
  refine W_dregA ?_
  simp [tm, tms, ib, am, ams, sms, kms, bm, dm, cells_mk, A.cells, S.cells, K.cells, B.cells, D.cells, T.zero, T.kind, T.val, T.kids, spineT, room, keysCs, Cell.keys]
  refine GCallA.fn (fun _ => fn82 2) (by simp [tm, tms, ib, am, ams, sms, kms, bm, dm, cells_mk, A.cells, S.cells, K.cells, B.cells, D.cells, T.zero, T.kind, T.val, T.kids, spineT, room, keysCs, Cell.keys]) (by simp [tm, tms, ib, am, ams, sms, kms, bm, dm, cells_mk, A.cells, S.cells, K.cells, B.cells, D.cells, T.zero, T.kind, T.val, T.kids, spineT, room, keysCs, Cell.keys]) (by first | exact keys_tm _ | exact keys_am _ | exact keys_dm _ | rfl) ?_
  simp [tm, tms, ib, am, ams, sms, kms, bm, dm, cells_mk, A.cells, S.cells, K.cells, B.cells, D.cells, T.zero, T.kind, T.val, T.kids, spineT, room, keysCs, Cell.keys]
  refine GCallA.fn (fun _ => fn82 1) (by simp [tm, tms, ib, am, ams, sms, kms, bm, dm, cells_mk, A.cells, S.cells, K.cells, B.cells, D.cells, T.zero, T.kind, T.val, T.kids, spineT, room, keysCs, Cell.keys]) (by simp [tm, tms, ib, am, ams, sms, kms, bm, dm, cells_mk, A.cells, S.cells, K.cells, B.cells, D.cells, T.zero, T.kind, T.val, T.kids, spineT, room, keysCs, Cell.keys]) (by first | exact keys_tm _ | exact keys_am _ | exact keys_dm _ | rfl) ?_
  simp [tm, tms, ib, am, ams, sms, kms, bm, dm, cells_mk, A.cells, S.cells, K.cells, B.cells, D.cells, T.zero, T.kind, T.val, T.kids, spineT, room, keysCs, Cell.keys]
  refine GCallA.fn (fun _ => fn25 6 [.mk 3 2 [], .mk 3 1 []]) (by simp [tm, tms, ib, am, ams, sms, kms, bm, dm, cells_mk, A.cells, S.cells, K.cells, B.cells, D.cells, T.zero, T.kind, T.val, T.kids, spineT, room, keysCs, Cell.keys]) (by simp [tm, tms, ib, am, ams, sms, kms, bm, dm, cells_mk, A.cells, S.cells, K.cells, B.cells, D.cells, T.zero, T.kind, T.val, T.kids, spineT, room, keysCs, Cell.keys]) (by first | exact keys_tm _ | exact keys_am _ | exact keys_dm _ | rfl) ?_
  simp [tm, tms, ib, am, ams, sms, kms, bm, dm, cells_mk, A.cells, S.cells, K.cells, B.cells, D.cells, T.zero, T.kind, T.val, T.kids, spineT, room, keysCs, Cell.keys]
  refine GCallA.fn (fun _ => c45) (by simp [tm, tms, ib, am, ams, sms, kms, bm, dm, cells_mk, A.cells, S.cells, K.cells, B.cells, D.cells, T.zero, T.kind, T.val, T.kids, spineT, room, keysCs, Cell.keys]) (by simp [tm, tms, ib, am, ams, sms, kms, bm, dm, cells_mk, A.cells, S.cells, K.cells, B.cells, D.cells, T.zero, T.kind, T.val, T.kids, spineT, room, keysCs, Cell.keys]) (by first | exact keys_tm _ | exact keys_am _ | exact keys_dm _ | rfl) ?_
  simp [tm, tms, ib, am, ams, sms, kms, bm, dm, cells_mk, A.cells, S.cells, K.cells, B.cells, D.cells, T.zero, T.kind, T.val, T.kids, spineT, room, keysCs, Cell.keys, bb]
  refine GCallA.fn (fun _ => fn35) (by simp [tm, tms, ib, am, ams, sms, kms, bm, dm, cells_mk, A.cells, S.cells, K.cells, B.cells, D.cells, T.zero, T.kind, T.val, T.kids, spineT, room, keysCs, Cell.keys]) (by simp [tm, tms, ib, am, ams, sms, kms, bm, dm, cells_mk, A.cells, S.cells, K.cells, B.cells, D.cells, T.zero, T.kind, T.val, T.kids, spineT, room, keysCs, Cell.keys]) (by first | exact keys_tm _ | exact keys_am _ | exact keys_dm _ | rfl) ?_
  simp [tm, tms, ib, am, ams, sms, kms, bm, dm, cells_mk, A.cells, S.cells, K.cells, B.cells, D.cells, T.zero, T.kind, T.val, T.kids, spineT, room, keysCs, Cell.keys, d35]
  refine realC_n ?_
  simp [tm, tms, ib, am, ams, sms, kms, bm, dm, cells_mk, A.cells, S.cells, K.cells, B.cells, D.cells, T.zero, T.kind, T.val, T.kids, spineT, room, keysCs, Cell.keys, r48]
theorem fn7 (a b n : Int) (l : List Int) : Fn Try.prog 7 [ib a, ib b, ib n, is l] (bb true) := by
  refine fn_of (base := 7000) ok7 rfl fun σ h0 hr => ?_
  have s0 : σ.sl 0 = ib a := h0 0
  have s1 : σ.sl 1 = ib b := h0 1
  have s2 : σ.sl 2 = ib n := h0 2
  have s3 : σ.sl 3 = is l := h0 3
  simp only [ib, is] at s0 s1 s2 s3
  clear h0 hr
  have c36 := fn36
  rw [show d36 = d35 from rfl] at c36
  have c38 := fn38 a
  rw [show d38 a = d37 a from rfl] at c38
  have c40 := fn40 a b
  rw [show d40 a b = d39 a b from rfl] at c40
  have c42 := fn42 a
  rw [show d42 a = d41 a from rfl] at c42
  have c44 := fn44 a
  rw [show d44 a = d43 a from rfl] at c44
  have same : ∀ d : D, Fn Try.prog 34 [dm d, dm d] (bb true) := fun d => by
    have := fn34 d d
    rwa [D.eqb_self] at this
  have same2 : ∀ t : T, Fn Try.prog 45 [tm t, tm t] (bb true) := fun t => by
    have := fn45 t t
    rwa [eqb_self] at this
  unfold c7
  by_cases h30 : (30 : Int) < l.length
  · simp [tm, tms, ib, am, ams, sms, kms, bm, dm, cells_mk, A.cells, S.cells, K.cells, B.cells, D.cells, T.zero, T.kind, T.val, T.kids, spineT, room, keysCs, Cell.keys, s0, s1, s2, s3, h30, r7, bb]
  · simp [tm, tms, ib, am, ams, sms, kms, bm, dm, cells_mk, A.cells, S.cells, K.cells, B.cells, D.cells, T.zero, T.kind, T.val, T.kids, spineT, room, keysCs, Cell.keys, s0, s1, s2, s3, h30]
    refine ECall.fn (fn32 a l) (by simp [tm, tms, ib, am, ams, sms, kms, bm, dm, cells_mk, A.cells, S.cells, K.cells, B.cells, D.cells, T.zero, T.kind, T.val, T.kids, spineT, room, keysCs, Cell.keys, is]) (by simp [tm, tms, ib, am, ams, sms, kms, bm, dm, cells_mk, A.cells, S.cells, K.cells, B.cells, D.cells, T.zero, T.kind, T.val, T.kids, spineT, room, keysCs, Cell.keys]) (by simp [tm, tms, ib, am, ams, sms, kms, bm, dm, cells_mk, A.cells, S.cells, K.cells, B.cells, D.cells, T.zero, T.kind, T.val, T.kids, spineT, room, keysCs, Cell.keys, AV.keys2, AV.keys1]) fun _ => ?_
    simp [tm, tms, ib, am, ams, sms, kms, bm, dm, cells_mk, A.cells, S.cells, K.cells, B.cells, D.cells, T.zero, T.kind, T.val, T.kids, spineT, room, keysCs, Cell.keys, s0, s3]
    refine ECall.fn (fn33 a l) (by simp [tm, tms, ib, am, ams, sms, kms, bm, dm, cells_mk, A.cells, S.cells, K.cells, B.cells, D.cells, T.zero, T.kind, T.val, T.kids, spineT, room, keysCs, Cell.keys, is]) (by simp [tm, tms, ib, am, ams, sms, kms, bm, dm, cells_mk, A.cells, S.cells, K.cells, B.cells, D.cells, T.zero, T.kind, T.val, T.kids, spineT, room, keysCs, Cell.keys]) (by simp [tm, tms, ib, am, ams, sms, kms, bm, dm, cells_mk, A.cells, S.cells, K.cells, B.cells, D.cells, T.zero, T.kind, T.val, T.kids, spineT, room, keysCs, Cell.keys, AV.keys2, AV.keys1]) fun _ => ?_
    simp [tm, tms, ib, am, ams, sms, kms, bm, dm, cells_mk, A.cells, S.cells, K.cells, B.cells, D.cells, T.zero, T.kind, T.val, T.kids, spineT, room, keysCs, Cell.keys]
    generalize tarski a l = r
    obtain ⟨d, e⟩ := r
    refine ECall.fn fn35 (by simp [tm, tms, ib, am, ams, sms, kms, bm, dm, cells_mk, A.cells, S.cells, K.cells, B.cells, D.cells, T.zero, T.kind, T.val, T.kids, spineT, room, keysCs, Cell.keys]) (by simp [tm, tms, ib, am, ams, sms, kms, bm, dm, cells_mk, A.cells, S.cells, K.cells, B.cells, D.cells, T.zero, T.kind, T.val, T.kids, spineT, room, keysCs, Cell.keys]) (by first | exact keys_tm _ | exact keys_am _ | exact keys_dm _ | rfl) fun _ => ?_
    simp [tm, tms, ib, am, ams, sms, kms, bm, dm, cells_mk, A.cells, S.cells, K.cells, B.cells, D.cells, T.zero, T.kind, T.val, T.kids, spineT, room, keysCs, Cell.keys]
    refine ECall.fn c36 (by simp [tm, tms, ib, am, ams, sms, kms, bm, dm, cells_mk, A.cells, S.cells, K.cells, B.cells, D.cells, T.zero, T.kind, T.val, T.kids, spineT, room, keysCs, Cell.keys]) (by simp [tm, tms, ib, am, ams, sms, kms, bm, dm, cells_mk, A.cells, S.cells, K.cells, B.cells, D.cells, T.zero, T.kind, T.val, T.kids, spineT, room, keysCs, Cell.keys]) (by first | exact keys_tm _ | exact keys_am _ | exact keys_dm _ | rfl) fun _ => ?_
    simp [tm, tms, ib, am, ams, sms, kms, bm, dm, cells_mk, A.cells, S.cells, K.cells, B.cells, D.cells, T.zero, T.kind, T.val, T.kids, spineT, room, keysCs, Cell.keys]
    refine ECall.fn (same d35) (by simp [tm, tms, ib, am, ams, sms, kms, bm, dm, cells_mk, A.cells, S.cells, K.cells, B.cells, D.cells, T.zero, T.kind, T.val, T.kids, spineT, room, keysCs, Cell.keys]) (by simp [tm, tms, ib, am, ams, sms, kms, bm, dm, cells_mk, A.cells, S.cells, K.cells, B.cells, D.cells, T.zero, T.kind, T.val, T.kids, spineT, room, keysCs, Cell.keys]) (by first | exact keys_tm _ | exact keys_am _ | exact keys_dm _ | rfl) fun _ => ?_
    simp [tm, tms, ib, am, ams, sms, kms, bm, dm, cells_mk, A.cells, S.cells, K.cells, B.cells, D.cells, T.zero, T.kind, T.val, T.kids, spineT, room, keysCs, Cell.keys, bb, s0, s1]
    refine GCall.fn (fun _ => fn37 a) (by simp [tm, tms, ib, am, ams, sms, kms, bm, dm, cells_mk, A.cells, S.cells, K.cells, B.cells, D.cells, T.zero, T.kind, T.val, T.kids, spineT, room, keysCs, Cell.keys]) (by simp [tm, tms, ib, am, ams, sms, kms, bm, dm, cells_mk, A.cells, S.cells, K.cells, B.cells, D.cells, T.zero, T.kind, T.val, T.kids, spineT, room, keysCs, Cell.keys]) (by first | exact keys_tm _ | exact keys_am _ | exact keys_dm _ | rfl) fun _ => ?_
    simp [tm, tms, ib, am, ams, sms, kms, bm, dm, cells_mk, A.cells, S.cells, K.cells, B.cells, D.cells, T.zero, T.kind, T.val, T.kids, spineT, room, keysCs, Cell.keys, bb, s0, s1, s2]
    refine GCall.fn (fun _ => c38) (by simp [tm, tms, ib, am, ams, sms, kms, bm, dm, cells_mk, A.cells, S.cells, K.cells, B.cells, D.cells, T.zero, T.kind, T.val, T.kids, spineT, room, keysCs, Cell.keys]) (by simp [tm, tms, ib, am, ams, sms, kms, bm, dm, cells_mk, A.cells, S.cells, K.cells, B.cells, D.cells, T.zero, T.kind, T.val, T.kids, spineT, room, keysCs, Cell.keys]) (by first | exact keys_tm _ | exact keys_am _ | exact keys_dm _ | rfl) fun _ => ?_
    simp [tm, tms, ib, am, ams, sms, kms, bm, dm, cells_mk, A.cells, S.cells, K.cells, B.cells, D.cells, T.zero, T.kind, T.val, T.kids, spineT, room, keysCs, Cell.keys, bb, s0, s1, s2]
    refine GCall.fn (fun _ => same (d37 a)) (by simp [tm, tms, ib, am, ams, sms, kms, bm, dm, cells_mk, A.cells, S.cells, K.cells, B.cells, D.cells, T.zero, T.kind, T.val, T.kids, spineT, room, keysCs, Cell.keys]) (by simp [tm, tms, ib, am, ams, sms, kms, bm, dm, cells_mk, A.cells, S.cells, K.cells, B.cells, D.cells, T.zero, T.kind, T.val, T.kids, spineT, room, keysCs, Cell.keys]) (by first | exact keys_tm _ | exact keys_am _ | exact keys_dm _ | rfl) fun _ => ?_
    simp [tm, tms, ib, am, ams, sms, kms, bm, dm, cells_mk, A.cells, S.cells, K.cells, B.cells, D.cells, T.zero, T.kind, T.val, T.kids, spineT, room, keysCs, Cell.keys, bb, s0, s1, s2]
    refine GCall.fn (fun _ => fn39 a b) (by simp [tm, tms, ib, am, ams, sms, kms, bm, dm, cells_mk, A.cells, S.cells, K.cells, B.cells, D.cells, T.zero, T.kind, T.val, T.kids, spineT, room, keysCs, Cell.keys]) (by simp [tm, tms, ib, am, ams, sms, kms, bm, dm, cells_mk, A.cells, S.cells, K.cells, B.cells, D.cells, T.zero, T.kind, T.val, T.kids, spineT, room, keysCs, Cell.keys]) (by first | exact keys_tm _ | exact keys_am _ | exact keys_dm _ | rfl) fun _ => ?_
    simp [tm, tms, ib, am, ams, sms, kms, bm, dm, cells_mk, A.cells, S.cells, K.cells, B.cells, D.cells, T.zero, T.kind, T.val, T.kids, spineT, room, keysCs, Cell.keys, bb, s0, s1, s2]
    refine GCall.fn (fun _ => c40) (by simp [tm, tms, ib, am, ams, sms, kms, bm, dm, cells_mk, A.cells, S.cells, K.cells, B.cells, D.cells, T.zero, T.kind, T.val, T.kids, spineT, room, keysCs, Cell.keys]) (by simp [tm, tms, ib, am, ams, sms, kms, bm, dm, cells_mk, A.cells, S.cells, K.cells, B.cells, D.cells, T.zero, T.kind, T.val, T.kids, spineT, room, keysCs, Cell.keys]) (by first | exact keys_tm _ | exact keys_am _ | exact keys_dm _ | rfl) fun _ => ?_
    simp [tm, tms, ib, am, ams, sms, kms, bm, dm, cells_mk, A.cells, S.cells, K.cells, B.cells, D.cells, T.zero, T.kind, T.val, T.kids, spineT, room, keysCs, Cell.keys, bb, s0, s1, s2]
    refine GCall.fn (fun _ => same (d39 a b)) (by simp [tm, tms, ib, am, ams, sms, kms, bm, dm, cells_mk, A.cells, S.cells, K.cells, B.cells, D.cells, T.zero, T.kind, T.val, T.kids, spineT, room, keysCs, Cell.keys]) (by simp [tm, tms, ib, am, ams, sms, kms, bm, dm, cells_mk, A.cells, S.cells, K.cells, B.cells, D.cells, T.zero, T.kind, T.val, T.kids, spineT, room, keysCs, Cell.keys]) (by first | exact keys_tm _ | exact keys_am _ | exact keys_dm _ | rfl) fun _ => ?_
    simp [tm, tms, ib, am, ams, sms, kms, bm, dm, cells_mk, A.cells, S.cells, K.cells, B.cells, D.cells, T.zero, T.kind, T.val, T.kids, spineT, room, keysCs, Cell.keys, bb, s0, s1, s2]
    refine GCall.fn (fun _ => same d) (by simp [tm, tms, ib, am, ams, sms, kms, bm, dm, cells_mk, A.cells, S.cells, K.cells, B.cells, D.cells, T.zero, T.kind, T.val, T.kids, spineT, room, keysCs, Cell.keys]) (by simp [tm, tms, ib, am, ams, sms, kms, bm, dm, cells_mk, A.cells, S.cells, K.cells, B.cells, D.cells, T.zero, T.kind, T.val, T.kids, spineT, room, keysCs, Cell.keys]) (by first | exact keys_tm _ | exact keys_am _ | exact keys_dm _ | rfl) fun _ => ?_
    simp [tm, tms, ib, am, ams, sms, kms, bm, dm, cells_mk, A.cells, S.cells, K.cells, B.cells, D.cells, T.zero, T.kind, T.val, T.kids, spineT, room, keysCs, Cell.keys, bb, s0, s1, s2]
    refine GCall.fn (fun _ => fn41 a) (by simp [tm, tms, ib, am, ams, sms, kms, bm, dm, cells_mk, A.cells, S.cells, K.cells, B.cells, D.cells, T.zero, T.kind, T.val, T.kids, spineT, room, keysCs, Cell.keys]) (by simp [tm, tms, ib, am, ams, sms, kms, bm, dm, cells_mk, A.cells, S.cells, K.cells, B.cells, D.cells, T.zero, T.kind, T.val, T.kids, spineT, room, keysCs, Cell.keys]) (by first | exact keys_tm _ | exact keys_am _ | exact keys_dm _ | rfl) fun _ => ?_
    simp [tm, tms, ib, am, ams, sms, kms, bm, dm, cells_mk, A.cells, S.cells, K.cells, B.cells, D.cells, T.zero, T.kind, T.val, T.kids, spineT, room, keysCs, Cell.keys, bb, s0, s1, s2]
    refine GCall.fn (fun _ => c42) (by simp [tm, tms, ib, am, ams, sms, kms, bm, dm, cells_mk, A.cells, S.cells, K.cells, B.cells, D.cells, T.zero, T.kind, T.val, T.kids, spineT, room, keysCs, Cell.keys]) (by simp [tm, tms, ib, am, ams, sms, kms, bm, dm, cells_mk, A.cells, S.cells, K.cells, B.cells, D.cells, T.zero, T.kind, T.val, T.kids, spineT, room, keysCs, Cell.keys]) (by first | exact keys_tm _ | exact keys_am _ | exact keys_dm _ | rfl) fun _ => ?_
    simp [tm, tms, ib, am, ams, sms, kms, bm, dm, cells_mk, A.cells, S.cells, K.cells, B.cells, D.cells, T.zero, T.kind, T.val, T.kids, spineT, room, keysCs, Cell.keys, bb, s0, s1, s2]
    refine GCall.fn (fun _ => same (d41 a)) (by simp [tm, tms, ib, am, ams, sms, kms, bm, dm, cells_mk, A.cells, S.cells, K.cells, B.cells, D.cells, T.zero, T.kind, T.val, T.kids, spineT, room, keysCs, Cell.keys]) (by simp [tm, tms, ib, am, ams, sms, kms, bm, dm, cells_mk, A.cells, S.cells, K.cells, B.cells, D.cells, T.zero, T.kind, T.val, T.kids, spineT, room, keysCs, Cell.keys]) (by first | exact keys_tm _ | exact keys_am _ | exact keys_dm _ | rfl) fun _ => ?_
    simp [tm, tms, ib, am, ams, sms, kms, bm, dm, cells_mk, A.cells, S.cells, K.cells, B.cells, D.cells, T.zero, T.kind, T.val, T.kids, spineT, room, keysCs, Cell.keys, bb, s0, s1, s2]
    refine GCall.fn (fun _ => fn43 a) (by simp [tm, tms, ib, am, ams, sms, kms, bm, dm, cells_mk, A.cells, S.cells, K.cells, B.cells, D.cells, T.zero, T.kind, T.val, T.kids, spineT, room, keysCs, Cell.keys]) (by simp [tm, tms, ib, am, ams, sms, kms, bm, dm, cells_mk, A.cells, S.cells, K.cells, B.cells, D.cells, T.zero, T.kind, T.val, T.kids, spineT, room, keysCs, Cell.keys]) (by first | exact keys_tm _ | exact keys_am _ | exact keys_dm _ | rfl) fun _ => ?_
    simp [tm, tms, ib, am, ams, sms, kms, bm, dm, cells_mk, A.cells, S.cells, K.cells, B.cells, D.cells, T.zero, T.kind, T.val, T.kids, spineT, room, keysCs, Cell.keys, bb, s0, s1, s2]
    refine GCall.fn (fun _ => c44) (by simp [tm, tms, ib, am, ams, sms, kms, bm, dm, cells_mk, A.cells, S.cells, K.cells, B.cells, D.cells, T.zero, T.kind, T.val, T.kids, spineT, room, keysCs, Cell.keys]) (by simp [tm, tms, ib, am, ams, sms, kms, bm, dm, cells_mk, A.cells, S.cells, K.cells, B.cells, D.cells, T.zero, T.kind, T.val, T.kids, spineT, room, keysCs, Cell.keys]) (by first | exact keys_tm _ | exact keys_am _ | exact keys_dm _ | rfl) fun _ => ?_
    simp [tm, tms, ib, am, ams, sms, kms, bm, dm, cells_mk, A.cells, S.cells, K.cells, B.cells, D.cells, T.zero, T.kind, T.val, T.kids, spineT, room, keysCs, Cell.keys, bb, s0, s1, s2]
    refine GCall.fn (fun _ => same (d43 a)) (by simp [tm, tms, ib, am, ams, sms, kms, bm, dm, cells_mk, A.cells, S.cells, K.cells, B.cells, D.cells, T.zero, T.kind, T.val, T.kids, spineT, room, keysCs, Cell.keys]) (by simp [tm, tms, ib, am, ams, sms, kms, bm, dm, cells_mk, A.cells, S.cells, K.cells, B.cells, D.cells, T.zero, T.kind, T.val, T.kids, spineT, room, keysCs, Cell.keys]) (by first | exact keys_tm _ | exact keys_am _ | exact keys_dm _ | rfl) fun _ => ?_
    simp [tm, tms, ib, am, ams, sms, kms, bm, dm, cells_mk, A.cells, S.cells, K.cells, B.cells, D.cells, T.zero, T.kind, T.val, T.kids, spineT, room, keysCs, Cell.keys, bb, s0, s1, s2]
    refine GCall.fn (fun _ => fn46 a n) (by simp [tm, tms, ib, am, ams, sms, kms, bm, dm, cells_mk, A.cells, S.cells, K.cells, B.cells, D.cells, T.zero, T.kind, T.val, T.kids, spineT, room, keysCs, Cell.keys]) (by simp [tm, tms, ib, am, ams, sms, kms, bm, dm, cells_mk, A.cells, S.cells, K.cells, B.cells, D.cells, T.zero, T.kind, T.val, T.kids, spineT, room, keysCs, Cell.keys]) (by first | exact keys_tm _ | exact keys_am _ | exact keys_dm _ | rfl) fun _ => ?_
    simp [tm, tms, ib, am, ams, sms, kms, bm, dm, cells_mk, A.cells, S.cells, K.cells, B.cells, D.cells, T.zero, T.kind, T.val, T.kids, spineT, room, keysCs, Cell.keys, bb, s0, s1, s2]
    refine GCall.fn (fun _ => fn47 a n) (by simp [tm, tms, ib, am, ams, sms, kms, bm, dm, cells_mk, A.cells, S.cells, K.cells, B.cells, D.cells, T.zero, T.kind, T.val, T.kids, spineT, room, keysCs, Cell.keys]) (by simp [tm, tms, ib, am, ams, sms, kms, bm, dm, cells_mk, A.cells, S.cells, K.cells, B.cells, D.cells, T.zero, T.kind, T.val, T.kids, spineT, room, keysCs, Cell.keys]) (by first | exact keys_tm _ | exact keys_am _ | exact keys_dm _ | rfl) fun _ => ?_
    simp [tm, tms, ib, am, ams, sms, kms, bm, dm, cells_mk, A.cells, S.cells, K.cells, B.cells, D.cells, T.zero, T.kind, T.val, T.kids, spineT, room, keysCs, Cell.keys, bb, s0, s1, s2]
    refine GCall.fn (fun _ => same2 (numT (baseI a) (numI n))) (by simp [tm, tms, ib, am, ams, sms, kms, bm, dm, cells_mk, A.cells, S.cells, K.cells, B.cells, D.cells, T.zero, T.kind, T.val, T.kids, spineT, room, keysCs, Cell.keys]) (by simp [tm, tms, ib, am, ams, sms, kms, bm, dm, cells_mk, A.cells, S.cells, K.cells, B.cells, D.cells, T.zero, T.kind, T.val, T.kids, spineT, room, keysCs, Cell.keys]) (by first | exact keys_tm _ | exact keys_am _ | exact keys_dm _ | rfl) fun _ => ?_
    simp [tm, tms, ib, am, ams, sms, kms, bm, dm, cells_mk, A.cells, S.cells, K.cells, B.cells, D.cells, T.zero, T.kind, T.val, T.kids, spineT, room, keysCs, Cell.keys, bb, s0, s1, s2]
    refine GCall.fn (fun _ => fn48) (by simp [tm, tms, ib, am, ams, sms, kms, bm, dm, cells_mk, A.cells, S.cells, K.cells, B.cells, D.cells, T.zero, T.kind, T.val, T.kids, spineT, room, keysCs, Cell.keys]) (by simp [tm, tms, ib, am, ams, sms, kms, bm, dm, cells_mk, A.cells, S.cells, K.cells, B.cells, D.cells, T.zero, T.kind, T.val, T.kids, spineT, room, keysCs, Cell.keys]) (by first | exact keys_tm _ | exact keys_am _ | exact keys_dm _ | rfl) fun _ => ?_
    simp [tm, tms, ib, am, ams, sms, kms, bm, dm, cells_mk, A.cells, S.cells, K.cells, B.cells, D.cells, T.zero, T.kind, T.val, T.kids, spineT, room, keysCs, Cell.keys, bb, s0, s1, s2]
    simp [tm, tms, ib, am, ams, sms, kms, bm, dm, cells_mk, A.cells, S.cells, K.cells, B.cells, D.cells, T.zero, T.kind, T.val, T.kids, spineT, room, keysCs, Cell.keys, r7]
end Go.Abs
