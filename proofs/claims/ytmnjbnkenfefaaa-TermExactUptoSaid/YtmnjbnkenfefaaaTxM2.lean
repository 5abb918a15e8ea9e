/- THIS TEXT TELLS SOME FUNCTIONS OF THE PROGRAM IN THE CALCULUS, PROVES BY THE KERNEL THAT WHAT IS TOLD IS THE LOADED CODE, AND PROVES WHAT THEY COMPUTE: for every argument that is told; the conditions stand in each theorem. -/
import Derived.KernelRfl
import Derived.Test.YtmnjbnkenfefaaaProg
import Derived.Test.YtmnjbnkenfefaaaTxM1
set_option linter.unusedVariables false
set_option linter.unusedSimpArgs false
namespace Go.Abs
open Go.Proofs

def fullT (n : Nat) : T := if h : n < 2 then .mk 2 0 [] else if n = 2 then .mk 9 0 [.mk 2 0 []] else .mk 6 0 [fullT ((n - 1) / 2), fullT (n - 1 - (n - 1) / 2)]
termination_by n
decreasing_by all_goals omega

theorem full_1 {n : Nat} (h : n < 2) : fullT n = .mk 2 0 [] := by rw [fullT]; simp [h]
theorem full_2 : fullT 2 = .mk 9 0 [.mk 2 0 []] := by rw [fullT]; simp
theorem full_3 {n : Nat} (h : 2 < n) : fullT n = .mk 6 0 [fullT ((n - 1) / 2), fullT (n - 1 - (n - 1) / 2)] := by
  rw [fullT]; rw [dif_neg (by omega), if_neg (by omega)]

theorem full_count (n : Nat) : 1 ≤ n → (fullT n).count = n := by
  induction n using Nat.strongRecOn with
  | ind n ih =>
  intro h1
  by_cases h : n < 2
  · rw [full_1 h]; simp [T.count, T.countL]; omega
  · by_cases h2 : n = 2
    · subst h2; rw [full_2]; simp [T.count, T.countL]
    · rw [full_3 (by omega)]
      simp only [T.count, T.countL]
      rw [ih _ (by omega) (by omega), ih _ (by omega) (by omega)]
      omega
theorem full_formed (n : Nat) : (fullT n).formed = true := by
  induction n using Nat.strongRecOn with
  | ind n ih =>
  by_cases h : n < 2
  · rw [full_1 h]; rfl
  · by_cases h2 : n = 2
    · subst h2; rw [full_2]; rfl
    · rw [full_3 (by omega)]
      simp only [T.formed, T.formedL]
      rw [ih _ (by omega), ih _ (by omega)]
      rfl
theorem best_max (a b : Int) : best2 true a b = max a b := by simp only [best2, if_true]; split <;> omega
theorem full_depth (m : Nat) : ∀ n : Nat, n < 2 ^ (m + 1) → m ≤ 1000 → 1 ≤ (fullT n).depth ∧ (fullT n).depth ≤ m + 1 := by
  induction m with
  | zero => intro n h _; rw [full_1 (by omega)]; decide
  | succ m ih =>
    intro n h hm
    by_cases h1 : n < 2
    · have e : (T.mk 2 0 []).depth = 1 := by rfl
      rw [full_1 h1, e]; omega
    · by_cases h2 : n = 2
      · subst h2
        have e : (T.mk 9 0 [.mk 2 0 []]).depth = 2 := by rfl
        rw [full_2, e]; omega
      · rw [full_3 (by omega)]
        have h3 : 2 ^ (m + 1 + 1) = 2 * 2 ^ (m + 1) := by rw [Nat.pow_succ]; omega
        have a := ih ((n - 1) / 2) (by omega) (by omega)
        have b := ih (n - 1 - (n - 1) / 2) (by omega) (by omega)
        simp only [T.depth, T.depthL, best_max]
        rw [wrap_id (by omega) (by omega)]
        omega

theorem fn26 (n : Nat) : n ≤ 1000000 → Fn Try.prog 26 [ib n] (tm (fullT n)) := by
  induction n using Nat.strongRecOn with
  | ind n ih =>
  intro hn
  refine fn_of (base := 26000) ok26 rfl fun σ h0 hr => ?_
  have s0 := h0 0
  rw [slots0] at s0
  simp only [ib] at s0
  clear h0 hr
  unfold c26
  by_cases h : n < 2
  · have h' : (n : Int) < 2 := by omega
    simp [s0, h']
    refine ECall.fn (fn24 0) (by simp [ib]) (by simp) (by simp [tm]) fun _ => ?_
    simp [tm, r26, full_1 h]
  · have h' : ¬ (n : Int) < 2 := by omega
    by_cases h2 : n = 2
    · subst h2
      simp [s0]
      refine ECall.fn (fn24 0) (by simp [ib]) (by simp) (by simp [tm]) fun _ => ?_
      simp [tm, room]
      refine ⟨fun x hx => cells_isD' _ x hx, ?_⟩
      refine ECall.fn (fn25 9 [.mk 2 0 []]) (by simp [ib, tms]) (by simp) (by simp [tm]) fun _ => ?_
      simp [tm, r26, full_2]
    · have h2' : ¬ (n : Int) = 2 := by omega
      have c1 := ih ((n - 1) / 2) (by omega) (by omega)
      have c2 := ih (n - 1 - (n - 1) / 2) (by omega) (by omega)
      have w1 : IntKind.wrap .i64 ((n : Int) - 1) = ((n - 1 : Nat) : Int) := by rw [wrap_id (by omega) (by omega)]; omega
      have w2 : IntKind.wrap .i64 (((n - 1 : Nat) : Int) / 2) = (((n - 1) / 2 : Nat) : Int) := by
        rw [wrap_id (by omega) (by omega)]; omega
      have w3 : IntKind.wrap .i64 (((n - 1 : Nat) : Int) - ((n - 1 : Nat) : Int) / 2) = ((n - 1 - (n - 1) / 2 : Nat) : Int) := by rw [wrap_id (by omega) (by omega)]; omega
      simp [s0, h', h2', w1, w2]
      refine ECall.fn c1 (by simp [ib]) (by simp) (by simp [tm]) fun _ => ?_
      simp [s0, w1, w3]
      refine ECall.fn c2 (by simp [ib]) (by simp) (by simp [tm]) fun _ => ?_
      simp [tm, room]
      refine ⟨⟨fun x hx => cells_isD' _ x hx, fun x hx => cells_isD' _ x hx⟩, ?_⟩
      refine ECall.fn (fn25 6 [fullT ((n - 1) / 2), fullT (n - 1 - (n - 1) / 2)]) (by simp [ib, tms]) (by simp) (by simp [tm]) fun _ => ?_
      simp [tm, r26, full_3 (show 2 < n by omega)]

def chainT : Nat → T
  | 0 => .mk 2 0 []
  | i + 1 => .mk 9 0 [chainT i]
theorem chain_facts (i : Nat) : (chainT i).count = i + 1 ∧ (chainT i).formed = true ∧ (i ≤ 1000000 → (chainT i).depth = i + 1) := by
  induction i with
  | zero => exact ⟨rfl, rfl, fun _ => rfl⟩
  | succ i ih =>
    refine ⟨?_, ?_, fun h => ?_⟩
    · simp [chainT, T.count, T.countL, ih.1]
    · simp [chainT, T.formed, T.formedL, ih.2.1, badHead, kidsOf]
    · simp only [chainT, T.depth, T.depthL, best_max, ih.2.2 (by omega)]
      rw [wrap_id (by omega) (by omega)]; omega

theorem fn4 (v : Int) (deep : Bool) : Fn Try.prog 4 [ib v, bb deep] (bb true) := by
  refine fn_of (base := 4000) ok4 rfl fun σ h0 hr => ?_
  have s0 := h0 0
  have s1 := h0 1
  rw [slots0] at s0
  rw [slots1] at s1
  simp only [ib, bb] at s0 s1
  clear h0 hr
  obtain ⟨v1, v2, v3⟩ := umod v (m := 3) (by omega) (by omega)
  unfold c4
  simp [s0, v3]
  obtain ⟨o, ho⟩ : ∃ o : Nat, (uw v).tmod 3 = o := ⟨((uw v).tmod 3).toNat, by omega⟩
  rw [ho] at v1 v2 v3 ⊢
  refine ECall.fn (fn24 0) (by simp [ib]) (by simp) (by simp [tm]) fun _ => ?_
  simp [tm, s1]
  have wo (k : Nat) (hk : k ≤ 1000000) : IntKind.wrap .i64 ((k : Int) + (o : Int)) = ((k + o : Nat) : Int) := by rw [wrap_id (by omega) (by omega)]; omega
  have w198 := wo 198 (by omega)
  have w199 := wo 199 (by omega)
  have w5999 := wo 5999 (by omega)
  simp at w198 w199 w5999
  have ho3 : o < 3 := by omega
  cases deep with
  | true =>
    simp
    refine W_loop (fun m σ => ∃ i : Nat, i + m = 198 + o ∧ σ.sl 0 = .c (.v (.int .i64 o)) ∧ σ.sl 5 = .c (.ref 4005 (σ.tg 4005) 0) ∧ σ.ob 4005 = some (.box 24 (chainT i).cells) ∧ σ.sl 6 = .c (.v (.int .i64 0)) ∧ σ.sl 7 = .c (.v (.int .i64 i))) (198 + o) ?_ ?_
    · exact ⟨0, by simp [chainT]⟩
    · rintro m σ ⟨i, hm, q0, q5, o5, q6, q7⟩
      unfold c4b0
      by_cases hi : i < 198 + o
      · have hi' : (i : Int) < 198 + (o : Int) := by omega
        have w1 := wrap_succ (i := i) (by omega)
        simp [q0, q5, o5, q6, q7, w198, hi', room]
        refine ⟨fun x hx => cells_isD' _ x hx, ?_⟩
        refine ECall.fn (fn25 9 [chainT i]) (by simp [ib, tms]) (by simp) (by simp [tm]) fun _ => ?_
        simp [tm, q5, o5, q7]
        refine ⟨m - 1, by omega, i + 1, by omega, ?_⟩
        simp [q0, q5, q6, w1, chainT]
      · have hi' : ¬ (i : Int) < 198 + (o : Int) := by omega
        have hio : i = 198 + o := by omega
        obtain ⟨h1, h2, h3⟩ := chain_facts i
        have h3 := h3 (by omega)
        have hs := size_count (chainT i) (by omega)
        have hck : (chainT i).check = if 1 < o then 5 else 0 := by
          by_cases h : 1 < o
          · rw [if_pos h, T.check, if_neg (by omega), if_pos (by omega)]
          · rw [if_neg h, check_iff]; exact ⟨by omega, by omega, h2⟩
        have hd : (chainT i).depth = 199 + (o : Int) := by omega
        have c22 := fn22 (chainT i)
        rw [hck] at c22
        have c21 := fn21 (chainT i)
        rw [hd] at c21
        simp [q0, q5, o5, q6, q7, w198, hi']
        refine ⟨fun h => ?_, fun h => ?_⟩
        · rw [if_pos (by omega)] at c22
          refine ECall.fn c21 (by simp [tm]) (by simp) rfl fun _ => ?_
          simp [ib, w199, q0, q5, o5]
          refine GCall.fn (fun _ => c22) (by simp [tm]) (by simp) rfl fun _ => ?_
          simp [ib]
          refine GCall.fn (fun _ => fn23) (by simp) (by simp) rfl fun _ => ?_
          simp [bb, r4]
        · rw [if_neg (by omega)] at c22
          refine ECall.fn c21 (by simp [tm]) (by simp) rfl fun _ => ?_
          simp [ib, w199, q0, q5, o5, q6]
          refine GCall.fn (fun _ => c22) (by simp [tm]) (by simp) rfl fun _ => ?_
          simp [ib, q6]
          refine GCall.fn (fun _ => fn23) (by simp) (by simp) rfl fun _ => ?_
          simp [bb, r4]
  | false =>
    have e1 : ((5999 + o : Nat) : Int) = 5999 + (o : Int) := by omega
    have c26 := fn26 (5999 + o) (by omega)
    rw [e1] at c26
    generalize hT : fullT (5999 + o) = F at c26
    have h1 : F.count = 5999 + o := by rw [← hT]; exact full_count _ (by omega)
    have h2 : F.formed = true := by rw [← hT]; exact full_formed _
    have h3 : F.depth ≤ 200 := by
      have := (full_depth 12 (5999 + o) (by omega) (by omega)).2
      rw [← hT]; omega
    have hs : F.size = 5999 + (o : Int) := by rw [size_count F (by omega)]; omega
    have hck : F.check = if 1 < o then 4 else 0 := by
      by_cases h : 1 < o
      · rw [if_pos h, T.check, if_pos (by omega)]
      · rw [if_neg h, check_iff]; exact ⟨by omega, by omega, h2⟩
    have c22 := fn22 F
    rw [hck] at c22
    have c20 := fn20 F
    rw [hs] at c20
    simp [w5999]
    refine ECall.fn c26 (by simp [ib]) (by simp) (by simp [tm]) fun _ => ?_
    simp [tm]
    refine ⟨fun h => ?_, fun h => ?_⟩
    · rw [if_pos (by omega)] at c22
      refine ECall.fn c20 (by simp [tm]) (by simp) rfl fun _ => ?_
      simp [ib, w5999]
      refine GCall.fn (fun _ => c22) (by simp [tm]) (by simp) rfl fun _ => ?_
      simp [ib]
      refine GCall.fn (fun _ => fn23) (by simp) (by simp) rfl fun _ => ?_
      simp [bb, r4]
    · rw [if_neg (by omega)] at c22
      refine ECall.fn c20 (by simp [tm]) (by simp) rfl fun _ => ?_
      simp [ib, w5999]
      refine GCall.fn (fun _ => c22) (by simp [tm]) (by simp) rfl fun _ => ?_
      simp [ib]
      refine GCall.fn (fun _ => fn23) (by simp) (by simp) rfl fun _ => ?_
      simp [bb, r4]
end Go.Abs

namespace Go.Abs
open Go.Proofs

theorem sp64 (ts : List T) : SpecNew Try.prog 64 [tms ts] (.c (.own 0 0)) (.row 24 3 40 (ts.map T.cells)) := by
  refine new_of (base := 64000) 64018 ok64 rfl rfl rfl fun σ h0 hr => ?_
  have s0 := h0 0
  rw [slots0] at s0
  have hlen := real_tms (hr (tms ts) (by simp))
  simp only [tms] at s0
  clear h0 hr
  unfold c64
  simp [s0]
  refine W_loop (fun m σ => ∃ (i : Nat), i + m = ts.length ∧ ((i = 0 ∧ σ.sl 3 = .c (.cap 3 40 [])) ∨ (0 < i ∧ σ.sl 3 = .c (.own 64018 (σ.tg 64018)) ∧ σ.ob 64018 = some (.row 24 3 40 ((ts.take i).map T.cells)))) ∧ σ.sl 0 = tms ts ∧ σ.sl 4 = ib i) ts.length ?_ ?_
  · exact ⟨0, by simp [ib, tms, s0]⟩
  · rintro m σ ⟨i, hm, hp, q0, q4⟩
    unfold c64b0
    simp only [tms, ib] at q0 q4
    by_cases hi : i < ts.length
    · obtain ⟨t, ht⟩ := at_of hi
      obtain ⟨_, ht'⟩ := getE ht
      have w1 := wrap_succ (i := i) (by omega)
      have htake : (ts.map T.cells).take i ++ [t.cells] = (ts.map T.cells).take (i + 1) := by
        rw [List.take_add_one, List.getElem?_map, ht]; simp
      have hroom : (i + 1) * 40 ≤ room := by simp only [room]; omega
      have hmin : min i ts.length = i := by omega
      rcases hp with ⟨h1, q3⟩ | ⟨h1, q3, qo⟩
      · subst h1
        simp [q3, q0, q4, hi, ht']
        refine ECall.fn (fn19 t) (by simp [tm]) (by simp [tm]) (by simp [tm, AV.keys2, AV.keys1]) fun _ => ?_
        simp [tm, q3, q4, room, AV.keys1, keysCs]
        refine ⟨fun x hx => cells_isD' t x hx, m - 1, by omega, 1, by omega, ⟨by omega, by simpa using htake⟩, ?_⟩
        simp at w1
        simp [q0, w1, ib, tms]
      · simp [q3, q0, q4, hi, ht']
        refine ECall.fn (fn19 t) (by simp [tm]) (by simp [tm]) (by simp [tm, AV.keys2, AV.keys1]) fun _ => ?_
        simp [tm, q3, q4, qo, hmin, hroom]
        refine ⟨⟨fun x hx => cells_isD' t x hx, by simp [room]⟩, m - 1, by omega, i + 1, by omega, ⟨by omega, htake⟩, ?_⟩
        simp [q0, w1, ib, tms]
    · rcases hp with ⟨h1, q3⟩ | ⟨h1, q3, qo⟩
      · have : ts = [] := List.length_eq_zero_iff.1 (by omega)
        simp [q0, q3, q4, hi, r64]
        refine ⟨_, .step 2 64018 24 3 40 [] (by simp) (.refl _), ?_, ?_, ?_⟩
        · simp
        · simp [resN, resLN, rrEvN]
        · simp [this]
      · have : ts.take i = ts := List.take_of_length_le (by omega)
        simp [q0, q3, q4, hi, r64]
        refine ⟨_, .refl _, ?_, ?_, ?_⟩
        · simp
        · simp [resN, resLN, rrEvN]
        · simp [qo, this]

theorem sp19 (t : T) : SpecNew Try.prog 19 [tm t] (.agg [.v (.int .i64 t.kind), .v (.int .i64 t.val), .own 0 0]) (.row 24 3 40 (t.kids.map T.cells)) := by
  obtain ⟨k, n, ts⟩ := t
  refine new_of (base := 19000) 19009 ok19 rfl rfl rfl fun σ h0 hr => ?_
  have s0 := h0 0
  rw [slots0] at s0
  simp only [tm, cells_mk] at s0
  clear h0 hr
  unfold c19
  simp [s0]
  refine W_dregD [[], [], [], [], [], [], [19009], [], [19002]] [[19009], [19009], [19009], [19009], [], [], [], [], []] (by decide) ?_
  simp
  refine CallD.new 19009 (sp64 ts) rfl rfl (by simp [tms]) (by simp) (by simp) (by simp) ?_
  simp
  refine realC_n ?_
  simp
  refine ⟨_, .refl _, ?_, ?_, ?_⟩
  · simp [r19]
  · simp [resN, resLN, rrEvN, r19]
  · simp

theorem depthL_max : ∀ (ts : List T) (a : Int), 0 ≤ a → T.depthL a ts = ts.foldl (fun m t => max m t.depth) a
  | [], a, _ => rfl
  | t :: ts, a, h => by rw [T.depthL, best_max, depthL_max ts _ (by omega)]; rfl
theorem fold_le : ∀ (ts : List T) (a b : Int), a ≤ b → (∀ t, t ∈ ts → t.depth ≤ b) → ts.foldl (fun m t => max m t.depth) a ≤ b
  | [], a, b, h, _ => h
  | t :: ts, a, b, h, hd => by
    have h2 := hd t (by simp)
    have h3 : max a t.depth ≤ b := by omega
    exact fold_le ts _ b h3 fun u hu => hd u (by simp [hu])
theorem fold_ge : ∀ (ts : List T) (a : Int), a ≤ ts.foldl (fun m t => max m t.depth) a
  | [], a => Int.le_refl _
  | t :: ts, a => by have := fold_ge ts (max a t.depth); simp only [List.foldl_cons]; omega
theorem depth_bound {k n : Int} {ts : List T} {b : Int} (h0 : 0 ≤ b) (h1 : b ≤ 1000000) (h : ∀ t, t ∈ ts → t.depth ≤ b) : (T.mk k n ts).depth ≤ b + 1 := by
  have h2 := fold_le ts 0 b h0 h
  have h3 := fold_ge ts 0
  rw [T.depth, depthL_max ts 0 (by omega), wrap_id (by omega) (by omega)]
  omega
theorem countL_app5 (ts us : List T) : T.countL (ts ++ us) = T.countL ts + T.countL us := by
  induction ts with
  | nil => simp [T.countL]
  | cons t ts ih => simp only [List.cons_append, T.countL, ih]; omega
theorem countL_take5 (ts : List T) (i : Nat) : T.countL (ts.take i) ≤ T.countL ts := by
  have h := countL_app5 (ts.take i) (ts.drop i)
  rw [List.take_append_drop] at h
  omega

theorem bent_check {k n k' n' : Int} {ts us : List T} (hc : (T.mk k n ts).count ≤ 1048576) (h : (T.mk k n ts).check = 0) (hs : (T.mk k n ts).size < 6000) (hd : (T.mk k n ts).depth < 200)
    (h1 : T.countL us ≤ T.countL ts + 1) (h2 : ∀ t, t ∈ us → t ∈ ts ∨ t = .mk 2 0 []) (hb : badHead k' n' us.length = true) : (T.mk k' n' us).check = 1 := by
  have hsz := size_count (T.mk k n ts) (by omega)
  simp only [T.count] at hsz hc
  have hsz2 := size_count (T.mk k' n' us) (by simp only [T.count]; omega)
  simp only [T.count] at hsz2
  have hdp : (T.mk k' n' us).depth ≤ 199 + 1 := by
    refine depth_bound (by omega) (by omega) fun t ht => ?_
    rcases h2 t ht with h | h
    · have := depth_kid (k := k) (n := n) h (by simp only [T.count]; omega)
      omega
    · have e : (T.mk 2 0 []).depth = 1 := rfl
      rw [h, e]; omega
  have hf : (T.mk k' n' us).formed = false := by simp [T.formed, hb]
  rw [T.check, if_neg (by omega), if_neg (by omega), hf]
  rfl
theorem kids_le (k : Int) : kidsOf k ≤ 3 := by
  simp only [kidsOf]; repeat' split
  all_goals omega
theorem scope_bad {t : T} (h : t.check = 1) (a b : Int) : t.scope a b = false := by simp [T.scope, h]

theorem fn5 (t : T) (what : Int) (hc : t.count ≤ 1048576) : Fn Try.prog 5 [tm t, ib what] (bb true) := by
  obtain ⟨k, n, ts⟩ := t
  refine fn_of (base := 5000) ok5 rfl fun σ h0 hr => ?_
  have s0 := h0 0
  have s1 : σ.sl 1 = ib what := h0 1
  rw [slots0] at s0
  simp only [tm, ib, cells_mk] at s0 s1
  have hlen := real_kids (hr (tm (.mk k n ts)) (by simp))
  rw [kids_mk] at hlen
  clear h0 hr
  have hw := uw_pos what
  unfold c5
  simp [s0, room]
  refine ECall.fn (fn17 [.mk k n ts]) (by simp [tms, cells_mk]) (by simp) rfl fun _ => ?_
  simp [bb]
  refine GCall.fn (fun _ => fn27 (.mk k n ts)) (by simp [tm, cells_mk]) (by simp) rfl fun _ => ?_
  simp [ib]
  refine GCall.fn (fun _ => fn28 (.mk k n ts)) (by simp [tm, cells_mk]) (by simp) rfl fun _ => ?_
  simp [ib]
  refine GCall.fn (fun _ => fn29 (.mk k n ts)) (by simp [tm, cells_mk]) (by simp) rfl fun _ => ?_
  simp [ib, r5, s1]
  intro hh hck hsz hdp
  refine ECall.new 5025 (sp19 (.mk k n ts)) rfl rfl (by simp [tm, cells_mk]) (by simp) fun hz => ?_
  clear hz
  simp [s1, -W_block]
  refine W_cut (fun σ => ∃ (k' n' : Int) (us : List T) (c3 : Cell), σ.sl 2 = .c (.ref 5002 (σ.tg 5002) 0) ∧ σ.ob 5002 = some (.box 24 [.v (.int .i64 k), .v (.int .i64 n), .sl 3 40 (ts.map T.cells)]) ∧ σ.sl 5 = .c (.ref 5005 (σ.tg 5005) 0) ∧
    σ.ob 5005 = some (.box 24 [.v (.int .i64 k'), .v (.int .i64 n'), c3]) ∧ (∀ τ : St, τ.ob = σ.ob → τ.tg = σ.tg → toD τ c3 = .sl 3 40 (us.map T.cells)) ∧ (T.mk k' n' us).check = 1) ?_ fun σ' hA => ?_
  · have hb := ((check_iff _).1 hck).2.2
    rw [T.formed, Bool.and_eq_true] at hb
    have hbh : ¬ badHead k n ts.length = true := by simpa using hb.1
    rw [bad_iff] at hbh
    have hkk : (ts.length : Int) = kidsOf k := by omega
    have hm4 : (uw what).tmod 4 = 0 ∨ (uw what).tmod 4 = 1 ∨ (uw what).tmod 4 = 2 ∨ (uw what).tmod 4 = 3 := by
      have := Int.tmod_nonneg 4 hw
      have := Int.tmod_lt_of_pos (uw what) (b := 4) (by omega)
      omega
    have same : ∀ t, t ∈ ts → t ∈ ts ∨ t = .mk 2 0 [] := fun t h => .inl h
    rcases hm4 with hm | hm | hm | hm
    · simp [hm]
      refine ⟨14, n, ts, _, ⟨rfl, rfl, rfl⟩, ?_, bent_check hc hck hsz hdp (by omega) same ?_⟩
      · intro τ h1 h2; simp [toD, h1, h2]
      · rw [bad_iff]; simp [kidsOf]
    · by_cases hne : ts = []
      · subst hne
        simp [hm]
        refine ⟨k, 65536, [], _, ⟨rfl, rfl, rfl⟩, ?_, bent_check hc hck hsz hdp (by omega) same ?_⟩
        · intro τ h1 h2; simp [toD, h1, h2]
        · rw [bad_iff]; simp
      · have hpos : 0 < ts.length := List.length_pos_iff.2 hne
        simp [hm, hpos]
        refine ⟨k, 1, ts, _, ⟨rfl, rfl, rfl⟩, ?_, bent_check hc hck hsz hdp (by omega) same ?_⟩
        · intro τ h1 h2; simp [toD, h1, h2]
        · rw [bad_iff]; omega
    · simp [hm]
      refine W_dregD [[], [], [], [], [5059, 5025], [], [5005]] [[], [], [5059, 5025], [], [], [], []] (by decide) ?_
      simp
      refine CallD.fn (fn24 0) (by simp [ib]) (by simp) (by simp [tm]) (by simp) ?_
      have hroom : (ts.length + 1) * 40 ≤ room := by simp only [room]; have := kids_le k; omega
      simp [tm, hroom, room]
      refine ⟨fun x hx => cells_isD' _ x hx, by simp only [room] at hroom; omega, realC_n ?_⟩
      simp
      refine ⟨k, n, ts ++ [.mk 2 0 []], _, ⟨rfl, rfl, rfl⟩, ?_, bent_check hc hck hsz hdp (by rw [countL_app5]; simp [T.countL, T.count]) (fun t ht => by simpa using ht) ?_⟩
      · intro τ h1 h2; simp [toD, h1, h2]
      · rw [bad_iff, List.length_append, List.length_singleton]; omega
    · by_cases hne : ts = []
      · subst hne
        simp [hm]
        refine ⟨k, -1, [], _, ⟨rfl, rfl, rfl⟩, ?_, bent_check hc hck hsz hdp (by omega) same ?_⟩
        · intro τ h1 h2; simp [toD, h1, h2]
        · rw [bad_iff]; simp
      · have hpos : 0 < ts.length := List.length_pos_iff.2 hne
        have w1 : IntKind.wrap .i64 ((ts.length : Int) - 1) = ((ts.length - 1 : Nat) : Int) := by rw [wrap_id (by omega) (by omega)]; omega
        have hk3 : ¬ k = 1 := fun h => hne (head_leaf hb.1 (.inl h))
        simp [hm, hne, w1]
        refine ⟨by simp only [room]; omega, k, n, ts.take (ts.length - 1), _, ⟨rfl, rfl, rfl⟩, ?_, bent_check hc hck hsz hdp (by have := countL_take5 ts (ts.length - 1); omega) (fun t ht => .inl (List.mem_of_mem_take ht)) ?_⟩
        · intro τ h1 h2; simp [toD, List.map_take]
        · rw [bad_iff, List.length_take]; omega
  · obtain ⟨k', n', us, c3, q2, o2, q5, o5, hc3, hx⟩ := hA
    simp [q2, q5, o2, o5]
    have c22 := fn22 (.mk k n ts)
    rw [hck] at c22
    have c22' := fn22 (.mk k' n' us)
    rw [hx] at c22'
    have c30 := fn30 (.mk k' n' us) 100 100
    rw [scope_bad hx] at c30
    refine ECall.fn c22 (by simp [tm, cells_mk]) (by simp) rfl fun _ => ?_
    simp [ib, q5, o5]
    refine GCall.fn (fun _ => c22') (by simp [tm, cells_mk]; exact hc3 _ rfl rfl) (by simp) rfl fun _ => ?_
    simp [ib, q5, o5]
    refine GCall.fn (fun _ => c30) (by simp [tm, cells_mk, ib]; exact hc3 _ rfl rfl) (by simp) rfl fun _ => ?_
    simp [bb]
    refine GCall.fn (fun _ => fn23) (by simp) (by simp) rfl fun _ => ?_
    simp [bb]
end Go.Abs

namespace Go.Abs

/- porism/porismlaw02.TermExact -/
def c13 : SCode :=
  .seq (.reg
       [⟨some 4, none, .box 24 (.t 0)⟩,
        ⟨some 5, none, .box 24 (.t 1)⟩,
        ⟨some 8, none, .mv (.k (.bool false))⟩])
  (.seq (.seq (.reg
         [⟨some 10, none, .ldn 24 3 (.t 4)⟩,
          ⟨some 11, none, .ldn 24 3 (.t 5)⟩,
          ⟨some 12, none, .lit 24 3 40 [.t 10, .t 11]⟩,
          ⟨some 13, none, .call (.f 17) [.t 12]⟩])
    (.cond (.t 13)
      (.seq (.reg
           [⟨some 8, none, .mv (.k (.bool true))⟩])
      (.ret))
      (.skip)))
  (.seq (.reg
       [⟨some 14, none, .ldn 24 3 (.t 4)⟩,
        ⟨some 15, none, .call (.f 19) [.t 14]⟩,
        ⟨some 9, none, .alloc 24 [.v (.int .i64 0), .v (.int .i64 0), .cap 3 40 []]⟩,
        ⟨none, none, .stn 24 3 (.t 9) (.t 15)⟩])
  (.seq (.dreg [0, 1, 0, 7, 15, 31, 63, 127, 63, 511, 1023, 2047, 4095, 8191, 16383, 8191, 65535, 131071, 262143, 524287, 1048575, 1048575, 4194303, 1048575, 1048575, 33554431, 67108863, 134217727, 268435455, 536870911, 536870911, 536870911, 4294967295, 536870911, 536870911, 536870911, 68719476735, 137438953471, 274877906943, 549755813887, 1099511627775, 2199023255551, 1099511627775, 8796093022207, 17592186044415, 35184372088831, 70368744177663, 140737488355327, 140737488355327, 562949953421311, 1125899906842623, 2251799813685247, 4503599627370495, 9007199254740991, 18014398509481983]
       [⟨some 16, none, .ldn 24 3 (.t 9)⟩,
        ⟨some 17, none, .call (.f 22) [.t 16]⟩,
        ⟨some 18, none, .ldn 24 3 (.t 4)⟩,
        ⟨some 19, none, .call (.f 27) [.t 18]⟩,
        ⟨some 20, none, .bin .eql (.t 17) (.t 19)⟩,
        ⟨some 21, none, .mv (.t 20)⟩,
        ⟨some 22, some (21, true), .ldn 24 3 (.t 9)⟩,
        ⟨some 23, some (21, true), .call (.f 20) [.t 22]⟩,
        ⟨some 24, some (21, true), .ldn 24 3 (.t 4)⟩,
        ⟨some 25, some (21, true), .call (.f 28) [.t 24]⟩,
        ⟨some 26, some (21, true), .bin .eql (.t 23) (.t 25)⟩,
        ⟨some 27, none, .pick (.t 21) (.t 26) (.k (.bool false))⟩,
        ⟨some 28, none, .mv (.t 27)⟩,
        ⟨some 29, some (28, true), .ldn 24 3 (.t 9)⟩,
        ⟨some 30, some (28, true), .call (.f 21) [.t 29]⟩,
        ⟨some 31, some (28, true), .ldn 24 3 (.t 4)⟩,
        ⟨some 32, some (28, true), .call (.f 29) [.t 31]⟩,
        ⟨some 33, some (28, true), .bin .eql (.t 30) (.t 32)⟩,
        ⟨some 34, none, .pick (.t 28) (.t 33) (.k (.bool false))⟩,
        ⟨some 35, none, .mv (.t 34)⟩,
        ⟨some 36, some (35, true), .ldn 24 3 (.t 9)⟩,
        ⟨some 37, some (35, true), .ldn 24 3 (.t 5)⟩,
        ⟨some 38, some (35, true), .call (.f 18) [.t 36, .t 37]⟩,
        ⟨some 39, some (35, true), .ldn 24 3 (.t 4)⟩,
        ⟨some 40, some (35, true), .ldn 24 3 (.t 5)⟩,
        ⟨some 41, some (35, true), .call (.f 45) [.t 39, .t 40]⟩,
        ⟨some 42, some (35, true), .beq false 4 (.t 38) (.t 41)⟩,
        ⟨some 43, none, .pick (.t 35) (.t 42) (.k (.bool false))⟩,
        ⟨some 44, none, .mv (.t 43)⟩,
        ⟨some 45, some (44, true), .ldn 24 3 (.t 9)⟩,
        ⟨some 46, some (44, true), .mv (.t 2)⟩,
        ⟨some 47, some (44, true), .mv (.t 3)⟩,
        ⟨some 48, some (44, true), .call (.f 30) [.t 45, .t 46, .t 47]⟩,
        ⟨some 49, some (44, true), .ldn 24 3 (.t 4)⟩,
        ⟨some 50, some (44, true), .mv (.t 2)⟩,
        ⟨some 51, some (44, true), .mv (.t 3)⟩,
        ⟨some 52, some (44, true), .call (.f 58) [.t 49, .t 50, .t 51]⟩,
        ⟨some 53, some (44, true), .beq false 4 (.t 48) (.t 52)⟩,
        ⟨some 54, none, .pick (.t 44) (.t 53) (.k (.bool false))⟩,
        ⟨some 55, none, .mv (.t 54)⟩,
        ⟨some 56, some (55, true), .ldn 24 3 (.t 9)⟩,
        ⟨some 57, some (55, true), .call (.f 60) [.t 56]⟩,
        ⟨some 58, some (55, true), .ldn 24 3 (.t 4)⟩,
        ⟨some 59, some (55, true), .call (.f 61) [.t 58]⟩,
        ⟨some 60, some (55, true), .call (.f 59) [.t 57, .t 59]⟩,
        ⟨some 61, none, .pick (.t 55) (.t 60) (.k (.bool false))⟩,
        ⟨some 62, none, .mv (.t 61)⟩,
        ⟨some 63, some (62, true), .ldn 24 3 (.t 9)⟩,
        ⟨some 64, some (62, true), .ldn 24 3 (.t 4)⟩,
        ⟨some 65, some (62, true), .call (.f 45) [.t 63, .t 64]⟩,
        ⟨some 66, none, .pick (.t 62) (.t 65) (.k (.bool false))⟩,
        ⟨some 67, none, .mv (.t 66)⟩,
        ⟨some 68, some (67, true), .call (.f 23) []⟩,
        ⟨some 69, none, .pick (.t 67) (.t 68) (.k (.bool false))⟩,
        ⟨some 8, none, .mv (.t 69)⟩])
  (.ret))))
def r13 : List RR := [.t 8]
theorem ok13 : okFn Go.Proofs.Try.prog 13 70 c13 r13 4 = true := by kernel_rfl

/- porism/porismlaw02.TermScope -/
def c14 : SCode :=
  .seq (.reg
       [⟨some 4, none, .box 24 (.t 0)⟩,
        ⟨some 8, none, .mv (.k (.bool false))⟩])
  (.seq (.seq (.reg
         [⟨some 11, none, .ldn 24 3 (.t 4)⟩,
          ⟨some 12, none, .lit 24 3 40 [.t 11]⟩,
          ⟨some 13, none, .call (.f 17) [.t 12]⟩])
    (.cond (.t 13)
      (.seq (.reg
           [⟨some 8, none, .mv (.k (.bool true))⟩])
      (.ret))
      (.skip)))
  (.seq (.reg
       [⟨some 14, none, .mv (.t 1)⟩,
        ⟨some 15, none, .conv 3 32 .u64 (.t 14)⟩,
        ⟨some 16, none, .bin .rem (.t 15) (.k (.int .u64 100))⟩,
        ⟨some 17, none, .conv 32 3 .i64 (.t 16)⟩,
        ⟨some 18, none, .mv (.t 2)⟩,
        ⟨some 19, none, .conv 3 32 .u64 (.t 18)⟩,
        ⟨some 20, none, .bin .rem (.t 19) (.k (.int .u64 100))⟩,
        ⟨some 21, none, .conv 32 3 .i64 (.t 20)⟩,
        ⟨some 22, none, .mv (.t 3)⟩,
        ⟨some 23, none, .conv 3 32 .u64 (.t 22)⟩,
        ⟨some 24, none, .bin .rem (.t 23) (.k (.int .u64 100))⟩,
        ⟨some 25, none, .conv 32 3 .i64 (.t 24)⟩,
        ⟨some 1, none, .mv (.t 17)⟩,
        ⟨some 2, none, .mv (.t 21)⟩,
        ⟨some 3, none, .mv (.t 25)⟩])
  (.seq (.reg
       [⟨some 26, none, .ldn 24 3 (.t 4)⟩,
        ⟨some 27, none, .mv (.t 1)⟩,
        ⟨some 28, none, .mv (.t 2)⟩,
        ⟨some 29, none, .call (.f 30) [.t 26, .t 27, .t 28]⟩,
        ⟨some 9, none, .mv (.t 29)⟩])
  (.seq (.seq (.reg
         [⟨some 30, none, .mv (.t 9)⟩,
          ⟨some 31, none, .mv (.t 30)⟩,
          ⟨some 32, some (31, true), .ldn 24 3 (.t 4)⟩,
          ⟨some 33, some (31, true), .mv (.t 1)⟩,
          ⟨some 34, some (31, true), .mv (.t 3)⟩,
          ⟨some 35, some (31, true), .bin .add (.t 33) (.t 34)⟩,
          ⟨some 36, some (31, true), .mv (.t 2)⟩,
          ⟨some 37, some (31, true), .call (.f 30) [.t 32, .t 35, .t 36]⟩,
          ⟨some 38, some (31, true), .not (.t 37)⟩,
          ⟨some 39, some (31, true), .mv (.t 38)⟩,
          ⟨some 40, some (39, false), .ldn 24 3 (.t 4)⟩,
          ⟨some 41, some (39, false), .mv (.t 1)⟩,
          ⟨some 42, some (39, false), .mv (.t 2)⟩,
          ⟨some 43, some (39, false), .mv (.t 3)⟩,
          ⟨some 44, some (39, false), .bin .add (.t 42) (.t 43)⟩,
          ⟨some 45, some (39, false), .call (.f 30) [.t 40, .t 41, .t 44]⟩,
          ⟨some 46, some (39, false), .not (.t 45)⟩,
          ⟨some 47, some (31, true), .pick (.t 39) (.k (.bool true)) (.t 46)⟩,
          ⟨some 48, some (31, true), .mv (.t 47)⟩,
          ⟨some 49, some (48, false), .ldn 24 3 (.t 4)⟩,
          ⟨some 50, some (48, false), .call (.f 22) [.t 49]⟩,
          ⟨some 51, some (48, false), .bin .neq (.t 50) (.k (.int .i64 0))⟩,
          ⟨some 52, some (31, true), .pick (.t 48) (.k (.bool true)) (.t 51)⟩,
          ⟨some 53, none, .pick (.t 31) (.t 52) (.k (.bool false))⟩])
    (.cond (.t 53)
      (.seq (.reg
           [⟨some 8, none, .mv (.k (.bool false))⟩])
      (.ret))
      (.skip)))
  (.seq (.reg
       [⟨some 54, none, .ldn 24 3 (.t 4)⟩,
        ⟨some 55, none, .call (.f 60) [.t 54]⟩,
        ⟨some 10, none, .mv (.t 55)⟩])
  (.seq (.seq (.dreg [0, 1, 3, 7, 15, 31, 63, 127, 127, 383, 895, 2047, 4095, 127, 16383, 32767, 65535, 65535, 65535, 65535, 589823, 1638399, 3997695, 8191999, 16580607, 33554431, 67108863, 134217727, 268435455, 536870911, 536870911, 536870911, 536870911, 4831838207, 13421772799, 32749125631, 67108863999, 137438953471, 274877906943, 549755813887]
         [⟨some 56, none, .mv (.t 9)⟩,
          ⟨some 57, none, .mv (.t 56)⟩,
          ⟨some 58, some (57, true), .mv (.t 10)⟩,
          ⟨some 59, some (57, true), .len 38 (.t 58)⟩,
          ⟨some 60, some (57, true), .bin .gtr (.t 59) (.k (.int .i64 0))⟩,
          ⟨some 61, none, .pick (.t 57) (.t 60) (.k (.bool false))⟩,
          ⟨some 62, none, .mv (.t 61)⟩,
          ⟨some 63, some (62, true), .mv (.t 10)⟩,
          ⟨some 64, some (62, true), .mv (.t 10)⟩,
          ⟨some 65, some (62, true), .len 38 (.t 64)⟩,
          ⟨some 66, some (62, true), .bin .sub (.t 65) (.k (.int .i64 1))⟩,
          ⟨some 67, some (62, true), .iad 3 1 (.t 63) (.t 66)⟩,
          ⟨some 68, some (62, true), .ld1 3 (.t 67)⟩,
          ⟨some 69, some (62, true), .mv (.t 2)⟩,
          ⟨some 70, some (62, true), .bin .geq (.t 68) (.t 69)⟩,
          ⟨some 71, some (62, true), .mv (.t 70)⟩,
          ⟨some 72, some (71, false), .ldn 24 3 (.t 4)⟩,
          ⟨some 73, some (71, false), .mv (.t 1)⟩,
          ⟨some 74, some (71, false), .mv (.t 10)⟩,
          ⟨some 75, some (71, false), .mv (.t 10)⟩,
          ⟨some 76, some (71, false), .len 38 (.t 75)⟩,
          ⟨some 77, some (71, false), .bin .sub (.t 76) (.k (.int .i64 1))⟩,
          ⟨some 78, some (71, false), .iad 3 1 (.t 74) (.t 77)⟩,
          ⟨some 79, some (71, false), .ld1 3 (.t 78)⟩,
          ⟨some 80, some (71, false), .bin .add (.t 79) (.k (.int .i64 1))⟩,
          ⟨some 81, some (71, false), .call (.f 30) [.t 72, .t 73, .t 80]⟩,
          ⟨some 82, some (71, false), .not (.t 81)⟩,
          ⟨some 83, some (62, true), .pick (.t 71) (.k (.bool true)) (.t 82)⟩,
          ⟨some 84, some (62, true), .mv (.t 83)⟩,
          ⟨some 85, some (84, false), .ldn 24 3 (.t 4)⟩,
          ⟨some 86, some (84, false), .mv (.t 1)⟩,
          ⟨some 87, some (84, false), .mv (.t 10)⟩,
          ⟨some 88, some (84, false), .mv (.t 10)⟩,
          ⟨some 89, some (84, false), .len 38 (.t 88)⟩,
          ⟨some 90, some (84, false), .bin .sub (.t 89) (.k (.int .i64 1))⟩,
          ⟨some 91, some (84, false), .iad 3 1 (.t 87) (.t 90)⟩,
          ⟨some 92, some (84, false), .ld1 3 (.t 91)⟩,
          ⟨some 93, some (84, false), .call (.f 30) [.t 85, .t 86, .t 92]⟩,
          ⟨some 94, some (62, true), .pick (.t 84) (.k (.bool true)) (.t 93)⟩,
          ⟨some 95, none, .pick (.t 62) (.t 94) (.k (.bool false))⟩])
    (.cond (.t 95)
      (.seq (.reg
           [⟨some 8, none, .mv (.k (.bool false))⟩])
      (.ret))
      (.skip)))
  (.seq (.seq (.dreg [0, 1, 3, 7, 15, 31, 63, 63, 191, 63, 1023, 63, 63, 4159, 16383, 32767, 65535, 131071]
         [⟨some 96, none, .mv (.t 9)⟩,
          ⟨some 97, none, .mv (.t 96)⟩,
          ⟨some 98, some (97, true), .mv (.t 1)⟩,
          ⟨some 99, some (97, true), .bin .gtr (.t 98) (.k (.int .i64 0))⟩,
          ⟨some 100, none, .pick (.t 97) (.t 99) (.k (.bool false))⟩,
          ⟨some 101, none, .mv (.t 100)⟩,
          ⟨some 102, some (101, true), .ldn 24 3 (.t 4)⟩,
          ⟨some 103, some (101, true), .mv (.t 1)⟩,
          ⟨some 104, some (101, true), .bin .sub (.t 103) (.k (.int .i64 1))⟩,
          ⟨some 105, some (101, true), .mv (.t 2)⟩,
          ⟨some 106, some (101, true), .call (.f 30) [.t 102, .t 104, .t 105]⟩,
          ⟨some 107, some (101, true), .ldn 24 3 (.t 4)⟩,
          ⟨some 108, some (101, true), .mv (.t 1)⟩,
          ⟨some 109, some (101, true), .bin .sub (.t 108) (.k (.int .i64 1))⟩,
          ⟨some 110, some (101, true), .call (.f 56) [.t 107, .t 109]⟩,
          ⟨some 111, some (101, true), .bin .gtr (.t 110) (.k (.int .i64 0))⟩,
          ⟨some 112, some (101, true), .beq false 4 (.t 106) (.t 111)⟩,
          ⟨some 113, none, .pick (.t 101) (.t 112) (.k (.bool false))⟩])
    (.cond (.t 113)
      (.seq (.reg
           [⟨some 8, none, .mv (.k (.bool false))⟩])
      (.ret))
      (.skip)))
  (.seq (.reg
       [⟨some 114, none, .ldn 24 3 (.t 4)⟩,
        ⟨some 115, none, .mv (.t 2)⟩,
        ⟨some 116, none, .call (.f 30) [.t 114, .k (.int .i64 (-1)), .t 115]⟩,
        ⟨some 117, none, .not (.t 116)⟩,
        ⟨some 118, none, .mv (.t 117)⟩,
        ⟨some 119, some (118, true), .ldn 24 3 (.t 4)⟩,
        ⟨some 120, some (118, true), .mv (.t 1)⟩,
        ⟨some 121, some (118, true), .call (.f 30) [.t 119, .t 120, .k (.int .i64 (-1))]⟩,
        ⟨some 122, some (118, true), .not (.t 121)⟩,
        ⟨some 123, none, .pick (.t 118) (.t 122) (.k (.bool false))⟩,
        ⟨some 124, none, .mv (.t 123)⟩,
        ⟨some 125, some (124, true), .call (.f 23) []⟩,
        ⟨some 126, none, .pick (.t 124) (.t 125) (.k (.bool false))⟩,
        ⟨some 8, none, .mv (.t 126)⟩])
  (.ret)))))))))
def r14 : List RR := [.t 8]
theorem ok14 : okFn Go.Proofs.Try.prog 14 127 c14 r14 4 = true := by kernel_rfl

end Go.Abs

namespace Go.Abs
open Go.Proofs

theorem fn13 (t u : T) (a b : Int) (hc : t.count ≤ 1048576) (hc2 : u.count ≤ 1048576) (hw : t.wf = true) (hw2 : u.wf = true) : Fn Try.prog 13 [tm t, tm u, ib a, ib b] (bb true) := by
  refine fn_of (base := 13000) ok13 rfl fun σ h0 hr => ?_
  have s0 := h0 0
  have s1 := h0 1
  have s2 : σ.sl 2 = ib a := h0 2
  have s3 : σ.sl 3 = ib b := h0 3
  rw [slots0] at s0
  rw [slots1] at s1
  simp only [tm, ib] at s0 s1 s2 s3
  clear h0 hr
  unfold c13
  simp [s0, s1, room]
  refine ⟨⟨fun x hx => cells_isD' _ x hx, fun x hx => cells_isD' _ x hx⟩, ?_⟩
  refine ECall.fn (fn17 [t, u]) (by simp [tms]) (by simp) rfl fun _ => ?_
  simp [bb]
  refine ⟨fun hh => by simp [r13, hh], fun hh => ?_⟩
  simp [hh]
  refine ECall.fn (fn19 t) (by simp [tm]) (by simp) (by simp [tm]) fun _ => ?_
  simp [tm, s2, s3]
  have c45 := fn45 t t
  rw [eqb_self] at c45
  have c58 := fn58 t a b
  rw [← scope_rscope hc a b] at c58
  have c61 := fn61 t hc
  rw [← consts_rcons t] at c61
  refine W_dregA ?_
  simp [s2, s3]
  refine CallA.fn (fn22 t) (by simp [tm]) (by simp) rfl ?_
  simp [ib]
  refine CallA.fn (fn27 t) (by simp [tm]) (by simp) rfl ?_
  simp [ib]
  refine GCallA.fn (fun _ => fn20 t) (by simp [tm]) (by simp) rfl ?_
  simp [ib]
  refine GCallA.fn (fun _ => fn28 t) (by simp [tm]) (by simp) rfl ?_
  simp [ib]
  refine GCallA.fn (fun _ => fn21 t) (by simp [tm]) (by simp) rfl ?_
  simp [ib]
  refine GCallA.fn (fun _ => fn29 t) (by simp [tm]) (by simp) rfl ?_
  simp [ib]
  refine GCallA.fn (fun _ => fn18 t u) (by simp [tm]) (by simp) rfl ?_
  simp [bb]
  refine GCallA.fn (fun _ => fn45 t u) (by simp [tm]) (by simp) rfl ?_
  simp [bb, s2, s3]
  refine GCallA.fn (fun _ => fn30 t a b) (by simp [tm, ib]) (by simp) rfl ?_
  simp [bb, s2, s3]
  refine GCallA.fn (fun _ => c58) (by simp [tm, ib]) (by simp) rfl ?_
  simp [bb]
  refine GCallA.fn (fun _ => fn60 t hc hw) (by simp [tm]) (by simp) (by simp [is]) ?_
  simp [is]
  refine GCallA.fn (fun _ => c61) (by simp [tm]) (by simp) (by simp [is]) ?_
  simp [is]
  refine GCallA.fn (fun _ => fn59 t.consts t.consts) (by simp [is]) (by simp) rfl ?_
  simp [bb]
  refine GCallA.fn (fun _ => c45) (by simp [tm]) (by simp) rfl ?_
  simp [bb]
  refine GCallA.fn (fun _ => fn23) (by simp) (by simp) rfl ?_
  simp [bb]
  refine realC_n ?_
  simp [r13]
end Go.Abs
