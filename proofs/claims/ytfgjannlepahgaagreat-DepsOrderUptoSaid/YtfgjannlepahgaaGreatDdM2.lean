/- THIS TEXT TELLS SOME FUNCTIONS OF THE PROGRAM IN THE CALCULUS, PROVES BY THE KERNEL THAT WHAT IS TOLD IS THE LOADED CODE, AND PROVES WHAT THEY COMPUTE: for every argument that is told; the conditions stand in each theorem. -/
import Derived.KernelRfl
import Derived.Test.YtfgjannlepahgaaGreatProg
import Derived.Test.YtfgjannlepahgaaGreatDdM1
set_option linter.unusedVariables false
set_option linter.unusedSimpArgs false
namespace Go.Abs
open Go.Proofs

theorem fn60 (t : T) (hc : t.count ≤ 1048576) (hw : t.wf = true) : Fn Tryz.prog 61 [tm t] (is t.consts) := by
  refine fn_of (base := 60000) ok60 rfl fun σ h0 hr => ?_
  have s0 := h0 0
  rw [slots0] at s0
  simp only [tm] at s0
  clear h0 hr
  obtain ⟨f1, f2, f3⟩ := cons_facts t []
  unfold c60
  simp [s0]
  refine ECall.obj (rs := []) (args := [tm t, .c (.mp 60004 (σ.tg 60004 + 1))]) (by simpa [refs] using sp107 t 60004 (σ.tg 60004 + 1) [] (by omega)) (by simp [tm]) (by simp) (by simp [AV.keys2]) ?_ (mpO_kin _ _ _ _) fun _ => ?_
  · intro k' t' q h
    obtain ⟨rfl, rfl, rfl⟩ := mpO_get h
    simp [encK]
  · simp
    refine ECall.keys (k := 60004) (one := true) (es := encK (t.cons [])) (by simp [puts_some (mpO_self 60004 (σ.tg 60004 + 1) (t.cons []))]) (by simp) ?_
    simp
    refine ECall.sorted 60010 (k := 60004) (one := true) (es := encK (t.cons [])) (by simp [puts_some (mpO_self 60004 (σ.tg 60004 + 1) (t.cons []))]) (by simp) (by omega) ?_ ?_ ?_
    · intro p hp
      obtain ⟨n, hn, rfl⟩ := List.mem_map.1 hp
      exact f3 hw (by simp) n hn
    · simp [encK]
      simp at f1
      omega
    · simp [r60, is, isL, encK_keys, T.consts]

/-! ### the constants, sorted -/
abbrev Srt (l : List Int) : Prop := l.Pairwise (· < ·)
theorem srt_ext : ∀ {l r : List Int}, Srt l → Srt r → (∀ n, n ∈ l ↔ n ∈ r) → l = r
  | [], [], _, _, _ => rfl
  | [], b :: r, _, _, h => by have := (h b).2 (by simp); simp at this
  | a :: l, [], _, _, h => by have := (h a).1 (by simp); simp at this
  | a :: l, b :: r, hl, hr, h => by
    have hl' := List.pairwise_cons.1 hl
    have hr' := List.pairwise_cons.1 hr
    have hab : a = b := by
      rcases List.mem_cons.1 ((h a).1 (by simp)) with h1 | h1
      · exact h1
      · rcases List.mem_cons.1 ((h b).2 (by simp)) with h2 | h2
        · exact h2.symm
        · have := hr'.1 a h1
          have := hl'.1 b h2
          omega
    subst hab
    congr 1
    refine srt_ext hl'.2 hr'.2 fun n => ⟨fun hn => ?_, fun hn => ?_⟩
    · have h1 := hl'.1 n hn
      rcases List.mem_cons.1 ((h n).1 (by simp [hn])) with h2 | h2
      · omega
      · exact h2
    · have h1 := hr'.1 n hn
      rcases List.mem_cons.1 ((h n).2 (by simp [hn])) with h2 | h2
      · omega
      · exact h2
theorem sortI_srt {l : List Int} (h : l.Nodup) : Srt (sortI l) := by
  have h1 : (sortI l).Pairwise fun a b => decide (a ≤ b) = true := List.pairwise_mergeSort (fun a b c h1 h2 => by simp at *; omega) (fun a b => by simp; omega) l
  have h2 : (sortI l).Nodup := (List.mergeSort_perm l _).nodup_iff.2 h
  refine (h1.and h2).imp ?_
  intro a b ⟨h1, h2⟩
  simp at h1
  omega
theorem sortI_mem {l : List Int} {n : Int} : n ∈ sortI l ↔ n ∈ l := (List.mergeSort_perm l _).mem_iff
theorem join_cons (a : Int) (l : List Int) (n : Int) : joinI (a :: l) n = if a < n then a :: joinI l n else if a = n then a :: l else n :: a :: l := by
  by_cases h : a < n
  · have hc : cutI (a :: l) n = cutI l n + 1 := by simp [cutI, List.takeWhile_cons, h]
    simp only [joinI, hc, h, if_true, List.getElem?_cons_succ, List.take_succ_cons, List.drop_succ_cons]
    split <;> simp
  · have hc : cutI (a :: l) n = 0 := by simp [cutI, List.takeWhile_cons, h]
    simp only [joinI, hc, h, if_false]
    by_cases h2 : a = n <;> simp [h2]
theorem join_srt : ∀ {l : List Int} (n : Int), Srt l → Srt (joinI l n) ∧ ∀ m, m ∈ joinI l n ↔ m ∈ l ∨ m = n
  | [], n, _ => by simp [joinI, cutI]
  | a :: l, n, h => by
    have h' := List.pairwise_cons.1 h
    obtain ⟨i1, i2⟩ := join_srt n h'.2
    rw [join_cons]
    by_cases h1 : a < n
    · rw [if_pos h1]
      refine ⟨List.pairwise_cons.2 ⟨fun m hm => ?_, i1⟩, fun m => ?_⟩
      · rcases (i2 m).1 hm with h2 | h2
        · exact h'.1 m h2
        · omega
      · simp only [List.mem_cons, i2, or_assoc]
    · by_cases h2 : a = n
      · rw [if_neg h1, if_pos h2]
        refine ⟨h, fun m => ⟨.inl, ?_⟩⟩
        rintro (h3 | rfl)
        · exact h3
        · simp [h2]
      · rw [if_neg h1, if_neg h2]
        refine ⟨List.pairwise_cons.2 ⟨fun m hm => ?_, h⟩, fun m => ?_⟩
        · rcases List.mem_cons.1 hm with rfl | hm
          · omega
          · have := h'.1 m hm; omega
        · simp only [List.mem_cons]; constructor
          · rintro (h | h)
            · exact .inr h
            · exact .inl h
          · rintro (h | h)
            · exact .inr h
            · exact .inl h
theorem fold_srt : ∀ (ms : List Int) {out : List Int}, Srt out → Srt (ms.foldl joinI out) ∧ ∀ m, m ∈ ms.foldl joinI out ↔ m ∈ out ∨ m ∈ ms
  | [], out, h => ⟨h, by simp⟩
  | a :: ms, out, h => by
    obtain ⟨h1, h2⟩ := join_srt a h
    obtain ⟨h3, h4⟩ := fold_srt ms h1
    refine ⟨h3, fun m => ?_⟩
    rw [List.foldl_cons, h4, h2]
    simp only [List.mem_cons, or_assoc]

/-! a constant of a term -/
mutual
def T.hasC : T → Int → Bool
  | .mk k m ts, n => (decide (k = 3) && decide (m = n)) || T.hasCL ts n
def T.hasCL : List T → Int → Bool
  | [], _ => false
  | t :: ts, n => T.hasC t n || T.hasCL ts n
end
theorem hasCL_any (ts : List T) (n : Int) : T.hasCL ts n = ts.any fun t => t.hasC n := by
  induction ts with
  | nil => simp [T.hasCL]
  | cons t ts ih => simp [T.hasCL, ih]
theorem cons_mem (t : T) : ∀ (ks : List Int) (m : Int), m ∈ t.cons ks ↔ m ∈ ks ∨ t.hasC m = true := by
  induction t using T.ind with
  | h k n ts ih =>
  intro ks m
  have key : ∀ (ts : List T) (ks : List Int), (∀ t, t ∈ ts → ∀ (ks : List Int) (m : Int), m ∈ t.cons ks ↔ m ∈ ks ∨ t.hasC m = true) → (m ∈ T.consL ts ks ↔ m ∈ ks ∨ T.hasCL ts m = true) := by
    intro ts
    induction ts with
    | nil => intro ks _; simp [T.consL, T.hasCL]
    | cons t ts ih2 =>
      intro ks h
      simp only [T.consL, T.hasCL, Bool.or_eq_true]
      rw [ih2 _ fun u hu => h u (by simp [hu]), h t (by simp), or_assoc]
  simp only [T.cons, T.hasC, Bool.or_eq_true, Bool.and_eq_true, decide_eq_true_eq]
  rw [key ts _ ih]
  by_cases h3 : k = 3
  · simp only [h3, if_true, addK_mem, true_and]
    rw [or_assoc, eq_comm (a := n)]
  · simp [h3]
theorem rcons_facts (t : T) : Srt t.rcons ∧ ∀ m, m ∈ t.rcons ↔ t.hasC m = true := by
  induction t using T.ind with
  | h k n ts ih =>
  have key : ∀ (ts : List T) (out : List Int), (∀ t, t ∈ ts → Srt t.rcons ∧ ∀ m, m ∈ t.rcons ↔ t.hasC m = true) → Srt out → Srt (T.rconsL ts out) ∧ ∀ m, m ∈ T.rconsL ts out ↔ m ∈ out ∨ T.hasCL ts m = true := by
    intro ts
    induction ts with
    | nil => intro out _ h; exact ⟨h, by simp [T.rconsL, T.hasCL]⟩
    | cons t ts ih2 =>
      intro out h ho
      obtain ⟨h1, h2⟩ := fold_srt t.rcons ho
      obtain ⟨h3, h4⟩ := ih2 (t.rcons.foldl joinI out) (fun u hu => h u (by simp [hu])) h1
      refine ⟨h3, fun m => ?_⟩
      simp only [T.rconsL, T.hasCL, Bool.or_eq_true]
      rw [h4, h2, (h t (by simp)).2, or_assoc]
  have hs : Srt (if k = 3 then joinI [] n else []) ∧ ∀ m, m ∈ (if k = 3 then joinI [] n else []) ↔ (k = 3 ∧ n = m) := by
    by_cases h3 : k = 3
    · simp only [h3, if_true, true_and]
      have := join_srt (l := []) n List.Pairwise.nil
      exact ⟨this.1, fun m => by rw [this.2]; simp [eq_comm]⟩
    · simp [h3]
  obtain ⟨h1, h2⟩ := key ts _ ih hs.1
  refine ⟨h1, fun m => ?_⟩
  simp only [T.rcons, T.hasC, Bool.or_eq_true, Bool.and_eq_true, decide_eq_true_eq]
  rw [h2, hs.2]
theorem consts_facts (t : T) : Srt t.consts ∧ ∀ m, m ∈ t.consts ↔ t.hasC m = true :=
  ⟨sortI_srt ((cons_facts t []).2.1 List.nodup_nil), fun m => by rw [T.consts, sortI_mem, cons_mem]; simp⟩
theorem consts_rcons (t : T) : t.consts = t.rcons := srt_ext (consts_facts t).1 (rcons_facts t).1 fun n => by rw [(consts_facts t).2, (rcons_facts t).2]

/-! ### what is in scope -/
theorem inS_mono (t : T) : ∀ a b a' b' : Int, a ≤ a' → b ≤ b' → t.inS a b = true → t.inS a' b' = true := by
  induction t using T.ind with
  | h k n ts ih =>
  intro a b a' b' ha hb h
  have key : ∀ (ts : List T) (i : Int), (∀ t, t ∈ ts → ∀ a b a' b' : Int, a ≤ a' → b ≤ b' → t.inS a b = true → t.inS a' b' = true) → T.inSL k a b i ts = true → T.inSL k a' b' i ts = true := by
    intro ts
    induction ts with
    | nil => intro i _ _; simp [T.inSL]
    | cons t ts ih2 =>
      intro i h hh
      simp only [T.inSL, Bool.and_eq_true] at hh ⊢
      exact ⟨h t (by simp) _ b _ b' (by omega) hb hh.1, ih2 (i + 1) (fun u hu => h u (by simp [hu])) hh.2⟩
  simp only [T.inS] at h ⊢
  by_cases h1 : k = 1
  · simp only [h1, if_true, decide_eq_true_eq] at h ⊢; omega
  · by_cases h2 : k = 2
    · simpa [h1, h2] using h
    · by_cases h3 : k = 3
      · simp [h3] at h ⊢; omega
      · simp only [h1, h2, h3, if_false] at h ⊢
        exact key ts 0 ih h
theorem inS_consts (t : T) : t.formed = true → ∀ a b b' : Int, t.inS a b = true → ((∀ n, t.hasC n = true → n < b') ↔ t.inS a b' = true) := by
  induction t using T.ind with
  | h k n ts ih =>
  intro hf a b b' h
  rw [T.formed, Bool.and_eq_true, formedL_all, List.all_eq_true] at hf
  by_cases hl : k = 1 ∨ k = 2 ∨ k = 3
  · have := head_leaf hf.1 hl
    subst this
    simp only [T.inS] at h ⊢
    simp only [T.hasC, T.hasCL, Bool.or_false, Bool.and_eq_true, decide_eq_true_eq]
    rcases hl with rfl | rfl | rfl
    · simp at h ⊢; exact h
    · simp at h ⊢; exact h
    · simp
  · have h1 : k ≠ 1 := fun h => hl (.inl h)
    have h2 : k ≠ 2 := fun h => hl (.inr (.inl h))
    have h3 : k ≠ 3 := fun h => hl (.inr (.inr h))
    have key : ∀ (ts : List T) (i : Int), (∀ t, t ∈ ts → ∀ a b b' : Int, t.inS a b = true → ((∀ n, t.hasC n = true → n < b') ↔ t.inS a b' = true)) → T.inSL k a b i ts = true → ((∀ n, T.hasCL ts n = true → n < b') ↔ T.inSL k a b' i ts = true) := by
      intro ts
      induction ts with
      | nil => intro i _ _; simp [T.inSL, T.hasCL]
      | cons t ts ih2 =>
        intro i h hh
        simp only [T.inSL, T.hasCL, Bool.and_eq_true, Bool.or_eq_true] at hh ⊢
        rw [← h t (by simp) _ b b' hh.1, ← ih2 (i + 1) (fun u hu => h u (by simp [hu])) hh.2]
        constructor
        · exact fun h => ⟨fun n hn => h n (.inl hn), fun n hn => h n (.inr hn)⟩
        · rintro ⟨p, q⟩ n (hn | hn)
          · exact p n hn
          · exact q n hn
    simp only [T.inS, h1, h2, h3, if_false] at h ⊢
    rw [← key ts 0 (fun t ht => ih t ht (hf.2 t ht)) h]
    simp [T.hasC, h3]
theorem inS_occ (t : T) : t.formed = true → ∀ v b : Int, t.inS (v + 1) b = true → (t.inS v b = true ↔ t.occ v = 0) := by
  induction t using T.ind with
  | h k n ts ih =>
  intro hf v b h
  rw [T.formed, Bool.and_eq_true, formedL_all, List.all_eq_true] at hf
  by_cases hl : k = 1 ∨ k = 2 ∨ k = 3
  · have := head_leaf hf.1 hl
    subst this
    simp only [T.inS] at h ⊢
    simp only [T.occ, T.occL]
    rcases hl with rfl | rfl | rfl
    · simp at h ⊢; omega
    · simp at h ⊢; exact h
    · simp at h ⊢; exact h
  · have h1 : k ≠ 1 := fun h => hl (.inl h)
    have h2 : k ≠ 2 := fun h => hl (.inr (.inl h))
    have h3 : k ≠ 3 := fun h => hl (.inr (.inr h))
    have key : ∀ (ts : List T) (i : Int), (∀ t, t ∈ ts → ∀ v b : Int, t.inS (v + 1) b = true → (t.inS v b = true ↔ t.occ v = 0)) → T.inSL k (v + 1) b i ts = true → (T.inSL k v b i ts = true ↔ T.occL k v i ts = 0) := by
      intro ts
      induction ts with
      | nil => intro i _ _; simp [T.inSL, T.occL]
      | cons t ts ih2 =>
        intro i h hh
        simp only [T.inSL, T.occL, Bool.and_eq_true] at hh ⊢
        have e : v + 1 + bindsOf k i = v + bindsOf k i + 1 := by omega
        rw [e] at hh
        rw [h t (by simp) _ b hh.1, ih2 (i + 1) (fun u hu => h u (by simp [hu])) hh.2]
        omega
    simp only [T.inS, h1, h2, h3, if_false] at h ⊢
    rw [key ts 0 (fun t ht => ih t ht (hf.2 t ht)) h]
    simp [T.occ, h1]
theorem rcnt_occ (t : T) : ∀ v : Int, 0 ≤ v → v + t.count ≤ 4611686018427387 → t.rcnt v = (t.occ v : Nat) := by
  induction t using T.ind with
  | h k n ts ih =>
  intro v hv hc
  simp only [T.count] at hc
  have key : ∀ (ts : List T) (i a : Int), (∀ t, t ∈ ts → ∀ v : Int, 0 ≤ v → v + t.count ≤ 4611686018427387 → t.rcnt v = (t.occ v : Nat)) → 0 ≤ a → a + T.countL ts ≤ 4611686018427388 → v + 1 + T.countL ts ≤ 4611686018427387 →
      T.rcntL k v i a ts = a + (T.occL k v i ts : Nat) := by
    intro ts
    induction ts with
    | nil => intro i a _ _ _ _; simp [T.rcntL, T.occL]
    | cons t ts ih2 =>
      intro i a h ha hc2 hc
      simp only [T.countL] at hc hc2
      have hbd := binds01 k i
      have h1 := h t (by simp) (v + bindsOf k i) (by omega) (by omega)
      have h2 := occ_le t (v + bindsOf k i)
      have w1 : IntKind.wrap .i64 (a + (t.occ (v + bindsOf k i) : Nat)) = a + (t.occ (v + bindsOf k i) : Nat) := wrap_id (by omega) (by omega)
      simp only [T.rcntL, wrap_dp (k := k) (i := i) hv (by omega), h1, w1]
      rw [ih2 (i + 1) _ (fun u hu => h u (by simp [hu])) (by omega) (by omega) (by omega)]
      simp only [T.occL]; omega
  simp only [T.rcnt, T.occ]
  by_cases h : k = 1 ∧ n = v
  · rw [if_pos h, if_pos h, key ts 0 1 ih (by omega) (by omega) (by omega)]; omega
  · rw [if_neg h, if_neg h, key ts 0 0 ih (by omega) (by omega) (by omega)]; omega
/-- In scope of very many variables is in scope of any number. -/
theorem inS_big (t : T) : t.formed = true → ∀ a a' b : Int, 65536 ≤ a → 65536 ≤ a' → t.inS a b = t.inS a' b := by
  induction t using T.ind with
  | h k n ts ih =>
  intro hf a a' b ha ha'
  rw [T.formed, Bool.and_eq_true, formedL_all, List.all_eq_true] at hf
  by_cases hl : k = 1 ∨ k = 2 ∨ k = 3
  · have := head_leaf hf.1 hl
    subst this
    simp only [T.inS]
    rcases hl with rfl | rfl | rfl
    · have hh := hf.1
      simp [badHead, kidsOf] at hh
      have e1 : n < a := by omega
      have e2 : n < a' := by omega
      simp [e1, e2]
    · simp
    · simp
  · have h1 : k ≠ 1 := fun h => hl (.inl h)
    have h2 : k ≠ 2 := fun h => hl (.inr (.inl h))
    have h3 : k ≠ 3 := fun h => hl (.inr (.inr h))
    have key : ∀ (ts : List T) (i : Int), (∀ t, t ∈ ts → ∀ a a' b : Int, 65536 ≤ a → 65536 ≤ a' → t.inS a b = t.inS a' b) → T.inSL k a b i ts = T.inSL k a' b i ts := by
      intro ts
      induction ts with
      | nil => intro i _; simp [T.inSL]
      | cons t ts ih2 =>
        intro i h
        have hbd := binds01 k i
        simp only [T.inSL]
        rw [h t (by simp) (a + bindsOf k i) (a' + bindsOf k i) b (by omega) (by omega), ih2 (i + 1) fun u hu => h u (by simp [hu])]
    simp only [T.inS, h1, h2, h3, if_false]
    exact key ts 0 fun t ht => ih t ht (hf.2 t ht)
theorem scope_rscope {t : T} (hc : t.count ≤ 1048576) (a b : Int) : t.scope a b = t.rscope a b := by
  by_cases h0 : 0 ≤ a
  · by_cases h1 : t.check = 0
    · have hf := ((check_iff t).1 h1).2.2
      simp only [T.scope, T.rscope, best2]
      simp only [Bool.false_eq_true, if_false]
      by_cases h2 : a ≤ 65536
      · have e1 : (if 65536 < a then 65536 else a) = a := by split <;> omega
        have e2 : (if 1048576 < a then 1048576 else a) = a := by split <;> omega
        rw [e1, e2]
      · have e1 : (if 65536 < a then 65536 else a) = 65536 := by split <;> omega
        rw [e1, within_inS t _ b (by omega) (by omega), within_inS t _ b (by split <;> omega) (by split <;> omega), inS_big t hf 65536 (if 1048576 < a then 1048576 else a) b (by omega) (by split <;> omega)]
    · simp [T.scope, T.rscope, h1]
  · simp [T.scope, T.rscope, h0]
end Go.Abs

namespace Go.Abs
open Go.Proofs

/-! ### axioms alone: rows of entries of nothing but a type -/
def axc (t : T) : List Cell := [.v (.int .i64 1), .v (.int .i64 t.kind), .v (.int .i64 t.val), .sl 3 40 (t.kids.map T.cells), .v (.int .i64 0), .v (.int .i64 0), .sl 3 40 [], .v (.int .i64 0), .v (.int .i64 0), .sl 6 80 [], .sl 6 96 [], .v (.int .i64 0)]
def axs (l : List T) : AV := .c (.sl 12 160 (l.map axc))
def tz : T := .mk 0 0 []

theorem fn1034 (n : Int) : Fn Tryz.prog 34 [ib n] (tm (.mk 3 n [])) := by
  refine fn_of (base := 1034000) ok1034 rfl fun σ h0 hr => ?_
  have s0 : σ.sl 0 = .c (.v (.int .i64 n)) := h0 0
  clear h0 hr
  unfold c1034
  simp [s0, r1034, tm, cells_mk]

theorem fn1082 : Fn Tryz.prog 82 [.agg [.sl 6 80 [], .sl 6 96 [], .v (.int .i64 0)]] (bb true) := by
  refine fn_of (base := 1082000) ok1082 rfl fun σ h0 hr => ?_
  have s0 : σ.sl 0 = .agg [.sl 6 80 [], .sl 6 96 [], .v (.int .i64 0)] := h0 0
  clear h0 hr
  unfold c1082
  have w0 : IntKind.wrap .i64 (0 : Int) = 0 := by decide
  simp [s0, r1082, bb, w0]

theorem fn1083 : Fn Tryz.prog 83 [tm tz] (bb true) := by
  refine fn_of (base := 1083000) ok1083 rfl fun σ h0 hr => ?_
  have s0 : σ.sl 0 = .agg [.v (.int .i64 0), .v (.int .i64 0), .sl 3 40 []] := h0 0
  clear h0 hr
  unfold c1083
  simp [s0, r1083, bb]

theorem fn1052 (t : T) (i : Int) : Fn Tryz.prog 52 [.agg (axc t), ib i] (bb (t.scope 0 i)) := by
  refine fn_of (base := 1052000) ok1052 rfl fun σ h0 hr => ?_
  have s0 : σ.sl 0 = .agg (axc t) := h0 0
  have s1 : σ.sl 1 = .c (.v (.int .i64 i)) := h0 1
  clear h0 hr
  simp only [axc] at s0
  unfold c1052
  simp [s0, s1]
  refine ECall.fn (fn30 t 0 i) (by simp [tm, ib, cells_eq t, toD2, toD1, toD]) (by simp) rfl fun _ => ?_
  cases hs : t.scope 0 i with
  | false => simp [bb, r1052]
  | true =>
    simp [bb]
    refine GCall.fn (fun _ => fn1082) (by simp [toD2, toD1, toD]) (by simp) rfl fun _ => ?_
    simp [bb]
    refine GCall.fn (fun _ => fn1083) (by simp [toD2, toD1, toD, tm, tz, cells_mk]) (by simp) rfl fun _ => ?_
    simp [bb, r1052]


def chk : List T → Nat → Int
  | [], _ => 0
  | t :: l, i => if t.scope 0 i then chk l (i + 1) else 12

@[simp] theorem axc_len (t : T) : (axc t).length = 12 := rfl
@[simp] theorem axc_take (t : T) : (axc t).take 12 = axc t := rfl
@[simp] theorem axc_toD (σ : St) (t : T) : (axc t).map (toD σ) = axc t := rfl
@[simp] theorem axc_keys (t : T) : keysCs (axc t) = [] := rfl
@[simp] theorem axc_put (t : T) (a b c d e f g h i j k l : Cell) : putC [a, b, c, d, e, f, g, h, i, j, k, l] 0 (axc t) = axc t := rfl

theorem fn1027 (l : List T) (hl : l.length ≤ 200) : Fn Tryz.prog 27 [axs l] (ib (chk l 0)) := by
  refine fn_of (base := 1027000) ok1027 rfl fun σ h0 hr => ?_
  have s0 : σ.sl 0 = .c (.sl 12 160 (l.map axc)) := h0 0
  clear h0 hr
  unfold c1027
  have hl' : ¬ (200 : Int) < l.length := by omega
  simp [s0, hl', -W_block]
  rw [W_block]
  refine W_loop (fun m σ => ∃ i : Nat, i + m = l.length ∧ chk (l.drop i) i = chk l 0 ∧ σ.sl 12 = .c (.sl 12 160 (l.map axc)) ∧ σ.sl 13 = .c (.v (.int .i64 l.length)) ∧ σ.sl 14 = .c (.v (.int .i64 i))) l.length ⟨0, by simp [s0]⟩ ?_
  clear s0 σ
  rintro m σ ⟨i, hm, hp, s12, s13, s14⟩
  unfold c1027b0
  by_cases hi : i < l.length
  · have w1 := wrap_succ (i := i) (by omega)
    obtain ⟨t, ht1⟩ := at_of hi
    obtain ⟨_, ht2⟩ := getE ht1
    rw [drop_at ht1, chk] at hp
    simp [s12, s13, s14, hi, ht2]
    refine ECall.fn (fn1052 t i) (by simp [toD2, toD1, ib, toD]) (by simp) rfl fun _ => ?_
    cases hs : t.scope 0 (i : Int) with
    | false =>
      rw [hs] at hp
      simp at hp
      simp [bb, r1027, ib, ← hp]
    | true =>
      rw [hs] at hp
      simp at hp
      simp [bb, axc, s12, s13, s14, w1]
      exact ⟨m - 1, by omega, i + 1, by omega, hp, rfl⟩
  · have : i = l.length := by omega
    subst this
    simp [chk] at hp
    simp [s12, s13, s14, r1027, ib, ← hp]

/-! ### what an entry uses -/
def addAll (cs ks : List Int) : List Int := cs.foldl addK ks

def KP (σ σ' : St) : Prop := ∀ s, s = 5 ∨ s = 22 ∨ s = 23 ∨ s = 24 ∨ s = 0 ∨ s = 1 → σ'.sl s = σ.sl s
theorem loop1041 {σ : St} {Q : SEx → St → Prop} (cs ks : List Int) (hc : cs.length < 1000000) (s29 : σ.sl 29 = is cs) (s30 : σ.sl 30 = ib cs.length) (s31 : σ.sl 31 = ib (0 : Nat)) (s5 : σ.sl 5 = .c (.mp 1041011 (σ.tg 1041011))) (o5 : σ.ob 1041011 = some (.mob true (encK ks)))
    (hQ : ∀ σ', KP σ σ' → σ'.ob 1041011 = some (.mob true (encK (addAll cs ks))) → σ'.tg 1041011 = σ.tg 1041011 → Q .normal σ') :
    W Tryz.prog 1041000 (.loop c1041b0) σ (onBlock 2 Q) := by
  refine W_loop (fun m σ' => ∃ (i : Nat) (ks' : List Int), i + m = cs.length ∧ addAll (cs.drop i) ks' = addAll cs ks ∧ KP σ σ' ∧ σ'.sl 29 = is cs ∧ σ'.sl 30 = ib cs.length ∧ σ'.sl 31 = ib i ∧ σ'.ob 1041011 = some (.mob true (encK ks')) ∧ σ'.tg 1041011 = σ.tg 1041011) cs.length ⟨0, ks, by simp [s29, s30, s31, o5]; exact fun _ _ => rfl⟩ ?_
  rintro m σ' ⟨i, ks', hm, hp, hs, q29, q30, q31, qo, qt⟩
  have q5 : σ'.sl 5 = .c (.mp 1041011 (σ'.tg 1041011)) := by rw [hs 5 (by simp), s5, qt]
  simp only [is, ib] at q29 q30 q31
  unfold c1041b0
  by_cases hi : i < cs.length
  · have w1 := wrap_succ (i := i) (by omega)
    obtain ⟨c, hc1⟩ := at_of hi
    obtain ⟨_, hc2⟩ := getE hc1
    rw [drop_at hc1] at hp
    simp [q29, q30, q31, q5, qo, hi, hc2, mset_encK, w1]
    refine ⟨m - 1, by omega, i + 1, by omega, addK ks' c, hp, fun s h => ?_, by simp [is], by simp [ib], by simp [ib], rfl, qt⟩
    rcases h with rfl | rfl | rfl | rfl | rfl | rfl <;> (simp; exact hs _ (by simp))
  · have : i = cs.length := by omega
    subst this
    simp [addAll] at hp
    simp [q29, q30, q31]
    refine hQ _ (fun s h => ?_) (by simp [qo, addAll, hp]) (by simp [qt])
    rcases h with rfl | rfl | rfl | rfl | rfl | rfl <;> (simp; exact hs _ (by simp))


def usesA (t : T) : List Int := sortI (addAll tz.consts (addAll t.consts []))

theorem addAll_mem {cs ks : List Int} {n : Int} : n ∈ addAll cs ks ↔ n ∈ cs ∨ n ∈ ks := by
  induction cs generalizing ks with
  | nil => simp [addAll]
  | cons c cs ih =>
    show n ∈ addAll cs (addK ks c) ↔ _
    rw [ih, addK_mem]
    simp only [List.mem_cons]
    constructor
    · rintro (h | h | h) <;> simp [h]
    · rintro ((h | h) | h) <;> simp [h]

theorem fn1041 (l : List T) (n : Nat) (t : T) (ht : l[n]? = some t) (hc : t.count ≤ 1048576) (hw : t.wf = true) (hcl : t.consts.length < 1000000) (hlen : (addAll tz.consts (addAll t.consts [])).length ≤ 1000000000) (hok : ∀ x, x ∈ addAll tz.consts (addAll t.consts []) → okI x) :
    Fn Tryz.prog 41 [axs l, ib n] (is (usesA t)) := by
  refine fn_of (base := 1041000) ok1041 rfl fun σ h0 hr => ?_
  have s0 : σ.sl 0 = .c (.sl 12 160 (l.map axc)) := h0 0
  have s1 : σ.sl 1 = .c (.v (.int .i64 n)) := h0 1
  obtain ⟨hn, ht'⟩ := getE ht
  clear h0 hr
  unfold c1041
  simp [s0, s1]
  refine W_dregA ?_
  simp [s0, s1, hn, ht', axc]
  refine ⟨by simp [room], realC_n ?_⟩
  simp [-W_block]
  rw [W_block]
  have c1 : tz.consts = [] := by simp [T.consts, tz, T.cons, T.consL, sortI]
  refine W_loop (fun m σ => ∃ (i : Nat) (ks : List Int), i + m = 2 ∧ ks = (if i = 0 then [] else if i = 1 then addAll t.consts [] else addAll tz.consts (addAll t.consts [])) ∧ σ.sl 0 = .c (.sl 12 160 (l.map axc)) ∧ σ.sl 1 = .c (.v (.int .i64 n)) ∧ σ.sl 5 = .c (.mp 1041011 (σ.tg 1041011)) ∧
      σ.ob 1041011 = some (.mob true (encK ks)) ∧ σ.sl 22 = .c (.cap 3 40 [t.cells, tz.cells]) ∧ σ.sl 23 = .c (.v (.int .i64 2)) ∧ σ.sl 24 = .c (.v (.int .i64 i))) 2 ⟨0, [], by simp [s0, s1, encK, cells_eq t, tz, cells_mk]⟩ ?_
  clear s0 s1 σ
  rintro m σ ⟨i, ks, hm, hk, s0, s1, s5, o5, s22, s23, s24⟩
  unfold c1041b1
  match i, hm with
  | 0, hm =>
    simp at hk
    subst hk
    simp [s22, s23, s24]
    refine ECall.fn (fn60 t hc hw) (by simp [tm, cells_eq t, toD2, toD1, toD]) (by simp) rfl fun _ => ?_
    simp [is]
    refine loop1041 t.consts [] hcl (by simp [is]) (by simp [ib]) (by simp [ib]) (by simp [s5]) (by simp [o5]) fun σ' hs ho ht2 => ?_
    have q0 : σ'.sl 0 = .c (.sl 12 160 (l.map axc)) := by rw [hs 0 (by simp)]; simp [s0]
    have q1 : σ'.sl 1 = .c (.v (.int .i64 n)) := by rw [hs 1 (by simp)]; simp [s1]
    have q5 : σ'.sl 5 = .c (.mp 1041011 (σ'.tg 1041011)) := by rw [hs 5 (by simp), ht2]; simp [s5]
    have q22 : σ'.sl 22 = .c (.cap 3 40 [t.cells, tz.cells]) := by rw [hs 22 (by simp)]; simp [s22]
    have q23 : σ'.sl 23 = .c (.v (.int .i64 2)) := by rw [hs 23 (by simp)]; simp [s23]
    have q24 : σ'.sl 24 = .c (.v (.int .i64 (0 : Nat))) := by rw [hs 24 (by simp)]; simp [s24]
    have w1 : IntKind.wrap .i64 (1 : Int) = 1 := by decide
    simp [q24, w1]
    exact ⟨1, by omega, 1, by omega, by simp [q0, q1, q5, ho, q22, q23]⟩
  | 1, hm =>
    simp at hk
    subst hk
    simp [s22, s23, s24]
    refine ECall.fn (fn60 tz (by decide) (by decide)) (by simp [tm, cells_eq tz, toD2, toD1, toD]) (by simp) rfl fun _ => ?_
    simp [is]
    refine loop1041 tz.consts (addAll t.consts []) (by rw [c1]; decide) (by simp [is]) (by simp [ib]) (by simp [ib]) (by simp [s5]) (by simp [o5]) fun σ' hs ho ht2 => ?_
    have q0 : σ'.sl 0 = .c (.sl 12 160 (l.map axc)) := by rw [hs 0 (by simp)]; simp [s0]
    have q1 : σ'.sl 1 = .c (.v (.int .i64 n)) := by rw [hs 1 (by simp)]; simp [s1]
    have q5 : σ'.sl 5 = .c (.mp 1041011 (σ'.tg 1041011)) := by rw [hs 5 (by simp), ht2]; simp [s5]
    have q22 : σ'.sl 22 = .c (.cap 3 40 [t.cells, tz.cells]) := by rw [hs 22 (by simp)]; simp [s22]
    have q23 : σ'.sl 23 = .c (.v (.int .i64 2)) := by rw [hs 23 (by simp)]; simp [s23]
    have q24 : σ'.sl 24 = .c (.v (.int .i64 (1 : Nat))) := by rw [hs 24 (by simp)]; simp [s24]
    have w1 : IntKind.wrap .i64 (2 : Int) = 2 := by decide
    simp [q24, w1]
    exact ⟨0, by omega, 2, by omega, by simp [q0, q1, q5, ho, q22, q23]⟩
  | 2, hm =>
    simp at hk
    subst hk
    simp [s0, s1, s22, s23, s24, hn, ht', axc, s5]
    refine ECall.keys (k := 1041011) (one := true) (es := encK (addAll tz.consts (addAll t.consts []))) (by simp [o5]) (by simp) ?_
    simp
    refine ECall.sorted 1041010 (k := 1041011) (one := true) (es := encK (addAll tz.consts (addAll t.consts []))) (by simp [o5]) (by simp) (by omega) ?_ ?_ ?_
    · intro p hp
      obtain ⟨x, hx, rfl⟩ := List.mem_map.1 hp
      exact hok x hx
    · simpa [encK] using hlen
    · simp [r1041, is, isL, encK_keys, usesA]
  | i + 3, hm => omega

end Go.Abs

namespace Go.Abs
open Go.Proofs

@[simp] theorem big_ne (k m : Nat) (h : m < 2000000) : (2000000 + k = m) = False := by simp; omega
@[simp] theorem big_ne' (k m : Nat) (h : m < 2000000) : (m = 2000000 + k) = False := by simp; omega
theorem putC_one : ∀ {l : List Cell} {a : Nat} (h : a < l.length) (y : Cell), putC l a [y] = l.set a y := by
  intro l a h y
  rw [List.set_eq_take_append_cons_drop, if_pos h]
  simp [putC]
structure Beh (σ : St) (n : Nat) (R : Int → List Int) : Prop where
  ex : ∃ cs : List Cell, σ.ob 1012038 = some (.box 24 cs) ∧ cs.length = n ∧ ∀ k : Nat, k < n → (cs[k]? = some (.cap 1 8 []) ∧ R k = []) ∨ (cs[k]? = some (.own (2000000 + k) (σ.tg (2000000 + k))) ∧ σ.ob (2000000 + k) = some (.row 3 1 8 (ic (R k))))

theorem Beh.mono {σ σ' : St} {n : Nat} {R : Int → List Int} (h : Beh σ n R) (ho : σ'.ob 1012038 = σ.ob 1012038) (hk : ∀ k, 2000000 ≤ k → σ'.ob k = σ.ob k ∧ σ'.tg k = σ.tg k) : Beh σ' n R := by
  obtain ⟨cs, h1, h2, h3⟩ := h.ex
  refine ⟨cs, by rw [ho]; exact h1, h2, fun k hkn => ?_⟩
  obtain ⟨q1, q2⟩ := hk (2000000 + k) (by omega)
  rw [q1, q2]
  exact h3 k hkn

/-- The edges are gone through: how many lean on each, what leans on each. -/
structure F0 (n : Nat) (E : List Edge2) (i : Nat) (σ : St) : Prop where
  s2 : σ.sl 2 = .c (.ref 1012002 (σ.tg 1012002) 0)
  o2 : σ.ob 1012002 = some (nbox n)
  s7 : σ.sl 7 = .c (.own 1012036 (σ.tg 1012036))
  o7 : σ.ob 1012036 = some (.mrow 3 1 8 (ic (aL n (pre (E.take i) []))))
  s8 : σ.sl 8 = .c (.sob 1012038 (σ.tg 1012038) n)
  beh : Beh σ n (rows (E.take i))
  s39 : σ.sl 39 = .c (.sl 2 16 (ecs E))
  s40 : σ.sl 40 = .c (.v (.int .i64 E.length))
  s41 : σ.sl 41 = .c (.v (.int .i64 i))

def w9 : List (List Nat) := [[], [], [], [], [], [], [], [], [], [], [], [1012063, 1012201], [], [1012038]]
def f9 : List (List Nat) := [[1012063, 1012201], [1012063, 1012201], [1012063, 1012201], [], [], [], [], [], [], [], [], [], [], []]

theorem take_succ' {α : Type} {l : List α} {i : Nat} {x : α} (h : l[i]? = some x) : l.take (i + 1) = l.take i ++ [x] := by rw [List.take_add_one, h]; rfl

theorem loop0 {σ : St} {Q : SEx → St → Prop} (n : Nat) (E : List Edge2) (hn : n ≤ 200) (hE : E.length ≤ 4000) (hb : ∀ p, p ∈ E → badE n p = false) (h0 : F0 n E 0 σ) (hQ : ∀ σ', F0 n E E.length σ' → Q .normal σ') :
    W Tryz.prog 1012000 (.loop c1012b0) σ (onBlock 0 Q) := by
  refine W_loop (fun m σ => ∃ i, i + m = E.length ∧ F0 n E i σ) E.length ⟨0, by simp, h0⟩ ?_
  clear h0 σ
  rintro m σ ⟨i, hm, H⟩
  obtain ⟨s2, o2, s7, o7, s8, beh, s39, s40, s41⟩ := H
  unfold c1012b0
  by_cases hi : i < E.length
  · have w1 := wrap_succ (i := i) (by omega)
    obtain ⟨p, hp1⟩ := at_of hi
    obtain ⟨_, hp2⟩ := getE hp1
    have hbp := hb p (List.mem_of_getElem? hp1)
    obtain ⟨pa, pb⟩ := p
    simp [badE] at hbp
    obtain ⟨a, rfl⟩ := Int.eq_ofNat_of_zero_le (a := pa) (by omega)
    obtain ⟨b, rfl⟩ := Int.eq_ofNat_of_zero_le (a := pb) (by omega)
    have ha : a < n := by omega
    have hbn : b < n := by omega
    have htk := take_succ' hp1
    obtain ⟨cs, h1, h2, h3⟩ := beh.ex
    have w2 : IntKind.wrap .i64 (((pre (E.take i) [] (b : Int) : Nat) : Int) + 1) = ((pre (E.take (i + 1)) [] (b : Int) : Nat) : Int) := by
      have : pre (E.take i) [] (b : Int) ≤ (E.take i).length := List.countP_le_length
      have : (E.take i).length ≤ 4000 := by simp; omega
      rw [wrap_id (by omega) (by omega), htk]
      simp [pre, List.countP_append]
    have hset : (aL n (pre (E.take i) [])).set b ((pre (E.take (i + 1)) [] (b : Int) : Nat) : Int) = aL n (pre (E.take (i + 1)) []) := aL_set rfl fun j hj => by
      rw [htk]; simp [pre, List.countP_append]; omega
    simp [s2, o2, s7, o7, s8, s39, s40, s41, hi, hp2, ec, ha, hbn, w2, hset, h1]
    refine W_cut (fun σ' => σ'.sl 2 = .c (.ref 1012002 (σ'.tg 1012002) 0) ∧ σ'.ob 1012002 = some (nbox n) ∧ σ'.sl 7 = .c (.own 1012036 (σ'.tg 1012036)) ∧ σ'.ob 1012036 = some (.mrow 3 1 8 (ic (aL n (pre (E.take (i + 1)) [])))) ∧
        σ'.sl 8 = .c (.sob 1012038 (σ'.tg 1012038) n) ∧ σ'.sl 39 = .c (.sl 2 16 (ecs E)) ∧ σ'.sl 40 = .c (.v (.int .i64 E.length)) ∧ σ'.sl 41 = .c (.v (.int .i64 i)) ∧ σ'.sl 10 = .c (.ref 1012010 (σ'.tg 1012010) 0) ∧
        σ'.ob 1012010 = some (.box 28 [.v (.int .i64 a), .v (.int .i64 b)]) ∧ σ'.ob 1012038 = some (.box 24 (cs.set a (.own 1012201 (σ'.tg 1012201)))) ∧ σ'.ob 1012201 = some (.row 3 1 8 (ic (rows (E.take i) a))) ∧
        ∀ k : Nat, k < n → k ≠ a → (cs[k]? = some (.cap 1 8 []) ∧ rows (E.take i) k = []) ∨ (cs[k]? = some (.own (2000000 + k) (σ'.tg (2000000 + k))) ∧ σ'.ob (2000000 + k) = some (.row 3 1 8 (ic (rows (E.take i) k))))) ?_ ?_
    · rcases h3 a ha with ⟨c1, c2⟩ | ⟨c1, c2⟩
      · refine W_adb (B := 1012038) (tb := 24) (cs := cs) (i := a) (K := 1012201) (ty := 3) (sz := 1) (bs := 8) (es := []) (by simp [h1]) c1 (by decide) ?_
        simp [s2, o2, s7, o7, s8, s39, s40, s41, c2, show ic [] = [] from rfl]
        exact fun k hk hka => h3 k hk
      · refine W_stl (B := 1012038) (tb := 24) (cs := cs) (i := a) (k := 2000000 + a) (t := σ.tg (2000000 + a)) (K := 1012201) (q := .row 3 1 8 (ic (rows (E.take i) a))) (by simp [h1]) c1 (by simp) (by simp [c2]) rfl (by decide) ?_
        simp [s2, o2, s7, o7, s8, s39, s40, s41]
        intro k hk hka
        rcases h3 k hk with h | h
        · exact .inl h
        · exact .inr ⟨h.1, by simp [hka, h.2]⟩
    · clear s2 o2 s7 o7 s8 s39 s40 s41 beh h3 h1
      rintro σ1 ⟨s2, o2, s7, o7, s8, s39, s40, s41, s10, o10, oB, oT, h3⟩
      clear σ
      simp
      refine W_dregD w9 f9 (by decide) ?_
      unfold w9 f9
      have hcs : (cs.set a (.own 1012201 (σ1.tg 1012201)))[a]? = some (.own 1012201 (σ1.tg 1012201)) := by simp [h2, ha]
      simp [s2, o2, s7, o7, s8, s39, s40, s41, s10, o10, oB, oT, ha, hcs, h2, show a + 1 ≤ n from ha, putC_one (l := cs.set a (.own 1012201 (σ1.tg 1012201))) (a := a) (by simp [h2, ha])]
      have hrl : (rows (E.take i) (a : Int)).length ≤ 4000 := by
        have h1 : (rows (E.take i) (a : Int)).length ≤ (E.take i).length := by simp only [rows, List.length_map]; exact List.length_filter_le _ _
        have h2 : (E.take i).length ≤ 4000 := by simp; omega
        omega
      refine ⟨by simp [room], by simp [room]; omega, realC_n ?_⟩
      simp
      refine W_stl (B := 1012038) (tb := 24) (cs := cs.set a (.own 1012063 (σ1.tg 1012063 + 1))) (i := a) (k := 1012063) (t := σ1.tg 1012063 + 1) (K := 2000000 + a) (q := .row 3 1 8 (ic (rows (E.take (i + 1)) a))) (by simp) (by simp [h2, ha]) (by simp) (by simp [htk, rows, ic]) rfl (by simp) ?_
      simp [s41, w1]
      refine ⟨m - 1, by omega, i + 1, by omega, ⟨by simp [s2], by simp [o2], by simp [s7], by simp [o7], by simp [s8], ⟨cs.set a (.own (2000000 + a) (σ1.tg (2000000 + a) + 1)), by simp, by simp [h2], fun k hk => ?_⟩, by simp [s39], by simp [s40], by simp⟩⟩
      by_cases hka : k = a
      · subst hka
        right
        simp [h2, ha]
      · have hr : rows (E.take (i + 1)) (k : Int) = rows (E.take i) (k : Int) := by rw [htk]; simp [rows]; omega
        rw [hr]
        simp [hka, Ne.symm hka]
        exact h3 k hk hka
  · have : i = E.length := by omega
    subst this
    simp [s2, o2, s7, o7, s8, s39, s40, s41]
    exact hQ _ ⟨by simp [s2], by simp [o2], by simp [s7], by simp [o7], by simp [s8], beh.mono (by simp) (by simp), by simp [s39], by simp [s40], by simp [s41]⟩

end Go.Abs

namespace Go.Abs
open Go.Proofs

structure HS (σ : St) (h : List Int) : Prop where
  oB : σ.ob 1012067 = some (hbox (σ.tg 1012200))
  oK : σ.ob 1012200 = some (hrow h) ∨ (σ.ob 1012200 = some (.row 3 1 8 []) ∧ h = [])
theorem HS.mono {σ σ' : St} {h : List Int} (H : HS σ h) (h1 : σ'.ob 1012067 = σ.ob 1012067) (h2 : σ'.ob 1012200 = σ.ob 1012200) (h3 : σ'.tg 1012200 = σ.tg 1012200) : HS σ' h := ⟨by rw [h1, h3]; exact H.oB, by rw [h2]; exact H.oK⟩

def pushed (σ : St) (d : Nat) (h : List Int) (k : Int) : St := (σ.hp 1012067 56 1012200 1 (hrow (pushL h k))).set d (.tup [])
theorem push_call {σ : St} {h : List Int} {d : Nat} {k : Int} {Kc : St → Prop} (H : HS σ h) (hl : h.length < 999999) (hK : Kc (pushed σ d h k)) :
    ECall Tryz.prog σ (.c (.clo 30 [] [])) [.c (.ifc 55 1012067 (σ.tg 1012067)), .c (.v (.iface 3 (.int .i64 k)))] (some d) Kc := by
  rcases H.oK with oK | ⟨oK, rfl⟩
  · exact ECall.hp (r := 1) (args := [ifB (σ.tg 1012067), ifI k]) (zp30 (σ.tg 1012067) (σ.tg 1012200) h k hl) (by simp [toD2, toD1, toD, ifI, ifB]) (by simp) rfl (.inr rfl) (by decide) rfl H.oB rfl oK rfl fun _ => hK
  · exact ECall.hp (r := 1) (args := [ifB (σ.tg 1012067), ifI k]) (zp30n (σ.tg 1012067) (σ.tg 1012200) k) (by simp [toD2, toD1, toD, ifI, ifB]) (by simp) rfl (.inr rfl) (by decide) rfl H.oB rfl oK rfl fun _ => hK
theorem pushed_HS {σ : St} {d : Nat} {h : List Int} {k : Int} : HS (pushed σ d h k) (pushL h k) := ⟨by simp [pushed, hbox], .inl (by simp [pushed])⟩
@[simp] theorem pushed_sl (σ : St) (d : Nat) (h : List Int) (k : Int) (s : Nat) : (pushed σ d h k).sl s = if s = d then .tup [] else σ.sl s := rfl
theorem pushed_ob (σ : St) (d : Nat) (h : List Int) (k : Int) (x : Nat) (h1 : x ≠ 1012067) (h2 : x ≠ 1012200) : (pushed σ d h k).ob x = σ.ob x := by simp [pushed, h1, h2]
theorem pushed_tg (σ : St) (d : Nat) (h : List Int) (k : Int) (x : Nat) (h2 : x ≠ 1012200) : (pushed σ d h k).tg x = σ.tg x := by simp [pushed, h2]

/-- What lies there behind the edges. -/
structure F1 (n : Nat) (E : List Edge2) (cnt : Int → Nat) (h : List Int) (σ : St) : Prop where
  s2 : σ.sl 2 = .c (.ref 1012002 (σ.tg 1012002) 0)
  o2 : σ.ob 1012002 = some (nbox n)
  s7 : σ.sl 7 = .c (.own 1012036 (σ.tg 1012036))
  o7 : σ.ob 1012036 = some (.mrow 3 1 8 (ic (aL n cnt)))
  s8 : σ.sl 8 = .c (.sob 1012038 (σ.tg 1012038) n)
  beh : Beh σ n (rows E)
  s11 : σ.sl 11 = .c (.ref 1012067 (σ.tg 1012067) 0)
  hs : HS σ h

theorem F1.mono {n : Nat} {E : List Edge2} {cnt : Int → Nat} {h : List Int} {σ σ' : St} (H : F1 n E cnt h σ) (hs : ∀ s, s = 2 ∨ s = 7 ∨ s = 8 ∨ s = 11 → σ'.sl s = σ.sl s) (ho : ∀ k, σ'.ob k = σ.ob k) (ht : ∀ k, σ'.tg k = σ.tg k) : F1 n E cnt h σ' :=
  ⟨by rw [hs 2 (by simp), ht]; exact H.s2, by rw [ho]; exact H.o2, by rw [hs 7 (by simp), ht]; exact H.s7, by rw [ho]; exact H.o7, by rw [hs 8 (by simp), ht]; exact H.s8, H.beh.mono (ho _) (fun k _ => ⟨ho k, ht k⟩), by rw [hs 11 (by simp), ht]; exact H.s11, H.hs.mono (ho _) (ho _) (ht _)⟩
theorem F1.pushed {n : Nat} {E : List Edge2} {cnt : Int → Nat} {h : List Int} {σ : St} (H : F1 n E cnt h σ) (d : Nat) (k : Int) (hd : d ≠ 2 ∧ d ≠ 7 ∧ d ≠ 8 ∧ d ≠ 11) : F1 n E cnt (pushL h k) (pushed σ d h k) := by
  obtain ⟨d2, d7, d8, d11⟩ := hd
  refine ⟨?_, ?_, ?_, ?_, ?_, H.beh.mono (pushed_ob _ _ _ _ _ (by decide) (by decide)) (fun x hx => ⟨pushed_ob _ _ _ _ _ (by omega) (by omega), pushed_tg _ _ _ _ _ (by omega)⟩), ?_, pushed_HS⟩
  · rw [pushed_sl, if_neg (Ne.symm d2), pushed_tg _ _ _ _ _ (by decide)]; exact H.s2
  · rw [pushed_ob _ _ _ _ _ (by decide) (by decide)]; exact H.o2
  · rw [pushed_sl, if_neg (Ne.symm d7), pushed_tg _ _ _ _ _ (by decide)]; exact H.s7
  · rw [pushed_ob _ _ _ _ _ (by decide) (by decide)]; exact H.o7
  · rw [pushed_sl, if_neg (Ne.symm d8), pushed_tg _ _ _ _ _ (by decide)]; exact H.s8
  · rw [pushed_sl, if_neg (Ne.symm d11), pushed_tg _ _ _ _ _ (by decide)]; exact H.s11

theorem push_F1 {n : Nat} {E : List Edge2} {cnt : Int → Nat} {σ : St} {h : List Int} {d : Nat} {k : Int} {Kc : St → Prop} (H : F1 n E cnt h σ) (hl : h.length < 999999) (hd : d ≠ 2 ∧ d ≠ 7 ∧ d ≠ 8 ∧ d ≠ 11)
    (hK : ∀ σ', F1 n E cnt (pushL h k) σ' → (∀ s, s ≠ d → σ'.sl s = σ.sl s) → (∀ x, x ≠ 1012067 → x ≠ 1012200 → σ'.ob x = σ.ob x ∧ σ'.tg x = σ.tg x) → Kc σ') :
    ECall Tryz.prog σ (.c (.clo 30 [] [])) [.c (.ifc 55 1012067 (σ.tg 1012067)), .c (.v (.iface 3 (.int .i64 k)))] (some d) Kc :=
  push_call H.hs hl (hK _ (H.pushed d k hd) (fun s hs => by rw [pushed_sl, if_neg hs]) fun x h1 h2 => ⟨pushed_ob _ _ _ _ _ h1 h2, pushed_tg _ _ _ _ _ h2⟩)

/-- The numbers that nothing stands ahead of. -/
theorem loop1 {σ : St} {Q : SEx → St → Prop} (n : Nat) (E : List Edge2) (cnt : Int → Nat) (hn : n ≤ 200) (hc : ∀ k, cnt k ≤ 4000) (h0 : F1 n E cnt [] σ) (s68 : σ.sl 68 = .c (.v (.int .i64 n))) (s69 : σ.sl 69 = .c (.v (.int .i64 (0 : Nat))))
    (hQ : ∀ σ' h, F1 n E cnt h σ' → HI n [] cnt h → Q .normal σ') : W Tryz.prog 1012000 (.loop c1012b1) σ (onBlock 2 Q) := by
  refine W_loop (fun m σ => ∃ (i : Nat) (h : List Int), i + m = n ∧ F1 n E cnt h σ ∧ σ.sl 68 = .c (.v (.int .i64 n)) ∧ σ.sl 69 = .c (.v (.int .i64 i)) ∧ HI n [] (fun k => if k < i then cnt k else 1) h) n ⟨0, [], by simp, h0, s68, s69, ⟨fun k h1 h2 => by simp at h2, by simp, fun k => by
    by_cases h : k < 0
    · simp [h]; intro h1; omega
    · simp [h]⟩⟩ ?_
  clear h0 s68 s69 σ
  rintro m σ ⟨i, h, hm, H, s68, s69, hi⟩
  have H' := H
  obtain ⟨s2, o2, s7, o7, s8, beh, s11, hs⟩ := H'
  unfold c1012b1
  by_cases hin : i < n
  · have w1 := wrap_succ (i := i) (by omega)
    by_cases hz : cnt (i : Int) = 0
    · simp [s2, o2, s7, o7, s8, s11, s68, s69, hin, hz]
      refine push_F1 (n := n) (E := E) (cnt := cnt) (h := h) (H.mono (fun s hs => ?_) (fun k => ?_) (fun k => ?_)) (by have := hi.len; omega) (by decide) fun σ' H' e1 e2 => ?_
      · rcases hs with rfl | rfl | rfl | rfl <;> simp
      · simp
      · simp
      have q68 : σ'.sl 68 = .c (.v (.int .i64 n)) := by rw [e1 68 (by decide)]; simp [s68]
      have q69 : σ'.sl 69 = .c (.v (.int .i64 i)) := by rw [e1 69 (by decide)]; simp [s69]
      simp [q68, q69, w1]
      refine ⟨m - 1, by omega, i + 1, by omega, pushL h i, H'.mono (fun s hs => ?_) (fun k => ?_) (fun k => ?_), by simp, hi.push (by omega) (by omega) (by simp) (by simp) (by simp [show (i : Int) < (i : Int) + 1 by omega]; exact hz) fun j hj => ?_⟩
      · rcases hs with rfl | rfl | rfl | rfl <;> simp
      · simp
      · simp
      · have : (j < (i : Int) + 1) ↔ (j < (i : Int)) := by omega
        simp [this]
    · have hz' : ¬ ((cnt (i : Int) : Nat) : Int) = 0 := by omega
      simp [s2, o2, s7, o7, s8, s11, s68, s69, hin, hz, hz', w1]
      refine ⟨m - 1, by omega, i + 1, by omega, h, H.mono (fun s hs => ?_) (fun k => ?_) (fun k => ?_), by simp, hi.less (k := (i : Int)) (by simp) (by simp [show (i : Int) < (i : Int) + 1 by omega]; exact hz) fun j hj => ?_⟩
      · rcases hs with rfl | rfl | rfl | rfl <;> simp
      · simp
      · simp
      · have : (j < (i : Int) + 1) ↔ (j < (i : Int)) := by omega
        simp [this]
  · have : i = n := by omega
    subst this
    simp [s2, o2, s7, o7, s8, s11, s68, s69]
    refine hQ _ h (H.mono (by rintro s (rfl | rfl | rfl | rfl) <;> simp) (by simp) (by simp)) ⟨hi.heap, hi.nodup, fun k => ?_⟩
    rw [hi.mem]
    by_cases hk : k < (i : Int)
    · simp [hk]
    · simp [hk]
      try omega

end Go.Abs

namespace Go.Abs
open Go.Proofs

theorem pop_F1 {n : Nat} {E : List Edge2} {cnt : Int → Nat} {σ : St} {h : List Int} {d : Nat} {Kc : St → Prop} (H : F1 n E cnt h σ) (h0 : 0 < h.length) (hl : h.length < 999999) (hd : d ≠ 2 ∧ d ≠ 7 ∧ d ≠ 8 ∧ d ≠ 11)
    (hK : ∀ σ', F1 n E cnt (popL h).dropLast σ' → σ'.sl d = ifI (popL h)[h.length - 1]! → (∀ s, s ≠ d → σ'.sl s = σ.sl s) → (∀ x, x ≠ 1012067 → x ≠ 1012200 → σ'.ob x = σ.ob x ∧ σ'.tg x = σ.tg x) → Kc σ') :
    ECall Tryz.prog σ (.c (.clo 32 [] [])) [.c (.ifc 55 1012067 (σ.tg 1012067))] (some d) Kc := by
  have oK : σ.ob 1012200 = some (hrow h) := by
    rcases H.hs.oK with h1 | ⟨_, h2⟩
    · exact h1
    · subst h2; simp at h0
  refine ECall.hp (r := 1) (q' := hrow (popL h).dropLast) (args := [ifB (σ.tg 1012067)]) (zp32 (σ.tg 1012067) (σ.tg 1012200) h h0 hl) (by simp [toD2, toD1, toD, ifB]) (by simp) rfl (.inr rfl) (by decide) rfl H.hs.oB rfl oK rfl fun _ => ?_
  obtain ⟨d2, d7, d8, d11⟩ := hd
  have ob : ∀ x, x ≠ 1012067 → x ≠ 1012200 → (((σ.hp 1012067 56 1012200 1 (hrow (popL h).dropLast)).set d (ifI (popL h)[h.length - 1]!)).ob x = σ.ob x ∧ ((σ.hp 1012067 56 1012200 1 (hrow (popL h).dropLast)).set d (ifI (popL h)[h.length - 1]!)).tg x = σ.tg x) := fun x h1 h2 => by simp [h1, h2]
  refine hK _ ⟨?_, ?_, ?_, ?_, ?_, H.beh.mono (ob _ (by decide) (by decide)).1 (fun x hx => ob _ (by omega) (by omega)), ?_, ⟨by simp [hbox], .inl (by simp)⟩⟩ (by simp) (fun s hs => by simp [hs]) ob
  · rw [set_sl, if_neg (Ne.symm d2), (ob _ (by decide) (by decide)).2]; exact H.s2
  · rw [(ob _ (by decide) (by decide)).1]; exact H.o2
  · rw [set_sl, if_neg (Ne.symm d7), (ob _ (by decide) (by decide)).2]; exact H.s7
  · rw [(ob _ (by decide) (by decide)).1]; exact H.o7
  · rw [set_sl, if_neg (Ne.symm d8), (ob _ (by decide) (by decide)).2]; exact H.s8
  · rw [set_sl, if_neg (Ne.symm d11), set_tg, hp_tg, if_neg (by decide)]; exact H.s11

/-- The heap's length. -/
theorem len_F1 {σ : St} {h : List Int} {d : Nat} {Kc : St → Prop} (H : HS σ h) (hK : Kc (σ.set d (ib h.length))) :
    ECall Tryz.prog σ (.c (.clo 31 [] [])) [.c (.own 1012200 (σ.tg 1012200))] (some d) Kc := by
  rcases H.oK with oK | ⟨oK, rfl⟩
  · exact ECall.ro (rs := []) (args := [.c (.own 1012200 (σ.tg 1012200))]) [(1012200, σ.tg 1012200, hrow h)] (by simpa [refs] using zp31 (σ.tg 1012200) h) (by simp [toD2, toD1, toD, oK, hrow]) (by simp) rfl (Ro.one oK rfl rfl) fun _ => hK
  · exact ECall.fn (args := [is []]) (zn31 []) (by simp [toD2, toD1, toD, oK, is]) (by simp) rfl fun _ => hK

/-- What stays while the edges of one number are taken off. -/
structure F2 (n : Nat) (E : List Edge2) (out : List Int) (i : Nat) (cnt : Int → Nat) (h : List Int) (σ : St) : Prop where
  f1 : F1 n E cnt h σ
  s13 : σ.sl 13 = .c (.own 1012100 (σ.tg 1012100))
  o13 : σ.ob 1012100 = some (.row 3 1 8 (ic out))
  s104 : σ.sl 104 = .c (.own (2000000 + i) (σ.tg (2000000 + i)))
  o104 : σ.ob (2000000 + i) = some (.row 3 1 8 (ic (rows E i)))
  s105 : σ.sl 105 = .c (.v (.int .i64 (rows E i).length))
theorem F2.mono {n : Nat} {E : List Edge2} {out : List Int} {i : Nat} {cnt : Int → Nat} {h : List Int} {σ σ' : St} (H : F2 n E out i cnt h σ) (hs : ∀ s, s = 2 ∨ s = 7 ∨ s = 8 ∨ s = 11 ∨ s = 13 ∨ s = 104 ∨ s = 105 → σ'.sl s = σ.sl s) (ho : ∀ k, σ'.ob k = σ.ob k) (ht : ∀ k, σ'.tg k = σ.tg k) : F2 n E out i cnt h σ' :=
  ⟨H.f1.mono (fun s h => hs s (by rcases h with h | h | h | h <;> simp [h])) ho ht, by rw [hs 13 (by simp), ht]; exact H.s13, by rw [ho]; exact H.o13, by rw [hs 104 (by simp), ht]; exact H.s104, by rw [ho]; exact H.o104, by rw [hs 105 (by simp)]; exact H.s105⟩

theorem loop2 {σ : St} {Q : SEx → St → Prop} (n : Nat) (E : List Edge2) (out : List Int) (i : Nat) (hn : n ≤ 200) (hE : E.length ≤ 4000) (hb : ∀ p, p ∈ E → badE n p = false) (h : List Int)
    (h0 : F2 n E out i (fun k => pre E out k + (rows E i).count k) h σ) (s106 : σ.sl 106 = .c (.v (.int .i64 (0 : Nat)))) (hi : HI n out (fun k => pre E out k + (rows E i).count k) h) (hz : ∀ x, x ∈ out → pre E out x + (rows E i).count x = 0)
    (hQ : ∀ σ' h, F2 n E out i (pre E out) h σ' → HI n out (pre E out) h → Q .normal σ') : W Tryz.prog 1012000 (.loop c1012b2) σ (onBlock 6 Q) := by
  refine W_loop (fun m σ => ∃ (j : Nat) (h : List Int), j + m = (rows E i).length ∧ F2 n E out i (fun k => pre E out k + ((rows E i).drop j).count k) h σ ∧ σ.sl 106 = .c (.v (.int .i64 j)) ∧ HI n out (fun k => pre E out k + ((rows E i).drop j).count k) h ∧ ∀ x, x ∈ out → pre E out x + ((rows E i).drop j).count x = 0) (rows E i).length ⟨0, h, by simp, by simpa using h0, s106, by simpa using hi, by simpa using hz⟩ ?_
  clear h0 s106 hi hz h σ
  rintro m σ ⟨j, h, hm, H, s106, hi, hz⟩
  have hrl : (rows E (i : Int)).length ≤ 4000 := by
    have h1 : (rows E (i : Int)).length ≤ E.length := by simp only [rows, List.length_map]; exact List.length_filter_le _ _
    omega
  unfold c1012b2
  have s105 := H.s105
  by_cases hj : j < (rows E i).length
  · have w1 := wrap_succ (i := j) (by omega)
    obtain ⟨kI, hk1⟩ := at_of hj
    obtain ⟨_, hk2⟩ := getE hk1
    have hkm : kI ∈ rows E i := List.mem_of_getElem? hk1
    obtain ⟨p, hp1, hp2⟩ := List.mem_map.1 hkm
    have hbp := hb p (List.mem_filter.1 hp1).1
    simp [badE] at hbp
    obtain ⟨k, rfl⟩ := Int.eq_ofNat_of_zero_le (a := kI) (by omega)
    have hkn : k < n := by omega
    have hdr := drop_at hk1
    -- the counts, one edge less
    have hc : ∀ x : Int, pre E out x + ((rows E i).drop j).count x = pre E out x + ((rows E i).drop (j + 1)).count x + if x = k then 1 else 0 := fun x => by
      rw [hdr]
      by_cases e : x = k
      · subst e; simp; omega
      · rw [List.count_cons_of_ne (Ne.symm e)]; simp [e]
    have hck : pre E out (k : Int) + ((rows E i).drop j).count (k : Int) = pre E out (k : Int) + ((rows E i).drop (j + 1)).count (k : Int) + 1 := by simpa using hc k
    have hno : (k : Int) ∉ out := fun h => by have := hz k h; omega
    have hlt : pre E out (k : Int) + ((rows E i).drop j).count (k : Int) ≤ 8000 := by
      have h1 : pre E out (k : Int) ≤ E.length := List.countP_le_length
      have h2 : ((rows E i).drop j).count (k : Int) ≤ ((rows E i).drop j).length := List.count_le_length
      simp at h2
      omega
    obtain ⟨c1, hc1⟩ : ∃ c1 : Int → Nat, c1 = fun k => pre E out k + ((rows E i).drop (j + 1)).count k := ⟨_, rfl⟩
    generalize hc0 : (fun k => pre E out k + ((rows E i).drop j).count k) = c0 at H hi
    have e0 : ∀ x, c0 x = c1 x + if x = k then 1 else 0 := fun x => by rw [← hc0, hc1]; exact hc x
    have ek : c0 (k : Int) = c1 (k : Int) + 1 := by simpa using e0 k
    have ekl : c0 (k : Int) ≤ 8000 := by rw [← hc0]; exact hlt
    have en : ∀ x : Int, x ≠ k → c1 x = c0 x := fun x hx => by have := e0 x; rw [if_neg hx] at this; exact this.symm
    have hz2 : ∀ x, x ∈ out → pre E out x + ((rows E i).drop (j + 1)).count x = 0 := fun x hx => by have := hz x hx; have := hc x; omega
    clear hc hck hlt hz e0 hc0
    obtain ⟨⟨s2, o2, s7, o7, s8, beh, s11, hs⟩, s13, o13, s104, o104, s105⟩ := H
    have w2 : IntKind.wrap .i64 (((c0 (k : Int) : Nat) : Int) - 1) = ((c1 (k : Int) : Nat) : Int) := by rw [wrap_id (by omega) (by omega)]; omega
    have hset : (aL n c0).set k ((c1 (k : Int) : Nat) : Int) = aL n c1 := aL_set rfl fun x hx => en x (by omega)
    by_cases hz0 : c1 (k : Int) = 0
    · have hset0 : (aL n c0).set k 0 = aL n c1 := by rw [← hset, hz0]; rfl
      simp [s2, o2, s7, o7, s8, s11, s13, o13, s104, o104, s105, s106, hj, hk2, hkn, w2, hset0, hz0]
      refine push_F1 (n := n) (E := E) (cnt := c1) (h := h) ⟨by simp [s2], by simp [o2], by simp [s7], by simp, by simp [s8], beh.mono (by simp) (fun x hx => by have h1 : x ≠ 1012036 := (by omega); simp [h1]), by simp [s11], hs.mono (by simp) (by simp) (by simp)⟩ (by have := hi.len; omega) (by decide) fun σ' H' e1 e2 => ?_
      have q106 : σ'.sl 106 = .c (.v (.int .i64 j)) := by rw [e1 106 (by decide)]; simp [s106]
      simp [q106, w1]
      refine ⟨m - 1, by omega, j + 1, by omega, pushL h k, ?_, by simp, ?_, fun x hx => by have := hz2 x hx; omega⟩
      · rw [← hc1]
        refine F2.mono (σ := σ') ⟨H', by rw [e1 13 (by decide), (e2 1012100 (by decide) (by decide)).2]; simp [s13], by rw [(e2 1012100 (by decide) (by decide)).1]; simp [o13], by rw [e1 104 (by decide), (e2 (2000000 + i) (by omega) (by omega)).2]; simp [s104], by rw [(e2 (2000000 + i) (by omega) (by omega)).1]; simp [o104], by rw [e1 105 (by decide)]; simp [s105]⟩ (fun s hs => ?_) (fun k => ?_) (fun k => ?_)
        · rcases hs with rfl | rfl | rfl | rfl | rfl | rfl | rfl <;> simp
        · simp
        · simp
      · rw [← hc1]
        exact hi.push (by omega) (by omega) hno (by omega) hz0 en
    · have hz' : ¬ ((c1 (k : Int) : Nat) : Int) = 0 := by omega
      simp [s2, o2, s7, o7, s8, s11, s13, o13, s104, o104, s105, s106, hj, hk2, hkn, w2, hset, hz', w1, hz0]
      refine ⟨m - 1, by omega, j + 1, by omega, h, ?_, by simp, ?_, fun x hx => by have := hz2 x hx; omega⟩
      · rw [← hc1]
        exact ⟨⟨by simp [s2], by simp [o2], by simp [s7], by simp, by simp [s8], beh.mono (by simp) (fun x hx => by have h1 : x ≠ 1012036 := (by omega); simp [h1]), by simp [s11], hs.mono (by simp) (by simp) (by simp)⟩, by simp [s13], by simp [o13], by simp [s104], by simp [o104], by simp [s105]⟩
      · rw [← hc1]
        exact hi.less (k := (k : Int)) (by omega) hz0 en
  · have : j = (rows E i).length := by omega
    subst this
    simp at H hi
    simp [s105, s106]
    refine hQ _ h (H.mono (fun s hs => ?_) (fun k => ?_) (fun k => ?_)) hi
    · rcases hs with rfl | rfl | rfl | rfl | rfl | rfl | rfl <;> simp
    · simp
    · simp

end Go.Abs

namespace Go.Abs
open Go.Proofs

def OutSt (out : List Int) (σ : St) : Prop := (σ.sl 13 = .c (.cap 1 8 []) ∧ out = []) ∨ (σ.sl 13 = .c (.own 1012100 (σ.tg 1012100)) ∧ σ.ob 1012100 = some (.row 3 1 8 (ic out)))

theorem loop3 {σ : St} {Q : SEx → St → Prop} (n : Nat) (E : List Edge2) (hn : n ≤ 200) (hE : E.length ≤ 4000) (hb : ∀ p, p ∈ E → badE n p = false) (h : List Int)
    (h0 : F1 n E (pre E []) h σ) (s13 : σ.sl 13 = .c (.cap 1 8 [])) (hi : HI n [] (pre E []) h)
    (hQ : ∀ σ', σ'.sl 2 = .c (.ref 1012002 (σ'.tg 1012002) 0) → σ'.ob 1012002 = some (nbox n) → OutSt (greedy n E n []) σ' → (greedy n E n []).length ≤ n → Q .normal σ') : W Tryz.prog 1012000 (.loop c1012b3) σ (onBlock 4 Q) := by
  refine W_loop (fun m σ => ∃ (out h : List Int), m = n - out.length ∧ F1 n E (pre E out) h σ ∧ OutSt out σ ∧ HI n out (pre E out) h ∧ (∀ x, x ∈ out → pre E out x = 0) ∧ out.Nodup ∧ (∀ x, x ∈ out → 0 ≤ x ∧ x < n) ∧ greedy n E m out = greedy n E n []) n ⟨[], h, rfl, h0, .inl ⟨s13, rfl⟩, hi, by simp, by simp, by simp, rfl⟩ ?_
  clear h0 s13 hi h σ
  rintro m σ ⟨out, h, hm, H, ho, hi, hz, hnd, hr, hg⟩
  have hlen := nodup_le hnd hr
  obtain ⟨s2, o2, s7, o7, s8, beh, s11, hs⟩ := H
  have H : F1 n E (pre E out) h σ := ⟨s2, o2, s7, o7, s8, beh, s11, hs⟩
  unfold c1012b3
  have oB := hs.oB
  simp [s2, o2, s7, o7, s8, s11, oB, hbox]
  refine len_F1 (h := h) (hs.mono (by simp) (by simp) (by simp)) ?_
  by_cases h0 : 0 < h.length
  · obtain ⟨p1, p2, p3, p4, p5, p6⟩ := hi.pop h0 hz
    simp [ib, h0, s11]
    refine pop_F1 (n := n) (E := E) (cnt := pre E out) (h := h) (H.mono (fun s hs => ?_) (fun k => ?_) (fun k => ?_)) h0 (by have := hi.len; omega) (by decide) fun σ1 H1 e0 e1 e2 => ?_
    · rcases hs with rfl | rfl | rfl | rfl <;> simp
    · simp
    · simp
    have ho1 : OutSt out σ1 := by
      rcases ho with ⟨q1, q2⟩ | ⟨q1, q2⟩
      · exact .inl ⟨by rw [e1 13 (by decide)]; simp [q1], q2⟩
      · exact .inr ⟨by rw [e1 13 (by decide), (e2 1012100 (by decide) (by decide)).2]; simp [q1], by rw [(e2 1012100 (by decide) (by decide)).1]; simp [q2]⟩
    clear e1 e2 s2 o2 s7 o7 s8 beh s11 hs H oB ho
    generalize (popL h)[h.length - 1]! = iI at *
    obtain ⟨i, rfl⟩ := Int.eq_ofNat_of_zero_le p2
    have hin : i < n := by omega
    clear σ
    simp [e0, ifI, -W_seq]
    rw [W_seq, W_seq]
    simp [-W_seq]
    rw [W_seq]
    refine W_cut (fun σ => F1 n E (pre E out) (popL h).dropLast σ ∧ σ.sl 14 = .c (.v (.int .i64 i)) ∧ σ.sl 13 = .c (.own 1012100 (σ.tg 1012100)) ∧ σ.ob 1012100 = some (.row 3 1 8 (ic (out ++ [(i : Int)])))) ?_ ?_
    · have hol : (out.length + 1) * 8 ≤ room := by simp [room]; omega
      have F : ∀ σ2 : St, (∀ s, s = 2 ∨ s = 7 ∨ s = 8 ∨ s = 11 → σ2.sl s = σ1.sl s) → (∀ k, k ≠ 1012100 → σ2.ob k = σ1.ob k ∧ σ2.tg k = σ1.tg k) → F1 n E (pre E out) (popL h).dropLast σ2 := fun σ2 q1 q2 => by
        obtain ⟨s2, o2, s7, o7, s8, beh, s11, hs⟩ := H1
        exact ⟨by rw [q1 2 (by simp), (q2 _ (by decide)).2]; exact s2, by rw [(q2 _ (by decide)).1]; exact o2, by rw [q1 7 (by simp), (q2 _ (by decide)).2]; exact s7, by rw [(q2 _ (by decide)).1]; exact o7, by rw [q1 8 (by simp), (q2 _ (by decide)).2]; exact s8, beh.mono (q2 _ (by decide)).1 (fun x hx => q2 x (by omega)), by rw [q1 11 (by simp), (q2 _ (by decide)).2]; exact s11, hs.mono (q2 _ (by decide)).1 (q2 _ (by decide)).1 (q2 _ (by decide)).2⟩
      rcases ho1 with ⟨q1, rfl⟩ | ⟨q1, q2⟩
      · simp [q1]
        refine ⟨by simp [room], F _ (fun s hs => ?_) (fun k hk => ?_), by simp [ic]⟩
        · rcases hs with rfl | rfl | rfl | rfl <;> simp
        · simp [hk]
      · simp [q1, q2]
        refine ⟨by simp [room], by simpa using hol, F _ (fun s hs => ?_) (fun k hk => ?_), by simp [ic]⟩
        · rcases hs with rfl | rfl | rfl | rfl <;> simp
        · simp [hk]
    · rintro σ2 ⟨H2, s14, s13, o13⟩
      clear e0 ho1 H1 σ1
      simp
      refine W_cut (fun σ => F1 n E (pre E out) (popL h).dropLast σ ∧ σ.sl 14 = .c (.v (.int .i64 i)) ∧ σ.sl 13 = .c (.own 1012100 (σ.tg 1012100)) ∧ σ.ob 1012100 = some (.row 3 1 8 (ic (out ++ [(i : Int)]))) ∧
          ∃ cs : List Cell, σ.ob 1012038 = some (.box 24 cs) ∧ cs.length = n ∧ cs[i]? = some (.own (2000000 + i) (σ.tg (2000000 + i))) ∧ σ.ob (2000000 + i) = some (.row 3 1 8 (ic (rows E i)))) ?_ ?_
      · obtain ⟨cs, h1, h2, h3⟩ := H2.beh.ex
        rcases h3 i hin with ⟨c1, c2⟩ | ⟨c1, c2⟩
        · refine W_adb (B := 1012038) (tb := 24) (cs := cs) (i := i) (K := 2000000 + i) (ty := 3) (sz := 1) (bs := 8) (es := []) (by simp [h1]) c1 (by simp) ?_
          simp [s14, s13, o13, c2, h2, hin]
          refine ⟨?_, rfl⟩
          obtain ⟨s2, o2, s7, o7, s8, beh, s11, hs⟩ := H2
          refine ⟨by simp [s2], by simp [o2], by simp [s7], by simp [o7], by simp [s8], ⟨cs.set i (.own (2000000 + i) (σ2.tg (2000000 + i) + 1)), by simp, by simp [h2], fun k hk => ?_⟩, by simp [s11], hs.mono (by simp) (by simp) (by simp)⟩
          by_cases hki : k = i
          · subst hki
            right
            simp [h2, hk, c2, show ic [] = [] from rfl]
          · simp [hki, Ne.symm hki]
            exact h3 k hk
        · refine W_gh (.refl _) ?_
          exact ⟨H2, s14, s13, o13, cs, h1, h2, c1, c2⟩
      · rintro σ3 ⟨H3, s14, s13, o13, cs, h1, h2, c1, c2⟩
        have s8 := H3.s8
        obtain ⟨_, c1'⟩ := getE c1
        simp [s14, s13, s8, h1, h2, c1', c2, hin]
        have hfun : pre E out = fun k => pre E (out ++ [(i : Int)]) k + (rows E (i : Int)).count k := funext fun k => pre_step E out i k p4
        have hout : (out ++ [(i : Int)]).Nodup := by
          rw [List.nodup_append]
          exact ⟨hnd, by simp, fun a ha b hb => by simp at hb; subst hb; intro e; subst e; exact p4 ha⟩
        have hrange : ∀ x, x ∈ out ++ [(i : Int)] → 0 ≤ x ∧ x < n := fun x hx => by
          rcases List.mem_append.1 hx with h | h
          · exact hr x h
          · simp at h; omega
        have hlen2 := nodup_le hout hrange
        simp at hlen2
        refine loop2 n E (out ++ [(i : Int)]) i hn hE hb (popL h).dropLast ?_ (by simp) p5 p6 fun σ' h' H' hi' => ?_
        · rw [← hfun]
          exact ⟨H3.mono (fun s hs => by rcases hs with rfl | rfl | rfl | rfl <;> simp) (by simp) (by simp), by simp [s13], by simp [o13], by simp, by simp [c2], by simp⟩
        · simp
          refine ⟨m - 1, by omega, out ++ [(i : Int)], by simp; omega, h', H'.f1, .inr ⟨H'.s13, H'.o13⟩, hi', fun x hx => ?_, hout, fun x hx => hrange x (by simpa using hx), ?_⟩
          · have := p6 x (by simpa using hx); omega
          · obtain ⟨m', rfl⟩ : ∃ m', m = m' + 1 := ⟨m - 1, by omega⟩
            rw [greedy, p1] at hg
            exact hg
  · have h0' : h = [] := by cases h with | nil => rfl | cons x l => simp at h0
    subst h0'
    have hfin : greedy n E m out = out := by
      cases m with
      | zero => rfl
      | succ m =>
        rw [greedy, nextG_none fun j j0 j1 jo jp => ?_]
        have := (hi.mem j).2 ⟨j0, j1, jo, jp⟩
        simp at this
    simp [ib]
    rw [hfin] at hg
    refine hQ _ (by simp [s2]) (by simp [o2]) ?_ (by rw [← hg]; exact hlen)
    rw [← hg]
    rcases ho with ⟨q1, q2⟩ | ⟨q1, q2⟩
    · exact .inl ⟨by simp [q1], q2⟩
    · exact .inr ⟨by simp [q1], by simp [q2]⟩

end Go.Abs

namespace Go.Abs
open Go.Proofs

theorem aL_zero (k : Nat) : List.replicate k [Cell.v (.int .i64 0)] = ic (aL k (pre [] [])) := by
  refine List.ext_getElem (by simp) fun j h1 h2 => ?_
  simp [pre]
theorem beh_zero {σ : St} {k : Nat} (h : σ.ob 1012038 = some (.box 24 (List.replicate k (.cap 1 8 [])))) : Beh σ k (rows []) := ⟨_, h, by simp, fun j hj => .inl ⟨by simp [hj], rfl⟩⟩
def ordAV (n : Int) (E : List Edge2) : AV := .tup [is (ord n E).1, ib (ord n E).2]

theorem zn12 (n : Int) (E : List Edge2) : Fn Tryz.prog 12 [ib n, eds E] (ordAV n E) := by
  refine fn_of (base := 1012000) ok1012 rfl fun σ h0 hr => ?_
  have s0 : σ.sl 0 = .c (.v (.int .i64 n)) := h0 0
  have s1 : σ.sl 1 = .c (.sl 2 16 (ecs E)) := h0 1
  have hEl := real_eds (hr (eds E) (by simp))
  clear h0 hr
  unfold c1012
  have bad : wrongE n E = true → ord n E = ([], 1) := fun h => by simp [ord, h]
  by_cases c1 : n < 0
  · have hw : wrongE n E = true := by simp [wrongE, c1]
    simp [s0, s1, c1]
    refine GCall.fn (res := bb false) (fun h => by cases h) rfl (by simp) rfl fun _ => ?_
    simp [ordAV, bad hw, r1012, is, ib, bb]
  · by_cases c2 : 200 < n
    · have hw : wrongE n E = true := by simp [wrongE, c2]
      simp [s0, s1, c1, c2]
      refine GCall.fn (res := bb false) (fun h => by cases h) rfl (by simp) rfl fun _ => ?_
      simp [ordAV, bad hw, r1012, is, ib, bb]
    · by_cases c3 : 4000 < E.length
      · have hw : wrongE n E = true := by simp [wrongE, c3]
        have c3' : (4000 : Int) < E.length := by omega
        simp [s0, s1, c1, c2, c3, c3']
        refine GCall.fn (res := bb false) (fun h => by cases h) rfl (by simp) rfl fun _ => ?_
        simp [ordAV, bad hw, r1012, is, ib, bb]
      · have c3' : ¬ (4000 : Int) < E.length := by omega
        simp [s0, s1, c1, c2, c3, c3']
        refine GCall.ro (rs := []) (args := [eds E, .c (.clo 28 [] [(1012002, σ.tg 1012002 + 1)])]) [(1012002, σ.tg 1012002 + 1, nbox n)] (fun _ => by simpa [refs] using zp29 (σ.tg 1012002 + 1) n E) (by simp [toD2, toD1, toD, eds]) (by simp) rfl (Ro.one (by simp [nbox]) (by simp) rfl) fun _ => ?_
        by_cases c4 : E.any (badE n) = true
        · have hw : wrongE n E = true := by simp only [wrongE, c4, Bool.or_true]
          rw [c4]
          simp [ordAV, bad hw, r1012, is, ib, bb]
        · have c4 : E.any (badE n) = false := by simpa using c4
          rw [c4]
          have hw : wrongE n E = false := by simp only [wrongE, c4, Bool.or_false]; simp [c1, c2, c3]
          obtain ⟨k, rfl⟩ := Int.eq_ofNat_of_zero_le (a := n) (by omega)
          have hk : k ≤ 200 := by omega
          simp [bb]
          refine W_dregD w1012_0 f1012_0 (by decide) ?_
          unfold w1012_0 f1012_0
          simp [s0, s1]
          refine ⟨by simp [room]; omega, by simp [room]; omega, realC_n ?_⟩
          simp [s0, s1]
          have hb : ∀ p, p ∈ E → badE k p = false := fun p hp => by
            have := List.any_eq_false.1 c4 p hp
            simpa using this
          refine loop0 k E hk (by omega) hb ⟨by simp, by simp [nbox], by simp, by simp [aL_zero], by simp, beh_zero (by simp), by simp, by simp, by simp⟩ fun σ1 H1 => ?_
          clear s0 s1 σ
          obtain ⟨s2, o2, s7, o7, s8, beh, s39, s40, s41⟩ := H1
          simp only [List.take_length] at o7 beh
          simp [s2, o2, s7, o7, s8]
          refine W_adb (B := 1012067) (tb := 56) (cs := [.cap 1 8 []]) (i := 0) (K := 1012200) (ty := 3) (sz := 1) (bs := 8) (es := []) (by simp) rfl (by decide) ?_
          simp [s2, o2, s7, o7, s8, nbox]
          refine loop1 k E (pre E []) hk (fun x => Nat.le_trans List.countP_le_length (by omega)) ⟨by simp [s2], by simp [o2, nbox], by simp [s7], by simp [o7], by simp [s8], beh.mono (by simp) (fun x hx => by have h1 : x ≠ 1012067 := (by omega); have h2 : x ≠ 1012200 := (by omega); simp [h1, h2]), by simp, ⟨by simp [hbox], .inr ⟨by simp, rfl⟩⟩⟩ (by simp) (by simp) fun σ2 h H2 hi => ?_
          clear s2 o2 s7 o7 s8 beh s39 s40 s41 σ1
          simp
          refine loop3 k E hk (by omega) hb h (H2.mono (fun s hs => by rcases hs with rfl | rfl | rfl | rfl <;> simp) (by simp) (by simp)) (by simp) hi fun σ3 s2 o2 ho hgl => ?_
          clear H2 hi σ2
          have hord : ord k E = if (greedy k E k []).length < k then ([], 12) else (greedy k E k [], 0) := by simp [ord, hw]
          rcases ho with ⟨s13, hg⟩ | ⟨s13, o13⟩
          · rw [hg] at hord
            by_cases hk0 : 0 < k
            · simp [s13, s2, o2, nbox, hk0, ordAV, hord, r1012, is, ib]
            · simp [s13, s2, o2, nbox, hk0, ordAV, hord, r1012, is, ib]
          · by_cases hlk : (greedy k E k []).length < k
            · simp [s13, o13, s2, o2, nbox, hlk, ordAV, hord, r1012, is, ib]
            · simp [s13, o13, s2, o2, nbox, hlk, ordAV, hord, r1012, is, ib, ic]

end Go.Abs

namespace Go.Abs

/- porism/porismlaw21.DepsOrder -/
def w1003_0 : List (List Nat) := [[], [], [], [], [], [], [], [], [], [], [], [], [1003090], [], [1003092]]
def f1003_0 : List (List Nat) := [[], [], [], [], [], [1003090], [], [], [], [], [], [], [], [], []]
def c1003b0 : SCode :=
  .seq (.seq (.reg
         [⟨some 29, none, .mv (.t 7)⟩,
          ⟨some 30, none, .mv (.t 1)⟩,
          ⟨some 31, none, .len 22 (.t 30)⟩,
          ⟨some 32, none, .bin .lss (.t 29) (.t 31)⟩])
    (.cond (.t 32)
      (.skip)
      (.exit 0)))
  (.seq (.block 1 (.seq (.reg
           [⟨some 35, none, .mv (.t 1)⟩,
            ⟨some 36, none, .mv (.t 7)⟩,
            ⟨some 37, none, .iad 28 2 (.t 35) (.t 36)⟩,
            ⟨some 38, none, .iaa 3 1 2 (.t 37) (.k (.int .i64 0))⟩,
            ⟨some 39, none, .ld1 3 (.t 38)⟩,
            ⟨some 40, none, .bin .lss (.t 39) (.k (.int .i64 0))⟩,
            ⟨some 41, none, .mv (.t 40)⟩,
            ⟨some 42, some (41, false), .mv (.t 1)⟩,
            ⟨some 43, some (41, false), .mv (.t 7)⟩,
            ⟨some 44, some (41, false), .iad 28 2 (.t 42) (.t 43)⟩,
            ⟨some 45, some (41, false), .iaa 3 1 2 (.t 44) (.k (.int .i64 0))⟩,
            ⟨some 46, some (41, false), .ld1 3 (.t 45)⟩,
            ⟨some 47, some (41, false), .mv (.t 0)⟩,
            ⟨some 48, some (41, false), .bin .geq (.t 46) (.t 47)⟩,
            ⟨some 49, none, .pick (.t 41) (.k (.bool true)) (.t 48)⟩,
            ⟨some 50, none, .mv (.t 49)⟩,
            ⟨some 51, some (50, false), .mv (.t 1)⟩,
            ⟨some 52, some (50, false), .mv (.t 7)⟩,
            ⟨some 53, some (50, false), .iad 28 2 (.t 51) (.t 52)⟩,
            ⟨some 54, some (50, false), .iaa 3 1 2 (.t 53) (.k (.int .i64 1))⟩,
            ⟨some 55, some (50, false), .ld1 3 (.t 54)⟩,
            ⟨some 56, some (50, false), .bin .lss (.t 55) (.k (.int .i64 0))⟩,
            ⟨some 57, none, .pick (.t 50) (.k (.bool true)) (.t 56)⟩,
            ⟨some 58, none, .mv (.t 57)⟩,
            ⟨some 59, some (58, false), .mv (.t 1)⟩,
            ⟨some 60, some (58, false), .mv (.t 7)⟩,
            ⟨some 61, some (58, false), .iad 28 2 (.t 59) (.t 60)⟩,
            ⟨some 62, some (58, false), .iaa 3 1 2 (.t 61) (.k (.int .i64 1))⟩,
            ⟨some 63, some (58, false), .ld1 3 (.t 62)⟩,
            ⟨some 64, some (58, false), .mv (.t 0)⟩,
            ⟨some 65, some (58, false), .bin .geq (.t 63) (.t 64)⟩,
            ⟨some 66, none, .pick (.t 58) (.k (.bool true)) (.t 65)⟩])
      (.cond (.t 66)
        (.seq (.reg
             [⟨some 67, none, .mv (.t 6)⟩,
              ⟨some 68, none, .bin .eql (.t 67) (.k (.int .i64 1))⟩,
              ⟨some 69, none, .mv (.t 68)⟩,
              ⟨some 70, some (69, true), .mv (.t 5)⟩,
              ⟨some 71, some (69, true), .len 24 (.t 70)⟩,
              ⟨some 72, some (69, true), .bin .eql (.t 71) (.k (.int .i64 0))⟩,
              ⟨some 73, none, .pick (.t 69) (.t 72) (.k (.bool false))⟩,
              ⟨some 74, none, .mv (.t 73)⟩,
              ⟨some 75, some (74, true), .call (.f 13) []⟩,
              ⟨some 76, none, .pick (.t 74) (.t 75) (.k (.bool false))⟩,
              ⟨some 4, none, .mv (.t 76)⟩])
        (.ret))
        (.skip))))
  (.reg
     [⟨some 33, none, .mv (.t 7)⟩,
      ⟨some 34, none, .bin .add (.t 33) (.k (.int .i64 1))⟩,
      ⟨some 7, none, .mv (.t 34)⟩]))
def c1003b1 : SCode :=
  .seq (.seq (.reg
         [⟨some 97, none, .mv (.t 10)⟩,
          ⟨some 98, none, .mv (.t 0)⟩,
          ⟨some 99, none, .bin .lss (.t 97) (.t 98)⟩])
    (.cond (.t 99)
      (.skip)
      (.exit 2)))
  (.seq (.block 3 (.seq (.seq (.reg
             [⟨some 102, none, .mv (.t 5)⟩,
              ⟨some 103, none, .mv (.t 10)⟩,
              ⟨some 104, none, .iad 3 1 (.t 102) (.t 103)⟩,
              ⟨some 105, none, .ld1 3 (.t 104)⟩,
              ⟨some 106, none, .bin .lss (.t 105) (.k (.int .i64 0))⟩,
              ⟨some 107, none, .mv (.t 106)⟩,
              ⟨some 108, some (107, false), .mv (.t 5)⟩,
              ⟨some 109, some (107, false), .mv (.t 10)⟩,
              ⟨some 110, some (107, false), .iad 3 1 (.t 108) (.t 109)⟩,
              ⟨some 111, some (107, false), .ld1 3 (.t 110)⟩,
              ⟨some 112, some (107, false), .mv (.t 0)⟩,
              ⟨some 113, some (107, false), .bin .geq (.t 111) (.t 112)⟩,
              ⟨some 114, none, .pick (.t 107) (.k (.bool true)) (.t 113)⟩,
              ⟨some 115, none, .mv (.t 114)⟩,
              ⟨some 116, some (115, false), .mv (.t 9)⟩,
              ⟨some 117, some (115, false), .mv (.t 5)⟩,
              ⟨some 118, some (115, false), .mv (.t 10)⟩,
              ⟨some 119, some (115, false), .iad 3 1 (.t 117) (.t 118)⟩,
              ⟨some 120, some (115, false), .ld1 3 (.t 119)⟩,
              ⟨some 121, some (115, false), .iad 4 1 (.t 116) (.t 120)⟩,
              ⟨some 122, some (115, false), .ld1 4 (.t 121)⟩,
              ⟨some 123, none, .pick (.t 115) (.k (.bool true)) (.t 122)⟩])
        (.cond (.t 123)
          (.seq (.reg
               [⟨some 4, none, .mv (.k (.bool false))⟩])
          (.ret))
          (.skip)))
      (.dreg [0, 0, 0, 6, 14, 0, 0, 0, 192, 448, 0, 2015, 4063, 8191, 16383]
         [⟨some 124, none, .mv (.t 8)⟩,
          ⟨some 125, none, .mv (.t 5)⟩,
          ⟨some 126, none, .mv (.t 10)⟩,
          ⟨some 127, none, .iad 3 1 (.t 125) (.t 126)⟩,
          ⟨some 128, none, .ld1 3 (.t 127)⟩,
          ⟨some 129, none, .mv (.t 9)⟩,
          ⟨some 130, none, .mv (.t 5)⟩,
          ⟨some 131, none, .mv (.t 10)⟩,
          ⟨some 132, none, .iad 3 1 (.t 130) (.t 131)⟩,
          ⟨some 133, none, .ld1 3 (.t 132)⟩,
          ⟨some 134, none, .mv (.t 10)⟩,
          ⟨some 135, none, .iad 3 1 (.t 124) (.t 128)⟩,
          ⟨none, none, .st1 3 (.t 135) (.t 134)⟩,
          ⟨some 136, none, .iad 4 1 (.t 129) (.t 133)⟩,
          ⟨none, none, .st1 4 (.t 136) (.k (.bool true))⟩])))
  (.reg
     [⟨some 100, none, .mv (.t 10)⟩,
      ⟨some 101, none, .bin .add (.t 100) (.k (.int .i64 1))⟩,
      ⟨some 10, none, .mv (.t 101)⟩]))
def c1003b2 : SCode :=
  .seq (.seq (.reg
         [⟨some 137, none, .mv (.t 11)⟩,
          ⟨some 138, none, .mv (.t 1)⟩,
          ⟨some 139, none, .len 22 (.t 138)⟩,
          ⟨some 140, none, .bin .lss (.t 137) (.t 139)⟩])
    (.cond (.t 140)
      (.skip)
      (.exit 4)))
  (.seq (.block 5 (.seq (.dreg [0, 0, 0, 6, 14, 30, 63, 127, 0, 0, 0, 1536, 3584, 7680, 16128, 32512, 65535]
           [⟨some 143, none, .mv (.t 8)⟩,
            ⟨some 144, none, .mv (.t 1)⟩,
            ⟨some 145, none, .mv (.t 11)⟩,
            ⟨some 146, none, .iad 28 2 (.t 144) (.t 145)⟩,
            ⟨some 147, none, .iaa 3 1 2 (.t 146) (.k (.int .i64 0))⟩,
            ⟨some 148, none, .ld1 3 (.t 147)⟩,
            ⟨some 149, none, .iad 3 1 (.t 143) (.t 148)⟩,
            ⟨some 150, none, .ld1 3 (.t 149)⟩,
            ⟨some 151, none, .mv (.t 8)⟩,
            ⟨some 152, none, .mv (.t 1)⟩,
            ⟨some 153, none, .mv (.t 11)⟩,
            ⟨some 154, none, .iad 28 2 (.t 152) (.t 153)⟩,
            ⟨some 155, none, .iaa 3 1 2 (.t 154) (.k (.int .i64 1))⟩,
            ⟨some 156, none, .ld1 3 (.t 155)⟩,
            ⟨some 157, none, .iad 3 1 (.t 151) (.t 156)⟩,
            ⟨some 158, none, .ld1 3 (.t 157)⟩,
            ⟨some 159, none, .bin .geq (.t 150) (.t 158)⟩])
      (.cond (.t 159)
        (.seq (.reg
             [⟨some 4, none, .mv (.k (.bool false))⟩])
        (.ret))
        (.skip))))
  (.reg
     [⟨some 141, none, .mv (.t 11)⟩,
      ⟨some 142, none, .bin .add (.t 141) (.k (.int .i64 1))⟩,
      ⟨some 11, none, .mv (.t 142)⟩]))
def c1003b3 : SCode :=
  .seq (.seq (.reg
         [⟨some 181, none, .mv (.t 15)⟩,
          ⟨some 182, none, .mv (.t 1)⟩,
          ⟨some 183, none, .len 22 (.t 182)⟩,
          ⟨some 184, none, .bin .lss (.t 181) (.t 183)⟩])
    (.cond (.t 184)
      (.skip)
      (.exit 10)))
  (.seq (.block 11 (.dreg [0, 1, 3, 3, 15, 31, 63, 3, 3, 387, 899, 2047, 4095, 8191, 8191, 8191, 57343, 122879, 253951, 524287, 1048575, 8191, 4194303, 8388607, 16777215, 33554431]
         [⟨some 187, none, .mv (.t 14)⟩,
          ⟨some 188, none, .mv (.t 187)⟩,
          ⟨some 189, some (188, false), .mv (.t 1)⟩,
          ⟨some 190, some (188, false), .mv (.t 15)⟩,
          ⟨some 191, some (188, false), .iad 28 2 (.t 189) (.t 190)⟩,
          ⟨some 192, some (188, false), .iaa 3 1 2 (.t 191) (.k (.int .i64 1))⟩,
          ⟨some 193, some (188, false), .ld1 3 (.t 192)⟩,
          ⟨some 194, some (188, false), .mv (.t 5)⟩,
          ⟨some 195, some (188, false), .mv (.t 13)⟩,
          ⟨some 196, some (188, false), .iad 3 1 (.t 194) (.t 195)⟩,
          ⟨some 197, some (188, false), .ld1 3 (.t 196)⟩,
          ⟨some 198, some (188, false), .bin .eql (.t 193) (.t 197)⟩,
          ⟨some 199, some (188, false), .mv (.t 198)⟩,
          ⟨some 200, some (199, true), .mv (.t 8)⟩,
          ⟨some 201, some (199, true), .mv (.t 1)⟩,
          ⟨some 202, some (199, true), .mv (.t 15)⟩,
          ⟨some 203, some (199, true), .iad 28 2 (.t 201) (.t 202)⟩,
          ⟨some 204, some (199, true), .iaa 3 1 2 (.t 203) (.k (.int .i64 0))⟩,
          ⟨some 205, some (199, true), .ld1 3 (.t 204)⟩,
          ⟨some 206, some (199, true), .iad 3 1 (.t 200) (.t 205)⟩,
          ⟨some 207, some (199, true), .ld1 3 (.t 206)⟩,
          ⟨some 208, some (199, true), .mv (.t 12)⟩,
          ⟨some 209, some (199, true), .bin .geq (.t 207) (.t 208)⟩,
          ⟨some 210, some (188, false), .pick (.t 199) (.t 209) (.k (.bool false))⟩,
          ⟨some 211, none, .pick (.t 188) (.k (.bool true)) (.t 210)⟩,
          ⟨some 14, none, .mv (.t 211)⟩]))
  (.reg
     [⟨some 185, none, .mv (.t 15)⟩,
      ⟨some 186, none, .bin .add (.t 185) (.k (.int .i64 1))⟩,
      ⟨some 15, none, .mv (.t 186)⟩]))
def c1003b4 : SCode :=
  .seq (.seq (.reg
         [⟨some 167, none, .mv (.t 13)⟩,
          ⟨some 168, none, .mv (.t 0)⟩,
          ⟨some 169, none, .bin .lss (.t 167) (.t 168)⟩])
    (.cond (.t 169)
      (.skip)
      (.exit 8)))
  (.seq (.block 9 (.seq (.seq (.dreg [0, 0, 3, 7, 0, 0, 48, 112, 255]
             [⟨some 172, none, .mv (.t 5)⟩,
              ⟨some 173, none, .mv (.t 13)⟩,
              ⟨some 174, none, .iad 3 1 (.t 172) (.t 173)⟩,
              ⟨some 175, none, .ld1 3 (.t 174)⟩,
              ⟨some 176, none, .mv (.t 5)⟩,
              ⟨some 177, none, .mv (.t 12)⟩,
              ⟨some 178, none, .iad 3 1 (.t 176) (.t 177)⟩,
              ⟨some 179, none, .ld1 3 (.t 178)⟩,
              ⟨some 180, none, .bin .gtr (.t 175) (.t 179)⟩])
        (.cond (.t 180)
          (.exit 9)
          (.skip)))
      (.seq (.reg
           [⟨some 14, none, .mv (.k (.bool false))⟩])
      (.seq (.seq (.reg
             [⟨some 15, none, .mv (.k (.int .i64 0))⟩])
        (.block 10 (.loop c1003b3)))
      (.seq (.reg
           [⟨some 212, none, .mv (.t 14)⟩,
            ⟨some 213, none, .not (.t 212)⟩])
      (.cond (.t 213)
        (.seq (.reg
             [⟨some 4, none, .mv (.k (.bool false))⟩])
        (.ret))
        (.skip)))))))
  (.reg
     [⟨some 170, none, .mv (.t 13)⟩,
      ⟨some 171, none, .bin .add (.t 170) (.k (.int .i64 1))⟩,
      ⟨some 13, none, .mv (.t 171)⟩]))
def c1003b5 : SCode :=
  .seq (.seq (.reg
         [⟨some 160, none, .mv (.t 12)⟩,
          ⟨some 161, none, .mv (.t 0)⟩,
          ⟨some 162, none, .bin .lss (.t 160) (.t 161)⟩])
    (.cond (.t 162)
      (.skip)
      (.exit 6)))
  (.seq (.block 7 (.seq (.reg
           [⟨some 165, none, .mv (.t 12)⟩,
            ⟨some 166, none, .bin .add (.t 165) (.k (.int .i64 1))⟩,
            ⟨some 13, none, .mv (.t 166)⟩])
      (.block 8 (.loop c1003b4))))
  (.reg
     [⟨some 163, none, .mv (.t 12)⟩,
      ⟨some 164, none, .bin .add (.t 163) (.k (.int .i64 1))⟩,
      ⟨some 12, none, .mv (.t 164)⟩]))
def c1003 : SCode :=
  .seq (.reg
       [⟨some 4, none, .mv (.k (.bool false))⟩])
  (.seq (.seq (.reg
         [⟨some 16, none, .mv (.t 1)⟩,
          ⟨some 17, none, .len 22 (.t 16)⟩,
          ⟨some 18, none, .bin .gtr (.t 17) (.k (.int .i64 300))⟩])
    (.cond (.t 18)
      (.seq (.reg
           [⟨some 4, none, .mv (.k (.bool true))⟩])
      (.ret))
      (.skip)))
  (.seq (.reg
       [⟨some 19, none, .mv (.t 0)⟩,
        ⟨some 20, none, .conv 3 23 .u64 (.t 19)⟩,
        ⟨some 21, none, .bin .rem (.t 20) (.k (.int .u64 60))⟩,
        ⟨some 22, none, .conv 23 3 .i64 (.t 21)⟩,
        ⟨some 0, none, .mv (.t 22)⟩])
  (.seq (.reg
       [⟨some 24, none, .mv (.t 0)⟩,
        ⟨some 25, none, .mv (.t 1)⟩,
        ⟨some 26, none, .call (.f 12) [.t 24, .t 25]⟩,
        ⟨some 23, none, .mv (.t 26)⟩,
        ⟨some 27, none, .ext (.t 23) 0⟩,
        ⟨some 28, none, .ext (.t 23) 1⟩,
        ⟨some 5, none, .mv (.t 27)⟩,
        ⟨some 6, none, .mv (.t 28)⟩])
  (.seq (.seq (.reg
         [⟨some 7, none, .mv (.k (.int .i64 0))⟩])
    (.block 0 (.loop c1003b0)))
  (.seq (.seq (.reg
         [⟨some 77, none, .mv (.t 6)⟩,
          ⟨some 78, none, .bin .neq (.t 77) (.k (.int .i64 0))⟩])
    (.cond (.t 78)
      (.seq (.reg
           [⟨some 79, none, .mv (.t 6)⟩,
            ⟨some 80, none, .bin .eql (.t 79) (.k (.int .i64 12))⟩,
            ⟨some 81, none, .mv (.t 80)⟩,
            ⟨some 82, some (81, true), .mv (.t 5)⟩,
            ⟨some 83, some (81, true), .len 24 (.t 82)⟩,
            ⟨some 84, some (81, true), .bin .eql (.t 83) (.k (.int .i64 0))⟩,
            ⟨some 85, none, .pick (.t 81) (.t 84) (.k (.bool false))⟩,
            ⟨some 86, none, .mv (.t 85)⟩,
            ⟨some 87, some (86, true), .call (.f 13) []⟩,
            ⟨some 88, none, .pick (.t 86) (.t 87) (.k (.bool false))⟩,
            ⟨some 4, none, .mv (.t 88)⟩])
      (.ret))
      (.skip)))
  (.seq (.reg
       [⟨some 89, none, .mv (.t 0)⟩,
        ⟨some 90, none, .mk 3 1 8 [.v (.int .i64 0)] (.t 89)⟩,
        ⟨some 8, none, .mv (.t 90)⟩])
  (.seq (.reg
       [⟨some 91, none, .mv (.t 0)⟩,
        ⟨some 92, none, .mk 4 1 1 [.v (.bool false)] (.t 91)⟩,
        ⟨some 9, none, .mv (.t 92)⟩])
  (.seq (.seq (.reg
         [⟨some 93, none, .mv (.t 5)⟩,
          ⟨some 94, none, .len 24 (.t 93)⟩,
          ⟨some 95, none, .mv (.t 0)⟩,
          ⟨some 96, none, .bin .neq (.t 94) (.t 95)⟩])
    (.cond (.t 96)
      (.seq (.reg
           [⟨some 4, none, .mv (.k (.bool false))⟩])
      (.ret))
      (.skip)))
  (.seq (.seq (.reg
         [⟨some 10, none, .mv (.k (.int .i64 0))⟩])
    (.block 2 (.loop c1003b1)))
  (.seq (.seq (.reg
         [⟨some 11, none, .mv (.k (.int .i64 0))⟩])
    (.block 4 (.loop c1003b2)))
  (.seq (.seq (.reg
         [⟨some 12, none, .mv (.k (.int .i64 0))⟩])
    (.block 6 (.loop c1003b5)))
  (.seq (.reg
       [⟨some 214, none, .call (.f 13) []⟩,
        ⟨some 4, none, .mv (.t 214)⟩])
  (.ret)))))))))))))
def r1003 : List RR := [.t 4]
theorem ok1003 : okFn Go.Proofs.Tryz.prog 3 215 c1003 r1003 2 = true := by kernel_rfl

/- porism/porismlaw21.DepsRings -/
def c1004b0 : SCode :=
  .seq (.seq (.reg
         [⟨some 32, none, .mv (.t 8)⟩,
          ⟨some 33, none, .mv (.t 1)⟩,
          ⟨some 34, none, .len 22 (.t 33)⟩,
          ⟨some 35, none, .bin .lss (.t 32) (.t 34)⟩])
    (.cond (.t 35)
      (.skip)
      (.exit 0)))
  (.seq (.block 1 (.dreg [0, 0, 0, 6, 14, 30, 62, 0, 128, 510, 1022, 0, 0, 6144, 14336, 30720, 63488, 0, 131072, 522240, 1046528, 2097150, 4194302, 8388607, 16777215]
         [⟨some 38, none, .mv (.t 7)⟩,
          ⟨some 39, none, .mv (.t 1)⟩,
          ⟨some 40, none, .mv (.t 8)⟩,
          ⟨some 41, none, .iad 28 2 (.t 39) (.t 40)⟩,
          ⟨some 42, none, .iaa 3 1 2 (.t 41) (.k (.int .i64 0))⟩,
          ⟨some 43, none, .ld1 3 (.t 42)⟩,
          ⟨some 44, none, .conv 3 23 .u64 (.t 43)⟩,
          ⟨some 45, none, .mv (.t 0)⟩,
          ⟨some 46, none, .conv 3 23 .u64 (.t 45)⟩,
          ⟨some 47, none, .bin .rem (.t 44) (.t 46)⟩,
          ⟨some 48, none, .conv 23 3 .i64 (.t 47)⟩,
          ⟨some 49, none, .mv (.t 1)⟩,
          ⟨some 50, none, .mv (.t 8)⟩,
          ⟨some 51, none, .iad 28 2 (.t 49) (.t 50)⟩,
          ⟨some 52, none, .iaa 3 1 2 (.t 51) (.k (.int .i64 1))⟩,
          ⟨some 53, none, .ld1 3 (.t 52)⟩,
          ⟨some 54, none, .conv 3 23 .u64 (.t 53)⟩,
          ⟨some 55, none, .mv (.t 0)⟩,
          ⟨some 56, none, .conv 3 23 .u64 (.t 55)⟩,
          ⟨some 57, none, .bin .rem (.t 54) (.t 56)⟩,
          ⟨some 58, none, .conv 23 3 .i64 (.t 57)⟩,
          ⟨some 59, none, .build 28 [.v (.int .i64 0), .v (.int .i64 0)] [(0, 0, 1, .t 48), (1, 1, 1, .t 58)]⟩,
          ⟨some 60, none, .lit 28 2 16 [.t 59]⟩,
          ⟨some 61, none, .app 28 2 16 (.t 38) (.t 60)⟩,
          ⟨some 7, none, .mv (.t 61)⟩]))
  (.reg
     [⟨some 36, none, .mv (.t 8)⟩,
      ⟨some 37, none, .bin .add (.t 36) (.k (.int .i64 1))⟩,
      ⟨some 8, none, .mv (.t 37)⟩]))
def c1004b1 : SCode :=
  .seq (.seq (.reg
         [⟨some 62, none, .mv (.t 9)⟩,
          ⟨some 63, none, .mv (.t 2)⟩,
          ⟨some 64, none, .len 24 (.t 63)⟩,
          ⟨some 65, none, .bin .lss (.t 62) (.t 64)⟩])
    (.cond (.t 65)
      (.skip)
      (.exit 2)))
  (.seq (.block 3 (.seq (.dreg [0, 0, 3, 7, 15, 0, 32, 127, 255, 0, 0, 1024, 0, 4096, 15360, 32256, 65024, 130560, 0, 262144, 1048064, 2096640, 511, 8388607]
           [⟨some 68, none, .mv (.t 2)⟩,
            ⟨some 69, none, .mv (.t 9)⟩,
            ⟨some 70, none, .iad 3 1 (.t 68) (.t 69)⟩,
            ⟨some 71, none, .ld1 3 (.t 70)⟩,
            ⟨some 72, none, .conv 3 23 .u64 (.t 71)⟩,
            ⟨some 73, none, .mv (.t 0)⟩,
            ⟨some 74, none, .conv 3 23 .u64 (.t 73)⟩,
            ⟨some 75, none, .bin .rem (.t 72) (.t 74)⟩,
            ⟨some 76, none, .conv 23 3 .i64 (.t 75)⟩,
            ⟨some 77, none, .mv (.t 2)⟩,
            ⟨some 78, none, .mv (.t 9)⟩,
            ⟨some 79, none, .bin .add (.t 78) (.k (.int .i64 1))⟩,
            ⟨some 80, none, .mv (.t 2)⟩,
            ⟨some 81, none, .len 24 (.t 80)⟩,
            ⟨some 82, none, .bin .rem (.t 79) (.t 81)⟩,
            ⟨some 83, none, .iad 3 1 (.t 77) (.t 82)⟩,
            ⟨some 84, none, .ld1 3 (.t 83)⟩,
            ⟨some 85, none, .conv 3 23 .u64 (.t 84)⟩,
            ⟨some 86, none, .mv (.t 0)⟩,
            ⟨some 87, none, .conv 3 23 .u64 (.t 86)⟩,
            ⟨some 88, none, .bin .rem (.t 85) (.t 87)⟩,
            ⟨some 89, none, .conv 23 3 .i64 (.t 88)⟩,
            ⟨some 10, none, .mv (.t 76)⟩,
            ⟨some 11, none, .mv (.t 89)⟩])
      (.reg
         [⟨some 90, none, .mv (.t 7)⟩,
          ⟨some 91, none, .mv (.t 10)⟩,
          ⟨some 92, none, .mv (.t 11)⟩,
          ⟨some 93, none, .build 28 [.v (.int .i64 0), .v (.int .i64 0)] [(0, 0, 1, .t 91), (1, 1, 1, .t 92)]⟩,
          ⟨some 94, none, .lit 28 2 16 [.t 93]⟩,
          ⟨some 95, none, .app 28 2 16 (.t 90) (.t 94)⟩,
          ⟨some 7, none, .mv (.t 95)⟩])))
  (.reg
     [⟨some 66, none, .mv (.t 9)⟩,
      ⟨some 67, none, .bin .add (.t 66) (.k (.int .i64 1))⟩,
      ⟨some 9, none, .mv (.t 67)⟩]))
def c1004 : SCode :=
  .seq (.reg
       [⟨some 6, none, .mv (.k (.bool false))⟩])
  (.seq (.seq (.reg
         [⟨some 14, none, .mv (.t 1)⟩,
          ⟨some 15, none, .len 22 (.t 14)⟩,
          ⟨some 16, none, .bin .gtr (.t 15) (.k (.int .i64 200))⟩,
          ⟨some 17, none, .mv (.t 16)⟩,
          ⟨some 18, some (17, false), .mv (.t 2)⟩,
          ⟨some 19, some (17, false), .len 24 (.t 18)⟩,
          ⟨some 20, some (17, false), .bin .gtr (.t 19) (.k (.int .i64 30))⟩,
          ⟨some 21, none, .pick (.t 17) (.k (.bool true)) (.t 20)⟩,
          ⟨some 22, none, .mv (.t 21)⟩,
          ⟨some 23, some (22, false), .mv (.t 2)⟩,
          ⟨some 24, some (22, false), .len 24 (.t 23)⟩,
          ⟨some 25, some (22, false), .bin .eql (.t 24) (.k (.int .i64 0))⟩,
          ⟨some 26, none, .pick (.t 22) (.k (.bool true)) (.t 25)⟩])
    (.cond (.t 26)
      (.seq (.reg
           [⟨some 6, none, .mv (.k (.bool true))⟩])
      (.ret))
      (.skip)))
  (.seq (.reg
       [⟨some 27, none, .mv (.t 0)⟩,
        ⟨some 28, none, .conv 3 23 .u64 (.t 27)⟩,
        ⟨some 29, none, .bin .rem (.t 28) (.k (.int .u64 60))⟩,
        ⟨some 30, none, .conv 23 3 .i64 (.t 29)⟩,
        ⟨some 31, none, .bin .add (.k (.int .i64 1)) (.t 30)⟩,
        ⟨some 0, none, .mv (.t 31)⟩])
  (.seq (.reg
       [⟨some 7, none, .mv (.nil 2 16)⟩])
  (.seq (.seq (.reg
         [⟨some 8, none, .mv (.k (.int .i64 0))⟩])
    (.block 0 (.loop c1004b0)))
  (.seq (.seq (.reg
         [⟨some 9, none, .mv (.k (.int .i64 0))⟩])
    (.block 2 (.loop c1004b1)))
  (.seq (.reg
       [⟨some 97, none, .mv (.t 0)⟩,
        ⟨some 98, none, .mv (.t 7)⟩,
        ⟨some 99, none, .call (.f 12) [.t 97, .t 98]⟩,
        ⟨some 96, none, .mv (.t 99)⟩,
        ⟨some 100, none, .ext (.t 96) 0⟩,
        ⟨some 101, none, .ext (.t 96) 1⟩,
        ⟨some 12, none, .mv (.t 100)⟩,
        ⟨some 13, none, .mv (.t 101)⟩])
  (.seq (.reg
       [⟨some 102, none, .mv (.t 13)⟩,
        ⟨some 103, none, .bin .eql (.t 102) (.k (.int .i64 12))⟩,
        ⟨some 104, none, .mv (.t 103)⟩,
        ⟨some 105, some (104, true), .mv (.t 12)⟩,
        ⟨some 106, some (104, true), .len 24 (.t 105)⟩,
        ⟨some 107, some (104, true), .bin .eql (.t 106) (.k (.int .i64 0))⟩,
        ⟨some 108, none, .pick (.t 104) (.t 107) (.k (.bool false))⟩,
        ⟨some 109, none, .mv (.t 108)⟩,
        ⟨some 110, some (109, true), .call (.f 13) []⟩,
        ⟨some 111, none, .pick (.t 109) (.t 110) (.k (.bool false))⟩,
        ⟨some 6, none, .mv (.t 111)⟩])
  (.ret))))))))
def r1004 : List RR := [.t 6]
theorem ok1004 : okFn Go.Proofs.Tryz.prog 4 112 c1004 r1004 3 = true := by kernel_rfl

/- porism/porismlaw21.DepsAdded -/
def c1005b0 : SCode :=
  .seq (.seq (.reg
         [⟨some 26, none, .mv (.t 10)⟩,
          ⟨some 27, none, .mv (.t 1)⟩,
          ⟨some 28, none, .len 22 (.t 27)⟩,
          ⟨some 29, none, .bin .lss (.t 26) (.t 28)⟩])
    (.cond (.t 29)
      (.skip)
      (.exit 0)))
  (.seq (.block 1 (.dreg [0, 0, 0, 6, 14, 30, 62, 0, 128, 510, 1022, 0, 0, 6144, 14336, 30720, 63488, 0, 131072, 522240, 1046528, 2097150, 4194302, 8388607, 16777215]
         [⟨some 32, none, .mv (.t 9)⟩,
          ⟨some 33, none, .mv (.t 1)⟩,
          ⟨some 34, none, .mv (.t 10)⟩,
          ⟨some 35, none, .iad 28 2 (.t 33) (.t 34)⟩,
          ⟨some 36, none, .iaa 3 1 2 (.t 35) (.k (.int .i64 0))⟩,
          ⟨some 37, none, .ld1 3 (.t 36)⟩,
          ⟨some 38, none, .conv 3 23 .u64 (.t 37)⟩,
          ⟨some 39, none, .mv (.t 0)⟩,
          ⟨some 40, none, .conv 3 23 .u64 (.t 39)⟩,
          ⟨some 41, none, .bin .rem (.t 38) (.t 40)⟩,
          ⟨some 42, none, .conv 23 3 .i64 (.t 41)⟩,
          ⟨some 43, none, .mv (.t 1)⟩,
          ⟨some 44, none, .mv (.t 10)⟩,
          ⟨some 45, none, .iad 28 2 (.t 43) (.t 44)⟩,
          ⟨some 46, none, .iaa 3 1 2 (.t 45) (.k (.int .i64 1))⟩,
          ⟨some 47, none, .ld1 3 (.t 46)⟩,
          ⟨some 48, none, .conv 3 23 .u64 (.t 47)⟩,
          ⟨some 49, none, .mv (.t 0)⟩,
          ⟨some 50, none, .conv 3 23 .u64 (.t 49)⟩,
          ⟨some 51, none, .bin .rem (.t 48) (.t 50)⟩,
          ⟨some 52, none, .conv 23 3 .i64 (.t 51)⟩,
          ⟨some 53, none, .build 28 [.v (.int .i64 0), .v (.int .i64 0)] [(0, 0, 1, .t 42), (1, 1, 1, .t 52)]⟩,
          ⟨some 54, none, .lit 28 2 16 [.t 53]⟩,
          ⟨some 55, none, .app 28 2 16 (.t 32) (.t 54)⟩,
          ⟨some 9, none, .mv (.t 55)⟩]))
  (.reg
     [⟨some 30, none, .mv (.t 10)⟩,
      ⟨some 31, none, .bin .add (.t 30) (.k (.int .i64 1))⟩,
      ⟨some 10, none, .mv (.t 31)⟩]))
def c1005b1 : SCode :=
  .seq (.seq (.reg
         [⟨some 98, none, .mv (.t 17)⟩,
          ⟨some 99, none, .mv (.t 0)⟩,
          ⟨some 100, none, .bin .lss (.t 98) (.t 99)⟩])
    (.cond (.t 100)
      (.skip)
      (.exit 2)))
  (.seq (.block 3 (.seq (.reg
           [⟨some 103, none, .mv (.t 15)⟩,
            ⟨some 104, none, .mv (.t 17)⟩,
            ⟨some 105, none, .iad 3 1 (.t 103) (.t 104)⟩,
            ⟨some 106, none, .ld1 3 (.t 105)⟩,
            ⟨some 107, none, .mv (.t 17)⟩,
            ⟨some 108, none, .bin .neq (.t 106) (.t 107)⟩])
      (.cond (.t 108)
        (.seq (.reg
             [⟨some 8, none, .mv (.k (.bool false))⟩])
        (.ret))
        (.skip))))
  (.reg
     [⟨some 101, none, .mv (.t 17)⟩,
      ⟨some 102, none, .bin .add (.t 101) (.k (.int .i64 1))⟩,
      ⟨some 17, none, .mv (.t 102)⟩]))
def c1005 : SCode :=
  .seq (.reg
       [⟨some 8, none, .mv (.k (.bool false))⟩])
  (.seq (.seq (.reg
         [⟨some 18, none, .mv (.t 1)⟩,
          ⟨some 19, none, .len 22 (.t 18)⟩,
          ⟨some 20, none, .bin .gtr (.t 19) (.k (.int .i64 200))⟩])
    (.cond (.t 20)
      (.seq (.reg
           [⟨some 8, none, .mv (.k (.bool true))⟩])
      (.ret))
      (.skip)))
  (.seq (.reg
       [⟨some 21, none, .mv (.t 0)⟩,
        ⟨some 22, none, .conv 3 23 .u64 (.t 21)⟩,
        ⟨some 23, none, .bin .rem (.t 22) (.k (.int .u64 50))⟩,
        ⟨some 24, none, .conv 23 3 .i64 (.t 23)⟩,
        ⟨some 25, none, .bin .add (.k (.int .i64 1)) (.t 24)⟩,
        ⟨some 0, none, .mv (.t 25)⟩])
  (.seq (.reg
       [⟨some 9, none, .mv (.nil 2 16)⟩])
  (.seq (.seq (.reg
         [⟨some 10, none, .mv (.k (.int .i64 0))⟩])
    (.block 0 (.loop c1005b0)))
  (.seq (.dreg [0, 1, 0, 4, 15, 31, 0, 64, 0, 256, 960, 1984, 63, 8191]
       [⟨some 56, none, .mv (.t 2)⟩,
        ⟨some 57, none, .conv 3 23 .u64 (.t 56)⟩,
        ⟨some 58, none, .mv (.t 0)⟩,
        ⟨some 59, none, .conv 3 23 .u64 (.t 58)⟩,
        ⟨some 60, none, .bin .rem (.t 57) (.t 59)⟩,
        ⟨some 61, none, .conv 23 3 .i64 (.t 60)⟩,
        ⟨some 62, none, .mv (.t 3)⟩,
        ⟨some 63, none, .conv 3 23 .u64 (.t 62)⟩,
        ⟨some 64, none, .mv (.t 0)⟩,
        ⟨some 65, none, .conv 3 23 .u64 (.t 64)⟩,
        ⟨some 66, none, .bin .rem (.t 63) (.t 65)⟩,
        ⟨some 67, none, .conv 23 3 .i64 (.t 66)⟩,
        ⟨some 2, none, .mv (.t 61)⟩,
        ⟨some 3, none, .mv (.t 67)⟩])
  (.seq (.reg
       [⟨some 69, none, .mv (.t 0)⟩,
        ⟨some 70, none, .mv (.t 9)⟩,
        ⟨some 71, none, .call (.f 12) [.t 69, .t 70]⟩,
        ⟨some 68, none, .mv (.t 71)⟩,
        ⟨some 72, none, .ext (.t 68) 0⟩,
        ⟨some 73, none, .ext (.t 68) 1⟩,
        ⟨some 11, none, .mv (.t 72)⟩,
        ⟨some 12, none, .mv (.t 73)⟩])
  (.seq (.reg
       [⟨some 75, none, .mv (.t 0)⟩,
        ⟨some 76, none, .mv (.t 9)⟩,
        ⟨some 77, none, .mv (.t 2)⟩,
        ⟨some 78, none, .mv (.t 3)⟩,
        ⟨some 79, none, .build 28 [.v (.int .i64 0), .v (.int .i64 0)] [(0, 0, 1, .t 77), (1, 1, 1, .t 78)]⟩,
        ⟨some 80, none, .lit 28 2 16 [.t 79]⟩,
        ⟨some 81, none, .app 28 2 16 (.t 76) (.t 80)⟩,
        ⟨some 82, none, .call (.f 12) [.t 75, .t 81]⟩,
        ⟨some 74, none, .mv (.t 82)⟩,
        ⟨some 83, none, .ext (.t 74) 0⟩,
        ⟨some 84, none, .ext (.t 74) 1⟩,
        ⟨some 13, none, .mv (.t 83)⟩,
        ⟨some 14, none, .mv (.t 84)⟩])
  (.seq (.reg
       [⟨some 86, none, .mv (.t 0)⟩,
        ⟨some 87, none, .call (.f 12) [.t 86, .nil 2 16]⟩,
        ⟨some 85, none, .mv (.t 87)⟩,
        ⟨some 88, none, .ext (.t 85) 0⟩,
        ⟨some 89, none, .ext (.t 85) 1⟩,
        ⟨some 15, none, .mv (.t 88)⟩,
        ⟨some 16, none, .mv (.t 89)⟩])
  (.seq (.seq (.reg
         [⟨some 90, none, .mv (.t 16)⟩,
          ⟨some 91, none, .bin .neq (.t 90) (.k (.int .i64 0))⟩,
          ⟨some 92, none, .mv (.t 91)⟩,
          ⟨some 93, some (92, false), .mv (.t 15)⟩,
          ⟨some 94, some (92, false), .len 24 (.t 93)⟩,
          ⟨some 95, some (92, false), .mv (.t 0)⟩,
          ⟨some 96, some (92, false), .bin .neq (.t 94) (.t 95)⟩,
          ⟨some 97, none, .pick (.t 92) (.k (.bool true)) (.t 96)⟩])
    (.cond (.t 97)
      (.seq (.reg
           [⟨some 8, none, .mv (.k (.bool false))⟩])
      (.ret))
      (.skip)))
  (.seq (.seq (.reg
         [⟨some 17, none, .mv (.k (.int .i64 0))⟩])
    (.block 2 (.loop c1005b1)))
  (.seq (.seq (.reg
         [⟨some 109, none, .mv (.t 12)⟩,
          ⟨some 110, none, .bin .neq (.t 109) (.k (.int .i64 0))⟩])
    (.cond (.t 110)
      (.seq (.reg
           [⟨some 111, none, .mv (.t 12)⟩,
            ⟨some 112, none, .bin .eql (.t 111) (.k (.int .i64 12))⟩,
            ⟨some 113, none, .mv (.t 112)⟩,
            ⟨some 114, some (113, true), .mv (.t 14)⟩,
            ⟨some 115, some (113, true), .bin .eql (.t 114) (.k (.int .i64 12))⟩,
            ⟨some 116, none, .pick (.t 113) (.t 115) (.k (.bool false))⟩,
            ⟨some 117, none, .mv (.t 116)⟩,
            ⟨some 118, some (117, true), .call (.f 13) []⟩,
            ⟨some 119, none, .pick (.t 117) (.t 118) (.k (.bool false))⟩,
            ⟨some 8, none, .mv (.t 119)⟩])
      (.ret))
      (.skip)))
  (.seq (.seq (.reg
         [⟨some 120, none, .mv (.t 14)⟩,
          ⟨some 121, none, .bin .neq (.t 120) (.k (.int .i64 0))⟩])
    (.cond (.t 121)
      (.seq (.reg
           [⟨some 122, none, .mv (.t 14)⟩,
            ⟨some 123, none, .bin .eql (.t 122) (.k (.int .i64 12))⟩,
            ⟨some 124, none, .mv (.t 123)⟩,
            ⟨some 125, some (124, true), .mv (.t 13)⟩,
            ⟨some 126, some (124, true), .len 24 (.t 125)⟩,
            ⟨some 127, some (124, true), .bin .eql (.t 126) (.k (.int .i64 0))⟩,
            ⟨some 128, none, .pick (.t 124) (.t 127) (.k (.bool false))⟩,
            ⟨some 129, none, .mv (.t 128)⟩,
            ⟨some 130, some (129, true), .mv (.t 2)⟩,
            ⟨some 131, some (129, true), .mv (.t 3)⟩,
            ⟨some 132, some (129, true), .bin .eql (.t 130) (.t 131)⟩,
            ⟨some 133, some (129, true), .mv (.t 132)⟩,
            ⟨some 134, some (133, false), .mv (.t 11)⟩,
            ⟨some 135, some (133, false), .mv (.t 3)⟩,
            ⟨some 136, some (133, false), .call (.f 14) [.t 134, .t 135]⟩,
            ⟨some 137, some (133, false), .mv (.t 11)⟩,
            ⟨some 138, some (133, false), .mv (.t 2)⟩,
            ⟨some 139, some (133, false), .call (.f 14) [.t 137, .t 138]⟩,
            ⟨some 140, some (133, false), .bin .lss (.t 136) (.t 139)⟩,
            ⟨some 141, some (129, true), .pick (.t 133) (.k (.bool true)) (.t 140)⟩,
            ⟨some 142, none, .pick (.t 129) (.t 141) (.k (.bool false))⟩,
            ⟨some 143, none, .mv (.t 142)⟩,
            ⟨some 144, some (143, true), .call (.f 13) []⟩,
            ⟨some 145, none, .pick (.t 143) (.t 144) (.k (.bool false))⟩,
            ⟨some 8, none, .mv (.t 145)⟩])
      (.ret))
      (.skip)))
  (.seq (.seq (.reg
         [⟨some 146, none, .mv (.t 11)⟩,
          ⟨some 147, none, .mv (.t 2)⟩,
          ⟨some 148, none, .call (.f 14) [.t 146, .t 147]⟩,
          ⟨some 149, none, .mv (.t 11)⟩,
          ⟨some 150, none, .mv (.t 3)⟩,
          ⟨some 151, none, .call (.f 14) [.t 149, .t 150]⟩,
          ⟨some 152, none, .bin .lss (.t 148) (.t 151)⟩,
          ⟨some 153, none, .mv (.t 152)⟩,
          ⟨some 154, some (153, true), .mv (.t 11)⟩,
          ⟨some 155, some (153, true), .mv (.t 13)⟩,
          ⟨some 156, some (153, true), .call (.f 15) [.t 154, .t 155]⟩,
          ⟨some 157, some (153, true), .not (.t 156)⟩,
          ⟨some 158, none, .pick (.t 153) (.t 157) (.k (.bool false))⟩])
    (.cond (.t 158)
      (.seq (.reg
           [⟨some 8, none, .mv (.k (.bool false))⟩])
      (.ret))
      (.skip)))
  (.seq (.reg
       [⟨some 159, none, .mv (.t 13)⟩,
        ⟨some 160, none, .mv (.t 2)⟩,
        ⟨some 161, none, .call (.f 14) [.t 159, .t 160]⟩,
        ⟨some 162, none, .mv (.t 13)⟩,
        ⟨some 163, none, .mv (.t 3)⟩,
        ⟨some 164, none, .call (.f 14) [.t 162, .t 163]⟩,
        ⟨some 165, none, .bin .lss (.t 161) (.t 164)⟩,
        ⟨some 166, none, .mv (.t 165)⟩,
        ⟨some 167, some (166, true), .call (.f 13) []⟩,
        ⟨some 168, none, .pick (.t 166) (.t 167) (.k (.bool false))⟩,
        ⟨some 8, none, .mv (.t 168)⟩])
  (.ret)))))))))))))))
def r1005 : List RR := [.t 8]
theorem ok1005 : okFn Go.Proofs.Tryz.prog 5 169 c1005 r1005 4 = true := by kernel_rfl

/- porism/porismlaw21.DepsCaps -/
def c1006 : SCode :=
  .seq (.reg
       [⟨some 6, none, .mv (.k (.bool false))⟩])
  (.seq (.reg
       [⟨some 16, none, .mv (.t 0)⟩,
        ⟨some 17, none, .call (.f 12) [.t 16, .nil 2 16]⟩,
        ⟨some 15, none, .mv (.t 17)⟩,
        ⟨some 18, none, .ext (.t 15) 0⟩,
        ⟨some 19, none, .ext (.t 15) 1⟩,
        ⟨some 7, none, .mv (.t 18)⟩,
        ⟨some 8, none, .mv (.t 19)⟩])
  (.seq (.seq (.reg
         [⟨some 20, none, .mv (.t 0)⟩,
          ⟨some 21, none, .bin .lss (.t 20) (.k (.int .i64 0))⟩,
          ⟨some 22, none, .mv (.t 21)⟩,
          ⟨some 23, some (22, false), .mv (.t 0)⟩,
          ⟨some 24, some (22, false), .bin .gtr (.t 23) (.k (.int .i64 200))⟩,
          ⟨some 25, none, .pick (.t 22) (.k (.bool true)) (.t 24)⟩])
    (.cond (.t 25)
      (.seq (.reg
           [⟨some 26, none, .mv (.t 8)⟩,
            ⟨some 27, none, .bin .eql (.t 26) (.k (.int .i64 1))⟩,
            ⟨some 28, none, .mv (.t 27)⟩,
            ⟨some 29, some (28, true), .mv (.t 7)⟩,
            ⟨some 30, some (28, true), .len 24 (.t 29)⟩,
            ⟨some 31, some (28, true), .bin .eql (.t 30) (.k (.int .i64 0))⟩,
            ⟨some 32, none, .pick (.t 28) (.t 31) (.k (.bool false))⟩,
            ⟨some 33, none, .mv (.t 32)⟩,
            ⟨some 34, some (33, true), .call (.f 13) []⟩,
            ⟨some 35, none, .pick (.t 33) (.t 34) (.k (.bool false))⟩,
            ⟨some 6, none, .mv (.t 35)⟩])
      (.ret))
      (.skip)))
  (.seq (.seq (.reg
         [⟨some 36, none, .mv (.t 8)⟩,
          ⟨some 37, none, .bin .neq (.t 36) (.k (.int .i64 0))⟩,
          ⟨some 38, none, .mv (.t 37)⟩,
          ⟨some 39, some (38, false), .mv (.t 7)⟩,
          ⟨some 40, some (38, false), .len 24 (.t 39)⟩,
          ⟨some 41, some (38, false), .mv (.t 0)⟩,
          ⟨some 42, some (38, false), .bin .neq (.t 40) (.t 41)⟩,
          ⟨some 43, none, .pick (.t 38) (.k (.bool true)) (.t 42)⟩])
    (.cond (.t 43)
      (.seq (.reg
           [⟨some 6, none, .mv (.k (.bool false))⟩])
      (.ret))
      (.skip)))
  (.seq (.reg
       [⟨some 45, none, .mv (.t 0)⟩,
        ⟨some 46, none, .mv (.t 1)⟩,
        ⟨some 47, none, .mv (.t 2)⟩,
        ⟨some 48, none, .build 28 [.v (.int .i64 0), .v (.int .i64 0)] [(0, 0, 1, .t 46), (1, 1, 1, .t 47)]⟩,
        ⟨some 49, none, .lit 28 2 16 [.t 48]⟩,
        ⟨some 50, none, .call (.f 12) [.t 45, .t 49]⟩,
        ⟨some 44, none, .mv (.t 50)⟩,
        ⟨some 51, none, .ext (.t 44) 0⟩,
        ⟨some 52, none, .ext (.t 44) 1⟩,
        ⟨some 9, none, .mv (.t 51)⟩,
        ⟨some 10, none, .mv (.t 52)⟩])
  (.seq (.reg
       [⟨some 53, none, .mv (.t 1)⟩,
        ⟨some 54, none, .bin .geq (.t 53) (.k (.int .i64 0))⟩,
        ⟨some 55, none, .mv (.t 54)⟩,
        ⟨some 56, some (55, true), .mv (.t 1)⟩,
        ⟨some 57, some (55, true), .mv (.t 0)⟩,
        ⟨some 58, some (55, true), .bin .lss (.t 56) (.t 57)⟩,
        ⟨some 59, none, .pick (.t 55) (.t 58) (.k (.bool false))⟩,
        ⟨some 60, none, .mv (.t 59)⟩,
        ⟨some 61, some (60, true), .mv (.t 2)⟩,
        ⟨some 62, some (60, true), .bin .geq (.t 61) (.k (.int .i64 0))⟩,
        ⟨some 63, none, .pick (.t 60) (.t 62) (.k (.bool false))⟩,
        ⟨some 64, none, .mv (.t 63)⟩,
        ⟨some 65, some (64, true), .mv (.t 2)⟩,
        ⟨some 66, some (64, true), .mv (.t 0)⟩,
        ⟨some 67, some (64, true), .bin .lss (.t 65) (.t 66)⟩,
        ⟨some 68, none, .pick (.t 64) (.t 67) (.k (.bool false))⟩,
        ⟨some 11, none, .mv (.t 68)⟩])
  (.seq (.seq (.reg
         [⟨some 69, none, .mk 28 2 16 [.v (.int .i64 0), .v (.int .i64 0)] (.k (.int .i64 4001))⟩,
          ⟨some 12, none, .mv (.t 69)⟩])
    (.frz 1006069))
  (.seq (.reg
       [⟨some 71, none, .mv (.t 0)⟩,
        ⟨some 72, none, .mv (.t 12)⟩,
        ⟨some 73, none, .call (.f 12) [.t 71, .t 72]⟩,
        ⟨some 70, none, .mv (.t 73)⟩,
        ⟨some 74, none, .ext (.t 70) 0⟩,
        ⟨some 75, none, .ext (.t 70) 1⟩,
        ⟨some 13, none, .mv (.t 74)⟩,
        ⟨some 14, none, .mv (.t 75)⟩])
  (.seq (.seq (.reg
         [⟨some 76, none, .mv (.t 11)⟩,
          ⟨some 77, none, .not (.t 76)⟩,
          ⟨some 78, none, .mv (.t 77)⟩,
          ⟨some 79, some (78, true), .mv (.t 10)⟩,
          ⟨some 80, some (78, true), .bin .neq (.t 79) (.k (.int .i64 1))⟩,
          ⟨some 81, none, .pick (.t 78) (.t 80) (.k (.bool false))⟩,
          ⟨some 82, none, .mv (.t 81)⟩,
          ⟨some 83, some (82, false), .mv (.t 11)⟩,
          ⟨some 84, some (82, false), .mv (.t 83)⟩,
          ⟨some 85, some (84, true), .mv (.t 1)⟩,
          ⟨some 86, some (84, true), .mv (.t 2)⟩,
          ⟨some 87, some (84, true), .bin .eql (.t 85) (.t 86)⟩,
          ⟨some 88, some (82, false), .pick (.t 84) (.t 87) (.k (.bool false))⟩,
          ⟨some 89, some (82, false), .mv (.t 88)⟩,
          ⟨some 90, some (89, true), .mv (.t 10)⟩,
          ⟨some 91, some (89, true), .bin .neq (.t 90) (.k (.int .i64 12))⟩,
          ⟨some 92, some (82, false), .pick (.t 89) (.t 91) (.k (.bool false))⟩,
          ⟨some 93, none, .pick (.t 82) (.k (.bool true)) (.t 92)⟩,
          ⟨some 94, none, .mv (.t 93)⟩,
          ⟨some 95, some (94, false), .mv (.t 11)⟩,
          ⟨some 96, some (94, false), .mv (.t 95)⟩,
          ⟨some 97, some (96, true), .mv (.t 1)⟩,
          ⟨some 98, some (96, true), .mv (.t 2)⟩,
          ⟨some 99, some (96, true), .bin .neq (.t 97) (.t 98)⟩,
          ⟨some 100, some (94, false), .pick (.t 96) (.t 99) (.k (.bool false))⟩,
          ⟨some 101, some (94, false), .mv (.t 100)⟩,
          ⟨some 102, some (101, true), .mv (.t 10)⟩,
          ⟨some 103, some (101, true), .bin .neq (.t 102) (.k (.int .i64 0))⟩,
          ⟨some 104, some (94, false), .pick (.t 101) (.t 103) (.k (.bool false))⟩,
          ⟨some 105, none, .pick (.t 94) (.k (.bool true)) (.t 104)⟩])
    (.cond (.t 105)
      (.seq (.reg
           [⟨some 6, none, .mv (.k (.bool false))⟩])
      (.ret))
      (.skip)))
  (.seq (.reg
       [⟨some 106, none, .mv (.t 14)⟩,
        ⟨some 107, none, .bin .eql (.t 106) (.k (.int .i64 1))⟩,
        ⟨some 108, none, .mv (.t 107)⟩,
        ⟨some 109, some (108, true), .call (.f 13) []⟩,
        ⟨some 110, none, .pick (.t 108) (.t 109) (.k (.bool false))⟩,
        ⟨some 6, none, .mv (.t 110)⟩])
  (.ret))))))))))
def r1006 : List RR := [.t 6]
theorem ok1006 : okFn Go.Proofs.Tryz.prog 6 111 c1006 r1006 3 = true := by kernel_rfl

/- porism/porismlaw21.wakes -/
def c1013 : SCode :=
  .seq (.reg
       [⟨some 0, none, .mv (.k (.bool false))⟩])
  (.seq (.reg
       [⟨some 6, none, .build 28 [.v (.int .i64 0), .v (.int .i64 0)] [(0, 0, 1, .k (.int .i64 2)), (1, 1, 1, .k (.int .i64 0))]⟩,
        ⟨some 7, none, .lit 28 2 16 [.t 6]⟩,
        ⟨some 8, none, .call (.f 12) [.k (.int .i64 3), .t 7]⟩,
        ⟨some 5, none, .mv (.t 8)⟩,
        ⟨some 9, none, .ext (.t 5) 0⟩,
        ⟨some 10, none, .ext (.t 5) 1⟩,
        ⟨some 1, none, .mv (.t 9)⟩,
        ⟨some 2, none, .mv (.t 10)⟩])
  (.seq (.reg
       [⟨some 12, none, .call (.f 33) [.k (.int .i64 0)]⟩,
        ⟨some 13, none, .build 70 [.v (.int .i64 0), .v (.int .i64 0), .v (.int .i64 0), .cap 3 40 [], .v (.int .i64 0), .v (.int .i64 0), .cap 3 40 [], .v (.int .i64 0), .v (.int .i64 0), .cap 6 80 [], .cap 6 96 [], .v (.int .i64 0)] [(0, 0, 1, .k (.int .i64 1)), (1, 1, 3, .t 12)]⟩,
        ⟨some 14, none, .call (.f 34) [.k (.int .i64 0)]⟩,
        ⟨some 15, none, .build 70 [.v (.int .i64 0), .v (.int .i64 0), .v (.int .i64 0), .cap 3 40 [], .v (.int .i64 0), .v (.int .i64 0), .cap 3 40 [], .v (.int .i64 0), .v (.int .i64 0), .cap 6 80 [], .cap 6 96 [], .v (.int .i64 0)] [(0, 0, 1, .k (.int .i64 1)), (1, 1, 3, .t 14)]⟩,
        ⟨some 16, none, .lit 70 12 160 [.t 13, .t 15]⟩,
        ⟨some 17, none, .lit 3 1 8 [.k (.int .i64 1)]⟩,
        ⟨some 18, none, .call (.f 17) [.t 16, .t 17]⟩,
        ⟨some 11, none, .mv (.t 18)⟩,
        ⟨some 19, none, .ext (.t 11) 0⟩,
        ⟨some 20, none, .ext (.t 11) 1⟩,
        ⟨some 3, none, .mv (.t 19)⟩,
        ⟨some 4, none, .mv (.t 20)⟩])
  (.seq (.reg
       [⟨some 21, none, .mv (.t 2)⟩,
        ⟨some 22, none, .bin .eql (.t 21) (.k (.int .i64 0))⟩,
        ⟨some 23, none, .mv (.t 22)⟩,
        ⟨some 24, some (23, true), .mv (.t 4)⟩,
        ⟨some 25, some (23, true), .bin .eql (.t 24) (.k (.int .i64 0))⟩,
        ⟨some 26, none, .pick (.t 23) (.t 25) (.k (.bool false))⟩,
        ⟨some 27, none, .mv (.t 26)⟩,
        ⟨some 28, some (27, true), .mv (.t 1)⟩,
        ⟨some 29, some (27, true), .lit 3 1 8 [.k (.int .i64 1), .k (.int .i64 2), .k (.int .i64 0)]⟩,
        ⟨some 30, some (27, true), .call (.f 15) [.t 28, .t 29]⟩,
        ⟨some 31, none, .pick (.t 27) (.t 30) (.k (.bool false))⟩,
        ⟨some 32, none, .mv (.t 31)⟩,
        ⟨some 33, some (32, true), .mv (.t 3)⟩,
        ⟨some 34, some (32, true), .lit 3 1 8 [.k (.int .i64 0), .k (.int .i64 1)]⟩,
        ⟨some 35, some (32, true), .call (.f 15) [.t 33, .t 34]⟩,
        ⟨some 36, none, .pick (.t 32) (.t 35) (.k (.bool false))⟩,
        ⟨some 0, none, .mv (.t 36)⟩])
  (.ret))))
def r1013 : List RR := [.t 0]
theorem ok1013 : okFn Go.Proofs.Tryz.prog 13 37 c1013 r1013 0 = true := by kernel_rfl

/- porism/porismlaw21.place -/
def c1014b0 : SCode :=
  .seq (.seq (.reg
         [⟨some 6, none, .mv (.t 5)⟩,
          ⟨some 7, none, .mv (.t 0)⟩,
          ⟨some 8, none, .len 24 (.t 7)⟩,
          ⟨some 9, none, .bin .lss (.t 6) (.t 8)⟩])
    (.cond (.t 9)
      (.skip)
      (.exit 0)))
  (.seq (.block 1 (.seq (.reg
           [⟨some 12, none, .mv (.t 0)⟩,
            ⟨some 13, none, .mv (.t 5)⟩,
            ⟨some 14, none, .iad 3 1 (.t 12) (.t 13)⟩,
            ⟨some 15, none, .ld1 3 (.t 14)⟩,
            ⟨some 16, none, .mv (.t 1)⟩,
            ⟨some 17, none, .bin .eql (.t 15) (.t 16)⟩])
      (.cond (.t 17)
        (.seq (.reg
             [⟨some 18, none, .mv (.t 5)⟩,
              ⟨some 4, none, .mv (.t 18)⟩])
        (.ret))
        (.skip))))
  (.reg
     [⟨some 10, none, .mv (.t 5)⟩,
      ⟨some 11, none, .bin .add (.t 10) (.k (.int .i64 1))⟩,
      ⟨some 5, none, .mv (.t 11)⟩]))
def c1014 : SCode :=
  .seq (.reg
       [⟨some 4, none, .mv (.k (.int .i64 0))⟩])
  (.seq (.seq (.reg
         [⟨some 5, none, .mv (.k (.int .i64 0))⟩])
    (.block 0 (.loop c1014b0)))
  (.seq (.reg
       [⟨some 4, none, .mv (.k (.int .i64 (-1)))⟩])
  (.ret)))
def r1014 : List RR := [.t 4]
theorem ok1014 : okFn Go.Proofs.Tryz.prog 14 19 c1014 r1014 2 = true := by kernel_rfl

end Go.Abs

namespace Go.Abs
open Go.Proofs

def ebox (l : List T) : Obj := .box 37 [.sl 12 160 (l.map axc)]
def outE (len : Nat) (x : Int) : Bool := decide (x < 0) || decide ((len : Int) ≤ x)
def fstOut (len : Nat) : List Int → Nat → Int
  | [], _ => -1
  | p :: r, i => if outE len p then i else fstOut len r (i + 1)
theorem fstOut_any (len : Nat) : ∀ (l : List Int) (i : Nat), decide (0 ≤ fstOut len l i) = l.any (outE len)
  | [], i => by simp [fstOut]
  | p :: r, i => by
    simp only [fstOut, List.any_cons]
    by_cases h : outE len p = true
    · simp [h]
    · simp only [h]; simpa using fstOut_any len r (i + 1)

theorem sp1039 (tn : Nat) (l : List T) (x : Int) : Spec Tryz.prog 39 [ib x, .c (.ref 1017002 tn 0)] [(1017002, tn, ebox l)] (bb (outE l.length x)) [(1017002, tn, ebox l)] := by
  refine spec_one (base := 1039000) ok1039 rfl fun σ h0 oK gK hr => ?_
  have s0 : σ.sl 0 = .c (.v (.int .i64 x)) := h0 0
  have s1 : σ.sl 1 = .c (.ref 1017002 tn 0) := h0 1
  clear h0 hr
  unfold c1039
  by_cases c1 : x < 0
  · simp [s0, s1, oK, gK, ebox, c1]
    refine EndU_one ?_ ?_ ?_ ?_ <;> simp [r1039, outE, bb, c1, oK, gK, ebox]
  · simp [s0, s1, oK, gK, ebox, c1]
    refine EndU_one ?_ ?_ ?_ ?_ <;> simp [r1039, outE, bb, c1, oK, gK, ebox]

theorem sp1060 (tn : Nat) (es : List T) (l : List Int) : Spec Tryz.prog 60 [is l, .c (.clo 39 [] [(1017002, tn)])] [(1017002, tn, ebox es)] (ib (fstOut es.length l 0)) [(1017002, tn, ebox es)] := by
  refine spec_one (base := 1060000) ok1060 rfl fun σ h0 oK gK hr => ?_
  have hl := real_is (hr (is l) (by simp))
  have s0 : σ.sl 0 = .c (.sl 1 8 (ic l)) := h0 0
  have s1 : σ.sl 1 = .c (.clo 39 [] [(1017002, tn)]) := h0 1
  clear h0 hr
  unfold c1060
  simp [s0, s1, -W_block]
  rw [W_block]
  refine W_loop (fun m σ => ∃ i : Nat, i + m = l.length ∧ fstOut es.length (l.drop i) i = fstOut es.length l 0 ∧ σ.sl 0 = .c (.sl 1 8 (ic l)) ∧ σ.sl 1 = .c (.clo 39 [] [(1017002, tn)]) ∧ σ.sl 7 = .c (.v (.int .i64 l.length)) ∧ σ.sl 8 = .c (.v (.int .i64 i)) ∧ σ.ob 1017002 = some (ebox es) ∧ σ.tg 1017002 = tn) l.length ⟨0, by simp [s0, s1, oK, gK]⟩ ?_
  clear s0 s1 oK gK σ
  rintro m σ ⟨i, hm, hp, s0, s1, s7, s8, oK, gK⟩
  unfold c1060b0
  by_cases hi : i < l.length
  · have w1 := wrap_succ (i := i) (by omega)
    obtain ⟨p, hp1⟩ := at_of hi
    obtain ⟨_, hp2⟩ := getE hp1
    rw [drop_at hp1, fstOut] at hp
    simp [s0, s1, s7, s8, oK, gK, hi, hp2]
    refine ECall.ro (args := [ib p]) [(1017002, tn, ebox es)] (by simpa [refs] using sp1039 tn es p) (by simp [toD2, toD1, ib, toD]) (by simp) rfl (Ro.one (by simp [oK]) (by simp [gK]) rfl) fun _ => ?_
    cases hb : outE es.length p with
    | true =>
      rw [hb] at hp
      simp [bb]
      refine EndU_one ?_ ?_ ?_ ?_ <;> simp [r1060, oK, gK, ib, ← hp]
    | false =>
      rw [hb] at hp
      simp [bb, w1, s0, s1, s7, s8, oK, gK]
      exact ⟨m - 1, by omega, i + 1, by omega, by simpa using hp, rfl⟩
  · have : i = l.length := by omega
    subst this
    simp [fstOut] at hp
    simp [s0, s1, s7, s8, oK, gK]
    refine EndU_one ?_ ?_ ?_ ?_ <;> simp [r1060, oK, gK, ib, ← hp]

theorem sp1038 (tn : Nat) (es : List T) (l : List Int) : Spec Tryz.prog 38 [is l, .c (.clo 39 [] [(1017002, tn)])] [(1017002, tn, ebox es)] (bb (l.any (outE es.length))) [(1017002, tn, ebox es)] := by
  refine spec_one (base := 1038000) ok1038 rfl fun σ h0 oK gK hr => ?_
  have s0 : σ.sl 0 = .c (.sl 1 8 (ic l)) := h0 0
  have s1 : σ.sl 1 = .c (.clo 39 [] [(1017002, tn)]) := h0 1
  clear h0 hr
  unfold c1038
  simp [s0, s1]
  refine ECall.ro (rs := []) (args := [is l, .c (.clo 39 [] [(1017002, tn)])]) [(1017002, tn, ebox es)] (by simpa [refs] using sp1060 tn es l) (by simp [toD2, toD1, is, toD, ic]) (by simp) rfl (Ro.one (by simp [oK]) (by simp [gK]) rfl) fun _ => ?_
  simp [ib]
  refine EndU_one ?_ ?_ ?_ ?_ <;> simp [r1038, oK, gK, bb, ← fstOut_any es.length l 0]

theorem new1040 (x : Int) (l : List Int) : SpecNew Tryz.prog 40 [is (x :: l)] (.c (.own 0 0)) (hrow (x :: l)) := by
  refine new_of (base := 1040000) 1040007 ok1040 rfl rfl rfl fun σ h0 hr => ?_
  have hl := real_is (hr (is (x :: l)) (by simp))
  have s0 : σ.sl 0 = .c (.sl 1 8 (ic (x :: l))) := h0 0
  simp only [ic, List.map_cons] at s0
  clear h0 hr
  unfold c1040
  simp [s0]
  refine ⟨by simpa [room] using hl, _, .refl _, ⟨by simp [r1040], by simp [r1040, resN, resLN, rrEvN], by simp [hrow, ic]⟩⟩

/-! ### the row that wakes the laws: a universe, and a constant that names it -/
def u0 : T := .mk 2 0 []
def c0 : T := .mk 3 0 []
def row0 : List T := [u0, c0]
theorem uses_u0 : usesA u0 = [] := by simp [usesA, u0, tz, addAll, T.consts, T.cons, T.consL, sortI]
theorem uses_c0 : usesA c0 = [0] := by simp [usesA, c0, tz, addAll, T.consts, T.cons, T.consL, sortI, addK]
theorem sort_10 : sortI [1, 0] = [0, 1] := by
  refine srt_ext (sortI_srt (by decide)) (by decide) fun n => ?_
  rw [sortI_mem]; simp; omega
theorem chk_row0 : chk row0 0 = 0 := by decide

theorem fn1041_0 : Fn Tryz.prog 41 [axs row0, ib (0 : Nat)] (is []) := by
  have := fn1041 row0 0 u0 rfl (by decide) (by decide) (by simp [u0, T.consts, T.cons, T.consL, sortI]) (by simp [u0, tz, addAll, T.consts, T.cons, T.consL, sortI]) (by simp [u0, tz, addAll, T.consts, T.cons, T.consL, sortI])
  rwa [uses_u0] at this
theorem fn1041_1 : Fn Tryz.prog 41 [axs row0, ib (1 : Nat)] (is [0]) := by
  have := fn1041 row0 1 c0 rfl (by decide) (by decide) (by simp [c0, T.consts, T.cons, T.consL, sortI, addK]) (by simp [c0, tz, addAll, T.consts, T.cons, T.consL, sortI, addK]) (by simp [c0, tz, addAll, T.consts, T.cons, T.consL, sortI, addK, okI])
  rwa [uses_c0] at this

structure NS (K : Nat) (todo seen : List Int) (σ : St) : Prop where
  s2 : σ.sl 2 = .c (.ref 1017002 (σ.tg 1017002) 0)
  o2 : σ.ob 1017002 = some (ebox row0)
  s7 : σ.sl 7 = .c (.mp 1017020 (σ.tg 1017020))
  o7 : σ.ob 1017020 = some (.mob true (encK seen))
  s8 : σ.sl 8 = .c (.own K (σ.tg K))
  o8 : σ.ob K = some (hrow todo)

theorem fn1017 : Fn Tryz.prog 17 [axs row0, is [1]] (.tup [is [0, 1], ib 0]) := by
  refine fn_of (base := 1017000) ok1017 rfl fun σ h0 hr => ?_
  have s0 : σ.sl 0 = axs row0 := h0 0
  have s1 : σ.sl 1 = is [1] := h0 1
  clear h0 hr
  unfold c1017
  simp [s0, s1, axs, is]
  refine ECall.fn (fn1027 row0 (by decide)) (by simp [toD2, toD1, toD, axs]) (by simp) rfl fun _ => ?_
  simp [chk_row0, ib, s1, is]
  refine ECall.ro (rs := []) (args := [is [1], .c (.clo 39 [] [(1017002, σ.tg 1017002 + 1)])]) [(1017002, σ.tg 1017002 + 1, ebox row0)] (by simpa [refs] using sp1038 (σ.tg 1017002 + 1) row0 [1]) (by simp [toD2, toD1, is, toD]) (by simp) rfl (Ro.one (by simp [ebox]) (by simp) rfl) fun _ => ?_
  have e1 : outE row0.length 1 = false := by decide
  simp [e1, bb, s1, is]
  refine ECall.new 1017300 (new1040 1 []) rfl rfl (by simp [toD2, toD1, is, toD]) (by simp) fun hx => ?_
  clear hx
  simp [-W_block]
  rw [W_block]
  refine W_loop (fun m σ => (m = 2 ∧ NS 1017300 [1] [] σ) ∨ (m = 1 ∧ NS 1017046 [0] [1] σ) ∨ (m = 0 ∧ NS 1017036 [] [1, 0] σ)) 2 (.inl ⟨rfl, ⟨by simp, by simp [ebox], by simp, by simp [encK], by simp, by simp⟩⟩) ?_
  clear s0 s1 σ
  have w0 : IntKind.wrap .i64 (0 : Int) = 0 := by decide
  rintro m σ (⟨rfl, s2, o2, s7, o7, s8, o8⟩ | ⟨rfl, s2, o2, s7, o7, s8, o8⟩ | ⟨rfl, s2, o2, s7, o7, s8, o8⟩)
  · unfold c1017b0
    simp [s2, o2, s7, o7, s8, o8, hrow, ic, w0, encK, ebox, mres, mgetL, mval, msetL]
    refine ⟨by simp [room], ECall.fn fn1041_1 (by simp [toD2, toD1, toD, axs, ib]) (by simp) rfl fun hx => ?_⟩
    clear hx
    simp [is]
    refine ⟨by simp [room], 1, by omega, .inr (.inl ⟨rfl, ⟨by simp [s2], by simp [o2, ebox], by simp [s7], by simp [encK], by simp, by simp [hrow, ic]⟩⟩)⟩
  · unfold c1017b0
    simp [s2, o2, s7, o7, s8, o8, hrow, ic, w0, encK, ebox, mres, mgetL, mval, msetL]
    refine ⟨by simp [room], ECall.fn fn1041_0 (by simp [toD2, toD1, toD, axs, ib]) (by simp) rfl fun hx => ?_⟩
    clear hx
    simp [is]
    exact ⟨by simp [s2], by simp [o2, ebox], by simp [s7], by simp [encK], by simp, by simp [hrow, ic]⟩
  · unfold c1017b0
    simp [s2, o2, s7, o7, s8, o8, hrow, ic, w0]
    refine ECall.keys (k := 1017020) (one := true) (es := encK [1, 0]) (by simp [o7]) (by simp) ?_
    simp
    refine ECall.sorted 1017301 (k := 1017020) (one := true) (es := encK [1, 0]) (by simp [o7]) (by simp) (by omega) (by simp [encK, okI]) (by simp [encK]) ?_
    simp [r1017, encK_keys, sort_10, isL]


/-! ### wakes -/
theorem ord_wakes : ord 3 [(2, 0)] = ([1, 2, 0], 0) := by decide

theorem fn1013 : Fn Tryz.prog 13 [] (bb true) := by
  refine fn_of (base := 1013000) ok1013 rfl fun σ h0 hr => ?_
  clear h0 hr
  unfold c1013
  simp [fillC, putC]
  refine ⟨by simp [room], ECall.fn (zn12 3 [(2, 0)]) (by simp [toD2, toD1, toD, eds, ecs, ec, ib]) (by simp) rfl fun hx => ?_⟩
  clear hx
  simp [ordAV, ord_wakes, is, ib]
  refine ECall.fn (fn24 0) (by simp [toD2, toD1, toD, ib]) (by simp) rfl fun hx => ?_
  clear hx
  simp [fillC, putC, tm, cells_mk]
  refine ECall.fn (fn1034 0) (by simp [toD2, toD1, toD, ib]) (by simp) rfl fun hx => ?_
  clear hx
  simp [fillC, putC, tm, cells_mk]
  refine ⟨by simp [room], by simp [room], ECall.fn fn1017 (by simp [toD2, toD1, toD, axs, row0, u0, c0, axc, is]) (by simp) rfl fun hx => ?_⟩
  clear hx
  simp [is, ib]
  refine ⟨by simp [room], GCall.fn (fun _ => fn59 [1, 2, 0] [1, 2, 0]) (by simp [toD2, toD1, toD, is]) (by simp) rfl fun hx => ?_⟩
  clear hx
  simp [bb]
  refine ⟨by simp [room], GCall.fn (fun _ => fn59 [0, 1] [0, 1]) (by simp [toD2, toD1, toD, is]) (by simp) rfl fun hx => ?_⟩
  clear hx
  simp [bb, r1013]

end Go.Abs

namespace Go.Abs
open Go.Proofs

theorem ord_eq {n : Int} {E : List Edge2} (h : wrongE n E = false) : ord n E = if (gr n.toNat E).length < n.toNat then ([], 12) else (gr n.toNat E, 0) := by simp [ord, h, gr]
theorem ord_bad {n : Int} {E : List Edge2} (h : wrongE n E = true) : ord n E = ([], 1) := by simp [ord, h]
theorem ord_none {n : Int} (h0 : 0 ≤ n) (h1 : n ≤ 200) : ord n [] = (nums n.toNat, 0) := by
  have hw : wrongE n [] = false := by simp [wrongE]; omega
  rw [ord_eq hw, gr_nil, nums_length, if_neg (by omega)]
theorem ord_self {n a : Int} (h0 : 0 ≤ a) (h1 : a < n) (h2 : n ≤ 200) : ord n [(a, a)] = ([], 12) := by
  have hw : wrongE n [(a, a)] = false := by simp [wrongE, badE]; omega
  have hno := gr_ring (n := n.toNat) (E := [(a, a)]) (S := fun k => k = a) (fun k hk => ⟨(a, a), by simp, hk.symm, rfl⟩) a rfl
  rw [ord_eq hw, if_pos]
  have := gr_le n.toNat [(a, a)]
  by_cases e : (gr n.toNat [(a, a)]).length = n.toNat
  · exact absurd (full_mem (gr_run _ _).nodup (gr_run _ _).range e h0 (by omega)) hno
  · omega
theorem ord_two {n a b : Int} (h0 : 0 ≤ a) (h1 : a < n) (h2 : 0 ≤ b) (h3 : b < n) (h4 : n ≤ 200) (hab : a ≠ b) : (ord n [(a, b)]).2 = 0 := by
  have hw : wrongE n [(a, b)] = false := by simp [wrongE, badE]; omega
  have hmem : a ∈ nums n.toNat := mem_nums.2 ⟨h0, by omega⟩
  have hnd : (nums n.toNat).Nodup := by rw [← gr_nil]; exact (gr_run _ _).nodup
  have hfull : (gr n.toNat [(a, b)]).length = n.toNat := by
    refine gr_full (l := a :: (nums n.toNat).erase a) ?_ ?_ ?_ ?_
    · refine List.nodup_cons.2 ⟨fun h => ?_, hnd.erase _⟩
      exact ((hnd.mem_erase_iff).1 h).1 rfl
    · intro x hx
      rcases List.mem_cons.1 hx with rfl | hx
      · exact ⟨h0, by omega⟩
      · exact mem_nums.1 (List.mem_of_mem_erase hx)
    · have := List.length_erase_of_mem hmem
      rw [nums_length] at this
      simp; omega
    · intro i k hi p hp hp2
      simp at hp; subst hp
      simp at hp2; subst hp2
      cases i with
      | zero => simp at hi; exact absurd hi hab
      | succ i => simp
  rw [ord_eq hw, if_neg (by omega)]
theorem ord_out {n a b : Int} (h : ¬ (0 ≤ a ∧ a < n ∧ 0 ≤ b ∧ b < n)) : ord n [(a, b)] = ([], 1) := by
  refine ord_bad ?_
  simp [wrongE, badE]; omega
theorem ord_many {n : Int} (E : List Edge2) (h : 4000 < E.length) : ord n E = ([], 1) := ord_bad (by simp [wrongE, h])

theorem fn1006 (n a b : Int) : Fn Tryz.prog 6 [ib n, ib a, ib b] (bb true) := by
  refine fn_of (base := 1006000) ok1006 rfl fun σ h0 hr => ?_
  have s0 : σ.sl 0 = .c (.v (.int .i64 n)) := h0 0
  have s1 : σ.sl 1 = .c (.v (.int .i64 a)) := h0 1
  have s2 : σ.sl 2 = .c (.v (.int .i64 b)) := h0 2
  clear h0 hr
  unfold c1006
  simp [s0]
  refine ECall.fn (zn12 n []) (by simp [toD2, toD1, toD, eds, ecs, ib]) (by simp) rfl fun hx => ?_
  clear hx
  by_cases c1 : n < 0
  · simp [ordAV, ord_bad (n := n) (E := []) (by simp [wrongE, c1]), is, ib, s0, s1, s2, c1]
    refine GCall.fn (fun _ => fn1013) (by simp) (by simp) rfl fun hx => ?_
    simp [bb, r1006]
  · by_cases c2 : 200 < n
    · simp [ordAV, ord_bad (n := n) (E := []) (by simp [wrongE, c2]), is, ib, s0, s1, s2, c1, c2]
      refine GCall.fn (fun _ => fn1013) (by simp) (by simp) rfl fun hx => ?_
      simp [bb, r1006]
    · have hl : ((nums n.toNat).length : Int) = n := by rw [nums_length]; omega
      simp [ordAV, ord_none (n := n) (by omega) (by omega), is, ib, s0, s1, s2, c1, c2, hl, fillC, putC]
      refine ⟨by simp [room], ECall.fn (zn12 n [(a, b)]) (by simp [toD2, toD1, toD, eds, ecs, ec, ib]) (by simp) rfl fun hx => ?_⟩
      clear hx
      simp [ordAV, is, ib, s0, s1, s2, -W_seq]
      rw [W_seq]
      obtain ⟨ins, hins⟩ : ∃ ins : Bool, ins = (decide (0 ≤ a) && decide (a < n) && decide (0 ≤ b) && decide (b < n)) := ⟨_, rfl⟩
      refine W_cut (fun σ' => σ'.sl 0 = .c (.v (.int .i64 n)) ∧ σ'.sl 1 = .c (.v (.int .i64 a)) ∧ σ'.sl 2 = .c (.v (.int .i64 b)) ∧ σ'.sl 10 = .c (.v (.int .i64 (ord n [(a, b)]).2)) ∧ σ'.sl 11 = .c (.v (.bool ins))) ?_ ?_
      · rw [hins]
        by_cases d1 : 0 ≤ a
        · by_cases d2 : a < n
          · by_cases d3 : 0 ≤ b
            · by_cases d4 : b < n
              · simp [s0, s1, s2, d1, d2, d3, d4]
              · simp [s0, s1, s2, d1, d2, d3, d4]
            · simp [s0, s1, s2, d1, d2, d3]
          · simp [s0, s1, s2, d1, d2]
        · simp [s0, s1, s2, d1]
      · clear s0 s1 s2 σ
        rintro σ ⟨s0, s1, s2, s10, s11⟩
        obtain ⟨E, hE⟩ : ∃ E : List Edge2, E = List.replicate 4001 (0, 0) := ⟨_, rfl⟩
        have hEl : E.length = 4001 := by rw [hE]; exact List.length_replicate
        have hEc : List.replicate 4001 [Cell.v (.int .i64 0), Cell.v (.int .i64 0)] = ecs E := by rw [hE, ecs, List.map_replicate]; rfl
        simp [s0, s1, s2, s10, s11, hEc, -List.reduceReplicate]
        refine ⟨by simp [room], ECall.fn (zn12 n E) (by simp [toD2, toD1, toD, eds, ib]) (by simp) rfl fun hx => ?_⟩
        clear hx
        have hm := ord_many (n := n) E (by omega)
        cases ins with
        | false =>
          have ho : (ord n [(a, b)]).2 = 1 := by
            rw [ord_out]
            intro h
            have : (decide (0 ≤ a) && decide (a < n) && decide (0 ≤ b) && decide (b < n)) = true := by simp [h]
            rw [← hins] at this; cases this
          simp [ordAV, hm, is, ib, s0, s1, s2, s10, s11, ho]
          refine GCall.fn (fun _ => fn1013) (by simp) (by simp) rfl fun hx => ?_
          simp [bb, r1006]
        | true =>
          have hin : ((0 ≤ a ∧ a < n) ∧ 0 ≤ b) ∧ b < n := by simpa using hins.symm
          by_cases hab : a = b
          · subst hab
            have ho : (ord n [(a, a)]).2 = 12 := by rw [ord_self hin.1.1.1 hin.2 (by omega)]
            simp [ordAV, hm, is, ib, s0, s1, s2, s10, s11, ho]
            refine GCall.fn (fun _ => fn1013) (by simp) (by simp) rfl fun hx => ?_
            simp [bb, r1006]
          · have ho : (ord n [(a, b)]).2 = 0 := ord_two hin.1.1.1 hin.1.1.2 hin.1.2 hin.2 (by omega) hab
            simp [ordAV, hm, is, ib, s0, s1, s2, s10, s11, ho, hab]
            refine GCall.fn (fun _ => fn1013) (by simp) (by simp) rfl fun hx => ?_
            simp [bb, r1006]

end Go.Abs

namespace Go.Abs
open Go.Proofs

/-! ### numbers cut down to a range -/
def mdV (k : Nat) (x : Int) : Int := IntKind.wrap .i64 ((IntKind.wrap .u64 x).tmod (IntKind.wrap .u64 (k : Int)))
theorem wrap_u64 {k : Nat} (h : k < 9223372036854775808) : IntKind.wrap .u64 (k : Int) = k := by
  simp only [IntKind.wrap, IntKind.bits, IntKind.signed, Bool.false_and, Bool.false_eq_true, if_false]
  omega
theorem u64_nonneg (x : Int) : 0 ≤ IntKind.wrap .u64 x := by
  simp only [IntKind.wrap, IntKind.bits, IntKind.signed, Bool.false_and, Bool.false_eq_true, if_false]
  omega
theorem mdV_range {k : Nat} (h0 : 0 < k) (h : k < 1000000) (x : Int) : 0 ≤ mdV k x ∧ mdV k x < k := by
  have h1 := u64_nonneg x
  unfold mdV
  rw [wrap_u64 (by omega)]
  generalize IntKind.wrap .u64 x = y at *
  have e : y.tmod (k : Int) = y % (k : Int) := Int.tmod_eq_emod_of_nonneg h1
  rw [e]
  have h2 : 0 ≤ y % (k : Int) := Int.emod_nonneg _ (by omega)
  have h3 : y % (k : Int) < k := Int.emod_lt_of_pos _ (by omega)
  rw [wrap_id (by omega) (by omega)]
  exact ⟨h2, h3⟩
def mdE (k : Nat) (p : Edge2) : Edge2 := (mdV k p.1, mdV k p.2)
theorem md_good {k : Nat} (h0 : 0 < k) (h : k < 1000000) {n : Int} (hn : n = k) (x y : Int) : badE n (mdV k x, mdV k y) = false := by
  have h1 := mdV_range h0 h x
  have h2 := mdV_range h0 h y
  subst hn
  simp [badE]; omega

/-- Edges that are put one behind the other. -/
def LS (σ : St) (s : Nat) (l : List Edge2) (Ks : List Nat) : Prop := (σ.sl s = .c (.cap 2 16 []) ∧ l = []) ∨ ∃ K, K ∈ Ks ∧ σ.sl s = .c (.own K (σ.tg K)) ∧ σ.ob K = some (.row 28 2 16 (ecs l))
theorem ecs_append (l m : List Edge2) : ecs l ++ ecs m = ecs (l ++ m) := by simp [ecs]

theorem loop4a {σ : St} {Q : SEx → St → Prop} (n : Nat) (E : List Edge2) (ring : List Int) (hn0 : 0 < n) (hn : n < 1000) (hE : E.length ≤ 200) (s0 : σ.sl 0 = .c (.v (.int .i64 n))) (s1 : σ.sl 1 = .c (.sl 2 16 (ecs E))) (s2 : σ.sl 2 = is ring) (s7 : σ.sl 7 = .c (.cap 2 16 [])) (s8 : σ.sl 8 = .c (.v (.int .i64 (0 : Nat))))
    (hQ : ∀ σ', σ'.sl 0 = .c (.v (.int .i64 n)) → σ'.sl 2 = is ring → LS σ' 7 (E.map (mdE n)) [1004061] → Q .normal σ') : W Tryz.prog 1004000 (.loop c1004b0) σ (onBlock 0 Q) := by
  refine W_loop (fun m σ => ∃ i : Nat, i + m = E.length ∧ σ.sl 0 = .c (.v (.int .i64 n)) ∧ σ.sl 1 = .c (.sl 2 16 (ecs E)) ∧ σ.sl 2 = is ring ∧ LS σ 7 ((E.take i).map (mdE n)) [1004061] ∧ σ.sl 8 = .c (.v (.int .i64 i))) E.length ⟨0, by simp, s0, s1, s2, .inl ⟨s7, rfl⟩, s8⟩ ?_
  clear s0 s1 s2 s7 s8 σ
  rintro m σ ⟨i, hm, s0, s1, s2, s7, s8⟩
  unfold c1004b0
  by_cases hi : i < E.length
  · have w1 := wrap_succ (i := i) (by omega)
    obtain ⟨p, hp1⟩ := at_of hi
    obtain ⟨_, hp2⟩ := getE hp1
    obtain ⟨a, b⟩ := p
    have hu : ¬ IntKind.wrap .u64 (n : Int) = 0 := by rw [wrap_u64 (by omega)]; omega
    have htk := take_succ'' hp1
    have hmd : ∀ x, IntKind.wrap .i64 ((IntKind.wrap .u64 x).tmod (IntKind.wrap .u64 (n : Int))) = mdV n x := fun x => rfl
    simp [s0, s1, s8, hi]
    refine W_dregA ?_
    rcases s7 with ⟨q1, q2⟩ | ⟨K, hK, q1, q2⟩
    · simp [s0, s1, s8, hi, hp2, ec, hu, hmd, q1, fillC, putC]
      refine ⟨by simp [room], by decide, by simp [room], realC_n ?_⟩
      simp [s8, w1]
      refine ⟨m - 1, by omega, i + 1, by omega, by simp [s0], by simp [s1], by simp [s2], .inr ⟨1004061, by simp, by simp, ?_⟩, by simp⟩
      have : ((E.take (i + 1)).map (mdE n)) = [(mdV n a, mdV n b)] := by rw [htk, List.map_append, q2]; rfl
      rw [← List.map_take, this]
      simp [ecs, ec]
    · simp at hK
      subst hK
      simp [s0, s1, s8, hi, hp2, ec, hu, hmd, q1, q2, fillC, putC]
      refine ⟨by simp [room], by decide, by simp [room]; omega, realC_n ?_⟩
      simp [s8, w1]
      refine ⟨m - 1, by omega, i + 1, by omega, by simp [s0], by simp [s1], by simp [s2], .inr ⟨1004061, by simp, by simp, ?_⟩, by simp⟩
      have hk : (E.map (mdE n)).take (i + 1) = (E.map (mdE n)).take i ++ [(mdV n a, mdV n b)] := by rw [← List.map_take, htk, List.map_append, List.map_take]; rfl
      simp [hk, ← ecs_append, show ecs [(mdV n a, mdV n b)] = [[.v (.int .i64 (mdV n a)), .v (.int .i64 (mdV n b))]] from rfl]
  · have : i = E.length := by omega
    subst this
    simp [s0, s1, s8]
    refine hQ _ (by simp [s0]) (by simp [s2]) ?_
    rw [List.take_of_length_le (Nat.le_refl _)] at s7
    rcases s7 with ⟨q1, q2⟩ | ⟨K, hK, q1, q2⟩
    · exact .inl ⟨by simp [q1], q2⟩
    · exact .inr ⟨K, hK, by simp [q1], by simp [q2]⟩


def ringE (n : Nat) (ring : List Int) (i : Nat) : Edge2 := (mdV n (ring[i]!), mdV n (ring[(i + 1) % ring.length]!))
theorem loop4b {σ : St} {Q : SEx → St → Prop} (n : Nat) (E : List Edge2) (ring : List Int) (hn0 : 0 < n) (hn : n < 1000) (hE : E.length ≤ 200) (hr0 : 0 < ring.length) (hr : ring.length ≤ 30) (s0 : σ.sl 0 = .c (.v (.int .i64 n))) (s2 : σ.sl 2 = is ring) (s7 : LS σ 7 E [1004061]) (s9 : σ.sl 9 = .c (.v (.int .i64 (0 : Nat))))
    (hQ : ∀ σ', σ'.sl 0 = .c (.v (.int .i64 n)) → LS σ' 7 (E ++ (List.range ring.length).map (ringE n ring)) [1004061, 1004095] → Q .normal σ') : W Tryz.prog 1004000 (.loop c1004b1) σ (onBlock 2 Q) := by
  refine W_loop (fun m σ => ∃ i : Nat, i + m = ring.length ∧ σ.sl 0 = .c (.v (.int .i64 n)) ∧ σ.sl 2 = is ring ∧ LS σ 7 (E ++ (List.range i).map (ringE n ring)) [1004061, 1004095] ∧ σ.sl 9 = .c (.v (.int .i64 i))) ring.length ⟨0, by simp, s0, s2, ?_, s9⟩ ?_
  · rcases s7 with ⟨q1, q2⟩ | ⟨K, hK, q1, q2⟩
    · exact .inl ⟨q1, by simp [q2]⟩
    · simp at hK; subst hK
      exact .inr ⟨1004061, by simp, q1, by simpa using q2⟩
  clear s0 s2 s7 s9 σ
  rintro m σ ⟨i, hm, s0, s2, s7, s9⟩
  simp only [is] at s2
  unfold c1004b1
  by_cases hi : i < ring.length
  · have w1 := wrap_succ (i := i) (by omega)
    have hu : ¬ IntKind.wrap .u64 (n : Int) = 0 := by rw [wrap_u64 (by omega)]; omega
    have hmd : ∀ x, IntKind.wrap .i64 ((IntKind.wrap .u64 x).tmod (IntKind.wrap .u64 (n : Int))) = mdV n x := fun x => rfl
    obtain ⟨j, hj⟩ : ∃ j, j = (i + 1) % ring.length := ⟨_, rfl⟩
    have hjl : j < ring.length := by rw [hj]; exact Nat.mod_lt _ hr0
    have w2 : ((i : Int) + 1).tmod (ring.length : Int) = (j : Int) := by rw [hj]; exact_mod_cast (Int.ofNat_tmod (i + 1) ring.length).symm
    have e1 : ring[i]! = ring[i]'hi := getElem!_pos ring i hi
    have e2 : ring[j]! = ring[j]'hjl := getElem!_pos ring j hjl
    have hre : ringE n ring i = (mdV n ring[i], mdV n ring[j]) := by rw [ringE, ← hj, e1, e2]
    have hr0' : ¬ ring = [] := by intro e; rw [e] at hr0; simp at hr0
    have hrl : ¬ (ring.length : Int) = 0 := by omega
    simp [s0, s2, s9, hi]
    refine W_dregA ?_
    simp [s0, s2, s9, hi, hu, hmd, w1, w2, hjl, hrl, hr0']
    refine realC_n ?_
    have hk : E ++ (List.range (i + 1)).map (ringE n ring) = (E ++ (List.range i).map (ringE n ring)) ++ [(mdV n ring[i], mdV n ring[j])] := by rw [List.range_succ, List.map_append, ← List.append_assoc]; simp [hre]
    rcases s7 with ⟨q1, q2⟩ | ⟨K, hK, q1, q2⟩
    · simp [s9, w1, q1, fillC, putC]
      refine ⟨by simp [room], m - 1, by omega, i + 1, by omega, by simp [s0], by simp [s2, is], .inr ⟨1004095, by simp, by simp, ?_⟩, by simp⟩
      rw [hk, q2]
      simp [ecs, ec]
    · have hl2 : (E ++ (List.range i).map (ringE n ring)).length ≤ 230 := by simp; omega
      generalize E ++ (List.range i).map (ringE n ring) = F at *
      rcases List.mem_cons.1 hK with rfl | hK
      · simp [s9, w1, q1, q2, fillC, putC]
        refine ⟨by simp [room], by simp [room]; omega, m - 1, by omega, i + 1, by omega, by simp [s0], by simp [s2, is], .inr ⟨1004095, by simp, by simp, ?_⟩, by simp⟩
        rw [hk]
        simp [← ecs_append, show ecs [(mdV n ring[i], mdV n ring[j])] = [[.v (.int .i64 (mdV n ring[i])), .v (.int .i64 (mdV n ring[j]))]] from rfl]
      · simp at hK; subst hK
        simp [s9, w1, q1, q2, fillC, putC]
        refine ⟨by simp [room], by simp [room]; omega, m - 1, by omega, i + 1, by omega, by simp [s0], by simp [s2, is], .inr ⟨1004095, by simp, by simp, ?_⟩, by simp⟩
        rw [hk]
        simp [← ecs_append, show ecs [(mdV n ring[i], mdV n ring[j])] = [[.v (.int .i64 (mdV n ring[i])), .v (.int .i64 (mdV n ring[j]))]] from rfl]
  · have : i = ring.length := by omega
    subst this
    simp [s0, s2, s9]
    refine hQ _ (by simp [s0]) ?_
    rcases s7 with ⟨q1, q2⟩ | ⟨K, hK, q1, q2⟩
    · exact .inl ⟨by simp [q1], q2⟩
    · exact .inr ⟨K, hK, by simp [q1], by simp [q2]⟩


theorem ord_ring {n : Nat} (h0 : 0 < n) (hn : n ≤ 60) (E : List Edge2) (hE : E.length ≤ 200) (ring : List Int) (hr0 : 0 < ring.length) (hr : ring.length ≤ 30) : ord n (E.map (mdE n) ++ (List.range ring.length).map (ringE n ring)) = ([], 12) := by
  have hw : wrongE n (E.map (mdE n) ++ (List.range ring.length).map (ringE n ring)) = false := by
    have h1 : (E.map (mdE n) ++ (List.range ring.length).map (ringE n ring)).any (badE n) = false := by
      rw [List.any_eq_false]
      intro p hp
      rcases List.mem_append.1 hp with hp | hp
      · obtain ⟨q, _, rfl⟩ := List.mem_map.1 hp
        have : badE (n : Int) (mdE n q) = false := md_good h0 (by omega) rfl q.1 q.2
        simp [this]
      · obtain ⟨i, _, rfl⟩ := List.mem_map.1 hp
        have : badE (n : Int) (ringE n ring i) = false := md_good h0 (by omega) rfl _ _
        simp [this]
    simp only [wrongE, h1, Bool.or_false]
    simp; omega
  rw [ord_eq hw]
  have hS := gr_ring (n := n) (E := E.map (mdE n) ++ (List.range ring.length).map (ringE n ring)) (S := fun x => ∃ i, i < ring.length ∧ x = mdV n ring[i]!) (by
    rintro x ⟨i, hi, rfl⟩
    obtain ⟨j, hj, hji⟩ : ∃ j, j < ring.length ∧ (j + 1) % ring.length = i := by
      by_cases h : i = 0
      · exact ⟨ring.length - 1, by omega, by rw [Nat.sub_add_cancel hr0, Nat.mod_self]; exact h.symm⟩
      · exact ⟨i - 1, by omega, by rw [Nat.sub_add_cancel (by omega), Nat.mod_eq_of_lt hi]⟩
    exact ⟨ringE n ring j, by simp only [List.mem_append, List.mem_map, List.mem_range]; exact .inr ⟨j, hj, rfl⟩, by simp [ringE, hji], j, hj, rfl⟩) (mdV n ring[0]!) ⟨0, hr0, rfl⟩
  have hx := mdV_range h0 (by omega) ring[0]!
  rw [if_pos]
  have := gr_le n (E.map (mdE n) ++ (List.range ring.length).map (ringE n ring))
  by_cases e : (gr n (E.map (mdE n) ++ (List.range ring.length).map (ringE n ring))).length = n
  · exact absurd (full_mem (gr_run _ _).nodup (gr_run _ _).range e hx.1 hx.2) hS
  · simp; omega

theorem fn1004 (n0 : Int) (E : List Edge2) (ring : List Int) : Fn Tryz.prog 4 [ib n0, eds E, is ring] (bb true) := by
  refine fn_of (base := 1004000) ok1004 rfl fun σ h0 hr => ?_
  have s0 : σ.sl 0 = .c (.v (.int .i64 n0)) := h0 0
  have s1 : σ.sl 1 = .c (.sl 2 16 (ecs E)) := h0 1
  have s2 : σ.sl 2 = .c (.sl 1 8 (ic ring)) := h0 2
  clear h0 hr
  unfold c1004
  by_cases c1 : 200 < E.length
  · have c1' : (200 : Int) < E.length := by omega
    simp [s0, s1, s2, c1, c1', r1004, bb]
  · have c1' : ¬ (200 : Int) < E.length := by omega
    by_cases c2 : 30 < ring.length
    · have c2' : (30 : Int) < ring.length := by omega
      simp [s0, s1, s2, c1, c1', c2, c2', r1004, bb]
    · have c2' : ¬ (30 : Int) < ring.length := by omega
      by_cases c3 : ring = []
      · subst c3
        simp [s0, s1, s2, c1, c1', c2, c2', r1004, bb]
      · have hr0 : 0 < ring.length := List.length_pos_iff.2 c3
        obtain ⟨n, hn⟩ : ∃ n : Nat, (n : Int) = 1 + (IntKind.wrap .u64 n0).tmod 60 ∧ 0 < n ∧ n ≤ 60 := by
          have h1 := u64_nonneg n0
          have h2 : (IntKind.wrap .u64 n0).tmod 60 = (IntKind.wrap .u64 n0) % 60 := Int.tmod_eq_emod_of_nonneg h1
          rw [h2]
          exact ⟨(1 + IntKind.wrap .u64 n0 % 60).toNat, by omega, by omega, by omega⟩
        obtain ⟨hn, hn0, hn1⟩ := hn
        have w1 : IntKind.wrap .i64 ((IntKind.wrap .u64 n0).tmod 60) = (IntKind.wrap .u64 n0).tmod 60 := wrap_id (by omega) (by omega)
        have w2 : IntKind.wrap .i64 (1 + (IntKind.wrap .u64 n0).tmod 60) = n := by rw [wrap_id (by omega) (by omega)]; exact hn.symm
        simp [s0, s1, s2, c1, c1', c2, c2', c3, w1, w2]
        refine loop4a n E ring hn0 (by omega) (by omega) (by simp) (by simp [s1]) (by simp [s2, is, ic]) (by simp) (by simp) fun σ1 q0 q2 q7 => ?_
        clear s0 s1 s2 σ
        simp
        refine loop4b n (E.map (mdE n)) ring hn0 (by omega) (by simp; omega) hr0 (by omega) (by simp [q0]) (by simp [q2]) ?_ (by simp) fun σ2 s0 s7 => ?_
        · rcases q7 with ⟨a1, a2⟩ | ⟨K, hK, a1, a2⟩
          · exact .inl ⟨by simp [a1], a2⟩
          · exact .inr ⟨K, hK, by simp [a1], by simp [a2]⟩
        · clear q0 q2 q7 σ1
          have ho := ord_ring hn0 hn1 E (by omega) ring hr0 (by omega)
          rcases s7 with ⟨a1, a2⟩ | ⟨K, hK, a1, a2⟩
          · rw [a2] at ho
            simp [s0, a1]
            refine ECall.fn (zn12 n []) (by simp [toD2, toD1, toD, eds, ecs, ib]) (by simp) rfl fun hx => ?_
            clear hx
            simp [ordAV, ho, is, ib]
            refine GCall.fn (fun _ => fn1013) (by simp) (by simp) rfl fun hx => ?_
            simp [bb, r1004]
          · generalize E.map (mdE n) ++ (List.range ring.length).map (ringE n ring) = F at *
            rcases List.mem_cons.1 hK with rfl | hK
            · simp [s0, a1]
              refine ECall.fn (zn12 n F) (by simp [toD2, toD1, toD, eds, ib, a2]) (by simp) rfl fun hx => ?_
              clear hx
              simp [ordAV, ho, is, ib]
              refine GCall.fn (fun _ => fn1013) (by simp) (by simp) rfl fun hx => ?_
              simp [bb, r1004]
            · simp at hK; subst hK
              simp [s0, a1]
              refine ECall.fn (zn12 n F) (by simp [toD2, toD1, toD, eds, ib, a2]) (by simp) rfl fun hx => ?_
              clear hx
              simp [ordAV, ho, is, ib]
              refine GCall.fn (fun _ => fn1013) (by simp) (by simp) rfl fun hx => ?_
              simp [bb, r1004]

end Go.Abs

namespace Go.Abs
open Go.Proofs

/-! ### where a number stands -/
def plcF : List Int → Int → Nat → Int
  | [], _, _ => -1
  | y :: r, x, i => if y = x then (i : Int) else plcF r x (i + 1)
def plc (l : List Int) (x : Int) : Int := plcF l x 0
theorem plcF_at : ∀ {l : List Int} (j i : Nat) {k : Int}, l.Nodup → l[i]? = some k → plcF l k j = (j : Int) + i
  | y :: r, j, 0, k, _, h => by simp at h; subst h; simp [plcF]
  | y :: r, j, i + 1, k, hn, h => by
    have h' : r[i]? = some k := by simpa using h
    have hne : y ≠ k := fun e => (List.nodup_cons.1 hn).1 (e ▸ List.mem_of_getElem? h')
    rw [plcF, if_neg hne, plcF_at (j + 1) i (List.nodup_cons.1 hn).2 h']
    omega
  | [], j, i, k, _, h => by simp at h
theorem plc_at {l : List Int} {i : Nat} {k : Int} (hn : l.Nodup) (h : l[i]? = some k) : plc l k = i := by rw [plc, plcF_at 0 i hn h]; omega

theorem fn1014 (l : List Int) (x : Int) : Fn Tryz.prog 14 [is l, ib x] (ib (plc l x)) := by
  refine fn_of (base := 1014000) ok1014 rfl fun σ h0 hr => ?_
  have hl := real_is (hr (is l) (by simp))
  have s0 : σ.sl 0 = .c (.sl 1 8 (ic l)) := h0 0
  have s1 : σ.sl 1 = .c (.v (.int .i64 x)) := h0 1
  clear h0 hr
  unfold c1014
  simp [s0, s1, -W_block]
  rw [W_block]
  refine W_loop (fun m σ => ∃ i : Nat, i + m = l.length ∧ plcF (l.drop i) x i = plc l x ∧ σ.sl 0 = .c (.sl 1 8 (ic l)) ∧ σ.sl 1 = .c (.v (.int .i64 x)) ∧ σ.sl 5 = .c (.v (.int .i64 i))) l.length ⟨0, by simp [s0, s1, plc]⟩ ?_
  clear s0 s1 σ
  rintro m σ ⟨i, hm, hp, s0, s1, s5⟩
  unfold c1014b0
  by_cases hi : i < l.length
  · have w1 := wrap_succ (i := i) (by omega)
    obtain ⟨y, hy1⟩ := at_of hi
    obtain ⟨_, hy2⟩ := getE hy1
    rw [drop_at hy1, plcF] at hp
    by_cases hyx : y = x
    · rw [if_pos hyx] at hp
      simp [s0, s1, s5, hi, hy2, hyx, r1014, ib, ← hp]
    · rw [if_neg hyx] at hp
      simp [s0, s1, s5, hi, hy2, hyx, w1]
      exact ⟨m - 1, by omega, i + 1, by omega, hp, rfl⟩
  · have : i = l.length := by omega
    subst this
    simp [plcF] at hp
    simp [s0, s1, s5, r1014, ib, ← hp]

theorem loop5a {σ : St} {Q : SEx → St → Prop} (n : Nat) (E : List Edge2) (a b : Int) (hn0 : 0 < n) (hn : n < 1000) (hE : E.length ≤ 200) (s0 : σ.sl 0 = .c (.v (.int .i64 n))) (s1 : σ.sl 1 = .c (.sl 2 16 (ecs E))) (s2 : σ.sl 2 = ib a) (s3 : σ.sl 3 = ib b) (s7 : σ.sl 9 = .c (.cap 2 16 [])) (s8 : σ.sl 10 = .c (.v (.int .i64 (0 : Nat))))
    (hQ : ∀ σ', σ'.sl 0 = .c (.v (.int .i64 n)) → σ'.sl 2 = ib a → σ'.sl 3 = ib b → LS σ' 9 (E.map (mdE n)) [1005055] → Q .normal σ') : W Tryz.prog 1005000 (.loop c1005b0) σ (onBlock 0 Q) := by
  refine W_loop (fun m σ => ∃ i : Nat, i + m = E.length ∧ σ.sl 0 = .c (.v (.int .i64 n)) ∧ σ.sl 1 = .c (.sl 2 16 (ecs E)) ∧ σ.sl 2 = ib a ∧ σ.sl 3 = ib b ∧ LS σ 9 ((E.take i).map (mdE n)) [1005055] ∧ σ.sl 10 = .c (.v (.int .i64 i))) E.length ⟨0, by simp, s0, s1, s2, s3, .inl ⟨s7, rfl⟩, s8⟩ ?_
  clear s0 s1 s2 s3 s7 s8 σ
  rintro m σ ⟨i, hm, s0, s1, s2, s3, s7, s8⟩
  unfold c1005b0
  by_cases hi : i < E.length
  · have w1 := wrap_succ (i := i) (by omega)
    obtain ⟨p, hp1⟩ := at_of hi
    obtain ⟨_, hp2⟩ := getE hp1
    obtain ⟨a, b⟩ := p
    have hu : ¬ IntKind.wrap .u64 (n : Int) = 0 := by rw [wrap_u64 (by omega)]; omega
    have htk := take_succ'' hp1
    have hmd : ∀ x, IntKind.wrap .i64 ((IntKind.wrap .u64 x).tmod (IntKind.wrap .u64 (n : Int))) = mdV n x := fun x => rfl
    simp [s0, s1, s8, hi]
    refine W_dregA ?_
    rcases s7 with ⟨q1, q2⟩ | ⟨K, hK, q1, q2⟩
    · simp [s0, s1, s8, hi, hp2, ec, hu, hmd, q1, fillC, putC]
      refine ⟨by simp [room], by decide, by simp [room], realC_n ?_⟩
      simp [s8, w1]
      refine ⟨m - 1, by omega, i + 1, by omega, by simp [s0], by simp [s1], by simp [s2], by simp [s3], .inr ⟨1005055, by simp, by simp, ?_⟩, by simp⟩
      have : ((E.take (i + 1)).map (mdE n)) = [(mdV n a, mdV n b)] := by rw [htk, List.map_append, q2]; rfl
      rw [← List.map_take, this]
      simp [ecs, ec]
    · simp at hK
      subst hK
      simp [s0, s1, s8, hi, hp2, ec, hu, hmd, q1, q2, fillC, putC]
      refine ⟨by simp [room], by decide, by simp [room]; omega, realC_n ?_⟩
      simp [s8, w1]
      refine ⟨m - 1, by omega, i + 1, by omega, by simp [s0], by simp [s1], by simp [s2], by simp [s3], .inr ⟨1005055, by simp, by simp, ?_⟩, by simp⟩
      have hk : (E.map (mdE n)).take (i + 1) = (E.map (mdE n)).take i ++ [(mdV n a, mdV n b)] := by rw [← List.map_take, htk, List.map_append, List.map_take]; rfl
      simp [hk, ← ecs_append, show ecs [(mdV n a, mdV n b)] = [[.v (.int .i64 (mdV n a)), .v (.int .i64 (mdV n b))]] from rfl]
  · have : i = E.length := by omega
    subst this
    simp [s0, s1, s8]
    refine hQ _ (by simp [s0]) (by simp [s2]) (by simp [s3]) ?_
    rw [List.take_of_length_le (Nat.le_refl _)] at s7
    rcases s7 with ⟨q1, q2⟩ | ⟨K, hK, q1, q2⟩
    · exact .inl ⟨by simp [q1], q2⟩
    · exact .inr ⟨K, hK, by simp [q1], by simp [q2]⟩

/-- What is kept while the order without edges is looked at. -/
structure F5 (n : Nat) (A : List Edge2) (a b : Int) (σ : St) : Prop where
  s0 : σ.sl 0 = .c (.v (.int .i64 n))
  s2 : σ.sl 2 = .c (.v (.int .i64 a))
  s3 : σ.sl 3 = .c (.v (.int .i64 b))
  s11 : σ.sl 11 = .c (.sl 1 8 (ic (ord n A).1))
  s12 : σ.sl 12 = .c (.v (.int .i64 (ord n A).2))
  s13 : σ.sl 13 = .c (.sl 1 8 (ic (ord n (A ++ [(a, b)])).1))
  s14 : σ.sl 14 = .c (.v (.int .i64 (ord n (A ++ [(a, b)])).2))
def KP5 (σ σ' : St) : Prop := ∀ s, s = 0 ∨ s = 2 ∨ s = 3 ∨ s = 11 ∨ s = 12 ∨ s = 13 ∨ s = 14 → σ'.sl s = σ.sl s
theorem F5.kp {n : Nat} {A : List Edge2} {a b : Int} {σ σ' : St} (h : F5 n A a b σ) (k : KP5 σ σ') : F5 n A a b σ' :=
  ⟨by rw [k 0 (by simp)]; exact h.s0, by rw [k 2 (by simp)]; exact h.s2, by rw [k 3 (by simp)]; exact h.s3, by rw [k 11 (by simp)]; exact h.s11, by rw [k 12 (by simp)]; exact h.s12, by rw [k 13 (by simp)]; exact h.s13, by rw [k 14 (by simp)]; exact h.s14⟩

theorem loop5b {σ : St} {Q : SEx → St → Prop} (n : Nat) (hn : n ≤ 200) (A : List Edge2) (a b : Int) (H : F5 n A a b σ) (s15 : σ.sl 15 = .c (.sl 1 8 (ic (nums n)))) (s17 : σ.sl 17 = .c (.v (.int .i64 (0 : Nat))))
    (hQ : ∀ σ', F5 n A a b σ' → Q .normal σ') : W Tryz.prog 1005000 (.loop c1005b1) σ (onBlock 2 Q) := by
  refine W_loop (fun m σ => ∃ i : Nat, i + m = n ∧ F5 n A a b σ ∧ σ.sl 15 = .c (.sl 1 8 (ic (nums n))) ∧ σ.sl 17 = .c (.v (.int .i64 i))) n ⟨0, by simp, H, s15, s17⟩ ?_
  clear H s15 s17 σ
  rintro m σ ⟨i, hm, H, s15, s17⟩
  have s0 := H.s0
  unfold c1005b1
  by_cases hi : i < n
  · have w1 := wrap_succ (i := i) (by omega)
    have hil : i < (nums n).length := by rw [nums_length]; exact hi
    have hat : (nums n)[i]'hil = (i : Int) := by simp [nums]
    simp [s0, s15, s17, hi, hil, hat, w1, nums_length]
    refine ⟨m - 1, by omega, i + 1, by omega, H.kp fun s hs => ?_, by simp⟩
    rcases hs with rfl | rfl | rfl | rfl | rfl | rfl | rfl <;> simp
  · have : i = n := by omega
    subst this
    simp [s0, s15, s17]
    refine hQ _ (H.kp fun s hs => ?_)
    rcases hs with rfl | rfl | rfl | rfl | rfl | rfl | rfl <;> simp


theorem wrongE_good {n : Nat} (h0 : 0 < n) (hn : n ≤ 200) {A : List Edge2} (hA : A.length ≤ 4000) (hg : ∀ p, p ∈ A → badE n p = false) : wrongE n A = false := by
  have h1 : A.any (badE n) = false := by
    rw [List.any_eq_false]
    intro p hp
    simp [hg p hp]
  simp only [wrongE, h1, Bool.or_false]
  simp; omega

theorem fn1005 (n0 : Int) (E : List Edge2) (a0 b0 : Int) : Fn Tryz.prog 5 [ib n0, eds E, ib a0, ib b0] (bb true) := by
  refine fn_of (base := 1005000) ok1005 rfl fun σ h0 hr => ?_
  have s0 : σ.sl 0 = .c (.v (.int .i64 n0)) := h0 0
  have s1 : σ.sl 1 = .c (.sl 2 16 (ecs E)) := h0 1
  have s2 : σ.sl 2 = .c (.v (.int .i64 a0)) := h0 2
  have s3 : σ.sl 3 = .c (.v (.int .i64 b0)) := h0 3
  clear h0 hr
  unfold c1005
  by_cases c1 : 200 < E.length
  · have c1' : (200 : Int) < E.length := by omega
    simp [s0, s1, c1, c1', r1005, bb]
  · have c1' : ¬ (200 : Int) < E.length := by omega
    obtain ⟨n, hn⟩ : ∃ n : Nat, (n : Int) = 1 + (IntKind.wrap .u64 n0).tmod 50 ∧ 0 < n ∧ n ≤ 60 := by
      have h1 := u64_nonneg n0
      have h2 : (IntKind.wrap .u64 n0).tmod 50 = (IntKind.wrap .u64 n0) % 50 := Int.tmod_eq_emod_of_nonneg h1
      rw [h2]
      exact ⟨(1 + IntKind.wrap .u64 n0 % 50).toNat, by omega, by omega, by omega⟩
    obtain ⟨hn, hn0, hn1⟩ := hn
    have w1 : IntKind.wrap .i64 ((IntKind.wrap .u64 n0).tmod 50) = (IntKind.wrap .u64 n0).tmod 50 := wrap_id (by omega) (by omega)
    have w2 : IntKind.wrap .i64 (1 + (IntKind.wrap .u64 n0).tmod 50) = n := by rw [wrap_id (by omega) (by omega)]; exact hn.symm
    simp [s0, s1, c1, c1', w1, w2]
    refine loop5a n E a0 b0 hn0 (by omega) (by omega) (by simp) (by simp [s1]) (by simp [s2, ib]) (by simp [s3, ib]) (by simp) (by simp) fun σ1 q0 q2 q3 q9 => ?_
    clear s0 s1 s2 s3 σ
    have hu : ¬ IntKind.wrap .u64 (n : Int) = 0 := by rw [wrap_u64 (by omega)]; omega
    have hmd : ∀ x, IntKind.wrap .i64 ((IntKind.wrap .u64 x).tmod (IntKind.wrap .u64 (n : Int))) = mdV n x := fun x => rfl
    have hAl : (E.map (mdE n)).length ≤ 200 := by simp; omega
    have hAg : ∀ p, p ∈ E.map (mdE n) → badE n p = false := fun p hp => by
      obtain ⟨q, _, rfl⟩ := List.mem_map.1 hp
      exact md_good hn0 (by omega) rfl q.1 q.2
    have ha := mdV_range hn0 (by omega) a0
    have hb := mdV_range hn0 (by omega) b0
    simp only [ib] at q2 q3
    generalize E.map (mdE n) = A at *
    simp
    refine W_dregA ?_
    simp [q0, q2, q3, hu, hmd]
    generalize mdV n a0 = a at *
    generalize mdV n b0 = b at *
    refine realC_n ?_
    simp [-W_seq]
    rw [W_seq]
    refine W_cut (fun σ => σ.sl 0 = .c (.v (.int .i64 n)) ∧ σ.sl 2 = .c (.v (.int .i64 a)) ∧ σ.sl 3 = .c (.v (.int .i64 b)) ∧ LS σ 9 A [1005055] ∧ σ.sl 11 = .c (.sl 1 8 (ic (ord n A).1)) ∧ σ.sl 12 = .c (.v (.int .i64 (ord n A).2))) ?_ ?_
    · rcases q9 with ⟨q1, q4⟩ | ⟨K, hK, q1, q4⟩
      · subst q4
        simp [q0, q1, q2, q3]
        refine ECall.fn (zn12 n []) (by simp [toD2, toD1, toD, eds, ecs, ib]) (by simp) rfl fun hx => ?_
        clear hx
        simp [ordAV, is, ib, q0, q1, q2, q3, ic]
        exact .inl ⟨by simp [q1], rfl⟩
      · simp at hK
        subst hK
        simp [q0, q1, q2, q3, q4]
        refine ECall.fn (zn12 n A) (by simp [toD2, toD1, toD, eds, ib, q4]) (by simp) rfl fun hx => ?_
        clear hx
        simp [ordAV, is, ib, q0, q1, q2, q3, ic]
        exact .inr ⟨1005055, by simp, by simp [q1], by simp [q4]⟩
    clear q0 q2 q3 q9 σ1
    rintro σ1 ⟨q0, q2, q3, q9, q11, q12⟩
    simp [-W_seq]
    rw [W_seq]
    refine W_cut (F5 n A a b) ?_ ?_
    · rcases q9 with ⟨q1, q4⟩ | ⟨K, hK, q1, q4⟩
      · subst q4
        simp [q0, q1, q2, q3, fillC, putC]
        refine ⟨by simp [room], ECall.fn (zn12 n [(a, b)]) (by simp [toD2, toD1, toD, eds, ecs, ec, ib]) (by simp) rfl fun hx => ?_⟩
        clear hx
        simp [ordAV, is, ib]
        exact ⟨by simp [q0], by simp [q2], by simp [q3], by simp [q11], by simp [q12], by simp [ic], by simp⟩
      · simp at hK
        subst hK
        simp [q0, q1, q2, q3, q4, fillC, putC]
        refine ⟨by simp [room], by simp [room]; omega, ECall.fn (zn12 n (A ++ [(a, b)])) (by simp [toD2, toD1, toD, eds, ib, ecs, ec]) (by simp) rfl fun hx => ?_⟩
        clear hx
        simp [ordAV, is, ib]
        exact ⟨by simp [q0], by simp [q2], by simp [q3], by simp [q11], by simp [q12], by simp [ic], by simp⟩
    clear q0 q2 q3 q9 q11 q12 σ1
    rintro σ1 H
    have hnn := ord_none (n := (n : Int)) (by omega) (by omega)
    simp only [Int.toNat_natCast] at hnn
    simp [H.s0]
    refine ECall.fn (zn12 n []) (by simp [toD2, toD1, toD, eds, ecs, ib]) (by simp) rfl fun hx => ?_
    clear hx
    simp [ordAV, hnn, is, ib, H.s0, nums_length]
    refine loop5b n (by omega) A a b (H.kp fun s hs => ?_) (by simp [ic]) (by simp) fun σ2 H2 => ?_
    · rcases hs with rfl | rfl | rfl | rfl | rfl | rfl | rfl <;> simp
    clear H σ1
    -- what the orders are
    have hAb : ∀ p, p ∈ A ++ [(a, b)] → badE n p = false := fun p hp => by
      rcases List.mem_append.1 hp with hp | hp
      · exact hAg p hp
      · simp at hp; subst hp; simp [badE]; omega
    have ox := ord_eq (wrongE_good hn0 (by omega) (by omega) hAg)
    have oy := ord_eq (wrongE_good hn0 (by omega) (by simp; omega) hAb)
    simp only [Int.toNat_natCast] at ox oy
    have lx := gr_le n A
    have ly := gr_le n (A ++ [(a, b)])
    obtain ⟨s0, s2, s3, s11, s12, s13, s14⟩ := H2
    by_cases fx : (gr n A).length < n
    · have fy : (gr n (A ++ [(a, b)])).length < n := by
        by_cases h : (gr n (A ++ [(a, b)])).length = n
        · have := gr_less h; omega
        · omega
      rw [if_pos fx] at ox
      rw [if_pos fy] at oy
      rw [ox] at s11 s12
      rw [oy] at s13 s14
      simp [s12, s14]
      refine GCall.fn (fun _ => fn1013) (by simp) (by simp) rfl fun hx => ?_
      simp [bb, r1005]
    · rw [if_neg fx] at ox
      rw [ox] at s11 s12
      have hfx : (gr n A).length = n := by omega
      have ma := full_mem (gr_run n A).nodup (gr_run n A).range hfx ha.1 ha.2
      have mb := full_mem (gr_run n A).nodup (gr_run n A).range hfx hb.1 hb.2
      obtain ⟨ia, hia⟩ := List.mem_iff_getElem?.1 ma
      obtain ⟨ib', hib⟩ := List.mem_iff_getElem?.1 mb
      have pa := plc_at (gr_run n A).nodup hia
      have pb := plc_at (gr_run n A).nodup hib
      -- a stands ahead of b already
      have keep : ia < ib' → gr n (A ++ [(a, b)]) = gr n A := fun hlt => gr_more (fun i hi => by
        have e : i = ib' := by
          have := plc_at (gr_run n A).nodup hi
          omega
        subst e
        refine List.mem_iff_getElem?.2 ⟨ia, ?_⟩
        rw [List.getElem?_take, if_pos hlt]; exact hia) hfx
      by_cases fy : (gr n (A ++ [(a, b)])).length < n
      · rw [if_pos fy] at oy
        rw [oy] at s13 s14
        have hle : ib' ≤ ia := by
          by_cases h : ia < ib'
          · rw [keep h] at fy; omega
          · omega
        by_cases hab : a = b
        · subst hab
          simp [s2, s3, s11, s12, s13, s14]
          refine GCall.fn (fun _ => fn1014 (gr n A) a) (by simp [is, ib, ic]) (by simp) rfl fun hx => ?_
          simp [s2, s3, s11, s12, s13, s14]
          refine GCall.fn (fun _ => fn1014 (gr n A) a) (by simp [is, ib, ic]) (by simp) rfl fun hx => ?_
          simp [s2, s3, s11, s12, s13, s14, ib]
          refine GCall.fn (fun _ => fn1013) (by simp) (by simp) rfl fun hx => ?_
          simp [bb, r1005]
        · have hlt : plc (gr n A) b < plc (gr n A) a := by
            have : ib' ≠ ia := fun e => by subst e; rw [hia] at hib; cases hib; exact hab rfl
            omega
          simp [s2, s3, s11, s12, s13, s14, hab]
          refine GCall.fn (fun _ => fn1014 (gr n A) b) (by simp [is, ib, ic]) (by simp) rfl fun hx => ?_
          simp [s2, s3, s11, s12, s13, s14, hab]
          refine GCall.fn (fun _ => fn1014 (gr n A) a) (by simp [is, ib, ic]) (by simp) rfl fun hx => ?_
          simp [s2, s3, s11, s12, s13, s14, hab, ib, hlt]
          refine GCall.fn (fun _ => fn1013) (by simp) (by simp) rfl fun hx => ?_
          simp [bb, r1005]
      · rw [if_neg fy] at oy
        rw [oy] at s13 s14
        have hfy : (gr n (A ++ [(a, b)])).length = n := by omega
        have ya := full_mem (gr_run n (A ++ [(a, b)])).nodup (gr_run n (A ++ [(a, b)])).range hfy ha.1 ha.2
        have yb := full_mem (gr_run n (A ++ [(a, b)])).nodup (gr_run n (A ++ [(a, b)])).range hfy hb.1 hb.2
        obtain ⟨ja, hja⟩ := List.mem_iff_getElem?.1 ya
        obtain ⟨jb, hjb⟩ := List.mem_iff_getElem?.1 yb
        have qa := plc_at (gr_run n (A ++ [(a, b)])).nodup hja
        have qb := plc_at (gr_run n (A ++ [(a, b)])).nodup hjb
        have hah : a ∈ (gr n (A ++ [(a, b)])).take jb := gr_ahead hjb (a, b) (by simp) rfl
        have hlt : plc (gr n (A ++ [(a, b)])) a < plc (gr n (A ++ [(a, b)])) b := by
          obtain ⟨j, hj⟩ := List.mem_iff_getElem?.1 hah
          rw [List.getElem?_take] at hj
          split at hj
          · have := plc_at (gr_run n (A ++ [(a, b)])).nodup hj
            omega
          · cases hj
        simp [s2, s3, s11, s12, s13, s14]
        refine ECall.fn (fn1014 (gr n A) a) (by simp [is, ib, ic]) (by simp) rfl fun hx => ?_
        simp [s2, s3, s11, s12, s13, s14]
        refine ECall.fn (fn1014 (gr n A) b) (by simp [is, ib, ic]) (by simp) rfl fun hx => ?_
        by_cases hlt2 : plc (gr n A) a < plc (gr n A) b
        · have hk := keep (by omega)
          rw [hk] at s13 hlt
          simp [s2, s3, s11, s12, s13, s14, ib, hlt2]
          refine GCall.fn (fun _ => fn59 (gr n A) (gr n A)) (by simp [is, ic]) (by simp) rfl fun hx => ?_
          simp [s2, s3, s11, s12, s13, s14, bb]
          refine ECall.fn (fn1014 (gr n A) a) (by simp [is, ib, ic]) (by simp) rfl fun hx => ?_
          simp [s2, s3, s13]
          refine ECall.fn (fn1014 (gr n A) b) (by simp [is, ib, ic]) (by simp) rfl fun hx => ?_
          simp [s2, s3, s13, ib, hlt]
          refine GCall.fn (fun _ => fn1013) (by simp) (by simp) rfl fun hx => ?_
          simp [bb, r1005]
        · simp [s2, s3, s11, s12, s13, s14, ib, hlt2]
          refine GCall.fn (fun _ => fn59 (gr n A) (gr n (A ++ [(a, b)]))) (by simp [is, ic]) (by simp) rfl fun hx => ?_
          simp [s2, s3, s11, s12, s13, s14, bb]
          refine ECall.fn (fn1014 (gr n (A ++ [(a, b)])) a) (by simp [is, ib, ic]) (by simp) rfl fun hx => ?_
          simp [s2, s3, s13]
          refine ECall.fn (fn1014 (gr n (A ++ [(a, b)])) b) (by simp [is, ib, ic]) (by simp) rfl fun hx => ?_
          simp [s2, s3, s13, ib, hlt]
          refine GCall.fn (fun _ => fn1013) (by simp) (by simp) rfl fun hx => ?_
          simp [bb, r1005]

end Go.Abs
