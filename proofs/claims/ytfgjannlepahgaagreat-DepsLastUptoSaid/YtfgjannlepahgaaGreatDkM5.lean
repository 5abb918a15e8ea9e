/- THIS TEXT TELLS SOME FUNCTIONS OF THE PROGRAM IN THE CALCULUS, PROVES BY THE KERNEL THAT WHAT IS TOLD IS THE LOADED CODE, AND PROVES WHAT THEY COMPUTE: for every argument that is told; the conditions stand in each theorem. -/
import Derived.Test.YtfgjannlepahgaaGreatDkM4
set_option linter.unusedVariables false
set_option linter.unusedSimpArgs false
namespace Go.Abs
open Go.Proofs
def blkAt (l : List En) (k : Int) : B := match l[k.toNat]? with | some x => x.block | none => ⟨[], [], 0⟩
def badR (l : List En) (i : Nat) (e : En) : Bool := !entP e i (decide (elderI l i e < 0)) || (decide (0 ≤ elderI l i e) && !(blkAt l (elderI l i e)).eqb e.block)
def refE (l : List En) : List En → Nat → Int
  | [], _ => 0
  | e :: r, i => if badR l i e then 12 else refE l r (i + 1)
def refR (l : List En) : Int := if 200 < l.length then 13 else refE l l 0
theorem elder_range (l : List En) (i : Nat) (e : En) (hi : i ≤ l.length) : elderI l i e = -1 ∨ ∃ k : Nat, elderI l i e = k ∧ k < i ∧ ∃ x, l[k]? = some x := by
  unfold elderI
  split
  · cases h : (l.take i).findIdx? (sameE e) with
    | none => exact .inl rfl
    | some k =>
      rw [List.findIdx?_eq_some_iff_getElem] at h
      obtain ⟨h1, _⟩ := h
      simp at h1
      exact .inr ⟨k, rfl, by omega, l[k], List.getElem?_eq_getElem (by omega)⟩
  · exact .inl rfl
def J1022 (l : List En) (m : Nat) (σ : St) : Prop := ∃ i : Nat, i + m = l.length ∧ refE l (l.drop i) i = refE l l 0 ∧ σ.sl 0 = .c (.sl 12 160 (l.map En.cells)) ∧ σ.sl 3 = .c (.v (.int .i64 i))
theorem fn1022 (l : List En) (hO : ∀ e, e ∈ l → e.Ok) : Fn Tryz.prog 22 [ens l] (ib (refR l)) := by
  refine fn_of (base := 1022000) ok1022 rfl fun σ h0 hr => ?_
  have s0 : σ.sl 0 = .c (.sl 12 160 (l.map En.cells)) := h0 0
  have hl0 := real_ens (hr (ens l) (by simp))
  clear h0 hr
  unfold c1022
  by_cases hl : 200 < l.length
  · have hl' : (200 : Int) < l.length := by omega
    simp [s0, hl', r1022, ib, refR, hl]
  have hl' : ¬ (200 : Int) < l.length := by omega
  have hdef : refR l = refE l l 0 := by rw [refR, if_neg hl]
  rw [hdef]
  simp [s0, hl', -W_block]
  rw [W_block]
  refine W_loop (J1022 l) l.length ⟨0, by simp, by simp, by simp [s0], by simp⟩ ?_
  clear s0 σ
  rintro m σ ⟨i, hm, hp, s0, s3⟩
  unfold c1022b0
  by_cases hi : i < l.length
  · have w1 := wrap_succ (i := i) (by omega)
    obtain ⟨e, he⟩ := at_of hi
    obtain ⟨_, he2⟩ := getE he
    have heo := hO e (List.mem_of_getElem? he)
    rw [drop_at he, refE] at hp
    have bad : badR l i e = true → refE l l 0 = 12 := fun h => by rw [if_pos h] at hp; exact hp.symm
    have go : ∀ {σ' : St}, badR l i e = false → σ'.sl 0 = .c (.sl 12 160 (l.map En.cells)) → σ'.sl 3 = .c (.v (.int .i64 ((i + 1 : Nat) : Int))) → ∃ m', m' < m ∧ J1022 l m' σ' := fun h a b => ⟨m - 1, by omega, i + 1, by omega, by rw [h] at hp; simpa using hp, a, b⟩
    have hent := fun f => fn1047 e i f heo
    simp [s0, s3, hi]
    refine ECall.fn (fn1046 l i e he) (by simp [ens, ib]) (by simp) rfl fun _ => ?_
    have hbd : badR l i e = badR l i e := rfl
    conv at hbd => rhs; unfold badR
    rcases elder_range l i e (by omega) with hk | ⟨k, hk, hki, x, hx⟩
    · rw [hk] at hbd ⊢
      have hbd : badR l i e = !entP e i true := by rw [hbd]; simp
      obtain ⟨x0, hx0⟩ := at_of (ts := l) (i := 0) (by omega)
      obtain ⟨hl00, hx02⟩ := getE hx0
      simp [ib]
      refine W_dregA ?_
      simp [s0, s3, hi, he2, En.cells]
      refine CallA.fn (hent true) (by simp [enm, En.cells, ib, bb]) (by simp) rfl ?_
      cases hq : entP e i true with
      | false =>
        simp [bb, s0, s3, hi, he2, hx0, hx02, hl00, En.cells]
        refine GCallA.fn (res := bb true) (fun h => by cases h) rfl (by simp) rfl ?_
        simp [bb]
        refine realC_n ?_
        simp [r1022, ib, bad (by rw [hbd, hq]; rfl)]
      | true =>
        simp [bb, s0, s3, hi, he2, hx0, hx02, hl00, En.cells]
        refine GCallA.fn (res := bb true) (fun h => by cases h) rfl (by simp) rfl ?_
        simp [bb]
        refine realC_n ?_
        simp [s3, w1]
        exact go (by rw [hbd, hq]; rfl) (by simp [s0]) (by simp)
    · obtain ⟨hkl, hx2⟩ := getE hx
      have hb0 : blkAt l (k : Int) = x.block := by simp [blkAt, hx]
      rw [hk, hb0] at hbd
      rw [hk]
      have hk0 : ¬ ((k : Int) < 0) := by omega
      have hbd : badR l i e = (!entP e i false || !(x.block.eqb e.block)) := by rw [hbd]; simp [hk0]
      simp [ib]
      refine W_dregA ?_
      simp [s0, s3, hi, he2, En.cells, hk0]
      refine CallA.fn (hent false) (by simp [enm, En.cells, ib, bb]) (by simp) rfl ?_
      cases hq : entP e i false with
      | false =>
        simp [bb, s0, s3, hi, he2, hkl, hx2, En.cells]
        refine GCallA.fn (res := bb true) (fun h => by cases h) rfl (by simp) rfl ?_
        simp [bb]
        refine realC_n ?_
        simp [r1022, ib, bad (by rw [hbd, hq]; rfl)]
      | true =>
        simp [bb, s0, s3, hi, he2, hkl, hx2, En.cells]
        refine GCallA.fn (fun _ => fn86 x.block e.block) (by simp [bm, B.cells]) (by simp) rfl ?_
        cases hz : x.block.eqb e.block with
        | false =>
          simp [bb]
          refine realC_n ?_
          simp [r1022, ib, bad (by rw [hbd, hq, hz]; rfl)]
        | true =>
          simp [bb]
          refine realC_n ?_
          simp [s3, w1]
          exact go (by rw [hbd, hq, hz]; rfl) (by simp [s0]) (by simp)
  · have : i = l.length := by omega
    subst this
    simp [refE] at hp
    simp [s0, s3, r1022, ib, ← hp]
theorem getM_cons (p : Int × B) (ms : BM) (m : Int) : getM (p :: ms) m = if p.1 = m then some p.2 else getM ms m := by
  unfold getM
  rw [List.find?_cons]
  by_cases h : p.1 = m
  · simp [h]
  · have : (p.1 == m) = false := by simpa using h
    simp [this, h]
theorem setM_cons (p : Int × B) (ms : BM) (n : Int) (b : B) : setM (p :: ms) n b = if p.1 = n then (n, b) :: ms else p :: setM ms n b := by
  unfold setM
  rw [List.findIdx?_cons]
  by_cases h : p.1 = n
  · simp [h]
  · have : (p.1 == n) = false := by simpa using h
    simp only [this, h, if_false, Bool.false_eq_true]
    cases List.findIdx? (fun p => p.1 == n) ms with
    | none => simp
    | some j => simp
theorem getM_setM (ms : BM) (n m : Int) (b : B) : getM (setM ms n b) m = if n = m then some b else getM ms m := by
  induction ms with
  | nil => simp [setM, getM_cons, getM]
  | cons p ms ih =>
    rw [setM_cons]
    by_cases h : p.1 = n
    · rw [if_pos h, getM_cons, getM_cons]
      by_cases h2 : n = m
      · simp [h2]
      · simp [h2, h]
    · rw [if_neg h, getM_cons, getM_cons, ih]
      by_cases h2 : n = m
      · subst h2; simp [h]
      · simp [h2]
def isB (base : Int) (x : En) : Bool := decide (2 < x.kind) && decide (x.base = base)
theorem find_idx {α : Type} {p : α → Bool} : ∀ {l : List α}, (∃ k x, l.findIdx? p = some k ∧ l[k]? = some x ∧ l.find? p = some x) ∨ (l.findIdx? p = none ∧ l.find? p = none)
  | [] => .inr ⟨rfl, rfl⟩
  | a :: l => by
    rw [List.findIdx?_cons, List.find?_cons]
    cases h : p a with
    | true => exact .inl ⟨0, a, by simp, by simp, rfl⟩
    | false =>
      rcases find_idx (p := p) (l := l) with ⟨k, x, h1, h2, h3⟩ | ⟨h1, h2⟩
      · exact .inl ⟨k + 1, x, by simp [h1], by simpa using h2, h3⟩
      · exact .inr ⟨by simp [h1], h2⟩
theorem num_base {e : En} {i : Nat} (h : e.number = (i : Int)) : 0 ≤ e.base := by
  unfold En.number at h
  split at h
  · exact (plcv_val h (by omega)).1
  · split at h
    · exact (dec_val h (by omega)).1
    · split at h
      · exact (plcv_val h (by omega)).1
      · exact (plcv_val h (by omega)).1
theorem entP_low {e : En} {i : Nat} (h : e.kind < 3) (f : Bool) : entP e i f = e.right i := by
  unfold entP En.right btw
  by_cases k1 : e.kind = 1
  · rw [k1]
    cases e.typ.scope 0 (i : Int) <;> cases e.body.none <;> cases e.block.bare <;> by_cases b0 : e.base = 0 <;> by_cases b1 : e.which = 0 <;> simp [b0, b1]
  · by_cases k2 : e.kind = 2
    · rw [k2]
      cases e.typ.scope 0 (i : Int) <;> cases e.body.scope 0 (i : Int) <;> cases e.block.bare <;> by_cases b0 : e.base = 0 <;> by_cases b1 : e.which = 0 <;> simp [b0, b1]
    · have h1 : ¬ 1 ≤ e.kind := by omega
      have h3 : ¬ (e.kind = 3 ∨ e.kind = 4 ∨ e.kind = 5 ∨ e.kind = 6) := by omega
      simp [h1, k1, k2, h3]
theorem entP_high {e : En} {i : Nat} (h : ¬ e.kind < 3) (f : Bool) : entP e i f = (e.right i && (!f || e.block.known e.base)) := by
  unfold entP En.right btw
  have k1 : ¬ e.kind = 1 := by omega
  have k2 : ¬ e.kind = 2 := by omega
  have h1 : 1 ≤ e.kind := by omega
  by_cases h6 : e.kind ≤ 6
  · have h3 : e.kind = 3 ∨ e.kind = 4 ∨ e.kind = 5 ∨ e.kind = 6 := by omega
    by_cases hn : e.number = (i : Int)
    · have hb := num_base hn
      simp [h1, h6, k1, k2, h3, hn, hb]
      cases e.typ.scope 0 (i : Int) <;> cases e.body.none <;> simp
    · simp [h1, h6, k1, k2, h3, hn]
  · have h3 : ¬ (e.kind = 3 ∨ e.kind = 4 ∨ e.kind = 5 ∨ e.kind = 6) := by omega
    simp [h6, k1, k2, h3]
theorem chk_ref (l : List En) : ∀ (m i : Nat) (ms : BM), i + m = l.length → (∀ base, getM ms base = ((l.take i).find? (isB base)).map En.block) → chkE (l.drop i) i ms = refE l (l.drop i) i
  | 0, i, ms, hm, _ => by rw [List.drop_eq_nil_of_le (by omega)]; rfl
  | m + 1, i, ms, hm, hI => by
    obtain ⟨e, he⟩ := at_of (ts := l) (i := i) (by omega)
    rw [drop_at he, chkE, refE]
    have hlow : e.kind < 3 → elderI l i e = -1 := fun h => by rw [elderI, if_neg (by omega)]
    have htk := take_succ' he
    by_cases h3 : e.kind < 3
    · have hb : badR l i e = !e.right i := by
        unfold badR
        rw [hlow h3, entP_low h3]
        simp
      rw [hb]
      cases hr : e.right (i : Int) with
      | false => simp
      | true =>
        simp [h3]
        refine chk_ref l m (i + 1) ms (by omega) fun base => ?_
        rw [hI base, htk, List.find?_append]
        have : ([e].find? (isB base)) = none := by simp [isB]; omega
        rw [this]; simp
    · have hse : sameE e = isB e.base := rfl
      have hel : elderI l i e = match (l.take i).findIdx? (isB e.base) with | some k => (k : Int) | none => -1 := by rw [elderI, if_pos (by omega), hse]; rfl
      have hfe : ([e].find? (isB e.base)) = some e := by simp [isB]; omega
      have hother : ∀ base, e.base ≠ base → ([e].find? (isB base)) = none := fun base h => by simp [isB]; omega
      rcases find_idx (p := isB e.base) (l := l.take i) with ⟨k, x, h1, h2, h4⟩ | ⟨h1, h4⟩
      · rw [h1] at hel
        simp only at hel
        have hx : l[k]? = some x := by
          rw [List.getElem?_take] at h2
          split at h2
          · exact h2
          · cases h2
        have hg : getM ms e.base = some x.block := by rw [hI, h4]; rfl
        have hb : badR l i e = (!e.right i || !(x.block.eqb e.block)) := by
          unfold badR
          rw [hel, entP_high h3]
          have hk0 : ¬ ((k : Int) < 0) := by omega
          have : blkAt l (k : Int) = x.block := by simp [blkAt, hx]
          rw [this]
          simp [hk0]
        rw [hb, hg]
        cases hr : e.right (i : Int) with
        | false => simp
        | true =>
          cases hz : x.block.eqb e.block with
          | false => simp [h3, hz]
          | true =>
            simp [h3, hz]
            refine chk_ref l m (i + 1) _ (by omega) fun base => ?_
            rw [getM_setM, htk, List.find?_append]
            by_cases hb2 : e.base = base
            · subst hb2
              rw [h4, if_pos rfl, ← eqb_b hz]; rfl
            · rw [if_neg hb2, hI base, hother base hb2]; simp
      · rw [h1] at hel
        simp only at hel
        have hg : getM ms e.base = none := by rw [hI, h4]; rfl
        have hb : badR l i e = (!(e.right i && e.block.known e.base)) := by
          unfold badR
          rw [hel, entP_high h3]
          simp
        rw [hb, hg]
        cases hr : e.right (i : Int) with
        | false => simp
        | true =>
          cases hz : e.block.known e.base with
          | false => simp [h3, hz]
          | true =>
            simp [h3, hz]
            refine chk_ref l m (i + 1) _ (by omega) fun base => ?_
            rw [getM_setM, htk, List.find?_append]
            by_cases hb2 : e.base = base
            · subst hb2
              rw [h4, if_pos rfl, hfe]; rfl
            · rw [if_neg hb2, hI base, hother base hb2]; simp
theorem ref_chk (l : List En) : refR l = chkR l := by
  unfold refR chkR
  split
  · rfl
  · have := chk_ref l l.length 0 [] (by simp) fun base => by simp [getM]
    simpa using this.symm
theorem fn1022g (l : List En) (hO : ∀ e, e ∈ l → e.Ok) : Fn Tryz.prog 22 [ens l] (ib (chkR l)) := by
  rw [← ref_chk]; exact fn1022 l hO
end Go.Abs

namespace Go.Abs
open Go.Proofs
theorem Rch.le {l : List En} (hR : RowOK l) {n x : Int} (hn : 0 ≤ n ∧ n < l.length) (h : Rch l [n] x) : x ≤ n := by
  have key : ∀ x, Rch l [n] x → 0 ≤ x ∧ x ≤ n := fun x h => by
    induction h with
    | base h => simp at h; subst h; omega
    | step h h' ih =>
      rename_i x y
      obtain ⟨e, he⟩ := at_of (ts := l) (i := y.toNat) (by omega)
      have hu : usesAt l y = usesE y.toNat e := by simp [usesAt, he]
      have := uses_range (hR.right y.toNat e he) x (hu ▸ h')
      omega
  exact (key x h).2
theorem srt_last {l : List Int} (hs : Srt l) {n : Int} (hn : n ∈ l) (hm : ∀ x, x ∈ l → x ≤ n) : l[l.length - 1]? = some n := by
  obtain ⟨j, hj⟩ := List.mem_iff_getElem?.1 hn
  obtain ⟨hjl, hj2⟩ := getE hj
  by_cases h : j = l.length - 1
  · rw [← h, hj]
  · exfalso
    have h1 := (List.pairwise_iff_getElem.1 hs) j (l.length - 1) hjl (by omega) (by omega)
    have h2 := hm l[l.length - 1] (List.getElem_mem _)
    omega
theorem needs_last {l : List En} (hR : RowOK l) {n : Int} (hn : 0 ≤ n ∧ n < l.length) : (needsL l [n])[(needsL l [n]).length - 1]? = some n ∧ 0 < (needsL l [n]).length := by
  have hm : n ∈ needsL l [n] := needsL_mem.2 ⟨hn, .base (by simp)⟩
  refine ⟨srt_last (needsL_srt l [n]) hm fun x hx => (needsL_mem.1 hx).2.le hR hn, List.length_pos_iff.2 fun e => by rw [e] at hm; cases hm⟩
theorem needs_all (l : List En) : needsL l (nums l.length) = nums l.length :=
  srt_ext (needsL_srt _ _) (nums_srt _) fun n => ⟨fun h => mem_nums.2 (needsL_mem.1 h).1, fun h => needsL_mem.2 ⟨mem_nums.1 h, .base h⟩⟩
theorem needs_none (l : List En) : needsL l [] = [] := by
  refine List.eq_nil_iff_forall_not_mem.2 fun x hx => ?_
  have h := (needsL_mem.1 hx).2
  have key : ∀ x, Rch l [] x → False := fun x h => by
    induction h with
    | base h => cases h
    | step _ _ ih => exact ih
  exact key x h
def LI (σ : St) (s : Nat) (l : List Int) (Ks : List Nat) : Prop := (σ.sl s = .c (.cap 1 8 []) ∧ l = []) ∨ ∃ K, K ∈ Ks ∧ σ.sl s = .c (.own K (σ.tg K)) ∧ σ.ob K = some (.row 3 1 8 (ic l))
structure FL1 (l : List En) (n : Int) (a : List Int) (e : Int) (σ : St) : Prop where
  s0 : σ.sl 0 = .c (.sl 12 160 (l.map En.cells))
  s1 : σ.sl 1 = .c (.v (.int .i64 n))
  s5 : σ.sl 5 = .c (.sl 1 8 (ic a))
  s6 : σ.sl 6 = .c (.v (.int .i64 e))
def J1011 (l : List En) (n : Int) (a : List Int) (e : Int) (m : Nat) (σ : St) : Prop := ∃ i : Nat, i + m = l.length ∧ FL1 l n a e σ ∧ σ.sl 8 = .c (.v (.int .i64 i)) ∧ LI σ 7 (nums i) [1011050]
theorem nums_snoc (i : Nat) : nums (i + 1) = nums i ++ [(i : Int)] := by simp [nums, List.range_succ]
theorem loop1011 {σ : St} {Q : SEx → St → Prop} (l : List En) (hl : l.length ≤ 200) (n : Int) (a : List Int) (e : Int) (H : FL1 l n a e σ) (s8 : σ.sl 8 = .c (.v (.int .i64 (0 : Nat)))) (s7 : σ.sl 7 = .c (.cap 1 8 []))
    (hQ : ∀ σ', FL1 l n a e σ' → LI σ' 7 (nums l.length) [1011050] → Q .normal σ') : W Tryz.prog 1011000 (.loop c1011b0) σ (onBlock 0 Q) := by
  refine W_loop (J1011 l n a e) l.length ⟨0, by simp, H, s8, .inl ⟨s7, rfl⟩⟩ ?_
  clear H s8 s7 σ
  rintro m σ ⟨i, hm, ⟨s0, s1, s5, s6⟩, s8, L⟩
  unfold c1011b0
  by_cases hi : i < l.length
  · have w1 := wrap_succ (i := i) (by omega)
    rcases L with ⟨q1, q2⟩ | ⟨K, hK, q1, q2⟩
    · simp [s0, s8, hi, q1]
      refine ⟨by simp [room], ?_⟩
      simp [s8, w1]
      refine ⟨m - 1, by omega, i + 1, by omega, ⟨by simp [s0], by simp [s1], by simp [s5], by simp [s6]⟩, by simp, .inr ⟨1011050, by simp, by simp, ?_⟩⟩
      rw [nums_snoc, q2]; simp [ic]
    · simp at hK
      subst hK
      have hnl := nums_length i
      simp [s0, s8, hi, q1, q2]
      refine ⟨by simp [room], by rw [hnl]; simp [room]; omega, ?_⟩
      simp [s8, w1]
      refine ⟨m - 1, by omega, i + 1, by omega, ⟨by simp [s0], by simp [s1], by simp [s5], by simp [s6]⟩, by simp, .inr ⟨1011050, by simp, by simp, ?_⟩⟩
      rw [nums_snoc]; simp [ic]
  · have : i = l.length := by omega
    subst this
    simp [s0, s8]
    refine hQ _ ⟨by simp [s0], by simp [s1], by simp [s5], by simp [s6]⟩ ?_
    rcases L with ⟨q1, q2⟩ | ⟨K, hK, q1, q2⟩
    · exact .inl ⟨by simp [q1], q2⟩
    · exact .inr ⟨K, hK, by simp [q1], by simp [q2]⟩
theorem fn1011 (l : List En) (n0 : Int) (hO : ∀ e, e ∈ l → e.Ok) : Fn Tryz.prog 11 [ens l, ib n0] (bb true) := by
  refine fn_of (base := 1011000) ok1011 rfl fun σ h0 hr => ?_
  have s0 : σ.sl 0 = .c (.sl 12 160 (l.map En.cells)) := h0 0
  have s1 : σ.sl 1 = .c (.v (.int .i64 n0)) := h0 1
  clear h0 hr
  have hck := fn1022g l hO
  unfold c1011
  simp [s0, s1]
  refine ECall.fn (fn1016 l) (by simp [ens]) (by simp) rfl fun hx => ?_
  clear hx
  cases hh : heavyEnv l with
  | true =>
    simp [bb, s0]
    refine GCall.fn (res := ib 0) (fun h => by cases h) rfl (by simp) rfl fun hx => ?_
    simp [ib, r1011, bb]
  | false =>
    by_cases hl0 : l = []
    · subst hl0
      simp [bb, s0]
      refine GCall.fn (res := ib 0) (fun h => by cases h) rfl (by simp) rfl fun hx => ?_
      simp [ib, r1011, bb]
    have hlp : 0 < l.length := List.length_pos_iff.2 hl0
    have hlz : ¬ (l.length : Int) = 0 := by omega
    simp [bb, s0, hl0]
    refine GCall.fn (fun _ => hck) (by simp [ens]) (by simp) rfl fun hx => ?_
    clear hx
    by_cases hc : chkR l = 0
    case neg => simp [ib, hc, r1011, bb]
    have hR := chkR_ok hO hc
    have hl := hR.len
    have hu : ¬ IntKind.wrap .u64 (l.length : Int) = 0 := by rw [wrap_u64 (by omega)]; omega
    have hmd : IntKind.wrap .i64 ((IntKind.wrap .u64 n0).tmod (IntKind.wrap .u64 (l.length : Int))) = mdV l.length n0 := rfl
    have hmr := mdV_range hlp (by omega) n0
    generalize mdV l.length n0 = n at *
    obtain ⟨hlast, hpos⟩ := needs_last hR hmr
    have hlen1 := needsL_len l [n]
    have hin1 : [n].any (outE l.length) = false := by simp [outE]; omega
    have hin2 : (nums l.length).any (outE l.length) = false := by
      rw [List.any_eq_false]
      intro x hx
      have := mem_nums.1 hx
      simp [outE]; omega
    have c1 := fn1017g l hO [n] (by simp)
    have c2 := fn1017g l hO (nums l.length) (by rw [nums_length]; omega)
    have c3 := fn1017g l hO [] (by simp)
    have c4 := fn1021 l hO l.length
    rw [needsR_yes hc hin1] at c1
    rw [needsR_yes hc hin2, needs_all] at c2
    rw [needsR_yes hc (by rfl), needs_none] at c3
    have hu4 : usesR l l.length = ([], 14) := by
      unfold usesR
      rw [if_neg (by simp [hc]), if_pos (.inr (Int.le_refl _))]
    rw [hu4] at c4
    have h1013 := fn1013
    generalize needsL l [n] = a at *
    simp [ib, hc, s0, s1, hu, hmd, room]
    refine ECall.fn c1 (by simp [ens, is]) (by simp) rfl fun hx => ?_
    clear hx
    simp [is, ib, -W_block]
    rw [W_block]
    refine loop1011 l hl n a 0 ⟨by simp [s0], by simp, by simp [ic], by simp⟩ (by simp) (by simp) fun σ1 H L => ?_
    clear s0 s1 σ
    obtain ⟨s0, s1, s5, s6⟩ := H
    obtain ⟨hal, ha2⟩ := getE hlast
    have w0 : IntKind.wrap .i64 ((a.length : Int) - 1) = ((a.length - 1 : Nat) : Int) := by rw [wrap_id (by omega) (by omega)]; omega
    have hpos' : (0 : Int) < a.length := by omega
    have hane : a ≠ [] := List.length_pos_iff.1 hpos
    have hnl := nums_length l.length
    rcases L with ⟨q1, q2⟩ | ⟨K, hK, q1, q2⟩
    · exfalso
      rw [q2] at hnl
      simp at hnl
      omega
    simp at hK
    subst hK
    simp [s0, q1, q2]
    refine ECall.fn c2 (by simp [toD2, toD1, toD, ens, is, q2, ic]) (by simp) rfl fun hx => ?_
    clear hx
    simp [is, ib, s0]
    refine ECall.fn c3 (by simp [ens, is, toD2, toD1, toD]) (by simp) rfl fun hx => ?_
    clear hx
    simp [is, ib, s0]
    refine ECall.fn c4 (by simp [ens, ib]) (by simp) rfl fun hx => ?_
    clear hx
    simp [is, ib, s0, s1, s5, s6, q1, q2, hpos, hpos', hane, w0, hal, ha2]
    refine GCall.fn (fun _ => fn59 (nums l.length) (nums l.length)) (by simp [toD2, toD1, toD, is, ic, q2]) (by simp) rfl fun hx => ?_
    clear hx
    simp [bb]
    refine GCall.fn (fun _ => h1013) (by simp) (by simp) rfl fun hx => ?_
    simp [bb, r1011]
end Go.Abs
