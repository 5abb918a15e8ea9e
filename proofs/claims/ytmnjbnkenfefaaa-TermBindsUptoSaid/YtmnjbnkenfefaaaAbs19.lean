/- THIS TEXT PROVES A PART OF A CALCULUS THAT TELLS WHAT A LOADED GO FUNCTION DOES WITHOUT NAMING MEMORY: each rule is proved against the machine, for every program and every world; its conditions stand in each theorem. -/
import Derived.Test.YtmnjbnkenfefaaaAbs18
set_option linter.unusedVariables false
set_option linter.unusedSimpArgs false
namespace Go.Abs

variable {P : Program} {I : Init} {n : Nat} {σ σ' : St} {g g' : Gh} {a : Act} {w w' : World} {o : Oper} {e : Eff}

theorem Tr.front {base : Nat} {sos : List SO} {j : Nat} {post : List Nat} {y : TE} {tq : List TE} : ∀ {pre : List Nat} {tp : List TE} {σ : St}, tp.length = pre.length → Tr P base sos (pre ++ j :: post) σ (tp ++ y :: tq) σ' →
    (∀ x, x ∈ tp → ApartT sos x y) → Tr P base sos (j :: (pre ++ post)) σ (y :: (tp ++ tq)) σ'
  | [], [], _, _, h, _ => h
  | [], _ :: _, _, hl, _, _ => by simp at hl
  | _ :: _, [], _, hl, _, _ => by simp at hl
  | i :: pre, x :: tp, σ, hl, h, ha => by
    have hx := ha x (by simp)
    simp only [List.cons_append] at h ⊢
    cases h with
    | cons h hs ht =>
      have ih := Tr.front (by simpa using hl) ht fun z hz => ha z (by simp [hz])
      exact Tr.swap (.cons h hs ih) hx

theorem Tr.idx {base : Nat} {sos : List SO} {l : List Nat} {tr : List TE} (h : Tr P base sos l σ tr σ') : tr.map (·.i) = l := by
  induction h with
  | nil => rfl
  | cons _ _ _ ih => simp [ih]

/-! ### the checks -/
def maskOf (anc : List Nat) (l : List Edge) : Nat := match l with
  | [] => 0
  | e :: l => if Region.binds .any e then ((1 <<< e.on) ||| anc.getD e.on 0) ||| maskOf anc l else maskOf anc l

theorem maskOf_spec {anc : List Nat} {i : Nat} : ∀ {l : List Edge}, (maskOf anc l).testBit i = true → ∃ e, e ∈ l ∧ Region.binds .any e = true ∧ (e.on = i ∨ (anc.getD e.on 0).testBit i = true)
  | [], h => by simp [maskOf] at h
  | e :: l, h => by
    simp only [maskOf] at h
    split at h
    · rename_i hb
      rw [Nat.testBit_or, Nat.testBit_or, Bool.or_eq_true, Bool.or_eq_true] at h
      rcases h with (h | h) | h
      · refine ⟨e, by simp, hb, .inl ?_⟩
        rw [Nat.testBit_shiftLeft] at h
        simp at h
        obtain ⟨h1, h2⟩ := h
        have : i - e.on = 0 := by
          by_cases h0 : i - e.on = 0
          · exact h0
          · have := Nat.testBit_one_eq_true_iff_self_eq_zero.1 h2; omega
        omega
      · exact ⟨e, by simp, hb, .inr h⟩
      · obtain ⟨e', h1, h2⟩ := maskOf_spec h
        exact ⟨e', by simp [h1], h2⟩
    · obtain ⟨e', h1, h2⟩ := maskOf_spec h
      exact ⟨e', by simp [h1], h2⟩

def okAnc (anc : List Nat) (ops : Array Oper) : Bool :=
  (List.range ops.size).all fun j => match ops[j]? with
    | some o => decide (anc.getD j 0 = maskOf anc o.after.toList) && o.after.toList.all fun e => !Region.binds .any e || decide (e.on < j)
    | none => false

structure AncOK (anc : List Nat) (ops : Array Oper) : Prop where
  back : ∀ (j : Nat) (o : Oper), ops[j]? = some o → ∀ e, e ∈ o.after → Region.binds .any e = true → e.on < j
  mask : ∀ (j i : Nat) (o : Oper), ops[j]? = some o → (anc.getD j 0).testBit i = true → ∃ e, e ∈ o.after ∧ Region.binds .any e = true ∧ (e.on = i ∨ (anc.getD e.on 0).testBit i = true)

theorem okAnc_spec {anc : List Nat} {ops : Array Oper} (h : okAnc anc ops = true) : AncOK anc ops := by
  simp only [okAnc, List.all_eq_true, List.mem_range] at h
  have one : ∀ j o, ops[j]? = some o → anc.getD j 0 = maskOf anc o.after.toList ∧ ∀ e, e ∈ o.after → Region.binds .any e = true → e.on < j := fun j o ho => by
    have := h j (Array.getElem?_eq_some_iff.1 ho).1
    rw [ho] at this
    simp only [Bool.and_eq_true, decide_eq_true_eq, List.all_eq_true] at this
    refine ⟨this.1, fun e he hb => ?_⟩
    have := this.2 e (by simpa using he)
    rw [hb] at this
    simpa using this
  refine ⟨fun j o ho => (one j o ho).2, fun j i o ho hb => ?_⟩
  rw [(one j o ho).1] at hb
  obtain ⟨e, h1, h2⟩ := maskOf_spec hb
  exact ⟨e, by simpa using h1, h2⟩

def apartS (x y : SO) : Bool :=
  (match x.dst with | some d => decide (y.dst ≠ some d) && !y.looks.contains d | none => true) && (match y.dst with | some d => !x.looks.contains d | none => true)
def okApart (anc : List Nat) (sos : List SO) : Bool :=
  (List.range sos.length).all fun j => (List.range j).all fun i => (anc.getD j 0).testBit i || match sos[i]?, sos[j]? with
    | some x, some y => apartS x y
    | _, _ => false

def kOK (x y : TE) : Bool := x.wr.all (fun k => !y.lk.contains k) && y.wr.all (fun k => !x.lk.contains k)
def fineW (anc : List Nat) (tr : List TE) : Bool :=
  (tr.filter fun x => !x.wr.isEmpty).all fun x => tr.all fun y => decide (x.i = y.i) || (anc.getD y.i 0).testBit x.i || (anc.getD x.i 0).testBit y.i || kOK x y

/-! ### a region, in any order -/
def listedB (listed : Array Bool) (i : Nat) : Prop := listed.getD i false = true

theorem anc_listed {anc : List Nat} {ops : Array Oper} (hA : AncOK anc ops) {listed : Array Bool}
    (down : ∀ (j : Nat) (o : Oper), ops[j]? = some o → listedB listed j → ∀ e, e ∈ o.after → Region.binds .any e = true → listedB listed e.on) : ∀ (j : Nat) (o : Oper), ops[j]? = some o →
    (∀ e, e ∈ o.after → Region.binds .any e = true → listedB listed e.on) → ∀ i, (anc.getD j 0).testBit i = true → listedB listed i ∧ i < j := by
  intro j
  induction j using Nat.strongRecOn with
  | ind j ih =>
    intro o ho hp i hi
    obtain ⟨e, h1, h2, h3⟩ := hA.mask j i o ho hi
    have hlt := hA.back j o ho e h1 h2
    have hl := hp e h1 h2
    rcases h3 with h3 | h3
    · subst h3; exact ⟨hl, hlt⟩
    · have hs : e.on < ops.size := Nat.lt_trans hlt (Array.getElem?_eq_some_iff.1 ho).1
      obtain ⟨q1, q2⟩ := ih e.on hlt ops[e.on] (Array.getElem?_eq_getElem hs) (down _ _ (Array.getElem?_eq_getElem hs) hl) i h3
      exact ⟨q1, Nat.lt_trans q2 hlt⟩

theorem anc_lt {anc : List Nat} {ops : Array Oper} (hA : AncOK anc ops) : ∀ (j : Nat) (o : Oper), ops[j]? = some o → ∀ i, (anc.getD j 0).testBit i = true → i < j := by
  intro j
  induction j using Nat.strongRecOn with
  | ind j ih =>
    intro o ho i hi
    obtain ⟨e, h1, h2, h3⟩ := hA.mask j i o ho hi
    have hlt := hA.back j o ho e h1 h2
    rcases h3 with h3 | h3
    · subst h3; exact hlt
    · have hs : e.on < ops.size := Nat.lt_trans hlt (Array.getElem?_eq_some_iff.1 ho).1
      exact Nat.lt_trans (ih e.on hlt ops[e.on] (Array.getElem?_eq_getElem hs) i h3) hlt

def okOps (P : Program) (n : Nat) (ops : Array Oper) : List Oper → List SO → Bool
  | [], [] => true
  | o :: os, so :: sos => okSO P n ops o so && okOps P n ops os sos
  | _, _ => false
theorem okOps_get {ops : Array Oper} : ∀ {os : List Oper} {sos : List SO}, okOps P n ops os sos = true → ∀ (i : Nat) so, sos[i]? = some so → ∃ o, os[i]? = some o ∧ okSO P n ops o so = true
  | [], [], _, i, so, h => by simp at h
  | o :: os, so :: sos, h, 0, so', hi => by simp [okOps] at h; simp at hi; subst hi; exact ⟨o, rfl, h.1⟩
  | o :: os, so :: sos, h, i + 1, so', hi => by simp [okOps] at h; simpa using okOps_get h.2 i so' (by simpa using hi)
  | [], _ :: _, h, _, _, _ => by simp [okOps] at h
  | _ :: _, [], h, _, _, _ => by simp [okOps] at h
theorem okOps_len {ops : Array Oper} : ∀ {os : List Oper} {sos : List SO}, okOps P n ops os sos = true → os.length = sos.length
  | [], [], _ => rfl
  | o :: os, so :: sos, h => by simp [okOps] at h; simp [okOps_len h.2]
  | [], _ :: _, h => by simp [okOps] at h
  | _ :: _, [], h => by simp [okOps] at h

theorem one_op {base : Nat} {ops : Array Oper} {sos : List SO} {i : Nat} {so : SO} {Q : Exit → Act → World → Prop} {K : Act → World → Prop} (hR : Rel I n σ g a w) (hok : okOps P n ops ops.toList sos = true)
    (hi : sos[i]? = some so) (hs : SemO P base so σ e) (hK : ∀ a' w' g', Rel I n (σ.ap so.dst e) g' a' w' → K a' w') : wpOp P ops Q i K a w := by
  obtain ⟨o, ho, hso⟩ := okOps_get hok i so hi
  have ho : ops[i]? = some o := by simpa using ho
  have := op_sound (Q := Q) hR hso hs hK
  unfold wpOp
  simp only [ho]
  split
  · rename_i hw; rw [if_pos hw] at this; exact .inl this
  · rename_i hw; rw [if_neg hw] at this; exact this

theorem text_sound {base : Nat} {ops : Array Oper} {sos : List SO} {l : List Nat} {tr : List TE} {Q : Exit → Act → World → Prop} (hok : okOps P n ops ops.toList sos = true) (ht : Tr P base sos l σ tr σ') :
    ∀ {g a w}, Rel I n σ g a w → (∀ a w g, Rel I n σ' g a w → Q .normal a w) → wpOps P ops Q l a w := by
  induction ht with
  | nil => intro g a w hR hQ; exact hQ _ _ _ hR
  | cons h hs ht ih =>
    intro g a w hR hQ
    rw [wpOps_cons]
    exact one_op hR hok h hs fun a' w' g' hR' => ih hR' hQ

theorem draw_sound {base : Nat} {ops : Array Oper} {sos : List SO} {anc : List Nat} {Q : Exit → Act → World → Prop} (hok : okOps P n ops ops.toList sos = true) (hA : AncOK anc ops) (hQ : ∀ a w g, Rel I n σ' g a w → Q .normal a w) :
    ∀ (fuel : Nat) (listed : Array Bool) (rem : List Nat) (σ : St) (tr : List TE) (g : Gh) (a : Act) (w : World), listed.size = ops.size → rem.length ≤ fuel → (∀ j, j ∈ rem ↔ listed.getD j true = false) → rem.Pairwise (· < ·) → Tr P base sos rem σ tr σ' →
      tr.Pairwise (fun x y => (anc.getD y.i 0).testBit x.i = true ∨ (anc.getD x.i 0).testBit y.i = true ∨ ApartT sos x y) →
      (∀ (j : Nat) (o : Oper), ops[j]? = some o → listedB listed j → ∀ e, e ∈ o.after → Region.binds .any e = true → listedB listed e.on) → Rel I n σ g a w → wpAny P .any ops Q fuel listed a w := by
  intro fuel
  induction fuel with
  | zero =>
    intro listed rem σ tr g a w hsz hl hrem _ ht _ _ hR
    have : rem = [] := List.length_eq_zero_iff.1 (by omega)
    subst this
    cases ht
    refine ⟨?_, hQ _ _ _ hR⟩
    rw [List.eq_nil_iff_forall_not_mem]
    intro j hj
    have := (hrem j).2 (mem_ready.1 hj).1
    simp at this
  | succ fuel ih =>
    intro listed rem σ tr g a w hsz hl hrem hpw ht hfine down hR
    have lsz : ∀ j, j < ops.size → (listed.getD j true = false ↔ ¬ listedB listed j) := fun j hj => by
      simp [listedB, Array.getD, hsz, hj]
    refine ⟨fun hr => ?_, fun i hi => ?_⟩
    · cases rem with
      | nil => cases ht; exact hQ _ _ _ hR
      | cons i rem =>
        exfalso
        have hun := (hrem i).1 (by simp)
        have hlt : i < ops.size := by
          by_cases h : i < ops.size
          · exact h
          · simp [Array.getD, hsz, h] at hun
        have : i ∈ Region.ready .any ops listed := mem_ready.2 ⟨hun, ops[i], Array.getElem?_eq_getElem hlt, fun e he hb => by
          have hon := hA.back i _ (Array.getElem?_eq_getElem hlt) e he hb
          by_cases hle : listedB listed e.on
          · exact hle
          · have := (hrem e.on).2 ((lsz _ (by omega)).2 hle)
            rcases List.mem_cons.1 this with h | h
            · omega
            · have := (List.pairwise_cons.1 hpw).1 _ h
              omega⟩
        rw [hr] at this
        cases this
    · obtain ⟨hun, oi, hoi, hall⟩ := mem_ready.1 hi
      have him := (hrem i).2 hun
      obtain ⟨pre, post, rfl⟩ := List.append_of_mem him
      have hidx := ht.idx
      obtain ⟨tp, ty, e1, e2, e3⟩ := List.map_eq_append_iff.1 hidx
      obtain ⟨y, tq, rfl, e4, e5⟩ := List.map_eq_cons_iff.1 e3
      subst e1
      have hlt : i < ops.size := (Array.getElem?_eq_some_iff.1 hoi).1
      have hap : ∀ x, x ∈ tp → ApartT sos x y := fun x hx => by
        have hx1 : x.i ∈ pre := by rw [← e2]; exact List.mem_map_of_mem hx
        have hxi : x.i < i := by
          have := (List.pairwise_append.1 hpw).2.2 x.i hx1 i (by simp)
          exact this
        rcases (List.pairwise_append.1 hfine).2.2 x hx y (by simp) with h | h | h
        · exfalso
          rw [e4] at h
          have := (anc_listed hA down i oi hoi (fun e he hb => hall e he hb) x.i h).1
          have h2 := (hrem x.i).1 (by simp [hx1])
          exact (lsz _ (by omega)).1 h2 this
        · exfalso
          rw [e4] at h
          have := anc_lt hA x.i ops[x.i] (Array.getElem?_eq_getElem (by omega)) i h
          omega
        · exact h
      have hfr := Tr.front (by rw [← e2]; simp) ht hap
      cases hfr with
      | cons h hs ht' =>
        rename_i so e
        refine one_op hR hok h hs fun a' w' g' hR' => ?_
        refine ih _ (pre ++ post) _ (tp ++ tq) g' a' w' (by simpa using hsz) (by simp at hl ⊢; omega) (fun j => ?_) ?_ ht' ?_ (fun j o ho hj e he hb => ?_) hR'
        · by_cases hji : j = i
          · subst hji
            constructor
            · intro hm
              exfalso
              rcases List.mem_append.1 hm with h | h
              · have := (List.pairwise_append.1 hpw).2.2 j h j (by simp); omega
              · have := (List.pairwise_cons.1 (List.pairwise_append.1 hpw).2.1).1 j h; omega
            · intro hm
              exfalso
              simp [Array.getD, hsz, hlt] at hm
          · rw [getD_set_ne true (Ne.symm hji), ← hrem j]
            simp [hji]
        · exact hpw.sublist (by simp)
        · exact hfine.sublist (by simp)
        · by_cases hji : j = i
          · subst hji
            rw [hoi] at ho; cases ho
            exact getD_set_true (hall e he hb)
          · refine getD_set_true (down j o ho ?_ e he hb)
            unfold listedB at hj ⊢
            rw [getD_set_ne false (Ne.symm hji)] at hj
            exact hj

end Go.Abs
