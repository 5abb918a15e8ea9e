/- THIS TEXT PROVES A PART OF A CALCULUS THAT TELLS WHAT A LOADED GO FUNCTION DOES WITHOUT NAMING MEMORY: each rule is proved against the machine, for every program and every world; its conditions stand in each theorem. -/
import Derived.Test.YtmnjbnkenfefaaaAbs15
set_option linter.unusedVariables false
set_option linter.unusedSimpArgs false
namespace Go.Abs

variable {P : Program} {I : Init} {n : Nat} {σ : St} {g g' : Gh} {a : Act} {w w' : World} {o : Oper} {e : Eff} {key : Nat}

/-! ### guards -/
def gb (x : AV) (want : Bool) : Option Bool := match x with
  | .c (.v (.bool b)) => some (b == want)
  | .gd b' (.c (.v (.bool b))) => some (b' && (b == want))
  | .tup [] => some false
  | _ => none

def boolOf : Value → Option Bool
  | .bool b => some b
  | _ => none

theorem yielded_of {ops : Array Oper} {a : Act} {j s : Nat} {o' : Oper} (hj : ops[j]? = some o') (hd : o'.dst = some s) (hs : s < a.tmps.size) : yielded ops a.tmps j = boolOf (a.tmps.getD s undef) := by
  have h : a.tmps[s]? = some (a.tmps.getD s undef) := by
    rw [Array.getD_eq_getD_getElem?, Array.getElem?_eq_getElem hs]; rfl
  unfold yielded
  simp only [hj, Option.bind_some, hd, h]
  unfold boolOf
  split <;> simp_all

theorem gb_spec {ops : Array Oper} {j s : Nat} {o' : Oper} {want β : Bool} (hR : Rel I n σ g a w) (ho : o.guard = some (j, want)) (hj : ops[j]? = some o') (hd : o'.dst = some s) (hs : s < n) (h : gb (σ.sl s) want = some β) :
    Region.wanted o (yielded ops a.tmps) = β := by
  have hv := hR.slots s
  have hy := yielded_of (a := a) hj hd (by rw [hR.size]; exact hs)
  unfold Region.wanted
  simp only [ho, hy]
  unfold gb at h
  split at h
  · rename_i b e
    cases h
    rw [e] at hv
    have := RV2_v hv
    rw [this]
    cases b <;> cases want <;> rfl
  · rename_i b' b e
    cases h
    rw [e] at hv
    simp only [RV] at hv
    cases b'
    · have hv : a.tmps.getD s undef = undef := by simpa only [Bool.false_eq_true, if_false] using hv
      rw [hv]; cases want <;> rfl
    · have hv : RV2 g w (.c (.v (.bool b))) (a.tmps.getD s undef) := by simpa only [if_true] using hv
      have := RV2_v hv
      rw [this]
      cases b <;> cases want <;> rfl
  · rename_i e
    cases h
    rw [e] at hv
    obtain ⟨vs, e1, e2⟩ := hv
    rw [e1]
    cases want <;> rfl
  · cases h

/-! ### one operation -/
def mkGd (gd : Option (Nat × Bool)) (β : Bool) (x : AV) : AV := match gd with
  | none => x
  | some _ => .gd β x

def gdOf (σ : St) : Option (Nat × Bool) → Option Bool
  | none => some true
  | some (s, want) => gb (σ.sl s) want

/-- What an operation comes to, as a relation. -/
def SemO (P : Program) (base : Nat) (so : SO) (σ : St) (e : Eff) : Prop :=
  ∃ β, gdOf σ so.gd = some β ∧
    match so.op with
    | .call f xs => ∃ fn k1 k2 ins outs res pur, CallSem P σ β (σ.ev f) (xs.map σ.ev) fn k1 k2 ins outs res pur ∧ (so.gd ≠ none → outs = [] ∧ pur = []) ∧ e = ⟨mkGd so.gd β res, pur, objsOf outs, ins.map (·.1)⟩
    | op => ∃ e0, ev1 (base + so.dst.getD 0) σ.ev σ op = some e0 ∧ cond β σ.ev σ op ∧ (so.gd ≠ none → e0.pur = [] ∧ e0.put = []) ∧ e = { e0 with val := mkGd so.gd β e0.val }

def okCall : Op → SOp → Bool
  | .call ⟨.value f, xs, _⟩, .call g ys => okA f g && okL xs.toList ys
  | _, _ => false

/-- The told operation and the loaded one. -/
def okSO (P : Program) (n : Nat) (ops : Array Oper) (o : Oper) (so : SO) : Bool :=
  decide (o.dst = so.dst) && (match so.dst with | some d => decide (d < n) | none => true) &&
  (match o.guard, so.gd with
   | none, none => true
   | some (j, want), some (s, want') => decide (want = want') && decide (s < n) && (match ops[j]? with | some o' => decide (o'.dst = some s) | none => false)
   | _, _ => false) &&
  (okOp P o.op so.op || okCall o.op so.op)

theorem map_okL (hR : Rel I n σ g a w) {β : Bool} (hβ : β = true) : ∀ {xs : List Operand} {ys : List SArg}, okL xs ys = true → (∀ x, x ∈ ys.map σ.ev → gok β x) → All2 (RV2 g w) ((ys.map σ.ev).map (fun x => toD2 σ (un x))) (xs.map a.eval)
  | [], [], _, _ => trivial
  | x :: xs, y :: ys, h, hg => by
    simp [okL] at h
    subst hβ
    exact ⟨toD2_spec hR (opd hR h.1 (hg _ (by simp))), map_okL hR rfl h.2 fun z hz => hg z (by simp only [List.map_cons, List.mem_cons]; exact .inr hz)⟩
  | [], _ :: _, h, _ => by simp [okL] at h
  | _ :: _, [], h, _ => by simp [okL] at h

theorem refs_spec {l : List (Nat × Nat)} {vs : List Value} (h : All2 (IsRef g) l vs) : All2 (RV2 g w) (refs l) vs := h.map_left _ fun k v hk => fun _ => hk

theorem LetsOut_of {Q : Exit → Act → World → Prop} (h : ∃ a w, Q .outgrown a w) : LetsOut Q := h

/-- One operation, in the machine. -/
theorem op_sound {base : Nat} {ops : Array Oper} {so : SO} {Q : Exit → Act → World → Prop} {K : Act → World → Prop} (hR : Rel I n σ g a w) (hok : okSO P n ops o so = true) (hs : SemO P base so σ e)
    (hK : ∀ a' w' g', Rel I n (σ.ap so.dst e) g' a' w' → K a' w') :
    if Region.wanted o (yielded ops a.tmps) = true then o.wp P a w K Q else K (a.put o.dst undef) w := by
  simp only [okSO, Bool.and_eq_true, decide_eq_true_eq] at hok
  obtain ⟨⟨⟨hd, hdn⟩, hg⟩, hop⟩ := hok
  have hdn' : ∀ d, so.dst = some d → d < n := fun d h => by rw [h] at hdn; simpa using hdn
  obtain ⟨β, hβ, hs⟩ := hs
  have hw : Region.wanted o (yielded ops a.tmps) = β := by
    split at hg
    · rename_i e1 e2
      rw [e2] at hβ
      simp [gdOf] at hβ
      subst hβ
      simp [Region.wanted, e1]
    · rename_i j want s want' e1 e2
      rw [e2] at hβ
      simp only [Bool.and_eq_true, decide_eq_true_eq] at hg
      obtain ⟨⟨rfl, hsn⟩, hj⟩ := hg
      split at hj
      · rename_i o' eo
        exact gb_spec hR e1 eo (by simpa using hj) hsn hβ
      · cases hj
    · cases hg
  rw [hw]
  have nogd : β = false → so.gd ≠ none := fun hb h => by rw [h] at hβ; simp [gdOf] at hβ; rw [hb] at hβ; cases hβ
  have mk0 : ∀ x, β = false → mkGd so.gd β x = .gd false x := fun x hb => by
    unfold mkGd
    split
    · rename_i h; exact absurd h (nogd hb)
    · rw [hb]
  have mk1 : ∀ {g' : Gh} {w' : World} {x v}, β = true → RV2 g' w' x v → RV g' w' (mkGd so.gd β x) v := fun hb hx => by
    unfold mkGd
    split
    · exact RV_of2 hx
    · simp only [RV, hb, if_true]; exact hx
  -- the operation is not carried out
  have skip : β = false → ∀ x, e.val = mkGd so.gd β x → e.pur = [] → e.put = [] → K (a.put o.dst undef) w := fun hb x h0 h1 h2 => by
    refine hK _ _ g ?_
    rw [hd]
    exact hR.step hdn' (by rw [h1, h2]; exact Step.quiet hR.wok) (by rw [h0, mk0 x hb]; simp [RV])
  have prim : ∀ {e0 : Eff}, Does P I σ g a w o e0 → e.val = mkGd so.gd β e0.val → e.pur = e0.pur → e.put = e0.put → β = true → o.wp P a w K Q := fun {e0} hD h1 h2 h3 hb => by
    obtain ⟨w', g', v, hr, hst, hv⟩ := hD
    have hR' : Rel I n (σ.ap so.dst e) g' (a.put o.dst v) w' := by
      rw [hd]
      exact hR.step hdn' (by rw [h2, h3]; exact hst) (by rw [h1]; exact mk1 hb hv)
    unfold Oper.wp
    rcases hr with hr | ⟨hr, rfl⟩
    · rw [hr]; exact hK _ _ _ hR'
    · rw [hr]; exact hK _ _ _ hR'
  have nocall : (∀ f xs, so.op ≠ .call f xs) → okOp P o.op so.op = true → (∃ e0, ev1 (base + so.dst.getD 0) σ.ev σ so.op = some e0 ∧ cond β σ.ev σ so.op ∧ (so.gd ≠ none → e0.pur = [] ∧ e0.put = []) ∧ e = { e0 with val := mkGd so.gd β e0.val }) →
      if β = true then o.wp P a w K Q else K (a.put o.dst undef) w := fun _ hop ⟨e0, h1, h2, h3, h4⟩ => by
    split
    · rename_i hb
      subst hb
      exact prim (okOp_spec hR hop h1 h2) (by rw [h4]) (by rw [h4]) (by rw [h4]) rfl
    · rename_i hb
      have hb : β = false := by simpa using hb
      obtain ⟨q1, q2⟩ := h3 (nogd hb)
      exact skip hb e0.val (by rw [h4]) (by rw [h4]; exact q1) (by rw [h4]; exact q2)
  have okno : (∀ f xs, so.op ≠ .call f xs) → okOp P o.op so.op = true := fun h => by
    rcases Bool.or_eq_true _ _ ▸ hop with h1 | h1
    · exact h1
    · unfold okCall at h1
      split at h1
      · rename_i e2; exact absurd e2 (h _ _)
      · cases h1
  cases hso : so.op
  case call f xs =>
    rw [hso] at hs hop
    obtain ⟨fn, k1, k2, ins, outs, res, pur, hC, hgd, rfl⟩ := hs
    split
    · rename_i hb
      have hoc : okCall o.op (.call f xs) = true := by
        rcases Bool.or_eq_true _ _ ▸ hop with h1 | h1
        · unfold okOp at h1
          cases eo : o.op <;> rw [eo] at h1 <;> simp only [reduceCtorEq, Bool.false_eq_true] at h1
        · exact h1
      unfold okCall at hoc
      split at hoc
      · rename_i x args ats f' xs' eop eso
        cases eso
        simp only [Bool.and_eq_true] at hoc
        have hfv := opd hR hoc.1 (by have := hC.gf; rw [hb] at this; exact this)
        rw [hC.c0] at hfv
        obtain ⟨v1, v2, hfe, r1, r2⟩ := hfv (by simp)
        have hargs := map_okL hR hb hoc.2 hC.gx
        obtain ⟨hent, hsp⟩ := hC.cs hb
        have hall : All2 (RV2 g w) (refs k1 ++ (xs.map σ.ev).map (fun x => toD2 σ (un x)) ++ refs k2) (v1 ++ args.map a.eval ++ v2).toList := by
          simp only [Array.toList_append, Array.toList_map]
          exact ((refs_spec r1).append hargs).append (refs_spec r2)
        have hins : ObsOK g w ins := ⟨fun k t q hq => by
            have := hC.ci k t q hq
            exact ⟨(hR.tags k).trans this.2.1, hR.obs k q this.1⟩,
          fun k k' t t' q q' h1 h2 ha ha' hbb => hR.sep k k' q q' (hC.ci k t q h1).1 (hC.ci k' t' q' h2).1 ha ha' hbb⟩
        have hcalls := hsp g w _ hR.wok hall hins
        unfold Oper.wp
        have hrun : (execOp a.eval o).run P w = .ok (.enter fn (v1 ++ args.map a.eval ++ v2)) w := by
          simp [execOp, eop, resolve, hfe, Deferred.ofValue, invoke]
          rw [← Array.append_assoc]
          exact hent _ _
        rw [hrun]
        refine Calls.mono hcalls ?_
        rintro e' w' ⟨v, g', rfl, hp⟩
        obtain ⟨g2, hst, hv⟩ := call_step hR hC hp
        refine hK _ _ g2 ?_
        rw [hd]
        exact hR.step hdn' hst (mk1 hb hv)
      · cases hoc
    · rename_i hb
      have hb : β = false := by simpa using hb
      obtain ⟨q1, q2⟩ := hgd (nogd hb)
      exact skip hb res rfl q2 (by rw [q1]; rfl)
  all_goals
    have hnc : ∀ f xs, so.op ≠ .call f xs := by rw [hso]; intro f xs h; cases h
    have hs' : ∃ e0, ev1 (base + so.dst.getD 0) σ.ev σ so.op = some e0 ∧ cond β σ.ev σ so.op ∧ (so.gd ≠ none → e0.pur = [] ∧ e0.put = []) ∧ e = { e0 with val := mkGd so.gd β e0.val } := by
      simp only [hso] at hs ⊢
      exact hs
    exact nocall hnc (okno hnc) hs'

end Go.Abs
