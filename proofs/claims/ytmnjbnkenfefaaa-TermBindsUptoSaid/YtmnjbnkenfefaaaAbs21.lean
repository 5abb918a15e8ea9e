/- THIS TEXT PROVES A PART OF A CALCULUS THAT TELLS WHAT A LOADED GO FUNCTION DOES WITHOUT NAMING MEMORY: each rule is proved against the machine, for every program and every world; its conditions stand in each theorem. -/
import Derived.Test.YtmnjbnkenfefaaaAbs20
set_option linter.unusedVariables false
set_option linter.unusedSimpArgs false
namespace Go.Abs

variable {P : Program} {I : Init} {n : Nat} {σ σ' : St} {g g' : Gh} {a : Act} {w w' : World} {o : Oper} {e : Eff}

/-! ### results -/
inductive RR where
  | t (s : Nat)
  | c1 (a : Nat)
  | cn (a m : Nat)

def isV1 : AV → Bool
  | .c _ => true
  | .agg _ => true
  | _ => false

def rrEv (σ : St) : RR → Option AV
  | .t s => some (toD2 σ (un (σ.sl s)))
  | .c1 a => match loadAt σ true 0 (un (σ.sl a)) with
    | some e => some (toD2 σ e.val)
    | none => none
  | .cn a m => match loadAt σ false m (un (σ.sl a)) with
    | some e => some (toD2 σ e.val)
    | none => none
def rrGok (σ : St) : RR → Prop
  | .t s => gok true (σ.sl s)
  | .c1 a => gok true (σ.sl a)
  | .cn a _ => gok true (σ.sl a)

def resL (σ : St) : List RR → Option (List AV)
  | [] => some []
  | r :: l => match rrEv σ r, resL σ l with
    | some x, some y => if isV1 x then some (x :: y) else none
    | _, _ => none
def resOf (σ : St) (l : List RR) : Option AV := match resL σ l with
  | some [x] => some x
  | some xs => some (.tup xs)
  | none => none

def okR (P : Program) : List ResultVar → List RR → Bool
  | [], [] => true
  | .tmp s :: l, .t s' :: l' => decide (s = s') && okR P l l'
  | .cell a ty :: l, .c1 a' :: l' => decide (a = a') && decide (aggT P ty = some false) && okR P l l'
  | .cell a ty :: l, .cn a' m :: l' => decide (a = a') && decide (aggT P ty = some true) && decide (szT P ty = some m) && okR P l l'
  | _, _ => false

theorem loadVar_at {t : TypeId} {y v : Value} (h : (Instr.loadAt t y).run P w = .ok v w) (hy : ∃ ad, y = .pointer (some ad)) : (do loadVar t (← asAddr y) : Sem Value).run P w = .ok v w := by
  obtain ⟨ad, rfl⟩ := hy
  simpa [Instr.loadAt, Instr.sureAddr, asAddr] using h

def resM (tmps : Array Value) : ResultVar → Sem Value
  | .tmp t => pure (tmps.getD t undef)
  | .cell a t => do loadVar t (← asAddr (tmps.getD a undef))

theorem ptr_of {one : Bool} {m : Nat} {x : AV} {y : Value} (hR : Rel I n σ g a w) (hy : RV2 g w x y) (h : loadAt σ one m x = some e) : ∃ ad, y = .pointer (some ad) := by
  unfold loadAt at h
  split at h
  · split at h
    · rename_i htg
      exact ⟨_, (hy (by simp)).2.2 (by rw [hR.tags]; exact htg)⟩
    · cases h
  · obtain ⟨ad, e, _⟩ := hy (by simp)
    exact ⟨ad, e⟩
  · split at h
    · rename_i htg
      exact ⟨_, (hy (by simp)).2.2 (by rw [hR.tags]; exact htg)⟩
    · cases h
  · cases h

theorem rr_sound (hR : Rel I n σ g a w) {r : ResultVar} {r' : RR} {l : List ResultVar} {l' : List RR} (hok : okR P (r :: l) (r' :: l') = true) (hg : rrGok σ r') {x : AV} (hx : rrEv σ r' = some x) :
    okR P l l' = true ∧ ∃ v, (resM a.tmps r).run P w = .ok v w ∧ RV2 g w x v := by
  unfold okR at hok
  split at hok
  · rename_i e; cases e
  · rename_i e1 e2
    cases e1; cases e2
    simp only [Bool.and_eq_true, decide_eq_true_eq] at hok
    obtain ⟨rfl, h2⟩ := hok
    cases hx
    exact ⟨h2, _, rfl, toD2_spec hR (RV_un (hR.slots _) hg)⟩
  · rename_i e1 e2
    cases e1; cases e2
    simp only [Bool.and_eq_true, decide_eq_true_eq] at hok
    obtain ⟨⟨rfl, h1⟩, h2⟩ := hok
    simp only [rrEv] at hx
    split at hx
    · rename_i e el
      cases hx
      have hv := RV_un (hR.slots _) hg
      obtain ⟨_, _, v, h3, h4⟩ := loadAt_spec hR hv el h1 (by simp)
      exact ⟨h2, v, loadVar_at h3 (ptr_of hR hv el), toD2_spec hR h4⟩
    · cases hx
  · rename_i e1 e2
    cases e1; cases e2
    simp only [Bool.and_eq_true, decide_eq_true_eq] at hok
    obtain ⟨⟨⟨rfl, h1⟩, h3⟩, h2⟩ := hok
    simp only [rrEv] at hx
    split at hx
    · rename_i e el
      cases hx
      have hv := RV_un (hR.slots _) hg
      obtain ⟨_, _, v, h3, h4⟩ := loadAt_spec hR hv el h1 (by intro _; exact h3)
      exact ⟨h2, v, loadVar_at h3 (ptr_of hR hv el), toD2_spec hR h4⟩
    · cases hx
  · cases hok

theorem resL_sound (hR : Rel I n σ g a w) : ∀ {l : List ResultVar} {l' : List RR}, okR P l l' = true → (∀ r, r ∈ l' → rrGok σ r) → ∀ {xs}, resL σ l' = some xs →
    ∃ vs, (l.mapM (resM a.tmps)).run P w = .ok vs w ∧ All2 (RV1 g w) xs vs
  | [], [], _, _, xs, h => by cases h; exact ⟨[], rfl, trivial⟩
  | r :: l, r' :: l', hok, hg, xs, h => by
    simp only [resL] at h
    split at h
    · rename_i x y ex ey
      split at h
      · rename_i hv1
        cases h
        obtain ⟨hok', v, h1, h2⟩ := rr_sound hR hok (hg r' (by simp)) ex
        obtain ⟨vs, h3, h4⟩ := resL_sound hR hok' (fun q hq => hg q (by simp [hq])) ey
        refine ⟨v :: vs, by simp [h1, h3], ?_, h4⟩
        cases x <;> simp [isV1] at hv1
        · exact h2
        · exact h2
      · cases h
    · cases h
  | [], _ :: _, h, _, _, _ => by simp [okR] at h
  | _ :: _, [], h, _, _, _ => by simp [okR] at h

/-! ### a function -/
def slotsOf (args : List AV) : Nat → AV := fun s => args.getD s (.c .junk)
def obsOf (ins : Objs) : Nat → Option Obj := fun k => (ins.lookup k).map (·.2)

structure EndOK (ins : Objs) (rs : List RR) (res : AV) (outs : Objs) (σ : St) : Prop where
  gk : ∀ r, r ∈ rs → rrGok σ r
  res : resOf σ rs = some res
  outs : ∀ k t q, outs.lookup k = some (t, q) → σ.ob k = some q ∧ σ.tg k = t ∧ ∃ q', ins.lookup k = some (t, q')

def okFn (P : Program) (f : Nat) (n : Nat) (sc : SCode) (rs : List RR) (m : Nat) : Bool := match P.funcs[f]? with
  | some fn => match fn.body with
    | some c => decide (fn.ntmps = n) && decide (m ≤ n) && okCode P n sc c && okR P fn.results.toList rs && !(fn.name == "runtime.NumGoroutine")
    | none => false
  | none => false

def onEnd (ins : Objs) (rs : List RR) (res : AV) (outs : Objs) : SEx → St → Prop
  | .normal, σ => EndOK ins rs res outs σ
  | .ret, σ => EndOK ins rs res outs σ
  | .exit _, _ => False

theorem one_res {xs : List AV} {us : List Value} {res : AV} (hr : (match some xs with
    | some [x] => some x
    | some xs => some (.tup xs)
    | none => none) = some res) (h : All2 (RV1 g w) xs us) : ∃ v, (if h : us.toArray.size = 1 then us.toArray[0] else Value.tuple us.toArray) = v ∧ RV2 g w res v := by
  match xs, us, hr, h with
  | [x], [u], hr, h =>
    cases hr
    refine ⟨u, by simp, ?_⟩
    have := h.1
    cases res with
    | c x => exact this
    | agg x => exact this
    | tup x => exact this.elim
    | gd b x => exact this.elim
  | [], [], hr, h => cases hr; exact ⟨.tuple #[], rfl, _, rfl, trivial⟩
  | x :: y :: xs, u :: u' :: us, hr, h => cases hr; exact ⟨.tuple (u :: u' :: us).toArray, by simp, _, rfl, by simpa using h⟩
  | [], _ :: _, _, h => exact h.elim
  | [_], [], _, h => exact h.elim
  | [_], _ :: _ :: _, _, h => exact h.2.elim
  | _ :: _ :: _, [], _, h => exact h.elim
  | _ :: _ :: _, [_], _, h => exact h.2.elim

theorem spec_of {f m base : Nat} {args : List AV} {ins outs : Objs} {res : AV} {sc : SCode} {rs : List RR} (hok : okFn P f n sc rs m = true) (hm : args.length = m)
    (hW : ∀ T : Nat → Nat, (∀ k t q, ins.lookup k = some (t, q) → T k = t) → (∀ x, x ∈ args → Real x) → W P base sc ⟨slotsOf args, obsOf ins, T⟩ (onEnd ins rs res outs)) : Spec P f args ins res outs := by
  unfold okFn at hok
  split at hok
  case h_2 => cases hok
  rename_i fn hf
  split at hok
  case h_2 => cases hok
  rename_i c hb
  simp only [Bool.and_eq_true, decide_eq_true_eq, Bool.not_eq_true'] at hok
  obtain ⟨⟨⟨⟨hn, hmn⟩, hcode⟩, hres⟩, hname⟩ := hok
  refine ⟨fun args w => ?_, fun g w vs hwok hargs hins => ?_⟩
  · have hname : ¬ fn.name = "runtime.NumGoroutine" := by simpa using hname
    simp [callFunc, hf, hname, hb]
  · refine calls_of_wp hf hb ?_
    let J : Init := ⟨g, w, mineOf g ins⟩
    have hlen : vs.size = m := by rw [← hm]; simpa using hargs.length.symm
    let a0 : Act := { tmps := vs ++ Array.replicate (fn.ntmps - vs.size) undef, defers := [] }
    have hobs : ∀ k q, obsOf ins k = some q → ∃ t, ins.lookup k = some (t, q) := fun k q h => by
      obtain ⟨⟨t, q'⟩, h1, rfl⟩ := Option.map_eq_some_iff.1 h
      exact ⟨t, h1⟩
    have hR0 : Rel J n ⟨slotsOf args, obsOf ins, g.tg⟩ g a0 w :=
      { size := by simp only [a0, Array.size_append, Array.size_replicate]; omega
        tags := fun _ => rfl
        slots := fun s => by
          simp only [slotsOf]
          by_cases hs : s < args.length
          · have hget : args[s]? = some args[s] := List.getElem?_eq_getElem hs
            obtain ⟨v, hv, hrv⟩ := hargs.get s _ hget
            have e1 : args.getD s (.c .junk) = args[s] := by simp [hs]
            have e2 : a0.tmps.getD s undef = v := by
              have hsv : s < vs.size := by omega
              have hv' : vs[s]? = some v := by simpa using hv
              simp only [a0, Array.getD_eq_getD_getElem?]
              rw [Array.getElem?_append_left hsv, hv']; rfl
            rw [e1, e2]
            exact RV_of2 hrv
          · have e1 : args.getD s (.c .junk) = .c .junk := by simp [hs]
            rw [e1]
            exact fun h => absurd rfl h
        defs := rfl
        obs := fun k q h => by
          obtain ⟨t, ht⟩ := hobs k q h
          exact (hins.ok k t q ht).2
        sep := fun k k' q q' h h' ha ha' hbb => by
          obtain ⟨t, ht⟩ := hobs k q h
          obtain ⟨t', ht'⟩ := hobs k' q' h'
          exact hins.sep k k' t t' q q' ht ht' ha ha' hbb
        wok := hwok, os := rfl, tape := rfl, out := rfl, grow := Nat.le_refl _
        frame := fun _ _ _ => ⟨rfl, fun _ => Iff.rfl⟩
        kp := Kp.refl g w, le := Gh.Le.refl g
        loc := fun k q h ha => by
          obtain ⟨t, ht⟩ := hobs k q h
          exact .inl ⟨k, t, q, ht, ha, rfl⟩ }
    have hdone : ∀ σ' g' a w', EndOK ins rs res outs σ' → Rel J n σ' g' a w' → a.defers = [] ∧ ∃ v, (results fn a.tmps).run P w' = .ok v w' ∧ ∃ v' g'', Ending.returned v = .returned v' ∧ Post g w ins g'' w' res v' outs := by
      intro σ' g' a w' hE hR'
      obtain ⟨hgk, hr, ho⟩ := hE
      refine ⟨hR'.defs, ?_⟩
      unfold resOf at hr
      have hpost : ∀ v, RV2 g' w' res v → Post g w ins g' w' res v outs := fun v hv =>
        { res := hv
          obs := ⟨fun k t q h => ⟨(hR'.tags k).trans (ho k t q h).2.1, hR'.obs k q (ho k t q h).1⟩, fun k k' t t' q q' h h' ha ha' hbb => hR'.sep k k' q q' (ho k t q h).1 (ho k' t' q' h').1 ha ha' hbb⟩
          kp := hR'.kp, wok := hR'.wok, os := hR'.os, tape := hR'.tape, out := hR'.out, grow := hR'.grow, frame := hR'.frame
          loc := fun k t q h ha => hR'.loc k q (ho k t q h).1 ha
          box := fun k t hk _ ⟨q, hq⟩ => by
            have h1 := (ho k t q hq).2.1
            rcases hR'.le.le k with h | h
            · have := hR'.tags k
              have hk' : J.g0.tg k = t := hk
              omega
            · exact h.2 }
      cases hL : resL σ' rs with
      | none => rw [hL] at hr; cases hr
      | some xs =>
        rw [hL] at hr
        obtain ⟨us, h1, h2⟩ := resL_sound hR' hres hgk hL
        have hrun : (fn.results.mapM (resM a.tmps)).run P w' = .ok us.toArray w' := by
          rw [← Array.toArray_toList (xs := fn.results), List.mapM_toArray]
          simp [h1]
        have hrun2 : ∀ v, (if h : us.toArray.size = 1 then us.toArray[0] else Value.tuple us.toArray) = v → (results fn a.tmps).run P w' = .ok v w' := fun v hv => by
          have : results fn a.tmps = (do
            let vs ← fn.results.mapM (resM a.tmps)
            pure (if h : vs.size = 1 then vs[0] else .tuple vs)) := by
              unfold results
              congr 1
          rw [this]
          simp only [Sem.run_bind, hrun]
          rw [← hv]; rfl
        obtain ⟨v, hv1, hv2⟩ := one_res hr h2
        exact ⟨v, hrun2 v hv1, v, g', rfl, hpost v hv2⟩
    refine W_sound (base := base) sc c _ _ _ hcode (hW g.tg (fun k t q h => (hins.ok k t q h).1) fun x hx => by
      obtain ⟨i, hi⟩ := List.mem_iff_getElem?.1 hx
      obtain ⟨v, _, hv⟩ := hargs.get i x hi
      exact ⟨g, w, v, hv⟩) (fun e σ' g' a w' hq hR' => ?_) g a0 w hR0
    cases e with
    | normal => exact hdone σ' g' a w' hq hR'
    | ret => exact hdone σ' g' a w' hq hR'
    | exit id => exact hq.elim

end Go.Abs
