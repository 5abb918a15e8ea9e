/- THIS TEXT PROVES A PART OF A CALCULUS THAT TELLS WHAT A LOADED GO FUNCTION DOES WITHOUT NAMING MEMORY: each rule is proved against the machine, for every program and every world; its conditions stand in each theorem. -/
import Derived.Test.YtfgjannlepahgaaGreatDkAM2
set_option linter.unusedVariables false
set_option linter.unusedSimpArgs false
namespace Go.Abs
variable {P : Program} {I : Init} {n base : Nat} {σ σ' : St} {g g' : Gh} {a : Act} {w w' : World} {e : Eff}
def Cell.sub (k t : Nat) : Cell → Cell
  | .own _ _ => .own k t
  | c => c
def AV.sub1 (k t : Nat) : AV → AV
  | .c x => .c (x.sub k t)
  | .agg cs => .agg (cs.map (Cell.sub k t))
  | x => x
def AV.sub (k t : Nat) : AV → AV
  | .tup l => .tup (l.map (AV.sub1 k t))
  | x => x.sub1 k t
def Cell.pat : Cell → Bool
  | .ref .. => false
  | .elw .. => false
  | .mp .. => false
  | .itr .. => false
  | .ifc .. => false
  | .sob .. => false
  | .clo _ a b => a.isEmpty && b.isEmpty
  | _ => true
def AV.pat1 : AV → Bool
  | .c x => x.pat
  | .agg cs => cs.all Cell.pat
  | _ => true
def AV.pat : AV → Bool
  | .tup l => l.all AV.pat1
  | x => x.pat1
def SpecNew (P : Program) (f : Nat) (args : List AV) (pat : AV) (q : Obj) : Prop := ∀ k t : Nat, Spec P f args [] (pat.sub k t) [(k, t, q)]
def rrEvN (σ : St) : RR → Option AV
  | .t s => some (un (σ.sl s))
  | .c1 a => match loadAt σ true 0 (un (σ.sl a)) with
    | some e => some e.val
    | none => none
  | .cn a m => match loadAt σ false m (un (σ.sl a)) with
    | some e => some e.val
    | none => none
def resLN (σ : St) : List RR → Option (List AV)
  | [] => some []
  | r :: l => match rrEvN σ r, resLN σ l with
    | some x, some y => if isV1 x then some (x :: y) else none
    | _, _ => none
def resN (σ : St) (l : List RR) : Option AV := match resLN σ l with
  | some [x] => some x
  | some xs => some (.tup xs)
  | none => none
theorem rr_soundN (hR : Rel I n σ g a w) {r : ResultVar} {r' : RR} {l : List ResultVar} {l' : List RR} (hok : okR P (r :: l) (r' :: l') = true) (hg : rrGok σ r') {x : AV} (hx : rrEvN σ r' = some x) :
    okR P l l' = true ∧ ∃ v, (resM a.tmps r).run P w = .ok v w ∧ RV2 g w x v := by
  unfold okR at hok
  split at hok
  · rename_i e; cases e
  · rename_i e1 e2
    cases e1; cases e2
    simp only [Bool.and_eq_true, decide_eq_true_eq] at hok
    obtain ⟨rfl, h2⟩ := hok
    cases hx
    exact ⟨h2, _, rfl, RV_un (hR.slots _) hg⟩
  · rename_i e1 e2
    cases e1; cases e2
    simp only [Bool.and_eq_true, decide_eq_true_eq] at hok
    obtain ⟨⟨rfl, h1⟩, h2⟩ := hok
    simp only [rrEvN] at hx
    split at hx
    · rename_i e el
      cases hx
      have hv := RV_un (hR.slots _) hg
      obtain ⟨_, _, v, h3, h4⟩ := loadAt_spec hR hv el h1 (by simp)
      exact ⟨h2, v, loadVar_at h3 (ptr_of hR hv el), h4⟩
    · cases hx
  · rename_i e1 e2
    cases e1; cases e2
    simp only [Bool.and_eq_true, decide_eq_true_eq] at hok
    obtain ⟨⟨⟨rfl, h1⟩, h3⟩, h2⟩ := hok
    simp only [rrEvN] at hx
    split at hx
    · rename_i e el
      cases hx
      have hv := RV_un (hR.slots _) hg
      obtain ⟨_, _, v, h3, h4⟩ := loadAt_spec hR hv el h1 (by intro _; exact h3)
      exact ⟨h2, v, loadVar_at h3 (ptr_of hR hv el), h4⟩
    · cases hx
  · cases hok
theorem resLN_sound (hR : Rel I n σ g a w) : ∀ {l : List ResultVar} {l' : List RR}, okR P l l' = true → (∀ r, r ∈ l' → rrGok σ r) → ∀ {xs}, resLN σ l' = some xs →
    ∃ vs, (l.mapM (resM a.tmps)).run P w = .ok vs w ∧ All2 (RV1 g w) xs vs
  | [], [], _, _, xs, h => by cases h; exact ⟨[], rfl, trivial⟩
  | r :: l, r' :: l', hok, hg, xs, h => by
    simp only [resLN] at h
    split at h
    · rename_i x y ex ey
      split at h
      · rename_i hv1
        cases h
        obtain ⟨hok', v, h1, h2⟩ := rr_soundN hR hok (hg r' (by simp)) ex
        obtain ⟨vs, h3, h4⟩ := resLN_sound hR hok' (fun q hq => hg q (by simp [hq])) ey
        refine ⟨v :: vs, by simp [h1, h3], ?_, h4⟩
        cases x <;> simp [isV1] at hv1
        · exact h2
        · exact h2
      · cases h
    · cases h
  | [], _ :: _, h, _, _, _ => by simp [okR] at h
  | _ :: _, [], h, _, _, _ => by simp [okR] at h
theorem res_soundN {fn : Func} {rs : List RR} {res : AV} (hR : Rel I n σ g a w) (hok : okR P fn.results.toList rs = true) (hg : ∀ r, r ∈ rs → rrGok σ r) (hr : resN σ rs = some res) :
    ∃ v, (results fn a.tmps).run P w = .ok v w ∧ RV2 g w res v := by
  unfold resN at hr
  cases hL : resLN σ rs with
  | none => rw [hL] at hr; cases hr
  | some xs =>
    rw [hL] at hr
    obtain ⟨us, h1, h2⟩ := resLN_sound hR hok hg hL
    have hrun : (fn.results.mapM (resM a.tmps)).run P w = .ok us.toArray w := by
      rw [← Array.toArray_toList (xs := fn.results), List.mapM_toArray]
      simp [h1]
    obtain ⟨v, hv1, hv2⟩ := one_res hr h2
    refine ⟨v, ?_, hv2⟩
    have : results fn a.tmps = (do
        let vs ← fn.results.mapM (resM a.tmps)
        pure (if h : vs.size = 1 then vs[0] else .tuple vs)) := by
      unfold results
      congr 1
    rw [this]
    simp only [Sem.run_bind, hrun]
    rw [← hv1]; rfl
inductive Ado : St → St → Prop where
  | refl (σ : St) : Ado σ σ
  | step {σ σ' : St} (s key ty sz bs : Nat) (es : List (List Cell)) (h : σ.sl s = .c (.cap sz bs es)) (k : Ado ((σ.new key (.row ty sz bs es)).set s (.c (.own key (σ.tg key + 1)))) σ') : Ado σ σ'
theorem adopt_sound {s key ty sz bs : Nat} {es : List (List Cell)} (hR : Rel I n σ g a w) (hs : σ.sl s = .c (.cap sz bs es)) :
    ∃ g', Rel I n ((σ.new key (.row ty sz bs es)).set s (.c (.own key (σ.tg key + 1)))) g' a w := by
  have hv := hR.slots s
  rw [hs] at hv
  have hv : RC g w (.cap sz bs es) (a.tmps.getD s undef) := hv (by simp)
  obtain ⟨hrd, ad, hy⟩ := hv
  let g' : Gh := ⟨g.st, g.blk, fun k => if k = key then a.tmps.getD s undef else g.rv k, fun k => if k = key then g.tg k + 1 else g.tg k⟩
  have hkp : Kp g w g' w := ⟨fun ad hs => ⟨hs, rfl⟩⟩
  have hle : g.Le g' := ⟨fun k => by
    by_cases hk : k = key
    · left; simp [g', hk]
    · right; simp [g', hk]⟩
  have hna : ¬ Active g' key (.row ty sz bs es) := by
    rintro ⟨a', n', c', h1, h2⟩
    simp only [g', if_true] at h1
    rw [hy] at h1
    cases h1; omega
  have hact : ∀ k q, k ≠ key → (Active g' k q ↔ Active g k q) := fun k q hk => by
    cases q with
    | row => simp only [Active, g', if_neg hk]
    | _ => exact Iff.rfl
  have one : ∀ k q, ((σ.new key (.row ty sz bs es)).set s (.c (.own key (σ.tg key + 1)))).ob k = some q → (k = key ∧ q = .row ty sz bs es) ∨ (k ≠ key ∧ σ.ob k = some q) := fun k q h => by
    simp only [set_ob, new_ob] at h
    by_cases hk : k = key
    · rw [if_pos hk] at h; cases h; exact .inl ⟨hk, rfl⟩
    · rw [if_neg hk] at h; exact .inr ⟨hk, h⟩
  refine ⟨g',
    { size := hR.size, tags := fun k => ?_, slots := fun s' => ?_, defs := hR.defs, obs := fun k q hq => ?_, sep := fun k1 k2 q1 q2 e1 e2 a1 a2 hb => ?_, wok := hR.wok, os := hR.os, tape := hR.tape, out := hR.out,
      grow := hR.grow, frame := hR.frame, kp := hR.kp.trans hkp, le := hR.le.trans hle, loc := fun k q hq ha => ?_ }⟩
  · simp only [set_tg, new_tg, g']
    by_cases hk : k = key
    · subst hk; simp [hR.tags]
    · simp [hk, hR.tags]
  · simp only [set_sl, new_sl]
    by_cases h : s' = s
    · rw [if_pos h, h]
      intro _
      refine ⟨by rw [hy]; rfl, by simp [g', hR.tags], fun _ => ⟨by simp [g'], ad, _, _, hy⟩⟩
    · rw [if_neg h]; exact (hR.slots s').mono hkp hle
  · rcases one k q hq with ⟨rfl, rfl⟩ | ⟨hk, hq⟩
    · refine ⟨by simp only [g', if_true]; exact hrd.mono hkp, fun a' n' c' h1 h2 => ?_⟩
      exact absurd ⟨a', n', c', h1, h2⟩ hna
    · exact ObOK.mono hkp hle (by simp [g', hk]) (fun _ => ⟨rfl, fun _ h => h⟩) (hR.obs k q hq)
  · rcases one k1 q1 e1 with ⟨rfl, rfl⟩ | ⟨hk1, e1⟩
    · exact absurd a1 hna
    · rcases one k2 q2 e2 with ⟨rfl, rfl⟩ | ⟨hk2, e2⟩
      · exact absurd a2 hna
      · exact hR.sep k1 k2 q1 q2 e1 e2 ((hact k1 q1 hk1).1 a1) ((hact k2 q2 hk2).1 a2) hb
  · rcases one k q hq with ⟨rfl, rfl⟩ | ⟨hk, hq⟩
    · exact absurd ha hna
    · exact hR.loc k q hq ((hact k q hk).1 ha)
theorem ado_sound : ∀ {σ σ' : St}, Ado σ σ' → ∀ {g : Gh}, Rel I n σ g a w → ∃ g', Rel I n σ' g' a w := by
  intro σ σ' h
  induction h with
  | refl σ => exact fun hR => ⟨_, hR⟩
  | step s key ty sz bs es h _ ih =>
    intro g hR
    obtain ⟨g', hR'⟩ := adopt_sound (key := key) (ty := ty) hR h
    exact ih hR'
theorem RC.sub {g g2 : Gh} {w : World} {k0 k t : Nat} {c : Cell} {y : Value} (hc : c.pat = true) (hs : g2.st = g.st) (ht : g2.tg k = t) (hr : g2.rv k = g.rv k0) (h : RC g w (c.sub k0 (g.tg k0)) y) : RC g2 w (c.sub k t) y := by
  have hk : Kp g w g2 w := ⟨fun ad h => ⟨by rw [hs]; exact h, rfl⟩⟩
  cases c with
  | own k' t' =>
    obtain ⟨h0, h1, h2⟩ := h
    exact ⟨h0, by rw [ht]; exact Nat.le_refl _, fun _ => by rw [hr]; exact h2 rfl⟩
  | ref => cases hc
  | elw => cases hc
  | mp => cases hc
  | itr => cases hc
  | ifc => cases hc
  | sob => cases hc
  | bk => exact RC.on h hk (by simp [Cell.sub, Cell.keys])
  | clo f a b =>
    simp only [Cell.pat, Bool.and_eq_true, List.isEmpty_iff] at hc
    obtain ⟨rfl, rfl⟩ := hc
    exact RC.on h hk (by simp [Cell.sub, Cell.keys])
  | v x => exact RC.on h hk (by simp [Cell.sub, Cell.keys])
  | sl => exact RC.on h hk (by simp [Cell.sub, Cell.keys])
  | cap => exact RC.on h hk (by simp [Cell.sub, Cell.keys])
  | elp => exact RC.on h hk (by simp [Cell.sub, Cell.keys])
  | junk => exact h
theorem All2.subs {g g2 : Gh} {w : World} {k0 k t : Nat} (hs : g2.st = g.st) (ht : g2.tg k = t) (hr : g2.rv k = g.rv k0) : ∀ {cs : List Cell} {ys : List Value}, cs.all Cell.pat = true → All2 (RC g w) (cs.map (Cell.sub k0 (g.tg k0))) ys → All2 (RC g2 w) (cs.map (Cell.sub k t)) ys
  | [], [], _, _ => trivial
  | c :: cs, y :: ys, hp, h => by
    simp only [List.all_cons, Bool.and_eq_true] at hp
    exact ⟨RC.sub hp.1 hs ht hr h.1, All2.subs hs ht hr hp.2 h.2⟩
  | [], _ :: _, _, h => h.elim
  | _ :: _, [], _, h => h.elim
theorem RV1.sub {g g2 : Gh} {w : World} {k0 k t : Nat} {x : AV} {y : Value} (hx : x.pat1 = true) (hs : g2.st = g.st) (ht : g2.tg k = t) (hr : g2.rv k = g.rv k0) (h : RV1 g w (x.sub1 k0 (g.tg k0)) y) : RV1 g2 w (x.sub1 k t) y := by
  cases x with
  | c x =>
    intro hj
    refine RC.sub hx hs ht hr (h ?_)
    cases x <;> simp_all [Cell.sub]
  | agg cs =>
    obtain ⟨vs, e, hh⟩ := h
    exact ⟨vs, e, All2.subs hs ht hr hx hh⟩
  | tup l => exact h.elim
  | gd b x => exact h.elim
theorem RV2.sub {g g2 : Gh} {w : World} {k0 k t : Nat} {x : AV} {y : Value} (hx : x.pat = true) (hs : g2.st = g.st) (ht : g2.tg k = t) (hr : g2.rv k = g.rv k0) (h : RV2 g w (x.sub k0 (g.tg k0)) y) : RV2 g2 w (x.sub k t) y := by
  cases x with
  | c x => exact RV1.sub (x := .c x) hx hs ht hr h
  | agg cs => exact RV1.sub (x := .agg cs) hx hs ht hr h
  | gd b x => exact h.elim
  | tup l =>
    obtain ⟨vs, e, hh⟩ := h
    refine ⟨vs, e, ?_⟩
    simp only [AV.pat] at hx
    have key : ∀ {l : List AV} {ys : List Value}, l.all AV.pat1 = true → All2 (RV1 g w) (l.map (AV.sub1 k0 (g.tg k0))) ys → All2 (RV1 g2 w) (l.map (AV.sub1 k t)) ys := by
      intro l
      induction l with
      | nil => intro ys _ h; cases ys; trivial; exact h.elim
      | cons x l ih =>
        intro ys hp h
        simp only [List.all_cons, Bool.and_eq_true] at hp
        cases ys with
        | nil => exact h.elim
        | cons y ys => exact ⟨RV1.sub hp.1 hs ht hr h.1, ih hp.2 h.2⟩
    exact key hx hh
theorem ObOK.at {g g2 : Gh} {w : World} {k0 k : Nat} {q : Obj} (hq : q.keys = []) (hs : g2.st = g.st) (hb : g2.blk k = g.blk k0) (hr : g2.rv k = g.rv k0) (h : ObOK g w k0 q) : ObOK g2 w k q := by
  have hk : Kp g w g2 w := ⟨fun ad h => ⟨by rw [hs]; exact h, rfl⟩⟩
  cases q with
  | box ty cs =>
    obtain ⟨vs, e, hh, hz⟩ := h
    refine ⟨vs, by rw [hb]; exact e, hh.imp fun c hc y r => RC.on r hk fun k' hk' => ?_, by rw [hb, hs]; exact hz⟩
    have : k' ∈ keysCs cs := List.mem_flatMap.2 ⟨c, hc, hk'⟩
    simp only [Obj.keys] at hq
    rw [hq] at this; cases this
  | row ty sz bs es =>
    refine ⟨by rw [hr]; exact h.1.mono hk, fun a n c h1 h2 => ?_⟩
    rw [hr] at h1
    obtain ⟨e1, e2, e3⟩ := h.2 a n c h1 h2
    exact ⟨by rw [hb]; exact e1, by rw [hb]; exact e2, by rw [hb, hs]; exact e3⟩
  | mrow ty sz bs es =>
    obtain ⟨arr, c, h1, h2, h3, h4, h5, h6, h7, h8⟩ := h
    refine ⟨arr, c, by rw [hb, hr]; exact h1, h2, by rw [hb]; exact h3, h4, h5, h6, fun i j l d e1 e2 => ?_, by rw [hb, hs]; exact h8⟩
    obtain ⟨x, e, hx⟩ := h7 i j l d e1 e2
    exact ⟨x, e, hx.mono hk⟩
  | mob one es =>
    obtain ⟨arr, c, h1, h2, h3, h4, h5, h6⟩ := h
    exact ⟨arr, c, by rw [hb]; exact h1, h2, h3, h4.imp fun p hp x hx => ⟨hx.1, MV.mono hk hx.2⟩, h5, by rw [hb, hs]; exact h6⟩
structure EndN (rs : List RR) (k0 : Nat) (pat : AV) (q : Obj) (σ : St) : Prop where
  gk : ∀ r, r ∈ rs → rrGok σ r
  res : resN σ rs = some (pat.sub k0 (σ.tg k0))
  ob : σ.ob k0 = some q
def onEndN (rs : List RR) (k0 : Nat) (pat : AV) (q : Obj) : SEx → St → Prop
  | .exit _, _ => False
  | _, σ => ∃ σ', Ado σ σ' ∧ EndN rs k0 pat q σ'
@[simp] theorem onEndN_n {rs : List RR} {k0 : Nat} {pat : AV} {q : Obj} : onEndN rs k0 pat q .normal σ = ∃ σ', Ado σ σ' ∧ EndN rs k0 pat q σ' := rfl
@[simp] theorem onEndN_r {rs : List RR} {k0 : Nat} {pat : AV} {q : Obj} : onEndN rs k0 pat q .ret σ = ∃ σ', Ado σ σ' ∧ EndN rs k0 pat q σ' := rfl
theorem new_of {f m : Nat} {args : List AV} {pat : AV} {q : Obj} {sc : SCode} {rs : List RR} (k0 : Nat) (hok : okFn P f n sc rs m = true) (hm : args.length = m) (hp : pat.pat = true) (hq : q.keys = [])
    (hW : ∀ σ : St, (∀ s, σ.sl s = slotsOf args s) → (∀ x, x ∈ args → Real x) → W P base sc σ (onEndN rs k0 pat q)) : SpecNew P f args pat q := by
  intro kk tt
  unfold okFn at hok
  split at hok
  case h_2 => cases hok
  rename_i fn hf
  split at hok
  case h_2 => cases hok
  rename_i c hb
  simp only [Bool.and_eq_true, decide_eq_true_eq, Bool.not_eq_true'] at hok
  obtain ⟨⟨⟨⟨hn, hmn⟩, hcode⟩, hres⟩, hname⟩ := hok
  refine ⟨fun args w => ?_, fun g w vs hwok hargs hins => ?_⟩
  · have hname : ¬ fn.name = "runtime.NumGoroutine" := by simpa using hname
    simp [callFunc, hf, hname, hb]
  · refine calls_of_wp hf hb ?_
    let J : Init := ⟨g, w, mineOf g [], []⟩
    have hno : ∀ b, ¬ mineOf g [] b := by rintro b ⟨k, t, q, h, _⟩; simp at h
    have hlen : vs.size = m := by rw [← hm]; simpa using hargs.length.symm
    let a0 : Act := { tmps := vs ++ Array.replicate (fn.ntmps - vs.size) undef, defers := [] }
    have hR0 : Rel J n ⟨slotsOf args, fun _ => none, g.tg⟩ g a0 w :=
      { size := by simp only [a0, Array.size_append, Array.size_replicate]; omega
        tags := fun _ => rfl
        slots := fun s => by
          simp only [slotsOf]
          by_cases hs : s < args.length
          · have hget : args[s]? = some args[s] := List.getElem?_eq_getElem hs
            obtain ⟨v, hv, hrv⟩ := hargs.get s _ hget
            have e1 : args.getD s (.c .junk) = args[s] := by simp [hs]
            have e2 : a0.tmps.getD s undef = v := by
              have hsv : s < vs.size := by omega
              have hv' : vs[s]? = some v := by simpa using hv
              simp only [a0, Array.getD_eq_getD_getElem?]
              rw [Array.getElem?_append_left hsv, hv']; rfl
            rw [e1, e2]
            exact RV_of2 hrv
          · have e1 : args.getD s (.c .junk) = .c .junk := by simp [hs]
            rw [e1]
            exact fun h => absurd rfl h
        defs := rfl
        obs := fun k q h => by cases h
        sep := fun k k' q q' h => by cases h
        wok := hwok, os := rfl, tape := rfl, out := rfl, grow := Nat.le_refl _
        frame := fun _ _ _ => ⟨rfl, fun _ => Iff.rfl⟩
        kp := Kp.refl g w, le := Gh.Le.refl g
        loc := fun k q h ha => by cases h }
    have hdone : ∀ σ1 g1 a w', (∃ σ', Ado σ1 σ' ∧ EndN rs k0 pat q σ') → Rel J n σ1 g1 a w' → a.defers = [] ∧ ∃ v, (results fn a.tmps).run P w' = .ok v w' ∧ ∃ v' g'', Ending.returned v = .returned v' ∧ Post g w [] g'' w' (pat.sub kk tt) v' [(kk, tt, q)] := by
      rintro σ1 g1 a w' ⟨σ', hA, hE⟩ hR1
      obtain ⟨g', hR'⟩ := ado_sound hA hR1
      obtain ⟨hgk, hr, ho⟩ := hE
      refine ⟨hR'.defs, ?_⟩
      obtain ⟨v, hrun, hv⟩ := res_soundN hR' hres hgk hr
      rw [← hR'.tags] at hv
      let g2 : Gh := ⟨g'.st, fun k => if k = kk then g'.blk k0 else g'.blk k, fun k => if k = kk then g'.rv k0 else g'.rv k, fun k => if k = kk then tt else g'.tg k⟩
      have h1 : g2.tg kk = tt := by simp [g2]
      have h2 : g2.rv kk = g'.rv k0 := by simp [g2]
      have h3 : g2.blk kk = g'.blk k0 := by simp [g2]
      have hact : Active g2 kk q → Active g' k0 q := by
        cases q with
        | row => intro h; simpa only [Active, h2] using h
        | _ => exact fun h => h
      have lk : ∀ k t q', List.lookup k [(kk, tt, q)] = some (t, q') → k = kk ∧ t = tt ∧ q' = q := fun k t q' h => by
        simp only [List.lookup_cons, List.lookup_nil] at h
        split at h
        · rename_i hk; cases h; exact ⟨by simpa using hk, rfl, rfl⟩
        · cases h
      refine ⟨v, hrun, v, g2, rfl,
        { res := RV2.sub (g := g') (g2 := g2) (k0 := k0) hp rfl h1 h2 hv
          obs := ⟨fun k t q' h => ?_, fun k k' t t' q' q'' h h' _ _ _ => ?_⟩
          kp := hR'.kp.trans ⟨fun ad h => ⟨h, rfl⟩⟩, wok := hR'.wok, os := hR'.os, tape := hR'.tape, out := hR'.out, grow := hR'.grow, frame := hR'.frame
          loc := fun k t q' h ha => ?_
          box := fun k t _ ⟨q', h⟩ => by simp at h }⟩
      · obtain ⟨rfl, rfl, rfl⟩ := lk k t q' h
        exact ⟨h1, ObOK.at (g := g') (g2 := g2) (k0 := k0) hq rfl h3 h2 (hR'.obs k0 _ ho)⟩
      · obtain ⟨rfl, _⟩ := lk _ _ _ h
        exact (lk _ _ _ h').1.symm
      · obtain ⟨rfl, rfl, rfl⟩ := lk k t q' h
        rw [h3]
        exact hR'.loc k0 _ ho (hact ha)
    refine W_sound (base := base) sc c _ _ _ hcode (hW ⟨slotsOf args, fun _ => none, g.tg⟩ (fun _ => rfl) fun x hx => by
      obtain ⟨i, hi⟩ := List.mem_iff_getElem?.1 hx
      obtain ⟨v, _, hv⟩ := hargs.get i x hi
      exact ⟨g, w, v, hv⟩) (fun e σ' g' a w' hq hR' => ?_) g a0 w hR0
    cases e with
    | normal => exact hdone σ' g' a w' hq hR'
    | ret => exact hdone σ' g' a w' hq hR'
    | exit id => exact hq.elim
theorem keys_pat1 {k t : Nat} : ∀ {x : AV}, x.pat1 = true → ∀ k', k' ∈ (x.sub1 k t).keys1 → k' = k := by
  have hc : ∀ {c : Cell}, c.pat = true → ∀ k', k' ∈ (c.sub k t).keys → k' = k := by
    intro c hc k' hk
    cases c <;> simp_all [Cell.sub, Cell.keys, Cell.pat]
  intro x hx k' hk
  cases x with
  | c x => exact hc hx k' hk
  | agg cs =>
    simp only [AV.sub1, AV.keys1, keysCs, List.mem_flatMap, List.mem_map] at hk
    obtain ⟨c, ⟨c0, h0, rfl⟩, h1⟩ := hk
    exact hc (List.all_eq_true.1 hx c0 h0) k' h1
  | tup l => simp [AV.sub1, AV.keys1] at hk
  | gd b x => simp [AV.sub1, AV.keys1] at hk
theorem keys_pat {k t : Nat} {x : AV} (hx : x.pat = true) : ∀ k', k' ∈ (x.sub k t).keys2 → k' = k := by
  intro k' hk
  cases x with
  | c x => exact keys_pat1 (x := .c x) hx k' hk
  | agg cs => exact keys_pat1 (x := .agg cs) hx k' hk
  | tup l =>
    simp only [AV.sub, AV.keys2, List.mem_flatMap, List.mem_map] at hk
    obtain ⟨c, ⟨c0, h0, rfl⟩, h1⟩ := hk
    exact keys_pat1 (List.all_eq_true.1 hx c0 h0) k' h1
  | gd b x => simp [AV.sub, AV.sub1, AV.keys2, AV.keys1] at hk
theorem new_sem {key fn : Nat} {fv : AV} {xs : List AV} {pat : AV} {q : Obj} (h0 : un fv = .c (.clo fn [] [])) (h1 : gok true fv) (h2 : ∀ x, x ∈ xs → gok true x) (hp : pat.pat = true) (hq : q.keys = [])
    (h3 : SpecNew P fn (xs.map fun x => toD2 σ (un x)) pat q) : CallSem P σ true fv xs fn [] [] [] [(key, σ.tg key + 1, q)] (pat.sub key (σ.tg key + 1)) [key] where
  c0 := h0
  gf := h1
  gx := h2
  cs _ := by simpa [refs] using h3 key (σ.tg key + 1)
  ci k t q h := by simp at h
  co k t q' h := by
    simp only [List.lookup_cons, List.lookup_nil] at h
    split at h
    · rename_i hk
      have hk : k = key := by simpa using hk
      subst hk; cases h; exact .inl ⟨by simp, rfl⟩
    · cases h
  cp k h := by
    simp at h; subst h; simp
  kres k h := by
    rw [keys_pat hp k h]; simp
  kobs k t q' h := by
    simp only [List.lookup_cons, List.lookup_nil] at h
    split at h
    · cases h; rw [hq]; intro k' hk'; cases hk'
    · cases h
theorem ECall.new {d fn : Nat} {xs args : List AV} {pat : AV} {q : Obj} {K : St → Prop} (key : Nat) (hs : SpecNew P fn args pat q) (hp : pat.pat = true) (hq : q.keys = []) (ha : xs.map (fun x => toD2 σ (un x)) = args)
    (h2 : ∀ x, x ∈ xs → gok true x) (hK : RealA (pat.sub key (σ.tg key + 1)) → K ((σ.new key q).set d (pat.sub key (σ.tg key + 1)))) : ECall P σ (.c (.clo fn [] [])) xs (some d) K := by
  subst ha
  refine ⟨fn, [], [], [], _, _, [key], _, new_sem rfl trivial h2 hp hq hs, .inl rfl, fun h => ?_⟩
  have := ap_new (σ := σ) d key (pat.sub key (σ.tg key + 1)) q []
  simp only [objsOf, List.map_cons, List.map_nil]
  rw [this]
  exact hK (h d rfl)
theorem CallD.new {wk fb : List Nat} {own d fn : Nat} {xs args : List AV} {pat : AV} {q : Obj} {K : St → Prop} (key : Nat) (hs : SpecNew P fn args pat q) (hp : pat.pat = true) (hq : q.keys = []) (ha : xs.map (fun x => toD2 σ (un x)) = args)
    (h2 : ∀ x, x ∈ xs → gok true x) (hw : key ∈ wk) (h5 : okLk fb (own :: (xs.flatMap (fun x => (un x).keys2) ++ [key]))) (hK : K ((σ.new key q).set d (pat.sub key (σ.tg key + 1)))) : CallD P wk fb own σ (.c (.clo fn [] [])) xs (some d) K := by
  subst ha
  refine ⟨fn, [], [], [], _, _, [key], _, new_sem rfl trivial h2 hp hq hs, .inl rfl, ?_, ?_, ?_⟩
  · intro k hk
    simp [objsOf] at hk
    rw [hk]; exact hw
  · intro k hk
    have := h5 k hk
    simpa [objsOf, AV.keys2, AV.keys1, Cell.keys] using this
  · have := ap_new (σ := σ) d key (pat.sub key (σ.tg key + 1)) q []
    simp only [objsOf, List.map_cons, List.map_nil]
    rw [this]
    exact hK
attribute [simp] AV.sub AV.sub1 Cell.sub
end Go.Abs

namespace Go.Abs
variable {P : Program} {base : Nat} {σ σ' : St}
theorem WOps_mono {K K' : St → Prop} (hK : ∀ σ, K σ → K' σ) : ∀ {l : List SO} {σ : St}, WOps P base l σ K → WOps P base l σ K'
  | [], σ, h => hK σ h
  | so :: l, σ, ⟨e, h1, h2⟩ => ⟨e, h1, fun hr => WOps_mono hK (h2 hr)⟩
theorem WD_mono {anc : List Nat} {K K' : St → Prop} (hK : ∀ σ, K σ → K' σ) : ∀ {l : List SO} {i : Nat} {σ : St} {tr : List TE}, WD P base anc i l σ tr K → WD P base anc i l σ tr K'
  | [], i, σ, tr, h => ⟨h.1, hK σ h.2⟩
  | so :: l, i, σ, tr, ⟨e, h1, h2⟩ => ⟨e, h1, WD_mono hK h2⟩
theorem W_mono : ∀ {x : SCode} {σ : St} {Q Q' : SEx → St → Prop}, W P base x σ Q → (∀ e σ, Q e σ → Q' e σ) → W P base x σ Q' := by
  intro x
  induction x with
  | skip => exact fun h hq => hq _ _ h
  | reg l => exact fun h hq => WOps_mono (hq .normal) h
  | dreg anc l => exact fun h hq => WD_mono (fun σ h hr => hq _ _ (h hr)) h
  | seq x y ihx ihy =>
    intro σ Q Q' h hq
    refine ihx h fun e σ he => ?_
    cases e with
    | normal => exact ihy he hq
    | exit id => exact hq _ _ he
    | ret => exact hq _ _ he
  | cond c x y ihx ihy =>
    intro σ Q Q' h hq
    obtain ⟨h1, t, h2, h3, h4⟩ := h
    exact ⟨h1, t, h2, fun ht => ihx (h3 ht) hq, fun ht => ihy (h4 ht) hq⟩
  | block id x ih =>
    intro σ Q Q' h hq
    refine ih h fun e σ he => ?_
    cases e with
    | normal => exact hq _ _ he
    | exit id' =>
      simp only [onBlock] at he ⊢
      split
      · rename_i hid; rw [if_pos hid] at he; exact hq _ _ he
      · rename_i hid; rw [if_neg hid] at he; exact hq _ _ he
    | ret => exact hq _ _ he
  | loop x ih =>
    intro σ Q Q' h hq
    obtain ⟨J, m, h0, hr⟩ := h
    refine ⟨J, m, h0, fun k σ hk => ih (hr k σ hk) fun e σ he => ?_⟩
    cases e with
    | normal => exact he
    | exit id => exact hq _ _ he
    | ret => exact hq _ _ he
  | exit id => exact fun h hq => hq _ _ h
  | ret => exact fun h hq => hq _ _ h
  | frz k =>
    intro σ Q Q' h hq
    obtain ⟨ty, sz, bs, es, h1, h2⟩ := h
    exact ⟨ty, sz, bs, es, h1, hq _ _ h2⟩
  | gh =>
    intro σ Q Q' h hq
    obtain ⟨σ', h1, h2⟩ := h
    exact ⟨σ', h1, hq _ _ h2⟩
def only (A : St → Prop) : SEx → St → Prop
  | .normal, σ => A σ
  | _, _ => False
@[simp] theorem only_n (A : St → Prop) : only A .normal σ = A σ := rfl
@[simp] theorem only_e (A : St → Prop) (id : Nat) : only A (.exit id) σ = False := rfl
@[simp] theorem only_r (A : St → Prop) : only A .ret σ = False := rfl
theorem W_cut {x : SCode} {Q : SEx → St → Prop} (A : St → Prop) (h : W P base x σ (only A)) (hA : ∀ σ', A σ' → Q .normal σ') : W P base x σ Q :=
  W_mono h fun e σ he => by
    cases e with
    | normal => exact hA σ he
    | exit id => exact he.elim
    | ret => exact he.elim
@[simp] theorem toD_mp (k t : Nat) : toD σ (.mp k t) = .mp k t := rfl
@[simp] theorem toD_bk (f sz bs : Nat) (es : List (List Cell)) : toD σ (.bk f sz bs es) = .bk f sz bs es := rfl
@[simp] theorem k2_bk (f sz bs : Nat) (es : List (List Cell)) : AV.keys2 (.c (.bk f sz bs es)) = [] := rfl
@[simp] theorem toD_itr (f k t : Nat) : toD σ (.itr f k t) = .itr f k t := rfl
@[simp] theorem k2_mp (k t : Nat) : AV.keys2 (.c (.mp k t)) = [k] := rfl
@[simp] theorem k2_itr (f k t : Nat) : AV.keys2 (.c (.itr f k t)) = [k] := rfl
@[simp] theorem ld1P_none : ld1P none = none := rfl
@[simp] theorem binK_none : binK none = none := rfl
@[simp] theorem binV_bi (op : BinOp) (b : Bool) (k : IntKind) (n : Int) : binV op (.bool b) (.int k n) = none := rfl
@[simp] theorem binV_ib (op : BinOp) (b : Bool) (k : IntKind) (n : Int) : binV op (.int k n) (.bool b) = none := rfl
@[simp] theorem binV_bb (op : BinOp) (a b : Bool) : binV op (.bool a) (.bool b) = none := rfl
@[simp] theorem lenE_b (b : Bool) : lenE σ (.c (.v (.bool b))) = none := rfl
@[simp] theorem fadE_b (off : Nat) (b : Bool) : fadE σ off (.c (.v (.bool b))) = none := rfl
@[simp] theorem iadE_b (sz : Nat) (b : Bool) (i : AV) : iadE σ sz (.c (.v (.bool b))) i = none := rfl
@[simp] theorem convE_b (k : IntKind) (b : Bool) : convE k (.c (.v (.bool b))) = none := rfl
@[simp] theorem loadAt_b (one : Bool) (m : Nat) (b : Bool) : loadAt σ one m (.c (.v (.bool b))) = none := rfl
@[simp] theorem fld1E_b (off : Nat) (b : Bool) : fld1E off (.c (.v (.bool b))) = none := rfl
end Go.Abs

namespace Go.Abs
variable {P : Program} {base : Nat} {σ : St} {key : Nat} {ρ : SArg → AV} {β : Bool}
structure Ro (σ : St) (l : Objs) : Prop where
  holds : Holds σ l
  keys : ∀ k t q, l.lookup k = some (t, q) → keysOk q.keys l
theorem ro_sem {fv : AV} {xs : List AV} {fn : Nat} {rs : List (Nat × Nat)} {l : Objs} {res : AV} (h0 : un fv = .c (.clo fn [] rs)) (h1 : gok β fv) (h2 : ∀ x, x ∈ xs → gok β x)
    (h3 : β = true → Spec P fn (xs.map (fun x => toD2 σ (un x)) ++ refs rs) l res l) (h4 : res.keys2 = []) (hh : True → Ro σ l) : CallSem P σ β fv xs fn [] rs l l res [] where
  c0 := h0
  gf := h1
  gx := h2
  cs h := by simpa [refs] using h3 h
  ci k t q h := by
    obtain ⟨a, b⟩ := (hh trivial).holds k t q h
    exact ⟨a, b, by rw [h]; rfl⟩
  co k t q h := .inr ⟨by simp, ((hh trivial).holds k t q h).2.symm, q, h⟩
  cp k h := by simp at h
  kres k h := by rw [h4] at h; cases h
  kobs k t q h := (hh trivial).keys k t q h
theorem ECall.ro {d fn : Nat} {rs : List (Nat × Nat)} {xs args : List AV} {res : AV} {K : St → Prop} (l : Objs) (hs : Spec P fn (args ++ refs rs) l res l) (ha : xs.map (fun x => toD2 σ (un x)) = args)
    (h2 : ∀ x, x ∈ xs → gok true x) (h4 : res.keys2 = []) (hh : Ro σ l) (hK : RealA res → K (σ.set d res)) : ECall P σ (.c (.clo fn [] rs)) xs (some d) K := by
  subst ha
  exact ⟨fn, [], rs, l, l, res, [], [], ro_sem rfl trivial h2 (fun _ => hs) h4 (fun _ => hh), .inr ⟨rfl, rfl, rfl⟩, fun h => hK (h d rfl)⟩
theorem CallA.ro {ok : Bool} {d fn : Nat} {rs : List (Nat × Nat)} {xs args : List AV} {res : AV} {K : St → Prop} (l : Objs) (hs : Spec P fn (args ++ refs rs) l res l) (ha : xs.map (fun x => toD2 σ (un x)) = args)
    (h2 : ∀ x, x ∈ xs → gok true x) (h4 : res.keys2 = []) (hh : Ro σ l) (hK : K (σ.set d res)) : CallA P ok σ (.c (.clo fn [] rs)) xs (some d) K := by
  subst ha
  exact ⟨fn, [], rs, l, l, res, [], [], ro_sem rfl trivial h2 (fun _ => hs) h4 (fun _ => hh), .inr ⟨rfl, rfl, rfl⟩, .inl rfl, hK⟩
theorem GCall.ro {d fn : Nat} {β : Bool} {rs : List (Nat × Nat)} {xs args : List AV} {res : AV} {K : St → Prop} (l : Objs) (hs : β = true → Spec P fn (args ++ refs rs) l res l) (ha : xs.map (fun x => toD2 σ (un x)) = args)
    (h2 : ∀ x, x ∈ xs → gok β x) (h4 : res.keys2 = []) (hh : Ro σ l) (hK : RealA (.gd β res) → K (σ.set d (.gd β res))) : GCall P σ β (.c (.clo fn [] rs)) xs (some d) K := by
  subst ha
  exact ⟨fn, [], rs, l, l, res, ro_sem rfl trivial h2 hs h4 (fun _ => hh), .inr ⟨rfl, rfl, rfl⟩, fun h => hK (h d rfl)⟩
theorem CallD.ro {wk fb : List Nat} {own d fn : Nat} {rs : List (Nat × Nat)} {xs args : List AV} {res : AV} {K : St → Prop} (l : Objs) (hs : Spec P fn (args ++ refs rs) l res l) (ha : xs.map (fun x => toD2 σ (un x)) = args)
    (h2 : ∀ x, x ∈ xs → gok true x) (h4 : res.keys2 = []) (hh : Ro σ l) (h5 : okLk fb (own :: (xs.flatMap (fun x => (un x).keys2) ++ rs.map (·.1) ++ l.map (·.1)))) (hK : K (σ.set d res)) :
    CallD P wk fb own σ (.c (.clo fn [] rs)) xs (some d) K := by
  subst ha
  refine ⟨fn, [], rs, l, l, res, [], [], ro_sem rfl trivial h2 (fun _ => hs) h4 (fun _ => hh), .inr ⟨rfl, rfl, rfl⟩, by simp, ?_, hK⟩
  intro k hk hm
  refine h5 k hk ?_
  simp only [List.nil_append, List.map_nil, List.append_nil, List.flatMap_cons, un_c, AV.keys2, AV.keys1, Cell.keys, List.mem_cons, List.mem_append] at hm ⊢
  rcases hm with h | (h | h) | h
  · exact .inl h
  · exact .inr (.inl (.inr h))
  · exact .inr (.inl (.inl h))
  · exact .inr (.inr h)
end Go.Abs

namespace Go.Abs
variable {P : Program} {I : Init} {n : Nat} {σ σ' : St} {g g' : Gh} {a : Act} {w w' : World} {o : Oper} {e : Eff}
structure EndU (rs : List RR) (res : AV) (outs : Objs) (σ : St) : Prop where
  gk : ∀ r, r ∈ rs → rrGok σ r
  res : resOf σ rs = some res
  outs : ∀ k t q, outs.lookup k = some (t, q) → σ.ob k = some q ∧ σ.tg k = t
def onEndU (rs : List RR) (res : AV) (outs : Objs) : SEx → St → Prop
  | .normal, σ => EndU rs res outs σ
  | .ret, σ => EndU rs res outs σ
  | .exit _, _ => False
theorem spec_up {f m base : Nat} {args : List AV} {ins outs : Objs} {res : AV} {sc : SCode} {rs : List RR} (hok : okFn P f n sc rs m = true) (hm : args.length = m)
    (hW : ∀ T : Nat → Nat, (∀ k t q, ins.lookup k = some (t, q) → T k = t) → (∀ x, x ∈ args → Real x) → W P base sc ⟨slotsOf args, obsOf ins, T⟩ (onEndU rs res outs)) : Spec P f args ins res outs := by
  unfold okFn at hok
  split at hok
  case h_2 => cases hok
  rename_i fn hf
  split at hok
  case h_2 => cases hok
  rename_i c hb
  simp only [Bool.and_eq_true, decide_eq_true_eq, Bool.not_eq_true'] at hok
  obtain ⟨⟨⟨⟨hn, hmn⟩, hcode⟩, hres⟩, hname⟩ := hok
  refine ⟨fun args w => ?_, fun g w vs hwok hargs hins => ?_⟩
  · have hname : ¬ fn.name = "runtime.NumGoroutine" := by simpa using hname
    simp [callFunc, hf, hname, hb]
  · refine calls_of_wp hf hb ?_
    let J : Init := ⟨g, w, mineOf g ins, []⟩
    have hlen : vs.size = m := by rw [← hm]; simpa using hargs.length.symm
    let a0 : Act := { tmps := vs ++ Array.replicate (fn.ntmps - vs.size) undef, defers := [] }
    have hobs : ∀ k q, obsOf ins k = some q → ∃ t, ins.lookup k = some (t, q) := fun k q h => by
      obtain ⟨⟨t, q'⟩, h1, rfl⟩ := Option.map_eq_some_iff.1 h
      exact ⟨t, h1⟩
    have hR0 : Rel J n ⟨slotsOf args, obsOf ins, g.tg⟩ g a0 w :=
      { size := by simp only [a0, Array.size_append, Array.size_replicate]; omega
        tags := fun _ => rfl
        slots := fun s => by
          simp only [slotsOf]
          by_cases hs : s < args.length
          · have hget : args[s]? = some args[s] := List.getElem?_eq_getElem hs
            obtain ⟨v, hv, hrv⟩ := hargs.get s _ hget
            have e1 : args.getD s (.c .junk) = args[s] := by simp [hs]
            have e2 : a0.tmps.getD s undef = v := by
              have hsv : s < vs.size := by omega
              have hv' : vs[s]? = some v := by simpa using hv
              simp only [a0, Array.getD_eq_getD_getElem?]
              rw [Array.getElem?_append_left hsv, hv']; rfl
            rw [e1, e2]
            exact RV_of2 hrv
          · have e1 : args.getD s (.c .junk) = .c .junk := by simp [hs]
            rw [e1]
            exact fun h => absurd rfl h
        defs := rfl
        obs := fun k q h => by
          obtain ⟨t, ht⟩ := hobs k q h
          exact (hins.ok k t q ht).2
        sep := fun k k' q q' h h' ha ha' hbb => by
          obtain ⟨t, ht⟩ := hobs k q h
          obtain ⟨t', ht'⟩ := hobs k' q' h'
          exact hins.sep k k' t t' q q' ht ht' ha ha' hbb
        wok := hwok, os := rfl, tape := rfl, out := rfl, grow := Nat.le_refl _
        frame := fun _ _ _ => ⟨rfl, fun _ => Iff.rfl⟩
        kp := Kp.refl g w, le := Gh.Le.refl g
        loc := fun k q h ha => by
          obtain ⟨t, ht⟩ := hobs k q h
          exact .inl ⟨k, t, q, ht, ha, rfl⟩ }
    have hdone : ∀ σ' g' a w', EndU rs res outs σ' → Rel J n σ' g' a w' → a.defers = [] ∧ ∃ v, (results fn a.tmps).run P w' = .ok v w' ∧ ∃ v' g'', Ending.returned v = .returned v' ∧ Post g w ins g'' w' res v' outs := by
      intro σ' g' a w' hE hR'
      obtain ⟨hgk, hr, ho⟩ := hE
      refine ⟨hR'.defs, ?_⟩
      unfold resOf at hr
      have hpost : ∀ v, RV2 g' w' res v → Post g w ins g' w' res v outs := fun v hv =>
        { res := hv
          obs := ⟨fun k t q h => ⟨(hR'.tags k).trans (ho k t q h).2, hR'.obs k q (ho k t q h).1⟩, fun k k' t t' q q' h h' ha ha' hbb => hR'.sep k k' q q' (ho k t q h).1 (ho k' t' q' h').1 ha ha' hbb⟩
          kp := hR'.kp, wok := hR'.wok, os := hR'.os, tape := hR'.tape, out := hR'.out, grow := hR'.grow, frame := hR'.frame
          loc := fun k t q h ha => hR'.loc k q (ho k t q h).1 ha
          box := fun k t hk _ ⟨q, hq⟩ => by
            have h1 := (ho k t q hq).2
            rcases hR'.le.le k with h | h
            · have := hR'.tags k
              have hk' : J.g0.tg k = t := hk
              omega
            · exact h.2 }
      cases hL : resL σ' rs with
      | none => rw [hL] at hr; cases hr
      | some xs =>
        rw [hL] at hr
        obtain ⟨us, h1, h2⟩ := resL_sound hR' hres hgk hL
        have hrun : (fn.results.mapM (resM a.tmps)).run P w' = .ok us.toArray w' := by
          rw [← Array.toArray_toList (xs := fn.results), List.mapM_toArray]
          simp [h1]
        have hrun2 : ∀ v, (if h : us.toArray.size = 1 then us.toArray[0] else Value.tuple us.toArray) = v → (results fn a.tmps).run P w' = .ok v w' := fun v hv => by
          have : results fn a.tmps = (do
            let vs ← fn.results.mapM (resM a.tmps)
            pure (if h : vs.size = 1 then vs[0] else .tuple vs)) := by
              unfold results
              congr 1
          rw [this]
          simp only [Sem.run_bind, hrun]
          rw [← hv]; rfl
        obtain ⟨v, hv1, hv2⟩ := one_res hr h2
        exact ⟨v, hrun2 v hv1, v, g', rfl, hpost v hv2⟩
    refine W_sound (base := base) sc c _ _ _ hcode (hW g.tg (fun k t q h => (hins.ok k t q h).1) fun x hx => by
      obtain ⟨i, hi⟩ := List.mem_iff_getElem?.1 hx
      obtain ⟨v, _, hv⟩ := hargs.get i x hi
      exact ⟨g, w, v, hv⟩) (fun e σ' g' a w' hq hR' => ?_) g a0 w hR0
    cases e with
    | normal => exact hdone σ' g' a w' hq hR'
    | ret => exact hdone σ' g' a w' hq hR'
    | exit id => exact hq.elim
end Go.Abs

namespace Go.Abs
variable {P : Program} {base : Nat} {σ : St}
def St.hp (σ : St) (B tb K r : Nat) (q : Obj) : St where
  sl := σ.sl
  ob := fun k => if k = B then some (.box tb [.own K (σ.tg K + r)]) else if k = K then some q else σ.ob k
  tg := fun k => if k = K then σ.tg K + r else σ.tg k
@[simp] theorem hp_sl (B tb K r : Nat) (q : Obj) : (σ.hp B tb K r q).sl = σ.sl := rfl
@[simp] theorem hp_ob (B tb K r : Nat) (q : Obj) (k : Nat) : (σ.hp B tb K r q).ob k = if k = B then some (.box tb [.own K (σ.tg K + r)]) else if k = K then some q else σ.ob k := rfl
@[simp] theorem hp_tg (B tb K r : Nat) (q : Obj) (k : Nat) : (σ.hp B tb K r q).tg k = if k = K then σ.tg K + r else σ.tg k := rfl
@[simp] theorem stl_sl (B tb : Nat) (cs : List Cell) (i k K : Nat) (q : Obj) : (σ.stl B tb cs i k K q).sl = σ.sl := rfl
@[simp] theorem stl_ob (B tb : Nat) (cs : List Cell) (i k K : Nat) (q : Obj) (x : Nat) : (σ.stl B tb cs i k K q).ob x = if x = B then some (.box tb (cs.set i (.own K (σ.tg K + 1)))) else if x = K then some q else if x = k then none else σ.ob x := rfl
@[simp] theorem stl_tg (B tb : Nat) (cs : List Cell) (i k K : Nat) (q : Obj) (x : Nat) : (σ.stl B tb cs i k K q).tg x = if x = K then σ.tg K + 1 else σ.tg x := rfl
@[simp] theorem adb_sl (B tb : Nat) (cs : List Cell) (i K ty sz bs : Nat) (es : List (List Cell)) : (σ.adb B tb cs i K ty sz bs es).sl = σ.sl := rfl
@[simp] theorem adb_ob (B tb : Nat) (cs : List Cell) (i K ty sz bs : Nat) (es : List (List Cell)) (x : Nat) : (σ.adb B tb cs i K ty sz bs es).ob x = if x = B then some (.box tb (cs.set i (.own K (σ.tg K + 1)))) else if x = K then some (.row ty sz bs es) else σ.ob x := rfl
@[simp] theorem adb_tg (B tb : Nat) (cs : List Cell) (i K ty sz bs : Nat) (es : List (List Cell)) (x : Nat) : (σ.adb B tb cs i K ty sz bs es).tg x = if x = K then σ.tg K + 1 else σ.tg x := rfl
@[simp] theorem ads_sl (s K ty sz bs : Nat) (es : List (List Cell)) (x : Nat) : (σ.ads s K ty sz bs es).sl x = if x = s then .c (.own K (σ.tg K + 1)) else σ.sl x := rfl
@[simp] theorem ads_ob (s K ty sz bs : Nat) (es : List (List Cell)) (x : Nat) : (σ.ads s K ty sz bs es).ob x = if x = K then some (.row ty sz bs es) else σ.ob x := rfl
@[simp] theorem ads_tg (s K ty sz bs : Nat) (es : List (List Cell)) (x : Nat) : (σ.ads s K ty sz bs es).tg x = if x = K then σ.tg K + 1 else σ.tg x := rfl
theorem W_ads {s K ty sz bs : Nat} {es : List (List Cell)} {Q : SEx → St → Prop} (hs : σ.sl s = .c (.cap sz bs es)) (h : Q .normal (σ.ads s K ty sz bs es)) : W P base .gh σ Q := W_gh (.ads s K ty sz bs es hs (.refl _)) h
theorem W_fz {k ty sz bs : Nat} {es : List (List Cell)} {Q : SEx → St → Prop} (hk : σ.ob k = some (.mrow ty sz bs es)) (h : Q .normal (σ.frz k ty sz bs es)) : W P base .gh σ Q := W_gh (.fz k ty sz bs es hk (.refl _)) h
theorem W_gh0 {Q : SEx → St → Prop} (h : Q .normal σ) : W P base .gh σ Q := W_gh (.refl σ) h
theorem W_stl {B tb : Nat} {cs : List Cell} {i k t K : Nat} {q : Obj} {Q : SEx → St → Prop} (hB : σ.ob B = some (.box tb cs)) (hc : cs[i]? = some (.own k t)) (ht : t = σ.tg k) (hk : σ.ob k = some q) (hq : isRow q = true) (hK : K ≠ B) (h : Q .normal (σ.stl B tb cs i k K q)) : W P base .gh σ Q :=
  W_gh (.stl B tb cs i k t K q hB hc ht hk hq hK (.refl _)) h
theorem W_adb {B tb : Nat} {cs : List Cell} {i K ty sz bs : Nat} {es : List (List Cell)} {Q : SEx → St → Prop} (hB : σ.ob B = some (.box tb cs)) (hc : cs[i]? = some (.cap sz bs es)) (hK : K ≠ B) (h : Q .normal (σ.adb B tb cs i K ty sz bs es)) : W P base .gh σ Q :=
  W_gh (.adb B tb cs i K ty sz bs es hB hc hK (.refl _)) h
theorem two_get {B K tB t : Nat} {b q : Obj} {k t' : Nat} {q0 : Obj} (h : List.lookup k ([(B, tB, b), (K, t, q)] : Objs) = some (t', q0)) : (k = B ∧ t' = tB ∧ q0 = b) ∨ (k ≠ B ∧ k = K ∧ t' = t ∧ q0 = q) := by
  simp only [List.lookup_cons, List.lookup_nil] at h
  by_cases e : k = B
  · subst e; simp at h; exact .inl ⟨rfl, h.1.symm, h.2.symm⟩
  · have e1 : (k == B) = false := by simpa using e
    rw [e1] at h
    by_cases e2 : k = K
    · subst e2; simp at h; exact .inr ⟨e, rfl, h.1.symm, h.2.symm⟩
    · have e3 : (k == K) = false := by simpa using e2
      rw [e3] at h; simp at h
theorem two_B {B K tB t : Nat} {b q : Obj} : List.lookup B ([(B, tB, b), (K, t, q)] : Objs) = some (tB, b) := by simp
theorem two_K {B K tB t : Nat} {b q : Obj} (h : B ≠ K) : List.lookup K ([(B, tB, b), (K, t, q)] : Objs) = some (t, q) := by
  have : (K == B) = false := by simpa using Ne.symm h
  simp [List.lookup_cons, this]
theorem ECall.hp {d fn B K tB tb t r : Nat} {q q' : Obj} {xs args : List AV} {res : AV} {Kc : St → Prop} (hs : Spec P fn args [(B, tB, .box tb [.own K t]), (K, t, q)] res [(B, tB, .box tb [.own K (t + r)]), (K, t + r, q')])
    (ha : xs.map (fun x => toD2 σ (un x)) = args) (h2 : ∀ x, x ∈ xs → gok true x) (h4 : res.keys2 = []) (hr : r = 0 ∨ r = 1) (hne : B ≠ K) (hq : q'.keys = [])
    (oB : σ.ob B = some (.box tb [.own K t])) (gB : σ.tg B = tB) (oK : σ.ob K = some q) (gK : σ.tg K = t) (hK : RealA res → Kc ((σ.hp B tb K r q').set d res)) : ECall P σ (.c (.clo fn [] [])) xs (some d) Kc := by
  subst ha
  have kobs : ∀ (k t' : Nat) (q0 : Obj), List.lookup k ([(B, tB, .box tb [.own K (t + r)]), (K, t + r, q')] : Objs) = some (t', q0) → keysOk q0.keys [(B, tB, .box tb [.own K (t + r)]), (K, t + r, q')] := fun k t' q0 h => by
    rcases two_get h with ⟨rfl, rfl, rfl⟩ | ⟨h0, rfl, rfl, rfl⟩
    · intro k' hk'
      simp [Obj.keys, keysCs, Cell.keys] at hk'
      subst hk'
      rw [two_K hne]; rfl
    · intro k' hk'; rw [hq] at hk'; cases hk'
  have hci : ∀ (k t' : Nat) (q0 : Obj), List.lookup k ([(B, tB, .box tb [.own K t]), (K, t, q)] : Objs) = some (t', q0) → σ.ob k = some q0 ∧ σ.tg k = t' ∧ (List.lookup k ([(B, tB, .box tb [.own K (t + r)]), (K, t + r, q')] : Objs)).isSome = true := fun k t' q0 h => by
    rcases two_get h with ⟨rfl, rfl, rfl⟩ | ⟨h0, rfl, rfl, rfl⟩
    · exact ⟨oB, gB, by rw [two_B]; rfl⟩
    · exact ⟨oK, gK, by rw [two_K hne]; rfl⟩
  have hst : ∀ pur : List Nat, (∀ k, k ∈ pur ↔ k = K ∧ r = 1) → σ.ap (some d) ⟨res, pur, objsOf [(B, tB, .box tb [.own K (t + r)]), (K, t + r, q')], [B, K]⟩ = (σ.hp B tb K r q').set d res := fun pur hp => by
    refine st_ext (fun s => rfl) (fun k => ?_) fun k => ?_
    · simp only [St.ap, obAfter, lookup_objsOf, set_ob, hp_ob]
      by_cases e : k = B
      · subst e; rw [two_B]; simp [gK]
      · by_cases e2 : k = K
        · subst e2; rw [two_K hne]; simp [e]
        · have e1 : (k == B) = false := by simpa using e
          have e3 : (k == K) = false := by simpa using e2
          have e4 : k ∉ pur := fun h => e2 ((hp k).1 h).1
          simp [List.lookup_cons, e1, e3, e, e2, e4]
    · simp only [St.ap, set_tg, hp_tg]
      by_cases e2 : k = K
      · subst e2
        rcases hr with rfl | rfl
        · have : k ∉ pur := fun h => by have := ((hp k).1 h).2; omega
          simp [this]
        · have : k ∈ pur := (hp k).2 ⟨rfl, rfl⟩
          simp [this]
      · have e4 : k ∉ pur := fun h => e2 ((hp k).1 h).1
        simp [e2, e4]
  have hsem : ∀ pur : List Nat, (∀ k, k ∈ pur ↔ k = K ∧ r = 1) → CallSem P σ true (.c (.clo fn [] [])) xs fn [] [] [(B, tB, .box tb [.own K t]), (K, t, q)] [(B, tB, .box tb [.own K (t + r)]), (K, t + r, q')] res pur := fun pur hp =>
    { c0 := rfl, gf := trivial, gx := h2, cs := fun _ => by simpa [refs] using hs, ci := hci
      co := fun k t' q0 h => by
        rcases two_get h with ⟨rfl, rfl, rfl⟩ | ⟨h0, rfl, rfl, rfl⟩
        · exact .inr ⟨fun h => hne ((hp _).1 h).1, gB.symm, _, two_B⟩
        · rcases hr with rfl | rfl
          · exact .inr ⟨fun h => by have := ((hp _).1 h).2; omega, by rw [gK]; rfl, _, two_K hne⟩
          · exact .inl ⟨(hp _).2 ⟨rfl, rfl⟩, by rw [gK]⟩
      cp := fun k h => by obtain ⟨rfl, _⟩ := (hp k).1 h; rw [two_K hne]; rfl
      kres := fun k h => by rw [h4] at h; cases h
      kobs := kobs }
  rcases hr with rfl | rfl
  · refine ⟨fn, [], [], _, _, res, [], _, hsem [] (by simp), .inl rfl, fun h => ?_⟩
    have := hst [] (by simp)
    rw [show (List.map (fun x => x.1) [(B, tB, Obj.box tb [Cell.own K t]), (K, t, q)]) = [B, K] from rfl, this]
    exact hK (h d rfl)
  · refine ⟨fn, [], [], _, _, res, [K], _, hsem [K] (by simp), .inl rfl, fun h => ?_⟩
    have := hst [K] (by simp)
    rw [show (List.map (fun x => x.1) [(B, tB, Obj.box tb [Cell.own K t]), (K, t, q)]) = [B, K] from rfl, this]
    exact hK (h d rfl)
theorem Ro.one {K t : Nat} {q : Obj} (oK : σ.ob K = some q) (gK : σ.tg K = t) (hq : q.keys = []) : Ro σ [(K, t, q)] := by
  have get : ∀ k t' q0, List.lookup k ([(K, t, q)] : Objs) = some (t', q0) → k = K ∧ t' = t ∧ q0 = q := fun k t' q0 h => by
    simp only [List.lookup_cons, List.lookup_nil] at h
    by_cases e : k = K
    · subst e; simp at h; exact ⟨rfl, h.1.symm, h.2.symm⟩
    · have e1 : (k == K) = false := by simpa using e
      rw [e1] at h; cases h
  refine ⟨fun k t' q0 h => ?_, fun k t' q0 h => ?_⟩
  · obtain ⟨rfl, rfl, rfl⟩ := get k t' q0 h; exact ⟨oK, gK⟩
  · obtain ⟨rfl, rfl, rfl⟩ := get k t' q0 h; intro k' hk'; rw [hq] at hk'; cases hk'
theorem one_get {K t : Nat} {q : Obj} {k t' : Nat} {q0 : Obj} (h : List.lookup k ([(K, t, q)] : Objs) = some (t', q0)) : k = K ∧ t' = t ∧ q0 = q := by
  simp only [List.lookup_cons, List.lookup_nil] at h
  by_cases e : k = K
  · subst e; simp at h; exact ⟨rfl, h.1.symm, h.2.symm⟩
  · have e1 : (k == K) = false := by simpa using e
    rw [e1] at h; cases h
theorem ECall.one {d fn K t : Nat} {q q' : Obj} {xs args : List AV} {res : AV} {Kc : St → Prop} (hs : Spec P fn args [(K, t, q)] res [(K, t, q')])
    (ha : xs.map (fun x => toD2 σ (un x)) = args) (h2 : ∀ x, x ∈ xs → gok true x) (h4 : res.keys2 = []) (hq : q'.keys = [])
    (oK : σ.ob K = some q) (gK : σ.tg K = t) (hK : RealA res → Kc ((σ.puto K q').set d res)) : ECall P σ (.c (.clo fn [] [])) xs (some d) Kc := by
  refine ECall.obj (rs := []) (args := args) (ins := [(K, t, q)]) (outs := [(K, t, q')]) (by simpa [refs] using hs) ha h2 h4 (fun k t' q0 h => ?_) ⟨fun k t' q0 h => ?_, fun k t' q0 h => ?_, fun k t' q0 h => ?_⟩ fun hr => ?_
  · obtain ⟨rfl, rfl, rfl⟩ := one_get h; exact ⟨oK, gK⟩
  · obtain ⟨rfl, rfl, rfl⟩ := one_get h; exact ⟨q', by simp⟩
  · obtain ⟨rfl, rfl, rfl⟩ := one_get h; exact ⟨q, by simp⟩
  · obtain ⟨rfl, rfl, rfl⟩ := one_get h; exact hq
  · have e : σ.puts [(K, t, q')] = σ.puto K q' := by
      refine st_ext (fun s => rfl) (fun k => ?_) fun k => rfl
      simp only [St.puts, puto_ob, List.lookup_cons, List.lookup_nil]
      by_cases e : k = K
      · subst e; simp
      · have e1 : (k == K) = false := by simpa using e
        simp [e1, e]
    rw [e]; exact hK hr
theorem EndU_two {rs : List RR} {res : AV} {B K tB t : Nat} {b q : Obj} (h1 : ∀ r, r ∈ rs → rrGok σ r) (h2 : resOf σ rs = some res) (oB : σ.ob B = some b) (gB : σ.tg B = tB) (oK : σ.ob K = some q) (gK : σ.tg K = t) :
    EndU rs res [(B, tB, b), (K, t, q)] σ := ⟨h1, h2, fun k t' q0 h => by
  rcases two_get h with ⟨rfl, rfl, rfl⟩ | ⟨_, rfl, rfl, rfl⟩
  · exact ⟨oB, gB⟩
  · exact ⟨oK, gK⟩⟩
theorem EndU_one {rs : List RR} {res : AV} {K t : Nat} {q : Obj} (h1 : ∀ r, r ∈ rs → rrGok σ r) (h2 : resOf σ rs = some res) (oK : σ.ob K = some q) (gK : σ.tg K = t) : EndU rs res [(K, t, q)] σ := ⟨h1, h2, fun k t' q0 h => by
  simp only [List.lookup_cons, List.lookup_nil] at h
  by_cases e : k = K
  · subst e; simp at h; obtain ⟨rfl, rfl⟩ := h; exact ⟨oK, gK⟩
  · have e1 : (k == K) = false := by simpa using e
    rw [e1] at h; cases h⟩
theorem spec_two {f m n B K tB t : Nat} {b q : Obj} {args : List AV} {outs : Objs} {res : AV} {sc : SCode} {rs : List RR} (hok : okFn P f n sc rs m = true) (hm : args.length = m) (hne : B ≠ K)
    (hW : ∀ σ : St, (∀ s, σ.sl s = slotsOf args s) → σ.ob B = some b → σ.tg B = tB → σ.ob K = some q → σ.tg K = t → (∀ x, x ∈ args → Real x) → W P base sc σ (onEndU rs res outs)) : Spec P f args [(B, tB, b), (K, t, q)] res outs :=
  spec_up (base := base) hok hm fun T hT hr => hW _ (fun _ => rfl) (by show ((List.lookup B ([(B, tB, b), (K, t, q)] : Objs)).map (·.2)) = _; rw [two_B]; rfl) (hT _ _ _ two_B) (by show ((List.lookup K ([(B, tB, b), (K, t, q)] : Objs)).map (·.2)) = _; rw [two_K hne]; rfl) (hT _ _ _ (two_K hne)) hr
theorem spec_one {f m n K t : Nat} {q : Obj} {args : List AV} {outs : Objs} {res : AV} {sc : SCode} {rs : List RR} (hok : okFn P f n sc rs m = true) (hm : args.length = m)
    (hW : ∀ σ : St, (∀ s, σ.sl s = slotsOf args s) → σ.ob K = some q → σ.tg K = t → (∀ x, x ∈ args → Real x) → W P base sc σ (onEndU rs res outs)) : Spec P f args [(K, t, q)] res outs :=
  spec_up (base := base) hok hm fun T hT hr => hW _ (fun _ => rfl) (by show ((List.lookup K ([(K, t, q)] : Objs)).map (·.2)) = some q; simp) (hT K t q (by simp)) hr
@[simp] theorem onEndU_n (rs : List RR) (res : AV) (outs : Objs) : onEndU rs res outs .normal σ = EndU rs res outs σ := rfl
@[simp] theorem onEndU_r (rs : List RR) (res : AV) (outs : Objs) : onEndU rs res outs .ret σ = EndU rs res outs σ := rfl
end Go.Abs

namespace Go.Abs
variable {P : Program} {base n : Nat} {σ σ' : St}
def NoKeys (l : Objs) : Prop := ∀ k t q, l.lookup k = some (t, q) → q.keys = []
theorem Ro.of {l : Objs} (hl : NoKeys l) (h : Holds σ l) : Ro σ l := ⟨h, fun k t q e k' hk' => by rw [hl k t q e] at hk'; cases hk'⟩
theorem Ro.mono {l : Objs} (h : Ro σ l) (hk : ∀ k, σ'.ob k = σ.ob k ∧ σ'.tg k = σ.tg k) : Ro σ' l := ⟨fun k t q e => by rw [(hk k).1, (hk k).2]; exact h.holds k t q e, h.keys⟩
theorem spec_ro {f m : Nat} {args : List AV} {l : Objs} {res : AV} {sc : SCode} {rs : List RR} (hl : NoKeys l) (hok : okFn P f n sc rs m = true) (hm : args.length = m)
    (hW : ∀ σ : St, (∀ s, σ.sl s = slotsOf args s) → Ro σ l → (∀ x, x ∈ args → Real x) → W P base sc σ (onEndU rs res l)) : Spec P f args l res l :=
  spec_up (base := base) hok hm fun T hT hr => hW _ (fun _ => rfl) (Ro.of hl fun k t q h => ⟨by show (l.lookup k).map (·.2) = some q; rw [h]; rfl, hT k t q h⟩) hr
theorem EndU_ro {rs : List RR} {res : AV} {l : Objs} (h : Ro σ l) (h1 : ∀ r, r ∈ rs → rrGok σ r) (h2 : resOf σ rs = some res) : EndU rs res l σ := ⟨h1, h2, h.holds⟩
theorem NoKeys.nil : NoKeys [] := fun k t q h => by cases h
theorem NoKeys.one {K t : Nat} {q : Obj} (h : q.keys = []) : NoKeys [(K, t, q)] := fun k t' q0 e => by obtain ⟨rfl, rfl, rfl⟩ := one_get e; exact h
theorem NoKeys.two {K t K' t' : Nat} {q q' : Obj} (h : q.keys = []) (h' : q'.keys = []) : NoKeys [(K, t, q), (K', t', q')] := fun k t0 q0 e => by
  rcases two_get e with ⟨rfl, rfl, rfl⟩ | ⟨_, rfl, rfl, rfl⟩
  · exact h
  · exact h'
theorem Ro.two {K t K' t' : Nat} {q q' : Obj} (hne : K ≠ K') (oK : σ.ob K = some q) (gK : σ.tg K = t) (oK' : σ.ob K' = some q') (gK' : σ.tg K' = t') (h : q.keys = []) (h' : q'.keys = []) : Ro σ [(K, t, q), (K', t', q')] :=
  Ro.of (NoKeys.two h h') fun k t0 q0 e => by
    rcases two_get e with ⟨rfl, rfl, rfl⟩ | ⟨_, rfl, rfl, rfl⟩
    · exact ⟨oK, gK⟩
    · exact ⟨oK', gK'⟩
end Go.Abs

namespace Go.Abs
abbrev m_ (d s : Nat) : SO := ⟨some d, none, .mv (.t s)⟩
abbrev o_ (d : Nat) (op : SOp) : SO := ⟨some d, none, op⟩
abbrev p_ (d g : Nat) (op : SOp) : SO := ⟨some d, some (g, true), op⟩
abbrev q_ (d g : Nat) (op : SOp) : SO := ⟨some d, some (g, false), op⟩
abbrev pm_ (d g s : Nat) : SO := ⟨some d, some (g, true), .mv (.t s)⟩
abbrev qm_ (d g s : Nat) : SO := ⟨some d, some (g, false), .mv (.t s)⟩
abbrev n_ (op : SOp) : SO := ⟨none, none, op⟩
end Go.Abs
