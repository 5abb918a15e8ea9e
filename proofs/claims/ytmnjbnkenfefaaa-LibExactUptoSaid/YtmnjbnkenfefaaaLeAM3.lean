/- THIS TEXT PROVES A PART OF A CALCULUS THAT TELLS WHAT A LOADED GO FUNCTION DOES WITHOUT NAMING MEMORY: each rule is proved against the machine, for every program and every world; its conditions stand in each theorem. -/
import Derived.Test.YtmnjbnkenfefaaaLeAM2
set_option linter.unusedVariables false
set_option linter.unusedSimpArgs false
namespace Go.Abs

variable {P : Program} {I : Init} {n base : Nat} {σ σ' : St} {g g' g1 g2 : Gh} {a a' : Act} {w w' w1 w2 : World} {e : Eff} {o : Oper}

/-! ### a function with a range over an iterator from the end -/
def okBack (P : Program) (f n : Nat) (r0 r1 r2 : SCode) (sF p q : Nat) (asg bod y : SCode) (rs : List RR) (m : Nat) : Bool := match P.funcs[f]? with
  | some fn => match fn.body with
    | some (.seq c0 (.seq c1 (.seq (.seq c2 (.block _ (.rangeFunc (.tmp sF') ps ca cb))) cy))) =>
      decide (fn.ntmps = n) && decide (m ≤ n) && decide (sF' = sF) && decide (ps = #[p, q]) && decide (p < n) && decide (q < n) &&
      okCode P n r0 c0 && okCode P n r1 c1 && okCode P n r2 c2 && okCode P n asg ca && okCode P n bod cb && okCode P n y cy &&
      noLoop r0 && noLoop r1 && noLoop r2 && noLoop asg && noLoop bod && noLoop y && okR P fn.results.toList rs && !(fn.name == "runtime.NumGoroutine")
    | _ => false
  | none => false

/-- What must hold ahead of the loop. -/
structure LoopB (P : Program) (base sF p q : Nat) (asg bod y : SCode) (rs : List RR) (res : AV) (σ : St) : Prop where
  ex : ∃ (fB sz bs : Nat) (es : List (List Cell)) (J : Nat → (Nat → Option Obj) → (Nat → Nat) → Prop), σ.sl sF = .c (.bk fB sz bs es) ∧ BackIter P fB sz bs ∧ es.length ≤ 4611686018427387904 ∧ J 0 σ.ob σ.tg ∧
    (∀ i ob tg l, i < es.length → es[es.length - 1 - i]? = some l → J i ob tg → W P base (.seq asg bod) ⟨upd (upd σ.sl p (.c (.v (.int .i64 ((es.length - 1 - i : Nat) : Int))))) q (.agg l), ob, tg⟩ (only fun σ2 => J (i + 1) σ2.ob σ2.tg)) ∧
    ∀ ob tg, J es.length ob tg → W P base y ⟨σ.sl, ob, tg⟩ (onEnd [] rs res [])

theorem Free.none {L : Nat} (h : ∀ x, ¬ g.st L x) : Free (fun _ => none) g L := ⟨h, fun ⟨k, q, e, _⟩ => by cases e⟩

theorem act_st {st : Nat → Nat → Prop} {k : Nat} {q : Obj} : Active { g with st := st } k q ↔ Active g k q := by cases q <;> exact Iff.rfl
theorem own_st {st : Nat → Nat → Prop} {ob : Nat → Option Obj} {b : Nat} : own ob { g with st := st } b ↔ own ob g b :=
  ⟨fun ⟨k, q, h1, h2, h3⟩ => ⟨k, q, h1, act_st.1 h2, h3⟩, fun ⟨k, q, h1, h2, h3⟩ => ⟨k, q, h1, act_st.2 h2, h3⟩⟩

theorem loop_back {sF p q fB sz bs : Nat} {es : List (List Cell)} {J : Nat → (Nat → Option Obj) → (Nat → Nat) → Prop} {asg bod : SCode} {ca cb : Code} {Q : Exit → Act → World → Prop} (hR : Rel I n σ g a w) (hd : a.defers = [])
    (hsl : σ.sl sF = .c (.bk fB sz bs es)) (hIt : BackIter P fB sz bs) (hlen : es.length ≤ 4611686018427387904) (hp : p < n) (hq : q < n) (ka : okCode P n asg ca = true) (kb : okCode P n bod cb = true) (na : noLoop asg = true) (nb : noLoop bod = true)
    (h0 : J 0 σ.ob σ.tg) (hJ : ∀ i ob tg l, i < es.length → es[es.length - 1 - i]? = some l → J i ob tg → W P base (.seq asg bod) ⟨upd (upd σ.sl p (.c (.v (.int .i64 ((es.length - 1 - i : Nat) : Int))))) q (.agg l), ob, tg⟩ (only fun σ2 => J (i + 1) σ2.ob σ2.tg))
    (hK : ∀ ob tg g' w', J es.length ob tg → Mv (fun b => b = w.heap.size ∨ b = w.heap.size + 1) σ.ob g w ob g' w' → Lay ob tg g' w' → Free ob g' w.heap.size → w.heap.size < w'.heap.size → w'.heap[w.heap.size]? = some (.deferred (some [])) →
      Q .normal { a with defers := [{ target := .collected w.heap.size, args := #[] }] } w') :
    (Code.rangeFunc (.tmp sF) #[p, q] ca cb).wpIn Fence.wide 0 P Q a w := by
  refine wpIn_rangeFunc fun fn hfn => ?_
  obtain ⟨b, x, hv, hlx, hdx⟩ := opd_t hR hsl (by simp)
  generalize hX : (fun b => b = w.heap.size ∨ b = w.heap.size + 1) = X at hK
  have XD : X w.heap.size := by rw [← hX]; exact .inl rfl
  have XL : X (w.heap.size + 1) := by rw [← hX]; exact .inr rfl
  generalize hD : w.heap.size = D at *
  let rec_ : LoopState → Option Code → Loop := fun st pe => { state := st, pending := pe, fn, tmps := a.tmps, params := #[p, q], assign := ca, body := cb, defers := D }
  let W1 := (w.alloc (.deferred (some []))).alloc (.loop (rec_ .ready none))
  let J' : Nat → Gh → World → Prop := fun i g' V => ∃ ob tg, J i ob tg ∧ Mv X σ.ob g w ob g' V ∧ Lay ob tg g' V ∧ Free ob g' D ∧ Free ob g' (D + 1) ∧ V.heap[D + 1]? = some (.loop (rec_ .ready none)) ∧ V.heap[D]? = some (.deferred (some []))
  have hst : ∀ b, w.heap.size ≤ b → ∀ x, ¬ g.st b x := fun b hb x h => by have := hR.wok b x h; omega
  have hown : ∀ b, w.heap.size ≤ b → ¬ own σ.ob g b := by
    rintro b hb ⟨k, q, e1, e2, e3⟩
    have := (hR.obs k q e1).in e2
    omega
  have hL1 : W1.heap[D + 1]? = some (.loop (rec_ .ready none)) := by
    have := World.alloc_heap_new (w.alloc (.deferred (some []))) (.loop (rec_ .ready none))
    rwa [World.size_alloc, hD] at this
  have hD1 : W1.heap[D]? = some (.deferred (some [])) := by
    have h1 := World.alloc_heap_new w (.deferred (some []))
    rw [hD] at h1
    exact (Go.RowKit.Below.heap_alloc _ _ _ (by simp [hD])).trans h1
  have hJ0 : J' 0 g W1 := by
    refine ⟨σ.ob, σ.tg, h0, (Mv.alloc _ hR.wok).trans (Mv.alloc _ fun b x h => ?_), (hR.lay.alloc _).alloc _, ⟨hst _ (by omega), hown _ (by omega)⟩, ⟨hst _ (by omega), hown _ (by omega)⟩, hL1, hD1⟩
    have := hR.wok b x h
    simp; omega
  have hRounds : Rounds P (D + 1) sz bs es b J' := by
    refine ⟨?_, ?_, ?_⟩
    · rintro i g1 V st V' ⟨ob, tg, j1, j2, j3, j4, j5, j6, j7⟩ hm hwok
      have hk := hm.kp
      have hfr : ∀ b, b < V.heap.size → V'.heap[b]? = V.heap[b]? ∧ ∀ x, st b x ↔ g1.st b x := fun b hb => by
        have := hm.frame b hb (by rintro ⟨k, q, e, _⟩; cases e)
        exact ⟨this.1 (fun h => h), this.2⟩
      have hLV : D + 1 < V.heap.size := (Array.getElem?_eq_some_iff.1 j6).1
      refine ⟨ob, tg, j1, j2.trans ⟨hk, ⟨fun k => .inr ⟨rfl, rfl, rfl⟩⟩, hm.os, hm.tape, hm.out, hm.grow, fun b hb _ => ⟨fun _ => (hfr b hb).1, (hfr b hb).2⟩, fun k q e ha => .inl ⟨k, q, e, act_st.1 ha, rfl⟩⟩,
        ⟨j3.tags, fun k q e => ?_, fun k k' q q' e e' ha ha' => j3.sep k k' q q' e e' (act_st.1 ha) (act_st.1 ha'), hwok⟩, ⟨fun x h => j4.st x (((hfr D (by omega)).2 x).1 h), fun h => j4.no (own_st.1 h)⟩,
        ⟨fun x h => j5.st x (((hfr _ hLV).2 x).1 h), fun h => j5.no (own_st.1 h)⟩, (hfr _ hLV).1.trans j6, (hfr D (by omega)).1.trans j7⟩
      exact ObOK.mono hk ⟨fun k => .inr ⟨rfl, rfl, rfl⟩⟩ rfl (fun ha => ⟨(hfr _ ((j3.obs k q e).in ha)).1, fun x hx => ((hfr _ ((j3.obs k q e).in ha)).2 x).1 hx⟩) (j3.obs k q e)
    · rintro i g1 V ⟨ob, tg, j1, j2, j3, j4, j5, j6, j7⟩
      exact ⟨j3.wok, x, j2.kp.lies hlx, hdx.mono j2.kp⟩
    · rintro i g1 V l' v ⟨ob, tg, j1, j2, j3, j4, j5, j6, j7⟩ hi hl' hv'
      have hLV : D + 1 < V.heap.size := (Array.getElem?_eq_some_iff.1 j6).1
      have hy := run_yield (P := P) (args := #[.int .i64 ((es.length - 1 - i : Nat) : Int), v]) j6 rfl
      refine ⟨fn, _, ca, cb, hy, roundIn_of_wpIn hfn ?_⟩
      let a1 : Act := { tmps := (a.tmps.setIfInBounds p (.int .i64 ((es.length - 1 - i : Nat) : Int))).setIfInBounds q v, defers := [] }
      have hzip : { tmps := ((rec_ .ready none).params.zip #[.int .i64 ((es.length - 1 - i : Nat) : Int), v]).foldl (fun tmps (t, a) => tmps.setIfInBounds t a) (rec_ .ready none).tmps, defers := [] } = a1 := by
        simp [rec_, a1]
      rw [hzip]
      have hz1 : a1.tmps.size = n := by simp [a1, hR.size]
      have hsl1 : ∀ s, RV g1 V (upd (upd σ.sl p (.c (.v (.int .i64 ((es.length - 1 - i : Nat) : Int))))) q (.agg l') s) (a1.tmps.getD s undef) := fun s => by
        have e2 := Act.getD_put (a := { tmps := a.tmps.setIfInBounds p (.int .i64 ((es.length - 1 - i : Nat) : Int)), defers := [] }) (d := q) (v := v) (by simp [hR.size]; exact hq) s
        have e1 := Act.getD_put (a := a) (d := p) (v := .int .i64 ((es.length - 1 - i : Nat) : Int)) (by rw [hR.size]; exact hp) s
        simp only [Act.put] at e1 e2
        simp only [a1, e2, e1, upd]
        split
        · exact hv'
        · split
          · exact fun _ => .v _ rfl
          · exact (hR.slots s).mono j2.kp j2.le
      refine W_soundR (r := some (D + 1)) (base := base) asg ca _ _ _ na (fun ⟨a, w, h⟩ => h) ka (hJ i ob tg l' hi hl' j1) (fun e σ1 g2 a2 V2 hq2 hR2 => ?_) g1 a1 V (j3.rel hz1 hsl1)
      cases e with
      | exit id => exact hq2.elim
      | ret => exact hq2.elim
      | normal =>
      have m2 := hR2.mv (X := X)
      have f2L : Free σ1.ob g2 (D + 1) := m2.free hLV j5
      have f2D : Free σ1.ob g2 D := m2.free (by omega) j4
      have l2 : V2.heap[D + 1]? = some (.loop (rec_ .ready none)) := (hR2.frame _ hLV j5.no).1.trans j6
      have d2 : V2.heap[D]? = some (.deferred (some [])) := (hR2.frame D (by show D < V.heap.size; omega) j4.no).1.trans j7
      refine ⟨_, run_beginRound l2 rfl, ?_⟩
      generalize hV3 : V2.putObj (D + 1) (.loop { rec_ .ready none with state := .busy }) = V3
      have p3 : Mv X σ1.ob g2 V2 σ1.ob g2 V3 := by rw [← hV3]; exact Mv.put _ XL f2L.st
      have lay3 : Lay σ1.ob σ1.tg g2 V3 := by rw [← hV3]; exact hR2.lay.put _ f2L.st f2L.no
      have l3 : V3.heap[D + 1]? = some (.loop { rec_ .ready none with state := .busy }) := by rw [← hV3]; exact World.putObj_heap_same (Array.getElem?_eq_some_iff.1 l2).1
      have d3 : V3.heap[D]? = some (.deferred (some [])) := by rw [← hV3]; exact (World.putObj_heap_other (by omega)).trans d2
      have hL3 : D + 1 < V3.heap.size := (Array.getElem?_eq_some_iff.1 l3).1
      have hR3 := lay3.rel (a := a2) (sl := σ1.sl) hR2.size fun s => (hR2.slots s).mono p3.kp p3.le
      refine W_soundR (r := some (D + 1)) (base := base) bod cb σ1 _ _ nb (fun ⟨a, w, h⟩ => h) kb hq2 (fun e σ2 g3 a3 V4 hq3 hR4 => ?_) g2 a2 V3 hR3
      cases e with
      | exit id => exact hq3.elim
      | ret => exact hq3.elim
      | normal =>
      have m4 := hR4.mv (X := X)
      have f4L : Free σ2.ob g3 (D + 1) := m4.free hL3 f2L
      have f4D : Free σ2.ob g3 D := m4.free (by omega) f2D
      have l4 : V4.heap[D + 1]? = some (.loop { rec_ .ready none with state := .busy }) := (hR4.frame _ hL3 f2L.no).1.trans l3
      have d4 : V4.heap[D]? = some (.deferred (some [])) := (hR4.frame D (by show D < V3.heap.size; omega) f2D.no).1.trans d3
      refine ⟨_, _, run_endRound none l4, rfl, g3, ?_⟩
      have p5 : Mv X σ2.ob g3 V4 σ2.ob g3 (V4.putObj (D + 1) (.loop (rec_ .ready none))) := Mv.put _ XL f4L.st
      have m5 := m2.trans (p3.trans (m4.trans p5))
      refine ⟨⟨σ2.ob, σ2.tg, hq3, j2.trans m5, hR4.lay.put _ f4L.st f4L.no, f4D, f4L, World.putObj_heap_same (Array.getElem?_eq_some_iff.1 l4).1, (World.putObj_heap_other (by omega)).trans d4⟩, m5.kp, m5.le⟩
  refine ⟨D + 1, [{ target := .collected D, args := #[] }], W1, { target := .fn (.func fB) #[.pointer (some ⟨b, 0, none⟩)], args := #[yv (D + 1)] }, W1, fB, #[yv (D + 1), .pointer (some ⟨b, 0, none⟩)], W1, ?_, ?_, fun _ _ => trivial, ?_, fun h => (by cases h), ?_⟩
  · have := run_enterLoop_outer (P := P) (w := w) fn a.tmps #[p, q] ca cb
    rw [hD] at this
    exact this
  · have : ({ a with defers := [] } : Act).eval (.tmp sF) = .func (.func fB) #[] #[.pointer (some ⟨b, 0, none⟩)] := hv
    simp only [resolve, tmp_eval, hv]
    simp [go_sem]
  · simp [invoke, go_sem]
    exact hIt.1 _ _
  · refine (hIt.2 (D + 1) b es J' g W1 hlen hRounds hJ0).mono ?_
    rintro e V ⟨⟨v, rfl⟩, g', ob, tg, j1, j2, j3, j4, j5, j6, j7⟩
    refine ⟨_, _, run_endLoop j6 (by simp [rec_]), ?_⟩
    have hLV : D + 1 < V.heap.size := (Array.getElem?_eq_some_iff.1 j6).1
    have := hK ob tg g' _ j1 (j2.trans (Mv.put (.loop { rec_ .ready none with state := .exhausted }) XL j5.st)) (j3.put _ j5.st j5.no) j4 (by simp; omega) ((World.putObj_heap_other (by omega)).trans j7)
    simpa [rec_, hd] using this

theorem fn_back {f m sF p q : Nat} {args : List AV} {res : AV} {r0 r1 r2 asg bod y : SCode} {rs : List RR} (hok : okBack P f n r0 r1 r2 sF p q asg bod y rs m = true) (hm : args.length = m)
    (hW : ∀ tg, (∀ x, x ∈ args → Real x) → W P base (.seq r0 (.seq r1 r2)) ⟨slotsOf args, fun _ => none, tg⟩ (only (LoopB P base sF p q asg bod y rs res))) : Fn P f args res := by
  unfold okBack at hok
  split at hok
  case h_2 => cases hok
  rename_i fn hf
  split at hok
  case h_2 => cases hok
  rename_i c0 c1 c2 id sF' ps ca cb cy hb
  simp only [Bool.and_eq_true, decide_eq_true_eq, Bool.not_eq_true'] at hok
  obtain ⟨⟨⟨⟨⟨⟨⟨⟨⟨⟨⟨⟨⟨⟨⟨⟨⟨⟨⟨hn, hmn⟩, rfl⟩, rfl⟩, hp⟩, hq⟩, k0⟩, k1⟩, k2⟩, ka⟩, kb⟩, ky⟩, n0⟩, n1⟩, n2⟩, na⟩, nb⟩, ny⟩, hres⟩, hname⟩ := hok
  refine ⟨fun args w => ?_, fun g w vs hwok hargs hins => ?_⟩
  · have hname : ¬ fn.name = "runtime.NumGoroutine" := by simpa using hname
    simp [callFunc, hf, hname, hb]
  refine (callsIn_wide (n := 0)).1 (callsIn_of_wp_marks hf hb trivial ?_)
  have hR0 := rel0 (n := n) (N := fn.ntmps) (mn := mineOf g []) hm hmn hn hwok hargs
  have hno : ∀ b, ¬ mineOf g [] b := by rintro b ⟨k, t, q, h, _⟩; simp at h
  generalize hQ : (bodyPostM Fence.wide 0 P fn fun e w' => ∃ v g', e = .returned v ∧ Post g w [] g' w' res v []) = Q
  have hlo : ¬ LetsOut Q := fun ⟨a, w, h⟩ => by
    rw [← hQ] at h
    obtain ⟨v, g', h, _⟩ := h; cases h
  refine wpIn_seq (W_soundR (r := none) (base := base) r0 c0 _ _ (Exit.then ((Code.seq c1 _).wpIn Fence.wide 0 P Q) Q) n0 (fun ⟨a, w, h⟩ => hlo ⟨a, w, h⟩) k0 (hW g.tg fun x hx => by
      obtain ⟨i, hi⟩ := List.mem_iff_getElem?.1 hx
      obtain ⟨v, _, hv⟩ := hargs.get i x hi
      exact ⟨g, w, v, hv⟩) (fun e σ1 g1 a1 w1 hq1 hR1 => ?_) g _ w hR0)
  cases e with
  | exit id => exact hq1.elim
  | ret => exact hq1.elim
  | normal =>
  refine wpIn_seq (W_soundR (r := none) (base := base) r1 c1 _ _ (Exit.then ((Code.seq _ _).wpIn Fence.wide 0 P Q) Q) n1 (fun ⟨a, w, h⟩ => hlo ⟨a, w, h⟩) k1 hq1 (fun e σ2 g2 a2 w2 hq2 hR2 => ?_) g1 a1 w1 hR1)
  cases e with
  | exit id => exact hq2.elim
  | ret => exact hq2.elim
  | normal =>
  refine wpIn_seq (wpIn_seq (W_soundR (r := none) (base := base) r2 c2 _ _ (Exit.then ((Code.block id _).wpIn Fence.wide 0 P (Exit.then (cy.wpIn Fence.wide 0 P Q) Q)) (Exit.then (cy.wpIn Fence.wide 0 P Q) Q)) n2 (fun ⟨a, w, h⟩ => hlo ⟨a, w, h⟩) k2 hq2 (fun e σ3 g3 a3 w3 hq3 hR3 => ?_) g2 a2 w2 hR2))
  cases e with
  | exit id => exact hq3.elim
  | ret => exact hq3.elim
  | normal =>
  clear hR0 hR1 hR2 hq1 hq2
  obtain ⟨fB, sz, bs, es, J, hsl, hIt, hlen, hJ0, hJ, hJn⟩ := hq3.ex
  refine wpIn_block ?_
  refine loop_back hR3 hR3.defs hsl hIt hlen hp hq ka kb na nb hJ0 hJ fun ob tg g4 w4 j1 j2 j3 j4 j5 j6 => ?_
  have hgrow := hR3.grow
  have hR4 := hR3.build j2 (fun b hb => by rcases hb with h | h <;> (rw [h]; show w.heap.size ≤ _; have h' : w.heap.size ≤ w3.heap.size := hgrow; omega)) j3
  have hR5 := j3.rel (a := { a3 with defers := [{ target := .collected w3.heap.size, args := #[] }] }) (sl := σ3.sl) hR3.size fun s => hR4.slots s
  refine W_soundR (r := none) (base := base) y cy _ _ Q ny hlo ky (hJn ob tg j1) (fun e σ5 g5 a5 w5 hq5 hR6 => ?_) g4 _ w4 hR5
  have hfin : EndOK [] rs res [] σ5 → LeavesInM Fence.wide 0 P fn a5.tmps (fun e w' => ∃ v g', e = .returned v ∧ Post g w [] g' w' res v []) a5.defers .returning w5 := fun hE => by
    rw [hR6.defs]
    have d5 : w5.heap[w3.heap.size]? = some (.deferred (some [])) := (hR6.frame _ j5 j4.no).1.trans j6
    have m6 := hR6.mv (X := fun b => b = w3.heap.size ∨ b = w3.heap.size + 1)
    have f5 : Free σ5.ob g5 w3.heap.size := m6.free j5 j4
    refine ⟨by simp, .inl ⟨w3.heap.size, w5.putObj w3.heap.size (.deferred none), rfl, run_takeDeferred d5, ?_⟩⟩
    generalize hw6 : w5.putObj w3.heap.size (.deferred none) = w6
    have m7 : Mv (fun b => b = w3.heap.size ∨ b = w3.heap.size + 1) σ5.ob g5 w5 σ5.ob g5 w6 := by rw [← hw6]; exact Mv.put _ (.inl rfl) f5.st
    have lay6 : Lay σ5.ob σ5.tg g5 w6 := by rw [← hw6]; exact hR6.lay.put _ f5.st f5.no
    have hR7 : Rel ⟨g, w, mineOf g [], []⟩ n ⟨σ3.sl, σ5.ob, σ5.tg⟩ g5 a3 w6 := hR3.build (j2.trans (m6.trans m7)) (fun b hb => by rcases hb with h | h <;> (rw [h]; show w.heap.size ≤ _; have h' : w.heap.size ≤ w3.heap.size := hgrow; omega)) lay6
    have hR8 := lay6.rel (a := a5) (sl := σ5.sl) hR6.size fun s => (hR6.slots s).mono m7.kp m7.le
    obtain ⟨hgk, hr, ho⟩ := hE
    unfold resOf at hr
    cases hL : resL σ5 rs with
    | none => rw [hL] at hr; cases hr
    | some xs =>
      rw [hL] at hr
      obtain ⟨us, h1, h2⟩ := resL_sound (σ := ⟨σ5.sl, σ5.ob, σ5.tg⟩) hR8 hres hgk hL
      have hrun : (fn.results.mapM (resM a5.tmps)).run P w6 = .ok us.toArray w6 := by
        rw [← Array.toArray_toList (xs := fn.results), List.mapM_toArray]
        simp [h1]
      have hrun2 : ∀ v, (if h : us.toArray.size = 1 then us.toArray[0] else Value.tuple us.toArray) = v → (results fn a5.tmps).run P w6 = .ok v w6 := fun v hv => by
        have : results fn a5.tmps = (do
          let vs ← fn.results.mapM (resM a5.tmps)
          pure (if h : vs.size = 1 then vs[0] else .tuple vs)) := by
            unfold results
            congr 1
        rw [this]
        simp only [Sem.run_bind, hrun]
        rw [← hv]; rfl
      obtain ⟨v, hv1, hv2⟩ := one_res hr h2
      exact ⟨v, hrun2 v hv1, v, g5, rfl,
        { res := hv2, obs := ⟨fun k t q h => by simp at h, fun k k' t t' q q' h => by simp at h⟩, kp := hR7.kp, wok := hR7.wok, os := hR7.os, tape := hR7.tape, out := hR7.out, grow := hR7.grow, frame := hR7.frame
          loc := fun k t q h => by simp at h, box := fun k t _ ⟨q, h⟩ => by simp at h }⟩
  cases e with
  | normal => rw [← hQ]; exact hfin hq5
  | ret => rw [← hQ]; exact hfin hq5
  | exit id => exact hq5.elim
end Go.Abs

namespace Go.Abs

variable {P : Program} {base : Nat} {σ : St} {key : Nat} {ρ : SArg → AV} {β : Bool}

/-! ### calls that only look at the boxes a closure holds -/
structure Ro (σ : St) (l : Objs) : Prop where
  holds : Holds σ l
  keys : ∀ k t q, l.lookup k = some (t, q) → keysOk q.keys l
theorem puts_ro {l : Objs} (h : Holds σ l) : σ.puts l = σ := by
  refine st_ext (fun s => rfl) (fun k => ?_) fun k => rfl
  simp only [St.puts]
  cases e : l.lookup k with
  | none => rfl
  | some x => obtain ⟨t, q⟩ := x; exact (h k t q e).1.symm
theorem ro_sem {fv : AV} {xs : List AV} {fn : Nat} {rs : List (Nat × Nat)} {l : Objs} {res : AV} (h0 : un fv = .c (.clo fn [] rs)) (h1 : gok β fv) (h2 : ∀ x, x ∈ xs → gok β x)
    (h3 : β = true → Spec P fn (xs.map (fun x => toD2 σ (un x)) ++ refs rs) l res l) (h4 : res.keys2 = []) (hh : True → Ro σ l) : CallSem P σ β fv xs fn [] rs l l res [] where
  c0 := h0
  gf := h1
  gx := h2
  cs h := by simpa [refs] using h3 h
  ci k t q h := by
    obtain ⟨a, b⟩ := (hh trivial).holds k t q h
    exact ⟨a, b, by rw [h]; rfl⟩
  co k t q h := .inr ⟨by simp, ((hh trivial).holds k t q h).2.symm, q, h⟩
  cp k h := by simp at h
  kres k h := by rw [h4] at h; cases h
  kobs k t q h := (hh trivial).keys k t q h
theorem ECall.ro {d fn : Nat} {rs : List (Nat × Nat)} {xs args : List AV} {res : AV} {K : St → Prop} (l : Objs) (hs : Spec P fn (args ++ refs rs) l res l) (ha : xs.map (fun x => toD2 σ (un x)) = args)
    (h2 : ∀ x, x ∈ xs → gok true x) (h4 : res.keys2 = []) (hh : Ro σ l) (hK : RealA res → K (σ.set d res)) : ECall P σ (.c (.clo fn [] rs)) xs (some d) K := by
  subst ha
  exact ⟨fn, [], rs, l, l, res, [], [], ro_sem rfl trivial h2 (fun _ => hs) h4 (fun _ => hh), .inr ⟨rfl, rfl, rfl⟩, fun h => hK (h d rfl)⟩
theorem CallA.ro {ok : Bool} {d fn : Nat} {rs : List (Nat × Nat)} {xs args : List AV} {res : AV} {K : St → Prop} (l : Objs) (hs : Spec P fn (args ++ refs rs) l res l) (ha : xs.map (fun x => toD2 σ (un x)) = args)
    (h2 : ∀ x, x ∈ xs → gok true x) (h4 : res.keys2 = []) (hh : Ro σ l) (hK : K (σ.set d res)) : CallA P ok σ (.c (.clo fn [] rs)) xs (some d) K := by
  subst ha
  exact ⟨fn, [], rs, l, l, res, [], [], ro_sem rfl trivial h2 (fun _ => hs) h4 (fun _ => hh), .inr ⟨rfl, rfl, rfl⟩, .inl rfl, hK⟩
theorem GCall.ro {d fn : Nat} {β : Bool} {rs : List (Nat × Nat)} {xs args : List AV} {res : AV} {K : St → Prop} (l : Objs) (hs : β = true → Spec P fn (args ++ refs rs) l res l) (ha : xs.map (fun x => toD2 σ (un x)) = args)
    (h2 : ∀ x, x ∈ xs → gok β x) (h4 : res.keys2 = []) (hh : Ro σ l) (hK : RealA (.gd β res) → K (σ.set d (.gd β res))) : GCall P σ β (.c (.clo fn [] rs)) xs (some d) K := by
  subst ha
  exact ⟨fn, [], rs, l, l, res, ro_sem rfl trivial h2 hs h4 (fun _ => hh), .inr ⟨rfl, rfl, rfl⟩, fun h => hK (h d rfl)⟩
theorem CallD.ro {wk fb : List Nat} {own d fn : Nat} {rs : List (Nat × Nat)} {xs args : List AV} {res : AV} {K : St → Prop} (l : Objs) (hs : Spec P fn (args ++ refs rs) l res l) (ha : xs.map (fun x => toD2 σ (un x)) = args)
    (h2 : ∀ x, x ∈ xs → gok true x) (h4 : res.keys2 = []) (hh : Ro σ l) (h5 : okLk fb (own :: (xs.flatMap (fun x => (un x).keys2) ++ rs.map (·.1) ++ l.map (·.1)))) (hK : K (σ.set d res)) :
    CallD P wk fb own σ (.c (.clo fn [] rs)) xs (some d) K := by
  subst ha
  refine ⟨fn, [], rs, l, l, res, [], [], ro_sem rfl trivial h2 (fun _ => hs) h4 (fun _ => hh), .inr ⟨rfl, rfl, rfl⟩, by simp, ?_, hK⟩
  intro k hk hm
  refine h5 k hk ?_
  simp only [List.nil_append, List.map_nil, List.append_nil, List.flatMap_cons, un_c, AV.keys2, AV.keys1, Cell.keys, List.mem_cons, List.mem_append] at hm ⊢
  rcases hm with h | (h | h) | h
  · exact .inl h
  · exact .inr (.inl (.inr h))
  · exact .inr (.inl (.inl h))
  · exact .inr (.inr h)
end Go.Abs
