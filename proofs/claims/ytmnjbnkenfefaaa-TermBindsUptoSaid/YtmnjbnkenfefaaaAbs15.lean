/- THIS TEXT PROVES A PART OF A CALCULUS THAT TELLS WHAT A LOADED GO FUNCTION DOES WITHOUT NAMING MEMORY: each rule is proved against the machine, for every program and every world; its conditions stand in each theorem. -/
import Derived.Test.YtmnjbnkenfefaaaAbs14
set_option linter.unusedVariables false
set_option linter.unusedSimpArgs false
namespace Go.Abs

variable {P : Program} {I : Init} {n : Nat} {σ : St} {g g' : Gh} {a : Act} {w w' : World} {o : Oper} {e : Eff} {key : Nat}

/-! ### what a function is said to do -/
def EntersF (P : Program) (f : Nat) : Prop := ∀ (args : Array Value) (w : World), (callFunc f args).run P w = .ok (.enter f args) w

/-- Objects that are handed in, or back: the key, its tag, the object. -/
abbrev Objs := List (Nat × Nat × Obj)

structure ObsOK (g : Gh) (w : World) (l : Objs) : Prop where
  ok : ∀ k t q, l.lookup k = some (t, q) → g.tg k = t ∧ ObOK g w k q
  sep : ∀ k k' t t' q q', l.lookup k = some (t, q) → l.lookup k' = some (t', q') → Active g k q → Active g k' q' → g.blk k = g.blk k' → k = k'

def mineOf (g : Gh) (l : Objs) (b : Nat) : Prop := ∃ k t q, l.lookup k = some (t, q) ∧ Active g k q ∧ g.blk k = b

structure Post (g : Gh) (w : World) (ins : Objs) (g' : Gh) (w' : World) (res : AV) (v : Value) (outs : Objs) : Prop where
  res : RV2 g' w' res v
  obs : ObsOK g' w' outs
  kp : Kp g w g' w'
  wok : ∀ b o, g'.st b o → b < w'.heap.size
  os : w'.os = w.os
  tape : w'.tape = w.tape
  out : w'.output = w.output
  grow : w.heap.size ≤ w'.heap.size
  frame : ∀ b, b < w.heap.size → ¬ mineOf g ins b → w'.heap[b]? = w.heap[b]? ∧ ∀ o, g'.st b o ↔ g.st b o
  loc : ∀ k t q, outs.lookup k = some (t, q) → Active g' k q → mineOf g ins (g'.blk k) ∨ w.heap.size ≤ g'.blk k
  box : ∀ k t, g.tg k = t → (∃ q, ins.lookup k = some (t, q)) → (∃ q, outs.lookup k = some (t, q)) → g'.blk k = g.blk k ∧ g'.rv k = g.rv k

def Spec (P : Program) (f : Nat) (args : List AV) (ins : Objs) (res : AV) (outs : Objs) : Prop :=
  EntersF P f ∧ ∀ (g : Gh) (w : World) (vs : Array Value), (∀ b o, g.st b o → b < w.heap.size) → All2 (RV2 g w) args vs.toList → ObsOK g w ins →
    Calls P f vs w fun e w' => ∃ v g', e = .returned v ∧ Post g w ins g' w' res v outs

/-- A function that only computes. -/
def Fn (P : Program) (f : Nat) (args : List AV) (res : AV) : Prop := Spec P f args [] res []

/-- Somewhere it is told of a value. -/
def Real (x : AV) : Prop := ∃ g w v, RV2 g w x v

def refs (l : List (Nat × Nat)) : List AV := l.map fun k => .c (.ref k.1 k.2 0)

def toD2 (σ : St) : AV → AV
  | .tup l => .tup l
  | x => toD1 σ x

def keysOk (keys : List Nat) (outs : Objs) : Prop := ∀ k, k ∈ keys → (outs.lookup k).isSome = true

def objsOf (l : Objs) : List (Nat × Obj) := l.map fun x => (x.1, x.2.2)

theorem lookup_objsOf {l : Objs} {k : Nat} : (objsOf l).lookup k = (l.lookup k).map (·.2) := by
  induction l with
  | nil => rfl
  | cons x l ih =>
    obtain ⟨k', t, q⟩ := x
    simp only [objsOf, List.map_cons, List.lookup_cons] at ih ⊢
    split <;> simp_all

/-- A call, as told. -/
structure CallSem (P : Program) (σ : St) (β : Bool) (fv : AV) (xs : List AV) (f : Nat) (k1 k2 : List (Nat × Nat)) (ins outs : Objs) (res : AV) (pur : List Nat) : Prop where
  c0 : un fv = .c (.clo f k1 k2)
  gf : gok β fv
  gx : ∀ x, x ∈ xs → gok β x
  cs : β = true → Spec P f (refs k1 ++ xs.map (fun x => toD2 σ (un x)) ++ refs k2) ins res outs
  ci : ∀ k t q, ins.lookup k = some (t, q) → σ.ob k = some q ∧ σ.tg k = t ∧ (outs.lookup k).isSome = true
  co : ∀ k t q, outs.lookup k = some (t, q) → (k ∈ pur ∧ t = σ.tg k + 1) ∨ (k ∉ pur ∧ t = σ.tg k ∧ ∃ q', ins.lookup k = some (t, q'))
  cp : ∀ k, k ∈ pur → (outs.lookup k).isSome = true
  kres : keysOk res.keys2 outs
  kobs : ∀ (k t : Nat) (q : Obj), outs.lookup k = some (t, q) → keysOk q.keys outs

/-- Two ghosts that agree where it matters. -/
theorem RC.on {c : Cell} {y : Value} (h : RC g w c y) (hk : Kp g w g' w') (ha : ∀ k, k ∈ c.keys → g'.tg k = g.tg k ∧ g'.blk k = g.blk k ∧ g'.rv k = g.rv k) : RC g' w' c y := by
  cases c with
  | v x => exact RD.mono hk h
  | sl sz bs es => exact RD.mono hk h
  | cap sz bs es => exact ⟨RD.mono hk h.1, h.2⟩
  | ref k t off =>
    obtain ⟨a1, a2, a3⟩ := ha k (by simp [Cell.keys])
    exact ⟨h.1, by rw [a1]; exact h.2.1, fun ht => by rw [a1] at ht; simp only [ptr, a2]; exact h.2.2 ht⟩
  | own k t =>
    obtain ⟨a1, a2, a3⟩ := ha k (by simp [Cell.keys])
    exact ⟨h.1, by rw [a1]; exact h.2.1, fun ht => by rw [a1] at ht; rw [a3]; exact h.2.2 ht⟩
  | elp cs j =>
    obtain ⟨ad, e, hh⟩ := h
    refine ⟨ad, e, fun i d hd => ?_⟩
    obtain ⟨x, h1, h2⟩ := hh i d hd
    exact ⟨x, hk.lies h1, h2.mono hk⟩
  | elw k t sz i j =>
    obtain ⟨a1, a2, a3⟩ := ha k (by simp [Cell.keys])
    exact ⟨h.1, by rw [a1]; exact h.2.1, fun ht => by rw [a1] at ht; simp only [ptr, a2]; exact h.2.2 ht⟩
  | clo f k1 k2 =>
    obtain ⟨v1, v2, e, r1, r2⟩ := h
    have one : ∀ k : Nat × Nat, k.1 ∈ (Cell.clo f k1 k2).keys → ∀ y, IsRef g k y → IsRef g' k y := fun k hm y r => by
      obtain ⟨a1, a2, a3⟩ := ha k.1 hm
      exact ⟨r.1, by rw [a1]; exact r.2.1, fun ht => by rw [a1] at ht; simp only [ptr, a2]; exact r.2.2 ht⟩
    refine ⟨v1, v2, e, r1.imp fun k hm y r => one k ?_ y r, r2.imp fun k hm y r => one k ?_ y r⟩
    · simp only [Cell.keys, List.mem_append, List.mem_map]; exact .inl ⟨k, hm, rfl⟩
    · simp only [Cell.keys, List.mem_append, List.mem_map]; exact .inr ⟨k, hm, rfl⟩
  | junk => exact h

theorem RV1.on {x : AV} {y : Value} (h : RV1 g w x y) (hk : Kp g w g' w') (ha : ∀ k, k ∈ x.keys1 → g'.tg k = g.tg k ∧ g'.blk k = g.blk k ∧ g'.rv k = g.rv k) : RV1 g' w' x y := by
  cases x with
  | c x => exact fun hx => (h hx).on hk ha
  | agg cs =>
    obtain ⟨vs, e, hh⟩ := h
    exact ⟨vs, e, hh.imp fun c hc y r => r.on hk fun k hkk => ha k (List.mem_flatMap.2 ⟨c, hc, hkk⟩)⟩
  | tup l => exact h.elim
  | gd b x => exact h.elim

theorem RV2.on {x : AV} {y : Value} (h : RV2 g w x y) (hk : Kp g w g' w') (ha : ∀ k, k ∈ x.keys2 → g'.tg k = g.tg k ∧ g'.blk k = g.blk k ∧ g'.rv k = g.rv k) : RV2 g' w' x y := by
  cases x with
  | c x => exact RV1.on (x := .c x) h hk ha
  | agg cs => exact RV1.on (x := .agg cs) h hk ha
  | tup l =>
    obtain ⟨vs, e, hh⟩ := h
    exact ⟨vs, e, hh.imp fun c hc y r => r.on hk fun k hkk => ha k (List.mem_flatMap.2 ⟨c, hc, hkk⟩)⟩
  | gd b x => exact h.elim

theorem ObOK.on {k : Nat} {q : Obj} (h : ObOK g w k q) (hk : Kp g w g' w') (hw : w' = w) (hst : g'.st = g.st) (hh : g'.blk k = g.blk k ∧ g'.rv k = g.rv k) (ha : ∀ k, k ∈ q.keys → g'.tg k = g.tg k ∧ g'.blk k = g.blk k ∧ g'.rv k = g.rv k) : ObOK g' w' k q := by
  subst hw
  cases q with
  | box ty cs =>
    obtain ⟨vs, e, h1, h2⟩ := h
    exact ⟨vs, by rw [hh.1]; exact e, h1.imp fun c hc y r => r.on hk fun k' hk' => ha k' (List.mem_flatMap.2 ⟨c, hc, hk'⟩), by rw [hst, hh.1]; exact h2⟩
  | row ty sz bs es =>
    refine ⟨by rw [hh.2]; exact h.1.mono hk, fun p m c h1 h2 => ?_⟩
    rw [hh.2] at h1
    rw [hh.1, hst]
    exact h.2 p m c h1 h2
  | mrow ty sz bs es =>
    obtain ⟨arr, c, h1, h2, h3, h4, h5, h6, h7, h8⟩ := h
    refine ⟨arr, c, by rw [hh.1, hh.2]; exact h1, h2, by rw [hh.1]; exact h3, h4, h5, h6, fun i j l d p1 p2 => ?_, by rw [hst, hh.1]; exact h8⟩
    obtain ⟨x, q1, q2⟩ := h7 i j l d p1 p2
    exact ⟨x, q1, q2.mono hk⟩

theorem toD2_spec (hR : Rel I n σ g a w) {x : AV} {y : Value} (h : RV2 g w x y) : RV2 g w (toD2 σ x) y := by
  cases x with
  | c x =>
    intro hx
    by_cases e : x = .junk
    · subst e; simp [toD] at hx
    · exact toD_spec hR (h e)
  | agg cs => obtain ⟨vs, e, hh⟩ := h; exact ⟨vs, e, hh.map_left _ fun c v hcv => toD_spec hR hcv⟩
  | tup l => exact h
  | gd b x => exact h

/-- What a call leaves. -/
theorem call_step (hR : Rel I n σ g a w) {β : Bool} {fv : AV} {xs : List AV} {f : Nat} {k1 k2 : List (Nat × Nat)} {ins outs : Objs} {res : AV} {pur : List Nat} {v : Value} (hC : CallSem P σ β fv xs f k1 k2 ins outs res pur) (hp : Post g w ins g' w' res v outs) :
    ∃ g2, Step I σ g w pur (objsOf outs) g2 w' ∧ RV2 g2 w' res v := by
  let g2 : Gh := ⟨g'.st, fun k => if (outs.lookup k).isSome then g'.blk k else g.blk k, fun k => if (outs.lookup k).isSome then g'.rv k else g.rv k, fun k => if (outs.lookup k).isSome then g'.tg k else g.tg k⟩
  have hin : ∀ k, (outs.lookup k).isSome = true → g2.tg k = g'.tg k ∧ g2.blk k = g'.blk k ∧ g2.rv k = g'.rv k := fun k hk => by simp [g2, hk]
  have hno : ∀ k, outs.lookup k = none → g2.tg k = g.tg k ∧ g2.blk k = g.blk k ∧ g2.rv k = g.rv k := fun k hk => by simp [g2, hk]
  have hk2 : Kp g' w' g2 w' := ⟨fun ad h => ⟨h, rfl⟩⟩
  have hkp : Kp g w g2 w' := ⟨fun ad h => hp.kp.keep ad h⟩
  have lk : ∀ k q, (objsOf outs).lookup k = some q → ∃ t, outs.lookup k = some (t, q) := fun k q h => by
    rw [lookup_objsOf] at h
    obtain ⟨⟨t, q'⟩, h1, rfl⟩ := Option.map_eq_some_iff.1 h
    exact ⟨t, h1⟩
  have lkn : ∀ k, (objsOf outs).lookup k = none → outs.lookup k = none := fun k h => by
    rw [lookup_objsOf] at h
    cases hh : outs.lookup k with
    | none => rfl
    | some x => rw [hh] at h; cases h
  have hagree : ∀ k, k ∉ pur → g2.tg k = g.tg k ∧ g2.blk k = g.blk k ∧ g2.rv k = g.rv k := fun k hk => by
    cases hh : outs.lookup k with
    | none => exact hno k hh
    | some x =>
      obtain ⟨t, q⟩ := x
      rcases hC.co k t q hh with h | ⟨_, h1, q', h2⟩
      · exact absurd h.1 hk
      · have h3 := (hp.obs.ok k t q hh).1
        have h4 := hp.box k t (by rw [hR.tags]; exact h1.symm) ⟨q', h2⟩ ⟨q, hh⟩
        obtain ⟨e1, e2, e3⟩ := hin k (by rw [hh]; rfl)
        exact ⟨by rw [e1, h3, hR.tags]; exact h1, by rw [e2]; exact h4.1, by rw [e3]; exact h4.2⟩
  have hact : ∀ k q, (outs.lookup k).isSome = true → (Active g2 k q ↔ Active g' k q) := fun k q hk => by
    cases q with
    | row => simp only [Active]; rw [(hin k hk).2.2]
    | _ => exact Iff.rfl
  have hmine : ∀ b, mineOf g ins b → ∃ k q, σ.ob k = some q ∧ Active g k q ∧ g.blk k = b ∧ (outs.lookup k).isSome = true := fun b ⟨k, t, q, h1, h2, h3⟩ => ⟨k, q, (hC.ci k t q h1).1, h2, h3, (hC.ci k t q h1).2.2⟩
  have hnot : ∀ k q, σ.ob k = some q → Active g k q → outs.lookup k = none → ¬ mineOf g ins (g.blk k) := fun k q h1 h2 h3 h4 => by
    obtain ⟨k', q', e1, e2, e3, e4⟩ := hmine _ h4
    have := hR.sep k' k q' q e1 h1 e2 h2 e3
    subst this
    rw [h3] at e4; cases e4
  refine ⟨g2,
    { kp := hkp, agree := hagree, anew := fun k hk => ?_, puts := fun k q h => ?_, keep := fun k q h ha hl hk => ?_, sep := fun k q h ha k' q' h' ha' hl' hk' hbb => ?_, seps := fun k k' q q' h h' ha ha' hbb => ?_, loc := fun k q h ha => ?_,
      wok := hp.wok, os := hp.os, tape := hp.tape, out := hp.out, grow := hp.grow, frame := fun b hb hm => ?_ }, hp.res.on hk2 fun k hk => hin k (hC.kres k hk)⟩
  · obtain ⟨⟨t, q⟩, hh⟩ := Option.isSome_iff_exists.1 (hC.cp k hk)
    rcases hC.co k t q hh with ⟨_, h⟩ | ⟨h, _⟩
    · rw [(hin k (by rw [hh]; rfl)).1, (hp.obs.ok k t q hh).1, h, hR.tags]
    · exact absurd hk h
  · obtain ⟨t, hh⟩ := lk k q h
    have := hin k (by rw [hh]; rfl)
    exact (hp.obs.ok k t q hh).2.on hk2 rfl rfl this.2 fun k' hk' => hin k' (hC.kobs k t q hh k' hk')
  · have hl := lkn k hl
    have hb := act_lt (hR.obs k q h) ha
    have := hp.frame _ hb (hnot k q h ha hl)
    exact ⟨this.1, fun x hx => (this.2 x).1 hx⟩
  · obtain ⟨t, hh⟩ := lk k q h
    have hs : (outs.lookup k).isSome = true := by rw [hh]; rfl
    have hl' := lkn k' hl'
    have hb' := act_lt (hR.obs k' q' h') ha'
    rw [(hin k hs).2.1] at hbb
    rcases hp.loc k t q hh ((hact k q hs).1 ha) with h1 | h1
    · rw [← hbb] at h1; exact hnot k' q' h' ha' hl' h1
    · rw [← hbb] at h1; omega
  · obtain ⟨t, hh⟩ := lk k q h
    obtain ⟨t', hh'⟩ := lk k' q' h'
    have hs : (outs.lookup k).isSome = true := by rw [hh]; rfl
    have hs' : (outs.lookup k').isSome = true := by rw [hh']; rfl
    rw [(hin k hs).2.1, (hin k' hs').2.1] at hbb
    exact hp.obs.sep k k' t t' q q' hh hh' ((hact k q hs).1 ha) ((hact k' q' hs').1 ha') hbb
  · obtain ⟨t, hh⟩ := lk k q h
    have hs : (outs.lookup k).isSome = true := by rw [hh]; rfl
    rw [(hin k hs).2.1]
    rcases hp.loc k t q hh ((hact k q hs).1 ha) with h1 | h1
    · obtain ⟨k', q', e1, e2, e3, _⟩ := hmine _ h1
      rw [← e3]; exact hR.loc k' q' e1 e2
    · exact .inr (Nat.le_trans hR.grow h1)
  · have hb' : b < w.heap.size := Nat.lt_of_lt_of_le hb hR.grow
    refine hp.frame b hb' fun hmi => ?_
    obtain ⟨k', q', e1, e2, e3, _⟩ := hmine _ hmi
    rcases hR.loc k' q' e1 e2 with h | h
    · rw [e3] at h; exact hm h
    · rw [e3] at h; omega

end Go.Abs
