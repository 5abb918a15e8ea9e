/- THIS TEXT PROVES A PART OF A CALCULUS THAT TELLS WHAT A LOADED GO FUNCTION DOES WITHOUT NAMING MEMORY: each rule is proved against the machine, for every program and every world; its conditions stand in each theorem. -/
import Derived.Test.YtmnjbnkenfefaaaAbs1
set_option linter.unusedVariables false
set_option linter.unusedSimpArgs false
namespace Go.Abs

/-- What a step owes, beyond the value that it hands on. -/
structure Step (I : Init) (σ : St) (g : Gh) (w : World) (pur : List Nat) (put : List (Nat × Obj)) (g' : Gh) (w' : World) : Prop where
  kp : Kp g w g' w'
  agree : ∀ k, k ∉ pur → g'.tg k = g.tg k ∧ g'.blk k = g.blk k ∧ g'.rv k = g.rv k
  anew : ∀ k, k ∈ pur → g'.tg k = g.tg k + 1
  puts : ∀ k o, put.lookup k = some o → ObOK g' w' k o
  keep : ∀ k o, σ.ob k = some o → Active g k o → put.lookup k = none → k ∉ pur → w'.heap[g.blk k]? = w.heap[g.blk k]? ∧ ∀ x, g'.st (g.blk k) x → g.st (g.blk k) x
  sep : ∀ k o, put.lookup k = some o → Active g' k o → ∀ k' o', σ.ob k' = some o' → Active g k' o' → put.lookup k' = none → k' ∉ pur → g.blk k' ≠ g'.blk k
  seps : ∀ k k' o o', put.lookup k = some o → put.lookup k' = some o' → Active g' k o → Active g' k' o' → g'.blk k = g'.blk k' → k = k'
  loc : ∀ k o, put.lookup k = some o → Active g' k o → I.mine (g'.blk k) ∨ I.w0.heap.size ≤ g'.blk k
  wok : ∀ b o, g'.st b o → b < w'.heap.size
  os : w'.os = w.os
  tape : w'.tape = w.tape
  out : w'.output = w.output
  grow : w.heap.size ≤ w'.heap.size
  frame : ∀ b, b < I.w0.heap.size → ¬ I.mine b → w'.heap[b]? = w.heap[b]? ∧ ∀ o, g'.st b o ↔ g.st b o

theorem Step.ghLe {I : Init} {σ : St} {g g' : Gh} {w w' : World} {pur : List Nat} {put : List (Nat × Obj)} (h : Step I σ g w pur put g' w') : g.Le g' := ⟨fun k => by
  by_cases hk : k ∈ pur
  · exact .inl (by have := h.anew k hk; omega)
  · exact .inr (h.agree k hk)⟩

theorem obAfter_some {pur : List Nat} {put : List (Nat × Obj)} {ob : Nat → Option Obj} {k : Nat} {o : Obj} (h : obAfter pur put ob k = some o) :
    put.lookup k = some o ∨ (put.lookup k = none ∧ k ∉ pur ∧ ob k = some o) := by
  unfold obAfter at h
  cases e : put.lookup k with
  | some o' => rw [e] at h; exact .inl h
  | none =>
    rw [e] at h
    simp only at h
    split at h
    · cases h
    · rename_i hn
      exact .inr ⟨rfl, by simpa using hn, h⟩

theorem Act.getD_put {a : Act} {d : Nat} {v : Value} (h : d < a.tmps.size) (s : Nat) : (a.put (some d) v).tmps.getD s undef = if s = d then v else a.tmps.getD s undef := by
  simp only [Act.put]
  by_cases e : s = d
  · subst e; simp [Array.getD, h]
  · rw [if_neg e]
    simp only [Array.getD_eq_getD_getElem?]
    rw [Array.getElem?_setIfInBounds_ne (by omega)]

theorem Rel.step {I : Init} {n : Nat} {σ : St} {g g' : Gh} {a : Act} {w w' : World} {dst : Option Nat} {e : Eff} {v : Value} (hR : Rel I n σ g a w) (hd : ∀ d, dst = some d → d < n)
    (hs : Step I σ g w e.pur e.put g' w') (hv : RV g' w' e.val v) : Rel I n (σ.ap dst e) g' (a.put dst v) w' := by
  have hle := hs.ghLe
  have hold : ∀ s, RV g' w' (σ.sl s) (a.tmps.getD s undef) := fun s => (hR.slots s).mono hs.kp hle
  have hact : ∀ k o, k ∉ e.pur → (Active g' k o ↔ Active g k o) := fun k o hk => by
    cases o with
    | row => simp only [Active]; rw [(hs.agree k hk).2.2]
    | _ => exact Iff.rfl
  refine
    { size := ?_, tags := ?_, slots := ?_, defs := ?_, obs := ?_, sep := ?_, wok := hs.wok, os := hs.os.trans hR.os, tape := hs.tape.trans hR.tape, out := hs.out.trans hR.out,
      grow := Nat.le_trans hR.grow hs.grow, frame := ?_, kp := hR.kp.trans hs.kp, le := hR.le.trans hle, loc := ?_ }
  · cases dst <;> simp [Act.put, hR.size]
  · intro k
    simp only [St.ap]
    by_cases hk : k ∈ e.pur
    · rw [if_pos (by simpa using hk), hs.anew k hk, hR.tags]
    · rw [if_neg (by simpa using hk), (hs.agree k hk).1, hR.tags]
  · intro s
    cases dst with
    | none => exact hold s
    | some d =>
      rw [Act.getD_put (by rw [hR.size]; exact hd d rfl)]
      simp only [St.ap, upd]
      by_cases es : s = d
      · rw [if_pos es, if_pos es]; exact hv
      · rw [if_neg es, if_neg es]; exact hold s
  · cases dst <;> exact hR.defs
  · intro k o ho
    rcases obAfter_some ho with h | ⟨h1, h2, h3⟩
    · exact hs.puts k o h
    · exact ObOK.mono (g := g) (w := w) hs.kp hle (hs.agree k h2).1 (fun ha => hs.keep k o h3 ha h1 h2) (hR.obs k o h3)
  · intro k k' o o' ho ho' ha ha' hb
    rcases obAfter_some ho with h | ⟨h1, h2, h3⟩ <;> rcases obAfter_some ho' with h' | ⟨h1', h2', h3'⟩
    · exact hs.seps k k' o o' h h' ha ha' hb
    · have ha' := (hact k' o' h2').1 ha'
      exact absurd (by rw [← (hs.agree k' h2').2.1]; exact hb.symm) (hs.sep k o h ha k' o' h3' ha' h1' h2')
    · have ha := (hact k o h2).1 ha
      exact absurd (by rw [← (hs.agree k h2).2.1]; exact hb) (hs.sep k' o' h' ha' k o h3 ha h1 h2)
    · have ha := (hact k o h2).1 ha
      have ha' := (hact k' o' h2').1 ha'
      exact hR.sep k k' o o' h3 h3' ha ha' (by rw [← (hs.agree k h2).2.1, ← (hs.agree k' h2').2.1]; exact hb)
  · intro b hb hm
    have h1 := hs.frame b hb hm
    have h2 := hR.frame b hb hm
    exact ⟨h1.1.trans h2.1, fun o => (h1.2 o).trans (h2.2 o)⟩
  · intro k o ho ha
    rcases obAfter_some ho with h | ⟨h1, h2, h3⟩
    · exact hs.loc k o h ha
    · rw [(hs.agree k h2).2.1]
      exact hR.loc k o h3 ((hact k o h2).1 ha)

/-- Nothing is done to memory. -/
theorem Step.quiet {I : Init} {σ : St} {g : Gh} {w : World} (hw : ∀ b o, g.st b o → b < w.heap.size) : Step I σ g w [] [] g w where
  kp := Kp.refl g w
  agree _ _ := ⟨rfl, rfl, rfl⟩
  anew k h := by simp at h
  puts k o h := by simp at h
  keep _ _ _ _ _ _ := ⟨rfl, fun _ h => h⟩
  sep k o h := by simp at h
  seps k k' o o' h := by simp at h
  loc k o h := by simp at h
  wok := hw
  os := rfl
  tape := rfl
  out := rfl
  grow := Nat.le_refl _
  frame _ _ _ := ⟨rfl, fun _ => Iff.rfl⟩

/-- Orders are drawn. -/
theorem Rel.drew {I : Init} {n : Nat} {σ : St} {g : Gh} {a : Act} {w : World} (hR : Rel I n σ g a w) (m : Nat) : Rel I n σ g a { w with drawn := m } := by
  have hk : Kp g w g { w with drawn := m } := ⟨fun a h => ⟨h, rfl⟩⟩
  exact
    { size := hR.size, tags := hR.tags, slots := fun s => (hR.slots s).mono hk (Gh.Le.refl g), defs := hR.defs, obs := fun k o h => (hR.obs k o h).mono hk (Gh.Le.refl g) rfl (fun _ => ⟨rfl, fun _ h => h⟩), sep := hR.sep, wok := hR.wok,
      os := hR.os, tape := hR.tape, out := hR.out, grow := hR.grow, frame := hR.frame, kp := hR.kp.trans hk, le := hR.le, loc := hR.loc }

end Go.Abs
