/- THIS TEXT PROVES A PART OF A CALCULUS THAT TELLS WHAT A LOADED GO FUNCTION DOES WITHOUT NAMING MEMORY: each rule is proved against the machine, for every program and every world; its conditions stand in each theorem. -/
import Derived.Test.YtmnjbnkenfefaaaAbs8
import Derived.Laws.Rows
set_option linter.unusedVariables false
set_option linter.unusedSimpArgs false
namespace Go.Abs

variable {P : Program} {I : Init} {n : Nat} {σ : St} {g g' : Gh} {a : Act} {w : World} {o : Oper} {e : Eff} {key : Nat}

theorem act_lt {k : Nat} {q : Obj} (h : ObOK g w k q) (ha : Active g k q) : g.blk k < w.heap.size := by
  have aux : ∀ x, w.heap[g.blk k]? = some x → g.blk k < w.heap.size := fun x hx => (Array.getElem?_eq_some_iff.1 hx).1
  cases q with
  | box ty cs => obtain ⟨vs, h1, _⟩ := h; exact aux _ h1
  | row ty sz bs es =>
    obtain ⟨p, m, c, h1, h2⟩ := ha
    obtain ⟨_, ⟨arr, h3, _⟩, _⟩ := h.2 p m c h1 h2
    exact aux _ h3
  | mrow ty sz bs es => obtain ⟨arr, c, _, _, h3, _⟩ := h; exact aux _ h3

theorem heap_old (x : Go.Obj) {b : Nat} (h : b < w.heap.size) : (w.alloc x).heap[b]? = w.heap[b]? := Go.RowKit.Below.heap_alloc w x b h
theorem heap_new (x : Go.Obj) : (w.alloc x).heap[w.heap.size]? = some x := Go.heap_alloc_new w x
theorem size_alloc (x : Go.Obj) : (w.alloc x).heap.size = w.heap.size + 1 := by show (w.heap.push x).size = _; simp

theorem Kp_alloc (x : Go.Obj) (hw : ∀ b q, g.st b q → b < w.heap.size) (hs : ∀ b q, g.st b q → g'.st b q) : Kp g w g' (w.alloc x) :=
  ⟨fun ad h => ⟨hs _ _ h, World.cell?_of_block (heap_old x (hw _ _ h))⟩⟩

/-- A new block: at most one object is new. -/
theorem Step.alloc (hR : Rel I n σ g a w) (x : Go.Obj) {S : Nat → Prop} {pur : List Nat} {put : List (Nat × Obj)} (hst : ∀ b q, g'.st b q ↔ g.st b q ∨ (b = w.heap.size ∧ S q))
    (hag : ∀ k, k ∉ pur → g'.tg k = g.tg k ∧ g'.blk k = g.blk k ∧ g'.rv k = g.rv k) (hanew : ∀ k, k ∈ pur → g'.tg k = g.tg k + 1) (hput : put = [] ∨ ∃ q, put = [(key, q)] ∧ ObOK g' (w.alloc x) key q ∧ (Active g' key q → g'.blk key = w.heap.size)) :
    Step I σ g w pur put g' (w.alloc x) := by
  have hk : Kp g w g' (w.alloc x) := Kp_alloc x hR.wok fun b q h => (hst b q).2 (.inl h)
  have one : ∀ k q, put.lookup k = some q → k = key ∧ ObOK g' (w.alloc x) key q ∧ (Active g' key q → g'.blk key = w.heap.size) := fun k q h => by
    rcases hput with rfl | ⟨q', rfl, h1, h2⟩
    · simp at h
    · simp only [List.lookup_cons] at h
      split at h
      · rename_i hkk; cases h; exact ⟨by simpa using hkk, h1, h2⟩
      · simp at h
  refine
    { kp := hk, agree := hag, anew := hanew, puts := fun k q h => ?_, keep := fun k q h ha _ _ => ⟨heap_old x (act_lt (hR.obs k q h) ha), fun y hy => ?_⟩, sep := fun k q h ha k' q' h' ha' _ _ => ?_, seps := fun k k' q q' h h' _ _ _ => ?_,
      loc := fun k q h ha => ?_, wok := fun b q h => ?_, os := rfl, tape := rfl, out := rfl, grow := by rw [size_alloc]; omega, frame := fun b hb hm => ⟨heap_old x (Nat.lt_of_lt_of_le hb hR.grow), fun y => ?_⟩ }
  · obtain ⟨rfl, h1, _⟩ := one k q h; exact h1
  · rcases (hst _ _).1 hy with h' | ⟨h', _⟩
    · exact h'
    · exact absurd h' (Nat.ne_of_lt (act_lt (hR.obs k q h) ha))
  · obtain ⟨rfl, _, h2⟩ := one k q h
    rw [h2 ha]
    exact Nat.ne_of_lt (act_lt (hR.obs k' q' h') ha')
  · exact (one k q h).1.trans (one k' q' h').1.symm
  · obtain ⟨rfl, _, h2⟩ := one k q h
    rw [h2 ha]
    exact .inr hR.grow
  · rw [size_alloc]
    rcases (hst _ _).1 h with h' | ⟨h', _⟩
    · have := hR.wok _ _ h'; omega
    · omega
  · rw [hst]
    constructor
    · intro h
      rcases h with h | ⟨h, _⟩
      · exact h
      · have := hR.grow; omega
    · exact .inl

def Gh.at (g : Gh) (key b : Nat) (v : Value) (st : Nat → Nat → Prop) (pur : List Nat) : Gh := ⟨st, fun k => if k = key then b else g.blk k, fun k => if k = key then v else g.rv k, fun k => if pur.contains k then g.tg k + 1 else g.tg k⟩
theorem Gh.at_agree (g : Gh) (key b : Nat) (v : Value) (st : Nat → Nat → Prop) {pur : List Nat} (h : key ∈ pur) : ∀ k, k ∉ pur → (g.at key b v st pur).tg k = g.tg k ∧ (g.at key b v st pur).blk k = g.blk k ∧ (g.at key b v st pur).rv k = g.rv k := fun k hk => by
  have : k ≠ key := fun e => hk (e ▸ h)
  simp [Gh.at, this, hk]
theorem Gh.at_anew (g : Gh) (key b : Nat) (v : Value) (st : Nat → Nat → Prop) {pur : List Nat} : ∀ k, k ∈ pur → (g.at key b v st pur).tg k = g.tg k + 1 := fun k hk => by simp [Gh.at, hk]
theorem Gh.at_le (g : Gh) (key b : Nat) (v : Value) (st : Nat → Nat → Prop) {pur : List Nat} (h : key ∈ pur) : g.Le (g.at key b v st pur) := ⟨fun k => by
  by_cases hk : k ∈ pur
  · exact .inl (by rw [g.at_anew key b v st k hk]; omega)
  · exact .inr (g.at_agree key b v st h k hk)⟩
theorem Gh.at_key (g : Gh) (key b : Nat) (v : Value) (st : Nat → Nat → Prop) {pur : List Nat} (h : key ∈ pur) : (g.at key b v st pur).tg key = g.tg key + 1 ∧ (g.at key b v st pur).blk key = b ∧ (g.at key b v st pur).rv key = v := by simp [Gh.at, h]

/-- A box is laid. -/
theorem does_box (hR : Rel I n σ g a w) {ty : Nat} {cs : List Cell} {l : List Nat} {vs : Array Value} (hv : All2 (RC g w) cs vs.toList) (hr : (execOp a.eval o).run P w = .ok (.value (.pointer (some ⟨w.heap.size, 0, none⟩))) (w.alloc (.cells vs ty)))
    (he : e = ⟨.c (.ref key (σ.tg key + 1) 0), [key], [(key, .box ty cs)], l⟩) : Does P I σ g a w o e := by
  subst he
  obtain ⟨k1, k2, k3⟩ := g.at_key key w.heap.size undef g.st (pur := [key]) (by simp)
  refine ⟨_, g.at key w.heap.size undef g.st [key], _, .inl hr, ?_, fun _ => ⟨rfl, by rw [k1, hR.tags]; exact Nat.le_refl _, fun _ => by simp [ptr, k2]⟩⟩
  refine Step.alloc (key := key) hR _ (S := fun _ => False) (fun b q => by simp [Gh.at]) (g.at_agree _ _ _ _ (by simp)) (g.at_anew _ _ _ _) (.inr ⟨_, rfl, ?_, fun _ => k2⟩)
  refine ⟨vs, by rw [k2]; exact heap_new _, RC.monos (g' := g.at key w.heap.size undef g.st [key]) (Kp_alloc _ hR.wok fun _ _ h => h) (g.at_le _ _ _ _ (by simp)) hv, fun q hq => ?_⟩
  rw [k2] at hq
  have := hR.wok _ _ hq
  omega

theorem s_box (hR : Rel I n σ g a w) {x : Operand} {y : SArg} {t : Nat} (ho : o.op = .box t x) (hx : okA x y = true) (he : ev1 key σ.ev σ (.box t y) = some e) (hc : cond true σ.ev σ (.box t y)) : Does P I σ g a w o e := by
  have v1 := opd hR hx hc
  simp only [ev1] at he
  split at he
  · rename_i cs ec
    cases he
    exact does_box hR (cellsOf_spec v1 ec) (by simp [execOp, ho, Instr.box, newVar, newRow]) rfl
  · cases he

theorem s_alloc (hR : Rel I n σ g a w) {t : Nat} {zs : List Cell} (ho : o.op = .alloc t) (hz : zeroOK P t zs = true) (he : ev1 key σ.ev σ (.alloc t zs) = some e) : Does P I σ g a w o e := by
  obtain ⟨z, z1, z2⟩ := zeroOK_spec hz
  simp only [ev1, Option.some.injEq] at he
  refine does_box (key := key) (vs := z.cells) (ty := t) (cs := zs) hR (z2 g w) (by simp [execOp, ho, Instr.alloc, newVar, newRow, z1]) he.symm

/-! ### literals -/
theorem litEs_spec (hR : Rel I n σ g a w) : ∀ {xs : List Operand} {ys : List SArg} {es : List (List Cell)}, All2 (fun x y => okA x y = true) xs ys → (∀ y, y ∈ ys → gok true (σ.ev y)) → litEs σ (ys.map σ.ev) = some es →
    All2 (fun l v => All2 (RC g w) l v.cells.toList) es (xs.map a.eval)
  | [], [], es, _, _, h => by simp [litEs] at h; subst h; trivial
  | x :: xs, y :: ys, es, h, hg, hk => by
    simp only [List.map_cons, litEs] at hk
    split at hk
    · rename_i cs l e1 e2
      cases hk
      have v1 := opd hR h.1 (hg y (by simp))
      exact ⟨(cellsOf_spec v1 e1).map_left _ fun c v hcv => toD_spec hR hcv, litEs_spec hR h.2 (fun y hy => hg y (by simp [hy])) e2⟩
    · cases hk
  | [], _ :: _, _, h, _, _ => h.elim
  | _ :: _, [], _, h, _, _ => h.elim

/-- Elements that lie side by side, from a block's first cell on. -/
theorem RD_flat {sz bs b c : Nat} {es : List (List Cell)} {arr : List Value} (hc : es.length ≤ c) (hb : es.length * bs ≤ room) (hs : ∀ l, l ∈ es → l.length = sz)
    (h : ∀ i j l d, es[i]? = some l → l[j]? = some d → ∃ x, arr[i * sz + j]? = some x ∧ Lies g w ⟨b, i * sz + j, none⟩ x ∧ RD g w d x) : RD g w (.sl sz bs es) (.slice (some ⟨b, 0, none⟩) es.length c) := by
  refine .sl sz bs es (some ⟨b, 0, none⟩) c (fun i j => arr.getD (i * sz + j) undef) hc hb hs (fun i j l d h1 h2 => ?_) (fun i j l d h1 h2 => ?_)
  · obtain ⟨x, e1, e2, _⟩ := h i j l d h1 h2
    refine ⟨_, rfl, ?_⟩
    rw [add_blk, Nat.zero_add, List.getD_eq_getElem?_getD, e1]
    exact e2
  · obtain ⟨x, e1, _, e3⟩ := h i j l d h1 h2
    rw [List.getD_eq_getElem?_getD, e1]
    exact e3

theorem flat_at {sz : Nat} : ∀ {es : List (List Cell)} {vs : List Value}, All2 (fun l v => All2 (RC g w) l v.cells.toList) es vs → (∀ l, l ∈ es → l.length = sz) → ∀ i j l d, es[i]? = some l → l[j]? = some d →
    ∃ x, (vs.flatMap fun v => v.cells.toList)[i * sz + j]? = some x ∧ RC g w d x
  | [], [], _, _, i, j, l, d, h, _ => by simp at h
  | l0 :: es, v :: vs, h, hs, 0, j, l, d, h1, h2 => by
    simp at h1; subst h1
    obtain ⟨x, e1, e2⟩ := h.1.get j d h2
    refine ⟨x, ?_, e2⟩
    rw [List.flatMap_cons, Nat.zero_mul, Nat.zero_add, List.getElem?_append_left (List.getElem?_eq_some_iff.1 e1).1]
    exact e1
  | l0 :: es, v :: vs, h, hs, i + 1, j, l, d, h1, h2 => by
    obtain ⟨x, e1, e2⟩ := flat_at h.2 (fun l hl => hs l (by simp [hl])) i j l d (by simpa using h1) h2
    refine ⟨x, ?_, e2⟩
    have hl : v.cells.toList.length = sz := h.1.length.symm.trans (hs l0 (by simp))
    rw [List.flatMap_cons, List.getElem?_append_right (by rw [hl]; simp [Nat.add_mul]; omega), hl]
    rw [show (i + 1) * sz + j - sz = i * sz + j by simp [Nat.add_mul]; omega]
    exact e1
  | [], _ :: _, h, _, _, _, _, _, _, _ => h.elim
  | _ :: _, [], h, _, _, _, _, _, _, _ => h.elim

def okLit : Nat → List (Nat × Operand) → List SArg → Bool
  | _, [], [] => true
  | i, (j, x) :: r, y :: s => decide (i = j) && okA x y && okLit (i + 1) r s
  | _, _, _ => false
theorem okLit_spec : ∀ {i : Nat} {ps : List (Nat × Operand)} {ys : List SArg}, okLit i ps ys = true → ps = ((ps.map (·.2)).zipIdx i).map (fun x => (x.2, x.1)) ∧ All2 (fun x y => okA x y = true) (ps.map (·.2)) ys
  | _, [], [], _ => ⟨rfl, trivial⟩
  | i, (j, x) :: r, y :: s, h => by
    simp only [okLit, Bool.and_eq_true, decide_eq_true_eq] at h
    obtain ⟨⟨rfl, h1⟩, h2⟩ := h
    obtain ⟨e1, e2⟩ := okLit_spec h2
    exact ⟨by simp only [List.map_cons, List.zipIdx_cons]; rw [← e1], h1, e2⟩
  | _, [], _ :: _, h => by simp [okLit] at h
  | _, _ :: _, [], h => by simp [okLit] at h

theorem s_lit (hR : Rel I n σ g a w) {t ty sz bs len : Nat} {ps : Array (Nat × Operand)} {ys : List SArg} (ho : o.op = .buildSlice t len ps) (ht : elemT P t = some ty) (hsz : szT P ty = some sz) (hs0 : 0 < sz) (hlen : len = ys.length) (hz : ∃ z, ∀ w : World, (zeroValue ty).run P w = .ok z w)
    (hp : okLit 0 ps.toList ys = true) (he : ev1 key σ.ev σ (.lit ty sz bs ys) = some e) (hc : cond true σ.ev σ (.lit ty sz bs ys)) : Does P I σ g a w o e := by
  obtain ⟨z, z1⟩ := hz
  obtain ⟨p1, p2⟩ := okLit_spec hp
  simp only [ev1] at he
  split at he
  · rename_i es el
    cases he
    have hes := litEs_spec hR p2 hc.1 el
    obtain ⟨c1, c2⟩ := hc.2 es el
    obtain ⟨c2, c3⟩ := c2 rfl
    have hl1 : es.length = ys.length := by
      have := hes.length; have := p2.length; simp at *; omega
    have hvs : ∀ v, v ∈ (ps.toList.map (·.2)).map a.eval → v.cells.size = sz := fun v hv => by
      obtain ⟨i, hi, rfl⟩ := List.getElem_of_mem hv
      obtain ⟨l, hl⟩ : ∃ l, es[i]? = some l := ⟨es[i]'(by have := hes.length; omega), List.getElem?_eq_getElem _⟩
      obtain ⟨v', e1, e2⟩ := hes.get i l hl
      rw [List.getElem?_eq_getElem hi] at e1
      cases e1
      have := e2.length
      simp at this
      have h2 := (c1 l (List.mem_of_getElem? hl)).1
      simp
      omega
    let cells : Array Value := (((ps.toList.map (·.2)).map a.eval).flatMap fun v => v.cells.toList).toArray
    have hrun : (execOp a.eval o).run P w = .ok (.value (.slice (some ⟨w.heap.size, 0, none⟩) es.length es.length)) (w.alloc (.cells cells ty)) := by
      have hfill := Great.fill_whole hs0 ((ps.toList.map (·.2)).map a.eval) ((Array.range (len * sz)).map (fun x => (if len * sz = 0 then (#[] : Array Value) else z.cells)[x % (if len * sz = 0 then (#[] : Array Value) else z.cells).size]!)) hvs (by
        have := p2.length
        simp at this ⊢
        rw [this, hlen])
      have e1 : (ps.map fun (x : Nat × Operand) => (x.1, a.eval x.2)).toList = ((((ps.toList.map (·.2)).map a.eval)).zipIdx 0).map (fun x => (x.2, x.1)) := by
        simp only [Array.toList_map]
        conv => lhs; rw [p1]
        simp [List.zipIdx_map, Function.comp_def]
      have hroom : ¬ (len * sz > 2 ^ 24) := by rw [hlen, ← hl1]; omega
      simp only [execOp, ho, Instr.buildSlice, Sem.run_bind, run_underlying (elemT_spec ht), Result.andThen_ok, run_sz hsz, hroom, if_false]
      by_cases h0 : len * sz = 0
      · rw [if_pos h0]
        simp only [h0, if_true] at hfill
        rw [Sem.run_bind, Sem.run_pure, Result.andThen_ok, e1, h0, hfill]
        simp [newRow, hlen, hl1, cells]
      · rw [if_neg h0]
        simp only [h0, if_false] at hfill
        simp only [Sem.run_bind, z1, Sem.run_pure, Result.andThen_ok]
        rw [e1, hfill]
        simp [newRow, hlen, hl1, cells]
    refine ⟨_, ⟨fun b q => g.st b q ∨ (b = w.heap.size ∧ True), g.blk, g.rv, g.tg⟩, _, .inl hrun, Step.alloc (key := key) hR _ (pur := []) (S := fun _ => True) (fun b q => Iff.rfl) (fun k _ => ⟨rfl, rfl, rfl⟩) (fun k h => by simp at h) (.inl rfl), fun _ => ⟨?_, _, rfl⟩⟩
    refine RD_flat (arr := cells.toList) (Nat.le_refl _) c2 (fun l hl => (c1 l hl).1) fun i j l d h1 h2 => ?_
    obtain ⟨x, f1, f2⟩ := flat_at hes (fun l hl => (c1 l hl).1) i j l d h1 h2
    have hd : d.isD = true := (List.all_eq_true.1 (c1 l (List.mem_of_getElem? h1)).2) d (List.mem_of_getElem? h2)
    refine ⟨x, f1, ⟨.inr ⟨rfl, trivial⟩, ?_⟩, (isD_spec f2 hd).mono (Kp_alloc _ hR.wok fun b q h => Or.inl h)⟩
    rw [cell_blk (heap_new _)]
    simpa [cells] using f1
  · cases he

end Go.Abs
