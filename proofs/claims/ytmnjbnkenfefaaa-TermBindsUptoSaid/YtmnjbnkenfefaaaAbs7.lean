/- THIS TEXT PROVES A PART OF A CALCULUS THAT TELLS WHAT A LOADED GO FUNCTION DOES WITHOUT NAMING MEMORY: each rule is proved against the machine, for every program and every world; its conditions stand in each theorem. -/
import Derived.Test.YtmnjbnkenfefaaaAbs6
set_option linter.unusedVariables false
set_option linter.unusedSimpArgs false
namespace Go.Abs

variable {P : Program} {I : Init} {n : Nat} {σ : St} {g : Gh} {a : Act} {w : World} {o : Oper} {e : Eff} {key : Nat}

theorem list_choose {α : Type} {p : Nat → α → Prop} : ∀ m : Nat, (∀ i, i < m → ∃ x, p i x) → ∃ l : List α, l.length = m ∧ ∀ i x, l[i]? = some x → p i x
  | 0, _ => ⟨[], rfl, by simp⟩
  | m + 1, h => by
    obtain ⟨l, h1, h2⟩ := list_choose m fun i hi => h i (by omega)
    obtain ⟨x, hx⟩ := h m (by omega)
    refine ⟨l ++ [x], by simp [h1], fun i y hy => ?_⟩
    by_cases hi : i < l.length
    · rw [List.getElem?_append_left hi] at hy; exact h2 i y hy
    · rw [List.getElem?_append_right (by omega)] at hy
      have : i - l.length = 0 := by
        rcases Nat.eq_zero_or_pos (i - l.length) with h0 | h0
        · exact h0
        · rw [List.getElem?_eq_none (by simp; omega)] at hy; cases hy
      rw [this] at hy
      simp at hy
      subst hy
      have : i = m := by omega
      subst this
      exact hx

theorem RD.rc {c : Cell} {v : Value} (h : RD g w c v) : RC g w c v := by
  cases c <;> first
    | exact h
    | cases h

theorem add_blk (b q j : Nat) : (⟨b, q, none⟩ : Addr).add j = ⟨b, q + j, none⟩ := by unfold Addr.add; split <;> simp_all

theorem cell_blk {b ty : Nat} {vs : Array Value} {fr : Nat × Nat} (h : w.heap[b]? = some (.cells vs ty fr)) (q : Nat) : w.cell? ⟨b, q, none⟩ = vs[q]? := by
  simp [World.cell?, h]

/-- A load of one cell, of several cells, where it is told what lies there. -/
theorem run_load1 {t : TypeId} {ad : Addr} {v : Value} (ht : aggT P t = some false) (h : w.cell? ad = some v) : (Instr.loadAt t (.pointer (some ad))).run P w = .ok v w := by
  simp [Instr.loadAt, Instr.sureAddr, loadVar, run_agg ht, h]
theorem run_loadn {t m : TypeId} {ad : Addr} {vs : List Value} (ht : aggT P t = some true) (hm : szT P t = some m) (hl : vs.length = m) (h : ∀ j v, vs[j]? = some v → w.cell? (ad.add j) = some v) :
    (Instr.loadAt t (.pointer (some ad))).run P w = .ok (.agg vs.toArray) w := by
  have := run_loadCells_list (P := P) w ad vs h
  simp [Instr.loadAt, Instr.sureAddr, loadVar, run_agg ht, run_sz hm, ← hl, this]

theorem agg_take {vs : List Value} {cs : List Cell} {j m : Nat} (h : All2 (RC g w) cs vs) : RV2 g w (.agg ((cs.drop j).take m)) (.agg ((vs.drop j).take m).toArray) :=
  ⟨_, rfl, by simpa using (h.drop j).take m⟩

theorem loadAt_spec (hR : Rel I n σ g a w) {one : Bool} {m t : Nat} {x : AV} {y : Value} (hy : RV2 g w x y) (h : loadAt σ one m x = some e) (ht : aggT P t = some (!one)) (hm : one = false → szT P t = some m) :
    e.pur = [] ∧ e.put = [] ∧ ∃ v, (Instr.loadAt t y).run P w = .ok v w ∧ RV2 g w e.val v := by
  unfold loadAt at h
  split at h
  · rename_i k t1 off
    split at h
    case isFalse => cases h
    rename_i htg
    have e1 := (hy (by simp)).2.2 (by rw [hR.tags]; exact htg)
    simp only [ptr] at e1
    subst e1
    split at h
    · rename_i ty cs eo
      obtain ⟨vs, h1, h2, h3⟩ := hR.obs k _ eo
      split at h
      · rename_i hone
        split at h
        · rename_i c ec
          cases h
          obtain ⟨v, ev, hv⟩ := h2.get _ _ ec
          refine ⟨rfl, rfl, v, run_load1 (by rw [ht, hone]; rfl) ?_, fun _ => hv⟩
          rw [cell_blk h1]; simpa using ev
        · cases h
      · rename_i hone
        split at h
        · rename_i hle
          cases h
          have hone : one = false := by simpa using hone
          refine ⟨rfl, rfl, _, run_loadn (vs := (vs.toList.drop off).take m) (by rw [ht, hone]; rfl) (hm hone) ?_ ?_, agg_take h2⟩
          · have := h2.length; simp at this ⊢; omega
          · intro j v hv
            rw [add_blk, cell_blk h1]
            rw [List.getElem?_take] at hv
            split at hv
            · rw [List.getElem?_drop] at hv; simpa using hv
            · cases hv
        · cases h
    · cases h
  · rename_i cs j
    obtain ⟨ad, rfl, hh⟩ := hy (by simp)
    split at h
    · rename_i hone
      split at h
      · rename_i c ec
        cases h
        obtain ⟨v, hl, hv⟩ := hh 0 c (by simpa using ec)
        refine ⟨rfl, rfl, v, run_load1 (by rw [ht, hone]; rfl) ?_, fun _ => ?_⟩
        · have := hl.2; simpa [Addr.add] using this
        · exact hv.rc
      · cases h
    · rename_i hone
      split at h
      · rename_i hle
        cases h
        have hone : one = false := by simpa using hone
        obtain ⟨vs, hl, hv⟩ := list_choose (p := fun i x => Lies g w (ad.add i) x ∧ ∀ d, cs[j + i]? = some d → RD g w d x) m fun i hi => by
          obtain ⟨x, h1, h2⟩ := hh i (cs[j + i]'(by omega)) (by simp [show j + i < cs.length by omega])
          refine ⟨x, h1, fun d hd => ?_⟩
          have : d = cs[j + i]'(by omega) := by rw [List.getElem?_eq_getElem (by omega)] at hd; cases hd; rfl
          rw [this]; exact h2
        refine ⟨rfl, rfl, .agg vs.toArray, run_loadn (by rw [ht, hone]; rfl) (hm hone) hl fun i v hiv => (hv i v hiv).1.2, ⟨_, rfl, ?_⟩⟩
        refine All2.mk (by simp [hl]; omega) fun i c v hc hv' => ?_
        have := (hv i v (by simpa using hv')).2 c (by
          rw [List.getElem?_take] at hc
          split at hc
          · rwa [List.getElem?_drop] at hc
          · cases hc)
        exact this.rc
      · cases h
  · rename_i k t1 sz i j
    split at h
    case isFalse => cases h
    rename_i htg
    have e1 := (hy (by simp)).2.2 (by rw [hR.tags]; exact htg)
    simp only [ptr] at e1
    subst e1
    split at h
    · rename_i ty sz' bs es eo
      obtain ⟨arr, c, h1, h2, h3, h4, h5, h6, h7, h8⟩ := hR.obs k _ eo
      split at h
      · rename_i hsz
        subst hsz
        split at h
        · rename_i cs ecs
          have hcs := h6 cs (List.mem_of_getElem? ecs)
          split at h
          · rename_i hone
            split at h
            · rename_i c ec
              cases h
              obtain ⟨v, ev, hv⟩ := h7 _ _ _ _ ecs ec
              refine ⟨rfl, rfl, v, run_load1 (by rw [ht, hone]; rfl) ?_, fun _ => ?_⟩
              · rw [cell_blk h3]; exact ev
              · exact hv.rc
            · cases h
          · rename_i hone
            split at h
            · rename_i hle
              cases h
              have hone : one = false := by simpa using hone
              obtain ⟨vs, hl, hv⟩ := list_choose (p := fun q x => arr[i * sz + j + q]? = some x ∧ ∀ d, cs[j + q]? = some d → RD g w d x) m fun q hi => by
                obtain ⟨x, h1, h2⟩ := h7 i (j + q) cs (cs[j + q]'(by omega)) ecs (by simp [show j + q < cs.length by omega])
                refine ⟨x, by rw [Nat.add_assoc]; exact h1, fun d hd => ?_⟩
                have : d = cs[j + q]'(by omega) := by rw [List.getElem?_eq_getElem (by omega)] at hd; cases hd; rfl
                rw [this]; exact h2
              refine ⟨rfl, rfl, .agg vs.toArray, run_loadn (by rw [ht, hone]; rfl) (hm hone) hl fun q v hiv => ?_, ⟨_, rfl, ?_⟩⟩
              · rw [add_blk, cell_blk h3]; exact (hv q v hiv).1
              · refine All2.mk (by simp [hl]; omega) fun q c v hc hv' => ?_
                have := (hv q v (by simpa using hv')).2 c (by
                  rw [List.getElem?_take] at hc
                  split at hc
                  · rwa [List.getElem?_drop] at hc
                  · cases hc)
                exact this.rc
            · cases h
        · cases h
      · cases h
    · cases h
  · cases h

theorem s_ld1 (hR : Rel I n σ g a w) {x : Operand} {y : SArg} {t t' : Nat} (ho : o.op = .load t x) (hx : okA x y = true) (ht : aggT P t = some false) (he : ev1 key σ.ev σ (.ld1 t' y) = some e) (hc : cond true σ.ev σ (.ld1 t' y)) : Does P I σ g a w o e := by
  obtain ⟨h1, h2, v, h3, h4⟩ := loadAt_spec (P := P) (t := t) hR (opd hR hx hc) he ht (by simp)
  exact does_quiet hR h1 h2 (by simp [execOp, ho, h3]) h4

theorem s_ldn (hR : Rel I n σ g a w) {x : Operand} {y : SArg} {t t' m : Nat} (ho : o.op = .load t x) (hx : okA x y = true) (ht : aggT P t = some true) (hm : szT P t = some m) (he : ev1 key σ.ev σ (.ldn t' m y) = some e) (hc : cond true σ.ev σ (.ldn t' m y)) : Does P I σ g a w o e := by
  obtain ⟨h1, h2, v, h3, h4⟩ := loadAt_spec (P := P) (t := t) hR (opd hR hx hc) he ht (fun _ => hm)
  exact does_quiet hR h1 h2 (by simp [execOp, ho, h3]) h4

/-! ### an element's address -/
theorem RD_at {sz bs : Nat} {es : List (List Cell)} {v : Value} (h : RD g w (.sl sz bs es) v) {i : Nat} (hi : i < es.length) (hs : 0 < sz) : ∃ ad c, v = .slice (some ad) es.length c ∧ RC g w (.elp (es.getD i []) 0) (.pointer (some (ad.add (i * sz)))) := by
  cases h with
  | sl _ _ _ q c vs a1 a2 a3 a4 a5 =>
    have hi' : es[i]? = some es[i] := List.getElem?_eq_getElem hi
    have hlen := a3 es[i] (List.getElem_mem hi)
    obtain ⟨ad, rfl, _⟩ := a4 i 0 es[i] (es[i][0]'(by omega)) hi' (List.getElem?_eq_getElem (by omega))
    refine ⟨ad, c, rfl, ad.add (i * sz), rfl, fun j d hd => ?_⟩
    simp only [List.getD_eq_getElem?_getD, hi', Option.getD_some, Nat.zero_add] at hd
    obtain ⟨ad', e', hl⟩ := a4 i j es[i] d hi' hd
    cases e'
    refine ⟨vs i j, ?_, a5 i j _ d hi' hd⟩
    have : (ad.add (i * sz)).add j = ad.add (i * sz + j) := by
      unfold Addr.add
      by_cases h1 : i * sz = 0 <;> by_cases h2 : j = 0 <;> simp [h1, h2]
      omega
    rw [this]; exact hl

theorem intOf_spec {x : AV} {m : Int} {y : Value} (hy : RV2 g w x y) (h : intOf? x = some m) : y = .int .i64 m := by
  unfold intOf? at h
  split at h
  · cases h; exact RV2_v hy
  · cases h

theorem run_indexAt {t q sz : Nat} {ad : Addr} {len c : Nat} {m : Int} (ht : elemT P t = some q) (hq : szT P q = some sz) (h0 : 0 ≤ m) (h1 : m < len) :
    (Instr.indexAt t (.slice (some ad) len c) (.int .i64 m)).run P w = .ok (.pointer (some (ad.add (m.toNat * sz)))) w := by
  simp [Instr.indexAt, asIntOf, run_underlying (elemT_spec ht), h0, h1, run_sz hq]

theorem s_iad (hR : Rel I n σ g a w) {x1 x2 : Operand} {y1 y2 : SArg} {t t' q sz : Nat} (ho : o.op = .indexAddr t x1 x2) (h1 : okA x1 y1 = true) (h2 : okA x2 y2 = true) (ht : elemT P t = some q) (hq : szT P q = some sz) (hs : 0 < sz)
    (he : ev1 key σ.ev σ (.iad t' sz y1 y2) = some e) (hc : cond true σ.ev σ (.iad t' sz y1 y2)) : Does P I σ g a w o e := by
  have v1 := opd hR h1 hc.1
  have v2 := opd hR h2 hc.2.1
  have hc3 := hc.2.2 rfl
  simp only [ev1] at he
  split at he
  · rename_i m em
    have e2 := intOf_spec v2 em
    obtain ⟨h0, hb⟩ := hc3 m em
    split at he
    · rename_i k t1 et
      simp only [et] at hb
      rw [et] at v1
      split at he
      case isFalse => cases he
      rename_i htg
      obtain ⟨r0, r1, r2⟩ := v1 (by simp)
      have e1 := r2 (by rw [hR.tags]; exact htg)
      split at he
      · rename_i ty sz' bs es eo
        simp only [eo] at hb
        split at he
        · rename_i hsz
          subst hsz
          cases he
          obtain ⟨arr, c, f1, f2, _⟩ := hR.obs k _ eo
          refine does_quiet hR rfl rfl (v := ptr g k (m.toNat * sz + 0)) ?_ (fun _ => ⟨rfl, r1, fun _ => rfl⟩)
          have e1 := e1.1.trans f1
          have := run_indexAt (P := P) (w := w) (ad := ⟨g.blk k, 0, none⟩) (c := c) ht hq h0 hb
          simp [execOp, ho, e1, e2, this, add_blk, ptr]
        · cases he
      · rename_i ty sz' bs es eo
        simp only [eo] at hb
        split at he
        · rename_i hsz
          subst hsz
          cases he
          obtain ⟨ad, c, f1, f2⟩ := RD_at (hR.obs k _ eo).1 (i := m.toNat) (by omega) hs
          have e1 := e1.1.trans f1
          refine does_quiet hR rfl rfl (v := .pointer (some (ad.add (m.toNat * sz)))) ?_ (fun _ => f2)
          have := run_indexAt (P := P) (w := w) (ad := ad) (c := c) ht hq h0 hb
          simp [execOp, ho, e1, e2, this]
        · cases he
      · cases he
    · rename_i sz' bs es et
      simp only [et] at hb
      rw [et] at v1
      split at he
      · rename_i hsz
        cases he
        have hsz : sz = sz' := by
          rcases hsz with h | h
          · exact h
          · subst h; simp at hb; omega
        subst hsz
        obtain ⟨ad, c, f1, f2⟩ := RD_at (v1 (by simp)) (i := m.toNat) (by omega) hs
        refine does_quiet hR rfl rfl (v := .pointer (some (ad.add (m.toNat * sz)))) ?_ (fun _ => f2)
        have := run_indexAt (P := P) (w := w) (ad := ad) (c := c) ht hq h0 hb
        simp [execOp, ho, f1, e2, this]
      · cases he
    · rename_i sz' bs es et
      simp only [et] at hb
      rw [et] at v1
      split at he
      · rename_i hsz
        cases he
        have hsz : sz = sz' := by
          rcases hsz with h | h
          · exact h
          · subst h; simp at hb; omega
        subst hsz
        obtain ⟨ad, c, f1, f2⟩ := RD_at (v1 (by simp)).1 (i := m.toNat) (by omega) hs
        refine does_quiet hR rfl rfl (v := .pointer (some (ad.add (m.toNat * sz)))) ?_ (fun _ => f2)
        have := run_indexAt (P := P) (w := w) (ad := ad) (c := c) ht hq h0 hb
        simp [execOp, ho, f1, e2, this]
      · cases he
    · cases he
  · cases he

end Go.Abs
