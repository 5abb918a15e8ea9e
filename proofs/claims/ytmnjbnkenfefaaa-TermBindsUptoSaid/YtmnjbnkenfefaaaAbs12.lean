/- THIS TEXT PROVES A PART OF A CALCULUS THAT TELLS WHAT A LOADED GO FUNCTION DOES WITHOUT NAMING MEMORY: each rule is proved against the machine, for every program and every world; its conditions stand in each theorem. -/
import Derived.Test.YtmnjbnkenfefaaaAbs11
set_option linter.unusedVariables false
set_option linter.unusedSimpArgs false
namespace Go.Abs

variable {P : Program} {I : Init} {n : Nat} {σ : St} {g g' : Gh} {a : Act} {w w' : World} {o : Oper} {e : Eff} {key : Nat}

/-- A store into an object's block. -/
theorem Step.store (hR : Rel I n σ g a w) {k ty : Nat} {ob0 ob1 : Obj} {arr arr' : Array Value} (hk : σ.ob k = some ob0) (ha : Active g k ob0) (hg : w.heap[g.blk k]? = some (.cells arr ty (0, 0))) (hst : ∀ x, ¬ g.st (g.blk k) x)
    (hnew : Kp g w g (w.setRow (g.blk k) arr') → ObOK g (w.setRow (g.blk k) arr') k ob1) : Step I σ g w [] [(k, ob1)] g (w.setRow (g.blk k) arr') := by
  have hkp : Kp g w g (w.setRow (g.blk k) arr') := ⟨fun ad had => ⟨had, cell_setRow hg ad fun hbb => absurd (hbb ▸ had) (hst _)⟩⟩
  have one : ∀ k' q, [(k, ob1)].lookup k' = some q → k' = k ∧ q = ob1 := fun k' q h => by
    simp only [List.lookup_cons] at h
    split at h
    · rename_i hkk; cases h; exact ⟨by simpa using hkk, rfl⟩
    · simp at h
  have two : ∀ k', [(k, ob1)].lookup k' = none → k' ≠ k := fun k' h hkk => by subst hkk; simp at h
  have hother : ∀ k' o', σ.ob k' = some o' → Active g k' o' → k' ≠ k → g.blk k' ≠ g.blk k := fun k' o' h ha' hn' hbb => hn' (hR.sep k' k o' _ h hk ha' ha hbb)
  refine
    { kp := hkp, agree := fun _ _ => ⟨rfl, rfl, rfl⟩, anew := fun k h => by simp at h, puts := fun k' q h => ?_, keep := fun k' q h ha' hl _ => ⟨setRow_other w _ _ arr' (hother k' q h ha' (two k' hl)), fun x hx => hx⟩, sep := fun k' q h _ k2 q2 h2' ha2 hl _ => ?_, seps := fun k1 k2 q1 q2 h1' h2' _ _ _ => ?_, loc := fun k' q h _ => ?_,
      wok := fun b x h => by rw [setRow_size]; exact hR.wok b x h, os := rfl, tape := rfl, out := rfl, grow := by rw [setRow_size]; omega, frame := fun b' hb' hm => ⟨setRow_other w _ _ arr' fun hbb => ?_, fun x => Iff.rfl⟩ }
  · obtain ⟨rfl, rfl⟩ := one k' q h; exact hnew hkp
  · obtain ⟨rfl, rfl⟩ := one k' q h
    exact hother k2 q2 h2' ha2 (two k2 hl)
  · exact (one k1 q1 h1').1.trans (one k2 q2 h2').1.symm
  · obtain ⟨rfl, rfl⟩ := one k' q h
    exact hR.loc k' _ hk ha
  · rcases hR.loc k _ hk ha with h | h
    · exact hm (hbb ▸ h)
    · rw [hbb] at hb'; omega

theorem run_storeAt {t m b off ty : Nat} {arr : Array Value} {v : Value} (ht : szT P t = some m) (hm : v.cells.size = m) (hg : w.heap[b]? = some (.cells arr ty (0, 0))) (hle : off + m ≤ arr.size) (h1 : ∀ u ∈ v.cells.toList, u.oneCell' = true) :
    (Instr.storeAt t (.pointer (some ⟨b, off, none⟩)) v).run P w = .ok () (w.setRow b (arr.toList.take off ++ v.cells.toList ++ arr.toList.drop (off + v.cells.toList.length)).toArray) := by
  have := run_storeCells_at P b off ty v.cells.toList 0 arr w hg (by simp; omega) h1
  simp only [Nat.add_zero] at this
  simp only [Instr.storeAt, Instr.sureAddr, Sem.run_bind, Sem.run_pure, Result.andThen_ok, storeVar, run_sz ht, hm]
  simpa using this

theorem All2.ones {cs : List Cell} {vs : List Value} (h : All2 (RC g w) cs vs) : ∀ u ∈ vs, u.oneCell' = true := fun u hu => by
  obtain ⟨i, hi⟩ := List.getElem?_of_mem hu
  have hlt := (List.getElem?_eq_some_iff.1 hi).1
  obtain ⟨v, e1, e2⟩ := h.get i cs[i]! (by
    have := h.length
    rw [List.getElem?_eq_getElem (by omega)]
    simp [List.getElem!_eq_getElem?_getD, List.getElem?_eq_getElem (show i < cs.length by omega)])
  rw [hi] at e1; cases e1
  exact e2.one

theorem does_store (hR : Rel I n σ g a w) {x1 x2 : Operand} {t m : Nat} {x : AV} {xs : List Cell} (ho : o.op = .store t x1 x2) (hx : RV2 g w x (a.eval x1)) (hxs : All2 (RC g w) xs (a.eval x2).cells.toList) (ht : szT P t = some m) (he : storeAt σ m xs x = some e) : Does P I σ g a w o e := by
  unfold storeAt at he
  split at he
  · rename_i k t1 off
    split at he
    case isFalse => cases he
    rename_i htg
    have e1 := (hx (by simp)).2.2 (by rw [hR.tags]; exact htg)
    simp only [ptr] at e1
    split at he
    · rename_i ty cs eo
      split at he
      · rename_i hh
        cases he
        obtain ⟨hl, hle⟩ := hh
        obtain ⟨vs, f1, f2, f3⟩ := hR.obs k _ eo
        have hlen := hxs.length
        have hlen2 := f2.length
        simp only [Array.length_toList] at hlen hlen2
        refine ⟨_, g, undef, .inr ⟨?_, rfl⟩, Step.store (arr' := (vs.toList.take off ++ (a.eval x2).cells.toList ++ vs.toList.drop (off + (a.eval x2).cells.toList.length)).toArray) hR eo trivial f1 f3 fun hkp => ⟨_, setRow_heap w _ vs _ ty (0, 0) f1, ?_, f3⟩, ?_⟩
        · have := run_storeAt (P := P) (w := w) (v := a.eval x2) ht (by omega) f1 (off := off) (by omega) hxs.ones
          simp [execOp, ho, e1, this]
        · refine (setCells_spec f2 hxs (by omega)).imp fun c _ v hv => hv.mono hkp (Gh.Le.refl g)
        · exact ⟨#[], rfl, trivial⟩
      · cases he
    · cases he
  · rename_i k t1 sz i j
    split at he
    case isFalse => cases he
    rename_i htg
    have e1 := (hx (by simp)).2.2 (by rw [hR.tags]; exact htg)
    simp only [ptr] at e1
    split at he
    · rename_i ty sz' bs es eo
      split at he
      · rename_i hh
        obtain ⟨rfl, hl, hd⟩ := hh
        split at he
        · rename_i cs ecs
          split at he
          · rename_i hle
            cases he
            obtain ⟨arr, c, f1, f2, f3, f4, f5, f6, f7, f8⟩ := hR.obs k _ eo
            have hlen := hxs.length
            simp only [Array.length_toList] at hlen
            have hcs := f6 cs (List.mem_of_getElem? ecs)
            have hi := (List.getElem?_eq_some_iff.1 ecs).1
            have hbig : (i + 1) * sz ≤ c * sz := Nat.mul_le_mul_right _ (by omega)
            rw [Nat.add_mul] at hbig
            let vs := (a.eval x2).cells.toList
            let arr' : Array Value := (arr.toList.take (i * sz + j) ++ vs ++ arr.toList.drop (i * sz + j + vs.length)).toArray
            have hvl : vs.length = m := by simp [vs]; omega
            have hget : ∀ p, arr'[p]? = if i * sz + j ≤ p ∧ p < i * sz + j + m then vs[p - (i * sz + j)]? else arr[p]? := fun p => by
              simp only [arr', List.getElem?_toArray]
              by_cases h1 : p < i * sz + j
              · rw [if_neg (by omega), List.append_assoc, List.getElem?_append_left (by simp; omega), List.getElem?_take, if_pos h1]; simp
              · by_cases h2 : p < i * sz + j + m
                · rw [if_pos ⟨by omega, h2⟩, List.append_assoc, List.getElem?_append_right (by simp; omega), List.getElem?_append_left (by simp; omega)]
                  congr 1; simp; omega
                · rw [if_neg (by omega), List.getElem?_append_right (by simp; omega), List.getElem?_drop]
                  simp only [List.length_append, List.length_take, Array.length_toList, Array.getElem?_toList]
                  congr 1; omega
            refine ⟨_, g, undef, .inr ⟨?_, rfl⟩, Step.store (arr' := arr') hR eo trivial f3 f8 fun hkp => ?_, ?_⟩
            · have := run_storeAt (P := P) (w := w) (v := a.eval x2) ht (by omega) f3 (off := i * sz + j) (by omega) hxs.ones
              simp [execOp, ho, e1, this, arr', vs]
            · refine ⟨arr', c, by simpa using f1, by simpa using f2, setRow_heap w _ arr _ ty (0, 0) f3, ?_, by simpa using f5, fun l hl' => ?_, fun p q l d p1 p2 => ?_, f8⟩
              · simp only [arr', List.size_toArray, List.length_append, List.length_take, List.length_drop, Array.length_toList]; omega
              · rcases List.mem_or_eq_of_mem_set hl' with h | h
                · exact f6 l h
                · subst h; simp [putC]; omega
              · rw [hget]
                rw [List.getElem?_set] at p1
                by_cases hpi : i = p
                · subst hpi
                  rw [if_pos rfl, if_pos hi] at p1
                  cases p1
                  by_cases hq : j ≤ q ∧ q < j + m
                  · rw [if_pos (by omega)]
                    unfold putC at p2
                    rw [List.append_assoc, List.getElem?_append_right (by simp; omega), List.getElem?_append_left (by simp; omega)] at p2
                    simp only [List.length_take, List.length_map] at p2
                    rw [show q - min j cs.length = q - j by omega, List.getElem?_map] at p2
                    obtain ⟨c0, hc0, rfl⟩ := Option.map_eq_some_iff.1 p2
                    obtain ⟨v, v1, v2⟩ := hxs.get _ _ hc0
                    refine ⟨v, by rw [← v1]; congr 1; omega, ?_⟩
                    have hd' : (toD σ c0).isD = true := (List.all_eq_true.1 hd) _ (List.mem_map_of_mem (List.mem_of_getElem? hc0))
                    exact (isD_spec (toD_spec hR v2) hd').mono hkp
                  · rw [if_neg (by omega)]
                    have p2' : cs[q]? = some d := by
                      unfold putC at p2
                      by_cases hqj : q < j
                      · rw [List.append_assoc, List.getElem?_append_left (by simp; omega), List.getElem?_take, if_pos hqj] at p2; exact p2
                      · rw [List.getElem?_append_right (by simp; omega), List.getElem?_drop] at p2
                        simp only [List.length_append, List.length_take, List.length_map] at p2
                        rw [← p2]; congr 1; omega
                    obtain ⟨u, u1, u2⟩ := f7 _ _ _ _ ecs p2'
                    exact ⟨u, u1, u2.mono hkp⟩
                · rw [if_neg hpi] at p1
                  have hq : q < sz := by rw [← f6 l (List.mem_of_getElem? p1)]; exact (List.getElem?_eq_some_iff.1 p2).1
                  obtain ⟨u, u1, u2⟩ := f7 _ _ _ _ p1 p2
                  refine ⟨u, ?_, u2.mono hkp⟩
                  rw [if_neg]
                  · exact u1
                  · rintro ⟨h1, h2⟩
                    rcases Nat.lt_or_gt_of_ne hpi with h | h
                    · have : (i + 1) * sz ≤ p * sz := Nat.mul_le_mul_right _ h
                      rw [Nat.add_mul] at this; omega
                    · have : (p + 1) * sz ≤ i * sz := Nat.mul_le_mul_right _ h
                      rw [Nat.add_mul] at this; omega
            · exact ⟨#[], rfl, trivial⟩
          · cases he
        · cases he
      · cases he
    · cases he
  · cases he

theorem s_st1 (hR : Rel I n σ g a w) {x1 x2 : Operand} {y1 y2 : SArg} {t t' : Nat} (ho : o.op = .store t x1 x2) (h1 : okA x1 y1 = true) (h2 : okA x2 y2 = true) (ht : szT P t = some 1)
    (he : ev1 key σ.ev σ (.st1 t' y1 y2) = some e) (hc : cond true σ.ev σ (.st1 t' y1 y2)) : Does P I σ g a w o e := by
  simp only [ev1] at he
  split at he
  · rename_i cs ec
    exact does_store hR ho (opd hR h1 hc.1) (cellsOf_spec (opd hR h2 hc.2) ec) ht he
  · cases he

theorem s_stn (hR : Rel I n σ g a w) {x1 x2 : Operand} {y1 y2 : SArg} {t t' m : Nat} (ho : o.op = .store t x1 x2) (h1 : okA x1 y1 = true) (h2 : okA x2 y2 = true) (ht : szT P t = some m)
    (he : ev1 key σ.ev σ (.stn t' m y1 y2) = some e) (hc : cond true σ.ev σ (.stn t' m y1 y2)) : Does P I σ g a w o e := by
  simp only [ev1] at he
  split at he
  · rename_i cs ec
    exact does_store hR ho (opd hR h1 hc.1) (cellsOf_spec (opd hR h2 hc.2) ec) ht he
  · cases he

end Go.Abs
