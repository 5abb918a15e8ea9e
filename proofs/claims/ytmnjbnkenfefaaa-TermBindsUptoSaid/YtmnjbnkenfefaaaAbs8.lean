/- THIS TEXT PROVES A PART OF A CALCULUS THAT TELLS WHAT A LOADED GO FUNCTION DOES WITHOUT NAMING MEMORY: each rule is proved against the machine, for every program and every world; its conditions stand in each theorem. -/
import Derived.Test.YtmnjbnkenfefaaaAbs7
import Derived.Great.FillDense
set_option linter.unusedVariables false
set_option linter.unusedSimpArgs false
namespace Go.Abs

variable {P : Program} {I : Init} {n : Nat} {σ : St} {g : Gh} {a : Act} {w : World} {o : Oper} {e : Eff} {key : Nat}

/-! ### struct values -/
theorem setCells_spec {xs cs : List Cell} {vs us : List Value} {off : Nat} (h : All2 (RC g w) cs vs) (k : All2 (RC g w) xs us) (hle : off + xs.length ≤ cs.length) :
    All2 (RC g w) (putC cs off xs) (vs.take off ++ us ++ vs.drop (off + us.length)) := by
  unfold putC
  rw [k.length]
  exact ((h.take off).append k).append (h.drop _)

theorem fold_toList (off : Nat) (us : List Value) (vs : Array Value) (hle : off + us.length ≤ vs.size) :
    ((us.zipIdx 0).foldl (fun cs (x : Value × Nat) => cs.setIfInBounds (off + x.2) x.1) vs).toList = vs.toList.take off ++ us ++ vs.toList.drop (off + us.length) := by
  obtain ⟨h1, h2⟩ := Great.foldl_set off us 0 vs
  apply List.ext_getElem?
  intro k
  have := h2 k
  simp only [Nat.add_zero] at this
  rw [Array.getElem?_toList, this]
  by_cases hk : off ≤ k ∧ k < off + us.length ∧ k < vs.size
  · rw [if_pos hk, List.append_assoc, List.getElem?_append_right (by simp; omega), List.getElem?_append_left (by simp; omega)]
    congr 1
    simp; omega
  · rw [if_neg hk]
    by_cases hlt : k < off
    · rw [List.append_assoc, List.getElem?_append_left (by simp; omega), List.getElem?_take, if_pos hlt]
      simp
    · rw [List.getElem?_append_right (by simp; omega), List.getElem?_drop]
      simp only [List.length_append, List.length_take, Array.length_toList, Array.getElem?_toList]
      congr 1
      have : min off vs.size = off := by omega
      rw [this]; omega

theorem fill_spec {place : Nat → Option (Nat × Nat)} : ∀ {ps : List (Nat × Value)} {qs : List (Nat × List Cell)} {vs : Array Value} {cs : List Cell}, All2 (RC g w) cs vs.toList →
    All2 (fun q p => ∃ m, place p.1 = some (q.1, m) ∧ q.2.length = m ∧ q.1 + m ≤ cs.length ∧ All2 (RC g w) q.2 p.2.cells.toList) qs ps → ∃ r, Instr.fill place vs ps = some r ∧ All2 (RC g w) (fillC cs qs) r.toList
  | [], [], vs, cs, h, _ => ⟨vs, rfl, h⟩
  | (i, v) :: ps, (off, xs) :: qs, vs, cs, h, k => by
    obtain ⟨⟨m, k1, k2, k3, k4⟩, kr⟩ := k
    have hl := k4.length
    have hl2 := h.length
    simp only at k1 k2 k3 k4 hl
    have hlen : (putC cs off xs).length = cs.length := by simp [putC]; omega
    have hf := fold_toList off v.cells.toList vs (by simp at hl hl2 ⊢; omega)
    have hh := setCells_spec (off := off) h k4 (by omega)
    rw [← hf] at hh
    obtain ⟨r, r1, r2⟩ := fill_spec hh (kr.imp fun q hq p hp => by rw [hlen]; exact hp)
    refine ⟨r, ?_, r2⟩
    unfold Instr.fill
    simp only [k1]
    rw [if_neg (by simp at hl hl2 ⊢; omega)]
    rw [← r1]
    congr 1
    rw [← Array.foldl_toList, Array.toList_zipIdx]
  | [], _ :: _, _, _, _, k => k.elim
  | _ :: _, [], _, _, _, k => k.elim

theorem zeroOK_spec {t : Nat} {zs : List Cell} (h : zeroOK P t zs = true) : ∃ z, (∀ w : World, (zeroValue t).run P w = .ok z w) ∧ ∀ (g : Gh) (w : World), All2 (RC g w) zs z.cells.toList := by
  unfold zeroOK at h
  split at h
  · rename_i i hi
    split at h
    · rename_i z hz
      exact ⟨z, fun w => by simp [zeroValue, typeInfo, hi, hz], fun g w => zcs_spec h⟩
    · cases h
  · cases h

def okPs (P : Program) (t : Nat) : List (Nat × Operand) → List (Nat × Nat × Nat × SArg) → Bool
  | [], [] => true
  | (i, x) :: r, (j, off, m, y) :: s => decide (i = j) && okA x y && (match fldT P t i with | some (off', u) => decide (off = off') && decide (szT P u = some m) | none => false) && okPs P t r s
  | _, _ => false

theorem mapM_places {fs : List Field} (h : ∀ f, f ∈ fs → ∃ m, szT P f.type = some m) (w : World) :
    (fs.mapM fun (f : Field) => do pure (f.offset, ← sizeOf f.type)).run P w = .ok (fs.map fun (f : Field) => (f.offset, (szT P f.type).getD 0)) w := by
  induction fs with
  | nil => simp
  | cons f fs ih =>
    obtain ⟨m, hm⟩ := h f (by simp)
    simp only [List.mapM_cons, Sem.run_bind, run_sz hm, Result.andThen_ok, Sem.run_pure]
    rw [ih fun f hf => h f (by simp [hf])]
    simp [hm]

/-- Each field's size is known. -/
def fldsOK (P : Program) (t : Nat) : Bool := match P.underlying t with
  | some (.struct fs) => fs.toList.all fun f => (szT P f.type).isSome
  | _ => false

theorem parts_spec (hR : Rel I n σ g a w) {t : Nat} {fs : Array Field} (hu : P.underlying t = some (.struct fs)) {cs : List Cell} : ∀ {ps : List (Nat × Operand)} {qs : List (Nat × Nat × Nat × SArg)} {l : List (Nat × List Cell)}, okPs P t ps qs = true →
    (∀ p, p ∈ qs → gok true (σ.ev p.2.2.2)) → (∀ p, p ∈ qs → ∀ ds, cellsOf (un (σ.ev p.2.2.2)) = some ds → ds.length = p.2.2.1 ∧ p.2.1 + p.2.2.1 ≤ cs.length) → partCs σ.ev qs = some l →
    All2 (fun q p => ∃ m, (fun i => ((fs.toList.map fun f => (f.offset, (szT P f.type).getD 0)).toArray)[i]?) p.1 = some (q.1, m) ∧ q.2.length = m ∧ q.1 + m ≤ cs.length ∧ All2 (RC g w) q.2 p.2.cells.toList) l (ps.map fun x => (x.1, a.eval x.2))
  | [], [], l, _, _, _, h => by simp [partCs] at h; subst h; trivial
  | (i, x) :: ps, (j, off, m, y) :: qs, l, hok, hg, hl, h => by
    simp only [okPs, Bool.and_eq_true, decide_eq_true_eq] at hok
    obtain ⟨⟨⟨rfl, hx⟩, hf⟩, hr⟩ := hok
    simp only [partCs] at h
    split at h
    · rename_i ds l' e1 e2
      cases h
      have ih := parts_spec hR hu hr (fun p hp => hg p (by simp [hp])) (fun p hp => hl p (by simp [hp])) e2
      refine ⟨?_, ih⟩
      obtain ⟨h1, h2⟩ := hl _ (List.mem_cons_self) ds e1
      simp only at h1 h2
      refine ⟨m, ?_, h1, h2, cellsOf_spec (opd hR hx (hg _ (List.mem_cons_self))) e1⟩
      split at hf
      · rename_i off' u ef
        simp only [Bool.and_eq_true, decide_eq_true_eq] at hf
        obtain ⟨rfl, hm⟩ := hf
        obtain ⟨fs', f, q1, q2, rfl, rfl⟩ := fldT_spec ef
        rw [hu] at q1
        cases q1
        simp [q2, hm]
      · cases hf
    · cases h
  | [], _ :: _, _, hok, _, _, _ => by simp [okPs] at hok
  | _ :: _, [], _, hok, _, _, _ => by simp [okPs] at hok

theorem s_build (hR : Rel I n σ g a w) {t t' : Nat} {zs : List Cell} {ps : Array (Nat × Operand)} {qs : List (Nat × Nat × Nat × SArg)} (ho : o.op = .build t ps) (hz : zeroOK P t zs = true) (hfs : fldsOK P t = true) (hp : okPs P t ps.toList qs = true)
    (he : ev1 key σ.ev σ (.build t' zs qs) = some e) (hc : cond true σ.ev σ (.build t' zs qs)) : Does P I σ g a w o e := by
  obtain ⟨z, z1, z2⟩ := zeroOK_spec hz
  unfold fldsOK at hfs
  split at hfs
  · rename_i fs hu
    simp only [ev1] at he
    split at he
    · rename_i l el
      cases he
      obtain ⟨r, r1, r2⟩ := fill_spec (z2 g w) (parts_spec hR hu hp hc.1 hc.2 el)
      refine does_quiet hR rfl rfl (v := .agg r) ?_ ⟨r, rfl, r2⟩
      have hm := mapM_places (P := P) (fs := fs.toList) (fun f hf => by
        have := (List.all_eq_true.1 hfs) f hf
        exact Option.isSome_iff_exists.1 this) w
      obtain ⟨fs⟩ := fs
      have e1 : (ps.map fun (x : Nat × Operand) => (x.1, a.eval x.2)).toList = ps.toList.map fun x => (x.1, a.eval x.2) := by simp
      simp only [execOp, ho, Instr.build, Sem.run_bind, z1, Result.andThen_ok, run_underlying hu]
      simp only at hm r1
      simp only [List.mapM_toArray, Sem.run_map, hm, Result.andThen_ok]
      rw [show (Array.map (fun x => match x with | (i, x) => (i, a.eval x)) ps).toList = ps.toList.map fun x => (x.1, a.eval x.2) from e1]
      rw [r1]
      simp
    · cases he
  · cases hfs

end Go.Abs
