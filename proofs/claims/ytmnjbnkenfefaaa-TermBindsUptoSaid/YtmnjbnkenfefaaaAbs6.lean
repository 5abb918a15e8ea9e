/- THIS TEXT PROVES A PART OF A CALCULUS THAT TELLS WHAT A LOADED GO FUNCTION DOES WITHOUT NAMING MEMORY: each rule is proved against the machine, for every program and every world; its conditions stand in each theorem. -/
import Derived.Test.YtmnjbnkenfefaaaAbs5
set_option linter.unusedVariables false
set_option linter.unusedSimpArgs false
namespace Go.Abs

variable {P : Program} {I : Init} {n : Nat} {σ : St} {g : Gh} {a : Act} {w : World} {o : Oper} {e : Eff} {key : Nat}

theorem refKeys_spec (hR : Rel I n σ g a w) : ∀ {xs : List Operand} {ys : List SArg} {ks : List (Nat × Nat)}, All2 (fun x y => okA x y = true) xs ys → (∀ y, y ∈ ys → gok true (σ.ev y)) → refKeys (ys.map σ.ev) = some ks →
    All2 (IsRef g) ks (xs.map a.eval)
  | [], [], ks, _, _, h => by simp [refKeys] at h; subst h; trivial
  | x :: xs, y :: ys, ks, h, hg, hk => by
    simp only [List.map_cons, refKeys] at hk
    split at hk
    · rename_i k l e1 e2
      cases hk
      have v1 := opd hR h.1 (hg y (by simp))
      refine ⟨?_, refKeys_spec hR h.2 (fun y hy => hg y (by simp [hy])) e2⟩
      unfold refKey at e1
      split at e1
      · rename_i k' t' eu
        cases e1
        rw [eu] at v1
        exact v1 (by simp)
      · cases e1
    · cases hk
  | [], _ :: _, _, h, _, _ => h.elim
  | _ :: _, [], _, h, _, _ => h.elim

theorem s_mkfn (hR : Rel I n σ g a w) {f : Nat} {xs1 xs2 : Array Operand} {ys1 ys2 : List SArg} (ho : o.op = .makeFunc (.func f) xs1 xs2) (h1 : All2 (fun x y => okA x y = true) xs1.toList ys1) (h2 : All2 (fun x y => okA x y = true) xs2.toList ys2)
    (he : ev1 key σ.ev σ (.mkfn f ys1 ys2) = some e) (hc : cond true σ.ev σ (.mkfn f ys1 ys2)) : Does P I σ g a w o e := by
  simp only [ev1] at he
  split at he
  · rename_i k1 k2 e1 e2
    cases he
    have f1 := refKeys_spec hR h1 hc.1 e1
    have f2 := refKeys_spec hR h2 hc.2 e2
    exact does_quiet hR rfl rfl (v := .func (.func f) (xs1.map a.eval) (xs2.map a.eval)) (by simp [execOp, ho, Instr.makeFunc]) (fun _ => ⟨_, _, rfl, by simpa using f1, by simpa using f2⟩)
  · cases he

theorem s_ext (hR : Rel I n σ g a w) {x : Operand} {y : SArg} {i : Nat} (ho : o.op = .extract x i) (hx : okA x y = true) (he : ev1 key σ.ev σ (.ext y i) = some e) (hc : cond true σ.ev σ (.ext y i)) : Does P I σ g a w o e := by
  have v1 := opd hR hx hc
  simp only [ev1] at he
  split at he
  · rename_i l et
    split at he
    · rename_i z ez
      cases he
      rw [et] at v1
      obtain ⟨vs, e1, h⟩ := v1
      obtain ⟨v, e2, hv⟩ := h.get i z ez
      refine does_quiet hR rfl rfl (v := v) ?_ ?_
      · have : vs[i]? = some v := by simpa using e2
        simp [execOp, ho, e1, Instr.extract, this]
      · cases z with
        | c x => exact hv
        | agg cs => exact hv
        | tup l => exact hv.elim
        | gd b x => exact hv.elim
    · cases he
  · cases he

/-! ### fields -/
theorem fldT_spec {t i off u : Nat} (h : fldT P t i = some (off, u)) : ∃ fs f, P.underlying t = some (.struct fs) ∧ fs[i]? = some f ∧ f.offset = off ∧ f.type = u := by
  unfold fldT at h
  split at h
  · rename_i fs e
    obtain ⟨f, h1, h2⟩ := Option.map_eq_some_iff.1 h
    cases h2
    exact ⟨fs, f, e, h1, rfl, rfl⟩
  · cases h

theorem run_sz {t m : Nat} (h : szT P t = some m) (w : World) : (sizeOf t).run P w = .ok m w := by
  unfold szT at h
  obtain ⟨i, h1, h2⟩ := Option.map_eq_some_iff.1 h
  simp [sizeOf, typeInfo, h1, h2]

theorem run_agg {t : Nat} {b : Bool} (h : aggT P t = some b) (w : World) : (isAgg t).run P w = .ok b w := by
  unfold aggT at h
  obtain ⟨d, h1, h2⟩ := Option.map_eq_some_iff.1 h
  cases d <;> simp [aggD] at h2 <;> subst h2 <;> simp [isAgg, run_underlying h1]

theorem s_fad (hR : Rel I n σ g a w) {x : Operand} {y : SArg} {t t' i off u m : Nat} (ho : o.op = .fieldAddr t x i) (hx : okA x y = true) (hf : fldT P t i = some (off, u)) (hu : szT P u = some m) (hm : m ≠ 0)
    (he : ev1 key σ.ev σ (.fad t' i off y) = some e) (hc : cond true σ.ev σ (.fad t' i off y)) : Does P I σ g a w o e := by
  have v1 := opd hR hx hc
  obtain ⟨fs, f, h1, h2, rfl, rfl⟩ := fldT_spec hf
  have run : ∀ ad : Addr, (Instr.fieldAt t (.pointer (some ad)) i).run P w = .ok (.pointer (some (ad.add f.offset))) w := fun ad => by
    simp [Instr.fieldAt, run_underlying h1, h2, Instr.sureAddr, fieldPlace, run_sz hu, hm]
  simp only [ev1] at he
  split at he
  · rename_i k t1 q et
    split at he
    · rename_i htg
      cases he
      rw [et] at v1
      obtain ⟨r0, r1, r2⟩ := v1 (by simp)
      have e1 := r2 (by rw [hR.tags]; exact htg)
      simp only [ptr] at e1
      refine does_quiet hR rfl rfl (v := ptr g k (q + f.offset)) ?_ (fun _ => ⟨rfl, r1, fun _ => rfl⟩)
      have : (⟨g.blk k, q, none⟩ : Addr).add f.offset = ⟨g.blk k, q + f.offset, none⟩ := by unfold Addr.add; split <;> simp_all
      simp [execOp, ho, e1, run, this, ptr]
    · cases he
  · rename_i cs j et
    cases he
    rw [et] at v1
    obtain ⟨ad, e1, h⟩ := v1 (by simp)
    refine does_quiet hR rfl rfl (v := .pointer (some (ad.add f.offset))) ?_ (fun _ => ⟨_, rfl, fun q d hd => ?_⟩)
    · simp [execOp, ho, e1, run]
    · obtain ⟨z, z1, z2⟩ := h (f.offset + q) d (by rw [← Nat.add_assoc]; exact hd)
      refine ⟨z, ?_, z2⟩
      have : (ad.add f.offset).add q = ad.add (f.offset + q) := by
        unfold Addr.add
        by_cases h1 : f.offset = 0 <;> by_cases h2 : q = 0 <;> simp [h1, h2]
        omega
      rw [this]; exact z1
  · rename_i k t1 sz p q et
    split at he
    · rename_i htg
      cases he
      rw [et] at v1
      obtain ⟨r0, r1, r2⟩ := v1 (by simp)
      have e1 := r2 (by rw [hR.tags]; exact htg)
      simp only [ptr] at e1
      refine does_quiet hR rfl rfl (v := ptr g k (p * sz + (q + f.offset))) ?_ (fun _ => ⟨rfl, r1, fun _ => rfl⟩)
      have : (⟨g.blk k, p * sz + q, none⟩ : Addr).add f.offset = ⟨g.blk k, p * sz + (q + f.offset), none⟩ := by unfold Addr.add; split <;> simp_all [Nat.add_assoc]
      simp [execOp, ho, e1, run, this, ptr]
    · cases he
  · cases he

theorem s_fld1 (hR : Rel I n σ g a w) {x : Operand} {y : SArg} {t t' i off u : Nat} (ho : o.op = .field t x i) (hx : okA x y = true) (hf : fldT P t i = some (off, u)) (hu : aggT P u = some false)
    (he : ev1 key σ.ev σ (.fld1 t' i off y) = some e) (hc : cond true σ.ev σ (.fld1 t' i off y)) : Does P I σ g a w o e := by
  have v1 := opd hR hx hc
  obtain ⟨fs, f, h1, h2, rfl, rfl⟩ := fldT_spec hf
  simp only [ev1] at he
  split at he
  · rename_i cs et
    split at he
    · rename_i c ec
      cases he
      rw [et] at v1
      obtain ⟨vs, e1, h⟩ := v1
      obtain ⟨v, e2, hv⟩ := h.get _ _ ec
      have e2 : vs[f.offset]? = some v := by simpa using e2
      refine does_quiet hR rfl rfl (v := v) ?_ (fun _ => hv)
      simp [execOp, ho, e1, Instr.field, run_underlying h1, h2, part, run_agg hu, asAgg, e2]
    · cases he
  · cases he

theorem s_fldn (hR : Rel I n σ g a w) {x : Operand} {y : SArg} {t t' i off u m : Nat} (ho : o.op = .field t x i) (hx : okA x y = true) (hf : fldT P t i = some (off, u)) (hu : aggT P u = some true) (hm : szT P u = some m)
    (he : ev1 key σ.ev σ (.fldn t' i off m y) = some e) (hc : cond true σ.ev σ (.fldn t' i off m y)) : Does P I σ g a w o e := by
  have v1 := opd hR hx hc
  obtain ⟨fs, f, h1, h2, rfl, rfl⟩ := fldT_spec hf
  simp only [ev1] at he
  split at he
  · rename_i cs et
    split at he
    · rename_i hle
      cases he
      rw [et] at v1
      obtain ⟨vs, e1, h⟩ := v1
      refine does_quiet hR rfl rfl (v := .agg (vs.extract f.offset (f.offset + m))) ?_ ⟨_, rfl, ?_⟩
      · simp [execOp, ho, e1, Instr.field, run_underlying h1, h2, part, run_agg hu, asAgg, run_sz hm]
      · have := (h.drop f.offset).take m
        simpa [List.extract_eq_take_drop, Nat.add_sub_cancel_left] using this
    · cases he
  · cases he

/-! ### max, min -/
theorem bestL_spec (hR : Rel I n σ g a w) (mx : Bool) (k : IntKind) : ∀ {xs : List Operand} {ys : List SArg} {p m : Int}, All2 (fun x y => okA x y = true) xs ys → (∀ y, y ∈ ys → gok true (σ.ev y)) → bestL mx k p (ys.map σ.ev) = some m →
    (List.foldlM (if mx then Builtin.max2 else Builtin.min2) (Value.int k p) (xs.map a.eval)).run P w = .ok (.int k m) w
  | [], [], p, m, _, _, h => by simp [bestL] at h; subst h; rfl
  | x :: xs, y :: ys, p, m, h, hg, hk => by
    simp only [List.map_cons, bestL] at hk
    split at hk
    · rename_i k' b eu
      split at hk
      · rename_i hkk
        subst hkk
        have v1 := opd hR h.1 (hg y (by simp))
        rw [eu] at v1
        have e1 := RV2_v v1
        have ih := bestL_spec hR mx k h.2 (fun y hy => hg y (by simp [hy])) hk
        simp only [List.map_cons, List.foldlM_cons, Sem.run_bind, e1]
        have : ((if mx then Builtin.max2 else Builtin.min2) (Value.int k p) (.int k b)).run P w = .ok (.int k (best2 mx p b)) w := by
          cases mx <;> simp [Builtin.max2, Builtin.min2, best2]
        rw [this]
        exact ih
      · cases hk
    · cases hk
  | [], _ :: _, _, _, h, _, _ => h.elim
  | _ :: _, [], _, _, h, _, _ => h.elim

theorem s_best (hR : Rel I n σ g a w) {mx : Bool} {xs : Array Operand} {ts : Array TypeId} {ys : List SArg} (ho : o.op = .call { callee := .builtin (if mx then .max else .min), args := xs, argTypes := ts })
    (h1 : All2 (fun x y => okA x y = true) xs.toList ys) (he : ev1 key σ.ev σ (.best mx ys) = some e) (hc : cond true σ.ev σ (.best mx ys)) : Does P I σ g a w o e := by
  simp only [ev1] at he
  obtain ⟨xs⟩ := xs
  simp only at h1
  cases ys with
  | nil => simp at he
  | cons y ys =>
    cases xs with
    | nil => exact h1.elim
    | cons x xs =>
      simp only [List.map_cons] at he
      split at he
      · rename_i k p eu
        split at he
        · rename_i m em
          cases he
          have v1 := opd hR h1.1 (hc y (by simp))
          rw [eu] at v1
          have e1 := RV2_v v1
          have hb := bestL_spec (P := P) hR mx k h1.2 (fun z hz => hc z (by simp [hz])) em
          refine does_quiet hR rfl rfl (v := .int k m) ?_ (RV2_mk rfl)
          cases mx
          · simp [execOp, ho, resolve, invoke, builtin, Builtin.min_, e1] at hb ⊢
            rw [hb]; rfl
          · simp [execOp, ho, resolve, invoke, builtin, Builtin.max_, e1] at hb ⊢
            rw [hb]; rfl
        · cases he
      · cases he

/-! ### lengths -/
theorem elemT_spec {t e : Nat} (h : elemT P t = some e) : P.underlying t = some (.slice e) := by
  unfold elemT at h
  split at h
  · rename_i e' h'; cases h; exact h'
  · cases h

theorem RD_len {sz bs : Nat} {es : List (List Cell)} {v : Value} (h : RD g w (.sl sz bs es) v) : ∃ q c, v = .slice q es.length c ∧ es.length ≤ c ∧ es.length * bs ≤ room := by
  cases h with
  | sl _ _ _ q c _ hc hb => exact ⟨q, c, rfl, hc, hb⟩

theorem s_len (hR : Rel I n σ g a w) {x : Operand} {y : SArg} {t t' q : Nat} (ho : o.op = .call { callee := .builtin .len, args := #[x], argTypes := #[t] }) (ht : elemT P t = some q) (hx : okA x y = true)
    (he : ev1 key σ.ev σ (.len t' y) = some e) (hc : cond true σ.ev σ (.len t' y)) : Does P I σ g a w o e := by
  have v1 := opd hR hx hc
  have run : ∀ q m c, a.eval x = .slice q m c → (execOp a.eval o).run P w = .ok (.value (.int .i64 m)) w := fun q m c hh => by
    simp [execOp, ho, resolve, invoke, builtin, Builtin.len_, hh, run_underlying (elemT_spec ht), goInt]
  simp only [ev1] at he
  split at he
  · rename_i k t1 et
    rw [et] at v1
    split at he
    · rename_i htg
      have e1 := (v1 (by simp)).2.2 (by rw [hR.tags]; exact htg)
      split at he
      · rename_i eo
        cases he
        obtain ⟨arr, c, hr, _⟩ := hR.obs k _ eo
        exact does_quiet hR rfl rfl (run _ _ _ (e1.1.trans hr)) (RV2_mk rfl)
      · rename_i eo
        cases he
        obtain ⟨q, c, hr, _⟩ := RD_len (hR.obs k _ eo).1
        exact does_quiet hR rfl rfl (run _ _ _ (e1.1.trans hr)) (RV2_mk rfl)
      · cases he
    · cases he
  · rename_i et
    cases he
    rw [et] at v1
    obtain ⟨q, c, hr, _⟩ := RD_len (v1 (by simp))
    exact does_quiet hR rfl rfl (run _ _ _ hr) (RV2_mk rfl)
  · rename_i et
    cases he
    rw [et] at v1
    obtain ⟨q, c, hr, _⟩ := RD_len (v1 (by simp)).1
    exact does_quiet hR rfl rfl (run _ _ _ hr) (RV2_mk rfl)
  · cases he

end Go.Abs
