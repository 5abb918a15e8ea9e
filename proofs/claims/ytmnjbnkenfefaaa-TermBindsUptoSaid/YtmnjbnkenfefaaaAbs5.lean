/- THIS TEXT PROVES A PART OF A CALCULUS THAT TELLS WHAT A LOADED GO FUNCTION DOES WITHOUT NAMING MEMORY: each rule is proved against the machine, for every program and every world; its conditions stand in each theorem. -/
import Derived.Test.YtmnjbnkenfefaaaAbs4
set_option linter.unusedVariables false
set_option linter.unusedSimpArgs false
namespace Go.Abs

variable {P : Program} {I : Init} {n : Nat} {σ : St} {g : Gh} {a : Act} {w : World} {o : Oper} {e : Eff} {key : Nat}

theorem opd (hR : Rel I n σ g a w) {x : Operand} {y : SArg} (h : okA x y = true) (hg : gok true (σ.ev y)) : RV2 g w (un (σ.ev y)) (a.eval x) := RV_un (okA_spec hR h) hg

theorem RV2_v {x y : Value} (h : RV2 g w (.c (.v x)) y) : y = x := by
  have := h (by simp)
  cases this; rfl
theorem RV2_mk {x : Value} (h : x.oneCell' = true) : RV2 g w (.c (.v x)) x := fun _ => .v x h

theorem s_mv (hR : Rel I n σ g a w) {x : Operand} {y : SArg} (ho : o.op = .move x ∨ o.op = .assign x) (hx : okA x y = true) (he : ev1 key σ.ev σ (.mv y) = some e) (hc : cond true σ.ev σ (.mv y)) : Does P I σ g a w o e := by
  simp only [ev1, Option.some.injEq] at he
  subst he
  refine does_quiet hR rfl rfl (v := a.eval x) ?_ (opd hR hx hc)
  rcases ho with ho | ho <;> simp [execOp, ho]

theorem pickv_spec {t : Bool} {x y : AV} {u v : Value} (h1 : t = true → RV2 g w x u) (h2 : t = false → RV2 g w y v) : RV2 g w (pickv t x y) (if t then u else v) := by
  have gen : RV2 g w (if t then x else y) (if t then u else v) := by
    cases t
    · simpa using h2 rfl
    · simpa using h1 rfl
  unfold pickv
  split
  · rename_i p q
    cases t
    · have := RV2_v (h2 rfl); subst this; exact RV2_mk rfl
    · have := RV2_v (h1 rfl); subst this; exact RV2_mk rfl
  · exact gen

theorem s_pick (hR : Rel I n σ g a w) {x1 x2 x3 : Operand} {y1 y2 y3 : SArg} (ho : o.op = .pick x1 x2 x3) (h1 : okA x1 y1 = true) (h2 : okA x2 y2 = true) (h3 : okA x3 y3 = true)
    (he : ev1 key σ.ev σ (.pick y1 y2 y3) = some e) (hc : cond true σ.ev σ (.pick y1 y2 y3)) : Does P I σ g a w o e := by
  have v1 := opd hR h1 hc.1
  have hc2 := hc.2
  simp only [ev1] at he
  split at he
  · rename_i t et
    simp only [Option.some.injEq] at he
    subst he
    rw [et] at v1
    have e1 := RV2_v v1
    simp only [et, Bool.true_and] at hc2
    refine does_quiet hR rfl rfl (v := if t then a.eval x2 else a.eval x3) ?_ (pickv_spec (fun ht => ?_) (fun ht => ?_))
    · simp [execOp, ho, e1, asBool]
    · subst ht; exact opd hR h2 (by simpa using hc2.1)
    · subst ht; exact opd hR h3 (by simpa using hc2.2)
  · cases he

theorem s_nilc (hR : Rel I n σ g a w) {x : Operand} {y : SArg} (ho : o.op = .nilCheck x) (hx : okA x y = true) (he : ev1 key σ.ev σ (.nilc y) = some e) (hc : cond true σ.ev σ (.nilc y)) : Does P I σ g a w o e := by
  have v1 := opd hR hx hc
  simp only [ev1] at he
  split at he
  · rename_i k t off et
    split at he
    · rename_i ht
      simp only [Option.some.injEq] at he
      subst he
      rw [et] at v1
      have e1 := (v1 (by simp)).2.2 (by rw [hR.tags]; exact ht)
      simp only [ptr] at e1
      exact does_quiet hR rfl rfl (v := a.eval x) (by simp [execOp, ho, e1]) v1
    · cases he
  · rename_i cs j et
    simp only [Option.some.injEq] at he
    subst he
    rw [et] at v1
    obtain ⟨ad, e1, _⟩ := v1 (by simp)
    exact does_quiet hR rfl rfl (v := a.eval x) (by simp [execOp, ho, e1]) v1
  · cases he

theorem s_not (hR : Rel I n σ g a w) {x : Operand} {y : SArg} {t : TypeId} (ho : o.op = .unOp .not t x) (hx : okA x y = true) (he : ev1 key σ.ev σ (.not y) = some e) (hc : cond true σ.ev σ (.not y)) : Does P I σ g a w o e := by
  have v1 := opd hR hx hc
  simp only [ev1] at he
  split at he
  · rename_i b et
    simp only [Option.some.injEq] at he
    subst he
    rw [et] at v1
    have e1 := RV2_v v1
    exact does_quiet hR rfl rfl (v := .bool (!b)) (by simp [execOp, ho, e1, Op.unary]) (RV2_mk rfl)
  · cases he

theorem s_neg (hR : Rel I n σ g a w) {x : Operand} {y : SArg} {t : TypeId} (ho : o.op = .unOp .neg t x) (hx : okA x y = true) (he : ev1 key σ.ev σ (.neg y) = some e) (hc : cond true σ.ev σ (.neg y)) : Does P I σ g a w o e := by
  have v1 := opd hR hx hc
  simp only [ev1] at he
  split at he
  · rename_i k m et
    simp only [Option.some.injEq] at he
    subst he
    rw [et] at v1
    have e1 := RV2_v v1
    exact does_quiet hR rfl rfl (v := .int k (k.wrap (0 - m))) (by simp [execOp, ho, e1, Op.unary, Op.intArith]) (RV2_mk rfl)
  · cases he

theorem s_conv (hR : Rel I n σ g a w) {x : Operand} {y : SArg} {t u t' u' : TypeId} {k : IntKind} (ho : o.op = .convert t u x) (hx : okA x y = true) (ht : (P.underlying t).isSome = true) (hu : P.underlying u = some (.int k))
    (he : ev1 key σ.ev σ (.conv t' u' k y) = some e) (hc : cond true σ.ev σ (.conv t' u' k y)) : Does P I σ g a w o e := by
  have v1 := opd hR hx hc
  obtain ⟨d, hd⟩ := Option.isSome_iff_exists.1 ht
  simp only [ev1] at he
  split at he
  · rename_i k' m et
    simp only [Option.some.injEq] at he
    subst he
    rw [et] at v1
    have e1 := RV2_v v1
    refine does_quiet hR rfl rfl (v := .int k (k.wrap m)) ?_ (RV2_mk rfl)
    have : (convert t u (.int k' m)).run P w = .ok (.int k (k.wrap m)) w := by
      cases d <;> simp [convert, run_underlying hd, run_underlying hu, Conv.intToInt]
    simp [execOp, ho, e1, this]
  · cases he

theorem binV_spec {op : BinOp} {t : TypeId} {x y v : Value} (h : binV op x y = some v) (hq : (op = .quo ∨ op = .rem) → ∀ k b, y = .int k b → b ≠ 0) : (binOp op t x y).run P w = .ok v w ∧ v.oneCell' = true := by
  unfold binV at h
  split at h
  · rename_i k p k' q
    split at h
    · rename_i hk
      subst hk
      cases op <;> simp at h <;> subst h <;> first
        | (refine ⟨?_, rfl⟩; simp [binOp, Op.intArith]; done)
        | (refine ⟨?_, rfl⟩; simp [binOp, Op.intCmp]; done)
        | (refine ⟨?_, rfl⟩; have := hq (by simp) _ _ rfl; simp [binOp, Op.intDiv, this]; done)
    · cases h
  · cases h

theorem eqGuard_int {op : BinOp} {t : TypeId} {x y : Operand} {k k' : IntKind} {p q : Int} : (eqGuard op t x y (.int k p) (.int k' q)).run P w = .ok () w := by
  cases op <;> simp [eqGuard]
theorem eqGuard_bool {op : BinOp} {t : TypeId} {x y : Operand} {p q : Bool} : (eqGuard op t x y (.bool p) (.bool q)).run P w = .ok () w := by
  cases op <;> simp [eqGuard]

theorem s_bin (hR : Rel I n σ g a w) {op : BinOp} {t u : TypeId} {x1 x2 : Operand} {y1 y2 : SArg} (ho : o.op = .binOp op t x1 x2 u) (h1 : okA x1 y1 = true) (h2 : okA x2 y2 = true)
    (he : ev1 key σ.ev σ (.bin op y1 y2) = some e) (hc : cond true σ.ev σ (.bin op y1 y2)) : Does P I σ g a w o e := by
  have v1 := opd hR h1 hc.1
  have v2 := opd hR h2 hc.2.1
  have hc3 := hc.2.2
  simp only [ev1] at he
  split at he
  · rename_i p q e1 e2
    split at he
    · rename_i v ev
      simp only [Option.some.injEq] at he
      subst he
      rw [e1] at v1
      rw [e2] at v2
      have f1 := RV2_v v1
      have f2 := RV2_v v2
      have hs := binV_spec (P := P) (w := w) (t := t) ev (fun hop k b hb => by
        subst hb
        rcases hop with rfl | rfl
        · simpa [e2] using hc3
        · simpa [e2] using hc3)
      refine does_quiet hR rfl rfl (v := v) ?_ (RV2_mk hs.2)
      have hg : ∃ k p' k' q', p = .int k p' ∧ q = .int k' q' := by
        unfold binV at ev
        split at ev
        · exact ⟨_, _, _, _, rfl, rfl⟩
        · cases ev
      obtain ⟨k, p', k', q', rfl, rfl⟩ := hg
      simp [execOp, ho, f1, f2, eqGuard_int, hs.1]
    · cases he
  · cases he

theorem s_beq (hR : Rel I n σ g a w) {neg : Bool} {t u : TypeId} {x1 x2 : Operand} {y1 y2 : SArg} (ho : o.op = .binOp (if neg then .neq else .eql) t x1 x2 u) (ht : P.underlying t = some .bool) (h1 : okA x1 y1 = true) (h2 : okA x2 y2 = true)
    (he : ev1 key σ.ev σ (.beq neg t y1 y2) = some e) (hc : cond true σ.ev σ (.beq neg t y1 y2)) : Does P I σ g a w o e := by
  have v1 := opd hR h1 hc.1
  have v2 := opd hR h2 hc.2
  simp only [ev1] at he
  split at he
  · rename_i p q e1 e2
    simp only [Option.some.injEq] at he
    subst he
    rw [e1] at v1
    rw [e2] at v2
    have f1 := RV2_v v1
    have f2 := RV2_v v2
    refine does_quiet hR rfl rfl (v := .bool (if neg then p != q else p == q)) ?_ (RV2_mk rfl)
    have heq : (Op.equal t (.bool p) (.bool q)).run P w = .ok (p == q) w := by
      show (Op.equalIn (9999 + 1) t (.bool p) (.bool q)).run P w = _
      unfold Op.equalIn
      simp [run_underlying ht]
    cases neg
    · simp [execOp, ho, f1, f2, eqGuard_bool, binOp, heq]
    · simp [execOp, ho, f1, f2, eqGuard_bool, binOp, heq]
      cases p <;> cases q <;> rfl
  · cases he

end Go.Abs
