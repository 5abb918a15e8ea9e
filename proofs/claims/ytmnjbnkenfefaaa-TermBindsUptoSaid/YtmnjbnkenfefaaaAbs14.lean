/- THIS TEXT PROVES A PART OF A CALCULUS THAT TELLS WHAT A LOADED GO FUNCTION DOES WITHOUT NAMING MEMORY: each rule is proved against the machine, for every program and every world; its conditions stand in each theorem. -/
import Derived.Test.YtmnjbnkenfefaaaAbs13
set_option linter.unusedVariables false
set_option linter.unusedSimpArgs false
namespace Go.Abs

variable {P : Program} {I : Init} {n : Nat} {σ : St} {g g' : Gh} {a : Act} {w w' : World} {o : Oper} {e : Eff} {key : Nat}

def okL : List Operand → List SArg → Bool
  | [], [] => true
  | x :: xs, y :: ys => okA x y && okL xs ys
  | _, _ => false
theorem okL_spec : ∀ {xs : List Operand} {ys : List SArg}, okL xs ys = true → All2 (fun x y => okA x y = true) xs ys
  | [], [], _ => trivial
  | x :: xs, y :: ys, h => by simp [okL] at h; exact ⟨h.1, okL_spec h.2⟩
  | [], _ :: _, h => by simp [okL] at h
  | _ :: _, [], h => by simp [okL] at h

def isBoolT (P : Program) (t : Nat) : Bool := match P.underlying t with
  | some .bool => true
  | _ => false
def isIntT (P : Program) (t : Nat) (k : IntKind) : Bool := match P.underlying t with
  | some (.int k') => decide (k' = k)
  | _ => false
def zeroAny (P : Program) (t : Nat) : Bool := match P.info? t with
  | some i => i.zero.isSome
  | none => false
theorem isBoolT_spec {t : Nat} (h : isBoolT P t = true) : P.underlying t = some .bool := by
  unfold isBoolT at h
  split at h
  · rename_i e; exact e
  · cases h
theorem isIntT_spec {t : Nat} {k : IntKind} (h : isIntT P t k = true) : P.underlying t = some (.int k) := by
  unfold isIntT at h
  split at h
  · rename_i k' e; simp at h; subst h; exact e
  · cases h
theorem zeroAny_spec {t : Nat} (h : zeroAny P t = true) : ∃ z, ∀ w : World, (zeroValue t).run P w = .ok z w := by
  unfold zeroAny at h
  split at h
  · rename_i i hi
    obtain ⟨z, hz⟩ := Option.isSome_iff_exists.1 h
    exact ⟨z, fun w => by simp [zeroValue, typeInfo, hi, hz]⟩
  · cases h

/-- A field at its place. -/
def okF (P : Program) (t i off : Nat) (f : Nat → Bool) : Bool := match fldT P t i with
  | some (off', u) => decide (off' = off) && f u
  | none => false
theorem okF_spec {t i off : Nat} {f : Nat → Bool} (h : okF P t i off f = true) : ∃ u, fldT P t i = some (off, u) ∧ f u = true := by
  unfold okF at h
  split at h
  · rename_i off' u e; simp at h; obtain ⟨rfl, h⟩ := h; exact ⟨u, e, h⟩
  · cases h

def okOp (P : Program) : Op → SOp → Bool
  | .move x, .mv y => okA x y
  | .assign x, .mv y => okA x y
  | .pick x1 x2 x3, .pick y1 y2 y3 => okA x1 y1 && okA x2 y2 && okA x3 y3
  | .box t x, .box t' y => decide (t = t') && okA x y
  | .alloc t, .alloc t' zs => decide (t = t') && zeroOK P t zs
  | .build t ps, .build _ zs qs => zeroOK P t zs && fldsOK P t && okPs P t ps.toList qs
  | .buildSlice t len ps, .lit ty sz _ ys => decide (elemT P t = some ty) && decide (szT P ty = some sz) && decide (0 < sz) && decide (len = ys.length) && zeroAny P ty && okLit 0 ps.toList ys
  | .load t x, .ld1 _ y => okA x y && decide (aggT P t = some false)
  | .load t x, .ldn _ m y => okA x y && decide (aggT P t = some true) && decide (szT P t = some m)
  | .store t x1 x2, .st1 _ y1 y2 => okA x1 y1 && okA x2 y2 && decide (szT P t = some 1)
  | .store t x1 x2, .stn _ m y1 y2 => okA x1 y1 && okA x2 y2 && decide (szT P t = some m)
  | .nilCheck x, .nilc y => okA x y
  | .binOp op _ x1 x2 _, .bin op' y1 y2 => decide (op = op') && okA x1 y1 && okA x2 y2
  | .binOp op t x1 x2 _, .beq neg t' y1 y2 => decide (op = if neg then .neq else .eql) && decide (t = t') && isBoolT P t && okA x1 y1 && okA x2 y2
  | .unOp .not _ x, .not y => okA x y
  | .unOp .neg _ x, .neg y => okA x y
  | .convert t u x, .conv _ _ k y => okA x y && (P.underlying t).isSome && isIntT P u k
  | .makeFunc (.func f) xs1 xs2, .mkfn f' ys1 ys2 => decide (f = f') && okL xs1.toList ys1 && okL xs2.toList ys2
  | .makeSlice t x1 x2, .mk ty sz bs zs y => okA x1 y && okA x2 y && decide (elemT P t = some ty) && decide (szT P ty = some sz) && decide (0 < sz) && decide (bsT P ty = some bs) && decide (0 < bs) && zeroOK P ty zs && decide (zs.length = sz)
  | .slice t x lo hi mx, .slc ty sz _ y lo' hi' mx' => okA x y && okO lo lo' && okO hi hi' && okO mx mx' && (!mx'.isSome || hi'.isSome) && decide (elemT P t = some ty) && decide (szT P ty = some sz)
  | .fieldAddr t x i, .fad _ i' off y => decide (i = i') && okA x y && okF P t i off (fun u => match szT P u with | some m => decide (m ≠ 0) | none => false)
  | .field t x i, .fld1 _ i' off y => decide (i = i') && okA x y && okF P t i off (fun u => decide (aggT P u = some false))
  | .field t x i, .fldn _ i' off m y => decide (i = i') && okA x y && okF P t i off (fun u => decide (aggT P u = some true) && decide (szT P u = some m))
  | .indexAddr t x1 x2, .iad ty sz y1 y2 => okA x1 y1 && okA x2 y2 && decide (elemT P t = some ty) && decide (szT P ty = some sz) && decide (0 < sz)
  | .extract x i, .ext y i' => decide (i = i') && okA x y
  | .call c, so => match c, so with
    | ⟨.builtin .len, xs, ts⟩, .len _ y => (match xs.toList, ts.toList with | [x], [t] => okA x y && (elemT P t).isSome | _, _ => false)
    | ⟨.builtin .append, xs, ts⟩, .app ty sz bs y1 y2 => (match xs.toList, ts.toList with
      | [x1, x2], [t, t'] => decide (t = t') && okA x1 y1 && okA x2 y2 && decide (elemT P t = some ty) && decide (szT P ty = some sz) && decide (0 < sz) && decide (bsT P ty = some bs) && decide (0 < bs) && (match P.info? ty with | some i => (match i.zero with | some z => decide (z.cells.size = sz) | none => false) | none => false)
      | _, _ => false)
    | ⟨.builtin .max, xs, _⟩, .best true ys => okL xs.toList ys
    | ⟨.builtin .min, xs, _⟩, .best false ys => okL xs.toList ys
    | _, _ => false
  | _, _ => false

theorem arr_eq {α : Type} {xs : Array α} {l : List α} (h : xs.toList = l) : xs = l.toArray := by rw [← h]

theorem okOp_spec (hR : Rel I n σ g a w) {so : SOp} (hok : okOp P o.op so = true) (he : ev1 key σ.ev σ so = some e) (hc : cond true σ.ev σ so) : Does P I σ g a w o e := by
  unfold okOp at hok
  split at hok
  · rename_i e1; exact s_mv hR (.inl e1) hok he hc
  · rename_i e1; exact s_mv hR (.inr e1) hok he hc
  · rename_i e1; simp at hok; exact s_pick hR e1 hok.1.1 hok.1.2 hok.2 he hc
  · rename_i e1; simp at hok; obtain ⟨rfl, h⟩ := hok; exact s_box hR e1 h he hc
  · rename_i e1; simp at hok; obtain ⟨rfl, h⟩ := hok; exact s_alloc hR e1 h he
  · rename_i e1; simp at hok; exact s_build hR e1 hok.1.1 hok.1.2 hok.2 he hc
  · rename_i e1; simp at hok; obtain ⟨⟨⟨⟨⟨h1, h2⟩, h3⟩, h4⟩, h5⟩, h6⟩ := hok; exact s_lit hR e1 h1 h2 h3 h4 (zeroAny_spec h5) h6 he hc
  · rename_i e1; simp at hok; exact s_ld1 hR e1 hok.1 hok.2 he hc
  · rename_i e1; simp at hok; exact s_ldn hR e1 hok.1.1 hok.1.2 hok.2 he hc
  · rename_i e1; simp at hok; exact s_st1 hR e1 hok.1.1 hok.1.2 hok.2 he hc
  · rename_i e1; simp at hok; exact s_stn hR e1 hok.1.1 hok.1.2 hok.2 he hc
  · rename_i e1; exact s_nilc hR e1 hok he hc
  · rename_i e1; simp at hok; obtain ⟨⟨rfl, h1⟩, h2⟩ := hok; exact s_bin hR e1 h1 h2 he hc
  · rename_i e1; simp at hok; obtain ⟨⟨⟨⟨rfl, rfl⟩, h1⟩, h2⟩, h3⟩ := hok; exact s_beq hR e1 (isBoolT_spec h1) h2 h3 he hc
  · rename_i e1; exact s_not hR e1 hok he hc
  · rename_i e1; exact s_neg hR e1 hok he hc
  · rename_i e1; simp at hok; obtain ⟨⟨h1, h2⟩, h3⟩ := hok; exact s_conv hR e1 h1 h2 (isIntT_spec h3) he hc
  · rename_i e1; simp at hok; obtain ⟨⟨rfl, h1⟩, h2⟩ := hok; exact s_mkfn hR e1 (okL_spec h1) (okL_spec h2) he hc
  · rename_i e1; simp at hok; obtain ⟨⟨⟨⟨⟨⟨⟨⟨h1, h2⟩, h3⟩, h4⟩, h5⟩, h6⟩, h7⟩, h8⟩, h9⟩ := hok; exact s_mk hR e1 h1 h2 h3 h4 h5 h6 h7 h8 h9 he hc
  · rename_i e1; simp at hok; obtain ⟨⟨⟨⟨⟨⟨h1, h2⟩, h3⟩, h4⟩, h5⟩, h6⟩, h7⟩ := hok
    refine s_slc hR e1 h1 h2 h3 h4 (fun h => ?_) h6 h7 he hc
    rcases h5 with h5 | h5
    · rw [h5] at h; cases h
    · exact h5
  · rename_i e1; simp at hok; obtain ⟨⟨rfl, h1⟩, h2⟩ := hok
    obtain ⟨u, u1, u2⟩ := okF_spec h2
    split at u2
    · rename_i m em; simp at u2; exact s_fad hR e1 h1 u1 em u2 he hc
    · cases u2
  · rename_i e1; simp at hok; obtain ⟨⟨rfl, h1⟩, h2⟩ := hok
    obtain ⟨u, u1, u2⟩ := okF_spec h2
    simp at u2
    exact s_fld1 hR e1 h1 u1 u2 he hc
  · rename_i e1; simp at hok; obtain ⟨⟨rfl, h1⟩, h2⟩ := hok
    obtain ⟨u, u1, u2⟩ := okF_spec h2
    simp at u2
    exact s_fldn hR e1 h1 u1 u2.1 u2.2 he hc
  · rename_i e1; simp at hok; obtain ⟨⟨⟨⟨h1, h2⟩, h3⟩, h4⟩, h5⟩ := hok; exact s_iad hR e1 h1 h2 h3 h4 h5 he hc
  · rename_i e1; simp at hok; obtain ⟨rfl, h1⟩ := hok; exact s_ext hR e1 h1 he hc
  · rename_i c so e1
    split at hok
    · rename_i xs ts t' y
      split at hok
      · rename_i x t ex et
        simp at hok
        rw [arr_eq ex, arr_eq et] at e1
        obtain ⟨q, hq⟩ := Option.isSome_iff_exists.1 hok.2
        exact s_len hR e1 hq hok.1 he hc
      · cases hok
    · rename_i xs ts ty sz bs y1 y2
      split at hok
      · rename_i x1 x2 t t' ex et
        simp at hok
        obtain ⟨⟨⟨⟨⟨⟨⟨⟨rfl, h1⟩, h2⟩, h3⟩, h4⟩, h5⟩, h6⟩, h7⟩, h8⟩ := hok
        rw [arr_eq ex, arr_eq et] at e1
        refine s_app hR e1 h1 h2 h3 h4 h5 h6 h7 ?_ he hc
        split at h8
        · rename_i i hi
          split at h8
          · rename_i z hz; exact ⟨i, z, hi, hz, by simpa using h8⟩
          · cases h8
        · cases h8
      · cases hok
    · rename_i xs ts ys
      exact s_best (mx := true) hR e1 (okL_spec hok) he hc
    · rename_i xs ts ys
      exact s_best (mx := false) hR e1 (okL_spec hok) he hc
    · cases hok
  · cases hok

end Go.Abs
