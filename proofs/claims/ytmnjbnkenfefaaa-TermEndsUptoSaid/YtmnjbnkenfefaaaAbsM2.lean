/- THIS TEXT PROVES A PART OF A CALCULUS THAT TELLS WHAT A LOADED GO FUNCTION DOES WITHOUT NAMING MEMORY: each rule is proved against the machine, for every program and every world; its conditions stand in each theorem. -/
import Derived.Test.YtmnjbnkenfefaaaAbsM1
set_option linter.unusedVariables false
set_option linter.unusedSimpArgs false
namespace Go.Abs

variable {P : Program} {base : Nat} {σ : St} {key : Nat} {ρ : SArg → AV} {β : Bool}

/-! ### a region in any order, in which one object is laid that no other operation looks at -/
structure FX where
  anc : List Nat
  n : Nat
  i0 : Nat
  kf : List Nat

def FX.rel (X : FX) (i : Nat) : Bool := (X.anc.getD X.i0 0).testBit i || (X.anc.getD i 0).testBit X.i0
def okF' (X : FX) (base i : Nat) (so : SO) (σ : St) (e : Eff) : Prop := bar X.anc X.n i = true ∨ (i = X.i0 ∧ ∀ k, k ∈ wrote e → k ∈ X.kf) ∨ (wrote e = [] ∧ (X.rel i = true ∨ ∀ k, k ∈ X.kf → k ∉ lkOf base so σ e))
def W1F (P : Program) (base : Nat) (X : FX) (i : Nat) (so : SO) (σ : St) (K : St → Prop) : Prop := ∃ e, SemO P base so σ e ∧ okF' X base i so σ e ∧ K (σ.ap so.dst e)
def WDF (P : Program) (base : Nat) (X : FX) : Nat → List SO → St → (St → Prop) → Prop
  | _, [], σ, K => K σ
  | i, so :: l, σ, K => W1F P base X i so σ fun σ' => WDF P base X (i + 1) l σ' K

theorem fineW_F {X : FX} {tr : List TE} (h1 : ∀ x, x ∈ tr → x.i < X.n) (h2 : ∀ x, x ∈ tr → bar X.anc X.n x.i = true ∨ (x.i = X.i0 ∧ ∀ k, k ∈ x.wr → k ∈ X.kf) ∨ (x.wr = [] ∧ (X.rel x.i = true ∨ ∀ k, k ∈ X.kf → k ∉ x.lk))) : fineW X.anc tr = true := by
  have hbar : ∀ x y, x ∈ tr → y ∈ tr → bar X.anc X.n x.i = true → x.i = y.i ∨ (X.anc.getD y.i 0).testBit x.i = true ∨ (X.anc.getD x.i 0).testBit y.i = true := fun x y hx hy h => by
    simp only [bar, List.all_eq_true, List.mem_range] at h
    have := h y.i (h1 y hy)
    simp only [Bool.or_eq_true, decide_eq_true_eq] at this
    rcases this with (h' | h') | h'
    · exact .inl h'
    · exact .inr (.inr h')
    · exact .inr (.inl h')
  simp only [fineW, List.all_eq_true, List.mem_filter]
  rintro x ⟨hx, hw⟩ y hy
  simp only [Bool.or_eq_true, decide_eq_true_eq]
  rcases h2 x hx with h | ⟨hi, hwr⟩ | ⟨h, _⟩
  · rcases hbar x y hx hy h with h' | h' | h'
    · exact .inl (.inl (.inl h'))
    · exact .inl (.inl (.inr h'))
    · exact .inl (.inr h')
  · rcases h2 y hy with h | ⟨hj, _⟩ | ⟨hyw, hyl⟩
    · rcases hbar y x hy hx h with h' | h' | h'
      · exact .inl (.inl (.inl h'.symm))
      · exact .inl (.inr h')
      · exact .inl (.inl (.inr h'))
    · exact .inl (.inl (.inl (hi.trans hj.symm)))
    · rcases hyl with hyr | hyl
      · rw [hi]
        simp only [FX.rel, Bool.or_eq_true] at hyr
        rcases hyr with h' | h'
        · exact .inl (.inr h')
        · exact .inl (.inl (.inr h'))
      refine .inr ?_
      simp only [kOK, hyw, List.all_nil, Bool.and_true, List.all_eq_true]
      intro k hk
      simpa using hyl k (hwr k hk)
  · rw [h] at hw; simp at hw

theorem WDF_WD {X : FX} {K : St → Prop} : ∀ {l : List SO} {i : Nat} {σ : St} {tr : List TE}, i + l.length = X.n → (∀ x, x ∈ tr → x.i < X.n) → (∀ x, x ∈ tr → bar X.anc X.n x.i = true ∨ (x.i = X.i0 ∧ ∀ k, k ∈ x.wr → k ∈ X.kf) ∨ (x.wr = [] ∧ (X.rel x.i = true ∨ ∀ k, k ∈ X.kf → k ∉ x.lk))) →
    WDF P base X i l σ K → WD P base X.anc i l σ tr K
  | [], i, σ, tr, _, h1, h2, h => ⟨fineW_F (by simpa using h1) (by simpa using h2), h⟩
  | so :: l, i, σ, tr, hn, h1, h2, ⟨e, h3, h4, h5⟩ => by
    refine ⟨e, h3, WDF_WD (by simp at hn; omega) (fun x hx => ?_) (fun x hx => ?_) h5⟩
    · rcases List.mem_cons.1 hx with rfl | hx
      · simp at hn ⊢; omega
      · exact h1 x hx
    · rcases List.mem_cons.1 hx with rfl | hx
      · exact h4
      · exact h2 x hx

theorem W_dregF {anc : List Nat} {l : List SO} {Q : SEx → St → Prop} (i0 : Nat) (kf : List Nat) (h : WDF P base ⟨anc, l.length, i0, kf⟩ 0 l σ (realC Q)) : W P base (.dreg anc l) σ Q :=
  WDF_WD (X := ⟨anc, l.length, i0, kf⟩) (by simp) (by simp) (by simp) h

/-- What an operation looks at, as a list of values. -/
def seesF (kf : List Nat) (own : Nat) (xs : List AV) (rd : List Nat) : Prop := own ∉ kf ∧ (∀ x, x ∈ xs → ∀ k, k ∈ (un x).keys2 → k ∉ kf) ∧ ∀ k, k ∈ rd → k ∉ kf
theorem sees_lk {X : FX} {so : SO} {e : Eff} (h : seesF X.kf (base + so.dst.getD 0) (so.op.args.map σ.ev) e.rd) (hw : wrote e = []) : ∀ k, k ∈ X.kf → k ∉ lkOf base so σ e := by
  obtain ⟨h1, h2, h3⟩ := h
  intro k hk
  simp only [lkOf, hw, List.append_nil, List.mem_cons, List.mem_append, not_or]
  refine ⟨fun h => h1 (h ▸ hk), ?_, fun h => h3 k h hk⟩
  simp only [opKeys, List.mem_flatMap, not_exists, not_and]
  exact fun x hx hm => h2 _ (List.mem_map_of_mem hx) k hm hk

/-- The evaluation's own form: one operation. -/
def WEF (P : Program) (base : Nat) (X : FX) (i : Nat) (o : Option Eff) (c : Prop) (xs : List AV) (σ : St) (d : Option Nat) (K : St → Prop) : Prop :=
  ∃ e, o = some e ∧ c ∧ (bar X.anc X.n i = true ∨ (i = X.i0 ∧ ∀ k, k ∈ wrote e → k ∈ X.kf) ∨ (wrote e = [] ∧ (X.rel i = true ∨ seesF X.kf (base + d.getD 0) xs e.rd))) ∧ K (σ.ap d e)
theorem W1F_of {X : FX} {i : Nat} {d : Option Nat} {op : SOp} {K : St → Prop} (hc : op.isCall = false) (h : WEF P base X i (ev1 (base + d.getD 0) σ.ev σ op) (cond true σ.ev σ op) (op.args.map σ.ev) σ d K) : W1F P base X i ⟨d, none, op⟩ σ K := by
  obtain ⟨e, he, hcd, ho, hK⟩ := h
  refine ⟨e, ⟨true, rfl, ?_⟩, ?_, hK⟩
  · cases op <;> first
      | (simp [SOp.isCall] at hc; done)
      | exact ⟨_, he, hcd, fun h => absurd rfl h, rfl⟩
  · rcases ho with h | h | ⟨h1, h2⟩
    · exact .inl h
    · exact .inr (.inl h)
    · exact .inr (.inr ⟨h1, h2.imp id fun h2 => sees_lk (so := ⟨d, none, op⟩) h2 h1⟩)

def FCall (P : Program) (base : Nat) (X : FX) (i : Nat) (fv : AV) (xs : List AV) (σ : St) (d : Option Nat) (K : St → Prop) : Prop :=
  (∃ fn res, CallSem P σ true fv xs fn [] [] [] [] res [] ∧ (X.rel i = true ∨ seesF X.kf (base + d.getD 0) (fv :: xs) []) ∧ K (σ.ap d ⟨res, [], [], []⟩)) ∨
  ∃ fn k1 k2 ins outs res, CallSem P σ true fv xs fn k1 k2 ins outs res [] ∧ i = X.i0 ∧ (∀ k, k ∈ outs.map (·.1) → k ∈ X.kf) ∧ K (σ.ap d ⟨res, [], objsOf outs, ins.map (·.1)⟩)
def W1E (P : Program) (base : Nat) (X : FX) (i : Nat) (so : SO) (σ : St) (K : St → Prop) : Prop := match so with
  | ⟨d, none, .call f xs⟩ => FCall P base X i (σ.ev f) (xs.map σ.ev) σ d K
  | ⟨d, none, op⟩ => WEF P base X i (ev1 (base + d.getD 0) σ.ev σ op) (cond true σ.ev σ op) (op.args.map σ.ev) σ d K
  | ⟨_, some _, _⟩ => False
def WDE (P : Program) (base : Nat) (X : FX) : Nat → List SO → St → (St → Prop) → Prop
  | _, [], σ, K => K σ
  | i, so :: l, σ, K => W1E P base X i so σ fun σ' => WDE P base X (i + 1) l σ' K

theorem W1E_F {X : FX} {i : Nat} {so : SO} {K : St → Prop} (h : W1E P base X i so σ K) : W1F P base X i so σ K := by
  obtain ⟨d, gd, op⟩ := so
  cases gd with
  | some g => cases op <;> exact h.elim
  | none =>
    cases op
    case call f xs =>
      rcases h with ⟨fn, res, h1, h2, h3⟩ | ⟨fn, k1, k2, ins, outs, res, h1, h2, h3, h4⟩
      · exact ⟨⟨res, [], [], []⟩, ⟨true, rfl, fn, [], [], [], [], res, [], h1, fun h => absurd rfl h, rfl⟩, .inr (.inr ⟨rfl, h2.imp id fun h2 => sees_lk (so := ⟨d, none, .call f xs⟩) h2 rfl⟩), h3⟩
      · refine ⟨_, ⟨true, rfl, fn, k1, k2, ins, outs, res, [], h1, fun h => absurd rfl h, rfl⟩, .inr (.inl ⟨h2, fun k hk => h3 k ?_⟩), h4⟩
        simpa [wrote, objsOf, Function.comp_def] using hk
    all_goals exact W1F_of rfl h
theorem WDE_F {X : FX} {K : St → Prop} : ∀ {l : List SO} {i : Nat} {σ : St}, WDE P base X i l σ K → WDF P base X i l σ K
  | [], _, _, h => h
  | so :: l, i, σ, h => by
    obtain ⟨e, h1, h2, h3⟩ := W1E_F h
    exact ⟨e, h1, h2, WDE_F h3⟩
theorem W_dregE {anc : List Nat} {l : List SO} {Q : SEx → St → Prop} (i0 : Nat) (kf : List Nat) (h : WDE P base ⟨anc, l.length, i0, kf⟩ 0 l σ (realC Q)) : W P base (.dreg anc l) σ Q := W_dregF i0 kf (WDE_F h)

def eC (P : Program) (base : Nat) (X : FX) (i : Nat) (l : List SO) (K : St → Prop) (σ : St) : Prop := WDE P base X i l σ K
@[simp] theorem eC_ap (X : FX) (i : Nat) (l : List SO) (K : St → Prop) : eC P base X i l K σ = WDE P base X i l σ K := rfl
@[simp] theorem WDE_nil (X : FX) (i : Nat) (K : St → Prop) : WDE P base X i [] σ K = K σ := rfl
@[simp] theorem WDE_call (X : FX) (i : Nat) (d : Option Nat) (f : SArg) (xs : List SArg) (l : List SO) (K : St → Prop) : WDE P base X i (⟨d, none, .call f xs⟩ :: l) σ K = FCall P base X i (σ.ev f) (xs.map σ.ev) σ d (eC P base X (i + 1) l K) := rfl
theorem W1E_op (X : FX) (i : Nat) (d : Option Nat) (op : SOp) (K : St → Prop) (h : op.isCall = false) : W1E P base X i ⟨d, none, op⟩ σ K = WEF P base X i (ev1 (base + d.getD 0) σ.ev σ op) (cond true σ.ev σ op) (op.args.map σ.ev) σ d K := by
  cases op <;> first
    | (simp [SOp.isCall] at h; done)
    | rfl
def W1E' (P : Program) (base : Nat) (X : FX) (i : Nat) (so : SO) (σ : St) (K : St → Prop) : Prop := W1E P base X i so σ K
@[simp] theorem W1Ec (X : FX) (i : Nat) (d : Option Nat) (f : SArg) (xs : List SArg) (K : St → Prop) : W1E' P base X i ⟨d, none, .call f xs⟩ σ K = FCall P base X i (σ.ev f) (xs.map σ.ev) σ d K := rfl
@[simp] theorem WDE_op (X : FX) (i : Nat) (d : Option Nat) (op : SOp) (l : List SO) (K : St → Prop) : WDE P base X i (⟨d, none, op⟩ :: l) σ K =
    if op.isCall = true then W1E' P base X i ⟨d, none, op⟩ σ (eC P base X (i + 1) l K) else WEF P base X i (ev1 (base + d.getD 0) σ.ev σ op) (cond true σ.ev σ op) (op.args.map σ.ev) σ d (eC P base X (i + 1) l K) := by
  by_cases h : op.isCall = true
  · rw [if_pos h]; rfl
  · rw [if_neg h]; exact W1E_op X i d op _ (by simpa using h)
@[simp] theorem WEF_pure (X : FX) (i d : Nat) (v : AV) (c : Prop) (xs : List AV) (K : St → Prop) : WEF P base X i (some (Eff.pure v)) c xs σ (some d) K = (c ∧ (bar X.anc X.n i = true ∨ i = X.i0 ∨ X.rel i = true ∨ seesF X.kf (base + d) xs []) ∧ K (σ.set d v)) := by
  simp [WEF, wrote]
@[simp] theorem WEF_look (X : FX) (i d : Nat) (v : AV) (rd : List Nat) (c : Prop) (xs : List AV) (K : St → Prop) : WEF P base X i (some (Eff.look v rd)) c xs σ (some d) K = (c ∧ (bar X.anc X.n i = true ∨ i = X.i0 ∨ X.rel i = true ∨ seesF X.kf (base + d) xs rd) ∧ K (σ.set d v)) := by
  simp [WEF, wrote]
@[simp] theorem WEF_new (X : FX) (i d k : Nat) (v : AV) (o : Obj) (rd : List Nat) (c : Prop) (xs : List AV) (K : St → Prop) : WEF P base X i (some ⟨v, [k], [(k, o)], rd⟩) c xs σ (some d) K = (c ∧ (bar X.anc X.n i = true ∨ (i = X.i0 ∧ k ∈ X.kf)) ∧ K ((σ.new k o).set d v)) := by
  simp [WEF, wrote]
@[simp] theorem WEF_put (X : FX) (i k : Nat) (v : AV) (o : Obj) (rd : List Nat) (c : Prop) (xs : List AV) (K : St → Prop) : WEF P base X i (some ⟨v, [], [(k, o)], rd⟩) c xs σ none K = (c ∧ (bar X.anc X.n i = true ∨ (i = X.i0 ∧ k ∈ X.kf)) ∧ K (σ.puto k o)) := by
  simp [WEF, wrote]
@[simp] theorem seesF_eq (kf : List Nat) (own : Nat) (xs : List AV) (rd : List Nat) : seesF kf own xs rd = (own ∉ kf ∧ (∀ x, x ∈ xs → ∀ k, k ∈ (un x).keys2 → k ∉ kf) ∧ ∀ k, k ∈ rd → k ∉ kf) := rfl
@[congr] theorem WEF_congr {X : FX} {i : Nat} {o o' : Option Eff} {c c' : Prop} {xs xs' : List AV} {σ σ' : St} {d : Option Nat} {K : St → Prop} (h1 : o = o') (h2 : c = c') (h3 : xs = xs') (h4 : σ = σ') : WEF P base X i o c xs σ d K = WEF P base X i o' c' xs' σ' d K := by rw [h1, h2, h3, h4]
@[congr] theorem FCall_congr {X : FX} {i : Nat} {fv fv' : AV} {xs xs' : List AV} {σ σ' : St} {d : Option Nat} {K : St → Prop} (h1 : fv = fv') (h2 : xs = xs') (h3 : σ = σ') : FCall P base X i fv xs σ d K = FCall P base X i fv' xs' σ' d K := by rw [h1, h2, h3]
theorem FCall.fn {X : FX} {i d fn : Nat} {xs args : List AV} {res : AV} {K : St → Prop} (hs : Fn P fn args res) (ha : xs.map (fun x => toD2 σ (un x)) = args) (h2 : ∀ x, x ∈ xs → gok true x) (h4 : res.keys2 = [])
    (h5 : base + d ∉ X.kf) (h6 : ∀ x, x ∈ xs → ∀ k, k ∈ (un x).keys2 → k ∉ X.kf) (hK : K (σ.set d res)) : FCall P base X i (.c (.clo fn [] [])) xs σ (some d) K := by
  subst ha
  refine .inl ⟨fn, res, call_sem rfl trivial h2 (fun _ => hs) h4, .inr ⟨h5, fun x hx => ?_, by simp⟩, hK⟩
  rcases List.mem_cons.1 hx with rfl | hx
  · simp [AV.keys2, AV.keys1, Cell.keys]
  · exact h6 x hx
@[simp] theorem k2_v (v : Value) : AV.keys2 (.c (.v v)) = [] := rfl
@[simp] theorem k2_ref (k t off : Nat) : AV.keys2 (.c (.ref k t off)) = [k] := rfl
@[simp] theorem k2_own (k t : Nat) : AV.keys2 (.c (.own k t)) = [k] := rfl
@[simp] theorem k2_elw (k t sz i j : Nat) : AV.keys2 (.c (.elw k t sz i j)) = [k] := rfl
@[simp] theorem k2_sl (sz bs : Nat) (es : List (List Cell)) : AV.keys2 (.c (.sl sz bs es)) = [] := rfl
@[simp] theorem k2_cap (sz bs : Nat) (es : List (List Cell)) : AV.keys2 (.c (.cap sz bs es)) = [] := rfl
@[simp] theorem k2_elp (cs : List Cell) (j : Nat) : AV.keys2 (.c (.elp cs j)) = [] := rfl
@[simp] theorem k2_agg (cs : List Cell) : AV.keys2 (.agg cs) = keysCs cs := rfl
@[simp] theorem k1_agg (cs : List Cell) : AV.keys1 (.agg cs) = keysCs cs := rfl
@[simp] theorem k1_v (v : Value) : AV.keys1 (.c (.v v)) = [] := rfl
@[simp] theorem k1_sl (sz bs : Nat) (es : List (List Cell)) : AV.keys1 (.c (.sl sz bs es)) = [] := rfl
@[simp] theorem k1_cap (sz bs : Nat) (es : List (List Cell)) : AV.keys1 (.c (.cap sz bs es)) = [] := rfl

end Go.Abs

namespace Go.Abs

variable {P : Program} {base : Nat} {σ : St} {key : Nat} {ρ : SArg → AV} {β : Bool}

/-! ### calls that write the boxes a closure holds -/
def St.puts (σ : St) (l : Objs) : St := { σ with ob := fun k => match l.lookup k with | some (_, q) => some q | none => σ.ob k }
@[simp] theorem puts_sl (l : Objs) : (σ.puts l).sl = σ.sl := rfl
@[simp] theorem puts_tg (l : Objs) : (σ.puts l).tg = σ.tg := rfl
theorem puts_some {l : Objs} {k t : Nat} {q : Obj} (h : l.lookup k = some (t, q)) : (σ.puts l).ob k = some q := by simp only [St.puts, h]
theorem puts_none {l : Objs} {k : Nat} (h : l.lookup k = none) : (σ.puts l).ob k = σ.ob k := by simp only [St.puts, h]
theorem ap_puts (d : Nat) (v : AV) (l : Objs) (rd : List Nat) : σ.ap (some d) ⟨v, [], objsOf l, rd⟩ = (σ.puts l).set d v := by
  refine st_ext (fun s => rfl) (fun k => ?_) fun k => rfl
  simp only [St.ap, obAfter, St.puts, St.set, lookup_objsOf]
  cases l.lookup k with
  | none => rfl
  | some x => rfl

/-- The boxes lie there. -/
def Holds (σ : St) (l : Objs) : Prop := ∀ k t q, l.lookup k = some (t, q) → σ.ob k = some q ∧ σ.tg k = t
/-- Two lists of boxes under the same keys, with the same tags; the boxes hold data. -/
structure Kin (l m : Objs) : Prop where
  there : ∀ k t q, l.lookup k = some (t, q) → ∃ q', m.lookup k = some (t, q')
  back : ∀ k t q, m.lookup k = some (t, q) → ∃ q', l.lookup k = some (t, q')
  data : ∀ k t q, m.lookup k = some (t, q) → q.keys = []

theorem obj_sem {fv : AV} {xs : List AV} {fn : Nat} {rs : List (Nat × Nat)} {ins outs : Objs} {res : AV} (h0 : un fv = .c (.clo fn [] rs)) (h1 : gok true fv) (h2 : ∀ x, x ∈ xs → gok true x)
    (h3 : Spec P fn (xs.map (fun x => toD2 σ (un x)) ++ refs rs) ins res outs) (h4 : res.keys2 = []) (hh : Holds σ ins) (hk : Kin ins outs) : CallSem P σ true fv xs fn [] rs ins outs res [] where
  c0 := h0
  gf := h1
  gx := h2
  cs _ := by simpa [refs] using h3
  ci k t q h := by
    obtain ⟨a, b⟩ := hh k t q h
    obtain ⟨q', hq⟩ := hk.there k t q h
    exact ⟨a, b, by rw [hq]; rfl⟩
  co k t q h := by
    obtain ⟨q', hq⟩ := hk.back k t q h
    exact .inr ⟨by simp, (hh k t q' hq).2.symm, q', hq⟩
  cp k h := by simp at h
  kres k h := by rw [h4] at h; cases h
  kobs k t q h := by
    intro k' hk'
    rw [hk.data k t q h] at hk'
    cases hk'

theorem ECall.obj {d fn : Nat} {rs : List (Nat × Nat)} {xs args : List AV} {ins outs : Objs} {res : AV} {K : St → Prop} (hs : Spec P fn (args ++ refs rs) ins res outs) (ha : xs.map (fun x => toD2 σ (un x)) = args)
    (h2 : ∀ x, x ∈ xs → gok true x) (h4 : res.keys2 = []) (hh : Holds σ ins) (hk : Kin ins outs) (hK : RealA res → K ((σ.puts outs).set d res)) : ECall P σ (.c (.clo fn [] rs)) xs (some d) K := by
  subst ha
  refine ⟨fn, [], rs, ins, outs, res, [], obj_sem rfl trivial h2 hs h4 hh hk, fun h => ?_⟩
  rw [ap_puts]
  exact hK (h d rfl)
theorem FCall.obj {X : FX} {i d fn : Nat} {rs : List (Nat × Nat)} {xs args : List AV} {ins outs : Objs} {res : AV} {K : St → Prop} (hi : i = X.i0) (hs : Spec P fn (args ++ refs rs) ins res outs) (ha : xs.map (fun x => toD2 σ (un x)) = args)
    (h2 : ∀ x, x ∈ xs → gok true x) (h4 : res.keys2 = []) (hh : Holds σ ins) (hk : Kin ins outs) (hX : ∀ k, k ∈ outs.map (·.1) → k ∈ X.kf) (hK : K ((σ.puts outs).set d res)) : FCall P base X i (.c (.clo fn [] rs)) xs σ (some d) K := by
  subst ha
  refine .inr ⟨fn, [], rs, ins, outs, res, obj_sem rfl trivial h2 hs h4 hh hk, hi, hX, ?_⟩
  rw [ap_puts]
  exact hK

end Go.Abs
