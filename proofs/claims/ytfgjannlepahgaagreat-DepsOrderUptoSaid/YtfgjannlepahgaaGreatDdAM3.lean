/- THIS TEXT PROVES A PART OF A CALCULUS THAT TELLS WHAT A LOADED GO FUNCTION DOES WITHOUT NAMING MEMORY: each rule is proved against the machine, for every program and every world; its conditions stand in each theorem. -/
import Derived.Test.YtfgjannlepahgaaGreatDdAM2
set_option linter.unusedVariables false
set_option linter.unusedSimpArgs false
namespace Go.Abs

variable {P : Program} {base : Nat} {σ : St} {key : Nat} {ρ : SArg → AV} {β : Bool}

/-! ### a region in any order, each operation with the keys that it may write and those that it must not look at -/
def relA (anc : List Nat) (i j : Nat) : Bool := (anc.getD j 0).testBit i || (anc.getD i 0).testBit j
def okTab (anc : List Nat) (n : Nat) (ws fs : List (List Nat)) : Bool :=
  (List.range n).all fun i => match ws.getD i [] with
    | [] => true
    | l => (List.range n).all fun j => decide (i = j) || relA anc i j || l.all fun k => (fs.getD j []).contains k

theorem okTab_spec {anc : List Nat} {n : Nat} {ws fs : List (List Nat)} (h : okTab anc n ws fs = true) {i j k : Nat} (hi : i < n) (hj : j < n) (hk : k ∈ ws.getD i []) : i = j ∨ relA anc i j = true ∨ k ∈ fs.getD j [] := by
  simp only [okTab, List.all_eq_true, List.mem_range] at h
  have h1 := h i hi
  split at h1
  · rename_i e; rw [e] at hk; cases hk
  · have h2 := List.all_eq_true.1 h1 j (List.mem_range.2 hj)
    simp only [Bool.or_eq_true, decide_eq_true_eq] at h2
    rcases h2 with (h2 | h2) | h2
    · exact .inl h2
    · exact .inr (.inl h2)
    · refine .inr (.inr ?_)
      have h3 := List.all_eq_true.1 h2 k hk
      simpa using h3

def okLk (fb : List Nat) (l : List Nat) : Prop := ∀ k, k ∈ fb → k ∉ l
@[simp] theorem okLk_nil (l : List Nat) : okLk [] l = True := by simp [okLk]
@[simp] theorem okLk_cons (k : Nat) (fb l : List Nat) : okLk (k :: fb) l = (k ∉ l ∧ okLk fb l) := by simp [okLk]

def W1D (P : Program) (base : Nat) (wk fb : List Nat) (so : SO) (σ : St) (K : St → Prop) : Prop := ∃ e, SemO P base so σ e ∧ (∀ k, k ∈ wrote e → k ∈ wk) ∧ okLk fb (lkOf base so σ e) ∧ K (σ.ap so.dst e)
def WDD (P : Program) (base : Nat) : List SO → List (List Nat) → List (List Nat) → St → (St → Prop) → Prop
  | [], _, _, σ, K => K σ
  | so :: l, wk :: ws, fb :: fs, σ, K => W1D P base wk fb so σ fun σ' => WDD P base l ws fs σ' K
  | _ :: _, _, _, _, _ => False

theorem fineW_D {anc : List Nat} {n : Nat} {ws fs : List (List Nat)} (ht : okTab anc n ws fs = true) {tr : List TE} (h1 : ∀ x, x ∈ tr → x.i < n) (h2 : ∀ x, x ∈ tr → (∀ k, k ∈ x.wr → k ∈ ws.getD x.i []) ∧ ∀ k, k ∈ fs.getD x.i [] → k ∉ x.lk) : fineW anc tr = true := by
  simp only [fineW, List.all_eq_true, List.mem_filter]
  rintro x ⟨hx, hw⟩ y hy
  simp only [Bool.or_eq_true, decide_eq_true_eq]
  by_cases e : x.i = y.i
  · exact .inl (.inl (.inl e))
  by_cases r : relA anc x.i y.i = true
  · simp only [relA, Bool.or_eq_true] at r
    rcases r with r | r
    · exact .inl (.inl (.inr r))
    · exact .inl (.inr r)
  have r' : ¬ relA anc y.i x.i = true := by
    intro h; apply r
    simp only [relA, Bool.or_eq_true] at h ⊢
    exact h.symm
  refine .inr ?_
  simp only [kOK, Bool.and_eq_true, List.all_eq_true]
  constructor
  · intro k hk
    rcases okTab_spec ht (h1 x hx) (h1 y hy) ((h2 x hx).1 k hk) with h | h | h
    · exact absurd h e
    · exact absurd h r
    · simpa using (h2 y hy).2 k h
  · intro k hk
    rcases okTab_spec ht (h1 y hy) (h1 x hx) ((h2 y hy).1 k hk) with h | h | h
    · exact absurd h.symm e
    · exact absurd h r'
    · simpa using (h2 x hx).2 k h

theorem WDD_WD {anc : List Nat} {n : Nat} {ws fs : List (List Nat)} (ht : okTab anc n ws fs = true) {K : St → Prop} : ∀ {l : List SO} {i : Nat} {σ : St} {tr : List TE}, i + l.length = n → (∀ x, x ∈ tr → x.i < n) →
    (∀ x, x ∈ tr → (∀ k, k ∈ x.wr → k ∈ ws.getD x.i []) ∧ ∀ k, k ∈ fs.getD x.i [] → k ∉ x.lk) → WDD P base l (ws.drop i) (fs.drop i) σ K → WD P base anc i l σ tr K
  | [], i, σ, tr, _, h1, h2, h => ⟨fineW_D ht (by simpa using h1) (by simpa using h2), h⟩
  | so :: l, i, σ, tr, hn, h1, h2, h => by
    cases hw : ws.drop i with
    | nil => rw [hw] at h; exact h.elim
    | cons wk ws' =>
      cases hf : fs.drop i with
      | nil => rw [hw, hf] at h; exact h.elim
      | cons fb fs' =>
        rw [hw, hf] at h
        obtain ⟨e, h3, h4, h5, h6⟩ := h
        have ew : ws.getD i [] = wk := by
          have : (ws.drop i)[0]? = some wk := by rw [hw]; rfl
          rw [List.getElem?_drop] at this
          simp only [Nat.add_zero] at this
          simp [List.getD, this]
        have ef : fs.getD i [] = fb := by
          have : (fs.drop i)[0]? = some fb := by rw [hf]; rfl
          rw [List.getElem?_drop] at this
          simp only [Nat.add_zero] at this
          simp [List.getD, this]
        have dw : ws.drop (i + 1) = ws' := by rw [← List.drop_drop, hw]; rfl
        have df : fs.drop (i + 1) = fs' := by rw [← List.drop_drop, hf]; rfl
        refine ⟨e, h3, WDD_WD ht (by simp at hn; omega) (fun x hx => ?_) (fun x hx => ?_) (by rw [dw, df]; exact h6)⟩
        · rcases List.mem_cons.1 hx with rfl | hx
          · simp at hn ⊢; omega
          · exact h1 x hx
        · rcases List.mem_cons.1 hx with rfl | hx
          · exact ⟨by rw [ew]; exact h4, by rw [ef]; exact h5⟩
          · exact h2 x hx

theorem W_dregD {anc : List Nat} {l : List SO} {Q : SEx → St → Prop} (ws fs : List (List Nat)) (ht : okTab anc l.length ws fs = true) (h : WDD P base l ws fs σ (realC Q)) : W P base (.dreg anc l) σ Q :=
  WDD_WD ht (i := 0) (tr := []) (by simp) (by simp) (by simp) h

/-! ### its evaluation -/
def dD (P : Program) (base : Nat) (l : List SO) (ws fs : List (List Nat)) (K : St → Prop) (σ : St) : Prop := WDD P base l ws fs σ K
@[simp] theorem dD_ap (l : List SO) (ws fs : List (List Nat)) (K : St → Prop) : dD P base l ws fs K σ = WDD P base l ws fs σ K := rfl
@[simp] theorem WDD_nil (ws fs : List (List Nat)) (K : St → Prop) : WDD P base [] ws fs σ K = K σ := by cases ws <;> cases fs <;> rfl
@[simp] theorem WDD_cons (so : SO) (l : List SO) (wk fb : List Nat) (ws fs : List (List Nat)) (K : St → Prop) : WDD P base (so :: l) (wk :: ws) (fb :: fs) σ K = W1D P base wk fb so σ (dD P base l ws fs K) := rfl
@[congr] theorem WDD_congr {l : List SO} {ws fs : List (List Nat)} {σ σ' : St} {K : St → Prop} (h : σ = σ') : WDD P base l ws fs σ K = WDD P base l ws fs σ' K := by rw [h]
@[congr] theorem W1D_congr {wk fb : List Nat} {so : SO} {σ σ' : St} {K : St → Prop} (h2 : σ = σ') : W1D P base wk fb so σ K = W1D P base wk fb so σ' K := by rw [h2]

/-- One operation: what it comes to, its condition, its operands. -/
def WED (wk fb : List Nat) (own : Nat) (xs : List AV) (o : Option Eff) (c : Prop) (σ : St) (d : Option Nat) (K : St → Prop) : Prop :=
  ∃ e, o = some e ∧ c ∧ (∀ k, k ∈ wrote e → k ∈ wk) ∧ okLk fb (own :: (xs.flatMap (fun x => (un x).keys2) ++ e.rd ++ wrote e)) ∧ K (σ.ap d e)
@[congr] theorem WED_congr {wk fb : List Nat} {own : Nat} {xs xs' : List AV} {o o' : Option Eff} {c c' : Prop} {σ σ' : St} {d : Option Nat} {K : St → Prop} (h1 : xs = xs') (h2 : o = o') (h3 : c = c') (h4 : σ = σ') : WED wk fb own xs o c σ d K = WED wk fb own xs' o' c' σ' d K := by rw [h1, h2, h3, h4]
@[simp] theorem WED_pure (wk fb : List Nat) (own : Nat) (xs : List AV) (v : AV) (c : Prop) (d : Nat) (K : St → Prop) : WED wk fb own xs (some (Eff.pure v)) c σ (some d) K = (c ∧ okLk fb (own :: xs.flatMap (fun x => (un x).keys2)) ∧ K (σ.set d v)) := by simp [WED, wrote, Eff.pure]
@[simp] theorem WED_look (wk fb : List Nat) (own : Nat) (xs : List AV) (v : AV) (rd : List Nat) (c : Prop) (d : Nat) (K : St → Prop) : WED wk fb own xs (some (Eff.look v rd)) c σ (some d) K = (c ∧ okLk fb (own :: (xs.flatMap (fun x => (un x).keys2) ++ rd)) ∧ K (σ.set d v)) := by simp [WED, wrote, Eff.look]
@[simp] theorem WED_new (wk fb : List Nat) (own : Nat) (xs : List AV) (v : AV) (k : Nat) (o : Obj) (rd : List Nat) (c : Prop) (d : Nat) (K : St → Prop) : WED wk fb own xs (some ⟨v, [k], [(k, o)], rd⟩) c σ (some d) K = (c ∧ k ∈ wk ∧ okLk fb (own :: (xs.flatMap (fun x => (un x).keys2) ++ rd ++ [k, k])) ∧ K ((σ.new k o).set d v)) := by simp [WED, wrote]
@[simp] theorem WED_put (wk fb : List Nat) (own : Nat) (xs : List AV) (v : AV) (k : Nat) (o : Obj) (rd : List Nat) (c : Prop) (K : St → Prop) : WED wk fb own xs (some ⟨v, [], [(k, o)], rd⟩) c σ none K = (c ∧ k ∈ wk ∧ okLk fb (own :: (xs.flatMap (fun x => (un x).keys2) ++ rd ++ [k])) ∧ K (σ.puto k o)) := by simp [WED, wrote]
@[simp] theorem WED_app (wk fb : List Nat) (own : Nat) (xs : List AV) (v : AV) (k k' : Nat) (o : Obj) (rd : List Nat) (c : Prop) (d : Nat) (K : St → Prop) : WED wk fb own xs (some ⟨v, [k, k'], [(k, o)], rd⟩) c σ (some d) K = (c ∧ (k ∈ wk ∧ k' ∈ wk) ∧ okLk fb (own :: (xs.flatMap (fun x => (un x).keys2) ++ rd ++ [k, k', k])) ∧ K (if k = k' then (σ.new k o).set d v else ((σ.del k').new k o).set d v)) := by
  have e : (∀ x, (x = k ∨ x = k') ∨ x = k → x ∈ wk) ↔ (k ∈ wk ∧ k' ∈ wk) := ⟨fun h => ⟨h k (by simp), h k' (by simp)⟩, fun h x hx => by rcases hx with (rfl | rfl) | rfl <;> simp [h]⟩
  simp [WED, wrote, e]
@[simp] theorem WED_none (wk fb : List Nat) (own : Nat) (xs : List AV) (c : Prop) (d : Option Nat) (K : St → Prop) : WED wk fb own xs none c σ d K = False := by simp [WED]

/-- One operation under a guard. -/
def WGD (fb : List Nat) (own : Nat) (xs : List AV) (o : Option Eff) (c : Prop) (β : Bool) (σ : St) (d : Option Nat) (K : St → Prop) : Prop :=
  ∃ e, gW β o = some e ∧ gC c o ∧ e.pur = [] ∧ e.put = [] ∧ okLk fb (own :: (xs.flatMap (fun x => (un x).keys2) ++ e.rd)) ∧ K (σ.ap d ⟨.gd β e.val, [], [], e.rd⟩)
@[congr] theorem WGD_congr {fb : List Nat} {own : Nat} {xs xs' : List AV} {o o' : Option Eff} {c c' : Prop} {β β' : Bool} {σ σ' : St} {d : Option Nat} {K : St → Prop} (h1 : xs = xs') (h2 : o = o') (h3 : c = c') (h5 : β = β') (h4 : σ = σ') : WGD fb own xs o c β σ d K = WGD fb own xs' o' c' β' σ' d K := by rw [h1, h2, h3, h4, h5]
@[simp] theorem WGD_pure (fb : List Nat) (own : Nat) (xs : List AV) (v : AV) (c : Prop) (β : Bool) (d : Nat) (K : St → Prop) : WGD fb own xs (some (Eff.pure v)) c β σ (some d) K = (c ∧ okLk fb (own :: xs.flatMap (fun x => (un x).keys2)) ∧ K (σ.set d (.gd β v))) := by simp [WGD, Eff.pure]
@[simp] theorem WGD_skip (fb : List Nat) (own : Nat) (xs : List AV) (c : Prop) (d : Nat) (K : St → Prop) : WGD fb own xs none c false σ (some d) K = (okLk fb (own :: xs.flatMap (fun x => (un x).keys2)) ∧ K (σ.set d (.gd false (.c (.v (.bool false)))))) := by simp [WGD, gW, gC, gdD0, Eff.pure]
@[simp] theorem WGD_look (fb : List Nat) (own : Nat) (xs : List AV) (v : AV) (rd : List Nat) (c : Prop) (β : Bool) (d : Nat) (K : St → Prop) : WGD fb own xs (some (Eff.look v rd)) c β σ (some d) K = (c ∧ okLk fb (own :: (xs.flatMap (fun x => (un x).keys2) ++ rd)) ∧ K (σ.set d (.gd β v))) := by simp [WGD, Eff.look]

/-- A call. -/
def CallD (P : Program) (wk fb : List Nat) (own : Nat) (σ : St) (fv : AV) (xs : List AV) (d : Option Nat) (K : St → Prop) : Prop :=
  ∃ fn k1 k2 ins outs res pur ps, CallSem P σ true fv xs fn k1 k2 ins outs res pur ∧ PutOf ins outs pur ps ∧ (∀ k, k ∈ pur ++ ps.map (·.1) → k ∈ wk) ∧ okLk fb (own :: ((fv :: xs).flatMap (fun x => (un x).keys2) ++ ins.map (·.1) ++ (pur ++ ps.map (·.1)))) ∧ K (σ.ap d ⟨res, pur, ps, ins.map (·.1)⟩)
def GCallD (P : Program) (fb : List Nat) (own : Nat) (σ : St) (β : Bool) (fv : AV) (xs : List AV) (d : Option Nat) (K : St → Prop) : Prop :=
  ∃ fn k1 k2 ins outs res, CallSem P σ β fv xs fn k1 k2 ins outs res [] ∧ PutOf ins outs [] [] ∧ okLk fb (own :: ((fv :: xs).flatMap (fun x => (un x).keys2) ++ ins.map (·.1))) ∧ K (σ.ap d ⟨.gd β res, [], [], ins.map (·.1)⟩)
@[congr] theorem CallD_congr {wk fb : List Nat} {own : Nat} {σ σ' : St} {fv fv' : AV} {xs xs' : List AV} {d : Option Nat} {K : St → Prop} (h : σ = σ') (h1 : fv = fv') (h2 : xs = xs') : CallD P wk fb own σ fv xs d K = CallD P wk fb own σ' fv' xs' d K := by rw [h, h1, h2]
@[congr] theorem GCallD_congr {fb : List Nat} {own : Nat} {σ σ' : St} {β β' : Bool} {fv fv' : AV} {xs xs' : List AV} {d : Option Nat} {K : St → Prop} (h : σ = σ') (h0 : β = β') (h1 : fv = fv') (h2 : xs = xs') : GCallD P fb own σ β fv xs d K = GCallD P fb own σ' β' fv' xs' d K := by rw [h, h0, h1, h2]
theorem CallD.fn {wk fb : List Nat} {own d fn : Nat} {xs args : List AV} {res : AV} {K : St → Prop} (hs : Fn P fn args res) (ha : xs.map (fun x => toD2 σ (un x)) = args)
    (h2 : ∀ x, x ∈ xs → gok true x) (h4 : res.keys2 = []) (h5 : okLk fb (own :: xs.flatMap (fun x => (un x).keys2))) (hK : K (σ.set d res)) : CallD P wk fb own σ (.c (.clo fn [] [])) xs (some d) K := by
  subst ha
  refine ⟨fn, [], [], [], [], res, [], [], call_sem rfl trivial h2 (fun _ => hs) h4, .inl rfl, by simp, ?_, hK⟩
  intro k hk
  have := h5 k hk
  simpa [objsOf, AV.keys2, AV.keys1, Cell.keys] using this
theorem GCallD.fn {fb : List Nat} {own d fn : Nat} {β : Bool} {xs args : List AV} {res : AV} {K : St → Prop} (hs : β = true → Fn P fn args res) (ha : xs.map (fun x => toD2 σ (un x)) = args)
    (h2 : ∀ x, x ∈ xs → gok β x) (h4 : res.keys2 = []) (h5 : okLk fb (own :: xs.flatMap (fun x => (un x).keys2))) (hK : K (σ.set d (.gd β res))) : GCallD P fb own σ β (.c (.clo fn [] [])) xs (some d) K := by
  subst ha
  refine ⟨fn, [], [], [], [], res, call_sem rfl trivial h2 hs h4, .inl rfl, ?_, hK⟩
  intro k hk
  have := h5 k hk
  simpa [AV.keys2, AV.keys1, Cell.keys] using this

def WD1 (P : Program) (base : Nat) (wk fb : List Nat) (so : SO) (σ : St) (K : St → Prop) : Prop := W1D P base wk fb so σ K
@[congr] theorem WD1_congr {wk fb : List Nat} {so : SO} {σ σ' : St} {K : St → Prop} (h2 : σ = σ') : WD1 P base wk fb so σ K = WD1 P base wk fb so σ' K := by rw [h2]
theorem opKeys_eq (op : SOp) : opKeys σ op = (op.kargs.map σ.ev).flatMap (fun x => (un x).keys2) := by simp [opKeys, List.flatMap_map]
theorem W1D_plain {wk fb : List Nat} {d : Option Nat} {op : SOp} {K : St → Prop} (h : op.isCall = false) : W1D P base wk fb ⟨d, none, op⟩ σ K = WED wk fb (base + d.getD 0) (op.kargs.map σ.ev) (ev1 (base + d.getD 0) σ.ev σ op) (cond true σ.ev σ op) σ d K := by
  apply propext
  cases op <;> first
    | (simp [SOp.isCall] at h; done)
    | skip
  all_goals
    simp only [W1D, SemO, gdOf, mkGd, WED, lkOf, opKeys_eq, evG_none, condG_none]
    constructor
    · rintro ⟨e, ⟨β, hβ, e0, h1, h2, h3, rfl⟩, h4, h5, h6⟩
      cases hβ
      exact ⟨_, h1, h2, h4, h5, h6⟩
    · rintro ⟨e, h1, h2, h3, h4, h5⟩
      exact ⟨e, ⟨true, rfl, e, h1, h2, fun h => absurd rfl h, rfl⟩, h3, h4, h5⟩
def gdD (base : Nat) (fb : List Nat) (op : SOp) (σ : St) (d : Option Nat) (K : St → Prop) (β : Bool) : Prop := WGD fb (base + d.getD 0) (op.kargs.map σ.ev) (ev1 (base + d.getD 0) σ.ev σ op) (cond β σ.ev σ op) β σ d K
@[simp] theorem gdD_ap (fb : List Nat) (op : SOp) (d : Option Nat) (K : St → Prop) (β : Bool) : gdD base fb op σ d K β = WGD fb (base + d.getD 0) (op.kargs.map σ.ev) (ev1 (base + d.getD 0) σ.ev σ op) (cond β σ.ev σ op) β σ d K := rfl
theorem W1D_gd {wk fb : List Nat} {d : Option Nat} {s : Nat} {want : Bool} {op : SOp} {K : St → Prop} (h : op.isCall = false) : W1D P base wk fb ⟨d, some (s, want), op⟩ σ K = gbK (gb (σ.sl s) want) (gdD base fb op σ d K) := by
  apply propext
  cases op <;> first
    | (simp [SOp.isCall] at h; done)
    | skip
  all_goals
    simp only [W1D, SemO, gdOf, mkGd, gbK, gdD, WGD, lkOf, opKeys_eq, evG_gW, condG_gC]
    constructor
    · rintro ⟨e, ⟨β, hβ, e0, h1, h2, h3, rfl⟩, h4, h5, h6⟩
      obtain ⟨q1, q2⟩ := h3 (by simp)
      simp only [wrote, q1, q2, List.map_nil, List.append_nil] at h5
      rw [q1, q2] at h6
      exact ⟨β, hβ, e0, h1, h2, q1, q2, h5, h6⟩
    · rintro ⟨β, hβ, e, h1, h2, q1, q2, h3, h4⟩
      refine ⟨⟨.gd β e.val, [], [], e.rd⟩, ⟨β, hβ, e, h1, h2, fun _ => ⟨q1, q2⟩, ?_⟩, by simp [wrote], by simpa [wrote] using h3, h4⟩
      rw [q1, q2]
@[simp] theorem W1D_none {wk fb : List Nat} {d : Option Nat} {op : SOp} {K : St → Prop} : W1D P base wk fb ⟨d, none, op⟩ σ K = if op.isCall = true then WD1 P base wk fb ⟨d, none, op⟩ σ K else WED wk fb (base + d.getD 0) (op.kargs.map σ.ev) (ev1 (base + d.getD 0) σ.ev σ op) (cond true σ.ev σ op) σ d K := by
  by_cases h : op.isCall = true
  · rw [if_pos h]; rfl
  · rw [if_neg h]; exact W1D_plain (by simpa using h)
@[simp] theorem W1D_some {wk fb : List Nat} {d : Option Nat} {s : Nat} {want : Bool} {op : SOp} {K : St → Prop} : W1D P base wk fb ⟨d, some (s, want), op⟩ σ K = if op.isCall = true then WD1 P base wk fb ⟨d, some (s, want), op⟩ σ K else gbK (gb (σ.sl s) want) (gdD base fb op σ d K) := by
  by_cases h : op.isCall = true
  · rw [if_pos h]; rfl
  · rw [if_neg h]; exact W1D_gd (by simpa using h)
theorem opKeys_call (f : SArg) (xs : List SArg) : opKeys σ (.call f xs) = (σ.ev f :: xs.map σ.ev).flatMap (fun x => (un x).keys2) := by rw [opKeys_eq]; rfl
@[simp] theorem WD1_eq {wk fb : List Nat} {d : Option Nat} {f : SArg} {xs : List SArg} {K : St → Prop} : WD1 P base wk fb ⟨d, none, .call f xs⟩ σ K = CallD P wk fb (base + d.getD 0) σ (σ.ev f) (xs.map σ.ev) d K := by
  apply propext
  simp only [WD1, W1D, SemO, gdOf, mkGd, CallD, lkOf, opKeys_call, wrote]
  constructor
  · rintro ⟨e, ⟨β, hβ, fn, k1, k2, ins, outs, res, pur, ps, h1, hp, _, rfl⟩, h2, h3, h4⟩
    cases hβ
    exact ⟨fn, k1, k2, ins, outs, res, pur, ps, h1, hp, h2, h3, h4⟩
  · rintro ⟨fn, k1, k2, ins, outs, res, pur, ps, h1, hp, h2, h3, h4⟩
    exact ⟨_, ⟨true, rfl, fn, k1, k2, ins, outs, res, pur, ps, h1, hp, fun h => absurd rfl h, rfl⟩, h2, h3, h4⟩
def gcD (P : Program) (fb : List Nat) (own : Nat) (σ : St) (fv : AV) (xs : List AV) (d : Option Nat) (K : St → Prop) (β : Bool) : Prop := GCallD P fb own σ β fv xs d K
@[simp] theorem gcD_ap (fb : List Nat) (own : Nat) (fv : AV) (xs : List AV) (d : Option Nat) (K : St → Prop) (β : Bool) : gcD P fb own σ fv xs d K β = GCallD P fb own σ β fv xs d K := rfl
@[simp] theorem WD1G_eq {wk fb : List Nat} {d : Option Nat} {s : Nat} {want : Bool} {f : SArg} {xs : List SArg} {K : St → Prop} : WD1 P base wk fb ⟨d, some (s, want), .call f xs⟩ σ K = gbK (gb (σ.sl s) want) (gcD P fb (base + d.getD 0) σ (σ.ev f) (xs.map σ.ev) d K) := by
  apply propext
  simp only [WD1, W1D, SemO, gdOf, mkGd, gbK, gcD, GCallD, lkOf, opKeys_call, wrote]
  constructor
  · rintro ⟨e, ⟨β, hβ, fn, k1, k2, ins, outs, res, pur, ps, h1, hp, hg, rfl⟩, h2, h3, h4⟩
    obtain ⟨rfl, rfl⟩ := hg (by simp)
    exact ⟨β, hβ, fn, k1, k2, ins, outs, res, h1, hp, by simpa using h3, h4⟩
  · rintro ⟨β, hβ, fn, k1, k2, ins, outs, res, h1, hp, h3, h4⟩
    exact ⟨_, ⟨β, hβ, fn, k1, k2, ins, outs, res, [], [], h1, hp, fun _ => ⟨rfl, rfl⟩, rfl⟩, by simp, by simpa using h3, h4⟩
attribute [simp] SOp.args SOp.kargs
end Go.Abs

namespace Go.Abs

variable {P : Program} {I : Init} {n base : Nat} {σ σ' : St} {g g' : Gh} {a : Act} {w w' : World} {e : Eff}

/-! ### functions that hand back a row of their own -/
def Cell.sub (k t : Nat) : Cell → Cell
  | .own _ _ => .own k t
  | c => c
def AV.sub1 (k t : Nat) : AV → AV
  | .c x => .c (x.sub k t)
  | .agg cs => .agg (cs.map (Cell.sub k t))
  | x => x
def AV.sub (k t : Nat) : AV → AV
  | .tup l => .tup (l.map (AV.sub1 k t))
  | x => x.sub1 k t
def Cell.pat : Cell → Bool
  | .ref .. => false
  | .elw .. => false
  | .mp .. => false
  | .itr .. => false
  | .ifc .. => false
  | .sob .. => false
  | .clo _ a b => a.isEmpty && b.isEmpty
  | _ => true
def AV.pat1 : AV → Bool
  | .c x => x.pat
  | .agg cs => cs.all Cell.pat
  | _ => true
def AV.pat : AV → Bool
  | .tup l => l.all AV.pat1
  | x => x.pat1

/-- Called with these, it hands back what is told, in which the row that it has made is named as the caller likes. -/
def SpecNew (P : Program) (f : Nat) (args : List AV) (pat : AV) (q : Obj) : Prop := ∀ k t : Nat, Spec P f args [] (pat.sub k t) [(k, t, q)]

def rrEvN (σ : St) : RR → Option AV
  | .t s => some (un (σ.sl s))
  | .c1 a => match loadAt σ true 0 (un (σ.sl a)) with
    | some e => some e.val
    | none => none
  | .cn a m => match loadAt σ false m (un (σ.sl a)) with
    | some e => some e.val
    | none => none
def resLN (σ : St) : List RR → Option (List AV)
  | [] => some []
  | r :: l => match rrEvN σ r, resLN σ l with
    | some x, some y => if isV1 x then some (x :: y) else none
    | _, _ => none
def resN (σ : St) (l : List RR) : Option AV := match resLN σ l with
  | some [x] => some x
  | some xs => some (.tup xs)
  | none => none

theorem rr_soundN (hR : Rel I n σ g a w) {r : ResultVar} {r' : RR} {l : List ResultVar} {l' : List RR} (hok : okR P (r :: l) (r' :: l') = true) (hg : rrGok σ r') {x : AV} (hx : rrEvN σ r' = some x) :
    okR P l l' = true ∧ ∃ v, (resM a.tmps r).run P w = .ok v w ∧ RV2 g w x v := by
  unfold okR at hok
  split at hok
  · rename_i e; cases e
  · rename_i e1 e2
    cases e1; cases e2
    simp only [Bool.and_eq_true, decide_eq_true_eq] at hok
    obtain ⟨rfl, h2⟩ := hok
    cases hx
    exact ⟨h2, _, rfl, RV_un (hR.slots _) hg⟩
  · rename_i e1 e2
    cases e1; cases e2
    simp only [Bool.and_eq_true, decide_eq_true_eq] at hok
    obtain ⟨⟨rfl, h1⟩, h2⟩ := hok
    simp only [rrEvN] at hx
    split at hx
    · rename_i e el
      cases hx
      have hv := RV_un (hR.slots _) hg
      obtain ⟨_, _, v, h3, h4⟩ := loadAt_spec hR hv el h1 (by simp)
      exact ⟨h2, v, loadVar_at h3 (ptr_of hR hv el), h4⟩
    · cases hx
  · rename_i e1 e2
    cases e1; cases e2
    simp only [Bool.and_eq_true, decide_eq_true_eq] at hok
    obtain ⟨⟨⟨rfl, h1⟩, h3⟩, h2⟩ := hok
    simp only [rrEvN] at hx
    split at hx
    · rename_i e el
      cases hx
      have hv := RV_un (hR.slots _) hg
      obtain ⟨_, _, v, h3, h4⟩ := loadAt_spec hR hv el h1 (by intro _; exact h3)
      exact ⟨h2, v, loadVar_at h3 (ptr_of hR hv el), h4⟩
    · cases hx
  · cases hok

theorem resLN_sound (hR : Rel I n σ g a w) : ∀ {l : List ResultVar} {l' : List RR}, okR P l l' = true → (∀ r, r ∈ l' → rrGok σ r) → ∀ {xs}, resLN σ l' = some xs →
    ∃ vs, (l.mapM (resM a.tmps)).run P w = .ok vs w ∧ All2 (RV1 g w) xs vs
  | [], [], _, _, xs, h => by cases h; exact ⟨[], rfl, trivial⟩
  | r :: l, r' :: l', hok, hg, xs, h => by
    simp only [resLN] at h
    split at h
    · rename_i x y ex ey
      split at h
      · rename_i hv1
        cases h
        obtain ⟨hok', v, h1, h2⟩ := rr_soundN hR hok (hg r' (by simp)) ex
        obtain ⟨vs, h3, h4⟩ := resLN_sound hR hok' (fun q hq => hg q (by simp [hq])) ey
        refine ⟨v :: vs, by simp [h1, h3], ?_, h4⟩
        cases x <;> simp [isV1] at hv1
        · exact h2
        · exact h2
      · cases h
    · cases h
  | [], _ :: _, h, _, _, _ => by simp [okR] at h
  | _ :: _, [], h, _, _, _ => by simp [okR] at h

theorem res_soundN {fn : Func} {rs : List RR} {res : AV} (hR : Rel I n σ g a w) (hok : okR P fn.results.toList rs = true) (hg : ∀ r, r ∈ rs → rrGok σ r) (hr : resN σ rs = some res) :
    ∃ v, (results fn a.tmps).run P w = .ok v w ∧ RV2 g w res v := by
  unfold resN at hr
  cases hL : resLN σ rs with
  | none => rw [hL] at hr; cases hr
  | some xs =>
    rw [hL] at hr
    obtain ⟨us, h1, h2⟩ := resLN_sound hR hok hg hL
    have hrun : (fn.results.mapM (resM a.tmps)).run P w = .ok us.toArray w := by
      rw [← Array.toArray_toList (xs := fn.results), List.mapM_toArray]
      simp [h1]
    obtain ⟨v, hv1, hv2⟩ := one_res hr h2
    refine ⟨v, ?_, hv2⟩
    have : results fn a.tmps = (do
        let vs ← fn.results.mapM (resM a.tmps)
        pure (if h : vs.size = 1 then vs[0] else .tuple vs)) := by
      unfold results
      congr 1
    rw [this]
    simp only [Sem.run_bind, hrun]
    rw [← hv1]; rfl

/-! ### a slice of just its length becomes a row of one's own -/
inductive Ado : St → St → Prop where
  | refl (σ : St) : Ado σ σ
  | step {σ σ' : St} (s key ty sz bs : Nat) (es : List (List Cell)) (h : σ.sl s = .c (.cap sz bs es)) (k : Ado ((σ.new key (.row ty sz bs es)).set s (.c (.own key (σ.tg key + 1)))) σ') : Ado σ σ'

theorem adopt_sound {s key ty sz bs : Nat} {es : List (List Cell)} (hR : Rel I n σ g a w) (hs : σ.sl s = .c (.cap sz bs es)) :
    ∃ g', Rel I n ((σ.new key (.row ty sz bs es)).set s (.c (.own key (σ.tg key + 1)))) g' a w := by
  have hv := hR.slots s
  rw [hs] at hv
  have hv : RC g w (.cap sz bs es) (a.tmps.getD s undef) := hv (by simp)
  obtain ⟨hrd, ad, hy⟩ := hv
  let g' : Gh := ⟨g.st, g.blk, fun k => if k = key then a.tmps.getD s undef else g.rv k, fun k => if k = key then g.tg k + 1 else g.tg k⟩
  have hkp : Kp g w g' w := ⟨fun ad hs => ⟨hs, rfl⟩⟩
  have hle : g.Le g' := ⟨fun k => by
    by_cases hk : k = key
    · left; simp [g', hk]
    · right; simp [g', hk]⟩
  have hna : ¬ Active g' key (.row ty sz bs es) := by
    rintro ⟨a', n', c', h1, h2⟩
    simp only [g', if_true] at h1
    rw [hy] at h1
    cases h1; omega
  have hact : ∀ k q, k ≠ key → (Active g' k q ↔ Active g k q) := fun k q hk => by
    cases q with
    | row => simp only [Active, g', if_neg hk]
    | _ => exact Iff.rfl
  have one : ∀ k q, ((σ.new key (.row ty sz bs es)).set s (.c (.own key (σ.tg key + 1)))).ob k = some q → (k = key ∧ q = .row ty sz bs es) ∨ (k ≠ key ∧ σ.ob k = some q) := fun k q h => by
    simp only [set_ob, new_ob] at h
    by_cases hk : k = key
    · rw [if_pos hk] at h; cases h; exact .inl ⟨hk, rfl⟩
    · rw [if_neg hk] at h; exact .inr ⟨hk, h⟩
  refine ⟨g',
    { size := hR.size, tags := fun k => ?_, slots := fun s' => ?_, defs := hR.defs, obs := fun k q hq => ?_, sep := fun k1 k2 q1 q2 e1 e2 a1 a2 hb => ?_, wok := hR.wok, os := hR.os, tape := hR.tape, out := hR.out,
      grow := hR.grow, frame := hR.frame, kp := hR.kp.trans hkp, le := hR.le.trans hle, loc := fun k q hq ha => ?_ }⟩
  · simp only [set_tg, new_tg, g']
    by_cases hk : k = key
    · subst hk; simp [hR.tags]
    · simp [hk, hR.tags]
  · simp only [set_sl, new_sl]
    by_cases h : s' = s
    · rw [if_pos h, h]
      intro _
      refine ⟨by rw [hy]; rfl, by simp [g', hR.tags], fun _ => ⟨by simp [g'], ad, _, _, hy⟩⟩
    · rw [if_neg h]; exact (hR.slots s').mono hkp hle
  · rcases one k q hq with ⟨rfl, rfl⟩ | ⟨hk, hq⟩
    · refine ⟨by simp only [g', if_true]; exact hrd.mono hkp, fun a' n' c' h1 h2 => ?_⟩
      exact absurd ⟨a', n', c', h1, h2⟩ hna
    · exact ObOK.mono hkp hle (by simp [g', hk]) (fun _ => ⟨rfl, fun _ h => h⟩) (hR.obs k q hq)
  · rcases one k1 q1 e1 with ⟨rfl, rfl⟩ | ⟨hk1, e1⟩
    · exact absurd a1 hna
    · rcases one k2 q2 e2 with ⟨rfl, rfl⟩ | ⟨hk2, e2⟩
      · exact absurd a2 hna
      · exact hR.sep k1 k2 q1 q2 e1 e2 ((hact k1 q1 hk1).1 a1) ((hact k2 q2 hk2).1 a2) hb
  · rcases one k q hq with ⟨rfl, rfl⟩ | ⟨hk, hq⟩
    · exact absurd ha hna
    · exact hR.loc k q hq ((hact k q hk).1 ha)

theorem ado_sound : ∀ {σ σ' : St}, Ado σ σ' → ∀ {g : Gh}, Rel I n σ g a w → ∃ g', Rel I n σ' g' a w := by
  intro σ σ' h
  induction h with
  | refl σ => exact fun hR => ⟨_, hR⟩
  | step s key ty sz bs es h _ ih =>
    intro g hR
    obtain ⟨g', hR'⟩ := adopt_sound (key := key) (ty := ty) hR h
    exact ih hR'

/-! ### a name of the caller's -/
theorem RC.sub {g g2 : Gh} {w : World} {k0 k t : Nat} {c : Cell} {y : Value} (hc : c.pat = true) (hs : g2.st = g.st) (ht : g2.tg k = t) (hr : g2.rv k = g.rv k0) (h : RC g w (c.sub k0 (g.tg k0)) y) : RC g2 w (c.sub k t) y := by
  have hk : Kp g w g2 w := ⟨fun ad h => ⟨by rw [hs]; exact h, rfl⟩⟩
  cases c with
  | own k' t' =>
    obtain ⟨h0, h1, h2⟩ := h
    exact ⟨h0, by rw [ht]; exact Nat.le_refl _, fun _ => by rw [hr]; exact h2 rfl⟩
  | ref => cases hc
  | elw => cases hc
  | mp => cases hc
  | itr => cases hc
  | ifc => cases hc
  | sob => cases hc
  | bk => exact RC.on h hk (by simp [Cell.sub, Cell.keys])
  | clo f a b =>
    simp only [Cell.pat, Bool.and_eq_true, List.isEmpty_iff] at hc
    obtain ⟨rfl, rfl⟩ := hc
    exact RC.on h hk (by simp [Cell.sub, Cell.keys])
  | v x => exact RC.on h hk (by simp [Cell.sub, Cell.keys])
  | sl => exact RC.on h hk (by simp [Cell.sub, Cell.keys])
  | cap => exact RC.on h hk (by simp [Cell.sub, Cell.keys])
  | elp => exact RC.on h hk (by simp [Cell.sub, Cell.keys])
  | junk => exact h
theorem All2.subs {g g2 : Gh} {w : World} {k0 k t : Nat} (hs : g2.st = g.st) (ht : g2.tg k = t) (hr : g2.rv k = g.rv k0) : ∀ {cs : List Cell} {ys : List Value}, cs.all Cell.pat = true → All2 (RC g w) (cs.map (Cell.sub k0 (g.tg k0))) ys → All2 (RC g2 w) (cs.map (Cell.sub k t)) ys
  | [], [], _, _ => trivial
  | c :: cs, y :: ys, hp, h => by
    simp only [List.all_cons, Bool.and_eq_true] at hp
    exact ⟨RC.sub hp.1 hs ht hr h.1, All2.subs hs ht hr hp.2 h.2⟩
  | [], _ :: _, _, h => h.elim
  | _ :: _, [], _, h => h.elim
theorem RV1.sub {g g2 : Gh} {w : World} {k0 k t : Nat} {x : AV} {y : Value} (hx : x.pat1 = true) (hs : g2.st = g.st) (ht : g2.tg k = t) (hr : g2.rv k = g.rv k0) (h : RV1 g w (x.sub1 k0 (g.tg k0)) y) : RV1 g2 w (x.sub1 k t) y := by
  cases x with
  | c x =>
    intro hj
    refine RC.sub hx hs ht hr (h ?_)
    cases x <;> simp_all [Cell.sub]
  | agg cs =>
    obtain ⟨vs, e, hh⟩ := h
    exact ⟨vs, e, All2.subs hs ht hr hx hh⟩
  | tup l => exact h.elim
  | gd b x => exact h.elim
theorem RV2.sub {g g2 : Gh} {w : World} {k0 k t : Nat} {x : AV} {y : Value} (hx : x.pat = true) (hs : g2.st = g.st) (ht : g2.tg k = t) (hr : g2.rv k = g.rv k0) (h : RV2 g w (x.sub k0 (g.tg k0)) y) : RV2 g2 w (x.sub k t) y := by
  cases x with
  | c x => exact RV1.sub (x := .c x) hx hs ht hr h
  | agg cs => exact RV1.sub (x := .agg cs) hx hs ht hr h
  | gd b x => exact h.elim
  | tup l =>
    obtain ⟨vs, e, hh⟩ := h
    refine ⟨vs, e, ?_⟩
    simp only [AV.pat] at hx
    have key : ∀ {l : List AV} {ys : List Value}, l.all AV.pat1 = true → All2 (RV1 g w) (l.map (AV.sub1 k0 (g.tg k0))) ys → All2 (RV1 g2 w) (l.map (AV.sub1 k t)) ys := by
      intro l
      induction l with
      | nil => intro ys _ h; cases ys; trivial; exact h.elim
      | cons x l ih =>
        intro ys hp h
        simp only [List.all_cons, Bool.and_eq_true] at hp
        cases ys with
        | nil => exact h.elim
        | cons y ys => exact ⟨RV1.sub hp.1 hs ht hr h.1, ih hp.2 h.2⟩
    exact key hx hh
theorem ObOK.at {g g2 : Gh} {w : World} {k0 k : Nat} {q : Obj} (hq : q.keys = []) (hs : g2.st = g.st) (hb : g2.blk k = g.blk k0) (hr : g2.rv k = g.rv k0) (h : ObOK g w k0 q) : ObOK g2 w k q := by
  have hk : Kp g w g2 w := ⟨fun ad h => ⟨by rw [hs]; exact h, rfl⟩⟩
  cases q with
  | box ty cs =>
    obtain ⟨vs, e, hh, hz⟩ := h
    refine ⟨vs, by rw [hb]; exact e, hh.imp fun c hc y r => RC.on r hk fun k' hk' => ?_, by rw [hb, hs]; exact hz⟩
    have : k' ∈ keysCs cs := List.mem_flatMap.2 ⟨c, hc, hk'⟩
    simp only [Obj.keys] at hq
    rw [hq] at this; cases this
  | row ty sz bs es =>
    refine ⟨by rw [hr]; exact h.1.mono hk, fun a n c h1 h2 => ?_⟩
    rw [hr] at h1
    obtain ⟨e1, e2, e3⟩ := h.2 a n c h1 h2
    exact ⟨by rw [hb]; exact e1, by rw [hb]; exact e2, by rw [hb, hs]; exact e3⟩
  | mrow ty sz bs es =>
    obtain ⟨arr, c, h1, h2, h3, h4, h5, h6, h7, h8⟩ := h
    refine ⟨arr, c, by rw [hb, hr]; exact h1, h2, by rw [hb]; exact h3, h4, h5, h6, fun i j l d e1 e2 => ?_, by rw [hb, hs]; exact h8⟩
    obtain ⟨x, e, hx⟩ := h7 i j l d e1 e2
    exact ⟨x, e, hx.mono hk⟩
  | mob one es =>
    obtain ⟨arr, c, h1, h2, h3, h4, h5, h6⟩ := h
    exact ⟨arr, c, by rw [hb]; exact h1, h2, h3, h4.imp fun p hp x hx => ⟨hx.1, MV.mono hk hx.2⟩, h5, by rw [hb, hs]; exact h6⟩

structure EndN (rs : List RR) (k0 : Nat) (pat : AV) (q : Obj) (σ : St) : Prop where
  gk : ∀ r, r ∈ rs → rrGok σ r
  res : resN σ rs = some (pat.sub k0 (σ.tg k0))
  ob : σ.ob k0 = some q
def onEndN (rs : List RR) (k0 : Nat) (pat : AV) (q : Obj) : SEx → St → Prop
  | .exit _, _ => False
  | _, σ => ∃ σ', Ado σ σ' ∧ EndN rs k0 pat q σ'
@[simp] theorem onEndN_n {rs : List RR} {k0 : Nat} {pat : AV} {q : Obj} : onEndN rs k0 pat q .normal σ = ∃ σ', Ado σ σ' ∧ EndN rs k0 pat q σ' := rfl
@[simp] theorem onEndN_r {rs : List RR} {k0 : Nat} {pat : AV} {q : Obj} : onEndN rs k0 pat q .ret σ = ∃ σ', Ado σ σ' ∧ EndN rs k0 pat q σ' := rfl

theorem new_of {f m : Nat} {args : List AV} {pat : AV} {q : Obj} {sc : SCode} {rs : List RR} (k0 : Nat) (hok : okFn P f n sc rs m = true) (hm : args.length = m) (hp : pat.pat = true) (hq : q.keys = [])
    (hW : ∀ σ : St, (∀ s, σ.sl s = slotsOf args s) → (∀ x, x ∈ args → Real x) → W P base sc σ (onEndN rs k0 pat q)) : SpecNew P f args pat q := by
  intro kk tt
  unfold okFn at hok
  split at hok
  case h_2 => cases hok
  rename_i fn hf
  split at hok
  case h_2 => cases hok
  rename_i c hb
  simp only [Bool.and_eq_true, decide_eq_true_eq, Bool.not_eq_true'] at hok
  obtain ⟨⟨⟨⟨hn, hmn⟩, hcode⟩, hres⟩, hname⟩ := hok
  refine ⟨fun args w => ?_, fun g w vs hwok hargs hins => ?_⟩
  · have hname : ¬ fn.name = "runtime.NumGoroutine" := by simpa using hname
    simp [callFunc, hf, hname, hb]
  · refine calls_of_wp hf hb ?_
    let J : Init := ⟨g, w, mineOf g [], []⟩
    have hno : ∀ b, ¬ mineOf g [] b := by rintro b ⟨k, t, q, h, _⟩; simp at h
    have hlen : vs.size = m := by rw [← hm]; simpa using hargs.length.symm
    let a0 : Act := { tmps := vs ++ Array.replicate (fn.ntmps - vs.size) undef, defers := [] }
    have hR0 : Rel J n ⟨slotsOf args, fun _ => none, g.tg⟩ g a0 w :=
      { size := by simp only [a0, Array.size_append, Array.size_replicate]; omega
        tags := fun _ => rfl
        slots := fun s => by
          simp only [slotsOf]
          by_cases hs : s < args.length
          · have hget : args[s]? = some args[s] := List.getElem?_eq_getElem hs
            obtain ⟨v, hv, hrv⟩ := hargs.get s _ hget
            have e1 : args.getD s (.c .junk) = args[s] := by simp [hs]
            have e2 : a0.tmps.getD s undef = v := by
              have hsv : s < vs.size := by omega
              have hv' : vs[s]? = some v := by simpa using hv
              simp only [a0, Array.getD_eq_getD_getElem?]
              rw [Array.getElem?_append_left hsv, hv']; rfl
            rw [e1, e2]
            exact RV_of2 hrv
          · have e1 : args.getD s (.c .junk) = .c .junk := by simp [hs]
            rw [e1]
            exact fun h => absurd rfl h
        defs := rfl
        obs := fun k q h => by cases h
        sep := fun k k' q q' h => by cases h
        wok := hwok, os := rfl, tape := rfl, out := rfl, grow := Nat.le_refl _
        frame := fun _ _ _ => ⟨rfl, fun _ => Iff.rfl⟩
        kp := Kp.refl g w, le := Gh.Le.refl g
        loc := fun k q h ha => by cases h }
    have hdone : ∀ σ1 g1 a w', (∃ σ', Ado σ1 σ' ∧ EndN rs k0 pat q σ') → Rel J n σ1 g1 a w' → a.defers = [] ∧ ∃ v, (results fn a.tmps).run P w' = .ok v w' ∧ ∃ v' g'', Ending.returned v = .returned v' ∧ Post g w [] g'' w' (pat.sub kk tt) v' [(kk, tt, q)] := by
      rintro σ1 g1 a w' ⟨σ', hA, hE⟩ hR1
      obtain ⟨g', hR'⟩ := ado_sound hA hR1
      obtain ⟨hgk, hr, ho⟩ := hE
      refine ⟨hR'.defs, ?_⟩
      obtain ⟨v, hrun, hv⟩ := res_soundN hR' hres hgk hr
      rw [← hR'.tags] at hv
      let g2 : Gh := ⟨g'.st, fun k => if k = kk then g'.blk k0 else g'.blk k, fun k => if k = kk then g'.rv k0 else g'.rv k, fun k => if k = kk then tt else g'.tg k⟩
      have h1 : g2.tg kk = tt := by simp [g2]
      have h2 : g2.rv kk = g'.rv k0 := by simp [g2]
      have h3 : g2.blk kk = g'.blk k0 := by simp [g2]
      have hact : Active g2 kk q → Active g' k0 q := by
        cases q with
        | row => intro h; simpa only [Active, h2] using h
        | _ => exact fun h => h
      have lk : ∀ k t q', List.lookup k [(kk, tt, q)] = some (t, q') → k = kk ∧ t = tt ∧ q' = q := fun k t q' h => by
        simp only [List.lookup_cons, List.lookup_nil] at h
        split at h
        · rename_i hk; cases h; exact ⟨by simpa using hk, rfl, rfl⟩
        · cases h
      refine ⟨v, hrun, v, g2, rfl,
        { res := RV2.sub (g := g') (g2 := g2) (k0 := k0) hp rfl h1 h2 hv
          obs := ⟨fun k t q' h => ?_, fun k k' t t' q' q'' h h' _ _ _ => ?_⟩
          kp := hR'.kp.trans ⟨fun ad h => ⟨h, rfl⟩⟩, wok := hR'.wok, os := hR'.os, tape := hR'.tape, out := hR'.out, grow := hR'.grow, frame := hR'.frame
          loc := fun k t q' h ha => ?_
          box := fun k t _ ⟨q', h⟩ => by simp at h }⟩
      · obtain ⟨rfl, rfl, rfl⟩ := lk k t q' h
        exact ⟨h1, ObOK.at (g := g') (g2 := g2) (k0 := k0) hq rfl h3 h2 (hR'.obs k0 _ ho)⟩
      · obtain ⟨rfl, _⟩ := lk _ _ _ h
        exact (lk _ _ _ h').1.symm
      · obtain ⟨rfl, rfl, rfl⟩ := lk k t q' h
        rw [h3]
        exact hR'.loc k0 _ ho (hact ha)
    refine W_sound (base := base) sc c _ _ _ hcode (hW ⟨slotsOf args, fun _ => none, g.tg⟩ (fun _ => rfl) fun x hx => by
      obtain ⟨i, hi⟩ := List.mem_iff_getElem?.1 hx
      obtain ⟨v, _, hv⟩ := hargs.get i x hi
      exact ⟨g, w, v, hv⟩) (fun e σ' g' a w' hq hR' => ?_) g a0 w hR0
    cases e with
    | normal => exact hdone σ' g' a w' hq hR'
    | ret => exact hdone σ' g' a w' hq hR'
    | exit id => exact hq.elim

/-! ### their calls -/
theorem keys_pat1 {k t : Nat} : ∀ {x : AV}, x.pat1 = true → ∀ k', k' ∈ (x.sub1 k t).keys1 → k' = k := by
  have hc : ∀ {c : Cell}, c.pat = true → ∀ k', k' ∈ (c.sub k t).keys → k' = k := by
    intro c hc k' hk
    cases c <;> simp_all [Cell.sub, Cell.keys, Cell.pat]
  intro x hx k' hk
  cases x with
  | c x => exact hc hx k' hk
  | agg cs =>
    simp only [AV.sub1, AV.keys1, keysCs, List.mem_flatMap, List.mem_map] at hk
    obtain ⟨c, ⟨c0, h0, rfl⟩, h1⟩ := hk
    exact hc (List.all_eq_true.1 hx c0 h0) k' h1
  | tup l => simp [AV.sub1, AV.keys1] at hk
  | gd b x => simp [AV.sub1, AV.keys1] at hk
theorem keys_pat {k t : Nat} {x : AV} (hx : x.pat = true) : ∀ k', k' ∈ (x.sub k t).keys2 → k' = k := by
  intro k' hk
  cases x with
  | c x => exact keys_pat1 (x := .c x) hx k' hk
  | agg cs => exact keys_pat1 (x := .agg cs) hx k' hk
  | tup l =>
    simp only [AV.sub, AV.keys2, List.mem_flatMap, List.mem_map] at hk
    obtain ⟨c, ⟨c0, h0, rfl⟩, h1⟩ := hk
    exact keys_pat1 (List.all_eq_true.1 hx c0 h0) k' h1
  | gd b x => simp [AV.sub, AV.sub1, AV.keys2, AV.keys1] at hk
theorem new_sem {key fn : Nat} {fv : AV} {xs : List AV} {pat : AV} {q : Obj} (h0 : un fv = .c (.clo fn [] [])) (h1 : gok true fv) (h2 : ∀ x, x ∈ xs → gok true x) (hp : pat.pat = true) (hq : q.keys = [])
    (h3 : SpecNew P fn (xs.map fun x => toD2 σ (un x)) pat q) : CallSem P σ true fv xs fn [] [] [] [(key, σ.tg key + 1, q)] (pat.sub key (σ.tg key + 1)) [key] where
  c0 := h0
  gf := h1
  gx := h2
  cs _ := by simpa [refs] using h3 key (σ.tg key + 1)
  ci k t q h := by simp at h
  co k t q' h := by
    simp only [List.lookup_cons, List.lookup_nil] at h
    split at h
    · rename_i hk
      have hk : k = key := by simpa using hk
      subst hk; cases h; exact .inl ⟨by simp, rfl⟩
    · cases h
  cp k h := by
    simp at h; subst h; simp
  kres k h := by
    rw [keys_pat hp k h]; simp
  kobs k t q' h := by
    simp only [List.lookup_cons, List.lookup_nil] at h
    split at h
    · cases h; rw [hq]; intro k' hk'; cases hk'
    · cases h
theorem ECall.new {d fn : Nat} {xs args : List AV} {pat : AV} {q : Obj} {K : St → Prop} (key : Nat) (hs : SpecNew P fn args pat q) (hp : pat.pat = true) (hq : q.keys = []) (ha : xs.map (fun x => toD2 σ (un x)) = args)
    (h2 : ∀ x, x ∈ xs → gok true x) (hK : RealA (pat.sub key (σ.tg key + 1)) → K ((σ.new key q).set d (pat.sub key (σ.tg key + 1)))) : ECall P σ (.c (.clo fn [] [])) xs (some d) K := by
  subst ha
  refine ⟨fn, [], [], [], _, _, [key], _, new_sem rfl trivial h2 hp hq hs, .inl rfl, fun h => ?_⟩
  have := ap_new (σ := σ) d key (pat.sub key (σ.tg key + 1)) q []
  simp only [objsOf, List.map_cons, List.map_nil]
  rw [this]
  exact hK (h d rfl)
theorem CallD.new {wk fb : List Nat} {own d fn : Nat} {xs args : List AV} {pat : AV} {q : Obj} {K : St → Prop} (key : Nat) (hs : SpecNew P fn args pat q) (hp : pat.pat = true) (hq : q.keys = []) (ha : xs.map (fun x => toD2 σ (un x)) = args)
    (h2 : ∀ x, x ∈ xs → gok true x) (hw : key ∈ wk) (h5 : okLk fb (own :: (xs.flatMap (fun x => (un x).keys2) ++ [key]))) (hK : K ((σ.new key q).set d (pat.sub key (σ.tg key + 1)))) : CallD P wk fb own σ (.c (.clo fn [] [])) xs (some d) K := by
  subst ha
  refine ⟨fn, [], [], [], _, _, [key], _, new_sem rfl trivial h2 hp hq hs, .inl rfl, ?_, ?_, ?_⟩
  · intro k hk
    simp [objsOf] at hk
    rw [hk]; exact hw
  · intro k hk
    have := h5 k hk
    simpa [objsOf, AV.keys2, AV.keys1, Cell.keys] using this
  · have := ap_new (σ := σ) d key (pat.sub key (σ.tg key + 1)) q []
    simp only [objsOf, List.map_cons, List.map_nil]
    rw [this]
    exact hK
attribute [simp] AV.sub AV.sub1 Cell.sub
end Go.Abs

namespace Go.Abs

variable {P : Program} {base : Nat} {σ σ' : St}

theorem WOps_mono {K K' : St → Prop} (hK : ∀ σ, K σ → K' σ) : ∀ {l : List SO} {σ : St}, WOps P base l σ K → WOps P base l σ K'
  | [], σ, h => hK σ h
  | so :: l, σ, ⟨e, h1, h2⟩ => ⟨e, h1, fun hr => WOps_mono hK (h2 hr)⟩
theorem WD_mono {anc : List Nat} {K K' : St → Prop} (hK : ∀ σ, K σ → K' σ) : ∀ {l : List SO} {i : Nat} {σ : St} {tr : List TE}, WD P base anc i l σ tr K → WD P base anc i l σ tr K'
  | [], i, σ, tr, h => ⟨h.1, hK σ h.2⟩
  | so :: l, i, σ, tr, ⟨e, h1, h2⟩ => ⟨e, h1, WD_mono hK h2⟩

/-- What is owed behind a piece of code may be more than what is asked of it. -/
theorem W_mono : ∀ {x : SCode} {σ : St} {Q Q' : SEx → St → Prop}, W P base x σ Q → (∀ e σ, Q e σ → Q' e σ) → W P base x σ Q' := by
  intro x
  induction x with
  | skip => exact fun h hq => hq _ _ h
  | reg l => exact fun h hq => WOps_mono (hq .normal) h
  | dreg anc l => exact fun h hq => WD_mono (fun σ h hr => hq _ _ (h hr)) h
  | seq x y ihx ihy =>
    intro σ Q Q' h hq
    refine ihx h fun e σ he => ?_
    cases e with
    | normal => exact ihy he hq
    | exit id => exact hq _ _ he
    | ret => exact hq _ _ he
  | cond c x y ihx ihy =>
    intro σ Q Q' h hq
    obtain ⟨h1, t, h2, h3, h4⟩ := h
    exact ⟨h1, t, h2, fun ht => ihx (h3 ht) hq, fun ht => ihy (h4 ht) hq⟩
  | block id x ih =>
    intro σ Q Q' h hq
    refine ih h fun e σ he => ?_
    cases e with
    | normal => exact hq _ _ he
    | exit id' =>
      simp only [onBlock] at he ⊢
      split
      · rename_i hid; rw [if_pos hid] at he; exact hq _ _ he
      · rename_i hid; rw [if_neg hid] at he; exact hq _ _ he
    | ret => exact hq _ _ he
  | loop x ih =>
    intro σ Q Q' h hq
    obtain ⟨J, m, h0, hr⟩ := h
    refine ⟨J, m, h0, fun k σ hk => ih (hr k σ hk) fun e σ he => ?_⟩
    cases e with
    | normal => exact he
    | exit id => exact hq _ _ he
    | ret => exact hq _ _ he
  | exit id => exact fun h hq => hq _ _ h
  | ret => exact fun h hq => hq _ _ h
  | frz k =>
    intro σ Q Q' h hq
    obtain ⟨ty, sz, bs, es, h1, h2⟩ := h
    exact ⟨ty, sz, bs, es, h1, hq _ _ h2⟩
  | gh =>
    intro σ Q Q' h hq
    obtain ⟨σ', h1, h2⟩ := h
    exact ⟨σ', h1, hq _ _ h2⟩

/-- A piece of code that ends as it goes on: what holds behind it. -/
def only (A : St → Prop) : SEx → St → Prop
  | .normal, σ => A σ
  | _, _ => False
@[simp] theorem only_n (A : St → Prop) : only A .normal σ = A σ := rfl
@[simp] theorem only_e (A : St → Prop) (id : Nat) : only A (.exit id) σ = False := rfl
@[simp] theorem only_r (A : St → Prop) : only A .ret σ = False := rfl
theorem W_cut {x : SCode} {Q : SEx → St → Prop} (A : St → Prop) (h : W P base x σ (only A)) (hA : ∀ σ', A σ' → Q .normal σ') : W P base x σ Q :=
  W_mono h fun e σ he => by
    cases e with
    | normal => exact hA σ he
    | exit id => exact he.elim
    | ret => exact he.elim
/-- The same, of a block that is left. -/
theorem W_cutb {id : Nat} {x : SCode} {Q : SEx → St → Prop} (A : St → Prop) (h : W P base x σ (onBlock id (only A))) (hA : ∀ σ', A σ' → Q .normal σ') : W P base x σ (onBlock id Q) := by
  refine W_mono h fun e σ he => ?_
  cases e with
  | normal => exact hA σ he
  | exit id' =>
    simp only [onBlock] at he ⊢
    split
    · rename_i h; rw [if_pos h] at he; exact hA σ he
    · rename_i h; rw [if_neg h] at he; exact he.elim
  | ret => exact he.elim
@[simp] theorem toD_mp (k t : Nat) : toD σ (.mp k t) = .mp k t := rfl
@[simp] theorem toD_bk (f sz bs : Nat) (es : List (List Cell)) : toD σ (.bk f sz bs es) = .bk f sz bs es := rfl
@[simp] theorem k2_bk (f sz bs : Nat) (es : List (List Cell)) : AV.keys2 (.c (.bk f sz bs es)) = [] := rfl
@[simp] theorem toD_itr (f k t : Nat) : toD σ (.itr f k t) = .itr f k t := rfl
@[simp] theorem k2_mp (k t : Nat) : AV.keys2 (.c (.mp k t)) = [k] := rfl
@[simp] theorem k2_itr (f k t : Nat) : AV.keys2 (.c (.itr f k t)) = [k] := rfl
@[simp] theorem ld1P_none : ld1P none = none := rfl
/-! what comes of a value that is not there -/
@[simp] theorem binK_none : binK none = none := rfl
@[simp] theorem binV_bi (op : BinOp) (b : Bool) (k : IntKind) (n : Int) : binV op (.bool b) (.int k n) = none := rfl
@[simp] theorem binV_ib (op : BinOp) (b : Bool) (k : IntKind) (n : Int) : binV op (.int k n) (.bool b) = none := rfl
@[simp] theorem binV_bb (op : BinOp) (a b : Bool) : binV op (.bool a) (.bool b) = none := rfl
@[simp] theorem lenE_b (b : Bool) : lenE σ (.c (.v (.bool b))) = none := rfl
@[simp] theorem fadE_b (off : Nat) (b : Bool) : fadE σ off (.c (.v (.bool b))) = none := rfl
@[simp] theorem iadE_b (sz : Nat) (b : Bool) (i : AV) : iadE σ sz (.c (.v (.bool b))) i = none := rfl
@[simp] theorem convE_b (k : IntKind) (b : Bool) : convE k (.c (.v (.bool b))) = none := rfl
@[simp] theorem loadAt_b (one : Bool) (m : Nat) (b : Bool) : loadAt σ one m (.c (.v (.bool b))) = none := rfl
@[simp] theorem fld1E_b (off : Nat) (b : Bool) : fld1E off (.c (.v (.bool b))) = none := rfl
end Go.Abs

namespace Go.Abs

variable {P : Program} {base : Nat} {σ : St} {key : Nat} {ρ : SArg → AV} {β : Bool}

/-! ### calls that only look at the boxes a closure holds -/
structure Ro (σ : St) (l : Objs) : Prop where
  holds : Holds σ l
  keys : ∀ k t q, l.lookup k = some (t, q) → keysOk q.keys l
theorem puts_ro {l : Objs} (h : Holds σ l) : σ.puts l = σ := by
  refine st_ext (fun s => rfl) (fun k => ?_) fun k => rfl
  simp only [St.puts]
  cases e : l.lookup k with
  | none => rfl
  | some x => obtain ⟨t, q⟩ := x; exact (h k t q e).1.symm
theorem ro_sem {fv : AV} {xs : List AV} {fn : Nat} {rs : List (Nat × Nat)} {l : Objs} {res : AV} (h0 : un fv = .c (.clo fn [] rs)) (h1 : gok β fv) (h2 : ∀ x, x ∈ xs → gok β x)
    (h3 : β = true → Spec P fn (xs.map (fun x => toD2 σ (un x)) ++ refs rs) l res l) (h4 : res.keys2 = []) (hh : True → Ro σ l) : CallSem P σ β fv xs fn [] rs l l res [] where
  c0 := h0
  gf := h1
  gx := h2
  cs h := by simpa [refs] using h3 h
  ci k t q h := by
    obtain ⟨a, b⟩ := (hh trivial).holds k t q h
    exact ⟨a, b, by rw [h]; rfl⟩
  co k t q h := .inr ⟨by simp, ((hh trivial).holds k t q h).2.symm, q, h⟩
  cp k h := by simp at h
  kres k h := by rw [h4] at h; cases h
  kobs k t q h := (hh trivial).keys k t q h
theorem ECall.ro {d fn : Nat} {rs : List (Nat × Nat)} {xs args : List AV} {res : AV} {K : St → Prop} (l : Objs) (hs : Spec P fn (args ++ refs rs) l res l) (ha : xs.map (fun x => toD2 σ (un x)) = args)
    (h2 : ∀ x, x ∈ xs → gok true x) (h4 : res.keys2 = []) (hh : Ro σ l) (hK : RealA res → K (σ.set d res)) : ECall P σ (.c (.clo fn [] rs)) xs (some d) K := by
  subst ha
  exact ⟨fn, [], rs, l, l, res, [], [], ro_sem rfl trivial h2 (fun _ => hs) h4 (fun _ => hh), .inr ⟨rfl, rfl, rfl⟩, fun h => hK (h d rfl)⟩
theorem CallA.ro {ok : Bool} {d fn : Nat} {rs : List (Nat × Nat)} {xs args : List AV} {res : AV} {K : St → Prop} (l : Objs) (hs : Spec P fn (args ++ refs rs) l res l) (ha : xs.map (fun x => toD2 σ (un x)) = args)
    (h2 : ∀ x, x ∈ xs → gok true x) (h4 : res.keys2 = []) (hh : Ro σ l) (hK : K (σ.set d res)) : CallA P ok σ (.c (.clo fn [] rs)) xs (some d) K := by
  subst ha
  exact ⟨fn, [], rs, l, l, res, [], [], ro_sem rfl trivial h2 (fun _ => hs) h4 (fun _ => hh), .inr ⟨rfl, rfl, rfl⟩, .inl rfl, hK⟩
theorem GCall.ro {d fn : Nat} {β : Bool} {rs : List (Nat × Nat)} {xs args : List AV} {res : AV} {K : St → Prop} (l : Objs) (hs : β = true → Spec P fn (args ++ refs rs) l res l) (ha : xs.map (fun x => toD2 σ (un x)) = args)
    (h2 : ∀ x, x ∈ xs → gok β x) (h4 : res.keys2 = []) (hh : Ro σ l) (hK : RealA (.gd β res) → K (σ.set d (.gd β res))) : GCall P σ β (.c (.clo fn [] rs)) xs (some d) K := by
  subst ha
  exact ⟨fn, [], rs, l, l, res, ro_sem rfl trivial h2 hs h4 (fun _ => hh), .inr ⟨rfl, rfl, rfl⟩, fun h => hK (h d rfl)⟩
theorem CallD.ro {wk fb : List Nat} {own d fn : Nat} {rs : List (Nat × Nat)} {xs args : List AV} {res : AV} {K : St → Prop} (l : Objs) (hs : Spec P fn (args ++ refs rs) l res l) (ha : xs.map (fun x => toD2 σ (un x)) = args)
    (h2 : ∀ x, x ∈ xs → gok true x) (h4 : res.keys2 = []) (hh : Ro σ l) (h5 : okLk fb (own :: (xs.flatMap (fun x => (un x).keys2) ++ rs.map (·.1) ++ l.map (·.1)))) (hK : K (σ.set d res)) :
    CallD P wk fb own σ (.c (.clo fn [] rs)) xs (some d) K := by
  subst ha
  refine ⟨fn, [], rs, l, l, res, [], [], ro_sem rfl trivial h2 (fun _ => hs) h4 (fun _ => hh), .inr ⟨rfl, rfl, rfl⟩, by simp, ?_, hK⟩
  intro k hk hm
  refine h5 k hk ?_
  simp only [List.nil_append, List.map_nil, List.append_nil, List.flatMap_cons, un_c, AV.keys2, AV.keys1, Cell.keys, List.mem_cons, List.mem_append] at hm ⊢
  rcases hm with h | (h | h) | h
  · exact .inl h
  · exact .inr (.inl (.inr h))
  · exact .inr (.inl (.inl h))
  · exact .inr (.inr h)
end Go.Abs

namespace Go.Abs

variable {P : Program} {I : Init} {n : Nat} {σ σ' : St} {g g' : Gh} {a : Act} {w w' : World} {o : Oper} {e : Eff}

/-! ### a function that hands objects back under raised tags -/
structure EndU (rs : List RR) (res : AV) (outs : Objs) (σ : St) : Prop where
  gk : ∀ r, r ∈ rs → rrGok σ r
  res : resOf σ rs = some res
  outs : ∀ k t q, outs.lookup k = some (t, q) → σ.ob k = some q ∧ σ.tg k = t
def onEndU (rs : List RR) (res : AV) (outs : Objs) : SEx → St → Prop
  | .normal, σ => EndU rs res outs σ
  | .ret, σ => EndU rs res outs σ
  | .exit _, _ => False

theorem spec_up {f m base : Nat} {args : List AV} {ins outs : Objs} {res : AV} {sc : SCode} {rs : List RR} (hok : okFn P f n sc rs m = true) (hm : args.length = m)
    (hW : ∀ T : Nat → Nat, (∀ k t q, ins.lookup k = some (t, q) → T k = t) → (∀ x, x ∈ args → Real x) → W P base sc ⟨slotsOf args, obsOf ins, T⟩ (onEndU rs res outs)) : Spec P f args ins res outs := by
  unfold okFn at hok
  split at hok
  case h_2 => cases hok
  rename_i fn hf
  split at hok
  case h_2 => cases hok
  rename_i c hb
  simp only [Bool.and_eq_true, decide_eq_true_eq, Bool.not_eq_true'] at hok
  obtain ⟨⟨⟨⟨hn, hmn⟩, hcode⟩, hres⟩, hname⟩ := hok
  refine ⟨fun args w => ?_, fun g w vs hwok hargs hins => ?_⟩
  · have hname : ¬ fn.name = "runtime.NumGoroutine" := by simpa using hname
    simp [callFunc, hf, hname, hb]
  · refine calls_of_wp hf hb ?_
    let J : Init := ⟨g, w, mineOf g ins, []⟩
    have hlen : vs.size = m := by rw [← hm]; simpa using hargs.length.symm
    let a0 : Act := { tmps := vs ++ Array.replicate (fn.ntmps - vs.size) undef, defers := [] }
    have hobs : ∀ k q, obsOf ins k = some q → ∃ t, ins.lookup k = some (t, q) := fun k q h => by
      obtain ⟨⟨t, q'⟩, h1, rfl⟩ := Option.map_eq_some_iff.1 h
      exact ⟨t, h1⟩
    have hR0 : Rel J n ⟨slotsOf args, obsOf ins, g.tg⟩ g a0 w :=
      { size := by simp only [a0, Array.size_append, Array.size_replicate]; omega
        tags := fun _ => rfl
        slots := fun s => by
          simp only [slotsOf]
          by_cases hs : s < args.length
          · have hget : args[s]? = some args[s] := List.getElem?_eq_getElem hs
            obtain ⟨v, hv, hrv⟩ := hargs.get s _ hget
            have e1 : args.getD s (.c .junk) = args[s] := by simp [hs]
            have e2 : a0.tmps.getD s undef = v := by
              have hsv : s < vs.size := by omega
              have hv' : vs[s]? = some v := by simpa using hv
              simp only [a0, Array.getD_eq_getD_getElem?]
              rw [Array.getElem?_append_left hsv, hv']; rfl
            rw [e1, e2]
            exact RV_of2 hrv
          · have e1 : args.getD s (.c .junk) = .c .junk := by simp [hs]
            rw [e1]
            exact fun h => absurd rfl h
        defs := rfl
        obs := fun k q h => by
          obtain ⟨t, ht⟩ := hobs k q h
          exact (hins.ok k t q ht).2
        sep := fun k k' q q' h h' ha ha' hbb => by
          obtain ⟨t, ht⟩ := hobs k q h
          obtain ⟨t', ht'⟩ := hobs k' q' h'
          exact hins.sep k k' t t' q q' ht ht' ha ha' hbb
        wok := hwok, os := rfl, tape := rfl, out := rfl, grow := Nat.le_refl _
        frame := fun _ _ _ => ⟨rfl, fun _ => Iff.rfl⟩
        kp := Kp.refl g w, le := Gh.Le.refl g
        loc := fun k q h ha => by
          obtain ⟨t, ht⟩ := hobs k q h
          exact .inl ⟨k, t, q, ht, ha, rfl⟩ }
    have hdone : ∀ σ' g' a w', EndU rs res outs σ' → Rel J n σ' g' a w' → a.defers = [] ∧ ∃ v, (results fn a.tmps).run P w' = .ok v w' ∧ ∃ v' g'', Ending.returned v = .returned v' ∧ Post g w ins g'' w' res v' outs := by
      intro σ' g' a w' hE hR'
      obtain ⟨hgk, hr, ho⟩ := hE
      refine ⟨hR'.defs, ?_⟩
      unfold resOf at hr
      have hpost : ∀ v, RV2 g' w' res v → Post g w ins g' w' res v outs := fun v hv =>
        { res := hv
          obs := ⟨fun k t q h => ⟨(hR'.tags k).trans (ho k t q h).2, hR'.obs k q (ho k t q h).1⟩, fun k k' t t' q q' h h' ha ha' hbb => hR'.sep k k' q q' (ho k t q h).1 (ho k' t' q' h').1 ha ha' hbb⟩
          kp := hR'.kp, wok := hR'.wok, os := hR'.os, tape := hR'.tape, out := hR'.out, grow := hR'.grow, frame := hR'.frame
          loc := fun k t q h ha => hR'.loc k q (ho k t q h).1 ha
          box := fun k t hk _ ⟨q, hq⟩ => by
            have h1 := (ho k t q hq).2
            rcases hR'.le.le k with h | h
            · have := hR'.tags k
              have hk' : J.g0.tg k = t := hk
              omega
            · exact h.2 }
      cases hL : resL σ' rs with
      | none => rw [hL] at hr; cases hr
      | some xs =>
        rw [hL] at hr
        obtain ⟨us, h1, h2⟩ := resL_sound hR' hres hgk hL
        have hrun : (fn.results.mapM (resM a.tmps)).run P w' = .ok us.toArray w' := by
          rw [← Array.toArray_toList (xs := fn.results), List.mapM_toArray]
          simp [h1]
        have hrun2 : ∀ v, (if h : us.toArray.size = 1 then us.toArray[0] else Value.tuple us.toArray) = v → (results fn a.tmps).run P w' = .ok v w' := fun v hv => by
          have : results fn a.tmps = (do
            let vs ← fn.results.mapM (resM a.tmps)
            pure (if h : vs.size = 1 then vs[0] else .tuple vs)) := by
              unfold results
              congr 1
          rw [this]
          simp only [Sem.run_bind, hrun]
          rw [← hv]; rfl
        obtain ⟨v, hv1, hv2⟩ := one_res hr h2
        exact ⟨v, hrun2 v hv1, v, g', rfl, hpost v hv2⟩
    refine W_sound (base := base) sc c _ _ _ hcode (hW g.tg (fun k t q h => (hins.ok k t q h).1) fun x hx => by
      obtain ⟨i, hi⟩ := List.mem_iff_getElem?.1 hx
      obtain ⟨v, _, hv⟩ := hargs.get i x hi
      exact ⟨g, w, v, hv⟩) (fun e σ' g' a w' hq hR' => ?_) g a0 w hR0
    cases e with
    | normal => exact hdone σ' g' a w' hq hR'
    | ret => exact hdone σ' g' a w' hq hR'
    | exit id => exact hq.elim

end Go.Abs

namespace Go.Abs

variable {P : Program} {base : Nat} {σ : St}

/-! ### a box that tells of a row; a call that turns the row -/
def St.hp (σ : St) (B tb K r : Nat) (q : Obj) : St where
  sl := σ.sl
  ob := fun k => if k = B then some (.box tb [.own K (σ.tg K + r)]) else if k = K then some q else σ.ob k
  tg := fun k => if k = K then σ.tg K + r else σ.tg k
@[simp] theorem hp_sl (B tb K r : Nat) (q : Obj) : (σ.hp B tb K r q).sl = σ.sl := rfl
@[simp] theorem hp_ob (B tb K r : Nat) (q : Obj) (k : Nat) : (σ.hp B tb K r q).ob k = if k = B then some (.box tb [.own K (σ.tg K + r)]) else if k = K then some q else σ.ob k := rfl
@[simp] theorem hp_tg (B tb K r : Nat) (q : Obj) (k : Nat) : (σ.hp B tb K r q).tg k = if k = K then σ.tg K + r else σ.tg k := rfl

@[simp] theorem stl_sl (B tb : Nat) (cs : List Cell) (i k K : Nat) (q : Obj) : (σ.stl B tb cs i k K q).sl = σ.sl := rfl
@[simp] theorem stl_ob (B tb : Nat) (cs : List Cell) (i k K : Nat) (q : Obj) (x : Nat) : (σ.stl B tb cs i k K q).ob x = if x = B then some (.box tb (cs.set i (.own K (σ.tg K + 1)))) else if x = K then some q else if x = k then none else σ.ob x := rfl
@[simp] theorem stl_tg (B tb : Nat) (cs : List Cell) (i k K : Nat) (q : Obj) (x : Nat) : (σ.stl B tb cs i k K q).tg x = if x = K then σ.tg K + 1 else σ.tg x := rfl
@[simp] theorem adb_sl (B tb : Nat) (cs : List Cell) (i K ty sz bs : Nat) (es : List (List Cell)) : (σ.adb B tb cs i K ty sz bs es).sl = σ.sl := rfl
@[simp] theorem adb_ob (B tb : Nat) (cs : List Cell) (i K ty sz bs : Nat) (es : List (List Cell)) (x : Nat) : (σ.adb B tb cs i K ty sz bs es).ob x = if x = B then some (.box tb (cs.set i (.own K (σ.tg K + 1)))) else if x = K then some (.row ty sz bs es) else σ.ob x := rfl
@[simp] theorem adb_tg (B tb : Nat) (cs : List Cell) (i K ty sz bs : Nat) (es : List (List Cell)) (x : Nat) : (σ.adb B tb cs i K ty sz bs es).tg x = if x = K then σ.tg K + 1 else σ.tg x := rfl
@[simp] theorem ads_sl (s K ty sz bs : Nat) (es : List (List Cell)) (x : Nat) : (σ.ads s K ty sz bs es).sl x = if x = s then .c (.own K (σ.tg K + 1)) else σ.sl x := rfl
@[simp] theorem ads_ob (s K ty sz bs : Nat) (es : List (List Cell)) (x : Nat) : (σ.ads s K ty sz bs es).ob x = if x = K then some (.row ty sz bs es) else σ.ob x := rfl
@[simp] theorem ads_tg (s K ty sz bs : Nat) (es : List (List Cell)) (x : Nat) : (σ.ads s K ty sz bs es).tg x = if x = K then σ.tg K + 1 else σ.tg x := rfl
theorem W_ads {s K ty sz bs : Nat} {es : List (List Cell)} {Q : SEx → St → Prop} (hs : σ.sl s = .c (.cap sz bs es)) (h : Q .normal (σ.ads s K ty sz bs es)) : W P base .gh σ Q := W_gh (.ads s K ty sz bs es hs (.refl _)) h
theorem W_stl {B tb : Nat} {cs : List Cell} {i k t K : Nat} {q : Obj} {Q : SEx → St → Prop} (hB : σ.ob B = some (.box tb cs)) (hc : cs[i]? = some (.own k t)) (ht : t = σ.tg k) (hk : σ.ob k = some q) (hq : isRow q = true) (hK : K ≠ B) (h : Q .normal (σ.stl B tb cs i k K q)) : W P base .gh σ Q :=
  W_gh (.stl B tb cs i k t K q hB hc ht hk hq hK (.refl _)) h
theorem W_adb {B tb : Nat} {cs : List Cell} {i K ty sz bs : Nat} {es : List (List Cell)} {Q : SEx → St → Prop} (hB : σ.ob B = some (.box tb cs)) (hc : cs[i]? = some (.cap sz bs es)) (hK : K ≠ B) (h : Q .normal (σ.adb B tb cs i K ty sz bs es)) : W P base .gh σ Q :=
  W_gh (.adb B tb cs i K ty sz bs es hB hc hK (.refl _)) h
theorem two_get {B K tB t : Nat} {b q : Obj} {k t' : Nat} {q0 : Obj} (h : List.lookup k ([(B, tB, b), (K, t, q)] : Objs) = some (t', q0)) : (k = B ∧ t' = tB ∧ q0 = b) ∨ (k ≠ B ∧ k = K ∧ t' = t ∧ q0 = q) := by
  simp only [List.lookup_cons, List.lookup_nil] at h
  by_cases e : k = B
  · subst e; simp at h; exact .inl ⟨rfl, h.1.symm, h.2.symm⟩
  · have e1 : (k == B) = false := by simpa using e
    rw [e1] at h
    by_cases e2 : k = K
    · subst e2; simp at h; exact .inr ⟨e, rfl, h.1.symm, h.2.symm⟩
    · have e3 : (k == K) = false := by simpa using e2
      rw [e3] at h; simp at h
theorem two_B {B K tB t : Nat} {b q : Obj} : List.lookup B ([(B, tB, b), (K, t, q)] : Objs) = some (tB, b) := by simp
theorem two_K {B K tB t : Nat} {b q : Obj} (h : B ≠ K) : List.lookup K ([(B, tB, b), (K, t, q)] : Objs) = some (t, q) := by
  have : (K == B) = false := by simpa using Ne.symm h
  simp [List.lookup_cons, this]

theorem ECall.hp {d fn B K tB tb t r : Nat} {q q' : Obj} {xs args : List AV} {res : AV} {Kc : St → Prop} (hs : Spec P fn args [(B, tB, .box tb [.own K t]), (K, t, q)] res [(B, tB, .box tb [.own K (t + r)]), (K, t + r, q')])
    (ha : xs.map (fun x => toD2 σ (un x)) = args) (h2 : ∀ x, x ∈ xs → gok true x) (h4 : res.keys2 = []) (hr : r = 0 ∨ r = 1) (hne : B ≠ K) (hq : q'.keys = [])
    (oB : σ.ob B = some (.box tb [.own K t])) (gB : σ.tg B = tB) (oK : σ.ob K = some q) (gK : σ.tg K = t) (hK : RealA res → Kc ((σ.hp B tb K r q').set d res)) : ECall P σ (.c (.clo fn [] [])) xs (some d) Kc := by
  subst ha
  have kobs : ∀ (k t' : Nat) (q0 : Obj), List.lookup k ([(B, tB, .box tb [.own K (t + r)]), (K, t + r, q')] : Objs) = some (t', q0) → keysOk q0.keys [(B, tB, .box tb [.own K (t + r)]), (K, t + r, q')] := fun k t' q0 h => by
    rcases two_get h with ⟨rfl, rfl, rfl⟩ | ⟨h0, rfl, rfl, rfl⟩
    · intro k' hk'
      simp [Obj.keys, keysCs, Cell.keys] at hk'
      subst hk'
      rw [two_K hne]; rfl
    · intro k' hk'; rw [hq] at hk'; cases hk'
  have hci : ∀ (k t' : Nat) (q0 : Obj), List.lookup k ([(B, tB, .box tb [.own K t]), (K, t, q)] : Objs) = some (t', q0) → σ.ob k = some q0 ∧ σ.tg k = t' ∧ (List.lookup k ([(B, tB, .box tb [.own K (t + r)]), (K, t + r, q')] : Objs)).isSome = true := fun k t' q0 h => by
    rcases two_get h with ⟨rfl, rfl, rfl⟩ | ⟨h0, rfl, rfl, rfl⟩
    · exact ⟨oB, gB, by rw [two_B]; rfl⟩
    · exact ⟨oK, gK, by rw [two_K hne]; rfl⟩
  have hst : ∀ pur : List Nat, (∀ k, k ∈ pur ↔ k = K ∧ r = 1) → σ.ap (some d) ⟨res, pur, objsOf [(B, tB, .box tb [.own K (t + r)]), (K, t + r, q')], [B, K]⟩ = (σ.hp B tb K r q').set d res := fun pur hp => by
    refine st_ext (fun s => rfl) (fun k => ?_) fun k => ?_
    · simp only [St.ap, obAfter, lookup_objsOf, set_ob, hp_ob]
      by_cases e : k = B
      · subst e; rw [two_B]; simp [gK]
      · by_cases e2 : k = K
        · subst e2; rw [two_K hne]; simp [e]
        · have e1 : (k == B) = false := by simpa using e
          have e3 : (k == K) = false := by simpa using e2
          have e4 : k ∉ pur := fun h => e2 ((hp k).1 h).1
          simp [List.lookup_cons, e1, e3, e, e2, e4]
    · simp only [St.ap, set_tg, hp_tg]
      by_cases e2 : k = K
      · subst e2
        rcases hr with rfl | rfl
        · have : k ∉ pur := fun h => by have := ((hp k).1 h).2; omega
          simp [this]
        · have : k ∈ pur := (hp k).2 ⟨rfl, rfl⟩
          simp [this]
      · have e4 : k ∉ pur := fun h => e2 ((hp k).1 h).1
        simp [e2, e4]
  have hsem : ∀ pur : List Nat, (∀ k, k ∈ pur ↔ k = K ∧ r = 1) → CallSem P σ true (.c (.clo fn [] [])) xs fn [] [] [(B, tB, .box tb [.own K t]), (K, t, q)] [(B, tB, .box tb [.own K (t + r)]), (K, t + r, q')] res pur := fun pur hp =>
    { c0 := rfl, gf := trivial, gx := h2, cs := fun _ => by simpa [refs] using hs, ci := hci
      co := fun k t' q0 h => by
        rcases two_get h with ⟨rfl, rfl, rfl⟩ | ⟨h0, rfl, rfl, rfl⟩
        · exact .inr ⟨fun h => hne ((hp _).1 h).1, gB.symm, _, two_B⟩
        · rcases hr with rfl | rfl
          · exact .inr ⟨fun h => by have := ((hp _).1 h).2; omega, by rw [gK]; rfl, _, two_K hne⟩
          · exact .inl ⟨(hp _).2 ⟨rfl, rfl⟩, by rw [gK]⟩
      cp := fun k h => by obtain ⟨rfl, _⟩ := (hp k).1 h; rw [two_K hne]; rfl
      kres := fun k h => by rw [h4] at h; cases h
      kobs := kobs }
  rcases hr with rfl | rfl
  · refine ⟨fn, [], [], _, _, res, [], _, hsem [] (by simp), .inl rfl, fun h => ?_⟩
    have := hst [] (by simp)
    rw [show (List.map (fun x => x.1) [(B, tB, Obj.box tb [Cell.own K t]), (K, t, q)]) = [B, K] from rfl, this]
    exact hK (h d rfl)
  · refine ⟨fn, [], [], _, _, res, [K], _, hsem [K] (by simp), .inl rfl, fun h => ?_⟩
    have := hst [K] (by simp)
    rw [show (List.map (fun x => x.1) [(B, tB, Obj.box tb [Cell.own K t]), (K, t, q)]) = [B, K] from rfl, this]
    exact hK (h d rfl)

/-- A row that a call looks at. -/
theorem Ro.one {K t : Nat} {q : Obj} (oK : σ.ob K = some q) (gK : σ.tg K = t) (hq : q.keys = []) : Ro σ [(K, t, q)] := by
  have get : ∀ k t' q0, List.lookup k ([(K, t, q)] : Objs) = some (t', q0) → k = K ∧ t' = t ∧ q0 = q := fun k t' q0 h => by
    simp only [List.lookup_cons, List.lookup_nil] at h
    by_cases e : k = K
    · subst e; simp at h; exact ⟨rfl, h.1.symm, h.2.symm⟩
    · have e1 : (k == K) = false := by simpa using e
      rw [e1] at h; cases h
  refine ⟨fun k t' q0 h => ?_, fun k t' q0 h => ?_⟩
  · obtain ⟨rfl, rfl, rfl⟩ := get k t' q0 h; exact ⟨oK, gK⟩
  · obtain ⟨rfl, rfl, rfl⟩ := get k t' q0 h; intro k' hk'; rw [hq] at hk'; cases hk'

theorem one_get {K t : Nat} {q : Obj} {k t' : Nat} {q0 : Obj} (h : List.lookup k ([(K, t, q)] : Objs) = some (t', q0)) : k = K ∧ t' = t ∧ q0 = q := by
  simp only [List.lookup_cons, List.lookup_nil] at h
  by_cases e : k = K
  · subst e; simp at h; exact ⟨rfl, h.1.symm, h.2.symm⟩
  · have e1 : (k == K) = false := by simpa using e
    rw [e1] at h; cases h
theorem ECall.one {d fn K t : Nat} {q q' : Obj} {xs args : List AV} {res : AV} {Kc : St → Prop} (hs : Spec P fn args [(K, t, q)] res [(K, t, q')])
    (ha : xs.map (fun x => toD2 σ (un x)) = args) (h2 : ∀ x, x ∈ xs → gok true x) (h4 : res.keys2 = []) (hq : q'.keys = [])
    (oK : σ.ob K = some q) (gK : σ.tg K = t) (hK : RealA res → Kc ((σ.puto K q').set d res)) : ECall P σ (.c (.clo fn [] [])) xs (some d) Kc := by
  refine ECall.obj (rs := []) (args := args) (ins := [(K, t, q)]) (outs := [(K, t, q')]) (by simpa [refs] using hs) ha h2 h4 (fun k t' q0 h => ?_) ⟨fun k t' q0 h => ?_, fun k t' q0 h => ?_, fun k t' q0 h => ?_⟩ fun hr => ?_
  · obtain ⟨rfl, rfl, rfl⟩ := one_get h; exact ⟨oK, gK⟩
  · obtain ⟨rfl, rfl, rfl⟩ := one_get h; exact ⟨q', by simp⟩
  · obtain ⟨rfl, rfl, rfl⟩ := one_get h; exact ⟨q, by simp⟩
  · obtain ⟨rfl, rfl, rfl⟩ := one_get h; exact hq
  · have e : σ.puts [(K, t, q')] = σ.puto K q' := by
      refine st_ext (fun s => rfl) (fun k => ?_) fun k => rfl
      simp only [St.puts, puto_ob, List.lookup_cons, List.lookup_nil]
      by_cases e : k = K
      · subst e; simp
      · have e1 : (k == K) = false := by simpa using e
        simp [e1, e]
    rw [e]; exact hK hr

theorem EndU_two {rs : List RR} {res : AV} {B K tB t : Nat} {b q : Obj} (h1 : ∀ r, r ∈ rs → rrGok σ r) (h2 : resOf σ rs = some res) (oB : σ.ob B = some b) (gB : σ.tg B = tB) (oK : σ.ob K = some q) (gK : σ.tg K = t) :
    EndU rs res [(B, tB, b), (K, t, q)] σ := ⟨h1, h2, fun k t' q0 h => by
  rcases two_get h with ⟨rfl, rfl, rfl⟩ | ⟨_, rfl, rfl, rfl⟩
  · exact ⟨oB, gB⟩
  · exact ⟨oK, gK⟩⟩
theorem EndU_one {rs : List RR} {res : AV} {K t : Nat} {q : Obj} (h1 : ∀ r, r ∈ rs → rrGok σ r) (h2 : resOf σ rs = some res) (oK : σ.ob K = some q) (gK : σ.tg K = t) : EndU rs res [(K, t, q)] σ := ⟨h1, h2, fun k t' q0 h => by
  simp only [List.lookup_cons, List.lookup_nil] at h
  by_cases e : k = K
  · subst e; simp at h; obtain ⟨rfl, rfl⟩ := h; exact ⟨oK, gK⟩
  · have e1 : (k == K) = false := by simpa using e
    rw [e1] at h; cases h⟩
theorem spec_two {f m n B K tB t : Nat} {b q : Obj} {args : List AV} {outs : Objs} {res : AV} {sc : SCode} {rs : List RR} (hok : okFn P f n sc rs m = true) (hm : args.length = m) (hne : B ≠ K)
    (hW : ∀ σ : St, (∀ s, σ.sl s = slotsOf args s) → σ.ob B = some b → σ.tg B = tB → σ.ob K = some q → σ.tg K = t → (∀ x, x ∈ args → Real x) → W P base sc σ (onEndU rs res outs)) : Spec P f args [(B, tB, b), (K, t, q)] res outs :=
  spec_up (base := base) hok hm fun T hT hr => hW _ (fun _ => rfl) (by show ((List.lookup B ([(B, tB, b), (K, t, q)] : Objs)).map (·.2)) = _; rw [two_B]; rfl) (hT _ _ _ two_B) (by show ((List.lookup K ([(B, tB, b), (K, t, q)] : Objs)).map (·.2)) = _; rw [two_K hne]; rfl) (hT _ _ _ (two_K hne)) hr
theorem spec_one {f m n K t : Nat} {q : Obj} {args : List AV} {outs : Objs} {res : AV} {sc : SCode} {rs : List RR} (hok : okFn P f n sc rs m = true) (hm : args.length = m)
    (hW : ∀ σ : St, (∀ s, σ.sl s = slotsOf args s) → σ.ob K = some q → σ.tg K = t → (∀ x, x ∈ args → Real x) → W P base sc σ (onEndU rs res outs)) : Spec P f args [(K, t, q)] res outs :=
  spec_up (base := base) hok hm fun T hT hr => hW _ (fun _ => rfl) (by show ((List.lookup K ([(K, t, q)] : Objs)).map (·.2)) = some q; simp) (hT K t q (by simp)) hr
@[simp] theorem onEndU_n (rs : List RR) (res : AV) (outs : Objs) : onEndU rs res outs .normal σ = EndU rs res outs σ := rfl
@[simp] theorem onEndU_r (rs : List RR) (res : AV) (outs : Objs) : onEndU rs res outs .ret σ = EndU rs res outs σ := rfl

end Go.Abs
