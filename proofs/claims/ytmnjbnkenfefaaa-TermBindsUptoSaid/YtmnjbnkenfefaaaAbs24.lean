/- THIS TEXT PROVES A PART OF A CALCULUS THAT TELLS WHAT A LOADED GO FUNCTION DOES WITHOUT NAMING MEMORY: each rule is proved against the machine, for every program and every world; its conditions stand in each theorem. -/
import Derived.Test.YtmnjbnkenfefaaaAbs23
set_option linter.unusedVariables false
set_option linter.unusedSimpArgs false
namespace Go.Abs

variable {P : Program} {base : Nat} {σ : St} {key : Nat} {ρ : SArg → AV} {β : Bool}

/-! ### a region in any order: only those operations write that stand before or behind all others -/
def bar (anc : List Nat) (n i : Nat) : Bool := (List.range n).all fun j => decide (i = j) || (anc.getD i 0).testBit j || (anc.getD j 0).testBit i

def W1A (P : Program) (base : Nat) (ok : Bool) (so : SO) (σ : St) (K : St → Prop) : Prop := ∃ e, SemO P base so σ e ∧ (wrote e = [] ∨ ok = true) ∧ K (σ.ap so.dst e)
def WDA (P : Program) (base : Nat) (anc : List Nat) (n : Nat) : Nat → List SO → St → (St → Prop) → Prop
  | _, [], σ, K => K σ
  | i, so :: l, σ, K => W1A P base (bar anc n i) so σ fun σ' => WDA P base anc n (i + 1) l σ' K

theorem fineW_bar {anc : List Nat} {n : Nat} {tr : List TE} (h1 : ∀ x, x ∈ tr → x.i < n) (h2 : ∀ x, x ∈ tr → x.wr = [] ∨ bar anc n x.i = true) : fineW anc tr = true := by
  simp only [fineW, List.all_eq_true, List.mem_filter]
  rintro x ⟨hx, hw⟩ y hy
  rcases h2 x hx with h | h
  · rw [h] at hw; simp at hw
  · simp only [bar, List.all_eq_true, List.mem_range] at h
    have := h y.i (h1 y hy)
    simp only [Bool.or_eq_true] at this ⊢
    rcases this with (h' | h') | h'
    · exact .inl (.inl (.inl h'))
    · exact .inl (.inr h')
    · exact .inl (.inl (.inr h'))

theorem WDA_WD {anc : List Nat} {n : Nat} {K : St → Prop} : ∀ {l : List SO} {i : Nat} {σ : St} {tr : List TE}, i + l.length = n → (∀ x, x ∈ tr → x.i < n) → (∀ x, x ∈ tr → x.wr = [] ∨ bar anc n x.i = true) →
    WDA P base anc n i l σ K → WD P base anc i l σ tr K
  | [], i, σ, tr, _, h1, h2, h => ⟨fineW_bar (by simpa using h1) (by simpa using h2), h⟩
  | so :: l, i, σ, tr, hn, h1, h2, ⟨e, h3, h4, h5⟩ => by
    refine ⟨e, h3, WDA_WD (by simp at hn; omega) (fun x hx => ?_) (fun x hx => ?_) h5⟩
    · rcases List.mem_cons.1 hx with rfl | hx
      · simp at hn ⊢; omega
      · exact h1 x hx
    · rcases List.mem_cons.1 hx with rfl | hx
      · exact h4
      · exact h2 x hx

def realC (Q : SEx → St → Prop) (σ : St) : Prop := (∀ s, RealA (σ.sl s)) → Q .normal σ
theorem realC_ap (Q : SEx → St → Prop) : realC Q σ = ((∀ s, RealA (σ.sl s)) → Q .normal σ) := rfl
theorem realC_n {Q : SEx → St → Prop} (h : Q .normal σ) : realC Q σ := fun _ => h
def dC (P : Program) (base : Nat) (anc : List Nat) (n i : Nat) (l : List SO) (K : St → Prop) (σ : St) : Prop := WDA P base anc n i l σ K
@[simp] theorem dC_ap (anc : List Nat) (n i : Nat) (l : List SO) (K : St → Prop) : dC P base anc n i l K σ = WDA P base anc n i l σ K := rfl
theorem W_dregA {anc : List Nat} {l : List SO} {Q : SEx → St → Prop} (h : WDA P base anc l.length 0 l σ (realC Q)) : W P base (.dreg anc l) σ Q :=
  WDA_WD (by simp) (by simp) (by simp) h

@[simp] theorem WDA_nil (anc : List Nat) (n i : Nat) (K : St → Prop) : WDA P base anc n i [] σ K = K σ := rfl
@[simp] theorem WDA_cons (anc : List Nat) (n i : Nat) (so : SO) (l : List SO) (K : St → Prop) : WDA P base anc n i (so :: l) σ K = W1A P base (bar anc n i) so σ (dC P base anc n (i + 1) l K) := rfl
@[congr] theorem WDA_congr {anc : List Nat} {n i : Nat} {l : List SO} {σ σ' : St} {K : St → Prop} (h : σ = σ') : WDA P base anc n i l σ K = WDA P base anc n i l σ' K := by rw [h]
@[congr] theorem W1A_congr {ok : Bool} {so : SO} {σ σ' : St} {K : St → Prop} (h2 : σ = σ') : W1A P base ok so σ K = W1A P base ok so σ' K := by rw [h2]

/-- One operation, whatever it writes. -/
def WEA (ok : Bool) (o : Option Eff) (c : Prop) (σ : St) (d : Option Nat) (K : St → Prop) : Prop := WE o c fun e => (wrote e = [] ∨ ok = true) ∧ K (σ.ap d e)
@[congr] theorem WEA_congr {ok : Bool} {o o' : Option Eff} {c c' : Prop} {σ σ' : St} {d : Option Nat} {K : St → Prop} (h1 : o = o') (h2 : c = c') (h3 : σ = σ') : WEA ok o c σ d K = WEA ok o' c' σ' d K := by rw [h1, h2, h3]
@[simp] theorem WEA_pure (ok : Bool) (v : AV) (d : Nat) (K : St → Prop) : WEA ok (some (Eff.pure v)) True σ (some d) K = K (σ.set d v) := by simp [WEA, wrote]
@[simp] theorem WEA_look (ok : Bool) (v : AV) (l : List Nat) (d : Nat) (K : St → Prop) : WEA ok (some (Eff.look v l)) True σ (some d) K = K (σ.set d v) := by simp [WEA, wrote]
@[simp low] theorem WEA_pure' (ok : Bool) (v : AV) (d : Nat) (c : Prop) (K : St → Prop) : WEA ok (some (Eff.pure v)) c σ (some d) K = (c ∧ K (σ.set d v)) := by simp [WEA, wrote, WE_some]
@[simp low] theorem WEA_look' (ok : Bool) (v : AV) (l : List Nat) (d : Nat) (c : Prop) (K : St → Prop) : WEA ok (some (Eff.look v l)) c σ (some d) K = (c ∧ K (σ.set d v)) := by simp [WEA, wrote, WE_some]
theorem WEA_w0 (ok : Bool) (v : AV) (pur : List Nat) (put : List (Nat × Obj)) (rd : List Nat) (d : Option Nat) (K : St → Prop) (hok : ok = true) (h : K (σ.ap d ⟨v, pur, put, rd⟩)) : WEA ok (some ⟨v, pur, put, rd⟩) True σ d K := ⟨_, rfl, trivial, .inr hok, h⟩
@[simp] theorem WEA_new (ok : Bool) (v : AV) (k : Nat) (o : Obj) (rd : List Nat) (d : Nat) (c : Prop) (K : St → Prop) : WEA ok (some ⟨v, [k], [(k, o)], rd⟩) c σ (some d) K = (ok = true ∧ c ∧ K ((σ.new k o).set d v)) := by simp [WEA, WE_some, wrote]; exact ⟨fun h => ⟨h.2.1, h.1, h.2.2⟩, fun h => ⟨h.2.1, h.1, h.2.2⟩⟩
@[simp] theorem WEA_put (ok : Bool) (v : AV) (k : Nat) (o : Obj) (rd : List Nat) (c : Prop) (K : St → Prop) : WEA ok (some ⟨v, [], [(k, o)], rd⟩) c σ none K = (ok = true ∧ c ∧ K (σ.puto k o)) := by simp [WEA, WE_some, wrote]; exact ⟨fun h => ⟨h.2.1, h.1, h.2.2⟩, fun h => ⟨h.2.1, h.1, h.2.2⟩⟩
@[simp] theorem WEA_app (ok : Bool) (v : AV) (k k' : Nat) (o : Obj) (rd : List Nat) (d : Nat) (c : Prop) (K : St → Prop) : WEA ok (some ⟨v, [k, k'], [(k, o)], rd⟩) c σ (some d) K = (ok = true ∧ c ∧ K (if k = k' then (σ.new k o).set d v else ((σ.del k').new k o).set d v)) := by simp [WEA, WE_some, wrote]; exact ⟨fun h => ⟨h.2.1, h.1, h.2.2⟩, fun h => ⟨h.2.1, h.1, h.2.2⟩⟩
def WGA (o : Option Eff) (c : Prop) (β : Bool) (σ : St) (d : Option Nat) (K : St → Prop) : Prop := WG o c β σ d K

/-- A call. -/
def CallA (P : Program) (ok : Bool) (σ : St) (fv : AV) (xs : List AV) (d : Option Nat) (K : St → Prop) : Prop :=
  ∃ fn k1 k2 ins outs res pur, CallSem P σ true fv xs fn k1 k2 ins outs res pur ∧ (pur ++ (objsOf outs).map (·.1) = [] ∨ ok = true) ∧ K (σ.ap d ⟨res, pur, objsOf outs, ins.map (·.1)⟩)
def GCallA (P : Program) (σ : St) (β : Bool) (fv : AV) (xs : List AV) (d : Option Nat) (K : St → Prop) : Prop :=
  ∃ fn k1 k2 ins res, CallSem P σ β fv xs fn k1 k2 ins [] res [] ∧ K (σ.ap d ⟨.gd β res, [], [], ins.map (·.1)⟩)
@[congr] theorem CallA_congr {ok : Bool} {σ σ' : St} {fv fv' : AV} {xs xs' : List AV} {d : Option Nat} {K : St → Prop} (h : σ = σ') (h1 : fv = fv') (h2 : xs = xs') : CallA P ok σ fv xs d K = CallA P ok σ' fv' xs' d K := by rw [h, h1, h2]
@[congr] theorem GCallA_congr {σ σ' : St} {β β' : Bool} {fv fv' : AV} {xs xs' : List AV} {d : Option Nat} {K : St → Prop} (h : σ = σ') (h0 : β = β') (h1 : fv = fv') (h2 : xs = xs') : GCallA P σ β fv xs d K = GCallA P σ' β' fv' xs' d K := by rw [h, h0, h1, h2]
theorem CallA.fn {ok : Bool} {d fn : Nat} {xs args : List AV} {res : AV} {K : St → Prop} (hs : Fn P fn args res) (ha : xs.map (fun x => toD2 σ (un x)) = args)
    (h2 : ∀ x, x ∈ xs → gok true x) (h4 : res.keys2 = []) (hK : K (σ.set d res)) : CallA P ok σ (.c (.clo fn [] [])) xs (some d) K := by
  subst ha
  exact ⟨fn, [], [], [], [], res, [], call_sem rfl trivial h2 (fun _ => hs) h4, .inl rfl, hK⟩
theorem GCallA.fn {d fn : Nat} {β : Bool} {xs args : List AV} {res : AV} {K : St → Prop} (hs : β = true → Fn P fn args res) (ha : xs.map (fun x => toD2 σ (un x)) = args)
    (h2 : ∀ x, x ∈ xs → gok β x) (h4 : res.keys2 = []) (hK : K (σ.set d (.gd β res))) : GCallA P σ β (.c (.clo fn [] [])) xs (some d) K := by
  subst ha
  exact ⟨fn, [], [], [], res, call_sem rfl trivial h2 hs h4, hK⟩

def WA1 (P : Program) (base : Nat) (ok : Bool) (so : SO) (σ : St) (K : St → Prop) : Prop := W1A P base ok so σ K
theorem W1A_plain {ok : Bool} {d : Option Nat} {op : SOp} {K : St → Prop} (h : op.isCall = false) : W1A P base ok ⟨d, none, op⟩ σ K = WEA ok (ev1 (base + d.getD 0) σ.ev σ op) (cond true σ.ev σ op) σ d K := by
  apply propext
  cases op <;> first
    | (simp [SOp.isCall] at h; done)
    | skip
  all_goals
    simp only [W1A, SemO, gdOf, mkGd, WEA, WE]
    constructor
    · rintro ⟨e, ⟨β, hβ, e0, h1, h2, h3, rfl⟩, h4, h5⟩
      cases hβ
      exact ⟨_, h1, h2, h4, h5⟩
    · rintro ⟨e, h1, h2, h3, h4⟩
      exact ⟨e, ⟨true, rfl, e, h1, h2, fun h => absurd rfl h, rfl⟩, h3, h4⟩
theorem W1A_gd {ok : Bool} {d : Option Nat} {s : Nat} {want : Bool} {op : SOp} {K : St → Prop} (h : op.isCall = false) : W1A P base ok ⟨d, some (s, want), op⟩ σ K = gbK (gb (σ.sl s) want) (fun β => WG (ev1 (base + d.getD 0) σ.ev σ op) (cond β σ.ev σ op) β σ d K) := by
  apply propext
  cases op <;> first
    | (simp [SOp.isCall] at h; done)
    | skip
  all_goals
    simp only [W1A, SemO, gdOf, mkGd, gbK, WG, WE]
    constructor
    · rintro ⟨e, ⟨β, hβ, e0, h1, h2, h3, rfl⟩, h4, h5⟩
      obtain ⟨q1, q2⟩ := h3 (by simp)
      rw [q1, q2] at h5
      exact ⟨β, hβ, e0, h1, h2, q1, q2, h5⟩
    · rintro ⟨β, hβ, e, h1, h2, q1, q2, h3⟩
      refine ⟨⟨.gd β e.val, [], [], e.rd⟩, ⟨β, hβ, e, h1, h2, fun _ => ⟨q1, q2⟩, ?_⟩, .inl rfl, h3⟩
      rw [q1, q2]
@[simp] theorem W1A_none {ok : Bool} {d : Option Nat} {op : SOp} {K : St → Prop} : W1A P base ok ⟨d, none, op⟩ σ K = if op.isCall = true then WA1 P base ok ⟨d, none, op⟩ σ K else WEA ok (ev1 (base + d.getD 0) σ.ev σ op) (cond true σ.ev σ op) σ d K := by
  by_cases h : op.isCall = true
  · rw [if_pos h]; rfl
  · rw [if_neg h]; exact W1A_plain (by simpa using h)
@[simp] theorem W1A_some {ok : Bool} {d : Option Nat} {s : Nat} {want : Bool} {op : SOp} {K : St → Prop} : W1A P base ok ⟨d, some (s, want), op⟩ σ K = if op.isCall = true then WA1 P base ok ⟨d, some (s, want), op⟩ σ K else gbK (gb (σ.sl s) want) (gdC base op σ d K) := by
  by_cases h : op.isCall = true
  · rw [if_pos h]; rfl
  · rw [if_neg h]; exact W1A_gd (by simpa using h)
@[congr] theorem WA1_congr {ok : Bool} {so : SO} {σ σ' : St} {K : St → Prop} (h2 : σ = σ') : WA1 P base ok so σ K = WA1 P base ok so σ' K := by rw [h2]
@[simp] theorem WA1_eq {ok : Bool} {d : Option Nat} {f : SArg} {xs : List SArg} {K : St → Prop} : WA1 P base ok ⟨d, none, .call f xs⟩ σ K = CallA P ok σ (σ.ev f) (xs.map σ.ev) d K := by
  apply propext
  constructor
  · rintro ⟨e, ⟨β, hβ, fn, k1, k2, ins, outs, res, pur, h1, _, rfl⟩, h2, h3⟩
    cases hβ
    exact ⟨fn, k1, k2, ins, outs, res, pur, h1, h2, h3⟩
  · rintro ⟨fn, k1, k2, ins, outs, res, pur, h1, h2, h3⟩
    exact ⟨_, ⟨true, rfl, fn, k1, k2, ins, outs, res, pur, h1, fun h => absurd rfl h, rfl⟩, h2, h3⟩
def gaC (P : Program) (σ : St) (fv : AV) (xs : List AV) (d : Option Nat) (K : St → Prop) (β : Bool) : Prop := GCallA P σ β fv xs d K
@[simp] theorem gaC_ap (fv : AV) (xs : List AV) (d : Option Nat) (K : St → Prop) (β : Bool) : gaC P σ fv xs d K β = GCallA P σ β fv xs d K := rfl
@[simp] theorem WA1G_eq {ok : Bool} {d : Option Nat} {s : Nat} {want : Bool} {f : SArg} {xs : List SArg} {K : St → Prop} : WA1 P base ok ⟨d, some (s, want), .call f xs⟩ σ K = gbK (gb (σ.sl s) want) (gaC P σ (σ.ev f) (xs.map σ.ev) d K) := by
  apply propext
  constructor
  · rintro ⟨e, ⟨β, hβ, fn, k1, k2, ins, outs, res, pur, h1, hg, rfl⟩, h2, h3⟩
    obtain ⟨rfl, rfl⟩ := hg (by simp)
    exact ⟨β, hβ, fn, k1, k2, ins, res, h1, h3⟩
  · rintro ⟨β, hβ, fn, k1, k2, ins, res, h1, h3⟩
    exact ⟨_, ⟨β, hβ, fn, k1, k2, ins, [], res, [], h1, fun _ => ⟨rfl, rfl⟩, rfl⟩, .inl rfl, h3⟩

end Go.Abs
