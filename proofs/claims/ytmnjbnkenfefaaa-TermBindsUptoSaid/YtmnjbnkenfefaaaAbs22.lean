/- THIS TEXT PROVES A PART OF A CALCULUS THAT TELLS WHAT A LOADED GO FUNCTION DOES WITHOUT NAMING MEMORY: each rule is proved against the machine, for every program and every world; its conditions stand in each theorem. -/
import Derived.Test.YtmnjbnkenfefaaaAbs21
set_option linter.unusedVariables false
set_option linter.unusedSimpArgs false
namespace Go.Abs

variable {P : Program} {base : Nat} {σ : St}

/-! ### states, as they are read -/
def St.set (σ : St) (d : Nat) (v : AV) : St := { σ with sl := upd σ.sl d v }
def St.new (σ : St) (k : Nat) (o : Obj) : St := { σ with ob := fun k' => if k' = k then some o else σ.ob k', tg := fun k' => if k' = k then σ.tg k + 1 else σ.tg k' }
def St.puto (σ : St) (k : Nat) (o : Obj) : St := { σ with ob := fun k' => if k' = k then some o else σ.ob k' }
def St.del (σ : St) (k : Nat) : St := { σ with ob := fun k' => if k' = k then none else σ.ob k', tg := fun k' => if k' = k then σ.tg k + 1 else σ.tg k' }

@[simp] theorem set_sl (d : Nat) (v : AV) (s : Nat) : (σ.set d v).sl s = if s = d then v else σ.sl s := rfl
@[simp] theorem set_ob (d : Nat) (v : AV) : (σ.set d v).ob = σ.ob := rfl
@[simp] theorem set_tg (d : Nat) (v : AV) : (σ.set d v).tg = σ.tg := rfl
@[simp] theorem new_sl (k : Nat) (o : Obj) : (σ.new k o).sl = σ.sl := rfl
@[simp] theorem new_ob (k : Nat) (o : Obj) (k' : Nat) : (σ.new k o).ob k' = if k' = k then some o else σ.ob k' := rfl
@[simp] theorem new_tg (k : Nat) (o : Obj) (k' : Nat) : (σ.new k o).tg k' = if k' = k then σ.tg k + 1 else σ.tg k' := rfl
@[simp] theorem puto_sl (k : Nat) (o : Obj) : (σ.puto k o).sl = σ.sl := rfl
@[simp] theorem puto_ob (k : Nat) (o : Obj) (k' : Nat) : (σ.puto k o).ob k' = if k' = k then some o else σ.ob k' := rfl
@[simp] theorem puto_tg (k : Nat) (o : Obj) : (σ.puto k o).tg = σ.tg := rfl
@[simp] theorem del_sl (k : Nat) : (σ.del k).sl = σ.sl := rfl
@[simp] theorem del_ob (k : Nat) (k' : Nat) : (σ.del k).ob k' = if k' = k then none else σ.ob k' := rfl
@[simp] theorem del_tg (k : Nat) (k' : Nat) : (σ.del k).tg k' = if k' = k then σ.tg k + 1 else σ.tg k' := rfl
@[simp] theorem frz_sl (k ty sz bs : Nat) (es : List (List Cell)) : (σ.frz k ty sz bs es).sl = σ.sl := rfl
@[simp] theorem frz_ob (k ty sz bs : Nat) (es : List (List Cell)) (k' : Nat) : (σ.frz k ty sz bs es).ob k' = if k' = k then some (.row ty sz bs es) else σ.ob k' := rfl
@[simp] theorem frz_tg (k ty sz bs : Nat) (es : List (List Cell)) : (σ.frz k ty sz bs es).tg = σ.tg := rfl

@[simp] theorem ap_quiet (d : Nat) (v : AV) (rd : List Nat) : σ.ap (some d) ⟨v, [], [], rd⟩ = σ.set d v := rfl
@[simp] theorem ap_quiet0 (v : AV) (rd : List Nat) : σ.ap none ⟨v, [], [], rd⟩ = σ := rfl
theorem st_ext {x y : St} (a : ∀ s, x.sl s = y.sl s) (b : ∀ k, x.ob k = y.ob k) (c : ∀ k, x.tg k = y.tg k) : x = y := by
  cases x; cases y
  congr
  · exact funext a
  · exact funext b
  · exact funext c
@[simp] theorem ap_new (d k : Nat) (v : AV) (o : Obj) (rd : List Nat) : σ.ap (some d) ⟨v, [k], [(k, o)], rd⟩ = (σ.new k o).set d v := by
  refine st_ext (fun s => rfl) (fun k' => ?_) fun k' => ?_
  · simp only [St.ap, obAfter, St.set, St.new, List.lookup_cons, List.lookup_nil]
    by_cases h : k' = k
    · simp [h]
    · have h2 : (k' == k) = false := by simpa using h
      simp [h, h2]
  · by_cases h : k' = k
    · simp [St.ap, h]
    · simp [St.ap, h]
theorem ap_put (d : Nat) (k : Nat) (v : AV) (o : Obj) (rd : List Nat) : σ.ap (some d) ⟨v, [], [(k, o)], rd⟩ = (σ.puto k o).set d v := by
  refine st_ext (fun s => rfl) (fun k' => ?_) fun k' => rfl
  simp only [St.ap, obAfter, St.puto, St.set, List.lookup_cons, List.lookup_nil]
  by_cases h : k' = k
  · simp [h]
  · have h2 : (k' == k) = false := by simpa using h
    simp [h, h2]
@[simp] theorem ap_put0 (k : Nat) (v : AV) (o : Obj) (rd : List Nat) : σ.ap none ⟨v, [], [(k, o)], rd⟩ = σ.puto k o := by
  refine st_ext (fun s => rfl) (fun k' => ?_) fun k' => rfl
  simp only [St.ap, obAfter, St.puto, St.set, List.lookup_cons, List.lookup_nil]
  by_cases h : k' = k
  · simp [h]
  · have h2 : (k' == k) = false := by simpa using h
    simp [h, h2]
theorem ap_app {d key k : Nat} {v : AV} {o : Obj} {rd : List Nat} (h : key ≠ k) : σ.ap (some d) ⟨v, [key, k], [(key, o)], rd⟩ = ((σ.del k).new key o).set d v := by
  refine st_ext (fun s => rfl) (fun k' => ?_) fun k' => ?_
  · simp only [St.ap, obAfter, St.set, St.new, St.del, List.lookup_cons, List.lookup_nil]
    by_cases h1 : k' = key
    · simp [h1]
    · have h2 : (k' == key) = false := by simpa using h1
      by_cases h3 : k' = k
      · subst h3; simp [h1, h2]
      · simp [h1, h2, h3]
  · by_cases h1 : k' = key
    · subst h1; simp [St.ap, h]
    · by_cases h3 : k' = k
      · subst h3; simp [St.ap, h1]
      · simp [St.ap, h1, h3]

@[simp] theorem ev_t (m : Nat) : σ.ev (.t m) = σ.sl m := rfl
@[simp] theorem ev_k (v : Value) : σ.ev (.k v) = .c (.v v) := rfl
@[simp] theorem ev_nil (sz bs : Nat) : σ.ev (.nil sz bs) = .c (.cap sz bs []) := rfl
@[simp] theorem ev_f (m : Nat) : σ.ev (.f m) = .c (.clo m [] []) := rfl
@[simp] theorem un_c (x : Cell) : un (.c x) = .c x := rfl
@[simp] theorem un_agg (x : List Cell) : un (.agg x) = .agg x := rfl
@[simp] theorem un_tup (x : List AV) : un (.tup x) = .tup x := rfl
@[simp] theorem un_gd (b : Bool) (x : AV) : un (.gd b x) = x := rfl
@[simp] theorem gok_c (b : Bool) (x : Cell) : gok b (.c x) = True := rfl
@[simp] theorem gok_agg (b : Bool) (x : List Cell) : gok b (.agg x) = True := rfl
@[simp] theorem gok_tup (b : Bool) (x : List AV) : gok b (.tup x) = True := rfl
@[simp] theorem gok_gd (b b' : Bool) (x : AV) : gok b (.gd b' x) = (b = true → b' = true) := rfl

/-! ### code -/
def opsC (P : Program) (base : Nat) (l : List SO) (K : St → Prop) (σ : St) : Prop := WOps P base l σ K
@[simp] theorem opsC_ap (l : List SO) (K : St → Prop) : opsC P base l K σ = WOps P base l σ K := rfl
def seqC (P : Program) (base : Nat) (y : SCode) (Q : SEx → St → Prop) : SEx → St → Prop := onSeq (fun σ' => W P base y σ' Q) Q
@[simp] theorem seqC_n (y : SCode) (Q : SEx → St → Prop) : seqC P base y Q .normal σ = W P base y σ Q := rfl
@[simp] theorem seqC_e (y : SCode) (Q : SEx → St → Prop) (id : Nat) : seqC P base y Q (.exit id) σ = Q (.exit id) σ := rfl
@[simp] theorem seqC_r (y : SCode) (Q : SEx → St → Prop) : seqC P base y Q .ret σ = Q .ret σ := rfl
def brC (P : Program) (base : Nat) (x y : SCode) (σ : St) (Q : SEx → St → Prop) (t : Bool) : Prop := (t = true → W P base x σ Q) ∧ (t = false → W P base y σ Q)
@[simp] theorem brC_t (x y : SCode) (Q : SEx → St → Prop) : brC P base x y σ Q true = W P base x σ Q := by simp [brC]
@[simp] theorem brC_f (x y : SCode) (Q : SEx → St → Prop) : brC P base x y σ Q false = W P base y σ Q := by simp [brC]
@[simp low] theorem brC_b (x y : SCode) (Q : SEx → St → Prop) (t : Bool) : brC P base x y σ Q t = ((t = true → W P base x σ Q) ∧ (t = false → W P base y σ Q)) := rfl
def frzC (k : Nat) (σ : St) (Q : SEx → St → Prop) (ty sz bs : Nat) (es : List (List Cell)) : Prop := Q .normal (σ.frz k ty sz bs es)
@[simp] theorem frzC_ap (k : Nat) (Q : SEx → St → Prop) (ty sz bs : Nat) (es : List (List Cell)) : frzC k σ Q ty sz bs es = Q .normal (σ.frz k ty sz bs es) := rfl
def apC (σ : St) (d : Option Nat) (K : St → Prop) (e : Eff) : Prop := K (σ.ap d e)
@[simp] theorem apC_ap (d : Option Nat) (K : St → Prop) (e : Eff) : apC σ d K e = K (σ.ap d e) := rfl
def loopC (J : Nat → St → Prop) (k : Nat) (Q : SEx → St → Prop) : SEx → St → Prop := onSeq (fun σ' => ∃ k', k' < k ∧ J k' σ') Q
@[simp] theorem loopC_n (J : Nat → St → Prop) (k : Nat) (Q : SEx → St → Prop) : loopC J k Q .normal σ = ∃ k', k' < k ∧ J k' σ := rfl
@[simp] theorem loopC_e (J : Nat → St → Prop) (k : Nat) (Q : SEx → St → Prop) (id : Nat) : loopC J k Q (.exit id) σ = Q (.exit id) σ := rfl
@[simp] theorem loopC_r (J : Nat → St → Prop) (k : Nat) (Q : SEx → St → Prop) : loopC J k Q .ret σ = Q .ret σ := rfl
def gbK (o : Option Bool) (F : Bool → Prop) : Prop := ∃ β, o = some β ∧ F β
@[simp] theorem gbK_some (b : Bool) (F : Bool → Prop) : gbK (some b) F = F b := by simp [gbK]
@[congr] theorem gbK_congr {o o' : Option Bool} {F : Bool → Prop} (h : o = o') : gbK o F = gbK o' F := by rw [h]
def boolK (x : AV) (F : Bool → Prop) : Prop := ∃ t, x = .c (.v (.bool t)) ∧ F t
@[simp] theorem boolK_c (b : Bool) (F : Bool → Prop) : boolK (.c (.v (.bool b))) F = F b := by simp [boolK]
@[congr] theorem boolK_congr {x x' : AV} {F : Bool → Prop} (h : x = x') : boolK x F = boolK x' F := by rw [h]
def brK (t : Bool) (X Y : Prop) : Prop := (t = true → X) ∧ (t = false → Y)
@[simp] theorem brK_t (X Y : Prop) : brK true X Y = X := by simp [brK]
@[simp] theorem brK_f (X Y : Prop) : brK false X Y = Y := by simp [brK]
@[congr] theorem brK_congr {t t' : Bool} {X Y : Prop} (h : t = t') : brK t X Y = brK t' X Y := by rw [h]
@[simp low] theorem brK_b (t : Bool) (X Y : Prop) : brK t X Y = ((t = true → X) ∧ (t = false → Y)) := rfl
def condK (x : AV) (F : Bool → Prop) : Prop := gok true x ∧ boolK (un x) F
@[simp] theorem condK_c (b : Bool) (F : Bool → Prop) : condK (.c (.v (.bool b))) F = F b := by simp [condK]
@[simp] theorem condK_gd (b b' : Bool) (F : Bool → Prop) : condK (.gd b' (.c (.v (.bool b)))) F = (b' = true ∧ F b) := by simp [condK]
@[congr] theorem condK_congr {x x' : AV} {F : Bool → Prop} (h : x = x') : condK x F = condK x' F := by rw [h]
def frzK (o : Option Obj) (F : Nat → Nat → Nat → List (List Cell) → Prop) : Prop := ∃ ty sz bs es, o = some (.mrow ty sz bs es) ∧ F ty sz bs es
@[simp] theorem frzK_some (ty sz bs : Nat) (es : List (List Cell)) (F : Nat → Nat → Nat → List (List Cell) → Prop) : frzK (some (.mrow ty sz bs es)) F = F ty sz bs es := propext ⟨fun ⟨_, _, _, _, h, h2⟩ => by cases h; exact h2, fun h => ⟨_, _, _, _, rfl, h⟩⟩
@[congr] theorem frzK_congr {o o' : Option Obj} {F : Nat → Nat → Nat → List (List Cell) → Prop} (h : o = o') : frzK o F = frzK o' F := by rw [h]
@[simp] theorem W_skip (Q : SEx → St → Prop) : W P base .skip σ Q = Q .normal σ := rfl
@[simp] theorem W_reg (l : List SO) (Q : SEx → St → Prop) : W P base (.reg l) σ Q = WOps P base l σ (Q .normal) := rfl
theorem W_dreg (anc : List Nat) (l : List SO) (Q : SEx → St → Prop) : W P base (.dreg anc l) σ Q = WD P base anc 0 l σ [] (fun σ' => (∀ s, RealA (σ'.sl s)) → Q .normal σ') := rfl
@[simp] theorem W_seq (x y : SCode) (Q : SEx → St → Prop) : W P base (.seq x y) σ Q = W P base x σ (seqC P base y Q) := rfl
@[simp] theorem W_cond (c : SArg) (x y : SCode) (Q : SEx → St → Prop) : W P base (.cond c x y) σ Q = condK (σ.ev c) (brC P base x y σ Q) := rfl
@[simp] theorem W_block (id : Nat) (x : SCode) (Q : SEx → St → Prop) : W P base (.block id x) σ Q = W P base x σ (onBlock id Q) := rfl
@[simp] theorem W_exit (id : Nat) (Q : SEx → St → Prop) : W P base (.exit id) σ Q = Q (.exit id) σ := rfl
@[simp] theorem W_ret (Q : SEx → St → Prop) : W P base .ret σ Q = Q .ret σ := rfl
@[simp] theorem W_frz (k : Nat) (Q : SEx → St → Prop) : W P base (.frz k) σ Q = frzK (σ.ob k) (frzC k σ Q) := rfl
@[simp] theorem onSeq_n (K : St → Prop) (Q : SEx → St → Prop) : onSeq K Q .normal σ = K σ := rfl
@[simp] theorem onSeq_e (K : St → Prop) (Q : SEx → St → Prop) (id : Nat) : onSeq K Q (.exit id) σ = Q (.exit id) σ := rfl
@[simp] theorem onSeq_r (K : St → Prop) (Q : SEx → St → Prop) : onSeq K Q .ret σ = Q .ret σ := rfl
@[simp] theorem onBlock_n (id : Nat) (Q : SEx → St → Prop) : onBlock id Q .normal σ = Q .normal σ := rfl
@[simp] theorem onBlock_e (id id' : Nat) (Q : SEx → St → Prop) : onBlock id Q (.exit id') σ = if id' = id then Q .normal σ else Q (.exit id') σ := rfl
@[simp] theorem onBlock_r (id : Nat) (Q : SEx → St → Prop) : onBlock id Q .ret σ = Q .ret σ := rfl
@[simp] theorem WOps_nil (K : St → Prop) : WOps P base [] σ K = K σ := rfl
@[simp] theorem WOps_cons (so : SO) (l : List SO) (K : St → Prop) : WOps P base (so :: l) σ K = W1 P base so σ (opsC P base l K) := rfl

/-- A loop, with its invariant. -/
theorem W_loop {x : SCode} {Q : SEx → St → Prop} (J : Nat → St → Prop) (m : Nat) (h0 : J m σ) (h : ∀ k σ, J k σ → W P base x σ (loopC J k Q)) : W P base (.loop x) σ Q := ⟨J, m, h0, h⟩

/-! ### one operation -/
def WE (o : Option Eff) (c : Prop) (K : Eff → Prop) : Prop := ∃ e, o = some e ∧ c ∧ K e
theorem WE_some (e : Eff) (c : Prop) (K : Eff → Prop) : WE (some e) c K = (c ∧ K e) := by simp [WE]
@[simp low] theorem WE_rest (e : Eff) (c : Prop) (K : Eff → Prop) : WE (some e) c K = (c ∧ K e) := WE_some e c K
@[simp] theorem WE_true (e : Eff) (K : Eff → Prop) : WE (some e) True K = K e := by simp [WE]
/-- An operation under a guard. -/
def WG (o : Option Eff) (c : Prop) (β : Bool) (σ : St) (d : Option Nat) (K : St → Prop) : Prop := WE o c fun e => e.pur = [] ∧ e.put = [] ∧ K (σ.ap d ⟨.gd β e.val, [], [], e.rd⟩)
@[simp] theorem WG_pure (v : AV) (β : Bool) (d : Nat) (K : St → Prop) : WG (some (Eff.pure v)) True β σ (some d) K = K (σ.set d (.gd β v)) := by simp [WG, WE, Eff.pure]
@[simp] theorem WG_look (v : AV) (l : List Nat) (β : Bool) (d : Nat) (K : St → Prop) : WG (some (Eff.look v l)) True β σ (some d) K = K (σ.set d (.gd β v)) := by simp [WG, WE, Eff.look]
@[simp low] theorem WG_rest (v : AV) (l : List Nat) (c : Prop) (β : Bool) (d : Nat) (K : St → Prop) : WG (some (Eff.look v l)) c β σ (some d) K = (c ∧ K (σ.set d (.gd β v))) := by simp [WG, WE, Eff.look]
@[simp low] theorem WG_rest2 (v : AV) (c : Prop) (β : Bool) (d : Nat) (K : St → Prop) : WG (some (Eff.pure v)) c β σ (some d) K = (c ∧ K (σ.set d (.gd β v))) := by simp [WG, WE, Eff.pure]

@[simp] theorem WE_none (c : Prop) (K : Eff → Prop) : WE none c K = False := by simp [WE]
theorem WE_ite (p : Prop) [Decidable p] (x y : Option Eff) (c : Prop) (K : Eff → Prop) : WE (if p then x else y) c K = ((p → WE x c K) ∧ (¬ p → WE y c K)) := by
  by_cases h : p <;> simp [h]

theorem W1_plain {d : Option Nat} {op : SOp} {K : St → Prop} (h : op.isCall = false) : W1 P base ⟨d, none, op⟩ σ K = WE (ev1 (base + d.getD 0) σ.ev σ op) (cond true σ.ev σ op) (fun e => K (σ.ap d e)) := by
  apply propext
  cases op <;> first
    | (simp [SOp.isCall] at h; done)
    | skip
  all_goals
    simp only [W1, SemO, gdOf, mkGd, SOp.isCall, WE]
    constructor
    · rintro ⟨e, ⟨β, hβ, e0, h1, h2, h3, rfl⟩, h4⟩
      cases hβ
      exact ⟨_, h1, h2, h4 (fun _ _ h => by cases h)⟩
    · rintro ⟨e, h1, h2, h3⟩
      exact ⟨e, ⟨true, rfl, e, h1, h2, fun h => absurd rfl h, rfl⟩, fun _ => h3⟩

theorem W1_gd {d : Option Nat} {s : Nat} {want : Bool} {op : SOp} {K : St → Prop} (h : op.isCall = false) : W1 P base ⟨d, some (s, want), op⟩ σ K = (∃ β, gb (σ.sl s) want = some β ∧
    WE (ev1 (base + d.getD 0) σ.ev σ op) (cond β σ.ev σ op) (fun e => e.pur = [] ∧ e.put = [] ∧ K (σ.ap d ⟨.gd β e.val, [], [], e.rd⟩))) := by
  apply propext
  cases op <;> first
    | (simp [SOp.isCall] at h; done)
    | skip
  all_goals
    simp only [W1, SemO, gdOf, mkGd, SOp.isCall, WE]
    constructor
    · rintro ⟨e, ⟨β, hβ, e0, h1, h2, h3, rfl⟩, h4⟩
      obtain ⟨q1, q2⟩ := h3 (by simp)
      have h4 := h4 (fun _ _ h => by cases h)
      rw [q1, q2] at h4
      exact ⟨β, hβ, e0, h1, h2, q1, q2, h4⟩
    · rintro ⟨β, hβ, e, h1, h2, q1, q2, h3⟩
      refine ⟨⟨.gd β e.val, [], [], e.rd⟩, ⟨β, hβ, e, h1, h2, fun _ => ⟨q1, q2⟩, ?_⟩, fun _ => h3⟩
      rw [q1, q2]

/-! ### calls of functions that only compute -/
theorem call_sem {β : Bool} {fv : AV} {xs : List AV} {fn : Nat} {res : AV} (h0 : un fv = .c (.clo fn [] [])) (h1 : gok β fv) (h2 : ∀ x, x ∈ xs → gok β x) (h3 : β = true → Fn P fn (xs.map fun x => toD2 σ (un x)) res) (h4 : res.keys2 = []) :
    CallSem P σ β fv xs fn [] [] [] [] res [] where
  c0 := h0
  gf := h1
  gx := h2
  cs h := by simpa [refs, Fn] using h3 h
  ci k t q h := by simp at h
  co k t q h := by simp at h
  cp k h := by simp at h
  kres k h := by rw [h4] at h; cases h
  kobs k t q h := by simp at h

/-- A call, its operands reckoned. -/
def ECall (P : Program) (σ : St) (fv : AV) (xs : List AV) (d : Option Nat) (K : St → Prop) : Prop :=
  ∃ fn k1 k2 ins outs res pur, CallSem P σ true fv xs fn k1 k2 ins outs res pur ∧ ((∀ d', d = some d' → RealA res) → K (σ.ap d ⟨res, pur, objsOf outs, ins.map (·.1)⟩))
def GCall (P : Program) (σ : St) (β : Bool) (fv : AV) (xs : List AV) (d : Option Nat) (K : St → Prop) : Prop :=
  ∃ fn k1 k2 ins res, CallSem P σ β fv xs fn k1 k2 ins [] res [] ∧ ((∀ d', d = some d' → RealA (.gd β res)) → K (σ.ap d ⟨.gd β res, [], [], ins.map (·.1)⟩))
theorem ECall_W1 {d : Option Nat} {f : SArg} {xs : List SArg} {K : St → Prop} (h : ECall P σ (σ.ev f) (xs.map σ.ev) d K) : W1 P base ⟨d, none, .call f xs⟩ σ K := by
  obtain ⟨fn, k1, k2, ins, outs, res, pur, h1, h2⟩ := h
  exact ⟨_, ⟨true, rfl, fn, k1, k2, ins, outs, res, pur, h1, fun h => absurd rfl h, rfl⟩, fun h => h2 fun d' hd => h d' hd rfl⟩
theorem ECall.fn {d fn : Nat} {xs args : List AV} {res : AV} {K : St → Prop} (hs : Fn P fn args res) (ha : xs.map (fun x => toD2 σ (un x)) = args)
    (h2 : ∀ x, x ∈ xs → gok true x) (h4 : res.keys2 = []) (hK : RealA res → K (σ.set d res)) : ECall P σ (.c (.clo fn [] [])) xs (some d) K := by
  subst ha
  exact ⟨fn, [], [], [], [], res, [], call_sem rfl trivial h2 (fun _ => hs) h4, fun h => hK (h d rfl)⟩
theorem GCall.fn {d fn : Nat} {β : Bool} {xs args : List AV} {res : AV} {K : St → Prop} (hs : β = true → Fn P fn args res) (ha : xs.map (fun x => toD2 σ (un x)) = args)
    (h2 : ∀ x, x ∈ xs → gok β x) (h4 : res.keys2 = []) (hK : RealA (.gd β res) → K (σ.set d (.gd β res))) : GCall P σ β (.c (.clo fn [] [])) xs (some d) K := by
  subst ha
  exact ⟨fn, [], [], [], res, call_sem rfl trivial h2 hs h4, fun h => hK (h d rfl)⟩

/-! ### functions -/
theorem fn_of {f m n : Nat} {args : List AV} {res : AV} {sc : SCode} {rs : List RR} (hok : okFn P f n sc rs m = true) (hm : args.length = m)
    (hW : ∀ σ : St, (∀ s, σ.sl s = slotsOf args s) → (∀ x, x ∈ args → Real x) → W P base sc σ (onEnd [] rs res [])) : Fn P f args res :=
  spec_of (base := base) hok hm fun T _ hr => hW _ (fun _ => rfl) hr

theorem EndOK_fn {rs : List RR} {res : AV} : EndOK [] rs res [] σ ↔ (∀ r, r ∈ rs → rrGok σ r) ∧ resOf σ rs = some res :=
  ⟨fun h => ⟨h.gk, h.res⟩, fun h => ⟨h.1, h.2, fun k t q h => by simp at h⟩⟩
@[simp] theorem onEnd_n {rs : List RR} {res : AV} : onEnd [] rs res [] .normal σ = ((∀ r, r ∈ rs → rrGok σ r) ∧ resOf σ rs = some res) := propext EndOK_fn
@[simp] theorem onEnd_r {rs : List RR} {res : AV} : onEnd [] rs res [] .ret σ = ((∀ r, r ∈ rs → rrGok σ r) ∧ resOf σ rs = some res) := propext EndOK_fn

@[simp] theorem isCall_mv (x : SArg) : (SOp.mv x).isCall = false := rfl
@[simp] theorem isCall_pick (c a b : SArg) : (SOp.pick c a b).isCall = false := rfl
@[simp] theorem isCall_box (t : Nat) (x : SArg) : (SOp.box t x).isCall = false := rfl
@[simp] theorem isCall_alloc (t : Nat) (zs : List Cell) : (SOp.alloc t zs).isCall = false := rfl
@[simp] theorem isCall_build (t : Nat) (zs : List Cell) (ps : List (Nat × Nat × Nat × SArg)) : (SOp.build t zs ps).isCall = false := rfl
@[simp] theorem isCall_lit (t sz bs : Nat) (xs : List SArg) : (SOp.lit t sz bs xs).isCall = false := rfl
@[simp] theorem isCall_ld1 (t : Nat) (x : SArg) : (SOp.ld1 t x).isCall = false := rfl
@[simp] theorem isCall_ldn (t n : Nat) (x : SArg) : (SOp.ldn t n x).isCall = false := rfl
@[simp] theorem isCall_st1 (t : Nat) (x v : SArg) : (SOp.st1 t x v).isCall = false := rfl
@[simp] theorem isCall_stn (t n : Nat) (x v : SArg) : (SOp.stn t n x v).isCall = false := rfl
@[simp] theorem isCall_nilc (x : SArg) : (SOp.nilc x).isCall = false := rfl
@[simp] theorem isCall_bin (o : BinOp) (x y : SArg) : (SOp.bin o x y).isCall = false := rfl
@[simp] theorem isCall_beq (n : Bool) (t : Nat) (x y : SArg) : (SOp.beq n t x y).isCall = false := rfl
@[simp] theorem isCall_not (x : SArg) : (SOp.not x).isCall = false := rfl
@[simp] theorem isCall_neg (x : SArg) : (SOp.neg x).isCall = false := rfl
@[simp] theorem isCall_conv (t u : Nat) (k : IntKind) (x : SArg) : (SOp.conv t u k x).isCall = false := rfl
@[simp] theorem isCall_mkfn (f : Nat) (xs ys : List SArg) : (SOp.mkfn f xs ys).isCall = false := rfl
@[simp] theorem isCall_mk (t sz bs : Nat) (zs : List Cell) (n : SArg) : (SOp.mk t sz bs zs n).isCall = false := rfl
@[simp] theorem isCall_slc (t sz bs : Nat) (x : SArg) (lo hi mx : Option SArg) : (SOp.slc t sz bs x lo hi mx).isCall = false := rfl
@[simp] theorem isCall_fad (t i o : Nat) (x : SArg) : (SOp.fad t i o x).isCall = false := rfl
@[simp] theorem isCall_fld1 (t i o : Nat) (x : SArg) : (SOp.fld1 t i o x).isCall = false := rfl
@[simp] theorem isCall_fldn (t i o n : Nat) (x : SArg) : (SOp.fldn t i o n x).isCall = false := rfl
@[simp] theorem isCall_iad (t sz : Nat) (x i : SArg) : (SOp.iad t sz x i).isCall = false := rfl
@[simp] theorem isCall_ext (x : SArg) (i : Nat) : (SOp.ext x i).isCall = false := rfl
@[simp] theorem isCall_len (t : Nat) (x : SArg) : (SOp.len t x).isCall = false := rfl
@[simp] theorem isCall_app (t sz bs : Nat) (x y : SArg) : (SOp.app t sz bs x y).isCall = false := rfl
@[simp] theorem isCall_best (m : Bool) (xs : List SArg) : (SOp.best m xs).isCall = false := rfl

/-- A call: the walk stops here. -/
def WCall (P : Program) (base : Nat) (so : SO) (σ : St) (K : St → Prop) : Prop := W1 P base so σ K
@[simp] theorem W1_none {d : Option Nat} {op : SOp} {K : St → Prop} : W1 P base ⟨d, none, op⟩ σ K = if op.isCall = true then WCall P base ⟨d, none, op⟩ σ K else WE (ev1 (base + d.getD 0) σ.ev σ op) (cond true σ.ev σ op) (apC σ d K) := by
  by_cases h : op.isCall = true
  · rw [if_pos h]; rfl
  · rw [if_neg h]; exact W1_plain (by simpa using h)
def gdC (base : Nat) (op : SOp) (σ : St) (d : Option Nat) (K : St → Prop) (β : Bool) : Prop := WG (ev1 (base + d.getD 0) σ.ev σ op) (cond β σ.ev σ op) β σ d K
@[simp] theorem gdC_ap (op : SOp) (d : Option Nat) (K : St → Prop) (β : Bool) : gdC base op σ d K β = WG (ev1 (base + d.getD 0) σ.ev σ op) (cond β σ.ev σ op) β σ d K := rfl
@[simp] theorem W1_some {d : Option Nat} {s : Nat} {want : Bool} {op : SOp} {K : St → Prop} : W1 P base ⟨d, some (s, want), op⟩ σ K = if op.isCall = true then WCall P base ⟨d, some (s, want), op⟩ σ K else gbK (gb (σ.sl s) want) (gdC base op σ d K) := by
  by_cases h : op.isCall = true
  · rw [if_pos h]; rfl
  · rw [if_neg h]; exact W1_gd (by simpa using h)
theorem WCall_eq {d : Option Nat} {f : SArg} {xs : List SArg} {K : St → Prop} : WCall P base ⟨d, none, .call f xs⟩ σ K = ECall P σ (σ.ev f) (xs.map σ.ev) d K := by
  apply propext
  constructor
  · rintro ⟨e, ⟨β, hβ, fn, k1, k2, ins, outs, res, pur, h1, _, rfl⟩, h2⟩
    cases hβ
    exact ⟨fn, k1, k2, ins, outs, res, pur, h1, fun h => h2 fun d' hd _ => h d' hd⟩
  · exact ECall_W1
def gcC (P : Program) (σ : St) (fv : AV) (xs : List AV) (d : Option Nat) (K : St → Prop) (β : Bool) : Prop := GCall P σ β fv xs d K
@[simp] theorem gcC_ap (fv : AV) (xs : List AV) (d : Option Nat) (K : St → Prop) (β : Bool) : gcC P σ fv xs d K β = GCall P σ β fv xs d K := rfl
theorem WCallG_eq {d : Option Nat} {s : Nat} {want : Bool} {f : SArg} {xs : List SArg} {K : St → Prop} : WCall P base ⟨d, some (s, want), .call f xs⟩ σ K = gbK (gb (σ.sl s) want) (gcC P σ (σ.ev f) (xs.map σ.ev) d K) := by
  apply propext
  constructor
  · rintro ⟨e, ⟨β, hβ, fn, k1, k2, ins, outs, res, pur, h1, hg, rfl⟩, h2⟩
    obtain ⟨rfl, rfl⟩ := hg (by simp)
    exact ⟨β, hβ, fn, k1, k2, ins, res, h1, fun h => h2 fun d' hd _ => h d' hd⟩
  · rintro ⟨β, hβ, fn, k1, k2, ins, res, h1, h2⟩
    exact ⟨_, ⟨β, hβ, fn, k1, k2, ins, [], res, [], h1, fun _ => ⟨rfl, rfl⟩, rfl⟩, fun h => h2 fun d' hd => h d' hd rfl⟩
attribute [simp] WCall_eq WCallG_eq
@[congr] theorem ECall_congr {σ σ' : St} {fv fv' : AV} {xs xs' : List AV} {d : Option Nat} {K : St → Prop} (h : σ = σ') (h1 : fv = fv') (h2 : xs = xs') : ECall P σ fv xs d K = ECall P σ' fv' xs' d K := by rw [h, h1, h2]
@[congr] theorem EGCall_congr {σ σ' : St} {β β' : Bool} {fv fv' : AV} {xs xs' : List AV} {d : Option Nat} {K : St → Prop} (h : σ = σ') (h0 : β = β') (h1 : fv = fv') (h2 : xs = xs') : GCall P σ β fv xs d K = GCall P σ' β' fv' xs' d K := by rw [h, h0, h1, h2]
@[simp] theorem isCall_call (f : SArg) (xs : List SArg) : (SOp.call f xs).isCall = true := rfl
@[simp] theorem gb_b (b want : Bool) : gb (.c (.v (.bool b))) want = some (b == want) := rfl
@[simp] theorem gb_gd (b b' want : Bool) : gb (.gd b' (.c (.v (.bool b)))) want = some (b' && (b == want)) := rfl
@[simp] theorem gb_tup (want : Bool) : gb (.tup []) want = some false := rfl
@[congr] theorem WCall_congr {so : SO} {σ σ' : St} {K : St → Prop} (h : σ = σ') : WCall P base so σ K = WCall P base so σ' K := by rw [h]

/-! ### the future is not looked into -/
@[congr] theorem W_congr {sc : SCode} {σ σ' : St} {Q : SEx → St → Prop} (h : σ = σ') : W P base sc σ Q = W P base sc σ' Q := by rw [h]
@[congr] theorem WOps_congr {l : List SO} {σ σ' : St} {K : St → Prop} (h : σ = σ') : WOps P base l σ K = WOps P base l σ' K := by rw [h]
@[congr] theorem W1_congr {so : SO} {σ σ' : St} {K : St → Prop} (h : σ = σ') : W1 P base so σ K = W1 P base so σ' K := by rw [h]
@[congr] theorem WE_congr {o o' : Option Eff} {c c' : Prop} {K : Eff → Prop} (h : o = o') (h2 : c = c') : WE o c K = WE o' c' K := by rw [h, h2]
@[congr] theorem WG_congr {o o' : Option Eff} {c c' : Prop} {β β' : Bool} {σ σ' : St} {d : Option Nat} {K : St → Prop} (h : o = o') (h2 : c = c') (h3 : β = β') (h4 : σ = σ') : WG o c β σ d K = WG o' c' β' σ' d K := by rw [h, h2, h3, h4]
@[congr] theorem WD_congr {anc : List Nat} {i : Nat} {l : List SO} {σ σ' : St} {tr : List TE} {K : St → Prop} (h : σ = σ') : WD P base anc i l σ tr K = WD P base anc i l σ' tr K := by rw [h]

end Go.Abs
