/- THIS TEXT PROVES A PART OF A CALCULUS THAT TELLS WHAT A LOADED GO FUNCTION DOES WITHOUT NAMING MEMORY: each rule is proved against the machine, for every program and every world; its conditions stand in each theorem. -/
import Derived.Test.YtmnjbnkenfefaaaAbs3
import Derived.ChangeKeysEq
import Derived.Laws.Cells
import Derived.Laws.CopyRow
set_option linter.unusedVariables false
set_option linter.unusedSimpArgs false
namespace Go.Abs

/-! ### the told code and the loaded one -/
def scEq : Value → Value → Bool
  | .int k a, .int k' b => decide (k = k') && decide (a = b)
  | .bool a, .bool b => decide (a = b)
  | .string a, .string b => decide (a.data = b.data)
  | .nilIface, .nilIface => true
  | .nilFunc, .nilFunc => true
  | _, _ => false

theorem scEq_spec {x y : Value} (h : scEq x y = true) : x = y ∧ x.oneCell' = true := by
  cases x <;> cases y <;> simp [scEq] at h
  · subst h; exact ⟨rfl, rfl⟩
  · obtain ⟨rfl, rfl⟩ := h; exact ⟨rfl, rfl⟩
  · rename_i a b
    exact ⟨by cases a; cases b; simp_all, rfl⟩
  · exact ⟨rfl, rfl⟩
  · exact ⟨rfl, rfl⟩

def nilSl : Value → Bool
  | .slice none 0 0 => true
  | _ => false
theorem nilSl_spec {v : Value} (h : nilSl v = true) : v = .slice none 0 0 := by
  unfold nilSl at h
  split at h
  · rfl
  · cases h
def okA : Operand → SArg → Bool
  | .tmp n, .t m => decide (n = m)
  | .const v, .k u => scEq v u
  | .const v, .nil _ _ => nilSl v
  | .func f, .f g => decide (f = g)
  | _, _ => false

def aggD : TypeDesc → Bool
  | .struct _ => true
  | .array _ _ => true
  | _ => false
def aggT (P : Program) (t : Nat) : Option Bool := (P.underlying t).map aggD
def szT (P : Program) (t : Nat) : Option Nat := (P.info? t).map (·.size)
def bsT (P : Program) (t : Nat) : Option Nat := (P.info? t).map (·.bytes)
def elemT (P : Program) (t : Nat) : Option Nat := match P.underlying t with
  | some (.slice e) => some e
  | _ => none
def fldT (P : Program) (t i : Nat) : Option (Nat × Nat) := match P.underlying t with
  | some (.struct fs) => (fs[i]?).map fun f => (f.offset, f.type)
  | _ => none

/-- a zero value's cells -/
def zc : Value → Cell → Bool
  | v, .v u => scEq v u
  | .slice none 0 0, .cap _ _ [] => true
  | _, _ => false
def zcs : List Value → List Cell → Bool
  | [], [] => true
  | v :: vs, c :: cs => zc v c && zcs vs cs
  | _, _ => false
def zeroOK (P : Program) (t : Nat) (zs : List Cell) : Bool := match P.info? t with
  | some i => match i.zero with
    | some z => zcs z.cells.toList zs
    | none => false
  | none => false

theorem zc_spec {g : Gh} {w : World} {v : Value} {c : Cell} (h : zc v c = true) : RC g w c v := by
  cases c with
  | v u => cases v <;> simp only [zc] at h <;> (obtain ⟨e, h1⟩ := scEq_spec h; subst e; exact .v _ h1)
  | cap sz bs es =>
    unfold zc at h
    split at h
    · rename_i e; cases e
    · rename_i e; cases e
      refine ⟨?_, none, rfl⟩
      exact .sl sz bs [] none 0 (fun _ _ => undef) (Nat.le_refl _) (by simp [room]) (by simp) (by simp) (by simp)
    · cases h
  | _ => cases v <;> simp [zc] at h

theorem zcs_spec {g : Gh} {w : World} : ∀ {vs : List Value} {cs : List Cell}, zcs vs cs = true → All2 (RC g w) cs vs
  | [], [], _ => trivial
  | v :: vs, c :: cs, h => by simp [zcs] at h; exact ⟨zc_spec h.1, zcs_spec h.2⟩
  | [], _ :: _, h => by simp [zcs] at h
  | _ :: _, [], h => by simp [zcs] at h

theorem nil_spec (g : Gh) (w : World) (sz bs : Nat) : RC g w (.cap sz bs []) (.slice none 0 0) :=
  ⟨.sl sz bs [] none 0 (fun _ _ => undef) (Nat.le_refl _) (by simp [room]) (by simp) (by simp) (by simp), none, rfl⟩

theorem okA_spec {I : Init} {n : Nat} {σ : St} {g : Gh} {a : Act} {w : World} (hR : Rel I n σ g a w) {x : Operand} {y : SArg} (h : okA x y = true) : RV g w (σ.ev y) (a.eval x) := by
  cases y with
  | t m =>
    cases x <;> simp [okA] at h
    subst h
    exact hR.slots _
  | k u =>
    cases x with
    | const v =>
      obtain ⟨e, h1⟩ := scEq_spec (x := v) (y := u) h
      subst e
      exact fun _ => .v _ h1
    | _ => simp [okA] at h
  | nil sz bs =>
    cases x with
    | const v =>
      rw [show a.eval (.const v) = v from rfl, nilSl_spec (v := v) h]
      exact fun _ => nil_spec g w sz bs
    | _ => simp [okA] at h
  | f m =>
    cases x <;> simp [okA] at h
    subst h
    exact fun _ => ⟨#[], #[], rfl, trivial, trivial⟩

theorem RV_un {g : Gh} {w : World} {x : AV} {v : Value} (h : RV g w x v) (hg : gok true x) : RV2 g w (un x) v := by
  cases x with
  | gd b x => simp only [RV, hg rfl, if_true] at h; exact h
  | _ => exact h

/-- Whatever has two parts of its reading is told by 'RV' too. -/
theorem RV_of2 {g : Gh} {w : World} {x : AV} {v : Value} (h : RV2 g w x v) : RV g w x v := by
  cases x with
  | gd b x => exact h.elim
  | _ => exact h

theorem cellsOf_spec {g : Gh} {w : World} {x : AV} {v : Value} {cs : List Cell} (h : RV2 g w x v) (hc : cellsOf x = some cs) : All2 (RC g w) cs v.cells.toList := by
  cases x with
  | c x =>
    have hx : x ≠ .junk := by intro e; subst e; simp [cellsOf] at hc
    have hcs : cs = [x] := by cases x <;> simp_all [cellsOf]
    subst hcs
    have h1 := h hx
    have ho := RC.one h1
    have : v.cells = #[v] := by cases v <;> first | rfl | simp [Value.oneCell'] at ho
    rw [this]
    exact ⟨h1, trivial⟩
  | agg l =>
    simp [cellsOf] at hc; subst hc
    obtain ⟨vs, rfl, hh⟩ := h
    exact hh
  | tup l => simp [cellsOf] at hc
  | gd b x => simp [cellsOf] at hc

theorem toD_spec {I : Init} {n : Nat} {σ : St} {g : Gh} {a : Act} {w : World} (hR : Rel I n σ g a w) {c : Cell} {v : Value} (h : RC g w c v) : RC g w (toD σ c) v := by
  cases c with
  | own k t =>
    simp only [toD]
    split
    · rename_i ht
      split
      · rename_i ty sz bs es e
        have := (hR.obs k _ e).1
        rw [← (h.2.2 (by rw [hR.tags]; exact ht)).1] at this
        exact this
      · exact h
    · exact h
  | cap sz bs es => exact h.1
  | _ => exact h

theorem isD_spec {g : Gh} {w : World} {c : Cell} {v : Value} (h : RC g w c v) (hd : c.isD = true) : RD g w c v := by
  cases c with
  | v x => exact h
  | sl sz bs es => exact h
  | _ => simp [Cell.isD] at hd

theorem elems_spec {I : Init} {n : Nat} {σ : St} {g : Gh} {a : Act} {w : World} (hR : Rel I n σ g a w) {x : AV} {v : Value} {q : Nat × Nat × List (List Cell)} (h : RV2 g w x v) (he : elems σ x = some q) :
    RD g w (.sl q.1 q.2.1 q.2.2) v := by
  cases x with
  | c x =>
    cases x with
    | sl sz bs es => simp [elems] at he; subst he; exact h (by simp)
    | cap sz bs es => simp [elems] at he; subst he; exact (h (by simp)).1
    | own k t =>
      simp only [elems] at he
      split at he
      · rename_i ht
        split at he
        · rename_i ty sz bs es e
          cases he
          have := (hR.obs k _ e).1
          rw [← ((h (by simp)).2.2 (by rw [hR.tags]; exact ht)).1] at this
          exact this
        · cases he
      · cases he
    | _ => simp [elems] at he
  | _ => simp [elems] at he

/-- What an operation is to do. -/
def Does (P : Program) (I : Init) (σ : St) (g : Gh) (a : Act) (w : World) (o : Oper) (e : Eff) : Prop :=
  ∃ w' g' v, ((execOp a.eval o).run P w = .ok (.value v) w' ∨ ((execOp a.eval o).run P w = .ok .skip w' ∧ v = undef)) ∧ Step I σ g w e.pur e.put g' w' ∧ RV2 g' w' e.val v

theorem does_quiet {P : Program} {I : Init} {n : Nat} {σ : St} {g : Gh} {a : Act} {w : World} {o : Oper} {e : Eff} (hR : Rel I n σ g a w) (hp : e.pur = []) (hq : e.put = []) {v : Value}
    (hr : (execOp a.eval o).run P w = .ok (.value v) w) (hv : RV2 g w e.val v) : Does P I σ g a w o e :=
  ⟨w, g, v, .inl hr, by rw [hp, hq]; exact Step.quiet hR.wok, hv⟩

end Go.Abs
