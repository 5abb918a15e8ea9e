/- THIS TEXT PROVES A PART OF A CALCULUS THAT TELLS WHAT A LOADED GO FUNCTION DOES WITHOUT NAMING MEMORY: each rule is proved against the machine, for every program and every world; its conditions stand in each theorem. -/
import Derived.Test.YtmnjbnkenfefaaaAbs0
set_option linter.unusedVariables false
set_option linter.unusedSimpArgs false
namespace Go.Abs

/-! ### the code, as it is told -/
inductive SArg where
  | t (n : Nat)
  | k (v : Value)
  | nil (sz bs : Nat)
  | f (n : Nat)
  deriving Inhabited

inductive SOp where
  | mv (x : SArg)
  | pick (c a b : SArg)
  | box (ty : Nat) (x : SArg)
  | alloc (ty : Nat) (zs : List Cell)
  | build (ty : Nat) (zs : List Cell) (ps : List (Nat × Nat × Nat × SArg))
  | lit (ty sz bs : Nat) (xs : List SArg)
  | ld1 (ty : Nat) (x : SArg)
  | ldn (ty n : Nat) (x : SArg)
  | st1 (ty : Nat) (x v : SArg)
  | stn (ty n : Nat) (x v : SArg)
  | nilc (x : SArg)
  | bin (op : BinOp) (x y : SArg)
  | beq (neg : Bool) (ty : Nat) (x y : SArg)
  | not (x : SArg)
  | neg (x : SArg)
  | conv (t u : Nat) (k : IntKind) (x : SArg)
  | mkfn (f : Nat) (xs ys : List SArg)
  | mk (ty sz bs : Nat) (zs : List Cell) (n : SArg)
  | slc (ty sz bs : Nat) (x : SArg) (lo hi mx : Option SArg)
  | fad (ty i off : Nat) (x : SArg)
  | fld1 (ty i off : Nat) (x : SArg)
  | fldn (ty i off n : Nat) (x : SArg)
  | iad (ty sz : Nat) (x i : SArg)
  | ext (x : SArg) (i : Nat)
  | len (ty : Nat) (x : SArg)
  | app (ty sz bs : Nat) (x y : SArg)
  | best (mx : Bool) (xs : List SArg)
  | call (f : SArg) (xs : List SArg)
  deriving Inhabited

structure SO where
  dst : Option Nat
  gd : Option (Nat × Bool)
  op : SOp
  deriving Inhabited

inductive SCode where
  | skip
  | reg (ops : List SO)
  | dreg (anc : List Nat) (ops : List SO)
  | seq (a b : SCode)
  | cond (c : SArg) (a b : SCode)
  | block (id : Nat) (a : SCode)
  | loop (a : SCode)
  | exit (id : Nat)
  | ret
  | frz (k : Nat)
  deriving Inhabited

/-! ### the state -/
structure St where
  sl : Nat → AV
  ob : Nat → Option Obj
  tg : Nat → Nat

def cv : Value → AV := fun v => .c (.v v)
def St.ev (σ : St) : SArg → AV
  | .t n => σ.sl n
  | .k v => .c (.v v)
  | .nil sz bs => .c (.cap sz bs [])
  | .f n => .c (.clo n [] [])

/-- What an operation does: its value; the keys that are made anew, or given up; the objects that are laid or turned; the keys that it looks at. -/
structure Eff where
  val : AV
  pur : List Nat
  put : List (Nat × Obj)
  rd : List Nat

def upd (f : Nat → AV) (d : Nat) (x : AV) : Nat → AV := fun k => if k = d then x else f k

def obAfter (pur : List Nat) (put : List (Nat × Obj)) (ob : Nat → Option Obj) : Nat → Option Obj := fun k =>
  match put.lookup k with
  | some o => some o
  | none => if pur.contains k then none else ob k

def St.ap (σ : St) (dst : Option Nat) (e : Eff) : St where
  sl := match dst with
    | some d => upd σ.sl d e.val
    | none => σ.sl
  ob := obAfter e.pur e.put σ.ob
  tg := fun k => if e.pur.contains k then σ.tg k + 1 else σ.tg k

/-! ### objects in memory -/
def Active (g : Gh) (k : Nat) : Obj → Prop
  | .row .. => ∃ a n c, g.rv k = .slice a n c ∧ n < c
  | _ => True

def ObOK (g : Gh) (w : World) (k : Nat) : Obj → Prop
  | .box ty cs => ∃ vs, w.heap[g.blk k]? = some (.cells vs ty (0, 0)) ∧ All2 (RC g w) cs vs.toList ∧ ∀ o, ¬ g.st (g.blk k) o
  | .row ty sz bs es => RD g w (.sl sz bs es) (g.rv k) ∧ ∀ a n c, g.rv k = .slice a n c → n < c →
      a = some ⟨g.blk k, 0, none⟩ ∧ (∃ arr, w.heap[g.blk k]? = some (.cells arr ty (0, 0)) ∧ arr.size = c * sz) ∧ ∀ o, g.st (g.blk k) o → o < n * sz
  | .mrow ty sz bs es => ∃ arr c, g.rv k = .slice (some ⟨g.blk k, 0, none⟩) es.length c ∧ es.length ≤ c ∧ w.heap[g.blk k]? = some (.cells arr ty (0, 0)) ∧ arr.size = c * sz ∧
      es.length * bs ≤ room ∧ (∀ l, l ∈ es → l.length = sz) ∧
      (∀ i j l d, es[i]? = some l → l[j]? = some d → ∃ x, arr[i * sz + j]? = some x ∧ RD g w d x) ∧ ∀ o, ¬ g.st (g.blk k) o

structure Init where
  g0 : Gh
  w0 : World
  mine : Nat → Prop

structure Rel (I : Init) (n : Nat) (σ : St) (g : Gh) (a : Act) (w : World) : Prop where
  size : a.tmps.size = n
  tags : ∀ k, g.tg k = σ.tg k
  slots : ∀ s, RV g w (σ.sl s) (a.tmps.getD s undef)
  defs : a.defers = []
  obs : ∀ k o, σ.ob k = some o → ObOK g w k o
  sep : ∀ k k' o o', σ.ob k = some o → σ.ob k' = some o' → Active g k o → Active g k' o' → g.blk k = g.blk k' → k = k'
  wok : ∀ b o, g.st b o → b < w.heap.size
  os : w.os = I.w0.os
  tape : w.tape = I.w0.tape
  out : w.output = I.w0.output
  grow : I.w0.heap.size ≤ w.heap.size
  frame : ∀ b, b < I.w0.heap.size → ¬ I.mine b → w.heap[b]? = I.w0.heap[b]? ∧ ∀ o, g.st b o ↔ I.g0.st b o
  kp : Kp I.g0 I.w0 g w
  le : I.g0.Le g
  loc : ∀ k o, σ.ob k = some o → Active g k o → I.mine (g.blk k) ∨ I.w0.heap.size ≤ g.blk k

/-! ### small facts -/
theorem RC.one {g : Gh} {w : World} {c : Cell} {y : Value} (h : RC g w c y) : y.oneCell' = true := by
  cases c with
  | v x => cases h with | v _ h => exact h
  | sl => cases h; rfl
  | cap => obtain ⟨_, a, rfl⟩ := h; rfl
  | ref => exact h.1
  | own => exact h.1
  | elp => obtain ⟨ad, rfl, _⟩ := h; rfl
  | elw => exact h.1
  | clo => obtain ⟨v1, v2, rfl, _⟩ := h; rfl
  | junk => exact h

theorem All2.map_left {α β γ : Type} {R : α → β → Prop} {S : γ → β → Prop} (f : α → γ) : ∀ {l : List α} {m : List β}, (∀ a b, R a b → S (f a) b) → All2 R l m → All2 S (l.map f) m
  | [], [], _, _ => trivial
  | _ :: _, _ :: _, h, r => ⟨h _ _ r.1, All2.map_left f h r.2⟩
  | [], _ :: _, _, r => r.elim
  | _ :: _, [], _, r => r.elim

/-- An object stays, where its block and its cells do. -/
theorem ObOK.mono {g g' : Gh} {w w' : World} {k : Nat} {o : Obj} (h : Kp g w g' w') (a : g.Le g') (hk : g'.tg k = g.tg k)
    (hb : Active g k o → w'.heap[g.blk k]? = w.heap[g.blk k]? ∧ ∀ x, g'.st (g.blk k) x → g.st (g.blk k) x) (r : ObOK g w k o) : ObOK g' w' k o := by
  have ak : g'.blk k = g.blk k ∧ g'.rv k = g.rv k := by
    rcases a.le k with h | ⟨_, h2, h3⟩
    · omega
    · exact ⟨h2, h3⟩
  cases o with
  | box ty cs =>
    obtain ⟨vs, e, hh, hs⟩ := r
    have hb := hb trivial
    refine ⟨vs, by rw [ak.1, hb.1]; exact e, RC.monos h a hh, fun x hx => ?_⟩
    rw [ak.1] at hx
    exact hs x (hb.2 x hx)
  | row ty sz bs es =>
    refine ⟨by rw [ak.2]; exact r.1.mono h, fun p n c he hn => ?_⟩
    rw [ak.2] at he
    have hb := hb ⟨p, n, c, he, hn⟩
    obtain ⟨h1, ⟨arr, h2, h3⟩, h4⟩ := r.2 p n c he hn
    rw [ak.1]
    exact ⟨h1, ⟨arr, by rw [hb.1]; exact h2, h3⟩, fun x hx => h4 x (hb.2 x hx)⟩
  | mrow ty sz bs es =>
    obtain ⟨arr, c, h1, h2, h3, h4, h5, h6, h7, h8⟩ := r
    have hb := hb trivial
    refine ⟨arr, c, by rw [ak.1, ak.2]; exact h1, h2, by rw [ak.1, hb.1]; exact h3, h4, h5, h6, fun i j l d e1 e2 => ?_, fun x hx => ?_⟩
    · obtain ⟨x, e, hx⟩ := h7 i j l d e1 e2
      exact ⟨x, e, hx.mono h⟩
    · rw [ak.1] at hx
      exact h8 x (hb.2 x hx)

end Go.Abs
