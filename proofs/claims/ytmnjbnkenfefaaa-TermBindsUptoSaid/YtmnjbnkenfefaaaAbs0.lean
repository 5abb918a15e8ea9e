/- THIS TEXT PROVES A PART OF A CALCULUS THAT TELLS WHAT A LOADED GO FUNCTION DOES WITHOUT NAMING MEMORY: each rule is proved against the machine, for every program and every world; its conditions stand in each theorem. -/
import Derived.Control
import Derived.Calls
import Derived.Orders
import Derived.Below
import Derived.Deep.LoopGhost
set_option linter.unusedVariables false
set_option linter.unusedSimpArgs false
namespace Go.Abs

/-- A value of one cell, as it is told: a scalar, a slice that is read, an address into an object, .. -/
inductive Cell where
  | v (x : Value)
  | sl (sz bs : Nat) (es : List (List Cell))
  | ref (k t off : Nat)
  | own (k t : Nat)
  | cap (sz bs : Nat) (es : List (List Cell))
  | elp (cs : List Cell) (j : Nat)
  | elw (k t sz i j : Nat)
  | clo (f : Nat) (ks1 ks2 : List (Nat × Nat))
  | junk
  deriving Inhabited

inductive AV where
  | c (x : Cell)
  | agg (cs : List Cell)
  | tup (vs : List AV)
  | gd (b : Bool) (x : AV)
  deriving Inhabited

inductive Obj where
  | box (ty : Nat) (cs : List Cell)
  | row (ty sz bs : Nat) (es : List (List Cell))
  | mrow (ty sz bs : Nat) (es : List (List Cell))
  deriving Inhabited

/-- What lies where: which cells never change again, the block of each object, the slice of each row. -/
structure Gh where
  st : Nat → Nat → Prop
  blk : Nat → Nat
  rv : Nat → Value
  tg : Nat → Nat

def All2 {α β : Type} (R : α → β → Prop) : List α → List β → Prop
  | [], [] => True
  | a :: as, b :: bs => R a b ∧ All2 R as bs
  | _, _ => False

/-- A cell is there, and stays as it is. -/
def Lies (g : Gh) (w : World) (a : Addr) (x : Value) : Prop := g.st a.block a.off ∧ w.cell? a = some x

def room : Nat := 140737488355328

/-- A datum in memory that stays as it is. -/
inductive RD (g : Gh) (w : World) : Cell → Value → Prop where
  | v (x : Value) (h : x.oneCell' = true) : RD g w (.v x) x
  | sl (sz bs : Nat) (es : List (List Cell)) (a : Option Addr) (c : Nat) (vs : Nat → Nat → Value) (hc : es.length ≤ c) (hb : es.length * bs ≤ room)
      (hs : ∀ l, l ∈ es → l.length = sz)
      (hl : ∀ i j l d, es[i]? = some l → l[j]? = some d → ∃ ad, a = some ad ∧ Lies g w (ad.add (i * sz + j)) (vs i j))
      (hd : ∀ i j l d, es[i]? = some l → l[j]? = some d → RD g w d (vs i j)) :
      RD g w (.sl sz bs es) (.slice a es.length c)

def ptr (g : Gh) (k off : Nat) : Value := .pointer (some ⟨g.blk k, off, none⟩)

/-- An address that a closure holds. -/
def IsRef (g : Gh) (k : Nat × Nat) (y : Value) : Prop := y.oneCell' = true ∧ k.2 ≤ g.tg k.1 ∧ (k.2 = g.tg k.1 → y = ptr g k.1 0)

/-- A cell and its value. -/
def RC (g : Gh) (w : World) : Cell → Value → Prop
  | .v x, y => RD g w (.v x) y
  | .sl sz bs es, y => RD g w (.sl sz bs es) y
  | .cap sz bs es, y => RD g w (.sl sz bs es) y ∧ ∃ a, y = .slice a es.length es.length
  | .ref k t off, y => y.oneCell' = true ∧ t ≤ g.tg k ∧ (t = g.tg k → y = ptr g k off)
  | .own k t, y => y.oneCell' = true ∧ t ≤ g.tg k ∧ (t = g.tg k → y = g.rv k ∧ ∃ a n c, y = .slice a n c)
  | .elp cs j, y => ∃ ad, y = .pointer (some ad) ∧ ∀ i d, cs[j + i]? = some d → ∃ x, Lies g w (ad.add i) x ∧ RD g w d x
  | .elw k t sz i j, y => y.oneCell' = true ∧ t ≤ g.tg k ∧ (t = g.tg k → y = ptr g k (i * sz + j))
  | .clo f k1 k2, y => ∃ v1 v2, y = .func (.func f) v1 v2 ∧ All2 (IsRef g) k1 v1.toList ∧ All2 (IsRef g) k2 v2.toList
  | .junk, y => y.oneCell' = true

def RV1 (g : Gh) (w : World) : AV → Value → Prop
  | .c x, y => x ≠ .junk → RC g w x y
  | .agg cs, y => ∃ vs, y = .agg vs ∧ All2 (RC g w) cs vs.toList
  | .tup _, _ => False
  | .gd _ _, _ => False

def RV2 (g : Gh) (w : World) : AV → Value → Prop
  | .tup l, y => ∃ vs, y = .tuple vs ∧ All2 (RV1 g w) l vs.toList
  | .c x, y => RV1 g w (.c x) y
  | .agg cs, y => RV1 g w (.agg cs) y
  | .gd _ _, _ => False

def RV (g : Gh) (w : World) : AV → Value → Prop
  | .gd b x, y => if b then RV2 g w x y else y = undef
  | .tup l, y => RV2 g w (.tup l) y
  | .c x, y => RV2 g w (.c x) y
  | .agg cs, y => RV2 g w (.agg cs) y

/-! ### keys -/
def Cell.keys : Cell → List Nat
  | .ref k _ _ => [k]
  | .own k _ => [k]
  | .elw k _ _ _ _ => [k]
  | .clo _ a b => a.map (·.1) ++ b.map (·.1)
  | _ => []
def keysCs (l : List Cell) : List Nat := l.flatMap Cell.keys
def AV.keys1 : AV → List Nat
  | .c x => x.keys
  | .agg cs => keysCs cs
  | _ => []
def AV.keys2 : AV → List Nat
  | .tup l => l.flatMap AV.keys1
  | x => x.keys1
def AV.keys : AV → List Nat
  | .gd _ x => x.keys2
  | x => x.keys2
def Obj.keys : Obj → List Nat
  | .box _ cs => keysCs cs
  | _ => []

/-! ### what stays -/
structure Kp (g : Gh) (w : World) (g' : Gh) (w' : World) : Prop where
  keep : ∀ a : Addr, g.st a.block a.off → g'.st a.block a.off ∧ w'.cell? a = w.cell? a

theorem Kp.refl (g : Gh) (w : World) : Kp g w g w := ⟨fun _ h => ⟨h, rfl⟩⟩
theorem Kp.trans {g g1 g2 : Gh} {w w1 w2 : World} (h : Kp g w g1 w1) (k : Kp g1 w1 g2 w2) : Kp g w g2 w2 :=
  ⟨fun a ha => ⟨(k.keep a (h.keep a ha).1).1, (k.keep a (h.keep a ha).1).2.trans (h.keep a ha).2⟩⟩
theorem Kp.lies {g g' : Gh} {w w' : World} (h : Kp g w g' w') {a : Addr} {x : Value} (l : Lies g w a x) : Lies g' w' a x :=
  ⟨(h.keep a l.1).1, (h.keep a l.1).2.trans l.2⟩

theorem RD.mono {g g' : Gh} {w w' : World} (h : Kp g w g' w') {c : Cell} {y : Value} (r : RD g w c y) : RD g' w' c y := by
  induction r with
  | v x hx => exact .v x hx
  | sl sz bs es a c vs hc hb hs hl _ ih =>
    refine .sl sz bs es a c vs hc hb hs (fun i j l d h1 h2 => ?_) ih
    obtain ⟨ad, e, hh⟩ := hl i j l d h1 h2
    exact ⟨ad, e, h.lies hh⟩

theorem All2.imp {α β : Type} {R S : α → β → Prop} : ∀ {l : List α} {m : List β}, (∀ a, a ∈ l → ∀ b, R a b → S a b) → All2 R l m → All2 S l m
  | [], [], _, _ => trivial
  | a :: as, b :: bs, h, r => ⟨h a (by simp) b r.1, All2.imp (fun x hx => h x (by simp [hx])) r.2⟩
  | [], _ :: _, _, r => r.elim
  | _ :: _, [], _, r => r.elim

theorem All2.length {α β : Type} {R : α → β → Prop} : ∀ {l : List α} {m : List β}, All2 R l m → l.length = m.length
  | [], [], _ => rfl
  | _ :: _, _ :: _, r => by simp [All2.length r.2]
  | [], _ :: _, r => r.elim
  | _ :: _, [], r => r.elim

theorem All2.get {α β : Type} {R : α → β → Prop} : ∀ {l : List α} {m : List β}, All2 R l m → ∀ (i : Nat) a, l[i]? = some a → ∃ b, m[i]? = some b ∧ R a b
  | [], [], _, i, a, h => by simp at h
  | a :: as, b :: bs, r, 0, x, h => by simp at h; subst h; exact ⟨b, by simp, r.1⟩
  | a :: as, b :: bs, r, i + 1, x, h => by simpa using All2.get r.2 i x (by simpa using h)
  | [], _ :: _, r, _, _, _ => r.elim
  | _ :: _, [], r, _, _, _ => r.elim

theorem All2.mk {α β : Type} {R : α → β → Prop} : ∀ {l : List α} {m : List β}, l.length = m.length → (∀ (i : Nat) a b, l[i]? = some a → m[i]? = some b → R a b) → All2 R l m
  | [], [], _, _ => trivial
  | a :: as, b :: bs, hl, h => ⟨h 0 a b rfl rfl, All2.mk (by simpa using hl) fun i x y hx hy => h (i + 1) x y (by simpa using hx) (by simpa using hy)⟩
  | [], _ :: _, hl, _ => by simp at hl
  | _ :: _, [], hl, _ => by simp at hl

theorem All2.set {α β : Type} {R : α → β → Prop} {l : List α} {m : List β} (h : All2 R l m) (i : Nat) {a : α} {b : β} (r : R a b) : All2 R (l.set i a) (m.set i b) := by
  refine All2.mk (by simp [h.length]) fun j x y hx hy => ?_
  rw [List.getElem?_set] at hx hy
  by_cases e : i = j
  · rw [if_pos e] at hx hy
    split at hx <;> split at hy <;> simp_all
  · rw [if_neg e] at hx hy
    obtain ⟨b', hb, hr⟩ := h.get j x hx
    rw [hb] at hy; cases hy; exact hr

theorem All2.append {α β : Type} {R : α → β → Prop} : ∀ {l : List α} {m : List β} {l' : List α} {m' : List β}, All2 R l m → All2 R l' m' → All2 R (l ++ l') (m ++ m')
  | [], [], _, _, _, h => h
  | _ :: _, _ :: _, _, _, r, h => ⟨r.1, All2.append r.2 h⟩
  | [], _ :: _, _, _, r, _ => r.elim
  | _ :: _, [], _, _, r, _ => r.elim

theorem All2.drop {α β : Type} {R : α → β → Prop} {l : List α} {m : List β} (h : All2 R l m) (n : Nat) : All2 R (l.drop n) (m.drop n) := by
  refine All2.mk (by simp [h.length]) fun i a b ha hb => ?_
  rw [List.getElem?_drop] at ha hb
  obtain ⟨b', e, r⟩ := h.get _ _ ha
  rw [e] at hb; cases hb; exact r
theorem All2.take {α β : Type} {R : α → β → Prop} {l : List α} {m : List β} (h : All2 R l m) (n : Nat) : All2 R (l.take n) (m.take n) := by
  refine All2.mk (by simp [h.length]) fun i a b ha hb => ?_
  rw [List.getElem?_take] at ha hb
  split at ha
  · rename_i hi
    rw [if_pos hi] at hb
    obtain ⟨b', e, r⟩ := h.get _ _ ha
    rw [e] at hb; cases hb; exact r
  · simp at ha

/-- Each object is what it was, or has been made anew. -/
structure Gh.Le (g g' : Gh) : Prop where
  le : ∀ k, g.tg k < g'.tg k ∨ (g'.tg k = g.tg k ∧ g'.blk k = g.blk k ∧ g'.rv k = g.rv k)
theorem Gh.Le.refl (g : Gh) : g.Le g := ⟨fun _ => .inr ⟨rfl, rfl, rfl⟩⟩
theorem Gh.Le.trans {a b c : Gh} (h : a.Le b) (k : b.Le c) : a.Le c := ⟨fun x => by
  rcases h.le x with h1 | ⟨h1, h2, h3⟩ <;> rcases k.le x with k1 | ⟨k1, k2, k3⟩
  · exact .inl (Nat.lt_trans h1 k1)
  · exact .inl (by omega)
  · exact .inl (by omega)
  · exact .inr ⟨k1.trans h1, k2.trans h2, k3.trans h3⟩⟩

theorem Gh.Le.ref {g g' : Gh} (a : g.Le g') {k t off : Nat} {y : Value} (r : y.oneCell' = true ∧ t ≤ g.tg k ∧ (t = g.tg k → y = ptr g k off)) : y.oneCell' = true ∧ t ≤ g'.tg k ∧ (t = g'.tg k → y = ptr g' k off) := by
  rcases a.le k with h | ⟨h1, h2, _⟩
  · exact ⟨r.1, by omega, fun e => by omega⟩
  · exact ⟨r.1, by omega, fun e => by rw [r.2.2 (by omega)]; simp [ptr, h2]⟩
theorem IsRef.mono {g g' : Gh} (a : g.Le g') {k : Nat × Nat} {y : Value} (r : IsRef g k y) : IsRef g' k y := a.ref r

theorem RC.mono {g g' : Gh} {w w' : World} (h : Kp g w g' w') (a : g.Le g') {c : Cell} {y : Value} (r : RC g w c y) : RC g' w' c y := by
  cases c with
  | v x => exact RD.mono h r
  | sl sz bs es => exact RD.mono h r
  | cap sz bs es => exact ⟨RD.mono h r.1, r.2⟩
  | ref k t off => exact a.ref r
  | own k t =>
    obtain ⟨r0, r1, r2⟩ := r
    rcases a.le k with h | ⟨h1, _, h3⟩
    · exact ⟨r0, by omega, fun e => by omega⟩
    · exact ⟨r0, by omega, fun e => by rw [h3]; exact r2 (by omega)⟩
  | elp cs j =>
    obtain ⟨ad, e, hh⟩ := r
    refine ⟨ad, e, fun i d hd => ?_⟩
    obtain ⟨x, h1, h2⟩ := hh i d hd
    exact ⟨x, h.lies h1, h2.mono h⟩
  | elw k t sz i j => exact a.ref r
  | clo f k1 k2 =>
    obtain ⟨v1, v2, e, r1, r2⟩ := r
    exact ⟨v1, v2, e, r1.imp fun _ _ _ h => h.mono a, r2.imp fun _ _ _ h => h.mono a⟩
  | junk => exact r

theorem RC.monos {g g' : Gh} {w w' : World} (h : Kp g w g' w') (a : g.Le g') {cs : List Cell} {ys : List Value} (r : All2 (RC g w) cs ys) : All2 (RC g' w') cs ys :=
  r.imp fun _ _ _ hy => hy.mono h a

theorem RV1.mono {g g' : Gh} {w w' : World} (h : Kp g w g' w') (a : g.Le g') {x : AV} {y : Value} (r : RV1 g w x y) : RV1 g' w' x y := by
  cases x with
  | c x => exact fun hx => RC.mono h a (r hx)
  | agg cs =>
    obtain ⟨vs, e, hh⟩ := r
    exact ⟨vs, e, RC.monos h a hh⟩
  | tup l => exact r.elim
  | gd b x => exact r.elim

theorem RV2.mono {g g' : Gh} {w w' : World} (h : Kp g w g' w') (a : g.Le g') {x : AV} {y : Value} (r : RV2 g w x y) : RV2 g' w' x y := by
  cases x with
  | c x => exact RV1.mono (x := .c x) h a r
  | agg cs => exact RV1.mono (x := .agg cs) h a r
  | tup l =>
    obtain ⟨vs, e, hh⟩ := r
    exact ⟨vs, e, hh.imp fun _ _ _ hy => hy.mono h a⟩
  | gd b x => exact r.elim

theorem RV.mono {g g' : Gh} {w w' : World} (h : Kp g w g' w') (a : g.Le g') {x : AV} {y : Value} (r : RV g w x y) : RV g' w' x y := by
  cases x with
  | c x => exact RV2.mono (x := .c x) h a r
  | agg cs => exact RV2.mono (x := .agg cs) h a r
  | tup l => exact RV2.mono (x := .tup l) h a r
  | gd b x =>
    simp only [RV] at r ⊢
    split
    · rename_i hb; rw [if_pos hb] at r; exact RV2.mono h a r
    · rename_i hb; rw [if_neg hb] at r; exact r

end Go.Abs
