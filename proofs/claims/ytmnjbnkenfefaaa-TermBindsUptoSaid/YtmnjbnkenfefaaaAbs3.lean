/- THIS TEXT PROVES A PART OF A CALCULUS THAT TELLS WHAT A LOADED GO FUNCTION DOES WITHOUT NAMING MEMORY: each rule is proved against the machine, for every program and every world; its conditions stand in each theorem. -/
import Derived.Test.YtmnjbnkenfefaaaAbs2
set_option linter.unusedVariables false
set_option linter.unusedSimpArgs false
namespace Go.Abs

/-! ### what an operation comes to -/
def un : AV → AV
  | .gd _ x => x
  | x => x

/-- A row that is owned, or is as long as its capacity, is read as any other. -/
def toD (σ : St) : Cell → Cell
  | .own k t => if t = σ.tg k then match σ.ob k with
      | some (.row _ sz bs es) => .sl sz bs es
      | _ => .own k t
    else .own k t
  | .cap sz bs es => .sl sz bs es
  | c => c
def Cell.plain : Cell → Cell
  | .cap sz bs es => .sl sz bs es
  | c => c
def toD1 (σ : St) : AV → AV
  | .c x => .c (toD σ x)
  | .agg cs => .agg (cs.map (toD σ))
  | x => x
def Cell.isD : Cell → Bool
  | .v _ => true
  | .sl .. => true
  | _ => false

def cellsOf : AV → Option (List Cell)
  | .c .junk => none
  | .c x => some [x]
  | .agg cs => some cs
  | _ => none

/-- A slice that is read: its elements. -/
def elems (σ : St) : AV → Option (Nat × Nat × List (List Cell))
  | .c (.sl sz bs es) => some (sz, bs, es)
  | .c (.cap sz bs es) => some (sz, bs, es)
  | .c (.own k t) => if t = σ.tg k then match σ.ob k with
      | some (.row _ sz bs es) => some (sz, bs, es)
      | _ => none
    else none
  | _ => none

def putC (cs : List Cell) (off : Nat) (xs : List Cell) : List Cell := cs.take off ++ xs ++ cs.drop (off + xs.length)

def fillC : List Cell → List (Nat × List Cell) → List Cell
  | cs, [] => cs
  | cs, (off, xs) :: r => fillC (putC cs off xs) r

def pickv (t : Bool) : AV → AV → AV
  | .c (.v (.bool p)), .c (.v (.bool q)) => .c (.v (.bool (bif t then p else q)))
  | x, y => if t then x else y

def binV (op : BinOp) : Value → Value → Option Value
  | .int k a, .int k' b =>
    if k = k' then
      match op with
      | .add => some (.int k (k.wrap (a + b)))
      | .sub => some (.int k (k.wrap (a - b)))
      | .mul => some (.int k (k.wrap (a * b)))
      | .quo => some (.int k (k.wrap (a.tdiv b)))
      | .rem => some (.int k (a.tmod b))
      | .eql => some (.bool (a == b))
      | .neq => some (.bool (a != b))
      | .lss => some (.bool (a < b))
      | .leq => some (.bool (a ≤ b))
      | .gtr => some (.bool (a > b))
      | .geq => some (.bool (a ≥ b))
      | _ => none
    else none
  | _, _ => none

/-- max, min: of two, from the left -/
def best2 (mx : Bool) (a b : Int) : Int := if mx then (if b > a then b else a) else (if b < a then b else a)
def bestL (mx : Bool) (k : IntKind) : Int → List AV → Option Int
  | a, [] => some a
  | a, x :: r => match un x with
    | .c (.v (.int k' b)) => if k = k' then bestL mx k (best2 mx a b) r else none
    | _ => none

def refKey : AV → Option (Nat × Nat)
  | .c (.ref k t 0) => some (k, t)
  | _ => none
def refKeys : List AV → Option (List (Nat × Nat))
  | [] => some []
  | x :: r => match refKey (un x), refKeys r with
    | some k, some l => some (k :: l)
    | _, _ => none

def litEs (σ : St) : List AV → Option (List (List Cell))
  | [] => some []
  | x :: r => match cellsOf (un x), litEs σ r with
    | some cs, some l => some (cs.map (toD σ) :: l)
    | _, _ => none

def partCs : (SArg → AV) → List (Nat × Nat × Nat × SArg) → Option (List (Nat × List Cell))
  | _, [] => some []
  | ρ, (_, off, _, x) :: r => match cellsOf (un (ρ x)), partCs ρ r with
    | some cs, some l => some ((off, cs) :: l)
    | _, _ => none

def Eff.pure (x : AV) : Eff := ⟨x, [], [], []⟩
def Eff.look (x : AV) (l : List Nat) : Eff := ⟨x, [], [], l⟩

def loadAt (σ : St) (one : Bool) (n : Nat) : AV → Option Eff
  | .c (.ref k t off) => if t = σ.tg k then match σ.ob k with
      | some (.box _ cs) => if one then match cs[off]? with
          | some c => some (.look (.c c) [k])
          | none => none
        else if off + n ≤ cs.length then some (.look (.agg ((cs.drop off).take n)) [k]) else none
      | _ => none
    else none
  | .c (.elp cs j) => if one then match cs[j]? with
        | some c => some (.pure (.c c))
        | none => none
      else if j + n ≤ cs.length then some (.pure (.agg ((cs.drop j).take n))) else none
  | .c (.elw k t sz i j) => if t = σ.tg k then match σ.ob k with
      | some (.mrow _ sz' _ es) => if sz = sz' then
          match es[i]? with
          | some cs => if one then match cs[j]? with
              | some c => some (.look (.c c) [k])
              | none => none
            else if j + n ≤ cs.length then some (.look (.agg ((cs.drop j).take n)) [k]) else none
          | none => none
        else none
      | _ => none
    else none
  | _ => none

def storeAt (σ : St) (n : Nat) (xs : List Cell) : AV → Option Eff
  | .c (.ref k t off) => if t = σ.tg k then match σ.ob k with
      | some (.box ty cs) => if xs.length = n ∧ off + n ≤ cs.length then some ⟨.tup [], [], [(k, .box ty (putC cs off xs))], k :: keysCs xs⟩ else none
      | _ => none
    else none
  | .c (.elw k t sz i j) => if t = σ.tg k then match σ.ob k with
      | some (.mrow ty sz' bs es) => if sz = sz' ∧ xs.length = n ∧ (xs.map (toD σ)).all Cell.isD = true then
          match es[i]? with
          | some cs => if j + n ≤ cs.length then some ⟨.tup [], [], [(k, .mrow ty sz bs (es.set i (putC cs j (xs.map (toD σ)))))], k :: keysCs xs⟩ else none
          | none => none
        else none
      | _ => none
    else none
  | _ => none

def intOf? : AV → Option Int
  | .c (.v (.int .i64 n)) => some n
  | _ => none

/-- The keys that a slice is read by. -/
def AV.rk : AV → List Nat := AV.keys1

def ev1 (key : Nat) (ρ : SArg → AV) (σ : St) : SOp → Option Eff
  | .mv x => some (.pure (un (ρ x)))
  | .pick c a b => match un (ρ c) with
    | .c (.v (.bool t)) => some (.pure (pickv t (un (ρ a)) (un (ρ b))))
    | _ => none
  | .box ty x => match cellsOf (un (ρ x)) with
    | some cs => some ⟨.c (.ref key (σ.tg key + 1) 0), [key], [(key, .box ty cs)], keysCs cs⟩
    | none => none
  | .alloc ty zs => some ⟨.c (.ref key (σ.tg key + 1) 0), [key], [(key, .box ty zs)], []⟩
  | .build _ zs ps => match partCs ρ ps with
    | some l => some (.pure (.agg (fillC zs l)))
    | none => none
  | .lit _ sz bs xs => match litEs σ (xs.map ρ) with
    | some es => some (.look (.c (.cap sz bs es)) (xs.flatMap fun x => (un (ρ x)).keys1))
    | none => none
  | .ld1 _ x => loadAt σ true 0 (un (ρ x))
  | .ldn _ n x => loadAt σ false n (un (ρ x))
  | .st1 _ x v => match cellsOf (un (ρ v)) with
    | some cs => storeAt σ 1 cs (un (ρ x))
    | none => none
  | .stn _ n x v => match cellsOf (un (ρ v)) with
    | some cs => storeAt σ n cs (un (ρ x))
    | none => none
  | .nilc x => match un (ρ x) with
    | .c (.ref k t off) => if t = σ.tg k then some (.look (.c (.ref k t off)) [k]) else none
    | .c (.elp cs j) => some (.pure (.c (.elp cs j)))
    | _ => none
  | .beq neg _ x y => match un (ρ x), un (ρ y) with
    | .c (.v (.bool a)), .c (.v (.bool b)) => some (.pure (.c (.v (.bool (if neg then a != b else a == b)))))
    | _, _ => none
  | .bin op x y => match un (ρ x), un (ρ y) with
    | .c (.v a), .c (.v b) => match binV op a b with
      | some v => some (.pure (.c (.v v)))
      | none => none
    | _, _ => none
  | .not x => match un (ρ x) with
    | .c (.v (.bool b)) => some (.pure (.c (.v (.bool (!b)))))
    | _ => none
  | .neg x => match un (ρ x) with
    | .c (.v (.int k n)) => some (.pure (.c (.v (.int k (k.wrap (0 - n))))))
    | _ => none
  | .conv _ _ k x => match un (ρ x) with
    | .c (.v (.int _ n)) => some (.pure (.c (.v (.int k (k.wrap n)))))
    | _ => none
  | .mkfn f xs ys => match refKeys (xs.map ρ), refKeys (ys.map ρ) with
    | some k1, some k2 => some (.pure (.c (.clo f k1 k2)))
    | _, _ => none
  | .mk ty sz bs zs n => match un (ρ n) with
    | .c (.v (.int .i64 m)) => some ⟨.c (.own key (σ.tg key + 1)), [key], [(key, .mrow ty sz bs (List.replicate m.toNat (zs.map Cell.plain)))], []⟩
    | _ => none
  | .slc _ sz bs x lo hi mx => match elems σ (un (ρ x)) with
    | some (_, _, es) =>
      let l := match lo with | some y => intOf? (un (ρ y)) | none => some 0
      let h := match hi with | some y => intOf? (un (ρ y)) | none => some (es.length : Int)
      match l, h with
      | some l, some h => match mx with
        | none => some (.look (.c (.sl sz bs ((es.take h.toNat).drop l.toNat))) (un (ρ x)).keys1)
        | some y => match intOf? (un (ρ y)) with
          | some _ => some (.look (.c (.cap sz bs ((es.take h.toNat).drop l.toNat))) (un (ρ x)).keys1)
          | none => none
      | _, _ => none
    | none => none
  | .fad _ _ off x => match un (ρ x) with
    | .c (.ref k t o) => if t = σ.tg k then some (.look (.c (.ref k t (o + off))) [k]) else none
    | .c (.elp cs j) => some (.pure (.c (.elp cs (j + off))))
    | .c (.elw k t sz i j) => if t = σ.tg k then some (.look (.c (.elw k t sz i (j + off))) [k]) else none
    | _ => none
  | .fld1 _ _ off x => match un (ρ x) with
    | .agg cs => match cs[off]? with
      | some c => some (.pure (.c c))
      | none => none
    | _ => none
  | .fldn _ _ off n x => match un (ρ x) with
    | .agg cs => if off + n ≤ cs.length then some (.pure (.agg ((cs.drop off).take n))) else none
    | _ => none
  | .iad _ sz x i => match intOf? (un (ρ i)) with
    | some n => match un (ρ x) with
      | .c (.own k t) => if t = σ.tg k then match σ.ob k with
          | some (.mrow _ sz' _ _) => if sz = sz' then some (.look (.c (.elw k t sz n.toNat 0)) [k]) else none
          | some (.row _ sz' _ es) => if sz = sz' then some (.look (.c (.elp (es.getD n.toNat []) 0)) [k]) else none
          | _ => none
        else none
      | .c (.sl sz' _ es) => if sz = sz' ∨ es = [] then some (.pure (.c (.elp (es.getD n.toNat []) 0))) else none
      | .c (.cap sz' _ es) => if sz = sz' ∨ es = [] then some (.pure (.c (.elp (es.getD n.toNat []) 0))) else none
      | _ => none
    | none => none
  | .ext x i => match un (ρ x) with
    | .tup l => match l[i]? with
      | some x => some (.pure x)
      | none => none
    | _ => none
  | .len _ x => match un (ρ x) with
    | .c (.own k t) => if t = σ.tg k then match σ.ob k with
        | some (.mrow _ _ _ es) => some (.look (.c (.v (.int .i64 es.length))) [k])
        | some (.row _ _ _ es) => some (.look (.c (.v (.int .i64 es.length))) [k])
        | _ => none
      else none
    | .c (.sl _ _ es) => some (.pure (.c (.v (.int .i64 es.length))))
    | .c (.cap _ _ es) => some (.pure (.c (.v (.int .i64 es.length))))
    | _ => none
  | .app ty sz bs x y => match elems σ (un (ρ y)) with
    | some (_, _, ys) => match un (ρ x) with
      | .c (.cap _ _ es) => some ⟨.c (.own key (σ.tg key + 1)), [key], [(key, .row ty sz bs (es ++ ys))], (un (ρ y)).keys1⟩
      | .c (.own k t) => if t = σ.tg k then match σ.ob k with
          | some (.row ty' _ _ es) => if ty' = ty then some ⟨.c (.own key (σ.tg key + 1)), [key, k], [(key, .row ty sz bs (es ++ ys))], k :: (un (ρ y)).keys1⟩ else none
          | some (.mrow ty' _ _ es) => if ty' = ty then some ⟨.c (.own key (σ.tg key + 1)), [key, k], [(key, .row ty sz bs (es ++ ys))], k :: (un (ρ y)).keys1⟩ else none
          | _ => none
        else none
      | _ => none
    | none => none
  | .best mx xs => match xs.map ρ with
    | x :: r => match un x with
      | .c (.v (.int k a)) => match bestL mx k a r with
        | some m => some (.pure (.c (.v (.int k m))))
        | none => none
      | _ => none
    | [] => none
  | .call _ _ => none

/-- An operand that is there only if a guard holds. -/
def gok (β : Bool) : AV → Prop
  | .gd b _ => β = true → b = true
  | _ => True

/-- What must hold beside. -/
def cond (β : Bool) (ρ : SArg → AV) (σ : St) : SOp → Prop
  | .mv x => gok β (ρ x)
  | .pick c a b => gok β (ρ c) ∧ (match un (ρ c) with | .c (.v (.bool t)) => gok (β && t) (ρ a) ∧ gok (β && !t) (ρ b) | _ => True)
  | .box _ x => gok β (ρ x)
  | .alloc _ _ => True
  | .build _ zs ps => (∀ p, p ∈ ps → gok β (ρ p.2.2.2)) ∧ ∀ p, p ∈ ps → ∀ cs, cellsOf (un (ρ p.2.2.2)) = some cs → cs.length = p.2.2.1 ∧ p.2.1 + p.2.2.1 ≤ zs.length
  | .lit _ sz bs xs => (∀ x, x ∈ xs → gok β (ρ x)) ∧ ∀ es, litEs σ (xs.map ρ) = some es → (∀ l, l ∈ es → l.length = sz ∧ l.all Cell.isD = true) ∧ (β = true → es.length * bs ≤ room ∧ es.length * sz ≤ 16777216)
  | .ld1 _ x => gok β (ρ x)
  | .ldn _ _ x => gok β (ρ x)
  | .st1 _ x v => gok β (ρ x) ∧ gok β (ρ v)
  | .stn _ _ x v => gok β (ρ x) ∧ gok β (ρ v)
  | .nilc x => gok β (ρ x)
  | .beq _ _ x y => gok β (ρ x) ∧ gok β (ρ y)
  | .bin op x y => gok β (ρ x) ∧ gok β (ρ y) ∧ (match op, un (ρ y) with | .quo, .c (.v (.int _ b)) => β = true → b ≠ 0 | .rem, .c (.v (.int _ b)) => β = true → b ≠ 0 | _, _ => True)
  | .not x => gok β (ρ x)
  | .neg x => gok β (ρ x)
  | .conv _ _ _ x => gok β (ρ x)
  | .mkfn _ xs ys => (∀ x, x ∈ xs → gok β (ρ x)) ∧ ∀ x, x ∈ ys → gok β (ρ x)
  | .mk _ sz bs zs n => gok β (ρ n) ∧ (match un (ρ n) with | .c (.v (.int .i64 m)) => β = true → 0 ≤ m ∧ m * bs ≤ room | _ => True)
  | .slc _ sz bs x lo hi mx => gok β (ρ x) ∧ (∀ y, lo = some y → gok β (ρ y)) ∧ (∀ y, hi = some y → gok β (ρ y)) ∧ (∀ y, mx = some y → gok β (ρ y)) ∧
      (β = true → ∀ q, elems σ (un (ρ x)) = some q → (q.1 = sz ∨ q.2.2 = []) ∧ q.2.2.length * bs ≤ room ∧
        ∀ l h : Int, (match lo with | some y => intOf? (un (ρ y)) | none => some (0 : Int)) = some l → (match hi with | some y => intOf? (un (ρ y)) | none => some (q.2.2.length : Int)) = some h →
          0 ≤ l ∧ l ≤ h ∧ h ≤ q.2.2.length ∧ ∀ y, mx = some y → intOf? (un (ρ y)) = some h)
  | .fad _ _ _ x => gok β (ρ x)
  | .fld1 _ _ _ x => gok β (ρ x)
  | .fldn _ _ _ _ x => gok β (ρ x)
  | .iad _ sz x i => gok β (ρ x) ∧ gok β (ρ i) ∧ (β = true → ∀ n, intOf? (un (ρ i)) = some n → 0 ≤ n ∧
      (match un (ρ x) with
       | .c (.own k _) => (match σ.ob k with
         | some (.mrow _ _ _ es) => n < es.length
         | some (.row _ _ _ es) => n < es.length
         | _ => True)
       | .c (.sl _ _ es) => n < es.length
       | .c (.cap _ _ es) => n < es.length
       | _ => True))
  | .ext x _ => gok β (ρ x)
  | .len _ x => gok β (ρ x)
  | .app _ sz bs x y => gok β (ρ x) ∧ gok β (ρ y) ∧ (β = true → ∀ q, elems σ (un (ρ y)) = some q → (q.1 = sz ∨ q.2.2 = []) ∧
      (match un (ρ x) with
       | .c (.cap sz' _ es) => (sz' = sz ∨ es = []) ∧ (es.length + q.2.2.length) * bs ≤ room
       | .c (.own k _) => (match σ.ob k with
         | some (.row _ sz' _ es) => sz' = sz ∧ (es.length + q.2.2.length) * bs ≤ room
         | some (.mrow _ sz' _ es) => sz' = sz ∧ (es.length + q.2.2.length) * bs ≤ room
         | _ => True)
       | _ => True))
  | .best _ xs => ∀ x, x ∈ xs → gok β (ρ x)
  | .call _ _ => True

end Go.Abs
